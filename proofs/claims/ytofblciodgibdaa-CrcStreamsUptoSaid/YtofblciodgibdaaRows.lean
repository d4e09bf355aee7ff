/-
  No cell of these rows narrows 'for every input' (looked for: loops, veiled, ifaces, maps, wideKeys, modest, calm, conditions, laid).
  DERIVED. THE GIVEN ROWS OF THIS SEAT. 13 by the template 'for every input the law returns true; each argument reads behind the call as it read before'; 0 by the template 'total and deterministic' (their statements: YtofblciodgibdaaTotals.lean).
  GIVEN WITH THE SEED: the statements are not yours to turn. If you find one false, say at which input.
  Laid BY PROGRAM, IN A SANDBOX (cutbox-rows.mjs): the forced cells as the released guide's own fill.sh prints them over the translation db06e5fd2924114c… (all of the seat's roots in one cut). By AI agents, Wed Nov 11 2026. No macro, syntax, notation, axiom, sorry.
-/
import Derived.Test.YtofblciodgibdaaChecked
import GoSem.Claim
import GoSem.ClaimJoined
import GoSem.ClaimMapViews
import Derived.JoinedTies
import Derived.KernelRfl
namespace Go.Proofs.Ytofblciodgibdaa
/- THE CELL 'sum', in the pinned program and in every row, IS THE sha256 OF THE DUMP (.gsa) THAT YtofblciodgibdaaProg.lean LOADS. Nothing in Lean hashes anything: it is a label: what it is worth is what the hold of that sum in a sandbox is worth. -/
noncomputable def Try.pinned : Pinned := { name := "ytofblciodgibdaa", sum := "db06e5fd2924114ce8d1c7a210cf758371d0fb3a2c3b9222d6ee76450a071ef9", checked := Try.checked }
namespace Rows
def none {H : Type} : Left H := { results := [], args := [] }

/-- 'cairnlaw06.CrcMores': WHATEVER THE INPUT: true; the input reads as it did. -/
def crcMoresSpec : ChangeSpec := { name := "crcMores", fn := fun _ => fun
  | [d1, d2] => { results := [.lit (.bool true)], args := [d1, d2] }
  | _ => none }
def crcMoresRow : OpenClaim := { program := "ytofblciodgibdaa", sum := "db06e5fd2924114ce8d1c7a210cf758371d0fb3a2c3b9222d6ee76450a071ef9", func := "cairn/cairnlaw06.CrcMores", spec := "crcMores", apart := false }
def CrcMoresSaid : Prop := crcMoresRow.holds Try.pinned (OpenSpec.ofChange crcMoresSpec)

/-- ITS FALSE NEIGHBOUR: 'it returns false'. Refute it at one input. -/
def crcMoresWrong : ChangeSpec := { name := "crcMores", fn := fun _ => fun
  | [d1, d2] => { results := [.lit (.bool false)], args := [d1, d2] }
  | _ => none }
def CrcMoresWrongFalsely : Prop := crcMoresRow.holds Try.pinned (OpenSpec.ofChange crcMoresWrong)

/-- 'cairnlaw06.CrcSums': WHATEVER THE INPUT: true; the input reads as it did. -/
def crcSumsSpec : ChangeSpec := { name := "crcSums", fn := fun _ => fun
  | [d] => { results := [.lit (.bool true)], args := [d] }
  | _ => none }
def crcSumsRow : OpenClaim := { program := "ytofblciodgibdaa", sum := "db06e5fd2924114ce8d1c7a210cf758371d0fb3a2c3b9222d6ee76450a071ef9", func := "cairn/cairnlaw06.CrcSums", spec := "crcSums", apart := false }
def CrcSumsSaid : Prop := crcSumsRow.holds Try.pinned (OpenSpec.ofChange crcSumsSpec)

/-- ITS FALSE NEIGHBOUR: 'it returns false'. Refute it at one input. -/
def crcSumsWrong : ChangeSpec := { name := "crcSums", fn := fun _ => fun
  | [d] => { results := [.lit (.bool false)], args := [d] }
  | _ => none }
def CrcSumsWrongFalsely : Prop := crcSumsRow.holds Try.pinned (OpenSpec.ofChange crcSumsWrong)

/-- 'cairnlaw06.CrcBlinds': WHATEVER THE INPUT: true; the input reads as it did. -/
def crcBlindsSpec : ChangeSpec := { name := "crcBlinds", fn := fun _ => fun
  | [d] => { results := [.lit (.bool true)], args := [d] }
  | _ => none }
def crcBlindsRow : OpenClaim := { program := "ytofblciodgibdaa", sum := "db06e5fd2924114ce8d1c7a210cf758371d0fb3a2c3b9222d6ee76450a071ef9", func := "cairn/cairnlaw06.CrcBlinds", spec := "crcBlinds", apart := false }
def CrcBlindsSaid : Prop := crcBlindsRow.holds Try.pinned (OpenSpec.ofChange crcBlindsSpec)

/-- ITS FALSE NEIGHBOUR: 'it returns false'. Refute it at one input. -/
def crcBlindsWrong : ChangeSpec := { name := "crcBlinds", fn := fun _ => fun
  | [d] => { results := [.lit (.bool false)], args := [d] }
  | _ => none }
def CrcBlindsWrongFalsely : Prop := crcBlindsRow.holds Try.pinned (OpenSpec.ofChange crcBlindsWrong)

/-- 'cairnlaw06.CrcLinear': WHATEVER THE INPUT: true; the input reads as it did. -/
def crcLinearSpec : ChangeSpec := { name := "crcLinear", fn := fun _ => fun
  | [d1, d2, d3] => { results := [.lit (.bool true)], args := [d1, d2, d3] }
  | _ => none }
def crcLinearRow : OpenClaim := { program := "ytofblciodgibdaa", sum := "db06e5fd2924114ce8d1c7a210cf758371d0fb3a2c3b9222d6ee76450a071ef9", func := "cairn/cairnlaw06.CrcLinear", spec := "crcLinear", apart := false }
def CrcLinearSaid : Prop := crcLinearRow.holds Try.pinned (OpenSpec.ofChange crcLinearSpec)

/-- ITS FALSE NEIGHBOUR: 'it returns false'. Refute it at one input. -/
def crcLinearWrong : ChangeSpec := { name := "crcLinear", fn := fun _ => fun
  | [d1, d2, d3] => { results := [.lit (.bool false)], args := [d1, d2, d3] }
  | _ => none }
def CrcLinearWrongFalsely : Prop := crcLinearRow.holds Try.pinned (OpenSpec.ofChange crcLinearWrong)

/-- 'cairnlaw06.CrcMultiples': WHATEVER THE INPUT: true; the input reads as it did. -/
def crcMultiplesSpec : ChangeSpec := { name := "crcMultiples", fn := fun _ => fun
  | [d1, d2, d3] => { results := [.lit (.bool true)], args := [d1, d2, d3] }
  | _ => none }
def crcMultiplesRow : OpenClaim := { program := "ytofblciodgibdaa", sum := "db06e5fd2924114ce8d1c7a210cf758371d0fb3a2c3b9222d6ee76450a071ef9", func := "cairn/cairnlaw06.CrcMultiples", spec := "crcMultiples", apart := false }
def CrcMultiplesSaid : Prop := crcMultiplesRow.holds Try.pinned (OpenSpec.ofChange crcMultiplesSpec)

/-- ITS FALSE NEIGHBOUR: 'it returns false'. Refute it at one input. -/
def crcMultiplesWrong : ChangeSpec := { name := "crcMultiples", fn := fun _ => fun
  | [d1, d2, d3] => { results := [.lit (.bool false)], args := [d1, d2, d3] }
  | _ => none }
def CrcMultiplesWrongFalsely : Prop := crcMultiplesRow.holds Try.pinned (OpenSpec.ofChange crcMultiplesWrong)

/-- 'cairnlaw06.CrcBursts': WHATEVER THE INPUT: true; the input reads as it did. -/
def crcBurstsSpec : ChangeSpec := { name := "crcBursts", fn := fun _ => fun
  | [d1, d2, d3] => { results := [.lit (.bool true)], args := [d1, d2, d3] }
  | _ => none }
def crcBurstsRow : OpenClaim := { program := "ytofblciodgibdaa", sum := "db06e5fd2924114ce8d1c7a210cf758371d0fb3a2c3b9222d6ee76450a071ef9", func := "cairn/cairnlaw06.CrcBursts", spec := "crcBursts", apart := false }
def CrcBurstsSaid : Prop := crcBurstsRow.holds Try.pinned (OpenSpec.ofChange crcBurstsSpec)

/-- ITS FALSE NEIGHBOUR: 'it returns false'. Refute it at one input. -/
def crcBurstsWrong : ChangeSpec := { name := "crcBursts", fn := fun _ => fun
  | [d1, d2, d3] => { results := [.lit (.bool false)], args := [d1, d2, d3] }
  | _ => none }
def CrcBurstsWrongFalsely : Prop := crcBurstsRow.holds Try.pinned (OpenSpec.ofChange crcBurstsWrong)

/-- 'cairnlaw06.CrcThree': WHATEVER THE INPUT: true; the input reads as it did. -/
def crcThreeSpec : ChangeSpec := { name := "crcThree", fn := fun _ => fun
  | [d1, d2] => { results := [.lit (.bool true)], args := [d1, d2] }
  | _ => none }
def crcThreeRow : OpenClaim := { program := "ytofblciodgibdaa", sum := "db06e5fd2924114ce8d1c7a210cf758371d0fb3a2c3b9222d6ee76450a071ef9", func := "cairn/cairnlaw06.CrcThree", spec := "crcThree", apart := false }
def CrcThreeSaid : Prop := crcThreeRow.holds Try.pinned (OpenSpec.ofChange crcThreeSpec)

/-- ITS FALSE NEIGHBOUR: 'it returns false'. Refute it at one input. -/
def crcThreeWrong : ChangeSpec := { name := "crcThree", fn := fun _ => fun
  | [d1, d2] => { results := [.lit (.bool false)], args := [d1, d2] }
  | _ => none }
def CrcThreeWrongFalsely : Prop := crcThreeRow.holds Try.pinned (OpenSpec.ofChange crcThreeWrong)

/-- 'cairnlaw06.CrcKept': WHATEVER THE INPUT: true; the input reads as it did. -/
def crcKeptSpec : ChangeSpec := { name := "crcKept", fn := fun _ => fun
  | [d1, d2] => { results := [.lit (.bool true)], args := [d1, d2] }
  | _ => none }
def crcKeptRow : OpenClaim := { program := "ytofblciodgibdaa", sum := "db06e5fd2924114ce8d1c7a210cf758371d0fb3a2c3b9222d6ee76450a071ef9", func := "cairn/cairnlaw06.CrcKept", spec := "crcKept", apart := false }
def CrcKeptSaid : Prop := crcKeptRow.holds Try.pinned (OpenSpec.ofChange crcKeptSpec)

/-- ITS FALSE NEIGHBOUR: 'it returns false'. Refute it at one input. -/
def crcKeptWrong : ChangeSpec := { name := "crcKept", fn := fun _ => fun
  | [d1, d2] => { results := [.lit (.bool false)], args := [d1, d2] }
  | _ => none }
def CrcKeptWrongFalsely : Prop := crcKeptRow.holds Try.pinned (OpenSpec.ofChange crcKeptWrong)

/-- 'cairnlaw06.CrcStreams': WHATEVER THE INPUT: true; the input reads as it did. -/
def crcStreamsSpec : ChangeSpec := { name := "crcStreams", fn := fun _ => fun
  | [d] => { results := [.lit (.bool true)], args := [d] }
  | _ => none }
def crcStreamsRow : OpenClaim := { program := "ytofblciodgibdaa", sum := "db06e5fd2924114ce8d1c7a210cf758371d0fb3a2c3b9222d6ee76450a071ef9", func := "cairn/cairnlaw06.CrcStreams", spec := "crcStreams", apart := false }
def CrcStreamsSaid : Prop := crcStreamsRow.holds Try.pinned (OpenSpec.ofChange crcStreamsSpec)

/-- ITS FALSE NEIGHBOUR: 'it returns false'. Refute it at one input. -/
def crcStreamsWrong : ChangeSpec := { name := "crcStreams", fn := fun _ => fun
  | [d] => { results := [.lit (.bool false)], args := [d] }
  | _ => none }
def CrcStreamsWrongFalsely : Prop := crcStreamsRow.holds Try.pinned (OpenSpec.ofChange crcStreamsWrong)

/-- 'cairnlaw06.CrcJoins': WHATEVER THE INPUT: true; the input reads as it did. -/
def crcJoinsSpec : ChangeSpec := { name := "crcJoins", fn := fun _ => fun
  | [d] => { results := [.lit (.bool true)], args := [d] }
  | _ => none }
def crcJoinsRow : OpenClaim := { program := "ytofblciodgibdaa", sum := "db06e5fd2924114ce8d1c7a210cf758371d0fb3a2c3b9222d6ee76450a071ef9", func := "cairn/cairnlaw06.CrcJoins", spec := "crcJoins", apart := false }
def CrcJoinsSaid : Prop := crcJoinsRow.holds Try.pinned (OpenSpec.ofChange crcJoinsSpec)

/-- ITS FALSE NEIGHBOUR: 'it returns false'. Refute it at one input. -/
def crcJoinsWrong : ChangeSpec := { name := "crcJoins", fn := fun _ => fun
  | [d] => { results := [.lit (.bool false)], args := [d] }
  | _ => none }
def CrcJoinsWrongFalsely : Prop := crcJoinsRow.holds Try.pinned (OpenSpec.ofChange crcJoinsWrong)

/-- 'cairnlaw06.CrcZeros': WHATEVER THE INPUT: true; the input reads as it did. -/
def crcZerosSpec : ChangeSpec := { name := "crcZeros", fn := fun _ => fun
  | [d1, d2] => { results := [.lit (.bool true)], args := [d1, d2] }
  | _ => none }
def crcZerosRow : OpenClaim := { program := "ytofblciodgibdaa", sum := "db06e5fd2924114ce8d1c7a210cf758371d0fb3a2c3b9222d6ee76450a071ef9", func := "cairn/cairnlaw06.CrcZeros", spec := "crcZeros", apart := false }
def CrcZerosSaid : Prop := crcZerosRow.holds Try.pinned (OpenSpec.ofChange crcZerosSpec)

/-- ITS FALSE NEIGHBOUR: 'it returns false'. Refute it at one input. -/
def crcZerosWrong : ChangeSpec := { name := "crcZeros", fn := fun _ => fun
  | [d1, d2] => { results := [.lit (.bool false)], args := [d1, d2] }
  | _ => none }
def CrcZerosWrongFalsely : Prop := crcZerosRow.holds Try.pinned (OpenSpec.ofChange crcZerosWrong)

/-- 'cairnlaw06.CrcPieces': WHATEVER THE INPUT: true; the input reads as it did. -/
def crcPiecesSpec : ChangeSpec := { name := "crcPieces", fn := fun _ => fun
  | [d] => { results := [.lit (.bool true)], args := [d] }
  | _ => none }
def crcPiecesRow : OpenClaim := { program := "ytofblciodgibdaa", sum := "db06e5fd2924114ce8d1c7a210cf758371d0fb3a2c3b9222d6ee76450a071ef9", func := "cairn/cairnlaw06.CrcPieces", spec := "crcPieces", apart := false }
def CrcPiecesSaid : Prop := crcPiecesRow.holds Try.pinned (OpenSpec.ofChange crcPiecesSpec)

/-- ITS FALSE NEIGHBOUR: 'it returns false'. Refute it at one input. -/
def crcPiecesWrong : ChangeSpec := { name := "crcPieces", fn := fun _ => fun
  | [d] => { results := [.lit (.bool false)], args := [d] }
  | _ => none }
def CrcPiecesWrongFalsely : Prop := crcPiecesRow.holds Try.pinned (OpenSpec.ofChange crcPiecesWrong)

/-- 'cairnlaw06.CrcKnown': WHATEVER THE INPUT: true; the input reads as it did. -/
def crcKnownSpec : ChangeSpec := { name := "crcKnown", fn := fun _ => fun
  | [] => { results := [.lit (.bool true)], args := [] }
  | _ => none }
def crcKnownRow : OpenClaim := { program := "ytofblciodgibdaa", sum := "db06e5fd2924114ce8d1c7a210cf758371d0fb3a2c3b9222d6ee76450a071ef9", func := "cairn/cairnlaw06.CrcKnown", spec := "crcKnown", apart := false }
def CrcKnownSaid : Prop := crcKnownRow.holds Try.pinned (OpenSpec.ofChange crcKnownSpec)

/-- ITS FALSE NEIGHBOUR: 'it returns false'. Refute it at one input. -/
def crcKnownWrong : ChangeSpec := { name := "crcKnown", fn := fun _ => fun
  | [] => { results := [.lit (.bool false)], args := [] }
  | _ => none }
def CrcKnownWrongFalsely : Prop := crcKnownRow.holds Try.pinned (OpenSpec.ofChange crcKnownWrong)

/- THE SECOND FORM. 'bulk': how many values and letters a reading holds, each counted each time it is reached (what is shared counts as often as it is met; a slice's spare places count too). A statement '..UptoSaid' is the law's where the arguments, and the package variables that the reading takes, are together of bulk at most 1048576: NARROWER than '..Said'. Prove '..Said' where nothing that the law and all that it calls make is longer than what came in: it says more and counts as full. Else prove '..UptoSaid'. A law counts once. -/
mutual
def uptoBulk {H : Type} : DataW H → Nat
  | .lit (.string bytes) => bytes.length + 1
  | .lit _ => 1
  | .nil => 1
  | .ptr d => uptoBulk d + 1
  | .slice elems spare => uptoBulkAll elems + uptoBulkAll spare + 1
  | .agg parts => uptoBulkAll parts + 1
  | .iface _ d => uptoBulk d + 1
  | .map entries => uptoBulkEntries entries + 1
  | .held _ => 1
def uptoBulkAll {H : Type} : List (DataW H) → Nat
  | [] => 0
  | d :: r => uptoBulk d + uptoBulkAll r
def uptoBulkEntries {H : Type} : List (Lit × DataW H) → Nat
  | [] => 0
  | x :: r => uptoBulkEntry x + uptoBulkEntries r
def uptoBulkEntry {H : Type} : Lit × DataW H → Nat
  | (.string bytes, d) => bytes.length + uptoBulk d + 1
  | (_, d) => uptoBulk d + 1
 end
def uptoSmall : (H : Type) → List (DataW H) → Bool := fun _ ds => decide (uptoBulkAll ds ≤ 1048576)
def OpenSpec.upto (s : _root_.Go.ChangeSpec) : _root_.Go.OpenSpec := { _root_.Go.OpenSpec.ofChange s with cond := some uptoSmall }

/-- 'cairnlaw06.CrcMores', WHERE WHAT IT READS IS OF BULK AT MOST 1048576: true; the input reads as it did. -/
def crcMoresUptoRow : OpenClaim := { program := "ytofblciodgibdaa", sum := "db06e5fd2924114ce8d1c7a210cf758371d0fb3a2c3b9222d6ee76450a071ef9", func := "cairn/cairnlaw06.CrcMores", spec := "crcMores", apart := false, narrowed := true }
def CrcMoresUptoSaid : Prop := crcMoresUptoRow.holds Try.pinned (OpenSpec.upto crcMoresSpec)

/-- 'cairnlaw06.CrcSums', WHERE WHAT IT READS IS OF BULK AT MOST 1048576: true; the input reads as it did. -/
def crcSumsUptoRow : OpenClaim := { program := "ytofblciodgibdaa", sum := "db06e5fd2924114ce8d1c7a210cf758371d0fb3a2c3b9222d6ee76450a071ef9", func := "cairn/cairnlaw06.CrcSums", spec := "crcSums", apart := false, narrowed := true }
def CrcSumsUptoSaid : Prop := crcSumsUptoRow.holds Try.pinned (OpenSpec.upto crcSumsSpec)

/-- 'cairnlaw06.CrcBlinds', WHERE WHAT IT READS IS OF BULK AT MOST 1048576: true; the input reads as it did. -/
def crcBlindsUptoRow : OpenClaim := { program := "ytofblciodgibdaa", sum := "db06e5fd2924114ce8d1c7a210cf758371d0fb3a2c3b9222d6ee76450a071ef9", func := "cairn/cairnlaw06.CrcBlinds", spec := "crcBlinds", apart := false, narrowed := true }
def CrcBlindsUptoSaid : Prop := crcBlindsUptoRow.holds Try.pinned (OpenSpec.upto crcBlindsSpec)

/-- 'cairnlaw06.CrcLinear', WHERE WHAT IT READS IS OF BULK AT MOST 1048576: true; the input reads as it did. -/
def crcLinearUptoRow : OpenClaim := { program := "ytofblciodgibdaa", sum := "db06e5fd2924114ce8d1c7a210cf758371d0fb3a2c3b9222d6ee76450a071ef9", func := "cairn/cairnlaw06.CrcLinear", spec := "crcLinear", apart := false, narrowed := true }
def CrcLinearUptoSaid : Prop := crcLinearUptoRow.holds Try.pinned (OpenSpec.upto crcLinearSpec)

/-- 'cairnlaw06.CrcMultiples', WHERE WHAT IT READS IS OF BULK AT MOST 1048576: true; the input reads as it did. -/
def crcMultiplesUptoRow : OpenClaim := { program := "ytofblciodgibdaa", sum := "db06e5fd2924114ce8d1c7a210cf758371d0fb3a2c3b9222d6ee76450a071ef9", func := "cairn/cairnlaw06.CrcMultiples", spec := "crcMultiples", apart := false, narrowed := true }
def CrcMultiplesUptoSaid : Prop := crcMultiplesUptoRow.holds Try.pinned (OpenSpec.upto crcMultiplesSpec)

/-- 'cairnlaw06.CrcBursts', WHERE WHAT IT READS IS OF BULK AT MOST 1048576: true; the input reads as it did. -/
def crcBurstsUptoRow : OpenClaim := { program := "ytofblciodgibdaa", sum := "db06e5fd2924114ce8d1c7a210cf758371d0fb3a2c3b9222d6ee76450a071ef9", func := "cairn/cairnlaw06.CrcBursts", spec := "crcBursts", apart := false, narrowed := true }
def CrcBurstsUptoSaid : Prop := crcBurstsUptoRow.holds Try.pinned (OpenSpec.upto crcBurstsSpec)

/-- 'cairnlaw06.CrcThree', WHERE WHAT IT READS IS OF BULK AT MOST 1048576: true; the input reads as it did. -/
def crcThreeUptoRow : OpenClaim := { program := "ytofblciodgibdaa", sum := "db06e5fd2924114ce8d1c7a210cf758371d0fb3a2c3b9222d6ee76450a071ef9", func := "cairn/cairnlaw06.CrcThree", spec := "crcThree", apart := false, narrowed := true }
def CrcThreeUptoSaid : Prop := crcThreeUptoRow.holds Try.pinned (OpenSpec.upto crcThreeSpec)

/-- 'cairnlaw06.CrcKept', WHERE WHAT IT READS IS OF BULK AT MOST 1048576: true; the input reads as it did. -/
def crcKeptUptoRow : OpenClaim := { program := "ytofblciodgibdaa", sum := "db06e5fd2924114ce8d1c7a210cf758371d0fb3a2c3b9222d6ee76450a071ef9", func := "cairn/cairnlaw06.CrcKept", spec := "crcKept", apart := false, narrowed := true }
def CrcKeptUptoSaid : Prop := crcKeptUptoRow.holds Try.pinned (OpenSpec.upto crcKeptSpec)

/-- 'cairnlaw06.CrcStreams', WHERE WHAT IT READS IS OF BULK AT MOST 1048576: true; the input reads as it did. -/
def crcStreamsUptoRow : OpenClaim := { program := "ytofblciodgibdaa", sum := "db06e5fd2924114ce8d1c7a210cf758371d0fb3a2c3b9222d6ee76450a071ef9", func := "cairn/cairnlaw06.CrcStreams", spec := "crcStreams", apart := false, narrowed := true }
def CrcStreamsUptoSaid : Prop := crcStreamsUptoRow.holds Try.pinned (OpenSpec.upto crcStreamsSpec)

/-- 'cairnlaw06.CrcJoins', WHERE WHAT IT READS IS OF BULK AT MOST 1048576: true; the input reads as it did. -/
def crcJoinsUptoRow : OpenClaim := { program := "ytofblciodgibdaa", sum := "db06e5fd2924114ce8d1c7a210cf758371d0fb3a2c3b9222d6ee76450a071ef9", func := "cairn/cairnlaw06.CrcJoins", spec := "crcJoins", apart := false, narrowed := true }
def CrcJoinsUptoSaid : Prop := crcJoinsUptoRow.holds Try.pinned (OpenSpec.upto crcJoinsSpec)

/-- 'cairnlaw06.CrcZeros', WHERE WHAT IT READS IS OF BULK AT MOST 1048576: true; the input reads as it did. -/
def crcZerosUptoRow : OpenClaim := { program := "ytofblciodgibdaa", sum := "db06e5fd2924114ce8d1c7a210cf758371d0fb3a2c3b9222d6ee76450a071ef9", func := "cairn/cairnlaw06.CrcZeros", spec := "crcZeros", apart := false, narrowed := true }
def CrcZerosUptoSaid : Prop := crcZerosUptoRow.holds Try.pinned (OpenSpec.upto crcZerosSpec)

/-- 'cairnlaw06.CrcPieces', WHERE WHAT IT READS IS OF BULK AT MOST 1048576: true; the input reads as it did. -/
def crcPiecesUptoRow : OpenClaim := { program := "ytofblciodgibdaa", sum := "db06e5fd2924114ce8d1c7a210cf758371d0fb3a2c3b9222d6ee76450a071ef9", func := "cairn/cairnlaw06.CrcPieces", spec := "crcPieces", apart := false, narrowed := true }
def CrcPiecesUptoSaid : Prop := crcPiecesUptoRow.holds Try.pinned (OpenSpec.upto crcPiecesSpec)

/-- 'cairnlaw06.CrcKnown', WHERE WHAT IT READS IS OF BULK AT MOST 1048576: true; the input reads as it did. -/
def crcKnownUptoRow : OpenClaim := { program := "ytofblciodgibdaa", sum := "db06e5fd2924114ce8d1c7a210cf758371d0fb3a2c3b9222d6ee76450a071ef9", func := "cairn/cairnlaw06.CrcKnown", spec := "crcKnown", apart := false, narrowed := true }
def CrcKnownUptoSaid : Prop := crcKnownUptoRow.holds Try.pinned (OpenSpec.upto crcKnownSpec)

end Rows
end Go.Proofs.Ytofblciodgibdaa
