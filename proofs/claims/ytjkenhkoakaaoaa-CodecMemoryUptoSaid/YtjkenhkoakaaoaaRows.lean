/-
  No cell of these rows narrows 'for every input' (looked for: loops, veiled, ifaces, maps, wideKeys, modest, calm, conditions, laid).
  DERIVED. THE GIVEN ROWS OF THIS SEAT. 10 by the template 'for every input the law returns true; each argument reads behind the call as it read before'; 0 by the template 'total and deterministic' (their statements: YtjkenhkoakaaoaaTotals.lean).
  GIVEN WITH THE SEED: the statements are not yours to turn. If you find one false, say at which input.
  Laid BY PROGRAM, IN A SANDBOX (cutbox-rows.mjs): the forced cells as the released guide's own fill.sh prints them over the translation 040b33bf1b558401… (all of the seat's roots in one cut). By AI agents, Wed Nov 11 2026. No macro, syntax, notation, axiom, sorry.
-/
import Derived.Test.YtjkenhkoakaaoaaChecked
import GoSem.Claim
import GoSem.ClaimJoined
import GoSem.ClaimMapViews
import Derived.JoinedTies
import Derived.KernelRfl
namespace Go.Proofs.Ytjkenhkoakaaoaa
/- THE CELL 'sum', in the pinned program and in every row, IS THE sha256 OF THE DUMP (.gsa) THAT YtjkenhkoakaaoaaProg.lean LOADS. Nothing in Lean hashes anything: it is a label: what it is worth is what the hold of that sum in a sandbox is worth. -/
noncomputable def Try.pinned : Pinned := { name := "ytjkenhkoakaaoaa", sum := "040b33bf1b558401a49fe9348459cc88667a71197a212724901dc01abfb4c163", checked := Try.checked }
namespace Rows
def none {H : Type} : Left H := { results := [], args := [] }

/-- 'cairnlaw07.CodecNames': WHATEVER THE INPUT: true; the input reads as it did. -/
def codecNamesSpec : ChangeSpec := { name := "codecNames", fn := fun _ => fun
  | [] => { results := [.lit (.bool true)], args := [] }
  | _ => none }
def codecNamesRow : OpenClaim := { program := "ytjkenhkoakaaoaa", sum := "040b33bf1b558401a49fe9348459cc88667a71197a212724901dc01abfb4c163", func := "cairn/cairnlaw07.CodecNames", spec := "codecNames", apart := false }
def CodecNamesSaid : Prop := codecNamesRow.holds Try.pinned (OpenSpec.ofChange codecNamesSpec)

/-- ITS FALSE NEIGHBOUR: 'it returns false'. Refute it at one input. -/
def codecNamesWrong : ChangeSpec := { name := "codecNames", fn := fun _ => fun
  | [] => { results := [.lit (.bool false)], args := [] }
  | _ => none }
def CodecNamesWrongFalsely : Prop := codecNamesRow.holds Try.pinned (OpenSpec.ofChange codecNamesWrong)

/-- 'cairnlaw07.CodecZigs': WHATEVER THE INPUT: true; the input reads as it did. -/
def codecZigsSpec : ChangeSpec := { name := "codecZigs", fn := fun _ => fun
  | [d1, d2] => { results := [.lit (.bool true)], args := [d1, d2] }
  | _ => none }
def codecZigsRow : OpenClaim := { program := "ytjkenhkoakaaoaa", sum := "040b33bf1b558401a49fe9348459cc88667a71197a212724901dc01abfb4c163", func := "cairn/cairnlaw07.CodecZigs", spec := "codecZigs", apart := false }
def CodecZigsSaid : Prop := codecZigsRow.holds Try.pinned (OpenSpec.ofChange codecZigsSpec)

/-- ITS FALSE NEIGHBOUR: 'it returns false'. Refute it at one input. -/
def codecZigsWrong : ChangeSpec := { name := "codecZigs", fn := fun _ => fun
  | [d1, d2] => { results := [.lit (.bool false)], args := [d1, d2] }
  | _ => none }
def CodecZigsWrongFalsely : Prop := codecZigsRow.holds Try.pinned (OpenSpec.ofChange codecZigsWrong)

/-- 'cairnlaw07.CodecShort': WHATEVER THE INPUT: true; the input reads as it did. -/
def codecShortSpec : ChangeSpec := { name := "codecShort", fn := fun _ => fun
  | [d1, d2] => { results := [.lit (.bool true)], args := [d1, d2] }
  | _ => none }
def codecShortRow : OpenClaim := { program := "ytjkenhkoakaaoaa", sum := "040b33bf1b558401a49fe9348459cc88667a71197a212724901dc01abfb4c163", func := "cairn/cairnlaw07.CodecShort", spec := "codecShort", apart := false }
def CodecShortSaid : Prop := codecShortRow.holds Try.pinned (OpenSpec.ofChange codecShortSpec)

/-- ITS FALSE NEIGHBOUR: 'it returns false'. Refute it at one input. -/
def codecShortWrong : ChangeSpec := { name := "codecShort", fn := fun _ => fun
  | [d1, d2] => { results := [.lit (.bool false)], args := [d1, d2] }
  | _ => none }
def CodecShortWrongFalsely : Prop := codecShortRow.holds Try.pinned (OpenSpec.ofChange codecShortWrong)

/-- 'cairnlaw07.CodecPuts': WHATEVER THE INPUT: true; the input reads as it did. -/
def codecPutsSpec : ChangeSpec := { name := "codecPuts", fn := fun _ => fun
  | [d] => { results := [.lit (.bool true)], args := [d] }
  | _ => none }
def codecPutsRow : OpenClaim := { program := "ytjkenhkoakaaoaa", sum := "040b33bf1b558401a49fe9348459cc88667a71197a212724901dc01abfb4c163", func := "cairn/cairnlaw07.CodecPuts", spec := "codecPuts", apart := false }
def CodecPutsSaid : Prop := codecPutsRow.holds Try.pinned (OpenSpec.ofChange codecPutsSpec)

/-- ITS FALSE NEIGHBOUR: 'it returns false'. Refute it at one input. -/
def codecPutsWrong : ChangeSpec := { name := "codecPuts", fn := fun _ => fun
  | [d] => { results := [.lit (.bool false)], args := [d] }
  | _ => none }
def CodecPutsWrongFalsely : Prop := codecPutsRow.holds Try.pinned (OpenSpec.ofChange codecPutsWrong)

/-- 'cairnlaw07.CodecFolds': WHATEVER THE INPUT: true; the input reads as it did. -/
def codecFoldsSpec : ChangeSpec := { name := "codecFolds", fn := fun _ => fun
  | [d1, d2, d3] => { results := [.lit (.bool true)], args := [d1, d2, d3] }
  | _ => none }
def codecFoldsRow : OpenClaim := { program := "ytjkenhkoakaaoaa", sum := "040b33bf1b558401a49fe9348459cc88667a71197a212724901dc01abfb4c163", func := "cairn/cairnlaw07.CodecFolds", spec := "codecFolds", unfollowed := true, recurses := true, apart := false }
def CodecFoldsSaid : Prop := codecFoldsRow.holds Try.pinned (OpenSpec.ofChange codecFoldsSpec)

/-- ITS FALSE NEIGHBOUR: 'it returns false'. Refute it at one input. -/
def codecFoldsWrong : ChangeSpec := { name := "codecFolds", fn := fun _ => fun
  | [d1, d2, d3] => { results := [.lit (.bool false)], args := [d1, d2, d3] }
  | _ => none }
def CodecFoldsWrongFalsely : Prop := codecFoldsRow.holds Try.pinned (OpenSpec.ofChange codecFoldsWrong)

/-- 'cairnlaw07.CodecReads': WHATEVER THE INPUT: true; the input reads as it did. -/
def codecReadsSpec : ChangeSpec := { name := "codecReads", fn := fun _ => fun
  | [d1, d2, d3] => { results := [.lit (.bool true)], args := [d1, d2, d3] }
  | _ => none }
def codecReadsRow : OpenClaim := { program := "ytjkenhkoakaaoaa", sum := "040b33bf1b558401a49fe9348459cc88667a71197a212724901dc01abfb4c163", func := "cairn/cairnlaw07.CodecReads", spec := "codecReads", unfollowed := true, recurses := true, apart := false }
def CodecReadsSaid : Prop := codecReadsRow.holds Try.pinned (OpenSpec.ofChange codecReadsSpec)

/-- ITS FALSE NEIGHBOUR: 'it returns false'. Refute it at one input. -/
def codecReadsWrong : ChangeSpec := { name := "codecReads", fn := fun _ => fun
  | [d1, d2, d3] => { results := [.lit (.bool false)], args := [d1, d2, d3] }
  | _ => none }
def CodecReadsWrongFalsely : Prop := codecReadsRow.holds Try.pinned (OpenSpec.ofChange codecReadsWrong)

/-- 'cairnlaw07.CodecMemory': WHATEVER THE INPUT: true; the input reads as it did. -/
def codecMemorySpec : ChangeSpec := { name := "codecMemory", fn := fun _ => fun
  | [d1, d2] => { results := [.lit (.bool true)], args := [d1, d2] }
  | _ => none }
def codecMemoryRow : OpenClaim := { program := "ytjkenhkoakaaoaa", sum := "040b33bf1b558401a49fe9348459cc88667a71197a212724901dc01abfb4c163", func := "cairn/cairnlaw07.CodecMemory", spec := "codecMemory", unfollowed := true, recurses := true, apart := false }
def CodecMemorySaid : Prop := codecMemoryRow.holds Try.pinned (OpenSpec.ofChange codecMemorySpec)

/-- ITS FALSE NEIGHBOUR: 'it returns false'. Refute it at one input. -/
def codecMemoryWrong : ChangeSpec := { name := "codecMemory", fn := fun _ => fun
  | [d1, d2] => { results := [.lit (.bool false)], args := [d1, d2] }
  | _ => none }
def CodecMemoryWrongFalsely : Prop := codecMemoryRow.holds Try.pinned (OpenSpec.ofChange codecMemoryWrong)

/-- 'cairnlaw07.CodecSticky': WHATEVER THE INPUT: true; the input reads as it did. -/
def codecStickySpec : ChangeSpec := { name := "codecSticky", fn := fun _ => fun
  | [d1, d2] => { results := [.lit (.bool true)], args := [d1, d2] }
  | _ => none }
def codecStickyRow : OpenClaim := { program := "ytjkenhkoakaaoaa", sum := "040b33bf1b558401a49fe9348459cc88667a71197a212724901dc01abfb4c163", func := "cairn/cairnlaw07.CodecSticky", spec := "codecSticky", unfollowed := true, recurses := true, apart := false }
def CodecStickySaid : Prop := codecStickyRow.holds Try.pinned (OpenSpec.ofChange codecStickySpec)

/-- ITS FALSE NEIGHBOUR: 'it returns false'. Refute it at one input. -/
def codecStickyWrong : ChangeSpec := { name := "codecSticky", fn := fun _ => fun
  | [d1, d2] => { results := [.lit (.bool false)], args := [d1, d2] }
  | _ => none }
def CodecStickyWrongFalsely : Prop := codecStickyRow.holds Try.pinned (OpenSpec.ofChange codecStickyWrong)

/-- 'cairnlaw07.CodecBack': WHATEVER THE INPUT: true; the input reads as it did. -/
def codecBackSpec : ChangeSpec := { name := "codecBack", fn := fun _ => fun
  | [d1, d2] => { results := [.lit (.bool true)], args := [d1, d2] }
  | _ => none }
def codecBackRow : OpenClaim := { program := "ytjkenhkoakaaoaa", sum := "040b33bf1b558401a49fe9348459cc88667a71197a212724901dc01abfb4c163", func := "cairn/cairnlaw07.CodecBack", spec := "codecBack", unfollowed := true, recurses := true, apart := false }
def CodecBackSaid : Prop := codecBackRow.holds Try.pinned (OpenSpec.ofChange codecBackSpec)

/-- ITS FALSE NEIGHBOUR: 'it returns false'. Refute it at one input. -/
def codecBackWrong : ChangeSpec := { name := "codecBack", fn := fun _ => fun
  | [d1, d2] => { results := [.lit (.bool false)], args := [d1, d2] }
  | _ => none }
def CodecBackWrongFalsely : Prop := codecBackRow.holds Try.pinned (OpenSpec.ofChange codecBackWrong)

/-- 'cairnlaw07.CodecForm': WHATEVER THE INPUT: true; the input reads as it did. -/
def codecFormSpec : ChangeSpec := { name := "codecForm", fn := fun _ => fun
  | [d1, d2] => { results := [.lit (.bool true)], args := [d1, d2] }
  | _ => none }
def codecFormRow : OpenClaim := { program := "ytjkenhkoakaaoaa", sum := "040b33bf1b558401a49fe9348459cc88667a71197a212724901dc01abfb4c163", func := "cairn/cairnlaw07.CodecForm", spec := "codecForm", unfollowed := true, recurses := true, apart := false }
def CodecFormSaid : Prop := codecFormRow.holds Try.pinned (OpenSpec.ofChange codecFormSpec)

/-- ITS FALSE NEIGHBOUR: 'it returns false'. Refute it at one input. -/
def codecFormWrong : ChangeSpec := { name := "codecForm", fn := fun _ => fun
  | [d1, d2] => { results := [.lit (.bool false)], args := [d1, d2] }
  | _ => none }
def CodecFormWrongFalsely : Prop := codecFormRow.holds Try.pinned (OpenSpec.ofChange codecFormWrong)

/- THE SECOND FORM. 'bulk': how many values and letters a reading holds, each counted each time it is reached (what is shared counts as often as it is met; a slice's spare places count too). A statement '..UptoSaid' is the law's where the arguments, and the package variables that the reading takes, are together of bulk at most 1048576: NARROWER than '..Said'. Prove '..Said' where nothing that the law and all that it calls make is longer than what came in: it says more and counts as full. Else prove '..UptoSaid'. A law counts once. -/
mutual
def uptoBulk {H : Type} : DataW H → Nat
  | .lit (.string bytes) => bytes.length + 1
  | .lit _ => 1
  | .nil => 1
  | .ptr d => uptoBulk d + 1
  | .slice elems spare => uptoBulkAll elems + uptoBulkAll spare + 1
  | .agg parts => uptoBulkAll parts + 1
  | .iface _ d => uptoBulk d + 1
  | .map entries => uptoBulkEntries entries + 1
  | .held _ => 1
def uptoBulkAll {H : Type} : List (DataW H) → Nat
  | [] => 0
  | d :: r => uptoBulk d + uptoBulkAll r
def uptoBulkEntries {H : Type} : List (Lit × DataW H) → Nat
  | [] => 0
  | x :: r => uptoBulkEntry x + uptoBulkEntries r
def uptoBulkEntry {H : Type} : Lit × DataW H → Nat
  | (.string bytes, d) => bytes.length + uptoBulk d + 1
  | (_, d) => uptoBulk d + 1
 end
def uptoSmall : (H : Type) → List (DataW H) → Bool := fun _ ds => decide (uptoBulkAll ds ≤ 1048576)
def OpenSpec.upto (s : _root_.Go.ChangeSpec) : _root_.Go.OpenSpec := { _root_.Go.OpenSpec.ofChange s with cond := some uptoSmall }

/-- 'cairnlaw07.CodecNames', WHERE WHAT IT READS IS OF BULK AT MOST 1048576: true; the input reads as it did. -/
def codecNamesUptoRow : OpenClaim := { program := "ytjkenhkoakaaoaa", sum := "040b33bf1b558401a49fe9348459cc88667a71197a212724901dc01abfb4c163", func := "cairn/cairnlaw07.CodecNames", spec := "codecNames", apart := false, narrowed := true }
def CodecNamesUptoSaid : Prop := codecNamesUptoRow.holds Try.pinned (OpenSpec.upto codecNamesSpec)

/-- 'cairnlaw07.CodecZigs', WHERE WHAT IT READS IS OF BULK AT MOST 1048576: true; the input reads as it did. -/
def codecZigsUptoRow : OpenClaim := { program := "ytjkenhkoakaaoaa", sum := "040b33bf1b558401a49fe9348459cc88667a71197a212724901dc01abfb4c163", func := "cairn/cairnlaw07.CodecZigs", spec := "codecZigs", apart := false, narrowed := true }
def CodecZigsUptoSaid : Prop := codecZigsUptoRow.holds Try.pinned (OpenSpec.upto codecZigsSpec)

/-- 'cairnlaw07.CodecShort', WHERE WHAT IT READS IS OF BULK AT MOST 1048576: true; the input reads as it did. -/
def codecShortUptoRow : OpenClaim := { program := "ytjkenhkoakaaoaa", sum := "040b33bf1b558401a49fe9348459cc88667a71197a212724901dc01abfb4c163", func := "cairn/cairnlaw07.CodecShort", spec := "codecShort", apart := false, narrowed := true }
def CodecShortUptoSaid : Prop := codecShortUptoRow.holds Try.pinned (OpenSpec.upto codecShortSpec)

/-- 'cairnlaw07.CodecPuts', WHERE WHAT IT READS IS OF BULK AT MOST 1048576: true; the input reads as it did. -/
def codecPutsUptoRow : OpenClaim := { program := "ytjkenhkoakaaoaa", sum := "040b33bf1b558401a49fe9348459cc88667a71197a212724901dc01abfb4c163", func := "cairn/cairnlaw07.CodecPuts", spec := "codecPuts", apart := false, narrowed := true }
def CodecPutsUptoSaid : Prop := codecPutsUptoRow.holds Try.pinned (OpenSpec.upto codecPutsSpec)

/-- 'cairnlaw07.CodecFolds', WHERE WHAT IT READS IS OF BULK AT MOST 1048576: true; the input reads as it did. -/
def codecFoldsUptoRow : OpenClaim := { program := "ytjkenhkoakaaoaa", sum := "040b33bf1b558401a49fe9348459cc88667a71197a212724901dc01abfb4c163", func := "cairn/cairnlaw07.CodecFolds", spec := "codecFolds", unfollowed := true, recurses := true, apart := false, narrowed := true }
def CodecFoldsUptoSaid : Prop := codecFoldsUptoRow.holds Try.pinned (OpenSpec.upto codecFoldsSpec)

/-- 'cairnlaw07.CodecReads', WHERE WHAT IT READS IS OF BULK AT MOST 1048576: true; the input reads as it did. -/
def codecReadsUptoRow : OpenClaim := { program := "ytjkenhkoakaaoaa", sum := "040b33bf1b558401a49fe9348459cc88667a71197a212724901dc01abfb4c163", func := "cairn/cairnlaw07.CodecReads", spec := "codecReads", unfollowed := true, recurses := true, apart := false, narrowed := true }
def CodecReadsUptoSaid : Prop := codecReadsUptoRow.holds Try.pinned (OpenSpec.upto codecReadsSpec)

/-- 'cairnlaw07.CodecMemory', WHERE WHAT IT READS IS OF BULK AT MOST 1048576: true; the input reads as it did. -/
def codecMemoryUptoRow : OpenClaim := { program := "ytjkenhkoakaaoaa", sum := "040b33bf1b558401a49fe9348459cc88667a71197a212724901dc01abfb4c163", func := "cairn/cairnlaw07.CodecMemory", spec := "codecMemory", unfollowed := true, recurses := true, apart := false, narrowed := true }
def CodecMemoryUptoSaid : Prop := codecMemoryUptoRow.holds Try.pinned (OpenSpec.upto codecMemorySpec)

/-- 'cairnlaw07.CodecSticky', WHERE WHAT IT READS IS OF BULK AT MOST 1048576: true; the input reads as it did. -/
def codecStickyUptoRow : OpenClaim := { program := "ytjkenhkoakaaoaa", sum := "040b33bf1b558401a49fe9348459cc88667a71197a212724901dc01abfb4c163", func := "cairn/cairnlaw07.CodecSticky", spec := "codecSticky", unfollowed := true, recurses := true, apart := false, narrowed := true }
def CodecStickyUptoSaid : Prop := codecStickyUptoRow.holds Try.pinned (OpenSpec.upto codecStickySpec)

/-- 'cairnlaw07.CodecBack', WHERE WHAT IT READS IS OF BULK AT MOST 1048576: true; the input reads as it did. -/
def codecBackUptoRow : OpenClaim := { program := "ytjkenhkoakaaoaa", sum := "040b33bf1b558401a49fe9348459cc88667a71197a212724901dc01abfb4c163", func := "cairn/cairnlaw07.CodecBack", spec := "codecBack", unfollowed := true, recurses := true, apart := false, narrowed := true }
def CodecBackUptoSaid : Prop := codecBackUptoRow.holds Try.pinned (OpenSpec.upto codecBackSpec)

/-- 'cairnlaw07.CodecForm', WHERE WHAT IT READS IS OF BULK AT MOST 1048576: true; the input reads as it did. -/
def codecFormUptoRow : OpenClaim := { program := "ytjkenhkoakaaoaa", sum := "040b33bf1b558401a49fe9348459cc88667a71197a212724901dc01abfb4c163", func := "cairn/cairnlaw07.CodecForm", spec := "codecForm", unfollowed := true, recurses := true, apart := false, narrowed := true }
def CodecFormUptoSaid : Prop := codecFormUptoRow.holds Try.pinned (OpenSpec.upto codecFormSpec)

end Rows
end Go.Proofs.Ytjkenhkoakaaoaa
