/-
  No cell of these rows narrows 'for every input' (looked for: loops, veiled, ifaces, maps, wideKeys, modest, calm, conditions, laid).
  DERIVED. THE GIVEN ROWS OF THIS SEAT. 13 by the template 'for every input the law returns true; each argument reads behind the call as it read before'; 0 by the template 'total and deterministic' (their statements: YtknpcbekaodlkaaTotals.lean).
  GIVEN WITH THE SEED: the statements are not yours to turn. If you find one false, say at which input.
  Laid BY PROGRAM, IN A SANDBOX (cutbox-rows.mjs): the forced cells as the released guide's own fill.sh prints them over the translation 8ea4552e56f864fc… (all of the seat's roots in one cut). By AI agents, Wed Nov 11 2026. No macro, syntax, notation, axiom, sorry.
-/
import Derived.Test.YtknpcbekaodlkaaChecked
import GoSem.Claim
import GoSem.ClaimJoined
import GoSem.ClaimMapViews
import Derived.JoinedTies
import Derived.KernelRfl
namespace Go.Proofs.Ytknpcbekaodlkaa
/- THE CELL 'sum', in the pinned program and in every row, IS THE sha256 OF THE DUMP (.gsa) THAT YtknpcbekaodlkaaProg.lean LOADS. Nothing in Lean hashes anything: it is a label: what it is worth is what the hold of that sum in a sandbox is worth. -/
noncomputable def Try.pinned : Pinned := { name := "ytknpcbekaodlkaa", sum := "8ea4552e56f864fc313e7fcd72f74d797d77fa3abb9f84a7bd5cf650fd238fe8", checked := Try.checked }
namespace Rows
def none {H : Type} : Left H := { results := [], args := [] }

/-- 'cairnlaw27.HealthChances': WHATEVER THE INPUT: true; the input reads as it did. -/
def healthChancesSpec : ChangeSpec := { name := "healthChances", fn := fun _ => fun
  | [d1, d2] => { results := [.lit (.bool true)], args := [d1, d2] }
  | _ => none }
def healthChancesRow : OpenClaim := { program := "ytknpcbekaodlkaa", sum := "8ea4552e56f864fc313e7fcd72f74d797d77fa3abb9f84a7bd5cf650fd238fe8", func := "cairn/cairnlaw27.HealthChances", spec := "healthChances", apart := false }
def HealthChancesSaid : Prop := healthChancesRow.holds Try.pinned (OpenSpec.ofChange healthChancesSpec)

/-- ITS FALSE NEIGHBOUR: 'it returns false'. Refute it at one input. -/
def healthChancesWrong : ChangeSpec := { name := "healthChances", fn := fun _ => fun
  | [d1, d2] => { results := [.lit (.bool false)], args := [d1, d2] }
  | _ => none }
def HealthChancesWrongFalsely : Prop := healthChancesRow.holds Try.pinned (OpenSpec.ofChange healthChancesWrong)

/-- 'cairnlaw27.HealthTurns': WHATEVER THE INPUT: true; the input reads as it did. -/
def healthTurnsSpec : ChangeSpec := { name := "healthTurns", fn := fun _ => fun
  | [d1, d2] => { results := [.lit (.bool true)], args := [d1, d2] }
  | _ => none }
def healthTurnsRow : OpenClaim := { program := "ytknpcbekaodlkaa", sum := "8ea4552e56f864fc313e7fcd72f74d797d77fa3abb9f84a7bd5cf650fd238fe8", func := "cairn/cairnlaw27.HealthTurns", spec := "healthTurns", apart := false }
def HealthTurnsSaid : Prop := healthTurnsRow.holds Try.pinned (OpenSpec.ofChange healthTurnsSpec)

/-- ITS FALSE NEIGHBOUR: 'it returns false'. Refute it at one input. -/
def healthTurnsWrong : ChangeSpec := { name := "healthTurns", fn := fun _ => fun
  | [d1, d2] => { results := [.lit (.bool false)], args := [d1, d2] }
  | _ => none }
def HealthTurnsWrongFalsely : Prop := healthTurnsRow.holds Try.pinned (OpenSpec.ofChange healthTurnsWrong)

/-- 'cairnlaw27.HealthMemory': WHATEVER THE INPUT: true; the input reads as it did. -/
def healthMemorySpec : ChangeSpec := { name := "healthMemory", fn := fun _ => fun
  | [d1, d2, d3] => { results := [.lit (.bool true)], args := [d1, d2, d3] }
  | _ => none }
def healthMemoryRow : OpenClaim := { program := "ytknpcbekaodlkaa", sum := "8ea4552e56f864fc313e7fcd72f74d797d77fa3abb9f84a7bd5cf650fd238fe8", func := "cairn/cairnlaw27.HealthMemory", spec := "healthMemory", inPlace := ["math.Float32bits", "math.Float32frombits", "math.Float64bits"], unfollowed := true, recurses := true, apart := false }
def HealthMemorySaid : Prop := healthMemoryRow.holds Try.pinned (OpenSpec.ofChange healthMemorySpec)

/-- ITS FALSE NEIGHBOUR: 'it returns false'. Refute it at one input. -/
def healthMemoryWrong : ChangeSpec := { name := "healthMemory", fn := fun _ => fun
  | [d1, d2, d3] => { results := [.lit (.bool false)], args := [d1, d2, d3] }
  | _ => none }
def HealthMemoryWrongFalsely : Prop := healthMemoryRow.holds Try.pinned (OpenSpec.ofChange healthMemoryWrong)

/-- 'cairnlaw27.HealthNames': WHATEVER THE INPUT: true; the input reads as it did. -/
def healthNamesSpec : ChangeSpec := { name := "healthNames", fn := fun _ => fun
  | [] => { results := [.lit (.bool true)], args := [] }
  | _ => none }
def healthNamesRow : OpenClaim := { program := "ytknpcbekaodlkaa", sum := "8ea4552e56f864fc313e7fcd72f74d797d77fa3abb9f84a7bd5cf650fd238fe8", func := "cairn/cairnlaw27.HealthNames", spec := "healthNames", inPlace := ["math.Float32bits"], unfollowed := true, recurses := true, apart := false }
def HealthNamesSaid : Prop := healthNamesRow.holds Try.pinned (OpenSpec.ofChange healthNamesSpec)

/-- ITS FALSE NEIGHBOUR: 'it returns false'. Refute it at one input. -/
def healthNamesWrong : ChangeSpec := { name := "healthNames", fn := fun _ => fun
  | [] => { results := [.lit (.bool false)], args := [] }
  | _ => none }
def HealthNamesWrongFalsely : Prop := healthNamesRow.holds Try.pinned (OpenSpec.ofChange healthNamesWrong)

/-- 'cairnlaw27.HealthLoads': WHATEVER THE INPUT: true; the input reads as it did. -/
def healthLoadsSpec : ChangeSpec := { name := "healthLoads", fn := fun _ => fun
  | [d] => { results := [.lit (.bool true)], args := [d] }
  | _ => none }
def healthLoadsRow : OpenClaim := { program := "ytknpcbekaodlkaa", sum := "8ea4552e56f864fc313e7fcd72f74d797d77fa3abb9f84a7bd5cf650fd238fe8", func := "cairn/cairnlaw27.HealthLoads", spec := "healthLoads", inPlace := ["math.Float32frombits", "math.Float64bits", "math.Float32bits"], unfollowed := true, recurses := true, apart := false }
def HealthLoadsSaid : Prop := healthLoadsRow.holds Try.pinned (OpenSpec.ofChange healthLoadsSpec)

/-- ITS FALSE NEIGHBOUR: 'it returns false'. Refute it at one input. -/
def healthLoadsWrong : ChangeSpec := { name := "healthLoads", fn := fun _ => fun
  | [d] => { results := [.lit (.bool false)], args := [d] }
  | _ => none }
def HealthLoadsWrongFalsely : Prop := healthLoadsRow.holds Try.pinned (OpenSpec.ofChange healthLoadsWrong)

/-- 'cairnlaw27.HealthNews': WHATEVER THE INPUT: true; the input reads as it did. -/
def healthNewsSpec : ChangeSpec := { name := "healthNews", fn := fun _ => fun
  | [d1, d2] => { results := [.lit (.bool true)], args := [d1, d2] }
  | _ => none }
def healthNewsRow : OpenClaim := { program := "ytknpcbekaodlkaa", sum := "8ea4552e56f864fc313e7fcd72f74d797d77fa3abb9f84a7bd5cf650fd238fe8", func := "cairn/cairnlaw27.HealthNews", spec := "healthNews", inPlace := ["math.Float32bits"], unfollowed := true, recurses := true, apart := false }
def HealthNewsSaid : Prop := healthNewsRow.holds Try.pinned (OpenSpec.ofChange healthNewsSpec)

/-- ITS FALSE NEIGHBOUR: 'it returns false'. Refute it at one input. -/
def healthNewsWrong : ChangeSpec := { name := "healthNews", fn := fun _ => fun
  | [d1, d2] => { results := [.lit (.bool false)], args := [d1, d2] }
  | _ => none }
def HealthNewsWrongFalsely : Prop := healthNewsRow.holds Try.pinned (OpenSpec.ofChange healthNewsWrong)

/-- 'cairnlaw27.HealthTells': WHATEVER THE INPUT: true; the input reads as it did. -/
def healthTellsSpec : ChangeSpec := { name := "healthTells", fn := fun _ => fun
  | [d] => { results := [.lit (.bool true)], args := [d] }
  | _ => none }
def healthTellsRow : OpenClaim := { program := "ytknpcbekaodlkaa", sum := "8ea4552e56f864fc313e7fcd72f74d797d77fa3abb9f84a7bd5cf650fd238fe8", func := "cairn/cairnlaw27.HealthTells", spec := "healthTells", inPlace := ["math.Float32bits", "math.Float32frombits", "math.Float64bits"], unfollowed := true, recurses := true, apart := false }
def HealthTellsSaid : Prop := healthTellsRow.holds Try.pinned (OpenSpec.ofChange healthTellsSpec)

/-- ITS FALSE NEIGHBOUR: 'it returns false'. Refute it at one input. -/
def healthTellsWrong : ChangeSpec := { name := "healthTells", fn := fun _ => fun
  | [d] => { results := [.lit (.bool false)], args := [d] }
  | _ => none }
def HealthTellsWrongFalsely : Prop := healthTellsRow.holds Try.pinned (OpenSpec.ofChange healthTellsWrong)

/-- 'cairnlaw27.HealthStays': WHATEVER THE INPUT: true; the input reads as it did. -/
def healthStaysSpec : ChangeSpec := { name := "healthStays", fn := fun _ => fun
  | [d1, d2, d3] => { results := [.lit (.bool true)], args := [d1, d2, d3] }
  | _ => none }
def healthStaysRow : OpenClaim := { program := "ytknpcbekaodlkaa", sum := "8ea4552e56f864fc313e7fcd72f74d797d77fa3abb9f84a7bd5cf650fd238fe8", func := "cairn/cairnlaw27.HealthStays", spec := "healthStays", unfollowed := true, recurses := true, apart := false }
def HealthStaysSaid : Prop := healthStaysRow.holds Try.pinned (OpenSpec.ofChange healthStaysSpec)

/-- ITS FALSE NEIGHBOUR: 'it returns false'. Refute it at one input. -/
def healthStaysWrong : ChangeSpec := { name := "healthStays", fn := fun _ => fun
  | [d1, d2, d3] => { results := [.lit (.bool false)], args := [d1, d2, d3] }
  | _ => none }
def HealthStaysWrongFalsely : Prop := healthStaysRow.holds Try.pinned (OpenSpec.ofChange healthStaysWrong)

/-- 'cairnlaw27.HealthOrders': WHATEVER THE INPUT: true; the input reads as it did. -/
def healthOrdersSpec : ChangeSpec := { name := "healthOrders", fn := fun _ => fun
  | [d1, d2, d3] => { results := [.lit (.bool true)], args := [d1, d2, d3] }
  | _ => none }
def healthOrdersRow : OpenClaim := { program := "ytknpcbekaodlkaa", sum := "8ea4552e56f864fc313e7fcd72f74d797d77fa3abb9f84a7bd5cf650fd238fe8", func := "cairn/cairnlaw27.HealthOrders", spec := "healthOrders", unfollowed := true, recurses := true, apart := false }
def HealthOrdersSaid : Prop := healthOrdersRow.holds Try.pinned (OpenSpec.ofChange healthOrdersSpec)

/-- ITS FALSE NEIGHBOUR: 'it returns false'. Refute it at one input. -/
def healthOrdersWrong : ChangeSpec := { name := "healthOrders", fn := fun _ => fun
  | [d1, d2, d3] => { results := [.lit (.bool false)], args := [d1, d2, d3] }
  | _ => none }
def HealthOrdersWrongFalsely : Prop := healthOrdersRow.holds Try.pinned (OpenSpec.ofChange healthOrdersWrong)

/-- 'cairnlaw27.HealthRisks': WHATEVER THE INPUT: true; the input reads as it did. -/
def healthRisksSpec : ChangeSpec := { name := "healthRisks", fn := fun _ => fun
  | [d] => { results := [.lit (.bool true)], args := [d] }
  | _ => none }
def healthRisksRow : OpenClaim := { program := "ytknpcbekaodlkaa", sum := "8ea4552e56f864fc313e7fcd72f74d797d77fa3abb9f84a7bd5cf650fd238fe8", func := "cairn/cairnlaw27.HealthRisks", spec := "healthRisks", unfollowed := true, recurses := true, apart := false }
def HealthRisksSaid : Prop := healthRisksRow.holds Try.pinned (OpenSpec.ofChange healthRisksSpec)

/-- ITS FALSE NEIGHBOUR: 'it returns false'. Refute it at one input. -/
def healthRisksWrong : ChangeSpec := { name := "healthRisks", fn := fun _ => fun
  | [d] => { results := [.lit (.bool false)], args := [d] }
  | _ => none }
def HealthRisksWrongFalsely : Prop := healthRisksRow.holds Try.pinned (OpenSpec.ofChange healthRisksWrong)

/-- 'cairnlaw27.HealthSwings': WHATEVER THE INPUT: true; the input reads as it did. -/
def healthSwingsSpec : ChangeSpec := { name := "healthSwings", fn := fun _ => fun
  | [d1, d2, d3] => { results := [.lit (.bool true)], args := [d1, d2, d3] }
  | _ => none }
def healthSwingsRow : OpenClaim := { program := "ytknpcbekaodlkaa", sum := "8ea4552e56f864fc313e7fcd72f74d797d77fa3abb9f84a7bd5cf650fd238fe8", func := "cairn/cairnlaw27.HealthSwings", spec := "healthSwings", unfollowed := true, recurses := true, apart := false }
def HealthSwingsSaid : Prop := healthSwingsRow.holds Try.pinned (OpenSpec.ofChange healthSwingsSpec)

/-- ITS FALSE NEIGHBOUR: 'it returns false'. Refute it at one input. -/
def healthSwingsWrong : ChangeSpec := { name := "healthSwings", fn := fun _ => fun
  | [d1, d2, d3] => { results := [.lit (.bool false)], args := [d1, d2, d3] }
  | _ => none }
def HealthSwingsWrongFalsely : Prop := healthSwingsRow.holds Try.pinned (OpenSpec.ofChange healthSwingsWrong)

/-- 'cairnlaw27.HealthBack': WHATEVER THE INPUT: true; the input reads as it did. -/
def healthBackSpec : ChangeSpec := { name := "healthBack", fn := fun _ => fun
  | [d1, d2, d3] => { results := [.lit (.bool true)], args := [d1, d2, d3] }
  | _ => none }
def healthBackRow : OpenClaim := { program := "ytknpcbekaodlkaa", sum := "8ea4552e56f864fc313e7fcd72f74d797d77fa3abb9f84a7bd5cf650fd238fe8", func := "cairn/cairnlaw27.HealthBack", spec := "healthBack", inPlace := ["math.Float32bits", "math.Float32frombits", "math.Float64bits"], unfollowed := true, recurses := true, apart := false }
def HealthBackSaid : Prop := healthBackRow.holds Try.pinned (OpenSpec.ofChange healthBackSpec)

/-- ITS FALSE NEIGHBOUR: 'it returns false'. Refute it at one input. -/
def healthBackWrong : ChangeSpec := { name := "healthBack", fn := fun _ => fun
  | [d1, d2, d3] => { results := [.lit (.bool false)], args := [d1, d2, d3] }
  | _ => none }
def HealthBackWrongFalsely : Prop := healthBackRow.holds Try.pinned (OpenSpec.ofChange healthBackWrong)

/-- 'cairnlaw27.HealthForm': WHATEVER THE INPUT: true; the input reads as it did. -/
def healthFormSpec : ChangeSpec := { name := "healthForm", fn := fun _ => fun
  | [d] => { results := [.lit (.bool true)], args := [d] }
  | _ => none }
def healthFormRow : OpenClaim := { program := "ytknpcbekaodlkaa", sum := "8ea4552e56f864fc313e7fcd72f74d797d77fa3abb9f84a7bd5cf650fd238fe8", func := "cairn/cairnlaw27.HealthForm", spec := "healthForm", inPlace := ["math.Float32frombits", "math.Float64bits", "math.Float32bits"], unfollowed := true, recurses := true, apart := false }
def HealthFormSaid : Prop := healthFormRow.holds Try.pinned (OpenSpec.ofChange healthFormSpec)

/-- ITS FALSE NEIGHBOUR: 'it returns false'. Refute it at one input. -/
def healthFormWrong : ChangeSpec := { name := "healthForm", fn := fun _ => fun
  | [d] => { results := [.lit (.bool false)], args := [d] }
  | _ => none }
def HealthFormWrongFalsely : Prop := healthFormRow.holds Try.pinned (OpenSpec.ofChange healthFormWrong)

/- THE SECOND FORM. 'bulk': how many values and letters a reading holds, each counted each time it is reached (what is shared counts as often as it is met; a slice's spare places count too). A statement '..UptoSaid' is the law's where the arguments, and the package variables that the reading takes, are together of bulk at most 1048576: NARROWER than '..Said'. Prove '..Said' where nothing that the law and all that it calls make is longer than what came in: it says more and counts as full. Else prove '..UptoSaid'. A law counts once. -/
mutual
def uptoBulk {H : Type} : DataW H → Nat
  | .lit (.string bytes) => bytes.length + 1
  | .lit _ => 1
  | .nil => 1
  | .ptr d => uptoBulk d + 1
  | .slice elems spare => uptoBulkAll elems + uptoBulkAll spare + 1
  | .agg parts => uptoBulkAll parts + 1
  | .iface _ d => uptoBulk d + 1
  | .map entries => uptoBulkEntries entries + 1
  | .held _ => 1
def uptoBulkAll {H : Type} : List (DataW H) → Nat
  | [] => 0
  | d :: r => uptoBulk d + uptoBulkAll r
def uptoBulkEntries {H : Type} : List (Lit × DataW H) → Nat
  | [] => 0
  | x :: r => uptoBulkEntry x + uptoBulkEntries r
def uptoBulkEntry {H : Type} : Lit × DataW H → Nat
  | (.string bytes, d) => bytes.length + uptoBulk d + 1
  | (_, d) => uptoBulk d + 1
 end
def uptoSmall : (H : Type) → List (DataW H) → Bool := fun _ ds => decide (uptoBulkAll ds ≤ 1048576)
def OpenSpec.upto (s : _root_.Go.ChangeSpec) : _root_.Go.OpenSpec := { _root_.Go.OpenSpec.ofChange s with cond := some uptoSmall }

/-- 'cairnlaw27.HealthChances', WHERE WHAT IT READS IS OF BULK AT MOST 1048576: true; the input reads as it did. -/
def healthChancesUptoRow : OpenClaim := { program := "ytknpcbekaodlkaa", sum := "8ea4552e56f864fc313e7fcd72f74d797d77fa3abb9f84a7bd5cf650fd238fe8", func := "cairn/cairnlaw27.HealthChances", spec := "healthChances", apart := false, narrowed := true }
def HealthChancesUptoSaid : Prop := healthChancesUptoRow.holds Try.pinned (OpenSpec.upto healthChancesSpec)

/-- 'cairnlaw27.HealthTurns', WHERE WHAT IT READS IS OF BULK AT MOST 1048576: true; the input reads as it did. -/
def healthTurnsUptoRow : OpenClaim := { program := "ytknpcbekaodlkaa", sum := "8ea4552e56f864fc313e7fcd72f74d797d77fa3abb9f84a7bd5cf650fd238fe8", func := "cairn/cairnlaw27.HealthTurns", spec := "healthTurns", apart := false, narrowed := true }
def HealthTurnsUptoSaid : Prop := healthTurnsUptoRow.holds Try.pinned (OpenSpec.upto healthTurnsSpec)

/-- 'cairnlaw27.HealthMemory', WHERE WHAT IT READS IS OF BULK AT MOST 1048576: true; the input reads as it did. -/
def healthMemoryUptoRow : OpenClaim := { program := "ytknpcbekaodlkaa", sum := "8ea4552e56f864fc313e7fcd72f74d797d77fa3abb9f84a7bd5cf650fd238fe8", func := "cairn/cairnlaw27.HealthMemory", spec := "healthMemory", inPlace := ["math.Float32bits", "math.Float32frombits", "math.Float64bits"], unfollowed := true, recurses := true, apart := false, narrowed := true }
def HealthMemoryUptoSaid : Prop := healthMemoryUptoRow.holds Try.pinned (OpenSpec.upto healthMemorySpec)

/-- 'cairnlaw27.HealthNames', WHERE WHAT IT READS IS OF BULK AT MOST 1048576: true; the input reads as it did. -/
def healthNamesUptoRow : OpenClaim := { program := "ytknpcbekaodlkaa", sum := "8ea4552e56f864fc313e7fcd72f74d797d77fa3abb9f84a7bd5cf650fd238fe8", func := "cairn/cairnlaw27.HealthNames", spec := "healthNames", inPlace := ["math.Float32bits"], unfollowed := true, recurses := true, apart := false, narrowed := true }
def HealthNamesUptoSaid : Prop := healthNamesUptoRow.holds Try.pinned (OpenSpec.upto healthNamesSpec)

/-- 'cairnlaw27.HealthLoads', WHERE WHAT IT READS IS OF BULK AT MOST 1048576: true; the input reads as it did. -/
def healthLoadsUptoRow : OpenClaim := { program := "ytknpcbekaodlkaa", sum := "8ea4552e56f864fc313e7fcd72f74d797d77fa3abb9f84a7bd5cf650fd238fe8", func := "cairn/cairnlaw27.HealthLoads", spec := "healthLoads", inPlace := ["math.Float32frombits", "math.Float64bits", "math.Float32bits"], unfollowed := true, recurses := true, apart := false, narrowed := true }
def HealthLoadsUptoSaid : Prop := healthLoadsUptoRow.holds Try.pinned (OpenSpec.upto healthLoadsSpec)

/-- 'cairnlaw27.HealthNews', WHERE WHAT IT READS IS OF BULK AT MOST 1048576: true; the input reads as it did. -/
def healthNewsUptoRow : OpenClaim := { program := "ytknpcbekaodlkaa", sum := "8ea4552e56f864fc313e7fcd72f74d797d77fa3abb9f84a7bd5cf650fd238fe8", func := "cairn/cairnlaw27.HealthNews", spec := "healthNews", inPlace := ["math.Float32bits"], unfollowed := true, recurses := true, apart := false, narrowed := true }
def HealthNewsUptoSaid : Prop := healthNewsUptoRow.holds Try.pinned (OpenSpec.upto healthNewsSpec)

/-- 'cairnlaw27.HealthTells', WHERE WHAT IT READS IS OF BULK AT MOST 1048576: true; the input reads as it did. -/
def healthTellsUptoRow : OpenClaim := { program := "ytknpcbekaodlkaa", sum := "8ea4552e56f864fc313e7fcd72f74d797d77fa3abb9f84a7bd5cf650fd238fe8", func := "cairn/cairnlaw27.HealthTells", spec := "healthTells", inPlace := ["math.Float32bits", "math.Float32frombits", "math.Float64bits"], unfollowed := true, recurses := true, apart := false, narrowed := true }
def HealthTellsUptoSaid : Prop := healthTellsUptoRow.holds Try.pinned (OpenSpec.upto healthTellsSpec)

/-- 'cairnlaw27.HealthStays', WHERE WHAT IT READS IS OF BULK AT MOST 1048576: true; the input reads as it did. -/
def healthStaysUptoRow : OpenClaim := { program := "ytknpcbekaodlkaa", sum := "8ea4552e56f864fc313e7fcd72f74d797d77fa3abb9f84a7bd5cf650fd238fe8", func := "cairn/cairnlaw27.HealthStays", spec := "healthStays", unfollowed := true, recurses := true, apart := false, narrowed := true }
def HealthStaysUptoSaid : Prop := healthStaysUptoRow.holds Try.pinned (OpenSpec.upto healthStaysSpec)

/-- 'cairnlaw27.HealthOrders', WHERE WHAT IT READS IS OF BULK AT MOST 1048576: true; the input reads as it did. -/
def healthOrdersUptoRow : OpenClaim := { program := "ytknpcbekaodlkaa", sum := "8ea4552e56f864fc313e7fcd72f74d797d77fa3abb9f84a7bd5cf650fd238fe8", func := "cairn/cairnlaw27.HealthOrders", spec := "healthOrders", unfollowed := true, recurses := true, apart := false, narrowed := true }
def HealthOrdersUptoSaid : Prop := healthOrdersUptoRow.holds Try.pinned (OpenSpec.upto healthOrdersSpec)

/-- 'cairnlaw27.HealthRisks', WHERE WHAT IT READS IS OF BULK AT MOST 1048576: true; the input reads as it did. -/
def healthRisksUptoRow : OpenClaim := { program := "ytknpcbekaodlkaa", sum := "8ea4552e56f864fc313e7fcd72f74d797d77fa3abb9f84a7bd5cf650fd238fe8", func := "cairn/cairnlaw27.HealthRisks", spec := "healthRisks", unfollowed := true, recurses := true, apart := false, narrowed := true }
def HealthRisksUptoSaid : Prop := healthRisksUptoRow.holds Try.pinned (OpenSpec.upto healthRisksSpec)

/-- 'cairnlaw27.HealthSwings', WHERE WHAT IT READS IS OF BULK AT MOST 1048576: true; the input reads as it did. -/
def healthSwingsUptoRow : OpenClaim := { program := "ytknpcbekaodlkaa", sum := "8ea4552e56f864fc313e7fcd72f74d797d77fa3abb9f84a7bd5cf650fd238fe8", func := "cairn/cairnlaw27.HealthSwings", spec := "healthSwings", unfollowed := true, recurses := true, apart := false, narrowed := true }
def HealthSwingsUptoSaid : Prop := healthSwingsUptoRow.holds Try.pinned (OpenSpec.upto healthSwingsSpec)

/-- 'cairnlaw27.HealthBack', WHERE WHAT IT READS IS OF BULK AT MOST 1048576: true; the input reads as it did. -/
def healthBackUptoRow : OpenClaim := { program := "ytknpcbekaodlkaa", sum := "8ea4552e56f864fc313e7fcd72f74d797d77fa3abb9f84a7bd5cf650fd238fe8", func := "cairn/cairnlaw27.HealthBack", spec := "healthBack", inPlace := ["math.Float32bits", "math.Float32frombits", "math.Float64bits"], unfollowed := true, recurses := true, apart := false, narrowed := true }
def HealthBackUptoSaid : Prop := healthBackUptoRow.holds Try.pinned (OpenSpec.upto healthBackSpec)

/-- 'cairnlaw27.HealthForm', WHERE WHAT IT READS IS OF BULK AT MOST 1048576: true; the input reads as it did. -/
def healthFormUptoRow : OpenClaim := { program := "ytknpcbekaodlkaa", sum := "8ea4552e56f864fc313e7fcd72f74d797d77fa3abb9f84a7bd5cf650fd238fe8", func := "cairn/cairnlaw27.HealthForm", spec := "healthForm", inPlace := ["math.Float32frombits", "math.Float64bits", "math.Float32bits"], unfollowed := true, recurses := true, apart := false, narrowed := true }
def HealthFormUptoSaid : Prop := healthFormUptoRow.holds Try.pinned (OpenSpec.upto healthFormSpec)

end Rows
end Go.Proofs.Ytknpcbekaodlkaa
