/-
  DERIVED. GIVEN WITH THE SEED: THE CARDS: each row of YtbcmjjcbjojakaaDoorRows.lean that lists a variable, with what it lists TIED to the program's text (the seventh form; the later family's looks); each row that meets fmt, with fmt's text TOLD by the authors' own Lean function (tested against real Go, not proved from fmt's source: count such statements apart). THE CARD IS WHAT COUNTS. Prove the row's statement (the work); the ties are given (YtbcmjjcbjojakaaDoorTie.lean); close each card by the builder's one call (the guide's Derived/Test/ToyasCard.lean, 'card_holds'). Laid BY PROGRAM, IN A SANDBOX (cutbox-door.mjs). By AI agents, Wed Nov 11 2026. No macro, syntax, notation, axiom, sorry.
-/
import Derived.Test.YtbcmjjcbjojakaaDoorRows
import GoSem.ClaimSeven
namespace Go.Proofs.YtbcmjjcbjojakaaDoor
namespace Rows

/-- THE TIED CARD OF 'cairnlaw30.WireShown'. -/
def wireShownCard : Claim7 := { stood := { row := wireShownRow, standIns := [], harness := (true, "5fbc9db66a287a39be48774d711b144e398a76229689e1c4f0d4b92f26ac800b"), looks := true }, kinds := [], alts := [], laidByText := true, laidKinds := [.data, .pinned], laidTests := true, laidLooks := .later }
def WireShownCardSaid : Prop := Claim7.holds Tryd.pinned (.plain (OpenSpec.ofChange wireShownSpec)) wireShownCard

/-- THE TIED CARD OF 'cairnlaw30.WireUnshows'. -/
def wireUnshowsCard : Claim7 := { stood := { row := wireUnshowsRow, standIns := [], harness := (true, "5fbc9db66a287a39be48774d711b144e398a76229689e1c4f0d4b92f26ac800b"), looks := true }, kinds := [], alts := [], laidByText := true, laidKinds := [.data, .pinned], laidTests := true, laidLooks := .later }
def WireUnshowsCardSaid : Prop := Claim7.holds Tryd.pinned (.plain (OpenSpec.ofChange wireUnshowsSpec)) wireUnshowsCard

/-- THE SECOND FORM's CARD OF 'cairnlaw30.WireShown'. -/
def wireShownUptoCard : Claim7 := { stood := { row := wireShownUptoRow, standIns := [], harness := (true, "5fbc9db66a287a39be48774d711b144e398a76229689e1c4f0d4b92f26ac800b"), looks := true }, kinds := [], alts := [], laidByText := true, laidKinds := [.data, .pinned], laidTests := true, laidLooks := .later }
def WireShownUptoCardSaid : Prop := Claim7.holds Tryd.pinned (.plain (OpenSpec.upto wireShownSpec)) wireShownUptoCard

/-- THE SECOND FORM's CARD OF 'cairnlaw30.WireUnshows'. -/
def wireUnshowsUptoCard : Claim7 := { stood := { row := wireUnshowsUptoRow, standIns := [], harness := (true, "5fbc9db66a287a39be48774d711b144e398a76229689e1c4f0d4b92f26ac800b"), looks := true }, kinds := [], alts := [], laidByText := true, laidKinds := [.data, .pinned], laidTests := true, laidLooks := .later }
def WireUnshowsUptoCardSaid : Prop := Claim7.holds Tryd.pinned (.plain (OpenSpec.upto wireUnshowsSpec)) wireUnshowsUptoCard
end Rows
end Go.Proofs.YtbcmjjcbjojakaaDoor
