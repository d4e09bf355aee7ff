/-
  No cell of these rows narrows 'for every input' (looked for: loops, veiled, ifaces, maps, wideKeys, modest, calm, conditions, laid).
  DERIVED. THE GIVEN ROWS OF THIS SEAT. 7 by the template 'for every input the law returns true; each argument reads behind the call as it read before'; 0 by the template 'total and deterministic' (their statements: YtplpaipmkpjgfaaTotals.lean).
  GIVEN WITH THE SEED: the statements are not yours to turn. If you find one false, say at which input.
  Laid BY PROGRAM, IN A SANDBOX (cutbox-rows.mjs): the forced cells as the released guide's own fill.sh prints them over the translation 0c03b2d23256ef30… (all of the seat's roots in one cut). By AI agents, Wed Nov 11 2026. No macro, syntax, notation, axiom, sorry.
-/
import Derived.Test.YtplpaipmkpjgfaaChecked
import GoSem.Claim
import GoSem.ClaimJoined
import GoSem.ClaimMapViews
import Derived.JoinedTies
import Derived.KernelRfl
namespace Go.Proofs.Ytplpaipmkpjgfaa
/- THE CELL 'sum', in the pinned program and in every row, IS THE sha256 OF THE DUMP (.gsa) THAT YtplpaipmkpjgfaaProg.lean LOADS. Nothing in Lean hashes anything: it is a label: what it is worth is what the hold of that sum in a sandbox is worth. -/
noncomputable def Try.pinned : Pinned := { name := "ytplpaipmkpjgfaa", sum := "0c03b2d23256ef3016bb53f61899a318dde10e48bd39ee1244de7f1f5c325db0", checked := Try.checked }
namespace Rows
def none {H : Type} : Left H := { results := [], args := [] }

/-- 'cairnlaw17.VotesStale': WHATEVER THE INPUT: true; the input reads as it did. -/
def votesStaleSpec : ChangeSpec := { name := "votesStale", fn := fun _ => fun
  | [d1, d2] => { results := [.lit (.bool true)], args := [d1, d2] }
  | _ => none }
def votesStaleRow : OpenClaim := { program := "ytplpaipmkpjgfaa", sum := "0c03b2d23256ef3016bb53f61899a318dde10e48bd39ee1244de7f1f5c325db0", func := "cairn/cairnlaw17.VotesStale", spec := "votesStale", plainKeys := false, apart := false }
def VotesStaleSaid : Prop := votesStaleRow.holds Try.pinned (OpenSpec.ofChange votesStaleSpec)

/-- ITS FALSE NEIGHBOUR: 'it returns false'. Refute it at one input. -/
def votesStaleWrong : ChangeSpec := { name := "votesStale", fn := fun _ => fun
  | [d1, d2] => { results := [.lit (.bool false)], args := [d1, d2] }
  | _ => none }
def VotesStaleWrongFalsely : Prop := votesStaleRow.holds Try.pinned (OpenSpec.ofChange votesStaleWrong)

/-- 'cairnlaw17.VotesJudges': WHATEVER THE INPUT: true; the input reads as it did. -/
def votesJudgesSpec : ChangeSpec := { name := "votesJudges", fn := fun _ => fun
  | [d1, d2] => { results := [.lit (.bool true)], args := [d1, d2] }
  | _ => none }
def votesJudgesRow : OpenClaim := { program := "ytplpaipmkpjgfaa", sum := "0c03b2d23256ef3016bb53f61899a318dde10e48bd39ee1244de7f1f5c325db0", func := "cairn/cairnlaw17.VotesJudges", spec := "votesJudges", unfollowed := true, recurses := true, plainKeys := false, apart := false }
def VotesJudgesSaid : Prop := votesJudgesRow.holds Try.pinned (OpenSpec.ofChange votesJudgesSpec)

/-- ITS FALSE NEIGHBOUR: 'it returns false'. Refute it at one input. -/
def votesJudgesWrong : ChangeSpec := { name := "votesJudges", fn := fun _ => fun
  | [d1, d2] => { results := [.lit (.bool false)], args := [d1, d2] }
  | _ => none }
def VotesJudgesWrongFalsely : Prop := votesJudgesRow.holds Try.pinned (OpenSpec.ofChange votesJudgesWrong)

/-- 'cairnlaw17.VotesGroups': WHATEVER THE INPUT: true; the input reads as it did. -/
def votesGroupsSpec : ChangeSpec := { name := "votesGroups", fn := fun _ => fun
  | [d1, d2] => { results := [.lit (.bool true)], args := [d1, d2] }
  | _ => none }
def votesGroupsRow : OpenClaim := { program := "ytplpaipmkpjgfaa", sum := "0c03b2d23256ef3016bb53f61899a318dde10e48bd39ee1244de7f1f5c325db0", func := "cairn/cairnlaw17.VotesGroups", spec := "votesGroups", unfollowed := true, recurses := true, plainKeys := false, apart := false }
def VotesGroupsSaid : Prop := votesGroupsRow.holds Try.pinned (OpenSpec.ofChange votesGroupsSpec)

/-- ITS FALSE NEIGHBOUR: 'it returns false'. Refute it at one input. -/
def votesGroupsWrong : ChangeSpec := { name := "votesGroups", fn := fun _ => fun
  | [d1, d2] => { results := [.lit (.bool false)], args := [d1, d2] }
  | _ => none }
def VotesGroupsWrongFalsely : Prop := votesGroupsRow.holds Try.pinned (OpenSpec.ofChange votesGroupsWrong)

/-- 'cairnlaw17.VotesHidden': WHATEVER THE INPUT: true; the input reads as it did. -/
def votesHiddenSpec : ChangeSpec := { name := "votesHidden", fn := fun _ => fun
  | [d1, d2, d3] => { results := [.lit (.bool true)], args := [d1, d2, d3] }
  | _ => none }
def votesHiddenRow : OpenClaim := { program := "ytplpaipmkpjgfaa", sum := "0c03b2d23256ef3016bb53f61899a318dde10e48bd39ee1244de7f1f5c325db0", func := "cairn/cairnlaw17.VotesHidden", spec := "votesHidden", unfollowed := true, recurses := true, plainKeys := false, apart := false }
def VotesHiddenSaid : Prop := votesHiddenRow.holds Try.pinned (OpenSpec.ofChange votesHiddenSpec)

/-- ITS FALSE NEIGHBOUR: 'it returns false'. Refute it at one input. -/
def votesHiddenWrong : ChangeSpec := { name := "votesHidden", fn := fun _ => fun
  | [d1, d2, d3] => { results := [.lit (.bool false)], args := [d1, d2, d3] }
  | _ => none }
def VotesHiddenWrongFalsely : Prop := votesHiddenRow.holds Try.pinned (OpenSpec.ofChange votesHiddenWrong)

/-- 'cairnlaw17.VotesFew': WHATEVER THE INPUT: true; the input reads as it did. -/
def votesFewSpec : ChangeSpec := { name := "votesFew", fn := fun _ => fun
  | [d1, d2] => { results := [.lit (.bool true)], args := [d1, d2] }
  | _ => none }
def votesFewRow : OpenClaim := { program := "ytplpaipmkpjgfaa", sum := "0c03b2d23256ef3016bb53f61899a318dde10e48bd39ee1244de7f1f5c325db0", func := "cairn/cairnlaw17.VotesFew", spec := "votesFew", unfollowed := true, recurses := true, plainKeys := false, apart := false }
def VotesFewSaid : Prop := votesFewRow.holds Try.pinned (OpenSpec.ofChange votesFewSpec)

/-- ITS FALSE NEIGHBOUR: 'it returns false'. Refute it at one input. -/
def votesFewWrong : ChangeSpec := { name := "votesFew", fn := fun _ => fun
  | [d1, d2] => { results := [.lit (.bool false)], args := [d1, d2] }
  | _ => none }
def VotesFewWrongFalsely : Prop := votesFewRow.holds Try.pinned (OpenSpec.ofChange votesFewWrong)

/-- 'cairnlaw17.VotesMoved': WHATEVER THE INPUT: true; the input reads as it did. -/
def votesMovedSpec : ChangeSpec := { name := "votesMoved", fn := fun _ => fun
  | [d] => { results := [.lit (.bool true)], args := [d] }
  | _ => none }
def votesMovedRow : OpenClaim := { program := "ytplpaipmkpjgfaa", sum := "0c03b2d23256ef3016bb53f61899a318dde10e48bd39ee1244de7f1f5c325db0", func := "cairn/cairnlaw17.VotesMoved", spec := "votesMoved", unfollowed := true, recurses := true, plainKeys := false, apart := false }
def VotesMovedSaid : Prop := votesMovedRow.holds Try.pinned (OpenSpec.ofChange votesMovedSpec)

/-- ITS FALSE NEIGHBOUR: 'it returns false'. Refute it at one input. -/
def votesMovedWrong : ChangeSpec := { name := "votesMoved", fn := fun _ => fun
  | [d] => { results := [.lit (.bool false)], args := [d] }
  | _ => none }
def VotesMovedWrongFalsely : Prop := votesMovedRow.holds Try.pinned (OpenSpec.ofChange votesMovedWrong)

/-- 'cairnlaw17.VotesOwn': WHATEVER THE INPUT: true; the input reads as it did. -/
def votesOwnSpec : ChangeSpec := { name := "votesOwn", fn := fun _ => fun
  | [d1, d2, d3] => { results := [.lit (.bool true)], args := [d1, d2, d3] }
  | _ => none }
def votesOwnRow : OpenClaim := { program := "ytplpaipmkpjgfaa", sum := "0c03b2d23256ef3016bb53f61899a318dde10e48bd39ee1244de7f1f5c325db0", func := "cairn/cairnlaw17.VotesOwn", spec := "votesOwn", unfollowed := true, recurses := true, plainKeys := false, apart := false }
def VotesOwnSaid : Prop := votesOwnRow.holds Try.pinned (OpenSpec.ofChange votesOwnSpec)

/-- ITS FALSE NEIGHBOUR: 'it returns false'. Refute it at one input. -/
def votesOwnWrong : ChangeSpec := { name := "votesOwn", fn := fun _ => fun
  | [d1, d2, d3] => { results := [.lit (.bool false)], args := [d1, d2, d3] }
  | _ => none }
def VotesOwnWrongFalsely : Prop := votesOwnRow.holds Try.pinned (OpenSpec.ofChange votesOwnWrong)

/- THE SECOND FORM. 'bulk': how many values and letters a reading holds, each counted each time it is reached (what is shared counts as often as it is met; a slice's spare places count too). A statement '..UptoSaid' is the law's where the arguments, and the package variables that the reading takes, are together of bulk at most 1048576: NARROWER than '..Said'. Prove '..Said' where nothing that the law and all that it calls make is longer than what came in: it says more and counts as full. Else prove '..UptoSaid'. A law counts once. -/
mutual
def uptoBulk {H : Type} : DataW H → Nat
  | .lit (.string bytes) => bytes.length + 1
  | .lit _ => 1
  | .nil => 1
  | .ptr d => uptoBulk d + 1
  | .slice elems spare => uptoBulkAll elems + uptoBulkAll spare + 1
  | .agg parts => uptoBulkAll parts + 1
  | .iface _ d => uptoBulk d + 1
  | .map entries => uptoBulkEntries entries + 1
  | .held _ => 1
def uptoBulkAll {H : Type} : List (DataW H) → Nat
  | [] => 0
  | d :: r => uptoBulk d + uptoBulkAll r
def uptoBulkEntries {H : Type} : List (Lit × DataW H) → Nat
  | [] => 0
  | x :: r => uptoBulkEntry x + uptoBulkEntries r
def uptoBulkEntry {H : Type} : Lit × DataW H → Nat
  | (.string bytes, d) => bytes.length + uptoBulk d + 1
  | (_, d) => uptoBulk d + 1
 end
def uptoSmall : (H : Type) → List (DataW H) → Bool := fun _ ds => decide (uptoBulkAll ds ≤ 1048576)
def OpenSpec.upto (s : _root_.Go.ChangeSpec) : _root_.Go.OpenSpec := { _root_.Go.OpenSpec.ofChange s with cond := some uptoSmall }

/-- 'cairnlaw17.VotesStale', WHERE WHAT IT READS IS OF BULK AT MOST 1048576: true; the input reads as it did. -/
def votesStaleUptoRow : OpenClaim := { program := "ytplpaipmkpjgfaa", sum := "0c03b2d23256ef3016bb53f61899a318dde10e48bd39ee1244de7f1f5c325db0", func := "cairn/cairnlaw17.VotesStale", spec := "votesStale", plainKeys := false, apart := false, narrowed := true }
def VotesStaleUptoSaid : Prop := votesStaleUptoRow.holds Try.pinned (OpenSpec.upto votesStaleSpec)

/-- 'cairnlaw17.VotesJudges', WHERE WHAT IT READS IS OF BULK AT MOST 1048576: true; the input reads as it did. -/
def votesJudgesUptoRow : OpenClaim := { program := "ytplpaipmkpjgfaa", sum := "0c03b2d23256ef3016bb53f61899a318dde10e48bd39ee1244de7f1f5c325db0", func := "cairn/cairnlaw17.VotesJudges", spec := "votesJudges", unfollowed := true, recurses := true, plainKeys := false, apart := false, narrowed := true }
def VotesJudgesUptoSaid : Prop := votesJudgesUptoRow.holds Try.pinned (OpenSpec.upto votesJudgesSpec)

/-- 'cairnlaw17.VotesGroups', WHERE WHAT IT READS IS OF BULK AT MOST 1048576: true; the input reads as it did. -/
def votesGroupsUptoRow : OpenClaim := { program := "ytplpaipmkpjgfaa", sum := "0c03b2d23256ef3016bb53f61899a318dde10e48bd39ee1244de7f1f5c325db0", func := "cairn/cairnlaw17.VotesGroups", spec := "votesGroups", unfollowed := true, recurses := true, plainKeys := false, apart := false, narrowed := true }
def VotesGroupsUptoSaid : Prop := votesGroupsUptoRow.holds Try.pinned (OpenSpec.upto votesGroupsSpec)

/-- 'cairnlaw17.VotesHidden', WHERE WHAT IT READS IS OF BULK AT MOST 1048576: true; the input reads as it did. -/
def votesHiddenUptoRow : OpenClaim := { program := "ytplpaipmkpjgfaa", sum := "0c03b2d23256ef3016bb53f61899a318dde10e48bd39ee1244de7f1f5c325db0", func := "cairn/cairnlaw17.VotesHidden", spec := "votesHidden", unfollowed := true, recurses := true, plainKeys := false, apart := false, narrowed := true }
def VotesHiddenUptoSaid : Prop := votesHiddenUptoRow.holds Try.pinned (OpenSpec.upto votesHiddenSpec)

/-- 'cairnlaw17.VotesFew', WHERE WHAT IT READS IS OF BULK AT MOST 1048576: true; the input reads as it did. -/
def votesFewUptoRow : OpenClaim := { program := "ytplpaipmkpjgfaa", sum := "0c03b2d23256ef3016bb53f61899a318dde10e48bd39ee1244de7f1f5c325db0", func := "cairn/cairnlaw17.VotesFew", spec := "votesFew", unfollowed := true, recurses := true, plainKeys := false, apart := false, narrowed := true }
def VotesFewUptoSaid : Prop := votesFewUptoRow.holds Try.pinned (OpenSpec.upto votesFewSpec)

/-- 'cairnlaw17.VotesMoved', WHERE WHAT IT READS IS OF BULK AT MOST 1048576: true; the input reads as it did. -/
def votesMovedUptoRow : OpenClaim := { program := "ytplpaipmkpjgfaa", sum := "0c03b2d23256ef3016bb53f61899a318dde10e48bd39ee1244de7f1f5c325db0", func := "cairn/cairnlaw17.VotesMoved", spec := "votesMoved", unfollowed := true, recurses := true, plainKeys := false, apart := false, narrowed := true }
def VotesMovedUptoSaid : Prop := votesMovedUptoRow.holds Try.pinned (OpenSpec.upto votesMovedSpec)

/-- 'cairnlaw17.VotesOwn', WHERE WHAT IT READS IS OF BULK AT MOST 1048576: true; the input reads as it did. -/
def votesOwnUptoRow : OpenClaim := { program := "ytplpaipmkpjgfaa", sum := "0c03b2d23256ef3016bb53f61899a318dde10e48bd39ee1244de7f1f5c325db0", func := "cairn/cairnlaw17.VotesOwn", spec := "votesOwn", unfollowed := true, recurses := true, plainKeys := false, apart := false, narrowed := true }
def VotesOwnUptoSaid : Prop := votesOwnUptoRow.holds Try.pinned (OpenSpec.upto votesOwnSpec)

end Rows
end Go.Proofs.Ytplpaipmkpjgfaa
