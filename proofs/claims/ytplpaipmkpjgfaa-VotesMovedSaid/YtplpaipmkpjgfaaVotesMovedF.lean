/- VotesMoved: for every input the Go function VotesMoved returns true and leaves its arguments as they were. The walk stands in YtplpaipmkpjgfaaMovesWalk; here it is lifted to the given statement. -/
import Derived.Test.YtplpaipmkpjgfaaMovesWalk
import Derived.Test.YtplpaipmkpjgfaaArgs
import Derived.Test.YtplpaipmkpjgfaaSeenArg
import Derived.ProofKit
import Derived.OpenShut
import Derived.ShutString
import Derived.ChangeOld
import Derived.Below
import Derived.SizedLaws
namespace Go.Proofs.Ytplpaipmkpjgfaa.votesMovedFrame
open Go.ChangeShapes Go.WideShapes Go.ChangeAt Go.RowKit
open Go.ChangeMaps (open_string shut_string)
set_option linter.unusedVariables false
theorem own : ownKnob Try.prog.godebug = none := by kernel_rfl
theorem laidOut : laidOutB Try.prog = true := by kernel_rfl
section
variable {H : Type} {enc : TypeId × Value → H} {w : World} {base : Nat} {held : Bool}
theorem cells_move : Try.prog.cellsOf 65 = 6 := by kernel_rfl
theorem cells_seens : Try.prog.cellsOf 22 = 1 := by kernel_rfl
set_option maxRecDepth 8000 in
theorem open_move {fuel : Nat} {cs : List Value} {x : DataW H × List MemPlace} (h : DataW.trod enc Try.prog w base (fun _ => true) held fuel 65 cs = some x) (hw : ∀ m ∈ x.1.weights Try.prog 65, m ≤ 140737488351232) :
    ∃ (k m b : Int) (A : Option Addr) (n c : Nat) (S : Nat → Sn) (B : Nat → List (List Nat)) (i j : Int), cs = [.int .i64 k, .int .i64 m, .int .i64 b, .slice A n c, .int .i64 i, .int .i64 j] ∧ SeenA w A n S B := by
  obtain ⟨xs, m, rfl, hxe, hlen, hl, hf⟩ := DataW.trod_struct Try.underlying65 h
  rw [cells_move] at hlen
  obtain ⟨v0, v1, v2, v3, v4, v5, rfl⟩ : ∃ v0 v1 v2 v3 v4 v5, cs = [v0, v1, v2, v3, v4, v5] := by
    match cs, hlen with
    | [a, b, c, d, e, f], _ => exact ⟨a, b, c, d, e, f, rfl⟩
  obtain ⟨y0, h0⟩ := get_some xs 4 0 hl (by omega)
  obtain ⟨y1, h1⟩ := get_some xs 4 1 hl (by omega)
  obtain ⟨y2, h2⟩ := get_some xs 4 2 hl (by omega)
  obtain ⟨y3, h3⟩ := get_some xs 4 3 hl (by omega)
  have g0 := fld hf 0 34 0 rfl rfl rfl
  have g1 := fld hf 1 22 3 rfl rfl rfl
  have g2 := fld hf 2 3 4 rfl rfl rfl
  have g3 := fld hf 3 3 5 rfl rfl rfl
  rw [cells_shape] at g0
  rw [cells_seens] at g1
  rw [cells_int] at g2 g3
  obtain ⟨k, m', b, rfl, rfl, rfl, _, _, _⟩ := open_shape (part_of g0 (cs2 := [v0, v1, v2]) rfl h0)
  have g1' := part_of g1 (cs2 := [v3]) rfl h1
  obtain ⟨i, rfl, _⟩ := open_ints2 Try.underlying3 (part_of g2 (cs2 := [v4]) rfl h2)
  obtain ⟨j, rfl, _⟩ := open_ints2 Try.underlying3 (part_of g3 (cs2 := [v5]) rfl h3)
  obtain ⟨A, n, c, S, B, hcs, _, hS⟩ := open_seen g1' (fun m hm => by
    refine hw m ?_
    rw [hxe]
    simp only [DataW.weights, Try.underlying65]
    exact DataW.weights_mem_each (j := 1) (t := 22) (d := y1.1) rfl (by rw [List.getElem?_map, h1]; rfl) m hm)
  obtain rfl := (List.cons.inj hcs).1
  exact ⟨k, m', b, A, n, c, S, B, i, j, rfl, hS⟩
end
set_option maxRecDepth 100000 in
theorem lifted (os : Os) (started : os.Started) (H : Type) (enc : TypeId × Value → H) :
    ReturnsInHanded {} Try.checked os 8 .any (Rows.votesMovedSpec.pre6 enc Try.prog Try.f8 Rows.votesMovedRow.domain false) (Rows.votesMovedSpec.post enc Try.prog Try.f8 false true false false) := by
  refine returnsInHanded_of_change_sized (C := Try.checked) own started (by kernel_rfl) Try.func8
    (ChangeSpec.witness6 (enc := enc) (C := Try.checked) false ⟨#[], #[.agg #[.int .i64 0, .int .i64 0, .int .i64 0, .slice none 0 0, .int .i64 0, .int .i64 0]], []⟩ 8 (by kernel_rfl) (by kernel_rfl) (by kernel_rfl) (by kernel_rfl)) ?_
  intro W base args ds gs before hval0 hW hcnd hsz _
  have hval : ∀ (j : Nat) t v, Try.f8.params[j]? = some t → args[j]? = some v → Value.okWide Try.prog W .any base t v := hval0
  have hW' := hW
  obtain ⟨p, q, hA0, hV, rfl, hfz, hnd⟩ := hW
  have hA : DataW.TrodAll enc Try.prog W 0 (fun _ => true) true Try.f8.params.toList args.toList ds p := hA0
  rw [Try.params8] at hA hval
  obtain ⟨v0, vs0, d0, ds0, p0, q0, hargs, rfl, rfl, h0, r0⟩ := trodAll_cons hA
  obtain ⟨rfl, rfl, rfl⟩ := trodAll_nil r0
  obtain rfl : args = #[v0] := by cases args; simp_all
  obtain ⟨rfl, rfl⟩ := trodVars_none hV
  have k0 := h0
  have lt0 : ∀ x ∈ p0, x.block < W.heap.size := by obtain ⟨m, hm⟩ := k0; exact DataW.trod_lt m _ _ _ hm
  clear hA0 hval0
  obtain ⟨cs0, rfl, _⟩ := okWide_struct Try.underlying65 (hval 0 65 v0 rfl rfl)
  obtain ⟨m0, hm0⟩ := h0
  obtain ⟨k, m, b, A, n, c, S, B, i, j, hcs, hSA⟩ := open_move hm0 (fun m hm => by
    have := List.all_eq_true.1 hsz m (DataW.weights_mem_each (j := 0) rfl rfl m hm)
    exact of_decide_eq_true this)
  have e3 : cs0 = #[.int .i64 k, .int .i64 m, .int .i64 b, .slice A n c, .int .i64 i, .int .i64 j] := Array.toList_inj.1 hcs
  subst e3
  refine (moved_walk A n c S B k m b i j W hSA).mono fun e W' ⟨he, bel⟩ => ?_
  subst he
  exact ⟨_, rfl, _, _, _, [], _, [], hW', trodAll_mk1 (shut_bool Try.underlying4 _), (trodAll_cons_mk (Below.trod laidOut (by kernel_rfl) (of_decide_eq_true (by kernel_rfl)) k0 bel lt0) trodAll_mk0), rfl, bel.frame _, fun h => by cases h⟩
theorem over : Rows.votesMovedRow.holds Try.pinned (OpenSpec.ofChange Rows.votesMovedSpec) :=
  OpenClaim.holds_of_wide 8 Try.f8 rfl rfl rfl rfl rfl rfl rfl ⟨rfl, rfl, rfl, rfl, rfl⟩ rfl rfl rfl rfl rfl (by kernel_rfl) Try.func8 (by kernel_rfl)
    (of_decide_eq_true (by kernel_rfl)) (by unfold Func.isWrapper; first | (rw [if_pos (by decide +kernel)]; kernel_rfl) | (rw [if_neg (by decide +kernel)]; exact ⟨rfl, rfl⟩))
    (fun os started H enc _ => lifted os started H enc)
theorem proved : Rows.VotesMovedSaid := over
#print axioms proved
end Go.Proofs.Ytplpaipmkpjgfaa.votesMovedFrame
