/- VotesHidden: for every input the Go function VotesHidden returns true and leaves its arguments as they were. The walk stands in YtplpaipmkpjgfaaHiddenWalk; here it is lifted to the given statement. -/
import Derived.Test.YtplpaipmkpjgfaaHiddenWalk
import Derived.Test.YtplpaipmkpjgfaaArgs
import Derived.Test.YtplpaipmkpjgfaaSeenArg
import Derived.ProofKit
import Derived.OpenShut
import Derived.ShutString
import Derived.ChangeOld
import Derived.Below
import Derived.SizedLaws
namespace Go.Proofs.Ytplpaipmkpjgfaa.votesHiddenFrame
open Go.ChangeShapes Go.WideShapes Go.ChangeAt Go.RowKit
open Go.ChangeMaps (open_string shut_string)
set_option linter.unusedVariables false
theorem own : ownKnob Try.prog.godebug = none := by kernel_rfl
theorem laidOut : laidOutB Try.prog = true := by kernel_rfl
section
variable {H : Type} {enc : TypeId × Value → H} {w : World} {base : Nat} {held : Bool}
theorem open_rd {fuel : Nat} {cs : List Value} {x : DataW H × List MemPlace} (h : DataW.trod enc Try.prog w base (fun _ => true) held fuel 25 cs = some x) (hw : ∀ m ∈ x.1.weights Try.prog 25, m ≤ 140737488351232) : ∃ A n c zs, cs = [.slice A n c] ∧ Rd w w.heap.size A n (iz zs) ∧ n ≤ 140737488355328 := by
  rcases open_ints Try.underlying25 Try.underlying3 cells_int h with ⟨hcs, _⟩ | ⟨x3, l, c, zs, hcs, _, hl', hm, hz, hx, hcell, hwz⟩
  · exact ⟨none, 0, 0, [], hcs, Rd.nil, by omega⟩
  · refine ⟨some x3, l, c, zs.take l, hcs, row_rd (.inr ⟨_, rfl, hl', hm, by simpa using hz, hcell, hwz⟩) hl', ?_⟩
    have h8 := hw (c * 8) (by
      rw [hx]
      simp only [DataW.weights, Try.underlying25, List.mem_cons]
      left
      rw [show Try.prog.bytesOf 3 = 8 by kernel_rfl]
      have : zs.length = c := by simpa using hz
      have e : (lits (H := H) .i64 (zs.take l)).length + (lits (H := H) .i64 (zs.drop l)).length = c := by simp only [lits, List.length_map, List.length_take, List.length_drop]; omega
      rw [e])
    omega
end
set_option maxRecDepth 100000 in
theorem lifted (os : Os) (started : os.Started) (H : Type) (enc : TypeId × Value → H) :
    ReturnsInHanded {} Try.checked os 6 .any (Rows.votesHiddenSpec.pre6 enc Try.prog Try.f6 Rows.votesHiddenRow.domain false) (Rows.votesHiddenSpec.post enc Try.prog Try.f6 false true false false) := by
  refine returnsInHanded_of_change_sized (C := Try.checked) own started (by kernel_rfl) Try.func6
    (ChangeSpec.witness6 (enc := enc) (C := Try.checked) false ⟨#[], #[.agg #[.int .i64 0, .int .i64 0, .int .i64 0], .slice none 0 0, .slice none 0 0], []⟩ 8 (by kernel_rfl) (by kernel_rfl) (by kernel_rfl) (by kernel_rfl)) ?_
  intro W base args ds gs before hval0 hW hcnd hsz _
  have hval : ∀ (j : Nat) t v, Try.f6.params[j]? = some t → args[j]? = some v → Value.okWide Try.prog W .any base t v := hval0
  have hW' := hW
  obtain ⟨p, q, hA0, hV, rfl, hfz, hnd⟩ := hW
  have hA : DataW.TrodAll enc Try.prog W 0 (fun _ => true) true Try.f6.params.toList args.toList ds p := hA0
  rw [Try.params6] at hA hval
  obtain ⟨v0, vs0, d0, ds0, p0, q0, hargs, rfl, rfl, h0, r0⟩ := trodAll_cons hA
  obtain ⟨v1, vs1, d1, ds1, p1, q1, rfl, rfl, rfl, h1, r1⟩ := trodAll_cons r0
  obtain ⟨v2, vs2, d2, ds2, p2, q2, rfl, rfl, rfl, h2, r2⟩ := trodAll_cons r1
  obtain ⟨rfl, rfl, rfl⟩ := trodAll_nil r2
  obtain rfl : args = #[v0, v1, v2] := by cases args; simp_all
  obtain ⟨rfl, rfl⟩ := trodVars_none hV
  have k0 := h0
  have lt0 : ∀ x ∈ p0, x.block < W.heap.size := by obtain ⟨m, hm⟩ := k0; exact DataW.trod_lt m _ _ _ hm
  have k1 := h1
  have lt1 : ∀ x ∈ p1, x.block < W.heap.size := by obtain ⟨m, hm⟩ := k1; exact DataW.trod_lt m _ _ _ hm
  have k2 := h2
  have lt2 : ∀ x ∈ p2, x.block < W.heap.size := by obtain ⟨m, hm⟩ := k2; exact DataW.trod_lt m _ _ _ hm
  clear hA0 hval0
  obtain ⟨cs0, rfl, _⟩ := okWide_struct Try.underlying34 (hval 0 34 v0 rfl rfl)
  obtain ⟨A1, n1, c1, rfl⟩ := okWide_slice Try.underlying22 (hval 1 22 v1 rfl rfl)
  obtain ⟨A2, n2, c2, rfl⟩ := okWide_slice Try.underlying25 (hval 2 25 v2 rfl rfl)
  obtain ⟨m0, hm0⟩ := h0
  obtain ⟨m1, hm1⟩ := h1
  obtain ⟨m2, hm2⟩ := h2
  have hl0 : cs0.toList.length = 3 := by have := DataW.trod_struct Try.underlying34 hm0; obtain ⟨xs, m, _, _, hlen, _⟩ := this; rw [cells_shape] at hlen; exact hlen
  obtain ⟨x0, x1, x2, hx0⟩ : ∃ x0 x1 x2, cs0.toList = [x0, x1, x2] := by
    match h : cs0.toList, hl0 with
    | [a, b, c], _ => exact ⟨a, b, c, rfl⟩
  obtain ⟨k, m, b, rfl, rfl, rfl, jk, jm, jb⟩ := open_shape (part_of (xs := [_]) (i := 0) (by exact hm0) (show (Value.agg cs0).cells.toList = [x0, x1, x2] from hx0) rfl)
  have e0 : cs0 = #[.int .i64 k, .int .i64 m, .int .i64 b] := Array.toList_inj.1 hx0
  subst e0
  obtain ⟨A', n', c', S1, B1, hcs, hnc, hSA1⟩ := open_seen hm1 (fun m hm => by
    have := List.all_eq_true.1 hsz m (DataW.weights_mem_each (j := 1) rfl rfl m hm)
    exact of_decide_eq_true this)
  have e0 := (List.cons.inj (show [Value.slice A1 n1 c1] = [Value.slice A' n' c'] from hcs)).1
  injection e0 with e0 e1 e2
  subst e0 e1 e2
  obtain ⟨A', n', c', zs2, hcs, hZ2, hnz2⟩ := open_rd hm2 (fun m hm => by
    have := List.all_eq_true.1 hsz m (DataW.weights_mem_each (j := 2) rfl rfl m hm)
    exact of_decide_eq_true this)
  have e0 := (List.cons.inj (show [Value.slice A2 n2 c2] = [Value.slice A' n' c'] from hcs)).1
  injection e0 with e0 e1 e2
  subst e0 e1 e2
  refine (hidden_walk A1 n1 c1 S1 B1 k m b A2 n2 c2 zs2 W hSA1 hZ2 hnz2).mono fun e W' ⟨he, bel⟩ => ?_
  subst he
  exact ⟨_, rfl, _, _, _, [], _, [], hW', trodAll_mk1 (shut_bool Try.underlying4 _), (trodAll_cons_mk (Below.trod laidOut (by kernel_rfl) (of_decide_eq_true (by kernel_rfl)) k0 bel lt0) (trodAll_cons_mk (Below.trod laidOut (by kernel_rfl) (of_decide_eq_true (by kernel_rfl)) k1 bel lt1) (trodAll_cons_mk (Below.trod laidOut (by kernel_rfl) (of_decide_eq_true (by kernel_rfl)) k2 bel lt2) trodAll_mk0))), rfl, bel.frame _, fun h => by cases h⟩
theorem over : Rows.votesHiddenRow.holds Try.pinned (OpenSpec.ofChange Rows.votesHiddenSpec) :=
  OpenClaim.holds_of_wide 6 Try.f6 rfl rfl rfl rfl rfl rfl rfl ⟨rfl, rfl, rfl, rfl, rfl⟩ rfl rfl rfl rfl rfl (by kernel_rfl) Try.func6 (by kernel_rfl)
    (of_decide_eq_true (by kernel_rfl)) (by unfold Func.isWrapper; first | (rw [if_pos (by decide +kernel)]; kernel_rfl) | (rw [if_neg (by decide +kernel)]; exact ⟨rfl, rfl⟩))
    (fun os started H enc _ => lifted os started H enc)
theorem proved : Rows.VotesHiddenSaid := over
#print axioms proved
end Go.Proofs.Ytplpaipmkpjgfaa.votesHiddenFrame
