/- VotesStale: for every input the Go function VotesStale returns true and leaves its arguments as they were. The walk stands in YtplpaipmkpjgfaaStaleWalk; here it is lifted to the given statement. -/
import Derived.Test.YtplpaipmkpjgfaaStaleWalk
import Derived.Test.YtplpaipmkpjgfaaArgs
import Derived.Test.YtplpaipmkpjgfaaSeenArg
import Derived.ProofKit
import Derived.OpenShut
import Derived.ShutString
import Derived.ChangeOld
import Derived.Below
import Derived.SizedLaws
namespace Go.Proofs.Ytplpaipmkpjgfaa.votesStaleFrame
open Go.ChangeShapes Go.WideShapes Go.ChangeAt Go.RowKit
open Go.ChangeMaps (open_string shut_string)
set_option linter.unusedVariables false
theorem own : ownKnob Try.prog.godebug = none := by kernel_rfl
theorem laidOut : laidOutB Try.prog = true := by kernel_rfl
section
variable {H : Type} {enc : TypeId × Value → H} {w : World} {base : Nat} {held : Bool}
theorem cells_verdict : Try.prog.cellsOf 27 = 5 := by kernel_rfl
theorem cells_ints : Try.prog.cellsOf 25 = 1 := by kernel_rfl
set_option maxRecDepth 8000 in
theorem open_verdict {fuel : Nat} {cs : List Value} {x : DataW H × List MemPlace} (h : DataW.trod enc Try.prog w base (fun _ => true) held fuel 27 cs = some x) (hw : ∀ m ∈ x.1.weights Try.prog 27, m ≤ 140737488351232) :
    ∃ (vk ep ct sz : Int) (a : Option Addr) (len cap : Nat) (z : List Int), cs = [.int .i64 vk, .int .i64 ep, .int .i64 ct, .int .i64 sz, .slice a len cap] ∧ IsRow .i64 w a len cap z ∧ len ≤ cap ∧ cap * 8 ≤ 140737488351232 := by
  obtain ⟨xs, m, rfl, hxe, hlen, hl, hf⟩ := DataW.trod_struct Try.underlying27 h
  rw [cells_verdict] at hlen
  obtain ⟨v0, v1, v2, v3, v4, rfl⟩ : ∃ v0 v1 v2 v3 v4, cs = [v0, v1, v2, v3, v4] := by
    match cs, hlen with
    | [a, b, c, d, e], _ => exact ⟨a, b, c, d, e, rfl⟩
  obtain ⟨y0, h0⟩ := get_some xs 4 0 hl (by omega)
  obtain ⟨y1, h1⟩ := get_some xs 4 1 hl (by omega)
  obtain ⟨y2, h2⟩ := get_some xs 4 2 hl (by omega)
  obtain ⟨y3, h3⟩ := get_some xs 4 3 hl (by omega)
  have g0 := fld hf 0 3 0 rfl rfl rfl
  have g1 := fld hf 1 24 1 rfl rfl rfl
  have g2 := fld hf 2 3 3 rfl rfl rfl
  have g3 := fld hf 3 25 4 rfl rfl rfl
  rw [cells_int] at g0 g2
  rw [cells_gen] at g1
  rw [cells_ints] at g3
  obtain ⟨vk, rfl, _⟩ := open_ints2 Try.underlying3 (part_of g0 (cs2 := [v0]) rfl h0)
  obtain ⟨ep, ct, rfl, rfl, _, _⟩ := open_gen (part_of g1 (cs2 := [v1, v2]) rfl h1)
  obtain ⟨sz, rfl, _⟩ := open_ints2 Try.underlying3 (part_of g2 (cs2 := [v3]) rfl h2)
  have g3' := part_of g3 (cs2 := [v4]) rfl h3
  have hw3 : ∀ m ∈ y3.1.weights Try.prog 25, m ≤ 140737488351232 := fun m hm => by
    refine hw m ?_
    rw [hxe]
    simp only [DataW.weights, Try.underlying27]
    exact DataW.weights_mem_each (j := 3) (t := 25) (d := y3.1) rfl (by rw [List.getElem?_map, h3]; rfl) m hm
  rcases open_ints Try.underlying25 Try.underlying3 cells_int g3' with ⟨hcs, _⟩ | ⟨x3, l, c, zs, hcs, _, hl', hm, hz, hx, hcell, hwz⟩
  · obtain rfl := (List.cons.inj hcs).1
    exact ⟨vk, ep, ct, sz, none, 0, 0, [], rfl, .inl ⟨rfl, rfl, rfl, rfl⟩, Nat.le_refl _, by omega⟩
  · obtain rfl := (List.cons.inj hcs).1
    refine ⟨vk, ep, ct, sz, some x3, l, c, zs, rfl, .inr ⟨_, rfl, hl', hm, by simpa using hz, hcell, hwz⟩, hl', ?_⟩
    refine hw3 (c * 8) ?_
    rw [hx]
    simp only [DataW.weights, Try.underlying25, List.mem_cons]
    left
    rw [show Try.prog.bytesOf 3 = 8 by kernel_rfl]
    have : zs.length = c := by simpa using hz
    have e : (lits (H := H) .i64 (zs.take l)).length + (lits (H := H) .i64 (zs.drop l)).length = c := by simp only [lits, List.length_map, List.length_take, List.length_drop]; omega
    rw [e]
end
set_option maxRecDepth 100000 in
theorem lifted (os : Os) (started : os.Started) (H : Type) (enc : TypeId × Value → H) :
    ReturnsInHanded {} Try.checked os 3 .any (Rows.votesStaleSpec.pre6 enc Try.prog Try.f3 Rows.votesStaleRow.domain false) (Rows.votesStaleSpec.post enc Try.prog Try.f3 false true false false) := by
  refine returnsInHanded_of_change_sized (C := Try.checked) own started (by kernel_rfl) Try.func3
    (ChangeSpec.witness6 (enc := enc) (C := Try.checked) false ⟨#[], #[.slice none 0 0, .agg #[.int .i64 0, .int .i64 0, .int .i64 0, .int .i64 0, .slice none 0 0]], []⟩ 8 (by kernel_rfl) (by kernel_rfl) (by kernel_rfl) (by kernel_rfl)) ?_
  intro W base args ds gs before hval0 hW hcnd hsz _
  have hval : ∀ (j : Nat) t v, Try.f3.params[j]? = some t → args[j]? = some v → Value.okWide Try.prog W .any base t v := hval0
  have hW' := hW
  obtain ⟨p, q, hA0, hV, rfl, hfz, hnd⟩ := hW
  have hA : DataW.TrodAll enc Try.prog W 0 (fun _ => true) true Try.f3.params.toList args.toList ds p := hA0
  rw [Try.params3] at hA hval
  obtain ⟨v0, vs0, d0, ds0, p0, q0, hargs, rfl, rfl, h0, r0⟩ := trodAll_cons hA
  obtain ⟨v1, vs1, d1, ds1, p1, q1, rfl, rfl, rfl, h1, r1⟩ := trodAll_cons r0
  obtain ⟨rfl, rfl, rfl⟩ := trodAll_nil r1
  obtain rfl : args = #[v0, v1] := by cases args; simp_all
  obtain ⟨rfl, rfl⟩ := trodVars_none hV
  have k0 := h0
  have lt0 : ∀ x ∈ p0, x.block < W.heap.size := by obtain ⟨m, hm⟩ := k0; exact DataW.trod_lt m _ _ _ hm
  have k1 := h1
  have lt1 : ∀ x ∈ p1, x.block < W.heap.size := by obtain ⟨m, hm⟩ := k1; exact DataW.trod_lt m _ _ _ hm
  clear hA0 hval0
  obtain ⟨A, n, c, rfl⟩ := okWide_slice Try.underlying22 (hval 0 22 v0 rfl rfl)
  obtain ⟨cs1, rfl, _⟩ := okWide_struct Try.underlying27 (hval 1 27 v1 rfl rfl)
  obtain ⟨m0, hm0⟩ := h0
  obtain ⟨m1, hm1⟩ := h1
  obtain ⟨A', n', c', S, B, hcs, hnc, hSA⟩ := open_seen hm0 (fun m hm => by
    have := List.all_eq_true.1 hsz m (DataW.weights_mem_each (j := 0) rfl rfl m hm)
    exact of_decide_eq_true this)
  obtain ⟨vk, ep, ct, sz, a, len, cap, z, hcs1, hrow, hlc, hcap⟩ := open_verdict hm1 (fun m hm => by
    have := List.all_eq_true.1 hsz m (DataW.weights_mem_each (j := 1) rfl rfl m hm)
    exact of_decide_eq_true this)
  have e0 := (List.cons.inj (show [Value.slice A n c] = [Value.slice A' n' c'] from hcs)).1
  injection e0 with e0 e1 e2
  subst e0 e1 e2
  have e3 : cs1 = #[.int .i64 vk, .int .i64 ep, .int .i64 ct, .int .i64 sz, .slice a len cap] := Array.toList_inj.1 hcs1
  subst e3
  refine (stale_walk A n c S B vk ep ct sz a len cap z W hSA hrow hlc hcap).mono fun e W' ⟨he, bel⟩ => ?_
  subst he
  exact ⟨_, rfl, _, _, _, [], _, [], hW', trodAll_mk1 (shut_bool Try.underlying4 _), (trodAll_cons_mk (Below.trod laidOut (by kernel_rfl) (of_decide_eq_true (by kernel_rfl)) k0 bel lt0) (trodAll_cons_mk (Below.trod laidOut (by kernel_rfl) (of_decide_eq_true (by kernel_rfl)) k1 bel lt1) trodAll_mk0)), rfl, bel.frame _, fun h => by cases h⟩
theorem over : Rows.votesStaleRow.holds Try.pinned (OpenSpec.ofChange Rows.votesStaleSpec) :=
  OpenClaim.holds_of_wide 3 Try.f3 rfl rfl rfl rfl rfl rfl rfl ⟨rfl, rfl, rfl, rfl, rfl⟩ rfl rfl rfl rfl rfl (by kernel_rfl) Try.func3 (by kernel_rfl)
    (of_decide_eq_true (by kernel_rfl)) (by unfold Func.isWrapper; first | (rw [if_pos (by decide +kernel)]; kernel_rfl) | (rw [if_neg (by decide +kernel)]; exact ⟨rfl, rfl⟩))
    (fun os started H enc _ => lifted os started H enc)
theorem proved : Rows.VotesStaleSaid := over
#print axioms proved
end Go.Proofs.Ytplpaipmkpjgfaa.votesStaleFrame
