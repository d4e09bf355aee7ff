/- VotesOwnUpto: for every input the Go function VotesOwn returns true and leaves its arguments as they were (where they are of bulk at most 1048576). The walk stands in YtplpaipmkpjgfaaOwnWalk; here it is lifted to the given statement. -/
import Derived.Test.YtplpaipmkpjgfaaOwnWalk
import Derived.Test.YtplpaipmkpjgfaaArgs
import Derived.Test.YtplpaipmkpjgfaaSeenArg
import Derived.Test.YtplpaipmkpjgfaaWeigh
import Derived.ProofKit
import Derived.OpenShut
import Derived.ShutString
import Derived.ChangeOld
import Derived.Below
import Derived.SizedLaws
import Derived.JoinedCond
namespace Go.Proofs.Ytplpaipmkpjgfaa.votesOwnUptoFrame
open Go.ChangeShapes Go.WideShapes Go.ChangeAt Go.RowKit
open Go.ChangeMaps (open_string shut_string)
set_option linter.unusedVariables false
theorem own : ownKnob Try.prog.godebug = none := by kernel_rfl
theorem laidOut : laidOutB Try.prog = true := by kernel_rfl
theorem seen_len {H : Type} {enc : TypeId × Value → H} {w : World} {base : Nat} {held : Bool} {fuel : Nat} {A : Option Addr} {n c : Nat} {x : DataW H × List MemPlace} (h : DataW.trod enc Try.prog w base (fun _ => true) held fuel 22 [.slice A n c] = some x) {M : Nat} (hw : ∀ m ∈ x.1.weights Try.prog 22, m ≤ M) : n * 120 ≤ M := by
  rcases Go.Deep.open_slice Try.underlying22 h with ⟨e, _⟩ | ⟨a, len, cap, m, n', D, Pl, e, _, hl, hm, hmm, hxe, hx⟩
  · have e := (List.cons.inj e).1
    injection e with _ e _
    subst e
    omega
  · simp only [if_true] at hmm
    subst hmm
    have e := (List.cons.inj e).1
    injection e with _ e _
    subst e
    have := hw (m * 120) (by
      rw [hxe]
      simp only [DataW.weights, Try.underlying22, List.mem_cons, List.length_map, List.length_range]
      left
      rw [show Try.prog.bytesOf 58 = 120 by kernel_rfl]
      congr 1; omega)
    omega
theorem small_len {H : Type} {enc : TypeId × Value → H} {w : World} {base : Nat} {held : Bool} {fuel : Nat} {A : Option Addr} {n c i : Nat} {x : DataW H × List MemPlace} {ds : List (DataW H)} (h : DataW.trod enc Try.prog w base (fun _ => true) held fuel 22 [.slice A n c] = some x) (hk : Rows.uptoSmall H ds = true) (hd : ds[i]? = some x.1) : n ≤ 33554432 := by
  have hb : Rows.uptoBulkAll ds ≤ 1048576 := of_decide_eq_true hk
  have h1 := bulk_part hd
  have h2 := seen_len h (fun m hm => weigh steps_ok x.1 _ m (of_decide_eq_true (by kernel_rfl)) hm)
  have h3 : Rows.uptoBulk x.1 * (2 * 1024 + 1) ≤ 1048576 * (2 * 1024 + 1) := Nat.mul_le_mul_right _ (by omega)
  omega
set_option maxRecDepth 100000 in
theorem contract (H : Type) (enc : TypeId × Value → H) (W : World) (base : Nat) (args : Array Value) (ds gs : List (DataW H)) (before : List MemPlace)
    (hval : ∀ (j : Nat) t v, Try.f9.params[j]? = some t → args[j]? = some v → Value.okWide Try.prog W .any base t v)
    (hW : DataW.Whole enc Try.prog Try.f9.params.toList Rows.votesOwnSpec.vars false W args.toList ds gs before) (hk : Rows.uptoSmall H (ds ++ gs) = true) :
    Calls Try.prog 9 args W fun e W' => ∃ v, e = .returned v ∧ Rows.votesOwnSpec.post enc Try.prog Try.f9 false true false false W args v W' := by
  have hW' := hW
  obtain ⟨p, q, hA0, hV, rfl, hfz, hnd⟩ := hW
  have hA : DataW.TrodAll enc Try.prog W 0 (fun _ => true) true Try.f9.params.toList args.toList ds p := hA0
  rw [Try.params9] at hA hval
  obtain ⟨v0, vs0, d0, ds0, p0, q0, hargs, rfl, rfl, h0, r0⟩ := trodAll_cons hA
  obtain ⟨v1, vs1, d1, ds1, p1, q1, rfl, rfl, rfl, h1, r1⟩ := trodAll_cons r0
  obtain ⟨v2, vs2, d2, ds2, p2, q2, rfl, rfl, rfl, h2, r2⟩ := trodAll_cons r1
  obtain ⟨rfl, rfl, rfl⟩ := trodAll_nil r2
  obtain rfl : args = #[v0, v1, v2] := by cases args; simp_all
  obtain ⟨rfl, rfl⟩ := trodVars_none hV
  have k0 := h0
  have lt0 : ∀ x ∈ p0, x.block < W.heap.size := by obtain ⟨m, hm⟩ := k0; exact DataW.trod_lt m _ _ _ hm
  have k1 := h1
  have lt1 : ∀ x ∈ p1, x.block < W.heap.size := by obtain ⟨m, hm⟩ := k1; exact DataW.trod_lt m _ _ _ hm
  have k2 := h2
  have lt2 : ∀ x ∈ p2, x.block < W.heap.size := by obtain ⟨m, hm⟩ := k2; exact DataW.trod_lt m _ _ _ hm
  clear hA0
  obtain ⟨cs0, rfl, _⟩ := okWide_struct Try.underlying34 (hval 0 34 v0 rfl rfl)
  obtain ⟨A1, n1, c1, rfl⟩ := okWide_slice Try.underlying22 (hval 1 22 v1 rfl rfl)
  obtain ⟨A2, n2, c2, rfl⟩ := okWide_slice Try.underlying22 (hval 2 22 v2 rfl rfl)
  obtain ⟨m0, hm0⟩ := h0
  obtain ⟨m1, hm1⟩ := h1
  obtain ⟨m2, hm2⟩ := h2
  have hl0 : cs0.toList.length = 3 := by have := DataW.trod_struct Try.underlying34 hm0; obtain ⟨xs, m, _, _, hlen, _⟩ := this; rw [cells_shape] at hlen; exact hlen
  obtain ⟨x0, x1, x2, hx0⟩ : ∃ x0 x1 x2, cs0.toList = [x0, x1, x2] := by
    match h : cs0.toList, hl0 with
    | [a, b, c], _ => exact ⟨a, b, c, rfl⟩
  obtain ⟨k, m, b, rfl, rfl, rfl, jk, jm, jb⟩ := open_shape (part_of (xs := [_]) (i := 0) (by exact hm0) (show (Value.agg cs0).cells.toList = [x0, x1, x2] from hx0) rfl)
  have e0 : cs0 = #[.int .i64 k, .int .i64 m, .int .i64 b] := Array.toList_inj.1 hx0
  subst e0
  have g1 := small_len (i := 1) hm1 hk (by simp)
  have g2 := small_len (i := 2) hm2 hk (by simp)
  obtain ⟨A', n', c', S1, B1, hcs, hnc, hSA1⟩ := open_seen hm1 (weigh_upto (i := 1) (of_decide_eq_true (by kernel_rfl)) hk (by simp))
  have e0 := (List.cons.inj (show [Value.slice A1 n1 c1] = [Value.slice A' n' c'] from hcs)).1
  injection e0 with e0 e1 e2
  subst e0 e1 e2
  obtain ⟨A', n', c', S2, B2, hcs, hnc, hSA2⟩ := open_seen hm2 (weigh_upto (i := 2) (of_decide_eq_true (by kernel_rfl)) hk (by simp))
  have e0 := (List.cons.inj (show [Value.slice A2 n2 c2] = [Value.slice A' n' c'] from hcs)).1
  injection e0 with e0 e1 e2
  subst e0 e1 e2
  refine (own_walk W k m b A1 n1 c1 S1 B1 hSA1 A2 n2 c2 S2 B2 hSA2 g1 g2).mono fun e W' ⟨he, bel⟩ => ?_
  subst he
  exact ⟨_, rfl, _, _, _, [], _, [], hW', trodAll_mk1 (shut_bool Try.underlying4 _), (trodAll_cons_mk (Below.trod laidOut (by kernel_rfl) (of_decide_eq_true (by kernel_rfl)) k0 bel lt0) (trodAll_cons_mk (Below.trod laidOut (by kernel_rfl) (of_decide_eq_true (by kernel_rfl)) k1 bel lt1) (trodAll_cons_mk (Below.trod laidOut (by kernel_rfl) (of_decide_eq_true (by kernel_rfl)) k2 bel lt2) trodAll_mk0))), rfl, bel.frame _, fun h => by cases h⟩
set_option maxRecDepth 100000 in
theorem lifted (os : Os) (started : os.Started) (H : Type) (enc : TypeId × Value → H) (F : Stop.Interp) :
    ReturnsInHanded {} Try.checked os 9 .any ((Rows.OpenSpec.upto Rows.votesOwnSpec).pre6 enc Try.prog Try.f9 Rows.votesOwnUptoRow.domain false) (((Rows.OpenSpec.upto Rows.votesOwnSpec).at F).post enc Try.prog Try.f9 false true false false) := by
  refine returnsInHanded_of_cond (C := Try.checked) (s := Rows.OpenSpec.upto Rows.votesOwnSpec) (k := Rows.uptoSmall) rfl own started (by kernel_rfl) Try.func9
    (OpenSpec.witness (enc := enc) (C := Try.checked) (s := Rows.OpenSpec.upto Rows.votesOwnSpec) (k := Rows.uptoSmall) rfl false ⟨#[], #[.agg #[.int .i64 0, .int .i64 0, .int .i64 0], .slice none 0 0, .slice none 0 0], []⟩ 8 (by kernel_rfl) (by kernel_rfl) (by kernel_rfl)
      (x := ([.agg [.lit (.int .i64 0), .lit (.int .i64 0), .lit (.int .i64 0)], .nil, .nil], [], [])) (by kernel_rfl) rfl (by kernel_rfl)) ?_
  intro W base args ds gs before hval hW _ hk _
  exact contract H enc W base args ds gs before hval hW hk
theorem over : Rows.votesOwnUptoRow.holds Try.pinned (Rows.OpenSpec.upto Rows.votesOwnSpec) :=
  OpenClaim.holds_of_cond 9 Try.f9 rfl rfl rfl rfl rfl rfl rfl ⟨rfl, rfl, rfl, rfl, rfl⟩ rfl rfl rfl rfl rfl (by kernel_rfl) Try.func9 (by kernel_rfl)
    (of_decide_eq_true (by kernel_rfl)) (by unfold Func.isWrapper; first | (rw [if_pos (by decide +kernel)]; kernel_rfl) | (rw [if_neg (by decide +kernel)]; exact ⟨rfl, rfl⟩))
    (fun os started H enc _ F => lifted os started H enc F)
theorem proved : Rows.VotesOwnUptoSaid := over
#print axioms proved
end Go.Proofs.Ytplpaipmkpjgfaa.votesOwnUptoFrame
