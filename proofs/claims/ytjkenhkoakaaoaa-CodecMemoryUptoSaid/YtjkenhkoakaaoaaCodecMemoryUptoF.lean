/- CodecMemoryUpto: for every input the Go function CodecMemory returns true and leaves its arguments as they were (where they are of bulk at most 1048576). The walk stands in YtjkenhkoakaaoaaMemoryEnd7; here it is lifted to the given statement. -/
import Derived.Test.YtjkenhkoakaaoaaMemoryEnd7
import Derived.Test.YtjkenhkoakaaoaaArgs
import Derived.ProofKit
import Derived.OpenShut
import Derived.ShutString
import Derived.ChangeOld
import Derived.Below
import Derived.SizedLaws
import Derived.JoinedCond
import Derived.Test.YtjkenhkoakaaoaaArgPuts
namespace Go.Proofs.Ytjkenhkoakaaoaa.codecMemoryUptoFrame
open Go.ChangeShapes Go.WideShapes Go.ChangeAt Go.RowKit
open Go.ChangeMaps (open_string shut_string)
set_option linter.unusedVariables false
theorem own : ownKnob Try.prog.godebug = none := by kernel_rfl
theorem laidOut : laidOutB Try.prog = true := by kernel_rfl
set_option maxRecDepth 100000 in
theorem contract (H : Type) (enc : TypeId × Value → H) (W : World) (base : Nat) (args : Array Value) (ds gs : List (DataW H)) (before : List MemPlace)
    (hval : ∀ (j : Nat) t v, Try.f9.params[j]? = some t → args[j]? = some v → Value.okWide Try.prog W .any base t v)
    (hW : DataW.Whole enc Try.prog Try.f9.params.toList Rows.codecMemorySpec.vars false W args.toList ds gs before) (hk : Rows.uptoSmall H (ds ++ gs) = true) :
    Calls Try.prog 9 args W fun e W' => ∃ v, e = .returned v ∧ Rows.codecMemorySpec.post enc Try.prog Try.f9 false true false false W args v W' := by
  have hW' := hW
  obtain ⟨p, q, hA0, hV, rfl, hfz, hnd⟩ := hW
  have hA : DataW.TrodAll enc Try.prog W 0 (fun _ => true) true Try.f9.params.toList args.toList ds p := hA0
  rw [Try.params9] at hA hval
  obtain ⟨v0, vs0, d0, ds0, p0, q0, hargs, rfl, rfl, h0, r0⟩ := trodAll_cons hA
  obtain ⟨v1, vs1, d1, ds1, p1, q1, rfl, rfl, rfl, h1, r1⟩ := trodAll_cons r0
  obtain ⟨rfl, rfl, rfl⟩ := trodAll_nil r1
  obtain rfl : args = #[v0, v1] := by cases args; simp_all
  obtain ⟨rfl, rfl⟩ := trodVars_none hV
  have k0 := h0
  have lt0 : ∀ x ∈ p0, x.block < W.heap.size := by obtain ⟨m, hm⟩ := k0; exact DataW.trod_lt m _ _ _ hm
  have hv0 := hval 0 51 v0 (by rfl) (by rfl)
  obtain ⟨Ab0, nb0, cb0, V0, S0, Ap0, np0, cp0, At0, kt0, ct0, e0, bs0, ps0, ts0, u0_0, u0_1, u0_2, u0_3, u0_4, u0_5, u0_6, u0_7, u0_8, u0_9, u0_10⟩ := open_puts Try.underlying51 (by kernel_rfl) Try.underlying45 rfl (by kernel_rfl) Try.underlying23 rfl (by kernel_rfl) Try.underlying2 rfl (by kernel_rfl) Try.underlying45 rfl (by kernel_rfl) Try.underlying49 rfl (by kernel_rfl) Try.underlying5 (by kernel_rfl) infoStr (by kernel_rfl) hv0 h0 (i := 0) (by rw [List.getElem?_append_left (by simp)]; rfl) hk
  subst e0
  have k1 := h1
  have lt1 : ∀ x ∈ p1, x.block < W.heap.size := by obtain ⟨m, hm⟩ := k1; exact DataW.trod_lt m _ _ _ hm
  have hv1 := hval 1 51 v1 (by rfl) (by rfl)
  obtain ⟨Ab1, nb1, cb1, V1, S1, Ap1, np1, cp1, At1, kt1, ct1, e1, bs1, ps1, ts1, u1_0, u1_1, u1_2, u1_3, u1_4, u1_5, u1_6, u1_7, u1_8, u1_9, u1_10⟩ := open_puts Try.underlying51 (by kernel_rfl) Try.underlying45 rfl (by kernel_rfl) Try.underlying23 rfl (by kernel_rfl) Try.underlying2 rfl (by kernel_rfl) Try.underlying45 rfl (by kernel_rfl) Try.underlying49 rfl (by kernel_rfl) Try.underlying5 (by kernel_rfl) infoStr (by kernel_rfl) hv1 h1 (i := 1) (by rw [List.getElem?_append_left (by simp)]; rfl) hk
  subst e1
  clear hA0
  refine (memory7_frame Ab0 nb0 cb0 V0 S0 Ap0 np0 cp0 At0 kt0 ct0 bs0 ps0 ts0 Ab1 nb1 cb1 V1 S1 Ap1 np1 cp1 At1 kt1 ct1 bs1 ps1 ts1 W u0_0 u0_1 u0_2 u0_3 u0_4 u0_5 u0_6 u0_7 u0_8 u0_9 u0_10 u1_0 u1_1 u1_2 u1_3 u1_4 u1_5 u1_6 u1_7 u1_8 u1_9 u1_10).mono fun e W' ⟨he, bel⟩ => ?_
  subst he
  exact ⟨_, rfl, _, _, _, [], _, [], hW', trodAll_mk1 (shut_bool Try.underlying4 _), (trodAll_cons_mk (Below.trod laidOut (by kernel_rfl) (of_decide_eq_true (by kernel_rfl)) k0 bel lt0) (trodAll_cons_mk (Below.trod laidOut (by kernel_rfl) (of_decide_eq_true (by kernel_rfl)) k1 bel lt1) trodAll_mk0)), rfl, bel.frame _, fun h => by cases h⟩
set_option maxRecDepth 100000 in
theorem lifted (os : Os) (started : os.Started) (H : Type) (enc : TypeId × Value → H) (F : Stop.Interp) :
    ReturnsInHanded {} Try.checked os 9 .any ((Rows.OpenSpec.upto Rows.codecMemorySpec).pre6 enc Try.prog Try.f9 Rows.codecMemoryUptoRow.domain false) (((Rows.OpenSpec.upto Rows.codecMemorySpec).at F).post enc Try.prog Try.f9 false true false false) := by
  refine returnsInHanded_of_cond (C := Try.checked) (s := Rows.OpenSpec.upto Rows.codecMemorySpec) (k := Rows.uptoSmall) rfl own started (by kernel_rfl) Try.func9
    (OpenSpec.witness (enc := enc) (C := Try.checked) (s := Rows.OpenSpec.upto Rows.codecMemorySpec) (k := Rows.uptoSmall) rfl false ⟨#[], #[.agg #[.slice none 0 0, .int .u64 0, .int .i64 0, .slice none 0 0, .slice none 0 0], .agg #[.slice none 0 0, .int .u64 0, .int .i64 0, .slice none 0 0, .slice none 0 0]], []⟩ 8 (by kernel_rfl) (by kernel_rfl) (by kernel_rfl)
      (x := ([.agg [.nil, .lit (.int .u64 0), .lit (.int .i64 0), .nil, .nil], .agg [.nil, .lit (.int .u64 0), .lit (.int .i64 0), .nil, .nil]], [], [])) (by kernel_rfl) rfl (by kernel_rfl)) ?_
  intro W base args ds gs before hval hW _ hk _
  exact contract H enc W base args ds gs before hval hW hk
theorem over : Rows.codecMemoryUptoRow.holds Try.pinned (Rows.OpenSpec.upto Rows.codecMemorySpec) :=
  OpenClaim.holds_of_cond 9 Try.f9 rfl rfl rfl rfl rfl rfl rfl ⟨rfl, rfl, rfl, rfl, rfl⟩ rfl rfl rfl rfl rfl (by kernel_rfl) Try.func9 (by kernel_rfl)
    (of_decide_eq_true (by kernel_rfl)) (by unfold Func.isWrapper; first | (rw [if_pos (by decide +kernel)]; kernel_rfl) | (rw [if_neg (by decide +kernel)]; exact ⟨rfl, rfl⟩))
    (fun os started H enc _ F => lifted os started H enc F)
theorem proved : Rows.CodecMemoryUptoSaid := over
#print axioms proved
end Go.Proofs.Ytjkenhkoakaaoaa.codecMemoryUptoFrame
