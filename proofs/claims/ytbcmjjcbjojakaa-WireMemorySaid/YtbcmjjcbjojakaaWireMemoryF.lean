/- WireMemory: for every input the Go function WireMemory returns true and leaves its arguments as they were. The walk stands in YtbcmjjcbjojakaaMemoryWalk; here it is lifted to the given statement. -/
import Derived.Test.YtbcmjjcbjojakaaMemoryWalk
import Derived.Test.YtbcmjjcbjojakaaPk2
import Derived.Test.YtbcmjjcbjojakaaPk9
import Derived.Test.YtbcmjjcbjojakaaFitX
import Derived.ProofKit
import Derived.OpenShut
import Derived.ShutString
import Derived.ChangeOld
import Derived.Below
import Derived.SizedLaws
namespace Go.Proofs.Ytbcmjjcbjojakaa.wireMemoryFrame
open Go.ChangeShapes Go.WideShapes Go.ChangeAt Go.RowKit
open Go.ChangeMaps (open_string shut_string)
set_option linter.unusedVariables false
theorem own : ownKnob Try.prog.godebug = none := by kernel_rfl
theorem laidOut : laidOutB Try.prog = true := by kernel_rfl
theorem short {n : Nat} (h : n ≤ 140737488351232) : n ≤ maxLen := by unfold maxLen; omega
theorem fitLaw : FitLaw := fun w a => fitAn_ap w a
set_option maxRecDepth 100000 in
theorem lifted (os : Os) (started : os.Started) (H : Type) (enc : TypeId × Value → H) :
  ReturnsInHanded {} Try.checked os 9 .any (Rows.wireMemorySpec.pre6 enc Try.prog Try.f9 Rows.wireMemoryRow.domain false) (Rows.wireMemorySpec.post enc Try.prog Try.f9 false true false false) := by
 refine returnsInHanded_of_change_sized (C := Try.checked) own started (by kernel_rfl) Try.func9
  (ChangeSpec.witness6 (enc := enc) (C := Try.checked) false ⟨#[], #[.agg #[.int .i64 0, .int .u64 0, .string ByteArray.empty, .string ByteArray.empty, .int .i64 0, .int .i64 0, .int .i64 0, .slice none 0 0], .agg #[.int .i64 0, .int .u64 0, .int .i64 0, .slice none 0 0, .slice none 0 0, .slice none 0 0, .string ByteArray.empty, .bool false, .int .i64 0, .int .i64 0, .int .i64 0, .int .i64 0, .int .i64 0, .int .i64 0, .int .i64 0]], []⟩ 8 (by kernel_rfl) (by kernel_rfl) (by kernel_rfl) (by kernel_rfl)) ?_
 intro W base args ds gs before hval0 hW hcnd hsz _
 have hval : ∀ (j : Nat) t v, Try.f9.params[j]? = some t → args[j]? = some v → Value.okWide Try.prog W .any base t v := hval0
 have hW' := hW
 obtain ⟨p, q, hA0, hV, rfl, hfz, hnd⟩ := hW
 have hA : DataW.TrodAll enc Try.prog W 0 (fun _ => true) true Try.f9.params.toList args.toList ds p := hA0
 rw [Try.params9] at hA hval
 obtain ⟨v0, vs0, d0, ds0, p0, q0, hargs, rfl, rfl, h0, r0⟩ := trodAll_cons hA
 obtain ⟨v1, vs1, d1, ds1, p1, q1, rfl, rfl, rfl, h1, r1⟩ := trodAll_cons r0
 obtain ⟨rfl, rfl, rfl⟩ := trodAll_nil r1
 obtain rfl : args = #[v0, v1] := by cases args; simp_all
 obtain ⟨rfl, rfl⟩ := trodVars_none hV
 have k0 := h0
 have lt0 : ∀ x ∈ p0, x.block < W.heap.size := by obtain ⟨m, hm⟩ := k0; exact DataW.trod_lt m _ _ _ hm
 have k1 := h1
 have lt1 : ∀ x ∈ p1, x.block < W.heap.size := by obtain ⟨m, hm⟩ := k1; exact DataW.trod_lt m _ _ _ hm
 clear hA0 hval0
 obtain ⟨cs1, rfl, _⟩ := okWide_struct Try.underlying28 (hval 0 28 v0 rfl rfl)
 obtain ⟨cs2, rfl, _⟩ := okWide_struct Try.underlying43 (hval 1 43 v1 rfl rfl)
 obtain ⟨m0, hm0⟩ := h0
 obtain ⟨m1, hm1⟩ := h1
 obtain ⟨_, R, A, n, c, hcs1, hr, hnc, hb, hk, hk1, hk2, hn⟩ := open_rqA _ _ _ hm0 (fun m hm => by
  have := List.all_eq_true.1 hsz m (DataW.weights_mem_each (j := 0) rfl rfl m hm)
  exact of_decide_eq_true this)
 obtain ⟨_, a, A1, n1, c1, A2, n2, c2, A3, n3, c3, hcs2, hr1, hr2, hr3, hnc1, hn1, _, hn2, _, hn3, hab, hak, hcd, hx, hs2, hs3⟩ := open_anA _ _ _ hm1 (fun m hm => by
  have := List.all_eq_true.1 hsz m (DataW.weights_mem_each (j := 1) rfl rfl m hm)
  exact of_decide_eq_true this)
 have e3 : cs1 = #[.int .i64 R.kind, .int .u64 (R.tag : Int), .string R.key, .string R.after, .int .i64 R.off, .int .i64 R.num, .int .i64 R.delim, .slice A n c] := Array.toList_inj.1 hcs1
 have e4 : cs2 = #[.int .i64 a.kind, .int .u64 (a.tag : Int), .int .i64 a.code, .slice A1 n1 c1, .slice A2 n2 c2, .slice A3 n3 c3, .string a.next, .bool a.more, .int .i64 a.ge, .int .i64 a.gc, .int .i64 a.size, .int .i64 a.h1, .int .i64 a.h2, .int .i64 a.h3, .int .i64 a.h4] := Array.toList_inj.1 hcs2
 subst e3 e4
 refine (memory_walk fitLaw W R.kind R.tag R.key R.after R.off R.num R.delim R.body A n c hr hnc ⟨hb.tag, hb.o1, hb.o2, hb.n1, hb.n2, hb.d1, hb.d2, hb.b⟩ (short hk1) (short hk2)
  a.kind a.code a.tag a.body a.keys a.groups a.next a.more a.ge a.gc a.size a.h1 a.h2 a.h3 a.h4 A1 A2 A3 n1 c1 n2 c2 n3 c3 hr1 hr2 hr3 hnc1 hn2 hn3 (fun gr => ⟨hab.tag, hab.b, hab.n⟩) (short hx) (fun t ht => short (hs2 t ht)) (fun t ht => short (hs3 t ht))).mono fun e W' ⟨he, bel⟩ => ?_
 subst he
 exact ⟨_, rfl, _, _, _, [], _, [], hW', trodAll_mk1 (shut_bool Try.underlying4 _), (trodAll_cons_mk (Below.trod laidOut (by kernel_rfl) (of_decide_eq_true (by kernel_rfl)) k0 bel lt0) (trodAll_cons_mk (Below.trod laidOut (by kernel_rfl) (of_decide_eq_true (by kernel_rfl)) k1 bel lt1) trodAll_mk0)), rfl, bel.frame _, fun h => by cases h⟩
theorem over : Rows.wireMemoryRow.holds Try.pinned (OpenSpec.ofChange Rows.wireMemorySpec) :=
 OpenClaim.holds_of_wide 9 Try.f9 rfl rfl rfl rfl rfl rfl rfl ⟨rfl, rfl, rfl, rfl, rfl⟩ rfl rfl rfl rfl rfl (by kernel_rfl) Try.func9 (by kernel_rfl)
  (of_decide_eq_true (by kernel_rfl)) (by unfold Func.isWrapper; first | (rw [if_pos (by decide +kernel)]; kernel_rfl) | (rw [if_neg (by decide +kernel)]; exact ⟨rfl, rfl⟩))
  (fun os started H enc _ => lifted os started H enc)
theorem proved : Rows.WireMemorySaid := over
#print axioms proved
end Go.Proofs.Ytbcmjjcbjojakaa.wireMemoryFrame
