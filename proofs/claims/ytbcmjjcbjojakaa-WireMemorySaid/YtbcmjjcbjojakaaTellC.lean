/- Contract of wire.Tell. (tools/tellgen.py prints it.) -/
import Derived.Test.YtbcmjjcbjojakaaPk7
import Derived.Deep.Cut
import Derived.Deep.Light
import Derived.Deep.CutRange
import Derived.Deep.RegionHeld3
namespace Go.Proofs.Ytbcmjjcbjojakaa
open Go.RowKit
set_option linter.unusedVariables false
set_option linter.unusedSimpArgs false
theorem infoAn : (Try.prog.info? 43).map (·.size) = some 15 := by kernel_rfl
set_option maxRecDepth 20000 in
set_option maxHeartbeats 8000000 in
theorem tell_any0 (w : World) (a : An) (kind code : Int) (tag : Nat) (body : List Nat) (keys groups : List ByteArray) (next : ByteArray) (more : Bool) (ge gc size h1 h2 h3 h4 : Int) (ha : a = ⟨kind, tag, code, body, keys, groups, next, more, ge, gc, size, h1, h2, h3, h4⟩) (A A2 A3 : Option Addr) (n c n2 c2 n3 c3 : Nat) (hr : Rd w w.heap.size A n (cb body)) (hr2 : Rd w w.heap.size A2 n2 (cs keys)) (hr3 : Rd w w.heap.size A3 n3 (cs groups)) (hb : AnB a) (hn2 : n2 ≤ 8796093022000) (hn3 : n3 ≤ 8796093022000) (hq1 : -9223372036854775808 ≤ kind ∧ kind ≤ 9223372036854775807) (hq2 : -9223372036854775808 ≤ code ∧ code ≤ 9223372036854775807) :
  Calls Try.prog 23 #[anV kind code tag A A2 A3 n c n2 c2 n3 c3 next more ge gc size h1 h2 h3 h4] w (TellPost a w) := by
 have HAn := Hd.mk ha
 have l1 : body.length = n := by have := hr.1; rwa [cb_length] at this
 have l2 : keys.length = n2 := by have := hr2.1; rwa [cs_len] at this
 have l3 : groups.length = n3 := by have := hr3.1; rwa [cs_len] at this
 have HH : Hd (Rd w w.heap.size A n (cb body) ∧ Rd w w.heap.size A2 n2 (cs keys) ∧ Rd w w.heap.size A3 n3 (cs groups) ∧ AnB a ∧ body.length = n ∧ keys.length = n2 ∧ groups.length = n3) := ⟨hr, hr2, hr3, hb, l1, l2, l3⟩
 obtain ⟨xs, hxs⟩ : ∃ xs : Array Value, xs = #[.int .i64 kind, .int .u64 (tag : Int), .int .i64 code, .slice A n c, .slice A2 n2 c2, .slice A3 n3 c3, .string next, .bool more, .int .i64 ge, .int .i64 gc, .int .i64 size, .int .i64 h1, .int .i64 h2, .int .i64 h3, .int .i64 h4] := ⟨_, rfl⟩
 obtain ⟨g, hg⟩ : ∃ g, w.heap.size = g := ⟨_, rfl⟩
 have H0 : Hd (TS w (w.alloc (.cells #[.int .i64 kind, .int .u64 (tag : Int), .int .i64 code, .slice A n c, .slice A2 n2 c2, .slice A3 n3 c3, .string next, .bool more, .int .i64 ge, .int .i64 gc, .int .i64 size, .int .i64 h1, .int .i64 h2, .int .i64 h3, .int .i64 h4] 43)) g xs) := ⟨by rw [← hg, hxs]; exact heap_alloc_new w _, (Below.refl _ w).alloc (Nat.le_refl _) _⟩
 have HCS := Hd.mk hxs
 have HG := Hd.mk hg
 have HN : Hd (n2 ≤ 8796093022000 ∧ n3 ≤ 8796093022000) := ⟨hn2, hn3⟩
 clear hr hr2 hr3 hb l1 l2 l3 ha hxs hg hn2 hn3
 unfold anV
 go_enter Try.func23, Try.ntmps23
 go_upto_region 1 with fail
 obtain ⟨w0, hw0⟩ : ∃ w0, w.alloc (.cells #[.int .i64 kind, .int .u64 (tag : Int), .int .i64 code, .slice A n c, .slice A2 n2 c2, .slice A3 n3 c3, .string next, .bool more, .int .i64 ge, .int .i64 gc, .int .i64 size, .int .i64 h1, .int .i64 h2, .int .i64 h3, .int .i64 h4] 43) = w0 := ⟨_, rfl⟩
 rw [hw0] at H0 ⊢
 rw [HG.out]
 clear hw0
 go_wp2_with (refine at_load ?_; refine wpList_load_row rfl 43 (.tmp 1) rfl g rfl 43 #[.int .i64 kind, .int .u64 (tag : Int), .int .i64 code, .slice A n c, .slice A2 n2 c2, .slice A3 n3 c3, .string next, .bool more, .int .i64 ge, .int .i64 gc, .int .i64 size, .int .i64 h1, .int .i64 h2, .int .i64 h3, .int .i64 h4] (0, 0) _ (by have := H0.out.an; rw [HCS.out] at this; exact this) Try.underlying43 rfl infoAn ?_)
 have hm := mayTell_any w0 kind code tag A A2 A3 n c n2 c2 n3 c3 body keys groups next more ge gc size h1 h2 h3 h4 HH.out.2.2.2.2.1 HH.out.2.2.2.2.2.1 HH.out.2.2.2.2.2.2
 unfold anV at hm
 refine hm.mono ?_
 clear hm
 rintro e w1 ⟨r, rfl, hr, hb1⟩
 have HOK := Hd.mk hr
 have H1 := Hd.mk (H0.out.step hb1)
 clear hr hb1 H0
 rcases hB : r with _ | _
 ·subst hB
  have HNO : Hd (¬ anOk a) := ⟨fun h => by rw [HAn.out] at h; exact absurd (HOK.out.2 h) (by simp)⟩
  go_wp2_with fail
  go_ret2
  exact TellPost.bad HNO.out H1.out.bel
 subst hB
 have HYES : Hd (anOk a) := ⟨by rw [HAn.out]; exact HOK.out.1 rfl⟩
 clear HOK
 obtain ⟨kn, hkn⟩ : ∃ kn : Nat, kind = (kn : Int) := ⟨kind.toNat, by have h := HYES.out; rw [HAn.out] at h; have h1 := h.1; simp only at h1; omega⟩
 obtain ⟨cn, hcn⟩ : ∃ cn : Nat, code = (cn : Int) := ⟨code.toNat, by have h := HYES.out; rw [HAn.out] at h; have h1 := h.2.2.1; simp only at h1; omega⟩
 subst hkn hcn
 have hk1 : 1 ≤ kn ∧ kn ≤ 8 := by have h := HYES.out; rw [HAn.out] at h; have h1 := h.1; have h2 := h.2.1; simp only at h1 h2; omega
 have hk2 : kn ≤ 8 := hk1.2
 have hk0 : 1 ≤ kn := hk1.1
 have hc2 : cn ≤ 2147483647 := by have h := HYES.out; rw [HAn.out] at h; have h1 := h.2.2.2.1; simp only at h1; omega
 clear hk1 hq1 hq2
 obtain ⟨M, hM⟩ : ∃ M : Nat, M = (if (kn : Int) = 6 then 65536 else 1000) := ⟨_, rfl⟩
 have HM := Hd.mk hM
 have hM2 : M ≤ 65536 := by rw [hM]; split <;> omega
 clear hM
 have d0 := H1.out.c 0 (by rw [HCS.out]; rfl)
 go_upto_if 14 with fail
 go_cut [4] from 12 (fun v wx => v = .int .i64 (M : Int) ∧ wx = w1)
 case first =>
  by_cases h6 : kn = 6
  ·subst h6
   have hM : M = 65536 := HM.out
   subst hM
   go_wp2_with fail
   go_meet
   case rel => exact ⟨by first | rfl | go_num, rfl⟩
  ·have h6i : ¬ (kn : Int) = 6 := by omega
   have hM : M = 1000 := by rw [HM.out, if_neg h6i]
   subst hM
   have h6b : ((kn : Int) == 6) = false := beq_eq_false_iff_ne.2 h6i
   go_wp2_with fail
   go_meet
   case rel => exact ⟨by first | rfl | go_num, rfl⟩
 case rest =>
  obtain ⟨rfl, hwc⟩ := hcut
  subst hwc
  clear d0
  have d3 := H1.out.c 3 (by rw [HCS.out]; rfl)
  have d4 := H1.out.c 4 (by rw [HCS.out]; rfl)
  have d5 := H1.out.c 5 (by rw [HCS.out]; rfl)
  have d6 := H1.out.c 6 (by rw [HCS.out]; rfl)
  by_cases f1 : n ≤ 1048576
  case neg =>
   have m1 : (1048576 : Int) < (n : Int) := by omega
   go_wp2_with fail
   go_ret2
   exact TellPost.big HYES.out (fun h => by rw [HAn.out] at h; have := h.1; rw [HH.out.2.2.2.2.1] at this; exact f1 this) H1.out.bel
  have m1 : ¬ (1048576 : Int) < (n : Int) := by omega
  have HR2 : Hd (∀ W, TS w W g xs → Rd W W.heap.size A n (cb body) ∧ Rd W W.heap.size A2 n2 (cs keys) ∧ Rd W W.heap.size A3 n3 (cs groups)) := ⟨fun W h => ⟨(HH.out.1.below h.bel).more h.bel.size, (HH.out.2.1.below h.bel).more h.bel.size, (HH.out.2.2.1.below h.bel).more h.bel.size⟩⟩
  obtain ⟨b2, hb2⟩ : ∃ b, @decide (shortL keys M) (Classical.propDecidable _) = b := ⟨_, rfl⟩
  obtain ⟨b3, hb3⟩ : ∃ b, @decide (shortL groups 1000) (Classical.propDecidable _) = b := ⟨_, rfl⟩
  have HB2 := Hd.mk hb2
  have HB3 := Hd.mk hb3
  clear hb2 hb3
  go_upto_region 6 with fail
  go_wp2_with fail
  refine (within_any wc A2 n2 c2 wc.heap.size M keys (HR2.out wc H1.out).2.1 HN.out.1).mono ?_
  rw [HB2.out]
  rintro e w2 ⟨rfl, hw2⟩
  subst hw2
  rcases hB : b2 with _ | _
  ·subst hB
   go_wp2_with fail
   go_ret2
   exact TellPost.big HYES.out (fun h => by rw [HAn.out] at h; have := h.2.1; rw [← HM.out] at this; exact absurd this (@of_decide_eq_false _ (Classical.propDecidable _) HB2.out)) H1.out.bel
  subst hB
  go_wp2_with fail
  refine (within_any w2 A3 n3 c3 w2.heap.size 1000 groups (HR2.out w2 H1.out).2.2 HN.out.2).mono ?_
  rw [HB3.out]
  rintro e w2 ⟨rfl, hw2⟩
  subst hw2
  rcases hB : b3 with _ | _
  ·subst hB
   go_wp2_with fail
   go_ret2
   exact TellPost.big HYES.out (fun h => by rw [HAn.out] at h; exact absurd h.2.2.1 (@of_decide_eq_false _ (Classical.propDecidable _) HB3.out)) H1.out.bel
  subst hB
  by_cases f4 : next.size ≤ 255
  case neg =>
   have m4 : (255 : Int) < (next.size : Int) := by omega
   go_wp2_with fail
   go_ret2
   exact TellPost.big HYES.out (fun h => by rw [HAn.out] at h; exact f4 h.2.2.2) H1.out.bel
  have m4 : ¬ (255 : Int) < (next.size : Int) := by omega
  have HF : Hd (anFit a) := ⟨by rw [HAn.out]; exact ⟨by rw [HH.out.2.2.2.2.1]; exact f1, by have := @of_decide_eq_true _ (Classical.propDecidable _) HB2.out; rw [HM.out] at this; exact this, @of_decide_eq_true _ (Classical.propDecidable _) HB3.out, f4⟩⟩
  have HS : Hd (shortL keys M ∧ shortL groups 1000) := ⟨@of_decide_eq_true _ (Classical.propDecidable _) HB2.out, @of_decide_eq_true _ (Classical.propDecidable _) HB3.out⟩
  have HQ : Hd (tag < 18446744073709551616 ∧ (∀ x ∈ body, x < 256) ∧ ∀ v, v = ge ∨ v = gc ∨ v = size ∨ v = h1 ∨ v = h2 ∨ v = h3 ∨ v = h4 → -9223372036854775808 ≤ v ∧ v ≤ 9223372036854775807) := ⟨by have h := HH.out.2.2.2.1; rw [HAn.out] at h; exact ⟨h.tag, h.b, h.n⟩⟩
  have hwr : IntKind.u8.wrap (kn : Int) = (kn : Int) := by unfold IntKind.wrap; simp [IntKind.signed, IntKind.bits]; omega
  have hwu : IntKind.u64.wrap (cn : Int) = (cn : Int) := by rw [IntKind.wrap_u64]; omega
  clear HB2 HB3
  go_upto_region 8 with fail
  clear d3 d4 d5 d6
  refine wp_region_held_drew (S := fun W => TS w W g xs) (by kernel_rfl) (H1.out.step (Below.refl _ _).drew) (fun hHeld => ?_)
  refine wpAnyH_take (i := 0) (oi := ?oi101) (v := ?v101) ?hi101 (by kernel_rfl) (by kernel_rfl) (by kernel_rfl) ?hQ101 (Or.inl ⟨?hw101, ?hy101⟩) (by assumption) ?rest101
  case hi101 => simp only [List.getElem?_toArray, List.getElem?_cons_succ, List.getElem?_cons_zero]; rfl
  case hQ101 => exact fun _ _ _ h => h
  case hw101 => rfl
  case hy101 => (intro W hW; have c0 := hW.c 0 (by rw [HCS.out]; rfl); have c1 := hW.c 1 (by rw [HCS.out]; rfl); have c2 := hW.c 2 (by rw [HCS.out]; rfl); go_simp; all_goals rfl)
  simp only [Act.put, List.setIfInBounds_toArray, List.set_cons_zero, List.set_cons_succ]
  refine wpAnyH_take (i := 1) (oi := ?oi102) (v := ?v102) ?hi102 (by kernel_rfl) (by kernel_rfl) (by kernel_rfl) ?hQ102 (Or.inl ⟨?hw102, ?hy102⟩) (by assumption) ?rest102
  case hi102 => simp only [List.getElem?_toArray, List.getElem?_cons_succ, List.getElem?_cons_zero]; rfl
  case hQ102 => exact fun _ _ _ h => h
  case hw102 => rfl
  case hy102 => (intro W hW; have c0 := hW.c 0 (by rw [HCS.out]; rfl); have c1 := hW.c 1 (by rw [HCS.out]; rfl); have c2 := hW.c 2 (by rw [HCS.out]; rfl); go_simp; all_goals rfl)
  simp only [Act.put, List.setIfInBounds_toArray, List.set_cons_zero, List.set_cons_succ]
  refine wpAnyH_take (i := 2) (oi := ?oi103) (v := ?v103) ?hi103 (by kernel_rfl) (by kernel_rfl) (by kernel_rfl) ?hQ103 (Or.inl ⟨?hw103, ?hy103⟩) (by assumption) ?rest103
  case hi103 => simp only [List.getElem?_toArray, List.getElem?_cons_succ, List.getElem?_cons_zero]; rfl
  case hQ103 => exact fun _ _ _ h => h
  case hw103 => rfl
  case hy103 => (intro W hW; have c0 := hW.c 0 (by rw [HCS.out]; rfl); have c1 := hW.c 1 (by rw [HCS.out]; rfl); have c2 := hW.c 2 (by rw [HCS.out]; rfl); go_simp; all_goals rfl)
  simp only [Act.put, List.setIfInBounds_toArray, List.set_cons_zero, List.set_cons_succ]
  refine wpAnyH_take (i := 4) (oi := ?oi104) (v := ?v104) ?hi104 (by kernel_rfl) (by kernel_rfl) (by kernel_rfl) ?hQ104 (Or.inl ⟨?hw104, ?hy104⟩) (by assumption) ?rest104
  case hi104 => simp only [List.getElem?_toArray, List.getElem?_cons_succ, List.getElem?_cons_zero]; rfl
  case hQ104 => exact fun _ _ _ h => h
  case hw104 => rfl
  case hy104 => (intro W hW; have c0 := hW.c 0 (by rw [HCS.out]; rfl); have c1 := hW.c 1 (by rw [HCS.out]; rfl); have c2 := hW.c 2 (by rw [HCS.out]; rfl); go_simp; all_goals rfl)
  simp only [Act.put, List.setIfInBounds_toArray, List.set_cons_zero, List.set_cons_succ]
  refine wpAnyH_take (i := 5) (oi := ?oi105) (v := ?v105) ?hi105 (by kernel_rfl) (by kernel_rfl) (by kernel_rfl) ?hQ105 (Or.inl ⟨?hw105, ?hy105⟩) (by assumption) ?rest105
  case hi105 => simp only [List.getElem?_toArray, List.getElem?_cons_succ, List.getElem?_cons_zero]; rfl
  case hQ105 => exact fun _ _ _ h => h
  case hw105 => rfl
  case hy105 => (intro W hW; have c0 := hW.c 0 (by rw [HCS.out]; rfl); have c1 := hW.c 1 (by rw [HCS.out]; rfl); have c2 := hW.c 2 (by rw [HCS.out]; rfl); go_simp; all_goals rfl)
  simp only [Act.put, List.setIfInBounds_toArray, List.set_cons_zero, List.set_cons_succ]
  refine wpAnyH_take (i := 7) (oi := ?oi106) (v := ?v106) ?hi106 (by kernel_rfl) (by kernel_rfl) (by kernel_rfl) ?hQ106 (Or.inl ⟨?hw106, ?hy106⟩) (by assumption) ?rest106
  case hi106 => simp only [List.getElem?_toArray, List.getElem?_cons_succ, List.getElem?_cons_zero]; rfl
  case hQ106 => exact fun _ _ _ h => h
  case hw106 => rfl
  case hy106 => (intro W hW; have c0 := hW.c 0 (by rw [HCS.out]; rfl); have c1 := hW.c 1 (by rw [HCS.out]; rfl); have c2 := hW.c 2 (by rw [HCS.out]; rfl); go_simp; all_goals rfl)
  simp only [Act.put, List.setIfInBounds_toArray, List.set_cons_zero, List.set_cons_succ]
  refine wpAnyH_take (i := 8) (oi := ?oi107) (v := ?v107) ?hi107 (by kernel_rfl) (by kernel_rfl) (by kernel_rfl) ?hQ107 (Or.inl ⟨?hw107, ?hy107⟩) (by assumption) ?rest107
  case hi107 => simp only [List.getElem?_toArray, List.getElem?_cons_succ, List.getElem?_cons_zero]; rfl
  case hQ107 => exact fun _ _ _ h => h
  case hw107 => rfl
  case hy107 => (intro W hW; have c0 := hW.c 0 (by rw [HCS.out]; rfl); have c1 := hW.c 1 (by rw [HCS.out]; rfl); have c2 := hW.c 2 (by rw [HCS.out]; rfl); go_simp; all_goals rfl)
  simp only [Act.put, List.setIfInBounds_toArray, List.set_cons_zero, List.set_cons_succ]
  refine wpAnyH_take (i := 9) (oi := ?oi108) (v := ?v108) ?hi108 (by kernel_rfl) (by kernel_rfl) (by kernel_rfl) ?hQ108 (Or.inl ⟨?hw108, ?hy108⟩) (by assumption) ?rest108
  case hi108 => simp only [List.getElem?_toArray, List.getElem?_cons_succ, List.getElem?_cons_zero]; rfl
  case hQ108 => exact fun _ _ _ h => h
  case hw108 => rfl
  case hy108 => (intro W hW; have c0 := hW.c 0 (by rw [HCS.out]; rfl); have c1 := hW.c 1 (by rw [HCS.out]; rfl); have c2 := hW.c 2 (by rw [HCS.out]; rfl); go_simp; all_goals rfl)
  simp only [Act.put, List.setIfInBounds_toArray, List.set_cons_zero, List.set_cons_succ]
  refine wpAnyH_ready (rs := [3]) (by kernel_rfl) (by simp) ?_
  refine AllReadyH.cons (i := 3) (o := ?o109) ?ho109 (fun Kq hK => ?step109) AllReadyH.nil
  case ho109 => simp only [List.getElem?_toArray, List.getElem?_cons_succ, List.getElem?_cons_zero]; rfl
  go_simp
  (go_at_call 57; refine (put_uint8 _ none 0 0 _ kn [] Rd.nil (by omega) (by omega) (Nat.le_refl _)).mono ?_; rintro e w3 ⟨v3, rfl, hO⟩)
  rw [List.nil_append] at hO
  obtain ⟨A4, c4, rfl, _, _⟩ := own_form hO.own
  have hF := hHeld.step (hO.below (fun k h => by cases h) (Nat.le_refl _))
  have HO3 := Hd.mk (Rd.of_own hO.own)
  refine hK.out _ _ hF (fun _ => ?_)
  clear hK Kq hHeld hO
  have hHeld := hF
  clear hF
  try simp only [Act.put, List.setIfInBounds_toArray, List.set_cons_zero, List.set_cons_succ]
  refine wpAnyH_ready (rs := [6]) (by kernel_rfl) (by simp) ?_
  refine AllReadyH.cons (i := 6) (o := ?o110) ?ho110 (fun Kq hK => ?step110) AllReadyH.nil
  case ho110 => simp only [List.getElem?_toArray, List.getElem?_cons_succ, List.getElem?_cons_zero]; rfl
  go_simp
  (go_at_call 56; refine (put_uint64 w3 A4 1 c4 w3.heap.size tag (fx 1 kn) HO3.out HQ.out.1 (by omega) (Nat.le_refl _)).mono ?_; rintro e w4 ⟨v4, rfl, hO⟩)
  obtain ⟨A5, c5, rfl, _, _⟩ := own_form hO.own
  have hF := hHeld.step (hO.below (fun k h => by cases h) (Nat.le_refl _))
  have HO4 := Hd.mk (Rd.of_own hO.own)
  refine hK.out _ _ hF (fun _ => ?_)
  clear hK Kq hHeld hO
  have hHeld := hF
  clear hF
  try simp only [Act.put, List.setIfInBounds_toArray, List.set_cons_zero, List.set_cons_succ]
  refine wpAnyH_ready (rs := [10]) (by kernel_rfl) (by simp) ?_
  refine AllReadyH.cons (i := 10) (o := ?o111) ?ho111 (fun Kq hK => ?step111) AllReadyH.nil
  case ho111 => simp only [List.getElem?_toArray, List.getElem?_cons_succ, List.getElem?_cons_zero]; rfl
  go_simp
  (go_at_call 67; refine (putUvarint_any w4 A5 9 c5 w4.heap.size cn (fx 1 kn ++ fx 8 tag) HO4.out (by omega) (by omega) (Nat.le_refl _)).mono ?_; rintro e w5 ⟨v5, rfl, hO⟩)
  have HB0 : Hd (TB w w5 g xs v5 (fx 1 kn ++ fx 8 tag ++ uv cn)) := ⟨TB.put hHeld (by simp only [List.length_append, fx_len]) hO⟩
  have hF := hHeld.step (hO.below (fun k h => by cases h) (Nat.le_refl _))
  refine hK.out _ _ hF (fun _ => ?_)
  clear hK Kq hHeld hO
  have hHeld := hF
  clear hF
  try simp only [Act.put, List.setIfInBounds_toArray, List.set_cons_zero, List.set_cons_succ]
  refine wpAnyH_take (i := 11) (oi := ?oi112) (v := ?v112) ?hi112 (by kernel_rfl) (by kernel_rfl) (by kernel_rfl) ?hQ112 (Or.inl ⟨?hw112, ?hy112⟩) (by assumption) ?rest112
  case hi112 => simp only [List.getElem?_toArray, List.getElem?_cons_succ, List.getElem?_cons_zero]; rfl
  case hQ112 => exact fun _ _ _ h => h
  case hw112 => rfl
  case hy112 => (intro W hW; have c0 := hW.c 0 (by rw [HCS.out]; rfl); have c1 := hW.c 1 (by rw [HCS.out]; rfl); have c2 := hW.c 2 (by rw [HCS.out]; rfl); go_simp; all_goals rfl)
  simp only [Act.put, List.setIfInBounds_toArray, List.set_cons_zero, List.set_cons_succ]
  refine wpAnyH_done (by kernel_rfl) ?_ _
  clear HO3 HO4 hHeld
  obtain ⟨L0, hL0⟩ : ∃ L, fx 1 kn ++ fx 8 tag ++ uv cn = L := ⟨_, rfl⟩
  have HL0 : Hd (fx 1 ((kn : Int)).toNat ++ fx 8 tag ++ uv ((cn : Int)).toNat = L0) := ⟨by simpa using hL0⟩
  have HL19 : Hd (L0.length ≤ 19 ∧ ∀ x ∈ L0, x < 256) := ⟨by rw [← hL0]; simp only [List.length_append, fx_len]; have := uv_len cn; omega, fun x hx => by rw [← hL0] at hx; simp only [List.mem_append] at hx; rcases hx with (h | h) | h; exact fx_lt _ _ x h; exact fx_lt _ _ x h; exact uv_lt _ (by omega) x h⟩
  rw [hL0] at HB0
  clear hL0
  by_cases hk8 : kn = 8
  ·have hk8b : ((kn : Int) == 8) = true := by subst hk8; rfl
   have q2 : ((kn : Int) == 2) = false := by subst hk8; rfl
   have q3 : ((kn : Int) == 3) = false := by subst hk8; rfl
   have q4 : ((kn : Int) == 4) = false := by subst hk8; rfl
   have q6 : ((kn : Int) == 6) = false := by subst hk8; rfl
   have q7 : ((kn : Int) == 7) = false := by subst hk8; rfl
   have HK8 := Hd.mk hk8
   clear hk8
   have e0 := HB0.out.sta.c 0 (by rw [HCS.out]; rfl)
   have e2 := HB0.out.sta.c 2 (by rw [HCS.out]; rfl)
   have e11 := HB0.out.sta.c 11 (by rw [HCS.out]; rfl)
   have e12 := HB0.out.sta.c 12 (by rw [HCS.out]; rfl)
   have e13 := HB0.out.sta.c 13 (by rw [HCS.out]; rfl)
   have e14 := HB0.out.sta.c 14 (by rw [HCS.out]; rfl)
   obtain ⟨Av, cv, hv, hvc, hvr⟩ := HB0.out.rd
   obtain ⟨lv, hlv⟩ : ∃ l, (L0).length = l := ⟨_, rfl⟩
   rw [hlv] at hv
   subst hv
   have HLV := Hd.mk hlv
   clear hvc hvr hlv
   go_upto_region 11 with fail
   obtain ⟨g4, hg4⟩ : ∃ g4, w5.heap.size = g4 := ⟨_, rfl⟩
   obtain ⟨w6, hw6⟩ : ∃ W, w5.alloc (.cells #[.int .i64 h1, .int .i64 h2, .int .i64 h3, .int .i64 h4] 3) = W := ⟨_, rfl⟩
   rw [hw6]
   try rw [hg4]
   have HB1 : Hd (TB w w6 g xs (.slice Av lv cv) L0 ∧ w6.heap[g4]? = some (.cells #[.int .i64 h1, .int .i64 h2, .int .i64 h3, .int .i64 h4] 3)) := ⟨by rw [← hw6]; exact TB.alloc HB0.out _, by rw [← hw6, ← hg4]; exact heap_alloc_new _ _⟩
   have HG4 := Hd.mk hg4
   clear hg4 hw6 HB0 e0 e2 e11 e12 e13 e14 HLV
   have HP : Hd (∀ k, k < 4 → ∃ v : Int, #[Value.int .i64 h1, .int .i64 h2, .int .i64 h3, .int .i64 h4][k]? = some (.int .i64 v) ∧ (heal4 h1 h2 h3 h4).take (k + 1) = (heal4 h1 h2 h3 h4).take k ++ [v] ∧ (v = ge ∨ v = gc ∨ v = size ∨ v = h1 ∨ v = h2 ∨ v = h3 ∨ v = h4)) := ⟨fun k hk => by rcases (by omega : k = 0 ∨ k = 1 ∨ k = 2 ∨ k = 3) with rfl | rfl | rfl | rfl; exact ⟨h1, rfl, rfl, by simp⟩; exact ⟨h2, rfl, rfl, by simp⟩; exact ⟨h3, rfl, rfl, by simp⟩; exact ⟨h4, rfl, rfl, by simp⟩⟩
   go_loopw [5, 66] (fun u5 u66 wr => ∃ k : Nat, k ≤ 4 ∧ u66 = .int .i64 (k : Int) ∧ TB w wr g xs u5 (L0 ++ ((heal4 h1 h2 h3 h4).take k).flatMap uz) ∧ wr.heap[g4]? = some (.cells #[.int .i64 h1, .int .i64 h2, .int .i64 h3, .int .i64 h4] 3)) (fun u5 u66 _ => 4 - (intOf u66).toNat)
   case atStart => exact ⟨0, by omega, rfl, by simpa using HB1.out.1, HB1.out.2⟩
   case round =>
    obtain ⟨k, hk, rfl, hT, hg4⟩ := hrel
    have HT := Hd.mk (And.intro hT hg4)
    clear hT hg4
    by_cases hlt : k < 4
    ·have hki : (k : Int) < 4 := by omega
     obtain ⟨v, hv1, hv2, hv3⟩ := HP.out k hlt
     have hcell : wr.cell? ⟨g4, k, none⟩ = some (.int .i64 v) := by rw [cell_of_row wr g4 k _ _ (0, 0) HT.out.2]; exact hv1
     have HV := Hd.mk (And.intro hv2 hv3)
     clear hv1 hv2 hv3
     obtain ⟨Lk, hLk⟩ : ∃ L, L0 ++ ((heal4 h1 h2 h3 h4).take k).flatMap uz = L := ⟨_, rfl⟩
     rw [hLk] at HT
     have HLK := Hd.mk hLk
     clear hLk
     obtain ⟨Ak, ck, hv, hvc, hvr⟩ := HT.out.1.rd
     obtain ⟨lk, hlk⟩ : ∃ l, Lk.length = l := ⟨_, rfl⟩
     have hlk2 : lk ≤ 33554432 := by rw [← hlk, ← HLK.out, List.length_append]; have := HL19.out.1; have := heal_len h1 h2 h3 h4 k; omega
     rw [hlk] at hv
     subst hv
     clear hvc hvr hlk
     go_wp2_with fail
     refine (tputNum_any wr Ak lk ck v Lk HT.out.1 (HQ.out.2.2 v HV.out.2).1 (HQ.out.2.2 v HV.out.2).2 hlk2).mono ?_
     rintro e wz ⟨vz, rfl, hz⟩
     have HZ := Hd.mk hz
     have HG5 : Hd (wz.heap[g4]? = some (.cells #[.int .i64 h1, .int .i64 h2, .int .i64 h3, .int .i64 h4] 3)) := ⟨by rw [hz.2 g4 (Array.getElem?_eq_some_iff.1 HT.out.2).1]; exact HT.out.2⟩
     clear hz
     go_wp2_with fail
     go_roundw
     case rel => first
      | exact ⟨k + 1, by omega, by go_num, by rw [HV.out.1, List.flatMap_append, ← List.append_assoc, HLK.out]; simpa using HZ.out.1, HG5.out⟩
      | exact ⟨_, _, ⟨k + 1, by omega, by go_num, by rw [HV.out.1, List.flatMap_append, ← List.append_assoc, HLK.out]; simpa using HZ.out.1, HG5.out⟩, rfl, rfl⟩
     case measure => simp [intOf]; omega
    ·have hk4 : k = 4 := by omega
     subst hk4
     have HE : Hd (TB w wr g xs u5 (L0 ++ uz h1 ++ uz h2 ++ uz h3 ++ uz h4)) := ⟨by have := HT.out.1; simpa [heal4] using this⟩
     clear HT HP
     have e2 := HE.out.sta.c 2 (by rw [HCS.out]; rfl)
     have e0 := HE.out.sta.c 0 (by rw [HCS.out]; rfl)
     by_cases hc0 : cn = 0
     ·subst hc0
      obtain ⟨Av, cv, hv, hvc, hvr⟩ := HE.out.rd
      obtain ⟨lv, hlv⟩ : ∃ l, (L0 ++ uz h1 ++ uz h2 ++ uz h3 ++ uz h4).length = l := ⟨_, rfl⟩
      rw [hlv] at hv
      subst hv
      have HLV := Hd.mk hlv
      clear hvc hvr hlv
      have hlv2 : lv ≤ 33554432 := by rw [← HLV.out]; simp only [List.length_append]; have := HL19.out.1; have := uz_len h1; have := uz_len h2; have := uz_len h3; have := uz_len h4; omega
      go_wp2_with fail
      refine (tform_any wr Av lv cv (L0 ++ uz h1 ++ uz h2 ++ uz h3 ++ uz h4) HE.out (by intro x hx; simp only [List.mem_append] at hx; rcases hx with ((((hx | hx) | hx) | hx) | hx); exact HL19.out.2 x hx; exact (uz_lt h1 (HQ.out.2.2 h1 (by simp)).1 (HQ.out.2.2 h1 (by simp)).2) x hx; exact (uz_lt h2 (HQ.out.2.2 h2 (by simp)).1 (HQ.out.2.2 h2 (by simp)).2) x hx; exact (uz_lt h3 (HQ.out.2.2 h3 (by simp)).1 (HQ.out.2.2 h3 (by simp)).2) x hx; exact (uz_lt h4 (HQ.out.2.2 h4 (by simp)).1 (HQ.out.2.2 h4 (by simp)).2) x hx) hlv2).mono ?_
      rintro e wf ⟨vf, rfl, hO⟩
      have HO := Hd.mk hO
      clear hO
      go_wp2_with fail
      go_ret2
      exact TellPost.good HYES.out HF.out (by rw [HAn.out]; exact anC_heal HL0.out (by have := HK8.out; omega)) HO.out
     ·have hci : ¬ (cn : Int) = 0 := by omega
      have hcb : ((cn : Int) == 0) = false := beq_eq_false_iff_ne.2 hci
      obtain ⟨Av, cv, hv, hvc, hvr⟩ := HE.out.rd
      obtain ⟨lv, hlv⟩ : ∃ l, (L0 ++ uz h1 ++ uz h2 ++ uz h3 ++ uz h4).length = l := ⟨_, rfl⟩
      rw [hlv] at hv
      subst hv
      have HLV := Hd.mk hlv
      clear hvc hvr hlv
      have hlv2 : lv ≤ 33554432 := by rw [← HLV.out]; simp only [List.length_append]; have := HL19.out.1; have := uz_len h1; have := uz_len h2; have := uz_len h3; have := uz_len h4; omega
      go_wp2_with fail
      refine (tform_any wr Av lv cv (L0 ++ uz h1 ++ uz h2 ++ uz h3 ++ uz h4) HE.out (by intro x hx; simp only [List.mem_append] at hx; rcases hx with ((((hx | hx) | hx) | hx) | hx); exact HL19.out.2 x hx; exact (uz_lt h1 (HQ.out.2.2 h1 (by simp)).1 (HQ.out.2.2 h1 (by simp)).2) x hx; exact (uz_lt h2 (HQ.out.2.2 h2 (by simp)).1 (HQ.out.2.2 h2 (by simp)).2) x hx; exact (uz_lt h3 (HQ.out.2.2 h3 (by simp)).1 (HQ.out.2.2 h3 (by simp)).2) x hx; exact (uz_lt h4 (HQ.out.2.2 h4 (by simp)).1 (HQ.out.2.2 h4 (by simp)).2) x hx) hlv2).mono ?_
      rintro e wf ⟨vf, rfl, hO⟩
      have HO := Hd.mk hO
      clear hO
      go_wp2_with fail
      go_ret2
      exact TellPost.good HYES.out HF.out (by rw [HAn.out]; exact anC_heal HL0.out (by have := HK8.out; omega)) HO.out
  have hk8i : ((kn : Int) == 8) = false := beq_eq_false_iff_ne.2 (by omega)
  have e0 := HB0.out.sta.c 0 (by rw [HCS.out]; rfl)
  have e2 := HB0.out.sta.c 2 (by rw [HCS.out]; rfl)
  by_cases hc0 : cn = 0
  case neg =>
   have hcb : ((cn : Int) == 0) = false := beq_eq_false_iff_ne.2 (by omega)
   obtain ⟨Av, cv, hv, hvc, hvr⟩ := HB0.out.rd
   obtain ⟨lv, hlv⟩ : ∃ l, (L0).length = l := ⟨_, rfl⟩
   rw [hlv] at hv
   subst hv
   have HLV := Hd.mk hlv
   clear hvc hvr hlv
   have hlv2 : lv ≤ 33554432 := by rw [← HLV.out]; have := HL19.out.1; omega
   go_wp2_with fail
   refine (tform_any w5 Av lv cv (L0) HB0.out (by exact HL19.out.2) hlv2).mono ?_
   rintro e wf ⟨vf, rfl, hO⟩
   have HO := Hd.mk hO
   clear hO
   go_wp2_with fail
   go_ret2
   exact TellPost.good HYES.out HF.out (by rw [HAn.out]; exact anC_code HL0.out (by omega) (.inl (by omega))) HO.out
  subst hc0
  rcases (by omega : kn = 1 ∨ kn = 2 ∨ kn = 3 ∨ kn = 4 ∨ kn = 5 ∨ kn = 6 ∨ kn = 7) with rfl | rfl | rfl | rfl | rfl | rfl | rfl
  ·obtain ⟨Av, cv, hv, hvc, hvr⟩ := HB0.out.rd
   obtain ⟨lv, hlv⟩ : ∃ l, (L0).length = l := ⟨_, rfl⟩
   rw [hlv] at hv
   subst hv
   have HLV := Hd.mk hlv
   clear hvc hvr hlv
   have hlv2 : lv ≤ 33554432 := by rw [← HLV.out]; have := HL19.out.1; omega
   go_wp2_with fail
   refine (tform_any w5 Av lv cv (L0) HB0.out (by exact HL19.out.2) hlv2).mono ?_
   rintro e wf ⟨vf, rfl, hO⟩
   have HO := Hd.mk hO
   clear hO
   go_wp2_with fail
   go_ret2
   exact TellPost.good HYES.out HF.out (by rw [HAn.out]; exact anC_code HL0.out (by omega) (.inr (by omega))) HO.out
  ·clear hk8i
   have e3 := HB0.out.sta.c 3 (by rw [HCS.out]; rfl)
   obtain ⟨Av, cv, hv, hvc, hvr⟩ := HB0.out.rd
   obtain ⟨lv, hlv⟩ : ∃ l, (L0).length = l := ⟨_, rfl⟩
   rw [hlv] at hv
   subst hv
   have HLV := Hd.mk hlv
   clear hvc hvr hlv
   have hlv2 : lv ≤ 33554432 := by rw [← HLV.out]; have := HL19.out.1; omega
   go_wp2_with fail
   refine (tputLst_any w5 Av A lv cv n c L0 body HB0.out (HR2.out w5 HB0.out.sta).1 hlv2 (by omega)).mono ?_
   rintro e w6 ⟨v6, rfl, hz⟩
   have HB1 := Hd.mk hz
   clear hz hlv2 HLV HB0
   obtain ⟨Av, cv, hv, hvc, hvr⟩ := HB1.out.rd
   obtain ⟨lv, hlv⟩ : ∃ l, (L0 ++ ub body).length = l := ⟨_, rfl⟩
   rw [hlv] at hv
   subst hv
   have HLV := Hd.mk hlv
   clear hvc hvr hlv
   have hlv2 : lv ≤ 33554432 := by rw [← HLV.out]; rw [List.length_append]; have := HL19.out.1; unfold ub; rw [List.length_append, HH.out.2.2.2.2.1]; have := uv_len n; omega
   go_wp2_with fail
   refine (tform_any w6 Av lv cv (L0 ++ ub body) HB1.out (by intro x hx; simp only [List.mem_append] at hx; rcases hx with (hx | hx); exact HL19.out.2 x hx; exact (ub_lt body (by rw [HH.out.2.2.2.2.1]; omega) HQ.out.2.1) x hx) hlv2).mono ?_
   rintro e wf ⟨vf, rfl, hO⟩
   have HO := Hd.mk hO
   clear hO
   go_wp2_with fail
   go_ret2
   exact TellPost.good HYES.out HF.out (by rw [HAn.out]; exact anC_body HL0.out (by omega) rfl) HO.out
  ·clear hk8i
   have e3 := HB0.out.sta.c 3 (by rw [HCS.out]; rfl)
   obtain ⟨Av, cv, hv, hvc, hvr⟩ := HB0.out.rd
   obtain ⟨lv, hlv⟩ : ∃ l, (L0).length = l := ⟨_, rfl⟩
   rw [hlv] at hv
   subst hv
   have HLV := Hd.mk hlv
   clear hvc hvr hlv
   have hlv2 : lv ≤ 33554432 := by rw [← HLV.out]; have := HL19.out.1; omega
   go_wp2_with fail
   refine (tputLst_any w5 Av A lv cv n c L0 body HB0.out (HR2.out w5 HB0.out.sta).1 hlv2 (by omega)).mono ?_
   rintro e w6 ⟨v6, rfl, hz⟩
   have HB1 := Hd.mk hz
   clear hz hlv2 HLV HB0
   obtain ⟨Av, cv, hv, hvc, hvr⟩ := HB1.out.rd
   obtain ⟨lv, hlv⟩ : ∃ l, (L0 ++ ub body).length = l := ⟨_, rfl⟩
   rw [hlv] at hv
   subst hv
   have HLV := Hd.mk hlv
   clear hvc hvr hlv
   have hlv2 : lv ≤ 33554432 := by rw [← HLV.out]; rw [List.length_append]; have := HL19.out.1; unfold ub; rw [List.length_append, HH.out.2.2.2.2.1]; have := uv_len n; omega
   go_wp2_with fail
   refine (tform_any w6 Av lv cv (L0 ++ ub body) HB1.out (by intro x hx; simp only [List.mem_append] at hx; rcases hx with (hx | hx); exact HL19.out.2 x hx; exact (ub_lt body (by rw [HH.out.2.2.2.2.1]; omega) HQ.out.2.1) x hx) hlv2).mono ?_
   rintro e wf ⟨vf, rfl, hO⟩
   have HO := Hd.mk hO
   clear hO
   go_wp2_with fail
   go_ret2
   exact TellPost.good HYES.out HF.out (by rw [HAn.out]; exact anC_body HL0.out (by omega) rfl) HO.out
  ·clear hk8i
   have e8 := HB0.out.sta.c 8 (by rw [HCS.out]; rfl)
   have e9 := HB0.out.sta.c 9 (by rw [HCS.out]; rfl)
   have e10 := HB0.out.sta.c 10 (by rw [HCS.out]; rfl)
   obtain ⟨Av, cv, hv, hvc, hvr⟩ := HB0.out.rd
   obtain ⟨lv, hlv⟩ : ∃ l, (L0).length = l := ⟨_, rfl⟩
   rw [hlv] at hv
   subst hv
   have HLV := Hd.mk hlv
   clear hvc hvr hlv
   have hlv2 : lv ≤ 33554432 - 30 := by rw [← HLV.out]; have := HL19.out.1; omega
   go_upto_region 22 with fail
   have HBd := Hd.mk HB0.out.drew
   refine wp_region_held_drew (S := fun W => TS w W g xs) (by kernel_rfl) HBd.out.sta (fun hHeld => ?_)
   refine wpAnyH_take (i := 0) (oi := ?oi201) (v := ?v201) ?hi201 (by kernel_rfl) (by kernel_rfl) (by kernel_rfl) ?hQ201 (Or.inl ⟨?hw201, ?hy201⟩) (by assumption) ?rest201
   case hi201 => simp only [List.getElem?_toArray, List.getElem?_cons_succ, List.getElem?_cons_zero]; rfl
   case hQ201 => exact fun _ _ _ h => h
   case hw201 => rfl
   case hy201 => (intro W hW; have c8 := hW.c 8 (by rw [HCS.out]; rfl); have c9 := hW.c 9 (by rw [HCS.out]; rfl); have c10 := hW.c 10 (by rw [HCS.out]; rfl); go_simp; all_goals rfl)
   simp only [Act.put, List.setIfInBounds_toArray, List.set_cons_zero, List.set_cons_succ]
   refine wpAnyH_take (i := 1) (oi := ?oi202) (v := ?v202) ?hi202 (by kernel_rfl) (by kernel_rfl) (by kernel_rfl) ?hQ202 (Or.inl ⟨?hw202, ?hy202⟩) (by assumption) ?rest202
   case hi202 => simp only [List.getElem?_toArray, List.getElem?_cons_succ, List.getElem?_cons_zero]; rfl
   case hQ202 => exact fun _ _ _ h => h
   case hw202 => rfl
   case hy202 => (intro W hW; have c8 := hW.c 8 (by rw [HCS.out]; rfl); have c9 := hW.c 9 (by rw [HCS.out]; rfl); have c10 := hW.c 10 (by rw [HCS.out]; rfl); go_simp; all_goals rfl)
   simp only [Act.put, List.setIfInBounds_toArray, List.set_cons_zero, List.set_cons_succ]
   refine wpAnyH_take (i := 2) (oi := ?oi203) (v := ?v203) ?hi203 (by kernel_rfl) (by kernel_rfl) (by kernel_rfl) ?hQ203 (Or.inl ⟨?hw203, ?hy203⟩) (by assumption) ?rest203
   case hi203 => simp only [List.getElem?_toArray, List.getElem?_cons_succ, List.getElem?_cons_zero]; rfl
   case hQ203 => exact fun _ _ _ h => h
   case hw203 => rfl
   case hy203 => (intro W hW; have c8 := hW.c 8 (by rw [HCS.out]; rfl); have c9 := hW.c 9 (by rw [HCS.out]; rfl); have c10 := hW.c 10 (by rw [HCS.out]; rfl); go_simp; all_goals rfl)
   simp only [Act.put, List.setIfInBounds_toArray, List.set_cons_zero, List.set_cons_succ]
   refine wpAnyH_take (i := 3) (oi := ?oi204) (v := ?v204) ?hi204 (by kernel_rfl) (by kernel_rfl) (by kernel_rfl) ?hQ204 (Or.inl ⟨?hw204, ?hy204⟩) (by assumption) ?rest204
   case hi204 => simp only [List.getElem?_toArray, List.getElem?_cons_succ, List.getElem?_cons_zero]; rfl
   case hQ204 => exact fun _ _ _ h => h
   case hw204 => rfl
   case hy204 => (intro W hW; have c8 := hW.c 8 (by rw [HCS.out]; rfl); have c9 := hW.c 9 (by rw [HCS.out]; rfl); have c10 := hW.c 10 (by rw [HCS.out]; rfl); go_simp; all_goals rfl)
   simp only [Act.put, List.setIfInBounds_toArray, List.set_cons_zero, List.set_cons_succ]
   refine wpAnyH_take (i := 5) (oi := ?oi205) (v := ?v205) ?hi205 (by kernel_rfl) (by kernel_rfl) (by kernel_rfl) ?hQ205 (Or.inl ⟨?hw205, ?hy205⟩) (by assumption) ?rest205
   case hi205 => simp only [List.getElem?_toArray, List.getElem?_cons_succ, List.getElem?_cons_zero]; rfl
   case hQ205 => exact fun _ _ _ h => h
   case hw205 => rfl
   case hy205 => (intro W hW; have c8 := hW.c 8 (by rw [HCS.out]; rfl); have c9 := hW.c 9 (by rw [HCS.out]; rfl); have c10 := hW.c 10 (by rw [HCS.out]; rfl); go_simp; all_goals rfl)
   simp only [Act.put, List.setIfInBounds_toArray, List.set_cons_zero, List.set_cons_succ]
   refine wpAnyH_take (i := 6) (oi := ?oi206) (v := ?v206) ?hi206 (by kernel_rfl) (by kernel_rfl) (by kernel_rfl) ?hQ206 (Or.inl ⟨?hw206, ?hy206⟩) (by assumption) ?rest206
   case hi206 => simp only [List.getElem?_toArray, List.getElem?_cons_succ, List.getElem?_cons_zero]; rfl
   case hQ206 => exact fun _ _ _ h => h
   case hw206 => rfl
   case hy206 => (intro W hW; have c8 := hW.c 8 (by rw [HCS.out]; rfl); have c9 := hW.c 9 (by rw [HCS.out]; rfl); have c10 := hW.c 10 (by rw [HCS.out]; rfl); go_simp; all_goals rfl)
   simp only [Act.put, List.setIfInBounds_toArray, List.set_cons_zero, List.set_cons_succ]
   refine wpAnyH_take (i := 7) (oi := ?oi207) (v := ?v207) ?hi207 (by kernel_rfl) (by kernel_rfl) (by kernel_rfl) ?hQ207 (Or.inl ⟨?hw207, ?hy207⟩) (by assumption) ?rest207
   case hi207 => simp only [List.getElem?_toArray, List.getElem?_cons_succ, List.getElem?_cons_zero]; rfl
   case hQ207 => exact fun _ _ _ h => h
   case hw207 => rfl
   case hy207 => (intro W hW; have c8 := hW.c 8 (by rw [HCS.out]; rfl); have c9 := hW.c 9 (by rw [HCS.out]; rfl); have c10 := hW.c 10 (by rw [HCS.out]; rfl); go_simp; all_goals rfl)
   simp only [Act.put, List.setIfInBounds_toArray, List.set_cons_zero, List.set_cons_succ]
   refine wpAnyH_take (i := 9) (oi := ?oi208) (v := ?v208) ?hi208 (by kernel_rfl) (by kernel_rfl) (by kernel_rfl) ?hQ208 (Or.inl ⟨?hw208, ?hy208⟩) (by assumption) ?rest208
   case hi208 => simp only [List.getElem?_toArray, List.getElem?_cons_succ, List.getElem?_cons_zero]; rfl
   case hQ208 => exact fun _ _ _ h => h
   case hw208 => rfl
   case hy208 => (intro W hW; have c8 := hW.c 8 (by rw [HCS.out]; rfl); have c9 := hW.c 9 (by rw [HCS.out]; rfl); have c10 := hW.c 10 (by rw [HCS.out]; rfl); go_simp; all_goals rfl)
   simp only [Act.put, List.setIfInBounds_toArray, List.set_cons_zero, List.set_cons_succ]
   refine wpAnyH_take (i := 10) (oi := ?oi209) (v := ?v209) ?hi209 (by kernel_rfl) (by kernel_rfl) (by kernel_rfl) ?hQ209 (Or.inl ⟨?hw209, ?hy209⟩) (by assumption) ?rest209
   case hi209 => simp only [List.getElem?_toArray, List.getElem?_cons_succ, List.getElem?_cons_zero]; rfl
   case hQ209 => exact fun _ _ _ h => h
   case hw209 => rfl
   case hy209 => (intro W hW; have c8 := hW.c 8 (by rw [HCS.out]; rfl); have c9 := hW.c 9 (by rw [HCS.out]; rfl); have c10 := hW.c 10 (by rw [HCS.out]; rfl); go_simp; all_goals rfl)
   simp only [Act.put, List.setIfInBounds_toArray, List.set_cons_zero, List.set_cons_succ]
   refine wpAnyH_ready (rs := [4]) (by kernel_rfl) (by simp) ?_
   refine AllReadyH.cons (i := 4) (o := ?o210) ?ho210 (fun Kq hK => ?step210) AllReadyH.nil
   case ho210 => simp only [List.getElem?_toArray, List.getElem?_cons_succ, List.getElem?_cons_zero]; rfl
   go_simp
   (go_at_call 59; refine (tputNum_any _ Av lv cv ge L0 HBd.out (HQ.out.2.2 ge (by simp)).1 (HQ.out.2.2 ge (by simp)).2 (by omega)).mono ?_; rintro e w6 ⟨v6, rfl, hz⟩)
   have HB1 := Hd.mk hz.1
   have hF := hz.1.sta
   obtain ⟨A6, c6, hv, -, -⟩ := HB1.out.rd
   obtain ⟨l6, hl6⟩ : ∃ l, (L0 ++ uz ge).length = l := ⟨_, rfl⟩
   have hl6b : l6 ≤ 33554432 - 20 := by rw [← hl6, List.length_append, HLV.out]; have := uz_len ge; omega
   rw [hl6] at hv
   subst hv
   clear hl6 hz
   refine hK.out _ _ hF (fun _ => ?_)
   clear hK Kq hHeld
   have hHeld := hF
   clear hF
   try simp only [Act.put, List.setIfInBounds_toArray, List.set_cons_zero, List.set_cons_succ]
   refine wpAnyH_ready (rs := [8]) (by kernel_rfl) (by simp) ?_
   refine AllReadyH.cons (i := 8) (o := ?o211) ?ho211 (fun Kq hK => ?step211) AllReadyH.nil
   case ho211 => simp only [List.getElem?_toArray, List.getElem?_cons_succ, List.getElem?_cons_zero]; rfl
   go_simp
   (go_at_call 59; refine (tputNum_any w6 A6 l6 c6 gc (L0 ++ uz ge) HB1.out (HQ.out.2.2 gc (by simp)).1 (HQ.out.2.2 gc (by simp)).2 (by omega)).mono ?_; rintro e w7 ⟨v7, rfl, hz⟩)
   have HB2 := Hd.mk hz.1
   have hF := hz.1.sta
   obtain ⟨A7, c7, hv, -, -⟩ := HB2.out.rd
   obtain ⟨l7, hl7⟩ : ∃ l, (L0 ++ uz ge ++ uz gc).length = l := ⟨_, rfl⟩
   have hl7b : l7 ≤ 33554432 - 10 := by rw [← hl7, List.length_append, List.length_append, HLV.out]; have := uz_len ge; have := uz_len gc; omega
   rw [hl7] at hv
   subst hv
   clear hl7 hz
   refine hK.out _ _ hF (fun _ => ?_)
   clear hK Kq hHeld
   have hHeld := hF
   clear hF
   try simp only [Act.put, List.setIfInBounds_toArray, List.set_cons_zero, List.set_cons_succ]
   refine wpAnyH_ready (rs := [11]) (by kernel_rfl) (by simp) ?_
   refine AllReadyH.cons (i := 11) (o := ?o212) ?ho212 (fun Kq hK => ?step212) AllReadyH.nil
   case ho212 => simp only [List.getElem?_toArray, List.getElem?_cons_succ, List.getElem?_cons_zero]; rfl
   go_simp
   (go_at_call 59; refine (tputNum_any w7 A7 l7 c7 size (L0 ++ uz ge ++ uz gc) HB2.out (HQ.out.2.2 size (by simp)).1 (HQ.out.2.2 size (by simp)).2 (by omega)).mono ?_; rintro e w8 ⟨v8, rfl, hz⟩)
   have HB3 := Hd.mk hz.1
   have hF := hz.1.sta
   clear hz
   refine hK.out _ _ hF (fun _ => ?_)
   clear hK Kq hHeld
   have hHeld := hF
   clear hF
   try simp only [Act.put, List.setIfInBounds_toArray, List.set_cons_zero, List.set_cons_succ]
   refine wpAnyH_take (i := 12) (oi := ?oi213) (v := ?v213) ?hi213 (by kernel_rfl) (by kernel_rfl) (by kernel_rfl) ?hQ213 (Or.inl ⟨?hw213, ?hy213⟩) (by assumption) ?rest213
   case hi213 => simp only [List.getElem?_toArray, List.getElem?_cons_succ, List.getElem?_cons_zero]; rfl
   case hQ213 => exact fun _ _ _ h => h
   case hw213 => rfl
   case hy213 => (intro W hW; have c8 := hW.c 8 (by rw [HCS.out]; rfl); have c9 := hW.c 9 (by rw [HCS.out]; rfl); have c10 := hW.c 10 (by rw [HCS.out]; rfl); go_simp; all_goals rfl)
   simp only [Act.put, List.setIfInBounds_toArray, List.set_cons_zero, List.set_cons_succ]
   refine wpAnyH_done (by kernel_rfl) ?_ _
   clear HB0 HBd HB1 HB2 HLV hHeld
   obtain ⟨Av, cv, hv, hvc, hvr⟩ := HB3.out.rd
   obtain ⟨lv, hlv⟩ : ∃ l, (L0 ++ uz ge ++ uz gc ++ uz size).length = l := ⟨_, rfl⟩
   rw [hlv] at hv
   subst hv
   have HLV := Hd.mk hlv
   clear hvc hvr hlv
   have hlv2 : lv ≤ 33554432 := by rw [← HLV.out]; simp only [List.length_append]; have := HL19.out.1; have := uz_len ge; have := uz_len gc; have := uz_len size; omega
   go_wp2_with fail
   refine (tform_any w8 Av lv cv (L0 ++ uz ge ++ uz gc ++ uz size) HB3.out (by intro x hx; simp only [List.mem_append] at hx; rcases hx with (((hx | hx) | hx) | hx); exact HL19.out.2 x hx; exact (uz_lt ge (HQ.out.2.2 ge (by simp)).1 (HQ.out.2.2 ge (by simp)).2) x hx; exact (uz_lt gc (HQ.out.2.2 gc (by simp)).1 (HQ.out.2.2 gc (by simp)).2) x hx; exact (uz_lt size (HQ.out.2.2 size (by simp)).1 (HQ.out.2.2 size (by simp)).2) x hx) hlv2).mono ?_
   rintro e wf ⟨vf, rfl, hO⟩
   have HO := Hd.mk hO
   clear hO
   go_wp2_with fail
   go_ret2
   exact TellPost.good HYES.out HF.out (by rw [HAn.out]; exact anC_gen HL0.out rfl rfl) HO.out
  ·obtain ⟨Av, cv, hv, hvc, hvr⟩ := HB0.out.rd
   obtain ⟨lv, hlv⟩ : ∃ l, (L0).length = l := ⟨_, rfl⟩
   rw [hlv] at hv
   subst hv
   have HLV := Hd.mk hlv
   clear hvc hvr hlv
   have hlv2 : lv ≤ 33554432 := by rw [← HLV.out]; have := HL19.out.1; omega
   go_wp2_with fail
   refine (tform_any w5 Av lv cv (L0) HB0.out (by exact HL19.out.2) hlv2).mono ?_
   rintro e wf ⟨vf, rfl, hO⟩
   have HO := Hd.mk hO
   clear hO
   go_wp2_with fail
   go_ret2
   exact TellPost.good HYES.out HF.out (by rw [HAn.out]; exact anC_code HL0.out (by omega) (.inr (by omega))) HO.out
  ·clear hk8i
   have hM : M = 65536 := HM.out
   have e4 := HB0.out.sta.c 4 (by rw [HCS.out]; rfl)
   obtain ⟨Av, cv, hv, hvc, hvr⟩ := HB0.out.rd
   obtain ⟨lv, hlv⟩ : ∃ l, (L0).length = l := ⟨_, rfl⟩
   rw [hlv] at hv
   subst hv
   have HLV := Hd.mk hlv
   clear hvc hvr hlv
   have hlv2 : lv ≤ 33554432 := by rw [← HLV.out]; have := HL19.out.1; omega
   go_wp2_with fail
   refine (tputTxt_any w5 Av A2 lv cv n2 c2 M L0 keys HB0.out (HR2.out w5 HB0.out.sta).2.1 hlv2 HS.out.1 hM2).mono ?_
   rintro e w6 ⟨v6, rfl, hz⟩
   have HB1 := Hd.mk hz.1
   clear hz hlv2 HLV HB0
   obtain ⟨Av, cv, hv, hvc, hvr⟩ := HB1.out.rd
   obtain ⟨lv, hlv⟩ : ∃ l, (L0 ++ ut keys).length = l := ⟨_, rfl⟩
   rw [hlv] at hv
   subst hv
   have HLV := Hd.mk hlv
   clear hvc hvr hlv
   have hlv2 : lv ≤ 33554432 := by rw [← HLV.out]; rw [List.length_append]; have := HL19.out.1; have := ut_len keys M HS.out.1; omega
   go_wp2_with fail
   refine (tform_any w6 Av lv cv (L0 ++ ut keys) HB1.out (by intro x hx; simp only [List.mem_append] at hx; rcases hx with (hx | hx); exact HL19.out.2 x hx; exact (ut_lt keys M HS.out.1 (by omega)) x hx) hlv2).mono ?_
   rintro e wf ⟨vf, rfl, hO⟩
   have HO := Hd.mk hO
   clear hO
   go_wp2_with fail
   go_ret2
   exact TellPost.good HYES.out HF.out (by rw [HAn.out]; exact anC_keys HL0.out rfl rfl) HO.out
  ·clear hk8i
   have hM : M = 1000 := HM.out
   have e4 := HB0.out.sta.c 4 (by rw [HCS.out]; rfl)
   have e5 := HB0.out.sta.c 5 (by rw [HCS.out]; rfl)
   obtain ⟨Av, cv, hv, hvc, hvr⟩ := HB0.out.rd
   obtain ⟨lv, hlv⟩ : ∃ l, (L0).length = l := ⟨_, rfl⟩
   rw [hlv] at hv
   subst hv
   have HLV := Hd.mk hlv
   clear hvc hvr hlv
   have hlv2 : lv ≤ 33554432 - 1000000 := by rw [← HLV.out]; have := HL19.out.1; omega
   have hut1 := ut_len keys M HS.out.1
   have hut2 := ut_len groups 1000 HS.out.2
   go_upto_region 26 with fail
   have HBd := Hd.mk HB0.out.drew
   refine wp_region_held_drew (S := fun W => TS w W g xs) (by kernel_rfl) HBd.out.sta (fun hHeld => ?_)
   refine wpAnyH_take (i := 0) (oi := ?oi301) (v := ?v301) ?hi301 (by kernel_rfl) (by kernel_rfl) (by kernel_rfl) ?hQ301 (Or.inl ⟨?hw301, ?hy301⟩) (by assumption) ?rest301
   case hi301 => simp only [List.getElem?_toArray, List.getElem?_cons_succ, List.getElem?_cons_zero]; rfl
   case hQ301 => exact fun _ _ _ h => h
   case hw301 => rfl
   case hy301 => (intro W hW; have c4 := hW.c 4 (by rw [HCS.out]; rfl); have c5 := hW.c 5 (by rw [HCS.out]; rfl); go_simp; all_goals rfl)
   simp only [Act.put, List.setIfInBounds_toArray, List.set_cons_zero, List.set_cons_succ]
   refine wpAnyH_take (i := 1) (oi := ?oi302) (v := ?v302) ?hi302 (by kernel_rfl) (by kernel_rfl) (by kernel_rfl) ?hQ302 (Or.inl ⟨?hw302, ?hy302⟩) (by assumption) ?rest302
   case hi302 => simp only [List.getElem?_toArray, List.getElem?_cons_succ, List.getElem?_cons_zero]; rfl
   case hQ302 => exact fun _ _ _ h => h
   case hw302 => rfl
   case hy302 => (intro W hW; have c4 := hW.c 4 (by rw [HCS.out]; rfl); have c5 := hW.c 5 (by rw [HCS.out]; rfl); go_simp; all_goals rfl)
   simp only [Act.put, List.setIfInBounds_toArray, List.set_cons_zero, List.set_cons_succ]
   refine wpAnyH_take (i := 2) (oi := ?oi303) (v := ?v303) ?hi303 (by kernel_rfl) (by kernel_rfl) (by kernel_rfl) ?hQ303 (Or.inl ⟨?hw303, ?hy303⟩) (by assumption) ?rest303
   case hi303 => simp only [List.getElem?_toArray, List.getElem?_cons_succ, List.getElem?_cons_zero]; rfl
   case hQ303 => exact fun _ _ _ h => h
   case hw303 => rfl
   case hy303 => (intro W hW; have c4 := hW.c 4 (by rw [HCS.out]; rfl); have c5 := hW.c 5 (by rw [HCS.out]; rfl); go_simp; all_goals rfl)
   simp only [Act.put, List.setIfInBounds_toArray, List.set_cons_zero, List.set_cons_succ]
   refine wpAnyH_take (i := 4) (oi := ?oi304) (v := ?v304) ?hi304 (by kernel_rfl) (by kernel_rfl) (by kernel_rfl) ?hQ304 (Or.inl ⟨?hw304, ?hy304⟩) (by assumption) ?rest304
   case hi304 => simp only [List.getElem?_toArray, List.getElem?_cons_succ, List.getElem?_cons_zero]; rfl
   case hQ304 => exact fun _ _ _ h => h
   case hw304 => rfl
   case hy304 => (intro W hW; have c4 := hW.c 4 (by rw [HCS.out]; rfl); have c5 := hW.c 5 (by rw [HCS.out]; rfl); go_simp; all_goals rfl)
   simp only [Act.put, List.setIfInBounds_toArray, List.set_cons_zero, List.set_cons_succ]
   refine wpAnyH_take (i := 5) (oi := ?oi305) (v := ?v305) ?hi305 (by kernel_rfl) (by kernel_rfl) (by kernel_rfl) ?hQ305 (Or.inl ⟨?hw305, ?hy305⟩) (by assumption) ?rest305
   case hi305 => simp only [List.getElem?_toArray, List.getElem?_cons_succ, List.getElem?_cons_zero]; rfl
   case hQ305 => exact fun _ _ _ h => h
   case hw305 => rfl
   case hy305 => (intro W hW; have c4 := hW.c 4 (by rw [HCS.out]; rfl); have c5 := hW.c 5 (by rw [HCS.out]; rfl); go_simp; all_goals rfl)
   simp only [Act.put, List.setIfInBounds_toArray, List.set_cons_zero, List.set_cons_succ]
   refine wpAnyH_ready (rs := [3]) (by kernel_rfl) (by simp) ?_
   refine AllReadyH.cons (i := 3) (o := ?o306) ?ho306 (fun Kq hK => ?step306) AllReadyH.nil
   case ho306 => simp only [List.getElem?_toArray, List.getElem?_cons_succ, List.getElem?_cons_zero]; rfl
   go_simp
   (go_at_call 68; refine (tputTxt_any _ Av A2 lv cv n2 c2 M L0 keys HBd.out (HR2.out _ hHeld).2.1 (by omega) HS.out.1 hM2).mono ?_; rintro e w6 ⟨v6, rfl, hz⟩)
   have HB1 := Hd.mk hz.1
   have hF := hz.1.sta
   obtain ⟨A6, c6, hv, -, -⟩ := HB1.out.rd
   obtain ⟨l6, hl6⟩ : ∃ l, (L0 ++ ut keys).length = l := ⟨_, rfl⟩
   have hl6b : l6 ≤ 33554432 - 600000 := by rw [← hl6, List.length_append, HLV.out]; omega
   rw [hl6] at hv
   subst hv
   clear hl6 hz
   refine hK.out _ _ hF (fun _ => ?_)
   clear hK Kq hHeld
   have hHeld := hF
   clear hF
   try simp only [Act.put, List.setIfInBounds_toArray, List.set_cons_zero, List.set_cons_succ]
   refine wpAnyH_ready (rs := [6]) (by kernel_rfl) (by simp) ?_
   refine AllReadyH.cons (i := 6) (o := ?o307) ?ho307 (fun Kq hK => ?step307) AllReadyH.nil
   case ho307 => simp only [List.getElem?_toArray, List.getElem?_cons_succ, List.getElem?_cons_zero]; rfl
   go_simp
   (go_at_call 68; refine (tputTxt_any w6 A6 A3 l6 c6 n3 c3 1000 (L0 ++ ut keys) groups HB1.out (HR2.out _ HB1.out.sta).2.2 (by omega) HS.out.2 (by omega)).mono ?_; rintro e w7 ⟨v7, rfl, hz⟩)
   have HB2 := Hd.mk hz.1
   have hF := hz.1.sta
   clear hz
   refine hK.out _ _ hF (fun _ => ?_)
   clear hK Kq hHeld
   have hHeld := hF
   clear hF
   try simp only [Act.put, List.setIfInBounds_toArray, List.set_cons_zero, List.set_cons_succ]
   refine wpAnyH_take (i := 7) (oi := ?oi308) (v := ?v308) ?hi308 (by kernel_rfl) (by kernel_rfl) (by kernel_rfl) ?hQ308 (Or.inl ⟨?hw308, ?hy308⟩) (by assumption) ?rest308
   case hi308 => simp only [List.getElem?_toArray, List.getElem?_cons_succ, List.getElem?_cons_zero]; rfl
   case hQ308 => exact fun _ _ _ h => h
   case hw308 => rfl
   case hy308 => (intro W hW; have c4 := hW.c 4 (by rw [HCS.out]; rfl); have c5 := hW.c 5 (by rw [HCS.out]; rfl); go_simp; all_goals rfl)
   simp only [Act.put, List.setIfInBounds_toArray, List.set_cons_zero, List.set_cons_succ]
   refine wpAnyH_done (by kernel_rfl) ?_ _
   clear HB0 HBd HB1 hHeld
   have e6 := HB2.out.sta.c 6 (by rw [HCS.out]; rfl)
   obtain ⟨A7, c7, hv, -, -⟩ := HB2.out.rd
   obtain ⟨l7, hl7⟩ : ∃ l, (L0 ++ ut keys ++ ut groups).length = l := ⟨_, rfl⟩
   have hl7b : l7 ≤ 33554432 - 300000 := by rw [← hl7, List.length_append, List.length_append, HLV.out]; omega
   rw [hl7] at hv
   subst hv
   clear hl7 HLV
   have hcv := fun w => run_bytes_of_string (P := Try.prog) w 9 26 5 next infoStr Try.underlying26 Try.underlying5
   generalize hcap : grownCap = GC at hcv
   go_wp2_with fail
   refine (tputStr_any w7 next _ A7 l7 c7 (L0 ++ ut keys ++ ut groups) HB2.out (by omega) (by omega)).mono ?_
   rintro e w8 ⟨v8, rfl, hz⟩
   have HB3 := Hd.mk hz
   clear hz HB2 hcv hcap e6
   have e7 := HB3.out.sta.c 7 (by rw [HCS.out]; rfl)
   obtain ⟨A8, c8, hv, -, -⟩ := HB3.out.rd
   obtain ⟨l8, hl8⟩ : ∃ l, (L0 ++ ut keys ++ ut groups ++ us next).length = l := ⟨_, rfl⟩
   have hl8b : l8 ≤ 33554432 - 100 := by rw [← hl8]; simp only [List.length_append]; have := HL19.out.1; have := us_len next; omega
   rw [hl8] at hv
   subst hv
   clear hl8
   rcases hmo : more with _ | _
   ·subst hmo
    go_wp2_with fail
    refine (tput8_any w8 A8 l8 c8 0 (L0 ++ ut keys ++ ut groups ++ us next) HB3.out (by omega) (by omega)).mono ?_
    rintro e w9 ⟨v9, rfl, hz⟩
    have HB4 := Hd.mk hz
    clear hz HB3
    obtain ⟨Av, cv, hv, hvc, hvr⟩ := HB4.out.rd
    obtain ⟨lv, hlv⟩ : ∃ l, (L0 ++ ut keys ++ ut groups ++ us next ++ fx 1 0).length = l := ⟨_, rfl⟩
    rw [hlv] at hv
    subst hv
    have HLV := Hd.mk hlv
    clear hvc hvr hlv
    have hlv2 : lv ≤ 33554432 := by rw [← HLV.out]; simp only [List.length_append]; have := HL19.out.1; have := us_len next; rw [fx_len]; omega
    go_wp2_with fail
    refine (tform_any w9 Av lv cv (L0 ++ ut keys ++ ut groups ++ us next ++ fx 1 0) HB4.out (by intro x hx; simp only [List.mem_append] at hx; rcases hx with ((((hx | hx) | hx) | hx) | hx); exact HL19.out.2 x hx; exact (ut_lt keys M HS.out.1 (by omega)) x hx; exact (ut_lt groups 1000 HS.out.2 (by omega)) x hx; exact (us_lt next (by omega)) x hx; exact (fx_lt _ _) x hx) hlv2).mono ?_
    rintro e wf ⟨vf, rfl, hO⟩
    have HO := Hd.mk hO
    clear hO
    go_wp2_with fail
    go_ret2
    exact TellPost.good HYES.out HF.out (by rw [HAn.out]; exact anC_page HL0.out rfl rfl) HO.out
   ·subst hmo
    go_wp2_with fail
    refine (tput8_any w8 A8 l8 c8 1 (L0 ++ ut keys ++ ut groups ++ us next) HB3.out (by omega) (by omega)).mono ?_
    rintro e w9 ⟨v9, rfl, hz⟩
    have HB4 := Hd.mk hz
    clear hz HB3
    obtain ⟨Av, cv, hv, hvc, hvr⟩ := HB4.out.rd
    obtain ⟨lv, hlv⟩ : ∃ l, (L0 ++ ut keys ++ ut groups ++ us next ++ fx 1 1).length = l := ⟨_, rfl⟩
    rw [hlv] at hv
    subst hv
    have HLV := Hd.mk hlv
    clear hvc hvr hlv
    have hlv2 : lv ≤ 33554432 := by rw [← HLV.out]; simp only [List.length_append]; have := HL19.out.1; have := us_len next; rw [fx_len]; omega
    go_wp2_with fail
    refine (tform_any w9 Av lv cv (L0 ++ ut keys ++ ut groups ++ us next ++ fx 1 1) HB4.out (by intro x hx; simp only [List.mem_append] at hx; rcases hx with ((((hx | hx) | hx) | hx) | hx); exact HL19.out.2 x hx; exact (ut_lt keys M HS.out.1 (by omega)) x hx; exact (ut_lt groups 1000 HS.out.2 (by omega)) x hx; exact (us_lt next (by omega)) x hx; exact (fx_lt _ _) x hx) hlv2).mono ?_
    rintro e wf ⟨vf, rfl, hO⟩
    have HO := Hd.mk hO
    clear hO
    go_wp2_with fail
    go_ret2
    exact TellPost.good HYES.out HF.out (by rw [HAn.out]; exact anC_page HL0.out rfl rfl) HO.out
theorem tell_any (w : World) (a : An) (A A2 A3 : Option Addr) (n c n2 c2 n3 c3 : Nat) (hr : Rd w w.heap.size A n (cb a.body)) (hr2 : Rd w w.heap.size A2 n2 (cs a.keys)) (hr3 : Rd w w.heap.size A3 n3 (cs a.groups)) (hb : AnB a) (hn2 : n2 ≤ 8796093022000) (hn3 : n3 ≤ 8796093022000) (hq1 : -9223372036854775808 ≤ a.kind ∧ a.kind ≤ 9223372036854775807) (hq2 : -9223372036854775808 ≤ a.code ∧ a.code ≤ 9223372036854775807) :
  Calls Try.prog 23 #[anV a.kind a.code a.tag A A2 A3 n c n2 c2 n3 c3 a.next a.more a.ge a.gc a.size a.h1 a.h2 a.h3 a.h4] w (TellPost a w) :=
 tell_any0 w a a.kind a.code a.tag a.body a.keys a.groups a.next a.more a.ge a.gc a.size a.h1 a.h2 a.h3 a.h4 rfl A A2 A3 n c n2 c2 n3 c3 hr hr2 hr3 hb hn2 hn3 hq1 hq2
end Go.Proofs.Ytbcmjjcbjojakaa
