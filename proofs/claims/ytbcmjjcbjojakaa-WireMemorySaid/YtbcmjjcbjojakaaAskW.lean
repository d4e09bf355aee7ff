/- Contract of the program's Ask. -/
import Derived.Test.YtbcmjjcbjojakaaPk3
import Derived.Deep.Cut
import Derived.Deep.Light
import Derived.Deep.CutRange
import Derived.Deep.RegionHeld3
import Derived.Test.YtbcmjjcbjojakaaPk6
namespace Go.Proofs.Ytbcmjjcbjojakaa
open Go.RowKit
set_option linter.unusedVariables false
set_option linter.unusedSimpArgs false
/-- Is a request refused at once? -/
noncomputable def badB (R : Rq) : Bool := @decide (¬ rqOk R) (Classical.propDecidable _)
theorem badB_true {R : Rq} (h : ¬ rqOk R) : true = badB R := by unfold badB; exact (@decide_eq_true _ (Classical.propDecidable _) h).symm
theorem badB_false {R : Rq} (h : rqOk R) : false = badB R := by unfold badB; exact (@decide_eq_false _ (Classical.propDecidable _) (fun g => g h)).symm
theorem bad_eq {R : Rq} {k : Int} {tag : Nat} {key after : ByteArray} {off num delim : Int} {body : List Nat} (hR : R = ⟨k, tag, key, after, off, num, delim, body⟩) {n : Nat} (hl : body.length = n) {b1 b2 b3 b4 b5 b6 b7 : Bool}
  (h : cKey k = b1 ∧ cBody k = b2 ∧ cAfter k = b3 ∧ cOff k = b4 ∧ cNum k = b5 ∧ cDelim k = b6 ∧ decide (1 ≤ k ∧ k ≤ 8) = b7) :
  badB R = decide (¬ (b7 = true ∧ (b1 = false → key.toList = []) ∧ (b2 = false → n = 0) ∧ (b3 = false → after.toList = []) ∧ (b4 = false → off = 0) ∧ (b5 = false → num = 0) ∧ (b6 = false → delim = 0))) := by
 obtain ⟨rfl, rfl, rfl, rfl, rfl, rfl, rfl⟩ := h
 have hk : ∀ s : ByteArray, s = emS ↔ s.toList = [] := fun s => by
  rw [ByteArray.toList_eq]
  constructor
  ·rintro rfl; rfl
  ·intro h
   have : s.data = #[] := by simpa using h
   cases s; simp only at this; rw [this]; rfl
 have hb : body = [] ↔ n = 0 := by rw [← hl]; exact List.length_eq_zero_iff.symm
 unfold badB
 rw [Bool.eq_iff_iff, @decide_eq_true_iff _ (Classical.propDecidable _), decide_eq_true_iff]
 refine not_congr ?_
 subst hR
 unfold rqOk
 simp only [hk, hb, decide_eq_true_iff]
 constructor
 ·rintro ⟨h1, h2, h3⟩; exact ⟨⟨h1, h2⟩, h3⟩
 ·rintro ⟨⟨h1, h2⟩, h3⟩; exact ⟨h1, h2, h3⟩
theorem counts_to (w : World) (k : Int) (g : Nat) (b1 b2 b3 b4 b5 b6 b7 : Bool) (h : cKey k = b1 ∧ cBody k = b2 ∧ cAfter k = b3 ∧ cOff k = b4 ∧ cNum k = b5 ∧ cDelim k = b6 ∧ decide (1 ≤ k ∧ k ≤ 8) = b7) :
  Calls Try.prog 55 #[.int .i64 k] w fun e w' => e = .returned (.tuple #[.agg #[.bool b1, .bool b2, .bool b3, .bool b4, .bool b5, .bool b6], .bool b7]) ∧ Below w.heap.size w w' := by
 obtain ⟨rfl, rfl, rfl, rfl, rfl, rfl, rfl⟩ := h
 exact counts_any w k
set_option maxRecDepth 20000 in
set_option maxHeartbeats 4000000 in
theorem ask_any0 (w : World) (R : Rq) (k : Int) (tag : Nat) (key after : ByteArray) (off num delim : Int) (body : List Nat) (hR : R = ⟨k, tag, key, after, off, num, delim, body⟩) (A : Option Addr) (n c : Nat) (hr : Rd w w.heap.size A n (cb body)) (hb : RqB R) (hc : n ≤ c) :
  Calls Try.prog 19 #[.agg #[.int .i64 k, .int .u64 (tag : Int), .string key, .string after, .int .i64 off, .int .i64 num, .int .i64 delim, .slice A n c]] w (AskPost R w) := by
 have HR := Hd.mk hR
 have hbl : body.length = n := by have := hr.1; rw [cb_length] at this; exact this
 have HH : Hd (Rd w w.heap.size A n (cb body) ∧ RqB R ∧ n ≤ c ∧ body.length = n) := ⟨hr, hb, hc, hbl⟩
 clear hr hb hc hbl hR
 go_enter Try.func19, Try.ntmps19
 go_wp2_with fail
 obtain ⟨b1, h1⟩ : ∃ b, cKey k = b := ⟨_, rfl⟩
 obtain ⟨b2, h2⟩ : ∃ b, cBody k = b := ⟨_, rfl⟩
 obtain ⟨b3, h3⟩ : ∃ b, cAfter k = b := ⟨_, rfl⟩
 obtain ⟨b4, h4⟩ : ∃ b, cOff k = b := ⟨_, rfl⟩
 obtain ⟨b5, h5⟩ : ∃ b, cNum k = b := ⟨_, rfl⟩
 obtain ⟨b6, h6⟩ : ∃ b, cDelim k = b := ⟨_, rfl⟩
 obtain ⟨b7, h7⟩ : ∃ b, decide (1 ≤ k ∧ k ≤ 8) = b := ⟨_, rfl⟩
 have HK : Hd (cKey k = b1 ∧ cBody k = b2 ∧ cAfter k = b3 ∧ cOff k = b4 ∧ cNum k = b5 ∧ cDelim k = b6 ∧ decide (1 ≤ k ∧ k ≤ 8) = b7) := ⟨h1, h2, h3, h4, h5, h6, h7⟩
 clear h1 h2 h3 h4 h5 h6 h7
 refine (counts_to _ k 0 b1 b2 b3 b4 b5 b6 b7 HK.out).mono ?_
 rintro e w1 ⟨rfl, hb⟩
 have HB := Hd.mk hb
 clear hb
 obtain ⟨cs, hcs⟩ : ∃ cs : Array Value, cs = #[.int .i64 k, .int .u64 (tag : Int), .string key, .string after, .int .i64 off, .int .i64 num, .int .i64 delim, .slice A n c] := ⟨_, rfl⟩
 obtain ⟨g, hg⟩ : ∃ g, w.heap.size = g := ⟨_, rfl⟩
 rw [hg]
 have H1 : Hd (w1.heap[g]? = some (.cells cs 28) ∧ Below g w w1 ∧ cs = #[.int .i64 k, .int .u64 (tag : Int), .string key, .string after, .int .i64 off, .int .i64 num, .int .i64 delim, .slice A n c]) :=
  ⟨by rw [HB.out.block g (by simp; omega), ← hg, hcs]; exact heap_alloc_new w _, by rw [← hg]; exact ((Below.refl _ w).alloc (Nat.le_refl _) _).trans (HB.out.mono (by simp)), hcs⟩
 have HG := Hd.mk hg
 clear HB hg hcs
 go_upto_region 2 with (refine at_store (x := .tmp 4) ?_; refine wpList_boxed rfl 114 (.tmp 4) (.tmp 11) rfl w1.heap.size rfl #[.bool b1, .bool b2, .bool b3, .bool b4, .bool b5, .bool b6] rfl rfl infoC rfl (by simp [Value.oneCell']) ?_; intro w2 hB2)
 obtain ⟨g1, hg1⟩ : ∃ g1, w1.heap.size = g1 := ⟨_, rfl⟩
 rw [hg1] at hB2 ⊢
 have HA : Hd (AS w w2 g g1 cs #[.bool b1, .bool b2, .bool b3, .bool b4, .bool b5, .bool b6]) := ⟨by rw [hB2.out.2.1.block g (by rw [← hg1]; exact (Array.getElem?_eq_some_iff.1 H1.out.1).1)]; exact H1.out.1, hB2.out.1, by rw [HG.out]; exact H1.out.2.1.trans (hB2.out.2.1.mono (by have := H1.out.2.1.size; have := HG.out; omega))⟩
 have HCS := Hd.mk H1.out.2.2
 have HE := Hd.mk (bad_eq HR.out HH.out.2.2.2 HK.out)
 clear H1 hB2 hg1
 have c2 := HA.out.c 2 (by rw [HCS.out]; rfl)
 have c3 := HA.out.c 3 (by rw [HCS.out]; rfl)
 have c4 := HA.out.c 4 (by rw [HCS.out]; rfl)
 have c5 := HA.out.c 5 (by rw [HCS.out]; rfl)
 have c6 := HA.out.c 6 (by rw [HCS.out]; rfl)
 have c7 := HA.out.c 7 (by rw [HCS.out]; rfl)
 have d0 := HA.out.d 0 rfl
 have d1 := HA.out.d 1 rfl
 have d2 := HA.out.d 2 rfl
 have d3 := HA.out.d 3 rfl
 have d4 := HA.out.d 4 rfl
 have d5 := HA.out.d 5 rfl
 go_cut [75] from 13 (fun r wx => r = .bool (badB R) ∧ wx = w2)
 case first =>
  by_cases hk1 : k = 1
  ·subst hk1
   have e1 : b1 = true := by rw [← HK.out.1]; decide
   have e2 : b2 = true := by rw [← HK.out.2.1]; decide
   have e3 : b3 = false := by rw [← HK.out.2.2.1]; decide
   have e4 : b4 = false := by rw [← HK.out.2.2.2.1]; decide
   have e5 : b5 = false := by rw [← HK.out.2.2.2.2.1]; decide
   have e6 : b6 = false := by rw [← HK.out.2.2.2.2.2.1]; decide
   have e7 : b7 = true := by rw [← HK.out.2.2.2.2.2.2]; decide
   subst e1 e2 e3 e4 e5 e6 e7
   go_wp2_with fail
   all_goals
    subst_vars
    go_meet
    case rel => exact ⟨by go_light; clear HR HH HK HA HCS; rw [HE.out]; try (refine congrArg Value.bool ?_; clear HE; first | (simp_all; done) | (simp_all; rfl)), rfl⟩
  by_cases hk3 : k = 3
  ·subst hk3
   have e1 : b1 = true := by rw [← HK.out.1]; decide
   have e2 : b2 = false := by rw [← HK.out.2.1]; decide
   have e3 : b3 = false := by rw [← HK.out.2.2.1]; decide
   have e4 : b4 = true := by rw [← HK.out.2.2.2.1]; decide
   have e5 : b5 = true := by rw [← HK.out.2.2.2.2.1]; decide
   have e6 : b6 = false := by rw [← HK.out.2.2.2.2.2.1]; decide
   have e7 : b7 = true := by rw [← HK.out.2.2.2.2.2.2]; decide
   subst e1 e2 e3 e4 e5 e6 e7
   go_wp2_with fail
   all_goals
    subst_vars
    go_meet
    case rel => exact ⟨by go_light; clear HR HH HK HA HCS; rw [HE.out]; try (refine congrArg Value.bool ?_; clear HE; first | (simp_all; done) | (simp_all; rfl)), rfl⟩
  by_cases hk7 : k = 7
  ·subst hk7
   have e1 : b1 = true := by rw [← HK.out.1]; decide
   have e2 : b2 = false := by rw [← HK.out.2.1]; decide
   have e3 : b3 = true := by rw [← HK.out.2.2.1]; decide
   have e4 : b4 = false := by rw [← HK.out.2.2.2.1]; decide
   have e5 : b5 = true := by rw [← HK.out.2.2.2.2.1]; decide
   have e6 : b6 = true := by rw [← HK.out.2.2.2.2.2.1]; decide
   have e7 : b7 = true := by rw [← HK.out.2.2.2.2.2.2]; decide
   subst e1 e2 e3 e4 e5 e6 e7
   go_wp2_with fail
   all_goals
    subst_vars
    go_meet
    case rel => exact ⟨by go_light; clear HR HH HK HA HCS; rw [HE.out]; try (refine congrArg Value.bool ?_; clear HE; first | (simp_all; done) | (simp_all; rfl)), rfl⟩
  by_cases hk8 : k = 8
  ·subst hk8
   have e1 : b1 = false := by rw [← HK.out.1]; decide
   have e2 : b2 = false := by rw [← HK.out.2.1]; decide
   have e3 : b3 = false := by rw [← HK.out.2.2.1]; decide
   have e4 : b4 = false := by rw [← HK.out.2.2.2.1]; decide
   have e5 : b5 = false := by rw [← HK.out.2.2.2.2.1]; decide
   have e6 : b6 = false := by rw [← HK.out.2.2.2.2.2.1]; decide
   have e7 : b7 = true := by rw [← HK.out.2.2.2.2.2.2]; decide
   subst e1 e2 e3 e4 e5 e6 e7
   go_wp2_with fail
   all_goals
    subst_vars
    go_meet
    case rel => exact ⟨by go_light; clear HR HH HK HA HCS; rw [HE.out]; try (refine congrArg Value.bool ?_; clear HE; first | (simp_all; done) | (simp_all; rfl)), rfl⟩
  by_cases hk : k = 2 ∨ k = 4 ∨ k = 5 ∨ k = 6
  ·have hq : True := trivial
   have e1 : b1 = true := by rw [← HK.out.1]; rcases hk with rfl | rfl | rfl | rfl <;> decide
   have e2 : b2 = false := by rw [← HK.out.2.1]; rcases hk with rfl | rfl | rfl | rfl <;> decide
   have e3 : b3 = false := by rw [← HK.out.2.2.1]; rcases hk with rfl | rfl | rfl | rfl <;> decide
   have e4 : b4 = false := by rw [← HK.out.2.2.2.1]; rcases hk with rfl | rfl | rfl | rfl <;> decide
   have e5 : b5 = false := by rw [← HK.out.2.2.2.2.1]; rcases hk with rfl | rfl | rfl | rfl <;> decide
   have e6 : b6 = false := by rw [← HK.out.2.2.2.2.2.1]; rcases hk with rfl | rfl | rfl | rfl <;> decide
   have e7 : b7 = true := by rw [← HK.out.2.2.2.2.2.2]; rcases hk with rfl | rfl | rfl | rfl <;> decide
   subst e1 e2 e3 e4 e5 e6 e7
   go_wp2_with fail
   all_goals
    subst_vars
    go_meet
    case rel => exact ⟨by go_light; clear HR HH HK HA HCS; rw [HE.out]; try (refine congrArg Value.bool ?_; clear HE; first | (simp_all; done) | (simp_all; rfl)), rfl⟩
  have hk9 : ¬ (1 ≤ k ∧ k ≤ 8) := by omega
  have e7 : b7 = false := by rw [← HK.out.2.2.2.2.2.2]; exact decide_eq_false hk9
  subst e7
  go_wp2_with fail
  all_goals
   subst_vars
   go_meet
   case rel => exact ⟨by go_light; clear HR HH HK HA HCS; rw [HE.out]; try (refine congrArg Value.bool ?_; clear HE; first | (simp_all; done) | (simp_all; rfl)), rfl⟩
 case rest =>
  obtain ⟨hu, hwc⟩ := hcut
  subst hu hwc
  rcases hB : badB R with _ | _
  ·have hok : rqOk R := by
    rcases Classical.em (rqOk R) with h | h
    ·exact h
    ·have := badB_true h; rw [hB] at this; cases this
   have HOK := Hd.mk hok
   clear hok hB HE
   by_cases l1 : key.size ≤ 1024
   ·by_cases l2 : after.size ≤ 1024
    ·by_cases l3 : n ≤ 1048576
     ·have HF : Hd (rqFit R) := ⟨by rw [HR.out]; exact ⟨l1, l2, by rw [HH.out.2.2.2]; exact l3⟩⟩
      have m1 : ¬ (1024 : Int) < (key.size : Int) := by omega
      have m2 : ¬ (1024 : Int) < (after.size : Int) := by omega
      have m3 : ¬ (1048576 : Int) < (n : Int) := by omega
      obtain ⟨kn, hkn⟩ : ∃ kn : Nat, k = (kn : Int) := ⟨k.toNat, by have := HOK.out; rw [HR.out] at this; have h1 := this.1; simp only at h1; omega⟩
      subst hkn
      have hk1 : 1 ≤ kn ∧ kn ≤ 8 := by have := HOK.out; rw [HR.out] at this; have h1 := this.1; have h2 := this.2.1; simp only at h1 h2; omega
      have hk2 : kn ≤ 8 := hk1.2
      have HT : Hd (tag < 18446744073709551616) := ⟨by have := HH.out.2.1.tag; rw [HR.out] at this; exact this⟩
      have hwr : IntKind.u8.wrap (kn : Int) = (kn : Int) := by unfold IntKind.wrap; simp [IntKind.signed, IntKind.bits]; omega
      go_upto_region 6 with fail
      refine wp_region_held_drew (S := (fun W => AS w W g g1 cs #[.bool b1, .bool b2, .bool b3, .bool b4, .bool b5, .bool b6])) (by kernel_rfl) (HA.out.step (Below.refl _ _).drew) (fun hHeld => ?_)
      refine wpAnyH_take (i := 0) (oi := ?oi101) (v := ?v101) ?hi101 (by kernel_rfl) (by kernel_rfl) (by kernel_rfl) ?hQ101 (Or.inl ⟨?hw101, ?hy101⟩) (by assumption) ?rest101
      case hi101 => simp only [List.getElem?_toArray, List.getElem?_cons_succ, List.getElem?_cons_zero]; rfl
      case hQ101 => exact fun _ _ _ h => h
      case hw101 => rfl
      case hy101 => (intro W hW; have c0 := hW.c 0 (by rw [HCS.out]; rfl); have c1 := hW.c 1 (by rw [HCS.out]; rfl); go_simp; all_goals rfl)
      simp only [Act.put, List.setIfInBounds_toArray, List.set_cons_zero, List.set_cons_succ]
      refine wpAnyH_take (i := 1) (oi := ?oi102) (v := ?v102) ?hi102 (by kernel_rfl) (by kernel_rfl) (by kernel_rfl) ?hQ102 (Or.inl ⟨?hw102, ?hy102⟩) (by assumption) ?rest102
      case hi102 => simp only [List.getElem?_toArray, List.getElem?_cons_succ, List.getElem?_cons_zero]; rfl
      case hQ102 => exact fun _ _ _ h => h
      case hw102 => rfl
      case hy102 => (intro W hW; have c0 := hW.c 0 (by rw [HCS.out]; rfl); have c1 := hW.c 1 (by rw [HCS.out]; rfl); go_simp; all_goals rfl)
      simp only [Act.put, List.setIfInBounds_toArray, List.set_cons_zero, List.set_cons_succ]
      refine wpAnyH_take (i := 2) (oi := ?oi103) (v := ?v103) ?hi103 (by kernel_rfl) (by kernel_rfl) (by kernel_rfl) ?hQ103 (Or.inl ⟨?hw103, ?hy103⟩) (by assumption) ?rest103
      case hi103 => simp only [List.getElem?_toArray, List.getElem?_cons_succ, List.getElem?_cons_zero]; rfl
      case hQ103 => exact fun _ _ _ h => h
      case hw103 => rfl
      case hy103 => (intro W hW; have c0 := hW.c 0 (by rw [HCS.out]; rfl); have c1 := hW.c 1 (by rw [HCS.out]; rfl); go_simp; all_goals rfl)
      simp only [Act.put, List.setIfInBounds_toArray, List.set_cons_zero, List.set_cons_succ]
      refine wpAnyH_take (i := 4) (oi := ?oi104) (v := ?v104) ?hi104 (by kernel_rfl) (by kernel_rfl) (by kernel_rfl) ?hQ104 (Or.inl ⟨?hw104, ?hy104⟩) (by assumption) ?rest104
      case hi104 => simp only [List.getElem?_toArray, List.getElem?_cons_succ, List.getElem?_cons_zero]; rfl
      case hQ104 => exact fun _ _ _ h => h
      case hw104 => rfl
      case hy104 => (intro W hW; have c0 := hW.c 0 (by rw [HCS.out]; rfl); have c1 := hW.c 1 (by rw [HCS.out]; rfl); go_simp; all_goals rfl)
      simp only [Act.put, List.setIfInBounds_toArray, List.set_cons_zero, List.set_cons_succ]
      refine wpAnyH_take (i := 5) (oi := ?oi105) (v := ?v105) ?hi105 (by kernel_rfl) (by kernel_rfl) (by kernel_rfl) ?hQ105 (Or.inl ⟨?hw105, ?hy105⟩) (by assumption) ?rest105
      case hi105 => simp only [List.getElem?_toArray, List.getElem?_cons_succ, List.getElem?_cons_zero]; rfl
      case hQ105 => exact fun _ _ _ h => h
      case hw105 => rfl
      case hy105 => (intro W hW; have c0 := hW.c 0 (by rw [HCS.out]; rfl); have c1 := hW.c 1 (by rw [HCS.out]; rfl); go_simp; all_goals rfl)
      simp only [Act.put, List.setIfInBounds_toArray, List.set_cons_zero, List.set_cons_succ]
      refine wpAnyH_ready (rs := [3]) (by kernel_rfl) (by simp) ?_
      refine AllReadyH.cons (i := 3) (o := ?o106) ?ho106 (fun Kq hK => ?step106) AllReadyH.nil
      case ho106 => simp only [List.getElem?_toArray, List.getElem?_cons_succ, List.getElem?_cons_zero]; rfl
      go_simp
      (go_at_call 57; refine (put_uint8 _ none 0 0 _ kn [] Rd.nil (by omega) (by omega) (Nat.le_refl _)).mono ?_; rintro e w3 ⟨v3, rfl, hO⟩)
      rw [List.nil_append] at hO
      obtain ⟨A3, c3', rfl, _, _⟩ := own_form hO.own
      have hF := hHeld.step (hO.below (fun k h => by cases h) (Nat.le_refl _))
      have HO3 := Hd.mk (Rd.of_own hO.own)
      refine hK.out _ _ hF (fun _ => ?_)
      clear hK Kq hHeld hO
      have hHeld := hF
      clear hF
      try simp only [Act.put, List.setIfInBounds_toArray, List.set_cons_zero, List.set_cons_succ]
      refine wpAnyH_ready (rs := [6]) (by kernel_rfl) (by simp) ?_
      refine AllReadyH.cons (i := 6) (o := ?o107) ?ho107 (fun Kq hK => ?step107) AllReadyH.nil
      case ho107 => simp only [List.getElem?_toArray, List.getElem?_cons_succ, List.getElem?_cons_zero]; rfl
      go_simp
      (go_at_call 56; refine (put_uint64 w3 A3 1 c3' w3.heap.size tag (fx 1 kn) HO3.out HT.out (by omega) (Nat.le_refl _)).mono ?_; rintro e w4 ⟨v4, rfl, hO⟩)
      have hF := hHeld.step (hO.below (fun k h => by cases h) (Nat.le_refl _))
      have HO4 := Hd.mk hO.own
      refine hK.out _ _ hF (fun _ => ?_)
      clear hK Kq hHeld hO
      have hHeld := hF
      clear hF
      try simp only [Act.put, List.setIfInBounds_toArray, List.set_cons_zero, List.set_cons_succ]
      refine wpAnyH_take (i := 7) (oi := ?oi108) (v := ?v108) ?hi108 (by kernel_rfl) (by kernel_rfl) (by kernel_rfl) ?hQ108 (Or.inl ⟨?hw108, ?hy108⟩) (by assumption) ?rest108
      case hi108 => simp only [List.getElem?_toArray, List.getElem?_cons_succ, List.getElem?_cons_zero]; rfl
      case hQ108 => exact fun _ _ _ h => h
      case hw108 => rfl
      case hy108 => (intro W hW; have c0 := hW.c 0 (by rw [HCS.out]; rfl); have c1 := hW.c 1 (by rw [HCS.out]; rfl); go_simp; all_goals rfl)
      simp only [Act.put, List.setIfInBounds_toArray, List.set_cons_zero, List.set_cons_succ]
      refine wpAnyH_done (by kernel_rfl) ?_ _
      obtain ⟨L0, hL0⟩ : ∃ L, fx 1 kn ++ fx 8 tag = L := ⟨_, rfl⟩
      have HB0 : Hd (AB w w4 g g1 cs #[.bool b1, .bool b2, .bool b3, .bool b4, .bool b5, .bool b6] v4 L0) := ⟨by obtain ⟨A4, c4', rfl, h4c, _⟩ := own_form HO4.out; exact ⟨hHeld, A4, c4', by rw [← hL0]; rfl, by rw [← hL0]; exact h4c, by rw [← hL0]; exact Rd.of_own (own_base HO4.out (Nat.zero_le _))⟩⟩
      obtain ⟨X1, hX1⟩ : ∃ X, (if cKey R.kind = true then us R.key else []) = X := ⟨_, rfl⟩
      have HX1 : Hd ((b1 = true → X1 = us key) ∧ (b1 = false → X1 = [])) := ⟨by rw [← hX1, show cKey R.kind = b1 by rw [HR.out]; exact HK.out.1]; exact ⟨fun h => (if_pos h).trans (by rw [HR.out]), fun h => if_neg (by rw [h]; simp)⟩⟩
      obtain ⟨X2, hX2⟩ : ∃ X, (if cBody R.kind = true then ub R.body else []) = X := ⟨_, rfl⟩
      have HX2 : Hd ((b2 = true → X2 = ub body) ∧ (b2 = false → X2 = [])) := ⟨by rw [← hX2, show cBody R.kind = b2 by rw [HR.out]; exact HK.out.2.1]; exact ⟨fun h => (if_pos h).trans (by rw [HR.out]), fun h => if_neg (by rw [h]; simp)⟩⟩
      obtain ⟨X3, hX3⟩ : ∃ X, (if cAfter R.kind = true then us R.after else []) = X := ⟨_, rfl⟩
      have HX3 : Hd ((b3 = true → X3 = us after) ∧ (b3 = false → X3 = [])) := ⟨by rw [← hX3, show cAfter R.kind = b3 by rw [HR.out]; exact HK.out.2.2.1]; exact ⟨fun h => (if_pos h).trans (by rw [HR.out]), fun h => if_neg (by rw [h]; simp)⟩⟩
      obtain ⟨X4, hX4⟩ : ∃ X, (if cOff R.kind = true then uz R.off else []) = X := ⟨_, rfl⟩
      have HX4 : Hd ((b4 = true → X4 = uz off) ∧ (b4 = false → X4 = [])) := ⟨by rw [← hX4, show cOff R.kind = b4 by rw [HR.out]; exact HK.out.2.2.2.1]; exact ⟨fun h => (if_pos h).trans (by rw [HR.out]), fun h => if_neg (by rw [h]; simp)⟩⟩
      obtain ⟨X5, hX5⟩ : ∃ X, (if cDelim R.kind = true then uz R.delim else []) = X := ⟨_, rfl⟩
      have HX5 : Hd ((b6 = true → X5 = uz delim) ∧ (b6 = false → X5 = [])) := ⟨by rw [← hX5, show cDelim R.kind = b6 by rw [HR.out]; exact HK.out.2.2.2.2.2.1]; exact ⟨fun h => (if_pos h).trans (by rw [HR.out]), fun h => if_neg (by rw [h]; simp)⟩⟩
      obtain ⟨X6, hX6⟩ : ∃ X, (if cNum R.kind = true then uz R.num else []) = X := ⟨_, rfl⟩
      have HX6 : Hd ((b5 = true → X6 = uz num) ∧ (b5 = false → X6 = [])) := ⟨by rw [← hX6, show cNum R.kind = b5 by rw [HR.out]; exact HK.out.2.2.2.2.1]; exact ⟨fun h => (if_pos h).trans (by rw [HR.out]), fun h => if_neg (by rw [h]; simp)⟩⟩
      have HZ : Hd (rqC R = L0 ++ X1 ++ X2 ++ X3 ++ X4 ++ X5 ++ X6) := ⟨by unfold rqC; rw [hX1, hX2, hX3, hX4, hX5, hX6, show fx 1 R.kind.toNat ++ fx 8 R.tag = L0 by rw [HR.out, ← hL0]; simp]⟩
      have hlen := rqC_len HF.out
      rw [HZ.out] at hlen
      simp only [List.length_append] at hlen
      obtain ⟨x1, hx1⟩ : ∃ x, X1.length = x := ⟨_, rfl⟩
      obtain ⟨x2, hx2⟩ : ∃ x, X2.length = x := ⟨_, rfl⟩
      obtain ⟨x3, hx3⟩ : ∃ x, X3.length = x := ⟨_, rfl⟩
      obtain ⟨x4, hx4⟩ : ∃ x, X4.length = x := ⟨_, rfl⟩
      obtain ⟨x5, hx5⟩ : ∃ x, X5.length = x := ⟨_, rfl⟩
      obtain ⟨x6, hx6⟩ : ∃ x, X6.length = x := ⟨_, rfl⟩
      rw [hx1, hx2, hx3, hx4, hx5, hx6] at hlen
      obtain ⟨x0, hx0⟩ : ∃ x, L0.length = x := ⟨_, rfl⟩
      rw [hx0] at hlen
      have HXL : Hd (L0.length = x0 ∧ X1.length = x1 ∧ X2.length = x2 ∧ X3.length = x3 ∧ X4.length = x4 ∧ X5.length = x5 ∧ X6.length = x6) := ⟨hx0, hx1, hx2, hx3, hx4, hx5, hx6⟩
      have HQ : Hd (-9223372036854775808 ≤ off ∧ off ≤ 9223372036854775807 ∧ -9223372036854775808 ≤ num ∧ num ≤ 9223372036854775807 ∧ -9223372036854775808 ≤ delim ∧ delim ≤ 9223372036854775807) := ⟨by have h := HH.out.2.1; rw [HR.out] at h; exact ⟨h.o1, h.o2, h.n1, h.n2, h.d1, h.d2⟩⟩
      clear hX1 hX2 hX3 hX4 hX5 hX6 hL0 hx0 hx1 hx2 hx3 hx4 hx5 hx6 hHeld HO4 HO3 d0 d1 d2 d3 d4 d5 c2 c3 c4 c5 c6 c7 hwr
      obtain ⟨Av, cv, hv, hvc, hvr⟩ := HB0.out.rd
      obtain ⟨lv, hlv⟩ : ∃ lv, (L0).length = lv := ⟨_, rfl⟩
      have hl2 : lv ≤ 2097152 := by have h := HXL.out; obtain ⟨h0, h1, h2, h3, h4, h5, h6⟩ := h; rw [← hlv]; (try simp only [List.length_append]); omega
      rw [hlv] at hv
      subst hv
      have e0 : w4.cell? ⟨g1, 0, none⟩ = some (.bool b1) := HB0.out.sta.d 0 rfl
      have e1 : w4.cell? ⟨g, 2, none⟩ = some (.string key) := HB0.out.sta.c 2 (by rw [HCS.out]; rfl)
      clear hvc hvr hlv
      go_upto_if 100 with fail
      go_cut [6] from 99 (fun v wx => AB w wx g g1 cs #[.bool b1, .bool b2, .bool b3, .bool b4, .bool b5, .bool b6] v (L0 ++ X1))
      case first =>
       by_cases hb : b1 = true
       ·have HXE := Hd.mk (HX1.out.1 hb)
        subst hb
        have hcv := fun w => run_bytes_of_string (P := Try.prog) w 9 26 5 key infoStr Try.underlying26 Try.underlying5
        generalize hcap : grownCap = GC at hcv
        go_wp2_with fail
        refine (putStr_any w4 key _ Av lv cv (L0) HB0.out hl2 (by omega)).mono ?_
        rintro e wz ⟨vz, rfl, hz⟩
        have HZ2 := Hd.mk hz
        clear hz
        go_wp2_with fail
        go_meet
        case rel => rw [HXE.out]; exact HZ2.out
       ·have hb2 : b1 = false := by simpa using hb
        have HXE := Hd.mk (HX1.out.2 hb2)
        subst hb2
        clear hb
        go_wp2_with fail
        go_meet
        case rel => exact HB0.out.nil HXE.out
      case rest =>
       have HB1 := Hd.mk hcut
       clear hcut HB0 e0 e1
       obtain ⟨W1, hW1⟩ : ∃ W : World, wc = W := ⟨_, rfl⟩
       subst hW1
       obtain ⟨Av, cv, hv, hvc, hvr⟩ := HB1.out.rd
       obtain ⟨lv, hlv⟩ : ∃ lv, (L0 ++ X1).length = lv := ⟨_, rfl⟩
       have hl2 : lv ≤ 2097152 := by have h := HXL.out; obtain ⟨h0, h1, h2, h3, h4, h5, h6⟩ := h; rw [← hlv]; (try simp only [List.length_append]); omega
       rw [hlv] at hv
       subst hv
       have e0 : wc.cell? ⟨g1, 1, none⟩ = some (.bool b2) := HB1.out.sta.d 1 rfl
       have e1 : wc.cell? ⟨g, 7, none⟩ = some (.slice A n c) := HB1.out.sta.c 7 (by rw [HCS.out]; rfl)
       clear hvc hvr hlv
       go_upto_if 107 with fail
       go_cut [6] from 106 (fun v wx => AB w wx g g1 cs #[.bool b1, .bool b2, .bool b3, .bool b4, .bool b5, .bool b6] v (L0 ++ X1 ++ X2))
       case first =>
        by_cases hb : b2 = true
        ·have HXE := Hd.mk (HX2.out.1 hb)
         subst hb
         go_wp2_with fail
         refine (putLst_any wc Av A lv cv n c (L0 ++ X1) body HB1.out (((HH.out.1.below (HB1.out.sta.bel)).more HB1.out.sta.bel.size)) hl2 (by omega)).mono ?_
         rintro e wz ⟨vz, rfl, hz⟩
         have HZ2 := Hd.mk hz
         clear hz
         go_wp2_with fail
         go_meet
         case rel => rw [HXE.out]; exact HZ2.out
        ·have hb2 : b2 = false := by simpa using hb
         have HXE := Hd.mk (HX2.out.2 hb2)
         subst hb2
         clear hb
         go_wp2_with fail
         go_meet
         case rel => exact HB1.out.nil HXE.out
       case rest =>
        have HB2 := Hd.mk hcut
        clear hcut HB1 e0 e1
        obtain ⟨W2, hW2⟩ : ∃ W : World, wc = W := ⟨_, rfl⟩
        subst hW2
        obtain ⟨Av, cv, hv, hvc, hvr⟩ := HB2.out.rd
        obtain ⟨lv, hlv⟩ : ∃ lv, (L0 ++ X1 ++ X2).length = lv := ⟨_, rfl⟩
        have hl2 : lv ≤ 2097152 := by have h := HXL.out; obtain ⟨h0, h1, h2, h3, h4, h5, h6⟩ := h; rw [← hlv]; (try simp only [List.length_append]); omega
        rw [hlv] at hv
        subst hv
        have e0 : wc.cell? ⟨g1, 2, none⟩ = some (.bool b3) := HB2.out.sta.d 2 rfl
        have e1 : wc.cell? ⟨g, 3, none⟩ = some (.string after) := HB2.out.sta.c 3 (by rw [HCS.out]; rfl)
        clear hvc hvr hlv
        go_upto_if 113 with fail
        go_cut [6] from 112 (fun v wx => AB w wx g g1 cs #[.bool b1, .bool b2, .bool b3, .bool b4, .bool b5, .bool b6] v (L0 ++ X1 ++ X2 ++ X3))
        case first =>
         by_cases hb : b3 = true
         ·have HXE := Hd.mk (HX3.out.1 hb)
          subst hb
          have hcv := fun w => run_bytes_of_string (P := Try.prog) w 9 26 5 after infoStr Try.underlying26 Try.underlying5
          generalize hcap : grownCap = GC at hcv
          go_wp2_with fail
          refine (putStr_any wc after _ Av lv cv (L0 ++ X1 ++ X2) HB2.out hl2 (by omega)).mono ?_
          rintro e wz ⟨vz, rfl, hz⟩
          have HZ2 := Hd.mk hz
          clear hz
          go_wp2_with fail
          go_meet
          case rel => rw [HXE.out]; exact HZ2.out
         ·have hb2 : b3 = false := by simpa using hb
          have HXE := Hd.mk (HX3.out.2 hb2)
          subst hb2
          clear hb
          go_wp2_with fail
          go_meet
          case rel => exact HB2.out.nil HXE.out
        case rest =>
         have HB3 := Hd.mk hcut
         clear hcut HB2 e0 e1
         obtain ⟨W3, hW3⟩ : ∃ W : World, wc = W := ⟨_, rfl⟩
         subst hW3
         obtain ⟨Av, cv, hv, hvc, hvr⟩ := HB3.out.rd
         obtain ⟨lv, hlv⟩ : ∃ lv, (L0 ++ X1 ++ X2 ++ X3).length = lv := ⟨_, rfl⟩
         have hl2 : lv ≤ 2097152 := by have h := HXL.out; obtain ⟨h0, h1, h2, h3, h4, h5, h6⟩ := h; rw [← hlv]; (try simp only [List.length_append]); omega
         rw [hlv] at hv
         subst hv
         have e0 : wc.cell? ⟨g1, 3, none⟩ = some (.bool b4) := HB3.out.sta.d 3 rfl
         have e1 : wc.cell? ⟨g, 4, none⟩ = some (.int .i64 off) := HB3.out.sta.c 4 (by rw [HCS.out]; rfl)
         clear hvc hvr hlv
         go_upto_if 120 with fail
         go_cut [6] from 119 (fun v wx => AB w wx g g1 cs #[.bool b1, .bool b2, .bool b3, .bool b4, .bool b5, .bool b6] v (L0 ++ X1 ++ X2 ++ X3 ++ X4))
         case first =>
          by_cases hb : b4 = true
          ·have HXE := Hd.mk (HX4.out.1 hb)
           subst hb
           go_wp2_with fail
           refine (putNum_any wc Av lv cv off (L0 ++ X1 ++ X2 ++ X3) HB3.out HQ.out.1 HQ.out.2.1 hl2).mono ?_
           rintro e wz ⟨vz, rfl, hz⟩
           have HZ2 := Hd.mk hz
           clear hz
           go_wp2_with fail
           go_meet
           case rel => rw [HXE.out]; exact HZ2.out
          ·have hb2 : b4 = false := by simpa using hb
           have HXE := Hd.mk (HX4.out.2 hb2)
           subst hb2
           clear hb
           go_wp2_with fail
           go_meet
           case rel => exact HB3.out.nil HXE.out
         case rest =>
          have HB4 := Hd.mk hcut
          clear hcut HB3 e0 e1
          obtain ⟨W4, hW4⟩ : ∃ W : World, wc = W := ⟨_, rfl⟩
          subst hW4
          obtain ⟨Av, cv, hv, hvc, hvr⟩ := HB4.out.rd
          obtain ⟨lv, hlv⟩ : ∃ lv, (L0 ++ X1 ++ X2 ++ X3 ++ X4).length = lv := ⟨_, rfl⟩
          have hl2 : lv ≤ 2097152 := by have h := HXL.out; obtain ⟨h0, h1, h2, h3, h4, h5, h6⟩ := h; rw [← hlv]; (try simp only [List.length_append]); omega
          rw [hlv] at hv
          subst hv
          have e0 : wc.cell? ⟨g1, 5, none⟩ = some (.bool b6) := HB4.out.sta.d 5 rfl
          have e1 : wc.cell? ⟨g, 6, none⟩ = some (.int .i64 delim) := HB4.out.sta.c 6 (by rw [HCS.out]; rfl)
          clear hvc hvr hlv
          go_upto_if 126 with fail
          go_cut [6] from 125 (fun v wx => AB w wx g g1 cs #[.bool b1, .bool b2, .bool b3, .bool b4, .bool b5, .bool b6] v (L0 ++ X1 ++ X2 ++ X3 ++ X4 ++ X5))
          case first =>
           by_cases hb : b6 = true
           ·have HXE := Hd.mk (HX5.out.1 hb)
            subst hb
            go_wp2_with fail
            refine (putNum_any wc Av lv cv delim (L0 ++ X1 ++ X2 ++ X3 ++ X4) HB4.out HQ.out.2.2.2.2.1 HQ.out.2.2.2.2.2 hl2).mono ?_
            rintro e wz ⟨vz, rfl, hz⟩
            have HZ2 := Hd.mk hz
            clear hz
            go_wp2_with fail
            go_meet
            case rel => rw [HXE.out]; exact HZ2.out
           ·have hb2 : b6 = false := by simpa using hb
            have HXE := Hd.mk (HX5.out.2 hb2)
            subst hb2
            clear hb
            go_wp2_with fail
            go_meet
            case rel => exact HB4.out.nil HXE.out
          case rest =>
           have HB5 := Hd.mk hcut
           clear hcut HB4 e0 e1
           obtain ⟨W5, hW5⟩ : ∃ W : World, wc = W := ⟨_, rfl⟩
           subst hW5
           obtain ⟨Av, cv, hv, hvc, hvr⟩ := HB5.out.rd
           obtain ⟨lv, hlv⟩ : ∃ lv, (L0 ++ X1 ++ X2 ++ X3 ++ X4 ++ X5).length = lv := ⟨_, rfl⟩
           have hl2 : lv ≤ 2097152 := by have h := HXL.out; obtain ⟨h0, h1, h2, h3, h4, h5, h6⟩ := h; rw [← hlv]; (try simp only [List.length_append]); omega
           rw [hlv] at hv
           subst hv
           have e0 : wc.cell? ⟨g1, 4, none⟩ = some (.bool b5) := HB5.out.sta.d 4 rfl
           have e1 : wc.cell? ⟨g, 5, none⟩ = some (.int .i64 num) := HB5.out.sta.c 5 (by rw [HCS.out]; rfl)
           clear hvc hvr hlv
           go_upto_if 132 with fail
           go_cut [6] from 131 (fun v wx => AB w wx g g1 cs #[.bool b1, .bool b2, .bool b3, .bool b4, .bool b5, .bool b6] v (L0 ++ X1 ++ X2 ++ X3 ++ X4 ++ X5 ++ X6))
           case first =>
            by_cases hb : b5 = true
            ·have HXE := Hd.mk (HX6.out.1 hb)
             subst hb
             go_wp2_with fail
             refine (putNum_any wc Av lv cv num (L0 ++ X1 ++ X2 ++ X3 ++ X4 ++ X5) HB5.out HQ.out.2.2.1 HQ.out.2.2.2.1 hl2).mono ?_
             rintro e wz ⟨vz, rfl, hz⟩
             have HZ2 := Hd.mk hz
             clear hz
             go_wp2_with fail
             go_meet
             case rel => rw [HXE.out]; exact HZ2.out
            ·have hb2 : b5 = false := by simpa using hb
             have HXE := Hd.mk (HX6.out.2 hb2)
             subst hb2
             clear hb
             go_wp2_with fail
             go_meet
             case rel => exact HB5.out.nil HXE.out
           case rest =>
            have HB6 := Hd.mk hcut
            clear hcut HB5 e0 e1
            obtain ⟨W6, hW6⟩ : ∃ W : World, wc = W := ⟨_, rfl⟩
            subst hW6
            obtain ⟨Av, cv, hv, hvc, hvr⟩ := HB6.out.rd
            have HV := Hd.mk (And.intro hvc hvr)
            obtain ⟨lv, hlv⟩ : ∃ lv, (L0 ++ X1 ++ X2 ++ X3 ++ X4 ++ X5 ++ X6).length = lv := ⟨_, rfl⟩
            have hl2 : lv ≤ 2097152 := by have h := HXL.out; obtain ⟨h0, h1, h2, h3, h4, h5, h6⟩ := h; rw [← hlv]; simp only [List.length_append]; omega
            rw [hlv] at hv HV
            subst hv
            clear hvc hvr hlv
            go_wp2_with fail
            refine (form_any wc Av lv cv (L0 ++ X1 ++ X2 ++ X3 ++ X4 ++ X5 ++ X6) HV.out.2 HV.out.1 (by rw [← HZ.out]; exact rqC_lt HF.out HH.out.2.1) (by omega)).mono ?_
            rintro e wf ⟨vf, rfl, hO⟩
            have HO := Hd.mk hO
            clear hO
            go_wp2_with fail
            go_ret2
            exact AskPost.good HOK.out HF.out HZ.out HB6.out.sta.bel HO.out
     ·have m1 : ¬ (1024 : Int) < (key.size : Int) := by omega
      have m2 : ¬ (1024 : Int) < (after.size : Int) := by omega
      have m3 : (1048576 : Int) < (n : Int) := by omega
      go_wp2_with fail
      go_ret2
      exact AskPost.big HOK.out (fun h => by rw [HR.out] at h; have := h.2.2; rw [HH.out.2.2.2] at this; omega) HA.out.bel
    ·have m1 : ¬ (1024 : Int) < (key.size : Int) := by omega
     have m2 : (1024 : Int) < (after.size : Int) := by omega
     go_wp2_with fail
     go_ret2
     exact AskPost.big HOK.out (fun h => by rw [HR.out] at h; exact l2 h.2.1) HA.out.bel
   ·have m1 : (1024 : Int) < (key.size : Int) := by omega
    go_wp2_with fail
    go_ret2
    exact AskPost.big HOK.out (fun h => by rw [HR.out] at h; exact l1 h.1) HA.out.bel
  ·have hok : ¬ rqOk R := fun h => by have := badB_false h; rw [hB] at this; cases this
   have HOK := Hd.mk hok
   clear hok hB HE
   go_wp2_with fail
   go_ret2
   exact AskPost.bad HOK.out HA.out.bel
theorem ask_any (w : World) (R : Rq) (A : Option Addr) (n c : Nat) (hr : Rd w w.heap.size A n (cb R.body)) (hb : RqB R) (hc : n ≤ c) : Calls Try.prog 19 #[rqV R A n c] w (AskPost R w) :=
 ask_any0 w R R.kind R.tag R.key R.after R.off R.num R.delim R.body rfl A n c hr hb hc
end Go.Proofs.Ytbcmjjcbjojakaa
