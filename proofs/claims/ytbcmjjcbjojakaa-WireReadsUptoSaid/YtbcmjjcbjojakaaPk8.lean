/- Plain: an answer's content is read as it was, and what is read is what is put. -/
import Derived.Test.YtbcmjjcbjojakaaPk6
namespace Go.Proofs.Ytbcmjjcbjojakaa
open Go.RowKit
set_option linter.unusedVariables false
theorem if_four {b : Bool} {p q x y : List Nat} : (if b = true then p ++ q ++ x ++ y else []) = (if b = true then p else []) ++ ((if b = true then q else []) ++ ((if b = true then x else []) ++ (if b = true then y else []))) := by cases b <;> simp
theorem if_three {b : Bool} {p q x : List Nat} : (if b = true then p ++ q ++ x else []) = (if b = true then p else []) ++ ((if b = true then q else []) ++ (if b = true then x else [])) := by cases b <;> simp
theorem ut_txts (l : List ByteArray) : ut l = txts (l.map sb) := by
 unfold ut txts rws tx
 rw [List.length_map, List.flatMap_map]
 congr 2
 funext t
 unfold blk; rw [sb_len]
/-- An answer's content, part by part. -/
theorem anC_flat (a : An) : anC a = fx 1 a.kind.toNat ++ (fx 8 a.tag ++ (uv a.code.toNat ++ ((if decide (a.kind = 8) = true then uz a.h1 else []) ++ ((if decide (a.kind = 8) = true then uz a.h2 else []) ++ ((if decide (a.kind = 8) = true then uz a.h3 else []) ++ ((if decide (a.kind = 8) = true then uz a.h4 else []) ++
  ((if qBody a.kind a.code = true then blk a.body else []) ++ ((if qGen a.kind a.code = true then uz a.ge else []) ++ ((if qGen a.kind a.code = true then uz a.gc else []) ++ ((if qGen a.kind a.code = true then uz a.size else []) ++ ((if qKeys a.kind a.code = true then txts (a.keys.map sb) else []) ++
  ((if qPage a.kind a.code = true then txts (a.groups.map sb) else []) ++ ((if qPage a.kind a.code = true then blk (sb a.next) else []) ++ (if qPage a.kind a.code = true then fx 1 (if a.more = true then 1 else 0) else [])))))))))))))) := by
 have e0 : (if a.kind = 8 then uz a.h1 ++ uz a.h2 ++ uz a.h3 ++ uz a.h4 else []) = (if decide (a.kind = 8) = true then uz a.h1 ++ uz a.h2 ++ uz a.h3 ++ uz a.h4 else []) := by simp only [decide_eq_true_iff]
 have hp : ∀ (p : Prop) [Decidable p] (b : Bool) (l : List Nat), (b = true ↔ p) → (if p then l else []) = (if b = true then l else []) := fun p _ b l h => by
  by_cases hq : p
  ·rw [if_pos hq, if_pos (h.2 hq)]
  ·rw [if_neg hq, if_neg (fun g => hq (h.1 g))]
 have q1 : qBody a.kind a.code = true ↔ tBody a := by unfold qBody tBody; exact decide_eq_true_iff
 have q2 : qGen a.kind a.code = true ↔ tGen a := by unfold qGen tGen; exact decide_eq_true_iff
 have q3 : qKeys a.kind a.code = true ↔ tKeys a := by unfold qKeys tKeys; exact decide_eq_true_iff
 have q4 : qPage a.kind a.code = true ↔ tPage a := by unfold qPage tPage; exact decide_eq_true_iff
 unfold anC
 rw [e0, if_four, @hp (tBody a) (Classical.propDecidable _) _ _ q1, @hp (tGen a) (Classical.propDecidable _) _ _ q2, if_three, @hp (tKeys a) (Classical.propDecidable _) _ _ q3, @hp (tPage a) (Classical.propDecidable _) _ _ q4, if_three]
 simp only [List.append_assoc, ut_txts, us_blk]
 have m1 : [if a.more = true then 1 else 0] = fx 1 (if a.more = true then 1 else 0) := by cases a.more <;> rfl
 rw [m1]
 rfl
theorem map_sb_bstr (l : List (List Nat)) (h : ∀ t ∈ l, ∀ x ∈ t, x < 256) : (l.map bstr).map sb = l := by
 rw [List.map_map]
 conv => rhs; rw [← List.map_id l]
 exact List.map_congr_left fun t ht => sb_bstr t (h t ht)
theorem rdAn_form (bs : List Nat) (a : An) (hb : ∀ y ∈ bs, y < 256) (h : rdAn bs = some a) : bs = anC a ∧ anOk a ∧ anFit a ∧ AnB a := by
 unfold rdAn at h
 simp only at h
 obtain ⟨v1, s1, h1⟩ : ∃ v s, rFix bs 1 (0, 0) = (v, s) := ⟨_, _, rfl⟩
 rw [h1] at h; simp only at h
 have p1 : s1.1 ≤ bs.length := by have := rFix_le (s := (0, 0)) (bs := bs) 1 (Nat.zero_le _); rwa [h1] at this
 obtain ⟨v2, s2, h2⟩ : ∃ v s, rFix bs 8 s1 = (v, s) := ⟨_, _, rfl⟩
 rw [h2] at h; simp only at h
 have p2 : s2.1 ≤ bs.length := by have := rFix_le (s := s1) (bs := bs) 8 p1; rwa [h2] at this
 obtain ⟨v3, s3, h3⟩ : ∃ v s, rNum bs s2 = (v, s) := ⟨_, _, rfl⟩
 rw [h3] at h; simp only at h
 have p3 : s3.1 ≤ bs.length := by have := rNum_le (s := s2) (bs := bs) hb p2; rwa [h3] at this
 obtain ⟨w0, hw0⟩ : ∃ b, decide ((v1 : Int) = 8) = b := ⟨_, rfl⟩
 obtain ⟨w1, hw1⟩ : ∃ b, qBody (v1 : Int) (v3 : Int) = b := ⟨_, rfl⟩
 obtain ⟨w2, hw2⟩ : ∃ b, qGen (v1 : Int) (v3 : Int) = b := ⟨_, rfl⟩
 obtain ⟨w3, hw3⟩ : ∃ b, qKeys (v1 : Int) (v3 : Int) = b := ⟨_, rfl⟩
 obtain ⟨w4, hw4⟩ : ∃ b, qPage (v1 : Int) (v3 : Int) = b := ⟨_, rfl⟩
 rw [hw0, hw1, hw2, hw3, hw4] at h
 obtain ⟨v4, s4, h4⟩ : ∃ v s, opt w0 0 (rNum bs) s3 = (v, s) := ⟨_, _, rfl⟩
 rw [h4] at h; simp only at h
 have p4 : s4.1 ≤ bs.length := by have := opt_le (bs := bs) w0 0 (f := rNum bs) (rNum_le hb p3) p3; rwa [h4] at this
 obtain ⟨v5, s5, h5⟩ : ∃ v s, opt w0 0 (rNum bs) s4 = (v, s) := ⟨_, _, rfl⟩
 rw [h5] at h; simp only at h
 have p5 : s5.1 ≤ bs.length := by have := opt_le (bs := bs) w0 0 (f := rNum bs) (rNum_le hb p4) p4; rwa [h5] at this
 obtain ⟨v6, s6, h6⟩ : ∃ v s, opt w0 0 (rNum bs) s5 = (v, s) := ⟨_, _, rfl⟩
 rw [h6] at h; simp only at h
 have p6 : s6.1 ≤ bs.length := by have := opt_le (bs := bs) w0 0 (f := rNum bs) (rNum_le hb p5) p5; rwa [h6] at this
 obtain ⟨v7, s7, h7⟩ : ∃ v s, opt w0 0 (rNum bs) s6 = (v, s) := ⟨_, _, rfl⟩
 rw [h7] at h; simp only at h
 have p7 : s7.1 ≤ bs.length := by have := opt_le (bs := bs) w0 0 (f := rNum bs) (rNum_le hb p6) p6; rwa [h7] at this
 obtain ⟨v8, s8, h8⟩ : ∃ v s, opt w1 [] (rBlk bs 1048576) s7 = (v, s) := ⟨_, _, rfl⟩
 rw [h8] at h; simp only at h
 have p8 : s8.1 ≤ bs.length := by have := opt_le (bs := bs) w1 [] (f := rBlk bs 1048576) (rBlk_le 1048576 hb p7) p7; rwa [h8] at this
 obtain ⟨v9, s9, h9⟩ : ∃ v s, opt w2 0 (rNum bs) s8 = (v, s) := ⟨_, _, rfl⟩
 rw [h9] at h; simp only at h
 have p9 : s9.1 ≤ bs.length := by have := opt_le (bs := bs) w2 0 (f := rNum bs) (rNum_le hb p8) p8; rwa [h9] at this
 obtain ⟨v10, s10, h10⟩ : ∃ v s, opt w2 0 (rNum bs) s9 = (v, s) := ⟨_, _, rfl⟩
 rw [h10] at h; simp only at h
 have p10 : s10.1 ≤ bs.length := by have := opt_le (bs := bs) w2 0 (f := rNum bs) (rNum_le hb p9) p9; rwa [h10] at this
 obtain ⟨v11, s11, h11⟩ : ∃ v s, opt w2 0 (rNum bs) s10 = (v, s) := ⟨_, _, rfl⟩
 rw [h11] at h; simp only at h
 have p11 : s11.1 ≤ bs.length := by have := opt_le (bs := bs) w2 0 (f := rNum bs) (rNum_le hb p10) p10; rwa [h11] at this
 obtain ⟨v12, s12, h12⟩ : ∃ v s, opt w3 [] (rTxt bs (qMost (v1 : Int)) 255) s11 = (v, s) := ⟨_, _, rfl⟩
 rw [h12] at h; simp only at h
 have p12 : s12.1 ≤ bs.length := by have := opt_le (bs := bs) w3 [] (f := rTxt bs (qMost (v1 : Int)) 255) (rTxt_le _ _ hb p11) p11; rwa [h12] at this
 obtain ⟨v13, s13, h13⟩ : ∃ v s, opt w4 [] (rTxt bs 1000 255) s12 = (v, s) := ⟨_, _, rfl⟩
 rw [h13] at h; simp only at h
 have p13 : s13.1 ≤ bs.length := by have := opt_le (bs := bs) w4 [] (f := rTxt bs 1000 255) (rTxt_le _ _ hb p12) p12; rwa [h13] at this
 obtain ⟨v14, s14, h14⟩ : ∃ v s, opt w4 [] (rBlk bs 255) s13 = (v, s) := ⟨_, _, rfl⟩
 rw [h14] at h; simp only at h
 have p14 : s14.1 ≤ bs.length := by have := opt_le (bs := bs) w4 [] (f := rBlk bs 255) (rBlk_le 255 hb p13) p13; rwa [h14] at this
 obtain ⟨v15, s15, h15⟩ : ∃ v s, opt w4 0 (rFix bs 1) s14 = (v, s) := ⟨_, _, rfl⟩
 rw [h15] at h; simp only at h
 have p15 : s15.1 ≤ bs.length := by have := opt_le (bs := bs) w4 0 (f := rFix bs 1) (rFix_le 1 p14) p14; rwa [h15] at this
 split at h
 case isFalse => cases h
 rename_i hc
 obtain ⟨k1, k8, c31, hm1, he⟩ := hc
 injection h with h
 subst h
 obtain ⟨f15, e15⟩ := endF_ok he
 obtain ⟨M, hM, hMi⟩ : ∃ M : Nat, qMost (v1 : Int) = (M : Int) ∧ M = if (v1 : Int) = 6 then 65536 else 1000 := by unfold qMost; split; exact ⟨65536, rfl, rfl⟩; exact ⟨1000, rfl, rfl⟩
 rw [hM] at h12
 have q15 := opt_form h15 (fun _ g => (rFix_form p14 g f15 hb).1) f15
 have q14 := opt_form h14 (fun _ g => (rBlk_form (most := 255) p13 g q15.1.f hb).1) q15.1.f
 have q13 := opt_form h13 (fun _ g => (rTxt_form (most := 1000) (each := 255) p12 g q14.1.f hb).1) q14.1.f
 have q12 := opt_form h12 (fun _ g => (rTxt_form (most := M) (each := 255) p11 g q13.1.f hb).1) q13.1.f
 have q11 := opt_form h11 (fun _ g => (rNum_form p10 g q12.1.f hb).1) q12.1.f
 have q10 := opt_form h10 (fun _ g => (rNum_form p9 g q11.1.f hb).1) q11.1.f
 have q9 := opt_form h9 (fun _ g => (rNum_form p8 g q10.1.f hb).1) q10.1.f
 have q8 := opt_form h8 (fun _ g => (rBlk_form (most := 1048576) p7 g q9.1.f hb).1) q9.1.f
 have q7 := opt_form h7 (fun _ g => (rNum_form p6 g q8.1.f hb).1) q8.1.f
 have q6 := opt_form h6 (fun _ g => (rNum_form p5 g q7.1.f hb).1) q7.1.f
 have q5 := opt_form h5 (fun _ g => (rNum_form p4 g q6.1.f hb).1) q6.1.f
 have q4 := opt_form h4 (fun _ g => (rNum_form p3 g q5.1.f hb).1) q5.1.f
 have q3 := rNum_form p2 h3 q4.1.f hb
 have q2 := rFix_form p1 h2 q3.1.f hb
 have q1 := rFix_form (s := (0, 0)) (Nat.zero_le _) h1 q2.1.f hb
 have t4 := opt_lt h4 (P := fun v => v < 2 ^ 64) (by omega) (fun _ g => (rNum_form p3 g q5.1.f hb).2)
 have t5 := opt_lt h5 (P := fun v => v < 2 ^ 64) (by omega) (fun _ g => (rNum_form p4 g q6.1.f hb).2)
 have t6 := opt_lt h6 (P := fun v => v < 2 ^ 64) (by omega) (fun _ g => (rNum_form p5 g q7.1.f hb).2)
 have t7 := opt_lt h7 (P := fun v => v < 2 ^ 64) (by omega) (fun _ g => (rNum_form p6 g q8.1.f hb).2)
 have t8 := opt_lt h8 (P := fun l => l.length ≤ 1048576 ∧ ∀ x ∈ l, x < 256) ⟨by simp, by simp⟩ (fun _ g => (rBlk_form (most := 1048576) p7 g q9.1.f hb).2)
 have t9 := opt_lt h9 (P := fun v => v < 2 ^ 64) (by omega) (fun _ g => (rNum_form p8 g q10.1.f hb).2)
 have t10 := opt_lt h10 (P := fun v => v < 2 ^ 64) (by omega) (fun _ g => (rNum_form p9 g q11.1.f hb).2)
 have t11 := opt_lt h11 (P := fun v => v < 2 ^ 64) (by omega) (fun _ g => (rNum_form p10 g q12.1.f hb).2)
 have t12 := opt_lt h12 (P := fun l => l.length ≤ M ∧ ∀ t ∈ l, t.length ≤ 255 ∧ ∀ x ∈ t, x < 256) ⟨by simp, by simp⟩ (fun _ g => (rTxt_form (most := M) (each := 255) p11 g q13.1.f hb).2)
 have t13 := opt_lt h13 (P := fun l => l.length ≤ 1000 ∧ ∀ t ∈ l, t.length ≤ 255 ∧ ∀ x ∈ t, x < 256) ⟨by simp, by simp⟩ (fun _ g => (rTxt_form (most := 1000) (each := 255) p12 g q14.1.f hb).2)
 have t14 := opt_lt h14 (P := fun l => l.length ≤ 255 ∧ ∀ x ∈ l, x < 256) ⟨by simp, by simp⟩ (fun _ g => (rBlk_form (most := 255) p13 g q15.1.f hb).2)
 have z0 : unz ((0 : Nat) : Int) = 0 := by decide
 have sz : ∀ (l : List (List Nat)), (∀ t ∈ l, t.length ≤ 255 ∧ ∀ x ∈ t, x < 256) → ∀ t ∈ l.map bstr, t.size ≤ 255 := fun l hl t ht => by
  obtain ⟨x, hx, rfl⟩ := List.mem_map.1 ht
  rw [bstr_size]; exact (hl x hx).1
 refine ⟨?_, ⟨k1, k8, by simp only; omega, c31, fun hh => q8.2 ?_, fun hh => ?_, fun hh => ?_, fun hh => ?_, fun hh => ?_⟩, ⟨t8.1, ⟨by simp only [List.length_map]; rw [← hMi]; exact t12.1, sz _ t12.2⟩, ⟨by simp only [List.length_map]; exact t13.1, sz _ t13.2⟩, by simp only [bstr_size]; exact t14.1⟩, ⟨by have := q2.2; simp only; omega, t8.2, fun v hv => ?_⟩⟩
 ·rw [anC_flat]
  simp only [Int.toNat_natCast, hw0, hw1, hw2, hw3, hw4]
  rw [map_sb_bstr _ fun t ht => (t12.2 t ht).2, map_sb_bstr _ fun t ht => (t13.2 t ht).2, sb_bstr _ t14.2]
  simp only [uz_unz]
  have m : (if decide (v15 = 1) = true then 1 else 0) = v15 := by
   by_cases h : v15 = 1
   ·simp [h]
   ·simp [h]; omega
  rw [m]
  have c := q15.1.cut
  rw [List.take_of_length_le e15, q14.1.cut, q13.1.cut, q12.1.cut, q11.1.cut, q10.1.cut, q9.1.cut, q8.1.cut, q7.1.cut, q6.1.cut, q5.1.cut, q4.1.cut, q3.1.cut, q2.1.cut, q1.1.cut] at c
  simpa [List.append_assoc] using c
 ·rw [← hw1]; unfold qBody; exact decide_eq_false hh
 ·have hf : w2 = false := by rw [← hw2]; unfold qGen; exact decide_eq_false hh
  simp only
  rw [q9.2 hf, q10.2 hf, q11.2 hf, z0]; exact ⟨rfl, rfl, rfl⟩
 ·have hf : w3 = false := by rw [← hw3]; unfold qKeys; exact decide_eq_false hh
  simp only
  rw [q12.2 hf]; rfl
 ·have hf : w4 = false := by rw [← hw4]; unfold qPage; exact decide_eq_false hh
  simp only
  rw [q13.2 hf, q14.2 hf, q15.2 hf]; exact ⟨rfl, rfl, rfl⟩
 ·have hf : w0 = false := by rw [← hw0]; exact decide_eq_false hh
  simp only
  rw [q4.2 hf, q5.2 hf, q6.2 hf, q7.2 hf, z0]; exact ⟨rfl, rfl, rfl, rfl⟩
 ·simp only at hv
  rcases hv with rfl | rfl | rfl | rfl | rfl | rfl | rfl
  ·exact u64i t9
  ·exact u64i t10
  ·exact u64i t11
  ·exact u64i t4
  ·exact u64i t5
  ·exact u64i t6
  ·exact u64i t7
end Go.Proofs.Ytbcmjjcbjojakaa
