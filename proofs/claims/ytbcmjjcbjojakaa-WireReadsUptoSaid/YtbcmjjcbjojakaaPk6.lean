/- Put together of: MsgF RdrT RdrY SameRq TellA TellB HeldBy TellT. -/
import Derived.Test.YtbcmjjcbjojakaaPk5
import Derived.Deep.CutRange
import Derived.Test.YtbcmjjcbjojakaaPk3
import Derived.Deep.Light
import Derived.Deep.RegionHeld3
section
namespace Go.Proofs.Ytbcmjjcbjojakaa
open Go.RowKit
set_option linter.unusedVariables false
section
variable {bs : List Nat}
/-- A step of a reading that went well: what stands there is 'enc'. -/
structure Step (bs : List Nat) (s s' : Nat × Int) (enc : List Nat) : Prop where
 f : s.2 = 0
 le : s.1 ≤ bs.length → s'.1 ≤ bs.length
 cut : bs.take s'.1 = bs.take s.1 ++ enc
theorem step_of (bs : List Nat) {a a' : Nat} {enc : List Nat} (h : (bs.drop a).take (a' - a) = enc) (hle : a ≤ a') (hl : a ≤ bs.length → a' ≤ bs.length) : Step bs (a, 0) (a', 0) enc := by
 refine ⟨rfl, hl, ?_⟩
 have : a' = a + (a' - a) := by omega
 simp only
 rw [← h, this, List.take_add]
 simp
theorem Step.of_redo {α : Type} {o : Except Int (α × Nat)} {z v : α} {a a' : Nat} {f : Int} (h : redo o z a f = (v, a', 0)) (hne : ∀ e, o = .error e → e ≠ 0) : f = 0 ∧ o = .ok (v, a') := by
 unfold redo at h
 split at h
 ·rename_i hf
  cases ho : o with
  | ok x => rw [ho] at h; simp only [Prod.mk.injEq] at h; obtain ⟨h1, h2, _⟩ := h; subst h1 h2; exact ⟨hf, rfl⟩
  | error e => rw [ho] at h; simp only [Prod.mk.injEq] at h; exact absurd h.2.2 (hne e ho)
 ·rename_i hf
  simp only [Prod.mk.injEq] at h
  exact absurd h.2.2 hf
theorem Bad.ne {e : Int} (h : Bad e) : e ≠ 0 := by unfold Bad at h; omega
theorem Well.ne {α : Type} {at_ : Nat} {o : Except Int (α × Nat)} (h : Well bs at_ o) : ∀ e, o = .error e → e ≠ 0 := fun e he => by rw [he] at h; exact Bad.ne h
variable (hb : ∀ y ∈ bs, y < 256)
theorem rFix_form {k v : Nat} {s s' : Nat × Int} (hs : s.1 ≤ bs.length) (h : rFix bs k s = (v, s')) (h0 : s'.2 = 0) (hb : ∀ y ∈ bs, y < 256) : Step bs s s' (fx k v) ∧ v < 256 ^ k := by
 obtain ⟨a, f⟩ := s
 obtain ⟨a', f'⟩ := s'
 simp only at h0 hs; subst h0
 have hw := well_fix (bs := bs) k hs
 obtain ⟨rfl, ho⟩ := Step.of_redo h hw.ne
 rw [ho] at hw
 obtain ⟨h1, h2⟩ := fixF_form bs a k v a' hb ho
 refine ⟨step_of bs h1 h2 fun _ => hw.2, ?_⟩
 unfold fixF at ho
 split at ho
 ·rename_i l a2 ht
  cases ho
  obtain ⟨e1, e2, e3, e4⟩ := takeF_form _ _ _ _ _ ht
  have := le256_lt l fun x hx => hb x (by rw [e1] at hx; exact List.mem_of_mem_drop (List.mem_of_mem_take hx))
  rwa [e4] at this
 ·cases ho
theorem rNum_form {v : Nat} {s s' : Nat × Int} (hs : s.1 ≤ bs.length) (h : rNum bs s = (v, s')) (h0 : s'.2 = 0) (hb : ∀ y ∈ bs, y < 256) : Step bs s s' (uv v) ∧ v < 2 ^ 64 := by
 obtain ⟨a, f⟩ := s
 obtain ⟨a', f'⟩ := s'
 simp only at h0 hs; subst h0
 have hw := well_num (bs := bs) hb hs
 obtain ⟨rfl, ho⟩ := Step.of_redo h hw.ne
 rw [ho] at hw
 obtain ⟨h1, h2⟩ := numF_form bs a v a' hb ho
 exact ⟨step_of bs h1 (by omega) fun _ => hw.2, (numF_hi bs a v a' hb ho).1⟩
theorem blk_hi {most : Nat} {a a' : Nat} {l : List Nat} (h : blockF bs a most = .ok (l, a')) (hb : ∀ y ∈ bs, y < 256) : l.length ≤ most ∧ ∀ x ∈ l, x < 256 := by
 unfold blockF at h
 split at h
 ·rename_i k a1 hn
  split at h
  ·rename_i hk
   obtain ⟨e1, e2, e3, e4⟩ := takeF_form _ _ _ _ _ h
   exact ⟨by omega, fun x hx => hb x (by rw [e1] at hx; exact List.mem_of_mem_drop (List.mem_of_mem_take hx))⟩
  ·cases h
 ·cases h
theorem rBlk_form {l : List Nat} {most : Nat} {s s' : Nat × Int} (hs : s.1 ≤ bs.length) (h : rBlk bs (most : Int) s = (l, s')) (h0 : s'.2 = 0) (hb : ∀ y ∈ bs, y < 256) : Step bs s s' (blk l) ∧ l.length ≤ most ∧ ∀ x ∈ l, x < 256 := by
 obtain ⟨a, f⟩ := s
 obtain ⟨a', f'⟩ := s'
 simp only at h0 hs; subst h0
 have hw := well_blk (bs := bs) (most : Int) hb hs
 obtain ⟨rfl, ho⟩ := Step.of_redo h hw.ne
 rw [ho] at hw
 unfold blkF at ho
 rw [if_neg (by omega), Int.toNat_natCast] at ho
 obtain ⟨h1, h2⟩ := blockF_form bs a most a' l hb ho
 exact ⟨step_of bs h1 h2 fun _ => hw.2, blk_hi ho hb⟩
theorem rows_hi {each : Nat} (hb : ∀ y ∈ bs, y < 256) : ∀ (k a a' : Nat) (l : List (List Nat)), rowsF bs each k a = .ok (l, a') → l.length = k ∧ ∀ t ∈ l, t.length ≤ each ∧ ∀ x ∈ t, x < 256
 | 0, a, a', l, h => by cases h; simp
 | k + 1, a, a', l, h => by
  unfold rowsF at h
  split at h
  ·cases h
  rename_i b a1 h1
  split at h
  ·cases h
  rename_i l2 a2 h2
  cases h
  obtain ⟨e1, e2⟩ := rows_hi hb k a1 a' l2 h2
  refine ⟨by simp [e1], fun t ht => ?_⟩
  rcases List.mem_cons.1 ht with rfl | ht
  ·exact blk_hi h1 hb
  ·exact e2 t ht
theorem rTxt_form {l : List (List Nat)} {most each : Nat} {s s' : Nat × Int} (hs : s.1 ≤ bs.length) (h : rTxt bs (most : Int) (each : Int) s = (l, s')) (h0 : s'.2 = 0) (hb : ∀ y ∈ bs, y < 256) : Step bs s s' (txts l) ∧ l.length ≤ most ∧ ∀ t ∈ l, t.length ≤ each ∧ ∀ x ∈ t, x < 256 := by
 obtain ⟨a, f⟩ := s
 obtain ⟨a', f'⟩ := s'
 simp only at h0 hs; subst h0
 have hw := well_texts (bs := bs) (most : Int) (each : Int) hb hs
 obtain ⟨rfl, ho⟩ := Step.of_redo h hw.ne
 rw [ho] at hw
 obtain ⟨h1, h2⟩ := textsF_form bs a _ _ a' l hb ho
 refine ⟨step_of bs h1 h2 fun _ => hw.2, ?_⟩
 unfold textsF at ho
 rw [if_neg (by omega)] at ho
 split at ho
 ·cases ho
 rename_i k a1 hn
 split at ho
 ·rename_i hk
  obtain ⟨e1, e2⟩ := rows_hi hb k a1 a' l ho
  rw [Int.toNat_natCast] at e2 hk
  exact ⟨by omega, e2⟩
 ·cases ho
/-- A step that is made or not. -/
theorem opt_form {α : Type} {b : Bool} {z v : α} {f : Nat × Int → α × Nat × Int} {s s' : Nat × Int} (h : opt b z f s = (v, s')) {enc : List Nat} (hf : b = true → f s = (v, s') → Step bs s s' enc) (h0 : s'.2 = 0) : Step bs s s' (if b = true then enc else []) ∧ (b = false → v = z) := by
 unfold opt at h
 cases b
 ·simp only [Bool.false_eq_true, if_false, Prod.mk.injEq] at h ⊢
  obtain ⟨rfl, rfl⟩ := h
  exact ⟨⟨h0, id, by simp⟩, fun _ => rfl⟩
 ·simp only [if_true] at h ⊢
  exact ⟨hf rfl h, fun h => by cases h⟩
end
/-! A reading stays within the bytes. -/
theorem redo_le {α : Type} {bs : List Nat} {o : Except Int (α × Nat)} (z : α) {a : Nat} (f : Int) (h : Well bs a o) (ha : a ≤ bs.length) : (redo o z a f).2.1 ≤ bs.length := by
 rcases redo_well z f h ha with ⟨_, e⟩ | ⟨_, _, _, e⟩ | ⟨_, _, _, _, e, _, h2⟩ <;> rw [e] <;> assumption
section
variable {bs : List Nat} {s : Nat × Int}
theorem rFix_le (k : Nat) (hs : s.1 ≤ bs.length) : (rFix bs k s).2.1 ≤ bs.length := redo_le _ _ (well_fix k hs) hs
theorem rNum_le (hb : ∀ y ∈ bs, y < 256) (hs : s.1 ≤ bs.length) : (rNum bs s).2.1 ≤ bs.length := redo_le _ _ (well_num hb hs) hs
theorem rBlk_le (most : Int) (hb : ∀ y ∈ bs, y < 256) (hs : s.1 ≤ bs.length) : (rBlk bs most s).2.1 ≤ bs.length := redo_le _ _ (well_blk most hb hs) hs
theorem rTxt_le (most each : Int) (hb : ∀ y ∈ bs, y < 256) (hs : s.1 ≤ bs.length) : (rTxt bs most each s).2.1 ≤ bs.length := redo_le _ _ (well_texts most each hb hs) hs
theorem opt_le {α : Type} (b : Bool) (z : α) {f : Nat × Int → α × Nat × Int} (hf : (f s).2.1 ≤ bs.length) (hs : s.1 ≤ bs.length) : (opt b z f s).2.1 ≤ bs.length := by
 unfold opt; cases b
 ·exact hs
 ·exact hf
end
theorem endF_ok {n a : Nat} {f : Int} (h : endF n a f = 0) : f = 0 ∧ n ≤ a := by
 unfold endF at h
 split at h
 ·omega
 ·split at h <;> omega
theorem u64i {v : Nat} (h : v < 2 ^ 64) : -9223372036854775808 ≤ unz (v : Int) ∧ unz (v : Int) ≤ 9223372036854775807 := unz_bd _ (by omega) (by omega)
theorem uz_unz {v : Nat} : uz (unz (v : Int)) = uv v := by unfold uz; rw [zig_unz _ (by omega)]; rfl
theorem opt_uz {b : Bool} {v : Nat} (h : b = false → v = 0) : (if b = true then uz (unz (v : Int)) else []) = (if b = true then uv v else []) := by rw [uz_unz]
theorem opt_us {b : Bool} {l : List Nat} (h : ∀ x ∈ l, x < 256) : (if b = true then us (bstr l) else []) = (if b = true then blk l else []) := by rw [us_bstr l h]
theorem opt_lt {α : Type} {b : Bool} {z v : α} {f : Nat × Int → α × Nat × Int} {s s' : Nat × Int} (h : opt b z f s = (v, s')) {P : α → Prop} (hz : P z) (hf : b = true → f s = (v, s') → P v) : P v := by
 unfold opt at h
 cases b
 ·simp only [Bool.false_eq_true, if_false, Prod.mk.injEq] at h; rw [← h.1]; exact hz
 ·exact hf rfl h
theorem rdRq_form (bs : List Nat) (R : Rq) (hb : ∀ y ∈ bs, y < 256) (h : rdRq bs = some R) : bs = rqC R ∧ rqOk R ∧ rqFit R ∧ RqB R := by
 unfold rdRq at h
 simp only at h
 obtain ⟨v1, s1, h1⟩ : ∃ v s, rFix bs 1 (0, 0) = (v, s) := ⟨_, _, rfl⟩
 rw [h1] at h; simp only at h
 have p1 : s1.1 ≤ bs.length := by have := rFix_le (s := (0, 0)) (bs := bs) 1 (Nat.zero_le _); rwa [h1] at this
 obtain ⟨v2, s2, h2⟩ : ∃ v s, rFix bs 8 s1 = (v, s) := ⟨_, _, rfl⟩
 rw [h2] at h; simp only at h
 have p2 : s2.1 ≤ bs.length := by have := rFix_le (s := s1) (bs := bs) 8 p1; rwa [h2] at this
 obtain ⟨b3, hb3⟩ : ∃ b, cKey (v1 : Int) = b := ⟨_, rfl⟩
 obtain ⟨v3, s3, h3⟩ : ∃ v s, opt b3 [] (rBlk bs 1024) s2 = (v, s) := ⟨_, _, rfl⟩
 rw [hb3, h3] at h; simp only at h
 have p3 : s3.1 ≤ bs.length := by have := opt_le (bs := bs) b3 [] (f := rBlk bs 1024) (rBlk_le 1024 hb p2) p2; rwa [h3] at this
 obtain ⟨b4, hb4⟩ : ∃ b, cBody (v1 : Int) = b := ⟨_, rfl⟩
 obtain ⟨v4, s4, h4⟩ : ∃ v s, opt b4 [] (rBlk bs 1048576) s3 = (v, s) := ⟨_, _, rfl⟩
 rw [hb4, h4] at h; simp only at h
 have p4 : s4.1 ≤ bs.length := by have := opt_le (bs := bs) b4 [] (f := rBlk bs 1048576) (rBlk_le 1048576 hb p3) p3; rwa [h4] at this
 obtain ⟨b5, hb5⟩ : ∃ b, cAfter (v1 : Int) = b := ⟨_, rfl⟩
 obtain ⟨v5, s5, h5⟩ : ∃ v s, opt b5 [] (rBlk bs 1024) s4 = (v, s) := ⟨_, _, rfl⟩
 rw [hb5, h5] at h; simp only at h
 have p5 : s5.1 ≤ bs.length := by have := opt_le (bs := bs) b5 [] (f := rBlk bs 1024) (rBlk_le 1024 hb p4) p4; rwa [h5] at this
 obtain ⟨b6, hb6⟩ : ∃ b, cOff (v1 : Int) = b := ⟨_, rfl⟩
 obtain ⟨v6, s6, h6⟩ : ∃ v s, opt b6 0 (rNum bs) s5 = (v, s) := ⟨_, _, rfl⟩
 rw [hb6, h6] at h; simp only at h
 have p6 : s6.1 ≤ bs.length := by have := opt_le (bs := bs) b6 0 (f := rNum bs) (rNum_le hb p5) p5; rwa [h6] at this
 obtain ⟨b7, hb7⟩ : ∃ b, cDelim (v1 : Int) = b := ⟨_, rfl⟩
 obtain ⟨v7, s7, h7⟩ : ∃ v s, opt b7 0 (rNum bs) s6 = (v, s) := ⟨_, _, rfl⟩
 rw [hb7, h7] at h; simp only at h
 have p7 : s7.1 ≤ bs.length := by have := opt_le (bs := bs) b7 0 (f := rNum bs) (rNum_le hb p6) p6; rwa [h7] at this
 obtain ⟨b8, hb8⟩ : ∃ b, cNum (v1 : Int) = b := ⟨_, rfl⟩
 obtain ⟨v8, s8, h8⟩ : ∃ v s, opt b8 0 (rNum bs) s7 = (v, s) := ⟨_, _, rfl⟩
 rw [hb8, h8] at h; simp only at h
 have p8 : s8.1 ≤ bs.length := by have := opt_le (bs := bs) b8 0 (f := rNum bs) (rNum_le hb p7) p7; rwa [h8] at this
 split at h
 case isFalse => cases h
 rename_i hc
 obtain ⟨k1, k8, he⟩ := hc
 injection h with h
 subst h
 obtain ⟨f8, e8⟩ := endF_ok he
 have q8 := opt_form h8 (fun _ g => (rNum_form p7 g f8 hb).1) f8
 have q7 := opt_form h7 (fun _ g => (rNum_form p6 g q8.1.f hb).1) q8.1.f
 have q6 := opt_form h6 (fun _ g => (rNum_form p5 g q7.1.f hb).1) q7.1.f
 have q5 := opt_form h5 (fun _ g => (rBlk_form (most := 1024) p4 g q6.1.f hb).1) q6.1.f
 have q4 := opt_form h4 (fun _ g => (rBlk_form (most := 1048576) p3 g q5.1.f hb).1) q5.1.f
 have q3 := opt_form h3 (fun _ g => (rBlk_form (most := 1024) p2 g q4.1.f hb).1) q4.1.f
 have q2 := rFix_form p1 h2 q3.1.f hb
 have q1 := rFix_form (s := (0, 0)) (Nat.zero_le _) h1 q2.1.f hb
 have t3 := opt_lt h3 (P := fun l => l.length ≤ 1024 ∧ ∀ x ∈ l, x < 256) ⟨by simp, by simp⟩ (fun _ g => (rBlk_form (most := 1024) p2 g q4.1.f hb).2)
 have t4 := opt_lt h4 (P := fun l => l.length ≤ 1048576 ∧ ∀ x ∈ l, x < 256) ⟨by simp, by simp⟩ (fun _ g => (rBlk_form (most := 1048576) p3 g q5.1.f hb).2)
 have t5 := opt_lt h5 (P := fun l => l.length ≤ 1024 ∧ ∀ x ∈ l, x < 256) ⟨by simp, by simp⟩ (fun _ g => (rBlk_form (most := 1024) p4 g q6.1.f hb).2)
 have t6 := opt_lt h6 (P := fun v => v < 2 ^ 64) (by omega) (fun _ g => (rNum_form p5 g q7.1.f hb).2)
 have t7 := opt_lt h7 (P := fun v => v < 2 ^ 64) (by omega) (fun _ g => (rNum_form p6 g q8.1.f hb).2)
 have t8 := opt_lt h8 (P := fun v => v < 2 ^ 64) (by omega) (fun _ g => (rNum_form p7 g f8 hb).2)
 have z0 : unz ((0 : Nat) : Int) = 0 := by decide
 refine ⟨?_, ⟨k1, k8, ?_, ?_, ?_, ?_, ?_, ?_⟩, ⟨by simp only [bstr_size]; exact t3.1, by simp only [bstr_size]; exact t5.1, t4.1⟩, ⟨by have := q2.2; simp only; omega, (u64i t6).1, (u64i t6).2, (u64i t8).1, (u64i t8).2, (u64i t7).1, (u64i t7).2, t4.2⟩⟩
 ·unfold rqC
  simp only [hb3, hb4, hb5, hb6, hb7, hb8, Int.toNat_natCast]
  rw [opt_us t3.2, opt_us t5.2, opt_uz q6.2, opt_uz q7.2, opt_uz q8.2]
  have c := q8.1.cut
  rw [List.take_of_length_le e8, q7.1.cut, q6.1.cut, q5.1.cut, q4.1.cut, q3.1.cut, q2.1.cut, q1.1.cut] at c
  simpa [ub, blk, List.append_assoc] using c
 ·intro hh; simp only [hb3] at hh ⊢; rw [q3.2 hh, bstr_nil]
 ·intro hh; simp only [hb4] at hh ⊢; rw [q4.2 hh]
 ·intro hh; simp only [hb5] at hh ⊢; rw [q5.2 hh, bstr_nil]
 ·intro hh; simp only [hb6] at hh ⊢; rw [q6.2 hh, z0]
 ·intro hh; simp only [hb8] at hh ⊢; rw [q8.2 hh, z0]
 ·intro hh; simp only [hb7] at hh ⊢; rw [q7.2 hh, z0]
end Go.Proofs.Ytbcmjjcbjojakaa
end
section
namespace Go.Proofs.Ytbcmjjcbjojakaa
open Go.RowKit
set_option linter.unusedVariables false
set_option maxRecDepth 20000
def KT (k : IntKind) (v : Value) (a : Nat) (_ : World) : Prop := v = .int k (a : Int)
theorem take_len_eq {bs l : List Nat} {at_ k a : Nat} (h : takeF bs at_ k = .ok (l, a)) : l.length = k := by
  unfold takeF at h
  split at h
  · cases h; rw [List.length_take, List.length_drop]; omega
  · cases h
theorem take_lb {bs l : List Nat} {at_ k a : Nat} (hb : ∀ x ∈ bs, x < 256) (h : takeF bs at_ k = .ok (l, a)) : ∀ x ∈ l, x < 256 := by
  unfold takeF at h
  split at h
  · cases h; intro x hx; exact hb x (List.mem_of_mem_drop (List.mem_of_mem_take hx))
  · cases h
theorem le_step (l : List Nat) (k : Nat) (hk : k < l.length) (h8 : k < 8) (hb : ∀ x ∈ l, x < 256) :
    bits .or .u64 ((le256 (l.take k) : Nat) : Int) (IntKind.u64.wrap (((l.getD k 0 : Nat) : Int) * 2 ^ (8 * k))) = ((le256 (l.take (k + 1)) : Nat) : Int) ∧ 0 ≤ ((l.getD k 0 : Nat) : Int) ∧ ((l.getD k 0 : Nat) : Int) ≤ 255 := by
  have hx : l.getD k 0 < 256 := by rw [List.getD_eq_getElem?_getD, List.getElem?_eq_getElem hk]; exact hb _ (List.getElem_mem hk)
  have hl : (l.take k).length = k := by rw [List.length_take]; omega
  have h1 := le256_lt (l.take k) fun y hy => hb y (List.mem_of_mem_take hy)
  rw [hl] at h1
  have hp : (256 : Nat) ^ k = 2 ^ (8 * k) := by rw [Nat.pow_mul]
  have e0 : l.take (k + 1) = l.take k ++ [l.getD k 0] := by rw [List.take_succ_eq_append_getElem hk, List.getD_eq_getElem?_getD, List.getElem?_eq_getElem hk]; rfl
  rw [e0, le256_snoc, hl]
  obtain ⟨x, hxe⟩ : ∃ x, l.getD k 0 = x := ⟨_, rfl⟩
  obtain ⟨v, hve⟩ : ∃ v, le256 (l.take k) = v := ⟨_, rfl⟩
  rw [hxe] at hx ⊢
  rw [hve] at h1 ⊢
  rw [hp] at h1 ⊢
  refine ⟨?_, by omega, by omega⟩
  have e2 : (x : Int) * 2 ^ (8 * k) = ((x * 2 ^ (8 * k) : Nat) : Int) := by push_cast; rfl
  have h56 : 2 ^ (8 * k) * 256 ≤ 18446744073709551616 := by
    rw [show (256 : Nat) = 2 ^ 8 by rfl, ← Nat.pow_add, show (18446744073709551616 : Nat) = 2 ^ 64 by rfl]
    exact Nat.pow_le_pow_right (by omega) (by omega)
  have h2 : x * 2 ^ (8 * k) ≤ 255 * 2 ^ (8 * k) := Nat.mul_le_mul_right _ (by omega)
  obtain ⟨y, hy⟩ : ∃ y, x * 2 ^ (8 * k) = y := ⟨_, rfl⟩
  rw [hy] at h2
  have e3 : IntKind.u64.wrap (y : Int) = (y : Int) := by rw [IntKind.wrap_u64]; omega
  rw [e2, hy, e3, u64_or_nat v y (by omega) (by omega)]
  rw [← hy, Nat.or_comm, ← Nat.shiftLeft_eq, ← Nat.shiftLeft_add_eq_or_of_lt h1, Nat.add_comm]
set_option maxHeartbeats 2000000 in
theorem takeC_uint8 (w : World) (gr pr pv n c at_ : Nat) (A : Option Addr) (bs : List Nat) (R : Rr w gr A n c at_ 0 bs) (C : Caps w gr pr pv) :
    Calls Try.prog 138 #[.pointer (some ⟨pr, 0, none⟩), .pointer (some ⟨pv, 0, none⟩)] w (Clo w gr pv n c A bs (KT .u8) (fixF bs at_ 1)) := by
  have HR : Hd (Rr w gr A n c at_ 0 bs ∧ Caps w gr pr pv) := ⟨R, C⟩
  have k1 := C.hr
  clear R C
  go_enter Try.func138, Try.ntmps138
  have WK : Hd (IntKind.u64.wrap 1 = 1) := ⟨by rw [IntKind.wrap_u64]; rfl⟩
  go_upto_region 1 with fail
  go_cut [2, 8, 9, 10] from 2 to 24 (fun t2 t8 t9 t10 wx => t2 = .int .u64 0 ∧ t9 = .int .i64 1 ∧ t10 = .int .i64 0 ∧ ∃ l a1, takeF bs at_ 1 = .ok (l, a1) ∧ ∃ A1 c1, t8 = .slice A1 1 c1 ∧ Chg [gr] w wx ∧ Rr wx gr A n c a1 0 bs ∧ Rd wx gr A1 1 (cb l))
  case first =>
    go_region_with (first
      | (go_at_call 88; refine (width_uint8 _).mono ?_; rintro e z ⟨rfl, rfl⟩)
      | (go_at_call 139; rw [WK.out]; refine (take_any _ gr n c at_ 1 1 A 0 bs HR.out.1.drew rfl).mono ?_; rintro e w1 ⟨hch, hy, hn⟩
         rcases hnum : takeF bs at_ 1 with ec | ⟨l, a1⟩
         · obtain ⟨he, at', hr⟩ := hn _ hnum
           unfold giveUp at he
           subst he
           exact ⟨rfl, Clo.no (by unfold fixF; rw [hnum]) hch.of_drew hr⟩
         obtain ⟨v, rfl, ⟨A1, c1, rfl, hrd, hc1⟩, hr⟩ := hy _ _ hnum
         rw [take_len_eq hnum] at hrd ⊢))
    all_goals
      go_wp2_with fail
      go_meet
      exact ⟨rfl, rfl, rfl, l, a1, hnum, A1, c1, rfl, hch.of_drew, hr, hrd⟩
  case rest =>
    obtain ⟨rfl, rfl, rfl, l, a1, hnum, A1, c1, rfl, hch, hr, hrd⟩ := hcut
    have H1 : Hd (Chg [gr] w wc ∧ Rr wc gr A n c a1 0 bs ∧ Caps wc gr pr pv ∧ fixF bs at_ 1 = .ok (le256 l, a1) ∧ Rd wc gr A1 1 (cb l) ∧ (∀ x ∈ l, x < 256) ∧ l.length = 1) :=
      ⟨hch, hr, HR.out.2.keep hch, by unfold fixF; rw [hnum], hrd, take_lb HR.out.1.lb hnum, take_len_eq hnum⟩
    clear hch hnum hr hrd
    go_wp2_with fail
    go_loopw [2, 10] (fun u i wr => ∃ k : Nat, k ≤ 1 ∧ i = .int .i64 k ∧ u = .int .u64 ((le256 (l.take k) : Nat) : Int) ∧ wr = wc) (fun _ i _ => 1 - (intOf i).toNat)
    case atStart => exact ⟨0, by omega, rfl, rfl, rfl⟩
    case round =>
      obtain ⟨k, hk, rfl, rfl, rfl⟩ := hrel
      by_cases hlt : k < 1
      · obtain ⟨g, off, u, hA, hg, hxx, hcell⟩ := H1.out.2.2.2.2.1.at_ hlt
        subst hA
        rw [cb_get l k (by rw [H1.out.2.2.2.2.2.2]; exact hlt)] at hxx
        injection hxx with hxx
        rw [← hxx] at hcell
        have HS := Hd.mk (le_step l k (by rw [H1.out.2.2.2.2.2.2]; exact hlt) (by omega) H1.out.2.2.2.2.2.1)
        obtain ⟨X, hX⟩ : ∃ X : Int, ((l.getD k 0 : Nat) : Int) = X := ⟨_, rfl⟩
        obtain ⟨V, hV⟩ : ∃ V : Int, ((le256 (l.take k) : Nat) : Int) = V := ⟨_, rfl⟩
        rw [hX, hV] at HS
        have x1 : 0 ≤ X := HS.out.2.1
        have x2 : X ≤ 255 := HS.out.2.2
        rw [hX] at hcell
        rw [hV]
        clear hX hV hxx
        go_wp2_with fail
        go_roundw
        case rel => exact ⟨k + 1, by omega, by go_num, by rw [← HS.out.1], by first | rfl | trivial⟩
        case measure => simp [intOf]; omega
      · have hk1 : k = 1 := by omega
        subst hk1
        have ht : l.take 1 = l := List.take_of_length_le (by rw [H1.out.2.2.2.2.2.2]; omega)
        rw [ht]
        have hb := le256_lt l H1.out.2.2.2.2.2.1
        rw [H1.out.2.2.2.2.2.2] at hb
        obtain ⟨V, hV⟩ : ∃ V : Int, ((le256 l : Nat) : Int) = V := ⟨_, rfl⟩
        have x1 : 0 ≤ V := by omega
        have x2 : V ≤ 255 := by omega
        have HV := Hd.mk hV
        rw [hV]
        clear hV hb ht
        obtain ⟨u, d1⟩ := H1.out.2.2.1.hv
        have d2 := H1.out.2.2.1.zv
        go_wp2_with fail
        go_end0
        refine Clo.yes (a := le256 l) (at' := a1) H1.out.2.2.2.1 ((H1.out.1.mono (by simp)).setCell (by simp) _) (H1.out.2.1.keep' ((Chg.refl [pv] _).setCell (by simp) _) (by have := HR.out.2.lt; simp; omega)) (World.cell?_setCell_same _ _ _ d1) (by rw [World.frozen?_setCell]; exact d2) (by rw [← HV.out]; rfl)
set_option maxHeartbeats 1000000 in
theorem take_uint8_any (w : World) (gr n c at_ : Nat) (fl : Int) (A : Option Addr) (bs : List Nat) (R : Rr w gr A n c at_ fl bs) :
    Calls Try.prog 126 #[.pointer (some ⟨gr, 0, none⟩)] w (Ans w gr n c A bs (KT .u8) (redo (fixF bs at_ 1) 0 at_ fl)) := by
  have hmf : ∀ (fn : Fn) (first cap : Array Value) (w : World), (Instr.makeFunc fn first cap).run Try.prog w = .ok (.func fn first cap) w := fun _ _ _ _ => rfl
  have HR := Hd.mk R
  clear R
  go_enter Try.func126, Try.ntmps126
  go_wp2_with fail
  have hch : Chg [] w ((w.alloc (.cells #[.pointer (some ⟨gr, 0, none⟩)] 154)).alloc (.cells #[.int .u8 0] 5)) := (((Chg.refl _ _).alloc _).alloc _)
  obtain ⟨W1, hW⟩ : ∃ W1, ((w.alloc (.cells #[.pointer (some ⟨gr, 0, none⟩)] 154)).alloc (.cells #[.int .u8 0] 5)) = W1 := ⟨_, rfl⟩
  have k1 : W1.cell? ⟨(w.heap.size + 1), 0, none⟩ = some (.int .u8 0) := by rw [← hW]; exact cell_new _ _ (by simp)
  have k2 : W1.cell? ⟨w.heap.size, 0, none⟩ = some (.pointer (some ⟨gr, 0, none⟩)) := by rw [← hW, World.cell?_alloc_lt _ _ _ (by simp; try omega)]; exact cell_new _ _ (by simp)
  have k3 : W1.heap.size = w.heap.size + 2 := by rw [← hW]; simp
  have k4 : W1.frozen? ⟨(w.heap.size + 1), 0, none⟩ = false := by rw [← hW]; exact frozen_new _ _ (by simp)
  rw [hW] at hch ⊢
  have HC : Hd (Caps W1 gr w.heap.size (w.heap.size + 1)) := ⟨⟨k2, ⟨_, k1⟩, k4, by have := HR.out.lt; omega⟩⟩
  have H1 : Hd (Chg [] w W1 ∧ Rr W1 gr A n c at_ fl bs ∧ W1.heap.size = w.heap.size + 2) := ⟨hch, HR.out.keep' hch (by simp), k3⟩
  clear hch hW
  refine (reading_all W1 gr (w.heap.size + 1) n c at_ fl A bs H1.out.2.1 (.int .u8 0) k1 k4 (by have := HR.out.lt; omega) (by omega) 138 (fun _ _ => rfl) _ (KT .u8) (fixF bs at_ 1) 0 (fun _ => rfl) ?_).mono ?_
  · intro h0 w2 h2
    have hR := H1.out.2.1.keep' h2 (by simp)
    rw [h0] at hR
    exact takeC_uint8 w2 gr w.heap.size (w.heap.size + 1) n c at_ A bs hR (HC.out.keep (h2.mono (by simp)))
  rintro e w2 ⟨rfl, ha⟩
  have HA := Hd.mk ha
  obtain ⟨v, c1, hk⟩ := ha.cell
  have c2 := ha.froz
  unfold KT at hk
  subst hk
  obtain ⟨X, hX⟩ : ∃ X : Int, ((redo (fixF bs at_ 1) 0 at_ fl).1 : Int) = X := ⟨_, rfl⟩
  have HX := Hd.mk hX
  rw [hX] at c1
  clear ha k1 k2 k3 k4
  clear hX
  go_wp2_with fail
  go_ret
  refine ⟨_, rfl, ?_, ?_, ?_⟩
  · exact Chg.pop (L := [gr]) ((H1.out.1.mono (by simp)).trans HA.out.ch) (by omega)
  · rw [← HX.out]; rfl
  · exact HA.out.rr
set_option maxHeartbeats 2000000 in
theorem takeC_uint64 (w : World) (gr pr pv n c at_ : Nat) (A : Option Addr) (bs : List Nat) (R : Rr w gr A n c at_ 0 bs) (C : Caps w gr pr pv) :
    Calls Try.prog 140 #[.pointer (some ⟨pr, 0, none⟩), .pointer (some ⟨pv, 0, none⟩)] w (Clo w gr pv n c A bs (KT .u64) (fixF bs at_ 8)) := by
  have HR : Hd (Rr w gr A n c at_ 0 bs ∧ Caps w gr pr pv) := ⟨R, C⟩
  have k1 := C.hr
  clear R C
  go_enter Try.func140, Try.ntmps140
  have WK : Hd (IntKind.u64.wrap 8 = 8) := ⟨by rw [IntKind.wrap_u64]; rfl⟩
  go_upto_region 1 with fail
  go_cut [2, 8, 9, 10] from 2 to 23 (fun t2 t8 t9 t10 wx => t2 = .int .u64 0 ∧ t9 = .int .i64 8 ∧ t10 = .int .i64 0 ∧ ∃ l a1, takeF bs at_ 8 = .ok (l, a1) ∧ ∃ A1 c1, t8 = .slice A1 8 c1 ∧ Chg [gr] w wx ∧ Rr wx gr A n c a1 0 bs ∧ Rd wx gr A1 8 (cb l))
  case first =>
    go_region_with (first
      | (go_at_call 87; refine (width_uint64 _).mono ?_; rintro e z ⟨rfl, rfl⟩)
      | (go_at_call 139; rw [WK.out]; refine (take_any _ gr n c at_ 8 8 A 0 bs HR.out.1.drew rfl).mono ?_; rintro e w1 ⟨hch, hy, hn⟩
         rcases hnum : takeF bs at_ 8 with ec | ⟨l, a1⟩
         · obtain ⟨he, at', hr⟩ := hn _ hnum
           unfold giveUp at he
           subst he
           exact ⟨rfl, Clo.no (by unfold fixF; rw [hnum]) hch.of_drew hr⟩
         obtain ⟨v, rfl, ⟨A1, c1, rfl, hrd, hc1⟩, hr⟩ := hy _ _ hnum
         rw [take_len_eq hnum] at hrd ⊢))
    all_goals
      go_wp2_with fail
      go_meet
      exact ⟨rfl, rfl, rfl, l, a1, hnum, A1, c1, rfl, hch.of_drew, hr, hrd⟩
  case rest =>
    obtain ⟨rfl, rfl, rfl, l, a1, hnum, A1, c1, rfl, hch, hr, hrd⟩ := hcut
    have H1 : Hd (Chg [gr] w wc ∧ Rr wc gr A n c a1 0 bs ∧ Caps wc gr pr pv ∧ fixF bs at_ 8 = .ok (le256 l, a1) ∧ Rd wc gr A1 8 (cb l) ∧ (∀ x ∈ l, x < 256) ∧ l.length = 8) :=
      ⟨hch, hr, HR.out.2.keep hch, by unfold fixF; rw [hnum], hrd, take_lb HR.out.1.lb hnum, take_len_eq hnum⟩
    clear hch hnum hr hrd
    go_wp2_with fail
    go_loopw [2, 10] (fun u i wr => ∃ k : Nat, k ≤ 8 ∧ i = .int .i64 k ∧ u = .int .u64 ((le256 (l.take k) : Nat) : Int) ∧ wr = wc) (fun _ i _ => 8 - (intOf i).toNat)
    case atStart => exact ⟨0, by omega, rfl, rfl, rfl⟩
    case round =>
      obtain ⟨k, hk, rfl, rfl, rfl⟩ := hrel
      by_cases hlt : k < 8
      · obtain ⟨g, off, u, hA, hg, hxx, hcell⟩ := H1.out.2.2.2.2.1.at_ hlt
        subst hA
        rw [cb_get l k (by rw [H1.out.2.2.2.2.2.2]; exact hlt)] at hxx
        injection hxx with hxx
        rw [← hxx] at hcell
        have HS := Hd.mk (le_step l k (by rw [H1.out.2.2.2.2.2.2]; exact hlt) (by omega) H1.out.2.2.2.2.2.1)
        obtain ⟨X, hX⟩ : ∃ X : Int, ((l.getD k 0 : Nat) : Int) = X := ⟨_, rfl⟩
        obtain ⟨V, hV⟩ : ∃ V : Int, ((le256 (l.take k) : Nat) : Int) = V := ⟨_, rfl⟩
        rw [hX, hV] at HS
        have x1 : 0 ≤ X := HS.out.2.1
        have x2 : X ≤ 255 := HS.out.2.2
        rw [hX] at hcell
        rw [hV]
        clear hX hV hxx
        go_wp2_with fail
        go_roundw
        case rel => exact ⟨k + 1, by omega, by go_num, by rw [← HS.out.1], by first | rfl | trivial⟩
        case measure => simp [intOf]; omega
      · have hk1 : k = 8 := by omega
        subst hk1
        have ht : l.take 8 = l := List.take_of_length_le (by rw [H1.out.2.2.2.2.2.2]; omega)
        rw [ht]
        have hb := le256_lt l H1.out.2.2.2.2.2.1
        rw [H1.out.2.2.2.2.2.2] at hb
        obtain ⟨V, hV⟩ : ∃ V : Int, ((le256 l : Nat) : Int) = V := ⟨_, rfl⟩
        have x1 : 0 ≤ V := by omega
        have x2 : V ≤ 18446744073709551615 := by omega
        have HV := Hd.mk hV
        rw [hV]
        clear hV hb ht
        obtain ⟨u, d1⟩ := H1.out.2.2.1.hv
        have d2 := H1.out.2.2.1.zv
        go_wp2_with fail
        go_end0
        refine Clo.yes (a := le256 l) (at' := a1) H1.out.2.2.2.1 ((H1.out.1.mono (by simp)).setCell (by simp) _) (H1.out.2.1.keep' ((Chg.refl [pv] _).setCell (by simp) _) (by have := HR.out.2.lt; simp; omega)) (World.cell?_setCell_same _ _ _ d1) (by rw [World.frozen?_setCell]; exact d2) (by rw [← HV.out]; rfl)
set_option maxHeartbeats 1000000 in
theorem take_uint64_any (w : World) (gr n c at_ : Nat) (fl : Int) (A : Option Addr) (bs : List Nat) (R : Rr w gr A n c at_ fl bs) :
    Calls Try.prog 127 #[.pointer (some ⟨gr, 0, none⟩)] w (Ans w gr n c A bs (KT .u64) (redo (fixF bs at_ 8) 0 at_ fl)) := by
  have hmf : ∀ (fn : Fn) (first cap : Array Value) (w : World), (Instr.makeFunc fn first cap).run Try.prog w = .ok (.func fn first cap) w := fun _ _ _ _ => rfl
  have HR := Hd.mk R
  clear R
  go_enter Try.func127, Try.ntmps127
  go_wp2_with fail
  have hch : Chg [] w ((w.alloc (.cells #[.pointer (some ⟨gr, 0, none⟩)] 154)).alloc (.cells #[.int .u64 0] 25)) := (((Chg.refl _ _).alloc _).alloc _)
  obtain ⟨W1, hW⟩ : ∃ W1, ((w.alloc (.cells #[.pointer (some ⟨gr, 0, none⟩)] 154)).alloc (.cells #[.int .u64 0] 25)) = W1 := ⟨_, rfl⟩
  have k1 : W1.cell? ⟨(w.heap.size + 1), 0, none⟩ = some (.int .u64 0) := by rw [← hW]; exact cell_new _ _ (by simp)
  have k2 : W1.cell? ⟨w.heap.size, 0, none⟩ = some (.pointer (some ⟨gr, 0, none⟩)) := by rw [← hW, World.cell?_alloc_lt _ _ _ (by simp; try omega)]; exact cell_new _ _ (by simp)
  have k3 : W1.heap.size = w.heap.size + 2 := by rw [← hW]; simp
  have k4 : W1.frozen? ⟨(w.heap.size + 1), 0, none⟩ = false := by rw [← hW]; exact frozen_new _ _ (by simp)
  rw [hW] at hch ⊢
  have HC : Hd (Caps W1 gr w.heap.size (w.heap.size + 1)) := ⟨⟨k2, ⟨_, k1⟩, k4, by have := HR.out.lt; omega⟩⟩
  have H1 : Hd (Chg [] w W1 ∧ Rr W1 gr A n c at_ fl bs ∧ W1.heap.size = w.heap.size + 2) := ⟨hch, HR.out.keep' hch (by simp), k3⟩
  clear hch hW
  refine (reading_all W1 gr (w.heap.size + 1) n c at_ fl A bs H1.out.2.1 (.int .u64 0) k1 k4 (by have := HR.out.lt; omega) (by omega) 140 (fun _ _ => rfl) _ (KT .u64) (fixF bs at_ 8) 0 (fun _ => rfl) ?_).mono ?_
  · intro h0 w2 h2
    have hR := H1.out.2.1.keep' h2 (by simp)
    rw [h0] at hR
    exact takeC_uint64 w2 gr w.heap.size (w.heap.size + 1) n c at_ A bs hR (HC.out.keep (h2.mono (by simp)))
  rintro e w2 ⟨rfl, ha⟩
  have HA := Hd.mk ha
  obtain ⟨v, c1, hk⟩ := ha.cell
  have c2 := ha.froz
  unfold KT at hk
  subst hk
  obtain ⟨X, hX⟩ : ∃ X : Int, ((redo (fixF bs at_ 8) 0 at_ fl).1 : Int) = X := ⟨_, rfl⟩
  have HX := Hd.mk hX
  rw [hX] at c1
  clear ha k1 k2 k3 k4
  clear hX
  go_wp2_with fail
  go_ret
  refine ⟨_, rfl, ?_, ?_, ?_⟩
  · exact Chg.pop (L := [gr]) ((H1.out.1.mono (by simp)).trans HA.out.ch) (by omega)
  · rw [← HX.out]; rfl
  · exact HA.out.rr
end Go.Proofs.Ytbcmjjcbjojakaa
end
section
namespace Go.Proofs.Ytbcmjjcbjojakaa
open Go.RowKit
set_option linter.unusedVariables false
set_option maxRecDepth 20000
set_option maxHeartbeats 1000000 in
theorem texts_any (w : World) (gr n c at_ : Nat) (fl : Int) (A : Option Addr) (bs : List Nat) (x : Int) (y : Int) (hx : -9223372036854775808 ≤ x ∧ x ≤ 9223372036854775807) (hy : -9223372036854775808 ≤ y ∧ y ≤ 9223372036854775807) (R : Rr w gr A n c at_ fl bs) :
  Calls Try.prog 132 #[.pointer (some ⟨gr, 0, none⟩), .int .i64 x, .int .i64 y] w (Ans w gr n c A bs (KTxt w.heap.size) (redo (textsF bs at_ x y) [] at_ fl)) := by
 have hmf : ∀ (fn : Fn) (first cap : Array Value) (w : World), (Instr.makeFunc fn first cap).run Try.prog w = .ok (.func fn first cap) w := fun _ _ _ _ => rfl
 have HR := Hd.mk R
 clear R
 go_enter Try.func132, Try.ntmps132
 go_wp2_with fail
 have hch : Chg [] w ((((w.alloc (.cells #[.pointer (some ⟨gr, 0, none⟩)] 154)).alloc (.cells #[.int .i64 x] 3)).alloc (.cells #[.int .i64 y] 3)).alloc (.cells #[.slice none 0 0] 37)) := (((((Chg.refl _ _).alloc _).alloc _).alloc _).alloc _)
 obtain ⟨W1, hW⟩ : ∃ W1, ((((w.alloc (.cells #[.pointer (some ⟨gr, 0, none⟩)] 154)).alloc (.cells #[.int .i64 x] 3)).alloc (.cells #[.int .i64 y] 3)).alloc (.cells #[.slice none 0 0] 37)) = W1 := ⟨_, rfl⟩
 have k1 : W1.cell? ⟨(w.heap.size + 3), 0, none⟩ = some (.slice none 0 0) := by rw [← hW]; exact cell_new _ _ (by simp)
 have k2 : W1.cell? ⟨w.heap.size, 0, none⟩ = some (.pointer (some ⟨gr, 0, none⟩)) := by rw [← hW, World.cell?_alloc_lt _ _ _ (by simp; try omega), World.cell?_alloc_lt _ _ _ (by simp; try omega), World.cell?_alloc_lt _ _ _ (by simp; try omega)]; exact cell_new _ _ (by simp)
 have k3 : W1.heap.size = w.heap.size + 4 := by rw [← hW]; simp
 have k4 : W1.frozen? ⟨(w.heap.size + 3), 0, none⟩ = false := by rw [← hW]; exact frozen_new _ _ (by simp)
 have i0 : W1.cell? ⟨w.heap.size + 1, 0, none⟩ = some (.int .i64 x) := by rw [← hW, World.cell?_alloc_lt _ _ _ (by simp; try omega), World.cell?_alloc_lt _ _ _ (by simp; try omega)]; exact cell_new _ _ (by simp)
 have i1 : W1.cell? ⟨w.heap.size + 2, 0, none⟩ = some (.int .i64 y) := by rw [← hW, World.cell?_alloc_lt _ _ _ (by simp; try omega)]; exact cell_new _ _ (by simp)
 rw [hW] at hch ⊢
 have HC : Hd (Caps W1 gr w.heap.size (w.heap.size + 3)) := ⟨⟨k2, ⟨_, k1⟩, k4, by have := HR.out.lt; omega⟩⟩
 have H1 : Hd (Chg [] w W1 ∧ Rr W1 gr A n c at_ fl bs ∧ W1.heap.size = w.heap.size + 4) := ⟨hch, HR.out.keep' hch (by simp), k3⟩
 clear hch hW
 refine (reading_all W1 gr (w.heap.size + 3) n c at_ fl A bs H1.out.2.1 (.slice none 0 0) k1 k4 (by have := HR.out.lt; omega) (by omega) 150 (fun _ _ => rfl) _ (KTxt (w.heap.size + 3 + 1)) (textsF bs at_ x y) [] (fun _ => KTxt.nil _ _) ?_).mono ?_
 ·intro h0 w2 h2
  have hR := H1.out.2.1.keep' h2 (by simp)
  rw [h0] at hR
  exact textsC_any w2 gr w.heap.size (w.heap.size + 3) (w.heap.size + 1) (w.heap.size + 2) n c at_ A bs x y hx hy hR (HC.out.keep (h2.mono (by simp))) ((h2.cell (p := ⟨w.heap.size + 1, 0, none⟩) (by show w.heap.size + 1 < _; omega) (by simp)).trans i0) (by have := HR.out.lt; have := h2.size; omega) ((h2.cell (p := ⟨w.heap.size + 2, 0, none⟩) (by show w.heap.size + 2 < _; omega) (by simp)).trans i1) (by have := HR.out.lt; have := h2.size; omega)
 rintro e w2 ⟨rfl, ha⟩
 have HA := Hd.mk ha
 obtain ⟨v, c1, hk⟩ := ha.cell
 have c2 := ha.froz
 unfold KTxt at hk
 obtain ⟨A2, c3, rfl, _, _⟩ := own_form hk
 have HK := Hd.mk hk
 obtain ⟨L, hL⟩ : ∃ L, (redo (textsF bs at_ x y) [] at_ fl).1.length = L := ⟨_, rfl⟩
 have HL := Hd.mk hL
 rw [hL] at c1
 clear ha k1 k2 k3 k4 i0 i1
 clear hL hk
 go_wp2_with fail
 have c4 := World.cell?_setCell_same (v := .slice A2 L c3) w2 ⟨w.heap.size + 3, 0, none⟩ c1
 refine bodyPost_ret (v := .slice A2 L c3) (by simp [results, Try.results132, go_sem, c4]) rfl ?_
 refine ⟨_, rfl, ?_, ?_, ?_⟩
 ·exact Chg.pop (L := [gr]) (((H1.out.1.mono (by simp)).trans HA.out.ch).setCell (by simp) _) (by omega)
 ·have := HK.out; rw [HL.out] at this; unfold KTxt; rw [HL.out]; exact own_base (ownsRow_setCell_below this (a := ⟨w.heap.size + 3, 0, none⟩) (Nat.lt_succ_self _) _) (by omega)
 ·exact HA.out.rr.keep' ((Chg.refl [w.heap.size + 3] w2).setCell (by simp) _) (by have := HR.out.lt; simp; omega)
end Go.Proofs.Ytbcmjjcbjojakaa
end
section
namespace Go.Proofs.Ytbcmjjcbjojakaa
open Go.RowKit
set_option linter.unusedVariables false
set_option linter.unusedSimpArgs false
theorem Rq.ext' {a b : Rq} (h : a.kind = b.kind ∧ a.tag = b.tag ∧ a.key = b.key ∧ a.after = b.after ∧ a.off = b.off ∧ a.num = b.num ∧ a.delim = b.delim ∧ a.body = b.body) : a = b := by
 cases a; cases b; simp only at h; obtain ⟨rfl, rfl, rfl, rfl, rfl, rfl, rfl, rfl⟩ := h; rfl
theorem str_inj {a b : ByteArray} (h : a.toList = b.toList) : a = b := by
 rw [ByteArray.toList_eq, ByteArray.toList_eq] at h
 have : a.data = b.data := Array.toList_inj.1 h
 cases a; cases b; simp only at this; rw [this]
/-- Are two requests the same? -/
noncomputable def sameB (a b : Rq) : Bool := @decide (a = b) (Classical.propDecidable _)
theorem sameB_eq (a b : Rq) (p : Prop) [Decidable p] (h : a = b ↔ p) : sameB a b = decide p := by
 unfold sameB
 rw [Bool.eq_iff_iff, @decide_eq_true_iff _ (Classical.propDecidable _), decide_eq_true_iff]
 exact h
theorem conv_any {w : World} {B n c : Nat} {A : Option Addr} {bs : List Nat} (h : Rd w B A n (cb bs)) : (convert 26 9 (.slice A n c)).run Try.prog w = .ok (.string (bstr bs)) w := by
 rw [cb_ints] at h
 exact run_conv_str _ _ 5 Try.underlying26 Try.underlying5 infoStr c h
set_option maxRecDepth 20000 in
set_option maxHeartbeats 4000000 in
theorem sameRq_any (w : World) (B : Nat) (R R' : Rq) (k k' : Int) (tag tag' : Nat) (key key' after after' : ByteArray) (off off' num num' delim delim' : Int) (body body' : List Nat) (hR : R = ⟨k, tag, key, after, off, num, delim, body⟩) (hR' : R' = ⟨k', tag', key', after', off', num', delim', body'⟩) (A A' : Option Addr) (n n' c c' : Nat) (h1 : Rd w B A n (cb body)) (h2 : Rd w B A' n' (cb body')) (hB : B ≤ w.heap.size) (l1 : ∀ x ∈ body, x < 256) (l2 : ∀ x ∈ body', x < 256) :
  Calls Try.prog 51 #[.agg #[.int .i64 k, .int .u64 (tag : Int), .string key, .string after, .int .i64 off, .int .i64 num, .int .i64 delim, .slice A n c], .agg #[.int .i64 k', .int .u64 (tag' : Int), .string key', .string after', .int .i64 off', .int .i64 num', .int .i64 delim', .slice A' n' c']] w fun e w' => e = .returned (.bool (sameB R R')) ∧ Below w.heap.size w w' := by
 obtain ⟨S, hS⟩ : ∃ S, bstr body = S := ⟨_, rfl⟩
 obtain ⟨S', hS'⟩ : ∃ S', bstr body' = S' := ⟨_, rfl⟩
 have hbb : body = body' ↔ S = S' := by
  rw [← hS, ← hS']
  constructor
  ·rintro rfl; rfl
  ·intro h
   have := bstr_beq body body' l1 l2
   rw [h] at this
   simpa using this.symm
 have HE : Hd (sameB R R' = decide (k = k' ∧ (tag : Int) = (tag' : Int) ∧ key.toList = key'.toList ∧ after.toList = after'.toList ∧ off = off' ∧ num = num' ∧ delim = delim' ∧ S.toList = S'.toList)) := ⟨sameB_eq _ _ _ ⟨fun h => by rw [hR, hR'] at h; cases h; exact ⟨rfl, rfl, rfl, rfl, rfl, rfl, rfl, congrArg _ (hbb.1 rfl)⟩, fun ⟨a, b, c, d, e, f, g, h⟩ => by rw [hR, hR']; exact Rq.ext' ⟨a, Int.ofNat_inj.1 b, str_inj c, str_inj d, e, f, g, hbb.2 (str_inj h)⟩⟩⟩
 have HH := Hd.mk (And.intro h1 (And.intro h2 hB))
 have HSS := Hd.mk (And.intro hS hS')
 clear h1 h2 hB hS hS' hbb l1 l2 hR hR'
 go_enter Try.func51, Try.ntmps51
 go_upto_region 1 with fail
 obtain ⟨W, hW⟩ : ∃ W, (w.alloc (.cells #[.int .i64 k, .int .u64 (tag : Int), .string key, .string after, .int .i64 off, .int .i64 num, .int .i64 delim, .slice A n c] 28)).alloc (.cells #[.int .i64 k', .int .u64 (tag' : Int), .string key', .string after', .int .i64 off', .int .i64 num', .int .i64 delim', .slice A' n' c'] 28) = W := ⟨_, rfl⟩
 obtain ⟨g, hg⟩ : ∃ g, w.heap.size = g := ⟨_, rfl⟩
 have hb : Below w.heap.size w W := by rw [← hW]; exact ((Below.refl _ w).alloc (Nat.le_refl _) _).alloc (by simp) _
 have hg1 : W.heap[g]? = some (.cells #[.int .i64 k, .int .u64 (tag : Int), .string key, .string after, .int .i64 off, .int .i64 num, .int .i64 delim, .slice A n c] 28) := by rw [← hW, ← hg, heap_alloc_old _ _ (by simp)]; exact heap_alloc_new w _
 have hg2 : W.heap[g + 1]? = some (.cells #[.int .i64 k', .int .u64 (tag' : Int), .string key', .string after', .int .i64 off', .int .i64 num', .int .i64 delim', .slice A' n' c'] 28) := by rw [← hW, ← hg]; have h := heap_alloc_new (w.alloc (.cells #[.int .i64 k, .int .u64 (tag : Int), .string key, .string after, .int .i64 off, .int .i64 num, .int .i64 delim, .slice A n c] 28)) (.cells #[.int .i64 k', .int .u64 (tag' : Int), .string key', .string after', .int .i64 off', .int .i64 num', .int .i64 delim', .slice A' n' c'] 28); simpa using h
 rw [hW]
 (try rw [hg])
 have f1 : (convert 26 9 (.slice A n c)).run Try.prog W = .ok (.string S) W := by rw [← HSS.out.1]; exact conv_any (HH.out.1.below (hb.mono HH.out.2.2))
 have f2 : (convert 26 9 (.slice A' n' c')).run Try.prog W = .ok (.string S') W := by rw [← HSS.out.2]; exact conv_any (HH.out.2.1.below (hb.mono HH.out.2.2))
 have c0 : W.cell? ⟨g, 0, none⟩ = some (.int .i64 k) := by rw [cell_of_row W g 0 _ _ (0, 0) hg1]; rfl
 have c1 : W.cell? ⟨g, 1, none⟩ = some (.int .u64 (tag : Int)) := by rw [cell_of_row W g 1 _ _ (0, 0) hg1]; rfl
 have c2 : W.cell? ⟨g, 2, none⟩ = some (.string key) := by rw [cell_of_row W g 2 _ _ (0, 0) hg1]; rfl
 have c3 : W.cell? ⟨g, 3, none⟩ = some (.string after) := by rw [cell_of_row W g 3 _ _ (0, 0) hg1]; rfl
 have c4 : W.cell? ⟨g, 4, none⟩ = some (.int .i64 off) := by rw [cell_of_row W g 4 _ _ (0, 0) hg1]; rfl
 have c5 : W.cell? ⟨g, 5, none⟩ = some (.int .i64 num) := by rw [cell_of_row W g 5 _ _ (0, 0) hg1]; rfl
 have c6 : W.cell? ⟨g, 6, none⟩ = some (.int .i64 delim) := by rw [cell_of_row W g 6 _ _ (0, 0) hg1]; rfl
 have c7 : W.cell? ⟨g, 7, none⟩ = some (.slice A n c) := by rw [cell_of_row W g 7 _ _ (0, 0) hg1]; rfl
 have d0 : W.cell? ⟨g + 1, 0, none⟩ = some (.int .i64 k') := by rw [cell_of_row W (g + 1) 0 _ _ (0, 0) hg2]; rfl
 have d1 : W.cell? ⟨g + 1, 1, none⟩ = some (.int .u64 (tag' : Int)) := by rw [cell_of_row W (g + 1) 1 _ _ (0, 0) hg2]; rfl
 have d2 : W.cell? ⟨g + 1, 2, none⟩ = some (.string key') := by rw [cell_of_row W (g + 1) 2 _ _ (0, 0) hg2]; rfl
 have d3 : W.cell? ⟨g + 1, 3, none⟩ = some (.string after') := by rw [cell_of_row W (g + 1) 3 _ _ (0, 0) hg2]; rfl
 have d4 : W.cell? ⟨g + 1, 4, none⟩ = some (.int .i64 off') := by rw [cell_of_row W (g + 1) 4 _ _ (0, 0) hg2]; rfl
 have d5 : W.cell? ⟨g + 1, 5, none⟩ = some (.int .i64 num') := by rw [cell_of_row W (g + 1) 5 _ _ (0, 0) hg2]; rfl
 have d6 : W.cell? ⟨g + 1, 6, none⟩ = some (.int .i64 delim') := by rw [cell_of_row W (g + 1) 6 _ _ (0, 0) hg2]; rfl
 have d7 : W.cell? ⟨g + 1, 7, none⟩ = some (.slice A' n' c') := by rw [cell_of_row W (g + 1) 7 _ _ (0, 0) hg2]; rfl
 have HB := Hd.mk hb
 clear hW hg hb hg1 hg2 HH HSS
 go_wp2_with fail
 all_goals
  go_ret
  clear f1 f2
  refine ⟨ret_bool ?_, HB.out⟩
  go_light
  clear HB c0 c1 c2 c3 c4 c5 c6 c7 d0 d1 d2 d3 d4 d5 d6 d7
  rw [HE.out]
  clear HE
  first | (simp_all; done) | (rw [Bool.eq_iff_iff]; simp_all; done)
/-- The request with its counting fields alone. -/
def onlyP (R : Rq) : Rq :=
 ⟨R.kind, R.tag, if cKey R.kind = true then R.key else emS, if cAfter R.kind = true then R.after else emS, if cOff R.kind = true then R.off else 0, if cNum R.kind = true then R.num else 0, if cDelim R.kind = true then R.delim else 0, if cBody R.kind = true then R.body else []⟩
/-- What only answers. -/
def OnlyPost (w : World) (k : Int) (tag : Nat) (key after : ByteArray) (off num delim : Int) (A : Option Addr) (n c : Nat) (e : Ending) (w' : World) : Prop :=
 ∃ (key' after' : ByteArray) (off' num' delim' : Int) (A' : Option Addr) (n' c' : Nat), e = .returned (.agg #[.int .i64 k, .int .u64 (tag : Int), .string key', .string after', .int .i64 off', .int .i64 num', .int .i64 delim', .slice A' n' c']) ∧
  key' = (if cKey k = true then key else emS) ∧ after' = (if cAfter k = true then after else emS) ∧ off' = (if cOff k = true then off else 0) ∧ num' = (if cNum k = true then num else 0) ∧ delim' = (if cDelim k = true then delim else 0) ∧
  ((cBody k = true ∧ A' = A ∧ n' = n ∧ c' = c) ∨ (cBody k = false ∧ n' = 0)) ∧ Below w.heap.size w w'
end Go.Proofs.Ytbcmjjcbjojakaa
end
section
namespace Go.Proofs.Ytbcmjjcbjojakaa
open Go.RowKit
set_option linter.unusedVariables false
/-- An answer's value. -/
def anV (kind code : Int) (tag : Nat) (A A2 A3 : Option Addr) (n c n2 c2 n3 c3 : Nat) (next : ByteArray) (more : Bool) (ge gc size h1 h2 h3 h4 : Int) : Value :=
 .agg #[.int .i64 kind, .int .u64 (tag : Int), .int .i64 code, .slice A n c, .slice A2 n2 c2, .slice A3 n3 c3, .string next, .bool more, .int .i64 ge, .int .i64 gc, .int .i64 size, .int .i64 h1, .int .i64 h2, .int .i64 h3, .int .i64 h4]
def emptyP (b g k p h : Bool) (n n2 n3 : Nat) (next : ByteArray) (more : Bool) (ge gc size h1 h2 h3 h4 : Int) : Prop :=
 (b = false → n = 0) ∧ (g = false → ge = 0 ∧ gc = 0 ∧ size = 0) ∧ (k = false → n2 = 0) ∧ (p = false → n3 = 0 ∧ next = emS ∧ more = false) ∧ (h = false → h1 = 0 ∧ h2 = 0 ∧ h3 = 0 ∧ h4 = 0)
end Go.Proofs.Ytbcmjjcbjojakaa
end
section
namespace Go.Proofs.Ytbcmjjcbjojakaa
open Go.RowKit
set_option linter.unusedVariables false
/-- A truth is answered. -/
def BoolPost (p : Prop) (w : World) (e : Ending) (w' : World) : Prop := ∃ r : Bool, e = .returned (.bool r) ∧ (r = true ↔ p) ∧ Below w.heap.size w w'
end Go.Proofs.Ytbcmjjcbjojakaa
end
section
namespace Go.Proofs.Ytbcmjjcbjojakaa
section
variable {P : Program} {ops : Array Oper} {Q : Exit → Act → World → Prop} {md : Region.Mode} {S T : World → Prop}
end
end Go.Proofs.Ytbcmjjcbjojakaa
end
section
namespace Go.Proofs.Ytbcmjjcbjojakaa
open Go.RowKit
set_option linter.unusedVariables false
structure TS (w w' : World) (g : Nat) (xs : Array Value) : Prop where
 an : w'.heap[g]? = some (.cells xs 43)
 bel : Below w.heap.size w w'
structure TB (w w' : World) (g : Nat) (xs : Array Value) (v : Value) (L : List Nat) : Prop where
 sta : TS w w' g xs
 rd : ∃ A c, v = .slice A L.length c ∧ L.length ≤ c ∧ Rd w' w'.heap.size A L.length (cb L)
 own : w'.ownsRow w.heap.size 5 1 v L.length (cb L)
section
variable {w w1 w2 : World} {g : Nat} {xs : Array Value} {v v' : Value} {L X : List Nat}
end
/-- The numbers of an answer are of 64 bits. -/
structure AnB (a : An) : Prop where
 tag : a.tag < 18446744073709551616
 b : ∀ x ∈ a.body, x < 256
 n : ∀ v, v = a.ge ∨ v = a.gc ∨ v = a.size ∨ v = a.h1 ∨ v = a.h2 ∨ v = a.h3 ∨ v = a.h4 → -9223372036854775808 ≤ v ∧ v ≤ 9223372036854775807
/-- What both answer. -/
def TellPost (a : An) (w : World) (e : Ending) (w' : World) : Prop := ∃ v', e = .returned (.tuple #[v', .int .i64 (tellP a).2]) ∧ Onto w w' w.heap.size 5 (.slice none 0 0) v' (tellP a).1.length (cb (tellP a).1)
section
variable {a : An} {w w1 w' : World} {v : Value}
end
def heal4 (h1 h2 h3 h4 : Int) : List Int := [h1, h2, h3, h4]
/-! The content, kind by kind. -/
section
variable {tag : Nat} {code : Int} {body : List Nat} {keys groups : List ByteArray} {next : ByteArray} {more : Bool} {ge gc size h1 h2 h3 h4 : Int} {k : Int} {L0 : List Nat} (hL : fx 1 k.toNat ++ fx 8 tag ++ uv code.toNat = L0)
end
end Go.Proofs.Ytbcmjjcbjojakaa
end
