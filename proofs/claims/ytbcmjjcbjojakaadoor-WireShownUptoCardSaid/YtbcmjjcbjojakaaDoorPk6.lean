/- Put together of: MsgF RdrT RdrY SameRq TellA TellB HeldBy. -/
import Derived.Test.YtbcmjjcbjojakaaDoorPk5
import Derived.Test.YtbcmjjcbjojakaaDoorPk4
import Derived.Deep.CutRange
import Derived.Test.YtbcmjjcbjojakaaDoorPk3
import Derived.Deep.Light
import Derived.Deep.RegionHeld3
section
namespace Go.Proofs.YtbcmjjcbjojakaaDoor
open Go.RowKit
set_option linter.unusedVariables false
section
variable {bs : List Nat}
/-- A step of a reading that went well: what stands there is 'enc'. -/
structure Step (bs : List Nat) (s s' : Nat × Int) (enc : List Nat) : Prop where
  f : s.2 = 0
  le : s.1 ≤ bs.length → s'.1 ≤ bs.length
  cut : bs.take s'.1 = bs.take s.1 ++ enc
theorem step_of (bs : List Nat) {a a' : Nat} {enc : List Nat} (h : (bs.drop a).take (a' - a) = enc) (hle : a ≤ a') (hl : a ≤ bs.length → a' ≤ bs.length) : Step bs (a, 0) (a', 0) enc := by
  refine ⟨rfl, hl, ?_⟩
  have : a' = a + (a' - a) := by omega
  simp only
  rw [← h, this, List.take_add]
  simp
theorem Step.of_redo {α : Type} {o : Except Int (α × Nat)} {z v : α} {a a' : Nat} {f : Int} (h : redo o z a f = (v, a', 0)) (hne : ∀ e, o = .error e → e ≠ 0) : f = 0 ∧ o = .ok (v, a') := by
  unfold redo at h
  split at h
  · rename_i hf
    cases ho : o with
    | ok x => rw [ho] at h; simp only [Prod.mk.injEq] at h; obtain ⟨h1, h2, _⟩ := h; subst h1 h2; exact ⟨hf, rfl⟩
    | error e => rw [ho] at h; simp only [Prod.mk.injEq] at h; exact absurd h.2.2 (hne e ho)
  · rename_i hf
    simp only [Prod.mk.injEq] at h
    exact absurd h.2.2 hf
theorem Bad.ne {e : Int} (h : Bad e) : e ≠ 0 := by unfold Bad at h; omega
theorem Well.ne {α : Type} {at_ : Nat} {o : Except Int (α × Nat)} (h : Well bs at_ o) : ∀ e, o = .error e → e ≠ 0 := fun e he => by rw [he] at h; exact Bad.ne h
variable (hb : ∀ y ∈ bs, y < 256)
theorem rFix_form {k v : Nat} {s s' : Nat × Int} (hs : s.1 ≤ bs.length) (h : rFix bs k s = (v, s')) (h0 : s'.2 = 0) (hb : ∀ y ∈ bs, y < 256) : Step bs s s' (fx k v) ∧ v < 256 ^ k := by
  obtain ⟨a, f⟩ := s
  obtain ⟨a', f'⟩ := s'
  simp only at h0 hs; subst h0
  have hw := well_fix (bs := bs) k hs
  obtain ⟨rfl, ho⟩ := Step.of_redo h hw.ne
  rw [ho] at hw
  obtain ⟨h1, h2⟩ := fixF_form bs a k v a' hb ho
  refine ⟨step_of bs h1 h2 fun _ => hw.2, ?_⟩
  unfold fixF at ho
  split at ho
  · rename_i l a2 ht
    cases ho
    obtain ⟨e1, e2, e3, e4⟩ := takeF_form _ _ _ _ _ ht
    have := le256_lt l fun x hx => hb x (by rw [e1] at hx; exact List.mem_of_mem_drop (List.mem_of_mem_take hx))
    rwa [e4] at this
  · cases ho
theorem rNum_form {v : Nat} {s s' : Nat × Int} (hs : s.1 ≤ bs.length) (h : rNum bs s = (v, s')) (h0 : s'.2 = 0) (hb : ∀ y ∈ bs, y < 256) : Step bs s s' (uv v) ∧ v < 2 ^ 64 := by
  obtain ⟨a, f⟩ := s
  obtain ⟨a', f'⟩ := s'
  simp only at h0 hs; subst h0
  have hw := well_num (bs := bs) hb hs
  obtain ⟨rfl, ho⟩ := Step.of_redo h hw.ne
  rw [ho] at hw
  obtain ⟨h1, h2⟩ := numF_form bs a v a' hb ho
  exact ⟨step_of bs h1 (by omega) fun _ => hw.2, (numF_hi bs a v a' hb ho).1⟩
theorem blk_hi {most : Nat} {a a' : Nat} {l : List Nat} (h : blockF bs a most = .ok (l, a')) (hb : ∀ y ∈ bs, y < 256) : l.length ≤ most ∧ ∀ x ∈ l, x < 256 := by
  unfold blockF at h
  split at h
  · rename_i k a1 hn
    split at h
    · rename_i hk
      obtain ⟨e1, e2, e3, e4⟩ := takeF_form _ _ _ _ _ h
      exact ⟨by omega, fun x hx => hb x (by rw [e1] at hx; exact List.mem_of_mem_drop (List.mem_of_mem_take hx))⟩
    · cases h
  · cases h
theorem rBlk_form {l : List Nat} {most : Nat} {s s' : Nat × Int} (hs : s.1 ≤ bs.length) (h : rBlk bs (most : Int) s = (l, s')) (h0 : s'.2 = 0) (hb : ∀ y ∈ bs, y < 256) : Step bs s s' (blk l) ∧ l.length ≤ most ∧ ∀ x ∈ l, x < 256 := by
  obtain ⟨a, f⟩ := s
  obtain ⟨a', f'⟩ := s'
  simp only at h0 hs; subst h0
  have hw := well_blk (bs := bs) (most : Int) hb hs
  obtain ⟨rfl, ho⟩ := Step.of_redo h hw.ne
  rw [ho] at hw
  unfold blkF at ho
  rw [if_neg (by omega), Int.toNat_natCast] at ho
  obtain ⟨h1, h2⟩ := blockF_form bs a most a' l hb ho
  exact ⟨step_of bs h1 h2 fun _ => hw.2, blk_hi ho hb⟩
theorem rows_hi {each : Nat} (hb : ∀ y ∈ bs, y < 256) : ∀ (k a a' : Nat) (l : List (List Nat)), rowsF bs each k a = .ok (l, a') → l.length = k ∧ ∀ t ∈ l, t.length ≤ each ∧ ∀ x ∈ t, x < 256
  | 0, a, a', l, h => by cases h; simp
  | k + 1, a, a', l, h => by
    unfold rowsF at h
    split at h
    · cases h
    rename_i b a1 h1
    split at h
    · cases h
    rename_i l2 a2 h2
    cases h
    obtain ⟨e1, e2⟩ := rows_hi hb k a1 a' l2 h2
    refine ⟨by simp [e1], fun t ht => ?_⟩
    rcases List.mem_cons.1 ht with rfl | ht
    · exact blk_hi h1 hb
    · exact e2 t ht
theorem rTxt_form {l : List (List Nat)} {most each : Nat} {s s' : Nat × Int} (hs : s.1 ≤ bs.length) (h : rTxt bs (most : Int) (each : Int) s = (l, s')) (h0 : s'.2 = 0) (hb : ∀ y ∈ bs, y < 256) : Step bs s s' (txts l) ∧ l.length ≤ most ∧ ∀ t ∈ l, t.length ≤ each ∧ ∀ x ∈ t, x < 256 := by
  obtain ⟨a, f⟩ := s
  obtain ⟨a', f'⟩ := s'
  simp only at h0 hs; subst h0
  have hw := well_texts (bs := bs) (most : Int) (each : Int) hb hs
  obtain ⟨rfl, ho⟩ := Step.of_redo h hw.ne
  rw [ho] at hw
  obtain ⟨h1, h2⟩ := textsF_form bs a _ _ a' l hb ho
  refine ⟨step_of bs h1 h2 fun _ => hw.2, ?_⟩
  unfold textsF at ho
  rw [if_neg (by omega)] at ho
  split at ho
  · cases ho
  rename_i k a1 hn
  split at ho
  · rename_i hk
    obtain ⟨e1, e2⟩ := rows_hi hb k a1 a' l ho
    rw [Int.toNat_natCast] at e2 hk
    exact ⟨by omega, e2⟩
  · cases ho
/-- A step that is made or not. -/
theorem opt_form {α : Type} {b : Bool} {z v : α} {f : Nat × Int → α × Nat × Int} {s s' : Nat × Int} (h : opt b z f s = (v, s')) {enc : List Nat} (hf : b = true → f s = (v, s') → Step bs s s' enc) (h0 : s'.2 = 0) : Step bs s s' (if b = true then enc else []) ∧ (b = false → v = z) := by
  unfold opt at h
  cases b
  · simp only [Bool.false_eq_true, if_false, Prod.mk.injEq] at h ⊢
    obtain ⟨rfl, rfl⟩ := h
    exact ⟨⟨h0, id, by simp⟩, fun _ => rfl⟩
  · simp only [if_true] at h ⊢
    exact ⟨hf rfl h, fun h => by cases h⟩
end
/-! A reading stays within the bytes. -/
theorem redo_le {α : Type} {bs : List Nat} {o : Except Int (α × Nat)} (z : α) {a : Nat} (f : Int) (h : Well bs a o) (ha : a ≤ bs.length) : (redo o z a f).2.1 ≤ bs.length := by
  rcases redo_well z f h ha with ⟨_, e⟩ | ⟨_, _, _, e⟩ | ⟨_, _, _, _, e, _, h2⟩ <;> rw [e] <;> assumption
section
variable {bs : List Nat} {s : Nat × Int}
theorem rFix_le (k : Nat) (hs : s.1 ≤ bs.length) : (rFix bs k s).2.1 ≤ bs.length := redo_le _ _ (well_fix k hs) hs
theorem rNum_le (hb : ∀ y ∈ bs, y < 256) (hs : s.1 ≤ bs.length) : (rNum bs s).2.1 ≤ bs.length := redo_le _ _ (well_num hb hs) hs
theorem rBlk_le (most : Int) (hb : ∀ y ∈ bs, y < 256) (hs : s.1 ≤ bs.length) : (rBlk bs most s).2.1 ≤ bs.length := redo_le _ _ (well_blk most hb hs) hs
theorem rTxt_le (most each : Int) (hb : ∀ y ∈ bs, y < 256) (hs : s.1 ≤ bs.length) : (rTxt bs most each s).2.1 ≤ bs.length := redo_le _ _ (well_texts most each hb hs) hs
theorem opt_le {α : Type} (b : Bool) (z : α) {f : Nat × Int → α × Nat × Int} (hf : (f s).2.1 ≤ bs.length) (hs : s.1 ≤ bs.length) : (opt b z f s).2.1 ≤ bs.length := by
  unfold opt; cases b
  · exact hs
  · exact hf
end
theorem endF_ok {n a : Nat} {f : Int} (h : endF n a f = 0) : f = 0 ∧ n ≤ a := by
  unfold endF at h
  split at h
  · omega
  · split at h <;> omega
theorem ob {b : Bool} {α : Type} {x y : α} (h : b = false → x = y) (hb : ¬ b = true) : x = y := h (by simpa using hb)
theorem u64i {v : Nat} (h : v < 2 ^ 64) : -9223372036854775808 ≤ unz (v : Int) ∧ unz (v : Int) ≤ 9223372036854775807 := unz_bd _ (by omega) (by omega)
theorem uz_unz {v : Nat} : uz (unz (v : Int)) = uv v := by unfold uz; rw [zig_unz _ (by omega)]; rfl
theorem opt_uz {b : Bool} {v : Nat} (h : b = false → v = 0) : (if b = true then uz (unz (v : Int)) else []) = (if b = true then uv v else []) := by rw [uz_unz]
theorem opt_us {b : Bool} {l : List Nat} (h : ∀ x ∈ l, x < 256) : (if b = true then us (bstr l) else []) = (if b = true then blk l else []) := by rw [us_bstr l h]
theorem opt_lt {α : Type} {b : Bool} {z v : α} {f : Nat × Int → α × Nat × Int} {s s' : Nat × Int} (h : opt b z f s = (v, s')) {P : α → Prop} (hz : P z) (hf : b = true → f s = (v, s') → P v) : P v := by
  unfold opt at h
  cases b
  · simp only [Bool.false_eq_true, if_false, Prod.mk.injEq] at h; rw [← h.1]; exact hz
  · exact hf rfl h
theorem rdRq_form (bs : List Nat) (R : Rq) (hb : ∀ y ∈ bs, y < 256) (h : rdRq bs = some R) : bs = rqC R ∧ rqOk R ∧ rqFit R ∧ RqB R := by
  unfold rdRq at h
  simp only at h
  obtain ⟨v1, s1, h1⟩ : ∃ v s, rFix bs 1 (0, 0) = (v, s) := ⟨_, _, rfl⟩
  rw [h1] at h; simp only at h
  have p1 : s1.1 ≤ bs.length := by have := rFix_le (s := (0, 0)) (bs := bs) 1 (Nat.zero_le _); rwa [h1] at this
  obtain ⟨v2, s2, h2⟩ : ∃ v s, rFix bs 8 s1 = (v, s) := ⟨_, _, rfl⟩
  rw [h2] at h; simp only at h
  have p2 : s2.1 ≤ bs.length := by have := rFix_le (s := s1) (bs := bs) 8 p1; rwa [h2] at this
  obtain ⟨b3, hb3⟩ : ∃ b, cKey (v1 : Int) = b := ⟨_, rfl⟩
  obtain ⟨v3, s3, h3⟩ : ∃ v s, opt b3 [] (rBlk bs 1024) s2 = (v, s) := ⟨_, _, rfl⟩
  rw [hb3, h3] at h; simp only at h
  have p3 : s3.1 ≤ bs.length := by have := opt_le (bs := bs) b3 [] (f := rBlk bs 1024) (rBlk_le 1024 hb p2) p2; rwa [h3] at this
  obtain ⟨b4, hb4⟩ : ∃ b, cBody (v1 : Int) = b := ⟨_, rfl⟩
  obtain ⟨v4, s4, h4⟩ : ∃ v s, opt b4 [] (rBlk bs 1048576) s3 = (v, s) := ⟨_, _, rfl⟩
  rw [hb4, h4] at h; simp only at h
  have p4 : s4.1 ≤ bs.length := by have := opt_le (bs := bs) b4 [] (f := rBlk bs 1048576) (rBlk_le 1048576 hb p3) p3; rwa [h4] at this
  obtain ⟨b5, hb5⟩ : ∃ b, cAfter (v1 : Int) = b := ⟨_, rfl⟩
  obtain ⟨v5, s5, h5⟩ : ∃ v s, opt b5 [] (rBlk bs 1024) s4 = (v, s) := ⟨_, _, rfl⟩
  rw [hb5, h5] at h; simp only at h
  have p5 : s5.1 ≤ bs.length := by have := opt_le (bs := bs) b5 [] (f := rBlk bs 1024) (rBlk_le 1024 hb p4) p4; rwa [h5] at this
  obtain ⟨b6, hb6⟩ : ∃ b, cOff (v1 : Int) = b := ⟨_, rfl⟩
  obtain ⟨v6, s6, h6⟩ : ∃ v s, opt b6 0 (rNum bs) s5 = (v, s) := ⟨_, _, rfl⟩
  rw [hb6, h6] at h; simp only at h
  have p6 : s6.1 ≤ bs.length := by have := opt_le (bs := bs) b6 0 (f := rNum bs) (rNum_le hb p5) p5; rwa [h6] at this
  obtain ⟨b7, hb7⟩ : ∃ b, cDelim (v1 : Int) = b := ⟨_, rfl⟩
  obtain ⟨v7, s7, h7⟩ : ∃ v s, opt b7 0 (rNum bs) s6 = (v, s) := ⟨_, _, rfl⟩
  rw [hb7, h7] at h; simp only at h
  have p7 : s7.1 ≤ bs.length := by have := opt_le (bs := bs) b7 0 (f := rNum bs) (rNum_le hb p6) p6; rwa [h7] at this
  obtain ⟨b8, hb8⟩ : ∃ b, cNum (v1 : Int) = b := ⟨_, rfl⟩
  obtain ⟨v8, s8, h8⟩ : ∃ v s, opt b8 0 (rNum bs) s7 = (v, s) := ⟨_, _, rfl⟩
  rw [hb8, h8] at h; simp only at h
  have p8 : s8.1 ≤ bs.length := by have := opt_le (bs := bs) b8 0 (f := rNum bs) (rNum_le hb p7) p7; rwa [h8] at this
  split at h
  case isFalse => cases h
  rename_i hc
  obtain ⟨k1, k8, he⟩ := hc
  injection h with h
  subst h
  obtain ⟨f8, e8⟩ := endF_ok he
  have q8 := opt_form h8 (fun _ g => (rNum_form p7 g f8 hb).1) f8
  have q7 := opt_form h7 (fun _ g => (rNum_form p6 g q8.1.f hb).1) q8.1.f
  have q6 := opt_form h6 (fun _ g => (rNum_form p5 g q7.1.f hb).1) q7.1.f
  have q5 := opt_form h5 (fun _ g => (rBlk_form (most := 1024) p4 g q6.1.f hb).1) q6.1.f
  have q4 := opt_form h4 (fun _ g => (rBlk_form (most := 1048576) p3 g q5.1.f hb).1) q5.1.f
  have q3 := opt_form h3 (fun _ g => (rBlk_form (most := 1024) p2 g q4.1.f hb).1) q4.1.f
  have q2 := rFix_form p1 h2 q3.1.f hb
  have q1 := rFix_form (s := (0, 0)) (Nat.zero_le _) h1 q2.1.f hb
  have t3 := opt_lt h3 (P := fun l => l.length ≤ 1024 ∧ ∀ x ∈ l, x < 256) ⟨by simp, by simp⟩ (fun _ g => (rBlk_form (most := 1024) p2 g q4.1.f hb).2)
  have t4 := opt_lt h4 (P := fun l => l.length ≤ 1048576 ∧ ∀ x ∈ l, x < 256) ⟨by simp, by simp⟩ (fun _ g => (rBlk_form (most := 1048576) p3 g q5.1.f hb).2)
  have t5 := opt_lt h5 (P := fun l => l.length ≤ 1024 ∧ ∀ x ∈ l, x < 256) ⟨by simp, by simp⟩ (fun _ g => (rBlk_form (most := 1024) p4 g q6.1.f hb).2)
  have t6 := opt_lt h6 (P := fun v => v < 2 ^ 64) (by omega) (fun _ g => (rNum_form p5 g q7.1.f hb).2)
  have t7 := opt_lt h7 (P := fun v => v < 2 ^ 64) (by omega) (fun _ g => (rNum_form p6 g q8.1.f hb).2)
  have t8 := opt_lt h8 (P := fun v => v < 2 ^ 64) (by omega) (fun _ g => (rNum_form p7 g f8 hb).2)
  have z0 : unz ((0 : Nat) : Int) = 0 := by decide
  refine ⟨?_, ⟨k1, k8, ?_, ?_, ?_, ?_, ?_, ?_⟩, ⟨by simp only [bstr_size]; exact t3.1, by simp only [bstr_size]; exact t5.1, t4.1⟩, ⟨by have := q2.2; simp only; omega, (u64i t6).1, (u64i t6).2, (u64i t8).1, (u64i t8).2, (u64i t7).1, (u64i t7).2, t4.2⟩⟩
  · unfold rqC
    simp only [hb3, hb4, hb5, hb6, hb7, hb8, Int.toNat_natCast]
    rw [opt_us t3.2, opt_us t5.2, opt_uz q6.2, opt_uz q7.2, opt_uz q8.2]
    have c := q8.1.cut
    rw [List.take_of_length_le e8, q7.1.cut, q6.1.cut, q5.1.cut, q4.1.cut, q3.1.cut, q2.1.cut, q1.1.cut] at c
    simpa [ub, blk, List.append_assoc] using c
  · intro hh; simp only [hb3] at hh ⊢; rw [q3.2 hh, bstr_nil]
  · intro hh; simp only [hb4] at hh ⊢; rw [q4.2 hh]
  · intro hh; simp only [hb5] at hh ⊢; rw [q5.2 hh, bstr_nil]
  · intro hh; simp only [hb6] at hh ⊢; rw [q6.2 hh, z0]
  · intro hh; simp only [hb8] at hh ⊢; rw [q8.2 hh, z0]
  · intro hh; simp only [hb7] at hh ⊢; rw [q7.2 hh, z0]
end Go.Proofs.YtbcmjjcbjojakaaDoor
end
section
namespace Go.Proofs.YtbcmjjcbjojakaaDoor
open Go.RowKit
set_option linter.unusedVariables false
set_option maxRecDepth 20000
def KT (k : IntKind) (v : Value) (a : Nat) (_ : World) : Prop := v = .int k (a : Int)
theorem take_len_eq {bs l : List Nat} {at_ k a : Nat} (h : takeF bs at_ k = .ok (l, a)) : l.length = k := by
  unfold takeF at h
  split at h
  · cases h; rw [List.length_take, List.length_drop]; omega
  · cases h
theorem take_lb {bs l : List Nat} {at_ k a : Nat} (hb : ∀ x ∈ bs, x < 256) (h : takeF bs at_ k = .ok (l, a)) : ∀ x ∈ l, x < 256 := by
  unfold takeF at h
  split at h
  · cases h; intro x hx; exact hb x (List.mem_of_mem_drop (List.mem_of_mem_take hx))
  · cases h
theorem le_step (l : List Nat) (k : Nat) (hk : k < l.length) (h8 : k < 8) (hb : ∀ x ∈ l, x < 256) :
    bits .or .u64 ((le256 (l.take k) : Nat) : Int) (IntKind.u64.wrap (((l.getD k 0 : Nat) : Int) * 2 ^ (8 * k))) = ((le256 (l.take (k + 1)) : Nat) : Int) ∧ 0 ≤ ((l.getD k 0 : Nat) : Int) ∧ ((l.getD k 0 : Nat) : Int) ≤ 255 := by
  have hx : l.getD k 0 < 256 := by rw [List.getD_eq_getElem?_getD, List.getElem?_eq_getElem hk]; exact hb _ (List.getElem_mem hk)
  have hl : (l.take k).length = k := by rw [List.length_take]; omega
  have h1 := le256_lt (l.take k) fun y hy => hb y (List.mem_of_mem_take hy)
  rw [hl] at h1
  have hp : (256 : Nat) ^ k = 2 ^ (8 * k) := by rw [Nat.pow_mul]
  have e0 : l.take (k + 1) = l.take k ++ [l.getD k 0] := by rw [List.take_succ_eq_append_getElem hk, List.getD_eq_getElem?_getD, List.getElem?_eq_getElem hk]; rfl
  rw [e0, le256_snoc, hl]
  obtain ⟨x, hxe⟩ : ∃ x, l.getD k 0 = x := ⟨_, rfl⟩
  obtain ⟨v, hve⟩ : ∃ v, le256 (l.take k) = v := ⟨_, rfl⟩
  rw [hxe] at hx ⊢
  rw [hve] at h1 ⊢
  rw [hp] at h1 ⊢
  refine ⟨?_, by omega, by omega⟩
  have e2 : (x : Int) * 2 ^ (8 * k) = ((x * 2 ^ (8 * k) : Nat) : Int) := by push_cast; rfl
  have h56 : 2 ^ (8 * k) * 256 ≤ 18446744073709551616 := by
    rw [show (256 : Nat) = 2 ^ 8 by rfl, ← Nat.pow_add, show (18446744073709551616 : Nat) = 2 ^ 64 by rfl]
    exact Nat.pow_le_pow_right (by omega) (by omega)
  have h2 : x * 2 ^ (8 * k) ≤ 255 * 2 ^ (8 * k) := Nat.mul_le_mul_right _ (by omega)
  obtain ⟨y, hy⟩ : ∃ y, x * 2 ^ (8 * k) = y := ⟨_, rfl⟩
  rw [hy] at h2
  have e3 : IntKind.u64.wrap (y : Int) = (y : Int) := by rw [IntKind.wrap_u64]; omega
  rw [e2, hy, e3, u64_or_nat v y (by omega) (by omega)]
  rw [← hy, Nat.or_comm, ← Nat.shiftLeft_eq, ← Nat.shiftLeft_add_eq_or_of_lt h1, Nat.add_comm]
set_option maxHeartbeats 2000000 in
theorem takeC_uint8 (w : World) (gr pr pv n c at_ : Nat) (A : Option Addr) (bs : List Nat) (R : Rr w gr A n c at_ 0 bs) (C : Caps w gr pr pv) :
    Calls Tryd.prog 67 #[.pointer (some ⟨pr, 0, none⟩), .pointer (some ⟨pv, 0, none⟩)] w (Clo w gr pv n c A bs (KT .u8) (fixF bs at_ 1)) := by
  have HR : Hd (Rr w gr A n c at_ 0 bs ∧ Caps w gr pr pv) := ⟨R, C⟩
  have k1 := C.hr
  clear R C
  go_enter Tryd.func67, Tryd.ntmps67
  have WK : Hd (IntKind.u64.wrap 1 = 1) := ⟨by rw [IntKind.wrap_u64]; rfl⟩
  go_upto_region 1 with fail
  go_cut [2, 8, 9, 10] from 2 to 24 (fun t2 t8 t9 t10 wx => t2 = .int .u64 0 ∧ t9 = .int .i64 1 ∧ t10 = .int .i64 0 ∧ ∃ l a1, takeF bs at_ 1 = .ok (l, a1) ∧ ∃ A1 c1, t8 = .slice A1 1 c1 ∧ Chg [gr] w wx ∧ Rr wx gr A n c a1 0 bs ∧ Rd wx gr A1 1 (cb l))
  case first =>
    go_region_with (first
      | (go_at_call 38; refine (width_uint8 _).mono ?_; rintro e z ⟨rfl, rfl⟩)
      | (go_at_call 68; rw [WK.out]; refine (take_any _ gr n c at_ 1 1 A 0 bs HR.out.1.drew rfl).mono ?_; rintro e w1 ⟨hch, hy, hn⟩
         rcases hnum : takeF bs at_ 1 with ec | ⟨l, a1⟩
         · obtain ⟨he, at', hr⟩ := hn _ hnum
           unfold giveUp at he
           subst he
           exact ⟨rfl, Clo.no (by unfold fixF; rw [hnum]) hch.of_drew hr⟩
         obtain ⟨v, rfl, ⟨A1, c1, rfl, hrd, hc1⟩, hr⟩ := hy _ _ hnum
         rw [take_len_eq hnum] at hrd ⊢))
    all_goals
      go_wp2_with fail
      go_meet
      exact ⟨rfl, rfl, rfl, l, a1, hnum, A1, c1, rfl, hch.of_drew, hr, hrd⟩
  case rest =>
    obtain ⟨rfl, rfl, rfl, l, a1, hnum, A1, c1, rfl, hch, hr, hrd⟩ := hcut
    have H1 : Hd (Chg [gr] w wc ∧ Rr wc gr A n c a1 0 bs ∧ Caps wc gr pr pv ∧ fixF bs at_ 1 = .ok (le256 l, a1) ∧ Rd wc gr A1 1 (cb l) ∧ (∀ x ∈ l, x < 256) ∧ l.length = 1) :=
      ⟨hch, hr, HR.out.2.keep hch, by unfold fixF; rw [hnum], hrd, take_lb HR.out.1.lb hnum, take_len_eq hnum⟩
    clear hch hnum hr hrd
    go_wp2_with fail
    go_loopw [2, 10] (fun u i wr => ∃ k : Nat, k ≤ 1 ∧ i = .int .i64 k ∧ u = .int .u64 ((le256 (l.take k) : Nat) : Int) ∧ wr = wc) (fun _ i _ => 1 - (intOf i).toNat)
    case atStart => exact ⟨0, by omega, rfl, rfl, rfl⟩
    case round =>
      obtain ⟨k, hk, rfl, rfl, rfl⟩ := hrel
      by_cases hlt : k < 1
      · obtain ⟨g, off, u, hA, hg, hxx, hcell⟩ := H1.out.2.2.2.2.1.at_ hlt
        subst hA
        rw [cb_get l k (by rw [H1.out.2.2.2.2.2.2]; exact hlt)] at hxx
        injection hxx with hxx
        rw [← hxx] at hcell
        have HS := Hd.mk (le_step l k (by rw [H1.out.2.2.2.2.2.2]; exact hlt) (by omega) H1.out.2.2.2.2.2.1)
        obtain ⟨X, hX⟩ : ∃ X : Int, ((l.getD k 0 : Nat) : Int) = X := ⟨_, rfl⟩
        obtain ⟨V, hV⟩ : ∃ V : Int, ((le256 (l.take k) : Nat) : Int) = V := ⟨_, rfl⟩
        rw [hX, hV] at HS
        have x1 : 0 ≤ X := HS.out.2.1
        have x2 : X ≤ 255 := HS.out.2.2
        rw [hX] at hcell
        rw [hV]
        clear hX hV hxx
        go_wp2_with fail
        go_roundw
        case rel => exact ⟨k + 1, by omega, by go_num, by rw [← HS.out.1], by first | rfl | trivial⟩
        case measure => simp [intOf]; omega
      · have hk1 : k = 1 := by omega
        subst hk1
        have ht : l.take 1 = l := List.take_of_length_le (by rw [H1.out.2.2.2.2.2.2]; omega)
        rw [ht]
        have hb := le256_lt l H1.out.2.2.2.2.2.1
        rw [H1.out.2.2.2.2.2.2] at hb
        obtain ⟨V, hV⟩ : ∃ V : Int, ((le256 l : Nat) : Int) = V := ⟨_, rfl⟩
        have x1 : 0 ≤ V := by omega
        have x2 : V ≤ 255 := by omega
        have HV := Hd.mk hV
        rw [hV]
        clear hV hb ht
        obtain ⟨u, d1⟩ := H1.out.2.2.1.hv
        have d2 := H1.out.2.2.1.zv
        go_wp2_with fail
        go_end0
        refine Clo.yes (a := le256 l) (at' := a1) H1.out.2.2.2.1 ((H1.out.1.mono (by simp)).setCell (by simp) _) (H1.out.2.1.keep' ((Chg.refl [pv] _).setCell (by simp) _) (by have := HR.out.2.lt; simp; omega)) (World.cell?_setCell_same _ _ _ d1) (by rw [World.frozen?_setCell]; exact d2) (by rw [← HV.out]; rfl)
set_option maxHeartbeats 1000000 in
theorem take_uint8_any (w : World) (gr n c at_ : Nat) (fl : Int) (A : Option Addr) (bs : List Nat) (R : Rr w gr A n c at_ fl bs) :
    Calls Tryd.prog 58 #[.pointer (some ⟨gr, 0, none⟩)] w (Ans w gr n c A bs (KT .u8) (redo (fixF bs at_ 1) 0 at_ fl)) := by
  have hmf : ∀ (fn : Fn) (first cap : Array Value) (w : World), (Instr.makeFunc fn first cap).run Tryd.prog w = .ok (.func fn first cap) w := fun _ _ _ _ => rfl
  have HR := Hd.mk R
  clear R
  go_enter Tryd.func58, Tryd.ntmps58
  go_wp2_with fail
  have hch : Chg [] w ((w.alloc (.cells #[.pointer (some ⟨gr, 0, none⟩)] 86)).alloc (.cells #[.int .u8 0] 5)) := (((Chg.refl _ _).alloc _).alloc _)
  obtain ⟨W1, hW⟩ : ∃ W1, ((w.alloc (.cells #[.pointer (some ⟨gr, 0, none⟩)] 86)).alloc (.cells #[.int .u8 0] 5)) = W1 := ⟨_, rfl⟩
  have k1 : W1.cell? ⟨(w.heap.size + 1), 0, none⟩ = some (.int .u8 0) := by rw [← hW]; exact cell_new _ _ (by simp)
  have k2 : W1.cell? ⟨w.heap.size, 0, none⟩ = some (.pointer (some ⟨gr, 0, none⟩)) := by rw [← hW, World.cell?_alloc_lt _ _ _ (by simp; try omega)]; exact cell_new _ _ (by simp)
  have k3 : W1.heap.size = w.heap.size + 2 := by rw [← hW]; simp
  have k4 : W1.frozen? ⟨(w.heap.size + 1), 0, none⟩ = false := by rw [← hW]; exact frozen_new _ _ (by simp)
  rw [hW] at hch ⊢
  have HC : Hd (Caps W1 gr w.heap.size (w.heap.size + 1)) := ⟨⟨k2, ⟨_, k1⟩, k4, by have := HR.out.lt; omega⟩⟩
  have H1 : Hd (Chg [] w W1 ∧ Rr W1 gr A n c at_ fl bs ∧ W1.heap.size = w.heap.size + 2) := ⟨hch, HR.out.keep' hch (by simp), k3⟩
  clear hch hW
  refine (reading_all W1 gr (w.heap.size + 1) n c at_ fl A bs H1.out.2.1 (.int .u8 0) k1 k4 (by have := HR.out.lt; omega) (by omega) 67 (fun _ _ => rfl) _ (KT .u8) (fixF bs at_ 1) 0 (fun _ => rfl) ?_).mono ?_
  · intro h0 w2 h2
    have hR := H1.out.2.1.keep' h2 (by simp)
    rw [h0] at hR
    exact takeC_uint8 w2 gr w.heap.size (w.heap.size + 1) n c at_ A bs hR (HC.out.keep (h2.mono (by simp)))
  rintro e w2 ⟨rfl, ha⟩
  have HA := Hd.mk ha
  obtain ⟨v, c1, hk⟩ := ha.cell
  have c2 := ha.froz
  unfold KT at hk
  subst hk
  obtain ⟨X, hX⟩ : ∃ X : Int, ((redo (fixF bs at_ 1) 0 at_ fl).1 : Int) = X := ⟨_, rfl⟩
  have HX := Hd.mk hX
  rw [hX] at c1
  clear ha k1 k2 k3 k4
  clear hX
  go_wp2_with fail
  go_ret
  refine ⟨_, rfl, ?_, ?_, ?_⟩
  · exact Chg.pop (L := [gr]) ((H1.out.1.mono (by simp)).trans HA.out.ch) (by omega)
  · rw [← HX.out]; rfl
  · exact HA.out.rr
set_option maxHeartbeats 2000000 in
theorem takeC_uint64 (w : World) (gr pr pv n c at_ : Nat) (A : Option Addr) (bs : List Nat) (R : Rr w gr A n c at_ 0 bs) (C : Caps w gr pr pv) :
    Calls Tryd.prog 69 #[.pointer (some ⟨pr, 0, none⟩), .pointer (some ⟨pv, 0, none⟩)] w (Clo w gr pv n c A bs (KT .u64) (fixF bs at_ 8)) := by
  have HR : Hd (Rr w gr A n c at_ 0 bs ∧ Caps w gr pr pv) := ⟨R, C⟩
  have k1 := C.hr
  clear R C
  go_enter Tryd.func69, Tryd.ntmps69
  have WK : Hd (IntKind.u64.wrap 8 = 8) := ⟨by rw [IntKind.wrap_u64]; rfl⟩
  go_upto_region 1 with fail
  go_cut [2, 8, 9, 10] from 2 to 23 (fun t2 t8 t9 t10 wx => t2 = .int .u64 0 ∧ t9 = .int .i64 8 ∧ t10 = .int .i64 0 ∧ ∃ l a1, takeF bs at_ 8 = .ok (l, a1) ∧ ∃ A1 c1, t8 = .slice A1 8 c1 ∧ Chg [gr] w wx ∧ Rr wx gr A n c a1 0 bs ∧ Rd wx gr A1 8 (cb l))
  case first =>
    go_region_with (first
      | (go_at_call 37; refine (width_uint64 _).mono ?_; rintro e z ⟨rfl, rfl⟩)
      | (go_at_call 68; rw [WK.out]; refine (take_any _ gr n c at_ 8 8 A 0 bs HR.out.1.drew rfl).mono ?_; rintro e w1 ⟨hch, hy, hn⟩
         rcases hnum : takeF bs at_ 8 with ec | ⟨l, a1⟩
         · obtain ⟨he, at', hr⟩ := hn _ hnum
           unfold giveUp at he
           subst he
           exact ⟨rfl, Clo.no (by unfold fixF; rw [hnum]) hch.of_drew hr⟩
         obtain ⟨v, rfl, ⟨A1, c1, rfl, hrd, hc1⟩, hr⟩ := hy _ _ hnum
         rw [take_len_eq hnum] at hrd ⊢))
    all_goals
      go_wp2_with fail
      go_meet
      exact ⟨rfl, rfl, rfl, l, a1, hnum, A1, c1, rfl, hch.of_drew, hr, hrd⟩
  case rest =>
    obtain ⟨rfl, rfl, rfl, l, a1, hnum, A1, c1, rfl, hch, hr, hrd⟩ := hcut
    have H1 : Hd (Chg [gr] w wc ∧ Rr wc gr A n c a1 0 bs ∧ Caps wc gr pr pv ∧ fixF bs at_ 8 = .ok (le256 l, a1) ∧ Rd wc gr A1 8 (cb l) ∧ (∀ x ∈ l, x < 256) ∧ l.length = 8) :=
      ⟨hch, hr, HR.out.2.keep hch, by unfold fixF; rw [hnum], hrd, take_lb HR.out.1.lb hnum, take_len_eq hnum⟩
    clear hch hnum hr hrd
    go_wp2_with fail
    go_loopw [2, 10] (fun u i wr => ∃ k : Nat, k ≤ 8 ∧ i = .int .i64 k ∧ u = .int .u64 ((le256 (l.take k) : Nat) : Int) ∧ wr = wc) (fun _ i _ => 8 - (intOf i).toNat)
    case atStart => exact ⟨0, by omega, rfl, rfl, rfl⟩
    case round =>
      obtain ⟨k, hk, rfl, rfl, rfl⟩ := hrel
      by_cases hlt : k < 8
      · obtain ⟨g, off, u, hA, hg, hxx, hcell⟩ := H1.out.2.2.2.2.1.at_ hlt
        subst hA
        rw [cb_get l k (by rw [H1.out.2.2.2.2.2.2]; exact hlt)] at hxx
        injection hxx with hxx
        rw [← hxx] at hcell
        have HS := Hd.mk (le_step l k (by rw [H1.out.2.2.2.2.2.2]; exact hlt) (by omega) H1.out.2.2.2.2.2.1)
        obtain ⟨X, hX⟩ : ∃ X : Int, ((l.getD k 0 : Nat) : Int) = X := ⟨_, rfl⟩
        obtain ⟨V, hV⟩ : ∃ V : Int, ((le256 (l.take k) : Nat) : Int) = V := ⟨_, rfl⟩
        rw [hX, hV] at HS
        have x1 : 0 ≤ X := HS.out.2.1
        have x2 : X ≤ 255 := HS.out.2.2
        rw [hX] at hcell
        rw [hV]
        clear hX hV hxx
        go_wp2_with fail
        go_roundw
        case rel => exact ⟨k + 1, by omega, by go_num, by rw [← HS.out.1], by first | rfl | trivial⟩
        case measure => simp [intOf]; omega
      · have hk1 : k = 8 := by omega
        subst hk1
        have ht : l.take 8 = l := List.take_of_length_le (by rw [H1.out.2.2.2.2.2.2]; omega)
        rw [ht]
        have hb := le256_lt l H1.out.2.2.2.2.2.1
        rw [H1.out.2.2.2.2.2.2] at hb
        obtain ⟨V, hV⟩ : ∃ V : Int, ((le256 l : Nat) : Int) = V := ⟨_, rfl⟩
        have x1 : 0 ≤ V := by omega
        have x2 : V ≤ 18446744073709551615 := by omega
        have HV := Hd.mk hV
        rw [hV]
        clear hV hb ht
        obtain ⟨u, d1⟩ := H1.out.2.2.1.hv
        have d2 := H1.out.2.2.1.zv
        go_wp2_with fail
        go_end0
        refine Clo.yes (a := le256 l) (at' := a1) H1.out.2.2.2.1 ((H1.out.1.mono (by simp)).setCell (by simp) _) (H1.out.2.1.keep' ((Chg.refl [pv] _).setCell (by simp) _) (by have := HR.out.2.lt; simp; omega)) (World.cell?_setCell_same _ _ _ d1) (by rw [World.frozen?_setCell]; exact d2) (by rw [← HV.out]; rfl)
set_option maxHeartbeats 1000000 in
theorem take_uint64_any (w : World) (gr n c at_ : Nat) (fl : Int) (A : Option Addr) (bs : List Nat) (R : Rr w gr A n c at_ fl bs) :
    Calls Tryd.prog 59 #[.pointer (some ⟨gr, 0, none⟩)] w (Ans w gr n c A bs (KT .u64) (redo (fixF bs at_ 8) 0 at_ fl)) := by
  have hmf : ∀ (fn : Fn) (first cap : Array Value) (w : World), (Instr.makeFunc fn first cap).run Tryd.prog w = .ok (.func fn first cap) w := fun _ _ _ _ => rfl
  have HR := Hd.mk R
  clear R
  go_enter Tryd.func59, Tryd.ntmps59
  go_wp2_with fail
  have hch : Chg [] w ((w.alloc (.cells #[.pointer (some ⟨gr, 0, none⟩)] 86)).alloc (.cells #[.int .u64 0] 32)) := (((Chg.refl _ _).alloc _).alloc _)
  obtain ⟨W1, hW⟩ : ∃ W1, ((w.alloc (.cells #[.pointer (some ⟨gr, 0, none⟩)] 86)).alloc (.cells #[.int .u64 0] 32)) = W1 := ⟨_, rfl⟩
  have k1 : W1.cell? ⟨(w.heap.size + 1), 0, none⟩ = some (.int .u64 0) := by rw [← hW]; exact cell_new _ _ (by simp)
  have k2 : W1.cell? ⟨w.heap.size, 0, none⟩ = some (.pointer (some ⟨gr, 0, none⟩)) := by rw [← hW, World.cell?_alloc_lt _ _ _ (by simp; try omega)]; exact cell_new _ _ (by simp)
  have k3 : W1.heap.size = w.heap.size + 2 := by rw [← hW]; simp
  have k4 : W1.frozen? ⟨(w.heap.size + 1), 0, none⟩ = false := by rw [← hW]; exact frozen_new _ _ (by simp)
  rw [hW] at hch ⊢
  have HC : Hd (Caps W1 gr w.heap.size (w.heap.size + 1)) := ⟨⟨k2, ⟨_, k1⟩, k4, by have := HR.out.lt; omega⟩⟩
  have H1 : Hd (Chg [] w W1 ∧ Rr W1 gr A n c at_ fl bs ∧ W1.heap.size = w.heap.size + 2) := ⟨hch, HR.out.keep' hch (by simp), k3⟩
  clear hch hW
  refine (reading_all W1 gr (w.heap.size + 1) n c at_ fl A bs H1.out.2.1 (.int .u64 0) k1 k4 (by have := HR.out.lt; omega) (by omega) 69 (fun _ _ => rfl) _ (KT .u64) (fixF bs at_ 8) 0 (fun _ => rfl) ?_).mono ?_
  · intro h0 w2 h2
    have hR := H1.out.2.1.keep' h2 (by simp)
    rw [h0] at hR
    exact takeC_uint64 w2 gr w.heap.size (w.heap.size + 1) n c at_ A bs hR (HC.out.keep (h2.mono (by simp)))
  rintro e w2 ⟨rfl, ha⟩
  have HA := Hd.mk ha
  obtain ⟨v, c1, hk⟩ := ha.cell
  have c2 := ha.froz
  unfold KT at hk
  subst hk
  obtain ⟨X, hX⟩ : ∃ X : Int, ((redo (fixF bs at_ 8) 0 at_ fl).1 : Int) = X := ⟨_, rfl⟩
  have HX := Hd.mk hX
  rw [hX] at c1
  clear ha k1 k2 k3 k4
  clear hX
  go_wp2_with fail
  go_ret
  refine ⟨_, rfl, ?_, ?_, ?_⟩
  · exact Chg.pop (L := [gr]) ((H1.out.1.mono (by simp)).trans HA.out.ch) (by omega)
  · rw [← HX.out]; rfl
  · exact HA.out.rr
end Go.Proofs.YtbcmjjcbjojakaaDoor
end
section
namespace Go.Proofs.YtbcmjjcbjojakaaDoor
open Go.RowKit
set_option linter.unusedVariables false
set_option maxRecDepth 20000
set_option maxHeartbeats 1000000 in
theorem texts_any (w : World) (gr n c at_ : Nat) (fl : Int) (A : Option Addr) (bs : List Nat) (x : Int) (y : Int) (hx : -9223372036854775808 ≤ x ∧ x ≤ 9223372036854775807) (hy : -9223372036854775808 ≤ y ∧ y ≤ 9223372036854775807) (R : Rr w gr A n c at_ fl bs) :
    Calls Tryd.prog 64 #[.pointer (some ⟨gr, 0, none⟩), .int .i64 x, .int .i64 y] w (Ans w gr n c A bs (KTxt w.heap.size) (redo (textsF bs at_ x y) [] at_ fl)) := by
  have hmf : ∀ (fn : Fn) (first cap : Array Value) (w : World), (Instr.makeFunc fn first cap).run Tryd.prog w = .ok (.func fn first cap) w := fun _ _ _ _ => rfl
  have HR := Hd.mk R
  clear R
  go_enter Tryd.func64, Tryd.ntmps64
  go_wp2_with fail
  have hch : Chg [] w ((((w.alloc (.cells #[.pointer (some ⟨gr, 0, none⟩)] 86)).alloc (.cells #[.int .i64 x] 3)).alloc (.cells #[.int .i64 y] 3)).alloc (.cells #[.slice none 0 0] 88)) := (((((Chg.refl _ _).alloc _).alloc _).alloc _).alloc _)
  obtain ⟨W1, hW⟩ : ∃ W1, ((((w.alloc (.cells #[.pointer (some ⟨gr, 0, none⟩)] 86)).alloc (.cells #[.int .i64 x] 3)).alloc (.cells #[.int .i64 y] 3)).alloc (.cells #[.slice none 0 0] 88)) = W1 := ⟨_, rfl⟩
  have k1 : W1.cell? ⟨(w.heap.size + 3), 0, none⟩ = some (.slice none 0 0) := by rw [← hW]; exact cell_new _ _ (by simp)
  have k2 : W1.cell? ⟨w.heap.size, 0, none⟩ = some (.pointer (some ⟨gr, 0, none⟩)) := by rw [← hW, World.cell?_alloc_lt _ _ _ (by simp; try omega), World.cell?_alloc_lt _ _ _ (by simp; try omega), World.cell?_alloc_lt _ _ _ (by simp; try omega)]; exact cell_new _ _ (by simp)
  have k3 : W1.heap.size = w.heap.size + 4 := by rw [← hW]; simp
  have k4 : W1.frozen? ⟨(w.heap.size + 3), 0, none⟩ = false := by rw [← hW]; exact frozen_new _ _ (by simp)
  have i0 : W1.cell? ⟨w.heap.size + 1, 0, none⟩ = some (.int .i64 x) := by rw [← hW, World.cell?_alloc_lt _ _ _ (by simp; try omega), World.cell?_alloc_lt _ _ _ (by simp; try omega)]; exact cell_new _ _ (by simp)
  have i1 : W1.cell? ⟨w.heap.size + 2, 0, none⟩ = some (.int .i64 y) := by rw [← hW, World.cell?_alloc_lt _ _ _ (by simp; try omega)]; exact cell_new _ _ (by simp)
  rw [hW] at hch ⊢
  have HC : Hd (Caps W1 gr w.heap.size (w.heap.size + 3)) := ⟨⟨k2, ⟨_, k1⟩, k4, by have := HR.out.lt; omega⟩⟩
  have H1 : Hd (Chg [] w W1 ∧ Rr W1 gr A n c at_ fl bs ∧ W1.heap.size = w.heap.size + 4) := ⟨hch, HR.out.keep' hch (by simp), k3⟩
  clear hch hW
  refine (reading_all W1 gr (w.heap.size + 3) n c at_ fl A bs H1.out.2.1 (.slice none 0 0) k1 k4 (by have := HR.out.lt; omega) (by omega) 79 (fun _ _ => rfl) _ (KTxt (w.heap.size + 3 + 1)) (textsF bs at_ x y) [] (fun _ => KTxt.nil _ _) ?_).mono ?_
  · intro h0 w2 h2
    have hR := H1.out.2.1.keep' h2 (by simp)
    rw [h0] at hR
    exact textsC_any w2 gr w.heap.size (w.heap.size + 3) (w.heap.size + 1) (w.heap.size + 2) n c at_ A bs x y hx hy hR (HC.out.keep (h2.mono (by simp))) ((h2.cell (p := ⟨w.heap.size + 1, 0, none⟩) (by show w.heap.size + 1 < _; omega) (by simp)).trans i0) (by have := HR.out.lt; have := h2.size; omega) ((h2.cell (p := ⟨w.heap.size + 2, 0, none⟩) (by show w.heap.size + 2 < _; omega) (by simp)).trans i1) (by have := HR.out.lt; have := h2.size; omega)
  rintro e w2 ⟨rfl, ha⟩
  have HA := Hd.mk ha
  obtain ⟨v, c1, hk⟩ := ha.cell
  have c2 := ha.froz
  unfold KTxt at hk
  obtain ⟨A2, c3, rfl, _, _⟩ := own_form hk
  have HK := Hd.mk hk
  obtain ⟨L, hL⟩ : ∃ L, (redo (textsF bs at_ x y) [] at_ fl).1.length = L := ⟨_, rfl⟩
  have HL := Hd.mk hL
  rw [hL] at c1
  clear ha k1 k2 k3 k4 i0 i1
  clear hL hk
  go_wp2_with fail
  have c4 := World.cell?_setCell_same (v := .slice A2 L c3) w2 ⟨w.heap.size + 3, 0, none⟩ c1
  refine bodyPost_ret (v := .slice A2 L c3) (by simp [results, Tryd.results64, go_sem, c4]) rfl ?_
  refine ⟨_, rfl, ?_, ?_, ?_⟩
  · exact Chg.pop (L := [gr]) (((H1.out.1.mono (by simp)).trans HA.out.ch).setCell (by simp) _) (by omega)
  · have := HK.out; rw [HL.out] at this; unfold KTxt; rw [HL.out]; exact own_base (ownsRow_setCell_below this (a := ⟨w.heap.size + 3, 0, none⟩) (Nat.lt_succ_self _) _) (by omega)
  · exact HA.out.rr.keep' ((Chg.refl [w.heap.size + 3] w2).setCell (by simp) _) (by have := HR.out.lt; simp; omega)
theorem uvarint_nil (w : World) : Calls Tryd.prog 60 #[.pointer none] w fun e w' => e = .returned (.int .u64 0) ∧ Chg [] w w' := by
  have hmf : ∀ (fn : Fn) (first cap : Array Value) (w : World), (Instr.makeFunc fn first cap).run Tryd.prog w = .ok (.func fn first cap) w := fun _ _ _ _ => rfl
  go_enter Tryd.func60, Tryd.ntmps60
  go_wp2_with fail
  have hch : Chg [] w ((w.alloc (.cells #[.pointer none] 86)).alloc (.cells #[.int .u64 0] 32)) := (((Chg.refl _ _).alloc _).alloc _)
  obtain ⟨W1, hW⟩ : ∃ W1, ((w.alloc (.cells #[.pointer none] 86)).alloc (.cells #[.int .u64 0] 32)) = W1 := ⟨_, rfl⟩
  have k1 : W1.cell? ⟨(w.heap.size + 1), 0, none⟩ = some (.int .u64 0) := by rw [← hW]; exact cell_new _ _ (by simp)
  have k3 : W1.heap.size = w.heap.size + 2 := by rw [← hW]; simp
  have k4 : W1.frozen? ⟨(w.heap.size + 1), 0, none⟩ = false := by rw [← hW]; exact frozen_new _ _ (by simp)
  rw [hW] at hch ⊢
  have HC := Hd.mk hch
  clear hch hW
  refine (reading_nil W1 _).mono ?_
  rintro e w2 ⟨rfl, h2⟩
  have c1 := (h2.cell (p := ⟨(w.heap.size + 1), 0, none⟩) (by show (w.heap.size + 1) < _; omega) (by simp)).trans k1
  have c2 := (h2.frozen (p := ⟨(w.heap.size + 1), 0, none⟩) (by show (w.heap.size + 1) < _; omega) (by simp)).trans k4
  have H2 := Hd.mk (HC.out.trans h2)
  clear h2 k1 k3 k4
  go_wp2_with fail
  have c3 := World.cell?_setCell_same (v := .int .u64 0) w2 ⟨(w.heap.size + 1), 0, none⟩ c1
  refine bodyPost_ret (v := .int .u64 0) (by simp [results, Tryd.results60, go_sem, c3]) rfl ?_
  exact ⟨rfl, H2.out.setNew (p := ⟨(w.heap.size + 1), 0, none⟩) (by show w.heap.size ≤ (w.heap.size + 1); omega) _⟩
theorem varint_nil (w : World) : Calls Tryd.prog 61 #[.pointer none] w fun e w' => e = .returned (.int .i64 0) ∧ Chg [] w w' := by
  have hmf : ∀ (fn : Fn) (first cap : Array Value) (w : World), (Instr.makeFunc fn first cap).run Tryd.prog w = .ok (.func fn first cap) w := fun _ _ _ _ => rfl
  go_enter Tryd.func61, Tryd.ntmps61
  go_wp2_with fail
  have hch : Chg [] w ((w.alloc (.cells #[.pointer none] 86)).alloc (.cells #[.int .i64 0] 2)) := (((Chg.refl _ _).alloc _).alloc _)
  obtain ⟨W1, hW⟩ : ∃ W1, ((w.alloc (.cells #[.pointer none] 86)).alloc (.cells #[.int .i64 0] 2)) = W1 := ⟨_, rfl⟩
  have k1 : W1.cell? ⟨(w.heap.size + 1), 0, none⟩ = some (.int .i64 0) := by rw [← hW]; exact cell_new _ _ (by simp)
  have k3 : W1.heap.size = w.heap.size + 2 := by rw [← hW]; simp
  have k4 : W1.frozen? ⟨(w.heap.size + 1), 0, none⟩ = false := by rw [← hW]; exact frozen_new _ _ (by simp)
  rw [hW] at hch ⊢
  have HC := Hd.mk hch
  clear hch hW
  refine (reading_nil W1 _).mono ?_
  rintro e w2 ⟨rfl, h2⟩
  have c1 := (h2.cell (p := ⟨(w.heap.size + 1), 0, none⟩) (by show (w.heap.size + 1) < _; omega) (by simp)).trans k1
  have c2 := (h2.frozen (p := ⟨(w.heap.size + 1), 0, none⟩) (by show (w.heap.size + 1) < _; omega) (by simp)).trans k4
  have H2 := Hd.mk (HC.out.trans h2)
  clear h2 k1 k3 k4
  go_wp2_with fail
  have c3 := World.cell?_setCell_same (v := .int .i64 0) w2 ⟨(w.heap.size + 1), 0, none⟩ c1
  refine bodyPost_ret (v := .int .i64 0) (by simp [results, Tryd.results61, go_sem, c3]) rfl ?_
  exact ⟨rfl, H2.out.setNew (p := ⟨(w.heap.size + 1), 0, none⟩) (by show w.heap.size ≤ (w.heap.size + 1); omega) _⟩
theorem blk_nil (w : World) (x : Int) : Calls Tryd.prog 63 #[.pointer none, .int .i64 x] w fun e w' => e = .returned (.slice none 0 0) ∧ Chg [] w w' := by
  have hmf : ∀ (fn : Fn) (first cap : Array Value) (w : World), (Instr.makeFunc fn first cap).run Tryd.prog w = .ok (.func fn first cap) w := fun _ _ _ _ => rfl
  go_enter Tryd.func63, Tryd.ntmps63
  go_wp2_with fail
  have hch : Chg [] w (((w.alloc (.cells #[.pointer none] 86)).alloc (.cells #[.int .i64 x] 3)).alloc (.cells #[.slice none 0 0] 28)) := ((((Chg.refl _ _).alloc _).alloc _).alloc _)
  obtain ⟨W1, hW⟩ : ∃ W1, (((w.alloc (.cells #[.pointer none] 86)).alloc (.cells #[.int .i64 x] 3)).alloc (.cells #[.slice none 0 0] 28)) = W1 := ⟨_, rfl⟩
  have k1 : W1.cell? ⟨(w.heap.size + 2), 0, none⟩ = some (.slice none 0 0) := by rw [← hW]; exact cell_new _ _ (by simp)
  have k3 : W1.heap.size = w.heap.size + 3 := by rw [← hW]; simp
  have k4 : W1.frozen? ⟨(w.heap.size + 2), 0, none⟩ = false := by rw [← hW]; exact frozen_new _ _ (by simp)
  rw [hW] at hch ⊢
  have HC := Hd.mk hch
  clear hch hW
  refine (reading_nil W1 _).mono ?_
  rintro e w2 ⟨rfl, h2⟩
  have c1 := (h2.cell (p := ⟨(w.heap.size + 2), 0, none⟩) (by show (w.heap.size + 2) < _; omega) (by simp)).trans k1
  have c2 := (h2.frozen (p := ⟨(w.heap.size + 2), 0, none⟩) (by show (w.heap.size + 2) < _; omega) (by simp)).trans k4
  have H2 := Hd.mk (HC.out.trans h2)
  clear h2 k1 k3 k4
  go_wp2_with fail
  have c3 := World.cell?_setCell_same (v := .slice none 0 0) w2 ⟨(w.heap.size + 2), 0, none⟩ c1
  refine bodyPost_ret (v := .slice none 0 0) (by simp [results, Tryd.results63, go_sem, c3]) rfl ?_
  exact ⟨rfl, H2.out.setNew (p := ⟨(w.heap.size + 2), 0, none⟩) (by show w.heap.size ≤ (w.heap.size + 2); omega) _⟩
theorem texts_nil (w : World) (x : Int) (y : Int) : Calls Tryd.prog 64 #[.pointer none, .int .i64 x, .int .i64 y] w fun e w' => e = .returned (.slice none 0 0) ∧ Chg [] w w' := by
  have hmf : ∀ (fn : Fn) (first cap : Array Value) (w : World), (Instr.makeFunc fn first cap).run Tryd.prog w = .ok (.func fn first cap) w := fun _ _ _ _ => rfl
  go_enter Tryd.func64, Tryd.ntmps64
  go_wp2_with fail
  have hch : Chg [] w ((((w.alloc (.cells #[.pointer none] 86)).alloc (.cells #[.int .i64 x] 3)).alloc (.cells #[.int .i64 y] 3)).alloc (.cells #[.slice none 0 0] 88)) := (((((Chg.refl _ _).alloc _).alloc _).alloc _).alloc _)
  obtain ⟨W1, hW⟩ : ∃ W1, ((((w.alloc (.cells #[.pointer none] 86)).alloc (.cells #[.int .i64 x] 3)).alloc (.cells #[.int .i64 y] 3)).alloc (.cells #[.slice none 0 0] 88)) = W1 := ⟨_, rfl⟩
  have k1 : W1.cell? ⟨(w.heap.size + 3), 0, none⟩ = some (.slice none 0 0) := by rw [← hW]; exact cell_new _ _ (by simp)
  have k3 : W1.heap.size = w.heap.size + 4 := by rw [← hW]; simp
  have k4 : W1.frozen? ⟨(w.heap.size + 3), 0, none⟩ = false := by rw [← hW]; exact frozen_new _ _ (by simp)
  rw [hW] at hch ⊢
  have HC := Hd.mk hch
  clear hch hW
  refine (reading_nil W1 _).mono ?_
  rintro e w2 ⟨rfl, h2⟩
  have c1 := (h2.cell (p := ⟨(w.heap.size + 3), 0, none⟩) (by show (w.heap.size + 3) < _; omega) (by simp)).trans k1
  have c2 := (h2.frozen (p := ⟨(w.heap.size + 3), 0, none⟩) (by show (w.heap.size + 3) < _; omega) (by simp)).trans k4
  have H2 := Hd.mk (HC.out.trans h2)
  clear h2 k1 k3 k4
  go_wp2_with fail
  have c3 := World.cell?_setCell_same (v := .slice none 0 0) w2 ⟨(w.heap.size + 3), 0, none⟩ c1
  refine bodyPost_ret (v := .slice none 0 0) (by simp [results, Tryd.results64, go_sem, c3]) rfl ?_
  exact ⟨rfl, H2.out.setNew (p := ⟨(w.heap.size + 3), 0, none⟩) (by show w.heap.size ≤ (w.heap.size + 3); omega) _⟩
theorem take_uint8_nil (w : World) : Calls Tryd.prog 58 #[.pointer none] w fun e w' => e = .returned (.int .u8 0) ∧ Chg [] w w' := by
  have hmf : ∀ (fn : Fn) (first cap : Array Value) (w : World), (Instr.makeFunc fn first cap).run Tryd.prog w = .ok (.func fn first cap) w := fun _ _ _ _ => rfl
  go_enter Tryd.func58, Tryd.ntmps58
  go_wp2_with fail
  have hch : Chg [] w ((w.alloc (.cells #[.pointer none] 86)).alloc (.cells #[.int .u8 0] 5)) := (((Chg.refl _ _).alloc _).alloc _)
  obtain ⟨W1, hW⟩ : ∃ W1, ((w.alloc (.cells #[.pointer none] 86)).alloc (.cells #[.int .u8 0] 5)) = W1 := ⟨_, rfl⟩
  have k1 : W1.cell? ⟨(w.heap.size + 1), 0, none⟩ = some (.int .u8 0) := by rw [← hW]; exact cell_new _ _ (by simp)
  have k3 : W1.heap.size = w.heap.size + 2 := by rw [← hW]; simp
  have k4 : W1.frozen? ⟨(w.heap.size + 1), 0, none⟩ = false := by rw [← hW]; exact frozen_new _ _ (by simp)
  rw [hW] at hch ⊢
  have HC := Hd.mk hch
  clear hch hW
  refine (reading_nil W1 _).mono ?_
  rintro e w2 ⟨rfl, h2⟩
  have c1 := (h2.cell (p := ⟨(w.heap.size + 1), 0, none⟩) (by show (w.heap.size + 1) < _; omega) (by simp)).trans k1
  have c2 := (h2.frozen (p := ⟨(w.heap.size + 1), 0, none⟩) (by show (w.heap.size + 1) < _; omega) (by simp)).trans k4
  have H2 := Hd.mk (HC.out.trans h2)
  clear h2 k1 k3 k4
  go_wp2_with fail
  go_ret
  exact ⟨rfl, H2.out⟩
theorem take_uint64_nil (w : World) : Calls Tryd.prog 59 #[.pointer none] w fun e w' => e = .returned (.int .u64 0) ∧ Chg [] w w' := by
  have hmf : ∀ (fn : Fn) (first cap : Array Value) (w : World), (Instr.makeFunc fn first cap).run Tryd.prog w = .ok (.func fn first cap) w := fun _ _ _ _ => rfl
  go_enter Tryd.func59, Tryd.ntmps59
  go_wp2_with fail
  have hch : Chg [] w ((w.alloc (.cells #[.pointer none] 86)).alloc (.cells #[.int .u64 0] 32)) := (((Chg.refl _ _).alloc _).alloc _)
  obtain ⟨W1, hW⟩ : ∃ W1, ((w.alloc (.cells #[.pointer none] 86)).alloc (.cells #[.int .u64 0] 32)) = W1 := ⟨_, rfl⟩
  have k1 : W1.cell? ⟨(w.heap.size + 1), 0, none⟩ = some (.int .u64 0) := by rw [← hW]; exact cell_new _ _ (by simp)
  have k3 : W1.heap.size = w.heap.size + 2 := by rw [← hW]; simp
  have k4 : W1.frozen? ⟨(w.heap.size + 1), 0, none⟩ = false := by rw [← hW]; exact frozen_new _ _ (by simp)
  rw [hW] at hch ⊢
  have HC := Hd.mk hch
  clear hch hW
  refine (reading_nil W1 _).mono ?_
  rintro e w2 ⟨rfl, h2⟩
  have c1 := (h2.cell (p := ⟨(w.heap.size + 1), 0, none⟩) (by show (w.heap.size + 1) < _; omega) (by simp)).trans k1
  have c2 := (h2.frozen (p := ⟨(w.heap.size + 1), 0, none⟩) (by show (w.heap.size + 1) < _; omega) (by simp)).trans k4
  have H2 := Hd.mk (HC.out.trans h2)
  clear h2 k1 k3 k4
  go_wp2_with fail
  go_ret
  exact ⟨rfl, H2.out⟩
end Go.Proofs.YtbcmjjcbjojakaaDoor
end
section
namespace Go.Proofs.YtbcmjjcbjojakaaDoor
open Go.RowKit
set_option linter.unusedVariables false
set_option linter.unusedSimpArgs false
theorem Rq.ext' {a b : Rq} (h : a.kind = b.kind ∧ a.tag = b.tag ∧ a.key = b.key ∧ a.after = b.after ∧ a.off = b.off ∧ a.num = b.num ∧ a.delim = b.delim ∧ a.body = b.body) : a = b := by
  cases a; cases b; simp only at h; obtain ⟨rfl, rfl, rfl, rfl, rfl, rfl, rfl, rfl⟩ := h; rfl
theorem str_inj {a b : ByteArray} (h : a.toList = b.toList) : a = b := by
  rw [ByteArray.toList_eq, ByteArray.toList_eq] at h
  have : a.data = b.data := Array.toList_inj.1 h
  cases a; cases b; simp only at this; rw [this]
/-- Are two requests the same? -/
noncomputable def sameB (a b : Rq) : Bool := @decide (a = b) (Classical.propDecidable _)
theorem sameB_eq (a b : Rq) (p : Prop) [Decidable p] (h : a = b ↔ p) : sameB a b = decide p := by
  unfold sameB
  rw [Bool.eq_iff_iff, @decide_eq_true_iff _ (Classical.propDecidable _), decide_eq_true_iff]
  exact h
theorem conv_any {w : World} {B n c : Nat} {A : Option Addr} {bs : List Nat} (h : Rd w B A n (cb bs)) : (convert 28 9 (.slice A n c)).run Tryd.prog w = .ok (.string (bstr bs)) w := by
  rw [cb_ints] at h
  exact run_conv_str _ _ 5 Tryd.underlying28 Tryd.underlying5 infoStr c h
/-- The request with its counting fields alone. -/
def onlyP (R : Rq) : Rq :=
  ⟨R.kind, R.tag, if cKey R.kind = true then R.key else emS, if cAfter R.kind = true then R.after else emS, if cOff R.kind = true then R.off else 0, if cNum R.kind = true then R.num else 0, if cDelim R.kind = true then R.delim else 0, if cBody R.kind = true then R.body else []⟩
theorem onlyP_iff (R : Rq) : R = onlyP R ↔ ((cKey R.kind = false → R.key = emS) ∧ (cBody R.kind = false → R.body = []) ∧ (cAfter R.kind = false → R.after = emS) ∧
  (cOff R.kind = false → R.off = 0) ∧ (cNum R.kind = false → R.num = 0) ∧ (cDelim R.kind = false → R.delim = 0)) := by
  have g : ∀ {α : Type} (b : Bool) (x z : α), x = (if b = true then x else z) ↔ (b = false → x = z) := fun b x z => by cases b <;> simp
  constructor
  · intro h
    have h1 := congrArg Rq.key h
    have h2 := congrArg Rq.body h
    have h3 := congrArg Rq.after h
    have h4 := congrArg Rq.off h
    have h5 := congrArg Rq.num h
    have h6 := congrArg Rq.delim h
    exact ⟨(g _ _ _).1 h1, (g _ _ _).1 h2, (g _ _ _).1 h3, (g _ _ _).1 h4, (g _ _ _).1 h5, (g _ _ _).1 h6⟩
  · rintro ⟨h1, h2, h3, h4, h5, h6⟩
    exact Rq.ext' ⟨rfl, rfl, (g _ _ _).2 h1, (g _ _ _).2 h3, (g _ _ _).2 h4, (g _ _ _).2 h5, (g _ _ _).2 h6, (g _ _ _).2 h2⟩
theorem rqOk_iff (R : Rq) : rqOk R ↔ (1 ≤ R.kind ∧ R.kind ≤ 8) ∧ R = onlyP R := by
  rw [onlyP_iff]; unfold rqOk
  exact ⟨fun ⟨a, b, c⟩ => ⟨⟨a, b⟩, c⟩, fun ⟨⟨a, b⟩, c⟩ => ⟨a, b, c⟩⟩
theorem infoRq : (Tryd.prog.info? 34).map (·.size) = some 8 := by kernel_rfl
/-- What only answers. -/
def OnlyPost (w : World) (k : Int) (tag : Nat) (key after : ByteArray) (off num delim : Int) (A : Option Addr) (n c : Nat) (e : Ending) (w' : World) : Prop :=
  ∃ (key' after' : ByteArray) (off' num' delim' : Int) (A' : Option Addr) (n' c' : Nat), e = .returned (.agg #[.int .i64 k, .int .u64 (tag : Int), .string key', .string after', .int .i64 off', .int .i64 num', .int .i64 delim', .slice A' n' c']) ∧
    key' = (if cKey k = true then key else emS) ∧ after' = (if cAfter k = true then after else emS) ∧ off' = (if cOff k = true then off else 0) ∧ num' = (if cNum k = true then num else 0) ∧ delim' = (if cDelim k = true then delim else 0) ∧
    ((cBody k = true ∧ A' = A ∧ n' = n ∧ c' = c) ∨ (cBody k = false ∧ n' = 0)) ∧ Below w.heap.size w w'
end Go.Proofs.YtbcmjjcbjojakaaDoor
end
section
namespace Go.Proofs.YtbcmjjcbjojakaaDoor
open Go.RowKit
set_option linter.unusedVariables false
/-- An answer's value. -/
def anV (kind code : Int) (tag : Nat) (A A2 A3 : Option Addr) (n c n2 c2 n3 c3 : Nat) (next : ByteArray) (more : Bool) (ge gc size h1 h2 h3 h4 : Int) : Value :=
  .agg #[.int .i64 kind, .int .u64 (tag : Int), .int .i64 code, .slice A n c, .slice A2 n2 c2, .slice A3 n3 c3, .string next, .bool more, .int .i64 ge, .int .i64 gc, .int .i64 size, .int .i64 h1, .int .i64 h2, .int .i64 h3, .int .i64 h4]
def emptyP (b g k p h : Bool) (n n2 n3 : Nat) (next : ByteArray) (more : Bool) (ge gc size h1 h2 h3 h4 : Int) : Prop :=
  (b = false → n = 0) ∧ (g = false → ge = 0 ∧ gc = 0 ∧ size = 0) ∧ (k = false → n2 = 0) ∧ (p = false → n3 = 0 ∧ next = emS ∧ more = false) ∧ (h = false → h1 = 0 ∧ h2 = 0 ∧ h3 = 0 ∧ h4 = 0)
end Go.Proofs.YtbcmjjcbjojakaaDoor
end
section
namespace Go.Proofs.YtbcmjjcbjojakaaDoor
open Go.RowKit
set_option linter.unusedVariables false
theorem anOk_of (kind code : Int) (tag : Nat) (body : List Nat) (keys groups : List ByteArray) (next : ByteArray) (more : Bool) (ge gc size h1 h2 h3 h4 : Int) (b g k p h : Bool)
    (hk : 1 ≤ kind ∧ kind ≤ 8) (hc : 0 ≤ code ∧ code ≤ 2147483647) (eb : b = true ↔ code = 0 ∧ (kind = 2 ∨ kind = 3)) (eg : g = true ↔ code = 0 ∧ kind = 4) (ek : k = true ↔ code = 0 ∧ (kind = 6 ∨ kind = 7)) (ep : p = true ↔ code = 0 ∧ kind = 7) (eh : h = true ↔ kind = 8) :
    emptyP b g k p h body.length keys.length groups.length next more ge gc size h1 h2 h3 h4 ↔ anOk ⟨kind, tag, code, body, keys, groups, next, more, ge, gc, size, h1, h2, h3, h4⟩ := by
  have nb : b = false ↔ ¬ (code = 0 ∧ (kind = 2 ∨ kind = 3)) := by rw [← eb]; simp
  have ng : g = false ↔ ¬ (code = 0 ∧ kind = 4) := by rw [← eg]; simp
  have nk : k = false ↔ ¬ (code = 0 ∧ (kind = 6 ∨ kind = 7)) := by rw [← ek]; simp
  have np : p = false ↔ ¬ (code = 0 ∧ kind = 7) := by rw [← ep]; simp
  have nh : h = false ↔ kind ≠ 8 := by rw [show (kind ≠ 8) = ¬ (kind = 8) from rfl, ← eh]; simp
  unfold emptyP anOk tBody tGen tKeys tPage
  rw [nb, ng, nk, np, nh]
  simp only [List.length_eq_zero_iff]
  exact ⟨fun ⟨a1, a2, a3, a4, a5⟩ => ⟨hk.1, hk.2, hc.1, hc.2, a1, a2, a3, a4, a5⟩, fun ⟨_, _, _, _, a1, a2, a3, a4, a5⟩ => ⟨a1, a2, a3, a4, a5⟩⟩
/-- A truth is answered. -/
def BoolPost (p : Prop) (w : World) (e : Ending) (w' : World) : Prop := ∃ r : Bool, e = .returned (.bool r) ∧ (r = true ↔ p) ∧ Below w.heap.size w w'
theorem BoolPost.mk {p : Prop} {w w' : World} {r : Bool} (h : r = true ↔ p) (b : Below w.heap.size w w') : BoolPost p w (.returned (.bool r)) w' := ⟨r, rfl, h, b⟩
end Go.Proofs.YtbcmjjcbjojakaaDoor
end
section
namespace Go.Proofs.YtbcmjjcbjojakaaDoor
section
variable {P : Program} {ops : Array Oper} {Q : Exit → Act → World → Prop} {md : Region.Mode} {S T : World → Prop}
theorem held_more (hST : ∀ w, T w → S w) : ∀ (fuel : Nat) (listed : Array Bool) (a : Act) (w : World), wpAnyH P md ops Q T fuel listed a w → wpAnyH P md ops Q S fuel listed a w
  | 0, _, _, _, h => h
  | fuel + 1, _, _, _, h => ⟨h.1, fun i hi => wpOp_mono (fun a' w' h' => ⟨hST w' h'.1, held_more hST fuel _ a' w' h'.2⟩) (h.2 i hi)⟩
end
end Go.Proofs.YtbcmjjcbjojakaaDoor
end
