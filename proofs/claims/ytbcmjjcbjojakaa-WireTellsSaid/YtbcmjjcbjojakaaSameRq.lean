/- Contracts of the reference's SameRequest, only. -/
import Derived.Test.YtbcmjjcbjojakaaAskP
import Derived.Deep.Light
namespace Go.Proofs.Ytbcmjjcbjojakaa
open Go.RowKit
set_option linter.unusedVariables false
set_option linter.unusedSimpArgs false
theorem Rq.ext' {a b : Rq} (h : a.kind = b.kind ∧ a.tag = b.tag ∧ a.key = b.key ∧ a.after = b.after ∧ a.off = b.off ∧ a.num = b.num ∧ a.delim = b.delim ∧ a.body = b.body) : a = b := by
  cases a; cases b; simp only at h; obtain ⟨rfl, rfl, rfl, rfl, rfl, rfl, rfl, rfl⟩ := h; rfl
theorem str_inj {a b : ByteArray} (h : a.toList = b.toList) : a = b := by
  rw [ByteArray.toList_eq, ByteArray.toList_eq] at h
  have : a.data = b.data := Array.toList_inj.1 h
  cases a; cases b; simp only at this; rw [this]
/-- Are two requests the same? -/
noncomputable def sameB (a b : Rq) : Bool := @decide (a = b) (Classical.propDecidable _)
theorem sameB_eq (a b : Rq) (p : Prop) [Decidable p] (h : a = b ↔ p) : sameB a b = decide p := by
  unfold sameB
  rw [Bool.eq_iff_iff, @decide_eq_true_iff _ (Classical.propDecidable _), decide_eq_true_iff]
  exact h
theorem conv_any {w : World} {B n c : Nat} {A : Option Addr} {bs : List Nat} (h : Rd w B A n (cb bs)) : (convert 26 9 (.slice A n c)).run Try.prog w = .ok (.string (bstr bs)) w := by
  rw [cb_ints] at h
  exact run_conv_str _ _ 5 Try.underlying26 Try.underlying5 infoStr c h
set_option maxRecDepth 20000 in
set_option maxHeartbeats 4000000 in
theorem sameRq_any (w : World) (B : Nat) (R R' : Rq) (k k' : Int) (tag tag' : Nat) (key key' after after' : ByteArray) (off off' num num' delim delim' : Int) (body body' : List Nat) (hR : R = ⟨k, tag, key, after, off, num, delim, body⟩) (hR' : R' = ⟨k', tag', key', after', off', num', delim', body'⟩) (A A' : Option Addr) (n n' c c' : Nat) (h1 : Rd w B A n (cb body)) (h2 : Rd w B A' n' (cb body')) (hB : B ≤ w.heap.size) (l1 : ∀ x ∈ body, x < 256) (l2 : ∀ x ∈ body', x < 256) :
    Calls Try.prog 51 #[.agg #[.int .i64 k, .int .u64 (tag : Int), .string key, .string after, .int .i64 off, .int .i64 num, .int .i64 delim, .slice A n c], .agg #[.int .i64 k', .int .u64 (tag' : Int), .string key', .string after', .int .i64 off', .int .i64 num', .int .i64 delim', .slice A' n' c']] w fun e w' => e = .returned (.bool (sameB R R')) ∧ Below w.heap.size w w' := by
  obtain ⟨S, hS⟩ : ∃ S, bstr body = S := ⟨_, rfl⟩
  obtain ⟨S', hS'⟩ : ∃ S', bstr body' = S' := ⟨_, rfl⟩
  have hbb : body = body' ↔ S = S' := by
    rw [← hS, ← hS']
    constructor
    · rintro rfl; rfl
    · intro h
      have := bstr_beq body body' l1 l2
      rw [h] at this
      simpa using this.symm
  have HE : Hd (sameB R R' = decide (k = k' ∧ (tag : Int) = (tag' : Int) ∧ key.toList = key'.toList ∧ after.toList = after'.toList ∧ off = off' ∧ num = num' ∧ delim = delim' ∧ S.toList = S'.toList)) := ⟨sameB_eq _ _ _ ⟨fun h => by rw [hR, hR'] at h; cases h; exact ⟨rfl, rfl, rfl, rfl, rfl, rfl, rfl, congrArg _ (hbb.1 rfl)⟩, fun ⟨a, b, c, d, e, f, g, h⟩ => by rw [hR, hR']; exact Rq.ext' ⟨a, Int.ofNat_inj.1 b, str_inj c, str_inj d, e, f, g, hbb.2 (str_inj h)⟩⟩⟩
  have HH := Hd.mk (And.intro h1 (And.intro h2 hB))
  have HSS := Hd.mk (And.intro hS hS')
  clear h1 h2 hB hS hS' hbb l1 l2 hR hR'
  go_enter Try.func51, Try.ntmps51
  go_upto_region 1 with fail
  obtain ⟨W, hW⟩ : ∃ W, (w.alloc (.cells #[.int .i64 k, .int .u64 (tag : Int), .string key, .string after, .int .i64 off, .int .i64 num, .int .i64 delim, .slice A n c] 28)).alloc (.cells #[.int .i64 k', .int .u64 (tag' : Int), .string key', .string after', .int .i64 off', .int .i64 num', .int .i64 delim', .slice A' n' c'] 28) = W := ⟨_, rfl⟩
  obtain ⟨g, hg⟩ : ∃ g, w.heap.size = g := ⟨_, rfl⟩
  have hb : Below w.heap.size w W := by rw [← hW]; exact ((Below.refl _ w).alloc (Nat.le_refl _) _).alloc (by simp) _
  have hg1 : W.heap[g]? = some (.cells #[.int .i64 k, .int .u64 (tag : Int), .string key, .string after, .int .i64 off, .int .i64 num, .int .i64 delim, .slice A n c] 28) := by rw [← hW, ← hg, heap_alloc_old _ _ (by simp)]; exact heap_alloc_new w _
  have hg2 : W.heap[g + 1]? = some (.cells #[.int .i64 k', .int .u64 (tag' : Int), .string key', .string after', .int .i64 off', .int .i64 num', .int .i64 delim', .slice A' n' c'] 28) := by rw [← hW, ← hg]; have h := heap_alloc_new (w.alloc (.cells #[.int .i64 k, .int .u64 (tag : Int), .string key, .string after, .int .i64 off, .int .i64 num, .int .i64 delim, .slice A n c] 28)) (.cells #[.int .i64 k', .int .u64 (tag' : Int), .string key', .string after', .int .i64 off', .int .i64 num', .int .i64 delim', .slice A' n' c'] 28); simpa using h
  rw [hW]
  (try rw [hg])
  have f1 : (convert 26 9 (.slice A n c)).run Try.prog W = .ok (.string S) W := by rw [← HSS.out.1]; exact conv_any (HH.out.1.below (hb.mono HH.out.2.2))
  have f2 : (convert 26 9 (.slice A' n' c')).run Try.prog W = .ok (.string S') W := by rw [← HSS.out.2]; exact conv_any (HH.out.2.1.below (hb.mono HH.out.2.2))
  have c0 : W.cell? ⟨g, 0, none⟩ = some (.int .i64 k) := by rw [cell_of_row W g 0 _ _ (0, 0) hg1]; rfl
  have c1 : W.cell? ⟨g, 1, none⟩ = some (.int .u64 (tag : Int)) := by rw [cell_of_row W g 1 _ _ (0, 0) hg1]; rfl
  have c2 : W.cell? ⟨g, 2, none⟩ = some (.string key) := by rw [cell_of_row W g 2 _ _ (0, 0) hg1]; rfl
  have c3 : W.cell? ⟨g, 3, none⟩ = some (.string after) := by rw [cell_of_row W g 3 _ _ (0, 0) hg1]; rfl
  have c4 : W.cell? ⟨g, 4, none⟩ = some (.int .i64 off) := by rw [cell_of_row W g 4 _ _ (0, 0) hg1]; rfl
  have c5 : W.cell? ⟨g, 5, none⟩ = some (.int .i64 num) := by rw [cell_of_row W g 5 _ _ (0, 0) hg1]; rfl
  have c6 : W.cell? ⟨g, 6, none⟩ = some (.int .i64 delim) := by rw [cell_of_row W g 6 _ _ (0, 0) hg1]; rfl
  have c7 : W.cell? ⟨g, 7, none⟩ = some (.slice A n c) := by rw [cell_of_row W g 7 _ _ (0, 0) hg1]; rfl
  have d0 : W.cell? ⟨g + 1, 0, none⟩ = some (.int .i64 k') := by rw [cell_of_row W (g + 1) 0 _ _ (0, 0) hg2]; rfl
  have d1 : W.cell? ⟨g + 1, 1, none⟩ = some (.int .u64 (tag' : Int)) := by rw [cell_of_row W (g + 1) 1 _ _ (0, 0) hg2]; rfl
  have d2 : W.cell? ⟨g + 1, 2, none⟩ = some (.string key') := by rw [cell_of_row W (g + 1) 2 _ _ (0, 0) hg2]; rfl
  have d3 : W.cell? ⟨g + 1, 3, none⟩ = some (.string after') := by rw [cell_of_row W (g + 1) 3 _ _ (0, 0) hg2]; rfl
  have d4 : W.cell? ⟨g + 1, 4, none⟩ = some (.int .i64 off') := by rw [cell_of_row W (g + 1) 4 _ _ (0, 0) hg2]; rfl
  have d5 : W.cell? ⟨g + 1, 5, none⟩ = some (.int .i64 num') := by rw [cell_of_row W (g + 1) 5 _ _ (0, 0) hg2]; rfl
  have d6 : W.cell? ⟨g + 1, 6, none⟩ = some (.int .i64 delim') := by rw [cell_of_row W (g + 1) 6 _ _ (0, 0) hg2]; rfl
  have d7 : W.cell? ⟨g + 1, 7, none⟩ = some (.slice A' n' c') := by rw [cell_of_row W (g + 1) 7 _ _ (0, 0) hg2]; rfl
  have HB := Hd.mk hb
  clear hW hg hb hg1 hg2 HH HSS
  go_wp2_with fail
  all_goals
    go_ret
    clear f1 f2
    refine ⟨ret_bool ?_, HB.out⟩
    go_light
    clear HB c0 c1 c2 c3 c4 c5 c6 c7 d0 d1 d2 d3 d4 d5 d6 d7
    rw [HE.out]
    clear HE
    first | (simp_all; done) | (rw [Bool.eq_iff_iff]; simp_all; done)
/-- The request with its counting fields alone. -/
def onlyP (R : Rq) : Rq :=
  ⟨R.kind, R.tag, if cKey R.kind = true then R.key else emS, if cAfter R.kind = true then R.after else emS, if cOff R.kind = true then R.off else 0, if cNum R.kind = true then R.num else 0, if cDelim R.kind = true then R.delim else 0, if cBody R.kind = true then R.body else []⟩
theorem onlyP_iff (R : Rq) : R = onlyP R ↔ ((cKey R.kind = false → R.key = emS) ∧ (cBody R.kind = false → R.body = []) ∧ (cAfter R.kind = false → R.after = emS) ∧
  (cOff R.kind = false → R.off = 0) ∧ (cNum R.kind = false → R.num = 0) ∧ (cDelim R.kind = false → R.delim = 0)) := by
  have g : ∀ {α : Type} (b : Bool) (x z : α), x = (if b = true then x else z) ↔ (b = false → x = z) := fun b x z => by cases b <;> simp
  constructor
  · intro h
    have h1 := congrArg Rq.key h
    have h2 := congrArg Rq.body h
    have h3 := congrArg Rq.after h
    have h4 := congrArg Rq.off h
    have h5 := congrArg Rq.num h
    have h6 := congrArg Rq.delim h
    exact ⟨(g _ _ _).1 h1, (g _ _ _).1 h2, (g _ _ _).1 h3, (g _ _ _).1 h4, (g _ _ _).1 h5, (g _ _ _).1 h6⟩
  · rintro ⟨h1, h2, h3, h4, h5, h6⟩
    exact Rq.ext' ⟨rfl, rfl, (g _ _ _).2 h1, (g _ _ _).2 h3, (g _ _ _).2 h4, (g _ _ _).2 h5, (g _ _ _).2 h6, (g _ _ _).2 h2⟩
theorem rqOk_iff (R : Rq) : rqOk R ↔ (1 ≤ R.kind ∧ R.kind ≤ 8) ∧ R = onlyP R := by
  rw [onlyP_iff]; unfold rqOk
  exact ⟨fun ⟨a, b, c⟩ => ⟨⟨a, b⟩, c⟩, fun ⟨⟨a, b⟩, c⟩ => ⟨a, b, c⟩⟩
theorem infoRq : (Try.prog.info? 28).map (·.size) = some 8 := by kernel_rfl
/-- What only answers. -/
def OnlyPost (w : World) (k : Int) (tag : Nat) (key after : ByteArray) (off num delim : Int) (A : Option Addr) (n c : Nat) (e : Ending) (w' : World) : Prop :=
  ∃ (key' after' : ByteArray) (off' num' delim' : Int) (A' : Option Addr) (n' c' : Nat), e = .returned (.agg #[.int .i64 k, .int .u64 (tag : Int), .string key', .string after', .int .i64 off', .int .i64 num', .int .i64 delim', .slice A' n' c']) ∧
    key' = (if cKey k = true then key else emS) ∧ after' = (if cAfter k = true then after else emS) ∧ off' = (if cOff k = true then off else 0) ∧ num' = (if cNum k = true then num else 0) ∧ delim' = (if cDelim k = true then delim else 0) ∧
    ((cBody k = true ∧ A' = A ∧ n' = n ∧ c' = c) ∨ (cBody k = false ∧ n' = 0)) ∧ Below w.heap.size w w'
set_option maxRecDepth 20000 in
set_option maxHeartbeats 4000000 in
theorem only_any (w : World) (k : Int) (tag : Nat) (key after : ByteArray) (off num delim : Int) (A : Option Addr) (n c : Nat) (h1 : 1 ≤ k) (h8 : k ≤ 8) :
    Calls Try.prog 52 #[.agg #[.int .i64 k, .int .u64 (tag : Int), .string key, .string after, .int .i64 off, .int .i64 num, .int .i64 delim, .slice A n c]] w (OnlyPost w k tag key after off num delim A n c) := by
  by_cases k1 : k = 1
  · subst k1
    go_enter Try.func52, Try.ntmps52
    go_wp2_with fail
    (try simp only [Exit.inBlock, Exit.then])
    refine bodyPost_ret (results_cell1 rfl _ _ (w.heap.size + 1) 28 #[.int .i64 1, .int .u64 (tag : Int), .string key, .string ⟨#[]⟩, .int .i64 0, .int .i64 0, .int .i64 0, .slice A n c] (0, 0) _ rfl ?hcell Try.underlying28 rfl infoRq) rfl ?_
    case hcell => rw [heap_alloc_old _ _ (by simp)]; have h := heap_alloc_new (w.alloc (.cells #[.int .i64 1, .int .u64 (tag : Int), .string key, .string after, .int .i64 off, .int .i64 num, .int .i64 delim, .slice A n c] 28)) (.cells #[.int .i64 1, .int .u64 (tag : Int), .string key, .string ⟨#[]⟩, .int .i64 0, .int .i64 0, .int .i64 0, .slice A n c] 28); simpa using h
    refine ⟨_, _, _, _, _, _, _, _, rfl, rfl, rfl, rfl, rfl, rfl, ?_, (((Below.refl _ w).alloc (Nat.le_refl _) _).alloc (by simp) _).alloc (by simp; omega) _⟩
    exact .inl ⟨by decide, rfl, rfl, rfl⟩
  by_cases k3 : k = 3
  · subst k3
    go_enter Try.func52, Try.ntmps52
    go_wp2_with fail
    (try simp only [Exit.inBlock, Exit.then])
    refine bodyPost_ret (results_cell1 rfl _ _ (w.heap.size + 1) 28 #[.int .i64 3, .int .u64 (tag : Int), .string key, .string ⟨#[]⟩, .int .i64 off, .int .i64 num, .int .i64 0, .slice none 0 0] (0, 0) _ rfl ?hcell Try.underlying28 rfl infoRq) rfl ?_
    case hcell => rw [heap_alloc_old _ _ (by simp)]; have h := heap_alloc_new (w.alloc (.cells #[.int .i64 3, .int .u64 (tag : Int), .string key, .string after, .int .i64 off, .int .i64 num, .int .i64 delim, .slice A n c] 28)) (.cells #[.int .i64 3, .int .u64 (tag : Int), .string key, .string ⟨#[]⟩, .int .i64 off, .int .i64 num, .int .i64 0, .slice none 0 0] 28); simpa using h
    refine ⟨_, _, _, _, _, _, _, _, rfl, rfl, rfl, rfl, rfl, rfl, ?_, (((Below.refl _ w).alloc (Nat.le_refl _) _).alloc (by simp) _).alloc (by simp; omega) _⟩
    exact .inr ⟨by decide, rfl⟩
  by_cases k7 : k = 7
  · subst k7
    go_enter Try.func52, Try.ntmps52
    go_wp2_with fail
    (try simp only [Exit.inBlock, Exit.then])
    refine bodyPost_ret (results_cell1 rfl _ _ (w.heap.size + 1) 28 #[.int .i64 7, .int .u64 (tag : Int), .string key, .string after, .int .i64 0, .int .i64 num, .int .i64 delim, .slice none 0 0] (0, 0) _ rfl ?hcell Try.underlying28 rfl infoRq) rfl ?_
    case hcell => rw [heap_alloc_old _ _ (by simp)]; have h := heap_alloc_new (w.alloc (.cells #[.int .i64 7, .int .u64 (tag : Int), .string key, .string after, .int .i64 off, .int .i64 num, .int .i64 delim, .slice A n c] 28)) (.cells #[.int .i64 7, .int .u64 (tag : Int), .string key, .string after, .int .i64 0, .int .i64 num, .int .i64 delim, .slice none 0 0] 28); simpa using h
    refine ⟨_, _, _, _, _, _, _, _, rfl, rfl, rfl, rfl, rfl, rfl, ?_, (((Below.refl _ w).alloc (Nat.le_refl _) _).alloc (by simp) _).alloc (by simp; omega) _⟩
    exact .inr ⟨by decide, rfl⟩
  by_cases k8 : k = 8
  · subst k8
    go_enter Try.func52, Try.ntmps52
    go_wp2_with fail
    (try simp only [Exit.inBlock, Exit.then])
    refine bodyPost_ret (results_cell1 rfl _ _ (w.heap.size + 1) 28 #[.int .i64 8, .int .u64 (tag : Int), .string ⟨#[]⟩, .string ⟨#[]⟩, .int .i64 0, .int .i64 0, .int .i64 0, .slice none 0 0] (0, 0) _ rfl ?hcell Try.underlying28 rfl infoRq) rfl ?_
    case hcell => rw [heap_alloc_old _ _ (by simp)]; have h := heap_alloc_new (w.alloc (.cells #[.int .i64 8, .int .u64 (tag : Int), .string key, .string after, .int .i64 off, .int .i64 num, .int .i64 delim, .slice A n c] 28)) (.cells #[.int .i64 8, .int .u64 (tag : Int), .string ⟨#[]⟩, .string ⟨#[]⟩, .int .i64 0, .int .i64 0, .int .i64 0, .slice none 0 0] 28); simpa using h
    refine ⟨_, _, _, _, _, _, _, _, rfl, rfl, rfl, rfl, rfl, rfl, ?_, (((Below.refl _ w).alloc (Nat.le_refl _) _).alloc (by simp) _).alloc (by simp; omega) _⟩
    exact .inr ⟨by decide, rfl⟩
  have hk : k = 2 ∨ k = 4 ∨ k = 5 ∨ k = 6 := by omega
  have h7 : k ≤ 7 := by omega
  have HK := Hd.mk hk
  clear hk
  · go_enter Try.func52, Try.ntmps52
    go_wp2_with fail
    (try simp only [Exit.inBlock, Exit.then])
    refine bodyPost_ret (results_cell1 rfl _ _ (w.heap.size + 1) 28 #[.int .i64 k, .int .u64 (tag : Int), .string key, .string ⟨#[]⟩, .int .i64 0, .int .i64 0, .int .i64 0, .slice none 0 0] (0, 0) _ rfl ?hcell Try.underlying28 rfl infoRq) rfl ?_
    case hcell => rw [heap_alloc_old _ _ (by simp)]; have h := heap_alloc_new (w.alloc (.cells #[.int .i64 k, .int .u64 (tag : Int), .string key, .string after, .int .i64 off, .int .i64 num, .int .i64 delim, .slice A n c] 28)) (.cells #[.int .i64 k, .int .u64 (tag : Int), .string key, .string ⟨#[]⟩, .int .i64 0, .int .i64 0, .int .i64 0, .slice none 0 0] 28); simpa using h
    refine ⟨_, _, _, _, _, _, _, _, rfl, by rcases HK.out with rfl | rfl | rfl | rfl <;> rfl, by rcases HK.out with rfl | rfl | rfl | rfl <;> rfl, by rcases HK.out with rfl | rfl | rfl | rfl <;> rfl, by rcases HK.out with rfl | rfl | rfl | rfl <;> rfl, by rcases HK.out with rfl | rfl | rfl | rfl <;> rfl, ?_, (((Below.refl _ w).alloc (Nat.le_refl _) _).alloc (by simp) _).alloc (by simp; omega) _⟩
    exact .inr ⟨by rcases HK.out with rfl | rfl | rfl | rfl <;> decide, rfl⟩
end Go.Proofs.Ytbcmjjcbjojakaa
