/- Contracts of the reference's sameTexts and SameAnswer. -/
import Derived.Test.YtbcmjjcbjojakaaPk15
import Derived.Test.YtbcmjjcbjojakaaPk6
namespace Go.Proofs.Ytbcmjjcbjojakaa
open Go.RowKit
set_option linter.unusedVariables false
set_option linter.unusedSimpArgs false
theorem refSameTexts_any (w : World) (A1 A2 : Option Addr) (n1 c1 n2 c2 B : Nat) (ts us : List ByteArray) (h1 : Rd w B A1 n1 (cs ts)) (h2 : Rd w B A2 n2 (cs us)) (hn : n1 ≤ 8796093022000) :
  Calls Try.prog 95 #[.slice A1 n1 c1, .slice A2 n2 c2] w fun e w' => e = .returned (.bool (decide (ts = us))) ∧ Below w.heap.size w w' := by
 have hl1 : ts.length = n1 := by have := h1.1; rw [cs_len] at this; exact this
 have hl2 : us.length = n2 := by have := h2.1; rw [cs_len] at this; exact this
 have HH : Hd (Rd w B A1 n1 (cs ts) ∧ Rd w B A2 n2 (cs us) ∧ ts.length = n1 ∧ us.length = n2) := ⟨h1, h2, hl1, hl2⟩
 have HF : Hd (∀ b, (ts = us ↔ b = true) → Ending.returned (.bool b) = .returned (.bool (decide (ts = us)))) := ⟨fun b h => by
  congr 2
  rw [Bool.eq_iff_iff, decide_eq_true_iff]; exact h.symm⟩
 obtain ⟨D, hD⟩ : ∃ D : Ending, D = .returned (.bool (decide (ts = us))) := ⟨_, rfl⟩
 rw [← hD] at HF ⊢
 clear h1 h2 hl1 hl2 hD
 go_enter Try.func95, Try.ntmps95
 by_cases hnn : n1 = n2
 ·have hnn2 : ((n1 : Int) != (n2 : Int)) = false := by rw [hnn]; simp
  have HNN := Hd.mk hnn
  clear hnn
  go_wp2_with fail
  go_loopw [5] (fun i wr => ∃ k : Nat, k ≤ n1 ∧ i = .int .i64 k ∧ w.heap = wr.heap ∧ Below w.heap.size w wr ∧ ts.take k = us.take k) (fun i _ => n1 - (intOf i).toNat)
  case atStart => exact ⟨0, by omega, rfl, rfl, Below.refl _ _, rfl⟩
  case round =>
   obtain ⟨k, hk, rfl, hh, hb, htk⟩ := hrel
   have HB : Hd (w.heap = wr.heap ∧ Below w.heap.size w wr ∧ ts.take k = us.take k) := ⟨hh, hb, htk⟩
   have hcell : ∀ p : Addr, wr.cell? p = w.cell? p := fun p => by simp [World.cell?, hh]
   by_cases hlt : k < n1
   ·obtain ⟨g1, o1, v1, hA1, _, hx1, hc1⟩ := (HH.out.1.keep (fun p _ => hcell p)).at_ hlt
    obtain ⟨g2, o2, v2, hA2, _, hx2, hc2⟩ := (HH.out.2.1.keep (fun p _ => hcell p)).at_ (show k < n2 by have := HNN.out; omega)
    rw [cs_get _ _ (by rw [HH.out.2.2.1]; exact hlt)] at hx1
    rw [cs_get _ _ (by rw [HH.out.2.2.2]; have := HNN.out; omega)] at hx2
    injection hx1 with hx1
    injection hx2 with hx2
    obtain ⟨t, ht⟩ : ∃ t, ts.getD k ByteArray.empty = t := ⟨_, rfl⟩
    obtain ⟨u, hu⟩ : ∃ t, us.getD k ByteArray.empty = t := ⟨_, rfl⟩
    rw [ht] at hx1
    rw [hu] at hx2
    subst hx1 hx2 hA1 hA2
    have hki : (k : Int) < (n1 : Int) := by omega
    have hki2 : (k : Int) < (n2 : Int) := by have := HNN.out; omega
    have HT : Hd (ts[k]? = some t ∧ us[k]? = some u) := ⟨by rw [← ht, List.getD_eq_getElem?_getD, List.getElem?_eq_getElem (by rw [HH.out.2.2.1]; exact hlt)]; rfl, by rw [← hu, List.getD_eq_getElem?_getD, List.getElem?_eq_getElem (by rw [HH.out.2.2.2]; have := HNN.out; omega)]; rfl⟩
    have HLT := Hd.mk hlt
    clear hcell hh hb ht hu htk hnn2 hlt
    by_cases htu : t = u
    ·subst htu
     go_wp2_with fail
     go_quiet (fail)
     go_wp2_with fail
     go_roundw
     case rel => exact ⟨k + 1, HLT.out, by go_num, HB.out.1, below_drewN HB.out.2.1 _, by rw [List.take_add_one, List.take_add_one, HT.out.1, HT.out.2, HB.out.2.2]⟩
     case measure => simp [intOf]; have := HLT.out; omega
    ·have htl : ¬ t.toList = u.toList := fun h => htu (str_inj h)
     have hdl : decide (t.toList = u.toList) = false := decide_eq_false htl
     have hbl : (t.toList == u.toList) = false := by rw [Bool.eq_false_iff]; intro h; exact htl (eq_of_beq h)
     have HTU := Hd.mk htu
     clear htu
     go_wp2_with fail
     go_quiet (fail)
     go_wp2_with fail
     go_ret
     refine ⟨HF.out false ⟨fun h => ?_, fun h => by cases h⟩, below_drewN HB.out.2.1 _⟩
     exfalso
     have h1 := HT.out.1
     rw [h, HT.out.2] at h1
     injection h1 with h1
     exact HTU.out h1.symm
   ·have hkn : n1 = k := by omega
    have HKN := Hd.mk hkn
    have hki : ¬ (k : Int) < (n1 : Int) := by omega
    clear hcell hh hb htk hkn hnn2 hlt
    go_wp2_with fail
    go_ret
    refine ⟨HF.out true ⟨fun _ => rfl, fun _ => ?_⟩, HB.out.2.1⟩
    have := HB.out.2.2
    rwa [List.take_of_length_le (by rw [HH.out.2.2.1]; have := HKN.out; omega), List.take_of_length_le (by rw [HH.out.2.2.2]; have := HKN.out; have := HNN.out; omega)] at this
 ·have hnn2 : ((n1 : Int) != (n2 : Int)) = true := by simp; omega
  have HNN := Hd.mk hnn
  clear hnn
  go_wp2_with fail
  go_ret
  refine ⟨HF.out false ⟨fun h => ?_, fun h => by cases h⟩, Below.refl _ _⟩
  exfalso
  have h1 := HH.out.2.2.1
  rw [h, HH.out.2.2.2] at h1
  exact HNN.out h1.symm
theorem World.rangeAt.cellAt0 {W : World} {b : Nat} {l : List Value} (h : W.rangeAt b 0 l) (i : Nat) {v : Value} (hv : l[i]? = some v) : W.cell? ⟨b, i, none⟩ = some v := by
 have := h i v hv
 rwa [Nat.zero_add] at this
/-- Are two answers the same? -/
noncomputable def sameAB (a b : An) : Bool := @decide (a = b) (Classical.propDecidable _)
theorem sameAB_eq (a b : An) (x : Bool) (h : a = b ↔ x = true) : sameAB a b = x := by
 unfold sameAB
 rw [Bool.eq_iff_iff, @decide_eq_true_iff _ (Classical.propDecidable _)]
 exact h
set_option maxRecDepth 20000 in
set_option maxHeartbeats 8000000 in
theorem sameAn_any0 (w : World) (B : Nat) (a b : An) (k code : Int) (tag : Nat) (body body' : List Nat) (keys keys' groups groups' : List ByteArray) (next next' : ByteArray) (more more' : Bool) (ge gc size h1 h2 h3 h4 ge' gc' size' h1' h2' h3' h4' : Int) (ha : a = ⟨k, tag, code, body, keys, groups, next, more, ge, gc, size, h1, h2, h3, h4⟩) (hb : b = ⟨k, tag, code, body', keys', groups', next', more', ge', gc', size', h1', h2', h3', h4'⟩)
  (A A' B1 B1' C1 C1' : Option Addr) (n c n' c' m d m' d' l e l' e' : Nat) (r1 : Rd w B A n (cb body)) (r2 : Rd w B A' n' (cb body')) (r3 : Rd w B B1 m (cs keys)) (r4 : Rd w B B1' m' (cs keys')) (r5 : Rd w B C1 l (cs groups)) (r6 : Rd w B C1' l' (cs groups')) (hB : B ≤ w.heap.size) (q1 : ∀ x ∈ body, x < 256) (q2 : ∀ x ∈ body', x < 256) (q3 : m ≤ 8796093022000) (q4 : l ≤ 8796093022000) :
  Calls Try.prog 61 #[.agg #[.int .i64 k, .int .u64 (tag : Int), .int .i64 code, .slice A n c, .slice B1 m d, .slice C1 l e, .string next, .bool more, .int .i64 ge, .int .i64 gc, .int .i64 size, .int .i64 h1, .int .i64 h2, .int .i64 h3, .int .i64 h4], .agg #[.int .i64 k, .int .u64 (tag : Int), .int .i64 code, .slice A' n' c', .slice B1' m' d', .slice C1' l' e', .string next', .bool more', .int .i64 ge', .int .i64 gc', .int .i64 size', .int .i64 h1', .int .i64 h2', .int .i64 h3', .int .i64 h4']] w fun e w' => e = .returned (.bool (sameAB a b)) ∧ Below w.heap.size w w' := by
 obtain ⟨S, hS⟩ : ∃ S, bstr body = S := ⟨_, rfl⟩
 obtain ⟨S', hS'⟩ : ∃ S', bstr body' = S' := ⟨_, rfl⟩
 have hbb : body = body' ↔ S = S' := by
  rw [← hS, ← hS']
  constructor
  ·rintro rfl; rfl
  ·intro h
   have := bstr_beq body body' q1 q2
   rw [h] at this
   simpa using this.symm
 have HE : Hd (∀ x : Bool, ((S = S' ∧ keys = keys' ∧ groups = groups' ∧ next = next' ∧ more = more' ∧ ge = ge' ∧ gc = gc' ∧ size = size' ∧ h1 = h1' ∧ h2 = h2' ∧ h3 = h3' ∧ h4 = h4') ↔ x = true) → Ending.returned (.bool x) = .returned (.bool (sameAB a b))) := ⟨fun x h => by
  rw [sameAB_eq a b x ?_]
  rw [← h, ha, hb, ← hbb]
  constructor
  ·intro h2; cases h2; exact ⟨rfl, rfl, rfl, rfl, rfl, rfl, rfl, rfl, rfl, rfl, rfl, rfl⟩
  ·rintro ⟨rfl, rfl, rfl, rfl, rfl, rfl, rfl, rfl, rfl, rfl, rfl, rfl⟩; rfl⟩
 obtain ⟨D, hD⟩ : ∃ D : Ending, D = .returned (.bool (sameAB a b)) := ⟨_, rfl⟩
 rw [← hD] at HE ⊢
 have HH := Hd.mk (And.intro r1 (And.intro r2 (And.intro r3 (And.intro r4 (And.intro r5 (And.intro r6 hB))))))
 have HSS := Hd.mk (And.intro hS hS')
 clear r1 r2 r3 r4 r5 r6 hB hS hS' hbb q1 q2 ha hb hD
 obtain ⟨W, hW⟩ : ∃ W, (w.alloc (.cells #[.int .i64 k, .int .u64 (tag : Int), .int .i64 code, .slice A n c, .slice B1 m d, .slice C1 l e, .string next, .bool more, .int .i64 ge, .int .i64 gc, .int .i64 size, .int .i64 h1, .int .i64 h2, .int .i64 h3, .int .i64 h4] 43)).alloc (.cells #[.int .i64 k, .int .u64 (tag : Int), .int .i64 code, .slice A' n' c', .slice B1' m' d', .slice C1' l' e', .string next', .bool more', .int .i64 ge', .int .i64 gc', .int .i64 size', .int .i64 h1', .int .i64 h2', .int .i64 h3', .int .i64 h4'] 43) = W := ⟨_, rfl⟩
 obtain ⟨g, hg⟩ : ∃ g, w.heap.size = g := ⟨_, rfl⟩
 obtain ⟨g2, hg2_⟩ : ∃ q, g + 1 = q := ⟨_, rfl⟩
 have hbw : Below w.heap.size w W := by rw [← hW]; exact ((Below.refl _ w).alloc (Nat.le_refl _) _).alloc (by simp) _
 have hg1 : W.heap[g]? = some (.cells #[.int .i64 k, .int .u64 (tag : Int), .int .i64 code, .slice A n c, .slice B1 m d, .slice C1 l e, .string next, .bool more, .int .i64 ge, .int .i64 gc, .int .i64 size, .int .i64 h1, .int .i64 h2, .int .i64 h3, .int .i64 h4] 43) := by rw [← hW, ← hg, heap_alloc_old _ _ (by simp)]; exact heap_alloc_new w _
 have hg2 : W.heap[g2]? = some (.cells #[.int .i64 k, .int .u64 (tag : Int), .int .i64 code, .slice A' n' c', .slice B1' m' d', .slice C1' l' e', .string next', .bool more', .int .i64 ge', .int .i64 gc', .int .i64 size', .int .i64 h1', .int .i64 h2', .int .i64 h3', .int .i64 h4'] 43) := by rw [← hW, ← hg2_, ← hg]; have h := heap_alloc_new (w.alloc (.cells #[.int .i64 k, .int .u64 (tag : Int), .int .i64 code, .slice A n c, .slice B1 m d, .slice C1 l e, .string next, .bool more, .int .i64 ge, .int .i64 gc, .int .i64 size, .int .i64 h1, .int .i64 h2, .int .i64 h3, .int .i64 h4] 43)) (.cells #[.int .i64 k, .int .u64 (tag : Int), .int .i64 code, .slice A' n' c', .slice B1' m' d', .slice C1' l' e', .string next', .bool more', .int .i64 ge', .int .i64 gc', .int .i64 size', .int .i64 h1', .int .i64 h2', .int .i64 h3', .int .i64 h4'] 43); simpa using h
 have HBX := Hd.mk (And.intro hg1 (And.intro hg2 hbw))
 have HCC : Hd (∀ X, Below W.heap.size W X → X.rangeAt g 0 [.int .i64 k, .int .u64 (tag : Int), .int .i64 code, .slice A n c, .slice B1 m d, .slice C1 l e, .string next, .bool more, .int .i64 ge, .int .i64 gc, .int .i64 size, .int .i64 h1, .int .i64 h2, .int .i64 h3, .int .i64 h4] ∧ X.rangeAt g2 0 [.int .i64 k, .int .u64 (tag : Int), .int .i64 code, .slice A' n' c', .slice B1' m' d', .slice C1' l' e', .string next', .bool more', .int .i64 ge', .int .i64 gc', .int .i64 size', .int .i64 h1', .int .i64 h2', .int .i64 h3', .int .i64 h4']) := ⟨fun X hX => by
  have e1 : X.heap[g]? = _ := (hX.block g (Array.getElem?_eq_some_iff.1 HBX.out.1).1).trans HBX.out.1
  have e2 : X.heap[g2]? = _ := (hX.block g2 (Array.getElem?_eq_some_iff.1 HBX.out.2.1).1).trans HBX.out.2.1
  exact ⟨fun j v hv => by rw [Nat.zero_add, cell_of_row X g j _ _ (0, 0) e1]; simpa using hv, fun j v hv => by rw [Nat.zero_add, cell_of_row X g2 j _ _ (0, 0) e2]; simpa using hv⟩⟩
 go_enter Try.func61, Try.ntmps61
 have f1 : (convert 26 9 (.slice A n c)).run Try.prog W = .ok (.string S) W := by rw [← HSS.out.1]; exact conv_any (HH.out.1.below (HBX.out.2.2.mono HH.out.2.2.2.2.2.2))
 have f2 : (convert 26 9 (.slice A' n' c')).run Try.prog W = .ok (.string S') W := by rw [← HSS.out.2]; exact conv_any (HH.out.2.1.below (HBX.out.2.2.mono HH.out.2.2.2.2.2.2))
 have c0 : W.cell? ⟨g, 0, none⟩ = some (.int .i64 k) := World.rangeAt.cellAt0 (HCC.out W (Below.refl _ W)).1 0 rfl
 have c1 : W.cell? ⟨g, 1, none⟩ = some (.int .u64 (tag : Int)) := World.rangeAt.cellAt0 (HCC.out W (Below.refl _ W)).1 1 rfl
 have c2 : W.cell? ⟨g, 2, none⟩ = some (.int .i64 code) := World.rangeAt.cellAt0 (HCC.out W (Below.refl _ W)).1 2 rfl
 have c3 : W.cell? ⟨g, 3, none⟩ = some (.slice A n c) := World.rangeAt.cellAt0 (HCC.out W (Below.refl _ W)).1 3 rfl
 have c4 : W.cell? ⟨g, 4, none⟩ = some (.slice B1 m d) := World.rangeAt.cellAt0 (HCC.out W (Below.refl _ W)).1 4 rfl
 have c5 : W.cell? ⟨g, 5, none⟩ = some (.slice C1 l e) := World.rangeAt.cellAt0 (HCC.out W (Below.refl _ W)).1 5 rfl
 have c6 : W.cell? ⟨g, 6, none⟩ = some (.string next) := World.rangeAt.cellAt0 (HCC.out W (Below.refl _ W)).1 6 rfl
 have c7 : W.cell? ⟨g, 7, none⟩ = some (.bool more) := World.rangeAt.cellAt0 (HCC.out W (Below.refl _ W)).1 7 rfl
 have c8 : W.cell? ⟨g, 8, none⟩ = some (.int .i64 ge) := World.rangeAt.cellAt0 (HCC.out W (Below.refl _ W)).1 8 rfl
 have c9 : W.cell? ⟨g, 9, none⟩ = some (.int .i64 gc) := World.rangeAt.cellAt0 (HCC.out W (Below.refl _ W)).1 9 rfl
 have c10 : W.cell? ⟨g, 10, none⟩ = some (.int .i64 size) := World.rangeAt.cellAt0 (HCC.out W (Below.refl _ W)).1 10 rfl
 have c11 : W.cell? ⟨g, 11, none⟩ = some (.int .i64 h1) := World.rangeAt.cellAt0 (HCC.out W (Below.refl _ W)).1 11 rfl
 have c12 : W.cell? ⟨g, 12, none⟩ = some (.int .i64 h2) := World.rangeAt.cellAt0 (HCC.out W (Below.refl _ W)).1 12 rfl
 have c13 : W.cell? ⟨g, 13, none⟩ = some (.int .i64 h3) := World.rangeAt.cellAt0 (HCC.out W (Below.refl _ W)).1 13 rfl
 have c14 : W.cell? ⟨g, 14, none⟩ = some (.int .i64 h4) := World.rangeAt.cellAt0 (HCC.out W (Below.refl _ W)).1 14 rfl
 have d0 : W.cell? ⟨g2, 0, none⟩ = some (.int .i64 k) := World.rangeAt.cellAt0 (HCC.out W (Below.refl _ W)).2 0 rfl
 have d1 : W.cell? ⟨g2, 1, none⟩ = some (.int .u64 (tag : Int)) := World.rangeAt.cellAt0 (HCC.out W (Below.refl _ W)).2 1 rfl
 have d2 : W.cell? ⟨g2, 2, none⟩ = some (.int .i64 code) := World.rangeAt.cellAt0 (HCC.out W (Below.refl _ W)).2 2 rfl
 have d3 : W.cell? ⟨g2, 3, none⟩ = some (.slice A' n' c') := World.rangeAt.cellAt0 (HCC.out W (Below.refl _ W)).2 3 rfl
 have d4 : W.cell? ⟨g2, 4, none⟩ = some (.slice B1' m' d') := World.rangeAt.cellAt0 (HCC.out W (Below.refl _ W)).2 4 rfl
 have d5 : W.cell? ⟨g2, 5, none⟩ = some (.slice C1' l' e') := World.rangeAt.cellAt0 (HCC.out W (Below.refl _ W)).2 5 rfl
 have d6 : W.cell? ⟨g2, 6, none⟩ = some (.string next') := World.rangeAt.cellAt0 (HCC.out W (Below.refl _ W)).2 6 rfl
 have d7 : W.cell? ⟨g2, 7, none⟩ = some (.bool more') := World.rangeAt.cellAt0 (HCC.out W (Below.refl _ W)).2 7 rfl
 have d8 : W.cell? ⟨g2, 8, none⟩ = some (.int .i64 ge') := World.rangeAt.cellAt0 (HCC.out W (Below.refl _ W)).2 8 rfl
 have d9 : W.cell? ⟨g2, 9, none⟩ = some (.int .i64 gc') := World.rangeAt.cellAt0 (HCC.out W (Below.refl _ W)).2 9 rfl
 have d10 : W.cell? ⟨g2, 10, none⟩ = some (.int .i64 size') := World.rangeAt.cellAt0 (HCC.out W (Below.refl _ W)).2 10 rfl
 have d11 : W.cell? ⟨g2, 11, none⟩ = some (.int .i64 h1') := World.rangeAt.cellAt0 (HCC.out W (Below.refl _ W)).2 11 rfl
 have d12 : W.cell? ⟨g2, 12, none⟩ = some (.int .i64 h2') := World.rangeAt.cellAt0 (HCC.out W (Below.refl _ W)).2 12 rfl
 have d13 : W.cell? ⟨g2, 13, none⟩ = some (.int .i64 h3') := World.rangeAt.cellAt0 (HCC.out W (Below.refl _ W)).2 13 rfl
 have d14 : W.cell? ⟨g2, 14, none⟩ = some (.int .i64 h4') := World.rangeAt.cellAt0 (HCC.out W (Below.refl _ W)).2 14 rfl
 clear hg1 hg2 hbw
 by_cases s1 : S = S'
 ·subst s1
  go_wp2_with fail
  refine (refSameTexts_any W B1 B1' m d m' d' B keys keys' (HH.out.2.2.1.below (HBX.out.2.2.mono HH.out.2.2.2.2.2.2)) (HH.out.2.2.2.1.below (HBX.out.2.2.mono HH.out.2.2.2.2.2.2)) q3).mono ?_
  rintro e w1 ⟨rfl, hb1⟩
  have HB1 := Hd.mk hb1
  clear hb1 f1 f2
  clear c0 c1 c2 c3 c4 c5 c6 c7 c8 c9 c10 c11 c12 c13 c14 d0 d1 d2 d3 d4 d5 d6 d7 d8 d9 d10 d11 d12 d13 d14
  obtain ⟨b2, hb2⟩ : ∃ b, decide (keys = keys') = b := ⟨_, rfl⟩
  have HB2 := Hd.mk hb2
  rw [hb2]
  clear hb2
  rcases hbb : b2 with _ | _
  ·subst hbb
   have c0 : w1.cell? ⟨g, 0, none⟩ = some (.int .i64 k) := World.rangeAt.cellAt0 (HCC.out w1 HB1.out).1 0 rfl
   have c1 : w1.cell? ⟨g, 1, none⟩ = some (.int .u64 (tag : Int)) := World.rangeAt.cellAt0 (HCC.out w1 HB1.out).1 1 rfl
   have c2 : w1.cell? ⟨g, 2, none⟩ = some (.int .i64 code) := World.rangeAt.cellAt0 (HCC.out w1 HB1.out).1 2 rfl
   have c3 : w1.cell? ⟨g, 3, none⟩ = some (.slice A n c) := World.rangeAt.cellAt0 (HCC.out w1 HB1.out).1 3 rfl
   have c4 : w1.cell? ⟨g, 4, none⟩ = some (.slice B1 m d) := World.rangeAt.cellAt0 (HCC.out w1 HB1.out).1 4 rfl
   have c5 : w1.cell? ⟨g, 5, none⟩ = some (.slice C1 l e) := World.rangeAt.cellAt0 (HCC.out w1 HB1.out).1 5 rfl
   have c6 : w1.cell? ⟨g, 6, none⟩ = some (.string next) := World.rangeAt.cellAt0 (HCC.out w1 HB1.out).1 6 rfl
   have c7 : w1.cell? ⟨g, 7, none⟩ = some (.bool more) := World.rangeAt.cellAt0 (HCC.out w1 HB1.out).1 7 rfl
   have c8 : w1.cell? ⟨g, 8, none⟩ = some (.int .i64 ge) := World.rangeAt.cellAt0 (HCC.out w1 HB1.out).1 8 rfl
   have c9 : w1.cell? ⟨g, 9, none⟩ = some (.int .i64 gc) := World.rangeAt.cellAt0 (HCC.out w1 HB1.out).1 9 rfl
   have c10 : w1.cell? ⟨g, 10, none⟩ = some (.int .i64 size) := World.rangeAt.cellAt0 (HCC.out w1 HB1.out).1 10 rfl
   have c11 : w1.cell? ⟨g, 11, none⟩ = some (.int .i64 h1) := World.rangeAt.cellAt0 (HCC.out w1 HB1.out).1 11 rfl
   have c12 : w1.cell? ⟨g, 12, none⟩ = some (.int .i64 h2) := World.rangeAt.cellAt0 (HCC.out w1 HB1.out).1 12 rfl
   have c13 : w1.cell? ⟨g, 13, none⟩ = some (.int .i64 h3) := World.rangeAt.cellAt0 (HCC.out w1 HB1.out).1 13 rfl
   have c14 : w1.cell? ⟨g, 14, none⟩ = some (.int .i64 h4) := World.rangeAt.cellAt0 (HCC.out w1 HB1.out).1 14 rfl
   have d0 : w1.cell? ⟨g2, 0, none⟩ = some (.int .i64 k) := World.rangeAt.cellAt0 (HCC.out w1 HB1.out).2 0 rfl
   have d1 : w1.cell? ⟨g2, 1, none⟩ = some (.int .u64 (tag : Int)) := World.rangeAt.cellAt0 (HCC.out w1 HB1.out).2 1 rfl
   have d2 : w1.cell? ⟨g2, 2, none⟩ = some (.int .i64 code) := World.rangeAt.cellAt0 (HCC.out w1 HB1.out).2 2 rfl
   have d3 : w1.cell? ⟨g2, 3, none⟩ = some (.slice A' n' c') := World.rangeAt.cellAt0 (HCC.out w1 HB1.out).2 3 rfl
   have d4 : w1.cell? ⟨g2, 4, none⟩ = some (.slice B1' m' d') := World.rangeAt.cellAt0 (HCC.out w1 HB1.out).2 4 rfl
   have d5 : w1.cell? ⟨g2, 5, none⟩ = some (.slice C1' l' e') := World.rangeAt.cellAt0 (HCC.out w1 HB1.out).2 5 rfl
   have d6 : w1.cell? ⟨g2, 6, none⟩ = some (.string next') := World.rangeAt.cellAt0 (HCC.out w1 HB1.out).2 6 rfl
   have d7 : w1.cell? ⟨g2, 7, none⟩ = some (.bool more') := World.rangeAt.cellAt0 (HCC.out w1 HB1.out).2 7 rfl
   have d8 : w1.cell? ⟨g2, 8, none⟩ = some (.int .i64 ge') := World.rangeAt.cellAt0 (HCC.out w1 HB1.out).2 8 rfl
   have d9 : w1.cell? ⟨g2, 9, none⟩ = some (.int .i64 gc') := World.rangeAt.cellAt0 (HCC.out w1 HB1.out).2 9 rfl
   have d10 : w1.cell? ⟨g2, 10, none⟩ = some (.int .i64 size') := World.rangeAt.cellAt0 (HCC.out w1 HB1.out).2 10 rfl
   have d11 : w1.cell? ⟨g2, 11, none⟩ = some (.int .i64 h1') := World.rangeAt.cellAt0 (HCC.out w1 HB1.out).2 11 rfl
   have d12 : w1.cell? ⟨g2, 12, none⟩ = some (.int .i64 h2') := World.rangeAt.cellAt0 (HCC.out w1 HB1.out).2 12 rfl
   have d13 : w1.cell? ⟨g2, 13, none⟩ = some (.int .i64 h3') := World.rangeAt.cellAt0 (HCC.out w1 HB1.out).2 13 rfl
   have d14 : w1.cell? ⟨g2, 14, none⟩ = some (.int .i64 h4') := World.rangeAt.cellAt0 (HCC.out w1 HB1.out).2 14 rfl
   go_wp2_with fail
   go_ret
   exact ⟨HE.out false ⟨fun h => absurd h.2.1 (of_decide_eq_false HB2.out), fun h => by cases h⟩, HBX.out.2.2.trans (HB1.out.mono HBX.out.2.2.size)⟩
  ·subst hbb
   have c0 : w1.cell? ⟨g, 0, none⟩ = some (.int .i64 k) := World.rangeAt.cellAt0 (HCC.out w1 HB1.out).1 0 rfl
   have c1 : w1.cell? ⟨g, 1, none⟩ = some (.int .u64 (tag : Int)) := World.rangeAt.cellAt0 (HCC.out w1 HB1.out).1 1 rfl
   have c2 : w1.cell? ⟨g, 2, none⟩ = some (.int .i64 code) := World.rangeAt.cellAt0 (HCC.out w1 HB1.out).1 2 rfl
   have c3 : w1.cell? ⟨g, 3, none⟩ = some (.slice A n c) := World.rangeAt.cellAt0 (HCC.out w1 HB1.out).1 3 rfl
   have c4 : w1.cell? ⟨g, 4, none⟩ = some (.slice B1 m d) := World.rangeAt.cellAt0 (HCC.out w1 HB1.out).1 4 rfl
   have c5 : w1.cell? ⟨g, 5, none⟩ = some (.slice C1 l e) := World.rangeAt.cellAt0 (HCC.out w1 HB1.out).1 5 rfl
   have c6 : w1.cell? ⟨g, 6, none⟩ = some (.string next) := World.rangeAt.cellAt0 (HCC.out w1 HB1.out).1 6 rfl
   have c7 : w1.cell? ⟨g, 7, none⟩ = some (.bool more) := World.rangeAt.cellAt0 (HCC.out w1 HB1.out).1 7 rfl
   have c8 : w1.cell? ⟨g, 8, none⟩ = some (.int .i64 ge) := World.rangeAt.cellAt0 (HCC.out w1 HB1.out).1 8 rfl
   have c9 : w1.cell? ⟨g, 9, none⟩ = some (.int .i64 gc) := World.rangeAt.cellAt0 (HCC.out w1 HB1.out).1 9 rfl
   have c10 : w1.cell? ⟨g, 10, none⟩ = some (.int .i64 size) := World.rangeAt.cellAt0 (HCC.out w1 HB1.out).1 10 rfl
   have c11 : w1.cell? ⟨g, 11, none⟩ = some (.int .i64 h1) := World.rangeAt.cellAt0 (HCC.out w1 HB1.out).1 11 rfl
   have c12 : w1.cell? ⟨g, 12, none⟩ = some (.int .i64 h2) := World.rangeAt.cellAt0 (HCC.out w1 HB1.out).1 12 rfl
   have c13 : w1.cell? ⟨g, 13, none⟩ = some (.int .i64 h3) := World.rangeAt.cellAt0 (HCC.out w1 HB1.out).1 13 rfl
   have c14 : w1.cell? ⟨g, 14, none⟩ = some (.int .i64 h4) := World.rangeAt.cellAt0 (HCC.out w1 HB1.out).1 14 rfl
   have d0 : w1.cell? ⟨g2, 0, none⟩ = some (.int .i64 k) := World.rangeAt.cellAt0 (HCC.out w1 HB1.out).2 0 rfl
   have d1 : w1.cell? ⟨g2, 1, none⟩ = some (.int .u64 (tag : Int)) := World.rangeAt.cellAt0 (HCC.out w1 HB1.out).2 1 rfl
   have d2 : w1.cell? ⟨g2, 2, none⟩ = some (.int .i64 code) := World.rangeAt.cellAt0 (HCC.out w1 HB1.out).2 2 rfl
   have d3 : w1.cell? ⟨g2, 3, none⟩ = some (.slice A' n' c') := World.rangeAt.cellAt0 (HCC.out w1 HB1.out).2 3 rfl
   have d4 : w1.cell? ⟨g2, 4, none⟩ = some (.slice B1' m' d') := World.rangeAt.cellAt0 (HCC.out w1 HB1.out).2 4 rfl
   have d5 : w1.cell? ⟨g2, 5, none⟩ = some (.slice C1' l' e') := World.rangeAt.cellAt0 (HCC.out w1 HB1.out).2 5 rfl
   have d6 : w1.cell? ⟨g2, 6, none⟩ = some (.string next') := World.rangeAt.cellAt0 (HCC.out w1 HB1.out).2 6 rfl
   have d7 : w1.cell? ⟨g2, 7, none⟩ = some (.bool more') := World.rangeAt.cellAt0 (HCC.out w1 HB1.out).2 7 rfl
   have d8 : w1.cell? ⟨g2, 8, none⟩ = some (.int .i64 ge') := World.rangeAt.cellAt0 (HCC.out w1 HB1.out).2 8 rfl
   have d9 : w1.cell? ⟨g2, 9, none⟩ = some (.int .i64 gc') := World.rangeAt.cellAt0 (HCC.out w1 HB1.out).2 9 rfl
   have d10 : w1.cell? ⟨g2, 10, none⟩ = some (.int .i64 size') := World.rangeAt.cellAt0 (HCC.out w1 HB1.out).2 10 rfl
   have d11 : w1.cell? ⟨g2, 11, none⟩ = some (.int .i64 h1') := World.rangeAt.cellAt0 (HCC.out w1 HB1.out).2 11 rfl
   have d12 : w1.cell? ⟨g2, 12, none⟩ = some (.int .i64 h2') := World.rangeAt.cellAt0 (HCC.out w1 HB1.out).2 12 rfl
   have d13 : w1.cell? ⟨g2, 13, none⟩ = some (.int .i64 h3') := World.rangeAt.cellAt0 (HCC.out w1 HB1.out).2 13 rfl
   have d14 : w1.cell? ⟨g2, 14, none⟩ = some (.int .i64 h4') := World.rangeAt.cellAt0 (HCC.out w1 HB1.out).2 14 rfl
   go_wp2_with fail
   refine (refSameTexts_any w1 C1 C1' l e l' e' B groups groups' (HH.out.2.2.2.2.1.below ((HBX.out.2.2.trans (HB1.out.mono HBX.out.2.2.size)).mono HH.out.2.2.2.2.2.2)) (HH.out.2.2.2.2.2.1.below ((HBX.out.2.2.trans (HB1.out.mono HBX.out.2.2.size)).mono HH.out.2.2.2.2.2.2)) q4).mono ?_
   rintro e_ w2 ⟨rfl, hb3⟩
   have HB3 := Hd.mk (HB1.out.trans (hb3.mono HB1.out.size))
   clear hb3
   clear c0 c1 c2 c3 c4 c5 c6 c7 c8 c9 c10 c11 c12 c13 c14 d0 d1 d2 d3 d4 d5 d6 d7 d8 d9 d10 d11 d12 d13 d14
   obtain ⟨b3, hb3⟩ : ∃ b, decide (groups = groups') = b := ⟨_, rfl⟩
   have HB4 := Hd.mk hb3
   rw [hb3]
   clear hb3
   rcases hbb : b3 with _ | _
   ·subst hbb
    have c0 : w2.cell? ⟨g, 0, none⟩ = some (.int .i64 k) := World.rangeAt.cellAt0 (HCC.out w2 HB3.out).1 0 rfl
    have c1 : w2.cell? ⟨g, 1, none⟩ = some (.int .u64 (tag : Int)) := World.rangeAt.cellAt0 (HCC.out w2 HB3.out).1 1 rfl
    have c2 : w2.cell? ⟨g, 2, none⟩ = some (.int .i64 code) := World.rangeAt.cellAt0 (HCC.out w2 HB3.out).1 2 rfl
    have c3 : w2.cell? ⟨g, 3, none⟩ = some (.slice A n c) := World.rangeAt.cellAt0 (HCC.out w2 HB3.out).1 3 rfl
    have c4 : w2.cell? ⟨g, 4, none⟩ = some (.slice B1 m d) := World.rangeAt.cellAt0 (HCC.out w2 HB3.out).1 4 rfl
    have c5 : w2.cell? ⟨g, 5, none⟩ = some (.slice C1 l e) := World.rangeAt.cellAt0 (HCC.out w2 HB3.out).1 5 rfl
    have c6 : w2.cell? ⟨g, 6, none⟩ = some (.string next) := World.rangeAt.cellAt0 (HCC.out w2 HB3.out).1 6 rfl
    have c7 : w2.cell? ⟨g, 7, none⟩ = some (.bool more) := World.rangeAt.cellAt0 (HCC.out w2 HB3.out).1 7 rfl
    have c8 : w2.cell? ⟨g, 8, none⟩ = some (.int .i64 ge) := World.rangeAt.cellAt0 (HCC.out w2 HB3.out).1 8 rfl
    have c9 : w2.cell? ⟨g, 9, none⟩ = some (.int .i64 gc) := World.rangeAt.cellAt0 (HCC.out w2 HB3.out).1 9 rfl
    have c10 : w2.cell? ⟨g, 10, none⟩ = some (.int .i64 size) := World.rangeAt.cellAt0 (HCC.out w2 HB3.out).1 10 rfl
    have c11 : w2.cell? ⟨g, 11, none⟩ = some (.int .i64 h1) := World.rangeAt.cellAt0 (HCC.out w2 HB3.out).1 11 rfl
    have c12 : w2.cell? ⟨g, 12, none⟩ = some (.int .i64 h2) := World.rangeAt.cellAt0 (HCC.out w2 HB3.out).1 12 rfl
    have c13 : w2.cell? ⟨g, 13, none⟩ = some (.int .i64 h3) := World.rangeAt.cellAt0 (HCC.out w2 HB3.out).1 13 rfl
    have c14 : w2.cell? ⟨g, 14, none⟩ = some (.int .i64 h4) := World.rangeAt.cellAt0 (HCC.out w2 HB3.out).1 14 rfl
    have d0 : w2.cell? ⟨g2, 0, none⟩ = some (.int .i64 k) := World.rangeAt.cellAt0 (HCC.out w2 HB3.out).2 0 rfl
    have d1 : w2.cell? ⟨g2, 1, none⟩ = some (.int .u64 (tag : Int)) := World.rangeAt.cellAt0 (HCC.out w2 HB3.out).2 1 rfl
    have d2 : w2.cell? ⟨g2, 2, none⟩ = some (.int .i64 code) := World.rangeAt.cellAt0 (HCC.out w2 HB3.out).2 2 rfl
    have d3 : w2.cell? ⟨g2, 3, none⟩ = some (.slice A' n' c') := World.rangeAt.cellAt0 (HCC.out w2 HB3.out).2 3 rfl
    have d4 : w2.cell? ⟨g2, 4, none⟩ = some (.slice B1' m' d') := World.rangeAt.cellAt0 (HCC.out w2 HB3.out).2 4 rfl
    have d5 : w2.cell? ⟨g2, 5, none⟩ = some (.slice C1' l' e') := World.rangeAt.cellAt0 (HCC.out w2 HB3.out).2 5 rfl
    have d6 : w2.cell? ⟨g2, 6, none⟩ = some (.string next') := World.rangeAt.cellAt0 (HCC.out w2 HB3.out).2 6 rfl
    have d7 : w2.cell? ⟨g2, 7, none⟩ = some (.bool more') := World.rangeAt.cellAt0 (HCC.out w2 HB3.out).2 7 rfl
    have d8 : w2.cell? ⟨g2, 8, none⟩ = some (.int .i64 ge') := World.rangeAt.cellAt0 (HCC.out w2 HB3.out).2 8 rfl
    have d9 : w2.cell? ⟨g2, 9, none⟩ = some (.int .i64 gc') := World.rangeAt.cellAt0 (HCC.out w2 HB3.out).2 9 rfl
    have d10 : w2.cell? ⟨g2, 10, none⟩ = some (.int .i64 size') := World.rangeAt.cellAt0 (HCC.out w2 HB3.out).2 10 rfl
    have d11 : w2.cell? ⟨g2, 11, none⟩ = some (.int .i64 h1') := World.rangeAt.cellAt0 (HCC.out w2 HB3.out).2 11 rfl
    have d12 : w2.cell? ⟨g2, 12, none⟩ = some (.int .i64 h2') := World.rangeAt.cellAt0 (HCC.out w2 HB3.out).2 12 rfl
    have d13 : w2.cell? ⟨g2, 13, none⟩ = some (.int .i64 h3') := World.rangeAt.cellAt0 (HCC.out w2 HB3.out).2 13 rfl
    have d14 : w2.cell? ⟨g2, 14, none⟩ = some (.int .i64 h4') := World.rangeAt.cellAt0 (HCC.out w2 HB3.out).2 14 rfl
    go_wp2_with fail
    go_ret
    exact ⟨HE.out false ⟨fun h => absurd h.2.2.1 (of_decide_eq_false HB4.out), fun h => by cases h⟩, HBX.out.2.2.trans (HB3.out.mono HBX.out.2.2.size)⟩
   ·subst hbb
    have c0 : w2.cell? ⟨g, 0, none⟩ = some (.int .i64 k) := World.rangeAt.cellAt0 (HCC.out w2 HB3.out).1 0 rfl
    have c1 : w2.cell? ⟨g, 1, none⟩ = some (.int .u64 (tag : Int)) := World.rangeAt.cellAt0 (HCC.out w2 HB3.out).1 1 rfl
    have c2 : w2.cell? ⟨g, 2, none⟩ = some (.int .i64 code) := World.rangeAt.cellAt0 (HCC.out w2 HB3.out).1 2 rfl
    have c3 : w2.cell? ⟨g, 3, none⟩ = some (.slice A n c) := World.rangeAt.cellAt0 (HCC.out w2 HB3.out).1 3 rfl
    have c4 : w2.cell? ⟨g, 4, none⟩ = some (.slice B1 m d) := World.rangeAt.cellAt0 (HCC.out w2 HB3.out).1 4 rfl
    have c5 : w2.cell? ⟨g, 5, none⟩ = some (.slice C1 l e) := World.rangeAt.cellAt0 (HCC.out w2 HB3.out).1 5 rfl
    have c6 : w2.cell? ⟨g, 6, none⟩ = some (.string next) := World.rangeAt.cellAt0 (HCC.out w2 HB3.out).1 6 rfl
    have c7 : w2.cell? ⟨g, 7, none⟩ = some (.bool more) := World.rangeAt.cellAt0 (HCC.out w2 HB3.out).1 7 rfl
    have c8 : w2.cell? ⟨g, 8, none⟩ = some (.int .i64 ge) := World.rangeAt.cellAt0 (HCC.out w2 HB3.out).1 8 rfl
    have c9 : w2.cell? ⟨g, 9, none⟩ = some (.int .i64 gc) := World.rangeAt.cellAt0 (HCC.out w2 HB3.out).1 9 rfl
    have c10 : w2.cell? ⟨g, 10, none⟩ = some (.int .i64 size) := World.rangeAt.cellAt0 (HCC.out w2 HB3.out).1 10 rfl
    have c11 : w2.cell? ⟨g, 11, none⟩ = some (.int .i64 h1) := World.rangeAt.cellAt0 (HCC.out w2 HB3.out).1 11 rfl
    have c12 : w2.cell? ⟨g, 12, none⟩ = some (.int .i64 h2) := World.rangeAt.cellAt0 (HCC.out w2 HB3.out).1 12 rfl
    have c13 : w2.cell? ⟨g, 13, none⟩ = some (.int .i64 h3) := World.rangeAt.cellAt0 (HCC.out w2 HB3.out).1 13 rfl
    have c14 : w2.cell? ⟨g, 14, none⟩ = some (.int .i64 h4) := World.rangeAt.cellAt0 (HCC.out w2 HB3.out).1 14 rfl
    have d0 : w2.cell? ⟨g2, 0, none⟩ = some (.int .i64 k) := World.rangeAt.cellAt0 (HCC.out w2 HB3.out).2 0 rfl
    have d1 : w2.cell? ⟨g2, 1, none⟩ = some (.int .u64 (tag : Int)) := World.rangeAt.cellAt0 (HCC.out w2 HB3.out).2 1 rfl
    have d2 : w2.cell? ⟨g2, 2, none⟩ = some (.int .i64 code) := World.rangeAt.cellAt0 (HCC.out w2 HB3.out).2 2 rfl
    have d3 : w2.cell? ⟨g2, 3, none⟩ = some (.slice A' n' c') := World.rangeAt.cellAt0 (HCC.out w2 HB3.out).2 3 rfl
    have d4 : w2.cell? ⟨g2, 4, none⟩ = some (.slice B1' m' d') := World.rangeAt.cellAt0 (HCC.out w2 HB3.out).2 4 rfl
    have d5 : w2.cell? ⟨g2, 5, none⟩ = some (.slice C1' l' e') := World.rangeAt.cellAt0 (HCC.out w2 HB3.out).2 5 rfl
    have d6 : w2.cell? ⟨g2, 6, none⟩ = some (.string next') := World.rangeAt.cellAt0 (HCC.out w2 HB3.out).2 6 rfl
    have d7 : w2.cell? ⟨g2, 7, none⟩ = some (.bool more') := World.rangeAt.cellAt0 (HCC.out w2 HB3.out).2 7 rfl
    have d8 : w2.cell? ⟨g2, 8, none⟩ = some (.int .i64 ge') := World.rangeAt.cellAt0 (HCC.out w2 HB3.out).2 8 rfl
    have d9 : w2.cell? ⟨g2, 9, none⟩ = some (.int .i64 gc') := World.rangeAt.cellAt0 (HCC.out w2 HB3.out).2 9 rfl
    have d10 : w2.cell? ⟨g2, 10, none⟩ = some (.int .i64 size') := World.rangeAt.cellAt0 (HCC.out w2 HB3.out).2 10 rfl
    have d11 : w2.cell? ⟨g2, 11, none⟩ = some (.int .i64 h1') := World.rangeAt.cellAt0 (HCC.out w2 HB3.out).2 11 rfl
    have d12 : w2.cell? ⟨g2, 12, none⟩ = some (.int .i64 h2') := World.rangeAt.cellAt0 (HCC.out w2 HB3.out).2 12 rfl
    have d13 : w2.cell? ⟨g2, 13, none⟩ = some (.int .i64 h3') := World.rangeAt.cellAt0 (HCC.out w2 HB3.out).2 13 rfl
    have d14 : w2.cell? ⟨g2, 14, none⟩ = some (.int .i64 h4') := World.rangeAt.cellAt0 (HCC.out w2 HB3.out).2 14 rfl
    have hk1 := of_decide_eq_true HB2.out
    have hk2 := of_decide_eq_true HB4.out
    have HE2 : Hd (∀ x : Bool, ((next.toList = next'.toList ∧ more = more' ∧ ge = ge' ∧ gc = gc' ∧ size = size' ∧ h1 = h1' ∧ h2 = h2' ∧ h3 = h3' ∧ h4 = h4') ↔ x = true) → Ending.returned (.bool x) = D) := ⟨fun x h => HE.out x (by
     rw [← h]
     exact ⟨fun ⟨_, _, _, q, r⟩ => ⟨congrArg ByteArray.toList q, r⟩, fun ⟨q, r⟩ => ⟨(by first | rfl | trivial), hk1, hk2, str_inj q, r⟩⟩)⟩
    have HFIN := Hd.mk (HBX.out.2.2.trans (HB3.out.mono HBX.out.2.2.size))
    clear hk1 hk2 HE HB1 HB2 HB3 HB4 HBX
    go_wp2_with fail
    all_goals
     go_ret
     refine ⟨HE2.out _ ?_, HFIN.out⟩
     clear HE2 HFIN HH HSS HCC
     clear c0 c1 c2 c3 c4 c5 c6 c7 c8 c9 c10 c11 c12 c13 c14 d0 d1 d2 d3 d4 d5 d6 d7 d8 d9 d10 d11 d12 d13 d14
     first | (simp_all; done) | (rw [Bool.eq_iff_iff]; simp_all; done) | trace_state
 ·have hbl : (S.toList == S'.toList) = false := by rw [Bool.eq_false_iff]; intro h; exact s1 (str_inj (eq_of_beq h))
  have hdl : decide (S.toList = S'.toList) = false := decide_eq_false (fun h => s1 (str_inj h))
  have hnl : ¬ S.toList = S'.toList := fun h => s1 (str_inj h)
  have HS1 := Hd.mk s1
  clear s1
  go_wp2_with fail
  go_ret
  exact ⟨HE.out false ⟨fun h => absurd h.1 HS1.out, fun h => by cases h⟩, HBX.out.2.2⟩
end Go.Proofs.Ytbcmjjcbjojakaa
