/- Contracts of the laws' none, equal, grown. -/
import Derived.Test.YtjkenhkoakaaoaaAskN
import Derived.Test.YtjkenhkoakaaoaaWantC
namespace Go.Proofs.Ytjkenhkoakaaoaa
open Go.RowKit
set_option linter.unusedVariables false
set_option maxRecDepth 20000
theorem none_any (w : World) (who kind N E : Int) (k : Nat) (hk : I64 kind) (hj : kind % 13 = (k : Int)) (h13 : k < 13) :
    Calls Try.prog 41 #[.agg #[.int .i64 who, .int .i64 kind, .int .i64 N, .int .i64 E]] w (TellsN w (noneF k).U) := by
  by_cases h10 : 10 < k
  · have hu : (noneF k).U = 1 := by
      have : k = 11 ∨ k = 12 := by omega
      rcases this with rfl | rfl <;> rfl
    rw [hu]
    have hk10 : (10 : Int) < (k : Int) := by omega
    go_enter Try.func41, Try.ntmps41
    go_wp2_with fail
    refine (pick_any _ kind 13 hk (by omega) (by omega)).mono ?_
    rw [hj]
    rintro e z ⟨rfl, rfl⟩
    clear hj hk
    go_wp2_with fail
    exact bodyPost_ret (v := .agg #[.int .u64 1, .slice none 0 0, .slice none 0 0]) (by simp [results, Try.results41, go_sem]) rfl ⟨rfl, ((Chg.refl [] w).alloc _).alloc _⟩
  · have hu : (noneF k).U = 0 := by
      have : k = 0 ∨ k = 1 ∨ k = 2 ∨ k = 3 ∨ k = 4 ∨ k = 5 ∨ k = 6 ∨ k = 7 ∨ k = 8 ∨ k = 9 ∨ k = 10 := by omega
      rcases this with rfl | rfl | rfl | rfl | rfl | rfl | rfl | rfl | rfl | rfl | rfl <;> rfl
    rw [hu]
    have hk10 : ¬ ((10 : Int) < (k : Int)) := by omega
    go_enter Try.func41, Try.ntmps41
    go_wp2_with fail
    refine (pick_any _ kind 13 hk (by omega) (by omega)).mono ?_
    rw [hj]
    rintro e z ⟨rfl, rfl⟩
    clear hj hk
    go_wp2_with fail
    exact bodyPost_ret (v := .agg #[.int .u64 0, .slice none 0 0, .slice none 0 0]) (by simp [results, Try.results41, go_sem]) rfl ⟨rfl, ((Chg.refl [] w).alloc _).alloc _⟩
set_option maxHeartbeats 1000000 in
theorem equal_any (w : World) (B : Nat) (U : Int) (A1 T1 A2 T2 : Option Addr) (n c1 c2 m d1 d2 : Nat) (lB : List Nat) (lT : List ByteArray) (h1 : Rd w B A1 n (cb lB)) (h2 : Rd w B A2 n (cb lB)) (t1 : Rd w B T1 m (cs lT)) (t2 : Rd w B T2 m (cs lT)) (hB : B ≤ w.heap.size) (hm : m ≤ 4398046511104) :
    Calls Try.prog 42 #[.agg #[.int .u64 U, .slice A1 n c1, .slice T1 m d1], .agg #[.int .u64 U, .slice A2 n c2, .slice T2 m d2]] w fun e w' => e = .returned (.bool true) ∧ Below w.heap.size w w' := by
  obtain ⟨W1, hW⟩ : ∃ W1, (w.alloc (.cells #[.int .u64 U, .slice A1 n c1, .slice T1 m d1] 72)).alloc (.cells #[.int .u64 U, .slice A2 n c2, .slice T2 m d2] 72) = W1 := ⟨_, rfl⟩
  have hb : Below w.heap.size w W1 := by rw [← hW]; exact ((Below.refl _ w).alloc (Nat.le_refl _) _).alloc (by simp) _
  have HW := Hd.mk hW
  have H1 : Hd (Rd W1 B T1 m (cs lT) ∧ Rd W1 B T2 m (cs lT) ∧ Below w.heap.size w W1) := ⟨t1.below (hb.mono hB), t2.below (hb.mono hB), hb⟩
  obtain ⟨S, hS⟩ : ∃ S, bstr lB = S := ⟨_, rfl⟩
  have f1 : (convert 45 9 (.slice A1 n c1)).run Try.prog ((w.alloc (.cells #[.int .u64 U, .slice A1 n c1, .slice T1 m d1] 72)).alloc (.cells #[.int .u64 U, .slice A2 n c2, .slice T2 m d2] 72)) = .ok (.string S) ((w.alloc (.cells #[.int .u64 U, .slice A1 n c1, .slice T1 m d1] 72)).alloc (.cells #[.int .u64 U, .slice A2 n c2, .slice T2 m d2] 72)) := by
    rw [hW]
    have h := h1.below (hb.mono hB)
    rw [cb_ints] at h
    rw [← hS]
    exact run_conv_str _ _ 5 Try.underlying45 Try.underlying5 infoStr c1 h
  have f2 : (convert 45 9 (.slice A2 n c2)).run Try.prog ((w.alloc (.cells #[.int .u64 U, .slice A1 n c1, .slice T1 m d1] 72)).alloc (.cells #[.int .u64 U, .slice A2 n c2, .slice T2 m d2] 72)) = .ok (.string S) ((w.alloc (.cells #[.int .u64 U, .slice A1 n c1, .slice T1 m d1] 72)).alloc (.cells #[.int .u64 U, .slice A2 n c2, .slice T2 m d2] 72)) := by
    rw [hW]
    have h := h2.below (hb.mono hB)
    rw [cb_ints] at h
    rw [← hS]
    exact run_conv_str _ _ 5 Try.underlying45 Try.underlying5 infoStr c2 h
  have es : (S.toList == S.toList) = true := by simp
  clear hW hb h1 h2 t1 t2 hS
  go_enter Try.func42, Try.ntmps42
  go_wp2_with fail
  rw [HW.out]
  refine (sameTexts_any W1 T1 T2 m d1 d2 B lT H1.out.1 H1.out.2.1 hm).mono ?_
  rintro e w2 ⟨rfl, hb⟩
  have H2 := Hd.mk (H1.out.2.2.trans (hb.mono H1.out.2.2.size))
  clear hb f1 f2
  go_wp2_with fail
  go_ret
  exact ⟨by simp, H2.out⟩
theorem own_types {w : World} {b1 b2 e1 e2 n1 n2 : Nat} {v1 v2 : Value} {x1 x2 : List Value} (h1 : w.ownsRow b1 e1 1 v1 n1 x1) (h2 : w.ownsRow b2 e2 1 v2 n2 x2) (hne : e1 ≠ e2) : ∀ g, v1.ownBlock = some g → v2.ownBlock ≠ some g := by
  intro g hg hg2
  rcases h1.2 with ⟨rfl, _⟩ | ⟨g1, c1, cur1, rfl, _, hb1, _⟩
  · cases hg
  rcases h2.2 with ⟨rfl, _⟩ | ⟨g2, c2, cur2, rfl, _, hb2, _⟩
  · cases hg2
  simp [Value.ownBlock] at hg hg2
  subst hg hg2
  rw [hb1] at hb2
  simp at hb2
  exact hne hb2.2
theorem own_grown {w w' : World} {base e n : Nat} {v : Value} {xs : List Value} {row : Option Nat} (h : w.ownsRow base e 1 v n xs) (hg : w.grownBy w' row) (hne : ∀ g, row = some g → v.ownBlock ≠ some g) : w'.ownsRow base e 1 v n xs := by
  refine ⟨h.1, ?_⟩
  rcases h.2 with h2 | ⟨g, cap, cur, rfl, hb, hgb, r⟩
  · exact .inl h2
  · exact .inr ⟨g, cap, cur, rfl, hb, (hg.block g (Array.getElem?_eq_some_iff.1 hgb).1 (fun he => hne g he.symm rfl)).trans hgb, r⟩
def grownS : ByteArray := ⟨#[103, 114, 111, 119, 110]⟩
set_option maxHeartbeats 2000000 in
theorem grown_any (w : World) (base n m c d : Nat) (U mark : Int) (A T : Option Addr) (lB : List Value) (lT : List Value) (oB : w.ownsRow base 5 1 (.slice A n c) n lB) (oT : w.ownsRow base 9 1 (.slice T m d) m lT) (hn : n ≤ 4398046511104) (hm : m ≤ 4398046511104) (hb : base ≤ w.heap.size) :
    Calls Try.prog 43 #[.agg #[.int .u64 U, .slice A n c, .slice T m d], .int .u8 mark] w fun e w' => (∃ v, e = .returned v) ∧ Below base w w' := by
  have H0 : Hd (w.ownsRow base 5 1 (.slice A n c) n lB ∧ w.ownsRow base 9 1 (.slice T m d) m lT ∧ base ≤ w.heap.size) := ⟨oB, oT, hb⟩
  clear oB oT hb
  go_enter Try.func43, Try.ntmps43
  go_wp2_with fail
  go_loopw [6, 7, 8] (fun s t i wr => ∃ (k : Nat) (xs ys : List Value), k ≤ 64 ∧ i = .int .i64 k ∧ wr.ownsRow base 5 1 s (n + k) xs ∧ wr.ownsRow base 9 1 t (m + k) ys ∧ Below base w wr) (fun _ _ i _ => 64 - (intOf i).toNat)
  case atStart => exact ⟨0, lB, lT, by omega, rfl, H0.out.1.alloc _, H0.out.2.1.alloc _, (Below.refl _ _).alloc H0.out.2.2 _⟩
  case round =>
    obtain ⟨k, xs, ys, hk, rfl, oB, oT, hb⟩ := hrel
    have H1 : Hd (wr.ownsRow base 5 1 u6 (n + k) xs ∧ wr.ownsRow base 9 1 u7 (m + k) ys ∧ Below base w wr ∧ base ≤ wr.heap.size) := ⟨oB, oT, hb, Nat.le_trans H0.out.2.2 hb.size⟩
    clear oB oT hb
    by_cases hlt : k < 64
    · have h63 : Hd (n + k + 1 ≤ maxLen ∧ m + k + 1 ≤ maxLen) := ⟨by unfold maxLen; omega, by unfold maxLen; omega⟩
      have hby : Hd ((n + k + 1) * 1 ≤ 140737488355328 ∧ (m + k + 1) * 16 ≤ 140737488355328) := ⟨by omega, by omega⟩
      go_wp2_with (first
        | (refine wpList_push elB rfl rfl (.tmp 17) (.tmp 18) 19 rfl rfl rfl base u6 _ _ _ rfl rfl rfl rfl H1.out.1 h63.out.1 hby.out.1 H1.out.2.2.2 ?_
           intro v2 w2 hO2
           have H2 : Hd (w2.ownsRow base 5 1 v2 (n + k + 1) (xs ++ [.int .u8 mark]) ∧ w2.ownsRow base 9 1 u7 (m + k) ys ∧ Below base w w2 ∧ base ≤ w2.heap.size) :=
             have hbl := hO2.below (B := base) (fun g hg => (H1.out.1.lt g hg).1) H1.out.2.2.2
             ⟨hO2.own, own_grown H1.out.2.1 hO2.2.1 (own_types H1.out.1 H1.out.2.1 (by decide)), H1.out.2.2.1.trans hbl, Nat.le_trans H1.out.2.2.2 hbl.size⟩
           clear hO2)
        | (refine wpList_push elS rfl rfl (.tmp 21) (.const (.string ⟨#[103, 114, 111, 119, 110]⟩)) 22 rfl rfl rfl base u7 _ _ _ rfl rfl rfl rfl H2.out.2.1 h63.out.2 hby.out.2 H2.out.2.2.2 ?_
           intro v3 w3 hO3
           have H3 : Hd (w3.ownsRow base 5 1 v2 (n + k + 1) (xs ++ [.int .u8 mark]) ∧ w3.ownsRow base 9 1 v3 (m + k + 1) (ys ++ [.string ⟨#[103, 114, 111, 119, 110]⟩]) ∧ Below base w w3) :=
             have hbl := hO3.below (B := base) (fun g hg => (H2.out.2.1.lt g hg).1) H2.out.2.2.2
             ⟨own_grown H2.out.1 hO3.2.1 (own_types H2.out.2.1 H2.out.1 (by decide)), hO3.own, H2.out.2.2.1.trans hbl⟩
           clear hO3))
      go_roundw
      case rel => exact ⟨k + 1, _, _, by omega, by go_num, H3.out.1, H3.out.2.1, H3.out.2.2⟩
      case measure => simp [intOf]; omega
    · go_wp2_with fail
      go_ret2
      exact ⟨⟨_, rfl⟩, H1.out.2.2.1⟩
end Go.Proofs.Ytjkenhkoakaaoaa
