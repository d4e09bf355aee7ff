/- Contract of wire.mayTell. -/
import Derived.Test.YtbcmjjcbjojakaaTellA
namespace Go.Proofs.Ytbcmjjcbjojakaa
open Go.RowKit
set_option linter.unusedVariables false
theorem anOk_of (kind code : Int) (tag : Nat) (body : List Nat) (keys groups : List ByteArray) (next : ByteArray) (more : Bool) (ge gc size h1 h2 h3 h4 : Int) (b g k p h : Bool)
    (hk : 1 ≤ kind ∧ kind ≤ 8) (hc : 0 ≤ code ∧ code ≤ 2147483647) (eb : b = true ↔ code = 0 ∧ (kind = 2 ∨ kind = 3)) (eg : g = true ↔ code = 0 ∧ kind = 4) (ek : k = true ↔ code = 0 ∧ (kind = 6 ∨ kind = 7)) (ep : p = true ↔ code = 0 ∧ kind = 7) (eh : h = true ↔ kind = 8) :
    emptyP b g k p h body.length keys.length groups.length next more ge gc size h1 h2 h3 h4 ↔ anOk ⟨kind, tag, code, body, keys, groups, next, more, ge, gc, size, h1, h2, h3, h4⟩ := by
  have nb : b = false ↔ ¬ (code = 0 ∧ (kind = 2 ∨ kind = 3)) := by rw [← eb]; simp
  have ng : g = false ↔ ¬ (code = 0 ∧ kind = 4) := by rw [← eg]; simp
  have nk : k = false ↔ ¬ (code = 0 ∧ (kind = 6 ∨ kind = 7)) := by rw [← ek]; simp
  have np : p = false ↔ ¬ (code = 0 ∧ kind = 7) := by rw [← ep]; simp
  have nh : h = false ↔ kind ≠ 8 := by rw [show (kind ≠ 8) = ¬ (kind = 8) from rfl, ← eh]; simp
  unfold emptyP anOk tBody tGen tKeys tPage
  rw [nb, ng, nk, np, nh]
  simp only [List.length_eq_zero_iff]
  exact ⟨fun ⟨a1, a2, a3, a4, a5⟩ => ⟨hk.1, hk.2, hc.1, hc.2, a1, a2, a3, a4, a5⟩, fun ⟨_, _, _, _, a1, a2, a3, a4, a5⟩ => ⟨a1, a2, a3, a4, a5⟩⟩
/-- A truth is answered. -/
def BoolPost (p : Prop) (w : World) (e : Ending) (w' : World) : Prop := ∃ r : Bool, e = .returned (.bool r) ∧ (r = true ↔ p) ∧ Below w.heap.size w w'
theorem BoolPost.mk {p : Prop} {w w' : World} {r : Bool} (h : r = true ↔ p) (b : Below w.heap.size w w') : BoolPost p w (.returned (.bool r)) w' := ⟨r, rfl, h, b⟩
set_option maxHeartbeats 4000000 in
theorem mayTell_any (w : World) (kind code : Int) (tag : Nat) (A A2 A3 : Option Addr) (n c n2 c2 n3 c3 : Nat) (body : List Nat) (keys groups : List ByteArray) (next : ByteArray) (more : Bool) (ge gc size h1 h2 h3 h4 : Int) (l1 : body.length = n) (l2 : keys.length = n2) (l3 : groups.length = n3) :
    Calls Try.prog 65 #[anV kind code tag A A2 A3 n c n2 c2 n3 c3 next more ge gc size h1 h2 h3 h4] w (BoolPost (anOk ⟨kind, tag, code, body, keys, groups, next, more, ge, gc, size, h1, h2, h3, h4⟩) w) := by
  have HA : Hd (∀ o, Below w.heap.size w (w.alloc o)) := ⟨fun o => (Below.refl _ w).alloc (Nat.le_refl _) _⟩
  have HO : Hd (∀ (b g k p h : Bool), 1 ≤ kind ∧ kind ≤ 8 → 0 ≤ code ∧ code ≤ 2147483647 → (b = true ↔ code = 0 ∧ (kind = 2 ∨ kind = 3)) → (g = true ↔ code = 0 ∧ kind = 4) → (k = true ↔ code = 0 ∧ (kind = 6 ∨ kind = 7)) → (p = true ↔ code = 0 ∧ kind = 7) → (h = true ↔ kind = 8) → ∀ W,
      Calls Try.prog 98 #[anV kind code tag A A2 A3 n c n2 c2 n3 c3 next more ge gc size h1 h2 h3 h4, .bool b, .bool g, .bool k, .bool p, .bool h] W fun e w' => ∃ r : Bool, e = .returned (.bool r) ∧ Hd ((r = true ↔ anOk ⟨kind, tag, code, body, keys, groups, next, more, ge, gc, size, h1, h2, h3, h4⟩) ∧ Below W.heap.size W w')) := ⟨fun b g k p h a1 a2 a3 a4 a5 a6 a7 W => (empty_any W kind code tag A A2 A3 n c n2 c2 n3 c3 next more ge gc size h1 h2 h3 h4 b g k p h).mono fun e w' ⟨⟨r, he, hr⟩, hb⟩ => ⟨r, he, ⟨by have := anOk_of kind code tag body keys groups next more ge gc size h1 h2 h3 h4 b g k p h a1 a2 a3 a4 a5 a6 a7; rw [l1, l2, l3] at this; exact hr.out.trans this, hb⟩⟩⟩
  have HN : Hd (¬ (1 ≤ kind ∧ kind ≤ 8 ∧ 0 ≤ code ∧ code ≤ 2147483647) → (false = true ↔ anOk ⟨kind, tag, code, body, keys, groups, next, more, ge, gc, size, h1, h2, h3, h4⟩)) := ⟨fun h => ⟨fun e => (by cases e), fun e => absurd ⟨e.1, e.2.1, e.2.2.1, e.2.2.2.1⟩ h⟩⟩
  clear l1 l2 l3
  unfold anV at HO ⊢
  go_enter Try.func65, Try.ntmps65
  by_cases q : 1 ≤ kind ∧ kind ≤ 8 ∧ 0 ≤ code ∧ code ≤ 2147483647
  · obtain ⟨k1, k2, k3, k4⟩ := q
    clear HN
    have HK := Hd.mk (And.intro (And.intro k1 k2) (And.intro k3 k4))
    by_cases c0 : code = 0
    · subst c0
      have hn : ∀ j : Int, kind ≠ j → (kind == j) = false := fun j h => beq_eq_false_iff_ne.2 h
      by_cases q2 : kind = 2
      · subst q2
        clear hn
        go_wp2_with fail
        refine (HO.out _ _ _ _ _ HK.out.1 HK.out.2 (by simp) (by simp) (by simp) (by simp) (by simp) _).mono ?_
        rintro e w2 ⟨r, rfl, H2⟩
        go_wp2_with fail
        go_ret
        exact BoolPost.mk H2.out.1 ((HA.out _).trans (H2.out.2.mono (by simp)))
      by_cases q3 : kind = 3
      · subst q3
        clear hn
        go_wp2_with fail
        refine (HO.out _ _ _ _ _ HK.out.1 HK.out.2 (by simp) (by simp) (by simp) (by simp) (by simp) _).mono ?_
        rintro e w2 ⟨r, rfl, H2⟩
        go_wp2_with fail
        go_ret
        exact BoolPost.mk H2.out.1 ((HA.out _).trans (H2.out.2.mono (by simp)))
      by_cases q4 : kind = 4
      · subst q4
        clear hn
        go_wp2_with fail
        refine (HO.out _ _ _ _ _ HK.out.1 HK.out.2 (by simp) (by simp) (by simp) (by simp) (by simp) _).mono ?_
        rintro e w2 ⟨r, rfl, H2⟩
        go_wp2_with fail
        go_ret
        exact BoolPost.mk H2.out.1 ((HA.out _).trans (H2.out.2.mono (by simp)))
      by_cases q6 : kind = 6
      · subst q6
        clear hn
        go_wp2_with fail
        refine (HO.out _ _ _ _ _ HK.out.1 HK.out.2 (by simp) (by simp) (by simp) (by simp) (by simp) _).mono ?_
        rintro e w2 ⟨r, rfl, H2⟩
        go_wp2_with fail
        go_ret
        exact BoolPost.mk H2.out.1 ((HA.out _).trans (H2.out.2.mono (by simp)))
      by_cases q7 : kind = 7
      · subst q7
        clear hn
        go_wp2_with fail
        refine (HO.out _ _ _ _ _ HK.out.1 HK.out.2 (by simp) (by simp) (by simp) (by simp) (by simp) _).mono ?_
        rintro e w2 ⟨r, rfl, H2⟩
        go_wp2_with fail
        go_ret
        exact BoolPost.mk H2.out.1 ((HA.out _).trans (H2.out.2.mono (by simp)))
      have b2 := hn 2 q2
      have b3 := hn 3 q3
      have b4 := hn 4 q4
      have b6 := hn 6 q6
      have b7 := hn 7 q7
      have HQ := Hd.mk (And.intro q2 (And.intro q3 (And.intro q4 (And.intro q6 q7))))
      clear hn q2 q3 q4 q6 q7
      go_wp2_with fail
      refine (HO.out _ _ _ _ _ HK.out.1 HK.out.2 (by have := HQ.out; simp; omega) (by have := HQ.out; simp; omega) (by have := HQ.out; simp; omega) (by have := HQ.out; simp; omega) (by simp) _).mono ?_
      rintro e w2 ⟨r, rfl, H2⟩
      go_wp2_with fail
      go_ret
      exact BoolPost.mk H2.out.1 ((HA.out _).trans (H2.out.2.mono (by simp)))
    · have c1 : (code == 0) = false := beq_eq_false_iff_ne.2 c0
      have HC := Hd.mk c0
      clear c0
      go_wp2_with fail
      refine (HO.out _ _ _ _ _ HK.out.1 HK.out.2 (by have := HC.out; simp [this]) (by have := HC.out; simp [this]) (by have := HC.out; simp [this]) (by have := HC.out; simp [this]) (by simp) _).mono ?_
      rintro e w2 ⟨r, rfl, H2⟩
      go_wp2_with fail
      go_ret
      exact BoolPost.mk H2.out.1 ((HA.out _).trans (H2.out.2.mono (by simp)))
  · have HF := Hd.mk (HN.out q)
    clear HO HN
    by_cases k1 : kind < 1
    · go_wp2_with fail; go_ret; exact BoolPost.mk HF.out (HA.out _)
    by_cases k2 : 8 < kind
    · go_wp2_with fail; go_ret; exact BoolPost.mk HF.out (HA.out _)
    by_cases k3 : code < 0
    · go_wp2_with fail; go_ret; exact BoolPost.mk HF.out (HA.out _)
    have k4 : 2147483647 < code := by omega
    go_wp2_with fail; go_ret; exact BoolPost.mk HF.out (HA.out _)
end Go.Proofs.Ytbcmjjcbjojakaa
