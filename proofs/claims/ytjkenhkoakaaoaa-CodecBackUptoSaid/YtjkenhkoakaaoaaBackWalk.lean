/- The walk of CodecBack. -/
import Derived.Test.YtjkenhkoakaaoaaBackT
namespace Go.Proofs.Ytjkenhkoakaaoaa
open Go.RowKit
set_option linter.unusedVariables false
/-- The forms of the first n things, one behind the other. -/
def encs (T : Nat → Thg) : Nat → List Nat
  | 0 => []
  | n + 1 => encs T n ++ encT (T n)
theorem encs_split (T : Nat → Thg) (k : Nat) : ∀ n, k ≤ n → ∃ r, encs T n = encs T k ++ r
  | 0, h => ⟨[], by have : k = 0 := by omega
                    subst this; rfl⟩
  | n + 1, h => by
    rcases Nat.lt_or_ge k (n + 1) with h1 | h1
    · obtain ⟨r, hr⟩ := encs_split T k n (by omega)
      exact ⟨r ++ encT (T n), by rw [encs, hr, List.append_assoc]⟩
    · have : k = n + 1 := by omega
      subst this; exact ⟨[], by simp⟩
theorem encs_len_mono (T : Nat → Thg) (k n : Nat) (h : k ≤ n) : (encs T k).length ≤ (encs T n).length := by
  obtain ⟨r, hr⟩ := encs_split T k n h
  rw [hr, List.length_append]; omega
theorem encs_len (T : Nat → Thg) : ∀ n, (encs T n).length ≤ 20 * n + 11 * szs T n ∧ n ≤ (encs T n).length
  | 0 => by simp [encs]
  | n + 1 => by
    have h1 := encs_len T n
    have h2 := encT_len (T n)
    have h3 := encT_pos (T n)
    simp only [encs, List.length_append, szs]
    omega
theorem encs_lb (T : Nat → Thg) : ∀ n, (∀ r, r < n → (T r).Fine) → ∀ x ∈ encs T n, x < 256
  | 0, _ => by simp [encs]
  | n + 1, h => app_lt (encs_lb T n fun r hr => h r (by omega)) (encT_lb _ (h n (by omega)))
theorem things_fine {w : World} {Q : Nat} {A : Option Addr} {n : Nat} {T : Nat → Thg} (h : Things w Q A n T) (hz : szs T n ≤ 3145728) (r : Nat) (hr : r < n) : (T r).Fine := by
  obtain ⟨_, _, _, _, _, _, _, _, _, _, _, _, _, _, _, hb, hk, u0, u1, s0, s1⟩ := h r hr
  exact ⟨hk, hb, u0, u1, s0, s1, Nat.le_trans (szs_le T n r hr) hz⟩
set_option maxRecDepth 20000 in
set_option maxHeartbeats 8000000 in
theorem back_walk (a : Option Addr) (n cap : Nat) (T : Nat → Thg) (cut : Int) (w : World) (ht : Things w w.heap.size a n T) (hcap : n ≤ cap) (hn : n ≤ 1048576) (hz : szs T n ≤ 3145728) (hcut : (Lit.int .i64 cut).wf = true) :
    Calls Try.prog 11 #[.slice a n cap, .int .i64 cut] w fun e w' => e = .returned (.bool true) ∧ Below w.heap.size w w' := by
  have hcut' : I64 cut := by unfold I64; simpa [Lit.wf, IntKind.min, IntKind.max, IntKind.signed, IntKind.bits] using hcut
  obtain ⟨N, hN⟩ : ∃ N, (encs T n).length = N := ⟨_, rfl⟩
  have hNle := encs_len T n
  rw [hN] at hNle
  have H0 : Hd (Things w w.heap.size a n T ∧ szs T n ≤ 3145728 ∧ I64 cut ∧ (encs T n).length = N ∧ n ≤ N ∧ N ≤ 60000000) := ⟨ht, hz, hcut', hN, hNle.2, by omega⟩
  have HF := Hd.mk (things_fine ht hz)
  clear ht hz hcut hcut' hN hNle
  go_enter Try.func11, Try.ntmps11
  go_wp2_with fail
  refine (awake_any w).mono ?_
  rintro e w1 ⟨rfl, hch⟩
  have H1 := Hd.mk hch
  clear hch
  go_wp2_with fail
  go_loopw [5, 6] (fun bv i wr => ∃ (k m : Nat) (A2 : Option Addr) (c2 : Nat), k ≤ n ∧ i = .int .i64 k ∧ (encs T k).length = m ∧ bv = .slice A2 m c2 ∧ wr.ownsRow w.heap.size 5 1 (.slice A2 m c2) m (cb (encs T k)) ∧ Chg [] w wr) (fun _ i _ => n - (intOf i).toNat)
  case atStart => exact ⟨0, 0, none, 0, by omega, rfl, rfl, rfl, World.ownsRow_nil .., H1.out⟩
  case round =>
    obtain ⟨k, m, A2, c2, hk, rfl, hm, rfl, hown, hch⟩ := hrel
    have H2 : Hd ((encs T k).length = m ∧ wr.ownsRow w.heap.size 5 1 (.slice A2 m c2) m (cb (encs T k)) ∧ Chg [] w wr) := ⟨hm, hown, hch⟩
    clear hm hown hch
    by_cases hlt : k < n
    · obtain ⟨g, off, AB, cB, AT, cT, rfl, hg, q0, q1, q2, q3, q4, r1, r2, _⟩ := (H0.out.1.below (H2.out.2.2.below (Nat.le_refl _) (by simp))) k hlt
      have HR : Hd (Rd wr w.heap.size AB (T k).B.length (cb (T k).B) ∧ Rd wr w.heap.size AT (T k).X.length (cs (T k).X)) := ⟨r1, r2⟩
      clear r1 r2
      go_wp2_with fail
      refine (put_any wr A2 AB AT m c2 cB cT wr.heap.size (encs T k) (T k) (HF.out k hlt) (Rd.of_own H2.out.2.1) (HR.out.1.more H2.out.2.2.size) (HR.out.2.more H2.out.2.2.size) (Nat.le_refl _) (by have := encs_len_mono T k n (by omega); have := H0.out; have := H2.out.1; omega)).mono ?_
      rintro e w2 ⟨v2, rfl, hO⟩
      obtain ⟨A3, c3, rfl, _, _⟩ := own_form hO.own
      have H3 : Hd (w2.ownsRow w.heap.size 5 1 (.slice A3 (m + (encT (T k)).length) c3) (m + (encT (T k)).length) (cb (encs T (k + 1))) ∧ Chg [] w w2) :=
        ⟨own_base hO.own H2.out.2.2.size, H2.out.2.2.trans (Chg.of_below (hO.below (fun k h => by cases h) (Nat.le_refl _)))⟩
      clear hO q0 q1 q2 q3 q4
      go_wp2_with fail
      go_roundw
      case rel => exact ⟨k + 1, m + (encT (T k)).length, A3, c3, by omega, by go_num, by rw [encs, List.length_append, H2.out.1], rfl, H3.out.1, H3.out.2⟩
      case measure => simp [intOf]; omega
    · have hkn : k = n := by omega
      have hmN : m = N := by rw [← H2.out.1, hkn]; exact H0.out.2.2.2.1
      rw [hkn] at H2
      subst hmN
      clear hkn
      go_wp2_with fail
      have HX : Hd (Rd wr wr.heap.size A2 m (cb (encs T n)) ∧ ∀ x ∈ encs T n, x < 256) := ⟨Rd.of_own H2.out.2.1, encs_lb T n HF.out⟩
      refine (open_any wr A2 m c2 wr.heap.size (encs T n) HX.out.1 (Nat.le_refl _) (by have := H0.out; omega) HX.out.2).mono ?_
      rintro e w2 ⟨gr, A', c', rfl, hch, hrr, hgr, _⟩
      have H3 : Hd (Chg [] w w2 ∧ Rr w2 gr A' m c' 0 0 (encs T n) ∧ w.heap.size ≤ gr ∧ w2.ownsRow w.heap.size 5 1 (.slice A2 m c2) m (cb (encs T n)) ∧ (∀ j, (Value.slice A2 m c2).ownBlock = some j → j < gr) ∧ m ≤ c2) :=
        ⟨H2.out.2.2.trans hch, hrr, Nat.le_trans H2.out.2.2.size hgr, hch.own H2.out.2.1 (by simp), fun j hj => Nat.lt_of_lt_of_le (H2.out.2.1.lt j hj).2 hgr, by obtain ⟨_, _, e, hc, _⟩ := own_form H2.out.2.1; cases e; exact hc⟩
      clear hch hrr hgr HX
      go_wp2_with fail
      go_loopw [8] (fun i wr => ∃ (k : Nat), k ≤ n ∧ i = .int .i64 k ∧ Chg [] w wr ∧ Rr wr gr A' m c' (encs T k).length 0 (encs T n) ∧ wr.ownsRow w.heap.size 5 1 (.slice A2 m c2) m (cb (encs T n))) (fun i _ => n - (intOf i).toNat)
      case atStart => exact ⟨0, by omega, rfl, H3.out.1, H3.out.2.1, H3.out.2.2.2.1⟩
      case round =>
        obtain ⟨k, hk, rfl, hch, hrr, hown⟩ := hrel
        obtain ⟨wx, hwx⟩ : ∃ wx : World, wx = wr := ⟨_, rfl⟩
        have H4 : Hd (Chg [] w wr ∧ Rr wr gr A' m c' (encs T k).length 0 (encs T n) ∧ wr.ownsRow w.heap.size 5 1 (.slice A2 m c2) m (cb (encs T n))) := ⟨hch, hrr, hown⟩
        clear hch hrr hown hwx
        by_cases hlt : k < n
        · obtain ⟨g, off, AB, cB, AT, cT, rfl, hg, q0, q1, q2, q3, q4, r1, r2, _⟩ := (H0.out.1.below (H4.out.1.below (Nat.le_refl _) (by simp))) k hlt
          have HR : Hd (Rd wr w.heap.size AB (T k).B.length (cb (T k).B) ∧ Rd wr w.heap.size AT (T k).X.length (cs (T k).X)) := ⟨r1, r2⟩
          obtain ⟨rest, hrest⟩ := encs_split T (k + 1) n (by omega)
          have HE : Hd (encs T n = encs T k ++ encT (T k) ++ rest) := ⟨hrest⟩
          clear r1 r2 hrest
          go_wp2_with fail
          have hr := H4.out.2.1
          rw [HE.out] at hr
          refine (back_ok wr gr m c' A' AB AT cB cT w.heap.size (T k) (HF.out k hlt) HR.out.1 HR.out.2 H3.out.2.2.1 (encs T k) rest hr).mono ?_
          rintro e w4 ⟨b, rfl, hch, hrr, hb⟩
          have hb := hb rfl
          subst hb
          rw [← HE.out, show (encs T k).length + (encT (T k)).length = (encs T (k + 1)).length from by rw [encs, List.length_append]] at hrr
          have H5 : Hd (Chg [] w w4 ∧ Rr w4 gr A' m c' (encs T (k + 1)).length 0 (encs T n) ∧ w4.ownsRow w.heap.size 5 1 (.slice A2 m c2) m (cb (encs T n))) :=
            ⟨H4.out.1.onward hch (by have := H3.out.2.2.1; simp; omega), hrr, hch.own H4.out.2.2 (fun j hj => by have := H3.out.2.2.2.2.1 j hj; simp; omega)⟩
          clear hr hch hrr q0 q1 q2 q3 q4
          go_wp2_with fail
          refine (fault_any w4 gr m c' _ 0 A' _ H5.out.2.1).mono ?_
          rintro e y ⟨rfl, rfl⟩
          go_wp2_with fail
          go_roundw
          case rel => exact ⟨k + 1, by omega, by go_num, H5.out.1, H5.out.2.1, H5.out.2.2⟩
          case measure => simp [intOf]; omega
        · have hkn : k = n := by omega
          rw [hkn, H0.out.2.2.2.1] at H4
          clear hkn
          go_wp2_with fail
          refine (left_any wr gr m c' m 0 A' _ H4.out.2.1).mono ?_
          rintro e w4 ⟨rfl, hch⟩
          rw [Nat.sub_self]
          have H5 : Hd (Chg [] w w4 ∧ Rr w4 gr A' m c' m 0 (encs T n) ∧ w4.ownsRow w.heap.size 5 1 (.slice A2 m c2) m (cb (encs T n))) :=
            ⟨H4.out.1.trans hch, H4.out.2.1.keep' hch (by simp), hch.own H4.out.2.2 (by simp)⟩
          clear hch
          go_wp2_with fail
          refine (end_any w4 gr m c' m 0 A' _ H5.out.2.1).mono ?_
          rw [show endF m m 0 = 0 from by unfold endF; rw [if_neg (by simp), if_pos (by omega)]]
          rintro e w5 ⟨rfl, hch⟩
          have H6 : Hd (Chg [] w w5 ∧ w5.ownsRow w.heap.size 5 1 (.slice A2 m c2) m (cb (encs T n))) := ⟨H5.out.1.trans hch, hch.own H5.out.2.2 (by simp)⟩
          clear hch
          by_cases hm0 : m = 0
          · have hn0 : n = 0 := by have := H0.out; omega
            rw [hm0]
            subst hn0
            clear hm0
            go_wp2_with fail
            go_ret
            exact ⟨rfl, H6.out.1.below (Nat.le_refl _) (by simp)⟩
          · have hm0' : ((m : Int) == 0) = false := by simp; omega
            have hmle : (m : Int) ≤ 60000000 := by have := H0.out; omega
            have hmpos : 0 < m := by omega
            go_wp2_with fail
            obtain ⟨p, hp, hpm⟩ : ∃ p : Nat, cut % (m : Int) = (p : Int) ∧ p < m := ⟨(cut % (m : Int)).toNat, by have := Int.emod_nonneg cut (b := (m : Int)) (by omega); omega, by have := Int.emod_lt_of_pos cut (b := (m : Int)) (by omega); have := Int.emod_nonneg cut (b := (m : Int)) (by omega); omega⟩
            refine (pick_any w5 cut (m : Int) H0.out.2.2.1 (by omega) (by omega)).mono ?_
            rw [hp]
            rintro e y ⟨rfl, rfl⟩
            have sB := run_cut_to (P := Try.prog) (w := w5) elB A2 m c2 p (by have := H3.out.2.2.2.2.2; omega)
            clear hp
            go_wp2_with fail
            have hrd : Rd w5 w5.heap.size A2 p (cb ((encs T n).take p)) := by have h := (Rd.of_own H6.out.2).take (h := p) (by omega); unfold cb at h ⊢; rw [← List.map_take] at h; exact h
            refine (open_any w5 A2 p c2 w5.heap.size ((encs T n).take p) hrd (Nat.le_refl _) (by omega) (fun x hx => encs_lb T n HF.out x (List.mem_of_mem_take hx))).mono ?_
            rintro e w6 ⟨g2, A6, c6, rfl, hch, hrr, hgr, _⟩
            have H7 : Hd (Chg [] w w6 ∧ Rr w6 g2 A6 p c6 0 0 ((encs T n).take p) ∧ w.heap.size ≤ g2) := ⟨H6.out.1.trans hch, hrr, Nat.le_trans H6.out.1.size hgr⟩
            clear hch hrr hgr hrd sB
            go_wp2_with fail
            go_loopw [9] (fun i wr => ∃ (k : Nat), k ≤ n ∧ i = .int .i64 k ∧ (encs T k).length ≤ p ∧ Chg [] w wr ∧ Rr wr g2 A6 p c6 (encs T k).length 0 ((encs T n).take p)) (fun i _ => n - (intOf i).toNat)
            case atStart => exact ⟨0, by omega, rfl, Nat.zero_le _, H7.out.1, H7.out.2.1⟩
            case round =>
              obtain ⟨k, hk, rfl, hkp, hch, hrr⟩ := hrel
              have H8 : Hd ((encs T k).length ≤ p ∧ Chg [] w wr ∧ Rr wr g2 A6 p c6 (encs T k).length 0 ((encs T n).take p)) := ⟨hkp, hch, hrr⟩
              clear hkp hch hrr
              have hlt : k < n := by
                rcases Nat.lt_or_ge k n with h | h
                · exact h
                · have : k = n := by omega
                  subst this
                  have := H8.out.1; have := H0.out.2.2.2.1; omega
              obtain ⟨g, off, AB, cB, AT, cT, rfl, hg, q0, q1, q2, q3, q4, r1, r2, _⟩ := (H0.out.1.below (H8.out.2.1.below (Nat.le_refl _) (by simp))) k hlt
              have HR : Hd (Rd wr w.heap.size AB (T k).B.length (cb (T k).B) ∧ Rd wr w.heap.size AT (T k).X.length (cs (T k).X)) := ⟨r1, r2⟩
              obtain ⟨rest, hrest⟩ := encs_split T (k + 1) n (by omega)
              have HE : Hd (encs T n = encs T k ++ (encT (T k) ++ rest)) := ⟨by rw [← List.append_assoc]; exact hrest⟩
              clear r1 r2 hrest
              go_wp2_with fail
              by_cases hfit : (encs T (k + 1)).length ≤ p
              · have hE2 : (encs T n).take p = encs T k ++ encT (T k) ++ rest.take (p - (encs T (k + 1)).length) := by
                  rw [HE.out, ← List.append_assoc, List.take_append, List.take_of_length_le (by rw [← encs]; exact hfit)]
                  rfl
                have HE2 := Hd.mk hE2
                have hr := H8.out.2.2
                rw [hE2] at hr
                clear hE2
                refine (back_ok wr g2 p c6 A6 AB AT cB cT w.heap.size (T k) (HF.out k hlt) HR.out.1 HR.out.2 H7.out.2.2 (encs T k) _ hr).mono ?_
                rintro e w9 ⟨b, rfl, hch, hrr, hb⟩
                have hb := hb rfl
                subst hb
                rw [← HE2.out, show (encs T k).length + (encT (T k)).length = (encs T (k + 1)).length from by rw [encs, List.length_append]] at hrr
                have H9 : Hd ((encs T (k + 1)).length ≤ p ∧ Chg [] w w9 ∧ Rr w9 g2 A6 p c6 (encs T (k + 1)).length 0 ((encs T n).take p)) :=
                  ⟨hfit, H8.out.2.1.onward hch (by have := H7.out.2.2; simp; omega), hrr⟩
                clear hr hch hrr q0 q1 q2 q3 q4 hfit
                go_wp2_with fail
                refine (fault_any w9 g2 p c6 _ 0 A6 _ H9.out.2.2).mono ?_
                rintro e y ⟨rfl, rfl⟩
                go_wp2_with fail
                refine (fault_any w9 g2 p c6 _ 0 A6 _ H9.out.2.2).mono ?_
                rintro e y ⟨rfl, rfl⟩
                go_wp2_with fail
                go_roundw
                case rel => exact ⟨k + 1, by omega, by go_num, H9.out.1, H9.out.2.1, H9.out.2.2⟩
                case measure => simp [intOf]; omega
              · have hlen : (encs T (k + 1)).length = (encs T k).length + (encT (T k)).length := by rw [encs, List.length_append]
                have hj : p - (encs T k).length < (encT (T k)).length := by have := H8.out.1; omega
                have hE2 : (encs T n).take p = encs T k ++ (encT (T k)).take (p - (encs T k).length) := by
                  rw [HE.out, List.take_append, List.take_of_length_le H8.out.1, List.take_append_of_le_length (by omega)]
                have hr := H8.out.2.2
                rw [hE2] at hr
                have HJ := Hd.mk hj
                have HE2 := Hd.mk hE2
                clear hE2 hlen hj hfit
                refine (back_cut wr g2 p c6 A6 AB AT cB cT w.heap.size (T k) (HF.out k hlt) HR.out.1 HR.out.2 H7.out.2.2 (encs T k) _ HJ.out hr).mono ?_
                rintro e w9 ⟨b, rfl, hch, hrr, _⟩
                have H9 : Hd (Chg [] w w9 ∧ Rr w9 g2 A6 p c6 (encs T k).length 70 (encs T k ++ (encT (T k)).take (p - (encs T k).length))) := ⟨H8.out.2.1.onward hch (by have := H7.out.2.2; simp; omega), hrr⟩
                clear hr hch hrr q0 q1 q2 q3 q4
                go_wp2_with fail
                refine (fault_any w9 g2 p c6 _ 70 A6 _ H9.out.2).mono ?_
                rintro e y ⟨rfl, rfl⟩
                go_wp2_with fail
                refine (end_any w9 g2 p c6 _ 70 A6 _ H9.out.2).mono ?_
                rw [show endF p (encs T k).length 70 = 70 from by unfold endF; rw [if_pos (by decide)]]
                rintro e w10 ⟨rfl, hch⟩
                have H10 := Hd.mk (H9.out.1.trans hch)
                clear hch
                go_wp2_with fail
                go_ret
                exact ⟨rfl, H10.out.below (Nat.le_refl _) (by simp)⟩
end Go.Proofs.Ytjkenhkoakaaoaa
