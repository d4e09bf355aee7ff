/- Contracts of the laws' polynomial and multiple: what multiple makes is blind. -/
import Derived.Test.YtofblciodgibdaaLaid
namespace Go.Proofs.Ytofblciodgibdaa
open Go.RowKit
set_option linter.unusedVariables false
namespace Crc
/-- The modulus' 33 bits, as bytes. -/
def poly : List Nat := [241, 118, 236, 5, 1]
def pbit (k : Nat) : Nat := poly.getD (k / 8) 0 / 2 ^ (k % 8) % 2
def part : Nat → Nat
  | 0 => 0
  | k + 1 => if pbit k = 1 then part k ^^^ 2 ^ k else part k
theorem part33 : part 33 = 4394350321 := by decide +kernel
theorem T_poly : T 4394350321 = 0 := by decide +kernel
theorem poly_out (K : Nat) (h : 1 ≤ K) : itT K (part 33) = 0 := by
  obtain ⟨n, rfl⟩ : ∃ n, K = n + 1 := ⟨K - 1, by omega⟩
  rw [part33]
  show itT n (T 4394350321) = 0
  rw [T_poly, itT_zero]
theorem part_step (L : List Nat) (N i k : Nat) (hL : L.length = N) (h : ov 0 L = itT (8 * N - i) (part k)) (hb : pbit k = 1) (hi : i + k < 8 * N) :
    ov 0 (lay L (i + k)) = itT (8 * N - i) (part (k + 1)) := by
  rw [part, if_pos hb, ov_lay L _ _ (by omega), h, itT_xor, itT_pow _ _ (by omega), hL, show 8 * N - i - k = 8 * N - (i + k) by omega]
theorem ov_zeros : ∀ n, ov 0 (List.replicate n 0) = 0
  | 0 => rfl
  | n + 1 => by
    rw [List.replicate_succ, ov_cons, Nat.xor_self, itT_zero, ov_zeros n]
end Crc
theorem polynomial_any (w : World) : Calls Try.prog 39 #[] w fun e w' => ∃ A c, e = .returned (.slice A 5 c) ∧ Rd w' w'.heap.size A 5 (cb Crc.poly) ∧ Below w.heap.size w w' := by
  go_enter Try.func39, Try.ntmps39
  go_wp2_with fail
  go_ret
  exact ⟨_, _, rfl, (rd_litF (cb Crc.poly) (0, 0)).more (by simp), (Below.refl _ _).alloc (Nat.le_refl _) _⟩
theorem u8_bit (x : Nat) (h : x < 256) (j : Nat) : bits .and .u8 ((x : Int) / 2 ^ j) 1 = ((x / 2 ^ j % 2 : Nat) : Int) := by
  have hd : (x : Int) / 2 ^ j = ((x / 2 ^ j : Nat) : Int) := by push_cast; rfl
  have hle : x / 2 ^ j ≤ x := Nat.div_le_self _ _
  rw [hd]
  clear hd
  generalize x / 2 ^ j = d at *
  have : ∀ d : Nat, d < 256 → bits .and .u8 (d : Int) 1 = ((d % 2 : Nat) : Int) := by decide +kernel
  exact this d (by omega)
theorem own_base {w : World} {base base' e n : Nat} {v : Value} {xs : List Value} (h : w.ownsRow base e 1 v n xs) (hb : base' ≤ base) : w.ownsRow base' e 1 v n xs :=
  ⟨h.1, h.2.imp id fun ⟨g, cap, cur, hv, hg, r⟩ => ⟨g, cap, cur, hv, Nat.le_trans hb hg, r⟩⟩
set_option maxRecDepth 100000 in
set_option maxHeartbeats 1000000 in
theorem multiple_any (w : World) (A : Option Addr) (n c : Nat) (m : List Nat) (hr : Rd w w.heap.size A n (cb m)) (hm : ∀ x ∈ m, x < 256) (hn : n ≤ 140737488351232) :
    Calls Try.prog 25 #[.slice A n c] w fun e w' => ∃ (g cap : Nat) (L : List Nat), e = .returned (.slice (some ⟨g, 0, none⟩) (n + 4) cap) ∧
      w'.ownsRow w.heap.size 5 1 (.slice (some ⟨g, 0, none⟩) (n + 4) cap) (n + 4) (cb L) ∧ (∀ x ∈ L, x < 256) ∧ Crc.ov 0 L = 0 ∧ L.length = n + 4 ∧ w.heap.size ≤ g ∧ Below w.heap.size w w' := by
  have hml : m.length = n := by have := hr.1; rw [cb_length] at this; exact this
  have S0 : Hd (RS w w [(A, n, m)]) := ⟨RS.start (by rintro x hx; simp only [List.mem_cons, List.not_mem_nil, or_false] at hx; rcases hx with rfl; exact hr)⟩
  have XM : Hd ((∀ x ∈ m, x < 256) ∧ m.length = n) := ⟨hm, hml⟩
  clear hr hm hml
  go_enter Try.func25, Try.ntmps25
  go_wp2_with fail
  refine (polynomial_any w).mono ?_
  rintro e w1 ⟨C, cc, rfl, hr, hb⟩
  have S1 := Hd.mk (S0.out.push hb hr)
  clear hr hb S0
  go_wp2_with fail
  go_loopw [4, 5] (fun s q wr => ∃ k : Nat, k ≤ n + 4 ∧ q = .int .i64 k ∧ Onto w1 wr w1.heap.size 5 (.slice none 0 0) s k (cb (List.replicate k 0))) (fun _ q _ => n + 4 - (intOf q).toNat)
  case atStart => exact ⟨0, by omega, rfl, Onto.nil w1 w1.heap.size 5⟩
  case round =>
    obtain ⟨k, hk, rfl, hO⟩ := hrel
    have HO : Hd (Onto w1 wr w1.heap.size 5 (.slice none 0 0) u4 k (cb (List.replicate k 0))) := ⟨hO⟩
    clear hO
    by_cases hlt : k < n + 4
    · have hlt2 : (k : Int) < (n : Int) + 4 := by omega
      have HB : Hd (w1.heap.size ≤ wr.heap.size) := ⟨HO.out.size⟩
      have h63 : Hd (k + 1 ≤ maxLen) := ⟨by unfold maxLen; omega⟩
      have hby : Hd ((k + 1) * 1 ≤ 140737488355328) := ⟨by omega⟩
      go_wp2_with (refine wpList_push elB rfl rfl (.tmp 16) (.const (.int .u8 0)) 17 rfl rfl rfl w1.heap.size u4 _ _ _ rfl rfl rfl rfl HO.out.own h63.out hby.out HB.out ?_; intro v1 w2 hO1)
      go_roundw
      case rel =>
        refine ⟨k + 1, by omega, by go_num, ?_⟩
        rw [List.replicate_succ', cb_append]
        exact HO.out.trans hO1
      case measure => simp [intOf]; omega
    · have hkn : k = n + 4 := by omega
      subst hkn
      have hlt2 : ¬ ((n + 4 : Nat) : Int) < (n : Int) + 4 := by omega
      have hlt3 : decide (((n + 4 : Nat) : Int) < (n : Int) + 4) = false := decide_eq_false hlt2
      obtain ⟨g, cap, hv, hg, hgs⟩ := own_pos HO.out.own (by omega)
      subst hv
      have b0 : Below w1.heap.size w1 wr := HO.out.below (fun k h => by cases h) (Nat.le_refl _)
      have H0 : Hd (wr.ownsRow w1.heap.size 5 1 (.slice (some ⟨g, 0, none⟩) (n + 4) cap) (n + 4) (cb (List.replicate (n + 4) 0)) ∧ Below w1.heap.size w1 wr ∧ w1.heap.size ≤ g) := ⟨HO.out.own, b0, hg⟩
      clear HO b0 hg hgs hlt2 hlt
      obtain ⟨W1, hW1⟩ : ∃ W1 : World, W1 = wr := ⟨_, rfl⟩
      rw [← hW1] at H0 ⊢
      clear hW1
      obtain ⟨N, hN⟩ : ∃ N, n + 4 = N := ⟨_, rfl⟩
      rw [hN] at H0 hlt3 ⊢
      go_wp2_with fail
      go_loopw [6] (fun q wr => ∃ (i : Nat) (L : List Nat), i ≤ 8 * n ∧ q = .int .i64 i ∧ L.length = N ∧ (∀ x ∈ L, x < 256) ∧ Crc.ov 0 L = 0 ∧ wr.ownsRow w1.heap.size 5 1 (.slice (some ⟨g, 0, none⟩) N cap) N (cb L) ∧ Below w1.heap.size w1 wr) (fun q _ => 8 * n - (intOf q).toNat)
      case atStart => exact ⟨0, List.replicate N 0, by omega, rfl, List.length_replicate, by intro x hx; rw [List.eq_of_mem_replicate hx]; decide, Crc.ov_zeros N, H0.out.1, H0.out.2.1⟩
      case round =>
        obtain ⟨i, L, hi, rfl, hL, hL2, hL0, hO, hB⟩ := hrel
        have HJ : Hd (L.length = N ∧ (∀ x ∈ L, x < 256) ∧ Crc.ov 0 L = 0 ∧ wr.ownsRow w1.heap.size 5 1 (.slice (some ⟨g, 0, none⟩) N cap) N (cb L) ∧ Below w1.heap.size w1 wr) := ⟨hL, hL2, hL0, hO, hB⟩
        clear hL hL2 hL0 hO hB
        by_cases hlt2 : i < 8 * n
        · have hlt4 : (i : Int) < 8 * (n : Int) := by omega
          have hi8 : i / 8 < n := by omega
          have hi9 : (i : Int) / 8 < (n : Int) := by omega
          obtain ⟨gm, om, vm, hA1, _, hx1, hc1⟩ := ((S1.out.get (A := A) (n := n) (bs := m) (by simp)).below HJ.out.2.2.2.2).at_ hi8
          rw [cb_get _ _ (by rw [XM.out.2]; exact hi8)] at hx1
          injection hx1 with hx1
          have b1 := getD_lt' XM.out.1 (k := i / 8) (by rw [XM.out.2]; exact hi8)
          generalize m.getD (i / 8) 0 = x at *
          have e1 := u8_bit x b1 (i % 8)
          have y2 : x / 2 ^ (i % 8) % 2 < 2 := by omega
          generalize x / 2 ^ (i % 8) % 2 = y at *
          obtain ⟨X, hX⟩ : ∃ X : Int, (x : Int) = X := ⟨_, rfl⟩
          have X1 : 0 ≤ X := by omega
          have X2 : X ≤ 255 := by omega
          rw [hX] at hx1 e1
          subst hx1 hA1
          clear hX b1
          by_cases hy : y = 1
          · subst hy
            have e2 : (bits .and .u8 (X / 2 ^ (i % 8)) 1 == 1) = true := by rw [e1]; rfl
            clear e1 y2
            go_wp2_with fail
            go_loopw [7] (fun q wi => ∃ (k : Nat) (L : List Nat), k ≤ 33 ∧ q = .int .i64 k ∧ L.length = N ∧ (∀ x ∈ L, x < 256) ∧ Crc.ov 0 L = Crc.itT (8 * N - i) (Crc.part k) ∧ wi.ownsRow w1.heap.size 5 1 (.slice (some ⟨g, 0, none⟩) N cap) N (cb L) ∧ Below w1.heap.size w1 wi) (fun q _ => 33 - (intOf q).toNat)
            case atStart => exact ⟨0, L, by omega, rfl, HJ.out.1, HJ.out.2.1, by rw [HJ.out.2.2.1]; exact (Crc.itT_zero _).symm, HJ.out.2.2.2.1, HJ.out.2.2.2.2⟩
            case round =>
              obtain ⟨k, K, hk, rfl, hL, hL2, hL0, hO, hB⟩ := hrel
              have HK : Hd (K.length = N ∧ (∀ x ∈ K, x < 256) ∧ Crc.ov 0 K = Crc.itT (8 * N - i) (Crc.part k) ∧ wr.ownsRow w1.heap.size 5 1 (.slice (some ⟨g, 0, none⟩) N cap) N (cb K) ∧ Below w1.heap.size w1 wr) := ⟨hL, hL2, hL0, hO, hB⟩
              clear hL hL2 hL0 hO hB
              by_cases hk33 : k < 33
              · have hk8 : k / 8 < 5 := by omega
                have hk9 : (k : Int) / 8 < 5 := by omega
                obtain ⟨gc, oc, vc, hA2, _, hx2, hc2⟩ := ((S1.out.get (A := C) (n := 5) (bs := Crc.poly) (by simp)).below HK.out.2.2.2.2).at_ hk8
                rw [cb_get _ _ (by exact hk8)] at hx2
                injection hx2 with hx2
                have b1 := getD_lt' (l := Crc.poly) (m := 256) (by decide) (k := k / 8) (by exact hk8)
                have PB : Hd (Crc.pbit k = Crc.poly.getD (k / 8) 0 / 2 ^ (k % 8) % 2) := ⟨rfl⟩
                generalize Crc.poly.getD (k / 8) 0 = x at *
                have e1 := u8_bit x b1 (k % 8)
                have y2 : x / 2 ^ (k % 8) % 2 < 2 := by omega
                generalize x / 2 ^ (k % 8) % 2 = y at *
                obtain ⟨Y, hY⟩ : ∃ X : Int, (x : Int) = X := ⟨_, rfl⟩
                have Y1 : 0 ≤ Y := by omega
                have Y2 : Y ≤ 255 := by omega
                rw [hY] at hx2 e1
                subst hx2 hA2
                clear hY b1
                by_cases hy : y = 1
                · subst hy
                  have e4 : (bits .and .u8 (Y / 2 ^ (k % 8)) 1 == 1) = true := by rw [e1]; rfl
                  clear e1 y2
                  go_wp2_with fail
                  refine (laid_any wr w1.heap.size g N cap (i + k) K HK.out.2.2.2.1 (by omega) HK.out.2.1 (by omega)).mono ?_
                  rintro e w3 ⟨rfl, hO3, hG3⟩
                  have H3 : Hd (w3.ownsRow w1.heap.size 5 1 (.slice (some ⟨g, 0, none⟩) N cap) N (cb (Crc.lay K (i + k))) ∧ Below w1.heap.size w1 w3) :=
                    ⟨hO3, HK.out.2.2.2.2.trans ((Below.refl _ _).grown hG3 HK.out.2.2.2.2.size (fun k hk => by injection hk with hk; rw [← hk]; exact H0.out.2.2))⟩
                  clear hO3 hG3
                  go_wp2_with fail
                  go_roundw
                  case rel => exact ⟨k + 1, Crc.lay K (i + k), by omega, by go_num, by rw [Crc.lay_len]; exact HK.out.1, Crc.lay_lt K _ HK.out.2.1 (by rw [HK.out.1]; omega), Crc.part_step K N i k HK.out.1 HK.out.2.2.1 PB.out (by omega), H3.out.1, H3.out.2⟩
                  case measure => simp [intOf]; omega
                · have hy0 : y = 0 := by omega
                  subst hy0
                  have e4 : (bits .and .u8 (Y / 2 ^ (k % 8)) 1 == 1) = false := by rw [e1]; rfl
                  clear e1 y2
                  go_wp2_with fail
                  go_roundw
                  case rel => exact ⟨k + 1, K, by omega, by go_num, HK.out.1, HK.out.2.1, by rw [Crc.part, if_neg (by rw [PB.out]; omega)]; exact HK.out.2.2.1, HK.out.2.2.2.1, HK.out.2.2.2.2⟩
                  case measure => simp [intOf]; omega
              · have hk33 : k = 33 := by omega
                subst hk33
                go_wp2_with fail
                go_roundw
                case rel => exact ⟨i + 1, K, by omega, by go_num, HK.out.1, HK.out.2.1, by rw [HK.out.2.2.1]; exact Crc.poly_out _ (by omega), HK.out.2.2.2.1, HK.out.2.2.2.2⟩
                case measure => simp [intOf]; omega
          · have hy0 : y = 0 := by omega
            subst hy0
            have e2 : (bits .and .u8 (X / 2 ^ (i % 8)) 1 == 1) = false := by rw [e1]; rfl
            clear e1 y2
            go_wp2_with fail
            go_roundw
            case rel => exact ⟨i + 1, L, by omega, by go_num, HJ.out.1, HJ.out.2.1, HJ.out.2.2.1, HJ.out.2.2.2.1, HJ.out.2.2.2.2⟩
            case measure => simp [intOf]; omega
        · have hi8 : i = 8 * n := by omega
          subst hi8
          have hlt5 : decide (((8 * n : Nat) : Int) < 8 * (n : Int)) = false := decide_eq_false (by omega)
          go_wp2_with fail
          subst hN
          go_ret
          exact ⟨g, cap, L, rfl, own_base HJ.out.2.2.2.1 S1.out.bel.size, HJ.out.2.1, HJ.out.2.2.1, HJ.out.1, Nat.le_trans S1.out.bel.size H0.out.2.2, S1.out.bel.trans (HJ.out.2.2.2.2.mono S1.out.bel.size)⟩
end Go.Proofs.Ytofblciodgibdaa
