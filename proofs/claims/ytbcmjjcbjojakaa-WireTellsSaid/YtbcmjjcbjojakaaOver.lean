
/- Contract of crc.over: what the register is behind the bytes. -/
import Derived.Test.YtbcmjjcbjojakaaHalves
import Derived.Test.YtbcmjjcbjojakaaMem
namespace Go.Proofs.Ytbcmjjcbjojakaa
open Go.RowKit
set_option linter.unusedVariables false
theorem tbl_lit : tbl = #[.int .u32 ((Crc.itT 4 0 : Nat) : Int), .int .u32 ((Crc.itT 4 1 : Nat) : Int), .int .u32 ((Crc.itT 4 2 : Nat) : Int), .int .u32 ((Crc.itT 4 3 : Nat) : Int), .int .u32 ((Crc.itT 4 4 : Nat) : Int), .int .u32 ((Crc.itT 4 5 : Nat) : Int), .int .u32 ((Crc.itT 4 6 : Nat) : Int), .int .u32 ((Crc.itT 4 7 : Nat) : Int), .int .u32 ((Crc.itT 4 8 : Nat) : Int), .int .u32 ((Crc.itT 4 9 : Nat) : Int), .int .u32 ((Crc.itT 4 10 : Nat) : Int), .int .u32 ((Crc.itT 4 11 : Nat) : Int), .int .u32 ((Crc.itT 4 12 : Nat) : Int), .int .u32 ((Crc.itT 4 13 : Nat) : Int), .int .u32 ((Crc.itT 4 14 : Nat) : Int), .int .u32 ((Crc.itT 4 15 : Nat) : Int)] := rfl
set_option maxRecDepth 100000 in
set_option maxHeartbeats 400000 in
theorem over_any (w : World) (R : Int) (h1 : 0 ≤ R) (h2 : R ≤ 4294967295) (A : Option Addr) (n c B : Nat) (l : List Nat) (hr : Rd w B A n (cb l)) (hB : B ≤ w.heap.size) (hl : ∀ x ∈ l, x < 256) (hn : n ≤ 140737488355328) :
    Calls Try.prog 118 #[.int .u32 R, .slice A n c] w fun e w' => e = .returned (.int .u32 ((Crc.ov R.toNat l : Nat) : Int)) ∧ Below w.heap.size w w' := by
  have HH : Hid (Rd w B A n (cb l) ∧ B ≤ w.heap.size ∧ (∀ x ∈ l, x < 256) ∧ n ≤ 140737488355328) := ⟨hr, hB, hl, hn⟩
  clear hr hB hl hn
  go_enter Try.func118, Try.ntmps118
  go_wp2_with (go_at_call 133; refine (halves_any _).mono ?_; rw [tbl_lit]; rintro e w1 ⟨rfl, hb1⟩)
  rw [← tbl_lit]
  have HW : Hid (Below w.heap.size w (w1.alloc (.cells tbl 173)) ∧ ∀ k, k < 16 → (w1.alloc (.cells tbl 173)).cell? ⟨w1.heap.size, k, none⟩ = some (.int .u32 ((Crc.itT 4 k : Nat) : Int))) := by
    refine ⟨hb1.alloc hb1.size _, fun k hk => ?_⟩
    rw [cell_of_row _ w1.heap.size k tbl 173 (0, 0) (heap_alloc_new w1 _)]
    unfold tbl
    simp [hk]
  obtain ⟨W2, hW2⟩ : ∃ W2, w1.alloc (.cells tbl 173) = W2 := ⟨_, rfl⟩
  rw [hW2] at HW ⊢
  clear hW2 hb1
  have hR : Hid (Rd W2 B A n (cb l)) := HH.out.1.below (HW.out.1.mono HH.out.2.1)
  have hnn : n ≤ 140737488355328 := HH.out.2.2.2
  go_loop [0, 11] (fun r i => ∃ k : Nat, k ≤ n ∧ i = .int .i64 k ∧ r = .int .u32 ((Crc.ov R.toNat (l.take k) : Nat) : Int)) (fun _ i => n - (intOf i).toNat)
  case atStart => exact ⟨0, by omega, rfl, by simp [Crc.ov]; omega⟩
  case round =>
    obtain ⟨k, hk, rfl, rfl⟩ := hrel
    have hll : l.length = n := by have := hR.out.1; rw [cb_length] at this; exact this
    have hp : Crc.ov R.toNat (l.take k) < 2 ^ 32 := Crc.ov_lt _ _ (by omega) (fun x hx => HH.out.2.2.1 x (List.mem_of_mem_take hx))
    by_cases hlt : k < n
    · obtain ⟨g, off, v, hA, _, hx, hc⟩ := hR.out.at_ hlt
      rw [cb_get _ _ (by omega)] at hx
      injection hx with hx
      have hxb : l.getD k 0 < 256 := by
        rw [List.getD_eq_getElem?_getD, List.getElem?_eq_getElem (by omega)]
        exact HH.out.2.2.1 _ (List.getElem_mem _)
      have hstep : Crc.ov R.toNat (l.take (k + 1)) = Crc.itT 8 (Crc.ov R.toNat (l.take k) ^^^ l.getD k 0) := by
        rw [List.take_succ_eq_append_getElem (by omega), Crc.ov_append, Crc.ov_cons, Crc.ov_nil, List.getD_eq_getElem?_getD, List.getElem?_eq_getElem (by omega)]; rfl
      have HS := hid hstep
      clear hstep
      generalize Crc.ov R.toNat (l.take k) = p at *
      generalize l.getD k 0 = x at *
      have q1 : p ^^^ x < 2 ^ 32 := Nat.xor_lt_two_pow hp (by omega)
      have hn1 := Crc.nib (p ^^^ x)
      have q2 : Crc.itT 4 (p ^^^ x) < 2 ^ 32 := Crc.itT_lt 4 _ q1
      have hn2 := Crc.nib (Crc.itT 4 (p ^^^ x))
      rw [Crc.two_nibs] at hn2
      have E1 := u32_xor_nat p x (by omega) (by omega)
      have E2 := and15_u32 ((p ^^^ x : Nat) : Int) (by omega) (by omega)
      have C1 := HW.out.2 ((p ^^^ x) % 16) (by omega)
      have i1 : Crc.itT 4 ((p ^^^ x) % 16) < 2 ^ 32 := Crc.itT_lt 4 _ (by omega)
      have E3 := xor_u32 ((p ^^^ x) / 16) (Crc.itT 4 ((p ^^^ x) % 16)) (by omega) (by omega) (((p ^^^ x : Nat) : Int) / 16) _ (by omega) rfl
      rw [hn1] at E3
      have E4 := and15_u32 ((Crc.itT 4 (p ^^^ x) : Nat) : Int) (by omega) (by omega)
      have C2 := HW.out.2 (Crc.itT 4 (p ^^^ x) % 16) (by omega)
      have i2 : Crc.itT 4 (Crc.itT 4 (p ^^^ x) % 16) < 2 ^ 32 := Crc.itT_lt 4 _ (by omega)
      have E5 := xor_u32 (Crc.itT 4 (p ^^^ x) / 16) (Crc.itT 4 (Crc.itT 4 (p ^^^ x) % 16)) (by omega) (by omega) (((Crc.itT 4 (p ^^^ x) : Nat) : Int) / 16) _ (by omega) rfl
      rw [hn2, ← HS.out] at E5
      generalize Crc.itT 4 ((p ^^^ x) % 16) = v1 at *
      generalize Crc.itT 4 (Crc.itT 4 (p ^^^ x) % 16) = v2 at *
      obtain ⟨z, hz⟩ : ∃ z, Crc.ov R.toNat (l.take (k + 1)) = z := ⟨_, rfl⟩
      rw [hz] at E5
      have HZ := hid hz
      clear hz
      clear hn1 hn2 HS
      generalize Crc.itT 4 (p ^^^ x) = y at *
      generalize p ^^^ x = q at *
      have b1 : (0 : Int) ≤ (q : Int) ∧ (q : Int) ≤ 4294967295 := by omega
      have b2 : (0 : Int) ≤ (y : Int) ∧ (y : Int) ≤ 4294967295 := by omega
      have b0 : (0 : Int) ≤ (x : Int) ∧ (x : Int) ≤ 255 := by omega
      have e2 : (q : Int) % 16 = ((q % 16 : Nat) : Int) := by omega
      have e4 : (y : Int) % 16 = ((y % 16 : Nat) : Int) := by omega
      rw [e2] at E2
      rw [e4] at E4
      have m1 : q % 16 < 16 := by omega
      have m2 : y % 16 < 16 := by omega
      generalize q % 16 = j1 at *
      generalize y % 16 = j2 at *
      clear e2 e4 hp hxb q1 q2 i1 i2
      obtain ⟨Q, hQ⟩ : ∃ Q : Int, (q : Int) = Q := ⟨_, rfl⟩
      obtain ⟨Y, hY⟩ : ∃ Y : Int, (y : Int) = Y := ⟨_, rfl⟩
      obtain ⟨X, hX⟩ : ∃ X : Int, (x : Int) = X := ⟨_, rfl⟩
      obtain ⟨PP, hP⟩ : ∃ X : Int, (p : Int) = X := ⟨_, rfl⟩
      rw [hX] at E1 hx b0
      rw [hP] at E1 ⊢
      obtain ⟨b5, b6⟩ := b0
      rw [hQ] at E1 E2 E3 b1
      rw [hY] at E3 E4 E5 b2
      obtain ⟨b1, b3⟩ := b1
      obtain ⟨b2, b4⟩ := b2
      clear hQ hY hX hP
      subst hx
      subst hA
      go_wp2
      go_round
      case rel => exact ⟨k + 1, by omega, by go_num, by rw [HZ.out]⟩
      case measure => simp [intOf]; omega
    · have hkn : k = n := by omega
      subst hkn
      have hfin : Crc.ov R.toNat (l.take k) = Crc.ov R.toNat l := by rw [← hll, List.take_length]
      rw [hfin]
      have HF := hid hfin
      clear hfin hp hll
      go_wp2
      go_ret
      exact ⟨rfl, HW.out.1⟩
end Go.Proofs.Ytbcmjjcbjojakaa
