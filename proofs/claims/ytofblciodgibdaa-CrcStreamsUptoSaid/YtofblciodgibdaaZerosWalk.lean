/- The walk of CrcZeros. -/
import Derived.Test.YtofblciodgibdaaZeros
import Derived.Test.YtofblciodgibdaaKnown
import Derived.Test.YtofblciodgibdaaLaid
import Derived.Deep.RegionHeld3
namespace Go.Proofs.Ytofblciodgibdaa
open Go.RowKit
set_option linter.unusedVariables false
/-- The three cells of x, still there behind a call. -/
theorem keep3 {w0 w1 w2 : World} {g B n : Nat} {u v t : Value} {A : Option Addr} {l : List Nat} (hb : Below w1.heap.size w1 w2)
    (h : w1.cell? ⟨g, 0, none⟩ = some u ∧ w1.cell? ⟨g, 1, none⟩ = some v ∧ w1.cell? ⟨g, 2, none⟩ = some t ∧ g < B ∧ B ≤ w1.heap.size ∧ Rd w1 B A n (cb l) ∧ Below w0.heap.size w0 w1) :
    w2.cell? ⟨g, 0, none⟩ = some u ∧ w2.cell? ⟨g, 1, none⟩ = some v ∧ w2.cell? ⟨g, 2, none⟩ = some t ∧ g < B ∧ B ≤ w2.heap.size ∧ Rd w2 B A n (cb l) ∧ Below w0.heap.size w0 w2 := by
  obtain ⟨h1, h2, h3, h4, h5, h6, h7⟩ := h
  have := hb.size
  exact ⟨(hb.cell (p := ⟨g, 0, none⟩) (by show g < _; omega)).trans h1, (hb.cell (p := ⟨g, 1, none⟩) (by show g < _; omega)).trans h2, (hb.cell (p := ⟨g, 2, none⟩) (by show g < _; omega)).trans h3, h4, by omega, h6.below (hb.mono h5), h7.trans (hb.mono h7.size)⟩
theorem join_int (w : World) (A B N V : Int) (a1 : 0 ≤ A) (a2 : A ≤ 4294967295) (b1 : 0 ≤ B) (b2 : B ≤ 4294967295) (n1 : -9223372036854775808 ≤ N) (n2 : N ≤ 9223372036854775807) (hV : ((Crc.itT (8 * N.toNat) A.toNat ^^^ B.toNat : Nat) : Int) = V) :
    Calls Try.prog 35 #[.int .u32 A, .int .u32 B, .int .i64 N] w fun e w' => e = .returned (.int .u32 V) ∧ Below w.heap.size w w' := by
  have := join_any w A.toNat B.toNat N (by omega) (by omega) n1 n2
  rw [Int.toNat_of_nonneg a1, Int.toNat_of_nonneg b1, hV] at this
  exact this
theorem more_V (w : World) (A : Option Addr) (n c B : Nat) (l : List Nat) (R V : Int) (h1 : 0 ≤ R) (h2 : R ≤ 4294967295) (hr : Rd w B A n (cb l)) (hB : B ≤ w.heap.size) (hl : ∀ x ∈ l, x < 256) (hn : n ≤ 140737488355328) (hV : ((Crc.more R.toNat l : Nat) : Int) = V) :
    Calls Try.prog 17 #[.int .u32 R, .slice A n c] w fun e w' => e = .returned (.int .u32 V) ∧ Below w.heap.size w w' := by
  have := more_any w A n c B l R h1 h2 hr hB hl hn
  rw [hV] at this
  exact this
set_option maxRecDepth 100000 in
set_option maxHeartbeats 2000000 in
theorem zeros_walk (a b : Nat) (N m : Int) (w : World) (ha : a < 4294967296) (hb : b < 4294967296) (n1 : -9223372036854775808 ≤ N) (n2 : N ≤ 9223372036854775807) (m1 : -9223372036854775808 ≤ m) (m2 : m ≤ 9223372036854775807) :
    Calls Try.prog 13 #[.agg #[.int .u32 (a : Int), .int .u32 (b : Int), .int .i64 N], .int .i64 m] w fun e w' => e = .returned (.bool true) ∧ Below w.heap.size w w' := by
  obtain ⟨n, hn, hn3⟩ : ∃ n : Nat, N % 301 = (n : Int) ∧ n < 301 := ⟨(N % 301).toNat, by omega, by omega⟩
  obtain ⟨A1, hA1⟩ : ∃ A1, N % 2305843009213693952 = A1 := ⟨_, rfl⟩
  obtain ⟨B1, hB1⟩ : ∃ B1, m % 2305843009213693952 = B1 := ⟨_, rfl⟩
  have p1 : 0 ≤ A1 := by omega
  have p2 : A1 < 2305843009213693952 := by omega
  have p3 : 0 ≤ B1 := by omega
  have p4 : B1 < 2305843009213693952 := by omega
  have k0 := mask61 N
  have k1 := mask61 m
  rw [hA1] at k0
  rw [hB1] at k1
  clear hA1 hB1
  obtain ⟨V1, v11, v12, hV1⟩ : ∃ V1 : Int, 0 ≤ V1 ∧ V1 ≤ 4294967295 ∧ ((Crc.itT (8 * A1.toNat) a : Nat) : Int) = V1 := ⟨_, by omega, by have := Crc.itT_lt (8 * A1.toNat) a ha; omega, rfl⟩
  obtain ⟨V2, hV2⟩ : ∃ V2 : Int, ((Crc.itT (8 * (A1 + B1).toNat) a ^^^ b : Nat) : Int) = V2 := ⟨_, rfl⟩
  obtain ⟨V3, hV3⟩ : ∃ V3 : Int, ((Crc.itT (8 * A1.toNat) a ^^^ b : Nat) : Int) = V3 := ⟨_, rfl⟩
  obtain ⟨V4, hV4⟩ : ∃ V4 : Int, ((a ^^^ b : Nat) : Int) = V4 := ⟨_, rfl⟩
  have y1 : (V2 != V2) = false := by simp
  have y2 : (V3 == V3) = true := by simp
  have y3 : (V4 == V4) = true := by simp
  have y4 := u32_xor_nat a b ha hb
  rw [hV4] at y4
  have HV4 : Hd (((Crc.itT (8 * A1.toNat) a ^^^ 0 : Nat) : Int) = V1 ∧ ((Crc.itT (8 * B1.toNat) V1.toNat ^^^ b : Nat) : Int) = V2 ∧ ((Crc.itT (8 * (A1 + B1).toNat) a ^^^ b : Nat) : Int) = V2 ∧ ((Crc.itT (8 * A1.toNat) a ^^^ b : Nat) : Int) = V3 ∧ ((Crc.itT (8 * (A1 + 2147483648 - 1).toNat) a ^^^ b : Nat) : Int) = V3 ∧ ((Crc.itT (8 * (2147483647 : Int).toNat) a ^^^ b : Nat) : Int) = V4) := by
    refine ⟨by rw [Nat.xor_zero]; exact hV1, ?_, hV2, hV3, ?_, ?_⟩
    · rw [← hV2, ← hV1, Int.toNat_natCast, ← Crc.itT_add, show 8 * (A1 + B1).toNat = 8 * A1.toNat + 8 * B1.toNat by omega]
    · rw [← hV3, show 8 * (A1 + 2147483648 - 1).toNat = 2147483647 * 8 + 8 * A1.toNat by omega, Crc.itT_add, Crc.round a 8 ha]
    · rw [← hV4, show 8 * (2147483647 : Int).toNat = 2147483647 * 8 from rfl, Crc.round a 8 ha]
  clear hV1 hV2 hV3 hV4
  have W1 : Hd (IntKind.i64.wrap (A1 + B1) = A1 + B1) := ⟨by rw [IntKind.wrap_i64]; omega⟩
  have W2 : Hd (IntKind.i64.wrap (A1 + 2147483648) = A1 + 2147483648) := ⟨by rw [IntKind.wrap_i64]; omega⟩
  have W3 : Hd (IntKind.i64.wrap (A1 + 2147483648 - 1) = A1 + 2147483648 - 1) := ⟨by rw [IntKind.wrap_i64]; omega⟩
  go_enter Try.func13, Try.ntmps13
  go_wp2_with fail
  refine (place_any _ N 301 n1 n2 (by omega) (by omega)).mono ?_
  rw [hn]
  rintro e w1 ⟨rfl, rfl⟩
  have HW : Hd ((w.alloc (.cells #[.int .u32 (a : Int), .int .u32 (b : Int), .int .i64 N] 59)).cell? ⟨w.heap.size, 0, none⟩ = some (.int .u32 (a : Int)) ∧ (w.alloc (.cells #[.int .u32 (a : Int), .int .u32 (b : Int), .int .i64 N] 59)).cell? ⟨w.heap.size, 1, none⟩ = some (.int .u32 (b : Int)) ∧
      (w.alloc (.cells #[.int .u32 (a : Int), .int .u32 (b : Int), .int .i64 N] 59)).cell? ⟨w.heap.size, 2, none⟩ = some (.int .i64 N) ∧ w.heap.size < (w.alloc (.cells #[.int .u32 (a : Int), .int .u32 (b : Int), .int .i64 N] 59)).heap.size ∧ Below w.heap.size w (w.alloc (.cells #[.int .u32 (a : Int), .int .u32 (b : Int), .int .i64 N] 59))) :=
    ⟨by rw [cell_of_row _ _ 0 _ _ (0, 0) (heap_alloc_new w _)]; rfl, by rw [cell_of_row _ _ 1 _ _ (0, 0) (heap_alloc_new w _)]; rfl, by rw [cell_of_row _ _ 2 _ _ (0, 0) (heap_alloc_new w _)]; rfl, by simp, (Below.refl _ w).alloc (Nat.le_refl _) _⟩
  obtain ⟨WW, hWW⟩ : ∃ WW, w.alloc (.cells #[.int .u32 (a : Int), .int .u32 (b : Int), .int .i64 N] 59) = WW := ⟨_, rfl⟩
  rw [hWW] at HW ⊢
  clear hWW
  obtain ⟨G, hG⟩ : ∃ G, w.heap.size = G := ⟨_, rfl⟩
  have HG := Hd.mk hG
  rw [hG] at HW ⊢
  clear hG
  go_wp2_with fail
  go_loopw [6, 7] (fun z i wr => ∃ k : Nat, k ≤ n ∧ i = .int .i64 k ∧ Onto WW wr WW.heap.size 5 (.slice none 0 0) z k (cb (List.replicate k 0))) (fun _ i _ => n - (intOf i).toNat)
  case atStart => exact ⟨0, by omega, rfl, Onto.nil WW WW.heap.size 5⟩
  case round =>
    obtain ⟨k, hk, rfl, hO⟩ := hrel
    have HO : Hd (Onto WW wr WW.heap.size 5 (.slice none 0 0) u6 k (cb (List.replicate k 0)) ∧ WW.heap.size ≤ wr.heap.size) := ⟨hO, hO.size⟩
    clear hO
    by_cases hlt : k < n
    · have h63 : Hd (k + 1 ≤ maxLen) := ⟨by unfold maxLen; omega⟩
      have hby : Hd ((k + 1) * 1 ≤ 140737488355328) := ⟨by omega⟩
      go_wp2_with (refine wpList_push elB rfl rfl (.tmp 18) (.const (.int .u8 0)) 19 rfl rfl rfl WW.heap.size u6 _ _ _ rfl rfl rfl rfl HO.out.1.own h63.out hby.out HO.out.2 ?_; intro v1 w2 hO1)
      go_roundw
      case rel =>
        refine ⟨k + 1, by omega, by go_num, ?_⟩
        rw [List.replicate_succ', cb_append]
        exact HO.out.1.trans hO1
      case measure => simp [intOf]; omega
    · have hkn : n = k := by omega
      subst hkn
      obtain ⟨Z, cz, hZ, _, _⟩ := own_form HO.out.1.own
      subst hZ
      have hbl := HO.out.1.below (B := WW.heap.size) (fun k h => by cases h) (Nat.le_refl _)
      have HS : Hd (wr.cell? ⟨G, 0, none⟩ = some (.int .u32 (a : Int)) ∧ wr.cell? ⟨G, 1, none⟩ = some (.int .u32 (b : Int)) ∧ wr.cell? ⟨G, 2, none⟩ = some (.int .i64 N) ∧ G < wr.heap.size ∧ wr.heap.size ≤ wr.heap.size ∧ Rd wr wr.heap.size Z n (cb (List.replicate n 0)) ∧ Below w.heap.size w wr) :=
        ⟨(hbl.cell (p := ⟨G, 0, none⟩) HW.out.2.2.2.1).trans HW.out.1, (hbl.cell (p := ⟨G, 1, none⟩) HW.out.2.2.2.1).trans HW.out.2.1, (hbl.cell (p := ⟨G, 2, none⟩) HW.out.2.2.2.1).trans HW.out.2.2.1, Nat.lt_of_lt_of_le HW.out.2.2.2.1 HO.out.2, Nat.le_refl _, Rd.of_own HO.out.1.own, by have := HW.out.2.2.2.2; rw [HG.out]; exact this.trans (hbl.mono (Nat.le_of_lt HW.out.2.2.2.1))⟩
      clear hbl HO
      obtain ⟨BB, hBB⟩ : ∃ BB, BB = wr.heap.size := ⟨_, rfl⟩
      rw [← hBB] at HS
      have HB : Hd (BB = wr.heap.size) := ⟨hBB⟩
      clear hBB
      have x1 := not_u32' (a : Int) (by omega) (by omega)
      have ht : Crc.itT (8 * n) a < 4294967296 := Crc.itT_lt _ _ ha
      have HM : Hd (((Crc.more (4294967295 - (a : Int)).toNat (List.replicate n 0) : Nat) : Int) = 4294967295 - ((Crc.itT (8 * n) a : Nat) : Int)) := ⟨by
        unfold Crc.more
        rw [show (4294967295 : Nat) - (4294967295 - (a : Int)).toNat = a by omega, Crc.ov_zeros]; omega⟩
      have HJ : Hd (Crc.itT (8 * ((n : Int)).toNat) a ^^^ b = Crc.itT (8 * n) a ^^^ b) := ⟨by rw [Int.toNat_natCast]⟩
      have x3 := u32_xor_nat (Crc.itT (8 * n) a) b ht hb
      obtain ⟨t, htt⟩ : ∃ t, Crc.itT (8 * n) a = t := ⟨_, rfl⟩
      rw [htt] at ht HM HJ x3
      rw [← htt] at HJ
      have x2 := not_u32' (4294967295 - (t : Int)) (by omega) (by omega)
      rw [show (4294967295 : Int) - (4294967295 - (t : Int)) = (t : Int) by omega] at x2
      obtain ⟨v, hvv⟩ : ∃ v, t ^^^ b = v := ⟨_, rfl⟩
      rw [hvv] at x3
      obtain ⟨T, hT⟩ : ∃ T : Int, (t : Int) = T := ⟨_, rfl⟩
      obtain ⟨V, hV⟩ : ∃ T : Int, (v : Int) = T := ⟨_, rfl⟩
      obtain ⟨AI, hAI⟩ : ∃ T : Int, (a : Int) = T := ⟨_, rfl⟩
      obtain ⟨BI, hBI⟩ : ∃ T : Int, (b : Int) = T := ⟨_, rfl⟩
      have HV : Hd ((v : Int) = V ∧ (t : Int) = T ∧ (a : Int) = AI ∧ (b : Int) = BI) := ⟨hV, hT, hAI, hBI⟩
      have x4 : (V != V) = false := by simp
      have hV1 : Hd (((Crc.itT (8 * ((n : Nat) : Int).toNat) AI.toNat ^^^ BI.toNat : Nat) : Int) = V) := ⟨by rw [← hAI, ← hBI, Int.toNat_natCast, Int.toNat_natCast, Int.toNat_natCast, htt, hvv, ← hV]⟩
      have b1 : 0 ≤ BI := by omega
      have b2 : BI ≤ 4294967295 := by omega
      rw [hT] at x2 x3 HM
      rw [hV] at x3
      rw [hAI] at x1 HM HS y4
      rw [hBI] at x3 HS y4
      have HV5 : Hd (((Crc.itT (8 * A1.toNat) AI.toNat ^^^ (0 : Int).toNat : Nat) : Int) = V1 ∧ ((Crc.itT (8 * B1.toNat) V1.toNat ^^^ BI.toNat : Nat) : Int) = V2 ∧ ((Crc.itT (8 * (A1 + B1).toNat) AI.toNat ^^^ BI.toNat : Nat) : Int) = V2 ∧ ((Crc.itT (8 * A1.toNat) AI.toNat ^^^ BI.toNat : Nat) : Int) = V3 ∧ ((Crc.itT (8 * (A1 + 2147483648 - 1).toNat) AI.toNat ^^^ BI.toNat : Nat) : Int) = V3 ∧ ((Crc.itT (8 * (2147483647 : Int).toNat) AI.toNat ^^^ BI.toNat : Nat) : Int) = V4) := by
        rw [← hAI, ← hBI, Int.toNat_natCast, Int.toNat_natCast]; exact HV4
      have a1 : 0 ≤ AI := by omega
      have a2 : AI ≤ 4294967295 := by omega
      clear hT hV ht htt hvv
      go_wp2_with fail
      go_region_held3 (fun w' => w'.cell? ⟨G, 0, none⟩ = some (.int .u32 AI) ∧ w'.cell? ⟨G, 1, none⟩ = some (.int .u32 BI) ∧ w'.cell? ⟨G, 2, none⟩ = some (.int .i64 N) ∧ G < BB ∧ BB ≤ w'.heap.size ∧ Rd w' BB Z n (cb (List.replicate n 0)) ∧ Below w.heap.size w w')
        (first | (exact keep3 hb (by assumption)) | (exact ⟨HS.out.1, HS.out.2.1, HS.out.2.2.1, HS.out.2.2.2.1, Nat.le_of_eq HB.out, HS.out.2.2.2.2.2.1, HS.out.2.2.2.2.2.2.drew⟩))
        (first
          | (go_at_call 23; refine (known_any _).mono ?_; rintro e w' ⟨rfl, hb⟩)
          | (go_at_call 35; refine (join_int _ AI BI (n : Int) V a1 a2 b1 b2 (by omega) (by omega) hV1.out).mono ?_; rintro e w' ⟨rfl, hb⟩)
          | (go_at_call 17; refine (more_V _ Z n cz BB (List.replicate n 0) (4294967295 - AI) (4294967295 - T) (by omega) (by omega) (by first | assumption | exact (by assumption : _ ∧ _ ∧ _ ∧ _ ∧ _ ∧ _ ∧ _).2.2.2.2.2.1) (by first | assumption | exact (by assumption : _ ∧ _ ∧ _ ∧ _ ∧ _ ∧ _ ∧ _).2.2.2.2.1) (by simp) (by omega) HM.out).mono ?_; rintro e w' ⟨rfl, hb⟩))
      obtain ⟨s1, s2, s3, s4, s5, s6, s7⟩ : _ ∧ _ ∧ _ ∧ _ ∧ _ ∧ _ ∧ _ := by assumption
      go_wp2_with fail
      go_region_held3 (fun w' => w'.cell? ⟨G, 0, none⟩ = some (.int .u32 AI) ∧ w'.cell? ⟨G, 1, none⟩ = some (.int .u32 BI) ∧ w'.cell? ⟨G, 2, none⟩ = some (.int .i64 N) ∧ G < BB ∧ BB ≤ w'.heap.size ∧ Rd w' BB Z n (cb (List.replicate n 0)) ∧ Below w.heap.size w w')
        (first | (exact keep3 hb (by assumption)) | (exact ⟨s1, s2, s3, s4, s5, s6, s7.drew⟩))
        (first
          | (go_at_call 35; with_reducible refine (join_int _ AI 0 A1 V1 a1 a2 (by omega) (by omega) (by omega) (by omega) HV5.out.1).mono ?_; rintro e w' ⟨rfl, hb⟩)
          | (go_at_call 35; with_reducible refine (join_int _ V1 BI B1 V2 v11 v12 b1 b2 (by omega) (by omega) HV5.out.2.1).mono ?_; rintro e w' ⟨rfl, hb⟩)
          | (go_at_call 35; rw [W1.out]; with_reducible refine (join_int _ AI BI (A1 + B1) V2 a1 a2 b1 b2 (by omega) (by omega) HV5.out.2.2.1).mono ?_; rintro e w' ⟨rfl, hb⟩))
      clear s1 s2 s3 s4 s5 s6 s7
      obtain ⟨s1, s2, s3, s4, s5, s6, s7⟩ : _ ∧ _ ∧ _ ∧ _ ∧ _ ∧ _ ∧ _ := by assumption
      go_wp2_with fail
      go_region_held3 (fun w' => w'.cell? ⟨G, 0, none⟩ = some (.int .u32 AI) ∧ w'.cell? ⟨G, 1, none⟩ = some (.int .u32 BI) ∧ w'.cell? ⟨G, 2, none⟩ = some (.int .i64 N) ∧ G < BB ∧ BB ≤ w'.heap.size ∧ Rd w' BB Z n (cb (List.replicate n 0)) ∧ Below w.heap.size w w')
        (first | (exact keep3 hb (by assumption)) | (exact ⟨s1, s2, s3, s4, s5, s6, s7.drew⟩))
        (first
          | (go_at_call 35; with_reducible refine (join_int _ AI BI A1 V3 a1 a2 b1 b2 (by omega) (by omega) HV5.out.2.2.2.1).mono ?_; rintro e w' ⟨rfl, hb⟩)
          | (go_at_call 35; rw [W2.out, W3.out]; with_reducible refine (join_int _ AI BI (A1 + 2147483648 - 1) V3 a1 a2 b1 b2 (by omega) (by omega) HV5.out.2.2.2.2.1).mono ?_; rintro e w' ⟨rfl, hb⟩)
          | (go_at_call 35; with_reducible refine (join_int _ AI BI 2147483647 V4 a1 a2 b1 b2 (by omega) (by omega) HV5.out.2.2.2.2.2).mono ?_; rintro e w' ⟨rfl, hb⟩))
      clear s1 s2 s3 s4 s5 s6 s7
      obtain ⟨s1, s2, s3, s4, s5, s6, s7⟩ : _ ∧ _ ∧ _ ∧ _ ∧ _ ∧ _ ∧ _ := by assumption
      go_wp2_with fail
      go_ret
      exact ⟨rfl, s7⟩
theorem zeros_frame (a b N m : Int) (w : World) (ha : (Lit.int .u32 a).wf = true) (hb : (Lit.int .u32 b).wf = true) (hN : (Lit.int .i64 N).wf = true) (hm : (Lit.int .i64 m).wf = true) :
    Calls Try.prog 13 #[.agg #[.int .u32 a, .int .u32 b, .int .i64 N], .int .i64 m] w fun e w' => e = .returned (.bool true) ∧ Below w.heap.size w w' := by
  have h1 : 0 ≤ a ∧ a ≤ 4294967295 := by simpa [Lit.wf, IntKind.min, IntKind.max, IntKind.signed, IntKind.bits] using ha
  have h2 : 0 ≤ b ∧ b ≤ 4294967295 := by simpa [Lit.wf, IntKind.min, IntKind.max, IntKind.signed, IntKind.bits] using hb
  have h3 : -9223372036854775808 ≤ N ∧ N ≤ 9223372036854775807 := by simpa [Lit.wf, IntKind.min, IntKind.max, IntKind.signed, IntKind.bits] using hN
  have h4 : -9223372036854775808 ≤ m ∧ m ≤ 9223372036854775807 := by simpa [Lit.wf, IntKind.min, IntKind.max, IntKind.signed, IntKind.bits] using hm
  have := zeros_walk a.toNat b.toNat N m w (by omega) (by omega) h3.1 h3.2 h4.1 h4.2
  rw [Int.toNat_of_nonneg h1.1, Int.toNat_of_nonneg h2.1] at this
  exact this
end Go.Proofs.Ytofblciodgibdaa
