/- The walk of CrcStreams. -/
import Derived.Test.YtofblciodgibdaaStreamsB
import Derived.Test.YtofblciodgibdaaPiecesWalk
import Derived.Deep.RegionWith
import Derived.Deep.RegionHeld3
namespace Go.Proofs.Ytofblciodgibdaa
open Go.RowKit
set_option linter.unusedVariables false
set_option maxRecDepth 100000 in
set_option maxHeartbeats 4000000 in
theorem streams_walk (A : Option Addr) (n cap : Nat) (K T U : Nat → Int) (Y : Nat → List Nat) (w : World) (hp : Steps w A n K T U Y) (hcap : n ≤ cap) (hT : tot Y n ≤ 1048576) (hn : n ≤ 1048576) :
    Calls Try.prog 11 #[.slice A n cap] w fun e w' => e = .returned (.bool true) ∧ Below w.heap.size w w' := by
  have HP : Hd (Steps w A n K T U Y ∧ ∀ k, k ≤ n → tot Y k ≤ 1048576) := ⟨hp, fun k hk => by have := tot_mono Y k (n - k); rw [show k + (n - k) = n by omega] at this; omega⟩
  clear hp hT
  go_enter Try.func11, Try.ntmps11
  go_wp2_with fail
  go_loopw [5] (fun i wr => ∃ (k : Nat) (cs : List (List Nat)) (vs : List Value), k ≤ n ∧ i = .int .i64 k ∧ TS w wr w.heap.size (w.heap.size + 1) (tot Y k) wr.heap.size cs cs vs) (fun i _ => n - (intOf i).toNat)
  case atStart =>
    refine ⟨0, [[], [], [], []], [.slice none 0 0, .slice none 0 0, .slice none 0 0, .slice none 0 0], by omega, rfl, ?_⟩
    exact { l1 := rfl, l2 := rfl, lv := rfl
            hs := (Below.heap_alloc _ _ _ (by simp)).trans (heap_alloc_new w _)
            hw := heap_alloc2_new ..
            el := fun j hj => ⟨none, 0, by match j, hj with | 0, _ => rfl | 1, _ => rfl | 2, _ => rfl | 3, _ => rfl, by match j, hj with | 0, _ => exact Rd.nil | 1, _ => exact Rd.nil | 2, _ => exact Rd.nil | 3, _ => exact Rd.nil, fun g off e => by cases e⟩
            s1 := fun j => by match j with | 0 => simp | 1 => simp | 2 => simp | 3 => simp | j + 4 => simp
            s2 := fun j => by match j with | 0 => simp | 1 => simp | 2 => simp | 3 => simp | j + 4 => simp
            big := by simp [tot]
            bel := ((Below.refl _ w).alloc (Nat.le_refl _) _).alloc (by simp) _
            g0 := Nat.le_refl _, g1 := by omega, lt := by simp, hB := Nat.le_refl _ }
  case round =>
    obtain ⟨k, cs, vs, hk, rfl, hTS⟩ := hrel
    obtain ⟨gs, hgs⟩ : ∃ gs, w.heap.size = gs := ⟨_, rfl⟩
    have HG := Hd.mk hgs
    obtain ⟨gw, hgw⟩ : ∃ gw, gs + 1 = gw := ⟨_, rfl⟩
    have HGW := Hd.mk hgw
    rw [hgs, hgw] at hTS ⊢
    have S0 := Hd.mk hTS
    clear hTS hgs hgw
    by_cases hlt : k < n
    · obtain ⟨g, off, Ar, Cr, hA, hg, x0, x1, x2, x3, xr, xb, t1, t2, u1, u2⟩ := HP.out.1 k hlt
      have HX : Hd (Rd w w.heap.size Ar (Y k).length (cb (Y k)) ∧ (∀ x ∈ Y k, x < 256)) := ⟨xr, xb⟩
      have y0 : wr.cell? ⟨g, off + k * 4, none⟩ = _ := (S0.out.bel.cell (p := ⟨g, off + k * 4, none⟩) hg).trans x0
      have y1 : wr.cell? ⟨g, off + k * 4 + 1, none⟩ = _ := (S0.out.bel.cell (p := ⟨g, off + k * 4 + 1, none⟩) hg).trans x1
      have y2 : wr.cell? ⟨g, off + k * 4 + 2, none⟩ = _ := (S0.out.bel.cell (p := ⟨g, off + k * 4 + 2, none⟩) hg).trans x2
      have y3 : wr.cell? ⟨g, off + k * 4 + 3, none⟩ = _ := (S0.out.bel.cell (p := ⟨g, off + k * 4 + 3, none⟩) hg).trans x3
      clear x0 x1 x2 x3 xr xb
      subst hA
      have hki : (k : Int) < (n : Int) := by omega
      -- CASES
      obtain ⟨q, hq, hq4⟩ : ∃ q : Nat, T k % 4 = (q : Int) ∧ q < 4 := ⟨(T k % 4).toNat, by omega, by omega⟩
      have hTk := HP.out.2 (k + 1) (by omega)
      have HC : Hd ((cs.getD q []).length + (Y k).length < 18446744073709551616 ∧ tot Y (k + 1) ≤ 1048576 ∧ (cs.getD q [] ++ Y k).length ≤ tot Y (k + 1) ∧ ∀ y ∈ cs.getD q [] ++ Y k, y < 256) := by
        have h1 := (S0.out.s1 q).1
        have h2 : tot Y (k + 1) = tot Y k + (Y k).length := rfl
        refine ⟨by omega, hTk, by rw [List.length_append]; omega, fun y hy => ?_⟩
        exact (List.mem_append.1 hy).elim ((S0.out.s1 q).2 y) (HX.out.2 y)
      have hY : (Y k).length ≤ 1048576 := by have h2 : tot Y (k + 1) = tot Y k + (Y k).length := rfl; omega
      have HC2 : Hd ((cs.getD q []).length ≤ 4194304 ∧ (Y k).length ≤ 4194304) := ⟨by have h1 := (S0.out.s1 q).1; have := S0.out.big; omega, by omega⟩
      have hq5 : (q : Int) < 4 := by omega
      obtain ⟨kd, hkd⟩ : ∃ kd, kd = K k := ⟨_, rfl⟩
      rw [← hkd] at y0
      clear hkd hTk
      by_cases hkd : kd = 0
      · subst hkd
        go_wp2_with fail
        refine (four_any _ (T k) t1 t2).mono ?_
        rw [hq]
        rintro e z1 ⟨rfl, rfl⟩
        obtain ⟨W1, hW1⟩ : ∃ W1, wr.alloc (.cells #[.int .i64 0, .int .i64 (T k), .int .i64 (U k), .slice Ar (Y k).length Cr] 54) = W1 := ⟨_, rfl⟩
        obtain ⟨gx, hgx⟩ : ∃ gx, wr.heap.size = gx := ⟨_, rfl⟩
        have hnew : W1.heap[gx]? = some (.cells #[.int .i64 0, .int .i64 (T k), .int .i64 (U k), .slice Ar (Y k).length Cr] 54) := by rw [← hW1, ← hgx]; exact heap_alloc_new wr _
        have HW : Hd (TS w W1 gs gw (tot Y k) gx cs cs vs ∧ gx < W1.heap.size) := ⟨by rw [← hW1, ← hgx]; exact S0.out.step ((Below.refl _ wr).alloc (Nat.le_refl _) _), (Array.getElem?_eq_some_iff.1 hnew).1⟩
        have c0 : W1.cell? ⟨gx, 0, none⟩ = some (.int .i64 0) := by rw [cell_of_row _ _ 0 _ _ (0, 0) hnew]; rfl
        have c2 : W1.cell? ⟨gx, 2, none⟩ = some (.int .i64 (U k)) := by rw [cell_of_row _ _ 2 _ _ (0, 0) hnew]; rfl
        have c3 : W1.cell? ⟨gx, 3, none⟩ = some (.slice Ar (Y k).length Cr) := by rw [cell_of_row _ _ 3 _ _ (0, 0) hnew]; rfl
        have HS := Hd.mk hnew
        rw [hW1, hgx]
        clear hnew hW1 hgx y0 y1 y2 y3
        go_wp2_with fail
        refine (twin_any W1 Ar (Y k).length Cr w.heap.size (Y k) (HX.out.1.below HW.out.1.bel) HW.out.1.bel.size (by omega)).mono ?_
        rintro e w2 ⟨v', rfl, hO⟩
        obtain ⟨Ab, cb2, hv', _, _⟩ := own_form hO.own
        subst hv'
        have hbx := hO.below (B := W1.heap.size) (fun k h => by cases h) (Nat.le_refl _)
        have S2 : Hd (TS w w2 gs gw (tot Y k) gx cs cs vs ∧ w2.ownsRow W1.heap.size 5 1 (.slice Ab (Y k).length cb2) (Y k).length (cb (Y k)) ∧ W1.heap.size ≤ w2.heap.size) := ⟨HW.out.1.high (hbx.mono (Nat.le_of_lt HW.out.2)), hO.own, hbx.size⟩
        have d3 : w2.cell? ⟨gx, 3, none⟩ = some (.slice Ar (Y k).length Cr) := (hbx.cell (p := ⟨gx, 3, none⟩) HW.out.2).trans c3
        clear hO hbx c0 c2 c3
        go_wp2_with fail
        refine (write_any w2 gs (q * 2) 49 _ _ (sc cs) Ab (Y k).length cb2 w2.heap.size (Y k) (S2.out.1.strm hq4) (Rd.of_own S2.out.2.1) (Nat.le_refl _) HX.out.2 (by omega)).mono ?_
        rintro e w3 ⟨rfl, hs, hg⟩
        have hlen := HC.out.1
        have S3 : Hd (TS w w3 gs gw (tot Y (k + 1)) gx (cs.set q (cs.getD q [] ++ Y k)) cs vs ∧ w3.ownsRow W1.heap.size 5 1 (.slice Ab (Y k).length cb2) (Y k).length (cb (Y k)) ∧ W1.heap.size ≤ w3.heap.size) :=
          ⟨(S2.out.1.more (Nat.le_add_right _ _) HC.out.2.1).turnS hq4 (cs.getD q [] ++ Y k) HC.out.2.2 hg (Crc.more_more 0 _ _ (by omega) (HW.out.1.s1 q).2) (by rw [List.length_append]; omega) hs,
           own_keepBlock S2.out.2.1 hg (fun e => by have h1 := (S2.out.2.1.lt _ e).1; have := HW.out.1.g1; have := HW.out.1.lt; have := HW.out.2; omega), Nat.le_trans S2.out.2.2 hg.size⟩
        have d3' : w3.cell? ⟨gx, 3, none⟩ = some (.slice Ar (Y k).length Cr) := (World.cell?_of_block (a := ⟨gx, 3, none⟩) (hg.block gx (Nat.lt_of_lt_of_le HW.out.2 S2.out.2.2) (fun e => by injection e with e; have := HW.out.1.g1; have := HW.out.1.lt; omega))).trans d3
        clear hs hg d3 hlen
        go_wp2_with fail
        go_loopw [9] (fun j wr => ∃ (i : Nat) (l : List Nat), i ≤ (Y k).length ∧ j = .int .i64 i ∧ (∀ x ∈ l, x < 256) ∧ wr.ownsRow W1.heap.size 5 1 (.slice Ab (Y k).length cb2) (Y k).length (cb l) ∧ Below W1.heap.size w3 wr) (fun j _ => (Y k).length - (intOf j).toNat)
        case atStart => exact ⟨0, Y k, by omega, rfl, HX.out.2, S3.out.2.1, Below.refl _ _⟩
        case round =>
          obtain ⟨i, l, hi, rfl, hl, hown, hbl⟩ := hrel
          have HO : Hd ((∀ x ∈ l, x < 256) ∧ wr.ownsRow W1.heap.size 5 1 (.slice Ab (Y k).length cb2) (Y k).length (cb l) ∧ Below W1.heap.size w3 wr) := ⟨hl, hown, hbl⟩
          clear hl hown hbl
          by_cases hi2 : i < (Y k).length
          · obtain ⟨gb, capb, hvb, hgb1, hgb2⟩ := own_pos HO.out.2.1 (by omega)
            cases hvb
            have hll : l.length = (Y k).length := by have := HO.out.2.1.1; rw [cb_length] at this; omega
            have hcc := HO.out.2.1.cellAt i (by omega)
            rw [cb_get _ _ (by omega)] at hcc
            have hz := HO.out.2.1.frozenAt i
            have hx8 := getD_lt' HO.out.1 (k := i) (by omega)
            have e8 := u8_xor_nat (l.getD i 0) 85 hx8 (by omega)
            have hst := Hd.mk (HO.out.2.1.stored i (.int .u8 ((l.getD i 0 ^^^ 85 : Nat) : Int)))
            have hset : (cb l).set i (.int .u8 ((l.getD i 0 ^^^ 85 : Nat) : Int)) = cb (l.set i (l.getD i 0 ^^^ 85)) := by unfold cb; rw [List.map_set]; rfl
            rw [hset] at hst
            have HL2 : Hd (∀ x ∈ l.set i (l.getD i 0 ^^^ 85), x < 256) := ⟨fun x hx => by
              rcases List.mem_or_eq_of_mem_set hx with h | h
              · exact HO.out.1 x h
              · rw [h]; exact Nat.xor_lt_two_pow (n := 8) hx8 (by decide)⟩
            generalize l.set i (l.getD i 0 ^^^ 85) = l2 at *
            generalize l.getD i 0 ^^^ 85 = z at *
            generalize l.getD i 0 = x at *
            have hii : (i : Int) < ((Y k).length : Int) := by omega
            clear hset hll hx8
            obtain ⟨X, hX⟩ : ∃ X : Int, (x : Int) = X := ⟨_, rfl⟩
            rw [hX] at hcc e8
            rw [show ((85 : Nat) : Int) = 85 from rfl] at e8
            clear hX
            go_wp2_with fail
            go_roundw
            case rel => exact ⟨i + 1, l2, by omega, by go_num, HL2.out, hst.out.1, HO.out.2.2.setCell (by show _ ≤ gb; omega) _⟩
            case measure => simp [intOf]; omega
          · have him : (Y k).length = i := by omega
            have S4 := Hd.mk (S3.out.1.high (HO.out.2.2.mono (Nat.le_of_lt HW.out.2)))
            have d4 : wr.cell? ⟨gx, 3, none⟩ = some (.slice Ar (Y k).length Cr) := (HO.out.2.2.cell (p := ⟨gx, 3, none⟩) HW.out.2).trans d3'
            obtain ⟨w4, hw4⟩ : ∃ x, x = wr := ⟨_, rfl⟩
            subst hw4
            rw [← him]
            clear him hi2 hi HO d3' S3
            obtain ⟨Aw, cw, hcw, hrw, hAw⟩ := S4.out.cellW hq4
            obtain ⟨lq, hlq⟩ : ∃ x, (cs.getD q []).length = x := ⟨_, rfl⟩
            have HLQ := Hd.mk hlq
            rw [hlq] at hcw hrw
            clear hlq
            have HR : Hd (Rd w4 gx Aw lq (cb (cs.getD q [])) ∧ Rd w4 gx Ar (Y k).length (cb (Y k)) ∧ gx ≤ w4.heap.size) := ⟨hrw, (HX.out.1.below S4.out.bel).more (Nat.le_of_lt S4.out.gB), S4.out.hB⟩
            have hfw := S4.out.free q
            clear hrw hAw
            go_wp2_with fail
            go_region_with (go_at_call 32; go_loud (refine (refWrite_any w4.drew Aw Ar lq cw _ Cr gx (cs.getD q []) (Y k) (HR.out.1.keep (w' := w4.drew) (fun _ _ => rfl)) (HR.out.2.1.keep (w' := w4.drew) (fun _ _ => rfl)) HR.out.2.2 (by rw [← HLQ.out]; exact HC2.out.1) HC2.out.2).mono ?_); rintro e w5 ⟨A5, c5, rfl, hr5, hb5, hA5⟩; have hz5 : w5.cell? ⟨gw, q, none⟩ = _ := (hb5.cell (p := ⟨gw, q, none⟩) (Nat.lt_of_lt_of_le S4.out.lt S4.out.hB)).trans hcw; have hf5 : w5.frozen? ⟨gw, q, none⟩ = false := (hb5.frozen (p := ⟨gw, q, none⟩) (Nat.lt_of_lt_of_le S4.out.lt S4.out.hB)).trans hfw)
            all_goals
              have S5 := Hd.mk (((S4.out.high (((Below.refl gx w4).drew).trans (hb5.mono S4.out.hB))).up).turnW hq4 (cs.getD q [] ++ Y k) HC.out.2.2 (cap := c5) (by rw [List.length_append, HLQ.out]) hr5 (fun g off e => by have h1 := hA5 g off e; have h2 := S4.out.lt; have h3 : gx ≤ w4.drew.heap.size := S4.out.hB; omega))
              clear hr5 hA5 hz5 hf5
              go_wp2_with fail
              go_roundw
              case rel =>
                exact ⟨k + 1, _, _, by omega, by go_num, S5.out.up⟩
              case measure => simp [intOf]; omega
      have hne0 : (kd == 0) = false := by rw [beq_eq_false_iff_ne]; exact hkd
      clear hkd
      by_cases hkd : kd = 1
      · subst hkd
        go_wp2_with fail
        refine (four_any _ (T k) t1 t2).mono ?_
        rw [hq]
        rintro e z1 ⟨rfl, rfl⟩
        obtain ⟨W1, hW1⟩ : ∃ W1, wr.alloc (.cells #[.int .i64 1, .int .i64 (T k), .int .i64 (U k), .slice Ar (Y k).length Cr] 54) = W1 := ⟨_, rfl⟩
        obtain ⟨gx, hgx⟩ : ∃ gx, wr.heap.size = gx := ⟨_, rfl⟩
        have hnew : W1.heap[gx]? = some (.cells #[.int .i64 1, .int .i64 (T k), .int .i64 (U k), .slice Ar (Y k).length Cr] 54) := by rw [← hW1, ← hgx]; exact heap_alloc_new wr _
        have HW : Hd (TS w W1 gs gw (tot Y k) gx cs cs vs ∧ gx < W1.heap.size) := ⟨by rw [← hW1, ← hgx]; exact S0.out.step ((Below.refl _ wr).alloc (Nat.le_refl _) _), (Array.getElem?_eq_some_iff.1 hnew).1⟩
        have c0 : W1.cell? ⟨gx, 0, none⟩ = some (.int .i64 1) := by rw [cell_of_row _ _ 0 _ _ (0, 0) hnew]; rfl
        have c2 : W1.cell? ⟨gx, 2, none⟩ = some (.int .i64 (U k)) := by rw [cell_of_row _ _ 2 _ _ (0, 0) hnew]; rfl
        have c3 : W1.cell? ⟨gx, 3, none⟩ = some (.slice Ar (Y k).length Cr) := by rw [cell_of_row _ _ 3 _ _ (0, 0) hnew]; rfl
        have HS := Hd.mk hnew
        rw [hW1, hgx]
        clear hnew hW1 hgx y0 y1 y2 y3
        obtain ⟨Aw, cw, hcw, hrw, hAw⟩ := HW.out.1.cellW hq4
        obtain ⟨lq, hlq⟩ : ∃ x, (cs.getD q []).length = x := ⟨_, rfl⟩
        have HLQ := Hd.mk hlq
        rw [hlq] at hcw hrw
        have hlq2 : lq ≤ 2097152 := by have h1 := (HW.out.1.s1 q).1; have := HW.out.1.big; omega
        clear hlq
        have HR : Hd (Rd W1 gx Aw lq (cb (cs.getD q [])) ∧ (∀ x ∈ cs.getD q [], x < 256)) := ⟨hrw, (HW.out.1.s1 q).2⟩
        obtain ⟨SQ, hSQ⟩ : ∃ S : Int, ((Crc.more 0 (cs.getD q []) : Nat) : Int) = S := ⟨_, rfl⟩
        have HSQ := Hd.mk hSQ
        have e1 : (SQ != SQ) = false := by simp
        have e2 : ((lq : Int) != (lq : Int)) = false := by simp
        have e3 : ((lq : Int) != IntKind.u64.wrap (lq : Int)) = false := by rw [wrap_u64, Nat.mod_eq_of_lt (by omega)]; simp
        clear hSQ hrw hAw
        go_wp2_with fail
        go_region_held3 (fun w' => w'.cell? ⟨gw, q, none⟩ = some (.slice Aw lq cw) ∧ Rd w' gx Aw lq (cb (cs.getD q [])) ∧ TS w w' gs gw (tot Y k) gx cs cs vs)
          (first | assumption | (exact keepT hb (by assumption)) | (exact ⟨hcw, HR.out.1, HW.out.1.high ((Below.refl _ _).drew)⟩))
          (first
            | (go_at_call 29; refine (ssum_any _ gs (q * 2) 49 _ _ _ ((by assumption : _ ∧ _ ∧ TS w _ gs gw (tot Y k) gx cs cs vs).2.2.strm hq4)).mono ?_; rw [HSQ.out]; rintro e w' ⟨rfl, rfl⟩)
            | (go_at_call 30; refine (slen_any _ gs (q * 2) 49 _ _ _ ((by assumption : _ ∧ _ ∧ TS w _ gs gw (tot Y k) gx cs cs vs).2.2.strm hq4)).mono ?_; rw [HLQ.out]; rintro e w' ⟨rfl, rfl⟩)
            | (go_at_call 19; refine (refSum_any _ Aw lq cw gx (cs.getD q []) (by assumption : _ ∧ _ ∧ TS w _ gs gw (tot Y k) gx cs cs vs).2.1 (by assumption : _ ∧ _ ∧ TS w _ gs gw (tot Y k) gx cs cs vs).2.2.hB HR.out.2 hlq2).mono ?_; rw [HSQ.out]; rintro e w' ⟨rfl, hb⟩))
        obtain ⟨s1, s2, s3⟩ : _ ∧ _ ∧ TS w _ gs gw (tot Y k) gx cs cs vs := by assumption
        go_wp2_with fail
        go_roundw
        case rel =>
          exact ⟨k + 1, _, _, by omega, by go_num, (s3.more (Nat.le_add_right _ _) HC.out.2.1).up⟩
        case measure => simp [intOf]; omega
      have hne1 : (kd == 1) = false := by rw [beq_eq_false_iff_ne]; exact hkd
      clear hkd
      by_cases hkd : kd = 2
      · subst hkd
        go_wp2_with fail
        refine (four_any _ (T k) t1 t2).mono ?_
        rw [hq]
        rintro e z1 ⟨rfl, rfl⟩
        obtain ⟨W1, hW1⟩ : ∃ W1, wr.alloc (.cells #[.int .i64 2, .int .i64 (T k), .int .i64 (U k), .slice Ar (Y k).length Cr] 54) = W1 := ⟨_, rfl⟩
        obtain ⟨gx, hgx⟩ : ∃ gx, wr.heap.size = gx := ⟨_, rfl⟩
        have hnew : W1.heap[gx]? = some (.cells #[.int .i64 2, .int .i64 (T k), .int .i64 (U k), .slice Ar (Y k).length Cr] 54) := by rw [← hW1, ← hgx]; exact heap_alloc_new wr _
        have HW : Hd (TS w W1 gs gw (tot Y k) gx cs cs vs ∧ gx < W1.heap.size) := ⟨by rw [← hW1, ← hgx]; exact S0.out.step ((Below.refl _ wr).alloc (Nat.le_refl _) _), (Array.getElem?_eq_some_iff.1 hnew).1⟩
        have c0 : W1.cell? ⟨gx, 0, none⟩ = some (.int .i64 2) := by rw [cell_of_row _ _ 0 _ _ (0, 0) hnew]; rfl
        have c2 : W1.cell? ⟨gx, 2, none⟩ = some (.int .i64 (U k)) := by rw [cell_of_row _ _ 2 _ _ (0, 0) hnew]; rfl
        have c3 : W1.cell? ⟨gx, 3, none⟩ = some (.slice Ar (Y k).length Cr) := by rw [cell_of_row _ _ 3 _ _ (0, 0) hnew]; rfl
        have HS := Hd.mk hnew
        rw [hW1, hgx]
        clear hnew hW1 hgx y0 y1 y2 y3
        obtain ⟨Aw, cw, hcw, hrw, hAw⟩ := HW.out.1.cellW hq4
        obtain ⟨lq, hlq⟩ : ∃ x, (cs.getD q []).length = x := ⟨_, rfl⟩
        have HLQ := Hd.mk hlq
        rw [hlq] at hcw hrw
        have hlq2 : lq ≤ 2097152 := by have h1 := (HW.out.1.s1 q).1; have := HW.out.1.big; omega
        clear hlq
        have HR : Hd (Rd W1 gx Aw lq (cb (cs.getD q [])) ∧ (∀ x ∈ cs.getD q [], x < 256)) := ⟨hrw, (HW.out.1.s1 q).2⟩
        obtain ⟨SQ, hSQ⟩ : ∃ S : Int, ((Crc.more 0 (cs.getD q []) : Nat) : Int) = S := ⟨_, rfl⟩
        have HSQ := Hd.mk hSQ
        have e1 : (SQ != SQ) = false := by simp
        have e2 : ((lq : Int) != (lq : Int)) = false := by simp
        have e3 : ((lq : Int) != IntKind.u64.wrap (lq : Int)) = false := by rw [wrap_u64, Nat.mod_eq_of_lt (by omega)]; simp
        clear hSQ hrw hAw
        go_wp2_with fail
        go_region_held3 (fun w' => w'.cell? ⟨gw, q, none⟩ = some (.slice Aw lq cw) ∧ Rd w' gx Aw lq (cb (cs.getD q [])) ∧ TS w w' gs gw (tot Y k) gx cs cs vs)
          (first | assumption | (exact keepT hb (by assumption)) | (exact ⟨hcw, HR.out.1, HW.out.1.high ((Below.refl _ _).drew)⟩))
          (first
            | (go_at_call 29; refine (ssum_any _ gs (q * 2) 49 _ _ _ ((by assumption : _ ∧ _ ∧ TS w _ gs gw (tot Y k) gx cs cs vs).2.2.strm hq4)).mono ?_; rw [HSQ.out]; rintro e w' ⟨rfl, rfl⟩)
            | (go_at_call 30; refine (slen_any _ gs (q * 2) 49 _ _ _ ((by assumption : _ ∧ _ ∧ TS w _ gs gw (tot Y k) gx cs cs vs).2.2.strm hq4)).mono ?_; rw [HLQ.out]; rintro e w' ⟨rfl, rfl⟩)
            | (go_at_call 19; refine (refSum_any _ Aw lq cw gx (cs.getD q []) (by assumption : _ ∧ _ ∧ TS w _ gs gw (tot Y k) gx cs cs vs).2.1 (by assumption : _ ∧ _ ∧ TS w _ gs gw (tot Y k) gx cs cs vs).2.2.hB HR.out.2 hlq2).mono ?_; rw [HSQ.out]; rintro e w' ⟨rfl, hb⟩))
        obtain ⟨s1, s2, s3⟩ : _ ∧ _ ∧ TS w _ gs gw (tot Y k) gx cs cs vs := by assumption
        go_wp2_with fail
        go_roundw
        case rel =>
          exact ⟨k + 1, _, _, by omega, by go_num, (s3.more (Nat.le_add_right _ _) HC.out.2.1).up⟩
        case measure => simp [intOf]; omega
      have hne2 : (kd == 2) = false := by rw [beq_eq_false_iff_ne]; exact hkd
      clear hkd
      by_cases hkd : kd = 3
      · subst hkd
        go_wp2_with fail
        refine (four_any _ (T k) t1 t2).mono ?_
        rw [hq]
        rintro e z1 ⟨rfl, rfl⟩
        obtain ⟨W1, hW1⟩ : ∃ W1, wr.alloc (.cells #[.int .i64 3, .int .i64 (T k), .int .i64 (U k), .slice Ar (Y k).length Cr] 54) = W1 := ⟨_, rfl⟩
        obtain ⟨gx, hgx⟩ : ∃ gx, wr.heap.size = gx := ⟨_, rfl⟩
        have hnew : W1.heap[gx]? = some (.cells #[.int .i64 3, .int .i64 (T k), .int .i64 (U k), .slice Ar (Y k).length Cr] 54) := by rw [← hW1, ← hgx]; exact heap_alloc_new wr _
        have HW : Hd (TS w W1 gs gw (tot Y k) gx cs cs vs ∧ gx < W1.heap.size) := ⟨by rw [← hW1, ← hgx]; exact S0.out.step ((Below.refl _ wr).alloc (Nat.le_refl _) _), (Array.getElem?_eq_some_iff.1 hnew).1⟩
        have c0 : W1.cell? ⟨gx, 0, none⟩ = some (.int .i64 3) := by rw [cell_of_row _ _ 0 _ _ (0, 0) hnew]; rfl
        have c2 : W1.cell? ⟨gx, 2, none⟩ = some (.int .i64 (U k)) := by rw [cell_of_row _ _ 2 _ _ (0, 0) hnew]; rfl
        have c3 : W1.cell? ⟨gx, 3, none⟩ = some (.slice Ar (Y k).length Cr) := by rw [cell_of_row _ _ 3 _ _ (0, 0) hnew]; rfl
        have HS := Hd.mk hnew
        rw [hW1, hgx]
        clear hnew hW1 hgx y0 y1 y2 y3
        go_wp2_with fail
        refine (sreset_any W1 gs (q * 2) 49 _ _ (sc cs) (HW.out.1.strm hq4)).mono ?_
        rintro e w2 ⟨rfl, hs, hg⟩
        have S2 := Hd.mk (HW.out.1.turnS hq4 [] ⟨Nat.zero_le _, by simp⟩ hg (by decide) rfl hs)
        obtain ⟨Aw, cw, hcw, hrw, hAw⟩ := S2.out.cellW hq4
        have hfw := S2.out.free q
        have S3 := Hd.mk (S2.out.turnW hq4 [] ⟨Nat.zero_le _, by simp⟩ (A := none) (cap := 0) rfl Rd.nil (fun g off e => by cases e))
        obtain ⟨lq, hlq⟩ : ∃ x, (cs.getD q []).length = x := ⟨_, rfl⟩
        rw [hlq] at hcw
        clear hs hg hrw hAw hlq
        go_wp2_with fail
        go_roundw
        case rel =>
          exact ⟨k + 1, _, _, by omega, by go_num, (S3.out.more (Nat.le_add_right _ _) HC.out.2.1).up⟩
        case measure => simp [intOf]; omega
      have hne3 : (kd == 3) = false := by rw [beq_eq_false_iff_ne]; exact hkd
      clear hkd
      by_cases hkd : kd = 4
      · subst hkd
        go_wp2_with fail
        refine (four_any _ (T k) t1 t2).mono ?_
        rw [hq]
        rintro e z1 ⟨rfl, rfl⟩
        obtain ⟨W1, hW1⟩ : ∃ W1, wr.alloc (.cells #[.int .i64 4, .int .i64 (T k), .int .i64 (U k), .slice Ar (Y k).length Cr] 54) = W1 := ⟨_, rfl⟩
        obtain ⟨gx, hgx⟩ : ∃ gx, wr.heap.size = gx := ⟨_, rfl⟩
        have hnew : W1.heap[gx]? = some (.cells #[.int .i64 4, .int .i64 (T k), .int .i64 (U k), .slice Ar (Y k).length Cr] 54) := by rw [← hW1, ← hgx]; exact heap_alloc_new wr _
        have HW : Hd (TS w W1 gs gw (tot Y k) gx cs cs vs ∧ gx < W1.heap.size) := ⟨by rw [← hW1, ← hgx]; exact S0.out.step ((Below.refl _ wr).alloc (Nat.le_refl _) _), (Array.getElem?_eq_some_iff.1 hnew).1⟩
        have c0 : W1.cell? ⟨gx, 0, none⟩ = some (.int .i64 4) := by rw [cell_of_row _ _ 0 _ _ (0, 0) hnew]; rfl
        have c2 : W1.cell? ⟨gx, 2, none⟩ = some (.int .i64 (U k)) := by rw [cell_of_row _ _ 2 _ _ (0, 0) hnew]; rfl
        have c3 : W1.cell? ⟨gx, 3, none⟩ = some (.slice Ar (Y k).length Cr) := by rw [cell_of_row _ _ 3 _ _ (0, 0) hnew]; rfl
        have HS := Hd.mk hnew
        rw [hW1, hgx]
        clear hnew hW1 hgx y0 y1 y2 y3
        obtain ⟨r, hr, hr4⟩ : ∃ r : Nat, U k % 4 = (r : Int) ∧ r < 4 := ⟨(U k % 4).toNat, by omega, by omega⟩
        have hr5 : (r : Int) < 4 := by omega
        have SD : Hd (TS w W1 gs gw (tot Y k) gx cs cs vs) := ⟨HW.out.1⟩
        obtain ⟨sq, hsq⟩ : ∃ x, Crc.more 0 (cs.getD q []) = x := ⟨_, rfl⟩
        obtain ⟨lq, hlq⟩ : ∃ x, (cs.getD q []).length = x := ⟨_, rfl⟩
        have HSL : Hd (Crc.more 0 (cs.getD q []) = sq ∧ (cs.getD q []).length = lq) := ⟨hsq, hlq⟩
        have m0 := (HW.out.1.strm hq4).cell0
        have m1 := (HW.out.1.strm hq4).cell1
        have m2 := (HW.out.1.strm hr4).cell0
        have m3 := (HW.out.1.strm hr4).cell1
        have m4 := (HW.out.1.strm hr4).free (r * 2)
        have m5 := (HW.out.1.strm hr4).free (r * 2 + 1)
        rw [hsq] at m0
        rw [hlq] at m1
        have S2 : Hd (TS w ((W1.setCell ⟨gs, r * 2, none⟩ (.int .u32 (sq : Int))).setCell ⟨gs, r * 2 + 1, none⟩ (.int .u64 (lq : Int))).drew gs gw (tot Y k) gx (cs.set r (cs.getD q [])) cs vs) :=
          ⟨(SD.out.turnS hr4 (cs.getD q []) (SD.out.s1 q) ((grown_set W1 gs (r * 2) _).trans (grown_set _ gs (r * 2 + 1) _)) hsq.symm hlq.symm (((SD.out.strm hr4).set0 (by rw [← hsq]; exact (SD.out.strm hq4).s)).set1 (by rw [← hlq]; exact (SD.out.strm hq4).c))).high ((Below.refl _ _).drew)⟩
        have d2 : ((W1.setCell ⟨gs, r * 2, none⟩ (.int .u32 (sq : Int))).setCell ⟨gs, r * 2 + 1, none⟩ (.int .u64 (lq : Int))).cell? ⟨gx, 2, none⟩ = some (.int .i64 (U k)) := by
          rw [World.cell?_setCell_other _ _ _ _ (fun e => by injection e with e; have := HW.out.1.g1; have := HW.out.1.lt; omega), World.cell?_setCell_other _ _ _ _ (fun e => by injection e with e; have := HW.out.1.g1; have := HW.out.1.lt; omega)]
          exact c2
        have D2 : Hd (((W1.setCell ⟨gs, r * 2, none⟩ (.int .u32 (sq : Int))).setCell ⟨gs, r * 2 + 1, none⟩ (.int .u64 (lq : Int))).drew.cell? ⟨gx, 2, none⟩ = some (.int .i64 (U k))) := ⟨d2⟩
        obtain ⟨o1, ho1⟩ : ∃ x : Int, ((Crc.more 0 (cs.getD r []) : Nat) : Int) = x := ⟨_, rfl⟩
        obtain ⟨o2, ho2⟩ : ∃ x : Int, (((cs.getD r []).length : Nat) : Int) = x := ⟨_, rfl⟩
        rw [ho1] at m2
        rw [ho2] at m3
        clear ho1 ho2 hsq hlq d2
        go_wp2_with fail
        go_region_with (go_at_call 31; refine (four_any _ (U k) u1 u2).mono ?_; rw [hr]; rintro e zz ⟨rfl, rfl⟩)
        all_goals
          obtain ⟨W2, hW2⟩ : ∃ W2, ((W1.setCell ⟨gs, r * 2, none⟩ (.int .u32 (sq : Int))).setCell ⟨gs, r * 2 + 1, none⟩ (.int .u64 (lq : Int))).drew = W2 := ⟨_, rfl⟩
          rw [hW2] at S2 D2 ⊢
          clear hW2 m0 m1 m2 m3 m4 m5 c0 c2 c3
          obtain ⟨Aw, cw, hcw, hrw, hAw⟩ := S2.out.cellW hq4
          obtain ⟨Aw2, cw2, hcw2, _, _⟩ := S2.out.cellW hr4
          rw [HSL.out.2] at hcw hrw
          obtain ⟨l2, hl2⟩ : ∃ x, (cs.getD r []).length = x := ⟨_, rfl⟩
          rw [hl2] at hcw2
          have hfw := S2.out.free r
          have d2 := D2.out
          have S3 := Hd.mk ((S2.out.turnW hr4 (cs.getD q []) (S2.out.s2 q) (cap := cw) HSL.out.2.symm hrw hAw).high ((Below.refl _ _).drew))
          clear hrw hAw hl2
          go_wp2_with fail
          go_region_with (go_at_call 31; refine (four_any _ (U k) u1 u2).mono ?_; rw [hr]; rintro e zz ⟨rfl, rfl⟩)
          all_goals
            go_wp2_with fail
            go_roundw
            case rel => exact ⟨k + 1, _, _, by omega, by go_num, (S3.out.more (Nat.le_add_right _ _) HC.out.2.1).up⟩
            case measure => simp [intOf]; omega
      have hne4 : (kd == 4) = false := by rw [beq_eq_false_iff_ne]; exact hkd
      clear hkd
      by_cases hkd : kd = 5
      · subst hkd
        go_wp2_with fail
        refine (four_any _ (T k) t1 t2).mono ?_
        rw [hq]
        rintro e z1 ⟨rfl, rfl⟩
        obtain ⟨W1, hW1⟩ : ∃ W1, wr.alloc (.cells #[.int .i64 5, .int .i64 (T k), .int .i64 (U k), .slice Ar (Y k).length Cr] 54) = W1 := ⟨_, rfl⟩
        obtain ⟨gx, hgx⟩ : ∃ gx, wr.heap.size = gx := ⟨_, rfl⟩
        have hnew : W1.heap[gx]? = some (.cells #[.int .i64 5, .int .i64 (T k), .int .i64 (U k), .slice Ar (Y k).length Cr] 54) := by rw [← hW1, ← hgx]; exact heap_alloc_new wr _
        have HW : Hd (TS w W1 gs gw (tot Y k) gx cs cs vs ∧ gx < W1.heap.size) := ⟨by rw [← hW1, ← hgx]; exact S0.out.step ((Below.refl _ wr).alloc (Nat.le_refl _) _), (Array.getElem?_eq_some_iff.1 hnew).1⟩
        have c0 : W1.cell? ⟨gx, 0, none⟩ = some (.int .i64 5) := by rw [cell_of_row _ _ 0 _ _ (0, 0) hnew]; rfl
        have c2 : W1.cell? ⟨gx, 2, none⟩ = some (.int .i64 (U k)) := by rw [cell_of_row _ _ 2 _ _ (0, 0) hnew]; rfl
        have c3 : W1.cell? ⟨gx, 3, none⟩ = some (.slice Ar (Y k).length Cr) := by rw [cell_of_row _ _ 3 _ _ (0, 0) hnew]; rfl
        have HS := Hd.mk hnew
        rw [hW1, hgx]
        clear hnew hW1 hgx y0 y1 y2 y3
        go_wp2_with fail
        refine (twin_rd W1 Ar (Y k).length Cr w.heap.size (Y k) (HX.out.1.below HW.out.1.bel) HW.out.1.bel.size (by omega)).mono ?_
        rintro e w2 ⟨Ab, cb2, rfl, hr, hb⟩
        have S2 := Hd.mk (HW.out.1.step hb)
        clear hr hb
        go_wp2_with fail
        refine (nothing_any w2 Ab (Y k).length cb2).mono ?_
        rintro e z2 ⟨rfl, rfl⟩
        go_wp2_with fail
        go_roundw
        case rel =>
          exact ⟨k + 1, _, _, by omega, by go_num, (S2.out.more (Nat.le_add_right _ _) HC.out.2.1).up⟩
        case measure => simp [intOf]; omega
      · go_wp2_with fail
        refine (four_any _ (T k) t1 t2).mono ?_
        rw [hq]
        rintro e z1 ⟨rfl, rfl⟩
        obtain ⟨W1, hW1⟩ : ∃ W1, wr.alloc (.cells #[.int .i64 kd, .int .i64 (T k), .int .i64 (U k), .slice Ar (Y k).length Cr] 54) = W1 := ⟨_, rfl⟩
        obtain ⟨gx, hgx⟩ : ∃ gx, wr.heap.size = gx := ⟨_, rfl⟩
        have hnew : W1.heap[gx]? = some (.cells #[.int .i64 kd, .int .i64 (T k), .int .i64 (U k), .slice Ar (Y k).length Cr] 54) := by rw [← hW1, ← hgx]; exact heap_alloc_new wr _
        have HW : Hd (TS w W1 gs gw (tot Y k) gx cs cs vs ∧ gx < W1.heap.size) := ⟨by rw [← hW1, ← hgx]; exact S0.out.step ((Below.refl _ wr).alloc (Nat.le_refl _) _), (Array.getElem?_eq_some_iff.1 hnew).1⟩
        have c0 : W1.cell? ⟨gx, 0, none⟩ = some (.int .i64 kd) := by rw [cell_of_row _ _ 0 _ _ (0, 0) hnew]; rfl
        have c2 : W1.cell? ⟨gx, 2, none⟩ = some (.int .i64 (U k)) := by rw [cell_of_row _ _ 2 _ _ (0, 0) hnew]; rfl
        have c3 : W1.cell? ⟨gx, 3, none⟩ = some (.slice Ar (Y k).length Cr) := by rw [cell_of_row _ _ 3 _ _ (0, 0) hnew]; rfl
        have HS := Hd.mk hnew
        rw [hW1, hgx]
        clear hnew hW1 hgx y0 y1 y2 y3
        go_wp2_with fail
        go_roundw
        case rel =>
          exact ⟨k + 1, _, _, by omega, by go_num, (HW.out.1.more (Nat.le_add_right _ _) HC.out.2.1).up⟩
        case measure => simp [intOf]; omega
    · have hkn : n = k := by omega
      subst hkn
      have hcs : cs.length = 4 := S0.out.l1
      obtain ⟨w0, hw0⟩ : ∃ x, x = wr := ⟨_, rfl⟩
      subst hw0
      obtain ⟨LL, hLL⟩ : ∃ x, tot Y n = x := ⟨_, rfl⟩
      obtain ⟨BB, hBB⟩ : ∃ x, w0.heap.size = x := ⟨_, rfl⟩
      rw [hLL, hBB] at S0
      clear hLL hBB
      go_wp2_with fail
      go_loopw [10] (fun j wr => ∃ (i : Nat), i ≤ 4 ∧ j = .int .i64 i ∧ TS w wr gs gw LL BB cs cs vs) (fun j _ => 4 - (intOf j).toNat)
      case atStart => exact ⟨0, by omega, rfl, S0.out⟩
      case round =>
        obtain ⟨q, hq, rfl, hTS⟩ := hrel
        have HW1 := Hd.mk hTS
        clear hTS
        by_cases hq4 : q < 4
        · obtain ⟨Aw, cw, hcw, hrw, hAw⟩ := HW1.out.cellW hq4
          obtain ⟨lq, hlq⟩ : ∃ x, (cs.getD q []).length = x := ⟨_, rfl⟩
          have HLQ := Hd.mk hlq
          rw [hlq] at hcw hrw
          have hlq2 : lq ≤ 2097152 := by have h1 := (HW1.out.s1 q).1; have := HW1.out.big; omega
          clear hlq
          have HR : Hd (Rd wr BB Aw lq (cb (cs.getD q [])) ∧ (∀ x ∈ cs.getD q [], x < 256)) := ⟨hrw, (HW1.out.s1 q).2⟩
          obtain ⟨SQ, hSQ⟩ : ∃ S : Int, ((Crc.more 0 (cs.getD q []) : Nat) : Int) = S := ⟨_, rfl⟩
          have HSQ := Hd.mk hSQ
          have e1 : (SQ != SQ) = false := by simp
          have e2 : ((lq : Int) != (lq : Int)) = false := by simp
          have e3 : ((lq : Int) != IntKind.u64.wrap (lq : Int)) = false := by rw [wrap_u64, Nat.mod_eq_of_lt (by omega)]; simp
          clear hSQ hrw hAw
          have hq5 : (q : Int) < 4 := by omega
          go_wp2_with fail
          go_region_held3 (fun w' => w'.cell? ⟨gw, q, none⟩ = some (.slice Aw lq cw) ∧ Rd w' BB Aw lq (cb (cs.getD q [])) ∧ TS w w' gs gw LL BB cs cs vs)
            (first | assumption | (exact keepT hb (by assumption)) | (exact ⟨hcw, HR.out.1, HW1.out.high ((Below.refl _ _).drew)⟩))
            (first
              | (go_at_call 29; refine (ssum_any _ gs (q * 2) 49 _ _ _ ((by assumption : _ ∧ _ ∧ TS w _ gs gw LL BB cs cs vs).2.2.strm hq4)).mono ?_; rw [HSQ.out]; rintro e w' ⟨rfl, rfl⟩)
              | (go_at_call 30; refine (slen_any _ gs (q * 2) 49 _ _ _ ((by assumption : _ ∧ _ ∧ TS w _ gs gw LL BB cs cs vs).2.2.strm hq4)).mono ?_; rw [HLQ.out]; rintro e w' ⟨rfl, rfl⟩)
              | (go_at_call 19; refine (refSum_any _ Aw lq cw BB (cs.getD q []) (by assumption : _ ∧ _ ∧ TS w _ gs gw LL BB cs cs vs).2.1 (by assumption : _ ∧ _ ∧ TS w _ gs gw LL BB cs cs vs).2.2.hB HR.out.2 hlq2).mono ?_; rw [HSQ.out]; rintro e w' ⟨rfl, hb⟩))
          obtain ⟨s1, s2, s3⟩ : _ ∧ _ ∧ TS w _ gs gw LL BB cs cs vs := by assumption
          go_wp2_with fail
          go_roundw
          case rel => exact ⟨q + 1, by omega, by go_num, s3⟩
          case measure => simp [intOf]; omega
        · have hq44 : q = 4 := by omega
          subst hq44
          go_wp2_with fail
          refine (known_any wr).mono ?_
          rintro e w6 ⟨rfl, hb⟩
          have H6 := Hd.mk (HW1.out.bel.trans (hb.mono HW1.out.bel.size))
          clear hb
          go_wp2_with fail
          go_ret
          exact ⟨rfl, H6.out⟩
end Go.Proofs.Ytofblciodgibdaa
