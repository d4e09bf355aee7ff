/- Contract of the reference's Reader's Uvarint and Varint. -/
import Derived.Test.YtjkenhkoakaaoaaRefR
import Derived.Test.YtjkenhkoakaaoaaAskF
namespace Go.Proofs.Ytjkenhkoakaaoaa
open Go.RowKit
set_option linter.unusedVariables false
set_option maxRecDepth 20000
set_option maxHeartbeats 4000000 in
theorem ruvarint_any (w : World) (gr n c at_ : Nat) (fl : Int) (A : Option Addr) (bs : List Nat) (R : Rr w gr A n c at_ fl bs) :
    Calls Try.prog 77 #[.pointer (some ⟨gr, 0, none⟩)] w (Ans w gr n c A bs KNum (redo (numF bs at_) 0 at_ fl)) := by
  have HR := Hd.mk R
  have g0 := R.c0
  have g1 := R.c1
  have g2 := R.c2
  have z1 := R.z1
  obtain ⟨l1, l2, l3⟩ := R.le
  by_cases h0 : fl = 0
  · subst h0
    obtain ⟨o, ho⟩ : ∃ o, numF bs at_ = o := ⟨_, rfl⟩
    rw [ho]
    have HO := Hd.mk ho
    have hbl := HR.out.len
    have HL := Hd.mk hbl
    clear R ho hbl
    go_enter Try.func77, Try.ntmps77
    go_wp2_with fail
    clear g0 g1 g2 z1
    go_loopw [3, 4] (fun v i wr => ∃ (k x : Nat), k ≤ 9 ∧ x < 2 ^ (7 * k) ∧ i = .int .i64 (k : Int) ∧ v = .int .u64 (x : Int) ∧ (∃ m, wr = w.drewN m) ∧
      (match numR (bs.drop (at_ + k)) k x with | .ok (v, m) => Except.ok (v, at_ + m) | .error e => .error e) = o) (fun _ i _ => 10 - (intOf i).toNat)
    case atStart => exact ⟨0, 0, by omega, by omega, rfl, rfl, ⟨0, rfl⟩, HO.out⟩
    case round =>
      obtain ⟨k, x, hk, hx, rfl, rfl, hw, ho⟩ := hrel
      have HW : Hd ((∃ m, wr = w.drewN m) ∧ x < 2 ^ (7 * k)) := ⟨hw, hx⟩
      have HQ := Hd.mk ho
      clear hw hx ho
      have g0 : wr.cell? ⟨gr, 0, none⟩ = some (.slice A n c) := by obtain ⟨m, rfl⟩ := HW.out.1; exact HR.out.c0
      have g1 : wr.cell? ⟨gr, 1, none⟩ = some (.int .i64 (at_ : Int)) := by obtain ⟨m, rfl⟩ := HW.out.1; exact HR.out.c1
      have z1 : wr.frozen? ⟨gr, 1, none⟩ = false := by obtain ⟨m, rfl⟩ := HW.out.1; exact HR.out.z1
      have HRw : Hd (Chg [gr] w wr ∧ Rr wr gr A n c at_ 0 bs) := ⟨by obtain ⟨m, rfl⟩ := HW.out.1; exact (Chg.refl _ _).drewN m, by obtain ⟨m, rfl⟩ := HW.out.1; exact HR.out.drewN m⟩
      have w1 : IntKind.i64.wrap ((at_ : Int) + (k : Int)) = (at_ : Int) + (k : Int) := by rw [IntKind.wrap_i64]; omega
      by_cases hlt : at_ + k < n
      · have hge : decide ((n : Int) ≤ (at_ : Int) + (k : Int)) = false := by simp; omega
        have hge' : decide (at_ + k ≥ n) = false := by simp; omega
        obtain ⟨g, off, u, rfl, hg, hu, hc⟩ := HR.out.rd.at_ hlt
        rw [cb_get bs _ (by rw [HL.out]; exact hlt)] at hu
        injection hu with hu
        subst hu
        have hcl : bs.getD (at_ + k) 0 < 256 := HR.out.lb _ (by rw [List.getD_eq_getElem?_getD, List.getElem?_eq_getElem (by rw [HL.out]; exact hlt)]; exact List.getElem_mem _)
        have hdr := drop_cons bs (at_ + k) (by rw [HL.out]; exact hlt)
        obtain ⟨C, hC⟩ : ∃ C, bs.getD (at_ + k) 0 = C := ⟨_, rfl⟩
        rw [hC] at hc hcl hdr
        have hcell : wr.cell? ⟨g, off + (at_ + k), none⟩ = some (.int .u8 (C : Int)) := by obtain ⟨m, rfl⟩ := HW.out.1; exact hc
        obtain ⟨X, hX⟩ : ∃ X : Int, (C : Int) = X := ⟨_, rfl⟩
        have HX : Hd ((C : Int) = X ∧ C < 256 ∧ bs.drop (at_ + k) = C :: bs.drop (at_ + k + 1)) := ⟨hX, hcl, hdr⟩
        have x0 : 0 ≤ X := by omega
        have x1 : X ≤ 255 := by omega
        rw [hX] at hcell
        have e5 : ((at_ : Int) + (k : Int)).toNat = at_ + k := by omega
        have hib : (at_ : Int) + (k : Int) < (n : Int) := by omega
        clear hC hcl hdr hX hc hlt
        go_wp2_with fail
        go_quiet (fail)
        go_wp2_with fail
        obtain ⟨wy, hwy⟩ : ∃ wy, wr.drewN nq = wy := ⟨_, rfl⟩
        rw [hwy]
        have HY : Hd ((∃ m, wy = w.drewN m) ∧ Chg [gr] w wy ∧ Rr wy gr (some ⟨g, off, none⟩) n c at_ 0 bs) := ⟨by
          obtain ⟨m, hm⟩ := HW.out.1
          have e : wy = w.drewN (m + nq) := by rw [← hwy, hm]; simp [World.drewN, Nat.add_assoc]
          exact ⟨⟨_, e⟩, by rw [e]; exact (Chg.refl _ _).drewN _, by rw [e]; exact HR.out.drewN _⟩⟩
        have g0y : wy.cell? ⟨gr, 0, none⟩ = some (.slice (some ⟨g, off, none⟩) n c) := by rw [← hwy]; exact g0
        have g1y : wy.cell? ⟨gr, 1, none⟩ = some (.int .i64 (at_ : Int)) := by rw [← hwy]; exact g1
        have z1y : wy.frozen? ⟨gr, 1, none⟩ = false := by rw [← hwy]; exact z1
        have hcelly : wy.cell? ⟨g, off + (at_ + k), none⟩ = some (.int .u8 X) := by rw [← hwy]; exact hcell
        clear g0 g1 z1 hcell hwy
        go_quiet (fail)
        have HZ : Hd (Chg [gr] w (wy.drewN nq) ∧ Rr (wy.drewN nq) gr (some ⟨g, off, none⟩) n c at_ 0 bs) := ⟨HY.out.2.1.drewN _, HY.out.2.2.drewN _⟩
        by_cases hbad : k = 9 ∧ 1 < X
        · obtain ⟨rfl, hX1⟩ := hbad
          go_wp2_with fail
          refine (refused_any _ gr n c at_ at_ 0 71 _ bs HZ.out.2 l1).mono ?_
          rintro e w2 ⟨rfl, hch, hr⟩
          have H2 : Hd (Chg [gr] w w2 ∧ Rr w2 gr (some ⟨g, off, none⟩) n c at_ 71 bs) := ⟨HZ.out.1.trans hch, hr⟩
          clear hch hr
          go_wp2_with fail
          go_ret
          have e1 : redo o 0 at_ 0 = (0, at_, 71) := by
            rw [← HQ.out, HX.out.2.2, numR, if_pos (by have := HX.out; omega)]; rfl
          rw [e1]
          exact ⟨_, rfl, H2.out.1, rfl, H2.out.2⟩
        · have HB := Hd.mk hbad
          have HSH := Hd.mk (or_step C k x HX.out.2.1 (by have := HX.out; omega) HW.out.2).2
          have HV : Hd (IntKind.u64.wrap ((x : Int) + IntKind.u64.wrap (X % 128 * 2 ^ (7 * k))) = ((x + C % 128 * 2 ^ (7 * k) : Nat) : Int)) := ⟨by
            have hs := HSH.out
            have hx := HX.out.1
            have e : X % 128 * 2 ^ (7 * k) = ((C % 128 * 2 ^ (7 * k) : Nat) : Int) := by rw [← hx]; push_cast; rfl
            rw [e]
            obtain ⟨y, hy⟩ : ∃ y, C % 128 * 2 ^ (7 * k) = y := ⟨_, rfl⟩
            rw [hy] at hs ⊢
            have h64 : (2 : Nat) ^ 64 = 18446744073709551616 := by decide
            rw [h64] at hs
            rw [IntKind.wrap_u64, IntKind.wrap_u64]; omega⟩
          by_cases hz : X = 0 ∧ 0 < k
          · obtain ⟨hz0, hk0⟩ := hz
            have HE : Hd (redo o 0 at_ 0 = (0, at_, 71)) := ⟨by
              rw [← HQ.out, HX.out.2.2, numR, if_neg (by have := HX.out; omega), if_pos (by have := HX.out; omega), if_pos (by have := HX.out; omega)]; rfl⟩
            clear HV HSH
            obtain rfl := hz0
            have hkk : ((k : Int) == 9 && false) = false := by simp
            go_wp2_with fail
            all_goals
              refine (refused_any _ gr n c at_ at_ 0 71 _ bs HZ.out.2 l1).mono ?_
              rintro e w2 ⟨rfl, hch, hr⟩
              have H2 : Hd (Chg [gr] w w2 ∧ Rr w2 gr (some ⟨g, off, none⟩) n c at_ 71 bs) := ⟨HZ.out.1.trans hch, hr⟩
              clear hch hr
              go_wp2_with fail
              go_ret
              rw [HE.out]
              exact ⟨_, rfl, H2.out.1, rfl, H2.out.2⟩
          · by_cases hs : X < 128
            · have HE : Hd (redo o 0 at_ 0 = (x + C % 128 * 2 ^ (7 * k), at_ + k + 1, 0)) := ⟨by
                rw [← HQ.out, HX.out.2.2, numR, if_neg (by have := HX.out; have := HB.out; omega), if_pos (by have := HX.out; omega), if_neg (by have := HX.out; omega)]; rfl⟩
              by_cases hx0 : X = 0
              · obtain rfl : k = 0 := by omega
                obtain rfl := hx0
                have h1' : ((0 : Int) ≤ 18446744073709551615) := by omega
                go_wp2_with fail
                go_ret
                rw [HE.out]
                refine ⟨_, rfl, HZ.out.1.setCell (by simp) _, ?_, ?_⟩
                · show Value.int .u64 _ = Value.int .u64 _
                  congr 1
                  have hv := HV.out
                  have h1 := HSH.out
                  have h2 := HX.out.1
                  have h3 := HB.out
                  first | exact hv | (rw [IntKind.wrap_u64]; simp; omega) | (rw [IntKind.wrap_u64]; omega) | (simp; omega) | omega
                · have hmv := (HZ.out.2.move (at_ + 0 + 1) (by omega))
                  push_cast at hmv
                  first | exact hmv | (simpa using hmv) | (simpa [Int.add_assoc] using hmv)
              · have hx0' : (X == 0) = false := by simp [hx0]
                by_cases hk9 : k = 9
                · subst hk9
                  have hX1 : X = 1 := by have := HB.out; omega
                  obtain rfl := hX1
                  clear hx0 hz hs
                  go_wp2_with fail
                  go_ret
                  rw [HE.out]
                  refine ⟨_, rfl, HZ.out.1.setCell (by simp) _, ?_, ?_⟩
                  · show Value.int .u64 _ = Value.int .u64 _
                    refine congrArg (Value.int .u64) ?_
                    have hv := HV.out
                    have h1 := HSH.out
                    have h2 := HX.out.1
                    have h3 := HB.out
                    first | exact hv | (rw [IntKind.wrap_u64]; simp; omega) | (rw [IntKind.wrap_u64]; omega) | (simp; omega) | omega
                  · have hmv := (HZ.out.2.move (at_ + 9 + 1) (by omega))
                    push_cast at hmv
                    first | exact hmv | (simpa using hmv) | (simpa [Int.add_assoc] using hmv)
                · have hk9' : ((k : Int) == 9) = false := by simp; omega
                  clear hx0 hz hk9
                  go_wp2_with fail
                  go_ret
                  rw [HE.out]
                  refine ⟨_, rfl, HZ.out.1.setCell (by simp) _, ?_, ?_⟩
                  · show Value.int .u64 _ = Value.int .u64 _
                    refine congrArg (Value.int .u64) ?_
                    have hv := HV.out
                    have h1 := HSH.out
                    have h2 := HX.out.1
                    have h3 := HB.out
                    first | exact hv | (rw [IntKind.wrap_u64]; simp; omega) | (rw [IntKind.wrap_u64]; omega) | (simp; omega) | omega
                  · have hmv := (HZ.out.2.move (at_ + k + 1) (by omega))
                    push_cast at hmv
                    first | exact hmv | (simpa using hmv) | (simpa [Int.add_assoc] using hmv)
            · have hk8 : k ≤ 8 := by have := HB.out; omega
              have hk9' : ((k : Int) == 9) = false := by simp; omega
              have HB2 : Hd (¬ (9 ≤ k ∧ 1 < C)) := ⟨by omega⟩
              go_wp2_with fail
              go_roundw
              case rel =>
                refine ⟨k + 1, x + C % 128 * 2 ^ (7 * k), by omega, ?_, by go_num, ?_, ?_, ?_⟩
                · have := HW.out.2
                  rw [show 7 * (k + 1) = 7 * k + 7 by omega, Nat.pow_add]
                  have : C % 128 * 2 ^ (7 * k) ≤ 127 * 2 ^ (7 * k) := Nat.mul_le_mul_right _ (by omega)
                  omega
                · rw [HV.out]
                · obtain ⟨m, hm⟩ := HY.out.1
                  exact ⟨m + nq, by rw [hm]; simp [World.drewN, Nat.add_assoc]⟩
                · rw [← HQ.out, HX.out.2.2, numR, if_neg HB2.out, if_neg (by have := HX.out; omega)]
                  rfl
              case measure => simp [intOf] <;> omega
      · have hge : decide ((n : Int) ≤ (at_ : Int) + (k : Int)) = true := by simp; omega
        go_wp2_with fail
        go_quiet (fail)
        go_wp2_with fail
        refine (refused_any _ gr n c at_ at_ 0 70 A bs (HRw.out.2.drewN _) l1).mono ?_
        rintro e w2 ⟨rfl, hch, hr⟩
        have H2 : Hd (Chg [gr] w w2 ∧ Rr w2 gr A n c at_ 70 bs) := ⟨(HRw.out.1.drewN nq).trans hch, hr⟩
        clear hch hr
        go_wp2_with fail
        go_ret
        have e1 : redo o 0 at_ 0 = (0, at_, 70) := by
          rw [← HQ.out, List.drop_eq_nil_of_le (by rw [HL.out]; omega)]; rfl
        rw [e1]
        exact ⟨_, rfl, H2.out.1, rfl, H2.out.2⟩
  · have h0' : (fl != 0) = true := by simp [h0]
    have HZ := Hd.mk h0
    clear h0 R
    go_enter Try.func77, Try.ntmps77
    go_wp2_with fail
    go_ret
    have e1 : redo (numF bs at_) 0 at_ fl = (0, at_, fl) := by unfold redo; rw [if_neg HZ.out]
    rw [e1]
    exact ⟨_, rfl, Chg.refl _ _, rfl, HR.out⟩
theorem num_bd' (bs : List Nat) (at_ : Nat) (fl : Int) (hb : ∀ x ∈ bs, x < 256) : (redo (numF bs at_) 0 at_ fl).1 < 18446744073709551616 := by
  unfold redo
  split
  · rcases h : numF bs at_ with e | ⟨x, a⟩
    · exact (by omega : (0 : Nat) < 18446744073709551616)
    · exact (numF_hi bs at_ x a hb h).1
  · exact (by omega : (0 : Nat) < 18446744073709551616)
end Go.Proofs.Ytjkenhkoakaaoaa
