/- Contract of codec's number: a short form, or the fault. -/
import Derived.Test.YtjkenhkoakaaoaaRdrA
namespace Go.Proofs.Ytjkenhkoakaaoaa
open Go.RowKit
set_option linter.unusedVariables false
/-- What an inner reading gives: a value that K speaks of, and the place; or it gives up. -/
def Gives {α : Type} (w : World) (gr n c : Nat) (A : Option Addr) (fl : Int) (bs : List Nat) (K : Value → α → World → Prop) (o : Except Int (α × Nat)) (e : Ending) (w' : World) : Prop :=
  Chg [gr] w w' ∧ (∀ a at', o = .ok (a, at') → ∃ v, e = .returned v ∧ K v a w' ∧ Rr w' gr A n c at' fl bs) ∧ (∀ ec, o = .error ec → e = giveUp ec ∧ ∃ at', Rr w' gr A n c at' fl bs)
namespace Gives
variable {α : Type} {w w' : World} {gr n c : Nat} {A : Option Addr} {fl : Int} {bs : List Nat} {K : Value → α → World → Prop} {o : Except Int (α × Nat)} {e : Ending}
theorem yes {a : α} {at' : Nat} {v : Value} (ho : o = .ok (a, at')) (hc : Chg [gr] w w') (hk : K v a w') (R : Rr w' gr A n c at' fl bs) : Gives w gr n c A fl bs K o (.returned v) w' :=
  ⟨hc, fun a1 at1 h => by rw [ho] at h; cases h; exact ⟨v, rfl, hk, R⟩, fun ec h => by rw [ho] at h; cases h⟩
theorem no {ec : Int} {at' : Nat} (ho : o = .error ec) (hc : Chg [gr] w w') (R : Rr w' gr A n c at' fl bs) : Gives w gr n c A fl bs K o (giveUp ec) w' :=
  ⟨hc, fun a1 at1 h => by rw [ho] at h; (cases h), fun ec' h => by rw [ho] at h; cases h; exact ⟨rfl, at', R⟩⟩
end Gives
def KNum (v : Value) (a : Nat) (_ : World) : Prop := v = .int .u64 (a : Int)
theorem drop_cons (bs : List Nat) (k : Nat) (h : k < bs.length) : bs.drop k = bs.getD k 0 :: bs.drop (k + 1) := by
  rw [List.getD_eq_getElem?_getD, List.getElem?_eq_getElem h]; exact List.drop_eq_getElem_cons h
set_option maxHeartbeats 2000000 in
theorem number_any (w : World) (gr n c at_ : Nat) (A : Option Addr) (fl : Int) (bs : List Nat) (R : Rr w gr A n c at_ fl bs) :
    Calls Try.prog 96 #[.pointer (some ⟨gr, 0, none⟩)] w (Gives w gr n c A fl bs KNum (numF bs at_)) := by
  obtain ⟨o, ho⟩ : ∃ o, numF bs at_ = o := ⟨_, rfl⟩
  rw [ho]
  have HO := Hd.mk ho
  have HR := Hd.mk R
  clear R ho
  go_enter Try.func96, Try.ntmps96
  go_wp2_with fail
  go_loopw [3, 4] (fun v i wr => ∃ (k x : Nat), k ≤ 9 ∧ x < 2 ^ (7 * k) ∧ i = .int .i64 k ∧ v = .int .u64 (x : Int) ∧ Chg [gr] w wr ∧ Rr wr gr A n c (at_ + k) fl bs ∧
    (match numR (bs.drop (at_ + k)) k x with | .ok (v, m) => Except.ok (v, at_ + m) | .error e => .error e) = o) (fun _ i _ => 10 - (intOf i).toNat)
  case atStart => exact ⟨0, 0, by omega, by omega, rfl, rfl, Chg.refl _ _, HR.out, HO.out⟩
  case round =>
    obtain ⟨k, x, hk, hx, rfl, rfl, hc, hr, ho⟩ := hrel
    have H0 : Hd (x < 2 ^ (7 * k) ∧ Chg [gr] w wr ∧ Rr wr gr A n c (at_ + k) fl bs) := ⟨hx, hc, hr⟩
    have H1 := Hd.mk ho
    have hlen : bs.length = n := HR.out.len
    clear hx hc hr ho
    by_cases hlt : at_ + k < n
    · go_wp2_with fail
      refine (take_yes wr gr n c (at_ + k) 1 A fl bs H0.out.2.2 (by omega)).mono ?_
      rintro e w1 ⟨A1, c1, rfl, hch, hr1, hrd, hc1⟩
      have hdr := drop_cons bs (at_ + k) (by omega)
      obtain ⟨g, off, u, rfl, hg, hxx, hcell⟩ := hrd.at_ (k := 0) (by omega)
      have hb := HR.out.lb (bs.getD (at_ + k) 0) (by rw [List.getD_eq_getElem?_getD, List.getElem?_eq_getElem (by omega)]; exact List.getElem_mem _)
      rw [hdr] at hxx
      obtain ⟨C, hC⟩ : ∃ C, bs.getD (at_ + k) 0 = C := ⟨_, rfl⟩
      rw [hC] at hxx hdr hb
      injection hxx with hxx
      rw [← hxx, Nat.add_zero] at hcell
      have H2 : Hd (Chg [gr] wr w1 ∧ Rr w1 gr A n c (at_ + k + 1) fl bs ∧ bs.drop (at_ + k) = C :: bs.drop (at_ + k + 1) ∧ C < 256) := ⟨hch, hr1, hdr, hb⟩
      obtain ⟨X, hX⟩ : ∃ X : Int, (C : Int) = X := ⟨_, rfl⟩
      have x1 : 0 ≤ X := by omega
      have x2 : X ≤ 255 := by omega
      have HX := Hd.mk hX
      replace hcell : w1.cell? ⟨g, off, none⟩ = some (.int .u8 (C : Int)) := hcell
      rw [hX] at hcell
      clear hch hr1 hdr hb hrd hxx hC hX
      have hk1 : (k : Int) ≤ 9 := by omega
      by_cases hbad : 9 ≤ k ∧ 1 < C
      · have c1 : ¬ ((k : Int) < 9) := by omega
        have c2 : ¬ (X ≤ 1) := by have := HX.out; omega
        go_wp2_with fail
        rw [show (decide (X ≤ 1)) = false from by simp; omega, show (decide ((k : Int) < 9) || false) = false from by simp; omega]
        refine (must_no _ 71).mono ?_
        rintro e z ⟨he, rfl⟩
        unfold giveUp at he
        subst he
        go_wp2_with fail
        refine ⟨rfl, Gives.no (at' := at_ + k + 1) ?_ (H0.out.2.1.trans H2.out.1) H2.out.2.1⟩
        rw [← H1.out, H2.out.2.2.1, numR, if_pos hbad]
      · have hor : (k : Int) < 9 ∨ (¬ ((k : Int) < 9) ∧ X ≤ 1) := by have := HX.out; omega
        have HS := Hd.mk (or_step C k x H2.out.2.2.2 (by have := HX.out; omega) H0.out.1)
        rw [HX.out] at HS
        have HB := Hd.mk hbad
        clear hbad
        rcases hor with q1 | ⟨q1, q2⟩
        all_goals
          go_wp2_with fail
          refine (must_yes _ 71).mono ?_
          rintro e z ⟨rfl, rfl⟩
          by_cases hs : X < 128
          · go_wp2_with fail
            · by_cases h0 : k = 0
              · rw [show (decide (0 < X) || ((k : Int) == 0)) = true from by simp [h0]]
                have H00 := Hd.mk h0
                clear h0
                refine (must_yes _ 71).mono ?_
                rintro e z ⟨rfl, rfl⟩
                go_wp2_with fail
                go_ret
                refine Gives.yes (a := x + C % 128 * 2 ^ (7 * k)) (at' := at_ + k + 1) ?_ (H0.out.2.1.trans H2.out.1) ?_ H2.out.2.1
                · rw [← H1.out, H2.out.2.2.1, numR, if_neg HB.out, if_pos (by have := HX.out; omega), if_neg (by have := HX.out; have := H00.out; omega)]
                  rfl
                · show Value.int .u64 _ = Value.int .u64 _
                  rw [HS.out.1]
              · rw [show (decide (0 < X) || ((k : Int) == 0)) = false from by simp; omega]
                refine (must_no _ 71).mono ?_
                rintro e z ⟨he, rfl⟩
                unfold giveUp at he
                subst he
                go_wp2_with fail
                refine ⟨rfl, Gives.no (at' := at_ + k + 1) ?_ (H0.out.2.1.trans H2.out.1) H2.out.2.1⟩
                rw [← H1.out, H2.out.2.2.1, numR, if_neg HB.out, if_pos (by have := HX.out; omega), if_pos (by have := HX.out; omega)]
            · refine (must_yes _ 71).mono ?_
              rintro e z ⟨rfl, rfl⟩
              go_wp2_with fail
              go_ret
              refine Gives.yes (a := x + C % 128 * 2 ^ (7 * k)) (at' := at_ + k + 1) ?_ (H0.out.2.1.trans H2.out.1) ?_ H2.out.2.1
              · rw [← H1.out, H2.out.2.2.1, numR, if_neg HB.out, if_pos (by have := HX.out; omega), if_neg (by have := HX.out; omega)]
                rfl
              · show Value.int .u64 _ = Value.int .u64 _
                rw [HS.out.1]
          · first
            | (exfalso; omega)
            | (go_wp2_with fail
               go_roundw
               case rel =>
                 refine ⟨k + 1, x + C % 128 * 2 ^ (7 * k), by have := HX.out; have := HB.out; omega, ?_, by go_num, ?_, H0.out.2.1.trans H2.out.1, H2.out.2.1, ?_⟩
                 · have := H0.out.1
                   rw [show 7 * (k + 1) = 7 * k + 7 by omega, Nat.pow_add]
                   have : C % 128 * 2 ^ (7 * k) ≤ 127 * 2 ^ (7 * k) := Nat.mul_le_mul_right _ (by omega)
                   omega
                 · rw [HS.out.1]
                 · rw [← H1.out, H2.out.2.2.1, numR, if_neg HB.out, if_neg (by have := HX.out; omega)]
                   rfl
               case measure => simp [intOf] <;> (have := HX.out; have := HB.out; omega))
    · go_wp2_with fail
      refine (take_no wr gr n c (at_ + k) 1 A fl bs H0.out.2.2 (by have := H0.out.2.2.le.1; omega)).mono ?_
      rintro e w1 ⟨he, hch, hr1⟩
      unfold giveUp at he
      subst he
      go_wp2_with fail
      refine ⟨rfl, Gives.no (at' := at_ + k) ?_ (H0.out.2.1.trans hch) hr1⟩
      rw [← H1.out, List.drop_eq_nil_of_le (by omega)]
      rfl
end Go.Proofs.Ytjkenhkoakaaoaa
