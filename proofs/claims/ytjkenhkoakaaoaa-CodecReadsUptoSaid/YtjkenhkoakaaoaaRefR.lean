/- Contracts of the reference's Reader: refused, Left, Fault, End, Fixed, Uvarint, Varint, Bytes, Block, Open. -/
import Derived.Test.YtjkenhkoakaaoaaRdrT
import Derived.Test.YtjkenhkoakaaoaaPutsR
import Derived.Test.YtjkenhkoakaaoaaRdrL
namespace Go.Proofs.Ytjkenhkoakaaoaa
open Go.RowKit
set_option linter.unusedVariables false
set_option maxRecDepth 20000
theorem refused_any (w : World) (gr n c at_ from_ : Nat) (fl e : Int) (A : Option Addr) (bs : List Nat) (R : Rr w gr A n c at_ fl bs) (hf : from_ ≤ n) :
    Calls Try.prog 105 #[.pointer (some ⟨gr, 0, none⟩), .int .i64 (from_ : Int), .int .i64 e] w fun r w' => r = .returned (.tuple #[]) ∧ Chg [gr] w w' ∧ Rr w' gr A n c from_ e bs := by
  have HR := Hd.mk R
  have g1 := R.c1
  have g2 := R.c2
  have z1 := R.z1
  have z2 := R.z2
  have HF := Hd.mk hf
  obtain ⟨F, hF⟩ : ∃ F : Int, (from_ : Int) = F := ⟨_, rfl⟩
  have HF2 := Hd.mk hF
  rw [hF]
  clear R hf hF
  go_enter Try.func105, Try.ntmps105
  go_wp2_with fail
  go_end0
  refine ⟨rfl, ((Chg.refl [gr] w).setCell (by simp) _).setCell (by simp) _, ?_⟩
  rw [← HF2.out]
  exact (HR.out.move from_ HF.out).fail e
theorem rleft_any (w : World) (gr n c at_ : Nat) (fl : Int) (A : Option Addr) (bs : List Nat) (R : Rr w gr A n c at_ fl bs) :
    Calls Try.prog 82 #[.pointer (some ⟨gr, 0, none⟩)] w fun e w' => e = .returned (.int .i64 ((n - at_ : Nat) : Int)) ∧ Chg [] w w' := by
  have g0 := R.c0
  have g1 := R.c1
  obtain ⟨l1, l2, l3⟩ := R.le
  obtain ⟨AT, hAT⟩ : ∃ AT : Int, (at_ : Int) = AT := ⟨_, rfl⟩
  obtain ⟨N, hN⟩ : ∃ N : Int, (n : Int) = N := ⟨_, rfl⟩
  have w1 : IntKind.i64.wrap (N - AT) = N - AT := by rw [IntKind.wrap_i64]; omega
  have e1 : ((n - at_ : Nat) : Int) = N - AT := by omega
  rw [hAT] at g1
  rw [e1]
  clear R l1 l2 l3 hAT e1
  go_enter Try.func82, Try.ntmps82
  go_wp2_with fail
  go_quiet (fail)
  go_wp2_with fail
  go_ret
  exact ⟨rfl, (Chg.refl _ _).drewN _⟩
theorem rfault_any (w : World) (gr n c at_ : Nat) (fl : Int) (A : Option Addr) (bs : List Nat) (R : Rr w gr A n c at_ fl bs) :
    Calls Try.prog 83 #[.pointer (some ⟨gr, 0, none⟩)] w fun e w' => e = .returned (.int .i64 fl) ∧ w = w' := by
  have g2 := R.c2
  clear R
  go_enter Try.func83, Try.ntmps83
  go_wp2_with fail
  go_ret
  exact ⟨rfl, rfl⟩
theorem rend_any (w : World) (gr n c at_ : Nat) (fl : Int) (A : Option Addr) (bs : List Nat) (R : Rr w gr A n c at_ fl bs) :
    Calls Try.prog 84 #[.pointer (some ⟨gr, 0, none⟩)] w fun e w' => e = .returned (.int .i64 (endF n at_ fl)) ∧ Chg [] w w' := by
  have g0 := R.c0
  have g1 := R.c1
  have g2 := R.c2
  obtain ⟨l1, l2, l3⟩ := R.le
  obtain ⟨AT, hAT⟩ : ∃ AT : Int, (at_ : Int) = AT := ⟨_, rfl⟩
  obtain ⟨N, hN⟩ : ∃ N : Int, (n : Int) = N := ⟨_, rfl⟩
  have HA : Hd ((at_ : Int) = AT ∧ (n : Int) = N ∧ at_ ≤ n) := ⟨hAT, hN, l1⟩
  rw [hAT] at g1
  have b1 : AT ≤ N := by omega
  clear R l1 l2 l3 hAT
  by_cases h0 : fl = 0
  · subst h0
    by_cases hz : AT < N
    · go_enter Try.func84, Try.ntmps84
      go_wp2_with fail
      go_quiet (fail)
      go_wp2_with fail
      go_ret
      exact ⟨by unfold endF; rw [if_neg (by simp), if_neg (by have := HA.out; omega)]; rfl, (Chg.refl _ _).drewN _⟩
    · have hz' : AT = N := by omega
      have HZ := Hd.mk hz'
      have hd : decide (AT < N) = false := by simp; omega
      clear hz'
      go_enter Try.func84, Try.ntmps84
      go_wp2_with fail
      go_quiet (fail)
      go_wp2_with fail
      go_ret
      exact ⟨by unfold endF; rw [if_neg (by simp), if_pos (by have := HA.out; have := HZ.out; omega)]; rfl, (Chg.refl _ _).drewN _⟩
  · have h0' : (fl == 0) = false := by simp [h0]
    have HZ := Hd.mk h0
    clear h0
    go_enter Try.func84, Try.ntmps84
    go_wp2_with fail
    go_quiet (fail)
    go_wp2_with fail
    go_ret
    exact ⟨by unfold endF; rw [if_pos HZ.out]; rfl, (Chg.refl _ _).drewN _⟩
theorem le256_cons_step (l : List Nat) (k : Nat) (hk : k < l.length) (h8 : l.length ≤ 8) (hb : ∀ x ∈ l, x < 256) :
    ((le256 (l.drop (k + 1)) : Nat) : Int) * 256 + ((l.getD k 0 : Nat) : Int) = ((le256 (l.drop k) : Nat) : Int) ∧ le256 (l.drop k) < 2 ^ 64 := by
  have e : l.drop k = l.getD k 0 :: l.drop (k + 1) := by
    rw [List.getD_eq_getElem?_getD, List.getElem?_eq_getElem hk]; exact List.drop_eq_getElem_cons hk
  have h1 := le256_lt (l.drop k) fun x hx => hb x (List.mem_of_mem_drop hx)
  refine ⟨by rw [e, le256]; push_cast; omega, Nat.lt_of_lt_of_le h1 ?_⟩
  rw [show (256 : Nat) = 2 ^ 8 by rfl, ← Nat.pow_mul]
  exact Nat.pow_le_pow_right (by omega) (by rw [List.length_drop]; omega)
set_option maxHeartbeats 2000000 in
theorem rfixed_any (w : World) (gr n c at_ k : Nat) (fl : Int) (A : Option Addr) (bs : List Nat) (hk1 : 1 ≤ k) (hk8 : k ≤ 8) (R : Rr w gr A n c at_ fl bs) :
    Calls Try.prog 76 #[.pointer (some ⟨gr, 0, none⟩), .int .i64 (k : Int)] w (Ans w gr n c A bs KNum (redo (fixF bs at_ k) 0 at_ fl)) := by
  have HR := Hd.mk R
  have g0 := R.c0
  have g1 := R.c1
  have g2 := R.c2
  have z1 := R.z1
  obtain ⟨l1, l2, l3⟩ := R.le
  by_cases h0 : fl = 0
  · subst h0
    by_cases hlt : n - at_ < k
    · have hd : decide (((n : Int) - (at_ : Int)) < (k : Int)) = true := by simp; omega
      have HL := Hd.mk hlt
      clear R
      go_enter Try.func76, Try.ntmps76
      go_wp2_with fail
      go_quiet (fail)
      go_wp2_with fail
      refine (refused_any _ gr n c at_ at_ 0 70 A bs (HR.out.drewN _) l1).mono ?_
      rintro e w2 ⟨rfl, hch, hr⟩
      have H2 : Hd (Chg [gr] w w2 ∧ Rr w2 gr A n c at_ 70 bs) := ⟨((Chg.refl _ w).drewN nq).trans hch, hr⟩
      clear hch hr
      go_wp2_with fail
      go_ret
      have e1 : redo (fixF bs at_ k) 0 at_ 0 = (0, at_, 70) := by
        unfold fixF takeF
        rw [if_neg (by rw [HR.out.len]; have := HL.out; omega)]; rfl
      rw [e1]
      exact ⟨_, rfl, H2.out.1, rfl, H2.out.2⟩
    · have hd : decide (((n : Int) - (at_ : Int)) < (k : Int)) = false := by simp; omega
      have HL : Hd (k ≤ n - at_) := ⟨by omega⟩
      have hbl := HR.out.len
      obtain ⟨l, hl⟩ : ∃ l, (bs.drop at_).take k = l := ⟨_, rfl⟩
      have hll : l.length = k := by rw [← hl, List.length_take, List.length_drop]; omega
      have H1 : Hd ((bs.drop at_).take k = l ∧ l.length = k ∧ (∀ x ∈ l, x < 256) ∧ ∀ j, j < k → bs[at_ + j]? = some (l.getD j 0)) := ⟨hl, hll, fun x hx => HR.out.lb x (by rw [← hl] at hx; exact List.mem_of_mem_drop (List.mem_of_mem_take hx)), fun j hj => by
        rw [List.getD_eq_getElem?_getD, ← hl, List.getElem?_take, if_pos hj, List.getElem?_drop]
        rw [List.getElem?_eq_getElem (by omega)]; rfl⟩
      clear hl hll hbl R
      go_enter Try.func76, Try.ntmps76
      go_wp2_with fail
      go_quiet (fail)
      go_wp2_with fail
      clear g0 g1 g2 z1 hd hlt
      go_loopw [5, 6] (fun v i wr => ∃ (j : Nat), j ≤ k ∧ i = .int .i64 ((j : Int) - 1) ∧ v = .int .u64 ((le256 (l.drop j) : Nat) : Int) ∧ ∃ m, wr = w.drewN m) (fun _ i _ => (intOf i + 1).toNat)
      case atStart => exact ⟨k, Nat.le_refl _, rfl, by rw [List.drop_eq_nil_of_le (by rw [H1.out.2.1]; exact Nat.le_refl _)]; rfl, nq, rfl⟩
      case round =>
        obtain ⟨j, hj, rfl, rfl, hw⟩ := hrel
        have HW := Hd.mk hw
        clear hw
        have g0 : wr.cell? ⟨gr, 0, none⟩ = some (.slice A n c) := by obtain ⟨m, rfl⟩ := HW.out; exact HR.out.c0
        have g1 : wr.cell? ⟨gr, 1, none⟩ = some (.int .i64 (at_ : Int)) := by obtain ⟨m, rfl⟩ := HW.out; exact HR.out.c1
        have z1 : wr.frozen? ⟨gr, 1, none⟩ = false := by obtain ⟨m, rfl⟩ := HW.out; exact HR.out.z1
        rcases j with _ | q
        · rw [show (((0 : Nat) : Int) - 1) = -1 from rfl, List.drop_zero]
          obtain ⟨X, hX⟩ : ∃ X : Int, ((le256 l : Nat) : Int) = X := ⟨_, rfl⟩
          have HX := Hd.mk hX
          rw [hX]
          clear hX
          go_wp2_with fail
          go_ret
          have e1 : redo (fixF bs at_ k) 0 at_ 0 = (le256 l, at_ + k, 0) := by
            unfold fixF takeF
            rw [if_pos (by rw [HR.out.len]; exact HL.out), H1.out.1]; rfl
          rw [e1]
          obtain ⟨m, rfl⟩ := HW.out
          have hmv := (HR.out.drewN m).move (at_ + k) (by have := HL.out; omega)
          refine ⟨_, rfl, ((Chg.refl [gr] w).drewN m).setCell (by simp) _, by rw [← HX.out]; rfl, ?_⟩
          simpa using hmv
        · rw [show (((q + 1 : Nat) : Int) - 1) = (q : Int) from by omega]
          obtain ⟨g, off, u, rfl, hg, hu, hc⟩ := HR.out.rd.at_ (k := at_ + q) (by have := HL.out; omega)
          rw [cb, List.getElem?_map, H1.out.2.2.2 q (by omega)] at hu
          injection hu with hu
          subst hu
          have hstep := le256_cons_step l q (by rw [H1.out.2.1]; omega) (by rw [H1.out.2.1]; exact hk8) H1.out.2.2.1
          have hcl : l.getD q 0 < 256 := H1.out.2.2.1 _ (by rw [List.getD_eq_getElem?_getD, List.getElem?_eq_getElem (by rw [H1.out.2.1]; omega)]; exact List.getElem_mem _)
          have hcell : wr.cell? ⟨g, off + (at_ + q), none⟩ = some (.int .u8 ((l.getD q 0 : Nat) : Int)) := by obtain ⟨m, rfl⟩ := HW.out; exact hc
          obtain ⟨C, hC⟩ : ∃ C : Int, ((l.getD q 0 : Nat) : Int) = C := ⟨_, rfl⟩
          obtain ⟨V, hV⟩ : ∃ V : Int, ((le256 (l.drop (q + 1)) : Nat) : Int) = V := ⟨_, rfl⟩
          have C0 : 0 ≤ C := by omega
          have C1 : C ≤ 255 := by omega
          have HS : Hd (V * 256 + C = ((le256 (l.drop q) : Nat) : Int) ∧ le256 (l.drop q) < 2 ^ 64) := ⟨by rw [← hV, ← hC]; exact hstep.1, hstep.2⟩
          have V0 : 0 ≤ V := by omega
          have hw1 : IntKind.u64.wrap (V * 256) = V * 256 := by have := HS.out; rw [IntKind.wrap_u64]; omega
          have hw2 : IntKind.u64.wrap (V * 256 + C) = V * 256 + C := by have := HS.out; rw [IntKind.wrap_u64]; omega
          have e5 : ((at_ : Int) + (q : Int)).toNat = at_ + q := by omega
          have hib : (at_ : Int) + (q : Int) < (n : Int) := by have := HL.out; omega
          rw [hC] at hcell
          rw [hV]
          clear hC hV hstep hcl hc
          have i0 : IntKind.i64.wrap ((at_ : Int) + (q : Int)) = (at_ : Int) + (q : Int) := by rw [IntKind.wrap_i64]; omega
          go_wp2_with fail
          go_quiet (fail)
          go_wp2_with fail
          go_roundw
          case rel => exact ⟨q, by omega, rfl, by rw [← HS.out.1], by obtain ⟨m, rfl⟩ := HW.out; exact ⟨m + nq, by simp [World.drewN, Nat.add_assoc]⟩⟩
          case measure => first | (simp [intOf]; done) | (simp [intOf]; omega)
  · have h0' : (fl != 0) = true := by simp [h0]
    have HZ := Hd.mk h0
    clear h0 R
    go_enter Try.func76, Try.ntmps76
    go_wp2_with fail
    go_ret
    have e1 : redo (fixF bs at_ k) 0 at_ fl = (0, at_, fl) := by unfold redo; rw [if_neg HZ.out]
    rw [e1]
    exact ⟨_, rfl, Chg.refl _ _, rfl, HR.out⟩
end Go.Proofs.Ytjkenhkoakaaoaa
