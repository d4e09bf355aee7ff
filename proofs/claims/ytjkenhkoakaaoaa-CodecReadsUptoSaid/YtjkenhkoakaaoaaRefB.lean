/- Contracts of the reference's Reader's Varint, Bytes, Block; of its Open. -/
import Derived.Test.YtjkenhkoakaaoaaRefU
import Derived.Deep.RegionHeld3
namespace Go.Proofs.Ytjkenhkoakaaoaa
open Go.RowKit
set_option linter.unusedVariables false
set_option maxRecDepth 20000
theorem rvarint_any (w : World) (gr n c at_ : Nat) (fl : Int) (A : Option Addr) (bs : List Nat) (R : Rr w gr A n c at_ fl bs) :
    Calls Try.prog 78 #[.pointer (some ⟨gr, 0, none⟩)] w (Ans w gr n c A bs KZag (redo (numF bs at_) 0 at_ fl)) := by
  have HR := Hd.mk R
  clear R
  go_enter Try.func78, Try.ntmps78
  go_wp2_with fail
  refine (ruvarint_any w gr n c at_ fl A bs HR.out).mono ?_
  rintro e w1 ⟨v, rfl, hch, hk, hr⟩
  unfold KNum at hk
  subst hk
  have hb := num_bd' bs at_ fl HR.out.lb
  have H1 : Hd (Chg [gr] w w1 ∧ Rr w1 gr A n c (redo (numF bs at_) 0 at_ fl).2.1 (redo (numF bs at_) 0 at_ fl).2.2 bs) := ⟨hch, hr⟩
  clear hch hr
  obtain ⟨X, hX⟩ : ∃ X : Int, ((redo (numF bs at_) 0 at_ fl).1 : Int) = X := ⟨_, rfl⟩
  have HX := Hd.mk hX
  rw [hX]
  have x0 : 0 ≤ X := by omega
  have x1 : X ≤ 18446744073709551615 := by omega
  clear hX hb
  go_wp2_with fail
  refine (unfold_any w1 X x0 x1).mono ?_
  rintro e z ⟨rfl, rfl⟩
  go_wp2_with fail
  go_ret
  exact ⟨_, rfl, H1.out.1, by rw [← HX.out]; rfl, H1.out.2⟩
theorem ropen_any (w : World) (A : Option Addr) (n c B : Nat) (bs : List Nat) (hr : Rd w B A n (cb bs)) (hB : B ≤ w.heap.size) (hn : n ≤ 4398046511104) (hb : ∀ x ∈ bs, x < 256) :
    Calls Try.prog 36 #[.slice A n c] w fun e w' => ∃ gr A' c', e = .returned (.pointer (some ⟨gr, 0, none⟩)) ∧ Chg [] w w' ∧ Rr w' gr A' n c' 0 0 bs ∧ w.heap.size ≤ gr ∧ (∀ g off, A' = some ⟨g, off, none⟩ → 0 < n → w.heap.size ≤ g) := by
  have HR : Hd (Rd w B A n (cb bs) ∧ B ≤ w.heap.size ∧ n ≤ 4398046511104 ∧ ∀ x ∈ bs, x < 256) := ⟨hr, hB, hn, hb⟩
  clear hr hB hn hb
  go_enter Try.func36, Try.ntmps36
  go_wp2_with fail
  refine (joined_any w none A 0 0 n c B [] bs Rd.nil HR.out.1 (by have := HR.out.2.2.1; omega) HR.out.2.1).mono ?_
  rintro e w1 ⟨v1, rfl, hO⟩
  rw [Nat.zero_add, List.nil_append] at hO
  obtain ⟨A1, c1, rfl, hc1, hm1⟩ := own_form hO.own
  have H1 : Hd (Onto w w1 w.heap.size 5 (.slice none 0 0) (.slice A1 n c1) n (cb bs) ∧ n ≤ c1) := ⟨hO, hc1⟩
  clear hO hc1 hm1
  go_wp2_with fail
  go_ret
  have hbl := H1.out.1.below (B := w.heap.size) (fun k h => by cases h) (Nat.le_refl _)
  refine ⟨w1.heap.size, A1, c1, rfl, (Chg.of_below hbl).alloc _, ?_, hbl.size, ?_⟩
  · refine ⟨by simp, by simp, by simp, by simp, by simp, ?_, ⟨Nat.zero_le _, H1.out.2, HR.out.2.2.1⟩, by simp, HR.out.2.2.2⟩
    exact (Rd.of_own H1.out.1.own).alloc (Nat.le_refl _) _
  · intro g off he hn
    subst he
    obtain ⟨g', cap, hv, hg1, _⟩ := own_pos H1.out.1.own hn
    injection hv with hv
    injection hv with hv
    injection hv with hv
    omega
set_option maxHeartbeats 2000000 in
theorem rbytes_any (w : World) (gr n c at_ : Nat) (fl : Int) (A : Option Addr) (bs : List Nat) (x : Int) (hx : -9223372036854775808 ≤ x ∧ x ≤ 9223372036854775807) (R : Rr w gr A n c at_ fl bs) :
    Calls Try.prog 79 #[.pointer (some ⟨gr, 0, none⟩), .int .i64 x] w (Ans w gr n c A bs (KOwn w.heap.size) (redo (bytesF bs at_ x) [] at_ fl)) := by
  have HR := Hd.mk R
  have g0 := R.c0
  have g1 := R.c1
  have g2 := R.c2
  have z1 := R.z1
  obtain ⟨l1, l2, l3⟩ := R.le
  obtain ⟨x1, x2⟩ := hx
  by_cases h0 : fl = 0
  · subst h0
    by_cases hneg : x < 0
    · have HN := Hd.mk hneg
      clear R
      go_enter Try.func79, Try.ntmps79
      go_wp2_with fail
      refine (refused_any _ gr n c at_ at_ 0 2 A bs HR.out l1).mono ?_
      rintro e w2 ⟨rfl, hch, hr⟩
      have H2 : Hd (Chg [gr] w w2 ∧ Rr w2 gr A n c at_ 2 bs) := ⟨hch, hr⟩
      clear hch hr
      go_wp2_with fail
      go_ret
      have e1 : redo (bytesF bs at_ x) [] at_ 0 = ([], at_, 2) := by unfold bytesF; rw [if_pos HN.out]; rfl
      rw [e1]
      exact ⟨_, rfl, H2.out.1, KOwn.nil _ _, H2.out.2⟩
    · obtain ⟨k, rfl⟩ := Int.eq_ofNat_of_zero_le (show 0 ≤ x by omega)
      by_cases hlt : n - at_ < k
      · have hd : decide (((n : Int) - (at_ : Int)) < (k : Int)) = true := by simp; omega
        have HL := Hd.mk hlt
        clear R
        go_enter Try.func79, Try.ntmps79
        go_wp2_with fail
        go_quiet (fail)
        go_wp2_with fail
        refine (refused_any _ gr n c at_ at_ 0 70 A bs (HR.out.drewN _) l1).mono ?_
        rintro e w2 ⟨rfl, hch, hr⟩
        have H2 : Hd (Chg [gr] w w2 ∧ Rr w2 gr A n c at_ 70 bs) := ⟨((Chg.refl _ w).drewN nq).trans hch, hr⟩
        clear hch hr
        go_wp2_with fail
        go_ret
        have e1 : redo (bytesF bs at_ (k : Int)) [] at_ 0 = ([], at_, 70) := by
          unfold bytesF takeF
          rw [if_neg (by omega), Int.toNat_natCast, if_neg (by rw [HR.out.len]; have := HL.out; omega)]; rfl
        rw [e1]
        exact ⟨_, rfl, H2.out.1, KOwn.nil _ _, H2.out.2⟩
      · have hd : decide (((n : Int) - (at_ : Int)) < (k : Int)) = false := by simp; omega
        have HL : Hd (k ≤ n - at_) := ⟨by omega⟩
        have hk' : (at_ : Int) + (k : Int) ≤ 4398046511104 := by omega
        clear R hlt
        go_enter Try.func79, Try.ntmps79
        go_wp2_with fail
        go_quiet (fail)
        go_wp2_with fail
        obtain ⟨wy, hwy⟩ : ∃ wy, w.drewN nq = wy := ⟨_, rfl⟩
        rw [hwy]
        have HY : Hd (Chg [gr] w wy ∧ Rr wy gr A n c at_ 0 bs ∧ w.heap.size = wy.heap.size) := ⟨by rw [← hwy]; exact (Chg.refl _ _).drewN _, by rw [← hwy]; exact HR.out.drewN _, by rw [← hwy]; rfl⟩
        have g0y := HY.out.2.1.c0
        have g1y := HY.out.2.1.c1
        have hcut : ∀ w, (Instr.slice 45 (.slice A n c) (some (.int .i64 (at_ : Int))) (some (.int .i64 ((at_ : Int) + (k : Int)))) none).run Try.prog w = .ok (.slice (cutA A c at_) k (c - at_)) w := by
          intro w
          have := run_cut (w := w) elB A n c at_ (at_ + k) (by omega) (by have := HL.out; omega)
          rw [show at_ + k - at_ = k from by omega] at this
          push_cast at this
          exact this
        have i0 : IntKind.i64.wrap ((at_ : Int) + (k : Int)) = (at_ : Int) + (k : Int) := by rw [IntKind.wrap_i64]; omega
        have hrd : Hd (Rd wy.drew gr (cutA A c at_) k (cb ((bs.drop at_).take k))) := by
          have := HY.out.2.1.rd.cut (c := c) (l := at_) (h := at_ + k) (by omega) (by have := HL.out; omega) l2
          rw [show at_ + k - at_ = k from by omega] at this
          unfold cb at this ⊢
          rw [← List.map_drop, ← List.map_take] at this
          exact ⟨this⟩
        have hcall : Calls Try.prog 75 #[.slice none 0 0, .slice (cutA A c at_) k (c - at_)] wy.drew fun e w3 => ∃ v3, e = .returned v3 ∧ w3.cell? ⟨gr, 0, none⟩ = some (.slice A n c) ∧ w3.cell? ⟨gr, 1, none⟩ = some (.int .i64 (at_ : Int)) ∧
            Hd (w3.ownsRow wy.heap.size 5 1 v3 k (cb ((bs.drop at_).take k)) ∧ Chg [gr] w w3 ∧ Rr w3 gr A n c at_ 0 bs) := by
          refine (joined_any wy.drew none (cutA A c at_) 0 0 k (c - at_) gr [] ((bs.drop at_).take k) Rd.nil hrd.out (by have := HL.out; omega) (Nat.le_of_lt HY.out.2.1.lt)).mono ?_
          rintro e w3 ⟨v3, rfl, hO⟩
          rw [Nat.zero_add, List.nil_append] at hO
          have hbw := hO.below (B := wy.heap.size) (fun k h => by cases h) (Nat.le_refl _)
          exact ⟨v3, rfl, (hbw.cell (p := ⟨gr, 0, none⟩) HY.out.2.1.lt).trans g0y, (hbw.cell (p := ⟨gr, 1, none⟩) HY.out.2.1.lt).trans g1y,
            ⟨hO.own, HY.out.1.trans (Chg.of_drew ((Chg.of_below (L := []) (w := wy.drew) hbw).mono (by simp))), HY.out.2.1.drew.below hbw HY.out.2.1.lt⟩⟩
        have HCALL := Hd.mk hcall
        clear g0 g1 g2 z1 hwy hcall
        go_region_held3 (fun w' => w'.cell? ⟨gr, 0, none⟩ = some (.slice A n c) ∧ w'.cell? ⟨gr, 1, none⟩ = some (.int .i64 (at_ : Int)))
          (first | (exact ⟨hc0, hc1⟩) | (exact ⟨g0y, g1y⟩) | go_keep)
          ((go_at_call 75
            refine HCALL.out.mono ?_
            rintro e w3 ⟨v3, rfl, hc0, hc1, H3⟩))
        have z1y := H3.out.2.2.z1
        clear g0y g1y
        go_wp2_with fail
        go_ret
        have hl : ((bs.drop at_).take k).length = k := by rw [List.length_take, List.length_drop, HR.out.len]; have := HL.out; omega
        have e1 : redo (bytesF bs at_ (k : Int)) [] at_ 0 = ((bs.drop at_).take k, at_ + k, 0) := by
          unfold bytesF takeF
          rw [if_neg (by omega), Int.toNat_natCast, if_pos (by rw [HR.out.len]; exact HL.out)]; rfl
        rw [e1]
        have hmv := H3.out.2.2.move (at_ + k) (by have := HL.out; omega)
        refine ⟨_, rfl, H3.out.2.1.setCell (by simp) _, ?_, ?_⟩
        · unfold KOwn
          rw [hl, HY.out.2.2]
          exact ownsRow_setCell_below H3.out.1 (a := ⟨gr, 1, none⟩) HY.out.2.1.lt _
        · push_cast at hmv
          first | exact hmv | (simpa using hmv)
  · have h0' : (fl != 0) = true := by simp [h0]
    have HZ := Hd.mk h0
    clear h0 R
    go_enter Try.func79, Try.ntmps79
    go_wp2_with fail
    go_ret
    have e1 : redo (bytesF bs at_ x) [] at_ fl = ([], at_, fl) := by unfold redo; rw [if_neg HZ.out]
    rw [e1]
    exact ⟨_, rfl, Chg.refl _ _, KOwn.nil _ _, HR.out⟩
end Go.Proofs.Ytjkenhkoakaaoaa
