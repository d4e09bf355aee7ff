/- Contracts of codec's block, and of a reading with its closure. -/
import Derived.Test.YtjkenhkoakaaoaaRdrC
import Derived.Test.YtjkenhkoakaaoaaRdrB
namespace Go.Proofs.Ytjkenhkoakaaoaa
open Go.RowKit
set_option linter.unusedVariables false
/-- A slice below the reader, of these bytes. -/
def KCut (gr : Nat) (v : Value) (a : List Nat) (w : World) : Prop := ∃ A' c', v = .slice A' a.length c' ∧ Rd w gr A' a.length (cb a) ∧ a.length ≤ c'
theorem take_any (w : World) (gr n c at_ : Nat) (K : Int) (k : Nat) (A : Option Addr) (fl : Int) (bs : List Nat) (R : Rr w gr A n c at_ fl bs) (hK : K = (k : Int)) :
    Calls Try.prog 98 #[.pointer (some ⟨gr, 0, none⟩), .int .u64 K] w (Gives w gr n c A fl bs (KCut gr) (takeF bs at_ k)) := by
  have hl := R.len
  have hle := R.le.1
  subst hK
  by_cases hk : k ≤ n - at_
  · refine (take_yes w gr n c at_ k A fl bs R hk).mono ?_
    rintro e w1 ⟨A1, c1, rfl, hch, hr1, hrd, hc1⟩
    have hlen : ((bs.drop at_).take k).length = k := by rw [List.length_take, List.length_drop]; omega
    refine Gives.yes (a := (bs.drop at_).take k) (at' := at_ + k) (by unfold takeF; rw [if_pos (by omega)]) hch ⟨A1, c1, ?_, ?_, ?_⟩ hr1
    · rw [hlen]
    · rw [hlen]; exact hrd
    · rw [hlen]; exact hc1
  · refine (take_no w gr n c at_ k A fl bs R (by omega)).mono ?_
    rintro e w1 ⟨rfl, hch, hr1⟩
    exact Gives.no (by unfold takeF; rw [if_neg (by omega)]) hch hr1
theorem numF_hi (bs : List Nat) (at_ x a : Nat) (hb : ∀ y ∈ bs, y < 256) (h : numF bs at_ = .ok (x, a)) : x < 2 ^ 64 ∧ at_ < a ∧ (at_ ≤ bs.length → a ≤ bs.length) := by
  unfold numF at h
  split at h
  · rename_i v m he
    cases h
    have := numR_hi (bs.drop at_) 0 0 x m (by omega) (by omega) (fun y hy => hb y (List.mem_of_mem_drop hy)) he
    rw [List.length_drop] at this
    exact ⟨this.1, by omega, by omega⟩
  · cases h
set_option maxHeartbeats 1000000 in
theorem block_any (w : World) (gr n c at_ most : Nat) (A : Option Addr) (fl : Int) (bs : List Nat) (R : Rr w gr A n c at_ fl bs) (hm : most ≤ 9223372036854775807) :
    Calls Try.prog 94 #[.pointer (some ⟨gr, 0, none⟩), .int .i64 (most : Int)] w (Gives w gr n c A fl bs (KCut gr) (blockF bs at_ most)) := by
  have HR := Hd.mk R
  clear R
  obtain ⟨M, hM⟩ : ∃ M : Int, (most : Int) = M := ⟨_, rfl⟩
  have m1 : 0 ≤ M := by omega
  have m2 : M ≤ 9223372036854775807 := by omega
  have HM := Hd.mk hM
  rw [hM]
  clear hM hm
  go_enter Try.func94, Try.ntmps94
  go_wp2_with fail
  refine (number_any w gr n c at_ A fl bs HR.out).mono ?_
  rintro e w1 ⟨hch, hy, hn⟩
  rcases hnum : numF bs at_ with ec | ⟨k, a1⟩
  · obtain ⟨rfl, at', hr⟩ := hn ec hnum
    have H1 : Hd (Chg [gr] w w1 ∧ Rr w1 gr A n c at' fl bs ∧ blockF bs at_ most = .error ec) := ⟨hch, hr, by unfold blockF; rw [hnum]⟩
    clear hch hy hn hnum hr
    unfold giveUp
    go_wp2_with fail
    exact ⟨rfl, Gives.no H1.out.2.2 H1.out.1 H1.out.2.1⟩
  · obtain ⟨v, rfl, hk, hr⟩ := hy _ _ hnum
    unfold KNum at hk
    subst hk
    have hx := numF_hi bs at_ k a1 HR.out.lb hnum
    have H1 : Hd (Chg [gr] w w1 ∧ Rr w1 gr A n c a1 fl bs ∧ numF bs at_ = .ok (k, a1)) := ⟨hch, hr, hnum⟩
    obtain ⟨X, hX⟩ : ∃ X : Int, (k : Int) = X := ⟨_, rfl⟩
    have x1 : 0 ≤ X := by omega
    have x2 : X ≤ 18446744073709551615 := by omega
    have HX := Hd.mk hX
    rw [hX]
    clear hch hy hn hnum hr hx hX
    by_cases hle : X ≤ M
    · go_wp2_with fail
      refine (must_yes _ 71).mono ?_
      rintro e z ⟨rfl, rfl⟩
      go_wp2_with fail
      refine (take_any w1 gr n c a1 X k A fl bs H1.out.2.1 HX.out.symm).mono ?_
      rintro e w2 ⟨hch2, hy2, hn2⟩
      have hb : blockF bs at_ most = takeF bs a1 k := by unfold blockF; rw [H1.out.2.2]; simp only; rw [if_pos (by have := HX.out; have := HM.out; omega)]
      rcases htk : takeF bs a1 k with ec | ⟨l, a2⟩
      · obtain ⟨rfl, at', hr2⟩ := hn2 ec htk
        have H2 : Hd (Chg [gr] w1 w2 ∧ Rr w2 gr A n c at' fl bs ∧ blockF bs at_ most = .error ec) := ⟨hch2, hr2, hb.trans htk⟩
        clear hch2 hy2 hn2 hb htk hr2
        unfold giveUp
        go_wp2_with fail
        exact ⟨rfl, Gives.no H2.out.2.2 (H1.out.1.trans H2.out.1) H2.out.2.1⟩
      · obtain ⟨v, rfl, hk2, hr2⟩ := hy2 _ _ htk
        have H2 : Hd (Chg [gr] w1 w2 ∧ Rr w2 gr A n c a2 fl bs ∧ blockF bs at_ most = .ok (l, a2) ∧ KCut gr v l w2) := ⟨hch2, hr2, hb.trans htk, hk2⟩
        clear hch2 hy2 hn2 hb htk hr2 hk2
        go_wp2_with fail
        go_ret
        exact Gives.yes H2.out.2.2.1 (H1.out.1.trans H2.out.1) H2.out.2.2.2 H2.out.2.1
    · go_wp2_with fail
      rw [show decide (X ≤ M) = false from by simp; omega]
      refine (must_no _ 71).mono ?_
      rintro e z ⟨he, rfl⟩
      unfold giveUp at he
      subst he
      go_wp2_with fail
      refine ⟨rfl, Gives.no ?_ H1.out.1 H1.out.2.1⟩
      unfold blockF
      rw [H1.out.2.2]
      simp only
      rw [if_neg (by have := HX.out; have := HM.out; omega)]
/-- What a reading's closure does: the answer into its cell, or it gives up. -/
def Clo {α : Type} (w : World) (gr pv n c : Nat) (A : Option Addr) (bs : List Nat) (K : Value → α → World → Prop) (o : Except Int (α × Nat)) (e : Ending) (w' : World) : Prop :=
  (∀ a at', o = .ok (a, at') → e = .returned (.tuple #[]) ∧ Chg [gr, pv] w w' ∧ Rr w' gr A n c at' 0 bs ∧ ∃ v, w'.cell? ⟨pv, 0, none⟩ = some v ∧ w'.frozen? ⟨pv, 0, none⟩ = false ∧ K v a w') ∧
  (∀ ec, o = .error ec → e = giveUp ec ∧ Chg [gr] w w' ∧ ∃ at', Rr w' gr A n c at' 0 bs)
namespace Clo
variable {α : Type} {w w' : World} {gr pv n c : Nat} {A : Option Addr} {bs : List Nat} {K : Value → α → World → Prop} {o : Except Int (α × Nat)} {e : Ending}
theorem yes {a : α} {at' : Nat} {v : Value} (ho : o = .ok (a, at')) (hc : Chg [gr, pv] w w') (R : Rr w' gr A n c at' 0 bs) (hv : w'.cell? ⟨pv, 0, none⟩ = some v) (hz : w'.frozen? ⟨pv, 0, none⟩ = false) (hk : K v a w') : Clo w gr pv n c A bs K o (.returned (.tuple #[])) w' :=
  ⟨fun a1 at1 h => by rw [ho] at h; cases h; exact ⟨rfl, hc, R, v, hv, hz, hk⟩, fun ec h => by rw [ho] at h; cases h⟩
theorem no {ec : Int} {at' : Nat} (ho : o = .error ec) (hc : Chg [gr] w w') (R : Rr w' gr A n c at' 0 bs) : Clo w gr pv n c A bs K o (giveUp ec) w' :=
  ⟨fun a1 at1 h => by rw [ho] at h; (cases h), fun ec' h => by rw [ho] at h; cases h; exact ⟨rfl, hc, at', R⟩⟩
end Clo
/-- What stands behind a reading. -/
structure After {α : Type} (w : World) (gr pv n c at_ : Nat) (fl : Int) (A : Option Addr) (bs : List Nat) (K : Value → α → World → Prop) (r : α × Nat × Int) (w' : World) : Prop where
  ch : Chg [gr, pv] w w'
  cell : ∃ v, w'.cell? ⟨pv, 0, none⟩ = some v ∧ K v r.1 w'
  froz : w'.frozen? ⟨pv, 0, none⟩ = false
  rr : Rr w' gr A n c r.2.1 r.2.2 bs
theorem reading_all {α : Type} (w : World) (gr pv n c at_ : Nat) (fl : Int) (A : Option Addr) (bs : List Nat) (R : Rr w gr A n c at_ fl bs) (z : Value) (hz : w.cell? ⟨pv, 0, none⟩ = some z) (zf : w.frozen? ⟨pv, 0, none⟩ = false) (hp1 : gr < pv) (hp2 : pv < w.heap.size)
    (f : FuncId) (eg : ∀ args w, (callFunc f args).run Try.prog w = .ok (.enter f args) w) (caps : Array Value) (K : Value → α → World → Prop) (o : Except Int (α × Nat)) (zero : α) (hK0 : ∀ w', K z zero w')
    (hdo : fl = 0 → ∀ w1, Chg [] w w1 → Calls Try.prog f caps w1 (Clo w1 gr pv n c A bs K o)) :
    Calls Try.prog 91 #[.pointer (some ⟨gr, 0, none⟩), .func (.func f) #[] caps] w fun e w' => e = .returned (.tuple #[]) ∧ After w gr pv n c at_ fl A bs K (redo o zero at_ fl) w' := by
  by_cases hfl : fl = 0
  · subst hfl
    rcases ho : o with ec | ⟨a, at'⟩
    · refine (reading_no w gr n c at_ ec A bs R f eg caps fun w1 h1 _ => (hdo rfl w1 h1).mono ?_).mono ?_
      · rintro e w2 ⟨_, h⟩
        obtain ⟨h1, h2, h3⟩ := h ec ho
        exact ⟨h1, h2, h3⟩
      · rintro e w2 ⟨rfl, hch, hr⟩
        have hne : (⟨pv, 0, none⟩ : Addr).block ∉ [gr] := by simp; omega
        exact ⟨rfl, hch.mono (by simp), ⟨z, (hch.cell hp2 hne).trans hz, hK0 _⟩, (hch.frozen hp2 hne).trans zf, hr⟩
    · refine (reading_ok w gr n c at_ A bs R f eg caps (fun w2 => After w gr pv n c at_ 0 A bs K (a, at', 0) w2) fun w1 h1 _ => (hdo rfl w1 h1).mono ?_).mono ?_
      · rintro e w2 ⟨h, _⟩
        obtain ⟨he, hch, hr, v, hv, hfz, hk⟩ := h a at' ho
        exact ⟨he, (h1.mono (by simp)).trans hch, ⟨v, hv, hk⟩, hfz, hr⟩
      · rintro e w2 ⟨rfl, h⟩
        exact ⟨rfl, h⟩
  · refine (reading_fault w gr n c at_ fl A bs R hfl _).mono ?_
    rintro e w2 ⟨rfl, hch⟩
    refine ⟨rfl, ?_⟩
    unfold redo
    rw [if_neg hfl]
    exact ⟨hch.mono (by simp), ⟨z, (hch.cell (p := ⟨pv, 0, none⟩) hp2 (by simp)).trans hz, hK0 _⟩, (hch.frozen (p := ⟨pv, 0, none⟩) hp2 (by simp)).trans zf, R.keep' hch (by simp)⟩
end Go.Proofs.Ytjkenhkoakaaoaa
