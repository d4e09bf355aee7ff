/- Put together of: RdrF RdrA RdrC RdrB RdrD RdrE CPuts RdrG RdrL. -/
import Derived.Test.YtbcmjjcbjojakaaDoorPk1
import Derived.Test.YtbcmjjcbjojakaaDoorPk3
import Derived.Deep.RegionHeld3
import Derived.StillTailTactics
import Derived.Test.YtbcmjjcbjojakaaDoorPk2
section
namespace Go.Proofs.YtbcmjjcbjojakaaDoor
open Go.RowKit
set_option linter.unusedVariables false
/-- A short form, group by group: its number and how many bytes it took, or the fault. -/
def numR : List Nat → Nat → Nat → Except Int (Nat × Nat)
  | [], _, _ => .error 70
  | c :: l, i, v =>
    if 9 ≤ i ∧ 1 < c then .error 71
    else if c < 128 then (if c = 0 ∧ i ≠ 0 then .error 71 else .ok (v + c % 128 * 2 ^ (7 * i), i + 1))
    else numR l (i + 1) (v + c % 128 * 2 ^ (7 * i))
/-- The number that bytes say, the lowest first. -/
def le256 : List Nat → Nat
  | [] => 0
  | c :: l => c + 256 * le256 l
theorem le256_snoc (l : List Nat) (c : Nat) : le256 (l ++ [c]) = le256 l + c * 256 ^ l.length := by
  induction l with
  | nil => simp [le256]
  | cons x l ih => simp only [List.cons_append, le256, ih, List.length_cons, Nat.pow_succ]; rw [Nat.mul_add, Nat.mul_comm (256 ^ l.length) 256, Nat.mul_left_comm c 256]; omega
theorem le256_lt (l : List Nat) (h : ∀ x ∈ l, x < 256) : le256 l < 256 ^ l.length := by
  induction l with
  | nil => simp [le256]
  | cons x l ih =>
    have h1 := h x (by simp)
    have h2 := ih fun y hy => h y (by simp [hy])
    simp only [le256, List.length_cons, Nat.pow_succ]
    omega
/-- The next k bytes. -/
def takeF (bs : List Nat) (at_ k : Nat) : Except Int (List Nat × Nat) := if k ≤ bs.length - at_ then .ok ((bs.drop at_).take k, at_ + k) else .error 70
def numF (bs : List Nat) (at_ : Nat) : Except Int (Nat × Nat) :=
  match numR (bs.drop at_) 0 0 with
  | .ok (v, m) => .ok (v, at_ + m)
  | .error e => .error e
def blockF (bs : List Nat) (at_ most : Nat) : Except Int (List Nat × Nat) :=
  match numF bs at_ with
  | .ok (k, a) => if k ≤ most then takeF bs a k else .error 71
  | .error e => .error e
/-- k blocks, one behind the other. -/
def rowsF (bs : List Nat) (each : Nat) : Nat → Nat → Except Int (List (List Nat) × Nat)
  | 0, a => .ok ([], a)
  | k + 1, a =>
    match blockF bs a each with
    | .error e => .error e
    | .ok (b, a1) =>
      match rowsF bs each k a1 with
      | .error e => .error e
      | .ok (l, a2) => .ok (b :: l, a2)
def fixF (bs : List Nat) (at_ k : Nat) : Except Int (Nat × Nat) :=
  match takeF bs at_ k with
  | .ok (l, a) => .ok (le256 l, a)
  | .error e => .error e
def bytesF (bs : List Nat) (at_ : Nat) (k : Int) : Except Int (List Nat × Nat) := if k < 0 then .error 2 else takeF bs at_ k.toNat
def blkF (bs : List Nat) (at_ : Nat) (most : Int) : Except Int (List Nat × Nat) := if most < 0 then .error 2 else blockF bs at_ most.toNat
def textsF (bs : List Nat) (at_ : Nat) (most each : Int) : Except Int (List (List Nat) × Nat) :=
  if most < 0 ∨ each < 0 then .error 2
  else match numF bs at_ with
    | .error e => .error e
    | .ok (k, a) => if k ≤ most.toNat then rowsF bs each.toNat k a else .error 71
/-- A reading: all of it or nothing. -/
def redo {α : Type} (o : Except Int (α × Nat)) (z : α) (at_ : Nat) (fl : Int) : α × Nat × Int :=
  if fl = 0 then (match o with
    | .ok (a, at') => (a, at', 0)
    | .error e => (z, at_, e))
  else (z, at_, fl)
theorem andNot_128 (C : Nat) (h : C < 256) : bits .andNot .u8 (C : Int) 128 = ((C % 128 : Nat) : Int) := by
  have : ((List.range 256).all fun C => bits .andNot .u8 (C : Int) 128 == ((C % 128 : Nat) : Int)) = true := by kernel_rfl
  have := List.all_eq_true.1 this C (List.mem_range.2 h)
  exact eq_of_beq this
theorem pow7 (k : Nat) (hk : k ≤ 8) : (2 : Nat) ^ (7 * k) * 128 ≤ 2 ^ 63 := by
  rw [show (128 : Nat) = 2 ^ 7 by rfl, ← Nat.pow_add]; exact Nat.pow_le_pow_right (by omega) (by omega)
/-- One group more. -/
theorem or_step (C k x : Nat) (hC : C < 256) (hk : k < 9 ∨ (k = 9 ∧ C ≤ 1)) (hx : x < 2 ^ (7 * k)) :
    bits .or .u64 (x : Int) (IntKind.u64.wrap (IntKind.u64.wrap (bits .andNot .u8 (C : Int) 128) * 2 ^ (7 * k))) = ((x + C % 128 * 2 ^ (7 * k) : Nat) : Int) ∧ x + C % 128 * 2 ^ (7 * k) < 2 ^ 64 := by
  have hm : C % 128 * 2 ^ (7 * k) + 2 ^ (7 * k) ≤ 2 ^ 64 := by
    rcases hk with hk | ⟨rfl, hc⟩
    · have h1 := pow7 k (by omega)
      have h2 : C % 128 * 2 ^ (7 * k) ≤ 127 * 2 ^ (7 * k) := Nat.mul_le_mul_right _ (by omega)
      omega
    · clear hx
      have h2 : C % 128 * 2 ^ (7 * 9) ≤ 1 * 2 ^ (7 * 9) := Nat.mul_le_mul_right _ (by omega)
      have h4 : (2 : Nat) ^ 64 = 2 ^ (7 * 9) + 2 ^ (7 * 9) := by decide
      rw [h4]
      obtain ⟨z, hz⟩ : ∃ z : Nat, 2 ^ (7 * 9) = z := ⟨_, rfl⟩
      rw [hz] at h2 ⊢
      clear h4 hz
      omega
  refine ⟨?_, by omega⟩
  rw [andNot_128 C hC]
  have e1 : IntKind.u64.wrap ((C % 128 : Nat) : Int) = ((C % 128 : Nat) : Int) := by rw [IntKind.wrap_u64]; omega
  have e2 : ((C % 128 : Nat) : Int) * 2 ^ (7 * k) = ((C % 128 * 2 ^ (7 * k) : Nat) : Int) := by push_cast; rfl
  rw [e1, e2]
  obtain ⟨y, hy⟩ : ∃ y, C % 128 * 2 ^ (7 * k) = y := ⟨_, rfl⟩
  have e3 : IntKind.u64.wrap (y : Int) = (y : Int) := by rw [IntKind.wrap_u64]; omega
  rw [hy, e3]
  have e4 : x < 18446744073709551616 ∧ y < 18446744073709551616 := by
    have : (2 : Nat) ^ 64 = 18446744073709551616 := by decide
    rw [this] at hm
    omega
  rw [u64_or_nat x y e4.1 e4.2]
  rw [← hy, Nat.or_comm, ← Nat.shiftLeft_eq, ← Nat.shiftLeft_add_eq_or_of_lt hx, Nat.add_comm]
theorem numR_hi (l : List Nat) : ∀ (i v x m : Nat), i ≤ 9 → v < 2 ^ (7 * i) → (∀ y ∈ l, y < 256) → numR l i v = .ok (x, m) → x < 2 ^ 64 ∧ i < m ∧ m ≤ i + l.length := by
  induction l with
  | nil => intro i v x m _ _ _ h; cases h
  | cons C l ih =>
    intro i v x m hi hv hl h
    have hC := hl C (by simp)
    unfold numR at h
    split at h
    · cases h
    rename_i hbad
    have hk : i < 9 ∨ (i = 9 ∧ C ≤ 1) := by omega
    have hs := (or_step C i v hC hk hv).2
    split at h
    · split at h
      · cases h
      · cases h; exact ⟨hs, by omega, by simp⟩
    · have h9 : i < 9 := by omega
      have := ih (i + 1) _ x m (by omega) (by
        rw [show 7 * (i + 1) = 7 * i + 7 by omega, Nat.pow_add]
        have : C % 128 * 2 ^ (7 * i) ≤ 127 * 2 ^ (7 * i) := Nat.mul_le_mul_right _ (by omega)
        omega) (fun y hy => hl y (by simp [hy])) h
      simp only [List.length_cons]
      omega
end Go.Proofs.YtbcmjjcbjojakaaDoor
end
section
namespace Go.Proofs.YtbcmjjcbjojakaaDoor
open Go.RowKit
set_option linter.unusedVariables false
theorem Chg.drewN {L : List Nat} {w w1 : World} (h : Chg L w w1) (m : Nat) : Chg L w (w1.drewN m) := ⟨h.os, h.tape, h.output, h.size, h.block⟩
theorem Rr.drewN {w : World} {gr n c at_ : Nat} {A : Option Addr} {fl : Int} {bs : List Nat} (R : Rr w gr A n c at_ fl bs) (m : Nat) : Rr (w.drewN m) gr A n c at_ fl bs := ⟨R.c0, R.c1, R.c2, R.z1, R.z2, R.rd, R.le, R.lt, R.lb⟩
set_option maxRecDepth 20000 in
set_option maxHeartbeats 1000000 in
theorem take_yes (w : World) (gr n c at_ k : Nat) (A : Option Addr) (fl : Int) (bs : List Nat) (R : Rr w gr A n c at_ fl bs) (hk : k ≤ n - at_) :
    Calls Tryd.prog 68 #[.pointer (some ⟨gr, 0, none⟩), .int .u64 (k : Int)] w fun e w' => ∃ A' c', e = .returned (.slice A' k c') ∧ Chg [gr] w w' ∧ Rr w' gr A n c (at_ + k) fl bs ∧ Rd w' gr A' k (cb ((bs.drop at_).take k)) ∧ k ≤ c' := by
  have HR := Hd.mk R
  have g0 := R.c0
  have g1 := R.c1
  have z1 := R.z1
  obtain ⟨l1, l2, l3⟩ := R.le
  have HL : Hd (at_ ≤ n ∧ n ≤ c ∧ n ≤ 4398046511104 ∧ k ≤ n - at_) := ⟨l1, l2, l3, hk⟩
  have hcut : ∀ w, (Instr.slice 28 (.slice A n c) (some (.int .i64 (at_ : Int))) (some (.int .i64 ((at_ : Int) + (k : Int)))) none).run Tryd.prog w = .ok (.slice (cutA A c at_) k (c - at_)) w := by
    intro w
    have := run_cut (w := w) elB A n c at_ (at_ + k) (by omega) (by omega)
    rw [show at_ + k - at_ = k from by omega] at this
    push_cast at this
    exact this
  obtain ⟨AT, hAT⟩ : ∃ AT : Int, (at_ : Int) = AT := ⟨_, rfl⟩
  obtain ⟨K, hK⟩ : ∃ K : Int, (k : Int) = K := ⟨_, rfl⟩
  obtain ⟨N, hN⟩ : ∃ N : Int, (n : Int) = N := ⟨_, rfl⟩
  have b1 : 0 ≤ AT := by omega
  have b2 : 0 ≤ K := by omega
  have b3 : AT + K ≤ N := by omega
  have b4 : N ≤ 4398046511104 := by omega
  have HE : Hd ((at_ : Int) = AT ∧ (k : Int) = K ∧ (n : Int) = N) := ⟨hAT, hK, hN⟩
  rw [hAT] at g1 hcut
  rw [hK] at hcut ⊢
  have w1 : Hd (IntKind.i64.wrap (N - AT) = N - AT) := ⟨by rw [IntKind.wrap_i64]; omega⟩
  have w2 : Hd (IntKind.u64.wrap (N - AT) = N - AT) := ⟨by rw [IntKind.wrap_u64]; omega⟩
  have w3 : Hd (decide (K ≤ N - AT) = true) := ⟨by rw [decide_eq_true_iff]; omega⟩
  have w4 : Hd (IntKind.i64.wrap K = K) := ⟨by rw [IntKind.wrap_i64]; omega⟩
  have w5 : Hd (IntKind.i64.wrap (AT + K) = AT + K) := ⟨by rw [IntKind.wrap_i64]; omega⟩
  clear R l1 l2 l3 hk hAT hK
  go_enter Tryd.func68, Tryd.ntmps68
  go_wp2_with fail
  go_still_tail 13, (by kernel_rfl)
  change wpList _ _ _ _ _ w.drew
  go_wp2_with fail
  rw [w3.out]
  refine (must_yes w.drew 70).mono ?_
  rintro e z ⟨rfl, rfl⟩
  go_wp2_with fail
  have q4 := w4.out
  have q5 := w5.out
  go_quiet (fail)
  go_wp2_with fail
  go_ret
  have e1 : AT + K = ((at_ + k : Nat) : Int) := by have := HE.out; omega
  rw [e1]
  obtain ⟨l1, l2, l3, l4⟩ := HL.out
  have hm := (HR.out.drewN (1 + nq)).move (at_ + k) (by omega)
  refine ⟨_, _, rfl, ((Chg.refl [gr] w).drewN _).setCell (by simp) _, hm, ?_, by omega⟩
  have := HR.out.rd.cut (c := c) (l := at_) (h := at_ + k) (by omega) (by omega) l2
  rw [show at_ + k - at_ = k from by omega] at this
  have h2 : Rd (w.drewN (1 + nq)) gr (cutA A c at_) k (List.take k (List.drop at_ (cb bs))) := this
  have h3 := h2.setCell (p := ⟨gr, 1, none⟩) (Nat.le_refl _) (.int .i64 ((at_ + k : Nat) : Int))
  unfold cb at h3 ⊢
  rw [← List.map_drop, ← List.map_take] at h3
  exact h3
set_option maxRecDepth 20000 in
set_option maxHeartbeats 1000000 in
theorem take_no (w : World) (gr n c at_ : Nat) (K : Int) (A : Option Addr) (fl : Int) (bs : List Nat) (R : Rr w gr A n c at_ fl bs) (hk : (n : Int) - at_ < K) :
    Calls Tryd.prog 68 #[.pointer (some ⟨gr, 0, none⟩), .int .u64 K] w fun e w' => e = giveUp 70 ∧ Chg [gr] w w' ∧ Rr w' gr A n c at_ fl bs := by
  have HR := Hd.mk R
  have g0 := R.c0
  have g1 := R.c1
  obtain ⟨l1, l2, l3⟩ := R.le
  obtain ⟨AT, hAT⟩ : ∃ AT : Int, (at_ : Int) = AT := ⟨_, rfl⟩
  obtain ⟨N, hN⟩ : ∃ N : Int, (n : Int) = N := ⟨_, rfl⟩
  have b1 : 0 ≤ AT := by omega
  have b3 : AT ≤ N := by omega
  have b4 : N ≤ 4398046511104 := by omega
  rw [hAT] at g1 hk
  rw [hN] at hk
  have w3 : Hd (decide (K ≤ N - AT) = false) := ⟨by rw [decide_eq_false_iff_not]; omega⟩
  clear R l1 l2 l3 hk hAT
  go_enter Tryd.func68, Tryd.ntmps68
  go_wp2_with fail
  go_still_tail 13, (by kernel_rfl)
  change wpList _ _ _ _ _ w.drew
  go_wp2_with fail
  rw [w3.out]
  refine (must_no w.drew 70).mono ?_
  rintro e z ⟨he, rfl⟩
  unfold giveUp at he
  subst he
  go_wp2_with fail
  exact ⟨rfl, rfl, (Chg.refl _ _).drew, HR.out.drew⟩
end Go.Proofs.YtbcmjjcbjojakaaDoor
end
section
namespace Go.Proofs.YtbcmjjcbjojakaaDoor
open Go.RowKit
set_option linter.unusedVariables false
/-- What an inner reading gives: a value that K speaks of, and the place; or it gives up. -/
def Gives {α : Type} (w : World) (gr n c : Nat) (A : Option Addr) (fl : Int) (bs : List Nat) (K : Value → α → World → Prop) (o : Except Int (α × Nat)) (e : Ending) (w' : World) : Prop :=
  Chg [gr] w w' ∧ (∀ a at', o = .ok (a, at') → ∃ v, e = .returned v ∧ K v a w' ∧ Rr w' gr A n c at' fl bs) ∧ (∀ ec, o = .error ec → e = giveUp ec ∧ ∃ at', Rr w' gr A n c at' fl bs)
namespace Gives
variable {α : Type} {w w' : World} {gr n c : Nat} {A : Option Addr} {fl : Int} {bs : List Nat} {K : Value → α → World → Prop} {o : Except Int (α × Nat)} {e : Ending}
theorem yes {a : α} {at' : Nat} {v : Value} (ho : o = .ok (a, at')) (hc : Chg [gr] w w') (hk : K v a w') (R : Rr w' gr A n c at' fl bs) : Gives w gr n c A fl bs K o (.returned v) w' :=
  ⟨hc, fun a1 at1 h => by rw [ho] at h; cases h; exact ⟨v, rfl, hk, R⟩, fun ec h => by rw [ho] at h; cases h⟩
theorem no {ec : Int} {at' : Nat} (ho : o = .error ec) (hc : Chg [gr] w w') (R : Rr w' gr A n c at' fl bs) : Gives w gr n c A fl bs K o (giveUp ec) w' :=
  ⟨hc, fun a1 at1 h => by rw [ho] at h; (cases h), fun ec' h => by rw [ho] at h; cases h; exact ⟨rfl, at', R⟩⟩
end Gives
def KNum (v : Value) (a : Nat) (_ : World) : Prop := v = .int .u64 (a : Int)
theorem drop_cons (bs : List Nat) (k : Nat) (h : k < bs.length) : bs.drop k = bs.getD k 0 :: bs.drop (k + 1) := by
  rw [List.getD_eq_getElem?_getD, List.getElem?_eq_getElem h]; exact List.drop_eq_getElem_cons h
set_option maxHeartbeats 2000000 in
theorem number_any (w : World) (gr n c at_ : Nat) (A : Option Addr) (fl : Int) (bs : List Nat) (R : Rr w gr A n c at_ fl bs) :
    Calls Tryd.prog 71 #[.pointer (some ⟨gr, 0, none⟩)] w (Gives w gr n c A fl bs KNum (numF bs at_)) := by
  obtain ⟨o, ho⟩ : ∃ o, numF bs at_ = o := ⟨_, rfl⟩
  rw [ho]
  have HO := Hd.mk ho
  have HR := Hd.mk R
  clear R ho
  go_enter Tryd.func71, Tryd.ntmps71
  go_wp2_with fail
  go_loopw [3, 4] (fun v i wr => ∃ (k x : Nat), k ≤ 9 ∧ x < 2 ^ (7 * k) ∧ i = .int .i64 k ∧ v = .int .u64 (x : Int) ∧ Chg [gr] w wr ∧ Rr wr gr A n c (at_ + k) fl bs ∧
    (match numR (bs.drop (at_ + k)) k x with | .ok (v, m) => Except.ok (v, at_ + m) | .error e => .error e) = o) (fun _ i _ => 10 - (intOf i).toNat)
  case atStart => exact ⟨0, 0, by omega, by omega, rfl, rfl, Chg.refl _ _, HR.out, HO.out⟩
  case round =>
    obtain ⟨k, x, hk, hx, rfl, rfl, hc, hr, ho⟩ := hrel
    have H0 : Hd (x < 2 ^ (7 * k) ∧ Chg [gr] w wr ∧ Rr wr gr A n c (at_ + k) fl bs) := ⟨hx, hc, hr⟩
    have H1 := Hd.mk ho
    have hlen : bs.length = n := HR.out.len
    clear hx hc hr ho
    by_cases hlt : at_ + k < n
    · go_wp2_with fail
      refine (take_yes wr gr n c (at_ + k) 1 A fl bs H0.out.2.2 (by omega)).mono ?_
      rintro e w1 ⟨A1, c1, rfl, hch, hr1, hrd, hc1⟩
      have hdr := drop_cons bs (at_ + k) (by omega)
      obtain ⟨g, off, u, rfl, hg, hxx, hcell⟩ := hrd.at_ (k := 0) (by omega)
      have hb := HR.out.lb (bs.getD (at_ + k) 0) (by rw [List.getD_eq_getElem?_getD, List.getElem?_eq_getElem (by omega)]; exact List.getElem_mem _)
      rw [hdr] at hxx
      obtain ⟨C, hC⟩ : ∃ C, bs.getD (at_ + k) 0 = C := ⟨_, rfl⟩
      rw [hC] at hxx hdr hb
      injection hxx with hxx
      rw [← hxx, Nat.add_zero] at hcell
      have H2 : Hd (Chg [gr] wr w1 ∧ Rr w1 gr A n c (at_ + k + 1) fl bs ∧ bs.drop (at_ + k) = C :: bs.drop (at_ + k + 1) ∧ C < 256) := ⟨hch, hr1, hdr, hb⟩
      obtain ⟨X, hX⟩ : ∃ X : Int, (C : Int) = X := ⟨_, rfl⟩
      have x1 : 0 ≤ X := by omega
      have x2 : X ≤ 255 := by omega
      have HX := Hd.mk hX
      replace hcell : w1.cell? ⟨g, off, none⟩ = some (.int .u8 (C : Int)) := hcell
      rw [hX] at hcell
      clear hch hr1 hdr hb hrd hxx hC hX
      have hk1 : (k : Int) ≤ 9 := by omega
      by_cases hbad : 9 ≤ k ∧ 1 < C
      · have c1 : ¬ ((k : Int) < 9) := by omega
        have c2 : ¬ (X ≤ 1) := by have := HX.out; omega
        go_wp2_with fail
        rw [show (decide (X ≤ 1)) = false from by simp; omega, show (decide ((k : Int) < 9) || false) = false from by simp; omega]
        refine (must_no _ 71).mono ?_
        rintro e z ⟨he, rfl⟩
        unfold giveUp at he
        subst he
        go_wp2_with fail
        refine ⟨rfl, Gives.no (at' := at_ + k + 1) ?_ (H0.out.2.1.trans H2.out.1) H2.out.2.1⟩
        rw [← H1.out, H2.out.2.2.1, numR, if_pos hbad]
      · have hor : (k : Int) < 9 ∨ (¬ ((k : Int) < 9) ∧ X ≤ 1) := by have := HX.out; omega
        have HS := Hd.mk (or_step C k x H2.out.2.2.2 (by have := HX.out; omega) H0.out.1)
        rw [HX.out] at HS
        have HB := Hd.mk hbad
        clear hbad
        rcases hor with q1 | ⟨q1, q2⟩
        all_goals
          go_wp2_with fail
          refine (must_yes _ 71).mono ?_
          rintro e z ⟨rfl, rfl⟩
          by_cases hs : X < 128
          · go_wp2_with fail
            · by_cases h0 : k = 0
              · rw [show (decide (0 < X) || ((k : Int) == 0)) = true from by simp [h0]]
                have H00 := Hd.mk h0
                clear h0
                refine (must_yes _ 71).mono ?_
                rintro e z ⟨rfl, rfl⟩
                go_wp2_with fail
                go_ret
                refine Gives.yes (a := x + C % 128 * 2 ^ (7 * k)) (at' := at_ + k + 1) ?_ (H0.out.2.1.trans H2.out.1) ?_ H2.out.2.1
                · rw [← H1.out, H2.out.2.2.1, numR, if_neg HB.out, if_pos (by have := HX.out; omega), if_neg (by have := HX.out; have := H00.out; omega)]
                  rfl
                · show Value.int .u64 _ = Value.int .u64 _
                  rw [HS.out.1]
              · rw [show (decide (0 < X) || ((k : Int) == 0)) = false from by simp; omega]
                refine (must_no _ 71).mono ?_
                rintro e z ⟨he, rfl⟩
                unfold giveUp at he
                subst he
                go_wp2_with fail
                refine ⟨rfl, Gives.no (at' := at_ + k + 1) ?_ (H0.out.2.1.trans H2.out.1) H2.out.2.1⟩
                rw [← H1.out, H2.out.2.2.1, numR, if_neg HB.out, if_pos (by have := HX.out; omega), if_pos (by have := HX.out; omega)]
            · refine (must_yes _ 71).mono ?_
              rintro e z ⟨rfl, rfl⟩
              go_wp2_with fail
              go_ret
              refine Gives.yes (a := x + C % 128 * 2 ^ (7 * k)) (at' := at_ + k + 1) ?_ (H0.out.2.1.trans H2.out.1) ?_ H2.out.2.1
              · rw [← H1.out, H2.out.2.2.1, numR, if_neg HB.out, if_pos (by have := HX.out; omega), if_neg (by have := HX.out; omega)]
                rfl
              · show Value.int .u64 _ = Value.int .u64 _
                rw [HS.out.1]
          · first
            | (exfalso; omega)
            | (go_wp2_with fail
               go_roundw
               case rel =>
                 refine ⟨k + 1, x + C % 128 * 2 ^ (7 * k), by have := HX.out; have := HB.out; omega, ?_, by go_num, ?_, H0.out.2.1.trans H2.out.1, H2.out.2.1, ?_⟩
                 · have := H0.out.1
                   rw [show 7 * (k + 1) = 7 * k + 7 by omega, Nat.pow_add]
                   have : C % 128 * 2 ^ (7 * k) ≤ 127 * 2 ^ (7 * k) := Nat.mul_le_mul_right _ (by omega)
                   omega
                 · rw [HS.out.1]
                 · rw [← H1.out, H2.out.2.2.1, numR, if_neg HB.out, if_neg (by have := HX.out; omega)]
                   rfl
               case measure => simp [intOf] <;> (have := HX.out; have := HB.out; omega))
    · go_wp2_with fail
      refine (take_no wr gr n c (at_ + k) 1 A fl bs H0.out.2.2 (by have := H0.out.2.2.le.1; omega)).mono ?_
      rintro e w1 ⟨he, hch, hr1⟩
      unfold giveUp at he
      subst he
      go_wp2_with fail
      refine ⟨rfl, Gives.no (at' := at_ + k) ?_ (H0.out.2.1.trans hch) hr1⟩
      rw [← H1.out, List.drop_eq_nil_of_le (by omega)]
      rfl
end Go.Proofs.YtbcmjjcbjojakaaDoor
end
section
namespace Go.Proofs.YtbcmjjcbjojakaaDoor
open Go.RowKit
set_option linter.unusedVariables false
theorem reading_nil (w : World) (fv : Value) : Calls Tryd.prog 66 #[.pointer none, fv] w fun e w' => e = .returned (.tuple #[]) ∧ Chg [] w w' := by
  go_enter_defers Tryd.func66, Tryd.ntmps66
  go_wp2_with fail
  simp [bodyPostD, Leaves, results, Tryd.results66, go_sem]
  exact (Chg.refl _ _).alloc _
set_option maxRecDepth 20000 in
set_option maxHeartbeats 1000000 in
theorem reading_ok (w : World) (gr n c at_ : Nat) (A : Option Addr) (bs : List Nat) (R : Rr w gr A n c at_ 0 bs) (f : FuncId) (eg : ∀ args w, (callFunc f args).run Tryd.prog w = .ok (.enter f args) w) (caps : Array Value) (Q : World → Prop)
    (hdo : ∀ w1, Chg [] w w1 → w.heap.size ≤ w1.heap.size → Calls Tryd.prog f caps w1 fun e w2 => e = .returned (.tuple #[]) ∧ Q w2) :
    Calls Tryd.prog 66 #[.pointer (some ⟨gr, 0, none⟩), .func (.func f) #[] caps] w fun e w' => e = .returned (.tuple #[]) ∧ Q w' := by
  have hmf : ∀ (fn : Fn) (first cap : Array Value) (w : World), (Instr.makeFunc fn first cap).run Tryd.prog w = .ok (.func fn first cap) w := fun _ _ _ _ => rfl
  have HR := Hd.mk R
  have g1 := R.c1
  have g2 := R.c2
  have hlt := R.lt
  have HDO := Hd.mk hdo
  clear R hdo
  go_enter_defers Tryd.func66, Tryd.ntmps66
  go_wp2_with fail
  refine (HDO.out _ (((Chg.refl _ _).alloc _).alloc _) (by simp; omega)).mono ?_
  rintro e w2 ⟨rfl, hq⟩
  have HQ := Hd.mk hq
  clear hq
  go_wp2_with fail
  simp only [bodyPostD]
  refine leaves_cons (f := 81) (args := #[.pointer (some ⟨w.heap.size + 1, 0, none⟩), .pointer (some ⟨w.heap.size, 0, none⟩)]) (by simp) (by simp [go_sem]) ?_
  refine (catch_idle _ _ _).mono ?_
  rintro e u' w3 ⟨rfl, rfl, rfl⟩
  simp [Leaves, settle, results, Tryd.results66, go_sem]
  exact HQ.out
set_option maxRecDepth 20000 in
set_option maxHeartbeats 1000000 in
theorem reading_no (w : World) (gr n c at_ : Nat) (ec : Int) (A : Option Addr) (bs : List Nat) (R : Rr w gr A n c at_ 0 bs) (f : FuncId) (eg : ∀ args w, (callFunc f args).run Tryd.prog w = .ok (.enter f args) w) (caps : Array Value)
    (hdo : ∀ w1, Chg [] w w1 → w.heap.size ≤ w1.heap.size → Calls Tryd.prog f caps w1 fun e w2 => e = giveUp ec ∧ Chg [gr] w1 w2 ∧ ∃ at', Rr w2 gr A n c at' 0 bs) :
    Calls Tryd.prog 66 #[.pointer (some ⟨gr, 0, none⟩), .func (.func f) #[] caps] w fun e w' => e = .returned (.tuple #[]) ∧ Chg [gr] w w' ∧ Rr w' gr A n c at_ ec bs := by
  have hmf : ∀ (fn : Fn) (first cap : Array Value) (w : World), (Instr.makeFunc fn first cap).run Tryd.prog w = .ok (.func fn first cap) w := fun _ _ _ _ => rfl
  have HR := Hd.mk R
  have g1 := R.c1
  have g2 := R.c2
  have hlt := R.lt
  have HDO := Hd.mk hdo
  clear R hdo
  go_enter_defers Tryd.func66, Tryd.ntmps66
  go_wp2_with fail
  have hc1 : Chg [] w ((w.alloc (Obj.cells #[Value.pointer (some { block := gr, off := 0 })] 86)).alloc (Obj.cells #[Value.int IntKind.i64 ↑at_] 3)) := ((Chg.refl _ _).alloc _).alloc _
  obtain ⟨W1, hW⟩ : ∃ W1, ((w.alloc (Obj.cells #[Value.pointer (some { block := gr, off := 0 })] 86)).alloc (Obj.cells #[Value.int IntKind.i64 ↑at_] 3)) = W1 := ⟨_, rfl⟩
  have k1 : W1.cell? ⟨w.heap.size + 1, 0, none⟩ = some (.int .i64 (at_ : Int)) := by rw [← hW]; simp
  have k2 : W1.cell? ⟨w.heap.size, 0, none⟩ = some (.pointer (some ⟨gr, 0, none⟩)) := by rw [← hW]; simp
  have k3 : W1.heap.size = w.heap.size + 2 := by rw [← hW]; simp
  rw [hW] at hc1 ⊢
  have HW : Hd (Chg [] w W1 ∧ W1.cell? ⟨w.heap.size + 1, 0, none⟩ = some (.int .i64 (at_ : Int)) ∧ W1.cell? ⟨w.heap.size, 0, none⟩ = some (.pointer (some ⟨gr, 0, none⟩)) ∧ W1.heap.size = w.heap.size + 2) := ⟨hc1, k1, k2, k3⟩
  clear hc1 hW k1 k2 k3 g1 g2
  refine (HDO.out _ HW.out.1 HW.out.1.size).mono ?_
  rintro e w2 ⟨he, hc2, at', hr2⟩
  unfold giveUp at he
  subst he
  have H2 : Hd (Chg [gr] W1 w2 ∧ Rr w2 gr A n c at' 0 bs) := ⟨hc2, hr2⟩
  clear hc2 hr2
  go_wp2_with fail
  simp only [bodyPostD]
  refine leaves_cons (f := 81) (args := #[.pointer (some ⟨w.heap.size + 1, 0, none⟩), .pointer (some ⟨w.heap.size, 0, none⟩)]) (by simp) (by simp [go_sem]) ?_
  refine (catch_panicking _ _ gr at_ ec _ ?_ ?_ ⟨_, H2.out.2.c1⟩ ⟨_, H2.out.2.c2⟩ H2.out.2.z1 H2.out.2.z2).mono ?_
  · rw [H2.out.1.cell (p := ⟨w.heap.size + 1, 0, none⟩) (by have := HW.out.2.2.2; simp; omega) (by simp; omega)]; exact HW.out.2.1
  · rw [H2.out.1.cell (p := ⟨w.heap.size, 0, none⟩) (by have := HW.out.2.2.2; simp; omega) (by simp; omega)]; exact HW.out.2.2.1
  rintro e u' w3 ⟨rfl, rfl, rfl⟩
  simp [Leaves, settle, results, Tryd.results66, go_sem]
  exact ⟨((HW.out.1.mono (by simp)).trans H2.out.1).setCell (by simp) _ |>.setCell (by simp) _, (H2.out.2.move at_ HR.out.le.1).fail ec⟩
set_option maxRecDepth 20000 in
theorem reading_fault (w : World) (gr n c at_ : Nat) (fl : Int) (A : Option Addr) (bs : List Nat) (R : Rr w gr A n c at_ fl bs) (hfl : fl ≠ 0) (fv : Value) :
    Calls Tryd.prog 66 #[.pointer (some ⟨gr, 0, none⟩), fv] w fun e w' => e = .returned (.tuple #[]) ∧ Chg [] w w' := by
  have g1 := R.c1
  have g2 := R.c2
  have hlt := R.lt
  have hz : (fl != 0) = true := by simp [hfl]
  clear R
  go_enter_defers Tryd.func66, Tryd.ntmps66
  go_wp2_with fail
  simp [bodyPostD, Leaves, results, Tryd.results66, go_sem]
  exact (Chg.refl _ _).alloc _
end Go.Proofs.YtbcmjjcbjojakaaDoor
end
section
namespace Go.Proofs.YtbcmjjcbjojakaaDoor
open Go.RowKit
set_option linter.unusedVariables false
/-- A slice below the reader, of these bytes. -/
def KCut (gr : Nat) (v : Value) (a : List Nat) (w : World) : Prop := ∃ A' c', v = .slice A' a.length c' ∧ Rd w gr A' a.length (cb a) ∧ a.length ≤ c'
theorem take_any (w : World) (gr n c at_ : Nat) (K : Int) (k : Nat) (A : Option Addr) (fl : Int) (bs : List Nat) (R : Rr w gr A n c at_ fl bs) (hK : K = (k : Int)) :
    Calls Tryd.prog 68 #[.pointer (some ⟨gr, 0, none⟩), .int .u64 K] w (Gives w gr n c A fl bs (KCut gr) (takeF bs at_ k)) := by
  have hl := R.len
  have hle := R.le.1
  subst hK
  by_cases hk : k ≤ n - at_
  · refine (take_yes w gr n c at_ k A fl bs R hk).mono ?_
    rintro e w1 ⟨A1, c1, rfl, hch, hr1, hrd, hc1⟩
    have hlen : ((bs.drop at_).take k).length = k := by rw [List.length_take, List.length_drop]; omega
    refine Gives.yes (a := (bs.drop at_).take k) (at' := at_ + k) (by unfold takeF; rw [if_pos (by omega)]) hch ⟨A1, c1, ?_, ?_, ?_⟩ hr1
    · rw [hlen]
    · rw [hlen]; exact hrd
    · rw [hlen]; exact hc1
  · refine (take_no w gr n c at_ k A fl bs R (by omega)).mono ?_
    rintro e w1 ⟨rfl, hch, hr1⟩
    exact Gives.no (by unfold takeF; rw [if_neg (by omega)]) hch hr1
theorem numF_hi (bs : List Nat) (at_ x a : Nat) (hb : ∀ y ∈ bs, y < 256) (h : numF bs at_ = .ok (x, a)) : x < 2 ^ 64 ∧ at_ < a ∧ (at_ ≤ bs.length → a ≤ bs.length) := by
  unfold numF at h
  split at h
  · rename_i v m he
    cases h
    have := numR_hi (bs.drop at_) 0 0 x m (by omega) (by omega) (fun y hy => hb y (List.mem_of_mem_drop hy)) he
    rw [List.length_drop] at this
    exact ⟨this.1, by omega, by omega⟩
  · cases h
set_option maxHeartbeats 1000000 in
theorem block_any (w : World) (gr n c at_ most : Nat) (A : Option Addr) (fl : Int) (bs : List Nat) (R : Rr w gr A n c at_ fl bs) (hm : most ≤ 9223372036854775807) :
    Calls Tryd.prog 78 #[.pointer (some ⟨gr, 0, none⟩), .int .i64 (most : Int)] w (Gives w gr n c A fl bs (KCut gr) (blockF bs at_ most)) := by
  have HR := Hd.mk R
  clear R
  obtain ⟨M, hM⟩ : ∃ M : Int, (most : Int) = M := ⟨_, rfl⟩
  have m1 : 0 ≤ M := by omega
  have m2 : M ≤ 9223372036854775807 := by omega
  have HM := Hd.mk hM
  rw [hM]
  clear hM hm
  go_enter Tryd.func78, Tryd.ntmps78
  go_wp2_with fail
  refine (number_any w gr n c at_ A fl bs HR.out).mono ?_
  rintro e w1 ⟨hch, hy, hn⟩
  rcases hnum : numF bs at_ with ec | ⟨k, a1⟩
  · obtain ⟨rfl, at', hr⟩ := hn ec hnum
    have H1 : Hd (Chg [gr] w w1 ∧ Rr w1 gr A n c at' fl bs ∧ blockF bs at_ most = .error ec) := ⟨hch, hr, by unfold blockF; rw [hnum]⟩
    clear hch hy hn hnum hr
    unfold giveUp
    go_wp2_with fail
    exact ⟨rfl, Gives.no H1.out.2.2 H1.out.1 H1.out.2.1⟩
  · obtain ⟨v, rfl, hk, hr⟩ := hy _ _ hnum
    unfold KNum at hk
    subst hk
    have hx := numF_hi bs at_ k a1 HR.out.lb hnum
    have H1 : Hd (Chg [gr] w w1 ∧ Rr w1 gr A n c a1 fl bs ∧ numF bs at_ = .ok (k, a1)) := ⟨hch, hr, hnum⟩
    obtain ⟨X, hX⟩ : ∃ X : Int, (k : Int) = X := ⟨_, rfl⟩
    have x1 : 0 ≤ X := by omega
    have x2 : X ≤ 18446744073709551615 := by omega
    have HX := Hd.mk hX
    rw [hX]
    clear hch hy hn hnum hr hx hX
    by_cases hle : X ≤ M
    · go_wp2_with fail
      refine (must_yes _ 71).mono ?_
      rintro e z ⟨rfl, rfl⟩
      go_wp2_with fail
      refine (take_any w1 gr n c a1 X k A fl bs H1.out.2.1 HX.out.symm).mono ?_
      rintro e w2 ⟨hch2, hy2, hn2⟩
      have hb : blockF bs at_ most = takeF bs a1 k := by unfold blockF; rw [H1.out.2.2]; simp only; rw [if_pos (by have := HX.out; have := HM.out; omega)]
      rcases htk : takeF bs a1 k with ec | ⟨l, a2⟩
      · obtain ⟨rfl, at', hr2⟩ := hn2 ec htk
        have H2 : Hd (Chg [gr] w1 w2 ∧ Rr w2 gr A n c at' fl bs ∧ blockF bs at_ most = .error ec) := ⟨hch2, hr2, hb.trans htk⟩
        clear hch2 hy2 hn2 hb htk hr2
        unfold giveUp
        go_wp2_with fail
        exact ⟨rfl, Gives.no H2.out.2.2 (H1.out.1.trans H2.out.1) H2.out.2.1⟩
      · obtain ⟨v, rfl, hk2, hr2⟩ := hy2 _ _ htk
        have H2 : Hd (Chg [gr] w1 w2 ∧ Rr w2 gr A n c a2 fl bs ∧ blockF bs at_ most = .ok (l, a2) ∧ KCut gr v l w2) := ⟨hch2, hr2, hb.trans htk, hk2⟩
        clear hch2 hy2 hn2 hb htk hr2 hk2
        go_wp2_with fail
        go_ret
        exact Gives.yes H2.out.2.2.1 (H1.out.1.trans H2.out.1) H2.out.2.2.2 H2.out.2.1
    · go_wp2_with fail
      rw [show decide (X ≤ M) = false from by simp; omega]
      refine (must_no _ 71).mono ?_
      rintro e z ⟨he, rfl⟩
      unfold giveUp at he
      subst he
      go_wp2_with fail
      refine ⟨rfl, Gives.no ?_ H1.out.1 H1.out.2.1⟩
      unfold blockF
      rw [H1.out.2.2]
      simp only
      rw [if_neg (by have := HX.out; have := HM.out; omega)]
/-- What a reading's closure does: the answer into its cell, or it gives up. -/
def Clo {α : Type} (w : World) (gr pv n c : Nat) (A : Option Addr) (bs : List Nat) (K : Value → α → World → Prop) (o : Except Int (α × Nat)) (e : Ending) (w' : World) : Prop :=
  (∀ a at', o = .ok (a, at') → e = .returned (.tuple #[]) ∧ Chg [gr, pv] w w' ∧ Rr w' gr A n c at' 0 bs ∧ ∃ v, w'.cell? ⟨pv, 0, none⟩ = some v ∧ w'.frozen? ⟨pv, 0, none⟩ = false ∧ K v a w') ∧
  (∀ ec, o = .error ec → e = giveUp ec ∧ Chg [gr] w w' ∧ ∃ at', Rr w' gr A n c at' 0 bs)
namespace Clo
variable {α : Type} {w w' : World} {gr pv n c : Nat} {A : Option Addr} {bs : List Nat} {K : Value → α → World → Prop} {o : Except Int (α × Nat)} {e : Ending}
theorem yes {a : α} {at' : Nat} {v : Value} (ho : o = .ok (a, at')) (hc : Chg [gr, pv] w w') (R : Rr w' gr A n c at' 0 bs) (hv : w'.cell? ⟨pv, 0, none⟩ = some v) (hz : w'.frozen? ⟨pv, 0, none⟩ = false) (hk : K v a w') : Clo w gr pv n c A bs K o (.returned (.tuple #[])) w' :=
  ⟨fun a1 at1 h => by rw [ho] at h; cases h; exact ⟨rfl, hc, R, v, hv, hz, hk⟩, fun ec h => by rw [ho] at h; cases h⟩
theorem no {ec : Int} {at' : Nat} (ho : o = .error ec) (hc : Chg [gr] w w') (R : Rr w' gr A n c at' 0 bs) : Clo w gr pv n c A bs K o (giveUp ec) w' :=
  ⟨fun a1 at1 h => by rw [ho] at h; (cases h), fun ec' h => by rw [ho] at h; cases h; exact ⟨rfl, hc, at', R⟩⟩
end Clo
/-- What stands behind a reading. -/
structure After {α : Type} (w : World) (gr pv n c at_ : Nat) (fl : Int) (A : Option Addr) (bs : List Nat) (K : Value → α → World → Prop) (r : α × Nat × Int) (w' : World) : Prop where
  ch : Chg [gr, pv] w w'
  cell : ∃ v, w'.cell? ⟨pv, 0, none⟩ = some v ∧ K v r.1 w'
  froz : w'.frozen? ⟨pv, 0, none⟩ = false
  rr : Rr w' gr A n c r.2.1 r.2.2 bs
theorem reading_all {α : Type} (w : World) (gr pv n c at_ : Nat) (fl : Int) (A : Option Addr) (bs : List Nat) (R : Rr w gr A n c at_ fl bs) (z : Value) (hz : w.cell? ⟨pv, 0, none⟩ = some z) (zf : w.frozen? ⟨pv, 0, none⟩ = false) (hp1 : gr < pv) (hp2 : pv < w.heap.size)
    (f : FuncId) (eg : ∀ args w, (callFunc f args).run Tryd.prog w = .ok (.enter f args) w) (caps : Array Value) (K : Value → α → World → Prop) (o : Except Int (α × Nat)) (zero : α) (hK0 : ∀ w', K z zero w')
    (hdo : fl = 0 → ∀ w1, Chg [] w w1 → Calls Tryd.prog f caps w1 (Clo w1 gr pv n c A bs K o)) :
    Calls Tryd.prog 66 #[.pointer (some ⟨gr, 0, none⟩), .func (.func f) #[] caps] w fun e w' => e = .returned (.tuple #[]) ∧ After w gr pv n c at_ fl A bs K (redo o zero at_ fl) w' := by
  by_cases hfl : fl = 0
  · subst hfl
    rcases ho : o with ec | ⟨a, at'⟩
    · refine (reading_no w gr n c at_ ec A bs R f eg caps fun w1 h1 _ => (hdo rfl w1 h1).mono ?_).mono ?_
      · rintro e w2 ⟨_, h⟩
        obtain ⟨h1, h2, h3⟩ := h ec ho
        exact ⟨h1, h2, h3⟩
      · rintro e w2 ⟨rfl, hch, hr⟩
        have hne : (⟨pv, 0, none⟩ : Addr).block ∉ [gr] := by simp; omega
        exact ⟨rfl, hch.mono (by simp), ⟨z, (hch.cell hp2 hne).trans hz, hK0 _⟩, (hch.frozen hp2 hne).trans zf, hr⟩
    · refine (reading_ok w gr n c at_ A bs R f eg caps (fun w2 => After w gr pv n c at_ 0 A bs K (a, at', 0) w2) fun w1 h1 _ => (hdo rfl w1 h1).mono ?_).mono ?_
      · rintro e w2 ⟨h, _⟩
        obtain ⟨he, hch, hr, v, hv, hfz, hk⟩ := h a at' ho
        exact ⟨he, (h1.mono (by simp)).trans hch, ⟨v, hv, hk⟩, hfz, hr⟩
      · rintro e w2 ⟨rfl, h⟩
        exact ⟨rfl, h⟩
  · refine (reading_fault w gr n c at_ fl A bs R hfl _).mono ?_
    rintro e w2 ⟨rfl, hch⟩
    refine ⟨rfl, ?_⟩
    unfold redo
    rw [if_neg hfl]
    exact ⟨hch.mono (by simp), ⟨z, (hch.cell (p := ⟨pv, 0, none⟩) hp2 (by simp)).trans hz, hK0 _⟩, (hch.frozen (p := ⟨pv, 0, none⟩) hp2 (by simp)).trans zf, R.keep' hch (by simp)⟩
end Go.Proofs.YtbcmjjcbjojakaaDoor
end
section
namespace Go.Proofs.YtbcmjjcbjojakaaDoor
open Go.RowKit
set_option linter.unusedVariables false
set_option maxRecDepth 20000
/-- What a method of the reader answers. -/
def Ans {α : Type} (w : World) (gr n c : Nat) (A : Option Addr) (bs : List Nat) (K : Value → α → World → Prop) (r : α × Nat × Int) (e : Ending) (w' : World) : Prop :=
  ∃ v, e = .returned v ∧ Chg [gr] w w' ∧ K v r.1 w' ∧ Rr w' gr A n c r.2.1 r.2.2 bs
def KZag (v : Value) (a : Nat) (_ : World) : Prop := v = .int .i64 (unz (a : Int))
def KOwn (base : Nat) (v : Value) (a : List Nat) (w : World) : Prop := w.ownsRow base 5 1 v a.length (cb a)
theorem KOwn.nil (base : Nat) (w : World) : KOwn base (.slice none 0 0) [] w := World.ownsRow_nil ..
theorem Chg.pop {x : Nat} {L : List Nat} {w w1 : World} (h : Chg (L ++ [x]) w w1) (hx : w.heap.size ≤ x) : Chg L w w1 := h.mono fun k hk hl => by
  rcases List.mem_append.1 hk with h | h
  · exact h
  · simp at h; omega
theorem cell_new {w : World} {g : Nat} (u : Value) (t : TypeId) (hg : g = w.heap.size) : (w.alloc (.cells #[u] t)).cell? ⟨g, 0, none⟩ = some u := by subst hg; simp
theorem frozen_new {w : World} {g : Nat} (u : Value) (t : TypeId) (hg : g = w.heap.size) : (w.alloc (.cells #[u] t)).frozen? ⟨g, 0, none⟩ = false := by subst hg; simp
theorem take_len {bs l : List Nat} {at_ k a N : Nat} (h : takeF bs at_ k = .ok (l, a)) (hb : bs.length ≤ N) : l.length ≤ N := by
  unfold takeF at h
  split at h
  · cases h; rw [List.length_take, List.length_drop]; omega
  · cases h
theorem block_len {bs l : List Nat} {at_ k a N : Nat} (h : blockF bs at_ k = .ok (l, a)) (hb : bs.length ≤ N) : l.length ≤ N := by
  unfold blockF at h
  split at h
  · split at h
    · exact take_len h hb
    · cases h
  · cases h
/-- What a closure of a reading stands on. -/
structure Caps (w : World) (gr pr pv : Nat) : Prop where
  hr : w.cell? ⟨pr, 0, none⟩ = some (.pointer (some ⟨gr, 0, none⟩))
  hv : ∃ u, w.cell? ⟨pv, 0, none⟩ = some u
  zv : w.frozen? ⟨pv, 0, none⟩ = false
  lt : gr < pv ∧ gr < pr ∧ pv < w.heap.size ∧ pr < w.heap.size
theorem Caps.keep {w w1 : World} {gr pr pv : Nat} (h : Caps w gr pr pv) (b : Chg [gr] w w1) : Caps w1 gr pr pv where
  hr := (b.cell (p := ⟨pr, 0, none⟩) h.lt.2.2.2 (by have := h.lt; simp; omega)).trans h.hr
  hv := let ⟨u, hu⟩ := h.hv; ⟨u, (b.cell (p := ⟨pv, 0, none⟩) h.lt.2.2.1 (by have := h.lt; simp; omega)).trans hu⟩
  zv := (b.frozen (p := ⟨pv, 0, none⟩) h.lt.2.2.1 (by have := h.lt; simp; omega)).trans h.zv
  lt := by have := h.lt; have := b.size; omega
set_option maxHeartbeats 1000000 in
theorem uvC_any (w : World) (gr pr pv n c at_ : Nat) (A : Option Addr) (bs : List Nat) (R : Rr w gr A n c at_ 0 bs) (C : Caps w gr pr pv) :
    Calls Tryd.prog 70 #[.pointer (some ⟨pr, 0, none⟩), .pointer (some ⟨pv, 0, none⟩)] w (Clo w gr pv n c A bs KNum (numF bs at_)) := by
  have HR : Hd (Rr w gr A n c at_ 0 bs ∧ Caps w gr pr pv) := ⟨R, C⟩
  have k1 := C.hr
  clear R C
  go_enter Tryd.func70, Tryd.ntmps70
  go_wp2_with fail
  refine (number_any w gr n c at_ A 0 bs HR.out.1).mono ?_
  rintro e w1 ⟨hch, hy, hn⟩
  rcases hnum : numF bs at_ with ec | ⟨k, a1⟩
  · obtain ⟨rfl, at', hr⟩ := hn ec hnum
    have H1 : Hd (Chg [gr] w w1 ∧ Rr w1 gr A n c at' 0 bs) := ⟨hch, hr⟩
    clear hch hy hn hnum hr
    unfold giveUp
    go_wp2_with fail
    exact ⟨rfl, Clo.no rfl H1.out.1 H1.out.2⟩
  · obtain ⟨v, rfl, hk, hr⟩ := hy _ _ hnum
    unfold KNum at hk
    subst hk
    have H1 : Hd (Chg [gr] w w1 ∧ Rr w1 gr A n c a1 0 bs ∧ Caps w1 gr pr pv) := ⟨hch, hr, HR.out.2.keep hch⟩
    have HN := Hd.mk hnum
    clear hch hy hn hnum hr
    obtain ⟨u, c1⟩ := H1.out.2.2.hv
    have c2 := H1.out.2.2.zv
    obtain ⟨X, hX⟩ : ∃ X : Int, (k : Int) = X := ⟨_, rfl⟩
    have HX := Hd.mk hX
    rw [hX]
    clear hX
    go_wp2_with fail
    go_end0
    exact Clo.yes (a := k) (at' := a1) HN.out ((H1.out.1.mono (by simp)).setCell (by simp) _) (H1.out.2.1.keep' ((Chg.refl [pv] w1).setCell (by simp) _) (by have := HR.out.2.lt; simp; omega)) (World.cell?_setCell_same _ _ _ c1) (by rw [World.frozen?_setCell]; exact c2) (by rw [← HX.out]; rfl)
set_option maxHeartbeats 1000000 in
theorem uvarint_any (w : World) (gr n c at_ : Nat) (fl : Int) (A : Option Addr) (bs : List Nat) (R : Rr w gr A n c at_ fl bs) :
    Calls Tryd.prog 60 #[.pointer (some ⟨gr, 0, none⟩)] w (Ans w gr n c A bs KNum (redo (numF bs at_) 0 at_ fl)) := by
  have hmf : ∀ (fn : Fn) (first cap : Array Value) (w : World), (Instr.makeFunc fn first cap).run Tryd.prog w = .ok (.func fn first cap) w := fun _ _ _ _ => rfl
  have HR := Hd.mk R
  clear R
  go_enter Tryd.func60, Tryd.ntmps60
  go_wp2_with fail
  have hch : Chg [] w ((w.alloc (.cells #[.pointer (some ⟨gr, 0, none⟩)] 86)).alloc (.cells #[.int .u64 0] 32)) := ((Chg.refl _ _).alloc _).alloc _
  obtain ⟨W1, hW⟩ : ∃ W1, ((w.alloc (.cells #[.pointer (some ⟨gr, 0, none⟩)] 86)).alloc (.cells #[.int .u64 0] 32)) = W1 := ⟨_, rfl⟩
  have k1 : W1.cell? ⟨w.heap.size + 1, 0, none⟩ = some (.int .u64 0) := by rw [← hW]; simp
  have k2 : W1.cell? ⟨w.heap.size, 0, none⟩ = some (.pointer (some ⟨gr, 0, none⟩)) := by rw [← hW]; simp
  have k3 : W1.heap.size = w.heap.size + 2 := by rw [← hW]; simp
  have k4 : W1.frozen? ⟨w.heap.size + 1, 0, none⟩ = false := by rw [← hW]; simp
  rw [hW] at hch ⊢
  have HC : Hd (Caps W1 gr w.heap.size (w.heap.size + 1)) := ⟨⟨k2, ⟨_, k1⟩, k4, by have := HR.out.lt; omega⟩⟩
  have H1 : Hd (Chg [] w W1 ∧ Rr W1 gr A n c at_ fl bs) := ⟨hch, HR.out.keep' hch (by simp)⟩
  clear hch hW
  refine (reading_all W1 gr (w.heap.size + 1) n c at_ fl A bs H1.out.2 (.int .u64 0) k1 k4 (by have := HR.out.lt; omega) (by omega) 70 (fun _ _ => rfl) _ KNum (numF bs at_) 0 (fun _ => rfl) ?_).mono ?_
  · intro h0 w2 h2
    have := H1.out.2.keep' h2 (by simp)
    rw [h0] at this
    exact uvC_any w2 gr w.heap.size (w.heap.size + 1) n c at_ A bs this (HC.out.keep (h2.mono (by simp)))
  rintro e w2 ⟨rfl, ha⟩
  have HA := Hd.mk ha
  obtain ⟨v, c1, hk⟩ := ha.cell
  have c2 := ha.froz
  unfold KNum at hk
  subst hk
  obtain ⟨X, hX⟩ : ∃ X : Int, ((redo (numF bs at_) 0 at_ fl).1 : Int) = X := ⟨_, rfl⟩
  have HX := Hd.mk hX
  rw [hX] at c1
  clear ha k1 k2 k3 k4 hX
  go_wp2_with fail
  have c3 := World.cell?_setCell_same (v := .int .u64 X) w2 ⟨w.heap.size + 1, 0, none⟩ c1
  refine bodyPost_ret (v := .int .u64 X) (by simp [results, Tryd.results60, go_sem, c3]) rfl ?_
  refine ⟨_, rfl, ?_, ?_, ?_⟩
  · exact Chg.pop (L := [gr]) (((H1.out.1.mono (by simp)).trans HA.out.ch).setCell (by simp) _) (by omega)
  · rw [← HX.out]; rfl
  · exact HA.out.rr.keep' ((Chg.refl [w.heap.size + 1] w2).setCell (by simp) _) (by have := HR.out.lt; simp; omega)
end Go.Proofs.YtbcmjjcbjojakaaDoor
end
section

end
section
namespace Go.Proofs.YtbcmjjcbjojakaaDoor
open Go.RowKit
set_option linter.unusedVariables false
set_option maxRecDepth 20000
set_option maxHeartbeats 1000000 in
theorem vaC_any (w : World) (gr pr pv n c at_ : Nat) (A : Option Addr) (bs : List Nat) (R : Rr w gr A n c at_ 0 bs) (C : Caps w gr pr pv) :
    Calls Tryd.prog 72 #[.pointer (some ⟨pr, 0, none⟩), .pointer (some ⟨pv, 0, none⟩)] w (Clo w gr pv n c A bs KZag (numF bs at_)) := by
  have HR : Hd (Rr w gr A n c at_ 0 bs ∧ Caps w gr pr pv) := ⟨R, C⟩
  have k1 := C.hr
  clear R C
  go_enter Tryd.func72, Tryd.ntmps72
  go_wp2_with fail
  refine (number_any w gr n c at_ A 0 bs HR.out.1).mono ?_
  rintro e w1 ⟨hch, hy, hn⟩
  rcases hnum : numF bs at_ with ec | ⟨k, a1⟩
  · obtain ⟨rfl, at', hr⟩ := hn ec hnum
    have H1 : Hd (Chg [gr] w w1 ∧ Rr w1 gr A n c at' 0 bs) := ⟨hch, hr⟩
    clear hch hy hn hnum hr
    unfold giveUp
    go_wp2_with fail
    exact ⟨rfl, Clo.no rfl H1.out.1 H1.out.2⟩
  · obtain ⟨v, rfl, hk, hr⟩ := hy _ _ hnum
    unfold KNum at hk
    subst hk
    have hx := (numF_hi bs at_ k a1 HR.out.1.lb hnum).1
    have H1 : Hd (Chg [gr] w w1 ∧ Rr w1 gr A n c a1 0 bs ∧ Caps w1 gr pr pv) := ⟨hch, hr, HR.out.2.keep hch⟩
    have HN := Hd.mk hnum
    clear hch hy hn hnum hr
    obtain ⟨u, c1⟩ := H1.out.2.2.hv
    have c2 := H1.out.2.2.zv
    obtain ⟨X, hX⟩ : ∃ X : Int, (k : Int) = X := ⟨_, rfl⟩
    have x1 : 0 ≤ X := by omega
    have x2 : X ≤ 18446744073709551615 := by omega
    have HX := Hd.mk hX
    rw [hX]
    clear hX hx
    go_wp2_with fail
    refine (zag64_any w1 X x1 x2).mono ?_
    rintro e z ⟨rfl, rfl⟩
    go_wp2_with fail
    go_end0
    exact Clo.yes (a := k) (at' := a1) HN.out ((H1.out.1.mono (by simp)).setCell (by simp) _) (H1.out.2.1.keep' ((Chg.refl [pv] w1).setCell (by simp) _) (by have := HR.out.2.lt; simp; omega)) (World.cell?_setCell_same _ _ _ c1) (by rw [World.frozen?_setCell]; exact c2) (by rw [← HX.out]; rfl)
set_option maxHeartbeats 1000000 in
theorem varint_any (w : World) (gr n c at_ : Nat) (fl : Int) (A : Option Addr) (bs : List Nat) (R : Rr w gr A n c at_ fl bs) :
    Calls Tryd.prog 61 #[.pointer (some ⟨gr, 0, none⟩)] w (Ans w gr n c A bs KZag (redo (numF bs at_) 0 at_ fl)) := by
  have hmf : ∀ (fn : Fn) (first cap : Array Value) (w : World), (Instr.makeFunc fn first cap).run Tryd.prog w = .ok (.func fn first cap) w := fun _ _ _ _ => rfl
  have HR := Hd.mk R
  clear R
  go_enter Tryd.func61, Tryd.ntmps61
  go_wp2_with fail
  have hch : Chg [] w ((w.alloc (.cells #[.pointer (some ⟨gr, 0, none⟩)] 86)).alloc (.cells #[.int .i64 0] 2)) := (((Chg.refl _ _).alloc _).alloc _)
  obtain ⟨W1, hW⟩ : ∃ W1, ((w.alloc (.cells #[.pointer (some ⟨gr, 0, none⟩)] 86)).alloc (.cells #[.int .i64 0] 2)) = W1 := ⟨_, rfl⟩
  have k1 : W1.cell? ⟨(w.heap.size + 1), 0, none⟩ = some (.int .i64 0) := by rw [← hW]; exact cell_new _ _ (by simp)
  have k2 : W1.cell? ⟨w.heap.size, 0, none⟩ = some (.pointer (some ⟨gr, 0, none⟩)) := by rw [← hW, World.cell?_alloc_lt _ _ _ (by simp; try omega)]; exact cell_new _ _ (by simp)
  have k3 : W1.heap.size = w.heap.size + 2 := by rw [← hW]; simp
  have k4 : W1.frozen? ⟨(w.heap.size + 1), 0, none⟩ = false := by rw [← hW]; exact frozen_new _ _ (by simp)
  rw [hW] at hch ⊢
  have HC : Hd (Caps W1 gr w.heap.size (w.heap.size + 1)) := ⟨⟨k2, ⟨_, k1⟩, k4, by have := HR.out.lt; omega⟩⟩
  have H1 : Hd (Chg [] w W1 ∧ Rr W1 gr A n c at_ fl bs ∧ W1.heap.size = w.heap.size + 2) := ⟨hch, HR.out.keep' hch (by simp), k3⟩
  clear hch hW
  refine (reading_all W1 gr (w.heap.size + 1) n c at_ fl A bs H1.out.2.1 (.int .i64 0) k1 k4 (by have := HR.out.lt; omega) (by omega) 72 (fun _ _ => rfl) _ (KZag) (numF bs at_) 0 (fun _ => rfl) ?_).mono ?_
  · intro h0 w2 h2
    have hR := H1.out.2.1.keep' h2 (by simp)
    rw [h0] at hR
    exact vaC_any w2 gr w.heap.size (w.heap.size + 1) n c at_ A bs hR (HC.out.keep (h2.mono (by simp)))
  rintro e w2 ⟨rfl, ha⟩
  have HA := Hd.mk ha
  obtain ⟨v, c1, hk⟩ := ha.cell
  have c2 := ha.froz
  unfold KZag at hk
  subst hk
  obtain ⟨X, hX⟩ : ∃ X : Int, unz ((redo (numF bs at_) 0 at_ fl).1 : Int) = X := ⟨_, rfl⟩
  have HX := Hd.mk hX
  rw [hX] at c1
  clear ha k1 k2 k3 k4
  clear hX
  go_wp2_with fail
  have c3 := World.cell?_setCell_same (v := .int .i64 X) w2 ⟨w.heap.size + 1, 0, none⟩ c1
  refine bodyPost_ret (v := .int .i64 X) (by simp [results, Tryd.results61, go_sem, c3]) rfl ?_
  refine ⟨_, rfl, ?_, ?_, ?_⟩
  · exact Chg.pop (L := [gr]) (((H1.out.1.mono (by simp)).trans HA.out.ch).setCell (by simp) _) (by omega)
  · rw [← HX.out]; rfl
  · exact HA.out.rr.keep' ((Chg.refl [w.heap.size + 1] w2).setCell (by simp) _) (by have := HR.out.lt; simp; omega)
set_option maxHeartbeats 1000000 in
theorem blkC_any (w : World) (gr pr pv pi n c at_ : Nat) (A : Option Addr) (bs : List Nat) (x : Int) (hx : -9223372036854775808 ≤ x ∧ x ≤ 9223372036854775807) (R : Rr w gr A n c at_ 0 bs) (C : Caps w gr pr pv) (ci : w.cell? ⟨pi, 0, none⟩ = some (.int .i64 x)) (hpi : gr < pi ∧ pi < w.heap.size) :
    Calls Tryd.prog 76 #[.pointer (some ⟨pi, 0, none⟩), .pointer (some ⟨pr, 0, none⟩), .pointer (some ⟨pv, 0, none⟩)] w (Clo w gr pv n c A bs (KOwn (pv + 1)) (blkF bs at_ x)) := by
  have HR : Hd (Rr w gr A n c at_ 0 bs ∧ Caps w gr pr pv ∧ gr < pi ∧ pi < w.heap.size) := ⟨R, C, hpi⟩
  have k1 := C.hr
  have hx1 := hx.1
  have hx2 := hx.2
  clear R C hpi hx
  go_enter Tryd.func76, Tryd.ntmps76
  by_cases h0 : 0 ≤ x
  · have HB : Hd (blkF bs at_ x = blockF bs at_ x.toNat) := ⟨by unfold blkF; rw [if_neg (by omega)]⟩
    go_wp2_with fail
    refine (must_yes _ 2).mono ?_
    rintro e z ⟨rfl, rfl⟩
    go_wp2_with fail
    refine (by have := block_any w gr n c at_ x.toNat A 0 bs HR.out.1 (by omega); rw [show ((x.toNat : Nat) : Int) = x by omega] at this; exact this : Calls Tryd.prog 78 #[.pointer (some ⟨gr, 0, none⟩), .int .i64 x] w (Gives w gr n c A 0 bs (KCut gr) (blockF bs at_ x.toNat))).mono ?_
    rintro e w1 ⟨hch, hy, hn⟩
    rcases hnum : blockF bs at_ x.toNat with ec | ⟨l, a1⟩
    · obtain ⟨rfl, at', hr⟩ := hn ec hnum
      have H1 : Hd (Chg [gr] w w1 ∧ Rr w1 gr A n c at' 0 bs ∧ blkF bs at_ x = .error ec) := ⟨hch, hr, HB.out.trans hnum⟩
      clear hch hy hn hnum hr
      unfold giveUp
      go_wp2_with fail
      exact ⟨rfl, Clo.no H1.out.2.2 H1.out.1 H1.out.2.1⟩
    · obtain ⟨v, rfl, ⟨A1, c1, rfl, hrd, hc1⟩, hr⟩ := hy _ _ hnum
      have hl47 : l.length ≤ 140737488355328 := by have := HR.out.1.le; exact block_len hnum (by have := HR.out.1.len; omega)
      have H1 : Hd (Chg [gr] w w1 ∧ Rr w1 gr A n c a1 0 bs ∧ Caps w1 gr pr pv ∧ blkF bs at_ x = .ok (l, a1)) := ⟨hch, hr, HR.out.2.1.keep hch, HB.out.trans hnum⟩
      have HRD := Hd.mk hrd
      clear hch hy hn hnum hr hrd
      go_wp2_with fail
      refine (clone_any w1 A1 l.length c1 gr l HRD.out hl47 (by have := H1.out.2.1.lt; omega)).mono ?_
      rintro e w2 ⟨v2, rfl, hO⟩
      obtain ⟨A2, c2, rfl, _, _⟩ := own_form hO.own
      have hb := hO.below (B := w1.heap.size) (fun k h => by cases h) (Nat.le_refl _)
      have H2 : Hd (Chg [gr] w w2 ∧ Rr w2 gr A n c a1 0 bs ∧ Caps w2 gr pr pv ∧ w2.ownsRow w1.heap.size 5 1 (.slice A2 l.length c2) l.length (cb l)) :=
        ⟨H1.out.1.trans (Chg.of_below hb), H1.out.2.1.keep' (L := []) (Chg.of_below hb) (by simp), H1.out.2.2.1.keep (Chg.of_below hb), hO.own⟩
      clear hO hb
      obtain ⟨u, d1⟩ := H2.out.2.2.1.hv
      have d2 := H2.out.2.2.1.zv
      go_wp2_with fail
      go_end0
      have hlt := H2.out.2.2.1.lt
      have hp1 : pv < w1.heap.size := H1.out.2.2.1.lt.2.2.1
      refine Clo.yes (a := l) (at' := a1) H1.out.2.2.2 ((H2.out.1.mono (by simp)).setCell (by simp) _) (H2.out.2.1.keep' ((Chg.refl [pv] w2).setCell (by simp) _) (by simp; omega)) (World.cell?_setCell_same _ _ _ d1) (by rw [World.frozen?_setCell]; exact d2) ?_
      exact own_base (ownsRow_setCell_below H2.out.2.2.2 (a := ⟨pv, 0, none⟩) hp1 _) (by omega)
  · have HB : Hd (blkF bs at_ x = .error 2) := ⟨by unfold blkF; rw [if_pos (by omega)]⟩
    go_wp2_with fail
    refine (must_no _ 2).mono ?_
    rintro e z ⟨he, rfl⟩
    unfold giveUp at he
    subst he
    go_wp2_with fail
    exact ⟨rfl, Clo.no HB.out (Chg.refl _ _) HR.out.1⟩
set_option maxHeartbeats 1000000 in
theorem blk_any (w : World) (gr n c at_ : Nat) (fl : Int) (A : Option Addr) (bs : List Nat) (x : Int) (hx : -9223372036854775808 ≤ x ∧ x ≤ 9223372036854775807) (R : Rr w gr A n c at_ fl bs) :
    Calls Tryd.prog 63 #[.pointer (some ⟨gr, 0, none⟩), .int .i64 x] w (Ans w gr n c A bs (KOwn w.heap.size) (redo (blkF bs at_ x) [] at_ fl)) := by
  have hmf : ∀ (fn : Fn) (first cap : Array Value) (w : World), (Instr.makeFunc fn first cap).run Tryd.prog w = .ok (.func fn first cap) w := fun _ _ _ _ => rfl
  have HR := Hd.mk R
  clear R
  go_enter Tryd.func63, Tryd.ntmps63
  go_wp2_with fail
  have hch : Chg [] w (((w.alloc (.cells #[.pointer (some ⟨gr, 0, none⟩)] 86)).alloc (.cells #[.int .i64 x] 3)).alloc (.cells #[.slice none 0 0] 28)) := ((((Chg.refl _ _).alloc _).alloc _).alloc _)
  obtain ⟨W1, hW⟩ : ∃ W1, (((w.alloc (.cells #[.pointer (some ⟨gr, 0, none⟩)] 86)).alloc (.cells #[.int .i64 x] 3)).alloc (.cells #[.slice none 0 0] 28)) = W1 := ⟨_, rfl⟩
  have k1 : W1.cell? ⟨(w.heap.size + 2), 0, none⟩ = some (.slice none 0 0) := by rw [← hW]; exact cell_new _ _ (by simp)
  have k2 : W1.cell? ⟨w.heap.size, 0, none⟩ = some (.pointer (some ⟨gr, 0, none⟩)) := by rw [← hW, World.cell?_alloc_lt _ _ _ (by simp; try omega), World.cell?_alloc_lt _ _ _ (by simp; try omega)]; exact cell_new _ _ (by simp)
  have k3 : W1.heap.size = w.heap.size + 3 := by rw [← hW]; simp
  have k4 : W1.frozen? ⟨(w.heap.size + 2), 0, none⟩ = false := by rw [← hW]; exact frozen_new _ _ (by simp)
  have i0 : W1.cell? ⟨w.heap.size + 1, 0, none⟩ = some (.int .i64 x) := by rw [← hW, World.cell?_alloc_lt _ _ _ (by simp; try omega)]; exact cell_new _ _ (by simp)
  rw [hW] at hch ⊢
  have HC : Hd (Caps W1 gr w.heap.size (w.heap.size + 2)) := ⟨⟨k2, ⟨_, k1⟩, k4, by have := HR.out.lt; omega⟩⟩
  have H1 : Hd (Chg [] w W1 ∧ Rr W1 gr A n c at_ fl bs ∧ W1.heap.size = w.heap.size + 3) := ⟨hch, HR.out.keep' hch (by simp), k3⟩
  clear hch hW
  refine (reading_all W1 gr (w.heap.size + 2) n c at_ fl A bs H1.out.2.1 (.slice none 0 0) k1 k4 (by have := HR.out.lt; omega) (by omega) 76 (fun _ _ => rfl) _ (KOwn (w.heap.size + 2 + 1)) (blkF bs at_ x) [] (fun _ => KOwn.nil _ _) ?_).mono ?_
  · intro h0 w2 h2
    have hR := H1.out.2.1.keep' h2 (by simp)
    rw [h0] at hR
    exact blkC_any w2 gr w.heap.size (w.heap.size + 2) (w.heap.size + 1) n c at_ A bs x hx hR (HC.out.keep (h2.mono (by simp))) ((h2.cell (p := ⟨w.heap.size + 1, 0, none⟩) (by show w.heap.size + 1 < _; omega) (by simp)).trans i0) (by have := HR.out.lt; have := h2.size; omega)
  rintro e w2 ⟨rfl, ha⟩
  have HA := Hd.mk ha
  obtain ⟨v, c1, hk⟩ := ha.cell
  have c2 := ha.froz
  unfold KOwn at hk
  obtain ⟨A2, c3, rfl, _, _⟩ := own_form hk
  have HK := Hd.mk hk
  obtain ⟨L, hL⟩ : ∃ L, (redo (blkF bs at_ x) [] at_ fl).1.length = L := ⟨_, rfl⟩
  have HL := Hd.mk hL
  rw [hL] at c1
  clear ha k1 k2 k3 k4 i0
  clear hL hk
  go_wp2_with fail
  have c4 := World.cell?_setCell_same (v := .slice A2 L c3) w2 ⟨w.heap.size + 2, 0, none⟩ c1
  refine bodyPost_ret (v := .slice A2 L c3) (by simp [results, Tryd.results63, go_sem, c4]) rfl ?_
  refine ⟨_, rfl, ?_, ?_, ?_⟩
  · exact Chg.pop (L := [gr]) (((H1.out.1.mono (by simp)).trans HA.out.ch).setCell (by simp) _) (by omega)
  · have := HK.out; rw [HL.out] at this; unfold KOwn; rw [HL.out]; exact own_base (ownsRow_setCell_below this (a := ⟨w.heap.size + 2, 0, none⟩) (Nat.lt_succ_self _) _) (by omega)
  · exact HA.out.rr.keep' ((Chg.refl [w.heap.size + 2] w2).setCell (by simp) _) (by have := HR.out.lt; simp; omega)
end Go.Proofs.YtbcmjjcbjojakaaDoor
end
section
namespace Go.Proofs.YtbcmjjcbjojakaaDoor
open Go.RowKit
set_option linter.unusedVariables false
set_option maxRecDepth 20000
theorem left_any (w : World) (gr n c at_ : Nat) (fl : Int) (A : Option Addr) (bs : List Nat) (R : Rr w gr A n c at_ fl bs) :
    Calls Tryd.prog 75 #[.pointer (some ⟨gr, 0, none⟩)] w fun e w' => e = .returned (.int .i64 ((n - at_ : Nat) : Int)) ∧ Chg [] w w' := by
  have g0 := R.c0
  have g1 := R.c1
  obtain ⟨l1, l2, l3⟩ := R.le
  obtain ⟨AT, hAT⟩ : ∃ AT : Int, (at_ : Int) = AT := ⟨_, rfl⟩
  obtain ⟨N, hN⟩ : ∃ N : Int, (n : Int) = N := ⟨_, rfl⟩
  have w1 : IntKind.i64.wrap (N - AT) = N - AT := by rw [IntKind.wrap_i64]; omega
  have e1 : ((n - at_ : Nat) : Int) = N - AT := by omega
  rw [hAT] at g1
  rw [e1]
  clear R l1 l2 l3 hAT e1
  go_enter Tryd.func75, Tryd.ntmps75
  go_wp2_with fail
  go_quiet (fail)
  go_wp2_with fail
  go_ret
  exact ⟨rfl, (Chg.refl _ _).drewN _⟩
theorem left_nil (w : World) : Calls Tryd.prog 75 #[.pointer none] w fun e w' => e = .returned (.int .i64 0) ∧ w = w' := by
  go_enter Tryd.func75, Tryd.ntmps75
  go_wp2_with fail
  go_ret
  exact ⟨rfl, rfl⟩
theorem fault_any (w : World) (gr n c at_ : Nat) (fl : Int) (A : Option Addr) (bs : List Nat) (R : Rr w gr A n c at_ fl bs) :
    Calls Tryd.prog 74 #[.pointer (some ⟨gr, 0, none⟩)] w fun e w' => e = .returned (.int .i64 fl) ∧ w = w' := by
  have g2 := R.c2
  clear R
  go_enter Tryd.func74, Tryd.ntmps74
  go_wp2_with fail
  go_ret
  exact ⟨rfl, rfl⟩
theorem fault_nil (w : World) : Calls Tryd.prog 74 #[.pointer none] w fun e w' => e = .returned (.int .i64 1) ∧ w = w' := by
  go_enter Tryd.func74, Tryd.ntmps74
  go_wp2_with fail
  go_ret
  exact ⟨rfl, rfl⟩
/-- What End answers. -/
def endF (n at_ : Nat) (fl : Int) : Int := if fl ≠ 0 then fl else if n - at_ = 0 then 0 else 72
theorem end_any (w : World) (gr n c at_ : Nat) (fl : Int) (A : Option Addr) (bs : List Nat) (R : Rr w gr A n c at_ fl bs) :
    Calls Tryd.prog 62 #[.pointer (some ⟨gr, 0, none⟩)] w fun e w' => e = .returned (.int .i64 (endF n at_ fl)) ∧ Chg [] w w' := by
  have HR := Hd.mk R
  clear R
  go_enter Tryd.func62, Tryd.ntmps62
  go_wp2_with fail
  refine (fault_any w gr n c at_ fl A bs HR.out).mono ?_
  rintro e z ⟨rfl, rfl⟩
  by_cases h0 : fl = 0
  · subst h0
    go_wp2_with fail
    refine (left_any w gr n c at_ 0 A bs HR.out).mono ?_
    rintro e w1 ⟨rfl, hch⟩
    have H1 := Hd.mk hch
    clear hch
    by_cases hz : n - at_ = 0
    · rw [hz]
      go_wp2_with fail
      go_ret
      exact ⟨by unfold endF; rw [if_neg (by simp), if_pos hz]; rfl, H1.out⟩
    · have hz' : (((n - at_ : Nat) : Int) == 0) = false := by simp; omega
      have HZ := Hd.mk hz
      clear hz
      go_wp2_with fail
      go_ret
      exact ⟨by unfold endF; rw [if_neg (by simp), if_neg HZ.out]; rfl, H1.out⟩
  · have h0' : (fl != 0) = true := by simp [h0]
    have HZ := Hd.mk h0
    clear h0
    go_wp2_with fail
    go_ret
    exact ⟨by unfold endF; rw [if_pos HZ.out]; rfl, Chg.refl _ _⟩
theorem end_nil (w : World) : Calls Tryd.prog 62 #[.pointer none] w fun e w' => e = .returned (.int .i64 1) ∧ w = w' := by
  go_enter Tryd.func62, Tryd.ntmps62
  go_wp2_with fail
  refine (fault_nil w).mono ?_
  rintro e z ⟨rfl, rfl⟩
  go_wp2_with fail
  go_ret
  exact ⟨rfl, rfl⟩
theorem open_any (w : World) (A : Option Addr) (n c B : Nat) (bs : List Nat) (hr : Rd w B A n (cb bs)) (hB : B ≤ w.heap.size) (hn : n ≤ 4398046511104) (hb : ∀ x ∈ bs, x < 256) :
    Calls Tryd.prog 53 #[.slice A n c] w fun e w' => ∃ gr A' c', e = .returned (.pointer (some ⟨gr, 0, none⟩)) ∧ Chg [] w w' ∧ Rr w' gr A' n c' 0 0 bs ∧ w.heap.size ≤ gr ∧ (∀ g off, A' = some ⟨g, off, none⟩ → 0 < n → w.heap.size ≤ g) := by
  have HR : Hd (Rd w B A n (cb bs) ∧ B ≤ w.heap.size ∧ n ≤ 4398046511104 ∧ ∀ x ∈ bs, x < 256) := ⟨hr, hB, hn, hb⟩
  clear hr hB hn hb
  go_enter Tryd.func53, Tryd.ntmps53
  go_wp2_with fail
  refine (clone_any w A n c B bs HR.out.1 (by have := HR.out.2.2.1; omega) HR.out.2.1).mono ?_
  rintro e w1 ⟨v1, rfl, hO⟩
  obtain ⟨A1, c1, rfl, hc1, hm1⟩ := own_form hO.own
  have H1 : Hd (Onto w w1 w.heap.size 5 (.slice none 0 0) (.slice A1 n c1) n (cb bs) ∧ n ≤ c1) := ⟨hO, hc1⟩
  clear hO hc1 hm1
  go_wp2_with fail
  go_ret
  have hbl := H1.out.1.below (B := w.heap.size) (fun k h => by cases h) (Nat.le_refl _)
  refine ⟨w1.heap.size, A1, c1, rfl, (Chg.of_below hbl).alloc _, ?_, hbl.size, ?_⟩
  · refine ⟨by simp, by simp, by simp, by simp, by simp, ?_, ⟨Nat.zero_le _, H1.out.2, HR.out.2.2.1⟩, by simp, HR.out.2.2.2⟩
    exact (Rd.of_own H1.out.1.own).alloc (Nat.le_refl _) _
  · intro g off he hn
    subst he
    obtain ⟨g', cap, hv, hg1, _⟩ := own_pos H1.out.1.own hn
    injection hv with hv
    injection hv with hv
    injection hv with hv
    omega
end Go.Proofs.YtbcmjjcbjojakaaDoor
end
