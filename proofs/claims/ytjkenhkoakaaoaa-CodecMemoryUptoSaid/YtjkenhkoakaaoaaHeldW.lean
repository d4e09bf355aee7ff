/- Contract of the law's held: bytes that are read one behind the other by two readers are held. -/
import Derived.Test.YtjkenhkoakaaoaaMemW7
import Derived.Test.YtjkenhkoakaaoaaRdrG
import Derived.Test.YtjkenhkoakaaoaaRdrL
namespace Go.Proofs.Ytjkenhkoakaaoaa
open Go.RowKit
set_option linter.unusedVariables false
set_option linter.unusedSimpArgs false
theorem blk_list {w' : World} {A' : Option Addr} {N B lo : Nat} {xs : List Value} (hlo : ∀ g off, A' = some ⟨g, off, none⟩ → 0 < N → lo ≤ g) (hr : Rd w' B A' N xs) (hB : B ≤ w'.heap.size) :
    ∃ X' : List Nat, (∀ x ∈ X', x < w'.heap.size ∧ lo ≤ x) ∧ ∀ g off, A' = some ⟨g, off, none⟩ → 0 < N → g ∈ X' := by
  by_cases h0 : 0 < N
  · obtain ⟨g, off, rfl, hg, _⟩ := hr.2 h0
    exact ⟨[g], fun x hx => by rw [List.mem_singleton.1 hx]; exact ⟨by omega, hlo g off rfl h0⟩, fun g' off' e _ => by cases e; exact List.mem_singleton.2 rfl⟩
  · exact ⟨[], fun x hx => absurd hx List.not_mem_nil, fun _ _ _ h => absurd h h0⟩
/-- A call that writes blocks of X and makes a row. -/
theorem Ms.call {w0 w w' : World} {RL : List (Nat × Value × List Value)} {X Y : List Nat} {BL : List (Nat × Array Value × Nat)} {e n : Nat} {v : Value} {xs : List Value} (H : Ms w0 w RL X BL) (c : Chg Y w w') (hY : ∀ y ∈ Y, y ∈ X) (hb : ∀ p ∈ BL, p.1 ∉ Y) (hn : xs.length = n) (o : w'.ownsRow w.heap.size e 1 v n xs) : Ms w0 w' (RL ++ [(e, v, xs)]) X BL :=
  H.turn (X' := X) (NR := [(e, v, xs)]) c hY hb (fun x hx => ⟨Nat.lt_of_lt_of_le (H.bag.ltX x hx) c.size, .inl hx⟩) (fun p hp => (H.bx p hp).2) (fun r hr => by rw [List.mem_singleton.1 hr]; show w'.ownsRow _ e 1 v xs.length xs; rw [hn]; exact o) (List.pairwise_singleton _ _)
    fun r hr k hk e1 => by rw [List.mem_singleton.1 hr] at e1; have := (o.lt k e1).1; have := H.bag.ltX k hk; omega
/-- A reader whose blocks are of X. -/
structure RX (X : List Nat) (w : World) (gr N c at_ : Nat) (A : Option Addr) (fl : Int) (bs : List Nat) : Prop where
  rr : Rr w gr A N c at_ fl bs
  g : gr ∈ X
  a : ∀ g off, A = some ⟨g, off, none⟩ → 0 < N → g ∈ X
theorem RX.keep {X Y : List Nat} {w w' : World} {gr N c at_ : Nat} {A : Option Addr} {fl : Int} {bs : List Nat} (h : RX X w gr N c at_ A fl bs) (b : Chg Y w w') (hY : ∀ y ∈ Y, y ∉ X) : RX X w' gr N c at_ A fl bs :=
  ⟨h.rr.keep b (fun hm => hY _ hm h.g) fun g off e hn hm => hY g hm (h.a g off e hn), h.g, h.a⟩
theorem RX.below {X : List Nat} {w w' : World} {gr N c at_ : Nat} {A : Option Addr} {fl : Int} {bs : List Nat} (h : RX X w gr N c at_ A fl bs) (b : Below w.heap.size w w') : RX X w' gr N c at_ A fl bs :=
  h.keep (Y := []) (Chg.of_below b) fun y hy => absurd hy List.not_mem_nil
theorem RX.more {X X' : List Nat} {w : World} {gr N c at_ : Nat} {A : Option Addr} {fl : Int} {bs : List Nat} (h : RX X w gr N c at_ A fl bs) (s : ∀ x ∈ X, x ∈ X') : RX X' w gr N c at_ A fl bs := ⟨h.rr, s _ h.g, fun g off e hn => s _ (h.a g off e hn)⟩
theorem take_ok {bs ps qs rs : List Nat} {a : Nat} (h : bs = ps ++ (qs ++ rs)) (ha : a = ps.length) : redo (bytesF bs a (qs.length : Int)) [] a 0 = (qs, a + qs.length, 0) := by
  subst h ha
  have h1 : bytesF (ps ++ (qs ++ rs)) ps.length (qs.length : Int) = .ok (qs, ps.length + qs.length) := by
    unfold bytesF takeF
    rw [if_neg (by omega), if_pos (by simp)]
    simp
  unfold redo
  rw [if_pos rfl, h1]
set_option maxRecDepth 20000 in
set_option maxHeartbeats 8000000 in
theorem held_any7 (w : World) (A A2 : Option Addr) (n c n2 c2 : Nat) (ps qs : List Nat) (hr : Rd w w.heap.size A n (cb ps)) (hr2 : Rd w w.heap.size A2 n2 (cb qs)) (hb : ∀ x ∈ ps, x < 256) (hb2 : ∀ x ∈ qs, x < 256) (hn : n + n2 ≤ 4398046511104) :
    Calls Try.prog 57 #[.slice A n c, .slice A2 n2 c2] w fun e w' => e = .returned (.bool true) ∧ Below w.heap.size w w' := by
  have hpl : ps.length = n := by have := hr.1; rwa [cb_length] at this
  have hql : qs.length = n2 := by have := hr2.1; rwa [cb_length] at this
  have HR : Hd (Rd w w.heap.size A n (cb ps) ∧ Rd w w.heap.size A2 n2 (cb qs) ∧ (∀ x ∈ ps, x < 256) ∧ (∀ x ∈ qs, x < 256) ∧ ps.length = n ∧ qs.length = n2) := ⟨hr, hr2, hb, hb2, hpl, hql⟩
  clear hr hr2 hb hb2 hpl hql
  go_enter Try.func57, Try.ntmps57
  go_wp2_with (first | (at_builtin; refine wpList_app elB rfl (.const (.slice none 0 0)) (.tmp 12) rfl w.heap.size (.slice none 0 0) 0 [] rfl (World.ownsRow_nil ..) w.heap.size A n c (cb ps) rfl HR.out.1 (cb_one _) (by unfold maxLen; omega) (by omega) (Nat.le_refl _) ?_; intro v1 w1 hO; rw [Nat.zero_add] at hO; obtain ⟨A1, d1, hv1, _⟩ := own_form hO.own; subst hv1; have HO : Hd (w1.ownsRow w.heap.size 5 1 (.slice A1 n d1) n ([] ++ cb ps) ∧ Below w.heap.size w w1) := ⟨hO.own, hO.below (fun k hk => by cases hk) (Nat.le_refl _)⟩; clear hO) | (at_builtin; refine wpList_app elB rfl (.tmp 13) (.tmp 14) rfl w.heap.size (.slice A1 n d1) n ([] ++ cb ps) rfl HO.out.1 w1.heap.size A2 n2 c2 (cb qs) rfl ((HR.out.2.1.below HO.out.2).more HO.out.2.size) (cb_one _) (by unfold maxLen; omega) (by omega) HO.out.2.size ?_; intro v2 w2 hO; obtain ⟨Aa, da, hv1, _⟩ := own_form hO.own; subst hv1; have HO2 : Hd (w2.ownsRow w.heap.size 5 1 (.slice Aa (n + n2) da) (n + n2) (cb (ps ++ qs)) ∧ Below w.heap.size w w2) := ⟨by rw [cb_append]; exact hO.own, HO.out.2.trans (hO.below (fun k hk => (HO.out.1.lt k hk).1) HO.out.2.size)⟩; clear hO))
  clear HO
  have hlt : ∀ x ∈ ps ++ qs, x < 256 := fun x hx => (List.mem_append.1 hx).elim (HR.out.2.2.1 x) (HR.out.2.2.2.1 x)
  have HLT := Hd.mk hlt
  clear hlt
  refine (open_any w2 Aa (n + n2) da w2.heap.size (ps ++ qs) (Rd.of_own HO2.out.1) (Nat.le_refl _) hn HLT.out).mono ?_
  rintro e w3 ⟨gr, Ar, cr, rfl, hch, hrr, hgr, hA⟩
  obtain ⟨X1, hX1, hX1b⟩ := blk_list hA hrr.rd (Nat.le_of_lt hrr.lt)
  have hbe : Below w2.heap.size w2 w3 := hch.below (Nat.le_refl _) (fun k hk => absurd hk List.not_mem_nil)
  have H3 := Hd.mk ((((Ms.start w).row (by rw [cb_length, List.length_append, HR.out.2.2.2.2.1, HR.out.2.2.2.2.2]) HO2.out.2 HO2.out.1).more (X' := gr :: X1) hbe (fun x hx => (List.mem_cons.1 hx).elim (fun e => by rw [e]; exact ⟨hrr.lt, hgr⟩) (fun h => ⟨(hX1 x h).1, (hX1 x h).2⟩))))
  have R3 : Hd (RX (gr :: X1) w3 gr (n + n2) cr 0 Ar 0 (ps ++ qs)) := ⟨hrr, List.mem_cons_self, fun g off e hn => List.mem_cons_of_mem _ (hX1b g off e hn)⟩
  clear hch hrr hgr hA hX1 hX1b hbe HO2
  go_wp2_with fail
  refine (open_any w3 Aa (n + n2) da w3.heap.size (ps ++ qs) (H3.out.rd 0 rfl) (Nat.le_refl _) hn HLT.out).mono ?_
  rintro e w4 ⟨gs, As, cs_, rfl, hch, hrr, hgr, hA⟩
  obtain ⟨X2, hX2, hX2b⟩ := blk_list hA hrr.rd (Nat.le_of_lt hrr.lt)
  have hbe : Below w3.heap.size w3 w4 := hch.below (Nat.le_refl _) (fun k hk => absurd hk List.not_mem_nil)
  have H4 := Hd.mk (H3.out.more (X' := gs :: X2) hbe (fun x hx => (List.mem_cons.1 hx).elim (fun e => by rw [e]; exact ⟨hrr.lt, hgr⟩) (fun h => ⟨(hX2 x h).1, (hX2 x h).2⟩)))
  have R4 : Hd (RX (gr :: X1) w4 gr (n + n2) cr 0 Ar 0 (ps ++ qs)) := ⟨R3.out.below hbe⟩
  have S4 : Hd (RX (gs :: X2) w4 gs (n + n2) cs_ 0 As 0 (ps ++ qs)) := ⟨hrr, List.mem_cons_self, fun g off e hn => List.mem_cons_of_mem _ (hX2b g off e hn)⟩
  have HD : Hd (∀ x ∈ gs :: X2, x ∉ gr :: X1) := ⟨fun x hx hm => by
    have h1 := H3.out.bag.ltX x (List.mem_append_right _ hm)
    rcases List.mem_cons.1 hx with rfl | h
    · omega
    · have := (hX2 x h).2; omega⟩
  clear hch hrr hgr hA hX2 hX2b hbe H3 R3
  go_wp2_with fail
  refine (bytes_any w4 gr (n + n2) cr 0 0 Ar (ps ++ qs) (n : Int) (by omega) R4.out.rr).mono ?_
  have ht : redo (bytesF (ps ++ qs) 0 (n : Int)) [] 0 0 = (ps, n, 0) := by
    rw [← HR.out.2.2.2.2.1]; exact (take_ok (a := 0) (ps := []) (qs := ps) (rs := qs) rfl rfl).trans (by rw [Nat.zero_add])
  rw [ht]
  rintro e w5 ⟨v, rfl, hch, hk, hrr⟩
  obtain ⟨Ab, db, hv, _⟩ := own_form hk
  subst hv
  have H5 := Hd.mk (H4.out.call hch (fun y hy => by rw [List.mem_singleton.1 hy]; simp) (fun p hp => absurd hp List.not_mem_nil) (cb_length _) hk)
  have R5 : Hd (RX (gr :: X1) w5 gr (n + n2) cr n Ar 0 (ps ++ qs)) := ⟨hrr, R4.out.g, R4.out.a⟩
  have S5 := Hd.mk (S4.out.keep hch (fun y hy => by rw [List.mem_singleton.1 hy]; exact fun hm => HD.out gr hm List.mem_cons_self))
  clear ht hch hk hrr H4 R4 S4
  go_wp2_with fail
  refine (bytes_any w5 gr (n + n2) cr n 0 Ar (ps ++ qs) (n2 : Int) (by omega) R5.out.rr).mono ?_
  have ht : redo (bytesF (ps ++ qs) n (n2 : Int)) [] n 0 = (qs, n + n2, 0) := by
    rw [← HR.out.2.2.2.2.1, ← HR.out.2.2.2.2.2]; exact take_ok (ps := ps) (qs := qs) (rs := []) (by rw [List.append_nil]) rfl
  rw [ht]
  rintro e w6 ⟨v, rfl, hch, hk, hrr⟩
  obtain ⟨Ac, dc, hv, _⟩ := own_form hk
  subst hv
  have H6 := Hd.mk (H5.out.call hch (fun y hy => by rw [List.mem_singleton.1 hy]; simp) (fun p hp => absurd hp List.not_mem_nil) (cb_length _) hk)
  have R6 : Hd (RX (gr :: X1) w6 gr (n + n2) cr (n + n2) Ar 0 (ps ++ qs)) := ⟨hrr, R5.out.g, R5.out.a⟩
  have S6 := Hd.mk (S5.out.keep hch (fun y hy => by rw [List.mem_singleton.1 hy]; exact fun hm => HD.out gr hm List.mem_cons_self))
  clear ht hch hk hrr H5 R5 S5
  go_wp2_with fail
  refine (bytes_any w6 gs (n + n2) cs_ 0 0 As (ps ++ qs) (n : Int) (by omega) S6.out.rr).mono ?_
  have ht : redo (bytesF (ps ++ qs) 0 (n : Int)) [] 0 0 = (ps, n, 0) := by
    rw [← HR.out.2.2.2.2.1]; exact (take_ok (a := 0) (ps := []) (qs := ps) (rs := qs) rfl rfl).trans (by rw [Nat.zero_add])
  rw [ht]
  rintro e w7 ⟨v, rfl, hch, hk, hrr⟩
  obtain ⟨Ad, dd, hv, _⟩ := own_form hk
  subst hv
  have H7 := Hd.mk (H6.out.call hch (fun y hy => by rw [List.mem_singleton.1 hy]; simp) (fun p hp => absurd hp List.not_mem_nil) (cb_length _) hk)
  have S7 : Hd (RX (gs :: X2) w7 gs (n + n2) cs_ n As 0 (ps ++ qs)) := ⟨hrr, S6.out.g, S6.out.a⟩
  have R7 := Hd.mk (R6.out.keep hch (fun y hy => by rw [List.mem_singleton.1 hy]; exact HD.out gs List.mem_cons_self))
  clear ht hch hk hrr H6 S6 R6
  go_wp2_with fail
  refine (bytes_any w7 gs (n + n2) cs_ n 0 As (ps ++ qs) (n2 : Int) (by omega) S7.out.rr).mono ?_
  have ht : redo (bytesF (ps ++ qs) n (n2 : Int)) [] n 0 = (qs, n + n2, 0) := by
    rw [← HR.out.2.2.2.2.1, ← HR.out.2.2.2.2.2]; exact take_ok (ps := ps) (qs := qs) (rs := []) (by rw [List.append_nil]) rfl
  rw [ht]
  rintro e w8 ⟨v, rfl, hch, hk, hrr⟩
  obtain ⟨Ae, de, hv, _⟩ := own_form hk
  subst hv
  have H8 := Hd.mk (H7.out.call hch (fun y hy => by rw [List.mem_singleton.1 hy]; simp) (fun p hp => absurd hp List.not_mem_nil) (cb_length _) hk)
  have S8 : Hd (RX (gs :: X2) w8 gs (n + n2) cs_ (n + n2) As 0 (ps ++ qs)) := ⟨hrr, S7.out.g, S7.out.a⟩
  have R8 := Hd.mk (R7.out.keep hch (fun y hy => by rw [List.mem_singleton.1 hy]; exact HD.out gs List.mem_cons_self))
  clear ht hch hk hrr H7 S7 R7
  obtain ⟨wa, hwa⟩ : ∃ U, w8.alloc (.cells #[.slice Ab ps.length db, .slice Ac qs.length dc, .slice Ad ps.length dd, .slice Ae qs.length de] 45) = U := ⟨_, rfl⟩
  obtain ⟨wb, hwb⟩ : ∃ U, wa.alloc (.cells #[.slice A n c, .slice A2 n2 c2, .slice A n c, .slice A2 n2 c2] 45) = U := ⟨_, rfl⟩
  have HRW : Hd (Rws wb (some ⟨w8.heap.size, 0, none⟩) 4 [ps, qs, ps, qs] ∧ Rws wb (some ⟨wa.heap.size, 0, none⟩) 4 [ps, qs, ps, qs] ∧ Below w8.heap.size w8 wb) := ⟨by
    have b1 : Below w8.heap.size w8 wa := by rw [← hwa]; exact (Below.refl _ _).alloc (Nat.le_refl _) _
    have b2 : Below wa.heap.size wa wb := by rw [← hwb]; exact (Below.refl _ _).alloc (Nat.le_refl _) _
    have hs : wa.heap.size = w8.heap.size + 1 := by rw [← hwa]; simp
    have k1 : Kp w8 Ab ps.length ps := ⟨H8.out.rd 1 rfl, rfl, HR.out.2.2.1⟩
    have k2 : Kp w8 Ac qs.length qs := ⟨H8.out.rd 2 rfl, rfl, HR.out.2.2.2.1⟩
    have k3 : Kp w8 Ad ps.length ps := ⟨H8.out.rd 3 rfl, rfl, HR.out.2.2.1⟩
    have k4 : Kp w8 Ae qs.length qs := ⟨H8.out.rd 4 rfl, rfl, HR.out.2.2.2.1⟩
    have r1 := rws_of (w := w8) (e := 45) [(Ab, ps.length, db, ps), (Ac, qs.length, dc, qs), (Ad, ps.length, dd, ps), (Ae, qs.length, de, qs)] (by
      intro x hx
      simp only [List.mem_cons, List.not_mem_nil, or_false] at hx
      rcases hx with rfl | rfl | rfl | rfl
      · exact k1
      · exact k2
      · exact k3
      · exact k4)
    have ba : Below w.heap.size w wa := H8.out.be.trans (b1.mono H8.out.be.size)
    have j1 : Kp wa A n ps := ⟨(HR.out.1.below ba).more ba.size, HR.out.2.2.2.2.1, HR.out.2.2.1⟩
    have j2 : Kp wa A2 n2 qs := ⟨(HR.out.2.1.below ba).more ba.size, HR.out.2.2.2.2.2, HR.out.2.2.2.1⟩
    have r2 := rws_of (w := wa) (e := 45) [(A, n, c, ps), (A2, n2, c2, qs), (A, n, c, ps), (A2, n2, c2, qs)] (by
      intro x hx
      simp only [List.mem_cons, List.not_mem_nil, or_false] at hx
      rcases hx with rfl | rfl | rfl | rfl
      · exact j1
      · exact j2
      · exact j1
      · exact j2)
    have r1b : Rws wa (some ⟨w8.heap.size, 0, none⟩) 4 [ps, qs, ps, qs] := by rw [← hwa]; exact r1
    have r2b : Rws wb (some ⟨wa.heap.size, 0, none⟩) 4 [ps, qs, ps, qs] := by rw [← hwb]; exact r2

    exact ⟨r1b.step7 b2, r2b, b1.trans (b2.mono b1.size)⟩⟩
  go_wp2_with fail
  try rw [hwa]
  try rw [hwb]
  clear hwa hwb
  refine (same_any wb (some ⟨w8.heap.size, 0, none⟩) (some ⟨wa.heap.size, 0, none⟩) 4 4 4 [ps, qs, ps, qs] HRW.out.1 HRW.out.2.1 (by omega)).mono ?_
  rintro e w9 ⟨rfl, hbe⟩
  have hb9 := HRW.out.2.2.trans (hbe.mono HRW.out.2.2.size)
  have H9 := Hd.mk (H8.out.below hb9)
  have R9 := Hd.mk (R8.out.below hb9)
  have S9 := Hd.mk (S8.out.below hb9)
  clear hbe hb9 HRW H8 R8 S8
  go_wp2_with fail
  refine (H9.out.apart7 (us := [.slice Ab ps.length db, .slice Ac qs.length dc, .slice Ad ps.length dd, .slice Ae qs.length de]) (I := [1, 2, 3, 4]) (RL2 := [(5, .slice Aa (n + n2) da, cb (ps ++ qs))]) [0] (by kernel_rfl) (by decide) (by kernel_rfl) (by kernel_rfl) (by simp) (by
    intro i hi x hx
    have e1 := HR.out.2.2.2.2.1
    have e2 := HR.out.2.2.2.2.2
    simp only [List.mem_cons, List.not_mem_nil, or_false] at hi
    rcases hi with rfl | rfl | rfl | rfl <;> (have e := Option.some.inj hx; rw [← e, cb_length]; omega)) (by decide) (by decide) (by kernel_rfl)).mono ?_
  rintro e w10 ⟨rfl, hM, hch, hoff⟩
  have H10 := Hd.mk hM
  have R10 := Hd.mk (R9.out.keep hch (fun y hy hm => hoff y hy (by simp only [List.nil_append, List.mem_append, List.mem_cons] at hm ⊢; exact hm.elim (fun h => .inl (.inl h)) (fun h => .inl (.inr h)))))
  have S10 := Hd.mk (S9.out.keep hch (fun y hy hm => hoff y hy (by simp only [List.nil_append, List.mem_append, List.mem_cons] at hm ⊢; exact hm.elim (fun h => .inr (.inl h)) (fun h => .inr (.inr h)))))
  clear hM hch hoff H9 R9 S9
  go_wp2_with fail
  refine (end_any w10 gr (n + n2) cr (n + n2) 0 Ar (ps ++ qs) R10.out.rr).mono ?_
  have he : endF (n + n2) (n + n2) 0 = 0 := by unfold endF; simp
  rw [he]
  rintro e w11 ⟨rfl, hch⟩
  have hb11 : Below w10.heap.size w10 w11 := hch.below (Nat.le_refl _) (fun k hk => absurd hk List.not_mem_nil)
  have H11 := Hd.mk (H10.out.below hb11)
  have S11 := Hd.mk (S10.out.below hb11)
  clear hch hb11 H10 R10 S10
  go_wp2_with fail
  refine (end_any w11 gs (n + n2) cs_ (n + n2) 0 As (ps ++ qs) S11.out.rr).mono ?_
  rw [he]
  rintro e w12 ⟨rfl, hch⟩
  have H12 := Hd.mk (H11.out.be.trans ((hch.below (Nat.le_refl _) (fun k hk => absurd hk List.not_mem_nil) : Below w11.heap.size w11 w12).mono H11.out.be.size))
  clear hch H11 S11 he
  go_wp2_with fail
  go_ret
  exact ⟨rfl, H12.out⟩
end Go.Proofs.Ytjkenhkoakaaoaa
