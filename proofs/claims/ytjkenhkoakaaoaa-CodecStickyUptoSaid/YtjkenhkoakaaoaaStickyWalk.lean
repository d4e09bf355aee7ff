/- The walk of CodecSticky. -/
import Derived.Test.YtjkenhkoakaaoaaAskC
import Derived.Test.YtjkenhkoakaaoaaAwake
import Derived.Test.YtjkenhkoakaaoaaArgs
import Derived.Test.YtjkenhkoakaaoaaArgFlat
namespace Go.Proofs.Ytjkenhkoakaaoaa
open Go.RowKit
set_option linter.unusedVariables false
/-- The reader as it stands, and that nothing else has turned. -/
def SS (w wr : World) (gr : Nat) (A : Option Addr) (n c at_ : Nat) (fl : Int) (bs : List Nat) : Prop := Chg [] w wr ∧ Rr wr gr A n c at_ fl bs
theorem SS.step {w wr w1 : World} {gr n c at_ : Nat} {A : Option Addr} {fl : Int} {bs : List Nat} (h : SS w wr gr A n c at_ fl bs) (hc : Chg [] wr w1) : Hd (SS w w1 gr A n c at_ fl bs) := ⟨h.1.trans hc, h.2.keep' hc (by simp)⟩
set_option maxRecDepth 20000 in
set_option maxHeartbeats 8000000 in
theorem sticky_walk (a : Option Addr) (len cap : Nat) (z : List Int) (s : Option Addr) (sn sc : Nat) (K : Nat → Int × Int × Int × Int) (w : World) (hr : IsRow .u8 w a len cap z) (hcap : cap ≤ 1048576) (hq : Quads w s sn K) (hsc : sn ≤ sc) (hsn : sn ≤ 1048576) :
    Calls Try.prog 10 #[.slice a len cap, .slice s sn sc] w fun e w' => e = .returned (.bool true) ∧ Below w.heap.size w w' := by
  obtain ⟨l, hrd, hlb, hll, hlc⟩ := hr.bytes
  have H0 : Hd (Rd w w.heap.size a len (cb (l.take len)) ∧ (∀ x ∈ l.take len, x < 256) ∧ Quads w s sn K ∧ len ≤ 1048576) :=
    ⟨by have := hrd.take hlc; unfold cb at this ⊢; rw [← List.map_take] at this; exact this, fun x hx => hlb x (List.mem_of_mem_take hx), hq, by omega⟩
  obtain ⟨bs, hbs⟩ : ∃ bs, l.take len = bs := ⟨_, rfl⟩
  rw [hbs] at H0
  clear hr hrd hlb hll hlc hbs hq hcap hsc
  go_enter Try.func10, Try.ntmps10
  go_wp2_with fail
  refine (awake_any w).mono ?_
  rintro e w1 ⟨rfl, hch⟩
  have H1 : Hd (Chg [] w w1 ∧ Rd w1 w.heap.size a len (cb bs)) := ⟨hch, hch.rd H0.out.1 (Nat.le_refl _) (by simp)⟩
  clear hch
  go_wp2_with fail
  refine (open_any w1 a len cap w.heap.size bs H1.out.2 H1.out.1.size (by have := H0.out.2.2.2; omega) H0.out.2.1).mono ?_
  rintro e w2 ⟨gr, A', c', rfl, hch, hrr, hgr, _⟩
  have H2 : Hd (Chg [] w w2 ∧ Rr w2 gr A' len c' 0 0 bs ∧ w.heap.size ≤ gr) := ⟨H1.out.1.trans hch, hrr, Nat.le_trans H1.out.1.size hgr⟩
  clear hch hrr hgr
  go_wp2_with fail
  refine (left_any w2 gr len c' 0 0 A' bs H2.out.2.1).mono ?_
  rintro e w3 ⟨rfl, hch⟩
  rw [Nat.sub_zero]
  have H3 : Hd (Chg [] w w3 ∧ Rr w3 gr A' len c' 0 0 bs ∧ w.heap.size ≤ gr) := ⟨H2.out.1.trans hch, H2.out.2.1.keep' hch (by simp), H2.out.2.2⟩
  clear hch
  go_wp2_with fail
  refine (fault_any w3 gr len c' 0 0 A' bs H3.out.2.1).mono ?_
  rintro e y ⟨rfl, rfl⟩
  go_wp2_with fail
  clear H1 H2
  go_loopw [6, 7, 8] (fun lf f i wr => ∃ (k at_ : Nat) (fl : Int), k ≤ sn ∧ i = .int .i64 k ∧ lf = .int .i64 ((len - at_ : Nat) : Int) ∧ f = .int .i64 fl ∧ Chg [] w wr ∧ Rr wr gr A' len c' at_ fl bs) (fun _ _ i _ => sn - (intOf i).toNat)
  case atStart => exact ⟨0, 0, 0, by omega, rfl, by simp, rfl, H3.out.1, H3.out.2.1⟩
  case round =>
    obtain ⟨k, at_, fl, hk, rfl, rfl, rfl, hch, hrr⟩ := hrel
    have H4 : Hd (Chg [] w wr ∧ Rr wr gr A' len c' at_ fl bs ∧ w.heap.size ≤ gr) := ⟨hch, hrr, H3.out.2.2⟩
    clear hch hrr
    by_cases hlt : k < sn
    · obtain ⟨g, off, rfl, hg, q0, q1, q2, q3, i0, i1, i2, i3⟩ := (H0.out.2.2.1.below (H4.out.1.below (Nat.le_refl _) (by simp))) k hlt
      rcases hK : K k with ⟨who, kind, N, E⟩
      rw [hK] at q0 q1 q2 q3 i0 i1 i2 i3
      clear hK
      simp only at q0 q1 q2 q3 i0 i1 i2 i3
      have HI : Hd (I64 kind ∧ I64 N ∧ I64 E) := ⟨i1, i2, i3⟩
      clear i0 i1 i2 i3
      go_wp2_with fail
      obtain ⟨q, hq, hq10⟩ : ∃ q : Nat, kind % 10 = (q : Int) ∧ q < 10 := ⟨(kind % 10).toNat, by omega, by omega⟩
      refine (pick_any _ kind 10 HI.out.1 (by omega) (by omega)).mono ?_
      rw [hq]
      rintro e y ⟨rfl, rfl⟩
      clear hq
      go_wp2_with fail
      have H5 : Hd (Rr (wr.alloc (.cells #[.int .i64 who, .int .i64 q, .int .i64 N, .int .i64 E] 70)) gr A' len c' at_ fl bs) := ⟨H4.out.2.1.keep' ((Chg.refl [] wr).alloc _) (by simp)⟩
      refine (ask_reading _ gr len c' at_ fl A' bs who q N E q (by unfold I64; omega) HI.out.2.1 HI.out.2.2 (by omega) hq10 H5.out).mono ?_
      rintro e w4 ⟨vB, vT, rfl, hch, hrr, hB, hT⟩
      obtain ⟨AB, cB, rfl, _, _⟩ := own_form hB
      obtain ⟨AT, cT, rfl, _, _⟩ := own_form hT
      have H6 : Hd (Chg [] w w4 ∧ Rr w4 gr A' len c' (askF bs at_ fl N E q).2.1 (askF bs at_ fl N E q).2.2 bs) := ⟨(H4.out.1.alloc _).onward hch (by have := H4.out.2.2; simp; omega), hrr⟩
      clear hch hrr hB hT
      have HW := Hd.mk (ask_read (bs := bs) (at_ := at_) H0.out.2.1 (by rw [H4.out.2.1.len]; exact H4.out.2.1.le.1) fl N E q hq10)
      have HL : Hd (bs.length = len) := ⟨H4.out.2.1.len⟩
      rcases HW.out with ⟨h0, h1⟩ | ⟨h0, e, he, h1⟩ | ⟨h0, t, at', h1, h2, h3⟩
      · rw [h1] at H6 ⊢
        have h0' : (fl == 0) = false := by simp [h0]
        have h0'' : (fl != 0) = true := by simp [h0]
        have HE : Hd (endF len at_ fl = fl) := ⟨by unfold endF; rw [if_pos h0]⟩
        have HX := Hd.mk h0
        clear h0 h1 HW
        go_wp2_with fail
        have HS : Hd (SS w (w4.alloc (.cells #[.int .u64 0, .slice AB 0 cB, .slice AT 0 cT] 72)) gr A' len c' at_ fl bs) := ⟨H6.out.1.alloc _, H6.out.2.keep' ((Chg.refl [] w4).alloc _) (by simp)⟩
        clear H6
        refine (fault_any _ gr len c' at_ fl A' bs HS.out.2).mono ?_
        rintro e y ⟨rfl, rfl⟩
        go_wp2_with fail
        refine (left_any _ gr len c' at_ fl A' bs HS.out.2).mono ?_
        rintro e wn ⟨rfl, hch⟩
        replace HS := HS.out.step hch
        clear hch
        go_wp2_with fail
        refine (end_any _ gr len c' at_ fl A' bs HS.out.2).mono ?_
        rw [HE.out]
        rintro e wn ⟨rfl, hch⟩
        replace HS := HS.out.step hch
        clear hch
        go_wp2_with fail
        refine (left_any _ gr len c' at_ fl A' bs HS.out.2).mono ?_
        rintro e wn ⟨rfl, hch⟩
        replace HS := HS.out.step hch
        clear hch
        go_wp2_with fail
        refine (left_any _ gr len c' at_ fl A' bs HS.out.2).mono ?_
        rintro e wn ⟨rfl, hch⟩
        replace HS := HS.out.step hch
        clear hch
        go_wp2_with fail
        refine (fault_any _ gr len c' at_ fl A' bs HS.out.2).mono ?_
        rintro e y ⟨rfl, rfl⟩
        go_wp2_with fail
        refine (left_any _ gr len c' at_ fl A' bs HS.out.2).mono ?_
        rintro e wn ⟨rfl, hch⟩
        replace HS := HS.out.step hch
        clear hch
        go_wp2_with fail
        go_roundw
        case rel => exact ⟨k + 1, at_, fl, by omega, by go_num, rfl, rfl, HS.out.1, HS.out.2⟩
        case measure => simp [intOf]; omega
      · rw [h1] at H6 ⊢
        subst h0
        have h0 : e ≠ 0 := by rcases he with h | h | h <;> omega
        have h0' : (e == 0) = false := by simp [h0]
        have h0'' : (e != 0) = true := by simp [h0]
        clear h0 h1 HW he
        go_wp2_with fail
        have HS : Hd (SS w (w4.alloc (.cells #[.int .u64 0, .slice AB 0 cB, .slice AT 0 cT] 72)) gr A' len c' at_ e bs) := ⟨H6.out.1.alloc _, H6.out.2.keep' ((Chg.refl [] w4).alloc _) (by simp)⟩
        clear H6
        refine (fault_any _ gr len c' at_ e A' bs HS.out.2).mono ?_
        rintro e y ⟨rfl, rfl⟩
        go_wp2_with fail
        refine (left_any _ gr len c' at_ e A' bs HS.out.2).mono ?_
        rintro e wn ⟨rfl, hch⟩
        replace HS := HS.out.step hch
        clear hch
        go_wp2_with fail
        refine (left_any _ gr len c' at_ e A' bs HS.out.2).mono ?_
        rintro e wn ⟨rfl, hch⟩
        replace HS := HS.out.step hch
        clear hch
        go_wp2_with fail
        refine (left_any _ gr len c' at_ e A' bs HS.out.2).mono ?_
        rintro e wn ⟨rfl, hch⟩
        replace HS := HS.out.step hch
        clear hch
        go_wp2_with fail
        refine (fault_any _ gr len c' at_ e A' bs HS.out.2).mono ?_
        rintro e y ⟨rfl, rfl⟩
        go_wp2_with fail
        refine (left_any _ gr len c' at_ e A' bs HS.out.2).mono ?_
        rintro e wn ⟨rfl, hch⟩
        replace HS := HS.out.step hch
        clear hch
        go_wp2_with fail
        go_roundw
        case rel => exact ⟨k + 1, at_, e, by omega, by go_num, rfl, rfl, HS.out.1, HS.out.2⟩
        case measure => simp [intOf]; omega
      · rw [h1] at H6 ⊢
        subst h0
        have HS0 : Hd (∀ o, SS w (w4.alloc o) gr A' len c' at' 0 bs) := ⟨fun o => ⟨H6.out.1.alloc _, H6.out.2.keep' ((Chg.refl [] w4).alloc _) (by simp)⟩⟩
        have hd1 : ((len - at' : Nat) : Int) ≤ ((len - at_ : Nat) : Int) := by omega
        clear H6 h1 HW h2 h3
        obtain ⟨TU, hTU⟩ : ∃ x, t.U = x := ⟨_, rfl⟩
        obtain ⟨TB, hTB⟩ : ∃ x, t.B.length = x := ⟨_, rfl⟩
        obtain ⟨TT, hTT⟩ : ∃ x, t.T.length = x := ⟨_, rfl⟩
        rw [hTU, hTB, hTT]
        clear hTU hTB hTT
        by_cases hz : len - at' = 0
        · have HZ : Hd (len - at' = 0) := ⟨hz⟩
          have HE : Hd (endF len at' 0 = 0) := ⟨by unfold endF; rw [if_neg (by simp), if_pos hz]⟩
          clear hz
          go_wp2_with fail
          all_goals
            refine (fault_any _ gr len c' at' 0 A' bs (HS0.out _).2).mono ?_
            rintro e y ⟨rfl, rfl⟩
            go_wp2_with fail
            refine (left_any _ gr len c' at' 0 A' bs (HS0.out _).2).mono ?_
            rw [HZ.out]
            rintro e wn ⟨rfl, hch⟩
            have HS := (HS0.out _).step hch
            clear hch
            go_wp2_with fail
            refine (left_any _ gr len c' at' 0 A' bs HS.out.2).mono ?_
            rw [HZ.out]
            rintro e wn ⟨rfl, hch⟩
            replace HS := HS.out.step hch
            clear hch
            go_wp2_with fail
            refine (fault_any _ gr len c' at' 0 A' bs HS.out.2).mono ?_
            rintro e y ⟨rfl, rfl⟩
            go_wp2_with fail
            refine (left_any _ gr len c' at' 0 A' bs HS.out.2).mono ?_
            rw [HZ.out]
            rintro e wn ⟨rfl, hch⟩
            replace HS := HS.out.step hch
            clear hch
            go_wp2_with fail
            refine (end_any _ gr len c' at' 0 A' bs HS.out.2).mono ?_
            rw [HE.out]
            rintro e wn ⟨rfl, hch⟩
            replace HS := HS.out.step hch
            clear hch
            go_wp2_with fail
            go_roundw
            case rel => exact ⟨k + 1, at', 0, by omega, by go_num, by rw [HZ.out]; rfl, rfl, HS.out.1, HS.out.2⟩
            case measure => simp [intOf]; omega
        · have HE : Hd (endF len at' 0 = 72) := ⟨by unfold endF; rw [if_neg (by simp), if_neg hz]⟩
          have hz' : (((len - at' : Nat) : Int) == 0) = false := by simp; omega
          clear hz
          go_wp2_with fail
          all_goals
            refine (fault_any _ gr len c' at' 0 A' bs (HS0.out _).2).mono ?_
            rintro e y ⟨rfl, rfl⟩
            go_wp2_with fail
            refine (left_any _ gr len c' at' 0 A' bs (HS0.out _).2).mono ?_
            skip
            rintro e wn ⟨rfl, hch⟩
            have HS := (HS0.out _).step hch
            clear hch
            go_wp2_with fail
            refine (left_any _ gr len c' at' 0 A' bs HS.out.2).mono ?_
            skip
            rintro e wn ⟨rfl, hch⟩
            replace HS := HS.out.step hch
            clear hch
            go_wp2_with fail
            refine (fault_any _ gr len c' at' 0 A' bs HS.out.2).mono ?_
            rintro e y ⟨rfl, rfl⟩
            go_wp2_with fail
            refine (left_any _ gr len c' at' 0 A' bs HS.out.2).mono ?_
            skip
            rintro e wn ⟨rfl, hch⟩
            replace HS := HS.out.step hch
            clear hch
            go_wp2_with fail
            refine (end_any _ gr len c' at' 0 A' bs HS.out.2).mono ?_
            rw [HE.out]
            rintro e wn ⟨rfl, hch⟩
            replace HS := HS.out.step hch
            clear hch
            go_wp2_with fail
            go_roundw
            case rel => exact ⟨k + 1, at', 0, by omega, by go_num, rfl, rfl, HS.out.1, HS.out.2⟩
            case measure => simp [intOf]; omega
    · go_wp2_with fail
      go_ret
      exact ⟨rfl, H4.out.1.below (Nat.le_refl _) (by simp)⟩
end Go.Proofs.Ytjkenhkoakaaoaa
