/- The walk of CodecForm. -/
import Derived.Test.YtjkenhkoakaaoaaAgainT
import Derived.Test.YtjkenhkoakaaoaaAwake
namespace Go.Proofs.Ytjkenhkoakaaoaa
open Go.RowKit
set_option linter.unusedVariables false
theorem take_slice (bs : List Nat) (a b : Nat) (h : a ≤ b) : bs.take a ++ (bs.drop a).take (b - a) = bs.take b := by
  rw [← List.take_add, show a + (b - a) = b by omega]
set_option maxRecDepth 20000 in
set_option maxHeartbeats 8000000 in
theorem form_walk (a : Option Addr) (len cap : Nat) (z : List Int) (s : Option Addr) (sn sc : Nat) (K : Nat → Int × Int × Int × Int) (w : World) (hr : IsRow .u8 w a len cap z) (hcap : cap ≤ 1048576) (hq : Quads w s sn K) (hsc : sn ≤ sc) (hsn : sn ≤ 1048576) :
    Calls Try.prog 12 #[.slice a len cap, .slice s sn sc] w fun e w' => e = .returned (.bool true) ∧ Below w.heap.size w w' := by
  obtain ⟨l, hrd, hlb, hll, hlc⟩ := hr.bytes
  have H0 : Hd (Rd w w.heap.size a len (cb (l.take len)) ∧ (∀ x ∈ l.take len, x < 256) ∧ Quads w s sn K ∧ len ≤ 1048576 ∧ len ≤ cap) :=
    ⟨by have := hrd.take hlc; unfold cb at this ⊢; rw [← List.map_take] at this; exact this, fun x hx => hlb x (List.mem_of_mem_take hx), hq, by omega, hlc⟩
  obtain ⟨bs, hbs⟩ : ∃ bs, l.take len = bs := ⟨_, rfl⟩
  rw [hbs] at H0
  clear hr hrd hlb hll hlc hbs hq hcap hsc
  go_enter Try.func12, Try.ntmps12
  go_wp2_with fail
  refine (awake_any w).mono ?_
  rintro e w1 ⟨rfl, hch⟩
  have H1 : Hd (Chg [] w w1 ∧ Rd w1 w.heap.size a len (cb bs)) := ⟨hch, hch.rd H0.out.1 (Nat.le_refl _) (by simp)⟩
  clear hch
  go_wp2_with fail
  refine (open_any w1 a len cap w.heap.size bs H1.out.2 H1.out.1.size (by have := H0.out.2.2.2; omega) H0.out.2.1).mono ?_
  rintro e w2 ⟨gr, A', c', rfl, hch, hrr, hgr, _⟩
  have H2 : Hd (Chg [] w w2 ∧ Rr w2 gr A' len c' 0 0 bs ∧ w.heap.size ≤ gr ∧ bs.length = len) := ⟨H1.out.1.trans hch, hrr, Nat.le_trans H1.out.1.size hgr, hrr.len⟩
  clear hch hrr hgr H1
  go_wp2_with fail
  go_loopw [6, 7] (fun av i wr => ∃ (k at_ : Nat) (A2 : Option Addr) (c2 : Nat), k ≤ sn ∧ i = .int .i64 k ∧ av = .slice A2 at_ c2 ∧ wr.ownsRow (gr + 1) 5 1 (.slice A2 at_ c2) at_ (cb (bs.take at_)) ∧ Chg [] w wr ∧ Rr wr gr A' len c' at_ 0 bs) (fun _ i _ => sn - (intOf i).toNat)
  case atStart => exact ⟨0, 0, none, 0, by omega, rfl, rfl, World.ownsRow_nil .., H2.out.1, H2.out.2.1⟩
  case round =>
    obtain ⟨k, at_, A2, c2, hk, rfl, rfl, hown, hch, hrr⟩ := hrel
    have H4 : Hd (Chg [] w wr ∧ Rr wr gr A' len c' at_ 0 bs ∧ w.heap.size ≤ gr ∧ wr.ownsRow (gr + 1) 5 1 (.slice A2 at_ c2) at_ (cb (bs.take at_)) ∧ at_ ≤ len) := ⟨hch, hrr, H2.out.2.2.1, hown, hrr.le.1⟩
    clear hch hrr hown
    by_cases hlt : k < sn
    · obtain ⟨g, off, rfl, hg, q0, q1, q2, q3, i0, i1, i2, i3⟩ := (H0.out.2.2.1.below (H4.out.1.below (Nat.le_refl _) (by simp))) k hlt
      rcases hK : K k with ⟨who, kind, N, E⟩
      rw [hK] at q0 q1 q2 q3 i0 i1 i2 i3
      clear hK
      simp only at q0 q1 q2 q3 i0 i1 i2 i3
      have HI : Hd (I64 kind ∧ I64 N ∧ I64 E) := ⟨i1, i2, i3⟩
      clear i0 i1 i2 i3
      go_wp2_with fail
      obtain ⟨q, hq, hq10⟩ : ∃ q : Nat, kind % 10 = (q : Int) ∧ q < 10 := ⟨(kind % 10).toNat, by omega, by omega⟩
      refine (pick_any _ kind 10 HI.out.1 (by omega) (by omega)).mono ?_
      rw [hq]
      rintro e y ⟨rfl, rfl⟩
      clear hq q0 q1 q2 q3
      go_wp2_with fail
      have H5 : Hd (Rr (wr.alloc (.cells #[.int .i64 who, .int .i64 q, .int .i64 N, .int .i64 E] 70)) gr A' len c' at_ 0 bs) := ⟨H4.out.2.1.keep' ((Chg.refl [] wr).alloc _) (by simp)⟩
      refine (ask_reading _ gr len c' at_ 0 A' bs who q N E q (by unfold I64; omega) HI.out.2.1 HI.out.2.2 (by omega) hq10 H5.out).mono ?_
      rintro e w4 ⟨vB, vT, rfl, hch, hrr, hB, hT⟩
      obtain ⟨AB, cB, rfl, _, _⟩ := own_form hB
      obtain ⟨AT, cT, rfl, _, _⟩ := own_form hT
      have hst : w4.heap[wr.heap.size]? = some (.cells #[.int .i64 who, .int .i64 q, .int .i64 N, .int .i64 E] 70 (0, 0)) :=
        (hch.block wr.heap.size (by simp) (by have := H4.out.2.1.lt; simp; omega)).trans (heap_alloc_new wr _)
      have H6 : Hd (Chg [] w w4 ∧ Rr w4 gr A' len c' (askF bs at_ 0 N E q).2.1 (askF bs at_ 0 N E q).2.2 bs ∧ w4.ownsRow (gr + 1) 5 1 (.slice A2 at_ c2) at_ (cb (bs.take at_)) ∧
          Rd w4 w4.heap.size AB (askF bs at_ 0 N E q).1.B.length (cb (askF bs at_ 0 N E q).1.B) ∧ Rd w4 w4.heap.size AT (askF bs at_ 0 N E q).1.T.length (cs ((askF bs at_ 0 N E q).1.T.map tx1))) :=
        ⟨(H4.out.1.alloc _).onward hch (by have := H4.out.2.2.1; simp; omega), hrr,
         hch.own ((H4.out.2.2.2.1).alloc _) (fun k hk => by have := (H4.out.2.2.2.1.lt k hk).1; simp; omega), Rd.of_own hB, Rd.of_own hT⟩
      have s0 : w4.cell? ⟨wr.heap.size, 0, none⟩ = some (.int .i64 who) := by simp [World.cell?, hst]
      have s1 : w4.cell? ⟨wr.heap.size, 1, none⟩ = some (.int .i64 q) := by simp [World.cell?, hst]
      have s2 : w4.cell? ⟨wr.heap.size, 2, none⟩ = some (.int .i64 N) := by simp [World.cell?, hst]
      have s3 : w4.cell? ⟨wr.heap.size, 3, none⟩ = some (.int .i64 E) := by simp [World.cell?, hst]
      have hz4 : wr.heap.size < w4.heap.size := lt_of_block hst
      clear hch hrr hB hT hst
      have HW := Hd.mk (ask_read (bs := bs) (at_ := at_) H0.out.2.1 (by rw [H2.out.2.2.2]; exact H4.out.2.2.2.2) 0 N E q hq10)
      rcases HW.out with ⟨h0, h1⟩ | ⟨_, e, he, h1⟩ | ⟨_, t, at', h1, h2, h3⟩
      · exact absurd rfl h0
      · rw [h1] at H6 ⊢
        have h0 : e ≠ 0 := by rcases he with h | h | h <;> omega
        have h0' : (e == 0) = false := by simp [h0]
        have h0'' : (e != 0) = true := by simp [h0]
        clear h0 h1 HW he
        go_wp2_with fail
        have HS : Hd (Rr (w4.alloc (.cells #[.int .u64 0, .slice AB 0 cB, .slice AT 0 cT] 72)) gr A' len c' at_ e bs) := ⟨H6.out.2.1.keep' ((Chg.refl [] w4).alloc _) (by simp)⟩
        refine (fault_any _ gr len c' at_ e A' bs HS.out).mono ?_
        rintro e y ⟨rfl, rfl⟩
        go_wp2_with fail
        have HT : Hd (Chg [] w (w4.alloc (.cells #[.int .u64 0, .slice AB 0 cB, .slice AT 0 cT] 72)) ∧ Rr (w4.alloc (.cells #[.int .u64 0, .slice AB 0 cB, .slice AT 0 cT] 72)) gr A' len c' at_ e bs ∧ (w4.alloc (.cells #[.int .u64 0, .slice AB 0 cB, .slice AT 0 cT] 72)).ownsRow (gr + 1) 5 1 (.slice A2 at_ c2) at_ (cb (bs.take at_))) := ⟨H6.out.1.alloc _, HS.out, H6.out.2.2.1.alloc _⟩
        clear HS H6 s0 s1 s2 s3 hz4
        refine (left_any _ gr len c' at_ e A' bs HT.out.2.1).mono ?_
        rintro e wn ⟨rfl, hch⟩
        have HN : Hd (Chg [] w wn ∧ Rd wn wn.heap.size A2 at_ (cb (bs.take at_)) ∧ Rd wn w.heap.size a len (cb bs)) := ⟨HT.out.1.trans hch, Rd.of_own (hch.own HT.out.2.2 (by simp)), (HT.out.1.trans hch).rd H0.out.1 (Nat.le_refl _) (by simp)⟩
        have hle : at_ ≤ len := HT.out.2.1.le.1
        have hlen4 := H0.out.2.2.2
        obtain ⟨hl1, hl2⟩ := hlen4
        obtain ⟨D, hD⟩ : ∃ D : Int, ((len - at_ : Nat) : Int) = D := ⟨_, rfl⟩
        have HD := Hd.mk hD
        have d1 : 0 ≤ D := by omega
        have d2 : D ≤ (len : Int) := by omega
        rw [hD]
        clear hch hD HT
        go_wp2_with fail
        have e1 : (len : Int) - D = (at_ : Int) := by have := HD.out; omega
        rw [e1]
        have sB := fun w => run_cut_to (P := Try.prog) (w := w) elB a len cap at_ (by omega)
        have f1 : ∀ m, (convert 45 9 (.slice A2 at_ c2)).run Try.prog (wn.drewN m) = .ok (.string (bstr (bs.take at_))) (wn.drewN m) := by
          intro m
          have h : Rd (wn.drewN m) wn.heap.size A2 at_ (cb (bs.take at_)) := HN.out.2.1
          rw [cb_ints] at h
          exact run_conv_str _ _ 5 Try.underlying45 Try.underlying5 infoStr c2 h
        have f2 : ∀ m, (convert 45 9 (.slice a at_ cap)).run Try.prog (wn.drewN m) = .ok (.string (bstr (bs.take at_))) (wn.drewN m) := by
          intro m
          have h : Rd (wn.drewN m) w.heap.size a at_ (cb (bs.take at_)) := by have h2 := HN.out.2.2.take (h := at_) hle; unfold cb at h2 ⊢; rw [← List.map_take] at h2; exact h2
          rw [cb_ints] at h
          exact run_conv_str _ _ 5 Try.underlying45 Try.underlying5 infoStr cap h
        generalize bstr (bs.take at_) = S at f1 f2
        clear e1 d1 d2
        go_quiet (fail)
        go_wp2_with fail
        go_ret
        exact ⟨by simp, (HN.out.1.drewN _).below (Nat.le_refl _) (by simp)⟩
      · rw [h1] at H6 ⊢
        have H1 := Hd.mk h1
        have H23 : Hd (at_ ≤ at' ∧ at' ≤ bs.length) := ⟨h2, h3⟩
        clear h1 HW h2 h3
        obtain ⟨TU, hTU⟩ : ∃ x, t.U = x := ⟨_, rfl⟩
        obtain ⟨TB, hTB⟩ : ∃ x, t.B.length = x := ⟨_, rfl⟩
        obtain ⟨TT, hTT⟩ : ∃ x, t.T.length = x := ⟨_, rfl⟩
        have HT : Hd (t.U = TU ∧ t.B.length = TB ∧ t.T.length = TT) := ⟨hTU, hTB, hTT⟩
        rw [hTU, hTB, hTT]
        clear hTU hTB hTT
        go_wp2_with fail
        have HS : Hd (Rr (w4.alloc (.cells #[.int .u64 TU, .slice AB TB cB, .slice AT TT cT] 72)) gr A' len c' at' 0 bs) := ⟨H6.out.2.1.keep' ((Chg.refl [] w4).alloc _) (by simp)⟩
        refine (fault_any _ gr len c' at' 0 A' bs HS.out).mono ?_
        rintro e y ⟨rfl, rfl⟩
        go_wp2_with fail
        obtain ⟨rfl, rfl, rfl⟩ := HT.out
        refine (again_told _ A2 AB AT at_ c2 cB cT (w4.heap.size + 1) who N E (bs.take at_) bs at_ at' q t ?_ ?_ ?_ (by simp) (by have := H4.out.2.2.2.2; have := H0.out.2.2.2.1; omega) (by rw [H2.out.2.2.2]; exact H0.out.2.2.2.1) H0.out.2.1 (by rw [H2.out.2.2.2]; exact H4.out.2.2.2.2) hq10 H1.out).mono ?_
        · exact ((Rd.of_own H6.out.2.2.1).alloc (Nat.le_refl _) _).more (by omega)
        · exact (H6.out.2.2.2.1.alloc (Nat.le_refl _) _).more (by omega)
        · exact (H6.out.2.2.2.2.alloc (Nat.le_refl _) _).more (by omega)
        rintro e w6 ⟨v6, rfl, hO⟩
        rw [take_slice bs at_ at' H23.out.1, show at_ + ((bs.drop at_).take (at' - at_)).length = at' from by rw [List.length_take, List.length_drop]; have := H23.out; omega] at hO
        obtain ⟨A6, c6, rfl, _, _⟩ := own_form hO.own
        have hbl := hO.below (B := w4.heap.size + 1) (fun k h => by cases h) (by simp)
        have H7 : Hd (Chg [] w w6 ∧ Rr w6 gr A' len c' at' 0 bs ∧ w6.ownsRow (gr + 1) 5 1 (.slice A6 at' c6) at' (cb (bs.take at'))) :=
          ⟨(H6.out.1.alloc _).trans (Chg.of_below (hbl.mono (by simp))), HS.out.below hbl (by have := H6.out.2.1.lt; omega), own_base hO.own (by have := H6.out.2.1.lt; simp; omega)⟩
        clear hO hbl
        go_wp2_with fail
        go_roundw
        case rel => exact ⟨k + 1, at', A6, c6, by omega, by go_num, rfl, H7.out.2.2, H7.out.1, H7.out.2.1⟩
        case measure => simp [intOf]; omega
    · go_wp2_with fail
      have HT : Hd (Chg [] w wr ∧ Rr wr gr A' len c' at_ 0 bs ∧ wr.ownsRow (gr + 1) 5 1 (.slice A2 at_ c2) at_ (cb (bs.take at_))) := ⟨H4.out.1, H4.out.2.1, H4.out.2.2.2.1⟩
      refine (left_any _ gr len c' at_ 0 A' bs HT.out.2.1).mono ?_
      rintro e wn ⟨rfl, hch⟩
      have HN : Hd (Chg [] w wn ∧ Rd wn wn.heap.size A2 at_ (cb (bs.take at_)) ∧ Rd wn w.heap.size a len (cb bs)) := ⟨HT.out.1.trans hch, Rd.of_own (hch.own HT.out.2.2 (by simp)), (HT.out.1.trans hch).rd H0.out.1 (Nat.le_refl _) (by simp)⟩
      have hle : at_ ≤ len := HT.out.2.1.le.1
      have hlen4 := H0.out.2.2.2
      obtain ⟨hl1, hl2⟩ := hlen4
      obtain ⟨D, hD⟩ : ∃ D : Int, ((len - at_ : Nat) : Int) = D := ⟨_, rfl⟩
      have HD := Hd.mk hD
      have d1 : 0 ≤ D := by omega
      have d2 : D ≤ (len : Int) := by omega
      rw [hD]
      clear hch hD HT
      go_wp2_with fail
      have e1 : (len : Int) - D = (at_ : Int) := by have := HD.out; omega
      rw [e1]
      have sB := fun w => run_cut_to (P := Try.prog) (w := w) elB a len cap at_ (by omega)
      have f1 : ∀ m, (convert 45 9 (.slice A2 at_ c2)).run Try.prog (wn.drewN m) = .ok (.string (bstr (bs.take at_))) (wn.drewN m) := by
        intro m
        have h : Rd (wn.drewN m) wn.heap.size A2 at_ (cb (bs.take at_)) := HN.out.2.1
        rw [cb_ints] at h
        exact run_conv_str _ _ 5 Try.underlying45 Try.underlying5 infoStr c2 h
      have f2 : ∀ m, (convert 45 9 (.slice a at_ cap)).run Try.prog (wn.drewN m) = .ok (.string (bstr (bs.take at_))) (wn.drewN m) := by
        intro m
        have h : Rd (wn.drewN m) w.heap.size a at_ (cb (bs.take at_)) := by have h2 := HN.out.2.2.take (h := at_) hle; unfold cb at h2 ⊢; rw [← List.map_take] at h2; exact h2
        rw [cb_ints] at h
        exact run_conv_str _ _ 5 Try.underlying45 Try.underlying5 infoStr cap h
      generalize bstr (bs.take at_) = S at f1 f2
      clear e1 d1 d2
      go_quiet (fail)
      go_wp2_with fail
      go_ret
      exact ⟨by simp, (HN.out.1.drewN _).below (Nat.le_refl _) (by simp)⟩
end Go.Proofs.Ytjkenhkoakaaoaa
