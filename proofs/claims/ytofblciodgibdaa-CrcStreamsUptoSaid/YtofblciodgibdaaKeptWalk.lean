/- The walk of CrcKept. -/
import Derived.Test.YtofblciodgibdaaKnown
import Derived.Test.YtofblciodgibdaaStream
import Derived.Test.YtofblciodgibdaaArgs
import Derived.WalkLawsBesides
import Derived.BigQuiet
import Derived.WalkSmall
namespace Go.Proofs.Ytofblciodgibdaa
open Go.RowKit
set_option linter.unusedVariables false
/-- Where a walk stands that has a stream in block gs: slices below it that read as these bytes; nothing that was there at the beginning has turned. -/
structure SS (w0 w : World) (gs : Nat) (L : List (Option Addr × Nat × List Nat)) (S C : Nat) : Prop where
  rds : ∀ x ∈ L, Rd w gs x.1 x.2.1 (cb x.2.2)
  st : ∃ xs, Strm w gs 0 xs 43 S C
  bel : Below w0.heap.size w0 w
section
variable {w0 w w' : World} {gs S C n : Nat} {L : List (Option Addr × Nat × List Nat)} {A : Option Addr} {bs : List Nat}
theorem SS.lt (h : SS w0 w gs L S C) : gs < w.heap.size := let ⟨_, h⟩ := h.st; h.lt
theorem SS.le (h : SS w0 w gs L S C) : gs ≤ w.heap.size := Nat.le_of_lt h.lt
theorem SS.step (h : SS w0 w gs L S C) (b : Below w.heap.size w w') : SS w0 w' gs L S C :=
  ⟨fun x hx => (h.rds x hx).below (b.mono h.le), let ⟨xs, hs⟩ := h.st; ⟨xs, hs.below b h.lt⟩, h.bel.trans (b.mono h.bel.size)⟩
theorem SS.get (h : SS w0 w gs L S C) (hx : (A, n, bs) ∈ L) : Rd w gs A n (cb bs) := h.rds _ hx
theorem SS.turn (h : SS w0 w gs L S C) {S' C' t : Nat} {xs : Array Value} (hg : w.grownBy w' (some gs)) (hs : Strm w' gs 0 xs 43 S' C') (h0 : w0.heap.size ≤ gs) : SS w0 w' gs L S' C' :=
  ⟨fun x hx => (h.rds x hx).grown hg h.le (fun g e => by injection e with e; omega), ⟨xs, hs⟩, h.bel.grown hg h.bel.size (fun k e => by injection e with e; omega)⟩
end
theorem bne_int (a : Int) : (a != a) = false := by simp
theorem bne_bool (a : Bool) : (a != a) = false := by cases a <;> rfl
theorem own_below' {w w' : World} {base e n : Nat} {v : Value} {xs : List Value} (h : w.ownsRow base e 1 v n xs) (b : Below w.heap.size w w') : w'.ownsRow base e 1 v n xs :=
  ⟨h.1, h.2.imp id fun ⟨g, cap, cur, hv, hg, hh, r⟩ => ⟨g, cap, cur, hv, hg, by rw [b.block g (Array.getElem?_eq_some_iff.1 hh).1]; exact hh, r⟩⟩
theorem over_set (a b t : List Nat) (k n : Nat) (ha : a.length = n) (hb : b.length = n) (hk : k < n) : ((b.take k ++ a.drop k) ++ t).set k (b.getD k 0) = (b.take (k + 1) ++ a.drop (k + 1)) ++ t := by
  have hl : (b.take k).length = k := by rw [List.length_take]; omega
  rw [List.append_assoc, List.set_append_right _ _ (by omega), hl, Nat.sub_self, List.drop_eq_getElem_cons (by omega : k < a.length), List.cons_append, List.set_cons_zero, List.take_succ_eq_append_getElem (by omega : k < b.length), List.getD_eq_getElem?_getD, List.getElem?_eq_getElem (by omega)]
  simp only [List.append_assoc, List.cons_append, List.nil_append, Option.getD_some]
def lits8 : List Nat := [77, 78, 79, 80, 81, 82, 83, 84]
theorem lits8_get (k : Nat) (h : k < 8) : lits8.getD k 0 = 77 + k := by
  have : ∀ k, k < 8 → lits8.getD k 0 = 77 + k := by decide
  exact this k h
set_option maxRecDepth 100000 in
set_option maxHeartbeats 4000000 in
theorem kept_walk (a0 : Option Addr) (len0 cap0 : Nat) (z0 : List Int) (a1 : Option Addr) (len1 cap1 : Nat) (z1 : List Int) (w : World)
    (i0 : IsRow .u8 w a0 len0 cap0 z0) (b0 : cap0 * 1 ≤ 140737488351232) (i1 : IsRow .u8 w a1 len1 cap1 z1) (b1 : cap1 * 1 ≤ 140737488351232) :
    Calls Try.prog 10 #[.slice a0 len0 cap0, .slice a1 len1 cap1] w fun e w' => e = .returned (.bool true) ∧ Below w.heap.size w w' := by
  obtain ⟨n, hn⟩ : ∃ n, n = min len0 len1 := ⟨_, rfl⟩
  have hmin : ∀ (ts : Array TypeId) (t : TypeId) (w : World), (Builtin.min_ ts t #[.int .i64 (len0 : Int), .int .i64 (len1 : Int)]).run Try.prog w = .ok (.int .i64 (n : Int)) w := by
    intro ts t w
    rw [run_min_int2]
    congr 2
    split <;> omega
  have n0 : n ≤ len0 := by omega
  have n1 : n ≤ len1 := by omega
  clear hn
  have c0 := i0.len_le
  have c1 := i1.len_le
  have s0 := fun w => run_cut_to (P := Try.prog) (w := w) elB a0 len0 cap0 n (by omega)
  have s1 := fun w => run_cut_to (P := Try.prog) (w := w) elB a1 len1 cap1 n (by omega)
  obtain ⟨l0, r0, h0, e0, _⟩ := i0.bytes
  obtain ⟨l1, r1, h1, e1, _⟩ := i1.bytes
  have t0 := r0.take (h := n) (by omega)
  have t1 := r1.take (h := n) (by omega)
  rw [cb, ← List.map_take] at t0 t1
  have k0 : (l0.take n).length = n := by rw [List.length_take]; omega
  have k1 : (l1.take n).length = n := by rw [List.length_take]; omega
  replace h0 : ∀ x ∈ l0.take n, x < 256 := fun x hx => h0 x (List.mem_of_mem_take hx)
  replace h1 : ∀ x ∈ l1.take n, x < 256 := fun x hx => h1 x (List.mem_of_mem_take hx)
  generalize l0.take n = a at *
  generalize l1.take n = b at *
  have hnn : n ≤ 140737488351232 := by omega
  have HN : Hd (n ≤ 140737488355328) := ⟨by omega⟩
  have HX : Hd (Rd w w.heap.size a0 n (cb a) ∧ Rd w w.heap.size a1 n (cb b) ∧ (∀ x ∈ a, x < 256) ∧ (∀ x ∈ b, x < 256) ∧ a.length = n ∧ b.length = n) := ⟨t0, t1, h0, h1, k0, k1⟩
  have h63 : Hd (n + 8 ≤ maxLen) := ⟨by unfold maxLen; omega⟩
  have hby : Hd ((n + 8) * 1 ≤ 140737488355328) := ⟨by omega⟩
  clear i0 i1 b0 b1 r0 r1 e0 e1 t0 t1 h0 h1 k0 k1
  go_enter Try.func10, Try.ntmps10
  go_wp2_with fail
  refine (twin_any w a0 n cap0 w.heap.size a HX.out.1 (Nat.le_refl _) HN.out).mono ?_
  rintro e wa ⟨v0, rfl, hO⟩
  have HA : Hd (Onto w wa w.heap.size 5 (.slice none 0 0) v0 n (cb a)) := ⟨hO⟩
  have hsz : Hd (w.heap.size ≤ (wa.alloc (.cells #[.int .u8 77, .int .u8 78, .int .u8 79, .int .u8 80, .int .u8 81, .int .u8 82, .int .u8 83, .int .u8 84] 5)).heap.size) := ⟨by have := hO.size; simp; omega⟩
  clear hO
  go_wp2_with (
                 refine wpList_app elB rfl (.tmp 25) (.tmp 26) rfl w.heap.size v0 n (cb a) rfl (HA.out.own.alloc _) (wa.heap.size + 1) (some ⟨wa.heap.size, 0, none⟩) 8 8 (cb lits8) rfl (rd_lit (cb lits8)) (cb_one _) h63.out hby.out hsz.out ?_
                 intro v1 w1 hO1
                 obtain ⟨gl, cap, hv1, hg1, hg2⟩ := own_pos hO1.own (by omega)
                 obtain ⟨_, _, hv2, hc2, _⟩ := own_form hO1.own
                 subst hv1
                 cases hv2
                 have sB := fun w => run_cut_to (P := Try.prog) (w := w) elB (some ⟨gl, 0, none⟩) (n + 8) cap n (by omega)
                 have HL : Hd (w1.ownsRow w.heap.size 5 1 (.slice (some ⟨gl, 0, none⟩) (n + 8) cap) (n + 8) (cb (a ++ lits8)) ∧ w.heap.size ≤ gl ∧ gl < w1.heap.size ∧ Below w.heap.size w w1) := ⟨by rw [cb_append]; exact hO1.own, hg1, hg2, ((HA.out.below (fun k h => by cases h) (Nat.le_refl _)).alloc HA.out.size _).grown hO1.2.1 hsz.out (fun k hk => (HA.out.own.lt k hk).1)⟩
                 have hRb : Rd w1 w1.heap.size (some ⟨gl, 0, none⟩) n (cb a) := by
                   have := (Rd.of_own HL.out.1).take (h := n) (by omega)
                   rw [cb, ← List.map_take, List.take_left' HX.out.2.2.2.2.1] at this
                   exact this
                 have S1 : Hd (RS w1 w1 [(some ⟨gl, 0, none⟩, n, a), (a0, n, a), (a1, n, b)]) := ⟨RS.start (by
                   rintro x hx; simp only [List.mem_cons, List.not_mem_nil, or_false] at hx
                   rcases hx with rfl | rfl | rfl
                   · exact hRb
                   · exact (HX.out.1.below HL.out.2.2.2).more HL.out.2.2.2.size
                   · exact (HX.out.2.1.below HL.out.2.2.2).more HL.out.2.2.2.size)⟩
                 clear hO1 hRb hg1 hg2 hc2 HA hsz)
  obtain ⟨SA, hSA⟩ : ∃ S : Int, ((Crc.more 0 a : Nat) : Int) = S := ⟨_, rfl⟩
  obtain ⟨MA, hMA⟩ : ∃ S : Int, ((Crc.more 5 a : Nat) : Int) = S := ⟨_, rfl⟩
  obtain ⟨BA, hBA⟩ : ∃ S : Bool, decide (Crc.ov 0 a = 0) = S := ⟨_, rfl⟩
  have X : Hd (((Crc.more 0 a : Nat) : Int) = SA ∧ ((Crc.more 5 a : Nat) : Int) = MA ∧ decide (Crc.ov 0 a = 0) = BA) := ⟨hSA, hMA, hBA⟩
  have e1 := bne_int SA
  have e2 := bne_int MA
  have e3 := bne_bool BA
  clear hSA hMA hBA
  go_wp2_with fail
  refine (sum_any w1 (some ⟨gl, 0, none⟩) n cap w1.heap.size a (S1.out.get (A := (some ⟨gl, 0, none⟩)) (n := n) (bs := a) (by simp)) (Nat.le_refl _) HX.out.2.2.1 HN.out).mono ?_
  rw [X.out.1]
  rintro e w2 ⟨rfl, hb⟩
  have S2 := Hd.mk (S1.out.step hb)
  clear hb S1
  go_wp2_with fail
  refine (more_any w2 (some ⟨gl, 0, none⟩) n cap w2.heap.size a 5 (by omega) (by omega) (S2.out.get (A := (some ⟨gl, 0, none⟩)) (n := n) (bs := a) (by simp)) (Nat.le_refl _) HX.out.2.2.1 HN.out).mono ?_
  rw [show Int.toNat 5 = 5 from rfl, X.out.2.1]
  rintro e w3 ⟨rfl, hb⟩
  have S3 := Hd.mk (S2.out.step hb)
  clear hb S2
  go_wp2_with fail
  refine (blind_any w3 (some ⟨gl, 0, none⟩) n cap w3.heap.size a (S3.out.get (A := (some ⟨gl, 0, none⟩)) (n := n) (bs := a) (by simp)) (Nat.le_refl _) HX.out.2.2.1 HN.out).mono ?_
  rw [X.out.2.2]
  rintro e w4 ⟨rfl, hb⟩
  have S4 := Hd.mk (S3.out.step hb)
  clear hb S3
  go_wp2_with fail
  refine (write_any (w4.alloc (.cells #[.int .u32 0, .int .u64 0] 43)) w4.heap.size 0 43 0 0 #[.int .u32 0, .int .u64 0] (some ⟨gl, 0, none⟩) n cap w4.heap.size a ⟨heap_alloc_new w4 _, rfl, rfl, by omega, by omega⟩ ((S4.out.get (A := (some ⟨gl, 0, none⟩)) (n := n) (bs := a) (by simp)).alloc (Nat.le_refl _) _) (by simp) HX.out.2.2.1 HN.out).mono ?_
  rintro e w5 ⟨rfl, hs, hg⟩
  rw [show (0 + n) % 18446744073709551616 = n by omega] at hs
  obtain ⟨gs, hgs⟩ : ∃ gs, w4.heap.size = gs := ⟨_, rfl⟩
  have HG : Hd (w4.heap.size = gs ∧ w1.heap.size ≤ gs) := ⟨hgs, by rw [← hgs]; exact S4.out.bel.size⟩
  rw [hgs] at hs hg ⊢
  have S5 : Hd (SS w1 w5 gs [(some ⟨gl, 0, none⟩, n, a), (a0, n, a), (a1, n, b)] (Crc.more 0 a) n) := ⟨fun x hx => by
    have := ((S4.out.rds x hx).alloc (Nat.le_refl _) (.cells #[.int .u32 0, .int .u64 0] 43)).grown hg (by simp) (fun g e => by injection e with e; omega)
    rw [hgs] at this; exact this, ⟨_, hs⟩, (S4.out.bel.alloc S4.out.bel.size _).grown hg (by have := S4.out.bel.size; simp; omega) (fun g e => by injection e with e; have := S4.out.bel.size; omega)⟩
  clear hs hg hgs S4
  go_wp2_with fail
  refine (twin_rd w5 a0 n cap0 gs a (S5.out.get (A := a0) (n := n) (bs := a) (by simp)) S5.out.le HN.out).mono ?_
  rintro e w6 ⟨T1, q1, rfl, hr, hb⟩
  have S6 := Hd.mk (S5.out.step hb)
  have HT := Hd.mk hr
  clear hb hr S5
  go_wp2_with fail
  refine (sum_any w6 T1 n q1 w6.heap.size a HT.out (Nat.le_refl _) HX.out.2.2.1 HN.out).mono ?_
  rw [X.out.1]
  rintro e w7 ⟨rfl, hb⟩
  have S7 := Hd.mk (S6.out.step hb)
  clear hb S6
  clear HT
  go_wp2_with fail
  refine (twin_rd w7 a0 n cap0 gs a (S7.out.get (A := a0) (n := n) (bs := a) (by simp)) S7.out.le HN.out).mono ?_
  rintro e w8 ⟨T2, q2, rfl, hr, hb⟩
  have S8 := Hd.mk (S7.out.step hb)
  have HT := Hd.mk hr
  clear hb hr S7
  go_wp2_with fail
  refine (more_any w8 T2 n q2 w8.heap.size a 5 (by omega) (by omega) HT.out (Nat.le_refl _) HX.out.2.2.1 HN.out).mono ?_
  rw [show Int.toNat 5 = 5 from rfl, X.out.2.1]
  rintro e w9 ⟨rfl, hb⟩
  have S9 := Hd.mk (S8.out.step hb)
  clear hb S8
  clear HT
  go_wp2_with fail
  refine (twin_rd w9 a0 n cap0 gs a (S9.out.get (A := a0) (n := n) (bs := a) (by simp)) S9.out.le HN.out).mono ?_
  rintro e w10 ⟨T3, q3, rfl, hr, hb⟩
  have S10 := Hd.mk (S9.out.step hb)
  have HT := Hd.mk hr
  clear hb hr S9
  go_wp2_with fail
  refine (blind_any w10 T3 n q3 w10.heap.size a HT.out (Nat.le_refl _) HX.out.2.2.1 HN.out).mono ?_
  rw [X.out.2.2]
  rintro e w11 ⟨rfl, hb⟩
  have S11 := Hd.mk (S10.out.step hb)
  clear hb S10
  clear HT
  go_wp2_with fail
  obtain ⟨ys, hys⟩ := S11.out.st
  refine (ssum_any w11 gs 0 43 _ _ ys hys).mono ?_
  rw [X.out.1]
  rintro e z11 ⟨rfl, rfl⟩
  clear hys
  go_wp2_with fail
  have HC : Hd (∀ i, i < n + 8 → w11.cell? ⟨gl, i, none⟩ = (cb (a ++ lits8))[i]?) := ⟨fun i hi => by
    rw [S11.out.bel.cell (p := ⟨gl, i, none⟩) HL.out.2.2.1]; exact HL.out.1.cellAt i (by omega)⟩
  have HG2 : Hd (gl < gs) := ⟨Nat.lt_of_lt_of_le HL.out.2.2.1 HG.out.2⟩
  go_loopw [12] (fun i wr => ∃ k : Nat, k ≤ n ∧ i = .int .i64 k ∧ Below w11.heap.size w11 wr) (fun i _ => n - (intOf i).toNat)
  case atStart => exact ⟨0, by omega, rfl, Below.refl _ _⟩
  case round =>
    obtain ⟨k, hk, rfl, hbr⟩ := hrel
    have HR := Hd.mk hbr
    clear hbr
    by_cases hlt : k < n
    · obtain ⟨g2, o2, v2, hA2, hgg2, hx2, hcc2⟩ := (((S11.out.get (A := a0) (n := n) (bs := a) (by simp)).below (HR.out.mono S11.out.le))).at_ hlt
      have hcc1 := HC.out k (by omega)
      rw [cb_append, List.getElem?_append_left (by rw [cb_length, HX.out.2.2.2.2.1]; exact hlt), hx2, ← HR.out.cell (p := ⟨gl, k, none⟩) (Nat.lt_of_lt_of_le HG2.out S11.out.le)] at hcc1
      rw [cb_get _ _ (by rw [HX.out.2.2.2.2.1]; exact hlt)] at hx2
      injection hx2 with hx2
      obtain ⟨X2, hX2⟩ : ∃ X : Int, ((a.getD k 0 : Nat) : Int) = X := ⟨_, rfl⟩
      rw [hX2] at hx2
      have e4 := bne_int X2
      have hki : (k : Int) < (n : Int) := by omega
      have hkc : (k : Int) < (cap0 : Int) := by omega
      clear hX2 hgg2
      subst hx2 hA2
      go_wp2_with fail
      go_quiet (fail)
      go_wp2_with fail
      go_roundw
      case rel => exact ⟨k + 1, by omega, by go_num, below_drewN HR.out _⟩
      case measure => simp [intOf]; omega
    · have hkn : n = k := by omega
      have S12 := Hd.mk (S11.out.step HR.out)
      have HC2 : Hd (∀ i, i < n + 8 → wr.cell? ⟨gl, i, none⟩ = (cb (a ++ lits8))[i]?) := ⟨fun i hi => by rw [HR.out.cell (p := ⟨gl, i, none⟩) (Nat.lt_of_lt_of_le HG2.out S11.out.le)]; exact HC.out i hi⟩
      clear HR HC S11
      subst hkn
      obtain ⟨w12, hww⟩ : ∃ x, x = wr := ⟨_, rfl⟩
      subst hww
      go_wp2_with fail
      go_loopw [13] (fun i wr => ∃ k : Nat, k ≤ 8 ∧ i = .int .i64 k ∧ Below w12.heap.size w12 wr) (fun i _ => 8 - (intOf i).toNat)
      case atStart => exact ⟨0, by omega, rfl, Below.refl _ _⟩
      case round =>
        obtain ⟨k, hk, rfl, hbr⟩ := hrel
        have HR := Hd.mk hbr
        clear hbr
        by_cases hlt : k < 8
        · have hcc1 := HC2.out (n + k) (by omega)
          rw [cb_append, List.getElem?_append_right (by rw [cb_length, HX.out.2.2.2.2.1]; omega), cb_length, HX.out.2.2.2.2.1, Nat.add_sub_cancel_left, cb_get _ _ (by exact hlt), lits8_get k hlt, ← HR.out.cell (p := ⟨gl, n + k, none⟩) (Nat.lt_of_lt_of_le HG2.out S12.out.le)] at hcc1
          rw [show ((77 + k : Nat) : Int) = 77 + (k : Int) by omega] at hcc1
          have hw8 : (77 + (k : Int)) % 256 = 77 + (k : Int) := by omega
          have e4 := bne_int (77 + (k : Int))
          go_wp2_with fail
          go_roundw
          case rel => exact ⟨k + 1, by omega, by go_num, HR.out⟩
          case measure => simp [intOf]; omega
        · have hkn : k = 8 := by omega
          have S13 := Hd.mk (S12.out.step HR.out)
          clear HR HC2 S12
          subst hkn
          obtain ⟨w13, hww⟩ : ∃ x, x = wr := ⟨_, rfl⟩
          subst hww
          go_wp2_with fail
          refine (sum_any w13 (some ⟨gl, 0, none⟩) n cap gs a (S13.out.get (A := (some ⟨gl, 0, none⟩)) (n := n) (bs := a) (by simp)) S13.out.le HX.out.2.2.1 HN.out).mono ?_
          rw [X.out.1]
          rintro e w14 ⟨rfl, hb⟩
          have S14 := Hd.mk (S13.out.step hb)
          clear hb S13
          go_wp2_with fail
          refine (more_any w14 (some ⟨gl, 0, none⟩) n cap gs a 5 (by omega) (by omega) (S14.out.get (A := (some ⟨gl, 0, none⟩)) (n := n) (bs := a) (by simp)) S14.out.le HX.out.2.2.1 HN.out).mono ?_
          rw [show Int.toNat 5 = 5 from rfl, X.out.2.1]
          rintro e w15 ⟨rfl, hb⟩
          have S15 := Hd.mk (S14.out.step hb)
          clear hb S14
          go_wp2_with fail
          refine (blind_any w15 (some ⟨gl, 0, none⟩) n cap gs a (S15.out.get (A := (some ⟨gl, 0, none⟩)) (n := n) (bs := a) (by simp)) S15.out.le HX.out.2.2.1 HN.out).mono ?_
          rw [X.out.2.2]
          rintro e w16 ⟨rfl, hb⟩
          have S16 := Hd.mk (S15.out.step hb)
          clear hb S15
          go_wp2_with fail
          have HP : Hd (w16.ownsRow w.heap.size 5 1 (.slice (some ⟨gl, 0, none⟩) (n + 8) cap) (n + 8) (cb (a ++ lits8))) := ⟨own_below' HL.out.1 S16.out.bel⟩
          go_loopw [14] (fun i wr => ∃ k : Nat, k ≤ n ∧ i = .int .i64 k ∧ wr.ownsRow w.heap.size 5 1 (.slice (some ⟨gl, 0, none⟩) (n + 8) cap) (n + 8) (cb ((b.take k ++ a.drop k) ++ lits8)) ∧ w16.grownBy wr (some gl)) (fun i _ => n - (intOf i).toNat)
          case atStart => exact ⟨0, by omega, rfl, HP.out, World.grownBy.refl _ _⟩
          case round =>
            obtain ⟨k, hk, rfl, hown, hgr⟩ := hrel
            have HK : Hd (wr.ownsRow w.heap.size 5 1 (.slice (some ⟨gl, 0, none⟩) (n + 8) cap) (n + 8) (cb ((b.take k ++ a.drop k) ++ lits8)) ∧ w16.grownBy wr (some gl)) := ⟨hown, hgr⟩
            have HW : Hd (Below w.heap.size w wr) := ⟨(HL.out.2.2.2.trans (S16.out.bel.mono HL.out.2.2.2.size)).grown hgr (HL.out.2.2.2.trans (S16.out.bel.mono HL.out.2.2.2.size)).size (fun k e => by injection e with e; have := HL.out.2.1; omega)⟩
            clear hown hgr
            by_cases hlt : k < n
            · obtain ⟨g2, o2, v2, hA2, hgg2, hx2, hcc2⟩ := (HX.out.2.1.below HW.out).at_ hlt
              have hcc1 := HK.out.1.cellAt k (by omega)
              rw [cb_get _ _ (by have := HK.out.1.1; rw [cb_length] at this; omega)] at hcc1
              rw [cb_get _ _ (by rw [HX.out.2.2.2.2.2]; exact hlt)] at hx2
              injection hx2 with hx2
              have hz := HK.out.1.frozenAt k
              have hst := Hd.mk (HK.out.1.stored k (.int .u8 ((b.getD k 0 : Nat) : Int)))
              have hset : (cb ((b.take k ++ a.drop k) ++ lits8)).set k (.int .u8 ((b.getD k 0 : Nat) : Int)) = cb ((b.take (k + 1) ++ a.drop (k + 1)) ++ lits8) := by
                rw [show (Value.int .u8 ((b.getD k 0 : Nat) : Int)) = bv (b.getD k 0) from rfl]; unfold cb; rw [← List.map_set, over_set a b lits8 k n HX.out.2.2.2.2.1 HX.out.2.2.2.2.2 hlt]
              rw [hset] at hst
              generalize ((b.take k ++ a.drop k) ++ lits8).getD k 0 = old at *
              obtain ⟨X2, hX2⟩ : ∃ X : Int, ((b.getD k 0 : Nat) : Int) = X := ⟨_, rfl⟩
              rw [hX2] at hx2 hst
              have hki : (k : Int) < (n : Int) := by omega
              clear hX2 hgg2 hset
              subst hx2 hA2
              go_wp2_with fail
              go_roundw
              case rel => exact ⟨k + 1, by omega, by go_num, hst.out.1, HK.out.2.trans hst.out.2⟩
              case measure => simp [intOf]; omega
            · have hkn : n = k := by omega
              have hR : Rd wr wr.heap.size (some ⟨gl, 0, none⟩) n (cb b) := by
                have := (Rd.of_own HK.out.1).take (h := n) (by omega)
                rw [hkn, cb, ← List.map_take, List.append_assoc, List.take_left' (by rw [List.length_take, HX.out.2.2.2.2.2]; omega), List.take_of_length_le (by rw [HX.out.2.2.2.2.2]; omega)] at this
                rw [hkn]; exact this
              obtain ⟨ys, hys⟩ := S16.out.st
              have S17 : Hd (SS w wr gs [(some ⟨gl, 0, none⟩, n, b)] (Crc.more 0 a) n) := ⟨fun x hx => by
                simp only [List.mem_cons, List.not_mem_nil, or_false] at hx; subst hx
                exact ⟨hR.1, fun hn => let ⟨g, off, e, _, hc⟩ := hR.2 hn; ⟨g, off, e, by injection e with e; injection e with e; have := HG2.out; omega, hc⟩⟩, ⟨ys, hys.grown HK.out.2 (fun e => by injection e with e; have := HG2.out; omega)⟩, HW.out⟩
              clear hR HK HW hys S16
              obtain ⟨w17, hww⟩ : ∃ x, x = wr := ⟨_, rfl⟩
              subst hww
              subst hkn
              go_wp2_with fail
              obtain ⟨ys, hys⟩ := S17.out.st
              refine (write_any w17 gs 0 43 _ _ ys (some ⟨gl, 0, none⟩) n cap gs b hys (S17.out.get (A := (some ⟨gl, 0, none⟩)) (n := n) (bs := b) (by simp)) S17.out.le HX.out.2.2.2.1 HN.out).mono ?_
              rintro e w18 ⟨rfl, hs, hg⟩
              rw [show (n + n) % 18446744073709551616 = 2 * n by omega] at hs
              have S18 := Hd.mk (S17.out.turn (t := 0) hg hs (Nat.le_trans HL.out.2.2.2.size HG.out.2))
              clear hs hg hys S17
              go_wp2_with fail
              obtain ⟨SB, hSB⟩ : ∃ S : Int, ((Crc.more 0 b : Nat) : Int) = S := ⟨_, rfl⟩
              obtain ⟨MB, hMB⟩ : ∃ S : Int, ((Crc.more 5 b : Nat) : Int) = S := ⟨_, rfl⟩
              obtain ⟨BB, hBB⟩ : ∃ S : Bool, decide (Crc.ov 0 b = 0) = S := ⟨_, rfl⟩
              obtain ⟨FB, hFB⟩ : ∃ S : Int, ((Crc.more (Crc.more 0 a) b : Nat) : Int) = S := ⟨_, rfl⟩
              have Y : Hd (((Crc.more 0 b : Nat) : Int) = SB ∧ ((Crc.more 5 b : Nat) : Int) = MB ∧ decide (Crc.ov 0 b = 0) = BB ∧ ((Crc.more (Crc.more 0 a) b : Nat) : Int) = FB ∧ ((Crc.more SA.toNat b : Nat) : Int) = FB) := ⟨hSB, hMB, hBB, hFB, by rw [← hFB, ← X.out.1, Int.toNat_natCast]⟩
              have f1 := bne_int SB
              have f2 := bne_int MB
              have f3 := bne_bool BB
              have f4 : (FB == FB) = true := by simp
              have f5 : (2 * (n : Int) == 2 * (n : Int)) = true := by simp
              have HS : Hd (0 ≤ SA ∧ SA ≤ 4294967295) := ⟨by have := Crc.more_lt 0 a; rw [← X.out.1]; omega⟩
              clear hSB hMB hBB hFB
              refine (twin_rd w18 a1 n cap1 w.heap.size b (HX.out.2.1.below S18.out.bel) S18.out.bel.size HN.out).mono ?_
              rintro e w19 ⟨T4, q4, rfl, hr, hb⟩
              have S19 := Hd.mk (S18.out.step hb)
              have HT := Hd.mk hr
              clear hb hr S18
              go_wp2_with fail
              refine (sum_any w19 (some ⟨gl, 0, none⟩) n cap gs b (S19.out.get (A := (some ⟨gl, 0, none⟩)) (n := n) (bs := b) (by simp)) S19.out.le HX.out.2.2.2.1 HN.out).mono ?_
              rw [Y.out.1]
              rintro e w20 ⟨rfl, hb⟩
              have S20 := Hd.mk (S19.out.step hb)
              replace HT := Hd.mk ((HT.out.below hb).more hb.size)
              clear hb S19
              go_wp2_with fail
              refine (sum_any w20 T4 n q4 w20.heap.size b HT.out (Nat.le_refl _) HX.out.2.2.2.1 HN.out).mono ?_
              rw [Y.out.1]
              rintro e w21 ⟨rfl, hb⟩
              have S21 := Hd.mk (S20.out.step hb)
              replace HT := Hd.mk ((HT.out.below hb).more hb.size)
              clear hb S20
              go_wp2_with fail
              refine (more_any w21 (some ⟨gl, 0, none⟩) n cap gs b 5 (by omega) (by omega) (S21.out.get (A := (some ⟨gl, 0, none⟩)) (n := n) (bs := b) (by simp)) S21.out.le HX.out.2.2.2.1 HN.out).mono ?_
              rw [show Int.toNat 5 = 5 from rfl, Y.out.2.1]
              rintro e w22 ⟨rfl, hb⟩
              have S22 := Hd.mk (S21.out.step hb)
              replace HT := Hd.mk ((HT.out.below hb).more hb.size)
              clear hb S21
              go_wp2_with fail
              refine (more_any w22 T4 n q4 w22.heap.size b 5 (by omega) (by omega) HT.out (Nat.le_refl _) HX.out.2.2.2.1 HN.out).mono ?_
              rw [show Int.toNat 5 = 5 from rfl, Y.out.2.1]
              rintro e w23 ⟨rfl, hb⟩
              have S23 := Hd.mk (S22.out.step hb)
              replace HT := Hd.mk ((HT.out.below hb).more hb.size)
              clear hb S22
              go_wp2_with fail
              refine (blind_any w23 (some ⟨gl, 0, none⟩) n cap gs b (S23.out.get (A := (some ⟨gl, 0, none⟩)) (n := n) (bs := b) (by simp)) S23.out.le HX.out.2.2.2.1 HN.out).mono ?_
              rw [Y.out.2.2.1]
              rintro e w24 ⟨rfl, hb⟩
              have S24 := Hd.mk (S23.out.step hb)
              replace HT := Hd.mk ((HT.out.below hb).more hb.size)
              clear hb S23
              go_wp2_with fail
              refine (blind_any w24 T4 n q4 w24.heap.size b HT.out (Nat.le_refl _) HX.out.2.2.2.1 HN.out).mono ?_
              rw [Y.out.2.2.1]
              rintro e w25 ⟨rfl, hb⟩
              have S25 := Hd.mk (S24.out.step hb)
              replace HT := Hd.mk ((HT.out.below hb).more hb.size)
              clear hb S24
              go_wp2_with fail
              refine (known_any w25).mono ?_
              rintro e w26 ⟨rfl, hb⟩
              have S26 := Hd.mk (S25.out.step hb)
              replace HT := Hd.mk ((HT.out.below hb).more hb.size)
              clear hb S25
              go_wp2_with fail
              obtain ⟨ys, hys⟩ := S26.out.st
              refine (ssum_any w26 gs 0 43 _ _ ys hys).mono ?_
              rw [Y.out.2.2.2.1]
              rintro e z26 ⟨rfl, rfl⟩
              clear hys
              go_wp2_with fail
              refine (more_any w26 T4 n q4 w26.heap.size b SA HS.out.1 HS.out.2 HT.out (Nat.le_refl _) HX.out.2.2.2.1 HN.out).mono ?_
              rw [Y.out.2.2.2.2]
              rintro e w27 ⟨rfl, hb⟩
              have S27 := Hd.mk (S26.out.step hb)
              replace HT := Hd.mk ((HT.out.below hb).more hb.size)
              clear hb S26
              go_wp2_with fail
              obtain ⟨ys, hys⟩ := S27.out.st
              refine (slen_any w27 gs 0 43 _ _ ys hys).mono ?_
              rw [show ((2 * n : Nat) : Int) = 2 * (n : Int) by omega]
              rintro e z27 ⟨rfl, rfl⟩
              clear hys
              go_wp2_with fail
              go_ret
              exact ⟨rfl, S27.out.bel⟩
end Go.Proofs.Ytofblciodgibdaa
