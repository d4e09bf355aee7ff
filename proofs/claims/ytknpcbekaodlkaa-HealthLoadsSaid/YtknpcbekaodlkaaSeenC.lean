/- Contract of the law's seen, at two boards that are alike. -/
import Derived.Test.YtknpcbekaodlkaaRefSeen
import Derived.Test.YtknpcbekaodlkaaMarks
import Derived.Test.YtknpcbekaodlkaaAwake
import Derived.Test.YtknpcbekaodlkaaHeldBy
namespace Go.Proofs.Ytknpcbekaodlkaa
open Go.RowKit
set_option linter.unusedVariables false
set_option linter.unusedSimpArgs false
/-- The two boards, and the box of the second, in whatever world. -/
def SN (w0 : World) (R B1 B2 b h cap h2 cap2 K : Nat) (ss : List Nat) (W : World) : Prop :=
  Below w0.heap.size w0 W ∧ W.heap[R]? = some (.cells #[.float .f32 K, .slice (some ⟨h2, 0, none⟩) ss.length cap2] 64 (0, 0)) ∧ Brd W B1 b h cap K ss ∧ Vb W B2 h2 cap2 ss
section
variable {w0 W W' : World} {R B1 B2 b h cap h2 cap2 K : Nat} {ss : List Nat}
theorem SN.keep (H : SN w0 R B1 B2 b h cap h2 cap2 K ss W) (hb : Below W.heap.size W W') : SN w0 R B1 B2 b h cap h2 cap2 K ss W' :=
  ⟨H.1.trans (hb.mono H.1.size), (hb.block _ (Array.getElem?_eq_some_iff.1 H.2.1).1).trans H.2.1, H.2.2.1.keep hb, H.2.2.2.keep hb⟩
theorem SN.c0 (H : SN w0 R B1 B2 b h cap h2 cap2 K ss W) : W.cell? ⟨R, 0, none⟩ = some (.float .f32 K) := by rw [cell_of_row _ _ _ _ _ _ H.2.1]; rfl
theorem SN.c1 (H : SN w0 R B1 B2 b h cap h2 cap2 K ss W) : W.cell? ⟨R, 1, none⟩ = some (.slice (some ⟨h2, 0, none⟩) ss.length cap2) := by rw [cell_of_row _ _ _ _ _ _ H.2.1]; rfl
end
set_option maxRecDepth 20000 in
set_option maxHeartbeats 4000000 in
theorem seen_any (w : World) (B1 B2 b h cap h2 cap2 K : Nat) (ss : List Nat) (H : Brd w B1 b h cap K ss) (V : Vb w B2 h2 cap2 ss) (L : Law K ss) (h1 : 1 ≤ ss.length) (hn2 : ss.length ≤ 255) :
    Calls Try.prog 36 #[.pointer (some ⟨b, 0, none⟩), .agg #[.float .f32 K, .slice (some ⟨h2, 0, none⟩) ss.length cap2]] w fun e w' => e = .returned (.bool true) ∧ Below w.heap.size w w' := by
  have H0 : Hd (SN w w.heap.size B1 B2 b h cap h2 cap2 K ss (w.alloc (.cells #[.float .f32 K, .slice (some ⟨h2, 0, none⟩) ss.length cap2] 64))) := ⟨by
    have hb : Below w.heap.size w (w.alloc (.cells #[.float .f32 K, .slice (some ⟨h2, 0, none⟩) ss.length cap2] 64)) := (Below.refl _ _).alloc (Nat.le_refl _) _
    exact ⟨hb, heap_alloc_new _ _, H.keep hb, V.keep hb⟩⟩
  have HL := Hd.mk L
  obtain ⟨n, hn⟩ : ∃ n, ss.length = n := ⟨_, rfl⟩
  have HN := Hd.mk hn
  rw [hn] at H0 h1 hn2 ⊢
  clear H V L hn
  go_enter Try.func36, Try.ntmps36
  go_wp2_with fail
  have HSV : Hd (∀ W, SN w w.heap.size B1 B2 b h cap h2 cap2 K ss W → Calls Try.prog 26 #[.pointer (some ⟨b, 0, none⟩)] W fun e w' => ∃ A c, e = .returned (.slice A (5 + 4 * n) c) ∧ Below W.heap.size W w' ∧ Rd w' w'.heap.size A (5 + 4 * n) (cb (saveP K ss))) := ⟨fun W hW => by
    have := save_any W B1 b h cap K ss hW.2.2.1 HL.out (by rw [HN.out]; exact hn2)
    rw [HN.out] at this
    exact this.mono fun e w' ⟨v, he, ho⟩ => by
      obtain ⟨A2, c2, rfl, hc, _⟩ := own_form ho.own
      exact ⟨A2, c2, he, ho.below (fun k hk => by cases hk) (Nat.le_refl _), Rd.of_own ho.own⟩⟩
  have HRS : Hd (∀ W, SN w w.heap.size B1 B2 b h cap h2 cap2 K ss W → Calls Try.prog 55 #[.agg #[.float .f32 K, .slice (some ⟨h2, 0, none⟩) n cap2]] W fun e w' => ∃ A c, e = .returned (.slice A (5 + 4 * n) c) ∧ Below W.heap.size W w' ∧ Rd w' w'.heap.size A (5 + 4 * n) (cb (saveP K ss))) := ⟨fun W hW => by
    have := refsave_any W B2 h2 cap2 K ss hW.2.2.2 HL.out (by rw [HN.out]; exact h1) (by rw [HN.out]; exact hn2)
    rwa [HN.out] at this⟩
  have HOR : Hd (∀ W, SN w w.heap.size B1 B2 b h cap h2 cap2 K ss W → Calls Try.prog 28 #[.pointer (some ⟨b, 0, none⟩)] W fun e w' => ∃ A c, e = .returned (.slice A n c) ∧ Below W.heap.size W w' ∧ Rd w' w'.heap.size A n (iv (orderP ss))) := ⟨fun W hW => by
    have := order_any W B1 b h cap K ss hW.2.2.1 HL.out.sc (by rw [HN.out]; exact h1) (by rw [HN.out]; exact hn2)
    rw [HN.out] at this
    exact this.mono fun e w' ⟨g, he, ho, hb, _⟩ => ⟨_, _, he, hb, Rd.of_own ho⟩⟩
  have HRO : Hd (∀ W, SN w w.heap.size B1 B2 b h cap h2 cap2 K ss W → Calls Try.prog 56 #[.agg #[.float .f32 K, .slice (some ⟨h2, 0, none⟩) n cap2]] W fun e w' => ∃ A c, e = .returned (.slice A n c) ∧ Below W.heap.size W w' ∧ Rd w' w'.heap.size A n (iv (orderP ss))) := ⟨fun W hW => by
    have := reforder_any W B2 h2 cap2 K ss hW.2.2.2 HL.out (by rw [HN.out]; exact h1) (by rw [HN.out]; exact hn2)
    rwa [HN.out] at this⟩
  have hce : ((saveP K ss).length) = 5 + 4 * n := by rw [saveP_len, HN.out]
  obtain ⟨S, hS⟩ : ∃ S, bstr (saveP K ss) = S := ⟨_, rfl⟩
  have HS := Hd.mk hS
  have HSQ : ((S.toList != S.toList) = false) := by simp
  clear hS hce
  refine wp_region_held_drew (S := SN w w.heap.size B1 B2 b h cap h2 cap2 K ss) (by kernel_rfl) (show SN w w.heap.size B1 B2 b h cap h2 cap2 K ss _ from H0.out.keep (Below.refl _ _).drew) (fun hHeld => ?_)
  refine wpAnyH_take (i := 0) (oi := ?oi101) (v := ?v101) ?hi101 (by kernel_rfl) (by kernel_rfl) (by kernel_rfl) ?hQ101 (Or.inl ⟨?hw101, ?hy101⟩) (by assumption) ?rest101
  case hi101 => simp only [List.getElem?_toArray, List.getElem?_cons_succ, List.getElem?_cons_zero]; rfl
  case hQ101 => exact fun _ _ _ h => h
  case hw101 => rfl
  case hy101 => (rintro W hW; have c0 := hW.c0; have c1 := hW.c1; rw [HN.out] at c1; go_simp; all_goals rfl)
  simp only [Act.put, List.setIfInBounds_toArray, List.set_cons_zero, List.set_cons_succ]
  refine wpAnyH_take (i := 1) (oi := ?oi102) (v := ?v102) ?hi102 (by kernel_rfl) (by kernel_rfl) (by kernel_rfl) ?hQ102 (Or.inl ⟨?hw102, ?hy102⟩) (by assumption) ?rest102
  case hi102 => simp only [List.getElem?_toArray, List.getElem?_cons_succ, List.getElem?_cons_zero]; rfl
  case hQ102 => exact fun _ _ _ h => h
  case hw102 => rfl
  case hy102 => (rintro W hW; have c0 := hW.c0; have c1 := hW.c1; rw [HN.out] at c1; go_simp; all_goals rfl)
  simp only [Act.put, List.setIfInBounds_toArray, List.set_cons_zero, List.set_cons_succ]
  refine wpAnyH_take (i := 2) (oi := ?oi103) (v := ?v103) ?hi103 (by kernel_rfl) (by kernel_rfl) (by kernel_rfl) ?hQ103 (Or.inl ⟨?hw103, ?hy103⟩) (by assumption) ?rest103
  case hi103 => simp only [List.getElem?_toArray, List.getElem?_cons_succ, List.getElem?_cons_zero]; rfl
  case hQ103 => exact fun _ _ _ h => h
  case hw103 => rfl
  case hy103 => (rintro W hW; have c0 := hW.c0; have c1 := hW.c1; rw [HN.out] at c1; go_simp; all_goals rfl)
  simp only [Act.put, List.setIfInBounds_toArray, List.set_cons_zero, List.set_cons_succ]
  refine wpAnyH_take (i := 3) (oi := ?oi104) (v := ?v104) ?hi104 (by kernel_rfl) (by kernel_rfl) (by kernel_rfl) ?hQ104 (Or.inl ⟨?hw104, ?hy104⟩) (by assumption) ?rest104
  case hi104 => simp only [List.getElem?_toArray, List.getElem?_cons_succ, List.getElem?_cons_zero]; rfl
  case hQ104 => exact fun _ _ _ h => h
  case hw104 => rfl
  case hy104 => (rintro W hW; have c0 := hW.c0; have c1 := hW.c1; rw [HN.out] at c1; go_simp; all_goals rfl)
  simp only [Act.put, List.setIfInBounds_toArray, List.set_cons_zero, List.set_cons_succ]
  refine wpAnyH_take (i := 6) (oi := ?oi105) (v := ?v105) ?hi105 (by kernel_rfl) (by kernel_rfl) (by kernel_rfl) ?hQ105 (Or.inl ⟨?hw105, ?hy105⟩) (by assumption) ?rest105
  case hi105 => simp only [List.getElem?_toArray, List.getElem?_cons_succ, List.getElem?_cons_zero]; rfl
  case hQ105 => exact fun _ _ _ h => h
  case hw105 => rfl
  case hy105 => (rintro W hW; have c0 := hW.c0; have c1 := hW.c1; rw [HN.out] at c1; go_simp; all_goals rfl)
  simp only [Act.put, List.setIfInBounds_toArray, List.set_cons_zero, List.set_cons_succ]
  refine wpAnyH_ready (rs := [4]) (by kernel_rfl) (by simp) ?_
  refine AllReadyH.cons (i := 4) (o := ?o106) ?ho106 (fun Kq hK => ?step106) AllReadyH.nil
  case ho106 => simp only [List.getElem?_toArray, List.getElem?_cons_succ, List.getElem?_cons_zero]; rfl
  go_simp
  (refine (HSV.out _ hHeld).mono ?_; rintro e w5 ⟨A5, c5, rfl, hb, hr⟩)
  have hF := SN.keep hHeld hb
  refine hK.out _ _ hF (fun _ => ?_)
  clear hK Kq
  try simp only [Act.put, List.setIfInBounds_toArray, List.set_cons_zero, List.set_cons_succ]
  refine held_more (T := fun W => SN w w.heap.size B1 B2 b h cap h2 cap2 K ss W ∧ Rd W W.heap.size A5 (5 + 4 * n) (cb (saveP K ss))) (fun W hW => hW.1) _ _ _ _ ?_
  have hHeld : (fun W => SN w w.heap.size B1 B2 b h cap h2 cap2 K ss W ∧ Rd W W.heap.size A5 (5 + 4 * n) (cb (saveP K ss))) w5 := ⟨hF, hr⟩
  clear hF hr hb
  refine wpAnyH_take (i := 5) (oi := ?oi107) (v := ?v107) ?hi107 (by kernel_rfl) (by kernel_rfl) (by kernel_rfl) ?hQ107 (Or.inl ⟨?hw107, ?hy107⟩) (by assumption) ?rest107
  case hi107 => simp only [List.getElem?_toArray, List.getElem?_cons_succ, List.getElem?_cons_zero]; rfl
  case hQ107 => exact fun _ _ _ h => h
  case hw107 => rfl
  case hy107 => (rintro W ⟨hW, r5⟩; have c0 := hW.c0; have c1 := hW.c1; rw [HN.out] at c1; have g5 := conv_bytes (c := c5) r5; rw [HS.out] at g5; go_simp; all_goals rfl)
  simp only [Act.put, List.setIfInBounds_toArray, List.set_cons_zero, List.set_cons_succ]
  refine wpAnyH_ready (rs := [7]) (by kernel_rfl) (by simp) ?_
  refine AllReadyH.cons (i := 7) (o := ?o108) ?ho108 (fun Kq hK => ?step108) AllReadyH.nil
  case ho108 => simp only [List.getElem?_toArray, List.getElem?_cons_succ, List.getElem?_cons_zero]; rfl
  go_simp
  (refine (HRS.out _ hHeld.1).mono ?_; rintro e w7 ⟨A7, c7, rfl, hb, hr⟩)
  have hF := (⟨SN.keep hHeld.1 hb, (hHeld.2.below hb).more hb.size⟩ : (fun W => SN w w.heap.size B1 B2 b h cap h2 cap2 K ss W ∧ Rd W W.heap.size A5 (5 + 4 * n) (cb (saveP K ss))) w7)
  refine hK.out _ _ hF (fun _ => ?_)
  clear hK Kq
  try simp only [Act.put, List.setIfInBounds_toArray, List.set_cons_zero, List.set_cons_succ]
  refine held_more (T := fun W => SN w w.heap.size B1 B2 b h cap h2 cap2 K ss W ∧ Rd W W.heap.size A5 (5 + 4 * n) (cb (saveP K ss)) ∧ Rd W W.heap.size A7 (5 + 4 * n) (cb (saveP K ss))) (fun W hW => ⟨hW.1, hW.2.1⟩) _ _ _ _ ?_
  have hHeld : (fun W => SN w w.heap.size B1 B2 b h cap h2 cap2 K ss W ∧ Rd W W.heap.size A5 (5 + 4 * n) (cb (saveP K ss)) ∧ Rd W W.heap.size A7 (5 + 4 * n) (cb (saveP K ss))) w7 := ⟨hF.1, hF.2, hr⟩
  clear hF hr hb
  refine wpAnyH_take (i := 8) (oi := ?oi109) (v := ?v109) ?hi109 (by kernel_rfl) (by kernel_rfl) (by kernel_rfl) ?hQ109 (Or.inl ⟨?hw109, ?hy109⟩) (by assumption) ?rest109
  case hi109 => simp only [List.getElem?_toArray, List.getElem?_cons_succ, List.getElem?_cons_zero]; rfl
  case hQ109 => exact fun _ _ _ h => h
  case hw109 => rfl
  case hy109 => (rintro W ⟨hW, r5, r7⟩; have c0 := hW.c0; have c1 := hW.c1; rw [HN.out] at c1; have g7 := conv_bytes (c := c7) r7; rw [HS.out] at g7; go_simp; all_goals rfl)
  simp only [Act.put, List.setIfInBounds_toArray, List.set_cons_zero, List.set_cons_succ]
  refine wpAnyH_take (i := 9) (oi := ?oi110) (v := ?v110) ?hi110 (by kernel_rfl) (by kernel_rfl) (by kernel_rfl) ?hQ110 (Or.inl ⟨?hw110, ?hy110⟩) (by assumption) ?rest110
  case hi110 => simp only [List.getElem?_toArray, List.getElem?_cons_succ, List.getElem?_cons_zero]; rfl
  case hQ110 => exact fun _ _ _ h => h
  case hw110 => rfl
  case hy110 => (rintro W ⟨hW, r5, r7⟩; have c0 := hW.c0; have c1 := hW.c1; rw [HN.out] at c1; have g7 := conv_bytes (c := c7) r7; rw [HS.out] at g7; go_simp; all_goals rfl)
  simp only [Act.put, List.setIfInBounds_toArray, List.set_cons_zero, List.set_cons_succ]
  refine wpAnyH_take (i := 10) (oi := ?oi111) (v := ?v111) ?hi111 (by kernel_rfl) (by kernel_rfl) (by kernel_rfl) ?hQ111 (Or.inl ⟨?hw111, ?hy111⟩) (by assumption) ?rest111
  case hi111 => simp only [List.getElem?_toArray, List.getElem?_cons_succ, List.getElem?_cons_zero]; rfl
  case hQ111 => exact fun _ _ _ h => h
  case hw111 => rfl
  case hy111 => (rintro W ⟨hW, r5, r7⟩; have c0 := hW.c0; have c1 := hW.c1; rw [HN.out] at c1; have g7 := conv_bytes (c := c7) r7; rw [HS.out] at g7; go_simp; all_goals rfl)
  simp only [Act.put, List.setIfInBounds_toArray, List.set_cons_zero, List.set_cons_succ]
  refine wpAnyH_take (i := 11) (oi := ?oi112) (v := ?v112) ?hi112 (by kernel_rfl) (by kernel_rfl) (by kernel_rfl) ?hQ112 (Or.inl ⟨?hw112, ?hy112⟩) (by assumption) ?rest112
  case hi112 => simp only [List.getElem?_toArray, List.getElem?_cons_succ, List.getElem?_cons_zero]; rfl
  case hQ112 => exact fun _ _ _ h => h
  case hw112 => rfl
  case hy112 => (rintro W ⟨hW, r5, r7⟩; have c0 := hW.c0; have c1 := hW.c1; rw [HN.out] at c1; have g7 := conv_bytes (c := c7) r7; rw [HS.out] at g7; go_simp; all_goals rfl)
  simp only [Act.put, List.setIfInBounds_toArray, List.set_cons_zero, List.set_cons_succ]
  refine wpAnyH_take (i := 12) (oi := ?oi113) (v := ?v113) ?hi113 (by kernel_rfl) (by kernel_rfl) (by kernel_rfl) ?hQ113 (Or.inl ⟨?hw113, ?hy113⟩) (by assumption) ?rest113
  case hi113 => simp only [List.getElem?_toArray, List.getElem?_cons_succ, List.getElem?_cons_zero]; rfl
  case hQ113 => exact fun _ _ _ h => h
  case hw113 => rfl
  case hy113 => (rintro W ⟨hW, r5, r7⟩; have c0 := hW.c0; have c1 := hW.c1; rw [HN.out] at c1; have g7 := conv_bytes (c := c7) r7; rw [HS.out] at g7; go_simp; all_goals rfl)
  simp only [Act.put, List.setIfInBounds_toArray, List.set_cons_zero, List.set_cons_succ]
  refine wpAnyH_take (i := 14) (oi := ?oi114) (v := ?v114) ?hi114 (by kernel_rfl) (by kernel_rfl) (by kernel_rfl) ?hQ114 (Or.inl ⟨?hw114, ?hy114⟩) (by assumption) ?rest114
  case hi114 => simp only [List.getElem?_toArray, List.getElem?_cons_succ, List.getElem?_cons_zero]; rfl
  case hQ114 => exact fun _ _ _ h => h
  case hw114 => rfl
  case hy114 => (rintro W ⟨hW, r5, r7⟩; have c0 := hW.c0; have c1 := hW.c1; rw [HN.out] at c1; have g7 := conv_bytes (c := c7) r7; rw [HS.out] at g7; go_simp; all_goals rfl)
  simp only [Act.put, List.setIfInBounds_toArray, List.set_cons_zero, List.set_cons_succ]
  refine wpAnyH_ready (rs := [13]) (by kernel_rfl) (by simp) ?_
  refine AllReadyH.cons (i := 13) (o := ?o115) ?ho115 (fun Kq hK => ?step115) AllReadyH.nil
  case ho115 => simp only [List.getElem?_toArray, List.getElem?_cons_succ, List.getElem?_cons_zero]; rfl
  go_simp
  (refine (HOR.out _ hHeld.1).mono ?_; rintro e w9 ⟨A9, c9, rfl, hb, hr⟩)
  have hF := (⟨SN.keep hHeld.1 hb, (hHeld.2.1.below hb).more hb.size, (hHeld.2.2.below hb).more hb.size⟩ : (fun W => SN w w.heap.size B1 B2 b h cap h2 cap2 K ss W ∧ Rd W W.heap.size A5 (5 + 4 * n) (cb (saveP K ss)) ∧ Rd W W.heap.size A7 (5 + 4 * n) (cb (saveP K ss))) w9)
  refine hK.out _ _ hF (fun _ => ?_)
  clear hK Kq
  try simp only [Act.put, List.setIfInBounds_toArray, List.set_cons_zero, List.set_cons_succ]
  refine held_more (T := fun W => SN w w.heap.size B1 B2 b h cap h2 cap2 K ss W ∧ Rd W W.heap.size A5 (5 + 4 * n) (cb (saveP K ss)) ∧ Rd W W.heap.size A7 (5 + 4 * n) (cb (saveP K ss)) ∧ Rd W W.heap.size A9 n (iv (orderP ss))) (fun W hW => ⟨hW.1, hW.2.1, hW.2.2.1⟩) _ _ _ _ ?_
  have hHeld : (fun W => SN w w.heap.size B1 B2 b h cap h2 cap2 K ss W ∧ Rd W W.heap.size A5 (5 + 4 * n) (cb (saveP K ss)) ∧ Rd W W.heap.size A7 (5 + 4 * n) (cb (saveP K ss)) ∧ Rd W W.heap.size A9 n (iv (orderP ss))) w9 := ⟨hF.1, hF.2.1, hF.2.2, hr⟩
  clear hF hr hb
  refine wpAnyH_ready (rs := [15]) (by kernel_rfl) (by simp) ?_
  refine AllReadyH.cons (i := 15) (o := ?o116) ?ho116 (fun Kq hK => ?step116) AllReadyH.nil
  case ho116 => simp only [List.getElem?_toArray, List.getElem?_cons_succ, List.getElem?_cons_zero]; rfl
  go_simp
  (refine (HRO.out _ hHeld.1).mono ?_; rintro e wA ⟨AA, cA, rfl, hb, hr⟩)
  have hF := (⟨SN.keep hHeld.1 hb, (hHeld.2.1.below hb).more hb.size, (hHeld.2.2.1.below hb).more hb.size, (hHeld.2.2.2.below hb).more hb.size⟩ : (fun W => SN w w.heap.size B1 B2 b h cap h2 cap2 K ss W ∧ Rd W W.heap.size A5 (5 + 4 * n) (cb (saveP K ss)) ∧ Rd W W.heap.size A7 (5 + 4 * n) (cb (saveP K ss)) ∧ Rd W W.heap.size A9 n (iv (orderP ss))) wA)
  refine hK.out _ _ hF (fun _ => ?_)
  clear hK Kq
  try simp only [Act.put, List.setIfInBounds_toArray, List.set_cons_zero, List.set_cons_succ]
  refine held_more (T := fun W => SN w w.heap.size B1 B2 b h cap h2 cap2 K ss W ∧ Rd W W.heap.size A5 (5 + 4 * n) (cb (saveP K ss)) ∧ Rd W W.heap.size A7 (5 + 4 * n) (cb (saveP K ss)) ∧ Rd W W.heap.size A9 n (iv (orderP ss)) ∧ Rd W W.heap.size AA n (iv (orderP ss))) (fun W hW => ⟨hW.1, hW.2.1, hW.2.2.1, hW.2.2.2.1⟩) _ _ _ _ ?_
  have hHeld : (fun W => SN w w.heap.size B1 B2 b h cap h2 cap2 K ss W ∧ Rd W W.heap.size A5 (5 + 4 * n) (cb (saveP K ss)) ∧ Rd W W.heap.size A7 (5 + 4 * n) (cb (saveP K ss)) ∧ Rd W W.heap.size A9 n (iv (orderP ss)) ∧ Rd W W.heap.size AA n (iv (orderP ss))) wA := ⟨hF.1, hF.2.1, hF.2.2.1, hF.2.2.2, hr⟩
  clear hF hr hb
  refine wpAnyH_ready (rs := [16]) (by kernel_rfl) (by simp) ?_
  refine AllReadyH.cons (i := 16) (o := ?o117) ?ho117 (fun Kq hK => ?step117) AllReadyH.nil
  case ho117 => simp only [List.getElem?_toArray, List.getElem?_cons_succ, List.getElem?_cons_zero]; rfl
  go_simp
  (refine (sameInts_any _ _ n c9 cA A9 AA (orderP ss) hHeld.2.2.2.1 hHeld.2.2.2.2 (Nat.le_refl _) (by omega)).mono ?_; rintro e wB ⟨rfl, hb⟩)
  have hF : (fun W => SN w w.heap.size B1 B2 b h cap h2 cap2 K ss W ∧ Rd W W.heap.size A5 (5 + 4 * n) (cb (saveP K ss)) ∧ Rd W W.heap.size A7 (5 + 4 * n) (cb (saveP K ss)) ∧ Rd W W.heap.size A9 n (iv (orderP ss)) ∧ Rd W W.heap.size AA n (iv (orderP ss))) wB := ⟨SN.keep hHeld.1 hb, (hHeld.2.1.below hb).more hb.size, (hHeld.2.2.1.below hb).more hb.size, (hHeld.2.2.2.1.below hb).more hb.size, (hHeld.2.2.2.2.below hb).more hb.size⟩
  refine hK.out _ _ hF (fun _ => ?_)
  clear hK Kq
  try simp only [Act.put, List.setIfInBounds_toArray, List.set_cons_zero, List.set_cons_succ]
  refine wpAnyH_take (i := 17) (oi := ?oi118) (v := ?v118) ?hi118 (by kernel_rfl) (by kernel_rfl) (by kernel_rfl) ?hQ118 (Or.inl ⟨?hw118, ?hy118⟩) (by assumption) ?rest118
  case hi118 => simp only [List.getElem?_toArray, List.getElem?_cons_succ, List.getElem?_cons_zero]; rfl
  case hQ118 => exact fun _ _ _ h => h
  case hw118 => rfl
  case hy118 => (rintro W ⟨hW, r5, r7, r9, rA⟩; go_simp; all_goals rfl)
  simp only [Act.put, List.setIfInBounds_toArray, List.set_cons_zero, List.set_cons_succ]
  refine wpAnyH_take (i := 18) (oi := ?oi119) (v := ?v119) ?hi119 (by kernel_rfl) (by kernel_rfl) (by kernel_rfl) ?hQ119 (Or.inl ⟨?hw119, ?hy119⟩) (by assumption) ?rest119
  case hi119 => simp only [List.getElem?_toArray, List.getElem?_cons_succ, List.getElem?_cons_zero]; rfl
  case hQ119 => exact fun _ _ _ h => h
  case hw119 => rfl
  case hy119 => (rintro W ⟨hW, r5, r7, r9, rA⟩; go_simp; all_goals rfl)
  simp only [Act.put, List.setIfInBounds_toArray, List.set_cons_zero, List.set_cons_succ]
  refine wpAnyH_done (by kernel_rfl) ?_ _
  have HB : Hd (SN w w.heap.size B1 B2 b h cap h2 cap2 K ss wB) := ⟨hF.1⟩
  clear hF hHeld HSV HRS HOR HRO HS HSQ H0 hb
  go_wp2_with fail
  go_loopw [5, 6, 7, 8, 9] (fun i u6 u7 u8 u9 wr => ∃ z : Int, -1 ≤ z ∧ z ≤ (n : Int) + 1 ∧ i = .int .i64 z ∧ SN w w.heap.size B1 B2 b h cap h2 cap2 K ss wr) (fun i _ _ _ _ _ => (n + 1 - (match i with | .int _ j => j | _ => 0) : Int).toNat)
  case atStart => exact ⟨-1, by omega, by omega, rfl, HB.out⟩
  case round =>
    clear HB
    obtain ⟨z, hz1, hz2, rfl, hO⟩ := hrel
    have c0 := hO.c0
    have c1 := hO.c1
    rw [HN.out] at c1
    have H1 := Hd.mk hO
    clear hO
    by_cases hlt : z ≤ (n : Int)
    · by_cases hin : 0 ≤ z ∧ z < (n : Int)
      · obtain ⟨i, rfl⟩ := Int.eq_ofNat_of_zero_le hin.1
        obtain ⟨hin1, hin2⟩ := hin
        have hi2 : i < n := by omega
        have hs := score_in wr B1 b h cap K ss H1.out.2.2.1 HL.out i (by rw [HN.out]; exact hi2)
        have hr : ∀ W, SN w w.heap.size B1 B2 b h cap h2 cap2 K ss W → _ := fun W hW => refscore_in W B2 h2 cap2 K ss hW.2.2.2 HL.out i (by rw [HN.out]; exact hi2)
        rw [HN.out] at hr
        have hq : (FloatKind.f64.format.order (up (ss.getD i 0)) (up (ss.getD i 0)) != some .eq) = false := by
          have hx : up (ss.getD i 0) < inf64 := up_inf (Nat.lt_of_le_of_lt (law_get HL.out i) one_inf32)
          have : FloatKind.f64.format.order (up (ss.getD i 0)) (up (ss.getD i 0)) = some .eq := by
            rw [show FloatKind.f64.format = Ieee.double from rfl, order_fin (fin_pos hx) (fin_pos hx)]; simp [compare, compareOfLessAndEq]
          rw [this]; rfl
        generalize up (ss.getD i 0) = x at *
        have HSI := Hd.mk hs
        have HRI := Hd.mk (hr wr H1.out)
        clear hs hr
        go_wp2_with fail
        refine HSI.out.mono ?_
        rintro e w2 ⟨rfl, rfl⟩
        go_wp2_with fail
        refine HRI.out.mono ?_
        rintro e w2 ⟨rfl, hb2⟩
        have H2 := Hd.mk (H1.out.keep hb2)
        clear hb2 H1 c0 c1
        go_wp2_with fail
        go_roundw
        case rel => exact ⟨(i : Int) + 1, by omega, by omega, rfl, H2.out⟩
        case measure => simp; omega
      · have hout : z < 0 ∨ (n : Int) ≤ z := by omega
        go_wp2_with fail
        refine (score_out wr B1 b h cap K ss H1.out.2.2.1 z (by rw [HN.out]; exact hout)).mono ?_
        rintro e w2 ⟨rfl, rfl⟩
        go_wp2_with fail
        refine (refscore_out wr n h2 cap2 K z hout).mono ?_
        rintro e w2 ⟨rfl, hb2⟩
        have H2 := Hd.mk (H1.out.keep hb2)
        clear hb2 H1 c0 c1 hout hin
        go_wp2_with fail
        go_roundw
        case rel => exact ⟨z + 1, by omega, by omega, rfl, H2.out⟩
        case measure => simp; omega
    · go_wp2_with fail
      go_ret
      exact ⟨rfl, H1.out.1⟩
end Go.Proofs.Ytknpcbekaodlkaa
