/- The walk of HealthBack: it returns true for every input. -/
import Derived.Test.YtknpcbekaodlkaaFormWalk
import Derived.Test.YtknpcbekaodlkaaStaysWalk
namespace Go.Proofs.Ytknpcbekaodlkaa
open Go.RowKit
set_option linter.unusedVariables false
set_option linter.unusedSimpArgs false
theorem Brd.lower {w : World} {B B' b h cap K : Nat} {ss : List Nat} (H : Brd w B b h cap K ss) (hB : B' ≤ B) : Brd w B' b h cap K ss :=
  ⟨Nat.le_trans hB H.hB, H.ne, H.blk, own_more H.row hB⟩
/-- What Save's answer is turned to. -/
theorem save_str (W : World) (B b h cap K : Nat) (ss : List Nat) (H : Brd W B b h cap K ss) (L : Law K ss) (h255 : ss.length ≤ 255) (S : ByteArray) (hS : bstr (saveP K ss) = S) :
    Calls Try.prog 26 #[.pointer (some ⟨b, 0, none⟩)] W fun e w' => ∃ A2 c2, e = .returned (.slice A2 (5 + 4 * ss.length) c2) ∧ (convert 45 9 (.slice A2 (5 + 4 * ss.length) c2)).run Try.prog w' = .ok (.string S) w' ∧ Below W.heap.size W w' ∧ Rd w' w'.heap.size A2 (5 + 4 * ss.length) (cb (saveP K ss)) ∧ 5 + 4 * ss.length ≤ c2 :=
  (save_any W B b h cap K ss H L h255).mono fun e w' ⟨v, he, ho⟩ => by
    obtain ⟨A2, c2, rfl, hc, _⟩ := own_form ho.own
    exact ⟨A2, c2, he, by rw [← hS]; exact conv_bytes (Rd.of_own ho.own), ho.below (fun k hk => by cases hk) (Nat.le_refl _), Rd.of_own ho.own, hc⟩
set_option maxRecDepth 20000 in
set_option maxHeartbeats 2000000 in
theorem back_walk0 (n : Int) (x : Nat) (A : Option Addr) (m c : Nat) (T : Nat → Bool × Int × Int × Bool) (w : World) (hT : Tolds w A m T) (hm : m * 32 ≤ 140737488351232) :
    Calls Try.prog 14 #[.int .i64 n, .float .f64 x, .slice A m c] w fun e w' => e = .returned (.bool true) ∧ Below w.heap.size w w' := by
  have HB := Hd.mk (wrap64_bd (n - 1))
  have HN : Hd ((1 : Int) + ((pickP (wrap64 (n - 1)) 255 : Nat) : Int) = ((placesN n : Nat) : Int)) := ⟨by unfold placesN; omega⟩
  have hp := pickP_lt (wrap64 (n - 1)) 255 (by decide)
  have HT := Hd.mk hT
  have HL := Hd.mk (placesN_le n)
  have hm2 : m ≤ 4398046510976 := by omega
  clear hT hm
  go_enter Try.func14, Try.ntmps14
  go_wp2_with fail
  refine (awake_any w).mono ?_
  rintro e w1 ⟨rfl, hb1⟩
  have H1 := Hd.mk hb1
  clear hb1
  go_wp2_with fail
  refine (board_any w1 n x).mono ?_
  rintro e w2 ⟨b0, h0, cap0, K0, rfl, hK0, hK1, hBr, hb2⟩
  have H2 : Hd (0 < K0 ∧ K0 < one32 ∧ Brd w2 w.heap.size b0 h0 cap0 K0 (List.replicate (placesN n) one32) ∧ Below w.heap.size w w2) := ⟨hK0, hK1, ⟨Nat.le_trans H1.out.size hBr.hB, hBr.ne, hBr.blk, own_more hBr.row H1.out.size⟩, H1.out.trans (hb2.mono H1.out.size)⟩
  clear hK0 hK1 hBr hb2
  go_wp2_with fail
  refine (pick_any _ _ 255 (by decide) (by decide) HB.out.1 HB.out.2).mono ?_
  rintro e w3 ⟨rfl, rfl⟩
  obtain ⟨q, hq⟩ : ∃ q, placesN n = q := ⟨_, rfl⟩
  have hpq := HN.out
  obtain ⟨pp, hpp⟩ : ∃ pp, pickP (wrap64 (n - 1)) 255 = pp := ⟨_, rfl⟩
  rw [hpp] at hpq hp ⊢
  rw [hq] at H2 HL hpq
  have hq1 := HL.out.1
  have hq2 := HL.out.2
  have L0 := Hd.mk (law_start H2.out.1 H2.out.2.1 q)
  clear hq hpp HN HB
  go_wp2_with fail
  clear hpq hp
  go_loopw [7, 8] (fun u i wr => ∃ (k b h cap K : Nat) (ss : List Nat), k ≤ m ∧ i = .int .i64 (k : Int) ∧ u = .pointer (some ⟨b, 0, none⟩) ∧ ss.length = q ∧ Law K ss ∧ Brd wr w.heap.size b h cap K ss ∧ Below w.heap.size w wr) (fun _ i _ => m - (intOf i).toNat)
  case atStart => exact ⟨0, b0, h0, cap0, K0, List.replicate q one32, by omega, rfl, rfl, List.length_replicate, L0.out, H2.out.2.2.1, H2.out.2.2.2⟩
  case round =>
    clear H2 L0 H1
    clear h0 cap0 K0
    obtain ⟨k, b, h, cap, K, ss, hk, rfl, rfl, hlen, hLaw, hBr, hbel⟩ := hrel
    have H4 := Hd.mk (And.intro hlen (And.intro hLaw (And.intro hBr hbel)))
    clear hlen hLaw hBr hbel
    obtain ⟨wo, hwo⟩ : ∃ wo : World, wo = wr := ⟨_, rfl⟩
    rw [← hwo] at H4 ⊢
    clear hwo
    by_cases hkm : k < m
    · have hki : (k : Int) < (m : Int) := by omega
      obtain ⟨S, hS⟩ : ∃ S, bstr (saveP K ss) = S := ⟨_, rfl⟩
      have HS := Hd.mk hS
      have hl := H4.out.1
      clear hS
      go_wp2_with fail
      refine (save_str wo w.heap.size b h cap K ss H4.out.2.2.1 H4.out.2.1 (by omega) S HS.out).mono ?_
      rw [hl]
      rintro e w5 ⟨A5, c5, rfl, hcv5, hb5, hr5, hc5⟩
      have H5 : Hd (Brd w5 w.heap.size b h cap K ss ∧ Below w.heap.size w w5 ∧ Rd w5 w5.heap.size A5 (5 + 4 * q) (cb (saveP K ss)) ∧ wo.heap.size ≤ w5.heap.size) := ⟨H4.out.2.2.1.keep hb5, H4.out.2.2.2.trans (hb5.mono H4.out.2.2.2.size), hr5, hb5.size⟩
      clear hcv5 hb5 hr5 hl
      go_wp2_with fail
      refine (load_any w5 w5.heap.size (5 + 4 * q) c5 A5 (saveP K ss) H5.out.2.2.1 (saveP_lt K ss) (Nat.le_refl _) hc5).mono ?_
      rintro e w6 ⟨hb6, ⟨hno, rfl⟩ | ⟨K6, ss6, b2, h2, cap2, hld, rfl, hB6⟩⟩
      · exfalso
        rw [load_save H4.out.2.1 (by rw [H4.out.1]; exact hq1) (by rw [H4.out.1]; exact hq2)] at hno
        cases hno
      have hld2 := load_save H4.out.2.1 (by rw [H4.out.1]; exact hq1) (by rw [H4.out.1]; exact hq2)
      rw [hld2] at hld
      injection hld with hld
      injection hld with e1 e2
      subst e1 e2
      have H6 : Hd (FS w5 A5 (5 + 4 * q) b2 h2 cap2 K (saveP K ss) ss w6 ∧ Brd w6 w.heap.size b h cap K ss ∧ Below w.heap.size w w6 ∧ b < w5.heap.size ∧ h < w5.heap.size) :=
        ⟨⟨H5.out.2.2.1.below hb6, hB6⟩, H5.out.1.keep hb6, H5.out.2.1.trans (hb6.mono H5.out.2.1.size), H5.out.1.lt.1, H5.out.1.lt.2.1⟩
      clear hb6 hB6 hld2
      go_wp2_with fail
      have g1 : ∀ W, FS w5 A5 (5 + 4 * q) b2 h2 cap2 K (saveP K ss) ss W → (convert 45 9 (.slice A5 (5 + 4 * q) c5)).run Try.prog W = .ok (.string S) W := fun W hW => by rw [← HS.out]; exact conv_bytes hW.1
      have hF6 : FS w5 A5 (5 + 4 * q) b2 h2 cap2 K (saveP K ss) ss w6.drew := ⟨H6.out.1.1.below (Below.refl _ _).drew, H6.out.1.2.drew 1⟩
      have HSV : Hd (∀ W, FS w5 A5 (5 + 4 * q) b2 h2 cap2 K (saveP K ss) ss W → Calls Try.prog 26 #[.pointer (some ⟨b2, 0, none⟩)] W fun e w' => ∃ A2 c2, e = .returned (.slice A2 (5 + 4 * q) c2) ∧ (convert 45 9 (.slice A2 (5 + 4 * q) c2)).run Try.prog w' = .ok (.string S) w' ∧ Below W.heap.size W w') := ⟨fun W hW => by
        have := (save_str W w5.heap.size b2 h2 cap2 K ss hW.2 H4.out.2.1 (by rw [H4.out.1]; exact hq2) S HS.out)
        rw [H4.out.1] at this
        exact this.mono fun e w' ⟨A2, c2, a, b, c, _⟩ => ⟨A2, c2, a, b, c⟩⟩
      have HF6 := Hd.mk hF6
      clear hF6
      have hw1 : IntKind.i64.wrap (4 * (q : Int)) = 4 * (q : Int) := Go.IntWalk.i64_in _ (by omega)
      have hw2 : IntKind.i64.wrap (5 + 4 * (q : Int)) = 5 + 4 * (q : Int) := Go.IntWalk.i64_in _ (by omega)
      refine wp_region_held_drew (S := FS w5 A5 (5 + 4 * q) b2 h2 cap2 K (saveP K ss) ss) (by kernel_rfl) HF6.out (fun hHeld => ?_)
      refine wpAnyH_take (i := 0) (oi := ?oi101) (v := ?v101) ?hi101 (by kernel_rfl) (by kernel_rfl) (by kernel_rfl) ?hQ101 (Or.inl ⟨?hw101, ?hy101⟩) (by assumption) ?rest101
      case hi101 => simp only [List.getElem?_toArray, List.getElem?_cons_succ, List.getElem?_cons_zero]; rfl
      case hQ101 => exact fun _ _ _ h => h
      case hw101 => rfl
      case hy101 => (intro W hW; go_simp; all_goals rfl)
      simp only [Act.put, List.setIfInBounds_toArray, List.set_cons_zero, List.set_cons_succ]
      refine wpAnyH_take (i := 1) (oi := ?oi102) (v := ?v102) ?hi102 (by kernel_rfl) (by kernel_rfl) (by kernel_rfl) ?hQ102 (Or.inl ⟨?hw102, ?hy102⟩) (by assumption) ?rest102
      case hi102 => simp only [List.getElem?_toArray, List.getElem?_cons_succ, List.getElem?_cons_zero]; rfl
      case hQ102 => exact fun _ _ _ h => h
      case hw102 => rfl
      case hy102 => (intro W hW; go_simp; all_goals rfl)
      simp only [Act.put, List.setIfInBounds_toArray, List.set_cons_zero, List.set_cons_succ]
      refine wpAnyH_take (i := 2) (oi := ?oi103) (v := ?v103) ?hi103 (by kernel_rfl) (by kernel_rfl) (by kernel_rfl) ?hQ103 (Or.inl ⟨?hw103, ?hy103⟩) (by assumption) ?rest103
      case hi103 => simp only [List.getElem?_toArray, List.getElem?_cons_succ, List.getElem?_cons_zero]; rfl
      case hQ103 => exact fun _ _ _ h => h
      case hw103 => rfl
      case hy103 => (intro W hW; go_simp; all_goals rfl)
      simp only [Act.put, List.setIfInBounds_toArray, List.set_cons_zero, List.set_cons_succ]
      refine wpAnyH_take (i := 3) (oi := ?oi104) (v := ?v104) ?hi104 (by kernel_rfl) (by kernel_rfl) (by kernel_rfl) ?hQ104 (Or.inl ⟨?hw104, ?hy104⟩) (by assumption) ?rest104
      case hi104 => simp only [List.getElem?_toArray, List.getElem?_cons_succ, List.getElem?_cons_zero]; rfl
      case hQ104 => exact fun _ _ _ h => h
      case hw104 => rfl
      case hy104 => (intro W hW; go_simp; all_goals rfl)
      simp only [Act.put, List.setIfInBounds_toArray, List.set_cons_zero, List.set_cons_succ]
      refine wpAnyH_take (i := 4) (oi := ?oi105) (v := ?v105) ?hi105 (by kernel_rfl) (by kernel_rfl) (by kernel_rfl) ?hQ105 (Or.inl ⟨?hw105, ?hy105⟩) (by assumption) ?rest105
      case hi105 => simp only [List.getElem?_toArray, List.getElem?_cons_succ, List.getElem?_cons_zero]; rfl
      case hQ105 => exact fun _ _ _ h => h
      case hw105 => rfl
      case hy105 => (intro W hW; go_simp; all_goals rfl)
      simp only [Act.put, List.setIfInBounds_toArray, List.set_cons_zero, List.set_cons_succ]
      refine wpAnyH_take (i := 5) (oi := ?oi106) (v := ?v106) ?hi106 (by kernel_rfl) (by kernel_rfl) (by kernel_rfl) ?hQ106 (Or.inl ⟨?hw106, ?hy106⟩) (by assumption) ?rest106
      case hi106 => simp only [List.getElem?_toArray, List.getElem?_cons_succ, List.getElem?_cons_zero]; rfl
      case hQ106 => exact fun _ _ _ h => h
      case hw106 => rfl
      case hy106 => (intro W hW; go_simp; all_goals rfl)
      simp only [Act.put, List.setIfInBounds_toArray, List.set_cons_zero, List.set_cons_succ]
      refine wpAnyH_take (i := 6) (oi := ?oi107) (v := ?v107) ?hi107 (by kernel_rfl) (by kernel_rfl) (by kernel_rfl) ?hQ107 (Or.inl ⟨?hw107, ?hy107⟩) (by assumption) ?rest107
      case hi107 => simp only [List.getElem?_toArray, List.getElem?_cons_succ, List.getElem?_cons_zero]; rfl
      case hQ107 => exact fun _ _ _ h => h
      case hw107 => rfl
      case hy107 => (intro W hW; go_simp; all_goals rfl)
      simp only [Act.put, List.setIfInBounds_toArray, List.set_cons_zero, List.set_cons_succ]
      refine wpAnyH_take (i := 7) (oi := ?oi108) (v := ?v108) ?hi108 (by kernel_rfl) (by kernel_rfl) (by kernel_rfl) ?hQ108 (Or.inl ⟨?hw108, ?hy108⟩) (by assumption) ?rest108
      case hi108 => simp only [List.getElem?_toArray, List.getElem?_cons_succ, List.getElem?_cons_zero]; rfl
      case hQ108 => exact fun _ _ _ h => h
      case hw108 => rfl
      case hy108 => (intro W hW; go_simp; all_goals rfl)
      simp only [Act.put, List.setIfInBounds_toArray, List.set_cons_zero, List.set_cons_succ]
      refine wpAnyH_take (i := 10) (oi := ?oi109) (v := ?v109) ?hi109 (by kernel_rfl) (by kernel_rfl) (by kernel_rfl) ?hQ109 (Or.inl ⟨?hw109, ?hy109⟩) (by assumption) ?rest109
      case hi109 => simp only [List.getElem?_toArray, List.getElem?_cons_succ, List.getElem?_cons_zero]; rfl
      case hQ109 => exact fun _ _ _ h => h
      case hw109 => rfl
      case hy109 => (intro W hW; go_simp; all_goals rfl)
      simp only [Act.put, List.setIfInBounds_toArray, List.set_cons_zero, List.set_cons_succ]
      refine wpAnyH_take (i := 11) (oi := ?oi110) (v := ?v110) ?hi110 (by kernel_rfl) (by kernel_rfl) (by kernel_rfl) ?hQ110 (Or.inl ⟨?hw110, ?hy110⟩) (by assumption) ?rest110
      case hi110 => simp only [List.getElem?_toArray, List.getElem?_cons_succ, List.getElem?_cons_zero]; rfl
      case hQ110 => exact fun _ _ _ h => h
      case hw110 => rfl
      case hy110 => (intro W hW; go_simp; all_goals rfl)
      simp only [Act.put, List.setIfInBounds_toArray, List.set_cons_zero, List.set_cons_succ]
      refine wpAnyH_ready (rs := [8]) (by kernel_rfl) (by simp) ?_
      refine AllReadyH.cons (i := 8) (o := ?o111) ?ho111 (fun Kq hK => ?step111) AllReadyH.nil
      case ho111 => simp only [List.getElem?_toArray, List.getElem?_cons_succ, List.getElem?_cons_zero]; rfl
      go_simp
      (go_at_call 26; refine (HSV.out _ hHeld).mono ?_; rintro e w7 ⟨A7, c7, rfl, hr7, hb7⟩)
      have hF7 := FS.keep hb7 hHeld
      refine hK.out _ _ hF7 (fun _ => ?_)
      clear hK Kq
      try simp only [Act.put, List.setIfInBounds_toArray, List.set_cons_zero, List.set_cons_succ]
      refine held_more (T := fun W => FS w5 A5 (5 + 4 * q) b2 h2 cap2 K (saveP K ss) ss W ∧ (convert 45 9 (.slice A7 (5 + 4 * q) c7)).run Try.prog W = .ok (.string S) W) (fun W hW => hW.1) _ _ _ _ ?_
      have hHeld2 : FS w5 A5 (5 + 4 * q) b2 h2 cap2 K (saveP K ss) ss w7 ∧ (convert 45 9 (.slice A7 (5 + 4 * q) c7)).run Try.prog w7 = .ok (.string S) w7 := ⟨hF7, hr7⟩
      refine wpAnyH_take (i := 9) (oi := ?oi112) (v := ?v112) ?hi112 (by kernel_rfl) (by kernel_rfl) (by kernel_rfl) ?hQ112 (Or.inl ⟨?hw112, ?hy112⟩) (by assumption) ?rest112
      case hi112 => simp only [List.getElem?_toArray, List.getElem?_cons_succ, List.getElem?_cons_zero]; rfl
      case hQ112 => exact fun _ _ _ h => h
      case hw112 => rfl
      case hy112 => (rintro W ⟨hW, hW2⟩; go_simp; all_goals rfl)
      simp only [Act.put, List.setIfInBounds_toArray, List.set_cons_zero, List.set_cons_succ]
      refine wpAnyH_take (i := 12) (oi := ?oi113) (v := ?v113) ?hi113 (by kernel_rfl) (by kernel_rfl) (by kernel_rfl) ?hQ113 (Or.inl ⟨?hw113, ?hy113⟩) (by assumption) ?rest113
      case hi113 => simp only [List.getElem?_toArray, List.getElem?_cons_succ, List.getElem?_cons_zero]; rfl
      case hQ113 => exact fun _ _ _ h => h
      case hw113 => rfl
      case hy113 => (rintro W ⟨hW, hW2⟩; go_simp; all_goals rfl)
      simp only [Act.put, List.setIfInBounds_toArray, List.set_cons_zero, List.set_cons_succ]
      refine wpAnyH_take (i := 13) (oi := ?oi114) (v := ?v114) ?hi114 (by kernel_rfl) (by kernel_rfl) (by kernel_rfl) ?hQ114 (Or.inl ⟨?hw114, ?hy114⟩) (by assumption) ?rest114
      case hi114 => simp only [List.getElem?_toArray, List.getElem?_cons_succ, List.getElem?_cons_zero]; rfl
      case hQ114 => exact fun _ _ _ h => h
      case hw114 => rfl
      case hy114 => (rintro W ⟨hW, hW2⟩; go_simp; all_goals rfl)
      simp only [Act.put, List.setIfInBounds_toArray, List.set_cons_zero, List.set_cons_succ]
      refine wpAnyH_take (i := 14) (oi := ?oi115) (v := ?v115) ?hi115 (by kernel_rfl) (by kernel_rfl) (by kernel_rfl) ?hQ115 (Or.inl ⟨?hw115, ?hy115⟩) (by assumption) ?rest115
      case hi115 => simp only [List.getElem?_toArray, List.getElem?_cons_succ, List.getElem?_cons_zero]; rfl
      case hQ115 => exact fun _ _ _ h => h
      case hw115 => rfl
      case hy115 => (rintro W ⟨hW, hW2⟩; go_simp; all_goals rfl)
      simp only [Act.put, List.setIfInBounds_toArray, List.set_cons_zero, List.set_cons_succ]
      refine wpAnyH_take (i := 15) (oi := ?oi116) (v := ?v116) ?hi116 (by kernel_rfl) (by kernel_rfl) (by kernel_rfl) ?hQ116 (Or.inl ⟨?hw116, ?hy116⟩) (by assumption) ?rest116
      case hi116 => simp only [List.getElem?_toArray, List.getElem?_cons_succ, List.getElem?_cons_zero]; rfl
      case hQ116 => exact fun _ _ _ h => h
      case hw116 => rfl
      case hy116 => (rintro W ⟨hW, hW2⟩; go_simp; all_goals rfl)
      simp only [Act.put, List.setIfInBounds_toArray, List.set_cons_zero, List.set_cons_succ]
      refine wpAnyH_take (i := 16) (oi := ?oi117) (v := ?v117) ?hi117 (by kernel_rfl) (by kernel_rfl) (by kernel_rfl) ?hQ117 (Or.inl ⟨?hw117, ?hy117⟩) (by assumption) ?rest117
      case hi117 => simp only [List.getElem?_toArray, List.getElem?_cons_succ, List.getElem?_cons_zero]; rfl
      case hQ117 => exact fun _ _ _ h => h
      case hw117 => rfl
      case hy117 => (rintro W ⟨hW, hW2⟩; go_simp; all_goals rfl)
      simp only [Act.put, List.setIfInBounds_toArray, List.set_cons_zero, List.set_cons_succ]
      refine wpAnyH_take (i := 17) (oi := ?oi118) (v := ?v118) ?hi118 (by kernel_rfl) (by kernel_rfl) (by kernel_rfl) ?hQ118 (Or.inl ⟨?hw118, ?hy118⟩) (by assumption) ?rest118
      case hi118 => simp only [List.getElem?_toArray, List.getElem?_cons_succ, List.getElem?_cons_zero]; rfl
      case hQ118 => exact fun _ _ _ h => h
      case hw118 => rfl
      case hy118 => (rintro W ⟨hW, hW2⟩; go_simp; all_goals rfl)
      simp only [Act.put, List.setIfInBounds_toArray, List.set_cons_zero, List.set_cons_succ]
      refine wpAnyH_take (i := 18) (oi := ?oi119) (v := ?v119) ?hi119 (by kernel_rfl) (by kernel_rfl) (by kernel_rfl) ?hQ119 (Or.inl ⟨?hw119, ?hy119⟩) (by assumption) ?rest119
      case hi119 => simp only [List.getElem?_toArray, List.getElem?_cons_succ, List.getElem?_cons_zero]; rfl
      case hQ119 => exact fun _ _ _ h => h
      case hw119 => rfl
      case hy119 => (rintro W ⟨hW, hW2⟩; go_simp; all_goals rfl)
      simp only [Act.put, List.setIfInBounds_toArray, List.set_cons_zero, List.set_cons_succ]
      refine wpAnyH_take (i := 19) (oi := ?oi120) (v := ?v120) ?hi120 (by kernel_rfl) (by kernel_rfl) (by kernel_rfl) ?hQ120 (Or.inl ⟨?hw120, ?hy120⟩) (by assumption) ?rest120
      case hi120 => simp only [List.getElem?_toArray, List.getElem?_cons_succ, List.getElem?_cons_zero]; rfl
      case hQ120 => exact fun _ _ _ h => h
      case hw120 => rfl
      case hy120 => (rintro W ⟨hW, hW2⟩; go_simp; all_goals rfl)
      simp only [Act.put, List.setIfInBounds_toArray, List.set_cons_zero, List.set_cons_succ]
      refine wpAnyH_take (i := 20) (oi := ?oi121) (v := ?v121) ?hi121 (by kernel_rfl) (by kernel_rfl) (by kernel_rfl) ?hQ121 (Or.inl ⟨?hw121, ?hy121⟩) (by assumption) ?rest121
      case hi121 => simp only [List.getElem?_toArray, List.getElem?_cons_succ, List.getElem?_cons_zero]; rfl
      case hQ121 => exact fun _ _ _ h => h
      case hw121 => rfl
      case hy121 => (rintro W ⟨hW, hW2⟩; go_simp; all_goals rfl)
      simp only [Act.put, List.setIfInBounds_toArray, List.set_cons_zero, List.set_cons_succ]
      refine wpAnyH_take (i := 21) (oi := ?oi122) (v := ?v122) ?hi122 (by kernel_rfl) (by kernel_rfl) (by kernel_rfl) ?hQ122 (Or.inl ⟨?hw122, ?hy122⟩) (by assumption) ?rest122
      case hi122 => simp only [List.getElem?_toArray, List.getElem?_cons_succ, List.getElem?_cons_zero]; rfl
      case hQ122 => exact fun _ _ _ h => h
      case hw122 => rfl
      case hy122 => (rintro W ⟨hW, hW2⟩; go_simp; all_goals rfl)
      simp only [Act.put, List.setIfInBounds_toArray, List.set_cons_zero, List.set_cons_succ]
      refine wpAnyH_done (by kernel_rfl) ?_ _
      have H7 : Hd (Brd w7 w5.heap.size b2 h2 cap2 K ss ∧ Brd w7 w.heap.size b h cap K ss ∧ Below w.heap.size w w7) := ⟨hF7.2, H6.out.2.1.keep ((Below.refl _ w6).drew.trans hb7), H6.out.2.2.1.drew.trans (hb7.mono H6.out.2.2.1.size)⟩
      clear hHeld hHeld2 hr7 hb7 hF7 g1 hw1 hw2
      obtain ⟨gT, oT, rfl, _, c0, c1', c2, c3, _, j2⟩ := (HT.out.below H7.out.2.2) k hkm
      obtain ⟨P, hP⟩ : ∃ P, (T k).2.2.1 = P := ⟨_, rfl⟩
      obtain ⟨G, hG⟩ : ∃ G, (T k).2.2.2 = G := ⟨_, rfl⟩
      rw [hP] at c2 j2
      rw [hG] at c3
      have HG := Hd.mk hG
      have ha := pickP_lt P q hq1
      have HJ := Hd.mk j2
      clear c0 c1' hP hG j2
      go_wp2_with fail
      refine (pick_any w7 P q hq1 (by omega) HJ.out.1 HJ.out.2).mono ?_
      rintro e w7' ⟨rfl, hw7⟩
      rw [← hw7]
      clear hw7
      obtain ⟨a, haa⟩ : ∃ a, pickP P q = a := ⟨_, rfl⟩
      rw [haa] at ha ⊢
      clear haa
      go_wp2_with fail
      have H4a := Hd.mk (tell_in w7.drew w.heap.size b h cap K ss (H7.out.2.1.drew 1) H4.out.2.1 a (by rw [H4.out.1]; exact ha) G)
      refine wp_region_held_drew (S := fun _ => True) (by kernel_rfl) trivial (fun hHeld => ?_)
      refine wpAnyH_take (i := 0) (oi := ?oi201) (v := ?v201) ?hi201 (by kernel_rfl) (by kernel_rfl) (by kernel_rfl) ?hQ201 (Or.inl ⟨?hw201, ?hy201⟩) (by assumption) ?rest201
      case hi201 => simp only [List.getElem?_toArray, List.getElem?_cons_succ, List.getElem?_cons_zero]; rfl
      case hQ201 => exact fun _ _ _ h => h
      case hw201 => rfl
      case hy201 => (intro W hW; go_simp; all_goals rfl)
      simp only [Act.put, List.setIfInBounds_toArray, List.set_cons_zero, List.set_cons_succ]
      refine wpAnyH_take (i := 1) (oi := ?oi202) (v := ?v202) ?hi202 (by kernel_rfl) (by kernel_rfl) (by kernel_rfl) ?hQ202 (Or.inl ⟨?hw202, ?hy202⟩) (by assumption) ?rest202
      case hi202 => simp only [List.getElem?_toArray, List.getElem?_cons_succ, List.getElem?_cons_zero]; rfl
      case hQ202 => exact fun _ _ _ h => h
      case hw202 => rfl
      case hy202 => (intro W hW; go_simp; all_goals rfl)
      simp only [Act.put, List.setIfInBounds_toArray, List.set_cons_zero, List.set_cons_succ]
      refine wpAnyH_take (i := 2) (oi := ?oi203) (v := ?v203) ?hi203 (by kernel_rfl) (by kernel_rfl) (by kernel_rfl) ?hQ203 (Or.inl ⟨?hw203, ?hy203⟩) (by assumption) ?rest203
      case hi203 => simp only [List.getElem?_toArray, List.getElem?_cons_succ, List.getElem?_cons_zero]; rfl
      case hQ203 => exact fun _ _ _ h => h
      case hw203 => rfl
      case hy203 => (intro W hW; go_simp; all_goals rfl)
      simp only [Act.put, List.setIfInBounds_toArray, List.set_cons_zero, List.set_cons_succ]
      refine wpAnyH_take (i := 3) (oi := ?oi204) (v := ?v204) ?hi204 (by kernel_rfl) (by kernel_rfl) (by kernel_rfl) ?hQ204 (Or.inl ⟨?hw204, ?hy204⟩) (by assumption) ?rest204
      case hi204 => simp only [List.getElem?_toArray, List.getElem?_cons_succ, List.getElem?_cons_zero]; rfl
      case hQ204 => exact fun _ _ _ h => h
      case hw204 => rfl
      case hy204 => (intro W hW; go_simp; all_goals rfl)
      simp only [Act.put, List.setIfInBounds_toArray, List.set_cons_zero, List.set_cons_succ]
      refine wpAnyH_take (i := 4) (oi := ?oi205) (v := ?v205) ?hi205 (by kernel_rfl) (by kernel_rfl) (by kernel_rfl) ?hQ205 (Or.inl ⟨?hw205, ?hy205⟩) (by assumption) ?rest205
      case hi205 => simp only [List.getElem?_toArray, List.getElem?_cons_succ, List.getElem?_cons_zero]; rfl
      case hQ205 => exact fun _ _ _ h => h
      case hw205 => rfl
      case hy205 => (intro W hW; go_simp; all_goals rfl)
      simp only [Act.put, List.setIfInBounds_toArray, List.set_cons_zero, List.set_cons_succ]
      refine wpAnyH_take (i := 5) (oi := ?oi206) (v := ?v206) ?hi206 (by kernel_rfl) (by kernel_rfl) (by kernel_rfl) ?hQ206 (Or.inl ⟨?hw206, ?hy206⟩) (by assumption) ?rest206
      case hi206 => simp only [List.getElem?_toArray, List.getElem?_cons_succ, List.getElem?_cons_zero]; rfl
      case hQ206 => exact fun _ _ _ h => h
      case hw206 => rfl
      case hy206 => (intro W hW; go_simp; all_goals rfl)
      simp only [Act.put, List.setIfInBounds_toArray, List.set_cons_zero, List.set_cons_succ]
      refine wpAnyH_ready (rs := [6]) (by kernel_rfl) (by simp) ?_
      refine AllReadyH.cons (i := 6) (o := ?o207) ?ho207 (fun Kq hK => ?step207) AllReadyH.nil
      case ho207 => simp only [List.getElem?_toArray, List.getElem?_cons_succ, List.getElem?_cons_zero]; rfl
      go_simp
      skip
      refine hK.out _ _ trivial (fun _ => ?_)
      clear hK Kq
      try simp only [Act.put, List.setIfInBounds_toArray, List.set_cons_zero, List.set_cons_succ]
      refine wpAnyH_ready (rs := [7]) (by kernel_rfl) (by simp) ?_
      refine AllReadyH.cons (i := 7) (o := ?o208) ?ho208 (fun Kq hK => ?step208) AllReadyH.nil
      case ho208 => simp only [List.getElem?_toArray, List.getElem?_cons_succ, List.getElem?_cons_zero]; rfl
      go_simp
      (go_at_call 25; refine H4a.out.mono ?_; rintro e w8 ⟨rfl, hB8, hg8⟩)
      refine hK.out _ _ trivial (fun _ => ?_)
      clear hK Kq
      try simp only [Act.put, List.setIfInBounds_toArray, List.set_cons_zero, List.set_cons_succ]
      obtain ⟨s2, hs2⟩ : ∃ s2, ss.set a (tellT K (ss.getD a 0) G) = s2 := ⟨_, rfl⟩
      have L2 : Law K s2 := by rw [← hs2]; exact law_set H4.out.2.1 a _ (tellT_one (Nat.le_of_lt H4.out.2.1.k1) (law_get H4.out.2.1 a) G)
      have l2 : s2.length = q := by rw [← hs2, List.length_set]; exact H4.out.1
      have hc8 := H7.out.1.lt
      have hB8c : Brd w8 w5.heap.size b2 h2 cap2 K ss := (H7.out.1.drew 1).other hg8 (by have := H6.out.2.2.2.2; have := H7.out.1.hB; omega) (by have := H6.out.2.2.2.2; omega)
      have hw8 : Below w.heap.size w w8 := H7.out.2.2.drew.grown hg8 H7.out.2.2.size (fun k hk => by cases hk; exact H7.out.2.1.lt.2.2)
      rw [hs2] at hB8
      have H8 : Hd (Brd w8 w.heap.size b h cap K s2 ∧ Brd w8 w5.heap.size b2 h2 cap2 K ss ∧ Below w.heap.size w w8 ∧ Law K s2 ∧ s2.length = q ∧ ss.set a (tellT K (ss.getD a 0) G) = s2) := ⟨hB8, hB8c, hw8, L2, l2, hs2⟩
      clear hB8 hB8c hg8 hw8 L2 l2 hs2 hc8 c2 c3 H4a
      obtain ⟨gT', oT', hA', _, _, _, _, c3, _, _⟩ := (HT.out.below H8.out.2.2.1) k hkm
      cases hA'
      rw [HG.out] at c3
      have H4b := Hd.mk (tell_in w8 w5.heap.size b2 h2 cap2 K ss H8.out.2.1 H4.out.2.1 a (by rw [H4.out.1]; exact ha) G)
      skip
      refine wpAnyH_take (i := 8) (oi := ?oi301) (v := ?v301) ?hi301 (by kernel_rfl) (by kernel_rfl) (by kernel_rfl) ?hQ301 (Or.inl ⟨?hw301, ?hy301⟩) (by assumption) ?rest301
      case hi301 => simp only [List.getElem?_toArray, List.getElem?_cons_succ, List.getElem?_cons_zero]; rfl
      case hQ301 => exact fun _ _ _ h => h
      case hw301 => rfl
      case hy301 => (intro W hW; go_simp; all_goals rfl)
      simp only [Act.put, List.setIfInBounds_toArray, List.set_cons_zero, List.set_cons_succ]
      refine wpAnyH_take (i := 9) (oi := ?oi302) (v := ?v302) ?hi302 (by kernel_rfl) (by kernel_rfl) (by kernel_rfl) ?hQ302 (Or.inl ⟨?hw302, ?hy302⟩) (by assumption) ?rest302
      case hi302 => simp only [List.getElem?_toArray, List.getElem?_cons_succ, List.getElem?_cons_zero]; rfl
      case hQ302 => exact fun _ _ _ h => h
      case hw302 => rfl
      case hy302 => (intro W hW; go_simp; all_goals rfl)
      simp only [Act.put, List.setIfInBounds_toArray, List.set_cons_zero, List.set_cons_succ]
      refine wpAnyH_take (i := 10) (oi := ?oi303) (v := ?v303) ?hi303 (by kernel_rfl) (by kernel_rfl) (by kernel_rfl) ?hQ303 (Or.inl ⟨?hw303, ?hy303⟩) (by assumption) ?rest303
      case hi303 => simp only [List.getElem?_toArray, List.getElem?_cons_succ, List.getElem?_cons_zero]; rfl
      case hQ303 => exact fun _ _ _ h => h
      case hw303 => rfl
      case hy303 => (intro W hW; go_simp; all_goals rfl)
      simp only [Act.put, List.setIfInBounds_toArray, List.set_cons_zero, List.set_cons_succ]
      refine wpAnyH_take (i := 11) (oi := ?oi304) (v := ?v304) ?hi304 (by kernel_rfl) (by kernel_rfl) (by kernel_rfl) ?hQ304 (Or.inl ⟨?hw304, ?hy304⟩) (by assumption) ?rest304
      case hi304 => simp only [List.getElem?_toArray, List.getElem?_cons_succ, List.getElem?_cons_zero]; rfl
      case hQ304 => exact fun _ _ _ h => h
      case hw304 => rfl
      case hy304 => (intro W hW; go_simp; all_goals rfl)
      simp only [Act.put, List.setIfInBounds_toArray, List.set_cons_zero, List.set_cons_succ]
      refine wpAnyH_take (i := 12) (oi := ?oi305) (v := ?v305) ?hi305 (by kernel_rfl) (by kernel_rfl) (by kernel_rfl) ?hQ305 (Or.inl ⟨?hw305, ?hy305⟩) (by assumption) ?rest305
      case hi305 => simp only [List.getElem?_toArray, List.getElem?_cons_succ, List.getElem?_cons_zero]; rfl
      case hQ305 => exact fun _ _ _ h => h
      case hw305 => rfl
      case hy305 => (intro W hW; go_simp; all_goals rfl)
      simp only [Act.put, List.setIfInBounds_toArray, List.set_cons_zero, List.set_cons_succ]
      refine wpAnyH_take (i := 13) (oi := ?oi306) (v := ?v306) ?hi306 (by kernel_rfl) (by kernel_rfl) (by kernel_rfl) ?hQ306 (Or.inl ⟨?hw306, ?hy306⟩) (by assumption) ?rest306
      case hi306 => simp only [List.getElem?_toArray, List.getElem?_cons_succ, List.getElem?_cons_zero]; rfl
      case hQ306 => exact fun _ _ _ h => h
      case hw306 => rfl
      case hy306 => (intro W hW; go_simp; all_goals rfl)
      simp only [Act.put, List.setIfInBounds_toArray, List.set_cons_zero, List.set_cons_succ]
      refine wpAnyH_take (i := 14) (oi := ?oi307) (v := ?v307) ?hi307 (by kernel_rfl) (by kernel_rfl) (by kernel_rfl) ?hQ307 (Or.inl ⟨?hw307, ?hy307⟩) (by assumption) ?rest307
      case hi307 => simp only [List.getElem?_toArray, List.getElem?_cons_succ, List.getElem?_cons_zero]; rfl
      case hQ307 => exact fun _ _ _ h => h
      case hw307 => rfl
      case hy307 => (intro W hW; go_simp; all_goals rfl)
      simp only [Act.put, List.setIfInBounds_toArray, List.set_cons_zero, List.set_cons_succ]
      refine wpAnyH_take (i := 15) (oi := ?oi308) (v := ?v308) ?hi308 (by kernel_rfl) (by kernel_rfl) (by kernel_rfl) ?hQ308 (Or.inl ⟨?hw308, ?hy308⟩) (by assumption) ?rest308
      case hi308 => simp only [List.getElem?_toArray, List.getElem?_cons_succ, List.getElem?_cons_zero]; rfl
      case hQ308 => exact fun _ _ _ h => h
      case hw308 => rfl
      case hy308 => (intro W hW; go_simp; all_goals rfl)
      simp only [Act.put, List.setIfInBounds_toArray, List.set_cons_zero, List.set_cons_succ]
      refine wpAnyH_ready (rs := [16]) (by kernel_rfl) (by simp) ?_
      refine AllReadyH.cons (i := 16) (o := ?o309) ?ho309 (fun Kq hK => ?step309) AllReadyH.nil
      case ho309 => simp only [List.getElem?_toArray, List.getElem?_cons_succ, List.getElem?_cons_zero]; rfl
      go_simp
      skip
      refine hK.out _ _ trivial (fun _ => ?_)
      clear hK Kq
      try simp only [Act.put, List.setIfInBounds_toArray, List.set_cons_zero, List.set_cons_succ]
      refine wpAnyH_ready (rs := [17]) (by kernel_rfl) (by simp) ?_
      refine AllReadyH.cons (i := 17) (o := ?o310) ?ho310 (fun Kq hK => ?step310) AllReadyH.nil
      case ho310 => simp only [List.getElem?_toArray, List.getElem?_cons_succ, List.getElem?_cons_zero]; rfl
      go_simp
      (go_at_call 25; refine H4b.out.mono ?_; rintro e w9 ⟨rfl, hB9, hg9⟩)
      refine hK.out _ _ trivial (fun _ => ?_)
      clear hK Kq
      try simp only [Act.put, List.setIfInBounds_toArray, List.set_cons_zero, List.set_cons_succ]
      have hB9b : Brd w9 w.heap.size b h cap K s2 := H8.out.1.other hg9 (by have := H6.out.2.2.2.1; have := H8.out.2.1.lt; omega) (by have := H6.out.2.2.2.2; have := H8.out.2.1.lt; omega)
      have hw9 : Below w.heap.size w w9 := H8.out.2.2.1.grown hg9 H8.out.2.2.1.size (fun k hk => by cases hk; have := H8.out.2.1.lt.2.2; have := H5.out.2.1.size; omega)
      rw [H8.out.2.2.2.2.2] at hB9
      have H9 : Hd (Brd w9 w.heap.size b h cap K s2 ∧ Brd w9 w5.heap.size b2 h2 cap2 K s2 ∧ Below w.heap.size w w9) := ⟨hB9b, hB9, hw9⟩
      clear hB9 hB9b hg9 hw9 c3 H4b
      obtain ⟨S2, hS2⟩ : ∃ S2, bstr (saveP K s2) = S2 := ⟨_, rfl⟩
      have HS2 := Hd.mk hS2
      have l2 := H8.out.2.2.2.2.1
      have hsv := save_str w9 w.heap.size b h cap K s2 H9.out.1 H8.out.2.2.2.1 (by omega) S2 hS2
      rw [l2] at hsv
      have HSA := Hd.mk hsv
      clear hsv
      refine wpAnyH_take (i := 18) (oi := ?oi401) (v := ?v401) ?hi401 (by kernel_rfl) (by kernel_rfl) (by kernel_rfl) ?hQ401 (Or.inl ⟨?hw401, ?hy401⟩) (by assumption) ?rest401
      case hi401 => simp only [List.getElem?_toArray, List.getElem?_cons_succ, List.getElem?_cons_zero]; rfl
      case hQ401 => exact fun _ _ _ h => h
      case hw401 => rfl
      case hy401 => (intro W hW; go_simp; all_goals rfl)
      simp only [Act.put, List.setIfInBounds_toArray, List.set_cons_zero, List.set_cons_succ]
      refine wpAnyH_take (i := 19) (oi := ?oi402) (v := ?v402) ?hi402 (by kernel_rfl) (by kernel_rfl) (by kernel_rfl) ?hQ402 (Or.inl ⟨?hw402, ?hy402⟩) (by assumption) ?rest402
      case hi402 => simp only [List.getElem?_toArray, List.getElem?_cons_succ, List.getElem?_cons_zero]; rfl
      case hQ402 => exact fun _ _ _ h => h
      case hw402 => rfl
      case hy402 => (intro W hW; go_simp; all_goals rfl)
      simp only [Act.put, List.setIfInBounds_toArray, List.set_cons_zero, List.set_cons_succ]
      refine wpAnyH_take (i := 20) (oi := ?oi403) (v := ?v403) ?hi403 (by kernel_rfl) (by kernel_rfl) (by kernel_rfl) ?hQ403 (Or.inl ⟨?hw403, ?hy403⟩) (by assumption) ?rest403
      case hi403 => simp only [List.getElem?_toArray, List.getElem?_cons_succ, List.getElem?_cons_zero]; rfl
      case hQ403 => exact fun _ _ _ h => h
      case hw403 => rfl
      case hy403 => (intro W hW; go_simp; all_goals rfl)
      simp only [Act.put, List.setIfInBounds_toArray, List.set_cons_zero, List.set_cons_succ]
      refine wpAnyH_take (i := 21) (oi := ?oi404) (v := ?v404) ?hi404 (by kernel_rfl) (by kernel_rfl) (by kernel_rfl) ?hQ404 (Or.inl ⟨?hw404, ?hy404⟩) (by assumption) ?rest404
      case hi404 => simp only [List.getElem?_toArray, List.getElem?_cons_succ, List.getElem?_cons_zero]; rfl
      case hQ404 => exact fun _ _ _ h => h
      case hw404 => rfl
      case hy404 => (intro W hW; go_simp; all_goals rfl)
      simp only [Act.put, List.setIfInBounds_toArray, List.set_cons_zero, List.set_cons_succ]
      refine wpAnyH_take (i := 24) (oi := ?oi405) (v := ?v405) ?hi405 (by kernel_rfl) (by kernel_rfl) (by kernel_rfl) ?hQ405 (Or.inl ⟨?hw405, ?hy405⟩) (by assumption) ?rest405
      case hi405 => simp only [List.getElem?_toArray, List.getElem?_cons_succ, List.getElem?_cons_zero]; rfl
      case hQ405 => exact fun _ _ _ h => h
      case hw405 => rfl
      case hy405 => (intro W hW; go_simp; all_goals rfl)
      simp only [Act.put, List.setIfInBounds_toArray, List.set_cons_zero, List.set_cons_succ]
      refine wpAnyH_ready (rs := [22]) (by kernel_rfl) (by simp) ?_
      refine AllReadyH.cons (i := 22) (o := ?o406) ?ho406 (fun Kq hK => ?step406) AllReadyH.nil
      case ho406 => simp only [List.getElem?_toArray, List.getElem?_cons_succ, List.getElem?_cons_zero]; rfl
      go_simp
      (go_at_call 26; refine HSA.out.mono ?_; rintro e w10 ⟨A10, c10, rfl, hcv10, hb10, hr10, hc10⟩)
      refine hK.out _ _ trivial (fun _ => ?_)
      clear hK Kq
      try simp only [Act.put, List.setIfInBounds_toArray, List.set_cons_zero, List.set_cons_succ]
      have H10 : Hd (Brd w10 w.heap.size b h cap K s2 ∧ Below w.heap.size w w10) := ⟨H9.out.1.keep hb10, H9.out.2.2.trans (hb10.mono H9.out.2.2.size)⟩
      refine held_more (T := fun W => (Rd W w10.heap.size A10 (5 + 4 * q) (cb (saveP K s2)) ∧ w10.heap.size ≤ W.heap.size) ∧ Brd W w5.heap.size b2 h2 cap2 K s2) (fun W hW => trivial) _ _ _ _ ?_
      have hHeld2 : (Rd w10 w10.heap.size A10 (5 + 4 * q) (cb (saveP K s2)) ∧ w10.heap.size ≤ w10.heap.size) ∧ Brd w10 w5.heap.size b2 h2 cap2 K s2 := ⟨⟨hr10, Nat.le_refl _⟩, H9.out.2.1.keep hb10⟩
      have hsv := save_str w10 w5.heap.size b2 h2 cap2 K s2 hHeld2.2 H8.out.2.2.2.1 (by omega) S2 hS2
      rw [l2] at hsv
      have HSC := Hd.mk hsv
      clear hsv hcv10 hb10 hr10 l2 hS2
      refine wpAnyH_take (i := 23) (oi := ?oi501) (v := ?v501) ?hi501 (by kernel_rfl) (by kernel_rfl) (by kernel_rfl) ?hQ501 (Or.inl ⟨?hw501, ?hy501⟩) (by assumption) ?rest501
      case hi501 => simp only [List.getElem?_toArray, List.getElem?_cons_succ, List.getElem?_cons_zero]; rfl
      case hQ501 => exact fun _ _ _ h => h
      case hw501 => rfl
      case hy501 => (rintro W ⟨⟨hW, _⟩, _⟩; have hW2 := conv_bytes (c := c10) hW; rw [HS2.out] at hW2; go_simp; all_goals rfl)
      simp only [Act.put, List.setIfInBounds_toArray, List.set_cons_zero, List.set_cons_succ]
      refine wpAnyH_ready (rs := [25]) (by kernel_rfl) (by simp) ?_
      refine AllReadyH.cons (i := 25) (o := ?o502) ?ho502 (fun Kq hK => ?step502) AllReadyH.nil
      case ho502 => simp only [List.getElem?_toArray, List.getElem?_cons_succ, List.getElem?_cons_zero]; rfl
      go_simp
      (go_at_call 26; refine HSC.out.mono ?_; rintro e w11 ⟨A11, c11, rfl, hcv11, hb11, _, _⟩)
      have hHeld3 : (Rd w11 w10.heap.size A10 (5 + 4 * q) (cb (saveP K s2)) ∧ w10.heap.size ≤ w11.heap.size) ∧ Brd w11 w5.heap.size b2 h2 cap2 K s2 := ⟨⟨hHeld2.1.1.below hb11, hb11.size⟩, hHeld2.2.keep hb11⟩
      refine hK.out _ _ hHeld3 (fun _ => ?_)
      clear hK Kq hHeld2
      try simp only [Act.put, List.setIfInBounds_toArray, List.set_cons_zero, List.set_cons_succ]
      refine held_more (T := fun W => ((Rd W w10.heap.size A10 (5 + 4 * q) (cb (saveP K s2)) ∧ w10.heap.size ≤ W.heap.size) ∧ Brd W w5.heap.size b2 h2 cap2 K s2) ∧ (convert 45 9 (.slice A11 (5 + 4 * q) c11)).run Try.prog W = .ok (.string S2) W) (fun W hW => hW.1) _ _ _ _ ?_
      have hHeld4 : ((Rd w11 w10.heap.size A10 (5 + 4 * q) (cb (saveP K s2)) ∧ w10.heap.size ≤ w11.heap.size) ∧ Brd w11 w5.heap.size b2 h2 cap2 K s2) ∧ (convert 45 9 (.slice A11 (5 + 4 * q) c11)).run Try.prog w11 = .ok (.string S2) w11 := ⟨hHeld3, hcv11⟩
      refine wpAnyH_take (i := 26) (oi := ?oi503) (v := ?v503) ?hi503 (by kernel_rfl) (by kernel_rfl) (by kernel_rfl) ?hQ503 (Or.inl ⟨?hw503, ?hy503⟩) (by assumption) ?rest503
      case hi503 => simp only [List.getElem?_toArray, List.getElem?_cons_succ, List.getElem?_cons_zero]; rfl
      case hQ503 => exact fun _ _ _ h => h
      case hw503 => rfl
      case hy503 => (rintro W ⟨hW, hW2⟩; go_simp; all_goals rfl)
      simp only [Act.put, List.setIfInBounds_toArray, List.set_cons_zero, List.set_cons_succ]
      refine wpAnyH_take (i := 27) (oi := ?oi504) (v := ?v504) ?hi504 (by kernel_rfl) (by kernel_rfl) (by kernel_rfl) ?hQ504 (Or.inl ⟨?hw504, ?hy504⟩) (by assumption) ?rest504
      case hi504 => simp only [List.getElem?_toArray, List.getElem?_cons_succ, List.getElem?_cons_zero]; rfl
      case hQ504 => exact fun _ _ _ h => h
      case hw504 => rfl
      case hy504 => (rintro W ⟨hW, hW2⟩; go_simp; all_goals rfl)
      simp only [Act.put, List.setIfInBounds_toArray, List.set_cons_zero, List.set_cons_succ]
      refine wpAnyH_take (i := 28) (oi := ?oi505) (v := ?v505) ?hi505 (by kernel_rfl) (by kernel_rfl) (by kernel_rfl) ?hQ505 (Or.inl ⟨?hw505, ?hy505⟩) (by assumption) ?rest505
      case hi505 => simp only [List.getElem?_toArray, List.getElem?_cons_succ, List.getElem?_cons_zero]; rfl
      case hQ505 => exact fun _ _ _ h => h
      case hw505 => rfl
      case hy505 => (rintro W ⟨hW, hW2⟩; go_simp; all_goals rfl)
      simp only [Act.put, List.setIfInBounds_toArray, List.set_cons_zero, List.set_cons_succ]
      refine wpAnyH_done (by kernel_rfl) ?_ _
      have H11 : Hd (Brd w11 w.heap.size b h cap K s2 ∧ Brd w11 w.heap.size b2 h2 cap2 K s2 ∧ Below w.heap.size w w11) := ⟨H10.out.1.keep hb11, hHeld3.2.lower (by have := H5.out.2.1.size; omega), H10.out.2.trans (hb11.mono H10.out.2.size)⟩
      clear hHeld3 hHeld4 hcv11 hb11
      obtain ⟨gT', oT', hA', _, c0, _, _, _, _, _⟩ := (HT.out.below H11.out.2.2) k hkm
      cases hA'
      rcases hT0 : (T k).1 with _ | _
      · rw [hT0] at c0
        go_wp2_with fail
        go_roundw
        case rel => exact ⟨k + 1, b, h, cap, K, s2, by omega, by go_num, rfl, H8.out.2.2.2.2.1, H8.out.2.2.2.1, H11.out.1, H11.out.2.2⟩
        case measure => simp [intOf]; omega
      · rw [hT0] at c0
        go_wp2_with fail
        go_roundw
        case rel => exact ⟨k + 1, b2, h2, cap2, K, s2, by omega, by go_num, rfl, H8.out.2.2.2.2.1, H8.out.2.2.2.1, H11.out.2.1, H11.out.2.2⟩
        case measure => simp [intOf]; omega
    · go_wp2_with fail
      go_ret
      exact ⟨rfl, H4.out.2.2.2⟩
theorem back_walk (n : Int) (x : Nat) (A : Option Addr) (m c : Nat) (T : Nat → Bool × Int × Int × Bool) (w : World) (hn : (Lit.int .i64 n).wf = true) (hx : (Lit.float .f64 x).wf = true) (hT : Tolds w A m T) (hm : m * 32 ≤ 140737488351232) :
    Calls Try.prog 14 #[.int .i64 n, .float .f64 x, .slice A m c] w fun e w' => e = .returned (.bool true) ∧ Below w.heap.size w w' := back_walk0 n x A m c T w hT hm
end Go.Proofs.Ytknpcbekaodlkaa
