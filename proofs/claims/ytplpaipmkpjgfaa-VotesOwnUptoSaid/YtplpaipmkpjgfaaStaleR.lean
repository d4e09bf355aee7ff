/- Contract of the reference's Stale. -/
import Derived.Test.YtplpaipmkpjgfaaStaleA
namespace Go.Proofs.Ytplpaipmkpjgfaa
open Go.RowKit
set_option linter.unusedVariables false
set_option linter.unusedSimpArgs false
set_option maxRecDepth 20000 in
set_option maxHeartbeats 40000000 in
theorem refstale_any (w : World) (Q n c : Nat) (A : Option Addr) (S : Nat → Sn) (hv : View w Q A n S) (hQ : Q ≤ w.heap.size) (hn : n * 120 ≤ 140737488351232) (vk ep ct sz : Int) (P : Value) :
    Calls Try.prog 10 #[.slice A n c, .agg #[.int .i64 vk, .int .i64 ep, .int .i64 ct, .int .i64 sz, P]] w fun e w' => ∃ A' c', e = .returned (.slice A' (staleP S vk ep ct sz n).length c') ∧ Below w.heap.size w w' ∧ Rd w' w'.heap.size A' (staleP S vk ep ct sz n).length (iz (staleP S vk ep ct sz n)) := by
  have HH : Hd (View w Q A n S ∧ Q ≤ w.heap.size) := ⟨hv, hQ⟩
  clear hv hQ
  go_enter Try.func10, Try.ntmps10
  go_wp2_with fail
  have H1 : Hd ((w.alloc (.cells #[.int .i64 vk, .int .i64 ep, .int .i64 ct, .int .i64 sz, P] 27)).heap[w.heap.size]? = some (.cells #[.int .i64 vk, .int .i64 ep, .int .i64 ct, .int .i64 sz, P] 27 (0, 0)) ∧ Below w.heap.size w (w.alloc (.cells #[.int .i64 vk, .int .i64 ep, .int .i64 ct, .int .i64 sz, P] 27))) := ⟨heap_alloc_new _ _, (Below.refl _ _).alloc (Nat.le_refl _) _⟩
  obtain ⟨w1, hw1⟩ : ∃ w1, w.alloc (.cells #[.int .i64 vk, .int .i64 ep, .int .i64 ct, .int .i64 sz, P] 27) = w1 := ⟨_, rfl⟩
  rw [hw1] at H1 ⊢
  clear hw1
  go_loopw [5, 6] (fun v i wr => ∃ k : Nat, k ≤ n ∧ i = .int .i64 (k : Int) ∧ wr.heap[w.heap.size]? = some (.cells #[.int .i64 vk, .int .i64 ep, .int .i64 ct, .int .i64 sz, P] 27 (0, 0)) ∧ Below w.heap.size w wr ∧ wr.ownsRow (w.heap.size + 1) 3 1 v (staleP S vk ep ct sz k).length (iz (staleP S vk ep ct sz k))) (fun _ i _ => n - (intOf i).toNat)
  case atStart => exact ⟨0, by omega, rfl, H1.out.1, H1.out.2, World.ownsRow_nil _ _ _ _⟩
  case round =>
    obtain ⟨k, hk, rfl, hbx, hb, hown⟩ := hrel
    have b0 : wr.cell? ⟨w.heap.size, 0, none⟩ = some (.int .i64 vk) := by rw [cell_of_row _ _ _ _ _ _ hbx]; rfl
    have b1 : wr.cell? ⟨w.heap.size, 1, none⟩ = some (.int .i64 ep) := by rw [cell_of_row _ _ _ _ _ _ hbx]; rfl
    have b2 : wr.cell? ⟨w.heap.size, 2, none⟩ = some (.int .i64 ct) := by rw [cell_of_row _ _ _ _ _ _ hbx]; rfl
    have b3 : wr.cell? ⟨w.heap.size, 3, none⟩ = some (.int .i64 sz) := by rw [cell_of_row _ _ _ _ _ _ hbx]; rfl
    have hsz : w.heap.size < wr.heap.size := (Array.getElem?_eq_some_iff.1 hbx).1
    have H2 := Hd.mk (And.intro hbx (And.intro hb hown))
    clear H1 hbx hb hown
    by_cases hlt : k < n
    · have hki : (k : Int) < (n : Int) := by omega
      obtain ⟨g, off, rfl, hg, d0, d13, d15, d16, _, _, _⟩ := (HH.out.1.below (H2.out.2.1.mono HH.out.2)).at_ hlt
      have hnx := staleP_next S vk ep ct sz k
      have hle := staleP_le S vk ep ct sz k
      have hsb : staleB vk ep ct sz (S k) = ((vk == 1) && !(((S k).kind == 2) && (((S k).hd.epoch == ep) && ((S k).hd.count == ct)) && ((S k).hd.size == sz)) || (vk == 2) && ((S k).kind != 1)) := rfl
      generalize (S k).kind = kd at *
      generalize (S k).hd.size = sk at *
      generalize (S k).hd.epoch = ek at *
      generalize (S k).hd.count = ck at *
      obtain ⟨L, hL⟩ : ∃ L, staleP S vk ep ct sz k = L := ⟨_, rfl⟩
      rw [hL] at hnx hle H2
      have HN := Hd.mk hnx
      have HSB := Hd.mk hsb
      clear hnx hsb hL
      rcases q1 : (kd == 2) with _ | _
      · have HX := True.intro
        rcases v1 : (vk == 1) with _ | _
        · rcases v2 : (vk == 2) with _ | _
          · have HX := True.intro
            have HB : Hd (_ = false) := ⟨HSB.out.trans (by simp [q1, v1, v2])⟩
            clear HSB
            go_wp2_with fail
            go_quiet (fail)
            go_wp2_with fail
            go_roundw
            case rel =>
              refine ⟨k + 1, by omega, by go_num, H2.out.1, below_drewN H2.out.2.1 _, ?_⟩
              rw [HN.out, if_neg (by rw [HB.out]; decide)]
              exact H2.out.2.2
            case measure => simp [intOf]; omega
          · have e2 := eq_of_beq v2
            subst e2
            clear v1 v2
            rcases k1 : (kd == 1) with _ | _
            · have k2 : (kd != 1) = true := by simpa using k1
              have HB : Hd (_ = true) := ⟨HSB.out.trans (by simp [q1, k1, k2])⟩
              clear HSB
              go_wp2_with fail
              go_quiet (fail)
              have h63 : Hd (L.length + 1 ≤ maxLen) := ⟨by unfold maxLen; omega⟩
              have hby : Hd ((L.length + 1) * 8 ≤ 140737488355328) := ⟨by omega⟩
              have hbs : Hd (w.heap.size + 1 ≤ wr.heap.size) := ⟨by omega⟩
              go_wp2_with (at_builtin; refine push_at (w0 := wr) elI rfl (.tmp 64) (.tmp 66) rfl (w.heap.size + 1) u5 L.length (iz L) (.int .i64 (k : Int)) rfl rfl rfl H2.out.2.2 h63.out hby.out hbs.out ?_; intro v2 w2 hO2)
              have H3 := Hd.mk hO2
              clear hO2
              go_wp2_with fail
              go_roundw
              case rel =>
                have hb5 := H3.out.below (B := w.heap.size + 1) (fun q hq => (H2.out.2.2.lt q hq).1) hbs.out
                refine ⟨k + 1, by omega, by go_num, (hb5.block _ (by omega)).trans H2.out.1, H2.out.2.1.trans (hb5.mono (by omega)), ?_⟩
                rw [HN.out, if_pos HB.out, List.length_append, iz_append]
                exact H3.out.own
              case measure => simp [intOf]; omega
            · have e1 := eq_of_beq k1
              subst e1
              clear k1 q1
              have HB : Hd (_ = false) := ⟨HSB.out.trans (by simp [])⟩
              clear HSB
              go_wp2_with fail
              go_quiet (fail)
              go_wp2_with fail
              go_roundw
              case rel =>
                refine ⟨k + 1, by omega, by go_num, H2.out.1, below_drewN H2.out.2.1 _, ?_⟩
                rw [HN.out, if_neg (by rw [HB.out]; decide)]
                exact H2.out.2.2
              case measure => simp [intOf]; omega
        · have e2 := eq_of_beq v1
          subst e2
          clear v1
          have HB : Hd (_ = true) := ⟨HSB.out.trans (by simp [q1])⟩
          clear HSB
          go_wp2_with fail
          go_quiet (fail)
          have h63 : Hd (L.length + 1 ≤ maxLen) := ⟨by unfold maxLen; omega⟩
          have hby : Hd ((L.length + 1) * 8 ≤ 140737488355328) := ⟨by omega⟩
          have hbs : Hd (w.heap.size + 1 ≤ wr.heap.size) := ⟨by omega⟩
          go_wp2_with (at_builtin; refine push_at (w0 := wr) elI rfl (.tmp 64) (.tmp 66) rfl (w.heap.size + 1) u5 L.length (iz L) (.int .i64 (k : Int)) rfl rfl rfl H2.out.2.2 h63.out hby.out hbs.out ?_; intro v2 w2 hO2)
          have H3 := Hd.mk hO2
          clear hO2
          go_wp2_with fail
          go_roundw
          case rel =>
            have hb5 := H3.out.below (B := w.heap.size + 1) (fun q hq => (H2.out.2.2.lt q hq).1) hbs.out
            refine ⟨k + 1, by omega, by go_num, (hb5.block _ (by omega)).trans H2.out.1, H2.out.2.1.trans (hb5.mono (by omega)), ?_⟩
            rw [HN.out, if_pos HB.out, List.length_append, iz_append]
            exact H3.out.own
          case measure => simp [intOf]; omega
      · have e3 := eq_of_beq q1
        subst e3
        clear q1
        rcases q2 : (ek == ep) with _ | _
        · have HX := True.intro
          rcases v1 : (vk == 1) with _ | _
          · rcases v2 : (vk == 2) with _ | _
            · have HX := True.intro
              have HB : Hd (_ = false) := ⟨HSB.out.trans (by simp [q2, v1, v2])⟩
              clear HSB
              go_wp2_with fail
              go_quiet (fail)
              go_wp2_with fail
              go_roundw
              case rel =>
                refine ⟨k + 1, by omega, by go_num, H2.out.1, below_drewN H2.out.2.1 _, ?_⟩
                rw [HN.out, if_neg (by rw [HB.out]; decide)]
                exact H2.out.2.2
              case measure => simp [intOf]; omega
            · have e2 := eq_of_beq v2
              subst e2
              clear v1 v2
              have HB : Hd (_ = true) := ⟨HSB.out.trans (by simp [q2])⟩
              clear HSB
              go_wp2_with fail
              go_quiet (fail)
              have h63 : Hd (L.length + 1 ≤ maxLen) := ⟨by unfold maxLen; omega⟩
              have hby : Hd ((L.length + 1) * 8 ≤ 140737488355328) := ⟨by omega⟩
              have hbs : Hd (w.heap.size + 1 ≤ wr.heap.size) := ⟨by omega⟩
              go_wp2_with (at_builtin; refine push_at (w0 := wr) elI rfl (.tmp 64) (.tmp 66) rfl (w.heap.size + 1) u5 L.length (iz L) (.int .i64 (k : Int)) rfl rfl rfl H2.out.2.2 h63.out hby.out hbs.out ?_; intro v2 w2 hO2)
              have H3 := Hd.mk hO2
              clear hO2
              go_wp2_with fail
              go_roundw
              case rel =>
                have hb5 := H3.out.below (B := w.heap.size + 1) (fun q hq => (H2.out.2.2.lt q hq).1) hbs.out
                refine ⟨k + 1, by omega, by go_num, (hb5.block _ (by omega)).trans H2.out.1, H2.out.2.1.trans (hb5.mono (by omega)), ?_⟩
                rw [HN.out, if_pos HB.out, List.length_append, iz_append]
                exact H3.out.own
              case measure => simp [intOf]; omega
          · have e2 := eq_of_beq v1
            subst e2
            clear v1
            have HB : Hd (_ = true) := ⟨HSB.out.trans (by simp [q2])⟩
            clear HSB
            go_wp2_with fail
            go_quiet (fail)
            have h63 : Hd (L.length + 1 ≤ maxLen) := ⟨by unfold maxLen; omega⟩
            have hby : Hd ((L.length + 1) * 8 ≤ 140737488355328) := ⟨by omega⟩
            have hbs : Hd (w.heap.size + 1 ≤ wr.heap.size) := ⟨by omega⟩
            go_wp2_with (at_builtin; refine push_at (w0 := wr) elI rfl (.tmp 64) (.tmp 66) rfl (w.heap.size + 1) u5 L.length (iz L) (.int .i64 (k : Int)) rfl rfl rfl H2.out.2.2 h63.out hby.out hbs.out ?_; intro v2 w2 hO2)
            have H3 := Hd.mk hO2
            clear hO2
            go_wp2_with fail
            go_roundw
            case rel =>
              have hb5 := H3.out.below (B := w.heap.size + 1) (fun q hq => (H2.out.2.2.lt q hq).1) hbs.out
              refine ⟨k + 1, by omega, by go_num, (hb5.block _ (by omega)).trans H2.out.1, H2.out.2.1.trans (hb5.mono (by omega)), ?_⟩
              rw [HN.out, if_pos HB.out, List.length_append, iz_append]
              exact H3.out.own
            case measure => simp [intOf]; omega
        · have e4 := eq_of_beq q2
          subst e4
          clear q2
          rcases q3 : (ck == ct) with _ | _
          · have HX := True.intro
            rcases v1 : (vk == 1) with _ | _
            · rcases v2 : (vk == 2) with _ | _
              · have HX := True.intro
                have HB : Hd (_ = false) := ⟨HSB.out.trans (by simp [q3, v1, v2])⟩
                clear HSB
                go_wp2_with fail
                go_quiet (fail)
                go_wp2_with fail
                go_roundw
                case rel =>
                  refine ⟨k + 1, by omega, by go_num, H2.out.1, below_drewN H2.out.2.1 _, ?_⟩
                  rw [HN.out, if_neg (by rw [HB.out]; decide)]
                  exact H2.out.2.2
                case measure => simp [intOf]; omega
              · have e2 := eq_of_beq v2
                subst e2
                clear v1 v2
                have HB : Hd (_ = true) := ⟨HSB.out.trans (by simp [q3])⟩
                clear HSB
                go_wp2_with fail
                go_quiet (fail)
                have h63 : Hd (L.length + 1 ≤ maxLen) := ⟨by unfold maxLen; omega⟩
                have hby : Hd ((L.length + 1) * 8 ≤ 140737488355328) := ⟨by omega⟩
                have hbs : Hd (w.heap.size + 1 ≤ wr.heap.size) := ⟨by omega⟩
                go_wp2_with (at_builtin; refine push_at (w0 := wr) elI rfl (.tmp 64) (.tmp 66) rfl (w.heap.size + 1) u5 L.length (iz L) (.int .i64 (k : Int)) rfl rfl rfl H2.out.2.2 h63.out hby.out hbs.out ?_; intro v2 w2 hO2)
                have H3 := Hd.mk hO2
                clear hO2
                go_wp2_with fail
                go_roundw
                case rel =>
                  have hb5 := H3.out.below (B := w.heap.size + 1) (fun q hq => (H2.out.2.2.lt q hq).1) hbs.out
                  refine ⟨k + 1, by omega, by go_num, (hb5.block _ (by omega)).trans H2.out.1, H2.out.2.1.trans (hb5.mono (by omega)), ?_⟩
                  rw [HN.out, if_pos HB.out, List.length_append, iz_append]
                  exact H3.out.own
                case measure => simp [intOf]; omega
            · have e2 := eq_of_beq v1
              subst e2
              clear v1
              have HB : Hd (_ = true) := ⟨HSB.out.trans (by simp [q3])⟩
              clear HSB
              go_wp2_with fail
              go_quiet (fail)
              have h63 : Hd (L.length + 1 ≤ maxLen) := ⟨by unfold maxLen; omega⟩
              have hby : Hd ((L.length + 1) * 8 ≤ 140737488355328) := ⟨by omega⟩
              have hbs : Hd (w.heap.size + 1 ≤ wr.heap.size) := ⟨by omega⟩
              go_wp2_with (at_builtin; refine push_at (w0 := wr) elI rfl (.tmp 64) (.tmp 66) rfl (w.heap.size + 1) u5 L.length (iz L) (.int .i64 (k : Int)) rfl rfl rfl H2.out.2.2 h63.out hby.out hbs.out ?_; intro v2 w2 hO2)
              have H3 := Hd.mk hO2
              clear hO2
              go_wp2_with fail
              go_roundw
              case rel =>
                have hb5 := H3.out.below (B := w.heap.size + 1) (fun q hq => (H2.out.2.2.lt q hq).1) hbs.out
                refine ⟨k + 1, by omega, by go_num, (hb5.block _ (by omega)).trans H2.out.1, H2.out.2.1.trans (hb5.mono (by omega)), ?_⟩
                rw [HN.out, if_pos HB.out, List.length_append, iz_append]
                exact H3.out.own
              case measure => simp [intOf]; omega
          · have e5 := eq_of_beq q3
            subst e5
            clear q3
            rcases q4 : (sk == sz) with _ | _
            · have HX := True.intro
              rcases v1 : (vk == 1) with _ | _
              · rcases v2 : (vk == 2) with _ | _
                · have HX := True.intro
                  have HB : Hd (_ = false) := ⟨HSB.out.trans (by simp [q4, v1, v2])⟩
                  clear HSB
                  go_wp2_with fail
                  go_quiet (fail)
                  go_wp2_with fail
                  go_roundw
                  case rel =>
                    refine ⟨k + 1, by omega, by go_num, H2.out.1, below_drewN H2.out.2.1 _, ?_⟩
                    rw [HN.out, if_neg (by rw [HB.out]; decide)]
                    exact H2.out.2.2
                  case measure => simp [intOf]; omega
                · have e2 := eq_of_beq v2
                  subst e2
                  clear v1 v2
                  have HB : Hd (_ = true) := ⟨HSB.out.trans (by simp [q4])⟩
                  clear HSB
                  go_wp2_with fail
                  go_quiet (fail)
                  have h63 : Hd (L.length + 1 ≤ maxLen) := ⟨by unfold maxLen; omega⟩
                  have hby : Hd ((L.length + 1) * 8 ≤ 140737488355328) := ⟨by omega⟩
                  have hbs : Hd (w.heap.size + 1 ≤ wr.heap.size) := ⟨by omega⟩
                  go_wp2_with (at_builtin; refine push_at (w0 := wr) elI rfl (.tmp 64) (.tmp 66) rfl (w.heap.size + 1) u5 L.length (iz L) (.int .i64 (k : Int)) rfl rfl rfl H2.out.2.2 h63.out hby.out hbs.out ?_; intro v2 w2 hO2)
                  have H3 := Hd.mk hO2
                  clear hO2
                  go_wp2_with fail
                  go_roundw
                  case rel =>
                    have hb5 := H3.out.below (B := w.heap.size + 1) (fun q hq => (H2.out.2.2.lt q hq).1) hbs.out
                    refine ⟨k + 1, by omega, by go_num, (hb5.block _ (by omega)).trans H2.out.1, H2.out.2.1.trans (hb5.mono (by omega)), ?_⟩
                    rw [HN.out, if_pos HB.out, List.length_append, iz_append]
                    exact H3.out.own
                  case measure => simp [intOf]; omega
              · have e2 := eq_of_beq v1
                subst e2
                clear v1
                have HB : Hd (_ = true) := ⟨HSB.out.trans (by simp [q4])⟩
                clear HSB
                go_wp2_with fail
                go_quiet (fail)
                have h63 : Hd (L.length + 1 ≤ maxLen) := ⟨by unfold maxLen; omega⟩
                have hby : Hd ((L.length + 1) * 8 ≤ 140737488355328) := ⟨by omega⟩
                have hbs : Hd (w.heap.size + 1 ≤ wr.heap.size) := ⟨by omega⟩
                go_wp2_with (at_builtin; refine push_at (w0 := wr) elI rfl (.tmp 64) (.tmp 66) rfl (w.heap.size + 1) u5 L.length (iz L) (.int .i64 (k : Int)) rfl rfl rfl H2.out.2.2 h63.out hby.out hbs.out ?_; intro v2 w2 hO2)
                have H3 := Hd.mk hO2
                clear hO2
                go_wp2_with fail
                go_roundw
                case rel =>
                  have hb5 := H3.out.below (B := w.heap.size + 1) (fun q hq => (H2.out.2.2.lt q hq).1) hbs.out
                  refine ⟨k + 1, by omega, by go_num, (hb5.block _ (by omega)).trans H2.out.1, H2.out.2.1.trans (hb5.mono (by omega)), ?_⟩
                  rw [HN.out, if_pos HB.out, List.length_append, iz_append]
                  exact H3.out.own
                case measure => simp [intOf]; omega
            · have e6 := eq_of_beq q4
              subst e6
              clear q4
              rcases v1 : (vk == 1) with _ | _
              · rcases v2 : (vk == 2) with _ | _
                · have HX := True.intro
                  have HB : Hd (_ = false) := ⟨HSB.out.trans (by simp [v1, v2])⟩
                  clear HSB
                  go_wp2_with fail
                  go_quiet (fail)
                  go_wp2_with fail
                  go_roundw
                  case rel =>
                    refine ⟨k + 1, by omega, by go_num, H2.out.1, below_drewN H2.out.2.1 _, ?_⟩
                    rw [HN.out, if_neg (by rw [HB.out]; decide)]
                    exact H2.out.2.2
                  case measure => simp [intOf]; omega
                · have e2 := eq_of_beq v2
                  subst e2
                  clear v1 v2
                  have HB : Hd (_ = true) := ⟨HSB.out.trans (by simp [])⟩
                  clear HSB
                  go_wp2_with fail
                  go_quiet (fail)
                  have h63 : Hd (L.length + 1 ≤ maxLen) := ⟨by unfold maxLen; omega⟩
                  have hby : Hd ((L.length + 1) * 8 ≤ 140737488355328) := ⟨by omega⟩
                  have hbs : Hd (w.heap.size + 1 ≤ wr.heap.size) := ⟨by omega⟩
                  go_wp2_with (at_builtin; refine push_at (w0 := wr) elI rfl (.tmp 64) (.tmp 66) rfl (w.heap.size + 1) u5 L.length (iz L) (.int .i64 (k : Int)) rfl rfl rfl H2.out.2.2 h63.out hby.out hbs.out ?_; intro v2 w2 hO2)
                  have H3 := Hd.mk hO2
                  clear hO2
                  go_wp2_with fail
                  go_roundw
                  case rel =>
                    have hb5 := H3.out.below (B := w.heap.size + 1) (fun q hq => (H2.out.2.2.lt q hq).1) hbs.out
                    refine ⟨k + 1, by omega, by go_num, (hb5.block _ (by omega)).trans H2.out.1, H2.out.2.1.trans (hb5.mono (by omega)), ?_⟩
                    rw [HN.out, if_pos HB.out, List.length_append, iz_append]
                    exact H3.out.own
                  case measure => simp [intOf]; omega
              · have e2 := eq_of_beq v1
                subst e2
                clear v1
                have HB : Hd (_ = false) := ⟨HSB.out.trans (by simp [])⟩
                clear HSB
                go_wp2_with fail
                go_quiet (fail)
                go_wp2_with fail
                go_roundw
                case rel =>
                  refine ⟨k + 1, by omega, by go_num, H2.out.1, below_drewN H2.out.2.1 _, ?_⟩
                  rw [HN.out, if_neg (by rw [HB.out]; decide)]
                  exact H2.out.2.2
                case measure => simp [intOf]; omega
    · have hkn : k = n := by omega
      subst hkn
      obtain ⟨A', c', rfl, _, _⟩ := own_form H2.out.2.2
      go_wp2_with fail
      go_ret
      exact ⟨A', c', rfl, H2.out.2.1, Rd.of_own H2.out.2.2⟩
end Go.Proofs.Ytplpaipmkpjgfaa
