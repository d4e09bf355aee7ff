/- Contract of the reference's places. -/
import Derived.Test.YtplpaipmkpjgfaaRefF
namespace Go.Proofs.Ytplpaipmkpjgfaa
open Go.RowKit
set_option linter.unusedVariables false
set_option linter.unusedSimpArgs false
set_option maxRecDepth 20000 in
set_option maxHeartbeats 40000000 in
theorem places_any (w : World) (Q n c : Nat) (A : Option Addr) (S : Nat → Sn) (hv : View w Q A n S) (hQ : Q ≤ w.heap.size) (hn : n * 120 ≤ 140737488351232) (ep ct sz : Int) :
    Calls Try.prog 37 #[.slice A n c, .agg #[.int .i64 ep, .int .i64 ct], .int .i64 sz] w fun e w' => ∃ v, e = .returned v ∧ w'.ownsRow w.heap.size 3 1 v (plc S (ep, ct, sz) n).length (iz (plc S (ep, ct, sz) n)) ∧ Below w.heap.size w w' := by
  have HH : Hd (View w Q A n S ∧ Q ≤ w.heap.size) := ⟨hv, hQ⟩
  clear hv hQ
  go_enter Try.func37, Try.ntmps37
  go_wp2_with fail
  have H1 : Hd ((w.alloc (.cells #[.int .i64 ep, .int .i64 ct] 24)).heap[w.heap.size]? = some (.cells #[.int .i64 ep, .int .i64 ct] 24 (0, 0)) ∧ Below w.heap.size w (w.alloc (.cells #[.int .i64 ep, .int .i64 ct] 24))) := ⟨heap_alloc_new _ _, (Below.refl _ _).alloc (Nat.le_refl _) _⟩
  obtain ⟨w1, hw1⟩ : ∃ w1, w.alloc (.cells #[.int .i64 ep, .int .i64 ct] 24) = w1 := ⟨_, rfl⟩
  rw [hw1] at H1 ⊢
  clear hw1
  go_loopw [7, 8] (fun v i wr => ∃ k : Nat, k ≤ n ∧ i = .int .i64 (k : Int) ∧ wr.heap[w.heap.size]? = some (.cells #[.int .i64 ep, .int .i64 ct] 24 (0, 0)) ∧ Below w.heap.size w wr ∧ wr.ownsRow (w.heap.size + 1) 3 1 v (plc S (ep, ct, sz) k).length (iz (plc S (ep, ct, sz) k))) (fun _ i _ => n - (intOf i).toNat)
  case atStart => exact ⟨0, by omega, rfl, H1.out.1, H1.out.2, World.ownsRow_nil _ _ _ _⟩
  case round =>
    obtain ⟨k, hk, rfl, hbx, hb, hown⟩ := hrel
    have b0 : wr.cell? ⟨w.heap.size, 0, none⟩ = some (.int .i64 ep) := by rw [cell_of_row _ _ _ _ _ _ hbx]; rfl
    have b1 : wr.cell? ⟨w.heap.size, 1, none⟩ = some (.int .i64 ct) := by rw [cell_of_row _ _ _ _ _ _ hbx]; rfl
    have hsz : w.heap.size < wr.heap.size := (Array.getElem?_eq_some_iff.1 hbx).1
    have H2 := Hd.mk (And.intro hbx (And.intro hb hown))
    clear H1 hbx hb hown
    by_cases hlt : k < n
    · have hki : (k : Int) < (n : Int) := by omega
      obtain ⟨g, off, rfl, hg, d0, d13, d15, d16, _, _, _⟩ := (HH.out.1.below (H2.out.2.1.mono HH.out.2)).at_ hlt
      have hnx := plc_next S (ep, ct, sz) k
      have hle := plc_le S (ep, ct, sz) k
      have hsb : shB (S k) (ep, ct, sz) = (((S k).kind == 2) && (((S k).hd.epoch == ep) && ((S k).hd.count == ct)) && ((S k).hd.size == sz)) := rfl
      generalize (S k).kind = kd at *
      generalize (S k).hd.size = sk at *
      generalize (S k).hd.epoch = ek at *
      generalize (S k).hd.count = ck at *
      obtain ⟨L, hL⟩ : ∃ L, plc S (ep, ct, sz) k = L := ⟨_, rfl⟩
      rw [hL] at hnx hle H2
      have HN := Hd.mk hnx
      have HSB := Hd.mk hsb
      clear hnx hsb hL
      rcases q1 : (kd == 2) with _ | _
      · have HX := True.intro
        have HB : Hd (_ = false) := ⟨HSB.out.trans (by simp [q1])⟩
        clear HSB
        go_wp2_with fail
        go_quiet (fail)
        go_wp2_with fail
        go_roundw
        case rel =>
          refine ⟨k + 1, by omega, by go_num, H2.out.1, below_drewN H2.out.2.1 _, ?_⟩
          rw [HN.out, if_neg (by rw [HB.out]; decide)]
          exact H2.out.2.2
        case measure => simp [intOf]; omega
      · have e_q1 := eq_of_beq q1
        subst e_q1
        clear q1
        rcases q2 : (ek == ep) with _ | _
        · have HX := True.intro
          have HB : Hd (_ = false) := ⟨HSB.out.trans (by simp [q2])⟩
          clear HSB
          go_wp2_with fail
          go_quiet (fail)
          go_wp2_with fail
          go_roundw
          case rel =>
            refine ⟨k + 1, by omega, by go_num, H2.out.1, below_drewN H2.out.2.1 _, ?_⟩
            rw [HN.out, if_neg (by rw [HB.out]; decide)]
            exact H2.out.2.2
          case measure => simp [intOf]; omega
        · have e_q2 := eq_of_beq q2
          subst e_q2
          clear q2
          rcases q3 : (ck == ct) with _ | _
          · have HX := True.intro
            have HB : Hd (_ = false) := ⟨HSB.out.trans (by simp [q3])⟩
            clear HSB
            go_wp2_with fail
            go_quiet (fail)
            go_wp2_with fail
            go_roundw
            case rel =>
              refine ⟨k + 1, by omega, by go_num, H2.out.1, below_drewN H2.out.2.1 _, ?_⟩
              rw [HN.out, if_neg (by rw [HB.out]; decide)]
              exact H2.out.2.2
            case measure => simp [intOf]; omega
          · have e_q3 := eq_of_beq q3
            subst e_q3
            clear q3
            rcases q4 : (sk == sz) with _ | _
            · have HX := True.intro
              have HB : Hd (_ = false) := ⟨HSB.out.trans (by simp [q4])⟩
              clear HSB
              go_wp2_with fail
              go_quiet (fail)
              go_wp2_with fail
              go_roundw
              case rel =>
                refine ⟨k + 1, by omega, by go_num, H2.out.1, below_drewN H2.out.2.1 _, ?_⟩
                rw [HN.out, if_neg (by rw [HB.out]; decide)]
                exact H2.out.2.2
              case measure => simp [intOf]; omega
            · have e_q4 := eq_of_beq q4
              subst e_q4
              clear q4
              have HB : Hd (_ = true) := ⟨HSB.out.trans (by simp [])⟩
              clear HSB
              go_wp2_with fail
              go_quiet (fail)
              have h63 : Hd (L.length + 1 ≤ maxLen) := ⟨by unfold maxLen; omega⟩
              have hby : Hd ((L.length + 1) * 8 ≤ 140737488355328) := ⟨by omega⟩
              have hbs : Hd (w.heap.size + 1 ≤ wr.heap.size) := ⟨by omega⟩
              go_wp2_with (at_builtin; refine push_at (w0 := wr) elI rfl (.tmp 43) (.tmp 45) rfl (w.heap.size + 1) u7 L.length (iz L) (.int .i64 (k : Int)) rfl rfl rfl H2.out.2.2 h63.out hby.out hbs.out ?_; intro v2 w2 hO2)
              have H3 := Hd.mk hO2
              clear hO2
              go_wp2_with fail
              go_roundw
              case rel =>
                have hb5 := H3.out.below (B := w.heap.size + 1) (fun q hq => (H2.out.2.2.lt q hq).1) hbs.out
                refine ⟨k + 1, by omega, by go_num, (hb5.block _ (by omega)).trans H2.out.1, H2.out.2.1.trans (hb5.mono (by omega)), ?_⟩
                rw [HN.out, if_pos HB.out, List.length_append, iz_append]
                exact H3.out.own
              case measure => simp [intOf]; omega
    · have hkn : k = n := by omega
      subst hkn
      go_wp2_with fail
      go_ret
      exact ⟨_, rfl, own_low H2.out.2.2 (by omega), H2.out.2.1⟩
end Go.Proofs.Ytplpaipmkpjgfaa
