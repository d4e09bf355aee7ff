/- Contract of the law's shows: how many places show a writing. (tools/showsgen.py prints it.) -/
import Derived.Test.YtplpaipmkpjgfaaRefPl
namespace Go.Proofs.Ytplpaipmkpjgfaa
open Go.RowKit
set_option linter.unusedVariables false
set_option linter.unusedSimpArgs false
theorem cnt_next (S : Nat → Sn) (r : Wr) (k : Nat) : cnt S (k + 1) r = if shB (S k) r = true then cnt S k r + 1 else cnt S k r := by
  unfold cnt; rw [plc_next]; split
  · rw [List.length_append]; rfl
  · rfl
set_option maxRecDepth 20000 in
set_option maxHeartbeats 40000000 in
theorem shows_any (w : World) (Q n c : Nat) (A : Option Addr) (S : Nat → Sn) (hv : View w Q A n S) (hQ : Q ≤ w.heap.size) (hn : n * 120 ≤ 140737488351232) (ep ct sz : Int) :
    Calls Try.prog 26 #[.slice A n c, .agg #[.int .i64 ep, .int .i64 ct], .int .i64 sz] w fun e w' => e = .returned (.int .i64 (cnt S n (ep, ct, sz) : Int)) ∧ Below w.heap.size w w' := by
  have HH : Hd (View w Q A n S ∧ Q ≤ w.heap.size) := ⟨hv, hQ⟩
  clear hv hQ
  go_enter Try.func26, Try.ntmps26
  go_wp2_with fail
  have H1 : Hd ((w.alloc (.cells #[.int .i64 ep, .int .i64 ct] 24)).heap[w.heap.size]? = some (.cells #[.int .i64 ep, .int .i64 ct] 24 (0, 0)) ∧ Below w.heap.size w (w.alloc (.cells #[.int .i64 ep, .int .i64 ct] 24))) := ⟨heap_alloc_new _ _, (Below.refl _ _).alloc (Nat.le_refl _) _⟩
  obtain ⟨w1, hw1⟩ : ∃ w1, w.alloc (.cells #[.int .i64 ep, .int .i64 ct] 24) = w1 := ⟨_, rfl⟩
  rw [hw1] at H1 ⊢
  clear hw1
  go_loopw [7, 8] (fun v i wr => ∃ k : Nat, k ≤ n ∧ i = .int .i64 (k : Int) ∧ v = .int .i64 (cnt S k (ep, ct, sz) : Int) ∧ wr.heap[w.heap.size]? = some (.cells #[.int .i64 ep, .int .i64 ct] 24 (0, 0)) ∧ Below w.heap.size w wr) (fun _ i _ => n - (intOf i).toNat)
  case atStart => exact ⟨0, by omega, rfl, rfl, H1.out.1, H1.out.2⟩
  case round =>
    obtain ⟨k, hk, rfl, rfl, hbx, hb⟩ := hrel
    have b0 : wr.cell? ⟨w.heap.size, 0, none⟩ = some (.int .i64 ep) := by rw [cell_of_row _ _ _ _ _ _ hbx]; rfl
    have b1 : wr.cell? ⟨w.heap.size, 1, none⟩ = some (.int .i64 ct) := by rw [cell_of_row _ _ _ _ _ _ hbx]; rfl
    have hsz : w.heap.size < wr.heap.size := (Array.getElem?_eq_some_iff.1 hbx).1
    have H2 := Hd.mk (And.intro hbx hb)
    clear H1 hbx hb
    by_cases hlt : k < n
    · have hki : (k : Int) < (n : Int) := by omega
      obtain ⟨g, off, rfl, hg, d0, d13, d15, d16, _, _, _⟩ := (HH.out.1.below (H2.out.2.mono HH.out.2)).at_ hlt
      have hnx := cnt_next S (ep, ct, sz) k
      have hle := cnt_le S k (ep, ct, sz)
      have hsb : shB (S k) (ep, ct, sz) = (((S k).kind == 2) && (((S k).hd.epoch == ep) && ((S k).hd.count == ct)) && ((S k).hd.size == sz)) := rfl
      generalize (S k).kind = kd at *
      generalize (S k).hd.size = sk at *
      generalize (S k).hd.epoch = ek at *
      generalize (S k).hd.count = ck at *
      obtain ⟨L, hL⟩ : ∃ L, cnt S k (ep, ct, sz) = L := ⟨_, rfl⟩
      rw [hL] at hnx hle ⊢
      have HN := Hd.mk hnx
      have HSB := Hd.mk hsb
      clear hnx hsb hL
      rcases q1 : (kd == 2) with _ | _
      · have HX := True.intro
        have HB : Hd (_ = false) := ⟨HSB.out.trans (by simp [q1])⟩
        clear HSB
        go_wp2_with fail
        go_quiet (fail)
        go_wp2_with fail
        go_roundw
        case rel =>
          refine ⟨k + 1, by omega, by go_num, ?_, H2.out.1, below_drewN H2.out.2 _⟩
          rw [HN.out, if_neg (by rw [HB.out]; decide)]
        case measure => simp [intOf]; omega
      · have e_q1 := eq_of_beq q1
        subst e_q1
        clear q1
        rcases q2 : (ek == ep) with _ | _
        · have HX := True.intro
          have HB : Hd (_ = false) := ⟨HSB.out.trans (by simp [q2])⟩
          clear HSB
          go_wp2_with fail
          go_quiet (fail)
          go_wp2_with fail
          go_roundw
          case rel =>
            refine ⟨k + 1, by omega, by go_num, ?_, H2.out.1, below_drewN H2.out.2 _⟩
            rw [HN.out, if_neg (by rw [HB.out]; decide)]
          case measure => simp [intOf]; omega
        · have e_q2 := eq_of_beq q2
          subst e_q2
          clear q2
          rcases q3 : (ck == ct) with _ | _
          · have HX := True.intro
            have HB : Hd (_ = false) := ⟨HSB.out.trans (by simp [q3])⟩
            clear HSB
            go_wp2_with fail
            go_quiet (fail)
            go_wp2_with fail
            go_roundw
            case rel =>
              refine ⟨k + 1, by omega, by go_num, ?_, H2.out.1, below_drewN H2.out.2 _⟩
              rw [HN.out, if_neg (by rw [HB.out]; decide)]
            case measure => simp [intOf]; omega
          · have e_q3 := eq_of_beq q3
            subst e_q3
            clear q3
            rcases q4 : (sk == sz) with _ | _
            · have HX := True.intro
              have HB : Hd (_ = false) := ⟨HSB.out.trans (by simp [q4])⟩
              clear HSB
              go_wp2_with fail
              go_quiet (fail)
              go_wp2_with fail
              go_roundw
              case rel =>
                refine ⟨k + 1, by omega, by go_num, ?_, H2.out.1, below_drewN H2.out.2 _⟩
                rw [HN.out, if_neg (by rw [HB.out]; decide)]
              case measure => simp [intOf]; omega
            · have e_q4 := eq_of_beq q4
              subst e_q4
              clear q4
              have HB : Hd (_ = true) := ⟨HSB.out.trans (by simp [])⟩
              clear HSB
              go_wp2_with fail
              go_quiet (fail)
              have hL63 : (L : Int) < 9223372036854775807 := by omega
              go_wp2_with fail
              go_roundw
              case rel =>
                refine ⟨k + 1, by omega, by go_num, ?_, H2.out.1, below_drewN H2.out.2 _⟩
                rw [HN.out, if_pos HB.out]
                go_num
              case measure => simp [intOf]; omega
    · have hkn : k = n := by omega
      subst hkn
      go_wp2_with fail
      go_ret
      exact ⟨rfl, H2.out.2⟩
end Go.Proofs.Ytplpaipmkpjgfaa
