/- Contracts of the laws' four and nothing and of the reference's Write; where the walk of CrcStreams stands. -/
import Derived.Test.YtofblciodgibdaaStream
import Derived.Test.YtofblciodgibdaaLaid
import Derived.Test.YtofblciodgibdaaRef
import Derived.Test.YtofblciodgibdaaKeptWalk
namespace Go.Proofs.Ytofblciodgibdaa
open Go.RowKit
set_option linter.unusedVariables false
section
variable {w w' : World} {B r n : Nat} {A : Option Addr} {xs : List Value}
theorem Rd.other (h : Rd w B A n xs) (hB : B ≤ w.heap.size) (hg : w.grownBy w' (some r)) (hne : ∀ g off, A = some ⟨g, off, none⟩ → g ≠ r) : Rd w' B A n xs :=
  ⟨h.1, fun hn => let ⟨g, off, e, hb, hc⟩ := h.2 hn
    ⟨g, off, e, hb, fun i hi => (World.cell?_of_block (a := ⟨g, off + i, none⟩) (hg.block g (Nat.lt_of_lt_of_le hb hB) (fun e2 => hne g off e (by injection e2)))).trans (hc i hi)⟩⟩
end
set_option maxHeartbeats 400000 in
theorem four_any (w : World) (k : Int) (h1 : -9223372036854775808 ≤ k) (h2 : k ≤ 9223372036854775807) :
    Calls Try.prog 31 #[.int .i64 k] w fun e w' => e = .returned (.int .i64 (k % 4)) ∧ w = w' := by
  have hm := tmod_emod k 4 (by omega) h1 h2 (by omega)
  obtain ⟨q, hq⟩ : ∃ q, k.tmod 4 = q := ⟨_, rfl⟩
  rw [hq] at hm
  obtain ⟨m1, m2, m3⟩ := hm
  have HM : Hd ((q + 4) % 4 = k % 4) := ⟨by rw [← m1, Int.tmod_eq_emod_of_nonneg (by omega)]⟩
  clear m1
  go_enter Try.func31, Try.ntmps31
  go_wp2_with fail
  go_ret
  exact ⟨ret_int HM.out, rfl⟩
theorem nothing_any (w : World) (A : Option Addr) (n c : Nat) :
    Calls Try.prog 34 #[.slice A n c] w fun e w' => e = .returned (.bool true) ∧ w = w' := by
  go_enter Try.func34, Try.ntmps34
  go_wp2_with fail
  refine (swrite_nil w A n c).mono ?_
  rintro e z1 ⟨rfl, rfl⟩
  go_wp2_with fail
  refine (sreset_nil w).mono ?_
  rintro e z2 ⟨rfl, rfl⟩
  go_wp2_with fail
  refine (ssum_nil w).mono ?_
  rintro e z3 ⟨rfl, rfl⟩
  go_wp2_with fail
  refine (slen_nil w).mono ?_
  rintro e z4 ⟨rfl, rfl⟩
  go_wp2_with fail
  go_ret
  exact ⟨rfl, rfl⟩
set_option maxHeartbeats 1000000 in
theorem refWrite_any (w : World) (A1 A2 : Option Addr) (n c1 m c2 B : Nat) (a b : List Nat) (ha : Rd w B A1 n (cb a)) (hb : Rd w B A2 m (cb b)) (hB : B ≤ w.heap.size) (hn : n ≤ 4194304) (hm : m ≤ 4194304) :
    Calls Try.prog 32 #[.agg #[.slice A1 n c1], .slice A2 m c2] w fun e w' => ∃ A' c', e = .returned (.agg #[.slice A' (n + m) c']) ∧ Rd w' w'.heap.size A' (n + m) (cb (a ++ b)) ∧ Below w.heap.size w w' ∧ ∀ g off, A' = some ⟨g, off, none⟩ → w.heap.size ≤ g := by
  have HH : Hd (Rd w B A1 n (cb a) ∧ Rd w B A2 m (cb b) ∧ B ≤ w.heap.size) := ⟨ha, hb, hB⟩
  have h63 : Hd (0 + n ≤ maxLen ∧ n + m ≤ maxLen) := ⟨by unfold maxLen; omega, by unfold maxLen; omega⟩
  have hby : Hd ((0 + n) * 1 ≤ 140737488355328 ∧ (n + m) * 1 ≤ 140737488355328) := ⟨by omega, by omega⟩
  clear ha hb hB
  go_enter Try.func32, Try.ntmps32
  go_wp2_with (first
    | (refine wpList_app elB rfl (.tmp 6) (.tmp 8) rfl w.heap.size (.slice none 0 0) 0 [] rfl (World.ownsRow_nil ..) B A1 n c1 (cb a) rfl ((HH.out.1.alloc HH.out.2.2 _).alloc (by have := HH.out.2.2; simp; omega) _) (cb_one a) h63.out.1 hby.out.1 (by simp; omega) ?_
       intro v1 w1 hO1
       have hbl : Below w.heap.size w w1 := (((Below.refl _ w).alloc (Nat.le_refl _) _).alloc (by simp) _).trans (hO1.below (fun k h => by cases h) (by simp; omega))
       have H1 : Hd (w1.ownsRow w.heap.size 5 1 v1 n (cb a) ∧ Rd w1 B A2 m (cb b) ∧ Below w.heap.size w w1 ∧ w1.heap[w.heap.size + 1]? = some (.cells #[.slice none 0 0] 51) ∧ (∀ k, v1.ownBlock = some k → w.heap.size + 2 ≤ k) ∧ w.heap.size + 1 < w1.heap.size) :=
         ⟨by simpa using hO1.own, HH.out.2.1.below (hbl.mono HH.out.2.2), hbl, (hO1.2.1.block (w.heap.size + 1) (by simp) (fun e => by simp [Value.ownBlock] at e)).trans (heap_alloc2_new w _ _), fun k hk => (hO1.2.2 k hk).elim (fun h => by cases h) (fun h => by simp at h; omega), by have := hO1.size; simp at this; omega⟩
       clear hO1 hbl)
    | (refine wpList_app elB rfl (.tmp 10) (.tmp 11) rfl w.heap.size v1 n (cb a) rfl H1.out.1 B A2 m c2 (cb b) rfl H1.out.2.1 (cb_one b) h63.out.2 hby.out.2 H1.out.2.2.1.size ?_
       intro v2 w2 hO2
       obtain ⟨A', c', hv2, _, _⟩ := own_form hO2.own
       have hlo : ∀ k, v2.ownBlock = some k → w.heap.size + 2 ≤ k := fun k hk => (hO2.2.2 k hk).elim (H1.out.2.2.2.2.1 k) (fun h => by have := H1.out.2.2.2.2.2; omega)
       subst hv2
       have hh : w2.heap[w.heap.size + 1]? = some (.cells #[.slice none 0 0] 51) := (hO2.2.1.block (w.heap.size + 1) H1.out.2.2.2.2.2 (fun e => by have := H1.out.2.2.2.2.1 _ e.symm; omega)).trans H1.out.2.2.2.1
       have H2 : Hd (Rd w2 w2.heap.size A' (n + m) (cb (a ++ b)) ∧ Below w.heap.size w w2 ∧ w2.heap[w.heap.size + 1]? = some (.cells #[.slice none 0 0] 51) ∧ ∀ g off, A' = some ⟨g, off, none⟩ → w.heap.size + 2 ≤ g) :=
         ⟨by rw [cb_append]; exact Rd.of_own hO2.own, H1.out.2.2.1.trans (hO2.below (fun k hk => (H1.out.1.lt k hk).1) H1.out.2.2.1.size), hh, fun g off e => by subst e; exact hlo g (by rcases hO2.own.2 with ⟨hv, _⟩ | ⟨g', _, _, hv, _⟩; cases hv; cases hv; rfl)⟩
       have hcz : w2.cell? ⟨w.heap.size + 1, 0, none⟩ = some (.slice none 0 0) := by rw [cell_of_row _ _ 0 _ _ (0, 0) hh]; rfl
       have hfz : w2.frozen? ⟨w.heap.size + 1, 0, none⟩ = false := by simp [World.frozen?, hh]
       clear hO2 hlo hh))
  have h3 := heap_set w2 (w.heap.size + 1) 0 (.slice A' (n + m) c') _ _ H2.out.2.2.1
  have hg := grown_set w2 (w.heap.size + 1) 0 (.slice A' (n + m) c')
  refine bodyPost_ret (v := .agg #[.slice A' (n + m) c']) (results_cell_row rfl _ _ (w.heap.size + 1) 51 #[.slice A' (n + m) c'] (0, 0) _ rfl h3 Try.underlying51 rfl (by kernel_rfl)) rfl ⟨A', c', rfl, ?_, H2.out.2.1.setCell (by simp) _, fun g off e => by have := H2.out.2.2.2 g off e; omega⟩
  exact (H2.out.1.other (Nat.le_refl _) hg (fun g off e => by have := H2.out.2.2.2 g off e; omega)).more hg.size
end Go.Proofs.Ytofblciodgibdaa
