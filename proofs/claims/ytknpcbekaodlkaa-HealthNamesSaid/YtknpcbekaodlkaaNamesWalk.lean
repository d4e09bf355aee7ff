/- The walk of HealthNames: it returns true. -/
import Derived.Test.YtknpcbekaodlkaaNilBoard
import Derived.Test.YtknpcbekaodlkaaMarks
import Derived.Test.YtknpcbekaodlkaaHeldBy
namespace Go.Proofs.Ytknpcbekaodlkaa
open Go.RowKit
set_option linter.unusedVariables false
set_option linter.unusedSimpArgs false
/-- The zero board of the law, in whatever world. -/
def NZ (w0 : World) (W : World) : Prop := Below w0.heap.size w0 W ∧ w0.heap.size < W.heap.size ∧ W.cell? ⟨w0.heap.size, 0, none⟩ = some (.float .f32 0) ∧ W.cell? ⟨w0.heap.size, 1, none⟩ = some (.slice none 0 0)
theorem NZ.keep {w0 W W' : World} (hb : Below W.heap.size W W') (H : NZ w0 W) : NZ w0 W' :=
  ⟨H.1.trans (hb.mono H.1.size), Nat.lt_of_lt_of_le H.2.1 hb.size, (hb.cell H.2.1).trans H.2.2.1, (hb.cell H.2.1).trans H.2.2.2⟩
theorem zero_bytes : bstr [0, 0, 0, 0, 0] = ⟨#[0, 0, 0, 0, 0]⟩ := by rfl
theorem conv_zero {w : World} {A : Option Addr} {c base : Nat} (h : w.ownsRow base 5 1 (.slice A 5 c) 5 (cb [0, 0, 0, 0, 0])) : (convert 45 9 (.slice A 5 c)).run Try.prog w = .ok (.string ⟨#[0, 0, 0, 0, 0]⟩) w := by
  rw [← zero_bytes]; exact conv_bytes (Rd.of_own h)
set_option maxRecDepth 20000 in
set_option maxHeartbeats 2000000 in
theorem names_walk (w : World) : Calls Try.prog 6 #[] w fun e w' => e = .returned (.bool true) ∧ Below w.heap.size w w' := by
  go_enter Try.func6, Try.ntmps6
  go_wp2_with fail
  refine (score_nil w).mono ?_
  rintro e w1 ⟨rfl, rfl⟩
  go_wp2_with fail
  have hz : NZ w (w.alloc (.cells #[.float .f32 0, .slice none 0 0] 61)) := ⟨(Below.refl _ _).alloc (Nat.le_refl _) _, by simp, by simp, by simp⟩
  obtain ⟨w1, hw1⟩ : ∃ w1, w.alloc (.cells #[.float .f32 0, .slice none 0 0] 61) = w1 := ⟨_, rfl⟩
  first | rw [hw1] at hz ⊢ | (trace_state; fail)
  have HZ := Hd.mk hz
  clear hz hw1
  refine (score_zero w1 w.heap.size HZ.out.2.2.2).mono ?_
  rintro e w2 ⟨rfl, rfl⟩
  go_wp2_with fail
  refine (tell_zero w1 w.heap.size HZ.out.2.2.2).mono ?_
  rintro e w2 ⟨rfl, rfl⟩
  go_wp2_with fail
  refine (order_zero w1 w.heap.size HZ.out.2.1 HZ.out.2.2.2).mono ?_
  rintro e w2 ⟨A2, rfl, hb2⟩
  have H2 := Hd.mk (HZ.out.keep hb2)
  clear hb2 HZ
  go_wp2_with fail
  refine (save_zero w2 w.heap.size H2.out.2.1 H2.out.2.2.1 H2.out.2.2.2).mono ?_
  rintro e w3 ⟨v3, rfl, hO3⟩
  obtain ⟨A3, c3, rfl, _, _⟩ := own_form hO3.own
  have H3 := Hd.mk (H2.out.keep (hO3.below (fun k hk => by cases hk) (Nat.le_refl _)))
  have hcv := conv_zero hO3.own
  clear hO3 H2
  go_wp2_with fail
  refine (tell_nil w3).mono ?_
  rintro e w4 ⟨rfl, rfl⟩
  go_wp2_with fail
  refine (order_nil w3).mono ?_
  rintro e w4 ⟨rfl, hb4⟩
  have H4 := Hd.mk (H3.out.keep hb4)
  clear hb4 H3 hcv
  go_wp2_with fail
  refine (save_nil w4).mono ?_
  rintro e w5 ⟨rfl, rfl⟩
  go_wp2_with fail
  go_ret
  exact ⟨rfl, H4.out.1⟩
end Go.Proofs.Ytknpcbekaodlkaa
