/- The walk of WireShows. -/
import Derived.Test.YtbcmjjcbjojakaaShowE
namespace Go.Proofs.Ytbcmjjcbjojakaa
open Go.RowKit
set_option linter.unusedVariables false
theorem shows_walk (w : World) (s : ByteArray) (hs : s.size ≤ 35184372088832) :
    Calls Try.prog 4 #[.string s] w fun e w' => e = .returned (.bool true) ∧ Below w.heap.size w w' := by
  have h1 := fun W => show_any W s hs
  have h2 := fun W => refShow_any W s hs
  obtain ⟨S, hS⟩ : ∃ S, bstr (showP s) = S := ⟨_, rfl⟩
  simp only [hS] at h1 h2
  clear hS hs
  go_enter Try.func4, Try.ntmps4
  go_wp2_with fail
  refine (h1 _).mono ?_
  rintro e w1 ⟨rfl, b1⟩
  have B1 := Hd.mk b1
  clear b1
  go_wp2_with fail
  refine (h2 _).mono ?_
  rintro e w2 ⟨rfl, b2⟩
  have B2 := Hd.mk b2
  clear b2
  have es : (S.toList == S.toList) = true := by simp
  go_wp2_with fail
  go_ret
  exact ⟨by simp, B1.out.trans (B2.out.mono B1.out.size)⟩
end Go.Proofs.Ytbcmjjcbjojakaa
