
/- Contracts: hexadecimal digits, of the program's and of the document's. -/
import Derived.Test.YtbcmjjcbjojakaaDoorUnsQ
namespace Go.Proofs.YtbcmjjcbjojakaaDoor
open Go.RowKit
set_option linter.unusedVariables false
def dgz (c : Nat) : Int := if 48 ≤ c ∧ c ≤ 57 then (c : Int) - 48 else if 97 ≤ c ∧ c ≤ 102 then (c : Int) - 87 else -1
theorem dgz_some {c q : Nat} (h : dig c = some q) : dgz c = (q : Int) ∧ q < 16 := by
  unfold dig at h; unfold dgz
  split at h
  · rename_i h1; rw [if_pos h1]; injection h with h; omega
  · rename_i h1; rw [if_neg h1]
    split at h
    · rename_i h2; rw [if_pos h2]; injection h with h; omega
    · cases h
theorem dgz_none {c : Nat} (h : dig c = none) : dgz c = -1 := by
  unfold dig at h; unfold dgz
  split at h
  · cases h
  · rename_i h1; rw [if_neg h1]
    split at h
    · cases h
    · rename_i h2; rw [if_neg h2]
theorem wdigit_any (w : World) (c : Nat) (hc : c ≤ 1114111) : Calls Tryd.prog 32 #[.int .i32 (c : Int)] w fun e w' => e = .returned (.int .i64 (dgz c)) ∧ w' = w := by
  obtain ⟨D, hD⟩ : ∃ D, dgz c = D := ⟨_, rfl⟩
  rw [hD]
  have HD := Hd.mk hD
  clear hD
  go_enter Tryd.func32, Tryd.ntmps32
  by_cases h1 : 48 ≤ c ∧ c ≤ 57
  · have hD : D = (c : Int) - 48 := by rw [← HD.out]; unfold dgz; rw [if_pos h1]
    have a1 : (48 : Int) ≤ (c : Int) := by omega
    have a2 : (c : Int) ≤ 57 := by omega
    subst hD
    clear h1 HD
    go_wp2_with fail
    go_ret
    exact ⟨by go_num, rfl⟩
  by_cases h2 : 97 ≤ c ∧ c ≤ 102
  · have hD : D = (c : Int) - 87 := by rw [← HD.out]; unfold dgz; rw [if_neg h1, if_pos h2]
    have a1 : (97 : Int) ≤ (c : Int) := by omega
    have a2 : (c : Int) ≤ 102 := by omega
    have a3 : (48 : Int) ≤ (c : Int) := by omega
    have a4 : ¬ (c : Int) ≤ 57 := by omega
    subst hD
    clear h1 h2 HD
    go_wp2_with fail
    go_ret
    exact ⟨by go_num, rfl⟩
  have hD : D = -1 := by rw [← HD.out]; unfold dgz; rw [if_neg h1, if_neg h2]
  subst hD
  clear HD
  by_cases b1 : (48 : Int) ≤ (c : Int)
  · have b2 : ¬ (c : Int) ≤ 57 := by omega
    by_cases b3 : (97 : Int) ≤ (c : Int)
    · have b4 : ¬ (c : Int) ≤ 102 := by omega
      clear h1 h2
      go_wp2_with fail
      go_ret
      exact ⟨rfl, rfl⟩
    · clear h1 h2
      go_wp2_with fail
      go_ret
      exact ⟨rfl, rfl⟩
  · have b3 : ¬ (97 : Int) ≤ (c : Int) := by omega
    clear h1 h2
    go_wp2_with fail
    go_ret
    exact ⟨rfl, rfl⟩
theorem rdigit_any (w : World) (c : Nat) (hc : c < 256) : Calls Tryd.prog 33 #[.int .u8 (c : Int)] w fun e w' => e = .returned (.int .i64 (dgz c)) ∧ w' = w := by
  obtain ⟨D, hD⟩ : ∃ D, dgz c = D := ⟨_, rfl⟩
  rw [hD]
  have HD := Hd.mk hD
  clear hD
  go_enter Tryd.func33, Tryd.ntmps33
  by_cases h1 : 48 ≤ c ∧ c ≤ 57
  · have hD : D = (c : Int) - 48 := by rw [← HD.out]; unfold dgz; rw [if_pos h1]
    have a1 : (48 : Int) ≤ (c : Int) := by omega
    have a2 : (c : Int) ≤ 57 := by omega
    subst hD
    clear h1 HD
    go_wp2_with fail
    go_ret
    exact ⟨by go_num, rfl⟩
  by_cases h2 : 97 ≤ c ∧ c ≤ 102
  · have hD : D = (c : Int) - 87 := by rw [← HD.out]; unfold dgz; rw [if_neg h1, if_pos h2]
    have a1 : (97 : Int) ≤ (c : Int) := by omega
    have a2 : (c : Int) ≤ 102 := by omega
    have a3 : (48 : Int) ≤ (c : Int) := by omega
    have a4 : ¬ (c : Int) ≤ 57 := by omega
    subst hD
    clear h1 h2 HD
    go_wp2_with fail
    go_ret
    exact ⟨by go_num, rfl⟩
  have hD : D = -1 := by rw [← HD.out]; unfold dgz; rw [if_neg h1, if_neg h2]
  subst hD
  clear HD
  by_cases b1 : (48 : Int) ≤ (c : Int)
  · have b2 : ¬ (c : Int) ≤ 57 := by omega
    by_cases b3 : (97 : Int) ≤ (c : Int)
    · have b4 : ¬ (c : Int) ≤ 102 := by omega
      clear h1 h2
      go_wp2_with fail
      go_ret
      exact ⟨rfl, rfl⟩
    · clear h1 h2
      go_wp2_with fail
      go_ret
      exact ⟨rfl, rfl⟩
  · have b3 : ¬ (97 : Int) ≤ (c : Int) := by omega
    clear h1 h2
    go_wp2_with fail
    go_ret
    exact ⟨rfl, rfl⟩
end Go.Proofs.YtbcmjjcbjojakaaDoor
