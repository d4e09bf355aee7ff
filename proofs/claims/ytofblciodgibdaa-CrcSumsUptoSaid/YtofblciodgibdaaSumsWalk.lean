/- The walks of CrcSums, CrcMores. -/
import Derived.Test.YtofblciodgibdaaRef
import Derived.Test.YtofblciodgibdaaArgs
namespace Go.Proofs.Ytofblciodgibdaa
open Go.RowKit
set_option linter.unusedVariables false
set_option maxHeartbeats 400000 in
theorem mores_walk (R : Int) (a : Option Addr) (len cap : Nat) (z : List Int) (w : World) (wR : (Lit.int .u32 R).wf = true) (wa : IsRow .u8 w a len cap z) (hcap : cap ≤ 1048576) :
    Calls Try.prog 3 #[.int .u32 R, .slice a len cap] w fun e w' => e = .returned (.bool true) ∧ Below w.heap.size w w' := by
  have hR : 0 ≤ R ∧ R ≤ 4294967295 := by simpa [Lit.wf, IntKind.min, IntKind.max, IntKind.signed, IntKind.bits] using wR
  obtain ⟨r1, r2⟩ := hR
  obtain ⟨l, hr, hl, hll, hlc⟩ := wa.bytes
  have hr2 := hr.take hlc
  have HH : Hd (Rd w w.heap.size a len (cb (l.take len)) ∧ (∀ x ∈ l.take len, x < 256) ∧ len ≤ 1048576) := ⟨by rw [cb, List.map_take]; exact hr2, fun x hx => hl x (List.mem_of_mem_take hx), by omega⟩
  clear hr hl hll hr2 wa wR hcap hlc
  generalize l.take len = bs at *
  go_enter Try.func3, Try.ntmps3
  go_wp2_with fail
  refine (refMore_any w a len cap w.heap.size bs R r1 r2 HH.out.1 (Nat.le_refl _) HH.out.2.1 HH.out.2.2).mono ?_
  rintro e w1 ⟨rfl, hb1⟩
  have B1 : Hd _ := ⟨hb1⟩
  clear hb1
  go_wp2_with fail
  refine (twin_rd w1 a len cap w.heap.size bs (HH.out.1.below B1.out) B1.out.size (by have := HH.out.2.2; omega)).mono ?_
  rintro e w2 ⟨A2, c2, rfl, hr2, hb2⟩
  have B2 : Hd _ := ⟨And.intro hr2 (B1.out.trans (hb2.mono B1.out.size))⟩
  clear hr2 hb2
  go_wp2_with fail
  refine (more_any w2 A2 len c2 w2.heap.size bs R r1 r2 B2.out.1 (Nat.le_refl _) HH.out.2.1 (by have := HH.out.2.2; omega)).mono ?_
  rintro e w3 ⟨rfl, hb3⟩
  have B3 : Hd _ := ⟨B2.out.2.trans (hb3.mono B2.out.2.size)⟩
  clear hb3
  go_wp2_with fail
  go_ret
  exact ⟨ret_bool (by simp), B3.out⟩
set_option maxHeartbeats 400000 in
theorem sums_walk (a : Option Addr) (len cap : Nat) (z : List Int) (w : World) (wa : IsRow .u8 w a len cap z) (hcap : cap ≤ 1048576) :
    Calls Try.prog 4 #[.slice a len cap] w fun e w' => e = .returned (.bool true) ∧ Below w.heap.size w w' := by
  obtain ⟨l, hr, hl, hll, hlc⟩ := wa.bytes
  have hr2 := hr.take hlc
  have HH : Hd (Rd w w.heap.size a len (cb (l.take len)) ∧ (∀ x ∈ l.take len, x < 256) ∧ len ≤ 1048576) := ⟨by rw [cb, List.map_take]; exact hr2, fun x hx => hl x (List.mem_of_mem_take hx), by omega⟩
  clear hr hl hll hr2 wa hcap hlc
  generalize l.take len = bs at *
  go_enter Try.func4, Try.ntmps4
  go_wp2_with fail
  refine (refSum_any w a len cap w.heap.size bs HH.out.1 (Nat.le_refl _) HH.out.2.1 HH.out.2.2).mono ?_
  rintro e w1 ⟨rfl, hb1⟩
  have B1 : Hd _ := ⟨hb1⟩
  clear hb1
  go_wp2_with fail
  refine (twin_rd w1 a len cap w.heap.size bs (HH.out.1.below B1.out) B1.out.size (by have := HH.out.2.2; omega)).mono ?_
  rintro e w2 ⟨A2, c2, rfl, hr2, hb2⟩
  have B2 : Hd _ := ⟨And.intro hr2 (B1.out.trans (hb2.mono B1.out.size))⟩
  clear hr2 hb2
  go_wp2_with fail
  refine (sum_any w2 A2 len c2 w2.heap.size bs B2.out.1 (Nat.le_refl _) HH.out.2.1 (by have := HH.out.2.2; omega)).mono ?_
  rintro e w3 ⟨rfl, hb3⟩
  have B3 : Hd _ := ⟨B2.out.2.trans (hb3.mono B2.out.2.size)⟩
  clear hb3
  go_wp2_with fail
  go_ret
  exact ⟨ret_bool (by simp), B3.out⟩
end Go.Proofs.Ytofblciodgibdaa
