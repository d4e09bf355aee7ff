/- The walk of CrcBlinds. -/
import Derived.Test.YtofblciodgibdaaRef
import Derived.Test.YtofblciodgibdaaArgs
namespace Go.Proofs.Ytofblciodgibdaa
open Go.RowKit
set_option linter.unusedVariables false
theorem rd_lit {w : World} {e : TypeId} (cs : List Value) : Rd (w.alloc (.cells cs.toArray e)) (w.heap.size + 1) (some ⟨w.heap.size, 0, none⟩) cs.length cs :=
  ⟨rfl, fun h => ⟨w.heap.size, 0, rfl, by omega, fun i hi => by
    rw [cell_of_row _ w.heap.size (0 + i) cs.toArray e (0, 0) (heap_alloc_new w _)]; simp⟩⟩
namespace Crc
/-- A number's four bytes, the lowest first. -/
def b4 (v : Nat) : List Nat := [v % 256, v / 256 % 256, v / 65536 % 256, v / 16777216 % 256]
theorem itT8_low (v : Nat) : itT 8 (v ^^^ v % 256) = v / 256 := by
  have h := xor_split 8 v
  have e : v ^^^ v % 256 = 2 ^ 8 * (v / 2 ^ 8) := by
    have : v ^^^ v % 256 = (2 ^ 8 * (v / 2 ^ 8) ^^^ v % 2 ^ 8) ^^^ v % 256 := by rw [← h]
    rw [this, Nat.xor_assoc, Nat.xor_self, Nat.xor_zero]
  rw [e, itT_shift]
theorem ov_b4 (v : Nat) (h : v < 2 ^ 32) : ov v (b4 v) = 0 := by
  unfold b4
  rw [ov_cons, itT8_low, ov_cons, itT8_low, ov_cons, show v / 65536 = v / 256 / 256 by omega, itT8_low, ov_cons, show v / 16777216 = v / 256 / 256 / 256 by omega, itT8_low, ov_nil]
  omega
theorem more_max (l : List Nat) (h : ov 0 l < 2 ^ 32) : 4294967295 - more 4294967295 l = ov 0 l := by unfold more; rw [Nat.sub_self]; omega
end Crc
set_option maxHeartbeats 1000000 in
theorem blinds_walk (a : Option Addr) (len cap : Nat) (z : List Int) (w : World) (wa : IsRow .u8 w a len cap z) (hcap : cap ≤ 1048576) :
    Calls Try.prog 5 #[.slice a len cap] w fun e w' => e = .returned (.bool true) ∧ Below w.heap.size w w' := by
  obtain ⟨l, hr, hl, hll, hlc⟩ := wa.bytes
  have hr2 := hr.take hlc
  have HH : Hd (Rd w w.heap.size a len (cb (l.take len)) ∧ (∀ x ∈ l.take len, x < 256) ∧ len ≤ 1048576) := ⟨by rw [cb, List.map_take]; exact hr2, fun x hx => hl x (List.mem_of_mem_take hx), by omega⟩
  clear hr hl hll hr2 wa hcap hlc
  generalize l.take len = bs at *
  have hv := Crc.ov_lt bs 0 (by omega) HH.out.2.1
  have hm := Crc.more_lt 4294967295 bs
  have e1 := not_u32' ((Crc.more 4294967295 bs : Nat) : Int) (by omega) (by omega)
  have e2 : (4294967295 : Int) - ((Crc.more 4294967295 bs : Nat) : Int) = ((Crc.ov 0 bs : Nat) : Int) := by
    have := Crc.more_max bs hv; omega
  rw [e2] at e1
  obtain ⟨v, hvv⟩ : ∃ v, Crc.ov 0 bs = v := ⟨_, rfl⟩
  rw [hvv] at e1 hv
  obtain ⟨V, hV⟩ : ∃ V : Int, ((v : Nat) : Int) = V := ⟨_, rfl⟩
  rw [hV] at e1
  have v1 : 0 ≤ V := by omega
  have v2 : V ≤ 4294967295 := by omega
  have f1 : V % 256 = ((v % 256 : Nat) : Int) := by omega
  have f2 : V / 256 % 256 = ((v / 256 % 256 : Nat) : Int) := by omega
  have f3 : V / 65536 % 256 = ((v / 65536 % 256 : Nat) : Int) := by omega
  have f4 : V / 16777216 = ((v / 16777216 % 256 : Nat) : Int) := by omega
  have HV : Hd (v < 2 ^ 32 ∧ Crc.ov 0 bs = v ∧ Crc.ov 0 (bs ++ Crc.b4 v) = 0 ∧ (∀ x ∈ bs ++ Crc.b4 v, x < 256)) := ⟨hv, hvv, by rw [Crc.ov_append, hvv, Crc.ov_b4 v hv], fun x hx => by
    rcases List.mem_append.1 hx with h | h
    · exact HH.out.2.1 x h
    · unfold Crc.b4 at h; simp at h; omega⟩
  have F : Hd (V % 256 = ((v % 256 : Nat) : Int) ∧ V / 256 % 256 = ((v / 256 % 256 : Nat) : Int) ∧ V / 65536 % 256 = ((v / 65536 % 256 : Nat) : Int) ∧ V / 16777216 = ((v / 16777216 % 256 : Nat) : Int)) := ⟨f1, f2, f3, f4⟩
  clear hv hm e2 hvv hV f1 f2 f3 f4
  go_enter Try.func5, Try.ntmps5
  go_wp2_with fail
  refine (refBlind_any w a len cap w.heap.size bs HH.out.1 (Nat.le_refl _) HH.out.2.1 (by have := HH.out.2.2; omega)).mono ?_
  rintro e w1 ⟨rfl, hb1⟩
  have B1 : Hd _ := ⟨hb1⟩
  clear hb1
  go_wp2_with fail
  refine (twin_rd w1 a len cap w.heap.size bs (HH.out.1.below B1.out) B1.out.size (by have := HH.out.2.2; omega)).mono ?_
  rintro e w2 ⟨A2, c2, rfl, hr2, hb2⟩
  have B2 : Hd _ := ⟨And.intro hr2 (B1.out.trans (hb2.mono B1.out.size))⟩
  clear hr2 hb2
  go_wp2_with fail
  refine (more_any w2 A2 len c2 w2.heap.size bs 4294967295 (by omega) (by omega) B2.out.1 (Nat.le_refl _) HH.out.2.1 (by have := HH.out.2.2; omega)).mono ?_
  rw [show (4294967295 : Int).toNat = 4294967295 from rfl]
  rintro e w3 ⟨rfl, hb3⟩
  have B3 : Hd _ := ⟨B2.out.2.trans (hb3.mono B2.out.2.size)⟩
  clear hb3
  go_wp2_with fail
  refine (twin_any w3 a len cap w.heap.size bs (HH.out.1.below B3.out) B3.out.size (by have := HH.out.2.2; omega)).mono ?_
  rintro e w4 ⟨v4, rfl, hO4⟩
  have B4 : Hd (Onto w3 w4 w3.heap.size 5 (.slice none 0 0) v4 len (cb bs) ∧ Below w.heap.size w w4) := ⟨hO4, B3.out.trans ((hO4.below (fun k h => by cases h) (Nat.le_refl _)).mono B3.out.size)⟩
  clear hO4
  have O4 : Hd (w4.ownsRow w.heap.size 5 1 v4 len (cb bs)) := ⟨B4.out.1.base_ (fun k h => by cases h) B3.out.size⟩
  have h63 : Hd (len + 4 ≤ maxLen) := ⟨by have := HH.out.2.2; unfold maxLen; omega⟩
  have hby : Hd ((len + 4) * 1 ≤ 140737488355328) := ⟨by have := HH.out.2.2; omega⟩
  have hbs : Hd (w.heap.size ≤ w4.heap.size + 1) := ⟨by have := B4.out.2.size; omega⟩
  go_wp2_with (refine wpList_app elB rfl (.tmp 13) (.tmp 25) rfl w.heap.size v4 len _ rfl (O4.out.alloc _) (w4.heap.size + 1) (some ⟨w4.heap.size, 0, none⟩) 4 4 _ rfl (rd_lit _) ?_ h63.out hby.out (by simpa using hbs.out) ?_; simp [Value.oneCell']; intro v5 w5 hO5)
  have h5 : Onto (w4.alloc (.cells #[.int .u8 (V % 256), .int .u8 (V / 256 % 256), .int .u8 (V / 65536 % 256), (.int .u8 (V / 16777216))] 5)) w5 w.heap.size 5 v4 v5 (len + 4) (cb bs ++ [.int .u8 (V % 256), .int .u8 (V / 256 % 256), .int .u8 (V / 65536 % 256), (.int .u8 (V / 16777216))]) := hO5
  clear hO5
  rw [F.out.1, F.out.2.1, F.out.2.2.1, F.out.2.2.2] at h5
  have e5 : cb bs ++ [.int .u8 ((v % 256 : Nat) : Int), .int .u8 ((v / 256 % 256 : Nat) : Int), .int .u8 ((v / 65536 % 256 : Nat) : Int), .int .u8 ((v / 16777216 % 256 : Nat) : Int)] = cb (bs ++ Crc.b4 v) := by rw [cb_append]; rfl
  rw [e5] at h5
  obtain ⟨A5, c5, rfl, _, _⟩ := own_form h5.own
  have hb5 : Below w.heap.size w w5 := (B4.out.2.alloc B4.out.2.size _).trans (h5.below (fun k hk => by
    rcases B4.out.1.2.2 k hk with h | h
    · cases h
    · exact Nat.le_trans B3.out.size h) (by have := B4.out.2.size; simp; omega))
  have B5 : Hd (Rd w5 w5.heap.size A5 (len + 4) (cb (bs ++ Crc.b4 v)) ∧ Below w.heap.size w w5) := ⟨Rd.of_own h5.own, hb5⟩
  clear h5 hb5 e5
  refine (twin_rd w5 a len cap w.heap.size bs (HH.out.1.below B5.out.2) B5.out.2.size (by have := HH.out.2.2; omega)).mono ?_
  rintro e w6 ⟨A6, c6, rfl, hr6, hb6⟩
  have B6 : Hd (Rd w6 w6.heap.size A6 len (cb bs) ∧ Rd w6 w6.heap.size A5 (len + 4) (cb (bs ++ Crc.b4 v)) ∧ Below w.heap.size w w6) := ⟨hr6, (B5.out.1.below hb6).more hb6.size, B5.out.2.trans (hb6.mono B5.out.2.size)⟩
  clear hr6 hb6
  go_wp2_with fail
  refine (blind_any w6 A6 len c6 w6.heap.size bs B6.out.1 (Nat.le_refl _) HH.out.2.1 (by have := HH.out.2.2; omega)).mono ?_
  rintro e w7 ⟨rfl, hb7⟩
  have B7 : Hd (Rd w7 w7.heap.size A5 (len + 4) (cb (bs ++ Crc.b4 v)) ∧ Below w.heap.size w w7) := ⟨(B6.out.2.1.below hb7).more hb7.size, B6.out.2.2.trans (hb7.mono B6.out.2.2.size)⟩
  clear hb7
  have eq7 : (decide (Crc.ov 0 bs = 0) == decide (Crc.ov 0 bs = 0)) = true := by simp
  go_wp2_with fail
  refine (blind_any w7 A5 (len + 4) c5 w7.heap.size (bs ++ Crc.b4 v) B7.out.1 (Nat.le_refl _) HV.out.2.2.2 (by have := HH.out.2.2; omega)).mono ?_
  rw [HV.out.2.2.1]
  rintro e w8 ⟨rfl, hb8⟩
  have B8 : Hd (Rd w8 w8.heap.size A5 (len + 4) (cb (bs ++ Crc.b4 v)) ∧ Below w.heap.size w w8) := ⟨(B7.out.1.below hb8).more hb8.size, B7.out.2.trans (hb8.mono B7.out.2.size)⟩
  clear hb8
  go_wp2_with fail
  refine (refBlind_any w8 A5 (len + 4) c5 w8.heap.size (bs ++ Crc.b4 v) B8.out.1 (Nat.le_refl _) HV.out.2.2.2 (by have := HH.out.2.2; omega)).mono ?_
  rw [HV.out.2.2.1]
  rintro e w9 ⟨rfl, hb9⟩
  have B9 : Hd (Below w.heap.size w w9) := ⟨B8.out.2.trans (hb9.mono B8.out.2.size)⟩
  clear hb9
  go_wp2_with fail
  go_ret
  exact ⟨rfl, B9.out⟩
end Go.Proofs.Ytofblciodgibdaa
