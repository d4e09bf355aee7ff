/- Bytes as cells, and the string that they make: plain. -/
import Derived.WalkKit
import Derived.Laws.BytesArg
namespace Go.Proofs.Ytjkenhkoakaaoaa
/-- The cells of bytes. -/
def bv (x : Nat) : Value := .int .u8 (x : Int)
def cb (l : List Nat) : List Value := l.map bv
theorem cb_append (a b : List Nat) : cb (a ++ b) = cb a ++ cb b := List.map_append
theorem cb_length (a : List Nat) : (cb a).length = a.length := List.length_map _
theorem cb_one (a : List Nat) : ∀ u ∈ cb a, u.oneCell' = true := by
  intro u hu; obtain ⟨x, _, rfl⟩ := List.mem_map.1 hu; rfl
theorem cb_get (a : List Nat) (k : Nat) (h : k < a.length) : (cb a)[k]? = some (.int .u8 ((a.getD k 0 : Nat) : Int)) := by
  unfold cb; rw [List.getElem?_map, List.getElem?_eq_getElem h, List.getD_eq_getElem?_getD, List.getElem?_eq_getElem h]; rfl
theorem cb_ints (l : List Nat) : cb l = (l.map Int.ofNat).map (.int .u8) := by unfold cb; rw [List.map_map]; rfl
/-- The string whose bytes these are. -/
def bstr (l : List Nat) : ByteArray := strOfNums (l.map Int.ofNat)
theorem bstr_data (l : List Nat) : (bstr l).data.toList = l.map UInt8.ofNat := by
  unfold bstr; rw [strOfNums_data, List.map_map]; rfl
theorem map_ofNat_inj : ∀ (a b : List Nat), (∀ x ∈ a, x < 256) → (∀ x ∈ b, x < 256) → a.map UInt8.ofNat = b.map UInt8.ofNat → a = b
  | [], [], _, _, _ => rfl
  | [], _ :: _, _, _, h => by simp at h
  | _ :: _, [], _, _, h => by simp at h
  | x :: a, y :: b, ha, hb, h => by
    simp only [List.map_cons, List.cons.injEq] at h
    have hx : x < 256 := ha x (List.mem_cons_self ..)
    have hy : y < 256 := hb y (List.mem_cons_self ..)
    have e : x = y := by
      have := congrArg UInt8.toNat h.1
      simp only [UInt8.toNat_ofNat'] at this
      omega
    rw [e, map_ofNat_inj a b (fun z hz => ha z (List.mem_cons_of_mem _ hz)) (fun z hz => hb z (List.mem_cons_of_mem _ hz)) h.2]
theorem bstr_beq (a b : List Nat) (ha : ∀ x ∈ a, x < 256) (hb : ∀ x ∈ b, x < 256) : ((bstr a).toList == (bstr b).toList) = decide (a = b) := by
  rw [ByteArray.toList_eq, ByteArray.toList_eq, bstr_data, bstr_data, Bool.eq_iff_iff, beq_iff_eq, decide_eq_true_iff]
  exact ⟨map_ofNat_inj a b ha hb, fun h => by rw [h]⟩
end Go.Proofs.Ytjkenhkoakaaoaa
