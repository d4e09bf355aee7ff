/- The short form of a number, as a list of numbers below 256: plain, no program in sight. -/
import Derived.WalkKit
import Derived.Laws.BytesArg
namespace Go.Proofs.Ytjkenhkoakaaoaa
/-- The groups of a number, at most k + 1 of them, the lowest first. -/
def uvf : Nat → Nat → List Nat
  | 0, v => [v]
  | k + 1, v => if v < 128 then [v] else (v % 128 + 128) :: uvf k (v / 128)
def uv (v : Nat) : List Nat := uvf 9 v
/-- The cells of bytes. -/
def bv (x : Nat) : Value := .int .u8 (x : Int)
def cb (l : List Nat) : List Value := l.map bv
theorem cb_append (a b : List Nat) : cb (a ++ b) = cb a ++ cb b := List.map_append
theorem cb_length (a : List Nat) : (cb a).length = a.length := List.length_map _
theorem cb_one (a : List Nat) : ∀ u ∈ cb a, u.oneCell' = true := by
  intro u hu; obtain ⟨x, _, rfl⟩ := List.mem_map.1 hu; rfl
theorem cb_get (a : List Nat) (k : Nat) (h : k < a.length) : (cb a)[k]? = some (.int .u8 ((a.getD k 0 : Nat) : Int)) := by
  unfold cb; rw [List.getElem?_map, List.getElem?_eq_getElem h, List.getD_eq_getElem?_getD, List.getElem?_eq_getElem h]; rfl
theorem cb_ints (l : List Nat) : cb l = (l.map Int.ofNat).map (.int .u8) := by unfold cb; rw [List.map_map]; rfl
/-- The string whose bytes these are. -/
def bstr (l : List Nat) : ByteArray := strOfNums (l.map Int.ofNat)
theorem bstr_data (l : List Nat) : (bstr l).data.toList = l.map UInt8.ofNat := by
  unfold bstr; rw [strOfNums_data, List.map_map]; rfl
theorem map_ofNat_inj : ∀ (a b : List Nat), (∀ x ∈ a, x < 256) → (∀ x ∈ b, x < 256) → a.map UInt8.ofNat = b.map UInt8.ofNat → a = b
  | [], [], _, _, _ => rfl
  | [], _ :: _, _, _, h => by simp at h
  | _ :: _, [], _, _, h => by simp at h
  | x :: a, y :: b, ha, hb, h => by
    simp only [List.map_cons, List.cons.injEq] at h
    have hx : x < 256 := ha x (List.mem_cons_self ..)
    have hy : y < 256 := hb y (List.mem_cons_self ..)
    have e : x = y := by
      have := congrArg UInt8.toNat h.1
      simp only [UInt8.toNat_ofNat'] at this
      omega
    rw [e, map_ofNat_inj a b (fun z hz => ha z (List.mem_cons_of_mem _ hz)) (fun z hz => hb z (List.mem_cons_of_mem _ hz)) h.2]
theorem bstr_beq (a b : List Nat) (ha : ∀ x ∈ a, x < 256) (hb : ∀ x ∈ b, x < 256) : ((bstr a).toList == (bstr b).toList) = decide (a = b) := by
  rw [ByteArray.toList_eq, ByteArray.toList_eq, bstr_data, bstr_data, Bool.eq_iff_iff, beq_iff_eq, decide_eq_true_iff]
  exact ⟨map_ofNat_inj a b ha hb, fun h => by rw [h]⟩
theorem uvf_len : ∀ k v, 1 ≤ (uvf k v).length ∧ (uvf k v).length ≤ k + 1
  | 0, v => by simp [uvf]
  | k + 1, v => by
    unfold uvf; split
    · simp
    · have := uvf_len k (v / 128); simp; omega
theorem uv_len (v : Nat) : 1 ≤ (uv v).length ∧ (uv v).length ≤ 10 := uvf_len 9 v
theorem or128 (x : Int) (h0 : 0 ≤ x) (h1 : x < 128) : bits .or .u8 x 128 = x + 128 := by
  obtain ⟨n, rfl⟩ := Int.eq_ofNat_of_zero_le h0
  have hn : n < 128 := by omega
  have h := u8_or_nat n 128 (by omega) (by omega)
  rw [show (128 : Int) = ((128 : Nat) : Int) from rfl, h, Nat.or_comm, nat_join 7 128 n (by omega) (by omega)]
  omega
theorem or128' (x : Int) (h0 : 0 ≤ x) (h1 : x < 256) (h : 128 ≤ x) : bits .or .u8 x 128 = x := by
  obtain ⟨n, rfl⟩ := Int.eq_ofNat_of_zero_le h0
  have hh := u8_or_nat n 128 (by omega) (by omega)
  rw [show (128 : Int) = ((128 : Nat) : Int) from rfl, hh]
  have : n = 128 + (n - 128) := by omega
  rw [this, ← nat_join 7 128 (n - 128) (by omega) (by omega), Nat.or_comm, ← Nat.or_assoc, Nat.or_self]
/-- What 'byte(v) | 128' is. -/
theorem or128_mod (v : Nat) : bits .or .u8 (IntKind.u8.wrap (v : Int)) 128 = ((v % 128 + 128 : Nat) : Int) := by
  rw [IntKind.wrap_u8]
  by_cases h : v % 256 < 128
  · rw [or128 _ (by omega) (by omega)]; omega
  · rw [or128' _ (by omega) (by omega) (by omega)]; omega
end Go.Proofs.Ytjkenhkoakaaoaa
