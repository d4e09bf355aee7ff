/- Plain: what an answer is told as. -/
import Derived.Test.YtbcmjjcbjojakaaAskP
import Derived.Test.YtbcmjjcbjojakaaPutsL
namespace Go.Proofs.Ytbcmjjcbjojakaa
open Go.RowKit
set_option linter.unusedVariables false
/-- An answer. -/
structure An where
  kind : Int
  tag : Nat
  code : Int
  body : List Nat
  keys : List ByteArray
  groups : List ByteArray
  next : ByteArray
  more : Bool
  ge : Int
  gc : Int
  size : Int
  h1 : Int
  h2 : Int
  h3 : Int
  h4 : Int
def fine (a : An) : Prop := a.code = 0
def tBody (a : An) : Prop := a.code = 0 ∧ (a.kind = 2 ∨ a.kind = 3)
def tGen (a : An) : Prop := a.code = 0 ∧ a.kind = 4
def tKeys (a : An) : Prop := a.code = 0 ∧ (a.kind = 6 ∨ a.kind = 7)
def tPage (a : An) : Prop := a.code = 0 ∧ a.kind = 7
/-- May the answer be? -/
def anOk (a : An) : Prop := 1 ≤ a.kind ∧ a.kind ≤ 8 ∧ 0 ≤ a.code ∧ a.code ≤ 2147483647 ∧ (¬ tBody a → a.body = []) ∧ (¬ tGen a → a.ge = 0 ∧ a.gc = 0 ∧ a.size = 0) ∧ (¬ tKeys a → a.keys = []) ∧
  (¬ tPage a → a.groups = [] ∧ a.next = emS ∧ a.more = false) ∧ (a.kind ≠ 8 → a.h1 = 0 ∧ a.h2 = 0 ∧ a.h3 = 0 ∧ a.h4 = 0)
def shortL (l : List ByteArray) (m : Nat) : Prop := l.length ≤ m ∧ ∀ t ∈ l, t.size ≤ 255
def anFit (a : An) : Prop := a.body.length ≤ 1048576 ∧ shortL a.keys (if a.kind = 6 then 65536 else 1000) ∧ shortL a.groups 1000 ∧ a.next.size ≤ 255
/-- What texts are written as, counted. -/
def ut (l : List ByteArray) : List Nat := uv l.length ++ tx l
open Classical in
/-- The content. -/
noncomputable def anC (a : An) : List Nat :=
  fx 1 a.kind.toNat ++ fx 8 a.tag ++ uv a.code.toNat ++ (if a.kind = 8 then uz a.h1 ++ uz a.h2 ++ uz a.h3 ++ uz a.h4 else []) ++ (if tBody a then ub a.body else []) ++
  (if tGen a then uz a.ge ++ uz a.gc ++ uz a.size else []) ++ (if tKeys a then ut a.keys else []) ++ (if tPage a then ut a.groups ++ us a.next ++ [if a.more = true then 1 else 0] else [])
open Classical in
noncomputable def tellP (a : An) : List Nat × Int := if anOk a then (if anFit a then (formP (anC a), 0) else ([], 3)) else ([], 2)
theorem shortL_at {l : List ByteArray} {m k : Nat} (h : shortL l m) (hk : k < l.length) : (l.getD k ByteArray.empty).size ≤ 255 := by
  rw [List.getD_eq_getElem?_getD, List.getElem?_eq_getElem hk]; exact h.2 _ (List.getElem_mem hk)
open Classical in
theorem within_any (w : World) (A : Option Addr) (n c B m : Nat) (ts : List ByteArray) (hr : Rd w B A n (cs ts)) (hn : n ≤ 8796093022000) :
    Calls Try.prog 66 #[.slice A n c, .int .i64 (m : Int)] w fun e w' => e = .returned (.bool (decide (shortL ts m))) ∧ w' = w := by
  have hl : ts.length = n := by have := hr.1; rwa [cs_len] at this
  have HH := Hd.mk hr
  clear hr
  have HF : Hd (∀ k, k < n → 255 < (ts.getD k ByteArray.empty).size → Ending.returned (.bool false) = .returned (.bool (decide (shortL ts m)))) := ⟨fun k hk h => by
    rw [decide_eq_false]; intro hs; have := shortL_at hs (by rw [hl]; exact hk); omega⟩
  have HT : Hd ((∀ k, k < n → (ts.getD k ByteArray.empty).size ≤ 255) → Ending.returned (.bool (decide (n ≤ m))) = .returned (.bool (decide (shortL ts m)))) := ⟨fun h => by
    congr 2
    have : ∀ t ∈ ts, t.size ≤ 255 := fun t ht => by
      obtain ⟨k, hk, rfl⟩ := List.getElem_of_mem ht
      have := h k (by rw [← hl]; exact hk)
      rwa [List.getD_eq_getElem?_getD, List.getElem?_eq_getElem hk] at this
    rw [decide_eq_decide]; unfold shortL; rw [hl]; exact ⟨fun h => ⟨h, this⟩, fun h => h.1⟩⟩
  go_enter Try.func66, Try.ntmps66
  go_wp2_with fail
  go_loop [9] (fun i => ∃ k : Nat, k ≤ n ∧ i = .int .i64 k ∧ Hd (∀ j, j < k → (ts.getD j ByteArray.empty).size ≤ 255)) (fun i => n - (intOf i).toNat)
  case atStart => exact ⟨0, by omega, rfl, ⟨fun j hj => by omega⟩⟩
  case round =>
    obtain ⟨k, hk, rfl, HP⟩ := hrel
    by_cases hlt : k < n
    · obtain ⟨g, off, u, hA, _, hx, hc⟩ := HH.out.at_ hlt
      rw [cs_get _ _ (by rw [hl]; exact hlt)] at hx
      injection hx with hx
      subst hx hA
      have HFk := Hd.mk (HF.out k hlt)
      have HPk : Hd ((ts.getD k ByteArray.empty).size ≤ 255 → ∀ j, j < k + 1 → (ts.getD j ByteArray.empty).size ≤ 255) := ⟨fun h j hj => by
        by_cases e : j = k
        · subst e; exact h
        · exact HP.out j (by omega)⟩
      obtain ⟨t, ht⟩ : ∃ t, ts.getD k ByteArray.empty = t := ⟨_, rfl⟩
      rw [ht] at hc HFk HPk
      by_cases h5 : t.size ≤ 255
      · go_wp2_with fail
        go_round
        case rel => first
          | exact ⟨k + 1, by omega, by go_num, ⟨HPk.out h5⟩⟩
          | exact ⟨_, _, ⟨k + 1, by omega, rfl, ⟨HPk.out h5⟩⟩, rfl, by go_num⟩
        case measure => simp [intOf]; omega
      · go_wp2_with fail
        go_ret
        exact ⟨HFk.out (by omega), rfl⟩
    · have hkn : k = n := by omega
      subst hkn
      go_wp2_with fail
      go_ret
      exact ⟨by rw [← HT.out HP.out]; simp, rfl⟩
open Classical in
theorem brief_any (w : World) (A : Option Addr) (n c B m : Nat) (ts : List ByteArray) (hr : Rd w B A n (cs ts)) (hn : n ≤ 8796093022000) :
    Calls Try.prog 63 #[.slice A n c, .int .i64 (m : Int)] w fun e w' => e = .returned (.bool (decide (shortL ts m))) ∧ w' = w := by
  have hl : ts.length = n := by have := hr.1; rwa [cs_len] at this
  have HH := Hd.mk hr
  clear hr
  have HF : Hd (∀ k, k < n → 255 < (ts.getD k ByteArray.empty).size → Ending.returned (.bool false) = .returned (.bool (decide (shortL ts m)))) := ⟨fun k hk h => by
    rw [decide_eq_false]; intro hs; have := shortL_at hs (by rw [hl]; exact hk); omega⟩
  have HT : Hd ((∀ k, k < n → (ts.getD k ByteArray.empty).size ≤ 255) → Ending.returned (.bool (decide (n ≤ m))) = .returned (.bool (decide (shortL ts m)))) := ⟨fun h => by
    congr 2
    have : ∀ t ∈ ts, t.size ≤ 255 := fun t ht => by
      obtain ⟨k, hk, rfl⟩ := List.getElem_of_mem ht
      have := h k (by rw [← hl]; exact hk)
      rwa [List.getD_eq_getElem?_getD, List.getElem?_eq_getElem hk] at this
    rw [decide_eq_decide]; unfold shortL; rw [hl]; exact ⟨fun h => ⟨h, this⟩, fun h => h.1⟩⟩
  go_enter Try.func63, Try.ntmps63
  go_wp2_with fail
  go_loop [5] (fun i => ∃ k : Nat, k ≤ n ∧ i = .int .i64 k ∧ Hd (∀ j, j < k → (ts.getD j ByteArray.empty).size ≤ 255)) (fun i => n - (intOf i).toNat)
  case atStart => exact ⟨0, by omega, rfl, ⟨fun j hj => by omega⟩⟩
  case round =>
    obtain ⟨k, hk, rfl, HP⟩ := hrel
    by_cases hlt : k < n
    · obtain ⟨g, off, u, hA, _, hx, hc⟩ := HH.out.at_ hlt
      rw [cs_get _ _ (by rw [hl]; exact hlt)] at hx
      injection hx with hx
      subst hx hA
      have HFk := Hd.mk (HF.out k hlt)
      have HPk : Hd ((ts.getD k ByteArray.empty).size ≤ 255 → ∀ j, j < k + 1 → (ts.getD j ByteArray.empty).size ≤ 255) := ⟨fun h j hj => by
        by_cases e : j = k
        · subst e; exact h
        · exact HP.out j (by omega)⟩
      obtain ⟨t, ht⟩ : ∃ t, ts.getD k ByteArray.empty = t := ⟨_, rfl⟩
      rw [ht] at hc HFk HPk
      by_cases h5 : t.size ≤ 255
      · go_wp2_with fail
        go_round
        case rel => first
          | exact ⟨k + 1, by omega, by go_num, ⟨HPk.out h5⟩⟩
          | exact ⟨_, _, ⟨k + 1, by omega, rfl, ⟨HPk.out h5⟩⟩, rfl, by go_num⟩
        case measure => simp [intOf]; omega
      · go_wp2_with fail
        go_ret
        exact ⟨HFk.out (by omega), rfl⟩
    · have hkn : k = n := by omega
      subst hkn
      go_wp2_with fail
      go_ret
      exact ⟨by rw [← HT.out HP.out]; simp, rfl⟩
end Go.Proofs.Ytbcmjjcbjojakaa
