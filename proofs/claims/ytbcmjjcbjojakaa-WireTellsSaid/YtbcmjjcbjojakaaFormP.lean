/- Plain: a content in its chunks. -/
import Derived.Test.YtbcmjjcbjojakaaPutsL
import Derived.Test.YtbcmjjcbjojakaaStream
import Derived.Test.YtbcmjjcbjojakaaRef
namespace Go.Proofs.Ytbcmjjcbjojakaa
open Go.RowKit
set_option linter.unusedVariables false
/-- A chunk's head: its kind and how many bytes follow. -/
def hd3 (c : List Nat) : List Nat := fx 1 (if c.length ≤ 16384 then 2 else 1) ++ fx 2 (min c.length 16384)
/-- One chunk, where s is the sum of those ahead. -/
def chk (s : Nat) (c : List Nat) : List Nat := hd3 c ++ fx 4 (Crc.more 0 (hd3 c)) ++ c.take (min c.length 16384) ++ fx 4 (Crc.more s (c.take (min c.length 16384)))
def fmF : Nat → Nat → List Nat → List Nat
  | 0, _, _ => []
  | f + 1, s, c => if c = [] then [] else chk s c ++ fmF f (Crc.more s (c.take (min c.length 16384))) (c.drop (min c.length 16384))
def formP (c : List Nat) : List Nat := fmF c.length 0 c
theorem fmF_nil (f s : Nat) : fmF f s [] = [] := by cases f <;> simp [fmF]
theorem fmF_step (f s : Nat) (c : List Nat) (h : 0 < c.length) : fmF (f + 1) s c = chk s c ++ fmF f (Crc.more s (c.take (min c.length 16384))) (c.drop (min c.length 16384)) := by
  have : c ≠ [] := by intro e; subst e; simp at h
  simp [fmF, this]
theorem chk_len (s : Nat) (c : List Nat) : (chk s c).length = min c.length 16384 + 11 := by
  unfold chk hd3; simp only [List.length_append, fx_len, List.length_take]; omega
theorem sliceLen_ : True := trivial
/-- How many elements a slice has. -/
def sliceLen : Value → Nat
  | .slice _ n _ => n
  | _ => 0
theorem cb_take (bs : List Nat) (k : Nat) : (cb bs).take k = cb (bs.take k) := by unfold cb; rw [List.map_take]
theorem cb_drop (bs : List Nat) (k : Nat) : (cb bs).drop k = cb (bs.drop k) := by unfold cb; rw [List.map_drop]
theorem own_keepBlock {w w' : World} {base e n g : Nat} {v : Value} {xs : List Value} (h : w.ownsRow base e 1 v n xs) (hg : w.grownBy w' (some g)) (hne : v.ownBlock ≠ some g) : w'.ownsRow base e 1 v n xs :=
  h.kept hg (by
    cases hv : v.ownBlock with
    | none => exact .inl rfl
    | some k => exact .inr fun e => hne (by rw [hv, e]))
theorem own_below' {w w' : World} {base e n : Nat} {v : Value} {xs : List Value} (h : w.ownsRow base e 1 v n xs) (b : Below w.heap.size w w') : w'.ownsRow base e 1 v n xs :=
  ⟨h.1, h.2.imp id fun ⟨g, cap, cur, hv, hg, hh, r⟩ => ⟨g, cap, cur, hv, hg, by rw [b.block g (Array.getElem?_eq_some_iff.1 hh).1]; exact hh, r⟩⟩
theorem own_base {w : World} {base base' e n : Nat} {v : Value} {xs : List Value} (h : w.ownsRow base e 1 v n xs) (hb : base' ≤ base) : w.ownsRow base' e 1 v n xs :=
  ⟨h.1, h.2.imp id fun ⟨g, cap, cur, hv, hg, r⟩ => ⟨g, cap, cur, hv, Nat.le_trans hb hg, r⟩⟩
/-- What may still be cut from its beginning. -/
theorem rd_from {w : World} {B n c p : Nat} {A : Option Addr} {bs : List Nat} (h : Rd w B A n (cb bs)) (hp : p ≤ n) (hn : n ≤ c) : Rd w B (cutA A c p) (n - p) (cb (bs.drop p)) := by
  have := h.cut (l := p) (h := n) hp (Nat.le_refl _) hn
  rw [cb_drop, cb_take, List.take_of_length_le (by have := h.1; rw [cb_length] at this; rw [List.length_drop]; omega)] at this
  exact this
end Go.Proofs.Ytbcmjjcbjojakaa
