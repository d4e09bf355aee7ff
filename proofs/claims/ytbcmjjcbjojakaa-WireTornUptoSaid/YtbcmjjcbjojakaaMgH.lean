/- Put together of: TalkW EndsW CrcLin CrcBit TornP TornW TornEnd ArgTalk Weigh. -/
import Derived.Test.YtbcmjjcbjojakaaMgE
import Derived.Test.YtbcmjjcbjojakaaHeldBy
import Derived.Deep.Cut
import Derived.Deep.CutRange
import Derived.Test.YtbcmjjcbjojakaaCrc
import Derived.Test.YtbcmjjcbjojakaaGoneLaw
import Derived.Test.YtbcmjjcbjojakaaMgD
import Derived.Test.YtbcmjjcbjojakaaMgC
import Derived.Test.YtbcmjjcbjojakaaArgs
import Derived.Test.YtbcmjjcbjojakaaProg
import Derived.KernelRfl
section
/- The walk of WireBack: it returns true. -/
namespace Go.Proofs.Ytbcmjjcbjojakaa
open Go.RowKit
set_option linter.unusedVariables false
set_option linter.unusedSimpArgs false
theorem talk_ok : (Try.prog.info? 95).map (·.size) = some 4 := infoTalk
/-- All the forms are read as their messages. -/
theorem go_all {T : Type} {Z : Kd T} {cont : T → List Nat} {ms : List T} {w : World} {arg : Array Value} (h : TL Z cont ms w arg) : go Z.rd mid0 (preF cont ms ms.length) = ⟨ms, 0, mid0, []⟩ := by
  have := go_puts (rd := Z.rd) (cont := cont) [] ms h.ok
  rw [List.append_nil] at this
  unfold preF
  rw [List.take_length, this]
  have e : go Z.rd mid0 [] = ⟨[], 0, mid0, []⟩ := go_wait (ckP_nil _ _)
  rw [e]; simp
end Go.Proofs.Ytbcmjjcbjojakaa
end
section
/- The walk of WireEnds: it returns true. (tools/endsgen.py prints it.) -/
namespace Go.Proofs.Ytbcmjjcbjojakaa
open Go.RowKit
set_option linter.unusedVariables false
set_option linter.unusedSimpArgs false
theorem step_boxedT {P : Program} {ops : Array Oper} {o : Oper} {a : Act} {w : World} {Q : Exit → Act → World → Prop} {K : Act → World → Prop} {Z : Prop} (hgd : o.guard = none) (ty : TypeId) (x y : Operand) (ho : o.op = .store ty x y)
    (g : Nat) (cells : Array Value) (hx : a.eval x = .pointer (some ⟨g, 0, none⟩)) (hy : a.eval y = .agg cells) (t : TypeId) (old : Array Value) (hg : w.heap[g]? = some (.cells old t (0, 0))) (hi : (P.info? ty).map (·.size) = some cells.size)
    (hold : old.size = cells.size) (h1 : cells.all (·.oneCell') = true)
    (h : ∀ w2, Hd (w2.heap[g]? = some (.cells cells t (0, 0)) ∧ w.grownBy w2 (some g) ∧ w2.heap.size = w.heap.size) → K (a.put o.dst undef) w2) :
    if Region.wanted o (yielded ops a.tmps) = true then Oper.wp P o a w K Q else Z := by
  have hw : Region.wanted o (yielded ops a.tmps) = true := by simp [Region.wanted, hgd]
  rw [if_pos hw]
  exact wp_store_row ty x y ho g cells hx hy t old hg hi hold h1 (h _ ⟨setRow_heap _ _ _ _ _ _ hg, ⟨rfl, rfl, rfl, by simp [World.setRow], fun k _ hk => setRow_other w g k cells (fun e => hk (by rw [e]))⟩, by simp [World.setRow]⟩)
/-- The forms' ends grow. -/
theorem preF_mono {M : Type} (cont : M → List Nat) (ms : List M) {i j : Nat} (h : i ≤ j) : (preF cont ms i).length ≤ (preF cont ms j).length := by
  unfold preF
  have e : ms.take i = (ms.take j).take i := by rw [List.take_take, Nat.min_eq_left h]
  rw [e]
  conv => rhs; rw [← List.take_append_drop i (ms.take j), List.flatMap_append, List.length_append]
  omega
/-- The same place. -/
theorem ends_one {M : Type} {cont : M → List Nat} {ms : List M} {i n a : Nat} (h1 : n ≤ ms.length) (h2 : (preF cont ms n).length ≤ a) (h3 : n < ms.length → a < (preF cont ms (n + 1)).length) (k1 : i ≤ ms.length) (k2 : (preF cont ms i).length ≤ a) (k3 : i < ms.length → a < (preF cont ms (i + 1)).length) : i = n := by
  rcases Nat.lt_trichotomy i n with h | h | h
  · have := preF_mono cont ms (show i + 1 ≤ n by omega); have := k3 (by omega); omega
  · exact h
  · have := preF_mono cont ms (show n + 1 ≤ i by omega); have := h3 (by omega); omega
/-- What hear answers of a beginning. -/
structure EndH {T : Type} (Z : Kd T) (ms : List T) (w3 wx : World) (w : World) (n0 : Nat) (hd : Int) (p : Value) (fl : Int) : Prop where
  ex : ∃ (g8 : Nat) (Q7 : Option Addr) (k7 : Nat) (hs : List Wm) (x0 x1 : Value), p = .pointer (some ⟨g8, 0, none⟩) ∧ hdC Z.ans (.slice Q7 n0 k7) fl hd = #[x0, x1, .int .i64 fl, .int .i64 hd] ∧ wx.heap[g8]? = some (.cells #[x0, x1, .int .i64 fl, .int .i64 hd] 75) ∧
    Que wx w.heap.size Z.e Z.m (.slice Q7 n0 k7) hs ∧ (∀ V ∈ hs, V.ok wx w.heap.size) ∧ Alike Z.is hs (ms.take n0)
  be : Below w3.heap.size w3 wx
theorem hd_parts {T : Type} {Z : Kd T} {w : World} {base : Nat} {v : Value} {hs : List Wm} {n0 : Nat} {fl hd : Int} (hq : Que w base Z.e Z.m v hs) (hl : hs.length = n0) : ∃ (Q7 : Option Addr) (k7 : Nat) (x0 x1 : Value), v = .slice Q7 n0 k7 ∧ hdC Z.ans (.slice Q7 n0 k7) fl hd = #[x0, x1, .int .i64 fl, .int .i64 hd] ∧ (#[x0, x1, .int .i64 fl, .int .i64 hd] : Array Value).all (·.oneCell') = true := by
  obtain ⟨Q7, k7, hv, _⟩ := hq.form
  rw [hl] at hv
  have hone := hd_one (ans := Z.ans) (fl := fl) (held := hd) hq.one
  rw [hv] at hone
  exact ⟨Q7, k7, _, _, hv, rfl, hone⟩
end Go.Proofs.Ytbcmjjcbjojakaa
end
section
/- The sums are linear: plain. -/
namespace Go.Proofs.Ytbcmjjcbjojakaa
namespace Crc
/-- Two texts put together. -/
def xl (a b : List Nat) : List Nat := List.zipWith (· ^^^ ·) a b
theorem xl_len (a b : List Nat) : (xl a b).length = min a.length b.length := List.length_zipWith
theorem xl_get (a b : List Nat) (k : Nat) (ha : k < a.length) (hb : k < b.length) : (xl a b)[k]? = some (a.getD k 0 ^^^ b.getD k 0) := by
  unfold xl
  rw [List.getElem?_zipWith, List.getElem?_eq_getElem ha, List.getElem?_eq_getElem hb, List.getD_eq_getElem?_getD, List.getD_eq_getElem?_getD, List.getElem?_eq_getElem ha, List.getElem?_eq_getElem hb]; rfl
theorem xl_take (a b : List Nat) (k : Nat) (ha : k < a.length) (hb : k < b.length) : (xl a b).take (k + 1) = (xl a b).take k ++ [a.getD k 0 ^^^ b.getD k 0] := by
  have hk : k < (xl a b).length := by rw [xl_len]; omega
  rw [List.take_succ_eq_append_getElem hk]
  have := xl_get a b k ha hb
  rw [List.getElem?_eq_getElem hk] at this
  injection this with this
  rw [this]
theorem xl_lt (a b : List Nat) (ha : ∀ x ∈ a, x < 256) (hb : ∀ x ∈ b, x < 256) : ∀ x ∈ xl a b, x < 256 := by
  intro x hx
  obtain ⟨k, hk, rfl⟩ := List.getElem_of_mem hx
  have hk' := hk
  rw [xl_len] at hk'
  have := xl_get a b k (by omega) (by omega)
  rw [List.getElem?_eq_getElem hk] at this
  injection this with this
  rw [this]
  refine Nat.xor_lt_two_pow (n := 8) ?_ ?_
  · rw [List.getD_eq_getElem?_getD, List.getElem?_eq_getElem (by omega)]; exact ha _ (List.getElem_mem _)
  · rw [List.getD_eq_getElem?_getD, List.getElem?_eq_getElem (by omega)]; exact hb _ (List.getElem_mem _)
theorem ov_xor : ∀ (a b : List Nat) (r s : Nat), a.length = b.length → ov (r ^^^ s) (xl a b) = ov r a ^^^ ov s b
  | [], [], r, s, _ => rfl
  | [], _ :: _, _, _, h => by simp at h
  | _ :: _, [], _, _, h => by simp at h
  | x :: a, y :: b, r, s, h => by
    have e : xl (x :: a) (y :: b) = (x ^^^ y) :: xl a b := rfl
    rw [e, ov_cons, ov_cons, ov_cons, ← ov_xor a b _ _ (by simpa using h), ← itT_xor]
    congr 2
    rw [Nat.xor_assoc, Nat.xor_assoc, ← Nat.xor_assoc s x y, Nat.xor_comm s x, Nat.xor_assoc]
theorem not_xor (x : Nat) (h : x < 2 ^ 32) : 4294967295 - x = x ^^^ 4294967295 := by
  apply Nat.eq_of_testBit_eq; intro i
  rw [show 4294967295 - x = 2 ^ 32 - (x + 1) by omega, Nat.testBit_two_pow_sub_succ (n := 32) (x := x) (by omega) i, Nat.testBit_xor, show 4294967295 = 2 ^ 32 - 1 from rfl, Nat.testBit_two_pow_sub_one]
  by_cases hi : i < 32
  · simp [hi]
  · have : x.testBit i = false := Nat.testBit_lt_two_pow (Nat.lt_of_lt_of_le h (Nat.pow_le_pow_right (by omega) (by omega)))
    simp [hi, this]
theorem more0 (l : List Nat) (hl : ∀ x ∈ l, x < 256) : more 0 l = ov 4294967295 l ^^^ 4294967295 := by
  unfold more
  rw [Nat.sub_zero, not_xor _ (ov_lt l _ (by omega) hl)]
/-- Of two texts of one length: what they make together is blind just if their sums are one. -/
theorem blind_xl (a b : List Nat) (h : a.length = b.length) (ha : ∀ x ∈ a, x < 256) (hb : ∀ x ∈ b, x < 256) : ov 0 (xl a b) = more 0 a ^^^ more 0 b := by
  rw [more0 a ha, more0 b hb]
  have : ov 0 (xl a b) = ov (4294967295 ^^^ 4294967295) (xl a b) := by rw [Nat.xor_self]
  rw [this, ov_xor a b _ _ h, Nat.xor_comm (ov 4294967295 b) 4294967295, Nat.xor_assoc, ← Nat.xor_assoc 4294967295 4294967295, Nat.xor_self, Nat.zero_xor]
theorem xor_eq_zero (a b : Nat) : a ^^^ b = 0 ↔ a = b := by
  constructor
  · intro h
    have : a = a ^^^ b ^^^ b := by rw [Nat.xor_assoc, Nat.xor_self, Nat.xor_zero]
    rw [this, h, Nat.zero_xor]
  · intro h; rw [h, Nat.xor_self]
theorem blind_iff (a b : List Nat) (h : a.length = b.length) (ha : ∀ x ∈ a, x < 256) (hb : ∀ x ∈ b, x < 256) : ov 0 (xl a b) = 0 ↔ more 0 a = more 0 b := by
  rw [blind_xl a b h ha hb, xor_eq_zero]
theorem more_xl3 (a b c : List Nat) (h : a.length = b.length) (h2 : b.length = c.length) (ha : ∀ x ∈ a, x < 256) (hb : ∀ x ∈ b, x < 256) (hc : ∀ x ∈ c, x < 256) :
    more 0 (xl (xl a b) c) = more 0 a ^^^ more 0 b ^^^ more 0 c := by
  have hab := xl_lt a b ha hb
  have l1 : (xl a b).length = c.length := by rw [xl_len]; omega
  rw [more0 _ (xl_lt _ c hab hc), ← blind_xl a b h ha hb, more0 c hc]
  have e : ov 4294967295 (xl (xl a b) c) = ov (0 ^^^ 4294967295) (xl (xl a b) c) := by rw [Nat.zero_xor]
  rw [e, ov_xor _ c _ _ l1, Nat.xor_assoc]
end Crc
end Go.Proofs.Ytbcmjjcbjojakaa
end
section
/- What one bit turned makes of the register: plain. -/
namespace Go.Proofs.Ytbcmjjcbjojakaa
namespace Crc
/-- A bit turned, counted in order. -/
def lay (l : List Nat) (p : Nat) : List Nat := l.set (p / 8) (l.getD (p / 8) 0 ^^^ 2 ^ (p % 8))
theorem lay_len (l : List Nat) (p : Nat) : (lay l p).length = l.length := by simp [lay]
theorem lay_lt (l : List Nat) (p : Nat) (h : ∀ x ∈ l, x < 256) (hp : p / 8 < l.length) : ∀ x ∈ lay l p, x < 256 := by
  intro x hx
  rcases List.mem_or_eq_of_mem_set hx with h1 | h1
  · exact h x h1
  · rw [h1]
    refine Nat.xor_lt_two_pow (n := 8) ?_ (Nat.pow_lt_pow_right (by omega) (by omega))
    rw [List.getD_eq_getElem?_getD, List.getElem?_eq_getElem hp]; exact h _ (List.getElem_mem _)
theorem itT_pow : ∀ (m i : Nat), i ≤ m → itT m (2 ^ i) = itT (m - i) 1
  | m, i, h => by
    have := itT_add i (m - i) (2 ^ i)
    rw [show i + (m - i) = m by omega] at this
    rw [this]
    have e := itT_shift i 1
    rw [Nat.mul_one] at e
    rw [e]
/-- The register is linear in the first and in the bytes. -/
theorem ov_turn : ∀ (l : List Nat) (r q : Nat), ov (r ^^^ q) l = ov r l ^^^ itT (8 * l.length) q
  | [], r, q => rfl
  | x :: l, r, q => by
    rw [ov_cons, ov_cons, Nat.xor_assoc, Nat.xor_comm q x, ← Nat.xor_assoc, itT_xor, ov_turn l, List.length_cons, ← itT_add]
    congr 2; omega
theorem ov_lay : ∀ (l : List Nat) (r p : Nat), p < 8 * l.length → ov r (lay l p) = ov r l ^^^ itT (8 * l.length - p) 1
  | [], r, p, h => by simp at h
  | x :: l, r, p, h => by
    by_cases hp : p < 8
    · have e : lay (x :: l) p = (x ^^^ 2 ^ p) :: l := by
        unfold lay
        rw [show p / 8 = 0 by omega, show p % 8 = p by omega]; rfl
      rw [e, ov_cons, ov_cons, ← Nat.xor_assoc, itT_xor, ov_turn, ← itT_add, List.length_cons, show 8 + 8 * l.length = 8 * (l.length + 1) by omega, itT_pow _ _ (by omega)]
    · have e : lay (x :: l) p = x :: lay l (p - 8) := by
        unfold lay
        rw [show p / 8 = (p - 8) / 8 + 1 by omega, show p % 8 = (p - 8) % 8 by omega]; rfl
      rw [e, ov_cons, ov_cons, ov_lay l _ (p - 8) (by simp at h; omega), List.length_cons]
      congr 2; omega
theorem M_big : 2 ^ 31 ≤ M := by decide
theorem T_inj (r : Nat) (h : r < 2 ^ 32) (h0 : T r = 0) : r = 0 := by
  unfold T at h0
  have hM := M_big
  split at h0
  · rw [xor_eq_zero] at h0; omega
  · omega
theorem itT_inj : ∀ (n r : Nat), r < 2 ^ 32 → itT n r = 0 → r = 0
  | 0, _, _, h => h
  | n + 1, r, h, h0 => T_inj r h (itT_inj n _ (T_lt r h) h0)
end Crc
end Go.Proofs.Ytbcmjjcbjojakaa
end
section
/- Plain: bits of the forms are turned, all within 32: the messages ahead are told, no other one, and the fault. -/
namespace Go.Proofs.Ytbcmjjcbjojakaa
open Go.RowKit
set_option linter.unusedVariables false
/-- The bytes with the bits of Z turned. -/
def xf (b : List Nat) (Z : Nat) : List Nat := Crc.xl b (fx b.length Z)
theorem xf_len (b : List Nat) (Z : Nat) : (xf b Z).length = b.length := by unfold xf; rw [Crc.xl_len, fx_len]; omega
theorem fx_get (n Z i : Nat) (h : i < n) : (fx n Z)[i]? = some (Z / 2 ^ (8 * i) % 256) := by
  unfold fx; rw [List.getElem?_map, List.getElem?_range h]; rfl
theorem xf_get (b : List Nat) (Z i : Nat) (h : i < b.length) : (xf b Z)[i]? = some (b.getD i 0 ^^^ (Z / 2 ^ (8 * i) % 256)) := by
  unfold xf
  rw [Crc.xl_get _ _ i h (by rw [fx_len]; exact h), List.getD_eq_getElem?_getD (l := fx _ _), fx_get _ _ _ h]; rfl
theorem fx_add (m n Z : Nat) : fx (m + n) Z = fx m Z ++ fx n (Z / 2 ^ (8 * m)) := by
  refine List.ext_getElem? fun i => ?_
  by_cases h : i < m
  · rw [List.getElem?_append_left (by rw [fx_len]; exact h), fx_get _ _ _ (by omega), fx_get _ _ _ h]
  · rw [List.getElem?_append_right (by rw [fx_len]; omega), fx_len]
    by_cases h2 : i < m + n
    · rw [fx_get _ _ _ h2, fx_get _ _ _ (by omega), Nat.div_div_eq_div_mul, ← Nat.pow_add]
      congr 4; omega
    · rw [List.getElem?_eq_none (by rw [fx_len]; omega), List.getElem?_eq_none (by rw [fx_len]; omega)]
theorem xl_app : ∀ (a b c d : List Nat), a.length = c.length → Crc.xl (a ++ b) (c ++ d) = Crc.xl a c ++ Crc.xl b d
  | [], b, [], d, _ => rfl
  | x :: a, b, y :: c, d, h => by
    have := xl_app a b c d (by simpa using h)
    unfold Crc.xl at this ⊢
    simp only [List.cons_append, List.zipWith_cons_cons, this]
  | [], b, y :: c, d, h => by simp at h
  | x :: a, b, [], d, h => by simp at h
theorem xf_app (a b : List Nat) (Z : Nat) : xf (a ++ b) Z = xf a Z ++ xf b (Z / 2 ^ (8 * a.length)) := by
  unfold xf
  rw [List.length_append, fx_add, xl_app _ _ _ _ (by rw [fx_len])]
theorem xf_zero (b : List Nat) (Z : Nat) (h : Z % 2 ^ (8 * b.length) = 0) : xf b Z = b := by
  refine List.ext_getElem? fun i => ?_
  by_cases hi : i < b.length
  · rw [xf_get b Z i hi, List.getD_eq_getElem?_getD, List.getElem?_eq_getElem hi]
    have : Z / 2 ^ (8 * i) % 256 = 0 := by
      obtain ⟨q, hq⟩ := Nat.dvd_of_mod_eq_zero h
      rw [hq, show 8 * b.length = 8 * i + (8 + 8 * (b.length - i - 1)) by omega, Nat.pow_add, Nat.mul_assoc, Nat.mul_div_cancel_left _ (Nat.two_pow_pos _), Nat.pow_add, Nat.mul_assoc]
      exact Nat.mul_mod_right _ _
    rw [this, Nat.xor_zero]; rfl
  · rw [List.getElem?_eq_none (by rw [xf_len]; omega), List.getElem?_eq_none (by omega)]
theorem fx_mod (n Z : Nat) : fx n (Z % 2 ^ (8 * n)) = fx n Z := by
  unfold fx
  refine List.map_congr_left fun i hi => ?_
  have hi := List.mem_range.1 hi
  have h8 : (256 : Nat) = 2 ^ 8 := rfl
  apply Nat.eq_of_testBit_eq; intro j
  rw [h8, Nat.testBit_mod_two_pow, Nat.testBit_mod_two_pow, Nat.testBit_div_two_pow, Nat.testBit_div_two_pow, Nat.testBit_mod_two_pow]
  by_cases hj : j < 8
  · have : j + 8 * i < 8 * n := by omega
    simp [hj, this]
  · simp [hj]
theorem ov_fx : ∀ (m r V : Nat), V < 2 ^ (8 * m) → Crc.ov r (fx m V) = Crc.itT (8 * m) (r ^^^ V)
  | 0, r, V, h => by
    have : V = 0 := by simpa using h
    subst this; simp [fx, Crc.ov, Crc.itT]
  | m + 1, r, V, h => by
    have hV : V % 256 + 256 * (V / 256) = V := Nat.mod_add_div V 256
    have e := fx_cons m (V % 256) (V / 256) (Nat.mod_lt _ (by omega))
    rw [hV] at e
    rw [e, Crc.ov_cons, ov_fx m _ (V / 256) (by
      rw [Nat.div_lt_iff_lt_mul (by omega)]
      have : 2 ^ (8 * (m + 1)) = 2 ^ (8 * m) * 256 := by rw [Nat.mul_add, Nat.pow_add]
      omega)]
    have hs := Crc.xor_split 8 V
    have h8 : (2 : Nat) ^ 8 = 256 := rfl
    rw [h8] at hs
    have e2 : Crc.itT 8 (r ^^^ V) = Crc.itT 8 (r ^^^ V % 256) ^^^ V / 256 := by
      conv => lhs; rw [hs]
      rw [Nat.xor_comm (256 * (V / 256)) (V % 256), ← Nat.xor_assoc, Crc.itT_xor _ (r ^^^ V % 256)]
      congr 1
      exact Crc.itT_shift 8 (V / 256)
    rw [show 8 * (m + 1) = 8 + 8 * m by omega, Crc.itT_add, e2]
/-- A pattern within 32 bits. -/
def Bz (Z : Nat) : Prop := ∃ f P, P < 2 ^ 32 ∧ Z = 2 ^ f * P
theorem Bz.div {Z : Nat} (h : Bz Z) (k : Nat) : Bz (Z / 2 ^ k) := by
  obtain ⟨f, P, hP, rfl⟩ := h
  by_cases hk : k ≤ f
  · refine ⟨f - k, P, hP, ?_⟩
    rw [show f = k + (f - k) by omega, Nat.pow_add, Nat.mul_assoc, Nat.mul_div_cancel_left _ (Nat.two_pow_pos _), show k + (f - k) - k = f - k by omega]
  · refine ⟨0, P / 2 ^ (k - f), Nat.lt_of_le_of_lt (Nat.div_le_self _ _) hP, ?_⟩
    rw [Nat.pow_zero, Nat.one_mul, show k = f + (k - f) by omega, Nat.pow_add, ← Nat.div_div_eq_div_mul, Nat.mul_div_cancel_left _ (Nat.two_pow_pos _), show f + (k - f) - f = k - f by omega]
theorem Bz.mod {Z : Nat} (h : Bz Z) (k : Nat) : Bz (Z % 2 ^ k) := by
  obtain ⟨f, P, hP, rfl⟩ := h
  by_cases hk : f ≤ k
  · refine ⟨f, P % 2 ^ (k - f), Nat.lt_of_le_of_lt (Nat.mod_le _ _) hP, ?_⟩
    rw [show k = f + (k - f) by omega, Nat.pow_add, Nat.mul_mod_mul_left, show f + (k - f) - f = k - f by omega]
  · refine ⟨0, 0, by omega, ?_⟩
    rw [show f = k + (f - k) by omega, Nat.pow_add, Nat.mul_assoc, Nat.mul_mod_right, Nat.mul_zero]
theorem burst_ne {V n : Nat} (h : Bz V) (hV : V < 2 ^ n) (h0 : V ≠ 0) : Crc.itT n V ≠ 0 := by
  obtain ⟨f, P, hP, rfl⟩ := h
  have hP0 : P ≠ 0 := by intro e; subst e; simp at h0
  have hf : f ≤ n := by
    by_cases hf : f ≤ n
    · exact hf
    · have h1 : 2 ^ n ≤ 2 ^ f := Nat.pow_le_pow_right (by omega) (by omega)
      have h2 : 2 ^ f ≤ 2 ^ f * P := Nat.le_mul_of_pos_right _ (by omega)
      omega
  rw [show n = f + (n - f) by omega, Crc.itT_add, Crc.itT_shift]
  exact fun e => hP0 (Crc.itT_inj _ _ hP e)
/-- A word: bytes and their sum. -/
theorem ov_word (s : Nat) (c q : List Nat) (hs : s < 4294967296) (hc : ∀ x ∈ c, x < 256) (hq : ∀ x ∈ q, x < 256) (hl : q.length = 4) (h : Crc.more s c = le256 q) : Crc.ov (4294967295 - s) (c ++ q) = Crc.itT 32 4294967295 := by
  have hq4 : fx 4 (le256 q) = q := by rw [← hl]; exact fx_le256 q hq
  have hr : Crc.ov (4294967295 - s) c < 2 ^ 32 := Crc.ov_lt c _ (by omega) hc
  have hlt := le256_lt q hq
  rw [hl] at hlt
  rw [Crc.ov_append, ← hq4, ov_fx 4 _ _ (by simpa using hlt), ← h]
  unfold Crc.more
  rw [Crc.not_xor _ hr, ← Nat.xor_assoc, Nat.xor_self, Nat.zero_xor]
theorem word_bad (s : Nat) (c : List Nat) (Z : Nat) (hs : s < 4294967296) (hc : ∀ x ∈ c, x < 256) (hb : Bz Z) (h0 : Z % 2 ^ (8 * (c.length + 4)) ≠ 0) :
    Crc.more s ((xf (c ++ fx 4 (Crc.more s c)) Z).take c.length) ≠ le256 ((xf (c ++ fx 4 (Crc.more s c)) Z).drop c.length) := by
  intro e
  obtain ⟨u, hu⟩ : ∃ u, c ++ fx 4 (Crc.more s c) = u := ⟨_, rfl⟩
  have hul : u.length = c.length + 4 := by rw [← hu, List.length_append, fx_len]
  have hu8 : ∀ x ∈ u, x < 256 := fun x hx => by rw [← hu] at hx; exact (List.mem_append.1 hx).elim (hc x) (fx_lt _ _ x)
  have hx8 : ∀ x ∈ xf u Z, x < 256 := Crc.xl_lt _ _ hu8 (fx_lt _ _)
  rw [hu] at e
  have k1 : Crc.ov (4294967295 - s) u = Crc.itT 32 4294967295 := by
    rw [← hu]
    exact ov_word s c _ hs hc (fx_lt _ _) (fx_len _ _) (by rw [le256_fx]; exact (Nat.mod_eq_of_lt (Crc.more_lt _ _)).symm)
  have k2 : Crc.ov (4294967295 - s) (xf u Z) = Crc.itT 32 4294967295 := by
    have h1 := ov_word s ((xf u Z).take c.length) ((xf u Z).drop c.length) hs (fun x hx => hx8 x (List.mem_of_mem_take hx)) (fun x hx => hx8 x (List.mem_of_mem_drop hx)) (by rw [List.length_drop, xf_len, hul]; omega) e
    rwa [List.take_append_drop] at h1
  have k3 : Crc.ov (4294967295 - s) (xf u Z) = Crc.ov (4294967295 - s) u ^^^ Crc.itT (8 * u.length) (Z % 2 ^ (8 * u.length)) := by
    have h1 := Crc.ov_xor u (fx u.length Z) (4294967295 - s) 0 (by rw [fx_len])
    rw [Nat.xor_zero, ← fx_mod, ov_fx _ _ _ (Nat.mod_lt _ (Nat.two_pow_pos _)), Nat.zero_xor, fx_mod] at h1
    exact h1
  have k4 : Crc.itT (8 * u.length) (Z % 2 ^ (8 * u.length)) ≠ 0 := burst_ne (hb.mod _) (Nat.mod_lt _ (Nat.two_pow_pos _)) (by rw [hul]; exact h0)
  rw [k2, k1] at k3
  have h5 := congrArg (Crc.itT 32 4294967295 ^^^ ·) k3
  simp only [← Nat.xor_assoc, Nat.xor_self, Nat.zero_xor] at h5
  exact k4 h5.symm
/-- A chunk's head that stands, whatever is behind. -/
theorem ck_head (c X : List Nat) (h0 : 0 < c.length) : ((hd3 c ++ fx 4 (Crc.more 0 (hd3 c))) ++ X).take 3 = hd3 c ∧ seg ((hd3 c ++ fx 4 (Crc.more 0 (hd3 c))) ++ X) 3 4 = fx 4 (Crc.more 0 (hd3 c)) ∧ ckN ((hd3 c ++ fx 4 (Crc.more 0 (hd3 c))) ++ X) = min c.length 16384 ∧ (hd3 c).length = 3 ∧
    (((hd3 c ++ fx 4 (Crc.more 0 (hd3 c))) ++ X).getD 0 0 = 2 ∧ c.length ≤ 16384 ∨ ((hd3 c ++ fx 4 (Crc.more 0 (hd3 c))) ++ X).getD 0 0 = 1 ∧ 16384 < c.length) := by
  obtain ⟨n, hn⟩ : ∃ n, min c.length 16384 = n := ⟨_, rfl⟩
  obtain ⟨kd, hkd⟩ : ∃ q, (if c.length ≤ 16384 then 2 else 1 : Nat) = q := ⟨_, rfl⟩
  have hkd2 : kd = 2 ∧ c.length ≤ 16384 ∨ kd = 1 ∧ 16384 < c.length := by
    by_cases h : c.length ≤ 16384
    · rw [if_pos h] at hkd; exact .inl ⟨hkd.symm, h⟩
    · rw [if_neg h] at hkd; exact .inr ⟨hkd.symm, by omega⟩
  have hd : hd3 c = fx 1 kd ++ fx 2 n := by unfold hd3; rw [hkd, hn]
  have hdl : (hd3 c).length = 3 := by rw [hd, List.length_append, fx_len, fx_len]
  obtain ⟨q1, hq1⟩ : ∃ q, Crc.more 0 (hd3 c) = q := ⟨_, rfl⟩
  rw [hq1, List.append_assoc]
  have t3 : (hd3 c ++ (fx 4 q1 ++ X)).take 3 = hd3 c := List.take_left' hdl
  have s3 : seg (hd3 c ++ (fx 4 q1 ++ X)) 3 4 = fx 4 q1 := seg_mid hdl (fx_len 4 q1)
  have hlen : 3 ≤ (hd3 c ++ (fx 4 q1 ++ X)).length := by rw [List.length_append, hdl]; omega
  have g0 : (hd3 c ++ (fx 4 q1 ++ X)).getD 0 0 = kd := by
    rw [getD_app _ (by omega), hd, getD_app _ (by rw [fx_len]; omega)]
    rcases hkd2 with ⟨rfl, _⟩ | ⟨rfl, _⟩ <;> rfl
  have gN : ckN (hd3 c ++ (fx 4 q1 ++ X)) = n := by
    have h1 := le_two (b := hd3 c ++ (fx 4 q1 ++ X)) hlen
    rw [← h1]
    have : seg (hd3 c ++ (fx 4 q1 ++ X)) 1 2 = fx 2 n := by
      rw [hd, List.append_assoc]; exact seg_mid (fx_len 1 kd) (fx_len 2 n)
    rw [this, le256_fx]
    exact Nat.mod_eq_of_lt (by omega)
  refine ⟨t3, s3, by rw [gN, hn], hdl, ?_⟩
  rw [g0]; exact hkd2
theorem mod_split {Z a b : Nat} (h : Z % 2 ^ (a + b) ≠ 0) (h0 : Z % 2 ^ a = 0) : Z / 2 ^ a % 2 ^ b ≠ 0 := by
  intro e
  rw [Nat.pow_add, Nat.mod_mul, h0, e] at h
  simp at h
/-- A chunk that was turned is told. -/
theorem ck_torn (s k : Nat) (c r : List Nat) (Z : Nat) (h0 : 0 < c.length) (hk : 16384 < c.length → k ≠ 2047) (hs : s < 4294967296) (hc : ∀ x ∈ c, x < 256) (hb : Bz Z) (hz : Z % 2 ^ (8 * (min c.length 16384 + 11)) ≠ 0) :
    ckP s k (xf (chk s c ++ r) Z) = .bad 302 := by
  obtain ⟨n, hn⟩ : ∃ n, min c.length 16384 = n := ⟨_, rfl⟩
  have hn1 : 0 < n ∧ n ≤ 16384 ∧ n ≤ c.length := by omega
  have hct : (c.take n).length = n := by rw [List.length_take]; omega
  have hX : chk s c ++ r = (hd3 c ++ fx 4 (Crc.more 0 (hd3 c))) ++ ((c.take n ++ fx 4 (Crc.more s (c.take n))) ++ r) := by
    unfold chk; rw [hn]; simp only [List.append_assoc]
  have hdl : (hd3 c).length = 3 := (ck_head c [] h0).2.2.2.1
  have hdb : ∀ x ∈ hd3 c, x < 256 := fun x hx => by
    unfold hd3 at hx; exact (List.mem_append.1 hx).elim (fx_lt _ _ x) (fx_lt _ _ x)
  have hw1 : (hd3 c ++ fx 4 (Crc.more 0 (hd3 c))).length = 7 := by rw [List.length_append, hdl, fx_len]
  have hw2 : (c.take n ++ fx 4 (Crc.more s (c.take n))).length = n + 4 := by rw [List.length_append, hct, fx_len]
  rw [hn] at hz
  rw [hX, xf_app (hd3 c ++ fx 4 (Crc.more 0 (hd3 c))) _ Z, xf_app (c.take n ++ fx 4 (Crc.more s (c.take n))) r, hw1]
  by_cases h1 : Z % 2 ^ (8 * 7) = 0
  · rw [xf_zero _ _ (by rw [hw1]; exact h1)]
    obtain ⟨W, hW⟩ : ∃ W, xf (c.take n ++ fx 4 (Crc.more s (c.take n))) (Z / 2 ^ (8 * 7)) = W := ⟨_, rfl⟩
    obtain ⟨R2, hR2⟩ : ∃ W, xf r (Z / 2 ^ (8 * 7) / 2 ^ (8 * (c.take n ++ fx 4 (Crc.more s (c.take n))).length)) = W := ⟨_, rfl⟩
    rw [hW, hR2]
    have hWl : W.length = n + 4 := by rw [← hW, xf_len, hw2]
    have hbad := word_bad s (c.take n) (Z / 2 ^ (8 * 7)) hs (fun x hx => hc x (List.mem_of_mem_take hx)) (hb.div _) (by
      rw [hct]
      refine mod_split ?_ h1
      rw [show 8 * 7 + 8 * (n + 4) = 8 * (n + 11) by omega]; exact hz)
    rw [hW, hct] at hbad
    obtain ⟨t3, s3, gN, _, g0⟩ := ck_head c (W ++ R2) h0
    have hlen : ((hd3 c ++ fx 4 (Crc.more 0 (hd3 c))) ++ (W ++ R2)).length = n + 11 + R2.length := by rw [List.length_append, hw1, List.length_append, hWl]; omega
    have s7 : seg ((hd3 c ++ fx 4 (Crc.more 0 (hd3 c))) ++ (W ++ R2)) 7 n = W.take n := by
      unfold seg
      rw [List.drop_left' hw1, List.take_append_of_le_length (by omega)]
    have s8 : seg ((hd3 c ++ fx 4 (Crc.more 0 (hd3 c))) ++ (W ++ R2)) (7 + n) 4 = W.drop n := by
      unfold seg
      rw [← List.drop_drop, List.drop_left' hw1, List.drop_append_of_le_length (by omega), List.take_left' (by rw [List.length_drop]; omega)]
    rw [hn] at gN
    unfold ckP
    rw [if_neg (by omega), t3, s3, le_fx4 (Crc.more_lt _ _), if_neg (by simp), gN, s7, s8]
    rw [if_neg (by unfold ckOdd; rw [gN]; rcases g0 with ⟨g, h⟩ | ⟨g, h⟩ <;> rw [g] <;> omega), if_neg (by omega), if_pos hbad]
  · obtain ⟨W, hW⟩ : ∃ W, xf (hd3 c ++ fx 4 (Crc.more 0 (hd3 c))) Z = W := ⟨_, rfl⟩
    obtain ⟨R2, hR2⟩ : ∃ W, (xf (c.take n ++ fx 4 (Crc.more s (c.take n))) (Z / 2 ^ (8 * 7)) ++ xf r (Z / 2 ^ (8 * 7) / 2 ^ (8 * (c.take n ++ fx 4 (Crc.more s (c.take n))).length))) = W := ⟨_, rfl⟩
    rw [hW, hR2]
    have hWl : W.length = 7 := by rw [← hW, xf_len, hw1]
    have hbad := word_bad 0 (hd3 c) Z (by omega) hdb hb (by rw [hdl]; exact h1)
    rw [hW, hdl] at hbad
    unfold ckP
    have t3 : (W ++ R2).take 3 = W.take 3 := List.take_append_of_le_length (by omega)
    have s3 : seg (W ++ R2) 3 4 = W.drop 3 := by
      unfold seg
      rw [List.drop_append_of_le_length (by omega), List.take_left' (by rw [List.length_drop]; omega)]
    rw [if_neg (by rw [List.length_append]; omega), t3, s3, if_pos hbad]
section
variable {M : Type} {rd : List Nat → Option M}
/-- A message that was turned. -/
theorem go_torn (r : List Nat) : ∀ (f : Nat) (m : Mid) (c : List Nat) (Z : Nat), c.length ≤ f → 0 < c.length → m.k * 16384 + c.length ≤ 33554432 → m.s < 4294967296 → (∀ x ∈ c, x < 256) → Bz Z → Z % 2 ^ (8 * (fmF f m.s c).length) ≠ 0 →
    (go rd m (xf (fmF f m.s c ++ r) Z)).ms = [] ∧ (go rd m (xf (fmF f m.s c ++ r) Z)).fl = 302 := by
  intro f
  induction f with
  | zero => intro m c Z h1 h2; omega
  | succ f ih =>
    intro m c Z h1 h2 h3 hs hc hb hz
    have hk : 16384 < c.length → m.k ≠ 2047 := fun h e => by rw [e] at h3; omega
    have hst := fmF_step f m.s c h2
    rw [hst] at hz ⊢
    rw [List.append_assoc]
    by_cases hq : Z % 2 ^ (8 * (min c.length 16384 + 11)) = 0
    · obtain ⟨n, hn⟩ : ∃ n, min c.length 16384 = n := ⟨_, rfl⟩
      have hcl : (chk m.s c).length = n + 11 := by rw [chk_len, hn]
      have hct : (c.take n).length = n := by rw [List.length_take]; omega
      rw [hn] at hq hz ⊢
      have hlt : 16384 < c.length := by
        by_cases h : c.length ≤ 16384
        · exfalso
          rw [List.drop_of_length_le (by omega), fmF_nil, List.append_nil, hcl] at hz
          exact hz hq
        · omega
      have hx : xf (chk m.s c ++ (fmF f (Crc.more m.s (c.take n)) (c.drop n) ++ r)) Z = chk m.s c ++ xf (fmF f (Crc.more m.s (c.take n)) (c.drop n) ++ r) (Z / 2 ^ (8 * (n + 11))) := by
        rw [xf_app, xf_zero (chk m.s c) Z (by rw [hcl]; exact hq), hcl]
      rw [hx]
      obtain ⟨X, hX⟩ : ∃ X, xf (fmF f (Crc.more m.s (c.take n)) (c.drop n) ++ r) (Z / 2 ^ (8 * (n + 11))) = X := ⟨_, rfl⟩
      have hck := ck_put m.s m.k c X h2 hk
      rw [hn, decide_eq_false (by omega)] at hck
      have hmx : (m.next (chk m.s c ++ X) n).s = Crc.more m.s (c.take n) ∧ (m.next (chk m.s c ++ X) n).k = m.k + 1 := by
        refine ⟨?_, rfl⟩
        show Crc.more m.s (seg (chk m.s c ++ X) 7 n) = _
        congr 1
        have e : chk m.s c ++ X = (hd3 c ++ fx 4 (Crc.more 0 (hd3 c))) ++ (c.take n ++ (fx 4 (Crc.more m.s (c.take n)) ++ X)) := by unfold chk; rw [hn]; simp only [List.append_assoc]
        rw [e]
        exact seg_mid (by rw [List.length_append, (ck_head c [] h2).2.2.2.1, fx_len]) hct
      rw [hX, go_more hck, List.drop_left' hcl, ← hX]
      obtain ⟨m2, hm2⟩ : ∃ q, m.next (chk m.s c ++ X) n = q := ⟨_, rfl⟩
      rw [hm2] at hmx
      rw [hX, hm2, ← hX, ← hmx.1]
      refine ih m2 (c.drop n) _ (by rw [List.length_drop]; omega) (by rw [List.length_drop]; omega) ?_ (by rw [hmx.1]; exact Crc.more_lt _ _) (fun x hx => hc x (List.mem_of_mem_drop hx)) (hb.div _) ?_
      · rw [hmx.2, List.length_drop]
        have hn16 : n = 16384 := by clear hz hq hX hx hck hmx hm2 hst; omega
        rw [hn16]
        exact chks_num hlt h3
      · rw [hmx.1]
        refine mod_split ?_ hq
        rw [List.length_append, hcl] at hz
        rw [show 8 * (n + 11) + 8 * (fmF f (Crc.more m.s (c.take n)) (c.drop n)).length = 8 * (n + 11 + (fmF f (Crc.more m.s (c.take n)) (c.drop n)).length) by omega]
        exact hz
    · have hck := ck_torn m.s m.k c (fmF f (Crc.more m.s (c.take (min c.length 16384))) (c.drop (min c.length 16384)) ++ r) Z h2 hk hs hc hb hq
      rw [go_bad hck]
      exact ⟨rfl, rfl⟩
/-- Messages of which bits were turned: the whole ones ahead are told, and the fault. -/
theorem go_torns {cont : M → List Nat} : ∀ (ms : List M) (Z : Nat), (∀ x ∈ ms, 0 < (cont x).length ∧ (cont x).length ≤ 33554432 ∧ rd (cont x) = some x) → (∀ x ∈ ms, ∀ y ∈ cont x, y < 256) → Bz Z → Z % 2 ^ (8 * (preF cont ms ms.length).length) ≠ 0 →
    ∃ n, n < ms.length ∧ Z % 2 ^ (8 * (preF cont ms n).length) = 0 ∧ Z % 2 ^ (8 * (preF cont ms (n + 1)).length) ≠ 0 ∧ (go rd mid0 (xf (preF cont ms ms.length) Z)).ms = ms.take n ∧ (go rd mid0 (xf (preF cont ms ms.length) Z)).fl = 302
  | [], Z, _, _, _, h => by exact absurd (by simp [preF, Nat.mod_one]) h
  | x :: ms, Z, h, hl, hb, hz => by
    have hx := h x (by simp)
    have e0 : preF cont (x :: ms) (x :: ms).length = formP (cont x) ++ preF cont ms ms.length := by
      unfold preF; rw [List.take_length, List.take_length, List.flatMap_cons]
    have es : ∀ n, preF cont (x :: ms) (n + 1) = formP (cont x) ++ preF cont ms n := fun n => by
      unfold preF; rw [List.take_succ_cons, List.flatMap_cons]
    have e00 : preF cont (x :: ms) 0 = [] := rfl
    rw [e0] at hz ⊢
    by_cases hq : Z % 2 ^ (8 * (formP (cont x)).length) = 0
    · obtain ⟨n, k1, k2, k3, k4, k5⟩ := go_torns ms (Z / 2 ^ (8 * (formP (cont x)).length)) (fun y hy => h y (List.mem_cons_of_mem _ hy)) (fun y hy => hl y (List.mem_cons_of_mem _ hy)) (hb.div _) (by
        refine mod_split ?_ hq
        rw [List.length_append] at hz
        rw [← Nat.mul_add]; exact hz)
      refine ⟨n + 1, by simpa using k1, ?_, ?_, ?_, ?_⟩
      · rw [es, List.length_append, Nat.mul_add, Nat.pow_add, Nat.mod_mul, hq, k2]; simp
      · rw [es, List.length_append, Nat.mul_add, Nat.pow_add, Nat.mod_mul, hq, Nat.zero_add]
        intro e
        rcases Nat.mul_eq_zero.1 e with e | e
        · exact absurd e (Nat.pos_iff_ne_zero.1 (Nat.two_pow_pos _))
        · exact k3 e
      · rw [xf_app, xf_zero _ _ hq, go_put _ _ x hx.1 hx.2.1 hx.2.2]; unfold Out.pre; simp only; rw [k4, List.take_succ_cons]
      · rw [xf_app, xf_zero _ _ hq, go_put _ _ x hx.1 hx.2.1 hx.2.2]; exact k5
    · refine ⟨0, by simp, by rw [e00]; simp [Nat.mod_one], by rw [es]; unfold preF; simpa using hq, ?_⟩
      have ht := go_torn (rd := rd) (preF cont ms ms.length) (cont x).length mid0 (cont x) Z (Nat.le_refl _) hx.1 (by show 0 * 16384 + _ ≤ _; omega) (by show (0 : Nat) < _; omega) (hl x (by simp)) hb hq
      exact ⟨by rw [List.take_zero]; exact ht.1, ht.2⟩
end
theorem byte_xor (a b k : Nat) : (a ^^^ b) / 2 ^ k % 256 = (a / 2 ^ k % 256) ^^^ (b / 2 ^ k % 256) := by
  have h8 : (256 : Nat) = 2 ^ 8 := rfl
  apply Nat.eq_of_testBit_eq; intro i
  rw [h8, Nat.testBit_xor, Nat.testBit_mod_two_pow, Nat.testBit_mod_two_pow, Nat.testBit_mod_two_pow, Nat.testBit_div_two_pow, Nat.testBit_div_two_pow, Nat.testBit_div_two_pow, Nat.testBit_xor]
  by_cases h : i < 8 <;> simp [h]
theorem pow_byte (p i : Nat) : 2 ^ p / 2 ^ (8 * i) % 256 = if p / 8 = i then 2 ^ (p % 8) else 0 := by
  split
  · rename_i h
    have e : p = 8 * i + p % 8 := by omega
    conv => lhs; rw [e, Nat.pow_add, Nat.mul_div_cancel_left _ (Nat.two_pow_pos _)]
    exact Nat.mod_eq_of_lt (Nat.pow_lt_pow_right (n := 8) (by omega) (by omega))
  · rename_i h
    by_cases h2 : p / 8 < i
    · rw [Nat.div_eq_of_lt (Nat.pow_lt_pow_right (by omega) (by omega)), Nat.zero_mod]
    · have e : p = 8 * i + (8 + (p - 8 * i - 8)) := by omega
      conv => lhs; rw [e, Nat.pow_add, Nat.mul_div_cancel_left _ (Nat.two_pow_pos _), Nat.pow_add]
      exact Nat.mul_mod_right _ _
/-- One bit more. -/
theorem xf_lay (b : List Nat) (Z p : Nat) (hp : p < 8 * b.length) : Crc.lay (xf b Z) p = xf b (Z ^^^ 2 ^ p) := by
  refine List.ext_getElem? fun i => ?_
  unfold Crc.lay
  by_cases hi : i < b.length
  · rw [xf_get b _ i hi, byte_xor, pow_byte, List.getElem?_set]
    have hg : (xf b Z).getD (p / 8) 0 = b.getD (p / 8) 0 ^^^ (Z / 2 ^ (8 * (p / 8)) % 256) := by
      rw [List.getD_eq_getElem?_getD, xf_get b Z (p / 8) (by omega)]; rfl
    by_cases h : p / 8 = i
    · subst h
      rw [if_pos rfl, if_pos (by rw [xf_len]; omega), hg, if_pos rfl, Nat.xor_assoc]
    · rw [if_neg h, if_neg h, xf_get b Z i hi, Nat.xor_zero]
  · rw [List.getElem?_eq_none (by rw [List.length_set, xf_len]; omega), List.getElem?_eq_none (by rw [xf_len]; omega)]
/-- Which bits were turned up to the i-th, and the first one's byte. -/
structure TP (fr L8 i P : Nat) (tch : Int) : Prop where
  lt : P < 2 ^ i
  no : P = 0 → tch = -1
  yes : P ≠ 0 → ∃ i0 q, i0 < i ∧ P = 2 ^ i0 * (2 * q + 1) ∧ tch = (((fr + i0) / 8 : Nat) : Int) ∧ fr + i0 < L8
theorem TP.start (fr L8 : Nat) : TP fr L8 0 0 (-1) := ⟨by simp, fun _ => rfl, fun h => absurd rfl h⟩
theorem TP.skip {fr L8 i P : Nat} {tch : Int} (h : TP fr L8 i P tch) : TP fr L8 (i + 1) P tch :=
  ⟨Nat.lt_of_lt_of_le h.lt (Nat.pow_le_pow_right (by omega) (by omega)), h.no, fun hp => by obtain ⟨i0, q, h1, h2⟩ := h.yes hp; exact ⟨i0, q, by omega, h2⟩⟩
theorem xor_high {P i : Nat} (h : P < 2 ^ i) : P ^^^ 2 ^ i = P + 2 ^ i := by
  have := Nat.two_pow_add_eq_or_of_lt h 1
  rw [Nat.mul_one] at this
  rw [Nat.add_comm, this]
  apply Nat.eq_of_testBit_eq; intro j
  rw [Nat.testBit_xor, Nat.testBit_or, Nat.testBit_two_pow]
  by_cases hj : i = j
  · subst hj; rw [Nat.testBit_lt_two_pow h]; simp
  · simp [hj]
/-- A bit is turned: the first one. -/
theorem TP.first {fr L8 i P : Nat} {tch : Int} (h : TP fr L8 i P tch) (h0 : tch < 0) (hl : fr + i < L8) : P = 0 ∧ TP fr L8 (i + 1) (P ^^^ 2 ^ i) (((fr + i) / 8 : Nat) : Int) := by
  have hP : P = 0 := by
    by_cases hp : P = 0
    · exact hp
    · obtain ⟨i0, q, _, _, e, _⟩ := h.yes hp; omega
  subst hP
  refine ⟨rfl, by rw [Nat.zero_xor]; exact Nat.pow_lt_pow_right (by omega) (by omega), fun e => ?_, fun _ => ⟨i, 0, by omega, by rw [Nat.zero_xor]; omega, rfl, hl⟩⟩
  rw [Nat.zero_xor] at e
  have := Nat.two_pow_pos i; omega
/-- A bit is turned: another one. -/
theorem TP.next {fr L8 i P : Nat} {tch : Int} (h : TP fr L8 i P tch) (h0 : ¬ tch < 0) : TP fr L8 (i + 1) (P ^^^ 2 ^ i) tch := by
  have hP : P ≠ 0 := fun e => by have := h.no e; omega
  obtain ⟨i0, q, h1, h2, h3, h4⟩ := h.yes hP
  have e := xor_high h.lt
  refine ⟨?_, fun e2 => ?_, fun _ => ⟨i0, q + 2 ^ (i - i0 - 1), by omega, ?_, h3, h4⟩⟩
  · rw [e, Nat.pow_succ]; have := h.lt; omega
  · rw [e] at e2; have := Nat.two_pow_pos i; omega
  · rw [e, h2, Nat.mul_add, Nat.mul_add, Nat.mul_add, Nat.mul_add]
    have e3 : 2 ^ i = 2 ^ i0 * (2 * 2 ^ (i - i0 - 1)) := by
      rw [← Nat.pow_succ', ← Nat.pow_add]; congr 1; omega
    rw [e3]; omega
theorem odd_mod (fb q k : Nat) : 2 ^ fb * (2 * q + 1) % 2 ^ k = 0 ↔ k ≤ fb := by
  constructor
  · intro h
    by_cases hk : k ≤ fb
    · exact hk
    · exfalso
      rw [show k = fb + ((k - fb - 1) + 1) by omega, Nat.pow_add, Nat.mul_mod_mul_left] at h
      rcases Nat.mul_eq_zero.1 h with h1 | h1
      · have := Nat.two_pow_pos fb; omega
      · obtain ⟨z, hz⟩ := Nat.dvd_of_mod_eq_zero h1
        rw [Nat.pow_succ, Nat.mul_comm (2 ^ (k - fb - 1)) 2, Nat.mul_assoc] at hz
        omega
  · intro h
    rw [show fb = k + (fb - k) by omega, Nat.pow_add, Nat.mul_assoc]
    exact Nat.mul_mod_right _ _
/-- What is told of the turned bytes. -/
theorem torn_law {M : Type} {rd : List Nat → Option M} {cont : M → List Nat} {ms : List M} (h : ∀ x ∈ ms, 0 < (cont x).length ∧ (cont x).length ≤ 33554432 ∧ rd (cont x) = some x) (hl : ∀ x ∈ ms, ∀ y ∈ cont x, y < 256)
    {fr i P : Nat} {tch : Int} (ht : TP fr (8 * (preF cont ms ms.length).length) i P tch) (hi : i ≤ 32) (hP : P ≠ 0) :
    ∃ n T : Nat, tch = (T : Int) ∧ n ≤ ms.length ∧ (preF cont ms n).length ≤ T ∧ (n < ms.length → T < (preF cont ms (n + 1)).length) ∧ (go rd mid0 (xf (preF cont ms ms.length) (2 ^ fr * P))).ms = ms.take n ∧ (go rd mid0 (xf (preF cont ms ms.length) (2 ^ fr * P))).fl = 302 := by
  obtain ⟨i0, q, h1, h2, h3, h4⟩ := ht.yes hP
  have e : 2 ^ fr * P = 2 ^ (fr + i0) * (2 * q + 1) := by rw [h2, ← Nat.mul_assoc, ← Nat.pow_add]
  have hb : Bz (2 ^ fr * P) := ⟨fr, P, Nat.lt_of_lt_of_le ht.lt (Nat.pow_le_pow_right (by omega) hi), rfl⟩
  obtain ⟨n, k1, k2, k3, k4, k5⟩ := go_torns (rd := rd) (cont := cont) ms (2 ^ fr * P) h hl hb (by rw [e]; intro hz; have := (odd_mod _ _ _).1 hz; omega)
  rw [e] at k2 k3
  have m2 := (odd_mod _ _ _).1 k2
  have m3 : ¬ 8 * (preF cont ms (n + 1)).length ≤ fr + i0 := fun hh => k3 ((odd_mod _ _ _).2 hh)
  exact ⟨n, (fr + i0) / 8, h3, by omega, by omega, fun _ => by omega, k4, k5⟩
end Go.Proofs.Ytbcmjjcbjojakaa
end
section
/- The walk of WireTorn: it returns true. (tools/torngen.py prints it.) -/
namespace Go.Proofs.Ytbcmjjcbjojakaa
open Go.RowKit
set_option linter.unusedVariables false
set_option linter.unusedSimpArgs false
theorem u32_bitT (R : Int) (h1 : 0 ≤ R) (h2 : R ≤ 4294967295) (j : Nat) : bits .and .u32 (R / 2 ^ j) 1 = ((R.toNat / 2 ^ j % 2 : Nat) : Int) := by
  have hd : R / 2 ^ j = ((R.toNat / 2 ^ j : Nat) : Int) := by
    rw [Int.natCast_ediv, Int.toNat_of_nonneg h1]; push_cast; rfl
  have hle : R.toNat / 2 ^ j ≤ R.toNat := Nat.div_le_self _ _
  rw [hd]
  clear hd
  generalize R.toNat / 2 ^ j = d at *
  rw [and1_u32 _ (by omega) (by omega)]; omega
theorem getD_ltT {l : List Nat} {m : Nat} (h : ∀ x ∈ l, x < m) {k : Nat} (hk : k < l.length) : l.getD k 0 < m := by
  rw [List.getD_eq_getElem?_getD, List.getElem?_eq_getElem hk]; exact h _ (List.getElem_mem _)
/-- Where the turning of bits stands. -/
structure Tn (w wr : World) (g1 B gb : Nat) (l : Array Value) (lb cb1 le ce1 : Nat) (Ae : Option Addr) (bs : List Nat) (es : List Value) : Prop where
  va : Va w wr g1 l
  g1l : g1 < B
  sz : B ≤ wr.heap.size
  row : wr.ownsRow B 5 1 (.slice (some ⟨gb, 0, none⟩) lb cb1) lb (cb bs)
  ends : wr.ownsRow B 3 1 (.slice Ae le ce1) le es
  ap : Apart (.slice (some ⟨gb, 0, none⟩) lb cb1) (.slice Ae le ce1)
theorem Tn.step {w wr w' : World} {g1 B gb lb cb1 le ce1 : Nat} {l : Array Value} {Ae : Option Addr} {bs bs' : List Nat} {es : List Value} (h : Tn w wr g1 B gb l lb cb1 le ce1 Ae bs es) (hr : w'.ownsRow B 5 1 (.slice (some ⟨gb, 0, none⟩) lb cb1) lb (cb bs')) (hg : wr.grownBy w' (some gb)) : Tn w w' g1 B gb l lb cb1 le ce1 Ae bs' es := by
  have hB := (h.row.lt gb rfl).1
  have hc : Chg [gb] wr w' := ⟨hg.os, hg.tape, hg.output, hg.size, fun k hk hm => hg.block k hk (by simpa using hm)⟩
  have b : Below B wr w' := ⟨hg.os, hg.tape, hg.output, hg.size, fun k hk => hg.block k (Nat.lt_of_lt_of_le hk h.sz) (by intro e; injection e; omega)⟩
  exact ⟨h.va.grow (b.mono h.g1l), h.g1l, Nat.le_trans h.sz hg.size, hr, hc.own h.ends (fun k hk => by have := h.ap gb rfl; intro hm; rw [List.mem_singleton] at hm; subst hm; exact this hk), h.ap⟩
set_option maxRecDepth 20000 in
set_option maxHeartbeats 8000000 in
theorem torn_gen {T : Type} (Z : Kd T) (cont : T → List Nat) (ms : List T) (w : World) (t : Bool) (hz : Z.ans = t) (A1 A2 A3 : Option Addr) (n1 c1 n2 c2 n3 c3 : Nat) (tl : TL Z cont ms w #[.bool t, .slice A1 n1 c1, .slice A2 n2 c2, .slice A3 n3 c3]) (cuts : List Int) (hcu : Rd w w.heap.size A3 n3 (cuts.map (.int .i64))) (hci : ∀ k ∈ cuts, I64 k) (hn3 : n3 ≤ 140737488355328) (hltm : ∀ x ∈ ms, ∀ y ∈ cont x, y < 256) (at_ : Int) (hat : I64 at_) (mask : Int) (hm1 : 0 ≤ mask) (hm2 : mask ≤ 4294967295) :
    Calls Try.prog 13 #[.agg #[.bool t, .slice A1 n1 c1, .slice A2 n2 c2, .slice A3 n3 c3], .int .i64 at_, .int .u32 mask] w fun e w' => e = .returned (.bool true) ∧ Below w.heap.size w w' := by
  obtain ⟨l, hl0⟩ : ∃ l : Array Value, l = #[.bool t, .slice A1 n1 c1, .slice A2 n2 c2, .slice A3 n3 c3] := ⟨_, rfl⟩
  obtain ⟨w0, hw0⟩ : ∃ U, w.alloc (.cells #[.bool t, .slice A1 n1 c1, .slice A2 n2 c2, .slice A3 n3 c3] 95) = U := ⟨_, rfl⟩
  obtain ⟨g1, hg1⟩ : ∃ q, w.heap.size = q := ⟨_, rfl⟩
  have H0 : Hd (Va w w0 g1 l) := ⟨by rw [← hw0, ← hg1, hl0]; exact ⟨heap_alloc_new w _, (Below.refl _ w).alloc (Nat.le_refl _) _, Nat.le_refl _⟩⟩
  have HH : Hd (TL Z cont ms w #[.bool t, .slice A1 n1 c1, .slice A2 n2 c2, .slice A3 n3 c3] ∧ l = #[.bool t, .slice A1 n1 c1, .slice A2 n2 c2, .slice A3 n3 c3] ∧ Rd w w.heap.size A3 n3 (cuts.map (.int .i64)) ∧ (∀ k ∈ cuts, I64 k) ∧ Z.ans = t) := ⟨tl, hl0, hcu, hci, hz⟩
  have HLT := Hd.mk hltm
  clear tl hl0 hcu hci hz hltm
  go_enter Try.func13, Try.ntmps13
  go_upto_region 1 with fail
  try rw [hw0]
  try rw [hg1]
  clear hw0 hg1
  have hbx : w0.heap[g1]? = some (.cells #[.bool t, .slice A1 n1 c1, .slice A2 n2 c2, .slice A3 n3 c3] 95) := by rw [← HH.out.2.1]; exact H0.out.b1
  have HBX := Hd.mk hbx
  clear hbx
  go_wp2_with (refine at_load (x := .tmp 3) ?_; refine wpList_load_row rfl 95 (.tmp 3) rfl g1 rfl 95 #[.bool t, .slice A1 n1 c1, .slice A2 n2 c2, .slice A3 n3 c3] (0, 0) _ HBX.out Try.underlying95 rfl infoTalk ?_)
  refine (HH.out.1.vast w0 H0.out.be).mono ?_
  rintro e w1 ⟨b, rfl, hb1, hv⟩
  have H1 := Hd.mk (H0.out.below hb1)
  have HV := Hd.mk hv
  clear hb1 hv H0 HBX
  rcases b with _ | _
  · have HPL : Hd ((preF cont ms ms.length).length ≤ 34359738368) := ⟨HV.out rfl⟩
    clear HV
    go_wp2_with fail
    refine (awake_any w1).mono ?_
    rintro e w2 ⟨rfl, hb2⟩
    have H2 := Hd.mk (H1.out.below hb2)
    clear hb2 H1
    have hbx : w2.heap[g1]? = some (.cells #[.bool t, .slice A1 n1 c1, .slice A2 n2 c2, .slice A3 n3 c3] 95) := by rw [← HH.out.2.1]; exact H2.out.b1
    have HBX := Hd.mk hbx
    clear hbx
    go_upto_region 5 with fail
    go_wp2_with (refine at_load (x := .tmp 3) ?_; refine wpList_load_row rfl 95 (.tmp 3) rfl g1 rfl 95 #[.bool t, .slice A1 n1 c1, .slice A2 n2 c2, .slice A3 n3 c3] (0, 0) _ HBX.out Try.underlying95 rfl infoTalk ?_)
    refine (HH.out.1.said HPL.out w2 H2.out.be).mono ?_
    rintro e w3 ⟨v, ve, rfl, ho, hoe, hap, hb3⟩
    have H3 := Hd.mk (H2.out.below hb3)
    obtain ⟨Ab, cbq, hvb, hnb, _⟩ := own_form ho
    obtain ⟨Ae, ce1, hve, _, _⟩ := own_form hoe
    obtain ⟨lb, hlb⟩ : ∃ q, (preF cont ms ms.length).length = q := ⟨_, rfl⟩
    obtain ⟨le, hle⟩ : ∃ q, ms.length = q := ⟨_, rfl⟩
    have HR := Hd.mk (And.intro hlb hle)
    have hlb2 : lb ≤ 34359738368 := by rw [← hlb]; exact HPL.out
    have hle2 : le ≤ 1466015503701 := by rw [← hle]; exact HH.out.1.len
    have hlc : lb ≤ cbq := by rw [← hlb]; exact hnb
    have HLC := Hd.mk hlc
    rw [hlb] at hvb
    rw [hle] at hve
    obtain ⟨bs, hbs⟩ : ∃ q, preF cont ms ms.length = q := ⟨_, rfl⟩
    have hbl : bs.length = lb := by rw [← hbs, hlb]
    rw [hlb, hbs] at ho
    have hoe2 : w3.ownsRow w2.heap.size 3 1 ve le (endsC cont ms le) := by rw [hle] at hoe; exact hoe
    by_cases hlb0 : lb = 0
    · clear ho hoe hoe2 hap hb3 H2 HBX hnb hlb hle hlc hlb2
      rw [hlb0] at hvb
      subst hvb hve
      go_wp2_with fail
      go_ret
      exact ⟨rfl, H3.out.be⟩
    have hlbp : 0 < lb := by omega
    obtain ⟨gb, cb1, hvg, hgb, hgb2⟩ := own_pos ho hlbp
    rw [hvg] at hvb
    injection hvb with hv1 hv2 hv3
    subst hv3
    rw [hvg, hve] at hap
    rw [hvg] at ho
    rw [hve] at hoe2
    subst hvg hve
    have HT : Hd (Tn w w3 g1 w2.heap.size gb l lb cb1 le ce1 Ae bs (endsC cont ms le)) := ⟨H3.out, by
      have := (Array.getElem?_eq_some_iff.1 H2.out.b1).1; exact this, hb3.size, ho, hoe2, hap⟩
    obtain ⟨B, hB⟩ : ∃ q, w2.heap.size = q := ⟨_, rfl⟩
    rw [hB] at HT
    have HBS : Hd (preF cont ms ms.length = bs ∧ bs.length = lb ∧ (∀ x ∈ bs, x < 256) ∧ w.heap.size ≤ B) := ⟨hbs, hbl, fun x hx => HH.out.1.lt x (by rw [hbs]; exact hx), by rw [← hB]; exact H2.out.be.size⟩
    clear ho hoe hoe2 hap hb3 HBX hnb hlb hle hlc hbs hbl hgb hgb2 H3 hv1 hv2 H2 hB
    have hl8 : IntKind.i64.wrap (8 * (lb : Int)) = 8 * (lb : Int) := by rw [IntKind.wrap_i64]; omega
    have hl0 : ¬ (lb : Int) = 0 := by omega
    have hl0' : ((lb : Int) == 0) = false := by simpa using hlb0
    clear hlb0
    go_upto_region 10 with fail
    go_wp2_with fail
    refine (pick_any w3 at_ (8 * (lb : Int)) hat (by omega) (by omega)).mono ?_
    rintro e wz ⟨rfl, hw9⟩
    subst hw9
    obtain ⟨fr, hfr⟩ : ∃ q : Nat, at_ % (8 * (lb : Int)) = (q : Int) := ⟨(at_ % (8 * (lb : Int))).toNat, by have := Int.emod_nonneg at_ (b := 8 * (lb : Int)) (by omega); omega⟩
    have hfl : fr < 8 * lb := by have := Int.emod_lt_of_pos at_ (b := 8 * (lb : Int)) (by omega); omega
    rw [hfr]
    clear hfr hl0 hl0'
    go_wp2_with fail
    go_loopw [10, 11] (fun u10 u11 wr => ∃ (i P : Nat) (tch : Int), i ≤ 32 ∧ u11 = .int .i64 (i : Int) ∧ u10 = .int .i64 tch ∧ TP fr (8 * lb) i P tch ∧ -1 ≤ tch ∧ tch ≤ 34359738368 ∧ Tn w wr g1 B gb l lb cb1 le ce1 Ae (xf bs (2 ^ fr * P)) (endsC cont ms le)) (fun _ u11 _ => 32 - (intOf u11).toNat)
    case atStart => exact ⟨0, 0, -1, by omega, rfl, rfl, TP.start _ _, by omega, by omega, by rw [Nat.mul_zero, xf_zero _ _ (Nat.zero_mod _)]; exact HT.out⟩
    case round =>
      obtain ⟨i, P, tch, hi, rfl, rfl, hTP, ht1, ht2, hTS⟩ := hrel
      have HP := Hd.mk hTP
      have HS := Hd.mk hTS
      clear hTP hTS HT
      have hai : IntKind.i64.wrap ((fr : Int) + (i : Int)) = (fr : Int) + (i : Int) := by rw [IntKind.wrap_i64]; omega
      have hai2 : wrap64 ((fr : Int) + (i : Int)) = (fr : Int) + (i : Int) := by clear hai; unfold wrap64; omega
      have HWW := Hd.mk (And.intro hai hai2)
      clear hai hai2
      by_cases hgo : i < 32 ∧ fr + i < 8 * lb
      · have hki : (i : Int) < 32 := by omega
        have hkb : (fr : Int) + (i : Int) < 8 * (lb : Int) := by omega
        have HGO := Hd.mk hgo
        have e1 := u32_bitT mask hm1 hm2 i
        obtain ⟨y, hyv⟩ : ∃ y, mask.toNat / 2 ^ i % 2 = y := ⟨_, rfl⟩
        have y2 : y < 2 := by rw [← hyv]; exact Nat.mod_lt _ (by omega)
        rw [hyv] at e1
        clear hyv
        by_cases hy : y = 1
        · subst hy
          have e2 : (bits .and .u32 (mask / 2 ^ i) 1 == 1) = true := by rw [e1]; rfl
          clear e1 y2 hgo
          have hll : (xf bs (2 ^ fr * P)).length = lb := by rw [xf_len]; exact HBS.out.2.1
          have hxl : ∀ x ∈ xf bs (2 ^ fr * P), x < 256 := Crc.xl_lt _ _ HBS.out.2.2.1 (fx_lt _ _)
          have hc : wr.cell? ⟨gb, (fr + i) / 8, none⟩ = some (.int .u8 (((xf bs (2 ^ fr * P)).getD ((fr + i) / 8) 0 : Nat) : Int)) := by
            rw [HS.out.row.cellAt ((fr + i) / 8) (by have := HGO.out; omega), cb_get _ _ (by have := HGO.out; omega)]
          have hz : wr.frozen? ⟨gb, (fr + i) / 8, none⟩ = false := HS.out.row.frozenAt ((fr + i) / 8)
          have hx := getD_ltT hxl (k := (fr + i) / 8) (by have := HGO.out; omega)
          have hp2 : 2 ^ ((fr + i) % 8) < 256 := Nat.pow_lt_pow_right (n := 8) (by omega) (by omega)
          have e := u8_xor_nat ((xf bs (2 ^ fr * P)).getD ((fr + i) / 8) 0) (2 ^ ((fr + i) % 8)) hx hp2
          have e0 : (2 : Int) ^ ((fr + i) % 8) % 256 = ((2 ^ ((fr + i) % 8) : Nat) : Int) := by
            have : ((2 ^ ((fr + i) % 8) : Nat) : Int) = (2 : Int) ^ ((fr + i) % 8) := by push_cast; rfl
            rw [← this]
            clear this e
            generalize 2 ^ ((fr + i) % 8) = d at *
            omega
          rw [← e0] at e
          clear e0 hp2
          have HLY : Hd (xf bs (2 ^ fr * (P ^^^ 2 ^ i)) = (xf bs (2 ^ fr * P)).set ((fr + i) / 8) ((xf bs (2 ^ fr * P)).getD ((fr + i) / 8) 0 ^^^ 2 ^ ((fr + i) % 8))) := ⟨by
            have h1 := xf_lay bs (2 ^ fr * P) (fr + i) (by rw [HBS.out.2.1]; exact HGO.out.2)
            unfold Crc.lay at h1
            rw [h1]
            congr 1
            rw [xor_high HP.out.lt, Nat.mul_add, ← Nat.pow_add, ← xor_high]
            rw [Nat.pow_add]
            exact (Nat.mul_lt_mul_left (Nat.two_pow_pos _)).2 HP.out.lt⟩
          generalize (xf bs (2 ^ fr * P)).getD ((fr + i) / 8) 0 ^^^ 2 ^ ((fr + i) % 8) = z at *
          generalize (xf bs (2 ^ fr * P)).getD ((fr + i) / 8) 0 = x at *
          obtain ⟨X, hX⟩ : ∃ X : Int, (x : Int) = X := ⟨_, rfl⟩
          rw [hX] at hc e
          obtain ⟨p, hp⟩ : ∃ q, fr + i = q := ⟨_, rfl⟩
          have hpi : (fr : Int) + (i : Int) = (p : Int) := by omega
          rw [hp] at hc hz e
          rw [hpi] at hkb
          have HW2 := Hd.mk (And.intro (HWW.out.1.trans hpi) (HWW.out.2.trans hpi))
          clear HWW
          have p1 : (0 : Int) ≤ (p : Int) := by omega
          have p2 : (p : Int) / 8 < (lb : Int) := by omega
          have HPI := Hd.mk (And.intro hp hpi)
          clear hll hxl hX hx hp hpi
          have HST := Hd.mk (HS.out.row.stored ((fr + i) / 8) (.int .u8 (z : Int)))
          have HSET : Hd ((cb (xf bs (2 ^ fr * P))).set ((fr + i) / 8) (.int .u8 (z : Int)) = cb (xf bs (2 ^ fr * (P ^^^ 2 ^ i)))) := ⟨by rw [HLY.out]; unfold cb; rw [List.map_set]; rfl⟩
          rw [HSET.out, HPI.out.1] at HST
          clear HLY HSET
          by_cases ht0 : tch < 0
          · have HT0 := Hd.mk ht0
            have hai2 := HPI.out.2
            have hai : True := trivial
            go_wp2_with fail
            go_roundw
            case rel =>
              clear hai hai2
              have h2 := HP.out.first HT0.out HGO.out.2
              refine ⟨i + 1, P ^^^ 2 ^ i, (((fr + i) / 8 : Nat) : Int), by omega, by go_num, ?_, h2.2, by omega, by have := HGO.out; omega, HS.out.step HST.out.1 HST.out.2⟩
              have := HPI.out.1
              first | rfl | (congr 1; omega) | (rw [HPI.out.1]; congr 1; omega)
            case measure => clear hai hai2; simp [intOf]; omega
          · have HT0 := Hd.mk ht0
            have hd0 : decide (tch < 0) = false := decide_eq_false ht0
            have hai2 := HPI.out.2
            have hai : True := trivial
            go_wp2_with fail
            go_roundw
            case rel =>
              clear hai hai2
              exact ⟨i + 1, P ^^^ 2 ^ i, tch, by omega, by go_num, rfl, HP.out.next HT0.out, ht1, ht2, HS.out.step HST.out.1 HST.out.2⟩
            case measure => clear hai hai2; simp [intOf]; omega
        · have hy0 : y = 0 := by omega
          subst hy0
          have e2 : (bits .and .u32 (mask / 2 ^ i) 1 == 1) = false := by rw [e1]; rfl
          clear e1 y2 hgo hy
          obtain ⟨hai, hai2⟩ := HWW.out
          go_wp2_with fail
          go_roundw
          case rel =>
            clear hai hai2
            exact ⟨i + 1, P, tch, by omega, by go_num, rfl, HP.out.skip, ht1, ht2, HS.out⟩
          case measure => clear hai hai2; simp [intOf]; omega
      · have HNG := Hd.mk hgo
        go_upto_region 13 with fail
        go_cut [44] from 34 to 73 (fun r wx => r = .bool false ∧ wx = wr)
        case first =>
          by_cases h : i < 32
          · have hki : (i : Int) < 32 := by omega
            have hkb : ¬ (fr : Int) + (i : Int) < 8 * (lb : Int) := by omega
            have hdb : decide ((fr : Int) + (i : Int) < 8 * (lb : Int)) = false := decide_eq_false hkb
            clear hgo h hkb
            go_wp2_with fail
            go_meet
            case rel => first | exact ⟨rfl, rfl⟩ | exact ⟨congrArg Value.bool hdb, rfl⟩
          · have hki : ¬ (i : Int) < 32 := by omega
            clear hgo h
            go_wp2_with fail
            go_meet
            case rel => exact ⟨rfl, rfl⟩
        case rest =>
          obtain ⟨hr44, hwc⟩ := hcut
          subst hr44
          rw [hwc]
          clear hwc hgo HWW
          by_cases hP0 : P = 0
          · have ht0 : tch = -1 := HP.out.no hP0
            subst ht0
            clear hP0
            go_wp2_with fail
            go_ret
            exact ⟨rfl, HS.out.va.be⟩
          · have htl := torn_law HH.out.1.ok HLT.out (fr := fr) (i := i) (P := P) (tch := tch) (by rw [HR.out.1]; exact HP.out) hi hP0
            obtain ⟨n0, T0, htT, z1, z2, z3, z4, z5⟩ := htl
            subst htT
            rw [HBS.out.1] at z4 z5
            have hT0 : ¬ ((T0 : Int) < 0) := by omega
            have HGO : Hd ((go Z.rd mid0 (xf bs (2 ^ fr * P))).ms = ms.take n0 ∧ (go Z.rd mid0 (xf bs (2 ^ fr * P))).fl = 302) := ⟨z4, z5⟩
            have HHD : Hd (((heldN (go Z.rd mid0 (xf bs (2 ^ fr * P))) : Nat) : Int) = 0) := ⟨by unfold heldN; rw [z5, if_neg (by omega)]; rfl⟩
            have HGO2 : Hd ((ms.take n0).length = n0) := ⟨by rw [List.length_take]; omega⟩
            have HN0 : Hd (n0 ≤ ms.length ∧ (preF cont ms n0).length ≤ T0 ∧ (n0 < ms.length → T0 < (preF cont ms (n0 + 1)).length)) := ⟨z1, z2, z3⟩
            clear z1 z2 z3 z4 z5 hP0 HP
            have d0 : wr.cell? ⟨g1, 0, none⟩ = some (.bool t) := HS.out.va.at_ 0 (by rw [HH.out.2.1]; rfl)
            have d3 : wr.cell? ⟨g1, 3, none⟩ = some (.slice A3 n3 c3) := HS.out.va.at_ 3 (by rw [HH.out.2.1]; rfl)
            go_upto_region 21 with fail
            go_wp2_with fail
            have hcall := hear_any Z HH.out.1.hear.1 HH.out.1.hear.2.1 HH.out.1.hear.2.2.1 HH.out.1.hear.2.2.2 wr (some ⟨gb, 0, none⟩) lb cb1 (xf bs (2 ^ fr * P)) (Rd.of_own HS.out.row) (Crc.xl_lt _ _ HBS.out.2.2.1 (fx_lt _ _)) HLC.out hlb2 A3 n3 c3 cuts ((HH.out.2.2.1.below HS.out.va.be).more HS.out.va.be.size) HH.out.2.2.2.1 hn3 true
            rw [HH.out.2.2.2.2] at hcall
            refine hcall.mono ?_
            rintro e w4 ⟨vh, hs, rfl, hq, hok, hal, hb4⟩
            rw [HGO.out.1] at hal
            simp only [HGO.out.2, HHD.out]
            have hln : hs.length = n0 := by rw [hal.len]; exact HGO2.out
            obtain ⟨Q7, k7, x0, x1, hvq, hx, hone⟩ := hd_parts (fl := 302) (hd := 0) hq hln
            subst hvq
            rw [hx]
            have HX := Hd.mk (And.intro hx hone)
            have H4 : Hd (Va w w4 g1 l ∧ Que w4 w.heap.size Z.e Z.m (.slice Q7 n0 k7) hs ∧ (∀ V ∈ hs, V.ok w4 w.heap.size) ∧ Alike Z.is hs (ms.take n0) ∧ w4.ownsRow B 3 1 (.slice Ae le ce1) le (endsC cont ms le)) := ⟨HS.out.va.below hb4, hq.lower HS.out.va.be.size, fun V hV => (hok V hV).lower HS.out.va.be.size, hal, own_below' HS.out.ends hb4⟩
            clear hq hok hal hb4 hln hone HS d0 d3 hx hcall HGO HHD HGO2
            go_upto_region 22 with (refine at_store (x := .tmp 12) ?_; refine wpList_boxed rfl 75 (.tmp 12) (.tmp 83) rfl w4.heap.size rfl #[x0, x1, .int .i64 302, .int .i64 0] rfl rfl infoHd rfl HX.out.2 ?_; intro w5 hB5)
            obtain ⟨g8, hg8⟩ : ∃ q, w4.heap.size = q := ⟨_, rfl⟩
            rw [hg8] at hB5 ⊢
            have b5 : Below w4.heap.size w4 w5 := by rw [hg8]; exact hB5.out.2.1
            have H5 : Hd (Va w w5 g1 l ∧ Que w5 w.heap.size Z.e Z.m (.slice Q7 n0 k7) hs ∧ (∀ V ∈ hs, V.ok w5 w.heap.size) ∧ Alike Z.is hs (ms.take n0) ∧ w5.heap[g8]? = some (.cells #[x0, x1, .int .i64 302, .int .i64 0] 75)) := ⟨H4.out.1.below b5, H4.out.2.1.chg (Chg.of_below (L := []) b5) (by simp), fun V hV => (H4.out.2.2.1 V hV).below b5, H4.out.2.2.2.1, hB5.out.1⟩
            have HROW : Hd (Rd w5 w5.heap.size Ae le (endsC cont ms le)) := ⟨Rd.of_own (own_below' H4.out.2.2.2.2 b5)⟩
            have hcc : ∀ W, Below w5.heap.size w5 W → W.cell? ⟨g1, 0, none⟩ = some (.bool t) ∧ W.cell? ⟨g1, 1, none⟩ = some (.slice A1 n1 c1) ∧ W.cell? ⟨g1, 2, none⟩ = some (.slice A2 n2 c2) ∧ W.cell? ⟨g1, 3, none⟩ = some (.slice A3 n3 c3) ∧ W.cell? ⟨g8, 0, none⟩ = some x0 ∧ W.cell? ⟨g8, 1, none⟩ = some x1 ∧ W.cell? ⟨g8, 2, none⟩ = some (.int .i64 302) ∧ W.cell? ⟨g8, 3, none⟩ = some (.int .i64 0) := fun W hW => by
              have e8 : W.heap[g8]? = _ := (hW.block g8 (Array.getElem?_eq_some_iff.1 H5.out.2.2.2.2).1).trans H5.out.2.2.2.2
              have hS := H5.out.1.below hW
              refine ⟨hS.at_ 0 (by rw [HH.out.2.1]; rfl), hS.at_ 1 (by rw [HH.out.2.1]; rfl), hS.at_ 2 (by rw [HH.out.2.1]; rfl), hS.at_ 3 (by rw [HH.out.2.1]; rfl), ?_, ?_, ?_, ?_⟩ <;> (rw [cell_of_row W g8 _ _ _ (0, 0) e8]; rfl)
            have HCC5 := Hd.mk hcc
            clear hcc hB5 hg8 b5 H4
            go_wp2_with fail
            obtain ⟨wo, hwo⟩ : ∃ wo : World, wo = wr := ⟨_, rfl⟩
            subst hwo
            go_loopw [13] (fun u13 wr => ∃ i2 : Nat, u13 = .int .i64 (i2 : Int) ∧ i2 ≤ le ∧ (preF cont ms i2).length ≤ T0 ∧ wr = w5) (fun u13 _ => le - (intOf u13).toNat)
            case atStart => exact ⟨0, rfl, Nat.zero_le _, Nat.zero_le _, rfl⟩
            case round =>
              obtain ⟨i2, rfl, hi2, hpi, hw⟩ := hrel
              subst hw
              by_cases hgo : i2 < le ∧ (preF cont ms (i2 + 1)).length ≤ T0
              · have hki : (i2 : Int) < (le : Int) := by omega
                obtain ⟨ln, hln⟩ : ∃ q, (preF cont ms (i2 + 1)).length = q := ⟨_, rfl⟩
                have hla : (ln : Int) ≤ (T0 : Int) := by omega
                have hlaN : ln ≤ T0 := by omega
                obtain ⟨ge, oe, hAe, hge, hce⟩ := HROW.out.2 (by omega)
                subst hAe
                have dc : wr.cell? ⟨ge, oe + i2, none⟩ = some (.int .i64 (ln : Int)) := by rw [hce i2 hgo.1, endsC_get hgo.1, hln]
                have HLN := Hd.mk (And.intro hln hgo)
                clear hce hge hgo hln hpi
                go_wp2_with fail
                go_roundw
                case rel => exact ⟨i2 + 1, by go_num, HLN.out.2.1, HLN.out.2.2, (by first | rfl | trivial)⟩
                case measure => simp [intOf]; have := HLN.out.2.1; omega
              · have hin : i2 = n0 := ends_one HN0.out.1 HN0.out.2.1 HN0.out.2.2 (by rw [HR.out.2]; exact hi2) hpi (fun h => by
                  rw [HR.out.2] at h
                  have := hgo
                  by_cases hh : (preF cont ms (i2 + 1)).length ≤ T0
                  · exact absurd ⟨h, hh⟩ this
                  · omega)
                go_upto_region 23 with fail
                go_cut [96] from 85 to 98 (fun r wx => r = .bool false ∧ wx = wr)
                case first =>
                  by_cases h : i2 < le
                  · have hki : (i2 : Int) < (le : Int) := by omega
                    obtain ⟨ln, hln⟩ : ∃ q, (preF cont ms (i2 + 1)).length = q := ⟨_, rfl⟩
                    have hla : ¬ (ln : Int) ≤ (T0 : Int) := by have := hgo; intro hh; exact this ⟨h, by omega⟩
                    have hd2 : decide ((ln : Int) ≤ (T0 : Int)) = false := decide_eq_false hla
                    obtain ⟨ge, oe, hAe, hge, hce⟩ := HROW.out.2 (by omega)
                    subst hAe
                    have dc : wr.cell? ⟨ge, oe + i2, none⟩ = some (.int .i64 (ln : Int)) := by rw [hce i2 h, endsC_get h, hln]
                    have hdN : decide (ln ≤ T0) = false := decide_eq_false (by omega)
                    clear hgo h hla hce hge hln hin hpi
                    go_wp2_with fail
                    go_meet
                    case rel => first | exact ⟨rfl, rfl⟩ | exact ⟨congrArg Value.bool hdN, rfl⟩ | exact ⟨congrArg Value.bool hd2, rfl⟩
                  · have hki : ¬ (i2 : Int) < (le : Int) := by omega
                    clear hgo h hin hpi
                    go_wp2_with fail
                    go_meet
                    case rel => exact ⟨rfl, rfl⟩
                case rest =>
                  obtain ⟨hr96, hwc⟩ := hcut
                  subst hr96
                  rw [hwc]
                  clear hwc hgo hpi
                  subst hin
                  obtain ⟨e0, e1, e2, e3, f0, f1, f2, f3⟩ := HCC5.out wr (Below.refl _ wr)
                  go_wp2_with fail
                  have hcall := HH.out.1.first wr H5.out.1.be x0 x1 Q7 i2 k7 302 0 hs HX.out.1 H5.out.2.1 H5.out.2.2.1 H5.out.2.2.2.1 HN0.out.1
                  refine hcall.mono ?_
                  rintro e w6 ⟨rfl, hb6⟩
                  clear hcall e0 e1 e2 e3 f0 f1 f2 f3
                  obtain ⟨e0, e1, e2, e3, f0, f1, f2, f3⟩ := HCC5.out w6 hb6
                  have HB6 := Hd.mk (H5.out.1.be.trans (hb6.mono H5.out.1.be.size))
                  clear hb6
                  go_wp2_with fail
                  go_ret
                  exact ⟨rfl, HB6.out⟩
  · go_wp2_with fail
    go_ret
    exact ⟨rfl, H1.out.be⟩
end Go.Proofs.Ytbcmjjcbjojakaa
end
section
/- The walk of WireTorn for both kinds. -/
namespace Go.Proofs.Ytbcmjjcbjojakaa
open Go.RowKit
set_option linter.unusedVariables false
theorem torn_walk (w : World) (t : Bool) (A1 A2 A3 : Option Addr) (n1 c1 n2 c2 n3 c3 : Nat) (rs : List Rq) (ys : List An) (h1 : Lst RqA w w.heap.size 8 A1 n1 rs) (h2 : Lst AnA w w.heap.size 15 A2 n2 ys) (hn1 : n1 ≤ 1466015503701) (hn2 : n2 ≤ 1466015503701) (cuts : List Int) (hcu : Rd w w.heap.size A3 n3 (cuts.map (.int .i64))) (hci : ∀ k ∈ cuts, I64 k) (hn3 : n3 ≤ 140737488355328) (at_ : Int) (hat : (Lit.int .i64 at_).wf = true) (mask : Int) (hm : (Lit.int .u32 mask).wf = true) :
    Calls Try.prog 13 #[.agg #[.bool t, .slice A1 n1 c1, .slice A2 n2 c2, .slice A3 n3 c3], .int .i64 at_, .int .u32 mask] w fun e w' => e = .returned (.bool true) ∧ Below w.heap.size w w' := by
  have ha : I64 at_ := by simpa [I64, Lit.wf, IntKind.min, IntKind.max, IntKind.signed, IntKind.bits] using hat
  have hm2 : 0 ≤ mask ∧ mask ≤ 4294967295 := by simpa [Lit.wf, IntKind.min, IntKind.max, IntKind.signed, IntKind.bits] using hm
  cases t with
  | false => exact torn_gen askK rqC (rs.map fitP) w false rfl A1 A2 A3 n1 c1 n2 c2 n3 c3 (tl_ask h1 h2 hn1 hn2) cuts hcu hci hn3 (fun x hx => by
      obtain ⟨R, hR, rfl⟩ := List.mem_map.1 hx
      obtain ⟨l, hq⟩ := h1.mem hR
      exact rqC_lt (fitP_fit R) (fitP_b R hq.b)) at_ ha mask hm2.1 hm2.2
  | true => exact torn_gen telK anC (ys.map fitAnP) w true rfl A1 A2 A3 n1 c1 n2 c2 n3 c3 (tl_tel h1 h2 hn1 hn2) cuts hcu hci hn3 (fun x hx => by
      obtain ⟨R, hR, rfl⟩ := List.mem_map.1 hx
      obtain ⟨l, hq⟩ := h2.mem hR
      exact anC_lt (fitAnP_ok R) (fitAnP_fit R) (fitAnP_b R hq.b)) at_ ha mask hm2.1 hm2.2
end Go.Proofs.Ytbcmjjcbjojakaa
end
section
/- An argument of the laws' type Talk. -/
namespace Go.Proofs.Ytbcmjjcbjojakaa
open Go.ChangeShapes Go.WideShapes Go.ChangeAt Go.RowKit
set_option linter.unusedVariables false
section
variable {H : Type} {enc : TypeId × Value → H} {w : World} {base : Nat} {held : Bool}
theorem cells_talk : Try.prog.cellsOf 95 = 4 := by kernel_rfl
theorem cells_rqs : Try.prog.cellsOf 55 = 1 := by kernel_rfl
theorem cells_ans : Try.prog.cellsOf 56 = 1 := by kernel_rfl
theorem cells_ints : Try.prog.cellsOf 73 = 1 := by kernel_rfl
set_option maxRecDepth 8000 in
theorem open_talk {fuel : Nat} {cs : List Value} {x : DataW H × List MemPlace} (h : DataW.trod enc Try.prog w base (fun _ => true) held fuel 95 cs = some x) (hw : ∀ m ∈ x.1.weights Try.prog 95, m ≤ 140737488351232) :
    ∃ (t : Bool) (A1 : Option Addr) (n1 c1 : Nat) (rs : List Rq) (A2 : Option Addr) (n2 c2 : Nat) (ys : List An) (A3 : Option Addr) (n3 c3 : Nat) (cuts : List Int), cs = [.bool t, .slice A1 n1 c1, .slice A2 n2 c2, .slice A3 n3 c3] ∧
      Lst RqA w w.heap.size 8 A1 n1 rs ∧ Lst AnA w w.heap.size 15 A2 n2 ys ∧ n1 ≤ 1466015503701 ∧ n2 ≤ 1466015503701 ∧ Rd w w.heap.size A3 n3 (cuts.map (.int .i64)) ∧ (∀ k ∈ cuts, I64 k) ∧ n3 ≤ 140737488355328 := by
  obtain ⟨xs, m, rfl, hxe, hlen, hl, hf⟩ := DataW.trod_struct Try.underlying95 h
  rw [cells_talk] at hlen
  obtain ⟨v0, v1, v2, v3, rfl⟩ : ∃ v0 v1 v2 v3, cs = [v0, v1, v2, v3] := by
    match cs, hlen with
    | [a, b, c, d], _ => exact ⟨a, b, c, d, rfl⟩
  obtain ⟨y0, h0⟩ := get_some xs 4 0 hl (by omega)
  obtain ⟨y1, h1⟩ := get_some xs 4 1 hl (by omega)
  obtain ⟨y2, h2⟩ := get_some xs 4 2 hl (by omega)
  obtain ⟨y3, h3⟩ := get_some xs 4 3 hl (by omega)
  have g0 := fld hf 0 4 0 rfl rfl rfl
  have g1 := fld hf 1 55 1 rfl rfl rfl
  have g2 := fld hf 2 56 2 rfl rfl rfl
  have g3 := fld hf 3 73 3 rfl rfl rfl
  rw [cells_bool] at g0
  rw [cells_rqs] at g1
  rw [cells_ans] at g2
  rw [cells_ints] at g3
  have hwx : ∀ (j : Nat) (t : TypeId) (y : DataW H × List MemPlace), xs[j]? = some y → ([4, 55, 56, 73] : List TypeId)[j]? = some t → ∀ m ∈ y.1.weights Try.prog t, m ≤ 140737488351232 := fun j t y hj ht m hm => by
    refine hw m ?_
    rw [hxe]
    simp only [DataW.weights, Try.underlying95]
    exact DataW.weights_mem_each (j := j) (t := t) (d := y.1) ht (by rw [List.getElem?_map, hj]; rfl) m hm
  obtain ⟨t, rfl⟩ := open_flag Try.underlying4 (part_of g0 (cs2 := [v0]) rfl h0)
  obtain ⟨A1, n1, c1, rs, e1, l1, L1, b1⟩ := open_list (Q := RqA) Try.underlying55 cells_rq (by omega) open_rqA (part_of g1 (cs2 := [v1]) rfl h1) (hwx 1 _ y1 h1 rfl)
  obtain ⟨A2, n2, c2, ys, e2, l2, L2, b2⟩ := open_list (Q := AnA) Try.underlying56 cells_an (by omega) open_anA (part_of g2 (cs2 := [v2]) rfl h2) (hwx 2 _ y2 h2 rfl)
  obtain rfl := (List.cons.inj e1).1
  obtain rfl := (List.cons.inj e2).1
  rw [show Try.prog.bytesOf 28 = 96 by kernel_rfl] at b1
  rw [show Try.prog.bytesOf 43 = 176 by kernel_rfl] at b2
  obtain ⟨A3, n3, c3, cuts, rfl, hc, hk, hn⟩ : ∃ (A3 : Option Addr) (n3 c3 : Nat) (cuts : List Int), v3 = .slice A3 n3 c3 ∧ Rd w w.heap.size A3 n3 (cuts.map (.int .i64)) ∧ (∀ k ∈ cuts, I64 k) ∧ n3 ≤ 140737488355328 := by
    rcases open_ints Try.underlying73 Try.underlying3 cells_int (part_of g3 (cs2 := [v3]) rfl h3) with ⟨hcs, _⟩ | ⟨x3, l, c, zs, hcs, _, hl', hm, hz, hx, hcell, hwz⟩
    · obtain rfl := (List.cons.inj hcs).1
      exact ⟨none, 0, 0, [], rfl, Rd.nil, (fun y hy => absurd hy List.not_mem_nil), by omega⟩
    · obtain rfl := (List.cons.inj hcs).1
      have hrow : IsRow .i64 w (some x3) l c zs := .inr ⟨_, rfl, hl', hm, by simpa using hz, hcell, hwz⟩
      refine ⟨some x3, l, c, zs.take l, rfl, hrow.rd, fun k hk => ?_, ?_⟩
      · have := hrow.wf k (List.mem_of_mem_take hk)
        simpa [I64, Lit.wf, IntKind.min, IntKind.max, IntKind.signed, IntKind.bits] using this
      · have h8 := hwx 3 _ y3 h3 rfl (c * 8) (by
          rw [hx]
          simp only [DataW.weights, Try.underlying73, List.mem_cons]
          left
          rw [show Try.prog.bytesOf 3 = 8 by kernel_rfl]
          have : zs.length = c := by simpa using hz
          have e : (lits (H := H) .i64 (zs.take l)).length + (lits (H := H) .i64 (zs.drop l)).length = c := by simp only [lits, List.length_map, List.length_take, List.length_drop]; omega
          rw [e])
        omega
  exact ⟨t, A1, n1, c1, rs, A2, n2, c2, ys, A3, n3, c3, cuts, rfl, L1, L2, by omega, by omega, hc, hk, hn⟩
end
end Go.Proofs.Ytbcmjjcbjojakaa
end
section
/- What is of bulk at most 1048576 weighs little. -/
namespace Go.Proofs.Ytbcmjjcbjojakaa
open Go.ChangeShapes Go.WideShapes Go.ChangeAt Go.RowKit
set_option linter.unusedVariables false
/-- From a type of the table only types of the table are reached, and none is greater than K bytes. -/
def stepOk (P : Program) (K : Nat) (t : TypeId) : Bool :=
  match P.underlying t with
  | some (.pointer e) => decide (e < P.types.size)
  | some (.slice e) => decide (e < P.types.size) && decide (P.bytesOf e ≤ K)
  | some (.struct fs) => fs.all fun f => decide (f.type < P.types.size)
  | some (.array _ e) => decide (e < P.types.size)
  | some (.map k e) => decide (e < P.types.size) && decide (P.bytesOf k + P.bytesOf e ≤ 2 * K)
  | _ => true
section
variable {H : Type} {P : Program} {K : Nat}
theorem bulk_lenE : ∀ (l : List (Lit × DataW H)), l.length ≤ Rows.uptoBulkEntries l
  | [] => by simp [Rows.uptoBulkEntries]
  | x :: r => by
    have h := bulk_lenE r
    have hp : 1 ≤ Rows.uptoBulkEntry x := by
      obtain ⟨k, d⟩ := x
      cases k <;> simp [Rows.uptoBulkEntry]
    simp only [Rows.uptoBulkEntries, List.length_cons]; omega
mutual
theorem weigh (hK : ∀ t, t < P.types.size → stepOk P K t = true) : ∀ (d : DataW H) (t : TypeId) (m : Nat), t < P.types.size → m ∈ d.weights P t → m ≤ Rows.uptoBulk d * (2 * K + 1)
  | .lit (.string bytes), t, m, ht, h => by
    simp only [DataW.weights, List.mem_singleton] at h
    simp only [Rows.uptoBulk]
    subst h
    rw [Nat.mul_add, Nat.mul_one]; omega
  | .lit (.bool _), t, m, ht, h => by simp [DataW.weights] at h
  | .lit (.int _ _), t, m, ht, h => by simp [DataW.weights] at h
  | .lit (.float _ _), t, m, ht, h => by simp [DataW.weights] at h
  | .nil, t, m, ht, h => by simp [DataW.weights] at h
  | .held _, t, m, ht, h => by simp [DataW.weights] at h
  | .iface _ _, t, m, ht, h => by simp [DataW.weights] at h
  | .ptr d, t, m, ht, h => by
    simp only [DataW.weights] at h
    split at h
    · rename_i e he
      have hs := hK t ht
      unfold stepOk at hs
      rw [he] at hs
      have := weigh hK d _ m (of_decide_eq_true hs) h
      simp only [Rows.uptoBulk]
      exact Nat.le_trans this (Nat.mul_le_mul_right _ (Nat.le_succ _))
    · simp at h
  | .slice elems spare, t, m, ht, h => by
    simp only [DataW.weights] at h
    simp only [Rows.uptoBulk]
    split at h
    · rename_i e he
      have hs := hK t ht
      unfold stepOk at hs
      rw [he] at hs
      simp only [Bool.and_eq_true, decide_eq_true_eq] at hs
      rcases List.mem_cons.1 h with h1 | h1
      · have l1 := bulk_len elems
        have l2 := bulk_len spare
        subst h1
        have a : (elems.length + spare.length) * P.bytesOf e ≤ (elems.length + spare.length) * (2 * K + 1) := Nat.mul_le_mul_left _ (by have := hs.2; omega)
        exact Nat.le_trans a (Nat.mul_le_mul_right _ (by omega))
      · rcases List.mem_append.1 h1 with h2 | h2
        · exact Nat.le_trans (weighAll hK elems _ m hs.1 h2) (Nat.mul_le_mul_right _ (by omega))
        · exact Nat.le_trans (weighAll hK spare _ m hs.1 h2) (Nat.mul_le_mul_right _ (by omega))
    · simp at h
  | .agg parts, t, m, ht, h => by
    simp only [DataW.weights] at h
    simp only [Rows.uptoBulk]
    split at h
    · rename_i fs he
      have hs := hK t ht
      unfold stepOk at hs
      rw [he] at hs
      refine Nat.le_trans (weighEach hK parts _ m (fun u hu => ?_) h) (Nat.mul_le_mul_right _ (by omega))
      obtain ⟨f, hf, rfl⟩ := List.mem_map.1 hu
      exact of_decide_eq_true (Array.all_eq_true'.1 hs f (by simpa using hf))
    · rename_i e he
      have hs := hK t ht
      unfold stepOk at hs
      rw [he] at hs
      exact Nat.le_trans (weighAll hK parts _ m (of_decide_eq_true hs) h) (Nat.mul_le_mul_right _ (by omega))
    · simp at h
  | .map entries, t, m, ht, h => by
    simp only [DataW.weights] at h
    simp only [Rows.uptoBulk]
    split at h
    · rename_i k e he
      have hs := hK t ht
      unfold stepOk at hs
      rw [he] at hs
      simp only [Bool.and_eq_true, decide_eq_true_eq] at hs
      rcases List.mem_cons.1 h with h1 | h1
      · have l1 := bulk_lenE entries
        subst h1
        have a : entries.length * (P.bytesOf k + P.bytesOf e) ≤ entries.length * (2 * K + 1) := Nat.mul_le_mul_left _ (by have := hs.2; omega)
        exact Nat.le_trans a (Nat.mul_le_mul_right _ (by omega))
      · exact Nat.le_trans (weighEntries hK entries _ m hs.1 h1) (Nat.mul_le_mul_right _ (by omega))
    · simp at h
theorem weighAll (hK : ∀ t, t < P.types.size → stepOk P K t = true) : ∀ (l : List (DataW H)) (e : TypeId) (m : Nat), e < P.types.size → m ∈ DataW.weightsAll P e l → m ≤ Rows.uptoBulkAll l * (2 * K + 1)
  | [], e, m, ht, h => by simp [DataW.weightsAll] at h
  | d :: r, e, m, ht, h => by
    simp only [DataW.weightsAll, List.mem_append] at h
    simp only [Rows.uptoBulkAll]
    rcases h with h1 | h1
    · exact Nat.le_trans (weigh hK d e m ht h1) (Nat.mul_le_mul_right _ (by omega))
    · exact Nat.le_trans (weighAll hK r e m ht h1) (Nat.mul_le_mul_right _ (by omega))
theorem weighEach (hK : ∀ t, t < P.types.size → stepOk P K t = true) : ∀ (l : List (DataW H)) (ts : List TypeId) (m : Nat), (∀ t ∈ ts, t < P.types.size) → m ∈ DataW.weightsEach P ts l → m ≤ Rows.uptoBulkAll l * (2 * K + 1)
  | [], ts, m, ht, h => by cases ts <;> simp [DataW.weightsEach] at h
  | d :: r, [], m, ht, h => by simp [DataW.weightsEach] at h
  | d :: r, t :: ts, m, ht, h => by
    simp only [DataW.weightsEach, List.mem_append] at h
    simp only [Rows.uptoBulkAll]
    rcases h with h1 | h1
    · exact Nat.le_trans (weigh hK d t m (ht t (List.mem_cons_self ..)) h1) (Nat.mul_le_mul_right _ (by omega))
    · exact Nat.le_trans (weighEach hK r ts m (fun u hu => ht u (List.mem_cons_of_mem _ hu)) h1) (Nat.mul_le_mul_right _ (by omega))
theorem weighEntries (hK : ∀ t, t < P.types.size → stepOk P K t = true) : ∀ (l : List (Lit × DataW H)) (e : TypeId) (m : Nat), e < P.types.size → m ∈ DataW.weightsEntries P e l → m ≤ Rows.uptoBulkEntries l * (2 * K + 1)
  | [], e, m, ht, h => by simp [DataW.weightsEntries] at h
  | x :: r, e, m, ht, h => by
    simp only [DataW.weightsEntries, List.mem_append] at h
    simp only [Rows.uptoBulkEntries]
    rcases h with h1 | h1
    · exact Nat.le_trans (weighEntry hK x e m ht h1) (Nat.mul_le_mul_right _ (by omega))
    · exact Nat.le_trans (weighEntries hK r e m ht h1) (Nat.mul_le_mul_right _ (by omega))
theorem weighEntry (hK : ∀ t, t < P.types.size → stepOk P K t = true) : ∀ (x : Lit × DataW H) (e : TypeId) (m : Nat), e < P.types.size → m ∈ DataW.weightsEntry P e x → m ≤ Rows.uptoBulkEntry x * (2 * K + 1)
  | (.string bytes, d), e, m, ht, h => by
    simp only [DataW.weightsEntry, List.mem_cons] at h
    simp only [Rows.uptoBulkEntry]
    rcases h with h1 | h1
    · subst h1
      refine Nat.le_trans ?_ (Nat.mul_le_mul_right (2 * K + 1) (show bytes.length ≤ bytes.length + Rows.uptoBulk d + 1 by omega))
      exact Nat.le_mul_of_pos_right _ (by omega)
    · exact Nat.le_trans (weigh hK d e m ht h1) (Nat.mul_le_mul_right _ (by omega))
  | (.bool _, d), e, m, ht, h => by
    simp only [DataW.weightsEntry] at h
    simp only [Rows.uptoBulkEntry]
    exact Nat.le_trans (weigh hK d e m ht h) (Nat.mul_le_mul_right _ (by omega))
  | (.int _ _, d), e, m, ht, h => by
    simp only [DataW.weightsEntry] at h
    simp only [Rows.uptoBulkEntry]
    exact Nat.le_trans (weigh hK d e m ht h) (Nat.mul_le_mul_right _ (by omega))
  | (.nil, d), e, m, ht, h => by
    simp only [DataW.weightsEntry] at h
    simp only [Rows.uptoBulkEntry]
    exact Nat.le_trans (weigh hK d e m ht h) (Nat.mul_le_mul_right _ (by omega))
  | (.float _ _, d), e, m, ht, h => by
    simp only [DataW.weightsEntry] at h
    simp only [Rows.uptoBulkEntry]
    exact Nat.le_trans (weigh hK d e m ht h) (Nat.mul_le_mul_right _ (by omega))
end
end
set_option maxRecDepth 100000 in
theorem steps_all : (List.range Try.prog.types.size).all (fun t => stepOk Try.prog 1024 t) = true := by kernel_rfl
theorem steps_ok (t : TypeId) (h : t < Try.prog.types.size) : stepOk Try.prog 1024 t = true := List.all_eq_true.1 steps_all t (List.mem_range.2 h)
/-- What weighs at the second form. -/
theorem weigh_upto {H : Type} {ds : List (DataW H)} {i : Nat} {d : DataW H} {t : TypeId} (ht : t < Try.prog.types.size) (hk : Rows.uptoSmall H ds = true) (hd : ds[i]? = some d) : ∀ m ∈ d.weights Try.prog t, m ≤ 140737488351232 := fun m hm => by
  have hb : Rows.uptoBulkAll ds ≤ 1048576 := of_decide_eq_true hk
  have h1 := bulk_part hd
  have h2 := weigh steps_ok d t m ht hm
  have h3 : Rows.uptoBulk d * (2 * 1024 + 1) ≤ 1048576 * (2 * 1024 + 1) := Nat.mul_le_mul_right _ (by omega)
  omega
end Go.Proofs.Ytbcmjjcbjojakaa
end
