/- Put together of: Zig Mem Byt Uv Short Mem2 PutsA. -/
import Derived.Test.YtbcmjjcbjojakaaRows
import Derived.WalkKit
import Derived.WalkSpells
import Derived.WalkLawsBesides
import Derived.Maps.AppendAt
import Derived.Deep.Draws
import Derived.Laws.BytesArg
import Derived.Outline
import Derived.RegionTactic
import Derived.OwnWalk
section
namespace Go.Proofs.Ytbcmjjcbjojakaa
open Go.RowKit
set_option linter.unusedVariables false
/-- The folded form of a number with a sign. -/
def zig (v : Int) : Int := if 0 ≤ v then 2 * v else -2 * v - 1
/-- The number whose folded form it is. -/
def unz (u : Int) : Int := if u % 2 = 0 then u / 2 else -(u / 2) - 1
theorem ret_int {k : IntKind} {a b : Int} (h : a = b) : Ending.returned (.int k a) = .returned (.int k b) := by rw [h]
theorem ret_bool {a b : Bool} (h : a = b) : Ending.returned (.bool a) = .returned (.bool b) := by rw [h]
theorem ret_int_bool {k : IntKind} {a b : Int} {c d : Bool} (h : a = b) (g : c = d) : Ending.returned (.tuple #[.int k a, .bool c]) = .returned (.tuple #[.int k b, .bool d]) := by rw [h, g]
theorem bits_xor0 (a : Int) (h : -9223372036854775808 ≤ a ∧ a ≤ 9223372036854775807) : bits .xor .i64 a 0 = a := by
 show IntKind.i64.wrap (((BitVec.ofInt 64 a ^^^ BitVec.ofInt 64 0 : BitVec 64).toNat : Nat) : Int) = _
 have : (BitVec.ofInt 64 a ^^^ BitVec.ofInt 64 0).toNat = (BitVec.ofInt 64 a).toNat := by simp
 rw [this, BitVec.toNat_ofInt, IntKind.wrap_i64]; omega
theorem bits_xor1 (a : Int) (h : -9223372036854775808 ≤ a ∧ a ≤ 9223372036854775807) : bits .xor .i64 a (-1) = -a - 1 := by
 show IntKind.i64.wrap (((BitVec.ofInt 64 a ^^^ BitVec.ofInt 64 (-1) : BitVec 64).toNat : Nat) : Int) = _
 have e : BitVec.ofInt 64 (-1) = BitVec.allOnes 64 := by decide
 have : (BitVec.ofInt 64 a ^^^ BitVec.ofInt 64 (-1)).toNat = 18446744073709551615 - (BitVec.ofInt 64 a).toNat := by
  rw [e, BitVec.xor_allOnes, BitVec.toNat_not]
 rw [this, BitVec.toNat_ofInt, IntKind.wrap_i64]; omega
theorem zig_of (x v : Int) (hx : x = wrap64 (v * 2)) (h1 : -9223372036854775808 ≤ v) (h2 : v ≤ 9223372036854775807) : IntKind.u64.wrap (bits .xor .i64 x (v / 9223372036854775808)) = zig v := by
 have hx' : x = (v * 2 + 9223372036854775808) % 18446744073709551616 - 9223372036854775808 := by rw [hx]; unfold wrap64; rfl
 unfold zig
 split
 ·rw [show v / 9223372036854775808 = 0 by omega, bits_xor0 _ (by omega), IntKind.wrap_u64]; omega
 ·rw [show v / 9223372036854775808 = -1 by omega, bits_xor1 _ (by omega), IntKind.wrap_u64]; omega
theorem bits_and1 (v : Int) (h1 : 0 ≤ v) (h2 : v ≤ 18446744073709551615) : bits .and .u64 v 1 = v % 2 := by
 rw [u64_and v 1 h1 (by omega) (by omega) (by omega), show (1 : Int).toNat = 1 from rfl, Nat.and_one_is_mod]; omega
theorem unz_of (v : Int) (h1 : 0 ≤ v) (h2 : v ≤ 18446744073709551615) : bits .xor .i64 (v / 2) (wrap64 (-wrap64 (bits .and .u64 v 1))) = unz v := by
 rw [bits_and1 v h1 h2]
 unfold unz
 split
 ·rename_i h; rw [h, show wrap64 (-wrap64 0) = 0 by unfold wrap64; omega, bits_xor0 _ (by omega)]
 ·rename_i h; rw [show v % 2 = 1 by omega, show wrap64 (-wrap64 1) = -1 by unfold wrap64; omega, bits_xor1 _ (by omega)]
theorem unz_bd (v : Int) (h1 : 0 ≤ v) (h2 : v ≤ 18446744073709551615) : -9223372036854775808 ≤ unz v ∧ unz v ≤ 9223372036854775807 := by unfold unz; split <;> omega
theorem zig_bd (v : Int) (h1 : -9223372036854775808 ≤ v) (h2 : v ≤ 9223372036854775807) : 0 ≤ zig v ∧ zig v ≤ 18446744073709551615 := by unfold zig; split <;> omega
theorem unz_zig (v : Int) : unz (zig v) = v := by unfold unz zig; split <;> split <;> omega
section
variable (w : World)
theorem zig64_any (v : Int) (h1 : -9223372036854775808 ≤ v) (h2 : v ≤ 9223372036854775807) : Calls Try.prog 89 #[.int .i64 v] w fun e w' => e = .returned (.int .u64 (zig v)) ∧ w = w' := by
 go_enter Try.func89, Try.ntmps89
 go_wp2
 go_ret
 exact ⟨ret_int (zig_of _ v rfl (by omega) (by omega)), rfl⟩
theorem zag64_any (u : Int) (h1 : 0 ≤ u) (h2 : u ≤ 18446744073709551615) : Calls Try.prog 144 #[.int .u64 u] w fun e w' => e = .returned (.tuple #[.int .i64 (unz u), .bool true]) ∧ w = w' := by
 have E : Hid ((bits .xor .i64 (u / 2) (wrap64 (-wrap64 (bits .and .u64 u 1)))) = unz u) := unz_of u h1 (by omega)
 go_enter Try.func144, Try.ntmps144
 go_wp2
 go_ret2
 exact ⟨ret_int_bool (by rw [E.out]) rfl, rfl⟩
end
end Go.Proofs.Ytbcmjjcbjojakaa
end
section
namespace Go.Proofs.Ytbcmjjcbjojakaa
open Go.RowKit
theorem hid {p : Prop} (h : p) : Hid p := h
/-- A fact kept from the walk, also from what looks at a hypothesis's two sides. -/
structure Hd (p : Prop) : Prop where
 out : p
/-- The slice '.slice A n c' reads as the cells xs, and lies below block B. -/
def Rd (w : World) (B : Nat) (A : Option Addr) (n : Nat) (xs : List Value) : Prop :=
 xs.length = n ∧ (0 < n → ∃ g off, A = some ⟨g, off, none⟩ ∧ g < B ∧ ∀ i, i < n → w.cell? ⟨g, off + i, none⟩ = xs[i]?)
/-- What the walk needs to know of a slice type t with elements e of one cell. -/
structure El (P : Program) (t e bytes : Nat) (z : Value) : Prop where
 ht : P.underlying t = some (.slice e)
 hi : ∃ i, P.info? e = some i ∧ i.zero = some z ∧ i.size = 1 ∧ i.bytes = bytes
 hz : z.cells.size = 1
section
variable {w w' : World} {B B' n : Nat} {A : Option Addr} {xs : List Value}
theorem Rd.nil : Rd w B A 0 [] := ⟨rfl, fun h => absurd h (by omega)⟩
theorem Rd.at_ (h : Rd w B A n xs) {k : Nat} (hk : k < n) : ∃ g off u, A = some ⟨g, off, none⟩ ∧ g < B ∧ xs[k]? = some u ∧ w.cell? ⟨g, off + k, none⟩ = some u := by
 obtain ⟨g, off, e, hb, hc⟩ := h.2 (by omega)
 have hl : k < xs.length := by have := h.1; omega
 exact ⟨g, off, xs[k], e, hb, List.getElem?_eq_getElem hl, (hc k hk).trans (List.getElem?_eq_getElem hl)⟩
theorem Rd.keep (h : Rd w B A n xs) (hk : ∀ p : Addr, p.block < B → w'.cell? p = w.cell? p) : Rd w' B A n xs :=
 ⟨h.1, fun hn => let ⟨g, off, e, hb, hc⟩ := h.2 hn; ⟨g, off, e, hb, fun i hi => (hk ⟨g, off + i, none⟩ hb).trans (hc i hi)⟩⟩
theorem Rd.more (h : Rd w B A n xs) (hB : B ≤ B') : Rd w B' A n xs :=
 ⟨h.1, fun hn => let ⟨g, off, e, hb, hc⟩ := h.2 hn; ⟨g, off, e, by omega, hc⟩⟩
theorem Rd.below (h : Rd w B A n xs) (hb : Below B w w') : Rd w' B A n xs := h.keep fun _ hp => hb.cell hp
theorem Rd.alloc (h : Rd w B A n xs) (hB : B ≤ w.heap.size) (o : Obj) : Rd (w.alloc o) B A n xs := h.keep fun p hp => World.cell?_alloc_lt w o p (by omega)
theorem Rd.setCell (h : Rd w B A n xs) {p : Addr} (hB : B ≤ p.block) (u : Value) : Rd (w.setCell p u) B A n xs :=
 h.keep fun q hq => World.cell?_setCell_other w p q u (fun e => by subst e; omega)
/-- A row that is owned reads as what it holds. -/
theorem Rd.of_own {base e c : Nat} (h : w.ownsRow base e 1 (.slice A n c) n xs) : Rd w w.heap.size A n xs := by
 refine ⟨by simpa using h.1, fun hn => ?_⟩
 rcases h.2 with ⟨hv, h0⟩ | ⟨g, cap, cur, hv, _, hg, hnc, _, hcs, htake⟩
 ·omega
 ·injection hv with hA hn' hc
  subst hA
  refine ⟨g, 0, rfl, (Array.getElem?_eq_some_iff.1 hg).1, fun i hi => ?_⟩
  rw [cell_of_row w g (0 + i) cur e (0, 0) hg, ← htake, List.getElem?_take, if_pos (by omega)]
  simp
/-- The value of an owned row is a slice of its length. -/
theorem own_form {base e : Nat} {v : Value} (h : w.ownsRow base e 1 v n xs) : ∃ A c, v = .slice A n c ∧ n ≤ c ∧ c ≤ maxLen := by
 rcases h.2 with ⟨hv, h0⟩ | ⟨g, cap, cur, hv, _, hg, hnc, hm, hcs, htake⟩
 ·subst h0; exact ⟨none, 0, hv, Nat.le_refl _, Nat.zero_le _⟩
 ·exact ⟨_, cap, hv, hnc, hm⟩
end
/-- From w on the row 's' (of the call's own, or nil) was grown: in w' it is v', of n elements xs; nothing that was there but that row has turned. -/
def Onto (w w' : World) (base e : Nat) (s v' : Value) (n : Nat) (xs : List Value) : Prop :=
 w'.ownsRow base e 1 v' n xs ∧ w.grownBy w' s.ownBlock ∧ ∀ k, v'.ownBlock = some k → s.ownBlock = some k ∨ w.heap.size ≤ k
section
variable {w w1 w2 : World} {base e n n1 n2 : Nat} {s v1 v2 : Value} {xs xs1 xs2 : List Value}
theorem Onto.refl (h : w.ownsRow base e 1 s n xs) : Onto w w base e s s n xs := ⟨h, World.grownBy.refl w _, fun _ h => .inl h⟩
theorem Onto.nil (w : World) (base e : Nat) : Onto w w base e (.slice none 0 0) (.slice none 0 0) 0 [] := .refl (World.ownsRow_nil w base e 1)
theorem Onto.trans (h : Onto w w1 base e s v1 n1 xs1) (g : Onto w1 w2 base e v1 v2 n2 xs2) : Onto w w2 base e s v2 n2 xs2 := by
 obtain ⟨_, hg, hl⟩ := h
 obtain ⟨ho, gg, gl⟩ := g
 refine ⟨ho, ⟨gg.os.trans hg.os, gg.tape.trans hg.tape, gg.output.trans hg.output, Nat.le_trans hg.size gg.size, fun k hk hne => ?_⟩, fun k hk => ?_⟩
 ·refine (gg.block k (Nat.lt_of_lt_of_le hk hg.size) fun he => ?_).trans (hg.block k hk hne)
  rcases hl k he.symm with h1 | h1
  ·exact hne h1.symm
  ·omega
 ·rcases gl k hk with h1 | h1
  ·exact hl k h1
  ·exact .inr (Nat.le_trans hg.size h1)
theorem Onto.below {B : Nat} (h : Onto w w1 base e s v1 n1 xs1) (hs : ∀ k, s.ownBlock = some k → B ≤ k) (hB : B ≤ w.heap.size) : Below B w w1 :=
 (Below.refl B w).grown h.2.1 hB hs
theorem Onto.own (h : Onto w w1 base e s v1 n1 xs1) : w1.ownsRow base e 1 v1 n1 xs1 := h.1
theorem Onto.size (h : Onto w w1 base e s v1 n1 xs1) : w.heap.size ≤ w1.heap.size := h.2.1.size
theorem Onto.base_ {base' : Nat} (h : Onto w w1 base e s v1 n1 xs1) (hs : ∀ k, s.ownBlock = some k → base' ≤ k) (hB : base' ≤ w.heap.size) : w1.ownsRow base' e 1 v1 n1 xs1 := by
 obtain ⟨⟨h1, h2⟩, _, hl⟩ := h
 refine ⟨h1, ?_⟩
 rcases h2 with h2 | ⟨g, cap, cur, rfl, hb, rest⟩
 ·exact .inl h2
 ·refine .inr ⟨g, cap, cur, rfl, ?_, rest⟩
  rcases hl g rfl with h3 | h3
  ·exact hs g h3
  ·omega
end
section
variable {P : Program} {w : World} {t e bytes : Nat} {z : Value}
theorem run_build0 (E : El P t e bytes z) : (Instr.buildSlice t 0 #[]).run P w = .ok (.slice (some ⟨w.heap.size, 0, none⟩) 0 0) (w.alloc (.cells #[] e)) := by
 obtain ⟨i, hi, hz, hs, hb⟩ := E.hi
 simp [Instr.buildSlice, run_underlying E.ht, sizeOf, typeInfo, hi, Instr.fill, go_sem]
theorem run_build1 (E : El P t e bytes z) (u : Value) (h1 : u.oneCell' = true) : (Instr.buildSlice t 1 #[(0, u)]).run P w = .ok (.slice (some ⟨w.heap.size, 0, none⟩) 1 1) (w.alloc (.cells #[u] e)) := by
 obtain ⟨i, hi, hz, hs, hb⟩ := E.hi
 cases u <;> first | (simp [Value.oneCell'] at h1; done) | simp [Instr.buildSlice, run_underlying E.ht, sizeOf, typeInfo, hi, hs, Instr.fill, go_sem, zeroValue, hz]
theorem run_conv_str (src dst e' : TypeId) (hs : P.underlying src = some (.slice e')) (he : P.underlying e' = some (.int .u8)) (hd : P.underlying dst = some .string) {B : Nat} {A : Option Addr} {n : Nat} (c : Nat) {zs : List Int}
  (hr : Rd w B A n (zs.map (.int .u8))) : (convert src dst (.slice A n c)).run P w = .ok (.string (strOfNums zs)) w := by
 have hz : zs.length = n := by simpa using hr.1
 rcases Nat.eq_zero_or_pos n with h0 | h0
 ·subst h0
  have : zs = [] := List.eq_nil_of_length_eq_zero hz
  subst this
  rw [run_convert_bytes_string w src dst e' A 0 c hs he hd]
  cases A <;> simp [Conv.bytesToString, strOfNums, ByteArray.empty, ByteArray.emptyWithCapacity, loadCells, loadCellsFrom] <;> rfl
 ·obtain ⟨g, off, rfl, _, hc⟩ := hr.2 h0
  refine run_convert_bytes_arg w src e' hs he g off n c zs hz (fun i hi => ?_) dst hd
  rw [hc i hi, List.getElem?_map, List.getD_eq_getElem?_getD, List.getElem?_eq_getElem (by omega)]; rfl
/-- Where a cut of a slice lies. -/
def cutA (A : Option Addr) (c l : Nat) : Option Addr := if c = l then A else A.map (·.add l)
theorem cutA_0 (A : Option Addr) (c : Nat) : cutA A c 0 = A := by
 unfold cutA; split
 ·rfl
 ·cases A <;> simp [Addr.add]
theorem run_cut (E : El P t e bytes z) (A : Option Addr) (n c l h : Nat) (hl : l ≤ h) (hh : h ≤ c) :
  (Instr.slice t (.slice A n c) (some (.int .i64 (l : Int))) (some (.int .i64 (h : Int))) none).run P w = .ok (.slice (cutA A c l) (h - l) (c - l)) w := by
 obtain ⟨i, hi, hz, hs, hb⟩ := E.hi
 simp [Instr.slice, run_underlying E.ht, Instr.sliceBounds, run_sliceBound, sizeOf, typeInfo, hi, hs, cutA, hl, hh, Int.ofNat_le]
theorem run_cut_to (E : El P t e bytes z) (A : Option Addr) (n c h : Nat) (hh : h ≤ c) :
  (Instr.slice t (.slice A n c) none (some (.int .i64 (h : Int))) none).run P w = .ok (.slice A h c) w := by
 obtain ⟨i, hi, hz, hs, hb⟩ := E.hi
 have := cutA_0 A c
 unfold cutA at this
 simp [Instr.slice, run_underlying E.ht, Instr.sliceBounds, run_sliceBound, sizeOf, typeInfo, hi, hh, Int.ofNat_le]
 intro h0; rw [if_neg h0] at this; exact this
theorem run_cut_from (E : El P t e bytes z) (A : Option Addr) (n c l : Nat) (hl : l ≤ n) :
  (Instr.slice t (.slice A n c) (some (.int .i64 (l : Int))) none none).run P w = .ok (.slice (cutA A c l) (n - l) (c - l)) w := by
 obtain ⟨i, hi, hz, hs, hb⟩ := E.hi
 simp [Instr.slice, run_underlying E.ht, Instr.sliceBounds, run_sliceBound, sizeOf, typeInfo, hi, hs, cutA, hl, Int.ofNat_le]
theorem Rd.cut {B n : Nat} {A : Option Addr} {xs : List Value} (hr : Rd w B A n xs) {c l h : Nat} (hl : l ≤ h) (hh : h ≤ n) (hn : n ≤ c) : Rd w B (cutA A c l) (h - l) ((xs.drop l).take (h - l)) := by
 refine ⟨by rw [List.length_take, List.length_drop, hr.1]; omega, fun hp => ?_⟩
 obtain ⟨g, off, rfl, hb, hc⟩ := hr.2 (by omega)
 unfold cutA
 rw [if_neg (by omega)]
 refine ⟨g, off + l, ?_, hb, fun i hi => ?_⟩
 ·simp only [Option.map_some, Addr.add]
  split
  ·rename_i h0; subst h0; rfl
  ·rfl
 ·rw [Nat.add_assoc, hc (l + i) (by omega), List.getElem?_take, if_pos hi, List.getElem?_drop]
theorem Rd.take {B n : Nat} {A : Option Addr} {xs : List Value} (hr : Rd w B A n xs) {h : Nat} (hh : h ≤ n) : Rd w B A h (xs.take h) := by
 refine ⟨by rw [List.length_take, hr.1]; omega, fun hp => ?_⟩
 obtain ⟨g, off, rfl, hb, hc⟩ := hr.2 (by omega)
 exact ⟨g, off, rfl, hb, fun i hi => by rw [hc i (by omega), List.getElem?_take, if_pos hi]⟩
/-- 'append(s, x...)': s is a row of the call's own (or nil), x reads as 'news' (nil let in). -/
theorem run_app (E : El P t e bytes z) (ty base : Nat) (v : Value) (n : Nat) (xs : List Value) (hown : w.ownsRow base e 1 v n xs) (B : Nat) (A : Option Addr) (m c : Nat) (news : List Value)
  (hr : Rd w B A m news) (h1 : ∀ u ∈ news, u.oneCell' = true) (h63 : n + m ≤ maxLen) (hby : (n + m) * bytes ≤ 140737488355328) (hbase : base ≤ w.heap.size) :
  ∃ v' w', (Builtin.append_ #[t, t] ty #[v, .slice A m c]).run P w = .ok v' w' ∧ w'.ownsRow base e 1 v' (n + m) (xs ++ news) ∧ w.grownBy w' v.ownBlock ∧
   (v'.ownBlock = v.ownBlock ∨ v'.ownBlock = some w.heap.size) := by
 obtain ⟨i, hi, hz, hs, hb⟩ := E.hi
 rcases A with _ | ad
 ·have hm : m = 0 := by
   rcases Nat.eq_zero_or_pos m with h0 | h0
   ·exact h0
   ·obtain ⟨_, _, h, _⟩ := hr.2 h0; cases h
  subst hm
  have hn : news = [] := List.eq_nil_of_length_eq_zero hr.1
  subst hn
  refine ⟨v, w, ?_, by simpa using hown, World.grownBy.refl w _, .inl rfl⟩
  rcases hown.2 with ⟨rfl, rfl⟩ | ⟨g, cap, cur, rfl, _, _, hnc, _⟩
  ·simp [Builtin.append_, run_underlying E.ht, sizeOf, typeInfo, hi, Builtin.lenOf, Builtin.firstCells]
  ·simp [Builtin.append_, run_underlying E.ht, sizeOf, typeInfo, hi, Builtin.lenOf, Builtin.firstCells, hnc, storeCells]
 ·have hcells : ∀ j u, news[j]? = some u → w.cell? (ad.add j) = some u := by
   intro j u hu
   have hj : j < m := by have := (List.getElem?_eq_some_iff.1 hu).1; have := hr.1; omega
   obtain ⟨g, off, he, _, hc⟩ := hr.2 (by omega)
   injection he with he
   subst he
   have : (⟨g, off, none⟩ : Addr).add j = ⟨g, off + j, none⟩ := by unfold Addr.add; split <;> simp_all
   rw [this, hc j hj, hu]
  obtain ⟨v', w', hrun, h2, h3, _, h5⟩ := run_append_own_at (P := P) w base t ty e i z 1 bytes E.ht hi hz hs hb E.hz (by omega) v n xs hown ad m c news (by simpa using hr.1) hcells h1 h63 hby hbase
  exact ⟨v', w', hrun, h2, h3, h5⟩
section
variable {ops : Array Oper} {rest : List Oper} {o o1 o2 : Oper} {a : Act} {Q : Exit → Act → World → Prop}
theorem wpList_app (E : El P t e bytes z) (hgd : o.guard = none) (s x : Operand) (ho : o.op = .call { callee := .builtin .append, args := #[s, x], argTypes := #[t, t] })
  (base : Nat) (v : Value) (n : Nat) (xs : List Value) (hs : a.eval s = v) (hown : w.ownsRow base e 1 v n xs) (B : Nat) (A : Option Addr) (m c : Nat) (news : List Value) (hx : a.eval x = .slice A m c)
  (hr : Rd w B A m news) (h1 : ∀ u ∈ news, u.oneCell' = true) (h63 : n + m ≤ maxLen) (hby : (n + m) * bytes ≤ 140737488355328) (hbase : base ≤ w.heap.size)
  (h : ∀ v' w', Onto w w' base e v v' (n + m) (xs ++ news) → wpList P ops Q rest (a.put o.dst v') w') :
  wpList P ops Q (o :: rest) a w := by
 refine wpList_plain hgd fun K hK => ?_
 obtain ⟨v', w', hrun, h2, h3, h4⟩ := run_app E o.type base v n xs hown B A m c news hr h1 h63 hby hbase
 unfold Oper.wp execOp
 simp only [ho, resolve, invoke, builtin, Sem.run_bind, Sem.run_pure, Result.andThen_ok, List.map_toArray, List.map_cons, List.map_nil, hs, hx, hrun]
 exact hK _ _ (h v' w' ⟨h2, h3, fun k hk => by rcases h4 with h4 | h4 <;> rw [h4] at hk <;> first | exact .inl hk | (injection hk; omega)⟩)
/-- '[]T{}': a row of its own, empty. -/
theorem wpList_build0 (E : El P t e bytes z) (hgd : o.guard = none) (ho : o.op = .buildSlice t 0 #[]) (base : Nat) (hbase : base ≤ w.heap.size)
  (h : ∀ v' w', Onto w w' base e (.slice none 0 0) v' 0 [] → wpList P ops Q rest (a.put o.dst v') w') : wpList P ops Q (o :: rest) a w := by
 refine wpList_plain hgd fun K hK => ?_
 have hb0 := run_build0 (w := w) E
 unfold Oper.wp execOp
 simp only [ho, List.map_toArray, List.map_nil, Sem.run_bind, Sem.run_pure, Result.andThen_ok, hb0, Oper.upon]
 exact hK _ _ (h _ _ ⟨World.ownsRow_made w #[] 0 hbase (Nat.zero_le _) rfl, World.grownBy_alloc w _ _, fun k hk => by simp [Value.ownBlock] at hk; exact .inr (by omega)⟩)
/-- 'append(s, x)' of one element: the two operations at once. -/
theorem wpList_push (E : El P t e bytes z) (hg1 : o1.guard = none) (hg2 : o2.guard = none) (s x : Operand) (d : Nat) (hd : o1.dst = some d) (ho1 : o1.op = .buildSlice t 1 #[(0, x)])
  (ho2 : o2.op = .call { callee := .builtin .append, args := #[s, .tmp d], argTypes := #[t, t] })
  (base : Nat) (v : Value) (n : Nat) (xs : List Value) (u : Value) (hx : a.eval x = u) (h1 : u.oneCell' = true)
  (hs : (a.put (some d) (.slice (some ⟨w.heap.size, 0, none⟩) 1 1)).eval s = v) (hdv : (a.put (some d) (.slice (some ⟨w.heap.size, 0, none⟩) 1 1)).eval (.tmp d) = .slice (some ⟨w.heap.size, 0, none⟩) 1 1)
  (hown : w.ownsRow base e 1 v n xs) (h63 : n + 1 ≤ maxLen) (hby : (n + 1) * bytes ≤ 140737488355328) (hbase : base ≤ w.heap.size)
  (h : ∀ v' w', Onto w w' base e v v' (n + 1) (xs ++ [u]) →
   wpList P ops Q rest ((a.put (some d) (.slice (some ⟨w.heap.size, 0, none⟩) 1 1)).put o2.dst v') w') :
  wpList P ops Q (o1 :: o2 :: rest) a w := by
 refine wpList_plain hg1 fun K hK => ?_
 have hb1 := run_build1 (w := w) E u h1
 unfold Oper.wp execOp
 simp only [ho1, List.map_toArray, List.map_cons, List.map_nil, hx, Sem.run_bind, Sem.run_pure, Result.andThen_ok, hb1, Oper.upon, hd]
 refine hK _ _ ?_
 refine wpList_app E hg2 s (.tmp d) ho2 base v n xs hs (hown.alloc _) (w.heap.size + 1) (some ⟨w.heap.size, 0, none⟩) 1 1 [u] hdv ?_ (by simpa using h1) h63 hby (by simp; omega) fun v' w' g1 => ?_
 ·refine ⟨rfl, fun _ => ⟨w.heap.size, 0, rfl, by omega, fun i hi => ?_⟩⟩
  obtain rfl : i = 0 := by omega
  simp
 ·refine h v' w' ⟨g1.1, (World.grownBy_alloc w _ v.ownBlock).trans g1.2.1, fun k hk => ?_⟩
  rcases g1.2.2 k hk with h1 | h1
  ·exact .inl h1
  ·simp at h1; exact .inr (by omega)
end
end
end Go.Proofs.Ytbcmjjcbjojakaa
end
section
namespace Go.Proofs.Ytbcmjjcbjojakaa
/-- The cells of bytes. -/
def bv (x : Nat) : Value := .int .u8 (x : Int)
def cb (l : List Nat) : List Value := l.map bv
theorem cb_append (a b : List Nat) : cb (a ++ b) = cb a ++ cb b := List.map_append
theorem cb_length (a : List Nat) : (cb a).length = a.length := List.length_map _
theorem cb_one (a : List Nat) : ∀ u ∈ cb a, u.oneCell' = true := by
 intro u hu; obtain ⟨x, _, rfl⟩ := List.mem_map.1 hu; rfl
theorem cb_get (a : List Nat) (k : Nat) (h : k < a.length) : (cb a)[k]? = some (.int .u8 ((a.getD k 0 : Nat) : Int)) := by
 unfold cb; rw [List.getElem?_map, List.getElem?_eq_getElem h, List.getD_eq_getElem?_getD, List.getElem?_eq_getElem h]; rfl
theorem cb_ints (l : List Nat) : cb l = (l.map Int.ofNat).map (.int .u8) := by unfold cb; rw [List.map_map]; rfl
/-- The string whose bytes these are. -/
def bstr (l : List Nat) : ByteArray := strOfNums (l.map Int.ofNat)
theorem bstr_data (l : List Nat) : (bstr l).data.toList = l.map UInt8.ofNat := by
 unfold bstr; rw [strOfNums_data, List.map_map]; rfl
end Go.Proofs.Ytbcmjjcbjojakaa
end
section
namespace Go.Proofs.Ytbcmjjcbjojakaa
/-- The groups of a number, at most k + 1 of them, the lowest first. -/
def uvf : Nat → Nat → List Nat
 | 0, v => [v]
 | k + 1, v => if v < 128 then [v] else (v % 128 + 128) :: uvf k (v / 128)
def uv (v : Nat) : List Nat := uvf 9 v
theorem uvf_len : ∀ k v, 1 ≤ (uvf k v).length ∧ (uvf k v).length ≤ k + 1
 | 0, v => by simp [uvf]
 | k + 1, v => by
  unfold uvf; split
  ·simp
  ·have := uvf_len k (v / 128); simp; omega
theorem uv_len (v : Nat) : 1 ≤ (uv v).length ∧ (uv v).length ≤ 10 := uvf_len 9 v
theorem or128 (x : Int) (h0 : 0 ≤ x) (h1 : x < 128) : bits .or .u8 x 128 = x + 128 := by
 obtain ⟨n, rfl⟩ := Int.eq_ofNat_of_zero_le h0
 have hn : n < 128 := by omega
 have h := u8_or_nat n 128 (by omega) (by omega)
 rw [show (128 : Int) = ((128 : Nat) : Int) from rfl, h, Nat.or_comm, nat_join 7 128 n (by omega) (by omega)]
 omega
theorem or128' (x : Int) (h0 : 0 ≤ x) (h1 : x < 256) (h : 128 ≤ x) : bits .or .u8 x 128 = x := by
 obtain ⟨n, rfl⟩ := Int.eq_ofNat_of_zero_le h0
 have hh := u8_or_nat n 128 (by omega) (by omega)
 rw [show (128 : Int) = ((128 : Nat) : Int) from rfl, hh]
 have : n = 128 + (n - 128) := by omega
 rw [this, ← nat_join 7 128 (n - 128) (by omega) (by omega), Nat.or_comm, ← Nat.or_assoc, Nat.or_self]
/-- What 'byte(v) | 128' is. -/
theorem or128_mod (v : Nat) : bits .or .u8 (IntKind.u8.wrap (v : Int)) 128 = ((v % 128 + 128 : Nat) : Int) := by
 rw [IntKind.wrap_u8]
 by_cases h : v % 256 < 128
 ·rw [or128 _ (by omega) (by omega)]; omega
 ·rw [or128' _ (by omega) (by omega) (by omega)]; omega
end Go.Proofs.Ytbcmjjcbjojakaa
end
section
namespace Go.Proofs.Ytbcmjjcbjojakaa
open Go.RowKit
set_option linter.unusedVariables false
theorem infoB : (Try.prog.info? 5).map (fun i => (i.zero, i.size, i.bytes)) = some (some (.int .u8 0), 1, 1) := by kernel_rfl
theorem elB : El Try.prog 26 5 1 (.int .u8 0) := ⟨Try.underlying26, info_parts infoB, rfl⟩
theorem uvf_small (k m : Nat) (h : m < 128) : uvf k m = [m] := by cases k <;> simp [uvf, h]
theorem pow_step (k m : Nat) (h : m < 2 ^ (7 * (k + 1) + 1)) : m / 128 < 2 ^ (7 * k + 1) := by
 rw [show 7 * (k + 1) + 1 = (7 * k + 1) + 7 by omega, Nat.pow_add] at h
 omega
theorem pow_64 (k m : Nat) (hk : k ≤ 9) (h : m < 2 ^ (7 * k + 1)) : (m : Int) ≤ 18446744073709551615 := by
 have : 2 ^ (7 * k + 1) ≤ 2 ^ 64 := Nat.pow_le_pow_right (by omega) (by omega)
 omega
set_option maxHeartbeats 400000 in
theorem short_any (w : World) (base n v : Nat) (sv : Value) (xs : List Nat) (hown : w.ownsRow base 5 1 sv n (cb xs)) (hv : v < 2 ^ 64) (hn : n + 10 ≤ 140737488355328) (hbase : base ≤ w.heap.size) :
  Calls Try.prog 99 #[sv, .int .u64 v] w fun e w' => ∃ v', e = .returned v' ∧ Onto w w' base 5 sv v' (n + (uv v).length) (cb (xs ++ uv v)) := by
 go_enter Try.func99, Try.ntmps99
 go_wp2
 go_loopw [0, 1] (fun s x wr => ∃ (k m : Nat) (ys : List Nat), x = .int .u64 m ∧ m < 2 ^ (7 * k + 1) ∧ uv v = ys ++ uvf k m ∧ k ≤ 9 ∧ ys.length + k = 9 ∧ Onto w wr base 5 sv s (n + ys.length) (cb (xs ++ ys)))
  (fun _ x _ => (intOf x).toNat)
 case atStart => exact ⟨9, v, [], rfl, hv, rfl, by omega, rfl, by simpa using Onto.refl hown⟩
 case round =>
  obtain ⟨k, m, ys, rfl, hm, hu, hk, hl, hO⟩ := hrel
  have hm64 := pow_64 k m hk hm
  have H0 : (0 : Int) ≤ (m : Int) := by omega
  have hB : Hid (base ≤ wr.heap.size) := Nat.le_trans hbase hO.size
  have h63 : Hid (n + ys.length + 1 ≤ maxLen) := by show _ ≤ _; unfold maxLen; omega
  have hby : Hid ((n + ys.length + 1) * 1 ≤ 140737488355328) := by show _ ≤ _; omega
  generalize hX : (m : Int) = X at *
  have HH : Hid ((m : Int) = X ∧ m < 2 ^ (7 * k + 1) ∧ uv v = ys ++ uvf k m ∧ k ≤ 9 ∧ ys.length + k = 9 ∧ Onto w wr base 5 sv u0 (n + ys.length) (cb (xs ++ ys))) := ⟨hX, hm, hu, hk, hl, hO⟩
  clear hm hu hl hk hO hX hn hv hown hbase
  by_cases h : X < 128
  ·go_wp2_with (refine wpList_push elB rfl rfl (.tmp 15) (.tmp 17) 18 rfl rfl rfl base u0 _ _ _ rfl rfl rfl rfl HH.out.2.2.2.2.2.own h63.out hby.out hB.out ?_; intro v1 w1 hO1)
   go_ret
   obtain ⟨hX, hm, hu, hk, hl, hO⟩ := HH
   have h2 : Onto wr w1 base 5 u0 v1 (n + ys.length + 1) (cb (xs ++ ys) ++ [.int .u8 X]) := hO1
   refine ⟨v1, rfl, ?_⟩
   rw [hu, uvf_small k m (by omega), ← List.append_assoc, cb_append, List.length_append]
   rw [← hX] at h2
   exact hO.trans h2
  ·go_wp2_with (refine wpList_push elB rfl rfl (.tmp 9) (.tmp 12) 13 rfl rfl rfl base u0 _ _ _ rfl rfl rfl rfl HH.out.2.2.2.2.2.own h63.out hby.out hB.out ?_; intro v1 w1 hO1)
   obtain ⟨hX, hm, hu, hk, hl, hO⟩ := HH
   have h2 : Onto wr w1 base 5 u0 v1 (n + ys.length + 1) (cb (xs ++ ys) ++ [.int .u8 (bits .or .u8 (IntKind.u8.wrap X) 128)]) := hO1
   rw [← hX, or128_mod] at h2
   obtain ⟨k, rfl⟩ : ∃ q, k = q + 1 := by
    cases k with
    | zero => omega
    | succ q => exact ⟨q, rfl⟩
   go_roundw
   case rel =>
    refine ⟨k, m / 128, ys ++ [m % 128 + 128], ?_, pow_step k m hm, ?_, by omega, by simp; omega, ?_⟩
    ·rw [← hX]; rfl
    ·rw [hu]; simp only [uvf]; rw [if_neg (by omega)]; simp
    ·rw [← List.append_assoc, cb_append, List.length_append]
     exact hO.trans h2
   case measure => simp [intOf]; omega
set_option maxHeartbeats 400000 in
theorem clone_any (w : World) (A : Option Addr) (n c B : Nat) (bs : List Nat) (hr : Rd w B A n (cb bs)) (hn : n ≤ 140737488355328) (hB : B ≤ w.heap.size) :
  Calls Try.prog 86 #[.slice A n c] w fun e w' => ∃ v', e = .returned v' ∧ Onto w w' w.heap.size 5 (.slice none 0 0) v' n (cb bs) := by
 have hq := fun w a l c => Lib.run_eql_slice_nil (P := Try.prog) w 26 5 a l c 0 0 Try.underlying26
 have HR : Hid (Rd w B A n (cb bs)) := hr
 have h63 : Hid (0 + n ≤ maxLen) := by show _ ≤ _; unfold maxLen; omega
 have hby : Hid ((0 + n) * 1 ≤ 140737488355328) := by show _ ≤ _; omega
 have HB : Hid (B ≤ w.heap.size) := hB
 clear hr hn hB
 cases A with
 | none =>
  go_enter Try.func86, Try.ntmps86
  go_wp2
  go_ret
  have h0 : n = 0 := by
   rcases Nat.eq_zero_or_pos n with h | h
   ·exact h
   ·obtain ⟨_, _, h, _⟩ := HR.out.2 h; cases h
  subst h0
  have hb : cb bs = [] := List.eq_nil_of_length_eq_zero HR.out.1
  rw [hb]
  exact ⟨_, rfl, Onto.nil w _ _⟩
 | some ad =>
  go_enter Try.func86, Try.ntmps86
  go_wp2_with (first
   | (refine wpList_build0 elB rfl rfl w.heap.size (Nat.le_refl _) ?_; intro v1 w1 hO1)
   | (refine wpList_app elB rfl (.tmp 5) (.tmp 6) rfl w.heap.size v1 0 [] rfl hO1.own B (some ad) n c (cb bs) rfl (HR.out.below (hO1.below (fun k h => by cases h) HB.out)) (cb_one bs) h63.out hby.out hO1.size ?_; intro v2 w2 hO2))
  go_ret
  exact ⟨v2, rfl, by have := hO1.trans hO2; simpa using this⟩
set_option maxHeartbeats 400000 in
theorem putUvarint_any (w : World) (A : Option Addr) (n c B v : Nat) (bs : List Nat) (hr : Rd w B A n (cb bs)) (hv : v < 2 ^ 64) (hn : n + 10 ≤ 140737488355328) (hB : B ≤ w.heap.size) :
  Calls Try.prog 67 #[.slice A n c, .int .u64 v] w fun e w' => ∃ v', e = .returned v' ∧ Onto w w' w.heap.size 5 (.slice none 0 0) v' (n + (uv v).length) (cb (bs ++ uv v)) := by
 have HH : Hid (Rd w B A n (cb bs) ∧ v < 2 ^ 64 ∧ n + 10 ≤ 140737488355328 ∧ B ≤ w.heap.size) := ⟨hr, hv, hn, hB⟩
 clear hr hv hn hB
 go_enter Try.func67, Try.ntmps67
 go_wp2_with (first
  | (go_at_call 86; refine (clone_any w A n c B bs HH.out.1 (by have := HH.out.2.2.1; omega) HH.out.2.2.2).mono ?_; rintro e w1 ⟨v1, rfl, hO1⟩)
  | (go_at_call 99; refine (short_any w1 w.heap.size n v v1 bs hO1.own HH.out.2.1 HH.out.2.2.1 hO1.size).mono ?_; rintro e w2 ⟨v2, rfl, hO2⟩))
 go_ret
 exact ⟨v2, rfl, hO1.trans hO2⟩
end Go.Proofs.Ytbcmjjcbjojakaa
end
section
namespace Go.Proofs.Ytbcmjjcbjojakaa
open Go.RowKit
/-- Two values share no row. -/
def Apart (v v' : Value) : Prop := ∀ k, v.ownBlock = some k → v'.ownBlock ≠ some k
theorem Apart.symm {v v' : Value} (h : Apart v v') : Apart v' v := fun k h1 h2 => h k h2 h1
theorem Apart.nil (v : Value) : Apart (.slice none 0 0) v := fun k h => by cases h
section
variable {w w1 : World} {base e n n1 base' e' size n' : Nat} {s v1 v : Value} {xs1 xs' : List Value}
theorem Onto.keep (h : Onto w w1 base e s v1 n1 xs1) (o : w.ownsRow base' e' size v n' xs') (d : Apart s v) : w1.ownsRow base' e' size v n' xs' :=
 o.kept h.2.1 (by
  cases hv : v.ownBlock with
  | none => exact .inl rfl
  | some k => exact .inr fun hs => d k hs.symm hv)
/-- A row written out: new, apart from all that was there. -/
theorem onto_lit {w : World} {e : TypeId} (cs : List Value) (hm : cs.length ≤ maxLen) :
  Onto w (w.alloc (.cells cs.toArray e)) w.heap.size e (.slice none 0 0) (.slice (some ⟨w.heap.size, 0, none⟩) cs.length cs.length) cs.length cs :=
 ⟨⟨by simp, .inr ⟨w.heap.size, cs.length, cs.toArray, rfl, Nat.le_refl _, heap_alloc_new w _, Nat.le_refl _, hm, by simp, by simp⟩⟩, World.grownBy_alloc w _ _, fun k hk => by simp [Value.ownBlock] at hk; exact .inr (by omega)⟩
theorem rd_litF {w : World} {e : TypeId} (cs : List Value) (fr : Nat × Nat) : Rd (w.alloc (.cells cs.toArray e fr)) (w.heap.size + 1) (some ⟨w.heap.size, 0, none⟩) cs.length cs :=
 ⟨rfl, fun h => ⟨w.heap.size, 0, rfl, by omega, fun i hi => by
  rw [cell_of_row _ w.heap.size (0 + i) cs.toArray e fr (heap_alloc_new w _)]; simp⟩⟩
theorem own_pos {w : World} {base e n : Nat} {v : Value} {xs : List Value} (h : w.ownsRow base e 1 v n xs) (hn : 0 < n) : ∃ g cap, v = .slice (some ⟨g, 0, none⟩) n cap ∧ base ≤ g ∧ g < w.heap.size := by
 rcases h.2 with ⟨_, h0⟩ | ⟨g, cap, cur, hv, hb, hg, _⟩
 ·omega
 ·exact ⟨g, cap, hv, hb, (Array.getElem?_eq_some_iff.1 hg).1⟩
end
section
variable {P : Program} {w : World} {t e bytes : Nat} {z : Value} {ops : Array Oper} {o : Oper} {a : Act} {Q : Exit → Act → World → Prop} {K : Act → World → Prop}
/-- 'append' as a step of a region that draws its order. -/
theorem step_app {Z : Prop} (E : El P t e bytes z) (hgd : o.guard = none) (s x : Operand) (ho : o.op = .call { callee := .builtin .append, args := #[s, x], argTypes := #[t, t] })
  (base : Nat) (v : Value) (n : Nat) (xs : List Value) (hs : a.eval s = v) (hown : w.ownsRow base e 1 v n xs) (B : Nat) (A : Option Addr) (m c : Nat) (news : List Value) (hx : a.eval x = .slice A m c)
  (hr : Rd w B A m news) (h1 : ∀ u ∈ news, u.oneCell' = true) (h63 : n + m ≤ maxLen) (hby : (n + m) * bytes ≤ 140737488355328) (hbase : base ≤ w.heap.size)
  (h : ∀ v' w', Onto w w' base e v v' (n + m) (xs ++ news) → K (a.put o.dst v') w') :
  if Region.wanted o (yielded ops a.tmps) = true then Oper.wp P o a w K Q else Z := by
 have hw : Region.wanted o (yielded ops a.tmps) = true := by simp [Region.wanted, hgd]
 rw [if_pos hw]
 obtain ⟨v', w', hrun, h2, h3, h4⟩ := run_app E o.type base v n xs hown B A m c news hr h1 h63 hby hbase
 unfold Oper.wp execOp
 simp only [ho, resolve, invoke, builtin, Sem.run_bind, Sem.run_pure, Result.andThen_ok, List.map_toArray, List.map_cons, List.map_nil, hs, hx, hrun]
 exact h v' w' ⟨h2, h3, fun k hk => by rcases h4 with h4 | h4 <;> rw [h4] at hk <;> first | exact .inl hk | (injection hk; omega)⟩
end
/-- Where a walk stands that began in w0: slices that read as these bytes; nothing that was there at the beginning has turned. -/
structure RS (w0 w : World) (L : List (Option Addr × Nat × List Nat)) : Prop where
 rds : ∀ x ∈ L, Rd w w.heap.size x.1 x.2.1 (cb x.2.2)
 bel : Below w0.heap.size w0 w
section
variable {w0 w w' : World} {L : List (Option Addr × Nat × List Nat)} {A : Option Addr} {n : Nat} {bs : List Nat}
end
end Go.Proofs.Ytbcmjjcbjojakaa
end
section
namespace Go.Proofs.Ytbcmjjcbjojakaa
open Go.RowKit
set_option linter.unusedVariables false
/-- The lowest k bytes of a number. -/
def fx (k v : Nat) : List Nat := (List.range k).map fun i => v / 2 ^ (8 * i) % 256
theorem fx_len (k v : Nat) : (fx k v).length = k := by simp [fx]
theorem fx_succ (k v : Nat) : fx (k + 1) v = fx k v ++ [v / 2 ^ (8 * k) % 256] := by unfold fx; rw [List.range_succ, List.map_append]; rfl
theorem fx_lt (k v : Nat) : ∀ x ∈ fx k v, x < 256 := by
 intro x hx
 obtain ⟨i, _, rfl⟩ := List.mem_map.1 hx
 exact Nat.mod_lt _ (by omega)
theorem shr_cell (v i : Nat) : (v : Int) / 2 ^ (8 * i) % 256 = ((v / 2 ^ (8 * i) % 256 : Nat) : Int) := by
 have : ((2 ^ (8 * i) : Nat) : Int) = (2 : Int) ^ (8 * i) := by push_cast; rfl
 rw [← this, Int.natCast_emod, Int.natCast_ediv]; rfl
set_option maxRecDepth 10000000 in
theorem len_1 (w : World) : Calls Try.prog 106 #[.int .u64 255] w fun e w' => e = .returned (.int .i64 8) ∧ w = w' := by
 go_enter Try.func106, Try.ntmps106
 go_wp2_with fail
 go_ret
 exact ⟨by kernel_rfl, rfl⟩
set_option maxRecDepth 10000000 in
theorem len_2 (w : World) : Calls Try.prog 106 #[.int .u64 65535] w fun e w' => e = .returned (.int .i64 16) ∧ w = w' := by
 go_enter Try.func106, Try.ntmps106
 go_wp2_with fail
 go_ret
 exact ⟨by kernel_rfl, rfl⟩
set_option maxRecDepth 10000000 in
theorem len_4 (w : World) : Calls Try.prog 106 #[.int .u64 4294967295] w fun e w' => e = .returned (.int .i64 32) ∧ w = w' := by
 go_enter Try.func106, Try.ntmps106
 go_wp2_with fail
 go_ret
 exact ⟨by kernel_rfl, rfl⟩
set_option maxRecDepth 10000000 in
theorem len_8 (w : World) : Calls Try.prog 106 #[.int .u64 18446744073709551615] w fun e w' => e = .returned (.int .i64 64) ∧ w = w' := by
 go_enter Try.func106, Try.ntmps106
 go_wp2_with fail
 go_ret
 exact ⟨by kernel_rfl, rfl⟩
theorem width_uint8 (w : World) : Calls Try.prog 88 #[] w fun e w' => e = .returned (.int .i64 1) ∧ w = w' := by
 go_enter Try.func88, Try.ntmps88
 go_wp2_with fail
 refine (len_1 w).mono ?_
 rintro e z ⟨rfl, rfl⟩
 go_wp2_with fail
 go_ret
 exact ⟨rfl, rfl⟩
theorem width_uint16 (w : World) : Calls Try.prog 107 #[] w fun e w' => e = .returned (.int .i64 2) ∧ w = w' := by
 go_enter Try.func107, Try.ntmps107
 go_wp2_with fail
 refine (len_2 w).mono ?_
 rintro e z ⟨rfl, rfl⟩
 go_wp2_with fail
 go_ret
 exact ⟨rfl, rfl⟩
theorem width_uint32 (w : World) : Calls Try.prog 109 #[] w fun e w' => e = .returned (.int .i64 4) ∧ w = w' := by
 go_enter Try.func109, Try.ntmps109
 go_wp2_with fail
 refine (len_4 w).mono ?_
 rintro e z ⟨rfl, rfl⟩
 go_wp2_with fail
 go_ret
 exact ⟨rfl, rfl⟩
theorem width_uint64 (w : World) : Calls Try.prog 87 #[] w fun e w' => e = .returned (.int .i64 8) ∧ w = w' := by
 go_enter Try.func87, Try.ntmps87
 go_wp2_with fail
 refine (len_8 w).mono ?_
 rintro e z ⟨rfl, rfl⟩
 go_wp2_with fail
 go_ret
 exact ⟨rfl, rfl⟩
set_option maxHeartbeats 1000000 in
theorem put_uint8 (w : World) (A : Option Addr) (m c B v : Nat) (bs : List Nat) (hr : Rd w B A m (cb bs)) (hv : v < 256) (hm : m + 10 ≤ 140737488355328) (hB : B ≤ w.heap.size) :
  Calls Try.prog 57 #[.slice A m c, .int .u8 (v : Int)] w fun e w' => ∃ v', e = .returned v' ∧ Onto w w' w.heap.size 5 (.slice none 0 0) v' (m + 1) (cb (bs ++ fx 1 v)) := by
 have HH : Hd (Rd w B A m (cb bs) ∧ B ≤ w.heap.size) := ⟨hr, hB⟩
 obtain ⟨V, hV⟩ : ∃ V : Int, (v : Int) = V := ⟨_, rfl⟩
 have hV1 : 0 ≤ V := by omega
 have hV2 : V ≤ 255 := by omega
 have HV : Hd (∀ k, V / 2 ^ (8 * k) % 256 = ((v / 2 ^ (8 * k) % 256 : Nat) : Int)) := ⟨fun k => by rw [← hV]; exact shr_cell v k⟩
 rw [hV]
 clear hr hB hv hV
 go_enter Try.func57, Try.ntmps57
 go_wp2_with fail
 refine (clone_any w A m c B bs HH.out.1 (by omega) HH.out.2).mono ?_
 rintro e w1 ⟨v1, rfl, hO⟩
 have HO := Hd.mk hO
 clear hO
 go_wp2_with fail
 refine (width_uint8 w1).mono ?_
 rintro e z ⟨rfl, rfl⟩
 go_wp2_with fail
 go_loopw [5, 10] (fun s i wr => ∃ k : Nat, k ≤ 1 ∧ i = .int .i64 k ∧ Onto w wr w.heap.size 5 (.slice none 0 0) s (m + k) (cb (bs ++ fx k v))) (fun _ i _ => 1 - (intOf i).toNat)
 case atStart => exact ⟨0, by omega, rfl, by simpa [fx] using HO.out⟩
 case round =>
  obtain ⟨k, hk, rfl, hO⟩ := hrel
  have H1 := Hd.mk hO
  clear hO
  by_cases hlt : k < 1
  ·have h63 : Hd (m + k + 1 ≤ maxLen) := ⟨by unfold maxLen; omega⟩
   have hby : Hd ((m + k + 1) * 1 ≤ 140737488355328) := ⟨by omega⟩
   go_wp2_with (refine wpList_push elB rfl rfl (.tmp 13) (.tmp 19) 20 rfl rfl rfl w.heap.size u5 _ _ _ rfl rfl rfl rfl H1.out.own h63.out hby.out H1.out.size ?_; intro v2 w2 hO2)
   go_roundw
   case rel =>
    refine ⟨k + 1, by omega, by go_num, ?_⟩
    rw [fx_succ, ← List.append_assoc, cb_append]
    have := H1.out.trans (show Onto wr w2 w.heap.size 5 u5 v2 (m + k + 1) (cb (bs ++ fx k v) ++ [.int .u8 (V / 2 ^ (8 * k) % 256)]) from hO2)
    rw [HV.out] at this
    exact this
   case measure => simp [intOf]; omega
  ·have hk8 : k = 1 := by omega
   subst hk8
   go_wp2_with fail
   go_ret
   exact ⟨_, rfl, H1.out⟩
set_option maxHeartbeats 1000000 in
theorem put_uint16 (w : World) (A : Option Addr) (m c B v : Nat) (bs : List Nat) (hr : Rd w B A m (cb bs)) (hv : v < 65536) (hm : m + 10 ≤ 140737488355328) (hB : B ≤ w.heap.size) :
  Calls Try.prog 90 #[.slice A m c, .int .u16 (v : Int)] w fun e w' => ∃ v', e = .returned v' ∧ Onto w w' w.heap.size 5 (.slice none 0 0) v' (m + 2) (cb (bs ++ fx 2 v)) := by
 have HH : Hd (Rd w B A m (cb bs) ∧ B ≤ w.heap.size) := ⟨hr, hB⟩
 obtain ⟨V, hV⟩ : ∃ V : Int, (v : Int) = V := ⟨_, rfl⟩
 have hV1 : 0 ≤ V := by omega
 have hV2 : V ≤ 65535 := by omega
 have HV : Hd (∀ k, V / 2 ^ (8 * k) % 256 = ((v / 2 ^ (8 * k) % 256 : Nat) : Int)) := ⟨fun k => by rw [← hV]; exact shr_cell v k⟩
 rw [hV]
 clear hr hB hv hV
 go_enter Try.func90, Try.ntmps90
 go_wp2_with fail
 refine (clone_any w A m c B bs HH.out.1 (by omega) HH.out.2).mono ?_
 rintro e w1 ⟨v1, rfl, hO⟩
 have HO := Hd.mk hO
 clear hO
 go_wp2_with fail
 refine (width_uint16 w1).mono ?_
 rintro e z ⟨rfl, rfl⟩
 go_wp2_with fail
 go_loopw [5, 10] (fun s i wr => ∃ k : Nat, k ≤ 2 ∧ i = .int .i64 k ∧ Onto w wr w.heap.size 5 (.slice none 0 0) s (m + k) (cb (bs ++ fx k v))) (fun _ i _ => 2 - (intOf i).toNat)
 case atStart => exact ⟨0, by omega, rfl, by simpa [fx] using HO.out⟩
 case round =>
  obtain ⟨k, hk, rfl, hO⟩ := hrel
  have H1 := Hd.mk hO
  clear hO
  by_cases hlt : k < 2
  ·have h63 : Hd (m + k + 1 ≤ maxLen) := ⟨by unfold maxLen; omega⟩
   have hby : Hd ((m + k + 1) * 1 ≤ 140737488355328) := ⟨by omega⟩
   go_wp2_with (refine wpList_push elB rfl rfl (.tmp 13) (.tmp 19) 20 rfl rfl rfl w.heap.size u5 _ _ _ rfl rfl rfl rfl H1.out.own h63.out hby.out H1.out.size ?_; intro v2 w2 hO2)
   go_roundw
   case rel =>
    refine ⟨k + 1, by omega, by go_num, ?_⟩
    rw [fx_succ, ← List.append_assoc, cb_append]
    have := H1.out.trans (show Onto wr w2 w.heap.size 5 u5 v2 (m + k + 1) (cb (bs ++ fx k v) ++ [.int .u8 (V / 2 ^ (8 * k) % 256)]) from hO2)
    rw [HV.out] at this
    exact this
   case measure => simp [intOf]; omega
  ·have hk8 : k = 2 := by omega
   subst hk8
   go_wp2_with fail
   go_ret
   exact ⟨_, rfl, H1.out⟩
set_option maxHeartbeats 1000000 in
theorem put_uint32 (w : World) (A : Option Addr) (m c B v : Nat) (bs : List Nat) (hr : Rd w B A m (cb bs)) (hv : v < 4294967296) (hm : m + 10 ≤ 140737488355328) (hB : B ≤ w.heap.size) :
  Calls Try.prog 92 #[.slice A m c, .int .u32 (v : Int)] w fun e w' => ∃ v', e = .returned v' ∧ Onto w w' w.heap.size 5 (.slice none 0 0) v' (m + 4) (cb (bs ++ fx 4 v)) := by
 have HH : Hd (Rd w B A m (cb bs) ∧ B ≤ w.heap.size) := ⟨hr, hB⟩
 obtain ⟨V, hV⟩ : ∃ V : Int, (v : Int) = V := ⟨_, rfl⟩
 have hV1 : 0 ≤ V := by omega
 have hV2 : V ≤ 4294967295 := by omega
 have HV : Hd (∀ k, V / 2 ^ (8 * k) % 256 = ((v / 2 ^ (8 * k) % 256 : Nat) : Int)) := ⟨fun k => by rw [← hV]; exact shr_cell v k⟩
 rw [hV]
 clear hr hB hv hV
 go_enter Try.func92, Try.ntmps92
 go_wp2_with fail
 refine (clone_any w A m c B bs HH.out.1 (by omega) HH.out.2).mono ?_
 rintro e w1 ⟨v1, rfl, hO⟩
 have HO := Hd.mk hO
 clear hO
 go_wp2_with fail
 refine (width_uint32 w1).mono ?_
 rintro e z ⟨rfl, rfl⟩
 go_wp2_with fail
 go_loopw [5, 10] (fun s i wr => ∃ k : Nat, k ≤ 4 ∧ i = .int .i64 k ∧ Onto w wr w.heap.size 5 (.slice none 0 0) s (m + k) (cb (bs ++ fx k v))) (fun _ i _ => 4 - (intOf i).toNat)
 case atStart => exact ⟨0, by omega, rfl, by simpa [fx] using HO.out⟩
 case round =>
  obtain ⟨k, hk, rfl, hO⟩ := hrel
  have H1 := Hd.mk hO
  clear hO
  by_cases hlt : k < 4
  ·have h63 : Hd (m + k + 1 ≤ maxLen) := ⟨by unfold maxLen; omega⟩
   have hby : Hd ((m + k + 1) * 1 ≤ 140737488355328) := ⟨by omega⟩
   go_wp2_with (refine wpList_push elB rfl rfl (.tmp 13) (.tmp 19) 20 rfl rfl rfl w.heap.size u5 _ _ _ rfl rfl rfl rfl H1.out.own h63.out hby.out H1.out.size ?_; intro v2 w2 hO2)
   go_roundw
   case rel =>
    refine ⟨k + 1, by omega, by go_num, ?_⟩
    rw [fx_succ, ← List.append_assoc, cb_append]
    have := H1.out.trans (show Onto wr w2 w.heap.size 5 u5 v2 (m + k + 1) (cb (bs ++ fx k v) ++ [.int .u8 (V / 2 ^ (8 * k) % 256)]) from hO2)
    rw [HV.out] at this
    exact this
   case measure => simp [intOf]; omega
  ·have hk8 : k = 4 := by omega
   subst hk8
   go_wp2_with fail
   go_ret
   exact ⟨_, rfl, H1.out⟩
set_option maxHeartbeats 1000000 in
theorem put_uint64 (w : World) (A : Option Addr) (m c B v : Nat) (bs : List Nat) (hr : Rd w B A m (cb bs)) (hv : v < 18446744073709551616) (hm : m + 10 ≤ 140737488355328) (hB : B ≤ w.heap.size) :
  Calls Try.prog 56 #[.slice A m c, .int .u64 (v : Int)] w fun e w' => ∃ v', e = .returned v' ∧ Onto w w' w.heap.size 5 (.slice none 0 0) v' (m + 8) (cb (bs ++ fx 8 v)) := by
 have HH : Hd (Rd w B A m (cb bs) ∧ B ≤ w.heap.size) := ⟨hr, hB⟩
 obtain ⟨V, hV⟩ : ∃ V : Int, (v : Int) = V := ⟨_, rfl⟩
 have hV1 : 0 ≤ V := by omega
 have hV2 : V ≤ 18446744073709551615 := by omega
 have HV : Hd (∀ k, V / 2 ^ (8 * k) % 256 = ((v / 2 ^ (8 * k) % 256 : Nat) : Int)) := ⟨fun k => by rw [← hV]; exact shr_cell v k⟩
 rw [hV]
 clear hr hB hv hV
 go_enter Try.func56, Try.ntmps56
 go_wp2_with fail
 refine (clone_any w A m c B bs HH.out.1 (by omega) HH.out.2).mono ?_
 rintro e w1 ⟨v1, rfl, hO⟩
 have HO := Hd.mk hO
 clear hO
 go_wp2_with fail
 refine (width_uint64 w1).mono ?_
 rintro e z ⟨rfl, rfl⟩
 go_wp2_with fail
 go_loopw [5, 10] (fun s i wr => ∃ k : Nat, k ≤ 8 ∧ i = .int .i64 k ∧ Onto w wr w.heap.size 5 (.slice none 0 0) s (m + k) (cb (bs ++ fx k v))) (fun _ i _ => 8 - (intOf i).toNat)
 case atStart => exact ⟨0, by omega, rfl, by simpa [fx] using HO.out⟩
 case round =>
  obtain ⟨k, hk, rfl, hO⟩ := hrel
  have H1 := Hd.mk hO
  clear hO
  by_cases hlt : k < 8
  ·have h63 : Hd (m + k + 1 ≤ maxLen) := ⟨by unfold maxLen; omega⟩
   have hby : Hd ((m + k + 1) * 1 ≤ 140737488355328) := ⟨by omega⟩
   go_wp2_with (refine wpList_push elB rfl rfl (.tmp 13) (.tmp 18) 19 rfl rfl rfl w.heap.size u5 _ _ _ rfl rfl rfl rfl H1.out.own h63.out hby.out H1.out.size ?_; intro v2 w2 hO2)
   go_roundw
   case rel =>
    refine ⟨k + 1, by omega, by go_num, ?_⟩
    rw [fx_succ, ← List.append_assoc, cb_append]
    have := H1.out.trans (show Onto wr w2 w.heap.size 5 u5 v2 (m + k + 1) (cb (bs ++ fx k v) ++ [.int .u8 (V / 2 ^ (8 * k) % 256)]) from hO2)
    rw [HV.out] at this
    exact this
   case measure => simp [intOf]; omega
  ·have hk8 : k = 8 := by omega
   subst hk8
   go_wp2_with fail
   go_ret
   exact ⟨_, rfl, H1.out⟩
end Go.Proofs.Ytbcmjjcbjojakaa
end
