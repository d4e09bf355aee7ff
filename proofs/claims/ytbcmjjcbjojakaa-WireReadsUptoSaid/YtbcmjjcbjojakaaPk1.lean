/- Put together of: Zig Mem Byt Uv Short Mem2 PutsA PutsB PutsR Args ArgRows PutsL. -/
import Derived.Test.YtbcmjjcbjojakaaRows
import Derived.WalkKit
import Derived.WalkSpells
import Derived.WalkLawsBesides
import Derived.Maps.AppendAt
import Derived.Deep.Draws
import Derived.Laws.BytesArg
import Derived.Outline
import Derived.RegionTactic
import Derived.OwnWalk
import Derived.Lib.AppendStr
import Derived.Laws.IdiomStrings
import Derived.ProofKit
import Derived.OpenShut
import Derived.SizedLaws
import Derived.Deep.Matrix
import Derived.BigQuiet
import Derived.WalkSmall
section
namespace Go.Proofs.Ytbcmjjcbjojakaa
open Go.RowKit
set_option linter.unusedVariables false
/-- The folded form of a number with a sign. -/
def zig (v : Int) : Int := if 0 ≤ v then 2 * v else -2 * v - 1
/-- The number whose folded form it is. -/
def unz (u : Int) : Int := if u % 2 = 0 then u / 2 else -(u / 2) - 1
theorem ret_int {k : IntKind} {a b : Int} (h : a = b) : Ending.returned (.int k a) = .returned (.int k b) := by rw [h]
theorem ret_bool {a b : Bool} (h : a = b) : Ending.returned (.bool a) = .returned (.bool b) := by rw [h]
theorem ret_int_bool {k : IntKind} {a b : Int} {c d : Bool} (h : a = b) (g : c = d) : Ending.returned (.tuple #[.int k a, .bool c]) = .returned (.tuple #[.int k b, .bool d]) := by rw [h, g]
theorem bits_xor0 (a : Int) (h : -9223372036854775808 ≤ a ∧ a ≤ 9223372036854775807) : bits .xor .i64 a 0 = a := by
 show IntKind.i64.wrap (((BitVec.ofInt 64 a ^^^ BitVec.ofInt 64 0 : BitVec 64).toNat : Nat) : Int) = _
 have : (BitVec.ofInt 64 a ^^^ BitVec.ofInt 64 0).toNat = (BitVec.ofInt 64 a).toNat := by simp
 rw [this, BitVec.toNat_ofInt, IntKind.wrap_i64]; omega
theorem bits_xor1 (a : Int) (h : -9223372036854775808 ≤ a ∧ a ≤ 9223372036854775807) : bits .xor .i64 a (-1) = -a - 1 := by
 show IntKind.i64.wrap (((BitVec.ofInt 64 a ^^^ BitVec.ofInt 64 (-1) : BitVec 64).toNat : Nat) : Int) = _
 have e : BitVec.ofInt 64 (-1) = BitVec.allOnes 64 := by decide
 have : (BitVec.ofInt 64 a ^^^ BitVec.ofInt 64 (-1)).toNat = 18446744073709551615 - (BitVec.ofInt 64 a).toNat := by
  rw [e, BitVec.xor_allOnes, BitVec.toNat_not]
 rw [this, BitVec.toNat_ofInt, IntKind.wrap_i64]; omega
theorem bits_and1 (v : Int) (h1 : 0 ≤ v) (h2 : v ≤ 18446744073709551615) : bits .and .u64 v 1 = v % 2 := by
 rw [u64_and v 1 h1 (by omega) (by omega) (by omega), show (1 : Int).toNat = 1 from rfl, Nat.and_one_is_mod]; omega
theorem unz_of (v : Int) (h1 : 0 ≤ v) (h2 : v ≤ 18446744073709551615) : bits .xor .i64 (v / 2) (wrap64 (-wrap64 (bits .and .u64 v 1))) = unz v := by
 rw [bits_and1 v h1 h2]
 unfold unz
 split
 ·rename_i h; rw [h, show wrap64 (-wrap64 0) = 0 by unfold wrap64; omega, bits_xor0 _ (by omega)]
 ·rename_i h; rw [show v % 2 = 1 by omega, show wrap64 (-wrap64 1) = -1 by unfold wrap64; omega, bits_xor1 _ (by omega)]
theorem unz_bd (v : Int) (h1 : 0 ≤ v) (h2 : v ≤ 18446744073709551615) : -9223372036854775808 ≤ unz v ∧ unz v ≤ 9223372036854775807 := by unfold unz; split <;> omega
theorem zig_unz (u : Int) (h : 0 ≤ u) : zig (unz u) = u := by unfold unz zig; split <;> split <;> omega
section
variable (w : World)
theorem unfold_any (u : Int) (h1 : 0 ≤ u) (h2 : u ≤ 18446744073709551615) : Calls Try.prog 135 #[.int .u64 u] w fun e w' => e = .returned (.int .i64 (unz u)) ∧ w = w' := by
 by_cases h : u % 2 = 0
 ·have hb : (u % 2 == 0) = true := by simpa using h
  clear h
  go_enter Try.func135, Try.ntmps135
  go_wp2
  go_ret
  exact ⟨ret_int (by unfold unz; rw [if_pos (by simpa using hb)]), rfl⟩
 ·have hb : (u % 2 == 0) = false := by simpa using h
  clear h
  go_enter Try.func135, Try.ntmps135
  go_wp2
  go_ret
  exact ⟨ret_int (by unfold unz; rw [if_neg (by simpa using hb)]), rfl⟩
theorem zag64_any (u : Int) (h1 : 0 ≤ u) (h2 : u ≤ 18446744073709551615) : Calls Try.prog 144 #[.int .u64 u] w fun e w' => e = .returned (.tuple #[.int .i64 (unz u), .bool true]) ∧ w = w' := by
 have E : Hid ((bits .xor .i64 (u / 2) (wrap64 (-wrap64 (bits .and .u64 u 1)))) = unz u) := unz_of u h1 (by omega)
 go_enter Try.func144, Try.ntmps144
 go_wp2
 go_ret2
 exact ⟨ret_int_bool (by rw [E.out]) rfl, rfl⟩
end
end Go.Proofs.Ytbcmjjcbjojakaa
end
section
namespace Go.Proofs.Ytbcmjjcbjojakaa
open Go.RowKit
theorem hid {p : Prop} (h : p) : Hid p := h
/-- A fact kept from the walk, also from what looks at a hypothesis's two sides. -/
structure Hd (p : Prop) : Prop where
 out : p
/-- The slice '.slice A n c' reads as the cells xs, and lies below block B. -/
def Rd (w : World) (B : Nat) (A : Option Addr) (n : Nat) (xs : List Value) : Prop :=
 xs.length = n ∧ (0 < n → ∃ g off, A = some ⟨g, off, none⟩ ∧ g < B ∧ ∀ i, i < n → w.cell? ⟨g, off + i, none⟩ = xs[i]?)
/-- What the walk needs to know of a slice type t with elements e of one cell. -/
structure El (P : Program) (t e bytes : Nat) (z : Value) : Prop where
 ht : P.underlying t = some (.slice e)
 hi : ∃ i, P.info? e = some i ∧ i.zero = some z ∧ i.size = 1 ∧ i.bytes = bytes
 hz : z.cells.size = 1
section
variable {w w' : World} {B B' n : Nat} {A : Option Addr} {xs : List Value}
theorem Rd.nil : Rd w B A 0 [] := ⟨rfl, fun h => absurd h (by omega)⟩
theorem Rd.at_ (h : Rd w B A n xs) {k : Nat} (hk : k < n) : ∃ g off u, A = some ⟨g, off, none⟩ ∧ g < B ∧ xs[k]? = some u ∧ w.cell? ⟨g, off + k, none⟩ = some u := by
 obtain ⟨g, off, e, hb, hc⟩ := h.2 (by omega)
 have hl : k < xs.length := by have := h.1; omega
 exact ⟨g, off, xs[k], e, hb, List.getElem?_eq_getElem hl, (hc k hk).trans (List.getElem?_eq_getElem hl)⟩
theorem Rd.keep (h : Rd w B A n xs) (hk : ∀ p : Addr, p.block < B → w'.cell? p = w.cell? p) : Rd w' B A n xs :=
 ⟨h.1, fun hn => let ⟨g, off, e, hb, hc⟩ := h.2 hn; ⟨g, off, e, hb, fun i hi => (hk ⟨g, off + i, none⟩ hb).trans (hc i hi)⟩⟩
theorem Rd.more (h : Rd w B A n xs) (hB : B ≤ B') : Rd w B' A n xs :=
 ⟨h.1, fun hn => let ⟨g, off, e, hb, hc⟩ := h.2 hn; ⟨g, off, e, by omega, hc⟩⟩
theorem Rd.below (h : Rd w B A n xs) (hb : Below B w w') : Rd w' B A n xs := h.keep fun _ hp => hb.cell hp
theorem Rd.alloc (h : Rd w B A n xs) (hB : B ≤ w.heap.size) (o : Obj) : Rd (w.alloc o) B A n xs := h.keep fun p hp => World.cell?_alloc_lt w o p (by omega)
theorem Rd.setCell (h : Rd w B A n xs) {p : Addr} (hB : B ≤ p.block) (u : Value) : Rd (w.setCell p u) B A n xs :=
 h.keep fun q hq => World.cell?_setCell_other w p q u (fun e => by subst e; omega)
/-- A row that is owned reads as what it holds. -/
theorem Rd.of_own {base e c : Nat} (h : w.ownsRow base e 1 (.slice A n c) n xs) : Rd w w.heap.size A n xs := by
 refine ⟨by simpa using h.1, fun hn => ?_⟩
 rcases h.2 with ⟨hv, h0⟩ | ⟨g, cap, cur, hv, _, hg, hnc, _, hcs, htake⟩
 ·omega
 ·injection hv with hA hn' hc
  subst hA
  refine ⟨g, 0, rfl, (Array.getElem?_eq_some_iff.1 hg).1, fun i hi => ?_⟩
  rw [cell_of_row w g (0 + i) cur e (0, 0) hg, ← htake, List.getElem?_take, if_pos (by omega)]
  simp
/-- The value of an owned row is a slice of its length. -/
theorem own_form {base e : Nat} {v : Value} (h : w.ownsRow base e 1 v n xs) : ∃ A c, v = .slice A n c ∧ n ≤ c ∧ c ≤ maxLen := by
 rcases h.2 with ⟨hv, h0⟩ | ⟨g, cap, cur, hv, _, hg, hnc, hm, hcs, htake⟩
 ·subst h0; exact ⟨none, 0, hv, Nat.le_refl _, Nat.zero_le _⟩
 ·exact ⟨_, cap, hv, hnc, hm⟩
end
/-- From w on the row 's' (of the call's own, or nil) was grown: in w' it is v', of n elements xs; nothing that was there but that row has turned. -/
def Onto (w w' : World) (base e : Nat) (s v' : Value) (n : Nat) (xs : List Value) : Prop :=
 w'.ownsRow base e 1 v' n xs ∧ w.grownBy w' s.ownBlock ∧ ∀ k, v'.ownBlock = some k → s.ownBlock = some k ∨ w.heap.size ≤ k
section
variable {w w1 w2 : World} {base e n n1 n2 : Nat} {s v1 v2 : Value} {xs xs1 xs2 : List Value}
theorem Onto.refl (h : w.ownsRow base e 1 s n xs) : Onto w w base e s s n xs := ⟨h, World.grownBy.refl w _, fun _ h => .inl h⟩
theorem Onto.nil (w : World) (base e : Nat) : Onto w w base e (.slice none 0 0) (.slice none 0 0) 0 [] := .refl (World.ownsRow_nil w base e 1)
theorem Onto.trans (h : Onto w w1 base e s v1 n1 xs1) (g : Onto w1 w2 base e v1 v2 n2 xs2) : Onto w w2 base e s v2 n2 xs2 := by
 obtain ⟨_, hg, hl⟩ := h
 obtain ⟨ho, gg, gl⟩ := g
 refine ⟨ho, ⟨gg.os.trans hg.os, gg.tape.trans hg.tape, gg.output.trans hg.output, Nat.le_trans hg.size gg.size, fun k hk hne => ?_⟩, fun k hk => ?_⟩
 ·refine (gg.block k (Nat.lt_of_lt_of_le hk hg.size) fun he => ?_).trans (hg.block k hk hne)
  rcases hl k he.symm with h1 | h1
  ·exact hne h1.symm
  ·omega
 ·rcases gl k hk with h1 | h1
  ·exact hl k h1
  ·exact .inr (Nat.le_trans hg.size h1)
theorem Onto.below {B : Nat} (h : Onto w w1 base e s v1 n1 xs1) (hs : ∀ k, s.ownBlock = some k → B ≤ k) (hB : B ≤ w.heap.size) : Below B w w1 :=
 (Below.refl B w).grown h.2.1 hB hs
theorem Onto.own (h : Onto w w1 base e s v1 n1 xs1) : w1.ownsRow base e 1 v1 n1 xs1 := h.1
theorem Onto.size (h : Onto w w1 base e s v1 n1 xs1) : w.heap.size ≤ w1.heap.size := h.2.1.size
theorem Onto.base_ {base' : Nat} (h : Onto w w1 base e s v1 n1 xs1) (hs : ∀ k, s.ownBlock = some k → base' ≤ k) (hB : base' ≤ w.heap.size) : w1.ownsRow base' e 1 v1 n1 xs1 := by
 obtain ⟨⟨h1, h2⟩, _, hl⟩ := h
 refine ⟨h1, ?_⟩
 rcases h2 with h2 | ⟨g, cap, cur, rfl, hb, rest⟩
 ·exact .inl h2
 ·refine .inr ⟨g, cap, cur, rfl, ?_, rest⟩
  rcases hl g rfl with h3 | h3
  ·exact hs g h3
  ·omega
end
section
variable {P : Program} {w : World} {t e bytes : Nat} {z : Value}
theorem run_build0 (E : El P t e bytes z) : (Instr.buildSlice t 0 #[]).run P w = .ok (.slice (some ⟨w.heap.size, 0, none⟩) 0 0) (w.alloc (.cells #[] e)) := by
 obtain ⟨i, hi, hz, hs, hb⟩ := E.hi
 simp [Instr.buildSlice, run_underlying E.ht, sizeOf, typeInfo, hi, Instr.fill, go_sem]
theorem run_build1 (E : El P t e bytes z) (u : Value) (h1 : u.oneCell' = true) : (Instr.buildSlice t 1 #[(0, u)]).run P w = .ok (.slice (some ⟨w.heap.size, 0, none⟩) 1 1) (w.alloc (.cells #[u] e)) := by
 obtain ⟨i, hi, hz, hs, hb⟩ := E.hi
 cases u <;> first | (simp [Value.oneCell'] at h1; done) | simp [Instr.buildSlice, run_underlying E.ht, sizeOf, typeInfo, hi, hs, Instr.fill, go_sem, zeroValue, hz]
theorem run_conv_str (src dst e' : TypeId) (hs : P.underlying src = some (.slice e')) (he : P.underlying e' = some (.int .u8)) (hd : P.underlying dst = some .string) {B : Nat} {A : Option Addr} {n : Nat} (c : Nat) {zs : List Int}
  (hr : Rd w B A n (zs.map (.int .u8))) : (convert src dst (.slice A n c)).run P w = .ok (.string (strOfNums zs)) w := by
 have hz : zs.length = n := by simpa using hr.1
 rcases Nat.eq_zero_or_pos n with h0 | h0
 ·subst h0
  have : zs = [] := List.eq_nil_of_length_eq_zero hz
  subst this
  rw [run_convert_bytes_string w src dst e' A 0 c hs he hd]
  cases A <;> simp [Conv.bytesToString, strOfNums, ByteArray.empty, ByteArray.emptyWithCapacity, loadCells, loadCellsFrom] <;> rfl
 ·obtain ⟨g, off, rfl, _, hc⟩ := hr.2 h0
  refine run_convert_bytes_arg w src e' hs he g off n c zs hz (fun i hi => ?_) dst hd
  rw [hc i hi, List.getElem?_map, List.getD_eq_getElem?_getD, List.getElem?_eq_getElem (by omega)]; rfl
/-- Where a cut of a slice lies. -/
def cutA (A : Option Addr) (c l : Nat) : Option Addr := if c = l then A else A.map (·.add l)
theorem cutA_0 (A : Option Addr) (c : Nat) : cutA A c 0 = A := by
 unfold cutA; split
 ·rfl
 ·cases A <;> simp [Addr.add]
theorem run_cut (E : El P t e bytes z) (A : Option Addr) (n c l h : Nat) (hl : l ≤ h) (hh : h ≤ c) :
  (Instr.slice t (.slice A n c) (some (.int .i64 (l : Int))) (some (.int .i64 (h : Int))) none).run P w = .ok (.slice (cutA A c l) (h - l) (c - l)) w := by
 obtain ⟨i, hi, hz, hs, hb⟩ := E.hi
 simp [Instr.slice, run_underlying E.ht, Instr.sliceBounds, run_sliceBound, sizeOf, typeInfo, hi, hs, cutA, hl, hh, Int.ofNat_le]
theorem run_cut_to (E : El P t e bytes z) (A : Option Addr) (n c h : Nat) (hh : h ≤ c) :
  (Instr.slice t (.slice A n c) none (some (.int .i64 (h : Int))) none).run P w = .ok (.slice A h c) w := by
 obtain ⟨i, hi, hz, hs, hb⟩ := E.hi
 have := cutA_0 A c
 unfold cutA at this
 simp [Instr.slice, run_underlying E.ht, Instr.sliceBounds, run_sliceBound, sizeOf, typeInfo, hi, hh, Int.ofNat_le]
 intro h0; rw [if_neg h0] at this; exact this
theorem run_cut_from (E : El P t e bytes z) (A : Option Addr) (n c l : Nat) (hl : l ≤ n) :
  (Instr.slice t (.slice A n c) (some (.int .i64 (l : Int))) none none).run P w = .ok (.slice (cutA A c l) (n - l) (c - l)) w := by
 obtain ⟨i, hi, hz, hs, hb⟩ := E.hi
 simp [Instr.slice, run_underlying E.ht, Instr.sliceBounds, run_sliceBound, sizeOf, typeInfo, hi, hs, cutA, hl, Int.ofNat_le]
theorem Rd.cut {B n : Nat} {A : Option Addr} {xs : List Value} (hr : Rd w B A n xs) {c l h : Nat} (hl : l ≤ h) (hh : h ≤ n) (hn : n ≤ c) : Rd w B (cutA A c l) (h - l) ((xs.drop l).take (h - l)) := by
 refine ⟨by rw [List.length_take, List.length_drop, hr.1]; omega, fun hp => ?_⟩
 obtain ⟨g, off, rfl, hb, hc⟩ := hr.2 (by omega)
 unfold cutA
 rw [if_neg (by omega)]
 refine ⟨g, off + l, ?_, hb, fun i hi => ?_⟩
 ·simp only [Option.map_some, Addr.add]
  split
  ·rename_i h0; subst h0; rfl
  ·rfl
 ·rw [Nat.add_assoc, hc (l + i) (by omega), List.getElem?_take, if_pos hi, List.getElem?_drop]
theorem Rd.take {B n : Nat} {A : Option Addr} {xs : List Value} (hr : Rd w B A n xs) {h : Nat} (hh : h ≤ n) : Rd w B A h (xs.take h) := by
 refine ⟨by rw [List.length_take, hr.1]; omega, fun hp => ?_⟩
 obtain ⟨g, off, rfl, hb, hc⟩ := hr.2 (by omega)
 exact ⟨g, off, rfl, hb, fun i hi => by rw [hc i (by omega), List.getElem?_take, if_pos hi]⟩
/-- 'append(s, x...)': s is a row of the call's own (or nil), x reads as 'news' (nil let in). -/
theorem run_app (E : El P t e bytes z) (ty base : Nat) (v : Value) (n : Nat) (xs : List Value) (hown : w.ownsRow base e 1 v n xs) (B : Nat) (A : Option Addr) (m c : Nat) (news : List Value)
  (hr : Rd w B A m news) (h1 : ∀ u ∈ news, u.oneCell' = true) (h63 : n + m ≤ maxLen) (hby : (n + m) * bytes ≤ 140737488355328) (hbase : base ≤ w.heap.size) :
  ∃ v' w', (Builtin.append_ #[t, t] ty #[v, .slice A m c]).run P w = .ok v' w' ∧ w'.ownsRow base e 1 v' (n + m) (xs ++ news) ∧ w.grownBy w' v.ownBlock ∧
   (v'.ownBlock = v.ownBlock ∨ v'.ownBlock = some w.heap.size) := by
 obtain ⟨i, hi, hz, hs, hb⟩ := E.hi
 rcases A with _ | ad
 ·have hm : m = 0 := by
   rcases Nat.eq_zero_or_pos m with h0 | h0
   ·exact h0
   ·obtain ⟨_, _, h, _⟩ := hr.2 h0; cases h
  subst hm
  have hn : news = [] := List.eq_nil_of_length_eq_zero hr.1
  subst hn
  refine ⟨v, w, ?_, by simpa using hown, World.grownBy.refl w _, .inl rfl⟩
  rcases hown.2 with ⟨rfl, rfl⟩ | ⟨g, cap, cur, rfl, _, _, hnc, _⟩
  ·simp [Builtin.append_, run_underlying E.ht, sizeOf, typeInfo, hi, Builtin.lenOf, Builtin.firstCells]
  ·simp [Builtin.append_, run_underlying E.ht, sizeOf, typeInfo, hi, Builtin.lenOf, Builtin.firstCells, hnc, storeCells]
 ·have hcells : ∀ j u, news[j]? = some u → w.cell? (ad.add j) = some u := by
   intro j u hu
   have hj : j < m := by have := (List.getElem?_eq_some_iff.1 hu).1; have := hr.1; omega
   obtain ⟨g, off, he, _, hc⟩ := hr.2 (by omega)
   injection he with he
   subst he
   have : (⟨g, off, none⟩ : Addr).add j = ⟨g, off + j, none⟩ := by unfold Addr.add; split <;> simp_all
   rw [this, hc j hj, hu]
  obtain ⟨v', w', hrun, h2, h3, _, h5⟩ := run_append_own_at (P := P) w base t ty e i z 1 bytes E.ht hi hz hs hb E.hz (by omega) v n xs hown ad m c news (by simpa using hr.1) hcells h1 h63 hby hbase
  exact ⟨v', w', hrun, h2, h3, h5⟩
section
variable {ops : Array Oper} {rest : List Oper} {o o1 o2 : Oper} {a : Act} {Q : Exit → Act → World → Prop}
theorem wpList_app (E : El P t e bytes z) (hgd : o.guard = none) (s x : Operand) (ho : o.op = .call { callee := .builtin .append, args := #[s, x], argTypes := #[t, t] })
  (base : Nat) (v : Value) (n : Nat) (xs : List Value) (hs : a.eval s = v) (hown : w.ownsRow base e 1 v n xs) (B : Nat) (A : Option Addr) (m c : Nat) (news : List Value) (hx : a.eval x = .slice A m c)
  (hr : Rd w B A m news) (h1 : ∀ u ∈ news, u.oneCell' = true) (h63 : n + m ≤ maxLen) (hby : (n + m) * bytes ≤ 140737488355328) (hbase : base ≤ w.heap.size)
  (h : ∀ v' w', Onto w w' base e v v' (n + m) (xs ++ news) → wpList P ops Q rest (a.put o.dst v') w') :
  wpList P ops Q (o :: rest) a w := by
 refine wpList_plain hgd fun K hK => ?_
 obtain ⟨v', w', hrun, h2, h3, h4⟩ := run_app E o.type base v n xs hown B A m c news hr h1 h63 hby hbase
 unfold Oper.wp execOp
 simp only [ho, resolve, invoke, builtin, Sem.run_bind, Sem.run_pure, Result.andThen_ok, List.map_toArray, List.map_cons, List.map_nil, hs, hx, hrun]
 exact hK _ _ (h v' w' ⟨h2, h3, fun k hk => by rcases h4 with h4 | h4 <;> rw [h4] at hk <;> first | exact .inl hk | (injection hk; omega)⟩)
/-- '[]T{}': a row of its own, empty. -/
theorem wpList_build0 (E : El P t e bytes z) (hgd : o.guard = none) (ho : o.op = .buildSlice t 0 #[]) (base : Nat) (hbase : base ≤ w.heap.size)
  (h : ∀ v' w', Onto w w' base e (.slice none 0 0) v' 0 [] → wpList P ops Q rest (a.put o.dst v') w') : wpList P ops Q (o :: rest) a w := by
 refine wpList_plain hgd fun K hK => ?_
 have hb0 := run_build0 (w := w) E
 unfold Oper.wp execOp
 simp only [ho, List.map_toArray, List.map_nil, Sem.run_bind, Sem.run_pure, Result.andThen_ok, hb0, Oper.upon]
 exact hK _ _ (h _ _ ⟨World.ownsRow_made w #[] 0 hbase (Nat.zero_le _) rfl, World.grownBy_alloc w _ _, fun k hk => by simp [Value.ownBlock] at hk; exact .inr (by omega)⟩)
/-- 'append(s, x)' of one element: the two operations at once. -/
theorem wpList_push (E : El P t e bytes z) (hg1 : o1.guard = none) (hg2 : o2.guard = none) (s x : Operand) (d : Nat) (hd : o1.dst = some d) (ho1 : o1.op = .buildSlice t 1 #[(0, x)])
  (ho2 : o2.op = .call { callee := .builtin .append, args := #[s, .tmp d], argTypes := #[t, t] })
  (base : Nat) (v : Value) (n : Nat) (xs : List Value) (u : Value) (hx : a.eval x = u) (h1 : u.oneCell' = true)
  (hs : (a.put (some d) (.slice (some ⟨w.heap.size, 0, none⟩) 1 1)).eval s = v) (hdv : (a.put (some d) (.slice (some ⟨w.heap.size, 0, none⟩) 1 1)).eval (.tmp d) = .slice (some ⟨w.heap.size, 0, none⟩) 1 1)
  (hown : w.ownsRow base e 1 v n xs) (h63 : n + 1 ≤ maxLen) (hby : (n + 1) * bytes ≤ 140737488355328) (hbase : base ≤ w.heap.size)
  (h : ∀ v' w', Onto w w' base e v v' (n + 1) (xs ++ [u]) →
   wpList P ops Q rest ((a.put (some d) (.slice (some ⟨w.heap.size, 0, none⟩) 1 1)).put o2.dst v') w') :
  wpList P ops Q (o1 :: o2 :: rest) a w := by
 refine wpList_plain hg1 fun K hK => ?_
 have hb1 := run_build1 (w := w) E u h1
 unfold Oper.wp execOp
 simp only [ho1, List.map_toArray, List.map_cons, List.map_nil, hx, Sem.run_bind, Sem.run_pure, Result.andThen_ok, hb1, Oper.upon, hd]
 refine hK _ _ ?_
 refine wpList_app E hg2 s (.tmp d) ho2 base v n xs hs (hown.alloc _) (w.heap.size + 1) (some ⟨w.heap.size, 0, none⟩) 1 1 [u] hdv ?_ (by simpa using h1) h63 hby (by simp; omega) fun v' w' g1 => ?_
 ·refine ⟨rfl, fun _ => ⟨w.heap.size, 0, rfl, by omega, fun i hi => ?_⟩⟩
  obtain rfl : i = 0 := by omega
  simp
 ·refine h v' w' ⟨g1.1, (World.grownBy_alloc w _ v.ownBlock).trans g1.2.1, fun k hk => ?_⟩
  rcases g1.2.2 k hk with h1 | h1
  ·exact .inl h1
  ·simp at h1; exact .inr (by omega)
end
end
end Go.Proofs.Ytbcmjjcbjojakaa
end
section
namespace Go.Proofs.Ytbcmjjcbjojakaa
/-- The cells of bytes. -/
def bv (x : Nat) : Value := .int .u8 (x : Int)
def cb (l : List Nat) : List Value := l.map bv
theorem cb_append (a b : List Nat) : cb (a ++ b) = cb a ++ cb b := List.map_append
theorem cb_length (a : List Nat) : (cb a).length = a.length := List.length_map _
theorem cb_one (a : List Nat) : ∀ u ∈ cb a, u.oneCell' = true := by
 intro u hu; obtain ⟨x, _, rfl⟩ := List.mem_map.1 hu; rfl
theorem cb_get (a : List Nat) (k : Nat) (h : k < a.length) : (cb a)[k]? = some (.int .u8 ((a.getD k 0 : Nat) : Int)) := by
 unfold cb; rw [List.getElem?_map, List.getElem?_eq_getElem h, List.getD_eq_getElem?_getD, List.getElem?_eq_getElem h]; rfl
theorem cb_ints (l : List Nat) : cb l = (l.map Int.ofNat).map (.int .u8) := by unfold cb; rw [List.map_map]; rfl
/-- The string whose bytes these are. -/
def bstr (l : List Nat) : ByteArray := strOfNums (l.map Int.ofNat)
theorem bstr_data (l : List Nat) : (bstr l).data.toList = l.map UInt8.ofNat := by
 unfold bstr; rw [strOfNums_data, List.map_map]; rfl
theorem map_ofNat_inj : ∀ (a b : List Nat), (∀ x ∈ a, x < 256) → (∀ x ∈ b, x < 256) → a.map UInt8.ofNat = b.map UInt8.ofNat → a = b
 | [], [], _, _, _ => rfl
 | [], _ :: _, _, _, h => by simp at h
 | _ :: _, [], _, _, h => by simp at h
 | x :: a, y :: b, ha, hb, h => by
  simp only [List.map_cons, List.cons.injEq] at h
  have hx : x < 256 := ha x (List.mem_cons_self ..)
  have hy : y < 256 := hb y (List.mem_cons_self ..)
  have e : x = y := by
   have := congrArg UInt8.toNat h.1
   simp only [UInt8.toNat_ofNat'] at this
   omega
  rw [e, map_ofNat_inj a b (fun z hz => ha z (List.mem_cons_of_mem _ hz)) (fun z hz => hb z (List.mem_cons_of_mem _ hz)) h.2]
theorem bstr_beq (a b : List Nat) (ha : ∀ x ∈ a, x < 256) (hb : ∀ x ∈ b, x < 256) : ((bstr a).toList == (bstr b).toList) = decide (a = b) := by
 rw [ByteArray.toList_eq, ByteArray.toList_eq, bstr_data, bstr_data, Bool.eq_iff_iff, beq_iff_eq, decide_eq_true_iff]
 exact ⟨map_ofNat_inj a b ha hb, fun h => by rw [h]⟩
end Go.Proofs.Ytbcmjjcbjojakaa
end
section
namespace Go.Proofs.Ytbcmjjcbjojakaa
/-- The groups of a number, at most k + 1 of them, the lowest first. -/
def uvf : Nat → Nat → List Nat
 | 0, v => [v]
 | k + 1, v => if v < 128 then [v] else (v % 128 + 128) :: uvf k (v / 128)
def uv (v : Nat) : List Nat := uvf 9 v
end Go.Proofs.Ytbcmjjcbjojakaa
end
section
namespace Go.Proofs.Ytbcmjjcbjojakaa
open Go.RowKit
set_option linter.unusedVariables false
theorem infoB : (Try.prog.info? 5).map (fun i => (i.zero, i.size, i.bytes)) = some (some (.int .u8 0), 1, 1) := by kernel_rfl
theorem elB : El Try.prog 26 5 1 (.int .u8 0) := ⟨Try.underlying26, info_parts infoB, rfl⟩
set_option maxHeartbeats 400000 in
theorem clone_any (w : World) (A : Option Addr) (n c B : Nat) (bs : List Nat) (hr : Rd w B A n (cb bs)) (hn : n ≤ 140737488355328) (hB : B ≤ w.heap.size) :
  Calls Try.prog 86 #[.slice A n c] w fun e w' => ∃ v', e = .returned v' ∧ Onto w w' w.heap.size 5 (.slice none 0 0) v' n (cb bs) := by
 have hq := fun w a l c => Lib.run_eql_slice_nil (P := Try.prog) w 26 5 a l c 0 0 Try.underlying26
 have HR : Hid (Rd w B A n (cb bs)) := hr
 have h63 : Hid (0 + n ≤ maxLen) := by show _ ≤ _; unfold maxLen; omega
 have hby : Hid ((0 + n) * 1 ≤ 140737488355328) := by show _ ≤ _; omega
 have HB : Hid (B ≤ w.heap.size) := hB
 clear hr hn hB
 cases A with
 | none =>
  go_enter Try.func86, Try.ntmps86
  go_wp2
  go_ret
  have h0 : n = 0 := by
   rcases Nat.eq_zero_or_pos n with h | h
   ·exact h
   ·obtain ⟨_, _, h, _⟩ := HR.out.2 h; cases h
  subst h0
  have hb : cb bs = [] := List.eq_nil_of_length_eq_zero HR.out.1
  rw [hb]
  exact ⟨_, rfl, Onto.nil w _ _⟩
 | some ad =>
  go_enter Try.func86, Try.ntmps86
  go_wp2_with (first
   | (refine wpList_build0 elB rfl rfl w.heap.size (Nat.le_refl _) ?_; intro v1 w1 hO1)
   | (refine wpList_app elB rfl (.tmp 5) (.tmp 6) rfl w.heap.size v1 0 [] rfl hO1.own B (some ad) n c (cb bs) rfl (HR.out.below (hO1.below (fun k h => by cases h) HB.out)) (cb_one bs) h63.out hby.out hO1.size ?_; intro v2 w2 hO2))
  go_ret
  exact ⟨v2, rfl, by have := hO1.trans hO2; simpa using this⟩
end Go.Proofs.Ytbcmjjcbjojakaa
end
section
namespace Go.Proofs.Ytbcmjjcbjojakaa
open Go.RowKit
/-- Two values share no row. -/
def Apart (v v' : Value) : Prop := ∀ k, v.ownBlock = some k → v'.ownBlock ≠ some k
theorem Apart.nil (v : Value) : Apart (.slice none 0 0) v := fun k h => by cases h
section
variable {w w1 : World} {base e n n1 base' e' size n' : Nat} {s v1 v : Value} {xs1 xs' : List Value}
/-- A row written out: new, apart from all that was there. -/
theorem onto_lit {w : World} {e : TypeId} (cs : List Value) (hm : cs.length ≤ maxLen) :
  Onto w (w.alloc (.cells cs.toArray e)) w.heap.size e (.slice none 0 0) (.slice (some ⟨w.heap.size, 0, none⟩) cs.length cs.length) cs.length cs :=
 ⟨⟨by simp, .inr ⟨w.heap.size, cs.length, cs.toArray, rfl, Nat.le_refl _, heap_alloc_new w _, Nat.le_refl _, hm, by simp, by simp⟩⟩, World.grownBy_alloc w _ _, fun k hk => by simp [Value.ownBlock] at hk; exact .inr (by omega)⟩
theorem own_pos {w : World} {base e n : Nat} {v : Value} {xs : List Value} (h : w.ownsRow base e 1 v n xs) (hn : 0 < n) : ∃ g cap, v = .slice (some ⟨g, 0, none⟩) n cap ∧ base ≤ g ∧ g < w.heap.size := by
 rcases h.2 with ⟨_, h0⟩ | ⟨g, cap, cur, hv, hb, hg, _⟩
 ·omega
 ·exact ⟨g, cap, hv, hb, (Array.getElem?_eq_some_iff.1 hg).1⟩
end
section
variable {P : Program} {w : World} {t e bytes : Nat} {z : Value} {ops : Array Oper} {o : Oper} {a : Act} {Q : Exit → Act → World → Prop} {K : Act → World → Prop}
/-- 'append' as a step of a region that draws its order. -/
theorem step_app {Z : Prop} (E : El P t e bytes z) (hgd : o.guard = none) (s x : Operand) (ho : o.op = .call { callee := .builtin .append, args := #[s, x], argTypes := #[t, t] })
  (base : Nat) (v : Value) (n : Nat) (xs : List Value) (hs : a.eval s = v) (hown : w.ownsRow base e 1 v n xs) (B : Nat) (A : Option Addr) (m c : Nat) (news : List Value) (hx : a.eval x = .slice A m c)
  (hr : Rd w B A m news) (h1 : ∀ u ∈ news, u.oneCell' = true) (h63 : n + m ≤ maxLen) (hby : (n + m) * bytes ≤ 140737488355328) (hbase : base ≤ w.heap.size)
  (h : ∀ v' w', Onto w w' base e v v' (n + m) (xs ++ news) → K (a.put o.dst v') w') :
  if Region.wanted o (yielded ops a.tmps) = true then Oper.wp P o a w K Q else Z := by
 have hw : Region.wanted o (yielded ops a.tmps) = true := by simp [Region.wanted, hgd]
 rw [if_pos hw]
 obtain ⟨v', w', hrun, h2, h3, h4⟩ := run_app E o.type base v n xs hown B A m c news hr h1 h63 hby hbase
 unfold Oper.wp execOp
 simp only [ho, resolve, invoke, builtin, Sem.run_bind, Sem.run_pure, Result.andThen_ok, List.map_toArray, List.map_cons, List.map_nil, hs, hx, hrun]
 exact h v' w' ⟨h2, h3, fun k hk => by rcases h4 with h4 | h4 <;> rw [h4] at hk <;> first | exact .inl hk | (injection hk; omega)⟩
end
/-- Where a walk stands that began in w0: slices that read as these bytes; nothing that was there at the beginning has turned. -/
structure RS (w0 w : World) (L : List (Option Addr × Nat × List Nat)) : Prop where
 rds : ∀ x ∈ L, Rd w w.heap.size x.1 x.2.1 (cb x.2.2)
 bel : Below w0.heap.size w0 w
section
variable {w0 w w' : World} {L : List (Option Addr × Nat × List Nat)} {A : Option Addr} {n : Nat} {bs : List Nat}
end
end Go.Proofs.Ytbcmjjcbjojakaa
end
section
namespace Go.Proofs.Ytbcmjjcbjojakaa
open Go.RowKit
set_option linter.unusedVariables false
/-- The lowest k bytes of a number. -/
def fx (k v : Nat) : List Nat := (List.range k).map fun i => v / 2 ^ (8 * i) % 256
theorem fx_succ (k v : Nat) : fx (k + 1) v = fx k v ++ [v / 2 ^ (8 * k) % 256] := by unfold fx; rw [List.range_succ, List.map_append]; rfl
theorem fx_lt (k v : Nat) : ∀ x ∈ fx k v, x < 256 := by
 intro x hx
 obtain ⟨i, _, rfl⟩ := List.mem_map.1 hx
 exact Nat.mod_lt _ (by omega)
theorem shr_cell (v i : Nat) : (v : Int) / 2 ^ (8 * i) % 256 = ((v / 2 ^ (8 * i) % 256 : Nat) : Int) := by
 have : ((2 ^ (8 * i) : Nat) : Int) = (2 : Int) ^ (8 * i) := by push_cast; rfl
 rw [← this, Int.natCast_emod, Int.natCast_ediv]; rfl
set_option maxRecDepth 10000000 in
theorem len_1 (w : World) : Calls Try.prog 106 #[.int .u64 255] w fun e w' => e = .returned (.int .i64 8) ∧ w = w' := by
 go_enter Try.func106, Try.ntmps106
 go_wp2_with fail
 go_ret
 exact ⟨by kernel_rfl, rfl⟩
set_option maxRecDepth 10000000 in
theorem len_8 (w : World) : Calls Try.prog 106 #[.int .u64 18446744073709551615] w fun e w' => e = .returned (.int .i64 64) ∧ w = w' := by
 go_enter Try.func106, Try.ntmps106
 go_wp2_with fail
 go_ret
 exact ⟨by kernel_rfl, rfl⟩
theorem width_uint8 (w : World) : Calls Try.prog 88 #[] w fun e w' => e = .returned (.int .i64 1) ∧ w = w' := by
 go_enter Try.func88, Try.ntmps88
 go_wp2_with fail
 refine (len_1 w).mono ?_
 rintro e z ⟨rfl, rfl⟩
 go_wp2_with fail
 go_ret
 exact ⟨rfl, rfl⟩
theorem width_uint64 (w : World) : Calls Try.prog 87 #[] w fun e w' => e = .returned (.int .i64 8) ∧ w = w' := by
 go_enter Try.func87, Try.ntmps87
 go_wp2_with fail
 refine (len_8 w).mono ?_
 rintro e z ⟨rfl, rfl⟩
 go_wp2_with fail
 go_ret
 exact ⟨rfl, rfl⟩
end Go.Proofs.Ytbcmjjcbjojakaa
end
section
namespace Go.Proofs.Ytbcmjjcbjojakaa
open Go.RowKit
set_option linter.unusedVariables false
/-- A string's bytes. -/
def sb (s : ByteArray) : List Nat := s.data.toList.map UInt8.toNat
theorem sb_len (s : ByteArray) : (sb s).length = s.size := by unfold sb; rw [List.length_map, Array.length_toList]; rfl
def cs (ts : List ByteArray) : List Value := ts.map .string
theorem cs_len (ts : List ByteArray) : (cs ts).length = ts.length := List.length_map _
theorem cs_get (ts : List ByteArray) (k : Nat) (h : k < ts.length) : (cs ts)[k]? = some (.string (ts.getD k ByteArray.empty)) := by
 unfold cs; rw [List.getElem?_map, List.getElem?_eq_getElem h, List.getD_eq_getElem?_getD, List.getElem?_eq_getElem h]; rfl
/-- What texts write, one behind the other. -/
def tx (ts : List ByteArray) : List Nat := ts.flatMap fun t => uv t.size ++ sb t
theorem infoStr : Try.prog.underlying 9 = some .string := by kernel_rfl
end Go.Proofs.Ytbcmjjcbjojakaa
end
section
namespace Go.Proofs.Ytbcmjjcbjojakaa
open Go.RowKit
set_option linter.unusedVariables false
section
variable (w : World) (A A2 : Option Addr) (n c m c2 B : Nat)
set_option maxHeartbeats 400000 in
theorem joined_any (a b : List Nat) (ha : Rd w B A n (cb a)) (hb : Rd w B A2 m (cb b)) (hn : n + m ≤ 140737488355328) (hB : B ≤ w.heap.size) :
    Calls Try.prog 103 #[.slice A n c, .slice A2 m c2] w fun e w' => ∃ v', e = .returned v' ∧ Onto w w' w.heap.size 5 (.slice none 0 0) v' (n + m) (cb (a ++ b)) := by
  have HH : Hd (Rd w B A n (cb a) ∧ Rd w B A2 m (cb b) ∧ B ≤ w.heap.size) := ⟨ha, hb, hB⟩
  have h63 : Hd (0 + n ≤ maxLen ∧ n + m ≤ maxLen) := ⟨by unfold maxLen; omega, by unfold maxLen; omega⟩
  have hby : Hd ((0 + n) * 1 ≤ 140737488355328 ∧ (n + m) * 1 ≤ 140737488355328) := ⟨by omega, by omega⟩
  clear ha hb hB
  go_enter Try.func103, Try.ntmps103
  go_wp2_with (first
    | (refine wpList_app elB rfl (.tmp 6) (.tmp 7) rfl w.heap.size (.slice none 0 0) 0 [] rfl (World.ownsRow_nil ..) B A n c (cb a) rfl HH.out.1 (cb_one a) h63.out.1 hby.out.1 (Nat.le_refl _) ?_
       intro v1 w1 hO1
       have H1 : Hd (Onto w w1 w.heap.size 5 (.slice none 0 0) v1 n (cb a) ∧ Below B w w1) := ⟨by simpa using hO1, hO1.below (fun k h => by cases h) HH.out.2.2⟩
       clear hO1)
    | (refine wpList_app elB rfl (.tmp 9) (.tmp 10) rfl w.heap.size v1 n (cb a) rfl H1.out.1.own B A2 m c2 (cb b) rfl (HH.out.2.1.below H1.out.2) (cb_one b) h63.out.2 hby.out.2 H1.out.1.size ?_
       intro v2 w2 hO2))
  go_ret
  exact ⟨v2, rfl, by rw [cb_append]; exact H1.out.1.trans hO2⟩
set_option maxHeartbeats 1000000 in
theorem refFixed_any (v k : Nat) (bs : List Nat) (hr : Rd w B A n (cb bs)) (hv : v < 18446744073709551616) (hn : n + 10 ≤ 140737488355328) (hk : k ≤ 8) (hB : B ≤ w.heap.size) :
    Calls Try.prog 81 #[.slice A n c, .int .u64 (v : Int), .int .i64 (k : Int)] w fun e w' => ∃ v', e = .returned v' ∧ Onto w w' w.heap.size 5 (.slice none 0 0) v' (n + k) (cb (bs ++ fx k v)) := by
  have HH : Hd (Rd w B A n (cb bs) ∧ B ≤ w.heap.size) := ⟨hr, hB⟩
  obtain ⟨V, hV⟩ : ∃ V : Int, (v : Int) = V := ⟨_, rfl⟩
  have hV1 : 0 ≤ V := by omega
  have HV : Hd (∀ k, V / 2 ^ (8 * k) % 256 = ((v / 2 ^ (8 * k) % 256 : Nat) : Int)) := ⟨fun k => by rw [← hV]; exact shr_cell v k⟩
  rw [hV]
  clear hr hB hv hV
  go_enter Try.func81, Try.ntmps81
  go_wp2_with fail
  go_loopw [7, 8] (fun s i wr => ∃ j : Nat, j ≤ k ∧ i = .int .i64 j ∧ Onto w wr w.heap.size 5 (.slice none 0 0) s j (cb (fx j v))) (fun _ i _ => k - (intOf i).toNat)
  case atStart => exact ⟨0, by omega, rfl, Onto.nil w _ _⟩
  case round =>
    obtain ⟨j, hj, rfl, hO⟩ := hrel
    have H1 := Hd.mk hO
    clear hO
    by_cases hlt : j < k
    · have h63 : Hd (j + 1 ≤ maxLen) := ⟨by unfold maxLen; omega⟩
      have hby : Hd ((j + 1) * 1 ≤ 140737488355328) := ⟨by omega⟩
      go_wp2_with (refine wpList_push elB rfl rfl (.tmp 14) (.tmp 20) 21 rfl rfl rfl w.heap.size u7 _ _ _ rfl rfl rfl rfl H1.out.own h63.out hby.out H1.out.size ?_; intro v2 w2 hO2)
      go_roundw
      case rel =>
        refine ⟨j + 1, by omega, by go_num, ?_⟩
        rw [fx_succ, cb_append]
        have := H1.out.trans (show Onto wr w2 w.heap.size 5 u7 v2 (j + 1) (cb (fx j v) ++ [.int .u8 (V / 2 ^ (8 * j) % 256)]) from hO2)
        rw [HV.out] at this
        exact this
      case measure => simp [intOf]; omega
    · have hjk : k = j := by omega
      subst hjk
      obtain ⟨A3, c3, hv3, _, _⟩ := own_form H1.out.own
      subst hv3
      have H2 : Hd (Rd wr wr.heap.size A n (cb bs) ∧ Rd wr wr.heap.size A3 k (cb (fx k v)) ∧ Below w.heap.size w wr) :=
        have b := H1.out.below (B := w.heap.size) (fun k h => by cases h) (Nat.le_refl _)
        ⟨(HH.out.1.below (b.mono HH.out.2)).more (Nat.le_trans HH.out.2 b.size), Rd.of_own H1.out.own, b⟩
      go_wp2_with fail
      refine (joined_any wr A A3 n c k c3 wr.heap.size bs (fx k v) H2.out.1 H2.out.2.1 (by omega) (Nat.le_refl _)).mono ?_
      rintro e w2 ⟨v2, rfl, hO⟩
      have H3 : Hd (Onto w w2 w.heap.size 5 (.slice none 0 0) v2 (n + k) (cb (bs ++ fx k v))) :=
        have b := H2.out.2.2.trans (hO.below (B := w.heap.size) (fun k h => by cases h) H2.out.2.2.size)
        ⟨hO.base_ (fun k h => by cases h) H2.out.2.2.size, ⟨b.os, b.tape, b.output, b.size, fun k hk _ => b.block k hk⟩, fun k hk => .inr (Nat.le_trans H2.out.2.2.size ((hO.own.lt k hk).1))⟩
      clear hO
      go_wp2_with fail
      go_ret
      exact ⟨v2, rfl, H3.out⟩
end
end Go.Proofs.Ytbcmjjcbjojakaa
end
section
namespace Go.Proofs.Ytbcmjjcbjojakaa
open Go.ChangeShapes Go.WideShapes Go.ChangeAt Go.RowKit
set_option linter.unusedVariables false
/-- A slice of integers that came in: nil, or a row of 'cap' cells, the numbers zs, the first 'len' its elements. -/
def IsRow (k : IntKind) (w : World) (a : Option Addr) (len cap : Nat) (zs : List Int) : Prop :=
 (a = none ∧ len = 0 ∧ cap = 0 ∧ zs = []) ∨
 ∃ x, a = some x ∧ len ≤ cap ∧ cap ≤ maxLen ∧ zs.length = cap ∧ (∀ i, i < zs.length → w.cell? (x.add i) = some (.int k (zs.getD i 0))) ∧ ∀ n ∈ zs, (Lit.int k n).wf = true
theorem bulk_pos {H : Type} (d : DataW H) : 1 ≤ Rows.uptoBulk d := by
 cases d with
 | lit l => cases l <;> simp [Rows.uptoBulk]
 | _ => simp [Rows.uptoBulk]
theorem bulk_part {H : Type} : ∀ {ds : List (DataW H)} {i : Nat} {d : DataW H}, ds[i]? = some d → Rows.uptoBulk d ≤ Rows.uptoBulkAll ds
 | [], i, d, h => by simp at h
 | x :: r, 0, d, h => by simp at h; subst h; simp only [Rows.uptoBulkAll]; omega
 | x :: r, i + 1, d, h => by have := bulk_part (ds := r) (i := i) (by simpa using h); simp only [Rows.uptoBulkAll]; omega
theorem bulk_len {H : Type} : ∀ (l : List (DataW H)), l.length ≤ Rows.uptoBulkAll l
 | [] => by simp [Rows.uptoBulkAll]
 | x :: r => by have := bulk_len r; have := bulk_pos x; simp only [Rows.uptoBulkAll, List.length_cons]; omega
section
variable {k : IntKind} {w : World} {a : Option Addr} {len cap : Nat} {zs : List Int}
theorem IsRow.len_le (h : IsRow k w a len cap zs) : len ≤ cap := by
 rcases h with ⟨_, rfl, rfl, _⟩ | ⟨_, _, h, _⟩
 ·exact Nat.le_refl _
 ·exact h
theorem IsRow.rdAll (h : IsRow k w a len cap zs) : Rd w w.heap.size a cap (zs.map (.int k)) := by
 rcases h with ⟨rfl, rfl, rfl, rfl⟩ | ⟨x, rfl, hl, hm, hz, hc, hw⟩
 ·exact Rd.nil
 ·refine ⟨by simpa using hz, fun hp => ?_⟩
  obtain ⟨g, off, spot⟩ := x
  have h0 := hc 0 (by omega)
  have hs : spot = none := by simpa [Addr.add] using World.cell?_spot h0
  subst hs
  refine ⟨g, off, rfl, ?_, fun i hi => ?_⟩
  ·have := World.block_lt_of_cell? w _ h0; simpa [Addr.add] using this
  ·have h1 := hc i (by omega)
   have e : (⟨g, off, none⟩ : Addr).add i = ⟨g, off + i, none⟩ := by unfold Addr.add; split <;> simp_all
   rw [e] at h1
   rw [h1, List.getElem?_map, List.getD_eq_getElem?_getD, List.getElem?_eq_getElem (by omega)]; rfl
theorem IsRow.wf (h : IsRow k w a len cap zs) : ∀ n ∈ zs, (Lit.int k n).wf = true := by
 rcases h with ⟨_, _, _, rfl⟩ | ⟨_, _, _, _, _, _, h⟩
 ·intro n hn; cases hn
 ·exact h
end
/-- The bytes of a slice that came in. -/
theorem IsRow.bytes {w : World} {a : Option Addr} {len cap : Nat} {zs : List Int} (h : IsRow .u8 w a len cap zs) :
  ∃ l : List Nat, Rd w w.heap.size a cap (cb l) ∧ (∀ x ∈ l, x < 256) ∧ l.length = cap ∧ len ≤ cap := by
 have hw : ∀ n ∈ zs, 0 ≤ n ∧ n ≤ 255 := fun n hn => by simpa [Lit.wf, IntKind.min, IntKind.max, IntKind.signed, IntKind.bits] using h.wf n hn
 have e : zs.map (.int .u8) = cb (zs.map Int.toNat) := by
  unfold cb; rw [List.map_map]
  refine List.map_congr_left fun z hz => ?_
  simp only [Function.comp, bv]
  have := hw z hz
  rw [Int.toNat_of_nonneg this.1]
 refine ⟨zs.map Int.toNat, by rw [← e]; exact h.rdAll, fun x hx => ?_, ?_, h.len_le⟩
 ·obtain ⟨z, hz, rfl⟩ := List.mem_map.1 hx
  have := hw z hz
  omega
 ·have := h.rdAll.1
  simpa using this
end Go.Proofs.Ytbcmjjcbjojakaa
end
section
namespace Go.Proofs.Ytbcmjjcbjojakaa
open Go.ChangeShapes Go.WideShapes Go.ChangeAt Go.RowKit
set_option linter.unusedVariables false
/-- A slice of slices of bytes that came in: its rows' bytes. -/
def Rws (w : World) (A : Option Addr) (n : Nat) (ps : List (List Nat)) : Prop :=
 ps.length = n ∧ ∀ r, r < n → ∃ g off Ar Cr, A = some ⟨g, off, none⟩ ∧ g < w.heap.size ∧ w.cell? ⟨g, off + r, none⟩ = some (.slice Ar (ps.getD r []).length Cr) ∧ Rd w w.heap.size Ar (ps.getD r []).length (cb (ps.getD r [])) ∧ ∀ x ∈ ps.getD r [], x < 256
end Go.Proofs.Ytbcmjjcbjojakaa
end
section
namespace Go.Proofs.Ytbcmjjcbjojakaa
open Go.RowKit
set_option linter.unusedVariables false
/-- The marks of the law. -/
def marks : List Nat := (List.range 64).map fun i => 201 + i % 7
theorem marks_len : marks.length = 64 := by simp [marks]
theorem marks_get (k : Nat) (h : k < 64) : marks.getD k 0 = 201 + k % 7 := by
 unfold marks; rw [List.getD_eq_getElem?_getD, List.getElem?_map, List.getElem?_range h]; rfl
theorem marks_take (k : Nat) (h : k < 64) : marks.take (k + 1) = marks.take k ++ [201 + k % 7] := by
 rw [List.take_succ_eq_append_getElem (by rw [marks_len]; exact h)]
 have := marks_get k h
 rw [List.getD_eq_getElem?_getD, List.getElem?_eq_getElem (by rw [marks_len]; exact h)] at this
 simp only [Option.getD_some] at this
 rw [this]
set_option maxHeartbeats 1000000 in
theorem lent_any (w : World) (A : Option Addr) (n c B : Nat) (bs : List Nat) (hr : Rd w B A n (cb bs)) (hn : n ≤ 140737488355000) (hB : B ≤ w.heap.size) :
  Calls Try.prog 16 #[.slice A n c] w fun e w' => ∃ g cap, e = .returned (.slice (some ⟨g, 0, none⟩) n cap) ∧ w'.ownsRow w.heap.size 5 1 (.slice (some ⟨g, 0, none⟩) (n + 64) cap) (n + 64) (cb (bs ++ marks)) ∧ Below w.heap.size w w' ∧ w.heap.size ≤ g ∧ g < w'.heap.size ∧ n + 64 ≤ cap := by
 have HH : Hd (Rd w B A n (cb bs) ∧ B ≤ w.heap.size) := ⟨hr, hB⟩
 have h63 : Hd (0 + n ≤ maxLen) := ⟨by unfold maxLen; omega⟩
 have hby : Hd ((0 + n) * 1 ≤ 140737488355328) := ⟨by omega⟩
 clear hr hB
 go_enter Try.func16, Try.ntmps16
 go_wp2_with (refine wpList_app elB rfl (.tmp 5) (.tmp 6) rfl w.heap.size (.slice none 0 0) 0 [] rfl (World.ownsRow_nil ..) B A n c (cb bs) rfl HH.out.1 (cb_one bs) h63.out hby.out (Nat.le_refl _) ?_; intro v1 w1 hO1; have H1 : Hd (Onto w w1 w.heap.size 5 (.slice none 0 0) v1 n (cb bs)) := ⟨by simpa using hO1⟩; clear hO1)
 go_loopw [3, 4] (fun s i wr => ∃ k : Nat, k ≤ 64 ∧ i = .int .i64 k ∧ Onto w wr w.heap.size 5 (.slice none 0 0) s (n + k) (cb (bs ++ marks.take k))) (fun _ i _ => 64 - (intOf i).toNat)
 case atStart => exact ⟨0, by omega, rfl, by simpa using H1.out⟩
 case round =>
  obtain ⟨k, hk, rfl, hO⟩ := hrel
  have H2 := Hd.mk hO
  clear hO H1
  by_cases hlt : k < 64
  ·have h63 : Hd (n + k + 1 ≤ maxLen) := ⟨by unfold maxLen; omega⟩
   have hby : Hd ((n + k + 1) * 1 ≤ 140737488355328) := ⟨by omega⟩
   have hd := Int.tmod_eq_emod_of_nonneg (a := (k : Int)) (b := 7) (by omega)
   go_wp2_with (refine wpList_push elB rfl rfl (.tmp 12) (.tmp 16) 17 rfl rfl rfl w.heap.size u3 _ _ _ rfl rfl rfl rfl H2.out.own h63.out hby.out H2.out.size ?_; intro v2 w2 hO2)
   go_roundw
   case rel =>
    refine ⟨k + 1, by omega, by go_num, ?_⟩
    have h3 : Onto wr w2 w.heap.size 5 u3 v2 (n + k + 1) (cb (bs ++ marks.take k) ++ [.int .u8 (201 + (k : Int) % 7)]) := hO2
    rw [show 201 + (k : Int) % 7 = ((201 + k % 7 : Nat) : Int) by omega] at h3
    rw [marks_take k hlt, ← List.append_assoc, cb_append]
    exact H2.out.trans h3
   case measure => simp [intOf]; omega
  ·have hk8 : k = 64 := by omega
   subst hk8
   have HM : Hd (marks.take 64 = marks) := ⟨List.take_of_length_le (by rw [marks_len]; exact Nat.le_refl _)⟩
   rw [HM.out] at H2
   obtain ⟨g, cap, hv, hg1, hg2⟩ := own_pos H2.out.own (by omega)
   obtain ⟨_, _, hv2, hc2, _⟩ := own_form H2.out.own
   subst hv
   cases hv2
   have sB := fun w => run_cut_to (P := Try.prog) (w := w) elB (some ⟨g, 0, none⟩) (n + 64) cap n (by omega)
   have HG : Hd (w.heap.size ≤ g ∧ g < wr.heap.size ∧ n + 64 ≤ cap) := ⟨hg1, hg2, hc2⟩
   clear hg1 hg2 hc2
   go_wp2_with fail
   go_ret
   exact ⟨g, cap, rfl, H2.out.own, H2.out.below (fun k h => by cases h) (Nat.le_refl _), HG.out.1, HG.out.2.1, HG.out.2.2⟩
set_option maxRecDepth 20000 in
set_option maxHeartbeats 1000000 in
theorem unmarked_any (w : World) (base g n cap B : Nat) (A2 : Option Addr) (c2 : Nat) (bs : List Nat) (ho : w.ownsRow base 5 1 (.slice (some ⟨g, 0, none⟩) (n + 64) cap) (n + 64) (cb (bs ++ marks))) (hr : Rd w B A2 n (cb bs)) (hn : n ≤ 140737488355000) (hc : n + 64 ≤ cap) :
  Calls Try.prog 20 #[.slice (some ⟨g, 0, none⟩) n cap, .slice A2 n c2] w fun e w' => e = .returned (.bool true) ∧ w = w' := by
 have hbl : bs.length = n := by have := hr.1; rw [cb_length] at this; exact this
 have f1 : (convert 26 9 (.slice (some ⟨g, 0, none⟩) n cap)).run Try.prog w = .ok (.string (bstr bs)) w := by
  have h := (Rd.of_own ho).take (h := n) (by omega)
  rw [cb, ← List.map_take, List.take_left' hbl] at h
  rw [← cb, cb_ints] at h
  exact run_conv_str _ _ 5 Try.underlying26 Try.underlying5 infoStr cap h
 have f2 : (convert 26 9 (.slice A2 n c2)).run Try.prog w = .ok (.string (bstr bs)) w := by
  have h := hr
  rw [cb_ints] at h
  exact run_conv_str _ _ 5 Try.underlying26 Try.underlying5 infoStr c2 h
 have sB := run_cut_to (P := Try.prog) (w := w) elB (some ⟨g, 0, none⟩) n cap (n + 64) (by omega)
 have HO : Hd (w.ownsRow base 5 1 (.slice (some ⟨g, 0, none⟩) (n + 64) cap) (n + 64) (cb (bs ++ marks)) ∧ bs.length = n) := ⟨ho, hbl⟩
 have e1 : ((bstr bs).toList != (bstr bs).toList) = false := by simp
 generalize bstr bs = S at *
 clear ho hr hbl
 go_enter Try.func20, Try.ntmps20
 go_wp2_with fail
 go_loop [6] (fun i => ∃ k : Nat, k ≤ 64 ∧ i = .int .i64 ((n : Int) + (k : Int))) (fun i => n + 64 - (intOf i).toNat)
 case atStart => exact ⟨0, by omega, by simp⟩
 case round =>
  obtain ⟨k, hk, rfl⟩ := hrel
  by_cases hlt : k < 64
  ·have hcc := HO.out.1.cellAt (n + k) (by omega)
   rw [cb_append, List.getElem?_append_right (by rw [cb_length, HO.out.2]; omega), cb_length, HO.out.2, Nat.add_sub_cancel_left, cb_get _ _ (by rw [marks_len]; exact hlt), marks_get k hlt] at hcc
   have hd := Int.tmod_eq_emod_of_nonneg (a := (k : Int)) (b := 7) (by omega)
   have e2 : ((201 + k % 7 : Nat) : Int) = 201 + (k : Int) % 7 := by omega
   rw [e2] at hcc
   have e3 : (n : Int) + (k : Int) - (n : Int) = (k : Int) := by omega
   have e4 : (201 + (k : Int) % 7 != 201 + (k : Int) % 7) = false := by simp
   have e5 : ((n : Int) + (k : Int)).toNat = n + k := by omega
   clear e2
   go_wp2_with fail
   go_round
   case rel => exact ⟨k + 1, by omega, by congr 1⟩
   case measure => simp [intOf]; omega
  ·have hk64 : k = 64 := by omega
   subst hk64
   go_wp2_with fail
   go_ret
   exact ⟨rfl, rfl⟩
theorem infoT : (Try.prog.info? 9).map (fun i => (i.zero, i.size, i.bytes)) = some (some (.string ⟨#[]⟩), 1, 16) := by kernel_rfl
theorem elS : El Try.prog 37 9 16 (.string ⟨#[]⟩) := ⟨Try.underlying37, info_parts infoT, rfl⟩
theorem cs_append (a b : List ByteArray) : cs (a ++ b) = cs a ++ cs b := List.map_append
def markS : ByteArray := ⟨#[109, 97, 114, 107]⟩
end Go.Proofs.Ytbcmjjcbjojakaa
end
