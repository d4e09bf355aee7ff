/- Words for slices: what a slice reads as (nil let in), append and push onto a row that the call made itself, and how such facts are carried on. Plain theorems over any program. -/
import Derived.WalkKit
import Derived.Maps.AppendAt
import Derived.Deep.Draws
import Derived.Laws.BytesArg
namespace Go.Proofs.Ytjkenhkoakaaoaa
open Go.RowKit
theorem hid {p : Prop} (h : p) : Hid p := h
/-- A fact kept from the walk, also from what looks at a hypothesis's two sides. -/
structure Hd (p : Prop) : Prop where
  out : p
/-- The slice '.slice A n c' reads as the cells xs, and lies below block B. -/
def Rd (w : World) (B : Nat) (A : Option Addr) (n : Nat) (xs : List Value) : Prop :=
  xs.length = n ∧ (0 < n → ∃ g off, A = some ⟨g, off, none⟩ ∧ g < B ∧ ∀ i, i < n → w.cell? ⟨g, off + i, none⟩ = xs[i]?)
/-- What the walk needs to know of a slice type t with elements e of one cell. -/
structure El (P : Program) (t e bytes : Nat) (z : Value) : Prop where
  ht : P.underlying t = some (.slice e)
  hi : ∃ i, P.info? e = some i ∧ i.zero = some z ∧ i.size = 1 ∧ i.bytes = bytes
  hz : z.cells.size = 1
section
variable {w w' : World} {B B' n : Nat} {A : Option Addr} {xs : List Value}
theorem Rd.nil : Rd w B A 0 [] := ⟨rfl, fun h => absurd h (by omega)⟩
theorem Rd.at_ (h : Rd w B A n xs) {k : Nat} (hk : k < n) : ∃ g off u, A = some ⟨g, off, none⟩ ∧ g < B ∧ xs[k]? = some u ∧ w.cell? ⟨g, off + k, none⟩ = some u := by
  obtain ⟨g, off, e, hb, hc⟩ := h.2 (by omega)
  have hl : k < xs.length := by have := h.1; omega
  exact ⟨g, off, xs[k], e, hb, List.getElem?_eq_getElem hl, (hc k hk).trans (List.getElem?_eq_getElem hl)⟩
theorem Rd.keep (h : Rd w B A n xs) (hk : ∀ p : Addr, p.block < B → w'.cell? p = w.cell? p) : Rd w' B A n xs :=
  ⟨h.1, fun hn => let ⟨g, off, e, hb, hc⟩ := h.2 hn; ⟨g, off, e, hb, fun i hi => (hk ⟨g, off + i, none⟩ hb).trans (hc i hi)⟩⟩
theorem Rd.more (h : Rd w B A n xs) (hB : B ≤ B') : Rd w B' A n xs :=
  ⟨h.1, fun hn => let ⟨g, off, e, hb, hc⟩ := h.2 hn; ⟨g, off, e, by omega, hc⟩⟩
theorem Rd.below (h : Rd w B A n xs) (hb : Below B w w') : Rd w' B A n xs := h.keep fun _ hp => hb.cell hp
theorem Rd.alloc (h : Rd w B A n xs) (hB : B ≤ w.heap.size) (o : Obj) : Rd (w.alloc o) B A n xs := h.keep fun p hp => World.cell?_alloc_lt w o p (by omega)
theorem Rd.setCell (h : Rd w B A n xs) {p : Addr} (hB : B ≤ p.block) (u : Value) : Rd (w.setCell p u) B A n xs :=
  h.keep fun q hq => World.cell?_setCell_other w p q u (fun e => by subst e; omega)
theorem Rd.grown (h : Rd w B A n xs) {row : Option Nat} (hg : w.grownBy w' row) (hB : B ≤ w.heap.size) (hr : ∀ g, row = some g → B ≤ g) : Rd w' B A n xs :=
  h.keep fun p hp => World.cell?_of_block (hg.block p.block (by omega) (fun e => by have := hr _ e.symm; omega))
/-- A row that is owned reads as what it holds. -/
theorem Rd.of_own {base e c : Nat} (h : w.ownsRow base e 1 (.slice A n c) n xs) : Rd w w.heap.size A n xs := by
  refine ⟨by simpa using h.1, fun hn => ?_⟩
  rcases h.2 with ⟨hv, h0⟩ | ⟨g, cap, cur, hv, _, hg, hnc, _, hcs, htake⟩
  · omega
  · injection hv with hA hn' hc
    subst hA
    refine ⟨g, 0, rfl, (Array.getElem?_eq_some_iff.1 hg).1, fun i hi => ?_⟩
    rw [cell_of_row w g (0 + i) cur e (0, 0) hg, ← htake, List.getElem?_take, if_pos (by omega)]
    simp
/-- The value of an owned row is a slice of its length. -/
theorem own_form {base e : Nat} {v : Value} (h : w.ownsRow base e 1 v n xs) : ∃ A c, v = .slice A n c ∧ n ≤ c ∧ c ≤ maxLen := by
  rcases h.2 with ⟨hv, h0⟩ | ⟨g, cap, cur, hv, _, hg, hnc, hm, hcs, htake⟩
  · subst h0; exact ⟨none, 0, hv, Nat.le_refl _, Nat.zero_le _⟩
  · exact ⟨_, cap, hv, hnc, hm⟩
end
/-- From w on the row 's' (of the call's own, or nil) was grown: in w' it is v', of n elements xs; nothing that was there but that row has turned. -/
def Onto (w w' : World) (base e : Nat) (s v' : Value) (n : Nat) (xs : List Value) : Prop :=
  w'.ownsRow base e 1 v' n xs ∧ w.grownBy w' s.ownBlock ∧ ∀ k, v'.ownBlock = some k → s.ownBlock = some k ∨ w.heap.size ≤ k
section
variable {w w1 w2 : World} {base e n n1 n2 : Nat} {s v1 v2 : Value} {xs xs1 xs2 : List Value}
theorem Onto.refl (h : w.ownsRow base e 1 s n xs) : Onto w w base e s s n xs := ⟨h, World.grownBy.refl w _, fun _ h => .inl h⟩
theorem Onto.nil (w : World) (base e : Nat) : Onto w w base e (.slice none 0 0) (.slice none 0 0) 0 [] := .refl (World.ownsRow_nil w base e 1)
theorem Onto.trans (h : Onto w w1 base e s v1 n1 xs1) (g : Onto w1 w2 base e v1 v2 n2 xs2) : Onto w w2 base e s v2 n2 xs2 := by
  obtain ⟨_, hg, hl⟩ := h
  obtain ⟨ho, gg, gl⟩ := g
  refine ⟨ho, ⟨gg.os.trans hg.os, gg.tape.trans hg.tape, gg.output.trans hg.output, Nat.le_trans hg.size gg.size, fun k hk hne => ?_⟩, fun k hk => ?_⟩
  · refine (gg.block k (Nat.lt_of_lt_of_le hk hg.size) fun he => ?_).trans (hg.block k hk hne)
    rcases hl k he.symm with h1 | h1
    · exact hne h1.symm
    · omega
  · rcases gl k hk with h1 | h1
    · exact hl k h1
    · exact .inr (Nat.le_trans hg.size h1)
theorem Onto.below {B : Nat} (h : Onto w w1 base e s v1 n1 xs1) (hs : ∀ k, s.ownBlock = some k → B ≤ k) (hB : B ≤ w.heap.size) : Below B w w1 :=
  (Below.refl B w).grown h.2.1 hB hs
theorem Onto.own (h : Onto w w1 base e s v1 n1 xs1) : w1.ownsRow base e 1 v1 n1 xs1 := h.1
theorem Onto.size (h : Onto w w1 base e s v1 n1 xs1) : w.heap.size ≤ w1.heap.size := h.2.1.size
theorem Onto.base_ {base' : Nat} (h : Onto w w1 base e s v1 n1 xs1) (hs : ∀ k, s.ownBlock = some k → base' ≤ k) (hB : base' ≤ w.heap.size) : w1.ownsRow base' e 1 v1 n1 xs1 := by
  obtain ⟨⟨h1, h2⟩, _, hl⟩ := h
  refine ⟨h1, ?_⟩
  rcases h2 with h2 | ⟨g, cap, cur, rfl, hb, rest⟩
  · exact .inl h2
  · refine .inr ⟨g, cap, cur, rfl, ?_, rest⟩
    rcases hl g rfl with h3 | h3
    · exact hs g h3
    · omega
end
section
variable {P : Program} {w : World} {t e bytes : Nat} {z : Value}
theorem run_build0 (E : El P t e bytes z) : (Instr.buildSlice t 0 #[]).run P w = .ok (.slice (some ⟨w.heap.size, 0, none⟩) 0 0) (w.alloc (.cells #[] e)) := by
  obtain ⟨i, hi, hz, hs, hb⟩ := E.hi
  simp [Instr.buildSlice, run_underlying E.ht, sizeOf, typeInfo, hi, Instr.fill, go_sem]
theorem run_build1 (E : El P t e bytes z) (u : Value) (h1 : u.oneCell' = true) : (Instr.buildSlice t 1 #[(0, u)]).run P w = .ok (.slice (some ⟨w.heap.size, 0, none⟩) 1 1) (w.alloc (.cells #[u] e)) := by
  obtain ⟨i, hi, hz, hs, hb⟩ := E.hi
  cases u <;> first | (simp [Value.oneCell'] at h1; done) | simp [Instr.buildSlice, run_underlying E.ht, sizeOf, typeInfo, hi, hs, Instr.fill, go_sem, zeroValue, hz]
theorem run_conv_str (src dst e' : TypeId) (hs : P.underlying src = some (.slice e')) (he : P.underlying e' = some (.int .u8)) (hd : P.underlying dst = some .string) {B : Nat} {A : Option Addr} {n : Nat} (c : Nat) {zs : List Int}
    (hr : Rd w B A n (zs.map (.int .u8))) : (convert src dst (.slice A n c)).run P w = .ok (.string (strOfNums zs)) w := by
  have hz : zs.length = n := by simpa using hr.1
  rcases Nat.eq_zero_or_pos n with h0 | h0
  · subst h0
    have : zs = [] := List.eq_nil_of_length_eq_zero hz
    subst this
    rw [run_convert_bytes_string w src dst e' A 0 c hs he hd]
    cases A <;> simp [Conv.bytesToString, strOfNums, ByteArray.empty, ByteArray.emptyWithCapacity, loadCells, loadCellsFrom] <;> rfl
  · obtain ⟨g, off, rfl, _, hc⟩ := hr.2 h0
    refine run_convert_bytes_arg w src e' hs he g off n c zs hz (fun i hi => ?_) dst hd
    rw [hc i hi, List.getElem?_map, List.getD_eq_getElem?_getD, List.getElem?_eq_getElem (by omega)]; rfl
/-- Where a cut of a slice lies. -/
def cutA (A : Option Addr) (c l : Nat) : Option Addr := if c = l then A else A.map (·.add l)
theorem cutA_0 (A : Option Addr) (c : Nat) : cutA A c 0 = A := by
  unfold cutA; split
  · rfl
  · cases A <;> simp [Addr.add]
theorem run_cut (E : El P t e bytes z) (A : Option Addr) (n c l h : Nat) (hl : l ≤ h) (hh : h ≤ c) :
    (Instr.slice t (.slice A n c) (some (.int .i64 (l : Int))) (some (.int .i64 (h : Int))) none).run P w = .ok (.slice (cutA A c l) (h - l) (c - l)) w := by
  obtain ⟨i, hi, hz, hs, hb⟩ := E.hi
  simp [Instr.slice, run_underlying E.ht, Instr.sliceBounds, run_sliceBound, sizeOf, typeInfo, hi, hs, cutA, hl, hh, Int.ofNat_le]
theorem run_cut_to (E : El P t e bytes z) (A : Option Addr) (n c h : Nat) (hh : h ≤ c) :
    (Instr.slice t (.slice A n c) none (some (.int .i64 (h : Int))) none).run P w = .ok (.slice A h c) w := by
  obtain ⟨i, hi, hz, hs, hb⟩ := E.hi
  have := cutA_0 A c
  unfold cutA at this
  simp [Instr.slice, run_underlying E.ht, Instr.sliceBounds, run_sliceBound, sizeOf, typeInfo, hi, hh, Int.ofNat_le]
  intro h0; rw [if_neg h0] at this; exact this
theorem run_cut_from (E : El P t e bytes z) (A : Option Addr) (n c l : Nat) (hl : l ≤ n) :
    (Instr.slice t (.slice A n c) (some (.int .i64 (l : Int))) none none).run P w = .ok (.slice (cutA A c l) (n - l) (c - l)) w := by
  obtain ⟨i, hi, hz, hs, hb⟩ := E.hi
  simp [Instr.slice, run_underlying E.ht, Instr.sliceBounds, run_sliceBound, sizeOf, typeInfo, hi, hs, cutA, hl, Int.ofNat_le]
theorem Rd.cut {B n : Nat} {A : Option Addr} {xs : List Value} (hr : Rd w B A n xs) {c l h : Nat} (hl : l ≤ h) (hh : h ≤ n) (hn : n ≤ c) : Rd w B (cutA A c l) (h - l) ((xs.drop l).take (h - l)) := by
  refine ⟨by rw [List.length_take, List.length_drop, hr.1]; omega, fun hp => ?_⟩
  obtain ⟨g, off, rfl, hb, hc⟩ := hr.2 (by omega)
  unfold cutA
  rw [if_neg (by omega)]
  refine ⟨g, off + l, ?_, hb, fun i hi => ?_⟩
  · simp only [Option.map_some, Addr.add]
    split
    · rename_i h0; subst h0; rfl
    · rfl
  · rw [Nat.add_assoc, hc (l + i) (by omega), List.getElem?_take, if_pos hi, List.getElem?_drop]
theorem Rd.take {B n : Nat} {A : Option Addr} {xs : List Value} (hr : Rd w B A n xs) {h : Nat} (hh : h ≤ n) : Rd w B A h (xs.take h) := by
  refine ⟨by rw [List.length_take, hr.1]; omega, fun hp => ?_⟩
  obtain ⟨g, off, rfl, hb, hc⟩ := hr.2 (by omega)
  exact ⟨g, off, rfl, hb, fun i hi => by rw [hc i (by omega), List.getElem?_take, if_pos hi]⟩
/-- 'append(s, x...)': s is a row of the call's own (or nil), x reads as 'news' (nil let in). -/
theorem run_app (E : El P t e bytes z) (ty base : Nat) (v : Value) (n : Nat) (xs : List Value) (hown : w.ownsRow base e 1 v n xs) (B : Nat) (A : Option Addr) (m c : Nat) (news : List Value)
    (hr : Rd w B A m news) (h1 : ∀ u ∈ news, u.oneCell' = true) (h63 : n + m ≤ maxLen) (hby : (n + m) * bytes ≤ 140737488355328) (hbase : base ≤ w.heap.size) :
    ∃ v' w', (Builtin.append_ #[t, t] ty #[v, .slice A m c]).run P w = .ok v' w' ∧ w'.ownsRow base e 1 v' (n + m) (xs ++ news) ∧ w.grownBy w' v.ownBlock ∧
      (v'.ownBlock = v.ownBlock ∨ v'.ownBlock = some w.heap.size) := by
  obtain ⟨i, hi, hz, hs, hb⟩ := E.hi
  rcases A with _ | ad
  · have hm : m = 0 := by
      rcases Nat.eq_zero_or_pos m with h0 | h0
      · exact h0
      · obtain ⟨_, _, h, _⟩ := hr.2 h0; cases h
    subst hm
    have hn : news = [] := List.eq_nil_of_length_eq_zero hr.1
    subst hn
    refine ⟨v, w, ?_, by simpa using hown, World.grownBy.refl w _, .inl rfl⟩
    rcases hown.2 with ⟨rfl, rfl⟩ | ⟨g, cap, cur, rfl, _, _, hnc, _⟩
    · simp [Builtin.append_, run_underlying E.ht, sizeOf, typeInfo, hi, Builtin.lenOf, Builtin.firstCells]
    · simp [Builtin.append_, run_underlying E.ht, sizeOf, typeInfo, hi, Builtin.lenOf, Builtin.firstCells, hnc, storeCells]
  · have hcells : ∀ j u, news[j]? = some u → w.cell? (ad.add j) = some u := by
      intro j u hu
      have hj : j < m := by have := (List.getElem?_eq_some_iff.1 hu).1; have := hr.1; omega
      obtain ⟨g, off, he, _, hc⟩ := hr.2 (by omega)
      injection he with he
      subst he
      have : (⟨g, off, none⟩ : Addr).add j = ⟨g, off + j, none⟩ := by unfold Addr.add; split <;> simp_all
      rw [this, hc j hj, hu]
    obtain ⟨v', w', hrun, h2, h3, _, h5⟩ := run_append_own_at (P := P) w base t ty e i z 1 bytes E.ht hi hz hs hb E.hz (by omega) v n xs hown ad m c news (by simpa using hr.1) hcells h1 h63 hby hbase
    exact ⟨v', w', hrun, h2, h3, h5⟩
section
variable {ops : Array Oper} {rest : List Oper} {o o1 o2 : Oper} {a : Act} {Q : Exit → Act → World → Prop}
theorem wpList_app (E : El P t e bytes z) (hgd : o.guard = none) (s x : Operand) (ho : o.op = .call { callee := .builtin .append, args := #[s, x], argTypes := #[t, t] })
    (base : Nat) (v : Value) (n : Nat) (xs : List Value) (hs : a.eval s = v) (hown : w.ownsRow base e 1 v n xs) (B : Nat) (A : Option Addr) (m c : Nat) (news : List Value) (hx : a.eval x = .slice A m c)
    (hr : Rd w B A m news) (h1 : ∀ u ∈ news, u.oneCell' = true) (h63 : n + m ≤ maxLen) (hby : (n + m) * bytes ≤ 140737488355328) (hbase : base ≤ w.heap.size)
    (h : ∀ v' w', Onto w w' base e v v' (n + m) (xs ++ news) → wpList P ops Q rest (a.put o.dst v') w') :
    wpList P ops Q (o :: rest) a w := by
  refine wpList_plain hgd fun K hK => ?_
  obtain ⟨v', w', hrun, h2, h3, h4⟩ := run_app E o.type base v n xs hown B A m c news hr h1 h63 hby hbase
  unfold Oper.wp execOp
  simp only [ho, resolve, invoke, builtin, Sem.run_bind, Sem.run_pure, Result.andThen_ok, List.map_toArray, List.map_cons, List.map_nil, hs, hx, hrun]
  exact hK _ _ (h v' w' ⟨h2, h3, fun k hk => by rcases h4 with h4 | h4 <;> rw [h4] at hk <;> first | exact .inl hk | (injection hk; omega)⟩)
/-- '[]T{}': a row of its own, empty. -/
theorem wpList_build0 (E : El P t e bytes z) (hgd : o.guard = none) (ho : o.op = .buildSlice t 0 #[]) (base : Nat) (hbase : base ≤ w.heap.size)
    (h : ∀ v' w', Onto w w' base e (.slice none 0 0) v' 0 [] → wpList P ops Q rest (a.put o.dst v') w') : wpList P ops Q (o :: rest) a w := by
  refine wpList_plain hgd fun K hK => ?_
  have hb0 := run_build0 (w := w) E
  unfold Oper.wp execOp
  simp only [ho, List.map_toArray, List.map_nil, Sem.run_bind, Sem.run_pure, Result.andThen_ok, hb0, Oper.upon]
  exact hK _ _ (h _ _ ⟨World.ownsRow_made w #[] 0 hbase (Nat.zero_le _) rfl, World.grownBy_alloc w _ _, fun k hk => by simp [Value.ownBlock] at hk; exact .inr (by omega)⟩)
/-- 'append(s, x)' of one element: the two operations at once. -/
theorem wpList_push (E : El P t e bytes z) (hg1 : o1.guard = none) (hg2 : o2.guard = none) (s x : Operand) (d : Nat) (hd : o1.dst = some d) (ho1 : o1.op = .buildSlice t 1 #[(0, x)])
    (ho2 : o2.op = .call { callee := .builtin .append, args := #[s, .tmp d], argTypes := #[t, t] })
    (base : Nat) (v : Value) (n : Nat) (xs : List Value) (u : Value) (hx : a.eval x = u) (h1 : u.oneCell' = true)
    (hs : (a.put (some d) (.slice (some ⟨w.heap.size, 0, none⟩) 1 1)).eval s = v) (hdv : (a.put (some d) (.slice (some ⟨w.heap.size, 0, none⟩) 1 1)).eval (.tmp d) = .slice (some ⟨w.heap.size, 0, none⟩) 1 1)
    (hown : w.ownsRow base e 1 v n xs) (h63 : n + 1 ≤ maxLen) (hby : (n + 1) * bytes ≤ 140737488355328) (hbase : base ≤ w.heap.size)
    (h : ∀ v' w', Onto w w' base e v v' (n + 1) (xs ++ [u]) →
      wpList P ops Q rest ((a.put (some d) (.slice (some ⟨w.heap.size, 0, none⟩) 1 1)).put o2.dst v') w') :
    wpList P ops Q (o1 :: o2 :: rest) a w := by
  refine wpList_plain hg1 fun K hK => ?_
  have hb1 := run_build1 (w := w) E u h1
  unfold Oper.wp execOp
  simp only [ho1, List.map_toArray, List.map_cons, List.map_nil, hx, Sem.run_bind, Sem.run_pure, Result.andThen_ok, hb1, Oper.upon, hd]
  refine hK _ _ ?_
  refine wpList_app E hg2 s (.tmp d) ho2 base v n xs hs (hown.alloc _) (w.heap.size + 1) (some ⟨w.heap.size, 0, none⟩) 1 1 [u] hdv ?_ (by simpa using h1) h63 hby (by simp; omega) fun v' w' g1 => ?_
  · refine ⟨rfl, fun _ => ⟨w.heap.size, 0, rfl, by omega, fun i hi => ?_⟩⟩
    obtain rfl : i = 0 := by omega
    simp
  · refine h v' w' ⟨g1.1, (World.grownBy_alloc w _ v.ownBlock).trans g1.2.1, fun k hk => ?_⟩
    rcases g1.2.2 k hk with h1 | h1
    · exact .inl h1
    · simp at h1; exact .inr (by omega)
end
end
end Go.Proofs.Ytjkenhkoakaaoaa
