/- Words for slices of elements of several cells: append and push onto a row that the call made itself. Plain theorems over any program. -/
import Derived.Test.YtjkenhkoakaaoaaMem2
import Derived.Great.BuildSlice
namespace Go.Proofs.Ytjkenhkoakaaoaa
open Go.RowKit
set_option linter.unusedVariables false
/-- What the walk needs to know of a slice type t with elements e of 'size' cells. -/
structure ElN (P : Program) (t e size bytes : Nat) : Prop where
  ht : P.underlying t = some (.slice e)
  hi : ∃ i z, P.info? e = some i ∧ i.zero = some z ∧ i.size = size ∧ i.bytes = bytes ∧ z.cells.size = size
  hs : 0 < size ∧ size ≤ 1000
/-- A slice of elements of 'size' cells reads as the cells xs, and lies in a block that p allows. -/
def RdN (w : World) (p : Nat → Prop) (size : Nat) (A : Option Addr) (n : Nat) (xs : List Value) : Prop :=
  xs.length = n * size ∧ (0 < n → ∃ g off, A = some ⟨g, off, none⟩ ∧ p g ∧ ∀ i, i < n * size → w.cell? ⟨g, off + i, none⟩ = xs[i]?)
def OntoN (w w' : World) (base e size : Nat) (s v' : Value) (n : Nat) (xs : List Value) : Prop :=
  w'.ownsRow base e size v' n xs ∧ w.grownBy w' s.ownBlock ∧ ∀ k, v'.ownBlock = some k → s.ownBlock = some k ∨ w.heap.size ≤ k
section
variable {w w' w1 w2 : World} {base e size n n1 n2 : Nat} {s v1 v2 : Value} {xs xs1 xs2 : List Value} {p q : Nat → Prop} {A : Option Addr}
theorem RdN.nil : RdN w p size A 0 [] := ⟨by simp, fun h => absurd h (by omega)⟩
theorem RdN.imp (h : RdN w p size A n xs) (hq : ∀ g, p g → q g) : RdN w q size A n xs :=
  ⟨h.1, fun hn => let ⟨g, off, e, hb, hc⟩ := h.2 hn; ⟨g, off, e, hq g hb, hc⟩⟩
theorem RdN.keep (h : RdN w p size A n xs) (hk : ∀ a : Addr, p a.block → w'.cell? a = w.cell? a) : RdN w' p size A n xs :=
  ⟨h.1, fun hn => let ⟨g, off, e, hb, hc⟩ := h.2 hn; ⟨g, off, e, hb, fun i hi => (hk ⟨g, off + i, none⟩ hb).trans (hc i hi)⟩⟩
theorem Rd.toN {B : Nat} (h : Rd w B A n xs) : RdN w (· < B) 1 A n xs := ⟨by rw [h.1]; omega, fun hn => let ⟨g, off, e, hb, hc⟩ := h.2 hn; ⟨g, off, e, hb, fun i hi => hc i (by omega)⟩⟩
theorem RdN.toRd {B : Nat} (h : RdN w p 1 A n xs) (hp : ∀ g, p g → g < B) : Rd w B A n xs := ⟨by rw [h.1]; omega, fun hn => let ⟨g, off, e, hb, hc⟩ := h.2 hn; ⟨g, off, e, hp g hb, fun i hi => hc i (by omega)⟩⟩
theorem OntoN.refl (h : w.ownsRow base e size s n xs) : OntoN w w base e size s s n xs := ⟨h, World.grownBy.refl w _, fun _ h => .inl h⟩
theorem OntoN.nil (w : World) (base e size : Nat) : OntoN w w base e size (.slice none 0 0) (.slice none 0 0) 0 [] := .refl (World.ownsRow_nil w base e size)
theorem OntoN.trans (h : OntoN w w1 base e size s v1 n1 xs1) (g : OntoN w1 w2 base e size v1 v2 n2 xs2) : OntoN w w2 base e size s v2 n2 xs2 := by
  obtain ⟨_, hg, hl⟩ := h
  obtain ⟨ho, gg, gl⟩ := g
  refine ⟨ho, ⟨gg.os.trans hg.os, gg.tape.trans hg.tape, gg.output.trans hg.output, Nat.le_trans hg.size gg.size, fun k hk hne => ?_⟩, fun k hk => ?_⟩
  · refine (gg.block k (Nat.lt_of_lt_of_le hk hg.size) fun he => ?_).trans (hg.block k hk hne)
    rcases hl k he.symm with h1 | h1
    · exact hne h1.symm
    · omega
  · rcases gl k hk with h1 | h1
    · exact hl k h1
    · exact .inr (Nat.le_trans hg.size h1)
theorem OntoN.below {B : Nat} (h : OntoN w w1 base e size s v1 n1 xs1) (hs : ∀ k, s.ownBlock = some k → B ≤ k) (hB : B ≤ w.heap.size) : Below B w w1 :=
  (Below.refl B w).grown h.2.1 hB hs
theorem OntoN.own (h : OntoN w w1 base e size s v1 n1 xs1) : w1.ownsRow base e size v1 n1 xs1 := h.1
theorem OntoN.grows (h : OntoN w w1 base e size s v1 n1 xs1) : w.heap.size ≤ w1.heap.size := h.2.1.size
/-- The value of an owned row is a slice of its length. -/
theorem ownN_form {v : Value} (h : w.ownsRow base e size v n xs) : ∃ A c, v = .slice A n c ∧ n ≤ c ∧ c ≤ maxLen := by
  rcases h.2 with ⟨hv, h0⟩ | ⟨g, cap, cur, hv, _, hg, hnc, hm, hcs, htake⟩
  · subst h0; exact ⟨none, 0, hv, Nat.le_refl _, Nat.zero_le _⟩
  · exact ⟨_, cap, hv, hnc, hm⟩
theorem RdN.of_own {c : Nat} (h : w.ownsRow base e size (.slice A n c) n xs) : RdN w (fun g => g < w.heap.size ∧ (Value.slice A n c).ownBlock = some g) size A n xs := by
  refine ⟨h.1, fun hn => ?_⟩
  rcases h.2 with ⟨hv, h0⟩ | ⟨g, cap, cur, hv, _, hg, hnc, _, hcs, htake⟩
  · omega
  · injection hv with hA hn' hc
    subst hA
    refine ⟨g, 0, rfl, ⟨(Array.getElem?_eq_some_iff.1 hg).1, rfl⟩, fun i hi => ?_⟩
    rw [cell_of_row w g (0 + i) cur e (0, 0) hg, ← htake, List.getElem?_take, if_pos hi]
    simp
end
theorem fill_fold (cs : List Value) : ∀ (k : Nat) (zs : Array Value) (i : Nat), (((cs.zipIdx k).foldl (fun (cs : Array Value) (x : Value × Nat) => cs.setIfInBounds x.2 x.1) zs)[i]? = if k ≤ i ∧ i < k + cs.length ∧ i < zs.size then cs[i - k]? else zs[i]?) := by
  induction cs with
  | nil => intro k zs i; simp; intro h1 h2; omega
  | cons c r ih =>
    intro k zs i
    rw [List.zipIdx_cons, List.foldl_cons, ih]
    simp only [Array.size_setIfInBounds, List.length_cons]
    by_cases h1 : k + 1 ≤ i ∧ i < k + 1 + r.length ∧ i < zs.size
    · rw [if_pos h1, if_pos (by omega), show i - k = (i - (k + 1)) + 1 by omega, List.getElem?_cons_succ]
    · rw [if_neg h1, Array.getElem?_setIfInBounds]
      by_cases h2 : k = i
      · subst h2
        by_cases h3 : k < zs.size
        · rw [if_pos rfl, if_pos h3, if_pos ⟨Nat.le_refl _, by omega, h3⟩]; simp
        · rw [if_pos rfl, if_neg h3, if_neg (by omega), Array.getElem?_eq_none (by omega)]
      · rw [if_neg h2, if_neg (by omega)]
section
variable {P : Program} {w : World} {t e size bytes : Nat}
theorem fill_one (cells zs : Array Value) (hz : zs.size = cells.size) : Instr.fill (fun i => some (i * cells.size, cells.size)) zs [(0, .agg cells)] = some cells := by
  simp only [Instr.fill, Value.cells, Nat.zero_mul, Nat.zero_add, hz]
  rw [if_neg (by simp)]
  congr 1
  rw [← Array.foldl_toList, Array.toList_zipIdx]
  apply Array.ext_getElem?
  intro i
  rw [fill_fold]
  by_cases h : i < cells.size
  · rw [if_pos ⟨Nat.zero_le _, by simpa using h, by omega⟩]; simp
  · rw [if_neg (by omega), Array.getElem?_eq_none (by omega), Array.getElem?_eq_none (by omega)]
theorem run_build1N (E : ElN P t e size bytes) (cells : Array Value) (h1 : cells.size = size) : (Instr.buildSlice t 1 #[(0, .agg cells)]).run P w = .ok (.slice (some ⟨w.heap.size, 0, none⟩) 1 1) (w.alloc (.cells cells e)) := by
  obtain ⟨i, z, hi, hz, hs, hb, hzs⟩ := E.hi
  have h2 := E.hs
  refine run_buildSlice w t e 1 _ cells i z E.ht hi hz (by rw [hs]; omega) (by rw [hs]; omega) ?_
  rw [hs, ← h1]
  exact fill_one cells _ (by simp)
theorem run_appN (E : ElN P t e size bytes) (ty base : Nat) (v : Value) (n : Nat) (xs : List Value) (hown : w.ownsRow base e size v n xs) (p : Nat → Prop) (A : Option Addr) (m c : Nat) (news : List Value)
    (hr : RdN w p size A m news) (h1 : ∀ u ∈ news, u.oneCell' = true) (h63 : n + m ≤ maxLen) (hby : (n + m) * bytes ≤ 140737488355328) (hbase : base ≤ w.heap.size) :
    ∃ v' w', (Builtin.append_ #[t, t] ty #[v, .slice A m c]).run P w = .ok v' w' ∧ OntoN w w' base e size v v' (n + m) (xs ++ news) := by
  obtain ⟨i, z, hi, hz, hs, hb, hzs⟩ := E.hi
  rcases A with _ | ad
  · have hm : m = 0 := by
      rcases Nat.eq_zero_or_pos m with h0 | h0
      · exact h0
      · obtain ⟨_, _, h, _⟩ := hr.2 h0; cases h
    subst hm
    have hn : news = [] := List.eq_nil_of_length_eq_zero (by simpa using hr.1)
    subst hn
    refine ⟨v, w, ?_, by simpa using OntoN.refl hown⟩
    rcases hown.2 with ⟨rfl, rfl⟩ | ⟨g, cap, cur, rfl, _, _, hnc, _⟩
    · simp [Builtin.append_, run_underlying E.ht, sizeOf, typeInfo, hi, Builtin.lenOf, Builtin.firstCells]
    · simp [Builtin.append_, run_underlying E.ht, sizeOf, typeInfo, hi, Builtin.lenOf, Builtin.firstCells, hnc, storeCells]
  · have hcells : ∀ j u, news[j]? = some u → w.cell? (ad.add j) = some u := by
      intro j u hu
      have hj : j < m * size := by have := (List.getElem?_eq_some_iff.1 hu).1; have := hr.1; omega
      have hm : 0 < m := by rcases Nat.eq_zero_or_pos m with h | h; (subst h; omega); exact h
      obtain ⟨g, off, he, _, hc⟩ := hr.2 hm
      injection he with he
      subst he
      have : (⟨g, off, none⟩ : Addr).add j = ⟨g, off + j, none⟩ := by unfold Addr.add; split <;> simp_all
      rw [this, hc j hj, hu]
    obtain ⟨v', w', hrun, h2, h3, _, h5⟩ := run_append_own_at (P := P) w base t ty e i z size bytes E.ht hi hz hs hb hzs E.hs.1 v n xs hown ad m c news hr.1 hcells h1 h63 hby hbase
    exact ⟨v', w', hrun, h2, h3, fun k hk => by rcases h5 with h4 | h4 <;> rw [h4] at hk <;> first | exact .inl hk | (injection hk; omega)⟩
section
variable {ops : Array Oper} {rest : List Oper} {o o1 o2 : Oper} {a : Act} {Q : Exit → Act → World → Prop}
theorem wpList_appN (E : ElN P t e size bytes) (hgd : o.guard = none) (s x : Operand) (ho : o.op = .call { callee := .builtin .append, args := #[s, x], argTypes := #[t, t] })
    (base : Nat) (v : Value) (n : Nat) (xs : List Value) (hs : a.eval s = v) (hown : w.ownsRow base e size v n xs) (p : Nat → Prop) (A : Option Addr) (m c : Nat) (news : List Value) (hx : a.eval x = .slice A m c)
    (hr : RdN w p size A m news) (h1 : ∀ u ∈ news, u.oneCell' = true) (h63 : n + m ≤ maxLen) (hby : (n + m) * bytes ≤ 140737488355328) (hbase : base ≤ w.heap.size)
    (h : ∀ v' w', OntoN w w' base e size v v' (n + m) (xs ++ news) → wpList P ops Q rest (a.put o.dst v') w') :
    wpList P ops Q (o :: rest) a w := by
  refine wpList_plain hgd fun K hK => ?_
  obtain ⟨v', w', hrun, h2⟩ := run_appN E o.type base v n xs hown p A m c news hr h1 h63 hby hbase
  unfold Oper.wp execOp
  simp only [ho, resolve, invoke, builtin, Sem.run_bind, Sem.run_pure, Result.andThen_ok, List.map_toArray, List.map_cons, List.map_nil, hs, hx, hrun]
  exact hK _ _ (h v' w' h2)
/-- 'append(s, x)', x a value of several cells. -/
theorem wpList_pushN (E : ElN P t e size bytes) (hg1 : o1.guard = none) (hg2 : o2.guard = none) (s x : Operand) (d : Nat) (hd : o1.dst = some d) (ho1 : o1.op = .buildSlice t 1 #[(0, x)])
    (ho2 : o2.op = .call { callee := .builtin .append, args := #[s, .tmp d], argTypes := #[t, t] })
    (base : Nat) (v : Value) (n : Nat) (xs : List Value) (us : List Value) (hx : a.eval x = .agg us.toArray) (hus : us.length = size) (h1 : ∀ u ∈ us, u.oneCell' = true)
    (hs : (a.put (some d) (.slice (some ⟨w.heap.size, 0, none⟩) 1 1)).eval s = v) (hdv : (a.put (some d) (.slice (some ⟨w.heap.size, 0, none⟩) 1 1)).eval (.tmp d) = .slice (some ⟨w.heap.size, 0, none⟩) 1 1)
    (hown : w.ownsRow base e size v n xs) (h63 : n + 1 ≤ maxLen) (hby : (n + 1) * bytes ≤ 140737488355328) (hbase : base ≤ w.heap.size)
    (h : ∀ v' w', OntoN w w' base e size v v' (n + 1) (xs ++ us) →
      wpList P ops Q rest ((a.put (some d) (.slice (some ⟨w.heap.size, 0, none⟩) 1 1)).put o2.dst v') w') :
    wpList P ops Q (o1 :: o2 :: rest) a w := by
  refine wpList_plain hg1 fun K hK => ?_
  have hb1 := run_build1N (w := w) E us.toArray (by simpa using hus)
  unfold Oper.wp execOp
  simp only [ho1, List.map_toArray, List.map_cons, List.map_nil, hx, Sem.run_bind, Sem.run_pure, Result.andThen_ok, hb1, Oper.upon, hd]
  refine hK _ _ ?_
  refine wpList_appN E hg2 s (.tmp d) ho2 base v n xs hs (hown.alloc _) (· < w.heap.size + 1) (some ⟨w.heap.size, 0, none⟩) 1 1 us hdv ?_ h1 h63 hby (by simp; omega) fun v' w' g1 => ?_
  · refine ⟨by omega, fun _ => ⟨w.heap.size, 0, rfl, by omega, fun i hi => ?_⟩⟩
    simp
  · refine h v' w' ⟨g1.1, (World.grownBy_alloc w _ v.ownBlock).trans g1.2.1, fun k hk => ?_⟩
    rcases g1.2.2 k hk with h1 | h1
    · exact .inl h1
    · simp at h1; exact .inr (by omega)
end
end
end Go.Proofs.Ytjkenhkoakaaoaa
