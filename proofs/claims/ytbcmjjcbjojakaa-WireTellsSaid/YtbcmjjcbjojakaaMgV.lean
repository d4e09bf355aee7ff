/- Put together of: Snap ApartP Bag ApartB AsksWalk TellsWalk. -/
import Derived.Test.YtbcmjjcbjojakaaMemN
import Derived.Maps.AppendAt
import Derived.Test.YtbcmjjcbjojakaaChg
import Derived.Test.YtbcmjjcbjojakaaPutsL
import Derived.Test.YtbcmjjcbjojakaaBoxes
import Derived.Test.YtbcmjjcbjojakaaAskR
import Derived.Test.YtbcmjjcbjojakaaMgU
import Derived.Test.YtbcmjjcbjojakaaTellC
section
/- Append onto a row of one's own, saying what else stands: in its own block, or in a new one with every old block as it was. Plain theorems over any program. -/
namespace Go.Proofs.Ytbcmjjcbjojakaa
open Go.RowKit
set_option linter.unusedVariables false
/-- A row grown: in place, or in a block that is new (then no old block changed). -/
def OntoS (w w' : World) (base e : Nat) (s v' : Value) (n : Nat) (xs : List Value) : Prop :=
  w'.ownsRow base e 1 v' n xs ∧ w.grownBy w' s.ownBlock ∧ (v'.ownBlock = s.ownBlock ∨ (v'.ownBlock = some w.heap.size ∧ ∀ k, k < w.heap.size → w'.heap[k]? = w.heap[k]?))
section
variable {P : Program} {w w' : World} {base e : Nat} {s v' : Value} {n : Nat} {xs : List Value}
theorem OntoS.own (h : OntoS w w' base e s v' n xs) : w'.ownsRow base e 1 v' n xs := h.1
theorem OntoS.size (h : OntoS w w' base e s v' n xs) : w.heap.size ≤ w'.heap.size := h.2.1.size
theorem OntoS.below {B : Nat} (h : OntoS w w' base e s v' n xs) (hs : ∀ k, s.ownBlock = some k → B ≤ k) (hB : B ≤ w.heap.size) : Below B w w' := (Below.refl B w).grown h.2.1 hB hs
/-- A block that is not the row's stands. -/
theorem OntoS.block (h : OntoS w w' base e s v' n xs) {g : Nat} (hg : g < w.heap.size) (hne : s.ownBlock ≠ some g) : w'.heap[g]? = w.heap[g]? := h.2.1.block g hg fun e => hne e.symm
/-- A reading of the row's first cells stands too. -/
theorem OntoS.cell (h : OntoS w w' base e s v' n xs) {ys : List Value} {m : Nat} (hs : w.ownsRow base e 1 s m ys) (hp : ∀ (j : Nat) (u : Value), ys[j]? = some u → xs[j]? = some u) {g : Nat} (hg : s.ownBlock = some g) {j : Nat} {u : Value} (hj : ys[j]? = some u) : w'.cell? ⟨g, j, none⟩ = some u := by
  have hc : w.cell? ⟨g, j, none⟩ = some u := by
    rcases hs.2 with ⟨hv, h0⟩ | ⟨g', cap, cur, hv, hb, hgc, hnc, hm, hcs, htake⟩
    · subst hv; cases hg
    · subst hv
      injection hg with hg
      subst hg
      have := World.ownsRow.cells hs (g := g') rfl j u hj
      rwa [show (⟨g', 0, none⟩ : Addr).add j = ⟨g', j, none⟩ by unfold Addr.add; split <;> simp_all] at this
  rcases h.2.2 with e | ⟨e, hall⟩
  · have hxj := hp j u hj
    have hv' := e.trans hg
    rcases h.1.2 with ⟨hv, h0⟩ | ⟨g', cap, cur, hv, hb, hgc, hnc, hm, hcs, htake⟩
    · subst hv; cases hv'
    · subst hv
      injection hv' with hv'
      subst hv'
      have := World.ownsRow.cells h.1 (g := g') rfl j u hxj
      rwa [show (⟨g', 0, none⟩ : Addr).add j = ⟨g', j, none⟩ by unfold Addr.add; split <;> simp_all] at this
  · have hlt : g < w.heap.size := (hs.lt g hg).2
    rw [World.cell?_of_block (a := ⟨g, j, none⟩) (hall g hlt)]
    exact hc
variable {t bytes : Nat} {z : Value}
theorem run_appS (E : El P t e bytes z) (ty : Nat) (v : Value) (n : Nat) (xs : List Value) (hown : w.ownsRow base e 1 v n xs) (a : Addr) (m c : Nat) (news : List Value) (hl : news.length = m) (hnews : ∀ j u, news[j]? = some u → w.cell? (a.add j) = some u) (h1 : ∀ u ∈ news, u.oneCell' = true)
    (h63 : n + m ≤ maxLen) (hbytes : (n + m) * bytes ≤ 140737488355328) (hbase : base ≤ w.heap.size) :
    ∃ v' w', (Builtin.append_ #[t, t] ty #[v, .slice (some a) m c]).run P w = .ok v' w' ∧ OntoS w w' base e v v' (n + m) (xs ++ news) := by
  obtain ⟨i, hi, hz, hs, hb⟩ := E.hi
  obtain ⟨v', w', hr, h2, h3, _, h5⟩ := run_append_own_at (P := P) w base t ty e i z 1 bytes E.ht hi hz hs hb E.hz (by omega) v n xs hown a m c news (by omega) hnews h1 h63 hbytes hbase
  refine ⟨v', w', hr, h2, h3, ?_⟩
  rcases h5 with h5 | h5
  · exact .inl h5
  rcases hown.2 with ⟨hv, h0⟩ | ⟨g, cap, cur, hv, hbg, hg, hnc, hcm, hcs, htake⟩
  · exact .inr ⟨h5, fun k hk => h3.block k hk (by rw [hv]; simp [Value.ownBlock])⟩
  · subst hv
    by_cases hroom : n + m ≤ cap
    · left
      have hr2 := run_append_room (P := P) w t ty e i E.ht hi g n cap cur hg a m c news (by rw [hs]; omega) hnews h1 hroom (by rw [hs]; omega)
      rw [hr] at hr2
      injection hr2 with e1 _
      subst e1
      rfl
    · refine .inr ⟨h5, ?_⟩
      have holds : ∀ j u, xs[j]? = some u → w.cell? ((⟨g, 0, none⟩ : Addr).add j) = some u := World.ownsRow.cells hown (g := g) rfl
      have hx := hown.1
      have hr2 := run_append_grow (P := P) w t ty e i z E.ht hi hz ⟨g, 0, none⟩ n cap xs (by rw [hs]; exact hx) holds a m c news (by rw [hs]; omega) hnews (by omega) (by unfold maxLen at h63; omega) (growslice_fits (by omega) (by rw [hb]; exact hbytes))
      rw [hr] at hr2
      injection hr2 with _ e2
      subst e2
      intro k hk
      exact heap_alloc_old w.drew _ hk
/-- Elements of several cells: 'append(s, x)' where '[]T{x}' lies built; what else stands. -/
def OntoSN (w w' : World) (base e size : Nat) (s v' : Value) (n : Nat) (xs : List Value) : Prop :=
  w'.ownsRow base e size v' n xs ∧ w.grownBy w' s.ownBlock ∧ (v'.ownBlock = s.ownBlock ∨ (v'.ownBlock = some w.heap.size ∧ ∀ k, k < w.heap.size → w'.heap[k]? = w.heap[k]?))
theorem run_appSN {size : Nat} (E : ElN P t e size bytes) (ty : Nat) (v : Value) (n : Nat) (xs : List Value) (hown : w.ownsRow base e size v n xs) (a : Addr) (m c : Nat) (news : List Value) (hl : news.length = m * size) (hnews : ∀ j u, news[j]? = some u → w.cell? (a.add j) = some u) (h1 : ∀ u ∈ news, u.oneCell' = true)
    (h63 : n + m ≤ maxLen) (hbytes : (n + m) * bytes ≤ 140737488355328) (hbase : base ≤ w.heap.size) :
    ∃ v' w', (Builtin.append_ #[t, t] ty #[v, .slice (some a) m c]).run P w = .ok v' w' ∧ OntoSN w w' base e size v v' (n + m) (xs ++ news) := by
  obtain ⟨i, z, hi, hz, hs, hb, hzs⟩ := E.hi
  obtain ⟨v', w', hr, h2, h3, _, h5⟩ := run_append_own_at (P := P) w base t ty e i z size bytes E.ht hi hz hs hb hzs E.hs.1 v n xs hown a m c news hl hnews h1 h63 hbytes hbase
  refine ⟨v', w', hr, h2, h3, ?_⟩
  rcases h5 with h5 | h5
  · exact .inl h5
  rcases hown.2 with ⟨hv, h0⟩ | ⟨g, cap, cur, hv, hbg, hg, hnc, hcm, hcs, htake⟩
  · exact .inr ⟨h5, fun k hk => h3.block k hk (by rw [hv]; simp [Value.ownBlock])⟩
  · subst hv
    by_cases hroom : n + m ≤ cap
    · left
      have hr2 := run_append_room (P := P) w t ty e i E.ht hi g n cap cur hg a m c news (by rw [hs]; exact hl) hnews h1 hroom (by rw [hs, hl, hcs, ← Nat.add_mul]; exact Nat.mul_le_mul_right _ hroom)
      rw [hr] at hr2
      injection hr2 with e1 _
      subst e1
      rfl
    · refine .inr ⟨h5, ?_⟩
      have holds : ∀ j u, xs[j]? = some u → w.cell? ((⟨g, 0, none⟩ : Addr).add j) = some u := World.ownsRow.cells hown (g := g) rfl
      have hr2 := run_append_grow (P := P) w t ty e i z E.ht hi hz ⟨g, 0, none⟩ n cap xs (by rw [hs]; exact hown.1) holds a m c news (by rw [hs]; exact hl) hnews (by omega) (by unfold maxLen at h63; omega) (growslice_fits (by omega) (by rw [hb]; exact hbytes))
      rw [hr] at hr2
      injection hr2 with _ e2
      subst e2
      intro k hk
      exact heap_alloc_old w.drew _ hk
theorem pushSN_at0 {size : Nat} {ops : Array Oper} {rest : List Oper} {o : Oper} {a : Act} {w0 : World} {Q : Exit → Act → World → Prop} (E : ElN P t e size bytes) (hgd : o.guard = none) (s x : Operand) (ho : o.op = .call { callee := .builtin .append, args := #[s, x], argTypes := #[t, t] })
    (base : Nat) (v : Value) (n : Nat) (xs us : List Value) (hs : a.eval s = v) (N : Nat) (hN : w0.heap.size = N) (hx : a.eval x = .slice (some ⟨N, 0, none⟩) 1 1) (hus : us.length = size) (h1 : ∀ u ∈ us, u.oneCell' = true) (hown : w0.ownsRow base e size v n xs)
    (h63 : n + 1 ≤ maxLen) (hby : (n + 1) * bytes ≤ 140737488355328) (hbase : base ≤ w0.heap.size)
    (h : ∀ v' w', OntoSN (w0.alloc (.cells us.toArray e)) w' base e size v v' (n + 1) (xs ++ us) → wpList P ops Q rest (a.put o.dst v') w') :
    wpList P ops Q (o :: rest) a (w0.alloc (.cells us.toArray e)) := by
  subst hN
  refine wpList_plain hgd fun K hK => ?_
  obtain ⟨v', w', hrun, h2⟩ := run_appSN E o.type v n xs (hown.alloc (.cells us.toArray e)) ⟨w0.heap.size, 0, none⟩ 1 1 us (by omega) (fun j u hj => by
    rw [show (⟨w0.heap.size, 0, none⟩ : Addr).add j = ⟨w0.heap.size, j, none⟩ by unfold Addr.add; split <;> simp_all, cell_of_row _ _ _ _ _ _ (heap_alloc_new w0 _)]
    simpa using hj) h1 h63 hby (by simp; omega)
  unfold Oper.wp execOp
  simp only [ho, resolve, invoke, builtin, Sem.run_bind, Sem.run_pure, Result.andThen_ok, List.map_toArray, List.map_cons, List.map_nil, hs, hx, hrun]
  exact hK _ _ (h v' w' h2)
end
end Go.Proofs.Ytbcmjjcbjojakaa
end
section
/- Lists of lists that are written full, then grown, then looked at. Plain theorems over any program. -/
namespace Go.Proofs.Ytbcmjjcbjojakaa
open Go.RowKit
set_option linter.unusedVariables false
theorem own_set1 {w : World} {base e g n cap j : Nat} {xs : List Value} {u : Value} (h : w.ownsRow base e 1 (.slice (some ⟨g, 0, none⟩) n cap) n xs) (hj : j < n) : (w.setCell ⟨g, j, none⟩ u).ownsRow base e 1 (.slice (some ⟨g, 0, none⟩) n cap) n (xs.set j u) := by
  obtain ⟨hlen, h2⟩ := h
  rcases h2 with ⟨hv, h0⟩ | ⟨g', cap', cur, hv, hb, hg, hnc, hm, hcs, htake⟩
  · omega
  · cases hv
    refine ⟨by simpa using hlen, .inr ⟨g, cap, cur.setIfInBounds j u, rfl, hb, ?_, hnc, hm, by simpa using hcs, ?_⟩⟩
    · simp [World.setCell, Array.getElem?_modify, hg]
    · rw [← htake, Array.toList_setIfInBounds, List.take_set]
/-- The blocks of some rows. -/
def ablk (us : List Value) : List Nat := us.filterMap Value.ownBlock
theorem blk_mem {us : List Value} {i k : Nat} {u : Value} (h : us[i]? = some u) (hk : u.ownBlock = some k) : k ∈ ablk us :=
  List.mem_filterMap.2 ⟨u, List.mem_of_getElem? h, hk⟩
/-- Lists, each in memory of its own, written over as far as D says. -/
structure Fil (w : World) (base E e : Nat) (v : Value) (us : List Value) (n : Nat → Nat) (F : Nat → Nat → Value) (D : Nat → Nat → Prop) : Prop where
  out : w.ownsRow base E 1 v us.length us
  row : ∀ (i : Nat) (u : Value), us[i]? = some u → ∃ xs, w.ownsRow base e 1 u (n i) xs ∧ ∀ t, t < n i → D i t → xs[t]? = some (F i t)
  apart : ∀ (i j : Nat) (u u' : Value), us[i]? = some u → us[j]? = some u' → i ≠ j → Apart u u'
  off : ∀ (i : Nat) (u : Value), us[i]? = some u → Apart v u
theorem Apart.ne {v u : Value} {g : Nat} (h : Apart v u) (hu : u.ownBlock = some g) : v.ownBlock ≠ some g := fun e => h g e hu
section
variable {w w' w0 : World} {base E e : Nat} {v : Value} {us : List Value} {n : Nat → Nat} {F : Nat → Nat → Value} {D D' : Nat → Nat → Prop}
theorem Fil.imp (H : Fil w base E e v us n F D) (h : ∀ k s, s < n k → D' k s → D k s) : Fil w base E e v us n F D' :=
  ⟨H.out, fun i u hu => let ⟨xs, h1, h2⟩ := H.row i u hu; ⟨xs, h1, fun t ht hd => h2 t ht (h i t ht hd)⟩, H.apart, H.off⟩
theorem own_keepC {w w' : World} {base e size n g : Nat} {v : Value} {xs : List Value} (h : w.ownsRow base e size v n xs) (hg : w.grownBy w' (some g)) (hne : v.ownBlock ≠ some g) : w'.ownsRow base e size v n xs :=
  h.kept hg (by
    cases hv : v.ownBlock with
    | none => exact .inl rfl
    | some k => exact .inr fun e => hne (by rw [hv, e]))
theorem grown_set1 (w : World) (g i : Nat) (u : Value) : w.grownBy (w.setCell ⟨g, i, none⟩ u) (some g) :=
  ⟨rfl, rfl, rfl, by simp [World.setCell], fun k hk hne => Below.heap_setCell _ _ _ _ (fun e => hne (by rw [e]))⟩
theorem Fil.set (H : Fil w base E e v us n F D) {i t g c : Nat} (hu : us[i]? = some (.slice (some ⟨g, 0, none⟩) (n i) c)) (ht : t < n i) (hD : ∀ k s, D' k s → D k s ∨ (k = i ∧ s = t)) :
    Fil (w.setCell ⟨g, t, none⟩ (F i t)) base E e v us n F D' := by
  have hg := grown_set1 w g t (F i t)
  refine ⟨own_keepC H.out hg ((H.off i _ hu).ne rfl), fun k u hk => ?_, H.apart, H.off⟩
  by_cases hki : k = i
  · subst hki
    rw [hu] at hk; cases hk
    obtain ⟨xs, h1, h2⟩ := H.row k _ hu
    refine ⟨xs.set t (F k t), own_set1 h1 ht, fun s hs hd => ?_⟩
    have hl : xs.length = n k := by simpa using h1.1
    rw [List.getElem?_set]
    by_cases hst : t = s
    · subst hst; rw [if_pos rfl, if_pos (by omega)]
    · rw [if_neg hst]
      rcases hD k s hd with h | ⟨_, h⟩
      · exact h2 s hs h
      · exact absurd h.symm hst
  · obtain ⟨xs, h1, h2⟩ := H.row k u hk
    refine ⟨xs, own_keepC h1 hg ((H.apart k i u _ hk hu hki).ne rfl), fun s hs hd => ?_⟩
    rcases hD k s hd with h | ⟨h, _⟩
    · exact h2 s hs h
    · exact absurd h hki
theorem Fil.below {B : Nat} (H : Fil w base E e v us n F D) (b : Below w.heap.size w w') : Fil w' base E e v us n F D :=
  have k : ∀ {e' m : Nat} {u : Value} {xs : List Value}, w.ownsRow base e' 1 u m xs → w'.ownsRow base e' 1 u m xs := fun h => ⟨h.1, h.2.imp id fun ⟨g, cap, cur, hv, hg, hh, r⟩ => ⟨g, cap, cur, hv, hg, by rw [b.block g (Array.getElem?_eq_some_iff.1 hh).1]; exact hh, r⟩⟩
  ⟨k H.out, fun i u hu => let ⟨xs, h1, h2⟩ := H.row i u hu; ⟨xs, k h1, h2⟩, H.apart, H.off⟩
end
/-- The first cells of what a row is grown to. -/
def cellsF (f : Nat → Value) (m : Nat) : List Value := (List.range m).map f
theorem cellsF_len (f : Nat → Value) (m : Nat) : (cellsF f m).length = m := by simp [cellsF]
theorem cellsF_get (f : Nat → Value) {m t : Nat} (h : t < m) : (cellsF f m)[t]? = some (f t) := by simp [cellsF, h]
theorem cellsF_snoc (f : Nat → Value) (m : Nat) : cellsF f (m + 1) = cellsF f m ++ [f m] := by unfold cellsF; rw [List.range_succ, List.map_append]; rfl
/-- A slice that reads as the first cells of a row. -/
def SnapOf (w : World) (F : Nat → Nat → Value) (x : Value × Nat × Nat) : Prop :=
  (∃ A c, x.1 = .slice A x.2.2 c ∧ ∀ t, t < x.2.2 → ∃ b, A = some ⟨b, 0, none⟩ ∧ b < w.heap.size ∧ w.cell? ⟨b, t, none⟩ = some (F x.2.1 t)) ∧ ∀ b, x.1.ownBlock = some b → b < w.heap.size
theorem SnapOf.of_own {w : World} {F : Nat → Nat → Value} {base e i p : Nat} {g : Value} (h : w.ownsRow base e 1 g p (cellsF (F i) p)) : SnapOf w F (g, i, p) := by
  obtain ⟨A, c, rfl, _, _⟩ := own_form h
  refine ⟨⟨A, c, rfl, fun t ht => ?_⟩, fun b hb => (h.lt b hb).2⟩
  obtain ⟨g, cap, hv, _, hb⟩ := own_pos h (by simp at ht; omega)
  cases hv
  refine ⟨g, rfl, hb, ?_⟩
  have := World.ownsRow.cells h (g := g) rfl t (F i t) (cellsF_get _ ht)
  rwa [show (⟨g, 0, none⟩ : Addr).add t = ⟨g, t, none⟩ by unfold Addr.add; split <;> simp_all] at this
theorem snapBlock {w : World} {F : Nat → Nat → Value} {x : Value × Nat × Nat} {b : Nat} (h : SnapOf w F x) (hb : x.1.ownBlock = some b) : b < w.heap.size := h.2 b hb
theorem SnapOf.keep {w w' : World} {F : Nat → Nat → Value} {x : Value × Nat × Nat} (h : SnapOf w F x) (hs : w.heap.size ≤ w'.heap.size) (hb : ∀ b, x.1.ownBlock = some b → b < w.heap.size → w'.heap[b]? = w.heap[b]?) : SnapOf w' F x := by
  obtain ⟨⟨A, c, hx, h2⟩, h5⟩ := h
  refine ⟨⟨A, c, hx, fun t ht => ?_⟩, fun b hb => by have := h5 b hb; omega⟩
  obtain ⟨b, rfl, h3, h4⟩ := h2 t ht
  refine ⟨b, rfl, by omega, ?_⟩
  rw [World.cell?_of_block (a := ⟨b, t, none⟩) (hb b (by rw [hx]; rfl) h3)]
  exact h4
/-- Rows of the call's own beside the lists. -/
abbrev Outs := Nat → Value × Nat × List Value
/-- The lists from number i on stand as they are; the ones ahead were grown; what reads them stands. -/
structure Gro (w0 w : World) (base e : Nat) (O : Outs) (us : List Value) (n : Nat → Nat) (F : Nat → Nat → Value) (i : Nat) (S : List (Value × Nat × Nat)) : Prop where
  out : ∀ q, w.ownsRow base (O q).2.1 1 (O q).1 (O q).2.2.length (O q).2.2
  oo : ∀ q q', q ≠ q' → Apart (O q).1 (O q').1
  new : ∀ q, q ≠ 0 → ∀ b, (O q).1.ownBlock = some b → w0.heap.size ≤ b
  rest : ∀ k u, i ≤ k → us[k]? = some u → w.ownsRow base e 1 u (n k) (cellsF (F k) (n k))
  apart : ∀ k j u u', i ≤ k → i ≤ j → us[k]? = some u → us[j]? = some u' → k ≠ j → Apart u u'
  off : ∀ q k u, i ≤ k → us[k]? = some u → Apart (O q).1 u
  snap : ∀ x ∈ S, SnapOf w F x ∧ (∀ q, Apart (O q).1 x.1) ∧ ∀ k u, i ≤ k → us[k]? = some u → Apart x.1 u
  chg : Chg (ablk us) w0 w
/-- The list number i is being grown. -/
structure Cur (w0 w : World) (base e : Nat) (O : Outs) (us : List Value) (n : Nat → Nat) (F : Nat → Nat → Value) (i : Nat) (S : List (Value × Nat × Nat)) (g : Value) (p : Nat) (M : List (Value × Nat × Nat)) : Prop where
  gro : Gro w0 w base e O us n F (i + 1) S
  own : w.ownsRow base e 1 g p (cellsF (F i) p)
  old : ∀ b, g.ownBlock = some b → b ∈ ablk us ∨ w0.heap.size ≤ b
  go : ∀ q, Apart (O q).1 g
  gr : ∀ k u, i + 1 ≤ k → us[k]? = some u → Apart g u
  gs : ∀ x ∈ S, Apart x.1 g
  mine : ∀ x ∈ M, SnapOf w F x ∧ x.2.1 = i ∧ x.2.2 ≤ p ∧ (∀ q, Apart (O q).1 x.1) ∧ ∀ k u, i + 1 ≤ k → us[k]? = some u → Apart x.1 u
section
variable {w0 w w' : World} {base e i p : Nat} {O O' : Outs} {us : List Value} {n : Nat → Nat} {F : Nat → Nat → Value} {S M : List (Value × Nat × Nat)} {g g' u v' y : Value}
theorem own_stay {e m : Nat} {v : Value} {xs : List Value} (h : w.ownsRow base e 1 v m xs) (hb : ∀ b, v.ownBlock = some b → b < w.heap.size → w'.heap[b]? = w.heap[b]?) : w'.ownsRow base e 1 v m xs :=
  ⟨h.1, h.2.imp id fun ⟨g, cap, cur, hv, hg, hh, r⟩ => ⟨g, cap, cur, hv, hg, by rw [hb g (by rw [hv]; rfl) (Array.getElem?_eq_some_iff.1 hh).1]; exact hh, r⟩⟩
/-- A change that leaves all that the state speaks of. -/
theorem Gro.stay (H : Gro w0 w base e O us n F i S) (c : Chg (ablk us) w0 w') (hs : w.heap.size ≤ w'.heap.size) (ho : ∀ q b, (O q).1.ownBlock = some b → b < w.heap.size → w'.heap[b]? = w.heap[b]?)
    (hr : ∀ k u b, i ≤ k → us[k]? = some u → u.ownBlock = some b → b < w.heap.size → w'.heap[b]? = w.heap[b]?) (hS : ∀ x ∈ S, ∀ b, x.1.ownBlock = some b → b < w.heap.size → w'.heap[b]? = w.heap[b]?) : Gro w0 w' base e O us n F i S :=
  ⟨fun q => own_stay (H.out q) (ho q), H.oo, H.new, fun k u hk hu => own_stay (H.rest k u hk hu) (fun b h1 h2 => hr k u b hk hu h1 h2), H.apart, H.off,
    fun x hx => ⟨(H.snap x hx).1.keep hs (hS x hx), (H.snap x hx).2⟩, c⟩
theorem Gro.below (H : Gro w0 w base e O us n F i S) (b : Below w.heap.size w w') : Gro w0 w' base e O us n F i S :=
  H.stay (H.chg.trans ((Chg.of_below b).mono fun k hk _ => absurd hk List.not_mem_nil)) b.size (fun _ k _ hk => b.block k hk) (fun _ _ k _ _ _ hk => b.block k hk) (fun _ _ k _ hk => b.block k hk)
theorem Cur.below (H : Cur w0 w base e O us n F i S g p M) (b : Below w.heap.size w w') : Cur w0 w' base e O us n F i S g p M :=
  ⟨H.gro.below b, own_stay H.own (fun k _ hk => b.block k hk), H.old, H.go, H.gr, H.gs, fun x hx => ⟨(H.mine x hx).1.keep b.size (fun k _ hk => b.block k hk), (H.mine x hx).2⟩⟩
theorem Gro.enter (H : Gro w0 w base e O us n F i S) (hu : us[i]? = some u) : Cur w0 w base e O us n F i S u (n i) [(u, i, n i)] where
  gro := ⟨H.out, H.oo, H.new, fun k u hk => H.rest k u (by omega), fun k j u u' hk hj => H.apart k j u u' (by omega) (by omega), fun q k u hk => H.off q k u (by omega), fun x hx => ⟨(H.snap x hx).1, (H.snap x hx).2.1, fun k u hk => (H.snap x hx).2.2 k u (by omega)⟩, H.chg⟩
  own := H.rest i u (Nat.le_refl _) hu
  old := fun b hb => .inl (blk_mem hu hb)
  go := fun q => H.off q i u (Nat.le_refl _) hu
  gr := fun k u' hk hu' => H.apart i k u u' (Nat.le_refl _) (by omega) hu hu' (by omega)
  gs := fun x hx => (H.snap x hx).2.2 i u (Nat.le_refl _) hu
  mine := fun x hx => by
    have hx := List.mem_singleton.1 hx
    subst hx
    exact ⟨SnapOf.of_own (H.rest i u (Nat.le_refl _) hu), rfl, Nat.le_refl _, fun q => H.off q i u (Nat.le_refl _) hu, fun k u' hk hu' => H.apart i k u u' (Nat.le_refl _) (by omega) hu hu' (by omega)⟩
theorem Cur.leave (H : Cur w0 w base e O us n F i S g p M) : Gro w0 w base e O us n F (i + 1) (M ++ S) :=
  ⟨H.gro.out, H.gro.oo, H.gro.new, H.gro.rest, H.gro.apart, H.gro.off, fun x hx => by
    rcases List.mem_append.1 hx with h | h
    · exact ⟨(H.mine x h).1, (H.mine x h).2.2.2⟩
    · exact H.gro.snap x h, H.gro.chg⟩
/-- The list is grown by one. -/
theorem Cur.app (H : Cur w0 w base e O us n F i S g p M) (h : OntoS w w' base e g g' (p + 1) (cellsF (F i) p ++ [F i p])) : Cur w0 w' base e O us n F i S g' (p + 1) M := by
  have hw0 : w0.heap.size ≤ w.heap.size := H.gro.chg.size
  have nb : ∀ b, g'.ownBlock = some b → g.ownBlock = some b ∨ w.heap.size = b := fun b hb => by
    rcases h.2.2 with e | ⟨e, _⟩
    · exact .inl (e ▸ hb)
    · exact .inr (by rw [e] at hb; injection hb)
  have ap : ∀ {z : Value}, (∀ b, z.ownBlock = some b → b < w.heap.size) → Apart g z → Apart g' z := fun hl ha b h1 h2 => by
    rcases nb b h1 with e | e
    · exact ha b e h2
    · have := hl b h2; omega
  have lo : ∀ q b, (O q).1.ownBlock = some b → b < w.heap.size := fun q b hb => ((H.gro.out q).lt b hb).2
  have lr : ∀ k u, i + 1 ≤ k → us[k]? = some u → ∀ b, u.ownBlock = some b → b < w.heap.size := fun k u hk hu b hb => ((H.gro.rest k u hk hu).lt b hb).2
  have st : ∀ b, g.ownBlock ≠ some b → b < w.heap.size → w'.heap[b]? = w.heap[b]? := fun b hb hl => h.block hl hb
  have hc : Chg (ablk us) w0 w' := ⟨h.2.1.os.trans H.gro.chg.os, h.2.1.tape.trans H.gro.chg.tape, h.2.1.output.trans H.gro.chg.output, Nat.le_trans hw0 h.size, fun k hk hn => by
    refine (st k (fun e => ?_) (by omega)).trans (H.gro.chg.block k hk hn)
    rcases H.old k e with h1 | h1
    · exact hn h1
    · omega⟩
  have ne : ∀ {z : Value}, Apart z g → ∀ b, z.ownBlock = some b → g.ownBlock ≠ some b := fun ha b hb => ha b hb
  refine ⟨H.gro.stay hc h.size (fun q b hb hl => st b (ne (H.go q) b hb) hl) (fun k u b hk hu hb hl => st b (ne (H.gr k u hk hu).symm b hb) hl) (fun x hx b hb hl => st b (ne (H.gs x hx) b hb) hl), by rw [cellsF_snoc]; exact h.own, fun b hb => ?_,
    fun q => (ap (lo q) (H.go q).symm).symm, fun k u hk hu => ap (lr k u hk hu) (H.gr k u hk hu), fun x hx => (ap (fun b hb => ?_) (H.gs x hx).symm).symm, fun x hx => ⟨?_, (H.mine x hx).2.1, by have := (H.mine x hx).2.2.1; omega, (H.mine x hx).2.2.2⟩⟩
  · rcases nb b hb with e | e
    · exact H.old b e
    · right; omega
  · exact snapBlock (H.gro.snap x hx).1 hb
  · obtain ⟨hs, hi, hp, _⟩ := H.mine x hx
    by_cases hsame : ∃ b, x.1.ownBlock = some b ∧ g.ownBlock = some b
    · obtain ⟨b, hb1, hb2⟩ := hsame
      obtain ⟨⟨A, c, hx1, h2⟩, h5⟩ := hs
      refine ⟨⟨A, c, hx1, fun t ht => ?_⟩, fun b hb => by have := h5 b hb; have := h.size; omega⟩
      obtain ⟨b', hA, h3, h4⟩ := h2 t ht
      refine ⟨b', hA, by have := h.size; omega, ?_⟩
      have hbb : b' = b := by rw [hx1, hA] at hb1; simpa [Value.ownBlock] using hb1
      subst hbb
      rw [hi]
      exact h.cell H.own (fun j u hj => by rw [List.getElem?_append_left (List.getElem?_eq_some_iff.1 hj).1]; exact hj) hb2 (cellsF_get _ (by omega))
    · exact hs.keep h.size fun b hb hl => st b (fun e => hsame ⟨b, hb, e⟩) hl
/-- What has been grown is kept. -/
theorem Cur.push (H : Cur w0 w base e O us n F i S g p M) {q E : Nat} {v : Value} {xs : List Value} (hq : q ≠ 0) (hO : O q = (v, E, xs)) (h : Onto w w' base E v v' (xs.length + 1) (xs ++ [y])) (hO1 : O' q = (v', E, xs ++ [y])) (hO2 : ∀ r, r ≠ q → O' r = O r) {M' : List (Value × Nat × Nat)}
    (hM : ∀ x ∈ M', x ∈ M ∨ x = (g, i, p)) : Cur w0 w' base e O' us n F i S g p M' := by
  have hw0 : w0.heap.size ≤ w.heap.size := H.gro.chg.size
  have nb : ∀ b, v'.ownBlock = some b → v.ownBlock = some b ∨ w.heap.size ≤ b := h.2.2
  have hv : (O q).1 = v := by rw [hO]
  have lo : ∀ q b, (O q).1.ownBlock = some b → b < w.heap.size := fun q b hb => ((H.gro.out q).lt b hb).2
  have lr : ∀ k u, i + 1 ≤ k → us[k]? = some u → ∀ b, u.ownBlock = some b → b < w.heap.size := fun k u hk hu b hb => ((H.gro.rest k u hk hu).lt b hb).2
  have lg : ∀ b, g.ownBlock = some b → b < w.heap.size := fun b hb => (H.own.lt b hb).2
  have ap : ∀ {z : Value}, (∀ b, z.ownBlock = some b → b < w.heap.size) → Apart v z → Apart v' z := fun hl ha b h1 h2 => by
    rcases nb b h1 with e | e
    · exact ha b e h2
    · have := hl b h2; omega
  have st : ∀ b, v.ownBlock ≠ some b → b < w.heap.size → w'.heap[b]? = w.heap[b]? := fun b hb hl => h.2.1.block b hl fun e => hb e.symm
  have hc : Chg (ablk us) w0 w' := ⟨h.2.1.os.trans H.gro.chg.os, h.2.1.tape.trans H.gro.chg.tape, h.2.1.output.trans H.gro.chg.output, Nat.le_trans hw0 h.size, fun k hk hn =>
    (st k (fun e => by have := H.gro.new q hq k (by rw [hv]; exact e); omega) (by omega)).trans (H.gro.chg.block k hk hn)⟩
  have vo : ∀ r, r ≠ q → Apart v (O r).1 := fun r hr => by rw [← hv]; exact H.gro.oo q r (fun e => hr e.symm)
  have vg : Apart v g := by rw [← hv]; exact H.go q
  have vr : ∀ k u, i + 1 ≤ k → us[k]? = some u → Apart v u := fun k u hk hu => by rw [← hv]; exact H.gro.off q k u hk hu
  have vs : ∀ x ∈ S, Apart v x.1 := fun x hx => by rw [← hv]; exact (H.gro.snap x hx).2.1 q
  have vm : ∀ x ∈ M, Apart v x.1 := fun x hx => by rw [← hv]; exact (H.mine x hx).2.2.2.1 q
  have gs : SnapOf w' F (g, i, p) := SnapOf.of_own (own_stay H.own fun b hb hl => st b (fun e => vg b e hb) hl)
  have ap' : ∀ {z : Value}, (∀ b, z.ownBlock = some b → b < w.heap.size) → (∀ r, Apart (O r).1 z) → ∀ r, Apart (O' r).1 z := fun hl ha r => by
    by_cases hr : r = q
    · subst hr; rw [hO1]; exact ap hl (by rw [← hv]; exact ha r)
    · rw [hO2 r hr]; exact ha r
  have lx : ∀ {x : Value × Nat × Nat}, SnapOf w F x → ∀ b, x.1.ownBlock = some b → b < w.heap.size := fun h b hb => snapBlock h hb
  refine ⟨⟨fun r => ?_, fun r r' hr => ?_, fun r hr b hb => ?_, fun k u hk hu => own_stay (H.gro.rest k u hk hu) fun b hb hl => st b (fun e => vr k u hk hu b e hb) hl, H.gro.apart, fun r k u hk hu => ap' (lr k u hk hu) (fun r => H.gro.off r k u hk hu) r,
    fun x hx => ⟨(H.gro.snap x hx).1.keep h.size fun b hb hl => st b (fun e => vs x hx b e hb) hl, ap' (lx (H.gro.snap x hx).1) (H.gro.snap x hx).2.1, (H.gro.snap x hx).2.2⟩, hc⟩,
    own_stay H.own fun b hb hl => st b (fun e => vg b e hb) hl, H.old, ap' lg H.go, H.gr, H.gs, fun x hx => ?_⟩
  · by_cases hr : r = q
    · subst hr; rw [hO1]; simp only [List.length_append, List.length_cons, List.length_nil]; exact h.own
    · rw [hO2 r hr]; exact own_stay (H.gro.out r) fun b hb hl => st b (fun e => vo r hr b e hb) hl
  · by_cases h1 : r = q
    · subst h1; rw [hO1, hO2 r' (fun e => hr e.symm)]; exact ap (lo r') (vo r' fun e => hr e.symm)
    · by_cases h2 : r' = q
      · subst h2; rw [hO1, hO2 r h1]; exact (ap (lo r) (vo r h1)).symm
      · rw [hO2 r h1, hO2 r' h2]; exact H.gro.oo r r' hr
  · by_cases h1 : r = q
    · subst h1; rw [hO1] at hb
      rcases nb b hb with e | e
      · exact H.gro.new r hr b (by rw [hv]; exact e)
      · omega
    · rw [hO2 r h1] at hb; exact H.gro.new r hr b hb
  · rcases hM x hx with h1 | h1
    · obtain ⟨a1, a2, a3, a4, a5⟩ := H.mine x h1
      exact ⟨a1.keep h.size fun b hb hl => st b (fun e => vm x h1 b e hb) hl, a2, a3, ap' (lx a1) a4, a5⟩
    · subst h1
      exact ⟨gs, rfl, Nat.le_refl _, ap' lg H.go, H.gr⟩
end
theorem cellsF_ext {f : Nat → Value} {m : Nat} {xs : List Value} (hl : xs.length = m) (h : ∀ t, t < m → xs[t]? = some (f t)) : xs = cellsF f m := by
  apply List.ext_getElem?
  intro t
  by_cases ht : t < m
  · rw [h t ht, cellsF_get f ht]
  · rw [List.getElem?_eq_none (by omega), List.getElem?_eq_none (by rw [cellsF_len]; omega)]
/-- The lists themselves, and one list of what was grown. -/
def O2 (v : Value) (E : Nat) (us : List Value) (vl : Value) (E2 : Nat) (ls : List Value) : Outs
  | 0 => (v, E, us)
  | 1 => (vl, E2, ls)
  | _ => (.slice none 0 0, 0, [])
theorem O2_other {v vl vl' : Value} {E E2 : Nat} {us ls ls' : List Value} : ∀ r, r ≠ 1 → O2 v E us vl' E2 ls' r = O2 v E us vl E2 ls r
  | 0, _ => rfl
  | 1, h => absurd rfl h
  | _ + 2, _ => rfl
theorem Gro.start {w0 w : World} {base E E2 e : Nat} {v : Value} {us : List Value} {n : Nat → Nat} {F : Nat → Nat → Value} (H : Fil w base E e v us n F (fun k _ => k < us.length)) (c : Chg (ablk us) w0 w) : Gro w0 w base e (O2 v E us (.slice none 0 0) E2 []) us n F 0 [] where
  out := fun q => match q with
    | 0 => H.out
    | 1 => World.ownsRow_nil _ _ _ _
    | _ + 2 => World.ownsRow_nil _ _ _ _
  oo := fun q q' h k h1 h2 => by
    match q, q', h with
    | 0, 0, h => exact h rfl
    | 0, _ + 1, _ => rename_i z _; rcases z with _ | z <;> cases h2
    | _ + 1, _, _ => rename_i z _ _; rcases z with _ | z <;> cases h1
  new := fun q h b hb => by
    match q, h with
    | 0, h => exact absurd rfl h
    | 1, _ => cases hb
    | _ + 2, _ => cases hb
  rest := fun k u _ hu => by
    obtain ⟨xs, h1, h2⟩ := H.row k u hu
    have hk := (List.getElem?_eq_some_iff.1 hu).1
    rw [cellsF_ext (by simpa using h1.1) fun t ht => h2 t ht hk] at h1
    exact h1
  apart := fun k j u u' _ _ h1 h2 h => H.apart k j u u' h1 h2 h
  off := fun q k u _ hu => match q with
    | 0 => H.off k u hu
    | 1 => Apart.nil _
    | _ + 2 => Apart.nil _
  snap := fun x h => absurd h List.not_mem_nil
  chg := c
theorem El.toN {P : Program} {t e bytes : Nat} {z : Value} (E : El P t e bytes z) : ElN P t e 1 bytes := by
  obtain ⟨i, hi, hz, hs, hb⟩ := E.hi
  exact ⟨E.ht, ⟨i, z, hi, hz, hs, hb, E.hz⟩, by omega⟩
/-- The list grows by one element that lies in a literal. -/
theorem Cur.app1 {w0 w w' : World} {base e i p : Nat} {O : Outs} {us : List Value} {n : Nat → Nat} {F : Nat → Nat → Value} {S M : List (Value × Nat × Nat)} {g g' : Value} {o : Obj} (H : Cur w0 w base e O us n F i S g p M) {x : Value} (hx : x = F i p)
    (h : OntoSN (w.alloc o) w' base e 1 g g' (p + 1) (cellsF (F i) p ++ [x])) : Cur w0 w' base e O us n F i S g' (p + 1) M := by
  subst hx
  exact (H.below ((Below.refl _ w).alloc (Nat.le_refl _) _)).app h
theorem SnapOf.cell {w : World} {F : Nat → Nat → Value} {x : Value × Nat × Nat} (h : SnapOf w F x) {t : Nat} (ht : t < x.2.2) : ∃ b c, x.1 = .slice (some ⟨b, 0, none⟩) x.2.2 c ∧ b < w.heap.size ∧ w.cell? ⟨b, t, none⟩ = some (F x.2.1 t) := by
  obtain ⟨⟨A, c, hx, h2⟩, _⟩ := h
  obtain ⟨b, rfl, h3, h4⟩ := h2 t ht
  exact ⟨b, c, hx, h3, h4⟩
theorem SnapOf.form {w : World} {F : Nat → Nat → Value} {x : Value × Nat × Nat} (h : SnapOf w F x) : ∃ A c, x.1 = .slice A x.2.2 c := let ⟨⟨A, c, hx, _⟩, _⟩ := h; ⟨A, c, hx⟩
end Go.Proofs.Ytbcmjjcbjojakaa
end
section
/- Rows of the call's own, each in memory of its own, kept in a bag. Plain theorems over any program. -/
namespace Go.Proofs.Ytbcmjjcbjojakaa
open Go.RowKit
set_option linter.unusedVariables false
theorem nodup_at {α : Type} {l : List α} (h : l.Nodup) {i j : Nat} {a : α} (hi : l[i]? = some a) (hj : l[j]? = some a) : i = j := by
  obtain ⟨h1, h2⟩ := List.getElem?_eq_some_iff.1 hi
  obtain ⟨h3, h4⟩ := List.getElem?_eq_some_iff.1 hj
  rcases Nat.lt_trichotomy i j with g | g | g
  · exact absurd (h2.trans h4.symm) (List.pairwise_iff_getElem.1 h i j h1 h3 g)
  · exact g
  · exact absurd (h4.trans h2.symm) (List.pairwise_iff_getElem.1 h j i h3 h1 g)
/-- Rows, no two in the same block, none in a block of X. -/
structure Bag (W : World) (base : Nat) (RL : List (Nat × Value × List Value)) (X : List Nat) : Prop where
  own : ∀ x ∈ RL, W.ownsRow base x.1 1 x.2.1 x.2.2.length x.2.2
  apart : ∀ (i j : Nat) (x y : Nat × Value × List Value), RL[i]? = some x → RL[j]? = some y → i ≠ j → Apart x.2.1 y.2.1
  off : ∀ x ∈ RL, ∀ k ∈ X, x.2.1.ownBlock ≠ some k
  ltX : ∀ k ∈ X, k < W.heap.size
section
variable {W W' : World} {base : Nat} {RL RL2 : List (Nat × Value × List Value)} {X : List Nat} {us : List Value}
theorem Bag.nil (W : World) (base : Nat) : Bag W base [] [] := ⟨fun x h => absurd h List.not_mem_nil, fun i j x y h => by simp at h, fun x h => absurd h List.not_mem_nil, fun k h => absurd h List.not_mem_nil⟩
theorem Bag.start (W : World) (base : Nat) (X : List Nat) (h : ∀ k ∈ X, k < W.heap.size) : Bag W base [] X := ⟨fun x h => absurd h List.not_mem_nil, fun i j x y h => by simp at h, fun x h => absurd h List.not_mem_nil, h⟩
theorem Bag.keep (H : Bag W base RL X) (b : Below W.heap.size W W') : Bag W' base RL X :=
  ⟨fun x hx => own_stay (H.own x hx) (fun k _ hk => b.block k hk), H.apart, H.off, fun k hk => Nat.lt_of_lt_of_le (H.ltX k hk) b.size⟩
theorem Bag.push (H : Bag W base RL X) (hb : base ≤ W.heap.size) {e n : Nat} {v : Value} {xs : List Value} (hn : xs.length = n) (b : Below W.heap.size W W') (o : W'.ownsRow W.heap.size e 1 v n xs) : Bag W' base (RL ++ [(e, v, xs)]) X := by
  have K := H.keep b
  have new : ∀ k, v.ownBlock = some k → W.heap.size ≤ k := fun k hk => (o.lt k hk).1
  have old : ∀ x ∈ RL, ∀ k, x.2.1.ownBlock = some k → k < W.heap.size := fun x hx k hk => ((H.own x hx).lt k hk).2
  have key : ∀ (i : Nat) (x : Nat × Value × List Value), (RL ++ [(e, v, xs)])[i]? = some x → (i < RL.length ∧ RL[i]? = some x) ∨ (i = RL.length ∧ x = (e, v, xs)) := fun i x h => by
    rcases Nat.lt_or_ge i RL.length with g | g
    · rw [List.getElem?_append_left g] at h; exact .inl ⟨g, h⟩
    · rw [List.getElem?_append_right g] at h
      rcases Nat.eq_zero_or_pos (i - RL.length) with e1 | e1
      · rw [e1] at h; simp at h; exact .inr ⟨by omega, h.symm⟩
      · rw [List.getElem?_eq_none (by simp; omega)] at h; cases h
  refine ⟨fun x hx => ?_, fun i j x y hx hy hij => ?_, fun x hx k hk => ?_, K.ltX⟩
  · rcases List.mem_append.1 hx with h | h
    · exact K.own x h
    · rw [List.mem_singleton.1 h]
      refine ⟨by rw [Nat.mul_one], (o.2).imp (fun h => ⟨h.1, by rw [hn]; exact h.2⟩) fun ⟨g, cap, cur, h1, h2, r⟩ => ⟨g, cap, cur, by rw [hn]; exact h1, by omega, by rw [hn]; exact r⟩⟩
  · rcases key i x hx with ⟨_, g⟩ | ⟨g, e1⟩
    · rcases key j y hy with ⟨_, g2⟩ | ⟨g2, e2⟩
      · exact H.apart i j x y g g2 hij
      · subst e2
        intro k h1 h2
        have := old x (List.mem_of_getElem? g) k h1
        have := new k h2
        omega
    · rcases key j y hy with ⟨_, g2⟩ | ⟨g2, e2⟩
      · subst e1
        intro k h1 h2
        have := old y (List.mem_of_getElem? g2) k h2
        have := new k h1
        omega
      · omega
  · rcases List.mem_append.1 hx with h | h
    · exact H.off x h k hk
    · rw [List.mem_singleton.1 h]
      intro e1
      have := new k e1
      have := H.ltX k hk
      omega
theorem Bag.board (H : Bag W base RL X) (b : Below W.heap.size W W') {k : Nat} (h1 : W.heap.size ≤ k) (h2 : k < W'.heap.size) : Bag W' base RL (k :: X) := by
  have K := H.keep b
  refine ⟨K.own, K.apart, fun x hx q hq => ?_, fun q hq => ?_⟩
  · rcases List.mem_cons.1 hq with e | e
    · subst e
      intro e1
      have := ((H.own x hx).lt _ e1).2
      omega
    · exact H.off x hx q e
  · rcases List.mem_cons.1 hq with e | e
    · subst e; exact h2
    · exact K.ltX q e
/-- Two blocks that came in one step. -/
theorem Bag.board2 (H : Bag W base RL X) (b : Below W.heap.size W W') {k q : Nat} (h1 : W.heap.size ≤ k) (h2 : k < W'.heap.size) (h3 : W.heap.size ≤ q) (h4 : q < W'.heap.size) : Bag W' base RL (k :: q :: X) := by
  have K := H.board b h3 h4
  refine ⟨K.own, K.apart, fun x hx z hz => ?_, fun z hz => ?_⟩
  · rcases List.mem_cons.1 hz with e | e
    · subst e
      intro e1
      have := ((H.own x hx).lt _ e1).2
      omega
    · exact K.off x hx z e
  · rcases List.mem_cons.1 hz with e | e
    · subst e; exact h2
    · exact K.ltX z e
/-- A literal that lists rows of the bag. -/
theorem Fil.of_bag (H : Bag W base RL X) {N E e m : Nat} {n : Nat → Nat} {F : Nat → Nat → Value} (hN : W.heap.size = N) (hb : base ≤ N) (hm : us.length = m) (hx : us.length ≤ maxLen) (I : List Nat) (hI : I.Nodup) (hk : ∀ (k : Nat) (u : Value), us[k]? = some u → ∃ i x, I[k]? = some i ∧ RL[i]? = some x ∧ u = x.2.1 ∧ x.1 = e ∧ n k = x.2.2.length) :
    Fil (W.alloc (.cells us.toArray E)) base E e (.slice (some ⟨N, 0, none⟩) m m) us n F (fun _ _ => False) := by
  subst hN hm
  have L := (onto_lit (w := W) (e := E) us hx)
  refine ⟨?_, fun k u hu => ?_, fun k j u u' hu hu' hkj => ?_, fun k u hu => ?_⟩
  · exact ⟨L.own.1, L.own.2.imp id fun ⟨g, cap, cur, h1, h2, r⟩ => ⟨g, cap, cur, h1, by omega, r⟩⟩
  · obtain ⟨i, x, hi, hx, rfl, he, hn⟩ := hk k u hu
    have := H.own x (List.mem_of_getElem? hx)
    rw [he, ← hn] at this
    exact ⟨x.2.2, this.alloc _, fun t _ h => absurd h id⟩
  · obtain ⟨i, x, hi, hx, rfl, _⟩ := hk k u hu
    obtain ⟨i', x', hi', hx', rfl, _⟩ := hk j u' hu'
    refine H.apart i i' x x' hx hx' fun e => hkj ?_
    subst e
    exact nodup_at hI hi hi'
  · obtain ⟨i, x, hi, hx, rfl, _⟩ := hk k u hu
    intro q h1 h2
    have h1 : W.heap.size = q := by simpa [Value.ownBlock] using h1
    have := ((H.own x (List.mem_of_getElem? hx)).lt q h2).2
    omega
/-- Some rows were written over: the others stand. -/
theorem Bag.chg (H : Bag W base RL X) (I J : List Nat) (c : Chg (ablk us) W W') (hus : ∀ u ∈ us, ∃ i x, i ∈ I ∧ RL[i]? = some x ∧ u = x.2.1) (hJ : J.Nodup) (hIJ : ∀ j ∈ J, j ∉ I) (h2 : ∀ (k : Nat) (y : Nat × Value × List Value), RL2[k]? = some y → ∃ j, J[k]? = some j ∧ RL[j]? = some y) : Bag W' base RL2 X := by
  have mem : ∀ y ∈ RL2, ∃ j, j ∈ J ∧ RL[j]? = some y := fun y hy => by
    obtain ⟨k, hk⟩ := List.getElem?_of_mem hy
    obtain ⟨j, h3, h4⟩ := h2 k y hk
    exact ⟨j, List.mem_of_getElem? h3, h4⟩
  refine ⟨fun y hy => ?_, fun k k' x y hx hy hkk => ?_, fun y hy k hk => ?_, fun k hk => Nat.lt_of_lt_of_le (H.ltX k hk) c.size⟩
  · obtain ⟨j, h3, h4⟩ := mem y hy
    refine c.own (H.own y (List.mem_of_getElem? h4)) fun k hk hm => ?_
    obtain ⟨u, hu, he⟩ := List.mem_filterMap.1 hm
    obtain ⟨i, x, hi, hx, rfl⟩ := hus u hu
    exact H.apart i j x y hx h4 (fun e => hIJ j h3 (e ▸ hi)) k he hk
  · obtain ⟨j, h3, h4⟩ := h2 k x hx
    obtain ⟨j', h3', h4'⟩ := h2 k' y hy
    refine H.apart j j' x y h4 h4' fun e => hkk ?_
    subst e
    exact nodup_at hJ h3 h3'
  · obtain ⟨j, h3, h4⟩ := mem y hy
    exact H.off y (List.mem_of_getElem? h4) k hk
/-- A block of X is not written over. -/
theorem Bag.off_blk (H : Bag W base RL X) (hus : ∀ u ∈ us, ∃ (i : Nat) (x : Nat × Value × List Value), RL[i]? = some x ∧ u = x.2.1) {k : Nat} (hk : k ∈ X) : k ∉ ablk us := fun hm => by
  obtain ⟨u, hu, he⟩ := List.mem_filterMap.1 hm
  obtain ⟨i, x, hx, rfl⟩ := hus u hu
  exact H.off x (List.mem_of_getElem? hx) k hk he
theorem Bag.rd (H : Bag W base RL X) (i : Nat) {e n c : Nat} {A : Option Addr} {xs : List Value} (h : RL[i]? = some (e, .slice A n c, xs)) : Rd W W.heap.size A n xs := by
  have o := H.own _ (List.mem_of_getElem? h)
  simp only at o
  have hl : n = xs.length := by obtain ⟨_, _, e, _⟩ := own_form o; injection e
  rw [← hl] at o
  exact Rd.of_own o
end
end Go.Proofs.Ytbcmjjcbjojakaa
end
section
/- Contract of the law's bytesApart. -/
namespace Go.Proofs.Ytbcmjjcbjojakaa
open Go.RowKit
set_option linter.unusedVariables false
theorem own_at {w : World} {base e g n cap : Nat} {xs : List Value} (h : w.ownsRow base e 1 (.slice (some ⟨g, 0, none⟩) n cap) n xs) {j : Nat} {u : Value} (hj : xs[j]? = some u) : w.cell? ⟨g, j, none⟩ = some u ∧ w.frozen? ⟨g, j, none⟩ = false := by
  have h1 := h.cells (g := g) rfl j u hj
  rw [show (⟨g, 0, none⟩ : Addr).add j = ⟨g, j, none⟩ by unfold Addr.add; split <;> simp_all] at h1
  refine ⟨h1, ?_⟩
  rcases h.2 with ⟨hv, _⟩ | ⟨g', cap', cur, hv, hb, hg, _⟩
  · cases hv
  · cases hv
    simp [World.frozen?, hg]
theorem elB1 : ElN Try.prog 26 5 1 1 := elB.toN
theorem infoBB : (Try.prog.info? 26).map (fun i => (i.zero, i.size, i.bytes)) = some (some (.slice none 0 0), 1, 24) := by kernel_rfl
theorem elBB : El Try.prog 89 26 24 (.slice none 0 0) := ⟨Try.underlying89, info_parts infoBB, rfl⟩
def fbB (n : Nat → Nat) (i t : Nat) : Value := if t < n i then .int .u8 (2 * (i : Int)) else .int .u8 (2 * (i : Int) + 1)
set_option maxRecDepth 20000 in
set_option maxHeartbeats 4000000 in
theorem bytesApart_any (w : World) (base L c : Nat) (A : Option Addr) (us : List Value) (n : Nat → Nat) (hL : us.length = L) (H : Fil w base 26 5 (.slice A L c) us n (fbB n) (fun _ _ => False)) (hl : L ≤ 100) (hn : ∀ i, n i ≤ 140737488355000) (hbase : base ≤ w.heap.size) :
    Calls Try.prog 38 #[.slice A L c] w fun e w' => e = .returned (.bool true) ∧ Chg (ablk us) w w' := by
  have HH : Hd (Fil w base 26 5 (.slice A L c) us n (fbB n) (fun _ _ => False) ∧ us.length = L ∧ base ≤ w.heap.size ∧ (∀ i, n i ≤ 140737488355000)) := ⟨H, hL, hbase, hn⟩
  clear H hL hbase hn
  go_enter Try.func38, Try.ntmps38
  go_wp2_with fail
  go_loopw [3] (fun u3 wr => ∃ i : Nat, i ≤ L ∧ u3 = .int .i64 (i : Int) ∧ Fil wr base 26 5 (.slice A L c) us n (fbB n) (fun k _ => k < i) ∧ Chg (ablk us) w wr) (fun u3 _ => L - (intOf u3).toNat)
  case atStart => exact ⟨0, by omega, rfl, HH.out.1.imp fun k s _ h => absurd h (by omega), Chg.refl _ _⟩
  case round =>
    obtain ⟨i, hi, rfl, hF, hC⟩ := hrel
    have H1 := Hd.mk (And.intro hF hC)
    clear hF hC
    by_cases hlt : i < L
    · have hii : (i : Int) < (L : Int) := by omega
      obtain ⟨u, hu⟩ : ∃ u, us[i]? = some u := ⟨_, List.getElem?_eq_getElem (by rw [HH.out.2.1]; exact hlt)⟩
      have ho := H1.out.1.out
      rw [HH.out.2.1] at ho
      obtain ⟨gv, cv, e, _, hgv⟩ := own_pos ho (by omega)
      cases e
      obtain ⟨xs, hr, hd⟩ := H1.out.1.row i u hu
      obtain ⟨Ai, ci, hui, _, _⟩ := own_form hr
      subst hui
      obtain ⟨m, hm⟩ : ∃ m, n i = m := ⟨_, rfl⟩
      have hm2 := HH.out.2.2.2 i
      have HM := Hd.mk hm
      rw [hm] at hm2 hr
      have HU : Hd (us[i]? = some (.slice Ai m ci) ∧ True) := ⟨by rw [← hm]; exact hu, trivial⟩
      obtain ⟨wo, hwo⟩ : ∃ wo : World, wo = wr := ⟨_, rfl⟩
      subst hwo
      clear hr hd hu ho hm
      go_wp2_with fail
      go_loopw [4] (fun u4 wr => ∃ j : Nat, j ≤ m ∧ u4 = .int .i64 (j : Int) ∧ Fil wr base 26 5 (.slice (some ⟨gv, 0, none⟩) L c) us n (fbB n) (fun k s => k < i ∨ (k = i ∧ s < j)) ∧ Chg (ablk us) w wr) (fun u4 _ => m - (intOf u4).toNat)
      case atStart => exact ⟨0, by omega, rfl, H1.out.1.imp fun k s _ h => Or.elim h id (fun h => absurd h.2 (by omega)), H1.out.2⟩
      case round =>
        obtain ⟨j, hj, rfl, hF, hC⟩ := hrel
        have H2 := Hd.mk (And.intro hF hC)
        have ho := hF.out
        rw [HH.out.2.1] at ho
        obtain ⟨xs2, hr, hd⟩ := hF.row i _ HU.out.1
        have hcv := (own_at ho (j := i) (u := .slice Ai m ci) HU.out.1).1
        clear hF hC ho hd
        by_cases hjl : j < m
        · have hji : (j : Int) < (m : Int) := by omega
          rw [HM.out] at hr
          obtain ⟨g, c2, e, _, hg⟩ := own_pos hr (by omega)
          cases e
          obtain ⟨old, hold⟩ : ∃ old, xs2[j]? = some old := ⟨_, List.getElem?_eq_getElem (by have := hr.1; omega)⟩
          obtain ⟨hc1, hc2⟩ := own_at hr hold
          have HR := Hd.mk (And.intro hr hg)
          have hb1 : (2 * (i : Int)) % 256 = 2 * (i : Int) := by omega
          clear hr hold hg
          go_wp2_with fail
          go_roundw
          case rel =>
            refine ⟨j + 1, by omega, by go_num, ?_, H2.out.2.setCell (show g ∈ ablk us from blk_mem HU.out.1 rfl) _⟩
            have h := H2.out.1.set (i := i) (t := j) (g := g) (c := ci) (D' := fun k s => k < i ∨ (k = i ∧ s < j + 1)) (by rw [HM.out]; exact HU.out.1) (by rw [HM.out]; exact hjl) (fun k s h => by omega)
            rw [show fbB n i j = .int .u8 (2 * (i : Int)) by unfold fbB; rw [if_pos (by rw [HM.out]; exact hjl)]] at h
            exact h
          case measure => simp [intOf]; omega
        · have hjm : j = m := by omega
          subst hjm
          go_wp2_with fail
          go_roundw
          case rel => exact ⟨i + 1, by omega, by go_num, H2.out.1.imp fun k s hs h => by
            rcases Nat.lt_or_ge k i with h1 | h1
            · exact .inl h1
            · have : k = i := by omega
              subst this
              exact .inr ⟨rfl, by rw [← HM.out]; exact hs⟩, H2.out.2⟩
          case measure => simp [intOf]; omega
    · have hiL : i = L := by omega
      subst hiL
      have HG : Hd (Gro w wr base 5 (O2 (.slice A i c) 26 us (.slice none 0 0) 26 []) us n (fbB n) 0 []) := ⟨Gro.start (by rw [HH.out.2.1]; exact H1.out.1) H1.out.2⟩
      clear H1
      obtain ⟨L, hL⟩ : ∃ L, L = i := ⟨_, rfl⟩
      subst hL
      go_wp2_with fail
      obtain ⟨wz, hwz⟩ : ∃ wz : World, wz = wr := ⟨_, rfl⟩
      subst hwz
      go_loopw [5, 6] (fun u5 u6 wr => ∃ (i : Nat) (ls : List Value) (S : List (Value × Nat × Nat)), i ≤ L ∧ u6 = .int .i64 (i : Int) ∧ ls.length = i ∧ Gro w wr base 5 (O2 (.slice A L c) 26 us u5 26 ls) us n (fbB n) i S ∧ (∀ (q : Nat) (z : Value), ls[q]? = some z → (z, q, n q + 64) ∈ S) ∧ (∀ (k : Nat) (z : Value), k < i → us[k]? = some z → (z, k, n k) ∈ S)) (fun _ u6 _ => L - (intOf u6).toNat)
      case atStart => exact ⟨0, [], [], by omega, rfl, rfl, HG.out, fun q z h => by simp at h, fun k z h => absurd h (by omega)⟩
      case round =>
        obtain ⟨i, ls, S, hi, rfl, hll, hG, hs1, hs2⟩ := hrel
        have H1 := Hd.mk (And.intro hG (And.intro hll (And.intro hs1 hs2)))
        clear hG hll hs1 hs2
        by_cases hlt : i < L
        · have hii : (i : Int) < (L : Int) := by omega
          obtain ⟨u, hu⟩ : ∃ u, us[i]? = some u := ⟨_, List.getElem?_eq_getElem (by rw [HH.out.2.1]; exact hlt)⟩
          have HC := Hd.mk (H1.out.1.enter hu)
          have ho : wr.ownsRow base 26 1 (.slice A L c) us.length us := H1.out.1.out 0
          rw [HH.out.2.1] at ho
          obtain ⟨gv, cv, e, _, hgv⟩ := own_pos ho (by omega)
          cases e
          have hcv := (own_at ho hu).1
          obtain ⟨Ai, ci, hui, _, _⟩ := own_form (H1.out.1.rest i u (Nat.le_refl _) hu)
          obtain ⟨m, hm⟩ : ∃ m, n i = m := ⟨_, rfl⟩
          have hm2 := HH.out.2.2.2 i
          have HM := Hd.mk hm
          rw [hm] at hm2 hui HC
          have HU := Hd.mk (And.intro hu hui)
          rw [hui] at hcv
          obtain ⟨wo, hwo⟩ : ∃ wo : World, wo = wr := ⟨_, rfl⟩
          subst hwo
          clear hu hui ho hm
          go_wp2_with fail
          go_loopw [7, 8] (fun u7 u8 wr => ∃ k : Nat, k ≤ 64 ∧ u8 = .int .i64 (k : Int) ∧ Cur w wr base 5 (O2 (.slice (some ⟨gv, 0, none⟩) L c) 26 us u5 26 ls) us n (fbB n) i S u7 (m + k) [(u, i, m)]) (fun _ u8 _ => 64 - (intOf u8).toNat)
          case atStart => exact ⟨0, by omega, rfl, by rw [← HU.out.2]; exact HC.out⟩
          case round =>
            obtain ⟨k, hk, rfl, hc⟩ := hrel
            have H2 := Hd.mk hc
            have hws : base ≤ wr.heap.size := Nat.le_trans HH.out.2.2.1 hc.gro.chg.size
            clear hc
            by_cases hkl : k < 64
            · have hb1 : (2 * (i : Int) + 1) % 256 = 2 * (i : Int) + 1 := by omega
              have h63 : Hd (m + k + 1 ≤ maxLen) := ⟨by unfold maxLen; omega⟩
              have hby : Hd ((m + k + 1) * 1 ≤ 140737488355328) := ⟨by omega⟩
              go_wp2_with (at_builtin; refine pushSN_at0 elB1 rfl (.tmp 49) (.tmp 54) rfl base u7 (m + k) (cellsF (fbB n i) (m + k)) [.int .u8 (2 * (i : Int) + 1)] rfl wr.heap.size rfl rfl rfl (by simp [Value.oneCell']) H2.out.own h63.out hby.out hws ?_; intro v2 w2 hO2; have H3 := Hd.mk hO2; clear hO2)
              go_roundw
              case rel =>
                refine ⟨k + 1, by omega, by go_num, ?_⟩
                exact H2.out.app1 (by unfold fbB; rw [if_neg (by rw [HM.out]; omega)]) H3.out
              case measure => simp [intOf]; omega
            · have hk64 : k = 64 := by omega
              subst hk64
              have h63 : Hd (i + 1 ≤ maxLen) := ⟨by unfold maxLen; omega⟩
              have hby : Hd ((i + 1) * 24 ≤ 140737488355328) := ⟨by omega⟩
              obtain ⟨A7, c7, h7, _, _⟩ := own_form H2.out.own
              subst h7
              have ho5 : Hd (wr.ownsRow base 26 1 u5 i ls) := ⟨by have := H2.out.gro.out 1; rw [← H1.out.2.1]; exact this⟩
              go_wp2_with (refine at_buildSlice ?_; refine wpList_push elBB rfl rfl (.tmp 56) (.tmp 57) 58 rfl rfl rfl base u5 i ls (.slice A7 (m + 64) c7) rfl rfl rfl rfl ho5.out h63.out hby.out hws ?_; intro v2 w2 hO2; have H3 := Hd.mk hO2; clear hO2)
              go_roundw
              case rel =>
                refine ⟨i + 1, ls ++ [.slice A7 (m + 64) c7], _, by omega, by go_num, by rw [List.length_append, H1.out.2.1]; rfl, (H2.out.push (q := 1) (O' := O2 (.slice (some ⟨gv, 0, none⟩) L c) 26 us v2 26 (ls ++ [.slice A7 (m + 64) c7])) (y := .slice A7 (m + 64) c7) (M' := [(.slice A7 (m + 64) c7, i, m + 64), (u, i, m)]) (by decide) rfl (by rw [H1.out.2.1]; exact H3.out) rfl O2_other (fun x hx => by
                  rcases List.mem_cons.1 hx with h | h
                  · exact .inr h
                  · exact .inl h)).leave, fun q z hz => ?_, fun k z hk hz => ?_⟩
                · rcases Nat.lt_or_ge q ls.length with h | h
                  · rw [List.getElem?_append_left h] at hz
                    exact List.mem_append_right _ (H1.out.2.2.1 q z hz)
                  · have hq := (List.getElem?_eq_some_iff.1 hz).1
                    have hq2 : q = ls.length := by simp at hq; omega
                    subst hq2
                    rw [List.getElem?_append_right (Nat.le_refl _)] at hz
                    simp at hz
                    subst hz
                    rw [H1.out.2.1, HM.out]
                    exact List.mem_append_left _ (by simp)
                · rcases Nat.lt_or_ge k i with h | h
                  · exact List.mem_append_right _ (H1.out.2.2.2 k z h hz)
                  · have hq2 : k = i := by omega
                    subst hq2
                    have : u = z := by have := HU.out.1; rw [hz] at this; injection this with this; exact this.symm
                    subst this
                    rw [HM.out]
                    exact List.mem_append_left _ (by simp)
              case measure => simp [intOf]; omega
        · have hiL : i = L := by omega
          subst hiL
          have H4 : Hd ((∀ (q : Nat) (z : Value), ls[q]? = some z → SnapOf wr (fbB n) (z, q, n q + 64)) ∧ (∀ (k : Nat) (z : Value), us[k]? = some z → SnapOf wr (fbB n) (z, k, n k)) ∧ Chg (ablk us) w wr ∧ wr.ownsRow base 26 1 (.slice A i c) i us ∧ wr.ownsRow base 26 1 u5 i ls) :=
            ⟨fun q z h => (H1.out.1.snap _ (H1.out.2.2.1 q z h)).1, fun k z h => (H1.out.1.snap _ (H1.out.2.2.2 k z (by rw [← HH.out.2.1]; exact (List.getElem?_eq_some_iff.1 h).1) h)).1, H1.out.1.chg, by have := H1.out.1.out 0; rw [← HH.out.2.1] at this ⊢; exact this, by have := H1.out.1.out 1; rw [← H1.out.2.1]; exact this⟩
          have HL : Hd (us.length = i ∧ ls.length = i) := ⟨HH.out.2.1, H1.out.2.1⟩
          clear H1
          obtain ⟨L, hL⟩ : ∃ L, L = i := ⟨_, rfl⟩
          subst hL
          obtain ⟨wy, hwy⟩ : ∃ wy : World, wy = wr := ⟨_, rfl⟩
          subst hwy
          go_wp2_with fail
          go_loopw [9] (fun u9 wr => ∃ (i : Nat), i ≤ L ∧ u9 = .int .i64 (i : Int) ∧ wr.heap = wy.heap ∧ Chg (ablk us) w wr) (fun u9 _ => L - (intOf u9).toNat)
          case atStart => exact ⟨0, by omega, rfl, rfl, H4.out.2.2.1⟩
          case round =>
            obtain ⟨i, hi, rfl, hh, hC⟩ := hrel
            have H5 := Hd.mk (And.intro hh hC)
            have hcell : ∀ p : Addr, wr.cell? p = wy.cell? p := fun p => by simp [World.cell?, hh]
            by_cases hlt : i < L
            · have hii : (i : Int) < (L : Int) := by omega
              obtain ⟨u, hu⟩ : ∃ u, us[i]? = some u := ⟨_, List.getElem?_eq_getElem (by rw [HL.out.1]; exact hlt)⟩
              obtain ⟨z, hz⟩ : ∃ z, ls[i]? = some z := ⟨_, List.getElem?_eq_getElem (by rw [HL.out.2]; exact hlt)⟩
              have ho := H4.out.2.2.2.1
              obtain ⟨gv, cv, e, _, hgv⟩ := own_pos ho (by omega)
              cases e
              have ho5 := H4.out.2.2.2.2
              obtain ⟨gl, cl, e, _, hgl⟩ := own_pos ho5 (by omega)
              subst e
              have hcv := (hcell _).trans (own_at ho hu).1
              have hcl := (hcell _).trans (own_at ho5 hz).1
              have hsu := H4.out.2.1 i u hu
              have hsz := H4.out.1 i z hz
              obtain ⟨Ai, ci, hui⟩ := hsu.form
              obtain ⟨Az, cz, hzi⟩ := hsz.form
              simp only at hui hzi
              obtain ⟨m, hm⟩ : ∃ m, n i = m := ⟨_, rfl⟩
              have hm2 := HH.out.2.2.2 i
              have HM := Hd.mk hm
              rw [hm] at hm2 hui hzi hsu hsz
              subst hui hzi
              have HS := Hd.mk (And.intro hsu hsz)
              obtain ⟨wo, hwo⟩ : ∃ wo : World, wo = wr := ⟨_, rfl⟩
              subst hwo
              clear hsu hsz hu hz ho ho5 hm hh hC hcell
              have HCC := Hd.mk (And.intro hcv hcl)
              go_wp2_with fail
              go_loopw [10] (fun u10 wr => ∃ j : Nat, j ≤ m + 64 ∧ u10 = .int .i64 (j : Int) ∧ wr.heap = wy.heap ∧ Chg (ablk us) w wr) (fun u10 _ => m + 64 - (intOf u10).toNat)
              case atStart => exact ⟨0, by omega, rfl, H5.out⟩
              case round =>
                obtain ⟨j, hj, rfl, hh, hC⟩ := hrel
                have H6 := Hd.mk (And.intro hh hC)
                have hcell : ∀ p : Addr, wr.cell? p = wy.cell? p := fun p => by simp [World.cell?, hh]
                have hcv2 := (hcell ⟨gv, i, none⟩).trans ((World.cell?_of_block (a := ⟨gv, i, none⟩) (by rw [H5.out.1])).symm.trans hcv)
                have hcl2 := (hcell ⟨gl, i, none⟩).trans ((World.cell?_of_block (a := ⟨gl, i, none⟩) (by rw [H5.out.1])).symm.trans hcl)
                clear hcv hcl
                by_cases hjl : j < m + 64
                · have hjt : (j : Int) < ((m + 64 : Nat) : Int) := by omega
                  obtain ⟨bz, _, ez, _, hz⟩ := HS.out.2.cell (t := j) hjl
                  cases ez
                  have hz2 := (hcell _).trans hz
                  by_cases hjm : j < m
                  · have hji : (j : Int) < (m : Int) := by omega
                    obtain ⟨bu, _, eu, _, hu⟩ := HS.out.1.cell (t := j) hjm
                    cases eu
                    have hu2 := (hcell _).trans hu
                    have hf : fbB n i j = .int .u8 (2 * (i : Int)) := by unfold fbB; rw [if_pos (by rw [HM.out]; exact hjm)]
                    simp only [hf] at hz2 hu2
                    clear hz hu hcell hh hC hf
                    have hb1 : (2 * (i : Int)) % 256 = 2 * (i : Int) := by omega
                    have e4 : (2 * (i : Int) != 2 * (i : Int)) = false := by simp
                    go_wp2_with fail
                    go_roundw
                    case rel => exact ⟨j + 1, by omega, by go_num, H6.out⟩
                    case measure => simp [intOf]; omega
                  · have hji : ¬ (j : Int) < (m : Int) := by omega
                    have hji2 : (m : Int) ≤ (j : Int) := by omega
                    have hf : fbB n i j = .int .u8 (2 * (i : Int) + 1) := by unfold fbB; rw [if_neg (by rw [HM.out]; exact hjm)]
                    simp only [hf] at hz2
                    clear hz hcell hh hC hf
                    have hb1 : (2 * (i : Int) + 1) % 256 = 2 * (i : Int) + 1 := by omega
                    have e4 : (2 * (i : Int) + 1 != 2 * (i : Int) + 1) = false := by simp
                    go_wp2_with fail
                    go_roundw
                    case rel => exact ⟨j + 1, by omega, by go_num, H6.out⟩
                    case measure => simp [intOf]; omega
                · have hjm : j = m + 64 := by omega
                  subst hjm
                  clear hcell hh hC
                  go_wp2_with fail
                  go_roundw
                  case rel => exact ⟨i + 1, by omega, by go_num, H6.out⟩
                  case measure => simp [intOf]; omega
            · have hiL : L = i := by omega
              subst hiL
              clear hcell hh hC
              go_wp2_with fail
              go_ret
              exact ⟨rfl, H5.out.2⟩
end Go.Proofs.Ytbcmjjcbjojakaa
end
section
/- The walk of WireAsks: it returns true for every input. -/
namespace Go.Proofs.Ytbcmjjcbjojakaa
open Go.RowKit
set_option linter.unusedVariables false
set_option linter.unusedSimpArgs false
theorem copied_any (w : World) (A : Option Addr) (n c B : Nat) (bs : List Nat) (hr : Rd w B A n (cb bs)) (hn : n ≤ 140737488355328) : Calls Try.prog 17 #[.slice A n c] w fun e w' => ∃ A' c', e = .returned (.slice A' n c') ∧ w'.ownsRow w.heap.size 5 1 (.slice A' n c') n (cb bs) ∧ n ≤ c' ∧ Below w.heap.size w w' := by
  have HH := Hd.mk hr
  have h63 : Hd (0 + n ≤ maxLen) := ⟨by unfold maxLen; omega⟩
  have hby : Hd ((0 + n) * 1 ≤ 140737488355328) := ⟨by omega⟩
  clear hr
  go_enter Try.func17, Try.ntmps17
  go_wp2_with (at_builtin; refine wpList_app elB rfl (.const (.slice none 0 0)) (.tmp 3) rfl w.heap.size (.slice none 0 0) 0 [] rfl (World.ownsRow_nil ..) B A n c (cb bs) rfl HH.out (cb_one bs) h63.out hby.out (Nat.le_refl _) ?_; intro v1 w1 hO1; have H1 : Hd (Onto w w1 w.heap.size 5 (.slice none 0 0) v1 n (cb bs)) := ⟨by simpa using hO1⟩; clear hO1)
  go_ret
  obtain ⟨A', c', rfl, hc, _⟩ := own_form H1.out.own
  exact ⟨A', c', rfl, H1.out.own, hc, H1.out.below (fun k hk => by cases hk) (Nat.le_refl _)⟩
theorem Bag.set {W : World} {base : Nat} {RL : List (Nat × Value × List Value)} {X : List Nat} (H : Bag W base RL X) {a : Addr} (ha : a.block < base) (u : Value) : Bag (W.setCell a u) base RL X :=
  ⟨fun x hx => ownsRow_setCell_below (H.own x hx) ha u, H.apart, H.off, fun k hk => by have := H.ltX k hk; simpa [World.setCell] using this⟩
theorem Bag.one {W : World} {base : Nat} (H : Bag W base [] []) {e n : Nat} {v : Value} {xs : List Value} (o : W.ownsRow base e 1 v n xs) : Bag W base [(e, v, xs)] [] := by
  have hl : xs.length = n := by simpa using o.1
  refine ⟨fun x hx => ?_, fun i j x y hx hy hij => ?_, fun x _ k hk => absurd hk List.not_mem_nil, fun k hk => absurd hk List.not_mem_nil⟩
  · rw [List.mem_singleton.1 hx]; simp only; rw [hl]; exact o
  · have h1 := (List.getElem?_eq_some_iff.1 hx).1
    have h2 := (List.getElem?_eq_some_iff.1 hy).1
    simp at h1 h2; omega
/-- Where WireAsks stands. -/
structure AW (w W : World) (g : Nat) (k : Int) (tag : Nat) (key after : ByteArray) (off num delim : Int) (V : Value) (RL : List (Nat × Value × List Value)) : Prop where
  box : W.heap[g]? = some (.cells #[.int .i64 k, .int .u64 (tag : Int), .string key, .string after, .int .i64 off, .int .i64 num, .int .i64 delim, V] 28)
  bag : Bag W (g + 1) RL []
  bel : Below g w W
section
variable {w W W' : World} {g : Nat} {k : Int} {tag : Nat} {key after : ByteArray} {off num delim : Int} {V V' : Value} {RL : List (Nat × Value × List Value)}
theorem AW.lt (H : AW w W g k tag key after off num delim V RL) : g < W.heap.size := (Array.getElem?_eq_some_iff.1 H.box).1
theorem AW.keep (H : AW w W g k tag key after off num delim V RL) (b : Below W.heap.size W W') : AW w W' g k tag key after off num delim V RL :=
  ⟨by rw [b.block g H.lt]; exact H.box, H.bag.keep b, H.bel.trans (b.mono (Nat.le_of_lt H.lt))⟩
theorem AW.push (H : AW w W g k tag key after off num delim V RL) {n : Nat} {v : Value} {xs : List Value} {e : Nat} (hn : xs.length = n) (b : Below W.heap.size W W') (o : W'.ownsRow W.heap.size e 1 v n xs) : AW w W' g k tag key after off num delim V (RL ++ [(e, v, xs)]) :=
  ⟨by rw [b.block g H.lt]; exact H.box, H.bag.push H.lt hn b o, H.bel.trans (b.mono (Nat.le_of_lt H.lt))⟩
theorem AW.body (H : AW w W g k tag key after off num delim V RL) (V' : Value) : AW w (W.setCell ⟨g, 7, none⟩ V') g k tag key after off num delim V' RL :=
  ⟨by rw [heap_set W g 7 V' _ _ H.box]; rfl, H.bag.set (Nat.lt_succ_self g) _, H.bel.setCell (Nat.le_refl _) _⟩
end
/-- The next bytes. -/
def turnB (b : Nat) (i : Nat) : Nat := (b * 3 + i + 1) % 256
end Go.Proofs.Ytbcmjjcbjojakaa
end
section
/- The walk of WireTells: it returns true for every input. -/
namespace Go.Proofs.Ytbcmjjcbjojakaa
open Go.RowKit
set_option linter.unusedVariables false
set_option linter.unusedSimpArgs false
/-- Where WireTells stands. -/
structure TW (w W : World) (g : Nat) (k code : Int) (tag : Nat) (next : ByteArray) (more : Bool) (ge gc size h1 h2 h3 h4 : Int) (V1 V2 V3 : Value) (RL : List (Nat × Value × List Value)) : Prop where
  box : W.heap[g]? = some (.cells #[.int .i64 k, .int .u64 (tag : Int), .int .i64 code, V1, V2, V3, .string next, .bool more, .int .i64 ge, .int .i64 gc, .int .i64 size, .int .i64 h1, .int .i64 h2, .int .i64 h3, .int .i64 h4] 43)
  bag : Bag W (g + 1) RL []
  bel : Below g w W
section
variable {w W W' : World} {g : Nat} {k code : Int} {tag : Nat} {next : ByteArray} {more : Bool} {ge gc size h1 h2 h3 h4 : Int} {V1 V2 V3 V' : Value} {RL : List (Nat × Value × List Value)}
theorem TW.lt (H : TW w W g k code tag next more ge gc size h1 h2 h3 h4 V1 V2 V3 RL) : g < W.heap.size := (Array.getElem?_eq_some_iff.1 H.box).1
theorem TW.keep (H : TW w W g k code tag next more ge gc size h1 h2 h3 h4 V1 V2 V3 RL) (b : Below W.heap.size W W') : TW w W' g k code tag next more ge gc size h1 h2 h3 h4 V1 V2 V3 RL :=
  ⟨by rw [b.block g H.lt]; exact H.box, H.bag.keep b, H.bel.trans (b.mono (Nat.le_of_lt H.lt))⟩
theorem TW.push (H : TW w W g k code tag next more ge gc size h1 h2 h3 h4 V1 V2 V3 RL) {n : Nat} {v : Value} {xs : List Value} {e : Nat} (hn : xs.length = n) (b : Below W.heap.size W W') (o : W'.ownsRow W.heap.size e 1 v n xs) : TW w W' g k code tag next more ge gc size h1 h2 h3 h4 V1 V2 V3 (RL ++ [(e, v, xs)]) :=
  ⟨by rw [b.block g H.lt]; exact H.box, H.bag.push H.lt hn b o, H.bel.trans (b.mono (Nat.le_of_lt H.lt))⟩
theorem TW.set1 (H : TW w W g k code tag next more ge gc size h1 h2 h3 h4 V1 V2 V3 RL) (V' : Value) : TW w (W.setCell ⟨g, 3, none⟩ V') g k code tag next more ge gc size h1 h2 h3 h4 V' V2 V3 RL :=
  ⟨by rw [heap_set W g 3 V' _ _ H.box]; rfl, H.bag.set (Nat.lt_succ_self g) _, H.bel.setCell (Nat.le_refl _) _⟩
theorem TW.set2 (H : TW w W g k code tag next more ge gc size h1 h2 h3 h4 V1 V2 V3 RL) (V' : Value) : TW w (W.setCell ⟨g, 4, none⟩ V') g k code tag next more ge gc size h1 h2 h3 h4 V1 V' V3 RL :=
  ⟨by rw [heap_set W g 4 V' _ _ H.box]; rfl, H.bag.set (Nat.lt_succ_self g) _, H.bel.setCell (Nat.le_refl _) _⟩
theorem TW.set3 (H : TW w W g k code tag next more ge gc size h1 h2 h3 h4 V1 V2 V3 RL) (V' : Value) : TW w (W.setCell ⟨g, 5, none⟩ V') g k code tag next more ge gc size h1 h2 h3 h4 V1 V2 V' RL :=
  ⟨by rw [heap_set W g 5 V' _ _ H.box]; rfl, H.bag.set (Nat.lt_succ_self g) _, H.bel.setCell (Nat.le_refl _) _⟩
theorem TW.set (H : TW w W g k code tag next more ge gc size h1 h2 h3 h4 V1 V2 V3 RL) (X1 X2 X3 : Value) : TW w (((W.setCell ⟨g, 3, none⟩ X1).setCell ⟨g, 4, none⟩ X2).setCell ⟨g, 5, none⟩ X3) g k code tag next more ge gc size h1 h2 h3 h4 X1 X2 X3 RL := ((H.set1 X1).set2 X2).set3 X3
theorem TW.cell (H : TW w W g k code tag next more ge gc size h1 h2 h3 h4 V1 V2 V3 RL) : W.cell? ⟨g, 3, none⟩ = some V1 ∧ W.cell? ⟨g, 4, none⟩ = some V2 ∧ W.cell? ⟨g, 5, none⟩ = some V3 ∧ W.frozen? ⟨g, 3, none⟩ = false ∧ W.frozen? ⟨g, 4, none⟩ = false ∧ W.frozen? ⟨g, 5, none⟩ = false := by
  refine ⟨?_, ?_, ?_, ?_, ?_, ?_⟩
  · rw [cell_of_row _ g 3 _ _ (0, 0) H.box]; rfl
  · rw [cell_of_row _ g 4 _ _ (0, 0) H.box]; rfl
  · rw [cell_of_row _ g 5 _ _ (0, 0) H.box]; rfl
  · simp [World.frozen?, H.box]
  · simp [World.frozen?, H.box]
  · simp [World.frozen?, H.box]
end
/-- The bag behind a writing into one of its rows. -/
theorem Bag.turn {W W' : World} {base : Nat} {RL : List (Nat × Value × List Value)} {X : List Nat} (H : Bag W base RL X) (i : Nat) {x : Nat × Value × List Value} (hx : RL[i]? = some x) {xs' : List Value} (hl : xs'.length = x.2.2.length) (o : W'.ownsRow base x.1 1 x.2.1 x.2.2.length xs') (hg : W.grownBy W' x.2.1.ownBlock) : Bag W' base (RL.set i (x.1, x.2.1, xs')) X := by
  have hi := (List.getElem?_eq_some_iff.1 hx).1
  have key : ∀ (j : Nat) (y : Nat × Value × List Value), (RL.set i (x.1, x.2.1, xs'))[j]? = some y → (j = i ∧ y = (x.1, x.2.1, xs')) ∨ (j ≠ i ∧ RL[j]? = some y) := fun j y h => by
    rw [List.getElem?_set] at h
    by_cases hij : i = j
    · rw [if_pos hij, if_pos hi] at h
      exact .inl ⟨hij.symm, (Option.some.inj h).symm⟩
    · rw [if_neg hij] at h; exact .inr ⟨fun e => hij e.symm, h⟩
  refine ⟨fun y hy => ?_, fun j q y z hy hz hjq => ?_, fun y hy k hk => ?_, fun k hk => Nat.lt_of_lt_of_le (H.ltX k hk) hg.size⟩
  · obtain ⟨j, hj⟩ := List.getElem?_of_mem hy
    rcases key j y hj with ⟨_, e⟩ | ⟨hne, hj⟩
    · subst e; simp only; rw [hl]; exact o
    · have hm := List.mem_of_getElem? hj
      exact own_stay (H.own y hm) fun b hb hlt => hg.block b hlt fun e => H.apart j i y x hj hx hne b hb e.symm
  · rcases key j y hy with ⟨e1, e2⟩ | ⟨e1, e2⟩
    · rcases key q z hz with ⟨f1, f2⟩ | ⟨f1, f2⟩
      · omega
      · subst e2; exact H.apart i q x z hx f2 (by omega)
    · rcases key q z hz with ⟨f1, f2⟩ | ⟨f1, f2⟩
      · subst f2; exact H.apart j i y x e2 hx (by omega)
      · exact H.apart j q y z e2 f2 hjq
  · obtain ⟨j, hj⟩ := List.getElem?_of_mem hy
    rcases key j y hj with ⟨_, e⟩ | ⟨_, hj⟩
    · subst e; exact H.off x (List.mem_of_getElem? hx) k hk
    · exact H.off y (List.mem_of_getElem? hj) k hk
/-- The first rows of a bag. -/
theorem Bag.some3 {W : World} {base : Nat} {x y z : Nat × Value × List Value} {RL : List (Nat × Value × List Value)} {X : List Nat} (H : Bag W base (x :: y :: z :: RL) X) : Bag W base [x, y, z] X := by
  have key : ∀ (j : Nat) (u : Nat × Value × List Value), ([x, y, z] : List (Nat × Value × List Value))[j]? = some u → (x :: y :: z :: RL)[j]? = some u := fun j u h => by
    match j, h with
    | 0, h => exact h
    | 1, h => exact h
    | 2, h => exact h
    | j + 3, h => simp at h
  refine ⟨fun u hu => H.own u ?_, fun i j u v hu hv hij => H.apart i j u v (key i u hu) (key j v hv) hij, fun u hu => H.off u ?_, H.ltX⟩
  · obtain ⟨j, hj⟩ := List.getElem?_of_mem hu; exact List.mem_of_getElem? (key j u hj)
  · obtain ⟨j, hj⟩ := List.getElem?_of_mem hu; exact List.mem_of_getElem? (key j u hj)
theorem TW.some3 {w W : World} {g : Nat} {k code : Int} {tag : Nat} {next : ByteArray} {more : Bool} {ge gc size h1 h2 h3 h4 : Int} {V1 V2 V3 : Value} {x y z : Nat × Value × List Value} {RL : List (Nat × Value × List Value)} (H : TW w W g k code tag next more ge gc size h1 h2 h3 h4 V1 V2 V3 (x :: y :: z :: RL)) : TW w W g k code tag next more ge gc size h1 h2 h3 h4 V1 V2 V3 [x, y, z] := ⟨H.box, H.bag.some3, H.bel⟩
theorem TW.turn {w W W' : World} {g : Nat} {k code : Int} {tag : Nat} {next : ByteArray} {more : Bool} {ge gc size h1 h2 h3 h4 : Int} {V1 V2 V3 : Value} {RL : List (Nat × Value × List Value)} (H : TW w W g k code tag next more ge gc size h1 h2 h3 h4 V1 V2 V3 RL) (i : Nat) {x : Nat × Value × List Value} (hx : RL[i]? = some x) {xs' : List Value} (hl : xs'.length = x.2.2.length) {b : Nat} (hb : x.2.1.ownBlock = some b) (o : W'.ownsRow (g + 1) x.1 1 x.2.1 x.2.2.length xs') (hg : W.grownBy W' (some b)) : TW w W' g k code tag next more ge gc size h1 h2 h3 h4 V1 V2 V3 (RL.set i (x.1, x.2.1, xs')) := by
  have hlt := ((H.bag.own x (List.mem_of_getElem? hx)).lt b hb).1
  refine ⟨?_, H.bag.turn i hx hl o (by rw [hb]; exact hg), ?_⟩
  · rw [hg.block g H.lt (by intro e; injection e; omega)]; exact H.box
  · exact H.bel.trans ⟨hg.os, hg.tape, hg.output, hg.size, fun q hq => hg.block q (by have := H.lt; omega) (by intro e; injection e; omega)⟩
set_option maxRecDepth 20000 in
set_option maxHeartbeats 8000000 in
theorem tells_walk (w : World) (k code : Int) (tag : Nat) (body : List Nat) (keys groups : List ByteArray) (next : ByteArray) (more : Bool) (ge gc size h1 h2 h3 h4 : Int) (A A2 A3 : Option Addr) (n c n2 c2 n3 c3 : Nat) (hr : Rd w w.heap.size A n (cb body)) (hr2 : Rd w w.heap.size A2 n2 (cs keys)) (hr3 : Rd w w.heap.size A3 n3 (cs groups))
    (hab : AnB ⟨k, tag, code, body, keys, groups, next, more, ge, gc, size, h1, h2, h3, h4⟩) (hn : n ≤ 140737488351232) (hn2 : n2 ≤ 8796093022000) (hn3 : n3 ≤ 8796093022000) (hk : -9223372036854775808 ≤ k ∧ k ≤ 9223372036854775807) (hc : -9223372036854775808 ≤ code ∧ code ≤ 9223372036854775807) (hs2 : ∀ t ∈ keys, t.size ≤ 140737488351232) (hs3 : ∀ t ∈ groups, t.size ≤ 140737488351232) :
    Calls Try.prog 6 #[.agg #[.int .i64 k, .int .u64 (tag : Int), .int .i64 code, .slice A n c, .slice A2 n2 c2, .slice A3 n3 c3, .string next, .bool more, .int .i64 ge, .int .i64 gc, .int .i64 size, .int .i64 h1, .int .i64 h2, .int .i64 h3, .int .i64 h4]] w fun e w' => e = .returned (.bool true) ∧ Below w.heap.size w w' := by
  have HQ : Hd (∀ (bs : List Nat) (ks gs : List ByteArray), (∀ x ∈ bs, x < 256) → AnB ⟨k, tag, code, bs, ks, gs, next, more, ge, gc, size, h1, h2, h3, h4⟩) := ⟨fun bs ks gs h => ⟨hab.tag, h, hab.n⟩⟩
  have hbl : body.length = n := by have := hr.1; rwa [cb_length] at this
  have hkl : keys.length = n2 := by have := hr2.1; rwa [cs_len] at this
  have hgl : groups.length = n3 := by have := hr3.1; rwa [cs_len] at this
  have HH : Hd (Rd w w.heap.size A n (cb body) ∧ Rd w w.heap.size A2 n2 (cs keys) ∧ Rd w w.heap.size A3 n3 (cs groups) ∧ (∀ x ∈ body, x < 256) ∧ body.length = n ∧ keys.length = n2 ∧ groups.length = n3 ∧ (∀ t ∈ keys, t.size ≤ 140737488351232) ∧ (∀ t ∈ groups, t.size ≤ 140737488351232)) := ⟨hr, hr2, hr3, hab.b, hbl, hkl, hgl, hs2, hs3⟩
  have HKC := Hd.mk (And.intro hk hc)
  obtain ⟨g, hg⟩ : ∃ g, w.heap.size = g := ⟨_, rfl⟩
  have H0 : Hd (TW w (w.alloc (.cells #[.int .i64 k, .int .u64 (tag : Int), .int .i64 code, .slice A n c, .slice A2 n2 c2, .slice A3 n3 c3, .string next, .bool more, .int .i64 ge, .int .i64 gc, .int .i64 size, .int .i64 h1, .int .i64 h2, .int .i64 h3, .int .i64 h4] 43)) g k code tag next more ge gc size h1 h2 h3 h4 (.slice A n c) (.slice A2 n2 c2) (.slice A3 n3 c3) []) :=
    ⟨by rw [← hg]; exact heap_alloc_new w _, Bag.nil _ _, by rw [← hg]; exact (Below.refl _ w).alloc (Nat.le_refl _) _⟩
  have HG := Hd.mk hg
  clear hr hr2 hr3 hab hbl hkl hgl hs2 hs3 hk hc hg
  go_enter Try.func6, Try.ntmps6
  go_upto_region 1 with fail
  obtain ⟨w0, hw0⟩ : ∃ w0, w.alloc (.cells #[.int .i64 k, .int .u64 (tag : Int), .int .i64 code, .slice A n c, .slice A2 n2 c2, .slice A3 n3 c3, .string next, .bool more, .int .i64 ge, .int .i64 gc, .int .i64 size, .int .i64 h1, .int .i64 h2, .int .i64 h3, .int .i64 h4] 43) = w0 := ⟨_, rfl⟩
  rw [hw0] at H0 ⊢
  rw [HG.out]
  clear hw0
  obtain ⟨c3_, c4_, c5_, z3_, z4_, z5_⟩ := H0.out.cell
  clear c4_ c5_ z3_ z4_ z5_
  go_wp2_with fail
  refine (lent_any w0 A n c g body (HG.out ▸ (HH.out.1.below (HG.out ▸ H0.out.bel))) (by omega) (Nat.le_of_lt H0.out.lt)).mono ?_
  rintro e w1 ⟨gl, cap, rfl, ho, hb, hg1, hg2, hc⟩
  have HC := Hd.mk hc
  have H1 : Hd (TW w w1 g k code tag next more ge gc size h1 h2 h3 h4 (.slice A n c) (.slice A2 n2 c2) (.slice A3 n3 c3) ([] ++ [(5, .slice (some ⟨gl, 0, none⟩) (n + 64) cap, cb (body ++ marks))])) := ⟨H0.out.push (by rw [cb_length, List.length_append, marks_len, HH.out.2.2.2.2.1]) hb ho⟩
  clear ho hb hg1 hg2 hc H0 c3_
  obtain ⟨c3_, c4_, c5_, z3_, z4_, z5_⟩ := H1.out.cell
  clear c3_ c5_ z3_ z4_ z5_
  go_wp2_with fail
  refine (lentTexts_any w1 A2 n2 c2 g keys (HG.out ▸ (HH.out.2.1.below (HG.out ▸ H1.out.bel))) (by omega) (Nat.le_of_lt H1.out.lt)).mono ?_
  rintro e w2 ⟨gk, cap2, rfl, ho, hb, hg1, hg2, hc⟩
  have HC2 := Hd.mk hc
  have H2 := Hd.mk (H1.out.push (by rw [cs_len, List.length_append, List.length_replicate, HH.out.2.2.2.2.2.1]) hb ho)
  clear ho hb hg1 hg2 hc H1 c4_
  obtain ⟨c3_, c4_, c5_, z3_, z4_, z5_⟩ := H2.out.cell
  clear c3_ c4_ z3_ z4_ z5_
  go_wp2_with fail
  refine (lentTexts_any w2 A3 n3 c3 g groups (HG.out ▸ (HH.out.2.2.1.below (HG.out ▸ H2.out.bel))) (by omega) (Nat.le_of_lt H2.out.lt)).mono ?_
  rintro e w3 ⟨gg, cap3, rfl, ho, hb, hg1, hg2, hc⟩
  have HC3 := Hd.mk hc
  have H3 := Hd.mk (H2.out.push (by rw [cs_len, List.length_append, List.length_replicate, HH.out.2.2.2.2.2.2.1]) hb ho)
  clear ho hb hg1 hg2 hc H2 c5_
  go_wp2_with fail
  go_loopw [6] (fun u6 wr => ∃ (tn : Nat) (V1 V2 V3 : Value) (bs : List Nat) (ks gs : List ByteArray), tn ≤ 2 ∧ u6 = .int .i64 (tn : Int) ∧ bs.length = n ∧ (∀ x ∈ bs, x < 256) ∧ ks.length = n2 ∧ gs.length = n3 ∧ (∀ t ∈ ks, t.size ≤ 140737488351232 + tn) ∧ (∀ t ∈ gs, t.size ≤ 140737488351232 + tn) ∧ TW w wr g k code tag next more ge gc size h1 h2 h3 h4 V1 V2 V3 [(5, .slice (some ⟨gl, 0, none⟩) (n + 64) cap, cb (bs ++ marks)), (9, .slice (some ⟨gk, 0, none⟩) (n2 + 64) cap2, cs (ks ++ List.replicate 64 markS)), (9, .slice (some ⟨gg, 0, none⟩) (n3 + 64) cap3, cs (gs ++ List.replicate 64 markS))]) (fun u6 _ => 2 - (intOf u6).toNat)
  case atStart => exact ⟨0, _, _, _, body, keys, groups, by omega, rfl, HH.out.2.2.2.2.1, HH.out.2.2.2.1, HH.out.2.2.2.2.2.1, HH.out.2.2.2.2.2.2.1, HH.out.2.2.2.2.2.2.2.1, HH.out.2.2.2.2.2.2.2.2, H3.out⟩
  case round =>
    clear H3
    obtain ⟨tn, V1, V2, V3, bs, ks, gs, htn, rfl, hbl, hbb, hkl, hgl, hks, hgs, hA⟩ := hrel
    have H2 := Hd.mk (And.intro hbl (And.intro hbb (And.intro hkl (And.intro hgl (And.intro hks (And.intro hgs hA))))))
    clear hbl hbb hkl hgl hks hgs hA
    obtain ⟨wo, hwo⟩ : ∃ wo : World, wo = wr := ⟨_, rfl⟩
    subst hwo
    by_cases htt : tn < 2
    · have hti : (tn : Int) < 2 := by omega
      have HL : Hd (∀ W V1 V2 V3 RL, TW w W g k code tag next more ge gc size h1 h2 h3 h4 V1 V2 V3 ((5, .slice (some ⟨gl, 0, none⟩) (n + 64) cap, cb (bs ++ marks)) :: (9, .slice (some ⟨gk, 0, none⟩) (n2 + 64) cap2, cs (ks ++ List.replicate 64 markS)) :: (9, .slice (some ⟨gg, 0, none⟩) (n3 + 64) cap3, cs (gs ++ List.replicate 64 markS)) :: RL) → Rd W W.heap.size (some ⟨gl, 0, none⟩) n (cb bs) ∧ Rd W W.heap.size (some ⟨gk, 0, none⟩) n2 (cs ks) ∧ Rd W W.heap.size (some ⟨gg, 0, none⟩) n3 (cs gs)) := ⟨fun W V1 V2 V3 RL h => by
        refine ⟨?_, ?_, ?_⟩
        · have h := (h.bag.rd 0 rfl).take (h := n) (by omega)
          rw [cb, ← List.map_take, List.take_left' H2.out.1] at h
          exact h
        · have h := (h.bag.rd 1 rfl).take (h := n2) (by omega)
          rw [cs, ← List.map_take, List.take_left' H2.out.2.2.1] at h
          exact h
        · have h := (h.bag.rd 2 rfl).take (h := n3) (by omega)
          rw [cs, ← List.map_take, List.take_left' H2.out.2.2.2.1] at h
          exact h⟩
      have h63 : Hd (0 + n2 ≤ maxLen ∧ 0 + n3 ≤ maxLen ∧ (0 + n2) * 16 ≤ 140737488355328 ∧ (0 + n3) * 16 ≤ 140737488355328) := ⟨by unfold maxLen; omega⟩
      go_wp2_with fail
      refine (copied_any wo (some ⟨gl, 0, none⟩) n cap wo.heap.size bs (HL.out wo _ _ _ _ H2.out.2.2.2.2.2.2).1 (by omega)).mono ?_
      rintro e w2 ⟨B3, d3, rfl, ho, hc2, hb⟩
      have R3 := Hd.mk (H2.out.2.2.2.2.2.2.push (by rw [cb_length]; exact H2.out.1) hb ho)
      clear ho hb
      go_upto_region 9 with (at_builtin; refine wpList_app elS rfl (.const (.slice none 0 0)) (.tmp 32) rfl w2.heap.size (.slice none 0 0) 0 [] rfl (World.ownsRow_nil ..) w2.heap.size (some ⟨gk, 0, none⟩) n2 cap2 (cs ks) rfl (HL.out w2 _ _ _ _ R3.out).2.1 (cs_one _) h63.out.1 h63.out.2.2.1 (Nat.le_refl _) ?_; intro v_ w3 hO1; have HO1 : Hd (Onto w2 w3 w2.heap.size 9 (.slice none 0 0) v_ n2 (cs ks)) := ⟨by simpa using hO1⟩; clear hO1)
      obtain ⟨B4, d4, hv_, hcap_, _⟩ := own_form HO1.out.own
      subst hv_
      have R4 := Hd.mk (R3.out.push (by rw [cs_len]; exact H2.out.2.2.1) (HO1.out.below (fun k hk => by cases hk) (Nat.le_refl _)) HO1.out.own)
      clear HO1
      go_upto_region 10 with (at_builtin; refine wpList_app elS rfl (.const (.slice none 0 0)) (.tmp 34) rfl w3.heap.size (.slice none 0 0) 0 [] rfl (World.ownsRow_nil ..) w3.heap.size (some ⟨gg, 0, none⟩) n3 cap3 (cs gs) rfl (HL.out w3 _ _ _ _ R4.out).2.2 (cs_one _) h63.out.2.1 h63.out.2.2.2 (Nat.le_refl _) ?_; intro v_ w4 hO1; have HO1 : Hd (Onto w3 w4 w3.heap.size 9 (.slice none 0 0) v_ n3 (cs gs)) := ⟨by simpa using hO1⟩; clear hO1)
      obtain ⟨B5, d5, hv_, hcap_, _⟩ := own_form HO1.out.own
      subst hv_
      have R5 := Hd.mk (R4.out.push (by rw [cs_len]; exact H2.out.2.2.2.1) (HO1.out.below (fun k hk => by cases hk) (Nat.le_refl _)) HO1.out.own)
      clear HO1
      clear R3 R4
      go_wp2_with fail
      refine (copied_any w4 (some ⟨gl, 0, none⟩) n cap w4.heap.size bs (HL.out w4 _ _ _ _ R5.out).1 (by omega)).mono ?_
      rintro e w5 ⟨B6, d6, rfl, ho, hc6, hb⟩
      have R6 := Hd.mk (R5.out.push (by rw [cb_length]; exact H2.out.1) hb ho)
      clear ho hb R5
      go_upto_region 11 with (first | (at_builtin; refine wpList_app elS rfl (.const (.slice none 0 0)) (.tmp 38) rfl w5.heap.size (.slice none 0 0) 0 [] rfl (World.ownsRow_nil ..) w5.heap.size B4 n2 d4 (cs ks) rfl (R6.out.bag.rd 4 rfl) (cs_one _) h63.out.1 h63.out.2.2.1 (Nat.le_refl _) ?_; intro v_ w6 hO1; have HO1 : Hd (Onto w5 w6 w5.heap.size 9 (.slice none 0 0) v_ n2 (cs ks)) := ⟨by simpa using hO1⟩; clear hO1; obtain ⟨B7, d7, hv_, hcap_, _⟩ := own_form HO1.out.own; subst hv_; have R7 := Hd.mk (R6.out.push (by rw [cs_len]; exact H2.out.2.2.1) (HO1.out.below (fun k hk => by cases hk) (Nat.le_refl _)) HO1.out.own); clear HO1) | (at_builtin; refine wpList_app elS rfl (.const (.slice none 0 0)) (.tmp 40) rfl w6.heap.size (.slice none 0 0) 0 [] rfl (World.ownsRow_nil ..) w6.heap.size B5 n3 d5 (cs gs) rfl (R7.out.bag.rd 5 rfl) (cs_one _) h63.out.2.1 h63.out.2.2.2 (Nat.le_refl _) ?_; intro v_ w7 hO1; have HO1 : Hd (Onto w6 w7 w6.heap.size 9 (.slice none 0 0) v_ n3 (cs gs)) := ⟨by simpa using hO1⟩; clear hO1; obtain ⟨B8, d8, hv_, hcap_, _⟩ := own_form HO1.out.own; subst hv_; have R8 := Hd.mk (R7.out.push (by rw [cs_len]; exact H2.out.2.2.2.1) (HO1.out.below (fun k hk => by cases hk) (Nat.le_refl _)) HO1.out.own); clear HO1; obtain ⟨u3, u4, u5, z3_, z4_, z5_⟩ := R8.out.cell))
      have R9 := Hd.mk (R8.out.set (.slice B6 n d6) (.slice B7 n2 d7) (.slice B8 n3 d8))
      obtain ⟨w8, hw8⟩ : ∃ U, (((w7.setCell ⟨g, 3, none⟩ (.slice B6 n d6)).setCell ⟨g, 4, none⟩ (.slice B7 n2 d7)).setCell ⟨g, 5, none⟩ (.slice B8 n3 d8)) = U := ⟨_, rfl⟩
      rw [hw8] at R9 ⊢
      clear hw8 u3 u4 u5 z3_ z4_ z5_ R6 R7 R8
      have hbx := R9.out.box
      go_wp2_with (refine at_load (x := .tmp 1) ?_; refine wpList_load_row rfl 43 (.tmp 1) rfl g rfl 43 #[.int .i64 k, .int .u64 (tag : Int), .int .i64 code, .slice B6 n d6, .slice B7 n2 d7, .slice B8 n3 d8, .string next, .bool more, .int .i64 ge, .int .i64 gc, .int .i64 size, .int .i64 h1, .int .i64 h2, .int .i64 h3, .int .i64 h4] (0, 0) _ hbx Try.underlying43 rfl infoAn15 ?_)
      have HAX : Hd (AnB ⟨k, tag, code, bs, ks, gs, next, more, ge, gc, size, h1, h2, h3, h4⟩) := ⟨HQ.out bs ks gs H2.out.2.1⟩
      refine (refTell_any0 w8 ⟨k, tag, code, bs, ks, gs, next, more, ge, gc, size, h1, h2, h3, h4⟩ k code tag bs ks gs next more ge gc size h1 h2 h3 h4 rfl B6 B7 B8 n d6 n2 d7 n3 d8 (R9.out.bag.rd 6 rfl) (R9.out.bag.rd 7 rfl) (R9.out.bag.rd 8 rfl) HAX.out (by omega) (by omega)).mono ?_
      rintro e w9 ⟨v9, rfl, hO⟩
      obtain ⟨F, E, hFE⟩ : ∃ F E, tellP ⟨k, tag, code, bs, ks, gs, next, more, ge, gc, size, h1, h2, h3, h4⟩ = (F, E) := ⟨_, _, rfl⟩
      have HFE := Hd.mk hFE
      rw [hFE] at hO ⊢
      simp only at hO ⊢
      have R10 := Hd.mk (R9.out.push (by rw [cb_length]) (hO.below (fun k hk => by cases hk) (Nat.le_refl _)) hO.own)
      obtain ⟨A9, c9, e9, _, _⟩ := own_form hO.own
      subst e9
      clear hO hFE R9 hbx
      obtain ⟨u3, u4, u5, z3_, z4_, z5_⟩ := R10.out.cell
      have R11 := Hd.mk (R10.out.set (.slice (some ⟨gl, 0, none⟩) n cap) (.slice (some ⟨gk, 0, none⟩) n2 cap2) (.slice (some ⟨gg, 0, none⟩) n3 cap3))
      go_upto_region 13 with fail
      obtain ⟨wA, hwA⟩ : ∃ U, (((w9.setCell ⟨g, 3, none⟩ (.slice (some ⟨gl, 0, none⟩) n cap)).setCell ⟨g, 4, none⟩ (.slice (some ⟨gk, 0, none⟩) n2 cap2)).setCell ⟨g, 5, none⟩ (.slice (some ⟨gg, 0, none⟩) n3 cap3)) = U := ⟨_, rfl⟩
      rw [hwA] at R11 ⊢
      clear hwA u3 u4 u5 z3_ z4_ z5_ R10
      have hbx := R11.out.box
      go_wp2_with (refine at_load (x := .tmp 1) ?_; refine wpList_load_row rfl 43 (.tmp 1) rfl g rfl 43 #[.int .i64 k, .int .u64 (tag : Int), .int .i64 code, .slice (some ⟨gl, 0, none⟩) n cap, .slice (some ⟨gk, 0, none⟩) n2 cap2, .slice (some ⟨gg, 0, none⟩) n3 cap3, .string next, .bool more, .int .i64 ge, .int .i64 gc, .int .i64 size, .int .i64 h1, .int .i64 h2, .int .i64 h3, .int .i64 h4] (0, 0) _ hbx Try.underlying43 rfl infoAn15 ?_)
      refine (tell_any wA ⟨k, tag, code, bs, ks, gs, next, more, ge, gc, size, h1, h2, h3, h4⟩ (some ⟨gl, 0, none⟩) (some ⟨gk, 0, none⟩) (some ⟨gg, 0, none⟩) n cap n2 cap2 n3 cap3 (HL.out wA _ _ _ _ R11.out).1 (HL.out wA _ _ _ _ R11.out).2.1 (HL.out wA _ _ _ _ R11.out).2.2 HAX.out (by omega) (by omega) HKC.out.1 HKC.out.2).mono ?_
      rintro e wB ⟨vB, rfl, hO⟩
      rw [HFE.out] at hO ⊢
      simp only at hO ⊢
      have R12 := Hd.mk (R11.out.push (by rw [cb_length]) (hO.below (fun k hk => by cases hk) (Nat.le_refl _)) hO.own)
      obtain ⟨AB, cB, eB, _, _⟩ := own_form hO.own
      subst eB
      clear hO R11 hbx
      have f1 : (convert 26 9 (.slice A9 F.length c9)).run Try.prog wB = .ok (.string (bstr F)) wB := conv_any (R12.out.bag.rd 9 rfl)
      have f2 : (convert 26 9 (.slice AB F.length cB)).run Try.prog wB = .ok (.string (bstr F)) wB := conv_any (R12.out.bag.rd 10 rfl)
      obtain ⟨S, hS⟩ : ∃ S, bstr F = S := ⟨_, rfl⟩
      rw [hS] at f1 f2
      have e1 : (S.toList != S.toList) = false := by simp
      have e2 : (E != E) = false := by simp
      clear hS
      go_wp2_with fail
      have hun := R12.out.bag.own _ (List.mem_cons_self ..)
      simp only [cb_length, List.length_append, marks_len, H2.out.1] at hun
      refine (unmarked_any wB (g + 1) gl n cap wB.heap.size B3 d3 bs hun (R12.out.bag.rd 3 rfl) (by omega) HC.out).mono ?_
      rintro e wC ⟨rfl, hwC⟩
      subst hwC
      clear hun f1 f2 e1 e2
      go_wp2_with fail
      have hun := R12.out.bag.own _ (List.mem_cons_of_mem _ (List.mem_cons_self ..))
      simp only [cs_len, List.length_append, List.length_replicate, H2.out.2.2.1] at hun
      refine (unmarkedTexts_any wB (g + 1) gk n2 cap2 wB.heap.size B4 d4 ks hun (R12.out.bag.rd 4 rfl) (Nat.le_refl _) (by omega) HC2.out).mono ?_
      rintro e wC ⟨rfl, hbC⟩
      have R13 := Hd.mk (R12.out.keep hbC)
      clear hun hbC R12
      go_wp2_with fail
      have hun := R13.out.bag.own _ (List.mem_cons_of_mem _ (List.mem_cons_of_mem _ (List.mem_cons_self ..)))
      simp only [cs_len, List.length_append, List.length_replicate, H2.out.2.2.2.1] at hun
      refine (unmarkedTexts_any wC (g + 1) gg n3 cap3 wC.heap.size B5 d5 gs hun (R13.out.bag.rd 5 rfl) (Nat.le_refl _) (by omega) HC3.out).mono ?_
      rintro e wD ⟨rfl, hbD⟩
      have R14 := Hd.mk (R13.out.keep hbD).some3
      clear hun hbD R13 HL HAX HFE
      go_wp2_with fail
      go_loopw [14] (fun u14 wr => ∃ (i : Nat) (bs' : List Nat), i ≤ n ∧ u14 = .int .i64 (i : Int) ∧ bs'.length = n ∧ (∀ x ∈ bs', x < 256) ∧ TW w wr g k code tag next more ge gc size h1 h2 h3 h4 (.slice (some ⟨gl, 0, none⟩) n cap) (.slice (some ⟨gk, 0, none⟩) n2 cap2) (.slice (some ⟨gg, 0, none⟩) n3 cap3) [(5, .slice (some ⟨gl, 0, none⟩) (n + 64) cap, cb (bs' ++ marks)), (9, .slice (some ⟨gk, 0, none⟩) (n2 + 64) cap2, cs (ks ++ List.replicate 64 markS)), (9, .slice (some ⟨gg, 0, none⟩) (n3 + 64) cap3, cs (gs ++ List.replicate 64 markS))]) (fun u14 _ => n - (intOf u14).toNat)
      case atStart => exact ⟨0, bs, by omega, rfl, H2.out.1, H2.out.2.1, R14.out⟩
      case round =>
        obtain ⟨i, bs', hi, rfl, b1, b2, b3⟩ := hrel
        have H9 := Hd.mk (And.intro b1 (And.intro b2 b3))
        by_cases hlt : i < n
        · have hii : (i : Int) < (n : Int) := by omega
          have hx : bs'.getD i 0 < 256 := by
            rw [List.getD_eq_getElem?_getD, List.getElem?_eq_getElem (by omega)]; exact b2 _ (List.getElem_mem _)
          have ho := b3.bag.own _ (List.mem_cons_self ..)
          simp only [cb_length, List.length_append, marks_len, b1] at ho
          have HO := Hd.mk ho
          obtain ⟨hc1, hc2⟩ := own_at ho (j := i) (u := .int .u8 ((bs'.getD i 0 : Nat) : Int)) (by rw [cb_append, List.getElem?_append_left (by rw [cb_length]; omega), cb_get _ _ (by omega)])
          obtain ⟨x, hxx⟩ : ∃ x, bs'.getD i 0 = x := ⟨_, rfl⟩
          rw [hxx] at hx hc1
          clear b1 b2 b3 hxx ho
          go_wp2_with fail
          go_roundw
          case rel =>
            obtain ⟨z, hz⟩ : ∃ z, (x * 3 + i + 1) % 256 = z := ⟨_, rfl⟩
            have hzi : ((x : Int) * 3 + (i : Int) + 1) % 256 = (z : Int) := by omega
            rw [hzi]
            have hst := HO.out.stored i (.int .u8 (z : Int))
            have hset : (cb (bs' ++ marks)).set i (.int .u8 (z : Int)) = cb (bs'.set i z ++ marks) := by
              rw [← List.set_append_left _ _ (by rw [H9.out.1]; exact hlt)]; unfold cb; rw [List.map_set]; rfl
            rw [hset] at hst
            refine ⟨i + 1, bs'.set i z, by omega, by go_num, by rw [List.length_set]; exact H9.out.1, fun y hy => ?_, ?_⟩
            · rcases List.mem_or_eq_of_mem_set hy with h | h
              · exact H9.out.2.1 y h
              · omega
            · exact H9.out.2.2.turn 0 rfl (by simp only [cb_length, List.length_append, List.length_set]) rfl (by simp only [cb_length, List.length_append, marks_len, H9.out.1]; exact hst.1) hst.2
          case measure => simp [intOf]; omega
        · have hin : ¬ (i : Int) < (n : Int) := by omega
          clear b1 b2 b3 hlt hi R14
          go_wp2_with fail
          obtain ⟨w9, hw9⟩ : ∃ wo : World, wo = wr := ⟨_, rfl⟩
          subst hw9
          go_loopw [15] (fun u15 wr => ∃ (i : Nat) (ks' : List ByteArray), i ≤ n2 ∧ u15 = .int .i64 (i : Int) ∧ ks'.length = n2 ∧ (∀ t ∈ ks', t.size ≤ 140737488351232 + tn + 1) ∧ (∀ j, i ≤ j → ks'[j]? = ks[j]?) ∧ TW w wr g k code tag next more ge gc size h1 h2 h3 h4 (.slice (some ⟨gl, 0, none⟩) n cap) (.slice (some ⟨gk, 0, none⟩) n2 cap2) (.slice (some ⟨gg, 0, none⟩) n3 cap3) [(5, .slice (some ⟨gl, 0, none⟩) (n + 64) cap, cb (bs' ++ marks)), (9, .slice (some ⟨gk, 0, none⟩) (n2 + 64) cap2, cs (ks' ++ List.replicate 64 markS)), (9, .slice (some ⟨gg, 0, none⟩) (n3 + 64) cap3, cs (gs ++ List.replicate 64 markS))]) (fun u15 _ => n2 - (intOf u15).toNat)
          case atStart => exact ⟨0, ks, by omega, rfl, H2.out.2.2.1, fun t ht => by have := H2.out.2.2.2.2.1 t ht; omega, fun _ _ => rfl, H9.out.2.2⟩
          case round =>
            obtain ⟨i2, ks', hi, rfl, b1, b2, b4, b3⟩ := hrel
            have HA := Hd.mk (And.intro b1 (And.intro b2 (And.intro b4 b3)))
            by_cases hlt : i2 < n2
            · have hii : (i2 : Int) < (n2 : Int) := by omega
              have ho := b3.bag.own _ (List.mem_cons_of_mem _ (List.mem_cons_self ..))
              simp only [cs_len, List.length_append, List.length_replicate, b1] at ho
              have HO := Hd.mk ho
              have hcc := ho.cellAt i2 (by omega)
              rw [cs_append, List.getElem?_append_left (by rw [cs_len, b1]; exact hlt), cs_get _ _ (by rw [b1]; exact hlt)] at hcc
              have hz := ho.frozenAt i2
              obtain ⟨S2, hS2⟩ : ∃ S, ks'.getD i2 ByteArray.empty = S := ⟨_, rfl⟩
              rw [hS2] at hcc
              have hsz : S2.size ≤ 140737488351234 := by
                have h1 := b4 i2 (Nat.le_refl _)
                have h2 : ks[i2]? = some S2 := by rw [← h1, ← hS2, List.getD_eq_getElem?_getD, List.getElem?_eq_getElem (by omega)]; rfl
                have := H2.out.2.2.2.2.1 S2 (List.mem_of_getElem? h2)
                omega
              have HSZ : Hd (S2.size ≤ 140737488351232 + tn) := ⟨by
                have h1 := b4 i2 (Nat.le_refl _)
                have h2 : ks[i2]? = some S2 := by rw [← h1, ← hS2, List.getD_eq_getElem?_getD, List.getElem?_eq_getElem (by omega)]; rfl
                exact H2.out.2.2.2.2.1 S2 (List.mem_of_getElem? h2)⟩
              clear b1 b2 b3 b4 hS2 ho
              go_wp2_with fail
              go_roundw
              case rel =>
                have hst := HO.out.stored i2 (.string (⟨#[120]⟩ ++ S2))
                have hset : (cs (ks' ++ List.replicate 64 markS)).set i2 (.string (⟨#[120]⟩ ++ S2)) = cs (ks'.set i2 (⟨#[120]⟩ ++ S2) ++ List.replicate 64 markS) := by
                  rw [cs_append, cs_append, List.set_append_left _ _ (by rw [cs_len, HA.out.1]; exact hlt)]; unfold cs; rw [List.map_set]
                rw [hset] at hst
                refine ⟨i2 + 1, ks'.set i2 (⟨#[120]⟩ ++ S2), by omega, by go_num, by rw [List.length_set]; exact HA.out.1, fun t ht => ?_, fun j hj => ?_, ?_⟩
                · rcases List.mem_or_eq_of_mem_set ht with h | h
                  · exact HA.out.2.1 t h
                  · rw [h, ByteArray.size_append]; have := HSZ.out; show 1 + S2.size ≤ _; omega
                · rw [List.getElem?_set_ne (by omega)]; exact HA.out.2.2.1 j (by omega)
                · exact HA.out.2.2.2.turn 1 rfl (by simp only [cs_len, List.length_append, List.length_set]) rfl (by simp only [cs_len, List.length_append, List.length_replicate, HA.out.1]; exact hst.1) hst.2
              case measure => simp [intOf]; omega
            · have hin2 : ¬ (i2 : Int) < (n2 : Int) := by omega
              clear b1 b2 b3 b4 hlt hi
              go_wp2_with fail
              obtain ⟨wA, hwA⟩ : ∃ wo : World, wo = wr := ⟨_, rfl⟩
              subst hwA
              go_loopw [16] (fun u16 wr => ∃ (i : Nat) (gs' : List ByteArray), i ≤ n3 ∧ u16 = .int .i64 (i : Int) ∧ gs'.length = n3 ∧ (∀ t ∈ gs', t.size ≤ 140737488351232 + tn + 1) ∧ (∀ j, i ≤ j → gs'[j]? = gs[j]?) ∧ TW w wr g k code tag next more ge gc size h1 h2 h3 h4 (.slice (some ⟨gl, 0, none⟩) n cap) (.slice (some ⟨gk, 0, none⟩) n2 cap2) (.slice (some ⟨gg, 0, none⟩) n3 cap3) [(5, .slice (some ⟨gl, 0, none⟩) (n + 64) cap, cb (bs' ++ marks)), (9, .slice (some ⟨gk, 0, none⟩) (n2 + 64) cap2, cs (ks' ++ List.replicate 64 markS)), (9, .slice (some ⟨gg, 0, none⟩) (n3 + 64) cap3, cs (gs' ++ List.replicate 64 markS))]) (fun u16 _ => n3 - (intOf u16).toNat)
              case atStart => exact ⟨0, gs, by omega, rfl, H2.out.2.2.2.1, fun t ht => by have := H2.out.2.2.2.2.2.1 t ht; omega, fun _ _ => rfl, HA.out.2.2.2⟩
              case round =>
                obtain ⟨i3, gs', hi, rfl, b1, b2, b4, b3⟩ := hrel
                have HB := Hd.mk (And.intro b1 (And.intro b2 (And.intro b4 b3)))
                by_cases hlt : i3 < n3
                · have hii : (i3 : Int) < (n3 : Int) := by omega
                  have ho := b3.bag.own _ (List.mem_cons_of_mem _ (List.mem_cons_of_mem _ (List.mem_cons_self ..)))
                  simp only [cs_len, List.length_append, List.length_replicate, b1] at ho
                  have HO := Hd.mk ho
                  have hcc := ho.cellAt i3 (by omega)
                  rw [cs_append, List.getElem?_append_left (by rw [cs_len, b1]; exact hlt), cs_get _ _ (by rw [b1]; exact hlt)] at hcc
                  have hz := ho.frozenAt i3
                  obtain ⟨S2, hS2⟩ : ∃ S, gs'.getD i3 ByteArray.empty = S := ⟨_, rfl⟩
                  rw [hS2] at hcc
                  have HSZ : Hd (S2.size ≤ 140737488351232 + tn) := ⟨by
                    have h1 := b4 i3 (Nat.le_refl _)
                    have h2 : gs[i3]? = some S2 := by rw [← h1, ← hS2, List.getD_eq_getElem?_getD, List.getElem?_eq_getElem (by omega)]; rfl
                    exact H2.out.2.2.2.2.2.1 S2 (List.mem_of_getElem? h2)⟩
                  have hsz : S2.size ≤ 140737488351234 := by have := HSZ.out; omega
                  clear b1 b2 b3 b4 hS2 ho
                  go_wp2_with fail
                  go_roundw
                  case rel =>
                    have hst := HO.out.stored i3 (.string (S2 ++ ⟨#[121]⟩))
                    have hset : (cs (gs' ++ List.replicate 64 markS)).set i3 (.string (S2 ++ ⟨#[121]⟩)) = cs (gs'.set i3 (S2 ++ ⟨#[121]⟩) ++ List.replicate 64 markS) := by
                      rw [cs_append, cs_append, List.set_append_left _ _ (by rw [cs_len, HB.out.1]; exact hlt)]; unfold cs; rw [List.map_set]
                    rw [hset] at hst
                    refine ⟨i3 + 1, gs'.set i3 (S2 ++ ⟨#[121]⟩), by omega, by go_num, by rw [List.length_set]; exact HB.out.1, fun t ht => ?_, fun j hj => ?_, ?_⟩
                    · rcases List.mem_or_eq_of_mem_set ht with h | h
                      · exact HB.out.2.1 t h
                      · rw [h, ByteArray.size_append]; have := HSZ.out; show S2.size + 1 ≤ _; omega
                    · rw [List.getElem?_set_ne (by omega)]; exact HB.out.2.2.1 j (by omega)
                    · exact HB.out.2.2.2.turn 2 rfl (by simp only [cs_len, List.length_append, List.length_set]) rfl (by simp only [cs_len, List.length_append, List.length_replicate, HB.out.1]; exact hst.1) hst.2
                  case measure => simp [intOf]; omega
                · have hin3 : ¬ (i3 : Int) < (n3 : Int) := by omega
                  clear b1 b2 b3 b4 hlt hi
                  go_wp2_with fail
                  go_roundw
                  case rel => exact ⟨tn + 1, _, _, _, bs', ks', gs', by omega, by go_num, H9.out.1, H9.out.2.1, HA.out.1, HB.out.1, fun t ht => by have := HA.out.2.1 t ht; omega, fun t ht => by have := HB.out.2.1 t ht; omega, HB.out.2.2.2⟩
                  case measure => simp [intOf]; omega
    · have htt2 : tn = 2 := by omega
      subst htt2
      go_wp2_with fail
      go_ret
      exact ⟨rfl, by rw [HG.out]; exact H2.out.2.2.2.2.2.2.bel⟩
end Go.Proofs.Ytbcmjjcbjojakaa
end
