/- Append onto a row of one's own, saying what else stands: in its own block, or in a new one with every old block as it was. Plain theorems over any program. -/
import Derived.Test.YtjkenhkoakaaoaaMemN
import Derived.Maps.AppendAt
namespace Go.Proofs.Ytjkenhkoakaaoaa
open Go.RowKit
set_option linter.unusedVariables false
/-- A row grown: in place, or in a block that is new (then no old block changed). -/
def OntoS (w w' : World) (base e : Nat) (s v' : Value) (n : Nat) (xs : List Value) : Prop :=
  w'.ownsRow base e 1 v' n xs ∧ w.grownBy w' s.ownBlock ∧ (v'.ownBlock = s.ownBlock ∨ (v'.ownBlock = some w.heap.size ∧ ∀ k, k < w.heap.size → w'.heap[k]? = w.heap[k]?))
section
variable {P : Program} {w w' : World} {base e : Nat} {s v' : Value} {n : Nat} {xs : List Value}
theorem OntoS.own (h : OntoS w w' base e s v' n xs) : w'.ownsRow base e 1 v' n xs := h.1
theorem OntoS.size (h : OntoS w w' base e s v' n xs) : w.heap.size ≤ w'.heap.size := h.2.1.size
theorem OntoS.below {B : Nat} (h : OntoS w w' base e s v' n xs) (hs : ∀ k, s.ownBlock = some k → B ≤ k) (hB : B ≤ w.heap.size) : Below B w w' := (Below.refl B w).grown h.2.1 hB hs
/-- A block that is not the row's stands. -/
theorem OntoS.block (h : OntoS w w' base e s v' n xs) {g : Nat} (hg : g < w.heap.size) (hne : s.ownBlock ≠ some g) : w'.heap[g]? = w.heap[g]? := h.2.1.block g hg fun e => hne e.symm
/-- A reading of the row's first cells stands too. -/
theorem OntoS.cell (h : OntoS w w' base e s v' n xs) {ys : List Value} {m : Nat} (hs : w.ownsRow base e 1 s m ys) (hp : ∀ (j : Nat) (u : Value), ys[j]? = some u → xs[j]? = some u) {g : Nat} (hg : s.ownBlock = some g) {j : Nat} {u : Value} (hj : ys[j]? = some u) : w'.cell? ⟨g, j, none⟩ = some u := by
  have hc : w.cell? ⟨g, j, none⟩ = some u := by
    rcases hs.2 with ⟨hv, h0⟩ | ⟨g', cap, cur, hv, hb, hgc, hnc, hm, hcs, htake⟩
    · subst hv; cases hg
    · subst hv
      injection hg with hg
      subst hg
      have := World.ownsRow.cells hs (g := g') rfl j u hj
      rwa [show (⟨g', 0, none⟩ : Addr).add j = ⟨g', j, none⟩ by unfold Addr.add; split <;> simp_all] at this
  rcases h.2.2 with e | ⟨e, hall⟩
  · have hxj := hp j u hj
    have hv' := e.trans hg
    rcases h.1.2 with ⟨hv, h0⟩ | ⟨g', cap, cur, hv, hb, hgc, hnc, hm, hcs, htake⟩
    · subst hv; cases hv'
    · subst hv
      injection hv' with hv'
      subst hv'
      have := World.ownsRow.cells h.1 (g := g') rfl j u hxj
      rwa [show (⟨g', 0, none⟩ : Addr).add j = ⟨g', j, none⟩ by unfold Addr.add; split <;> simp_all] at this
  · have hlt : g < w.heap.size := (hs.lt g hg).2
    rw [World.cell?_of_block (a := ⟨g, j, none⟩) (hall g hlt)]
    exact hc
variable {t bytes : Nat} {z : Value}
theorem run_appS (E : El P t e bytes z) (ty : Nat) (v : Value) (n : Nat) (xs : List Value) (hown : w.ownsRow base e 1 v n xs) (a : Addr) (m c : Nat) (news : List Value) (hl : news.length = m) (hnews : ∀ j u, news[j]? = some u → w.cell? (a.add j) = some u) (h1 : ∀ u ∈ news, u.oneCell' = true)
    (h63 : n + m ≤ maxLen) (hbytes : (n + m) * bytes ≤ 140737488355328) (hbase : base ≤ w.heap.size) :
    ∃ v' w', (Builtin.append_ #[t, t] ty #[v, .slice (some a) m c]).run P w = .ok v' w' ∧ OntoS w w' base e v v' (n + m) (xs ++ news) := by
  obtain ⟨i, hi, hz, hs, hb⟩ := E.hi
  obtain ⟨v', w', hr, h2, h3, _, h5⟩ := run_append_own_at (P := P) w base t ty e i z 1 bytes E.ht hi hz hs hb E.hz (by omega) v n xs hown a m c news (by omega) hnews h1 h63 hbytes hbase
  refine ⟨v', w', hr, h2, h3, ?_⟩
  rcases h5 with h5 | h5
  · exact .inl h5
  rcases hown.2 with ⟨hv, h0⟩ | ⟨g, cap, cur, hv, hbg, hg, hnc, hcm, hcs, htake⟩
  · exact .inr ⟨h5, fun k hk => h3.block k hk (by rw [hv]; simp [Value.ownBlock])⟩
  · subst hv
    by_cases hroom : n + m ≤ cap
    · left
      have hr2 := run_append_room (P := P) w t ty e i E.ht hi g n cap cur hg a m c news (by rw [hs]; omega) hnews h1 hroom (by rw [hs]; omega)
      rw [hr] at hr2
      injection hr2 with e1 _
      subst e1
      rfl
    · refine .inr ⟨h5, ?_⟩
      have holds : ∀ j u, xs[j]? = some u → w.cell? ((⟨g, 0, none⟩ : Addr).add j) = some u := World.ownsRow.cells hown (g := g) rfl
      have hx := hown.1
      have hr2 := run_append_grow (P := P) w t ty e i z E.ht hi hz ⟨g, 0, none⟩ n cap xs (by rw [hs]; exact hx) holds a m c news (by rw [hs]; omega) hnews (by omega) (by unfold maxLen at h63; omega) (growslice_fits (by omega) (by rw [hb]; exact hbytes))
      rw [hr] at hr2
      injection hr2 with _ e2
      subst e2
      intro k hk
      exact heap_alloc_old w.drew _ hk
/-- Elements of several cells: 'append(s, x)' where '[]T{x}' lies built; what else stands. -/
def OntoSN (w w' : World) (base e size : Nat) (s v' : Value) (n : Nat) (xs : List Value) : Prop :=
  w'.ownsRow base e size v' n xs ∧ w.grownBy w' s.ownBlock ∧ (v'.ownBlock = s.ownBlock ∨ (v'.ownBlock = some w.heap.size ∧ ∀ k, k < w.heap.size → w'.heap[k]? = w.heap[k]?))
theorem run_appSN {size : Nat} (E : ElN P t e size bytes) (ty : Nat) (v : Value) (n : Nat) (xs : List Value) (hown : w.ownsRow base e size v n xs) (a : Addr) (m c : Nat) (news : List Value) (hl : news.length = m * size) (hnews : ∀ j u, news[j]? = some u → w.cell? (a.add j) = some u) (h1 : ∀ u ∈ news, u.oneCell' = true)
    (h63 : n + m ≤ maxLen) (hbytes : (n + m) * bytes ≤ 140737488355328) (hbase : base ≤ w.heap.size) :
    ∃ v' w', (Builtin.append_ #[t, t] ty #[v, .slice (some a) m c]).run P w = .ok v' w' ∧ OntoSN w w' base e size v v' (n + m) (xs ++ news) := by
  obtain ⟨i, z, hi, hz, hs, hb, hzs⟩ := E.hi
  obtain ⟨v', w', hr, h2, h3, _, h5⟩ := run_append_own_at (P := P) w base t ty e i z size bytes E.ht hi hz hs hb hzs E.hs.1 v n xs hown a m c news hl hnews h1 h63 hbytes hbase
  refine ⟨v', w', hr, h2, h3, ?_⟩
  rcases h5 with h5 | h5
  · exact .inl h5
  rcases hown.2 with ⟨hv, h0⟩ | ⟨g, cap, cur, hv, hbg, hg, hnc, hcm, hcs, htake⟩
  · exact .inr ⟨h5, fun k hk => h3.block k hk (by rw [hv]; simp [Value.ownBlock])⟩
  · subst hv
    by_cases hroom : n + m ≤ cap
    · left
      have hr2 := run_append_room (P := P) w t ty e i E.ht hi g n cap cur hg a m c news (by rw [hs]; exact hl) hnews h1 hroom (by rw [hs, hl, hcs, ← Nat.add_mul]; exact Nat.mul_le_mul_right _ hroom)
      rw [hr] at hr2
      injection hr2 with e1 _
      subst e1
      rfl
    · refine .inr ⟨h5, ?_⟩
      have holds : ∀ j u, xs[j]? = some u → w.cell? ((⟨g, 0, none⟩ : Addr).add j) = some u := World.ownsRow.cells hown (g := g) rfl
      have hr2 := run_append_grow (P := P) w t ty e i z E.ht hi hz ⟨g, 0, none⟩ n cap xs (by rw [hs]; exact hown.1) holds a m c news (by rw [hs]; exact hl) hnews (by omega) (by unfold maxLen at h63; omega) (growslice_fits (by omega) (by rw [hb]; exact hbytes))
      rw [hr] at hr2
      injection hr2 with _ e2
      subst e2
      intro k hk
      exact heap_alloc_old w.drew _ hk
theorem pushSN_at0 {size : Nat} {ops : Array Oper} {rest : List Oper} {o : Oper} {a : Act} {w0 : World} {Q : Exit → Act → World → Prop} (E : ElN P t e size bytes) (hgd : o.guard = none) (s x : Operand) (ho : o.op = .call { callee := .builtin .append, args := #[s, x], argTypes := #[t, t] })
    (base : Nat) (v : Value) (n : Nat) (xs us : List Value) (hs : a.eval s = v) (N : Nat) (hN : w0.heap.size = N) (hx : a.eval x = .slice (some ⟨N, 0, none⟩) 1 1) (hus : us.length = size) (h1 : ∀ u ∈ us, u.oneCell' = true) (hown : w0.ownsRow base e size v n xs)
    (h63 : n + 1 ≤ maxLen) (hby : (n + 1) * bytes ≤ 140737488355328) (hbase : base ≤ w0.heap.size)
    (h : ∀ v' w', OntoSN (w0.alloc (.cells us.toArray e)) w' base e size v v' (n + 1) (xs ++ us) → wpList P ops Q rest (a.put o.dst v') w') :
    wpList P ops Q (o :: rest) a (w0.alloc (.cells us.toArray e)) := by
  subst hN
  refine wpList_plain hgd fun K hK => ?_
  obtain ⟨v', w', hrun, h2⟩ := run_appSN E o.type v n xs (hown.alloc (.cells us.toArray e)) ⟨w0.heap.size, 0, none⟩ 1 1 us (by omega) (fun j u hj => by
    rw [show (⟨w0.heap.size, 0, none⟩ : Addr).add j = ⟨w0.heap.size, j, none⟩ by unfold Addr.add; split <;> simp_all, cell_of_row _ _ _ _ _ _ (heap_alloc_new w0 _)]
    simpa using hj) h1 h63 hby (by simp; omega)
  unfold Oper.wp execOp
  simp only [ho, resolve, invoke, builtin, Sem.run_bind, Sem.run_pure, Result.andThen_ok, List.map_toArray, List.map_cons, List.map_nil, hs, hx, hrun]
  exact hK _ _ (h v' w' h2)
end
end Go.Proofs.Ytjkenhkoakaaoaa
