/- More words for memory: rows that share no block, literal rows. -/
import Derived.Test.YtjkenhkoakaaoaaMem
import Derived.Test.YtjkenhkoakaaoaaByt
import Derived.RegionTactic
import Derived.OwnWalk
namespace Go.Proofs.Ytjkenhkoakaaoaa
open Go.RowKit
/-- Two values share no row. -/
def Apart (v v' : Value) : Prop := ∀ k, v.ownBlock = some k → v'.ownBlock ≠ some k
theorem Apart.symm {v v' : Value} (h : Apart v v') : Apart v' v := fun k h1 h2 => h k h2 h1
theorem Apart.nil (v : Value) : Apart (.slice none 0 0) v := fun k h => by cases h
theorem Apart.nil' (v : Value) : Apart v (.slice none 0 0) := fun k _ h => by cases h
section
variable {w w1 : World} {base e n n1 base' e' size n' : Nat} {s v1 v : Value} {xs1 xs' : List Value}
theorem Onto.keep (h : Onto w w1 base e s v1 n1 xs1) (o : w.ownsRow base' e' size v n' xs') (d : Apart s v) : w1.ownsRow base' e' size v n' xs' :=
  o.kept h.2.1 (by
    cases hv : v.ownBlock with
    | none => exact .inl rfl
    | some k => exact .inr fun hs => d k hs.symm hv)
theorem Onto.apart (h : Onto w w1 base e s v1 n1 xs1) (o : w.ownsRow base' e' size v n' xs') (d : Apart s v) : Apart v1 v := fun k hk hv => by
  rcases h.2.2 k hk with h1 | h1
  · exact d k h1 hv
  · have := (o.lt k hv).2; omega
/-- A row written out: new, apart from all that was there. -/
theorem onto_lit {w : World} {e : TypeId} (cs : List Value) (hm : cs.length ≤ maxLen) :
    Onto w (w.alloc (.cells cs.toArray e)) w.heap.size e (.slice none 0 0) (.slice (some ⟨w.heap.size, 0, none⟩) cs.length cs.length) cs.length cs :=
  ⟨⟨by simp, .inr ⟨w.heap.size, cs.length, cs.toArray, rfl, Nat.le_refl _, heap_alloc_new w _, Nat.le_refl _, hm, by simp, by simp⟩⟩, World.grownBy_alloc w _ _, fun k hk => by simp [Value.ownBlock] at hk; exact .inr (by omega)⟩
theorem rd_lit {w : World} {e : TypeId} (cs : List Value) : Rd (w.alloc (.cells cs.toArray e)) (w.heap.size + 1) (some ⟨w.heap.size, 0, none⟩) cs.length cs :=
  ⟨rfl, fun h => ⟨w.heap.size, 0, rfl, by omega, fun i hi => by
    rw [cell_of_row _ w.heap.size (0 + i) cs.toArray e (0, 0) (heap_alloc_new w _)]; simp⟩⟩
theorem rd_litF {w : World} {e : TypeId} (cs : List Value) (fr : Nat × Nat) : Rd (w.alloc (.cells cs.toArray e fr)) (w.heap.size + 1) (some ⟨w.heap.size, 0, none⟩) cs.length cs :=
  ⟨rfl, fun h => ⟨w.heap.size, 0, rfl, by omega, fun i hi => by
    rw [cell_of_row _ w.heap.size (0 + i) cs.toArray e fr (heap_alloc_new w _)]; simp⟩⟩
theorem own_pos {w : World} {base e n : Nat} {v : Value} {xs : List Value} (h : w.ownsRow base e 1 v n xs) (hn : 0 < n) : ∃ g cap, v = .slice (some ⟨g, 0, none⟩) n cap ∧ base ≤ g ∧ g < w.heap.size := by
  rcases h.2 with ⟨_, h0⟩ | ⟨g, cap, cur, hv, hb, hg, _⟩
  · omega
  · exact ⟨g, cap, hv, hb, (Array.getElem?_eq_some_iff.1 hg).1⟩
end
section
variable {P : Program} {w : World} {t e bytes : Nat} {z : Value} {ops : Array Oper} {o : Oper} {a : Act} {Q : Exit → Act → World → Prop} {K : Act → World → Prop}
/-- 'append' as a step of a region that draws its order. -/
theorem step_app {Z : Prop} (E : El P t e bytes z) (hgd : o.guard = none) (s x : Operand) (ho : o.op = .call { callee := .builtin .append, args := #[s, x], argTypes := #[t, t] })
    (base : Nat) (v : Value) (n : Nat) (xs : List Value) (hs : a.eval s = v) (hown : w.ownsRow base e 1 v n xs) (B : Nat) (A : Option Addr) (m c : Nat) (news : List Value) (hx : a.eval x = .slice A m c)
    (hr : Rd w B A m news) (h1 : ∀ u ∈ news, u.oneCell' = true) (h63 : n + m ≤ maxLen) (hby : (n + m) * bytes ≤ 140737488355328) (hbase : base ≤ w.heap.size)
    (h : ∀ v' w', Onto w w' base e v v' (n + m) (xs ++ news) → K (a.put o.dst v') w') :
    if Region.wanted o (yielded ops a.tmps) = true then Oper.wp P o a w K Q else Z := by
  have hw : Region.wanted o (yielded ops a.tmps) = true := by simp [Region.wanted, hgd]
  rw [if_pos hw]
  obtain ⟨v', w', hrun, h2, h3, h4⟩ := run_app E o.type base v n xs hown B A m c news hr h1 h63 hby hbase
  unfold Oper.wp execOp
  simp only [ho, resolve, invoke, builtin, Sem.run_bind, Sem.run_pure, Result.andThen_ok, List.map_toArray, List.map_cons, List.map_nil, hs, hx, hrun]
  exact h v' w' ⟨h2, h3, fun k hk => by rcases h4 with h4 | h4 <;> rw [h4] at hk <;> first | exact .inl hk | (injection hk; omega)⟩
end
theorem Onto.cell {w w1 : World} {base e n1 : Nat} {s v1 : Value} {xs1 : List Value} (h : Onto w w1 base e s v1 n1 xs1) {p : Addr} (hp : p.block < w.heap.size) (hs : ∀ k, s.ownBlock = some k → p.block < k) : w1.cell? p = w.cell? p :=
  World.cell?_of_block (h.2.1.block p.block hp fun he => by have := hs _ he.symm; omega)
/-- Where a walk stands that began in w0: slices that read as these bytes; nothing that was there at the beginning has turned. -/
structure RS (w0 w : World) (L : List (Option Addr × Nat × List Nat)) : Prop where
  rds : ∀ x ∈ L, Rd w w.heap.size x.1 x.2.1 (cb x.2.2)
  bel : Below w0.heap.size w0 w
section
variable {w0 w w' : World} {L : List (Option Addr × Nat × List Nat)} {A : Option Addr} {n : Nat} {bs : List Nat}
theorem RS.start (h : ∀ x ∈ L, Rd w w.heap.size x.1 x.2.1 (cb x.2.2)) : RS w w L := ⟨h, Below.refl _ _⟩
theorem RS.step (h : RS w0 w L) (b : Below w.heap.size w w') : RS w0 w' L := ⟨fun x hx => ((h.rds x hx).below b).more b.size, h.bel.trans (b.mono h.bel.size)⟩
theorem RS.get (h : RS w0 w L) (hx : (A, n, bs) ∈ L) : Rd w w.heap.size A n (cb bs) := h.rds _ hx
theorem RS.push (h : RS w0 w L) (b : Below w.heap.size w w') (r : Rd w' w'.heap.size A n (cb bs)) : RS w0 w' ((A, n, bs) :: L) :=
  ⟨fun x hx => by
    rcases List.mem_cons.1 hx with h1 | h1
    · subst h1; exact r
    · exact (h.step b).rds x h1, (h.step b).bel⟩
end
end Go.Proofs.Ytjkenhkoakaaoaa
