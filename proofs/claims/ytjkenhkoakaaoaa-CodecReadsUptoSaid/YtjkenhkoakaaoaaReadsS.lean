/- Six readers, two by two alike, in one memory. -/
import Derived.Test.YtjkenhkoakaaoaaEqC
import Derived.Test.YtjkenhkoakaaoaaAwake
namespace Go.Proofs.Ytjkenhkoakaaoaa
open Go.RowKit
set_option linter.unusedVariables false
theorem Rr.far {w w1 : World} {gr n c p k : Nat} {A : Option Addr} {f : Int} {bs : List Nat} (R : Rr w gr A n c p f bs) (h : Chg [k] w w1) (hne : gr ≠ k) (ha : ∀ g off, A = some ⟨g, off, none⟩ → 0 < n → g ≠ k) : Rr w1 gr A n c p f bs :=
  R.keep h (by simpa using hne) (fun g off e hn => by have := ha g off e hn; simpa using this)
/-- Where the readers lie. -/
structure Geo (G : List Nat) (g1 g2 g3 g4 g5 g6 : Nat) (A1 A2 A3 A4 A5 A6 : Option Addr) (na nb : Nat) : Prop where
  lt : g1 < g2 ∧ g2 < g3 ∧ g3 < g4 ∧ g4 < g5 ∧ g5 < g6
  gl : ∀ k ∈ G, k ≤ g6
  a1 : ∀ k ∈ G, ∀ g off, A1 = some ⟨g, off, none⟩ → 0 < na → g ≠ k
  a2 : ∀ k ∈ G, ∀ g off, A2 = some ⟨g, off, none⟩ → 0 < nb → g ≠ k
  a3 : ∀ k ∈ G, ∀ g off, A3 = some ⟨g, off, none⟩ → 0 < na → g ≠ k
  a4 : ∀ k ∈ G, ∀ g off, A4 = some ⟨g, off, none⟩ → 0 < nb → g ≠ k
  m1 : g1 ∈ G
  m2 : g2 ∈ G
  m3 : g3 ∈ G
  m4 : g4 ∈ G
  m5 : g5 ∈ G
  m6 : g6 ∈ G
structure St (w : World) (g1 g2 g3 g4 g5 g6 : Nat) (A1 A2 A3 A4 A5 A6 : Option Addr) (c1 c2 c3 c4 c5 c6 na nb : Nat) (a b : List Nat) (p1 p2 p3 : Nat) (f1 f2 f3 : Int) : Prop where
  r1 : Rr w g1 A1 na c1 p1 f1 a
  r2 : Rr w g2 A2 nb c2 p2 f2 b
  r3 : Rr w g3 A3 na c3 p1 f1 a
  r4 : Rr w g4 A4 nb c4 p2 f2 b
  r5 : Rr w g5 A5 0 c5 p3 f3 []
  r6 : Rr w g6 A6 0 c6 p3 f3 []
  b1 : 0 ≤ f1 ∧ f1 ≤ 1000
  b2 : 0 ≤ f2 ∧ f2 ≤ 1000
  b3 : 0 ≤ f3 ∧ f3 ≤ 1000
section
variable {G : List Nat} {w w1 w2 : World} {g1 g2 g3 g4 g5 g6 : Nat} {A1 A2 A3 A4 A5 A6 : Option Addr} {c1 c2 c3 c4 c5 c6 na nb : Nat} {a b : List Nat} {p1 p2 p3 : Nat} {f1 f2 f3 : Int}
theorem St.below {B : Nat} (S : St w g1 g2 g3 g4 g5 g6 A1 A2 A3 A4 A5 A6 c1 c2 c3 c4 c5 c6 na nb a b p1 p2 p3 f1 f2 f3) (h : Below B w w1) (O : Geo G g1 g2 g3 g4 g5 g6 A1 A2 A3 A4 A5 A6 na nb) (hB : g6 < B) :
    St w1 g1 g2 g3 g4 g5 g6 A1 A2 A3 A4 A5 A6 c1 c2 c3 c4 c5 c6 na nb a b p1 p2 p3 f1 f2 f3 :=
  have hl := O.lt
  ⟨S.r1.below h (by omega), S.r2.below h (by omega), S.r3.below h (by omega), S.r4.below h (by omega), S.r5.below h (by omega), S.r6.below h (by omega), S.b1, S.b2, S.b3⟩
/-- A block of the list that is no reader's turns. -/
theorem St.beside {k : Nat} (S : St w g1 g2 g3 g4 g5 g6 A1 A2 A3 A4 A5 A6 c1 c2 c3 c4 c5 c6 na nb a b p1 p2 p3 f1 f2 f3) (h : Chg [k] w w1) (O : Geo G g1 g2 g3 g4 g5 g6 A1 A2 A3 A4 A5 A6 na nb) (hk : k ∈ G) (hlt : k < g1) :
    St w1 g1 g2 g3 g4 g5 g6 A1 A2 A3 A4 A5 A6 c1 c2 c3 c4 c5 c6 na nb a b p1 p2 p3 f1 f2 f3 :=
  have hl := O.lt
  ⟨S.r1.far h (by omega) (O.a1 k hk), S.r2.far h (by omega) (O.a2 k hk), S.r3.far h (by omega) (O.a3 k hk), S.r4.far h (by omega) (O.a4 k hk), S.r5.far h (by omega) (fun _ _ _ h => absurd h (by omega)), S.r6.far h (by omega) (fun _ _ _ h => absurd h (by omega)), S.b1, S.b2, S.b3⟩
/-- The first two go on: the document's in w1, the program's in w2. -/
theorem St.one (S : St w g1 g2 g3 g4 g5 g6 A1 A2 A3 A4 A5 A6 c1 c2 c3 c4 c5 c6 na nb a b p1 p2 p3 f1 f2 f3) (O : Geo G g1 g2 g3 g4 g5 g6 A1 A2 A3 A4 A5 A6 na nb) {p : Nat} {f : Int} (h1 : Chg [g1] w w1) (R1 : Rr w1 g1 A1 na c1 p f a) (h2 : Chg [g3] w1 w2) (R3 : Rr w2 g3 A3 na c3 p f a) (hf : 0 ≤ f ∧ f ≤ 1000) :
    St w2 g1 g2 g3 g4 g5 g6 A1 A2 A3 A4 A5 A6 c1 c2 c3 c4 c5 c6 na nb a b p p2 p3 f f2 f3 :=
  have hl := O.lt
  ⟨R1.far h2 (by omega) (O.a1 _ O.m3), (S.r2.far h1 (by omega) (O.a2 _ O.m1)).far h2 (by omega) (O.a2 _ O.m3), R3, (S.r4.far h1 (by omega) (O.a4 _ O.m1)).far h2 (by omega) (O.a4 _ O.m3),
   (S.r5.far h1 (by omega) (fun _ _ _ h => absurd h (by omega))).far h2 (by omega) (fun _ _ _ h => absurd h (by omega)), (S.r6.far h1 (by omega) (fun _ _ _ h => absurd h (by omega))).far h2 (by omega) (fun _ _ _ h => absurd h (by omega)), hf, S.b2, S.b3⟩
theorem St.two (S : St w g1 g2 g3 g4 g5 g6 A1 A2 A3 A4 A5 A6 c1 c2 c3 c4 c5 c6 na nb a b p1 p2 p3 f1 f2 f3) (O : Geo G g1 g2 g3 g4 g5 g6 A1 A2 A3 A4 A5 A6 na nb) {p : Nat} {f : Int} (h1 : Chg [g2] w w1) (R2 : Rr w1 g2 A2 nb c2 p f b) (h2 : Chg [g4] w1 w2) (R4 : Rr w2 g4 A4 nb c4 p f b) (hf : 0 ≤ f ∧ f ≤ 1000) :
    St w2 g1 g2 g3 g4 g5 g6 A1 A2 A3 A4 A5 A6 c1 c2 c3 c4 c5 c6 na nb a b p1 p p3 f1 f f3 :=
  have hl := O.lt
  ⟨(S.r1.far h1 (by omega) (O.a1 _ O.m2)).far h2 (by omega) (O.a1 _ O.m4), R2.far h2 (by omega) (O.a2 _ O.m4), (S.r3.far h1 (by omega) (O.a3 _ O.m2)).far h2 (by omega) (O.a3 _ O.m4), R4,
   (S.r5.far h1 (by omega) (fun _ _ _ h => absurd h (by omega))).far h2 (by omega) (fun _ _ _ h => absurd h (by omega)), (S.r6.far h1 (by omega) (fun _ _ _ h => absurd h (by omega))).far h2 (by omega) (fun _ _ _ h => absurd h (by omega)), S.b1, hf, S.b3⟩
theorem St.three (S : St w g1 g2 g3 g4 g5 g6 A1 A2 A3 A4 A5 A6 c1 c2 c3 c4 c5 c6 na nb a b p1 p2 p3 f1 f2 f3) (O : Geo G g1 g2 g3 g4 g5 g6 A1 A2 A3 A4 A5 A6 na nb) {p : Nat} {f : Int} (h1 : Chg [g5] w w1) (R5 : Rr w1 g5 A5 0 c5 p f []) (h2 : Chg [g6] w1 w2) (R6 : Rr w2 g6 A6 0 c6 p f []) (hf : 0 ≤ f ∧ f ≤ 1000) :
    St w2 g1 g2 g3 g4 g5 g6 A1 A2 A3 A4 A5 A6 c1 c2 c3 c4 c5 c6 na nb a b p1 p2 p f1 f2 f :=
  have hl := O.lt
  ⟨(S.r1.far h1 (by omega) (O.a1 _ O.m5)).far h2 (by omega) (O.a1 _ O.m6), (S.r2.far h1 (by omega) (O.a2 _ O.m5)).far h2 (by omega) (O.a2 _ O.m6), (S.r3.far h1 (by omega) (O.a3 _ O.m5)).far h2 (by omega) (O.a3 _ O.m6), (S.r4.far h1 (by omega) (O.a4 _ O.m5)).far h2 (by omega) (O.a4 _ O.m6),
   R5.far h2 (by omega) (fun _ _ _ h => absurd h (by omega)), R6, S.b1, S.b2, hf⟩
end
/-- The lists of the law's own: what was lent (with its marks), and what it was written over with. -/
structure Own4 (w : World) (Bd base g1 g6 gl gm na nb cl cm : Nat) (vO vU : Value) (la lb : List Nat) : Prop where
  l : w.ownsRow base 5 1 (.slice (some ⟨gl, 0, none⟩) (na + 64) cl) (na + 64) (cb (la ++ marks))
  m : w.ownsRow base 5 1 (.slice (some ⟨gm, 0, none⟩) (nb + 64) cm) (nb + 64) (cb (lb ++ marks))
  o : w.ownsRow (g6 + 1) 5 1 vO na (cb la)
  u : w.ownsRow (g6 + 1) 5 1 vU nb (cb lb)
  lo : ∀ j, vO.ownBlock = some j → j < Bd
  lu : ∀ j, vU.ownBlock = some j → j < Bd
  g : gl < g1 ∧ gm < g1 ∧ g1 < g6 ∧ g6 < Bd
theorem own_lt {w w' : World} {base e n B : Nat} {v : Value} {xs : List Value} (h : w.ownsRow base e 1 v n xs) (b : Below B w w') (hB : ∀ j, v.ownBlock = some j → j < B) : w'.ownsRow base e 1 v n xs := by
  refine ⟨h.1, ?_⟩
  rcases h.2 with h2 | ⟨g, cap, cur, rfl, hb, hgb, r⟩
  · exact .inl h2
  · exact .inr ⟨g, cap, cur, rfl, hb, (b.block g (hB g rfl)).trans hgb, r⟩
section
variable {w w1 : World} {Bd base g1 g6 gl gm na nb cl cm : Nat} {vO vU : Value} {la lb : List Nat}
theorem Own4.below {B : Nat} (O : Own4 w Bd base g1 g6 gl gm na nb cl cm vO vU la lb) (h : Below B w w1) (hB : Bd ≤ B) : Own4 w1 Bd base g1 g6 gl gm na nb cl cm vO vU la lb :=
  have hg := O.g
  ⟨own_lt O.l h (fun j hj => by simp [Value.ownBlock] at hj; omega), own_lt O.m h (fun j hj => by simp [Value.ownBlock] at hj; omega), own_lt O.o h (fun j hj => by have := O.lo j hj; omega), own_lt O.u h (fun j hj => by have := O.lu j hj; omega), O.lo, O.lu, O.g⟩
theorem Own4.chg {k : Nat} (O : Own4 w Bd base g1 g6 gl gm na nb cl cm vO vU la lb) (h : Chg [k] w w1) (h1 : g1 ≤ k) (h2 : k ≤ g6) : Own4 w1 Bd base g1 g6 gl gm na nb cl cm vO vU la lb :=
  have hg := O.g
  ⟨h.own O.l (fun j hj => by simp [Value.ownBlock] at hj; simp; omega), h.own O.m (fun j hj => by simp [Value.ownBlock] at hj; simp; omega), h.own O.o (fun j hj => by have := (O.o.lt j hj).1; simp; omega), h.own O.u (fun j hj => by have := (O.u.lt j hj).1; simp; omega), O.lo, O.lu, O.g⟩
theorem Own4.more {B : Nat} (O : Own4 w Bd base g1 g6 gl gm na nb cl cm vO vU la lb) (h : Bd ≤ B) : Own4 w B base g1 g6 gl gm na nb cl cm vO vU la lb :=
  ⟨O.l, O.m, O.o, O.u, fun j hj => Nat.lt_of_lt_of_le (O.lo j hj) h, fun j hj => Nat.lt_of_lt_of_le (O.lu j hj) h, by have := O.g; omega⟩
end
/-- A told answer is stored into its block. -/
theorem told_set {w : World} {g T : Nat} {x0 y0 z0 : Value} (h : w.heap[g]? = some (.cells #[x0, y0, z0] T (0, 0))) (x y z : Value) : ∃ WF, ((w.setCell ⟨g, 0, none⟩ x).setCell ⟨g, 1, none⟩ y).setCell ⟨g, 2, none⟩ z = WF ∧ WF.heap[g]? = some (.cells #[x, y, z] T (0, 0)) ∧ Chg [g] w WF := by
  have hlt := lt_of_block h
  have h' : w.heap[g] = .cells #[x0, y0, z0] T (0, 0) := by simpa [Array.getElem?_eq_getElem hlt] using h
  refine ⟨_, rfl, ?_, (((Chg.refl [g] w).setCell (by simp) x).setCell (by simp) y).setCell (by simp) z⟩
  simp only [World.setCell]
  rw [Array.getElem?_eq_getElem (by simpa using hlt)]
  simp only [Array.getElem_modify_self]
  rw [h']
  rfl
theorem told_cells {w : World} {g T : Nat} {x y z : Value} (h : w.heap[g]? = some (.cells #[x, y, z] T (0, 0))) : w.cell? ⟨g, 0, none⟩ = some x ∧ w.cell? ⟨g, 1, none⟩ = some y ∧ w.cell? ⟨g, 2, none⟩ = some z ∧ ∀ o, w.frozen? ⟨g, o, none⟩ = false :=
  ⟨by simp [World.cell?, h], by simp [World.cell?, h], by simp [World.cell?, h], fun o => by simp [World.frozen?, h]⟩
theorem step_cells {w : World} {g T : Nat} {x y z u : Value} (h : w.heap[g]? = some (.cells #[x, y, z, u] T (0, 0))) : w.cell? ⟨g, 0, none⟩ = some x ∧ w.cell? ⟨g, 1, none⟩ = some y ∧ w.cell? ⟨g, 2, none⟩ = some z ∧ w.cell? ⟨g, 3, none⟩ = some u :=
  ⟨by simp [World.cell?, h], by simp [World.cell?, h], by simp [World.cell?, h], by simp [World.cell?, h]⟩
theorem ask_fl {bs : List Nat} {at_ : Nat} {fl : Int} (hb : ∀ y ∈ bs, y < 256) (ha : at_ ≤ bs.length) (N E : Int) (k : Nat) (hk : k < 13) (hf : 0 ≤ fl ∧ fl ≤ 1000) : 0 ≤ (askF bs at_ fl N E k).2.2 ∧ (askF bs at_ fl N E k).2.2 ≤ 1000 := by
  rcases Nat.lt_or_ge k 10 with h | h
  · rcases ask_read hb ha fl N E k h with ⟨_, e⟩ | ⟨_, e', he, e⟩ | ⟨_, t, at', e, _⟩ <;> rw [e]
    · exact hf
    · show 0 ≤ e' ∧ e' ≤ 1000
      rcases he with h | h | h <;> omega
    · show (0 : Int) ≤ 0 ∧ (0 : Int) ≤ 1000
      omega
  · have : k = 10 ∨ k = 11 ∨ k = 12 := by omega
    rcases this with rfl | rfl | rfl <;> exact hf
theorem tells_open {w w' : World} {gr n c pn : Nat} {A : Option Addr} {bs lB : List Nat} {lT : List (List Nat)} {U fn : Int} {e : Ending} (h : Tells w gr n c A bs (⟨U, lB, lT⟩, pn, fn) e w') :
    ∃ A1 c1 T1 d1, e = .returned (.agg #[.int .u64 U, .slice A1 lB.length c1, .slice T1 lT.length d1]) ∧ Chg [gr] w w' ∧ Rr w' gr A n c pn fn bs ∧ w'.ownsRow w.heap.size 5 1 (.slice A1 lB.length c1) lB.length (cb lB) ∧ w'.ownsRow w.heap.size 9 1 (.slice T1 lT.length d1) lT.length (cs (lT.map tx1)) := by
  obtain ⟨vB, vT, rfl, hch, hr, hB, hT⟩ := h
  obtain ⟨A1, c1, rfl, _, _⟩ := own_form (show w'.ownsRow w.heap.size 5 1 vB lB.length (cb lB) from hB)
  obtain ⟨T1, d1, rfl, _, _⟩ := own_form (show w'.ownsRow w.heap.size 9 1 vT lT.length (cs (lT.map tx1)) from hT)
  exact ⟨A1, c1, T1, d1, rfl, hch, hr, hB, hT⟩
/-- A store into a row of the call's own, beside a block and another row. -/
theorem told_row {w w6 : World} {gI e1 e2 B n m c gb K q : Nat} {o : Obj} {xs ys : List Value} {vT : Value} (hI : w.heap[gI]? = some o) (oB : w.ownsRow B e1 1 (.slice (some ⟨gb, 0, none⟩) n c) n xs) (oT : w.ownsRow B e2 1 vT m ys) (hne : e1 ≠ e2) (hg : gI < B) (hb : Below K w6 w) (hK : K ≤ B) (hsz : B ≤ w.heap.size) (v : Value) :
    (w.setCell ⟨gb, q, none⟩ v).heap[gI]? = some o ∧ (w.setCell ⟨gb, q, none⟩ v).ownsRow B e1 1 (.slice (some ⟨gb, 0, none⟩) n c) n (xs.set q v) ∧ (w.setCell ⟨gb, q, none⟩ v).ownsRow B e2 1 vT m ys ∧ Below K w6 (w.setCell ⟨gb, q, none⟩ v) ∧ B ≤ (w.setCell ⟨gb, q, none⟩ v).heap.size := by
  have hs := oB.stored q v
  have hgb := (oB.lt gb rfl)
  refine ⟨(hs.2.block gI (lt_of_block hI) (by intro h; injection h with h; omega)).trans hI, hs.1, own_grown oT hs.2 (fun g h1 h2 => own_types oB oT hne gb rfl (by injection h1 with h1; subst h1; exact h2)), hb.trans ((Below.refl K w).setCell (by show K ≤ gb; omega) v), Nat.le_trans hsz hs.2.size⟩
theorem redo_fst {α : Type} (o : Except Int (α × Nat)) (z : α) (at_ : Nat) (fl : Int) (p : α → Prop) (hz : p z) (ho : ∀ a a', o = .ok (a, a') → p a) : p (redo o z at_ fl).1 := by
  unfold redo
  split
  · rcases h : o with e | ⟨a, a'⟩
    · exact hz
    · exact ho a a' h
  · exact hz
/-- What is told is no more than what there is. -/
theorem ask_small (bs : List Nat) (at_ : Nat) (fl N E : Int) (k : Nat) (hb : ∀ y ∈ bs, y < 256) (ha : at_ ≤ bs.length) : (askF bs at_ fl N E k).1.B.length ≤ bs.length ∧ (askF bs at_ fl N E k).1.T.length ≤ bs.length := by
  have byt : ∀ o : Except Int (List Nat × Nat), (∀ l a, o = .ok (l, a) → l.length ≤ bs.length) → (bytT (redo o [] at_ fl)).1.B.length ≤ bs.length ∧ (bytT (redo o [] at_ fl)).1.T.length ≤ bs.length := fun o h =>
    ⟨redo_fst o [] at_ fl (fun l => l.length ≤ bs.length) (Nat.zero_le _) h, Nat.zero_le _⟩
  have hcs : k = 0 ∨ k = 1 ∨ k = 2 ∨ k = 3 ∨ k = 4 ∨ k = 5 ∨ k = 6 ∨ k = 7 ∨ k = 8 ∨ k = 9 ∨ 10 ≤ k := by omega
  rcases hcs with rfl | rfl | rfl | rfl | rfl | rfl | rfl | rfl | rfl | rfl | hk
  · exact ⟨Nat.zero_le _, Nat.zero_le _⟩
  · exact ⟨Nat.zero_le _, Nat.zero_le _⟩
  · exact ⟨Nat.zero_le _, Nat.zero_le _⟩
  · exact ⟨Nat.zero_le _, Nat.zero_le _⟩
  · exact ⟨Nat.zero_le _, Nat.zero_le _⟩
  · exact ⟨Nat.zero_le _, Nat.zero_le _⟩
  · exact ⟨Nat.zero_le _, Nat.zero_le _⟩
  · refine byt _ fun l a h => ?_
    unfold bytesF at h
    split at h
    · cases h
    · exact take_len h (Nat.le_refl _)
  · refine byt _ fun l a h => ?_
    unfold blkF at h
    split at h
    · cases h
    · exact block_len h (Nat.le_refl _)
  · refine ⟨Nat.zero_le _, redo_fst (textsF bs at_ N E) [] at_ fl (fun l => l.length ≤ bs.length) (Nat.zero_le _) fun l a h => ?_⟩
    have h1 := well_num (bs := bs) (at_ := at_) hb ha
    unfold textsF at h
    split at h
    · cases h
    split at h
    · cases h
    rename_i x a1 hn
    rw [hn] at h1
    split at h
    · have := rowsF_len bs E.toNat x a1 l a h1.2 hb h
      omega
    · cases h
  · have e : (askF bs at_ fl N E k).1.B = [] ∧ (askF bs at_ fl N E k).1.T = [] := by
      have : k = 10 ∨ k = 11 ∨ 12 ≤ k := by omega
      rcases this with rfl | rfl | h
      · exact ⟨rfl, rfl⟩
      · exact ⟨rfl, rfl⟩
      · obtain ⟨q, rfl⟩ : ∃ q, k = q + 12 := ⟨k - 12, by omega⟩
        exact ⟨rfl, rfl⟩
    rw [e.1, e.2]
    exact ⟨Nat.zero_le _, Nat.zero_le _⟩
end Go.Proofs.Ytjkenhkoakaaoaa
