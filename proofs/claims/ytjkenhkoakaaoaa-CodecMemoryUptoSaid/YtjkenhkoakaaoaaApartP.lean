/- Lists of lists that are written full, then grown, then looked at. Plain theorems over any program. -/
import Derived.Test.YtjkenhkoakaaoaaSnap
import Derived.Test.YtjkenhkoakaaoaaChg
namespace Go.Proofs.Ytjkenhkoakaaoaa
open Go.RowKit
set_option linter.unusedVariables false
theorem own_set1 {w : World} {base e g n cap j : Nat} {xs : List Value} {u : Value} (h : w.ownsRow base e 1 (.slice (some ⟨g, 0, none⟩) n cap) n xs) (hj : j < n) : (w.setCell ⟨g, j, none⟩ u).ownsRow base e 1 (.slice (some ⟨g, 0, none⟩) n cap) n (xs.set j u) := by
  obtain ⟨hlen, h2⟩ := h
  rcases h2 with ⟨hv, h0⟩ | ⟨g', cap', cur, hv, hb, hg, hnc, hm, hcs, htake⟩
  · omega
  · cases hv
    refine ⟨by simpa using hlen, .inr ⟨g, cap, cur.setIfInBounds j u, rfl, hb, ?_, hnc, hm, by simpa using hcs, ?_⟩⟩
    · simp [World.setCell, Array.getElem?_modify, hg]
    · rw [← htake, Array.toList_setIfInBounds, List.take_set]
/-- The blocks of some rows. -/
def ablk (us : List Value) : List Nat := us.filterMap Value.ownBlock
theorem blk_mem {us : List Value} {i k : Nat} {u : Value} (h : us[i]? = some u) (hk : u.ownBlock = some k) : k ∈ ablk us :=
  List.mem_filterMap.2 ⟨u, List.mem_of_getElem? h, hk⟩
/-- Lists, each in memory of its own, written over as far as D says. -/
structure Fil (w : World) (base E e : Nat) (v : Value) (us : List Value) (n : Nat → Nat) (F : Nat → Nat → Value) (D : Nat → Nat → Prop) : Prop where
  out : w.ownsRow base E 1 v us.length us
  row : ∀ (i : Nat) (u : Value), us[i]? = some u → ∃ xs, w.ownsRow base e 1 u (n i) xs ∧ ∀ t, t < n i → D i t → xs[t]? = some (F i t)
  apart : ∀ (i j : Nat) (u u' : Value), us[i]? = some u → us[j]? = some u' → i ≠ j → Apart u u'
  off : ∀ (i : Nat) (u : Value), us[i]? = some u → Apart v u
theorem Apart.ne {v u : Value} {g : Nat} (h : Apart v u) (hu : u.ownBlock = some g) : v.ownBlock ≠ some g := fun e => h g e hu
section
variable {w w' w0 : World} {base E e : Nat} {v : Value} {us : List Value} {n : Nat → Nat} {F : Nat → Nat → Value} {D D' : Nat → Nat → Prop}
theorem Fil.imp (H : Fil w base E e v us n F D) (h : ∀ k s, s < n k → D' k s → D k s) : Fil w base E e v us n F D' :=
  ⟨H.out, fun i u hu => let ⟨xs, h1, h2⟩ := H.row i u hu; ⟨xs, h1, fun t ht hd => h2 t ht (h i t ht hd)⟩, H.apart, H.off⟩
theorem own_keepC {w w' : World} {base e size n g : Nat} {v : Value} {xs : List Value} (h : w.ownsRow base e size v n xs) (hg : w.grownBy w' (some g)) (hne : v.ownBlock ≠ some g) : w'.ownsRow base e size v n xs :=
  h.kept hg (by
    cases hv : v.ownBlock with
    | none => exact .inl rfl
    | some k => exact .inr fun e => hne (by rw [hv, e]))
theorem grown_set1 (w : World) (g i : Nat) (u : Value) : w.grownBy (w.setCell ⟨g, i, none⟩ u) (some g) :=
  ⟨rfl, rfl, rfl, by simp [World.setCell], fun k hk hne => Below.heap_setCell _ _ _ _ (fun e => hne (by rw [e]))⟩
theorem Fil.set (H : Fil w base E e v us n F D) {i t g c : Nat} (hu : us[i]? = some (.slice (some ⟨g, 0, none⟩) (n i) c)) (ht : t < n i) (hD : ∀ k s, D' k s → D k s ∨ (k = i ∧ s = t)) :
    Fil (w.setCell ⟨g, t, none⟩ (F i t)) base E e v us n F D' := by
  have hg := grown_set1 w g t (F i t)
  refine ⟨own_keepC H.out hg ((H.off i _ hu).ne rfl), fun k u hk => ?_, H.apart, H.off⟩
  by_cases hki : k = i
  · subst hki
    rw [hu] at hk; cases hk
    obtain ⟨xs, h1, h2⟩ := H.row k _ hu
    refine ⟨xs.set t (F k t), own_set1 h1 ht, fun s hs hd => ?_⟩
    have hl : xs.length = n k := by simpa using h1.1
    rw [List.getElem?_set]
    by_cases hst : t = s
    · subst hst; rw [if_pos rfl, if_pos (by omega)]
    · rw [if_neg hst]
      rcases hD k s hd with h | ⟨_, h⟩
      · exact h2 s hs h
      · exact absurd h.symm hst
  · obtain ⟨xs, h1, h2⟩ := H.row k u hk
    refine ⟨xs, own_keepC h1 hg ((H.apart k i u _ hk hu hki).ne rfl), fun s hs hd => ?_⟩
    rcases hD k s hd with h | ⟨h, _⟩
    · exact h2 s hs h
    · exact absurd h hki
theorem Fil.below {B : Nat} (H : Fil w base E e v us n F D) (b : Below w.heap.size w w') : Fil w' base E e v us n F D :=
  have k : ∀ {e' m : Nat} {u : Value} {xs : List Value}, w.ownsRow base e' 1 u m xs → w'.ownsRow base e' 1 u m xs := fun h => ⟨h.1, h.2.imp id fun ⟨g, cap, cur, hv, hg, hh, r⟩ => ⟨g, cap, cur, hv, hg, by rw [b.block g (Array.getElem?_eq_some_iff.1 hh).1]; exact hh, r⟩⟩
  ⟨k H.out, fun i u hu => let ⟨xs, h1, h2⟩ := H.row i u hu; ⟨xs, k h1, h2⟩, H.apart, H.off⟩
end
/-- The first cells of what a row is grown to. -/
def cellsF (f : Nat → Value) (m : Nat) : List Value := (List.range m).map f
theorem cellsF_len (f : Nat → Value) (m : Nat) : (cellsF f m).length = m := by simp [cellsF]
theorem cellsF_get (f : Nat → Value) {m t : Nat} (h : t < m) : (cellsF f m)[t]? = some (f t) := by simp [cellsF, h]
theorem cellsF_snoc (f : Nat → Value) (m : Nat) : cellsF f (m + 1) = cellsF f m ++ [f m] := by unfold cellsF; rw [List.range_succ, List.map_append]; rfl
/-- A slice that reads as the first cells of a row. -/
def SnapOf (w : World) (F : Nat → Nat → Value) (x : Value × Nat × Nat) : Prop :=
  (∃ A c, x.1 = .slice A x.2.2 c ∧ ∀ t, t < x.2.2 → ∃ b, A = some ⟨b, 0, none⟩ ∧ b < w.heap.size ∧ w.cell? ⟨b, t, none⟩ = some (F x.2.1 t)) ∧ ∀ b, x.1.ownBlock = some b → b < w.heap.size
theorem SnapOf.of_own {w : World} {F : Nat → Nat → Value} {base e i p : Nat} {g : Value} (h : w.ownsRow base e 1 g p (cellsF (F i) p)) : SnapOf w F (g, i, p) := by
  obtain ⟨A, c, rfl, _, _⟩ := own_form h
  refine ⟨⟨A, c, rfl, fun t ht => ?_⟩, fun b hb => (h.lt b hb).2⟩
  obtain ⟨g, cap, hv, _, hb⟩ := own_pos h (by simp at ht; omega)
  cases hv
  refine ⟨g, rfl, hb, ?_⟩
  have := World.ownsRow.cells h (g := g) rfl t (F i t) (cellsF_get _ ht)
  rwa [show (⟨g, 0, none⟩ : Addr).add t = ⟨g, t, none⟩ by unfold Addr.add; split <;> simp_all] at this
theorem snapBlock {w : World} {F : Nat → Nat → Value} {x : Value × Nat × Nat} {b : Nat} (h : SnapOf w F x) (hb : x.1.ownBlock = some b) : b < w.heap.size := h.2 b hb
theorem SnapOf.keep {w w' : World} {F : Nat → Nat → Value} {x : Value × Nat × Nat} (h : SnapOf w F x) (hs : w.heap.size ≤ w'.heap.size) (hb : ∀ b, x.1.ownBlock = some b → b < w.heap.size → w'.heap[b]? = w.heap[b]?) : SnapOf w' F x := by
  obtain ⟨⟨A, c, hx, h2⟩, h5⟩ := h
  refine ⟨⟨A, c, hx, fun t ht => ?_⟩, fun b hb => by have := h5 b hb; omega⟩
  obtain ⟨b, rfl, h3, h4⟩ := h2 t ht
  refine ⟨b, rfl, by omega, ?_⟩
  rw [World.cell?_of_block (a := ⟨b, t, none⟩) (hb b (by rw [hx]; rfl) h3)]
  exact h4
/-- Rows of the call's own beside the lists. -/
abbrev Outs := Nat → Value × Nat × List Value
/-- The lists from number i on stand as they are; the ones ahead were grown; what reads them stands. -/
structure Gro (w0 w : World) (base e : Nat) (O : Outs) (us : List Value) (n : Nat → Nat) (F : Nat → Nat → Value) (i : Nat) (S : List (Value × Nat × Nat)) : Prop where
  out : ∀ q, w.ownsRow base (O q).2.1 1 (O q).1 (O q).2.2.length (O q).2.2
  oo : ∀ q q', q ≠ q' → Apart (O q).1 (O q').1
  new : ∀ q, q ≠ 0 → ∀ b, (O q).1.ownBlock = some b → w0.heap.size ≤ b
  rest : ∀ k u, i ≤ k → us[k]? = some u → w.ownsRow base e 1 u (n k) (cellsF (F k) (n k))
  apart : ∀ k j u u', i ≤ k → i ≤ j → us[k]? = some u → us[j]? = some u' → k ≠ j → Apart u u'
  off : ∀ q k u, i ≤ k → us[k]? = some u → Apart (O q).1 u
  snap : ∀ x ∈ S, SnapOf w F x ∧ (∀ q, Apart (O q).1 x.1) ∧ ∀ k u, i ≤ k → us[k]? = some u → Apart x.1 u
  chg : Chg (ablk us) w0 w
/-- The list number i is being grown. -/
structure Cur (w0 w : World) (base e : Nat) (O : Outs) (us : List Value) (n : Nat → Nat) (F : Nat → Nat → Value) (i : Nat) (S : List (Value × Nat × Nat)) (g : Value) (p : Nat) (M : List (Value × Nat × Nat)) : Prop where
  gro : Gro w0 w base e O us n F (i + 1) S
  own : w.ownsRow base e 1 g p (cellsF (F i) p)
  old : ∀ b, g.ownBlock = some b → b ∈ ablk us ∨ w0.heap.size ≤ b
  go : ∀ q, Apart (O q).1 g
  gr : ∀ k u, i + 1 ≤ k → us[k]? = some u → Apart g u
  gs : ∀ x ∈ S, Apart x.1 g
  mine : ∀ x ∈ M, SnapOf w F x ∧ x.2.1 = i ∧ x.2.2 ≤ p ∧ (∀ q, Apart (O q).1 x.1) ∧ ∀ k u, i + 1 ≤ k → us[k]? = some u → Apart x.1 u
section
variable {w0 w w' : World} {base e i p : Nat} {O O' : Outs} {us : List Value} {n : Nat → Nat} {F : Nat → Nat → Value} {S M : List (Value × Nat × Nat)} {g g' u v' y : Value}
theorem own_stay {e m : Nat} {v : Value} {xs : List Value} (h : w.ownsRow base e 1 v m xs) (hb : ∀ b, v.ownBlock = some b → b < w.heap.size → w'.heap[b]? = w.heap[b]?) : w'.ownsRow base e 1 v m xs :=
  ⟨h.1, h.2.imp id fun ⟨g, cap, cur, hv, hg, hh, r⟩ => ⟨g, cap, cur, hv, hg, by rw [hb g (by rw [hv]; rfl) (Array.getElem?_eq_some_iff.1 hh).1]; exact hh, r⟩⟩
/-- A change that leaves all that the state speaks of. -/
theorem Gro.stay (H : Gro w0 w base e O us n F i S) (c : Chg (ablk us) w0 w') (hs : w.heap.size ≤ w'.heap.size) (ho : ∀ q b, (O q).1.ownBlock = some b → b < w.heap.size → w'.heap[b]? = w.heap[b]?)
    (hr : ∀ k u b, i ≤ k → us[k]? = some u → u.ownBlock = some b → b < w.heap.size → w'.heap[b]? = w.heap[b]?) (hS : ∀ x ∈ S, ∀ b, x.1.ownBlock = some b → b < w.heap.size → w'.heap[b]? = w.heap[b]?) : Gro w0 w' base e O us n F i S :=
  ⟨fun q => own_stay (H.out q) (ho q), H.oo, H.new, fun k u hk hu => own_stay (H.rest k u hk hu) (fun b h1 h2 => hr k u b hk hu h1 h2), H.apart, H.off,
    fun x hx => ⟨(H.snap x hx).1.keep hs (hS x hx), (H.snap x hx).2⟩, c⟩
theorem Gro.below (H : Gro w0 w base e O us n F i S) (b : Below w.heap.size w w') : Gro w0 w' base e O us n F i S :=
  H.stay (H.chg.trans ((Chg.of_below b).mono fun k hk _ => absurd hk List.not_mem_nil)) b.size (fun _ k _ hk => b.block k hk) (fun _ _ k _ _ _ hk => b.block k hk) (fun _ _ k _ hk => b.block k hk)
theorem Cur.below (H : Cur w0 w base e O us n F i S g p M) (b : Below w.heap.size w w') : Cur w0 w' base e O us n F i S g p M :=
  ⟨H.gro.below b, own_stay H.own (fun k _ hk => b.block k hk), H.old, H.go, H.gr, H.gs, fun x hx => ⟨(H.mine x hx).1.keep b.size (fun k _ hk => b.block k hk), (H.mine x hx).2⟩⟩
theorem Gro.enter (H : Gro w0 w base e O us n F i S) (hu : us[i]? = some u) : Cur w0 w base e O us n F i S u (n i) [(u, i, n i)] where
  gro := ⟨H.out, H.oo, H.new, fun k u hk => H.rest k u (by omega), fun k j u u' hk hj => H.apart k j u u' (by omega) (by omega), fun q k u hk => H.off q k u (by omega), fun x hx => ⟨(H.snap x hx).1, (H.snap x hx).2.1, fun k u hk => (H.snap x hx).2.2 k u (by omega)⟩, H.chg⟩
  own := H.rest i u (Nat.le_refl _) hu
  old := fun b hb => .inl (blk_mem hu hb)
  go := fun q => H.off q i u (Nat.le_refl _) hu
  gr := fun k u' hk hu' => H.apart i k u u' (Nat.le_refl _) (by omega) hu hu' (by omega)
  gs := fun x hx => (H.snap x hx).2.2 i u (Nat.le_refl _) hu
  mine := fun x hx => by
    have hx := List.mem_singleton.1 hx
    subst hx
    exact ⟨SnapOf.of_own (H.rest i u (Nat.le_refl _) hu), rfl, Nat.le_refl _, fun q => H.off q i u (Nat.le_refl _) hu, fun k u' hk hu' => H.apart i k u u' (Nat.le_refl _) (by omega) hu hu' (by omega)⟩
theorem Cur.leave (H : Cur w0 w base e O us n F i S g p M) : Gro w0 w base e O us n F (i + 1) (M ++ S) :=
  ⟨H.gro.out, H.gro.oo, H.gro.new, H.gro.rest, H.gro.apart, H.gro.off, fun x hx => by
    rcases List.mem_append.1 hx with h | h
    · exact ⟨(H.mine x h).1, (H.mine x h).2.2.2⟩
    · exact H.gro.snap x h, H.gro.chg⟩
/-- The list is grown by one. -/
theorem Cur.app (H : Cur w0 w base e O us n F i S g p M) (h : OntoS w w' base e g g' (p + 1) (cellsF (F i) p ++ [F i p])) : Cur w0 w' base e O us n F i S g' (p + 1) M := by
  have hw0 : w0.heap.size ≤ w.heap.size := H.gro.chg.size
  have nb : ∀ b, g'.ownBlock = some b → g.ownBlock = some b ∨ w.heap.size = b := fun b hb => by
    rcases h.2.2 with e | ⟨e, _⟩
    · exact .inl (e ▸ hb)
    · exact .inr (by rw [e] at hb; injection hb)
  have ap : ∀ {z : Value}, (∀ b, z.ownBlock = some b → b < w.heap.size) → Apart g z → Apart g' z := fun hl ha b h1 h2 => by
    rcases nb b h1 with e | e
    · exact ha b e h2
    · have := hl b h2; omega
  have lo : ∀ q b, (O q).1.ownBlock = some b → b < w.heap.size := fun q b hb => ((H.gro.out q).lt b hb).2
  have lr : ∀ k u, i + 1 ≤ k → us[k]? = some u → ∀ b, u.ownBlock = some b → b < w.heap.size := fun k u hk hu b hb => ((H.gro.rest k u hk hu).lt b hb).2
  have st : ∀ b, g.ownBlock ≠ some b → b < w.heap.size → w'.heap[b]? = w.heap[b]? := fun b hb hl => h.block hl hb
  have hc : Chg (ablk us) w0 w' := ⟨h.2.1.os.trans H.gro.chg.os, h.2.1.tape.trans H.gro.chg.tape, h.2.1.output.trans H.gro.chg.output, Nat.le_trans hw0 h.size, fun k hk hn => by
    refine (st k (fun e => ?_) (by omega)).trans (H.gro.chg.block k hk hn)
    rcases H.old k e with h1 | h1
    · exact hn h1
    · omega⟩
  have ne : ∀ {z : Value}, Apart z g → ∀ b, z.ownBlock = some b → g.ownBlock ≠ some b := fun ha b hb => ha b hb
  refine ⟨H.gro.stay hc h.size (fun q b hb hl => st b (ne (H.go q) b hb) hl) (fun k u b hk hu hb hl => st b (ne (H.gr k u hk hu).symm b hb) hl) (fun x hx b hb hl => st b (ne (H.gs x hx) b hb) hl), by rw [cellsF_snoc]; exact h.own, fun b hb => ?_,
    fun q => (ap (lo q) (H.go q).symm).symm, fun k u hk hu => ap (lr k u hk hu) (H.gr k u hk hu), fun x hx => (ap (fun b hb => ?_) (H.gs x hx).symm).symm, fun x hx => ⟨?_, (H.mine x hx).2.1, by have := (H.mine x hx).2.2.1; omega, (H.mine x hx).2.2.2⟩⟩
  · rcases nb b hb with e | e
    · exact H.old b e
    · right; omega
  · exact snapBlock (H.gro.snap x hx).1 hb
  · obtain ⟨hs, hi, hp, _⟩ := H.mine x hx
    by_cases hsame : ∃ b, x.1.ownBlock = some b ∧ g.ownBlock = some b
    · obtain ⟨b, hb1, hb2⟩ := hsame
      obtain ⟨⟨A, c, hx1, h2⟩, h5⟩ := hs
      refine ⟨⟨A, c, hx1, fun t ht => ?_⟩, fun b hb => by have := h5 b hb; have := h.size; omega⟩
      obtain ⟨b', hA, h3, h4⟩ := h2 t ht
      refine ⟨b', hA, by have := h.size; omega, ?_⟩
      have hbb : b' = b := by rw [hx1, hA] at hb1; simpa [Value.ownBlock] using hb1
      subst hbb
      rw [hi]
      exact h.cell H.own (fun j u hj => by rw [List.getElem?_append_left (List.getElem?_eq_some_iff.1 hj).1]; exact hj) hb2 (cellsF_get _ (by omega))
    · exact hs.keep h.size fun b hb hl => st b (fun e => hsame ⟨b, hb, e⟩) hl
/-- What has been grown is kept. -/
theorem Cur.push (H : Cur w0 w base e O us n F i S g p M) {q E : Nat} {v : Value} {xs : List Value} (hq : q ≠ 0) (hO : O q = (v, E, xs)) (h : Onto w w' base E v v' (xs.length + 1) (xs ++ [y])) (hO1 : O' q = (v', E, xs ++ [y])) (hO2 : ∀ r, r ≠ q → O' r = O r) {M' : List (Value × Nat × Nat)}
    (hM : ∀ x ∈ M', x ∈ M ∨ x = (g, i, p)) : Cur w0 w' base e O' us n F i S g p M' := by
  have hw0 : w0.heap.size ≤ w.heap.size := H.gro.chg.size
  have nb : ∀ b, v'.ownBlock = some b → v.ownBlock = some b ∨ w.heap.size ≤ b := h.2.2
  have hv : (O q).1 = v := by rw [hO]
  have lo : ∀ q b, (O q).1.ownBlock = some b → b < w.heap.size := fun q b hb => ((H.gro.out q).lt b hb).2
  have lr : ∀ k u, i + 1 ≤ k → us[k]? = some u → ∀ b, u.ownBlock = some b → b < w.heap.size := fun k u hk hu b hb => ((H.gro.rest k u hk hu).lt b hb).2
  have lg : ∀ b, g.ownBlock = some b → b < w.heap.size := fun b hb => (H.own.lt b hb).2
  have ap : ∀ {z : Value}, (∀ b, z.ownBlock = some b → b < w.heap.size) → Apart v z → Apart v' z := fun hl ha b h1 h2 => by
    rcases nb b h1 with e | e
    · exact ha b e h2
    · have := hl b h2; omega
  have st : ∀ b, v.ownBlock ≠ some b → b < w.heap.size → w'.heap[b]? = w.heap[b]? := fun b hb hl => h.2.1.block b hl fun e => hb e.symm
  have hc : Chg (ablk us) w0 w' := ⟨h.2.1.os.trans H.gro.chg.os, h.2.1.tape.trans H.gro.chg.tape, h.2.1.output.trans H.gro.chg.output, Nat.le_trans hw0 h.size, fun k hk hn =>
    (st k (fun e => by have := H.gro.new q hq k (by rw [hv]; exact e); omega) (by omega)).trans (H.gro.chg.block k hk hn)⟩
  have vo : ∀ r, r ≠ q → Apart v (O r).1 := fun r hr => by rw [← hv]; exact H.gro.oo q r (fun e => hr e.symm)
  have vg : Apart v g := by rw [← hv]; exact H.go q
  have vr : ∀ k u, i + 1 ≤ k → us[k]? = some u → Apart v u := fun k u hk hu => by rw [← hv]; exact H.gro.off q k u hk hu
  have vs : ∀ x ∈ S, Apart v x.1 := fun x hx => by rw [← hv]; exact (H.gro.snap x hx).2.1 q
  have vm : ∀ x ∈ M, Apart v x.1 := fun x hx => by rw [← hv]; exact (H.mine x hx).2.2.2.1 q
  have gs : SnapOf w' F (g, i, p) := SnapOf.of_own (own_stay H.own fun b hb hl => st b (fun e => vg b e hb) hl)
  have ap' : ∀ {z : Value}, (∀ b, z.ownBlock = some b → b < w.heap.size) → (∀ r, Apart (O r).1 z) → ∀ r, Apart (O' r).1 z := fun hl ha r => by
    by_cases hr : r = q
    · subst hr; rw [hO1]; exact ap hl (by rw [← hv]; exact ha r)
    · rw [hO2 r hr]; exact ha r
  have lx : ∀ {x : Value × Nat × Nat}, SnapOf w F x → ∀ b, x.1.ownBlock = some b → b < w.heap.size := fun h b hb => snapBlock h hb
  refine ⟨⟨fun r => ?_, fun r r' hr => ?_, fun r hr b hb => ?_, fun k u hk hu => own_stay (H.gro.rest k u hk hu) fun b hb hl => st b (fun e => vr k u hk hu b e hb) hl, H.gro.apart, fun r k u hk hu => ap' (lr k u hk hu) (fun r => H.gro.off r k u hk hu) r,
    fun x hx => ⟨(H.gro.snap x hx).1.keep h.size fun b hb hl => st b (fun e => vs x hx b e hb) hl, ap' (lx (H.gro.snap x hx).1) (H.gro.snap x hx).2.1, (H.gro.snap x hx).2.2⟩, hc⟩,
    own_stay H.own fun b hb hl => st b (fun e => vg b e hb) hl, H.old, ap' lg H.go, H.gr, H.gs, fun x hx => ?_⟩
  · by_cases hr : r = q
    · subst hr; rw [hO1]; simp only [List.length_append, List.length_cons, List.length_nil]; exact h.own
    · rw [hO2 r hr]; exact own_stay (H.gro.out r) fun b hb hl => st b (fun e => vo r hr b e hb) hl
  · by_cases h1 : r = q
    · subst h1; rw [hO1, hO2 r' (fun e => hr e.symm)]; exact ap (lo r') (vo r' fun e => hr e.symm)
    · by_cases h2 : r' = q
      · subst h2; rw [hO1, hO2 r h1]; exact (ap (lo r) (vo r h1)).symm
      · rw [hO2 r h1, hO2 r' h2]; exact H.gro.oo r r' hr
  · by_cases h1 : r = q
    · subst h1; rw [hO1] at hb
      rcases nb b hb with e | e
      · exact H.gro.new r hr b (by rw [hv]; exact e)
      · omega
    · rw [hO2 r h1] at hb; exact H.gro.new r hr b hb
  · rcases hM x hx with h1 | h1
    · obtain ⟨a1, a2, a3, a4, a5⟩ := H.mine x h1
      exact ⟨a1.keep h.size fun b hb hl => st b (fun e => vm x h1 b e hb) hl, a2, a3, ap' (lx a1) a4, a5⟩
    · subst h1
      exact ⟨gs, rfl, Nat.le_refl _, ap' lg H.go, H.gr⟩
end
theorem cellsF_ext {f : Nat → Value} {m : Nat} {xs : List Value} (hl : xs.length = m) (h : ∀ t, t < m → xs[t]? = some (f t)) : xs = cellsF f m := by
  apply List.ext_getElem?
  intro t
  by_cases ht : t < m
  · rw [h t ht, cellsF_get f ht]
  · rw [List.getElem?_eq_none (by omega), List.getElem?_eq_none (by rw [cellsF_len]; omega)]
/-- The lists themselves, and one list of what was grown. -/
def O2 (v : Value) (E : Nat) (us : List Value) (vl : Value) (E2 : Nat) (ls : List Value) : Outs
  | 0 => (v, E, us)
  | 1 => (vl, E2, ls)
  | _ => (.slice none 0 0, 0, [])
theorem O2_other {v vl vl' : Value} {E E2 : Nat} {us ls ls' : List Value} : ∀ r, r ≠ 1 → O2 v E us vl' E2 ls' r = O2 v E us vl E2 ls r
  | 0, _ => rfl
  | 1, h => absurd rfl h
  | _ + 2, _ => rfl
theorem Gro.start {w0 w : World} {base E E2 e : Nat} {v : Value} {us : List Value} {n : Nat → Nat} {F : Nat → Nat → Value} (H : Fil w base E e v us n F (fun k _ => k < us.length)) (c : Chg (ablk us) w0 w) : Gro w0 w base e (O2 v E us (.slice none 0 0) E2 []) us n F 0 [] where
  out := fun q => match q with
    | 0 => H.out
    | 1 => World.ownsRow_nil _ _ _ _
    | _ + 2 => World.ownsRow_nil _ _ _ _
  oo := fun q q' h k h1 h2 => by
    match q, q', h with
    | 0, 0, h => exact h rfl
    | 0, _ + 1, _ => rename_i z _; rcases z with _ | z <;> cases h2
    | _ + 1, _, _ => rename_i z _ _; rcases z with _ | z <;> cases h1
  new := fun q h b hb => by
    match q, h with
    | 0, h => exact absurd rfl h
    | 1, _ => cases hb
    | _ + 2, _ => cases hb
  rest := fun k u _ hu => by
    obtain ⟨xs, h1, h2⟩ := H.row k u hu
    have hk := (List.getElem?_eq_some_iff.1 hu).1
    rw [cellsF_ext (by simpa using h1.1) fun t ht => h2 t ht hk] at h1
    exact h1
  apart := fun k j u u' _ _ h1 h2 h => H.apart k j u u' h1 h2 h
  off := fun q k u _ hu => match q with
    | 0 => H.off k u hu
    | 1 => Apart.nil _
    | _ + 2 => Apart.nil _
  snap := fun x h => absurd h List.not_mem_nil
  chg := c
theorem El.toN {P : Program} {t e bytes : Nat} {z : Value} (E : El P t e bytes z) : ElN P t e 1 bytes := by
  obtain ⟨i, hi, hz, hs, hb⟩ := E.hi
  exact ⟨E.ht, ⟨i, z, hi, hz, hs, hb, E.hz⟩, by omega⟩
/-- The list grows by one element that lies in a literal. -/
theorem Cur.app1 {w0 w w' : World} {base e i p : Nat} {O : Outs} {us : List Value} {n : Nat → Nat} {F : Nat → Nat → Value} {S M : List (Value × Nat × Nat)} {g g' : Value} {o : Obj} (H : Cur w0 w base e O us n F i S g p M) {x : Value} (hx : x = F i p)
    (h : OntoSN (w.alloc o) w' base e 1 g g' (p + 1) (cellsF (F i) p ++ [x])) : Cur w0 w' base e O us n F i S g' (p + 1) M := by
  subst hx
  exact (H.below ((Below.refl _ w).alloc (Nat.le_refl _) _)).app h
theorem SnapOf.cell {w : World} {F : Nat → Nat → Value} {x : Value × Nat × Nat} (h : SnapOf w F x) {t : Nat} (ht : t < x.2.2) : ∃ b c, x.1 = .slice (some ⟨b, 0, none⟩) x.2.2 c ∧ b < w.heap.size ∧ w.cell? ⟨b, t, none⟩ = some (F x.2.1 t) := by
  obtain ⟨⟨A, c, hx, h2⟩, _⟩ := h
  obtain ⟨b, rfl, h3, h4⟩ := h2 t ht
  exact ⟨b, c, hx, h3, h4⟩
theorem SnapOf.form {w : World} {F : Nat → Nat → Value} {x : Value × Nat × Nat} (h : SnapOf w F x) : ∃ A c, x.1 = .slice A x.2.2 c := let ⟨⟨A, c, hx, _⟩, _⟩ := h; ⟨A, c, hx⟩
end Go.Proofs.Ytjkenhkoakaaoaa
