/- Groups, plain: the writings that places show, and who shows them; the state of the program's first loop. -/
import Derived.Test.YtplpaipmkpjgfaaMapW
namespace Go.Proofs.Ytplpaipmkpjgfaa
open Go.RowKit
set_option linter.unusedVariables false
def wrOf (x : Sn) : Wr := (x.hd.epoch, x.hd.count, x.hd.size)
def shB (x : Sn) (r : Wr) : Bool := showsP x r.1 r.2.1 r.2.2
theorem shB_iff (x : Sn) (r : Wr) : shB x r = true ↔ x.kind = 2 ∧ wrOf x = r := by
  obtain ⟨a, b, c⟩ := r
  unfold shB showsP wrOf
  simp [and_assoc]
def plc (S : Nat → Sn) (r : Wr) (k : Nat) : List Int := ((List.range k).filter fun i => shB (S i) r).map Int.ofNat
theorem plc_next (S : Nat → Sn) (r : Wr) (k : Nat) : plc S r (k + 1) = if shB (S k) r = true then plc S r k ++ [(k : Int)] else plc S r k := by
  unfold plc
  rw [List.range_succ, List.filter_append, List.map_append]
  cases h : shB (S k) r <;> simp [h]
theorem plc_le (S : Nat → Sn) (r : Wr) (k : Nat) : (plc S r k).length ≤ k := by
  unfold plc; rw [List.length_map]; exact Nat.le_trans (List.length_filter_le _ _) (by simp)
def wrs (S : Nat → Sn) : Nat → List Wr
  | 0 => []
  | k + 1 => if (S k).kind = 2 ∧ plc S (wrOf (S k)) k = [] then wrs S k ++ [wrOf (S k)] else wrs S k
theorem wrs_le (S : Nat → Sn) : ∀ k, (wrs S k).length ≤ k
  | 0 => Nat.le_refl _
  | k + 1 => by
    have := wrs_le S k
    unfold wrs
    split
    · simp; omega
    · omega
theorem wrs_mem (S : Nat → Sn) (x : Wr) : ∀ k, x ∈ wrs S k ↔ plc S x k ≠ []
  | 0 => by simp [wrs, plc]
  | k + 1 => by
    have ih := wrs_mem S x k
    rw [plc_next]
    unfold wrs
    by_cases h : shB (S k) x = true
    · obtain ⟨h1, h2⟩ := (shB_iff _ _).1 h
      rw [if_pos h]
      subst h2
      by_cases h3 : plc S (wrOf (S k)) k = []
      · rw [if_pos ⟨h1, h3⟩]; simp
      · rw [if_neg (fun c => h3 c.2)]; simp only [ih]; simp [h3]
    · rw [if_neg h]
      split
      · rename_i h3
        have : x ≠ wrOf (S k) := fun e => h ((shB_iff _ _).2 ⟨h3.1, e.symm⟩)
        rw [List.mem_append, ih]
        simp [this]
      · exact ih
theorem wrs_nodup (S : Nat → Sn) : ∀ k, (wrs S k).Nodup
  | 0 => List.nodup_nil
  | k + 1 => by
    have ih := wrs_nodup S k
    unfold wrs
    split
    · rename_i h3
      refine List.nodup_append.2 ⟨ih, by simp, fun a ha b hb e => ?_⟩
      simp at hb
      subst hb e
      exact (wrs_mem S _ k).1 ha h3.2
    · exact ih
theorem wrs_src (S : Nat → Sn) (x : Wr) : ∀ k, x ∈ wrs S k → ∃ i, i < k ∧ wrOf (S i) = x
  | 0, h => by simp [wrs] at h
  | k + 1, h => by
    unfold wrs at h
    split at h
    · rcases List.mem_append.1 h with h | h
      · obtain ⟨i, hi, e⟩ := wrs_src S x k h; exact ⟨i, by omega, e⟩
      · simp at h; exact ⟨k, by omega, h.symm⟩
    · obtain ⟨i, hi, e⟩ := wrs_src S x k h; exact ⟨i, by omega, e⟩
/-- The writings that n places show, the newest first. -/
def IsGrp (S : Nat → Sn) (n : Nat) (gl : List Wr) : Prop := gl.Pairwise (fun x y => olderW y x) ∧ ∀ x, x ∈ gl ↔ plc S x n ≠ []
theorem olderW_irr (x : Wr) : ¬ olderW x x := by unfold olderW; omega
theorem olderW_tr {x y z : Wr} (h : olderW x y) (g : olderW y z) : olderW x z := by unfold olderW at *; omega
theorem olderW_tot {x y : Wr} (h : x ≠ y) (g : ¬ olderW x y) : olderW y x := by
  obtain ⟨a, b, c⟩ := x
  obtain ⟨d, e, f⟩ := y
  unfold olderW at *
  simp only [ne_eq, Prod.mk.injEq] at h g ⊢
  omega
theorem grp_unique {l m : List Wr} (hl : l.Pairwise (fun x y => olderW y x)) (hm : m.Pairwise (fun x y => olderW y x)) (h : ∀ x, x ∈ l ↔ x ∈ m) : l = m := by
  induction l generalizing m with
  | nil =>
    cases m with
    | nil => rfl
    | cons b m => exact absurd ((h b).2 (by simp)) (by simp)
  | cons a l ih =>
    cases m with
    | nil => exact absurd ((h a).1 (by simp)) (by simp)
    | cons b m =>
      rw [List.pairwise_cons] at hl hm
      have hab : a = b := by
        rcases List.mem_cons.1 ((h a).1 (by simp)) with e | e
        · exact e
        · rcases List.mem_cons.1 ((h b).2 (by simp)) with e2 | e2
          · exact e2.symm
          · exact absurd (olderW_tr (hm.1 a e) (hl.1 b e2)) (olderW_irr _)
      subst hab
      congr 1
      refine ih hl.2 hm.2 fun x => ⟨fun hx => ?_, fun hx => ?_⟩
      · rcases List.mem_cons.1 ((h x).1 (List.mem_cons_of_mem _ hx)) with e | e
        · subst e; exact absurd (hl.1 _ hx) (olderW_irr _)
        · exact e
      · rcases List.mem_cons.1 ((h x).2 (List.mem_cons_of_mem _ hx)) with e | e
        · subst e; exact absurd (hm.1 _ hx) (olderW_irr _)
        · exact e
theorem IsGrp.unique {S : Nat → Sn} {n : Nat} {l m : List Wr} (h : IsGrp S n l) (g : IsGrp S n m) : l = m := grp_unique h.1 g.1 fun x => (h.2 x).trans (g.2 x).symm
theorem IsGrp.of_sort {S : Nat → Sn} {n : Nat} {l : List Wr} (hp : l.Perm (wrs S n)) (hs : l.Pairwise (fun x y => ¬ olderW x y)) : IsGrp S n l := by
  refine ⟨?_, fun x => (hp.mem_iff).trans (wrs_mem S x n)⟩
  have hn : l.Nodup := hp.nodup_iff.2 (wrs_nodup S n)
  exact (hs.and hn).imp fun {a b} h => olderW_tot h.2 h.1
theorem IsGrp.le {S : Nat → Sn} {n : Nat} {l : List Wr} (h : IsGrp S n l) : l.length ≤ n := by
  have hn : l.Nodup := h.1.imp fun {a b} h => fun e => by subst e; exact olderW_irr _ h
  have hp : l.Perm (wrs S n) := (List.perm_ext_iff_of_nodup hn (wrs_nodup S n)).2 fun x => (h.2 x).trans (wrs_mem S x n).symm
  rw [hp.length_eq]; exact wrs_le S n
/-- The state underway: w the world at the beginning; the map's block is its first new one. -/
structure GSt (w wr : World) (S : Nat → Sn) (k : Nat) (f : Wr → Value) (v : Value) (L : List Wr) : Prop where
  map : MapIs wr w.heap.size k f
  rows : ∀ x, wr.ownsRow (w.heap.size + 1) 3 1 (f x) (plc S x k).length (iz (plc S x k))
  apart : ∀ x y, x ≠ y → Apart (f x) (f y)
  out : wr.ownsRow (w.heap.size + 1) 62 4 v L.length (flatW L)
  off : ∀ x, Apart v (f x)
  bel : Below w.heap.size w wr
section
variable {w wr w' w5 w6 w7 w8 w9 : World} {S : Nat → Sn} {k : Nat} {f : Wr → Value} {v v2 : Value} {L : List Wr}
theorem GSt.big (H : GSt w wr S k f v L) : w.heap.size < wr.heap.size := H.map.lt
theorem GSt.keep (H : GSt w wr S k f v L) (b : Below wr.heap.size wr w') : GSt w w' S k f v L :=
  ⟨H.map.keep (b.block _ H.big), fun x => own_belowS (H.rows x) b, H.apart, own_belowS H.out b, H.off, H.bel.trans (b.mono H.bel.size)⟩
theorem GSt.start (w : World) (S : Nat → Sn) : GSt w (w.alloc (.map #[] 0)) S 0 (fun _ => .slice none 0 0) (.slice none 0 0) [] :=
  ⟨MapIs.made w, fun x => World.ownsRow_nil _ _ _ _, fun x y h => Apart.nil _, World.ownsRow_nil _ _ _ _, fun x => Apart.nil _, (Below.refl _ _).alloc (Nat.le_refl _) _⟩
theorem GSt.cast {L' : List Wr} (H : GSt w wr S k f v L) (e : L = L') : GSt w wr S k f v L' := e ▸ H
theorem own_top {base e n size : Nat} {v : Value} {xs : List Value} (h : w.ownsRow base e size v n xs) : v.ownBlock = none ∨ v.ownBlock ≠ some w.heap.size := by
  cases hv : v.ownBlock with
  | none => exact .inl rfl
  | some g => exact .inr (fun e => by have := (h.lt g hv).2; injection e with e; omega)
theorem own_ne {base e n size j : Nat} {v : Value} {xs : List Value} (h : w.ownsRow base e size v n xs) (hj : j < base) : v.ownBlock = none ∨ v.ownBlock ≠ some j := by
  cases hv : v.ownBlock with
  | none => exact .inl rfl
  | some g => exact .inr (fun e => by have := (h.lt g hv).1; injection e with e; omega)
/-- A group more. -/
theorem GSt.more (H : GSt w wr S k f v L) (x : Wr) (hO : OntoN wr w' (w.heap.size + 1) 62 4 v v2 (L.length + 1) (flatW L ++ encW x)) : GSt w w' S k f v2 (L ++ [x]) := by
  have hg : ∀ y, (f y).ownBlock = none ∨ (f y).ownBlock ≠ v.ownBlock := fun y => by
    cases hv : (f y).ownBlock with
    | none => exact .inl rfl
    | some g => exact .inr (fun e => H.off y g e.symm hv)
  refine ⟨H.map.keep (hO.2.1.block _ H.big ?_), fun y => (H.rows y).kept hO.2.1 (hg y), H.apart, ?_, fun y g hv hf => ?_, ?_⟩
  · rcases own_ne (j := w.heap.size) H.out (by omega) with h | h
    · rw [h]; simp
    · exact fun e => h e.symm
  · have := hO.1
    rw [List.length_append, flatW_append]
    simpa [flatW] using this
  · rcases hO.2.2 g hv with h | h
    · exact H.off y g h hf
    · have := ((H.rows y).lt g hf).2; omega
  · exact H.bel.grown hO.2.1 H.bel.size fun g hg => by have := (H.out.lt g hg).1; omega
/-- What 'm[x]' opens for a store. -/
def EntryAt (w w1 : World) (b n : Nat) (f : Wr → Value) (x : Wr) (st : Int) : Prop :=
  w.grownBy w1 (some b) ∧ w1.heap.size = w.heap.size ∧
      ∀ (w2 : World) (v : Value), w2.heap[b]? = w1.heap[b]? → ∃ w3, (Instr.entryStore 82 (.map (some b)) (goInt st) v).run Try.prog w2 = .ok () w3 ∧ w2.grownBy w3 (some b) ∧ w3.heap.size = w2.heap.size ∧ MapIs w3 b (n + 1) fun y => if y = x then v else f y
/-- A place more. -/
theorem GSt.round (H : GSt w w6 S k f v L) (hk : (S k).kind = 2) {st : Int} {o : Obj} {v3 : Value} (E : EntryAt (w6.alloc o) w7 w.heap.size k f (wrOf (S k)) st)
    (hO : Onto w7 w8 (w.heap.size + 1) 3 (f (wrOf (S k))) v3 ((plc S (wrOf (S k)) k).length + 1) (iz (plc S (wrOf (S k)) k) ++ [.int .i64 (k : Int)])) (hg : w8.grownBy w9 (some w.heap.size))
    (hm : MapIs w9 w.heap.size (k + 1) fun y => if y = wrOf (S k) then v3 else f y) : GSt w w9 S (k + 1) (fun y => if y = wrOf (S k) then v3 else f y) v L := by
  have hB := H.big
  have r7 : ∀ y, w7.ownsRow (w.heap.size + 1) 3 1 (f y) (plc S y k).length (iz (plc S y k)) := fun y => ((H.rows y).alloc o).kept E.1 (own_ne (H.rows y) (by omega))
  have o7 : w7.ownsRow (w.heap.size + 1) 62 4 v L.length (flatW L) := (H.out.alloc o).kept E.1 (own_ne H.out (by omega))
  have b7 : Below w.heap.size w w7 := (H.bel.alloc H.bel.size o).grown E.1 (by simp; omega) fun g hg => by injection hg with hg; omega
  have s7 : w.heap.size ≤ w7.heap.size := b7.size
  have s8 : w.heap.size ≤ w8.heap.size := Nat.le_trans s7 hO.2.1.size
  have r8 : ∀ y, y ≠ wrOf (S k) → w8.ownsRow (w.heap.size + 1) 3 1 (f y) (plc S y k).length (iz (plc S y k)) := fun y hy => hO.keep (r7 y) (H.apart _ _ (Ne.symm hy))
  have a8 : ∀ y, y ≠ wrOf (S k) → Apart v3 (f y) := fun y hy => hO.apart (r7 y) (H.apart _ _ (Ne.symm hy))
  have o8 : w8.ownsRow (w.heap.size + 1) 62 4 v L.length (flatW L) := hO.keep o7 (H.off _).symm
  have av : Apart v v3 := (hO.apart o7 (H.off _).symm).symm
  refine ⟨hm, fun y => ?_, fun y z hyz => ?_, o8.kept hg (own_ne o8 (by omega)), fun y => ?_, ?_⟩
  · show w9.ownsRow _ _ _ (if y = wrOf (S k) then v3 else f y) _ _
    by_cases hy : y = wrOf (S k)
    · subst hy
      rw [if_pos rfl, plc_next, if_pos ((shB_iff _ _).2 ⟨hk, rfl⟩), List.length_append, iz_append]
      exact hO.1.kept hg (own_ne hO.1 (by omega))
    · rw [if_neg hy, plc_next, if_neg (fun h => hy ((shB_iff _ _).1 h).2.symm)]
      exact (r8 y hy).kept hg (own_ne (r8 y hy) (by omega))
  · show Apart (if y = wrOf (S k) then v3 else f y) (if z = wrOf (S k) then v3 else f z)
    by_cases hy : y = wrOf (S k)
    · by_cases hz : z = wrOf (S k)
      · exact absurd (hy.trans hz.symm) hyz
      · rw [if_pos hy, if_neg hz]; exact a8 z hz
    · by_cases hz : z = wrOf (S k)
      · rw [if_neg hy, if_pos hz]; exact (a8 y hy).symm
      · rw [if_neg hy, if_neg hz]; exact H.apart y z hyz
  · show Apart v (if y = wrOf (S k) then v3 else f y)
    by_cases hy : y = wrOf (S k)
    · rw [if_pos hy]; exact av
    · rw [if_neg hy]; exact H.off y
  · exact (b7.grown hO.2.1 s7 fun g hg => by have := ((r7 (wrOf (S k))).lt g hg).1; omega).grown hg s8 fun g hg => by injection hg with hg; omega
theorem GSt.own7 (H : GSt w w6 S k f v L) {r r' : Wr} {st : Int} {o : Obj} {u : Value} {m : Nat} (hf : f r = u) (hp : (plc S r k).length = m) (E : EntryAt (w6.alloc o) w7 w.heap.size k f r' st) :
    w7.ownsRow (w.heap.size + 1) 3 1 u m (iz (plc S r k)) := by
  subst hf hp
  exact ((H.rows r).alloc o).kept E.1 (own_ne (H.rows r) (by omega))
theorem GSt.lit7 (H : GSt w w6 S k f v L) {r' : Wr} {st : Int} {e : TypeId} {u : Value} {N : Nat} (hN : w6.heap.size = N) (E : EntryAt (w6.alloc (.cells #[u] e)) w7 w.heap.size k f r' st) : Rd w7 (N + 1) (some ⟨N, 0, none⟩) 1 [u] := by
  subst hN
  have hB := H.big
  have hh : w7.heap[w6.heap.size]? = some (.cells #[u] e (0, 0)) := (E.1.block _ (by simp) (fun e => by injection e with e; omega)).trans (heap_alloc_new _ _)
  refine ⟨rfl, fun _ => ⟨w6.heap.size, 0, rfl, by omega, fun i hi => ?_⟩⟩
  obtain rfl : i = 0 := by omega
  rw [cell_of_row _ _ _ _ _ _ hh]
  rfl
theorem GSt.base7 (H : GSt w w6 S k f v L) {r' : Wr} {st : Int} {o : Obj} (E : EntryAt (w6.alloc o) w7 w.heap.size k f r' st) : w.heap.size + 1 ≤ w7.heap.size := by
  have := E.1.size
  have := H.big
  simp at *
  omega
theorem GSt.round' (H : GSt w w6 S k f v L) (hk : (S k).kind = 2) {r : Wr} (hr : wrOf (S k) = r) {u : Value} {m : Nat} (hf : f r = u) (hp : (plc S r k).length = m) {st : Int} {o : Obj} {v3 : Value} (E : EntryAt (w6.alloc o) w7 w.heap.size k f r st)
    (hO : Onto w7 w8 (w.heap.size + 1) 3 u v3 (m + 1) (iz (plc S r k) ++ [.int .i64 (k : Int)])) (hM : w8.grownBy w9 (some w.heap.size) ∧ w9.heap.size = w8.heap.size ∧ MapIs w9 w.heap.size (k + 1) fun y => if y = r then v3 else f y) :
    GSt w w9 S (k + 1) (fun y => if y = r then v3 else f y) v L := by
  subst hr hf hp
  exact H.round hk E hO hM.1 hM.2.2
/-- A place that shows no writing. -/
theorem GSt.skip (H : GSt w wr S k f v (wrs S k)) (hk : (S k).kind ≠ 2) : GSt w wr S (k + 1) f v (wrs S (k + 1)) := by
  have hw : wrs S (k + 1) = wrs S k := by
    show (if _ then _ else _) = _
    rw [if_neg (fun h => hk h.1)]
  have hp : ∀ x, plc S x (k + 1) = plc S x k := fun x => by rw [plc_next, if_neg (fun h => hk ((shB_iff _ _).1 h).1)]
  rw [hw]
  obtain ⟨es, clock, h1, h2, h3, h4⟩ := H.map
  exact ⟨⟨es, clock, h1, h2, by omega, h4⟩, fun x => by rw [hp]; exact H.rows x, H.apart, H.out, H.off, H.bel⟩
theorem wrs_new (hk : (S k).kind = 2) (h : plc S (wrOf (S k)) k = []) : wrs S (k + 1) = wrs S k ++ [wrOf (S k)] := if_pos ⟨hk, h⟩
theorem wrs_old (h : plc S (wrOf (S k)) k ≠ []) : wrs S (k + 1) = wrs S k := if_neg fun c => h c.2
end
theorem ownsRow_set {w : World} {base e size g n cap j : Nat} {xs : List Value} {u : Value} (h : w.ownsRow base e size (.slice (some ⟨g, 0, none⟩) n cap) n xs) (hj : j < n * size) : (w.setCell ⟨g, j, none⟩ u).ownsRow base e size (.slice (some ⟨g, 0, none⟩) n cap) n (xs.set j u) := by
  rcases h.2 with ⟨hv, _⟩ | ⟨g', cap', cur, hv, hb, hg, hnc, hm, hcs, htake⟩
  · cases hv
  injection hv with hA hn hc
  injection hA with hA
  injection hA with hA
  subst hA hc
  refine ⟨by rw [List.length_set]; exact h.1, .inr ⟨g, cap, cur.setIfInBounds j u, rfl, hb, ?_, hnc, hm, by simpa using hcs, ?_⟩⟩
  · simp [World.setCell, Array.getElem?_modify, hg]
  · rw [Array.toList_setIfInBounds, List.take_set, htake]
theorem own_cell {w : World} {base e size g n cap : Nat} {xs : List Value} (h : w.ownsRow base e size (.slice (some ⟨g, 0, none⟩) n cap) n xs) (j : Nat) (u : Value) (hj : xs[j]? = some u) : w.cell? ⟨g, j, none⟩ = some u ∧ w.frozen? ⟨g, j, none⟩ = false := by
  have h1 := h.cells (g := g) rfl j u hj
  rw [show (⟨g, 0, none⟩ : Addr).add j = ⟨g, j, none⟩ by unfold Addr.add; split <;> simp_all] at h1
  refine ⟨h1, ?_⟩
  rcases h.2 with ⟨hv, _⟩ | ⟨g', cap', cur, hv, hb, hg, _⟩
  · cases hv
  injection hv with hA hn hc
  injection hA with hA
  injection hA with hA
  subst hA
  simp [World.frozen?, hg]
def encG (f : Wr → Value) (x : Wr) : List Value := [.int .i64 x.1, .int .i64 x.2.1, .int .i64 x.2.2, f x]
/-- The groups' cells; the first i have their places. -/
def flatG (f : Wr → Value) (l : List Wr) (i : Nat) : List Value := (l.take i).flatMap (encG f) ++ flatW (l.drop i)
theorem flatG_0 (f : Wr → Value) (l : List Wr) : flatG f l 0 = flatW l := rfl
theorem flatG_full (f : Wr → Value) (l : List Wr) : flatG f l l.length = l.flatMap (encG f) := by simp [flatG, flatW]
theorem encG_len (f : Wr → Value) (l : List Wr) : (l.flatMap (encG f)).length = l.length * 4 := by
  induction l with
  | nil => rfl
  | cons x r ih => rw [List.flatMap_cons, List.length_append, ih, List.length_cons]; show 4 + _ = _; omega
theorem flatG_at (f : Wr → Value) (l : List Wr) (i : Nat) (h : i < l.length) : ∃ pre post, pre.length = i * 4 ∧ flatG f l i = pre ++ (encW (l.getD i (0, 0, 0)) ++ post) ∧ flatG f l (i + 1) = pre ++ (encG f (l.getD i (0, 0, 0)) ++ post) := by
  refine ⟨(l.take i).flatMap (encG f), flatW (l.drop (i + 1)), by rw [encG_len, List.length_take]; omega, ?_, ?_⟩
  · unfold flatG
    rw [List.drop_eq_getElem_cons h, List.getD_eq_getElem?_getD, List.getElem?_eq_getElem h]
    rfl
  · unfold flatG
    rw [List.take_add_one, List.getD_eq_getElem?_getD, List.getElem?_eq_getElem h, Option.toList_some, List.flatMap_append, List.append_assoc]
    congr 1
theorem flatG_set (f : Wr → Value) (l : List Wr) (i : Nat) (h : i < l.length) : flatG f l (i + 1) = (flatG f l i).set (i * 4 + 3) (f (l.getD i (0, 0, 0))) := by
  obtain ⟨pre, post, h1, h2, h3⟩ := flatG_at f l i h
  rw [h2, h3, ← h1, List.set_append_right _ _ (by omega), show pre.length + 3 - pre.length = 3 by omega]
  rfl
theorem flatG_get (f : Wr → Value) (l : List Wr) (i j : Nat) (h : i < l.length) (hj : j < 4) : (flatG f l i)[i * 4 + j]? = (encW (l.getD i (0, 0, 0)))[j]? := by
  obtain ⟨pre, post, h1, h2, h3⟩ := flatG_at f l i h
  rw [h2, ← h1, List.getElem?_append_right (by omega), show pre.length + j - pre.length = j by omega, List.getElem?_append_left (by show j < 4; exact hj)]
/-- The state of the second loop, and behind it (i: all). -/
structure GOut (w wr : World) (S : Nat → Sn) (n : Nat) (f : Wr → Value) (v : Value) (gl : List Wr) (i : Nat) : Prop where
  map : MapIs wr w.heap.size n f
  rows : ∀ x, wr.ownsRow (w.heap.size + 1) 3 1 (f x) (plc S x n).length (iz (plc S x n))
  apart : ∀ x y, x ≠ y → Apart (f x) (f y)
  out : wr.ownsRow (w.heap.size + 1) 62 4 v gl.length (flatG f gl i)
  off : ∀ x, Apart v (f x)
  bel : Below w.heap.size w wr
  grp : IsGrp S n gl
theorem GSt.sorted {w wr w' : World} {S : Nat → Sn} {n : Nat} {f : Wr → Value} {v : Value} {gl : List Wr} (H : GSt w wr S n f v (wrs S n)) (hp : gl.Perm (wrs S n)) (hs : gl.Pairwise (fun x y => ¬ olderW x y)) (ho : w'.ownsRow (w.heap.size + 1) 62 4 v (wrs S n).length (flatW gl)) (hg : wr.grownBy w' v.ownBlock) :
    GOut w w' S n f v gl 0 := by
  refine ⟨H.map.keep (hg.block _ H.big ?_), fun x => (H.rows x).kept hg ?_, H.apart, by rw [flatG_0, hp.length_eq]; exact ho, H.off, H.bel.grown hg H.bel.size fun g h => by have := (H.out.lt g h).1; omega, .of_sort hp hs⟩
  · rcases own_ne (j := w.heap.size) H.out (by omega) with h | h
    · rw [h]; simp
    · exact fun e => h e.symm
  · cases hv : (f x).ownBlock with
    | none => exact .inl rfl
    | some g => exact .inr (fun e => H.off x g e.symm hv)
theorem GOut.drew {w wr : World} {S : Nat → Sn} {n : Nat} {f : Wr → Value} {v : Value} {gl : List Wr} {i : Nat} (H : GOut w wr S n f v gl i) : GOut w wr.drew S n f v gl i :=
  ⟨H.map.keep rfl, H.rows, H.apart, H.out, H.off, H.bel.drew, H.grp⟩
theorem GOut.step {w wr : World} {S : Nat → Sn} {n g cap : Nat} {f : Wr → Value} {gl : List Wr} {i : Nat} (H : GOut w wr S n f (.slice (some ⟨g, 0, none⟩) gl.length cap) gl i) (hi : i < gl.length) {x : Wr} (hx : gl.getD i (0, 0, 0) = x) :
    GOut w (wr.setCell ⟨g, i * 4 + 3, none⟩ (f x)) S n f (.slice (some ⟨g, 0, none⟩) gl.length cap) gl (i + 1) := by
  subst hx
  have hg := H.out.lt g rfl
  have hG : wr.grownBy (wr.setCell ⟨g, i * 4 + 3, none⟩ (f (gl.getD i (0, 0, 0)))) (some g) := ⟨rfl, rfl, rfl, by simp, fun j _ hj => by simp [World.setCell, Array.getElem?_modify]; exact fun e => absurd (by rw [e]) hj⟩
  refine ⟨H.map.keep (hG.block _ H.map.lt (fun e => by injection e with e; omega)), fun y => (H.rows y).kept hG ?_, H.apart, ?_, H.off, H.bel.setCell (by show _ ≤ g; omega) _, H.grp⟩
  · cases hv : (f y).ownBlock with
    | none => exact .inl rfl
    | some k => exact .inr (fun e => H.off y g rfl (by rw [hv]; exact e))
  · rw [flatG_set f gl i hi]
    exact ownsRow_set H.out (by omega)
section
variable {w : World} {ops : Array Oper} {rest : List Oper} {o : Oper} {a : Act} {Q : Exit → Act → World → Prop}
theorem wpList_look (hg : o.guard = none) (m x : Operand) (hop : o.op = Op.lookup 82 m x false) (b n : Nat) (f : Wr → Value) (hm : a.eval m = .map (some b)) (r : Wr) (hx : a.eval x = keyV r) (H : MapIs w b n f) (hr : WrOk r) (u : Value) (hu : f r = u)
    (hK : wpList Try.prog ops Q rest (a.put o.dst u) w) : wpList Try.prog ops Q (o :: rest) a w := by
  refine wpList_plain hg fun K' hK' => ?_
  have hrun := H.look r hr
  subst hu
  unfold Oper.wp
  simp [execOp, hop, hm, hx, hrun, Result.andThen]
  exact hK' _ _ hK
theorem wpList_mapEntry (hg : o.guard = none) (m x : Operand) (hop : o.op = Op.mapEntry 82 m x) (b n : Nat) (f : Wr → Value) (hm : a.eval m = .map (some b)) (r : Wr) (hx : a.eval x = keyV r) (H : MapIs w b n f) (hn : n < maxLen) (hr : WrOk r) (u : Value) (hu : f r = u)
    (hK : ∀ st w1, Hd (EntryAt w w1 b n f r st) → wpList Try.prog ops Q rest (a.put o.dst (.tuple #[u, goInt st])) w1) : wpList Try.prog ops Q (o :: rest) a w := by
  refine wpList_plain hg fun K' hK' => ?_
  obtain ⟨st, w1, hrun, h1, h2, h3⟩ := H.entry hn r hr
  subst hu
  unfold Oper.wp
  simp [execOp, hop, hm, hx, hrun, Result.andThen]
  exact hK' _ _ (hK st w1 ⟨h1, h2, h3⟩)
theorem wpList_entryStore (hg : o.guard = none) (m s x : Operand) (hop : o.op = Op.entryStore 82 m s x) (b n : Nat) (f : Wr → Value) (hm : a.eval m = .map (some b)) (st : Int) (hs : a.eval s = goInt st) (v : Value) (hx : a.eval x = v) {w0 w1 : World} {r : Wr} (E : EntryAt w0 w1 b n f r st) (hb : w.heap[b]? = w1.heap[b]?)
    (hK : ∀ w3, Hd (w.grownBy w3 (some b) ∧ w3.heap.size = w.heap.size ∧ MapIs w3 b (n + 1) fun y => if y = r then v else f y) → wpList Try.prog ops Q rest (a.put o.dst undef) w3) : wpList Try.prog ops Q (o :: rest) a w := by
  refine wpList_plain hg fun K' hK' => ?_
  obtain ⟨w3, hrun, h1, h2, h3⟩ := E.2.2 w v hb
  unfold Oper.wp
  simp [execOp, hop, hm, hs, hx, hrun, Result.andThen]
  exact hK' _ _ (hK w3 ⟨h1, h2, h3⟩)
end
theorem infoG2 : (Try.prog.info? 62).map (fun i => (i.zero, i.size, i.bytes)) = some (some (.agg #[.int .i64 0, .int .i64 0, .int .i64 0, .slice none 0 0]), 4, 48) := by kernel_rfl
theorem elG : ElN Try.prog 42 62 4 48 := by
  obtain ⟨i, hi, h⟩ := Option.map_eq_some_iff.1 infoG2
  simp only [Prod.mk.injEq] at h
  exact ⟨Try.underlying42, ⟨i, _, hi, h.1, h.2.1, h.2.2, rfl⟩, by omega⟩
theorem wpStill_look {w : World} {ops : Array Oper} {rest : List Oper} {o : Oper} {a : Act} {Q : Act → Prop} (hg : o.guard = none) (m x : Operand) (hop : o.op = Op.lookup 82 m x false) (b n : Nat) (f : Wr → Value) (hm : a.eval m = .map (some b)) (r : Wr) (hx : a.eval x = keyV r) (H : MapIs w b n f) (hr : WrOk r) (u : Value) (hu : f r = u)
    (h : wpStill Try.prog ops w Q rest (a.put o.dst u)) : wpStill Try.prog ops w Q (o :: rest) a := by
  refine wpStill_step fun K hK => ?_
  have hrun := H.look r hr
  subst hu
  have hw : Region.wanted o (yielded ops a.tmps) = true := by simp [Region.wanted, hg]
  rw [if_pos hw]
  unfold Oper.still
  simp [execOp, hop, hm, hx, hrun, Result.andThen, Oper.stillUpon]
  exact hK _ h
section
variable {P : Program} {ops : Array Oper} {rest : List Oper} {a : Act} {w : World} {Q : Exit → Act → World → Prop} {d : Option Tmp} {ty t : TypeId} {pos : String} {af : Array Edge} {gd : Option (Nat × Bool)} {x y z : Operand}
/-! Guards for arms: each fits where the operation is of its kind, and changes nothing. -/
theorem at_store (h : wpList P ops Q (⟨d, .store t x y, ty, pos, af, gd⟩ :: rest) a w) : wpList P ops Q (⟨d, .store t x y, ty, pos, af, gd⟩ :: rest) a w := h
theorem at_load (h : wpList P ops Q (⟨d, .load t x, ty, pos, af, gd⟩ :: rest) a w) : wpList P ops Q (⟨d, .load t x, ty, pos, af, gd⟩ :: rest) a w := h
theorem at_lookup {c : Bool} (h : wpList P ops Q (⟨d, .lookup t x y c, ty, pos, af, gd⟩ :: rest) a w) : wpList P ops Q (⟨d, .lookup t x y c, ty, pos, af, gd⟩ :: rest) a w := h
theorem at_mapEntry (h : wpList P ops Q (⟨d, .mapEntry t x y, ty, pos, af, gd⟩ :: rest) a w) : wpList P ops Q (⟨d, .mapEntry t x y, ty, pos, af, gd⟩ :: rest) a w := h
theorem at_entryStore (h : wpList P ops Q (⟨d, .entryStore t x y z, ty, pos, af, gd⟩ :: rest) a w) : wpList P ops Q (⟨d, .entryStore t x y z, ty, pos, af, gd⟩ :: rest) a w := h
theorem at_buildSlice {n : Nat} {ps : Array (Nat × Operand)} (h : wpList P ops Q (⟨d, .buildSlice t n ps, ty, pos, af, gd⟩ :: rest) a w) : wpList P ops Q (⟨d, .buildSlice t n ps, ty, pos, af, gd⟩ :: rest) a w := h
end
/-- 'append(s, x)' of an element of several cells where '[]T{x}' lies built. -/
theorem pushN_at0 {P : Program} {t e size bytes : Nat} {ops : Array Oper} {rest : List Oper} {o : Oper} {a : Act} {w0 : World} {Q : Exit → Act → World → Prop} (E : ElN P t e size bytes) (hgd : o.guard = none) (s x : Operand) (ho : o.op = .call { callee := .builtin .append, args := #[s, x], argTypes := #[t, t] })
    (base : Nat) (v : Value) (n : Nat) (xs us : List Value) (hs : a.eval s = v) (N : Nat) (hN : w0.heap.size = N) (hx : a.eval x = .slice (some ⟨N, 0, none⟩) 1 1) (hus : us.length = size) (h1 : ∀ u ∈ us, u.oneCell' = true) (hown : w0.ownsRow base e size v n xs)
    (h63 : n + 1 ≤ maxLen) (hby : (n + 1) * bytes ≤ 140737488355328) (hbase : base ≤ w0.heap.size)
    (h : ∀ v' w', OntoN w0 w' base e size v v' (n + 1) (xs ++ us) → wpList P ops Q rest (a.put o.dst v') w') :
    wpList P ops Q (o :: rest) a (w0.alloc (.cells us.toArray e)) := by
  subst hN
  refine wpList_appN E hgd s x ho base v n xs hs (hown.alloc _) (· < w0.heap.size + 1) (some ⟨w0.heap.size, 0, none⟩) 1 1 us hx ?_ h1 h63 hby (by simp; omega) fun v' w' g1 => ?_
  · refine ⟨by omega, fun _ => ⟨w0.heap.size, 0, rfl, by omega, fun i hi => ?_⟩⟩
    simp
  · refine h v' w' ⟨g1.1, (World.grownBy_alloc w0 _ v.ownBlock).trans g1.2.1, fun k hk => ?_⟩
    rcases g1.2.2 k hk with h1 | h1
    · exact .inl h1
    · simp at h1; exact .inr (by omega)
end Go.Proofs.Ytplpaipmkpjgfaa
