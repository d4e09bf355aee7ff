/- CodecMemory: lists as rows of the bag, grown and looked at. -/
import Derived.Test.YtjkenhkoakaaoaaMemM7
namespace Go.Proofs.Ytjkenhkoakaaoaa
open Go.RowKit
set_option linter.unusedVariables false
section
variable {w0 w w' : World} {RL RL2 : List Row} {X : List Nat} {BL : List (Nat × Array Value × Nat)} {I : List Nat}
theorem OwV.low {base base' : Nat} {v : Value} {l : List Slc} {ps : List (List Nat)} (h : OwV base w v l ps) (hb : base' ≤ base) : OwV base' w v l ps :=
  ⟨own_baseM h.out hb, ⟨fun x hx => own_baseM (h.bag.own x hx) hb, h.bag.apart, h.bag.off, h.bag.ltX⟩, h.ps, h.lt⟩
theorem rows_lit (w : World) (l : List Slc) (h : ∀ x ∈ l, Kp w x.1 x.2.1 x.2.2.2) (hl : l.length ≤ 100) (hs : ∀ x ∈ l, x.2.1 ≤ 140737488355000) :
    Calls Try.prog 44 #[.slice (some ⟨w.heap.size, 0, none⟩) l.length l.length] (w.alloc (.cells (l.map slv).toArray 45)) fun e w' => ∃ v l', e = .returned v ∧ OwV w.heap.size w' v l' (l.map fun x => x.2.2.2) ∧ Below w.heap.size w w' := by
  have b1 : Below w.heap.size w (w.alloc (.cells (l.map slv).toArray 45)) := (Below.refl _ _).alloc (Nat.le_refl _) _
  refine (rows_any _ _ l.length _ (l.map fun x => x.2.2.2) (rws_of (w := w) (e := 45) l h) hl (fun p hp => ?_)).mono ?_
  · obtain ⟨x, hx, rfl⟩ := List.mem_map.1 hp
    have := (h x hx).ln; have := hs x hx; omega
  · rintro e w' ⟨v, l', he, ho, hb⟩
    exact ⟨v, l', he, ho.low b1.size, b1.trans (hb.mono b1.size)⟩
/-- A list of rows comes in: the list itself is a row, too. -/
theorem Ms.listR (H : Ms w0 w RL X BL) {v : Value} {l : List Slc} {ps : List (List Nat)} (o : OwV w.heap.size w' v l ps) (b : Below w.heap.size w w') : Ms w0 w' (RL ++ ((45, v, l.map slv) :: l.map slr)) X BL := by
  refine H.rows b (fun r hr => ?_) (List.pairwise_cons.2 ⟨fun r hr k h1 h2 => o.bag.off r hr k (Option.mem_toList.2 h1) h2, bag_pair o.bag⟩)
  rcases List.mem_cons.1 hr with rfl | h
  · have := o.out
    show w'.ownsRow _ _ 1 v (l.map slv).length _
    rwa [List.length_map]
  · exact o.bag.own r h
/-- A row of the bag has grown. -/
theorem Ms.grow {L1 L2 : List Row} {e : Nat} {v v' : Value} {xs ys : List Value} (H : Ms w0 w (L1 ++ (e, v, xs) :: L2) X BL) (O : Onto w w' w0.heap.size e v v' ys.length ys) : Ms w0 w' (L1 ++ (e, v', ys) :: L2) X BL := by
  have hv := H.bag.own (e, v, xs) (List.mem_append_right _ List.mem_cons_self)
  have hvo := H.bag.off (e, v, xs) (List.mem_append_right _ List.mem_cons_self)
  have c : Chg v.ownBlock.toList w w' := ⟨O.2.1.os, O.2.1.tape, O.2.1.output, O.2.1.size, fun k hk hm => O.2.1.block k hk fun e => hm (by rw [Option.mem_toList]; exact e.symm)⟩
  have idx : (L1 ++ (e, v, xs) :: L2)[L1.length]? = some (e, v, xs) := by rw [List.getElem?_append_right (Nat.le_refl _)]; simp
  have other : ∀ (i : Nat) (x : Row), i ≠ L1.length → ((L1 ++ (e, v', ys) :: L2)[i]? = some x ↔ (L1 ++ (e, v, xs) :: L2)[i]? = some x) := fun i x hi => by
    rcases Nat.lt_or_ge i L1.length with g | g
    · rw [List.getElem?_append_left g, List.getElem?_append_left g]
    · rw [List.getElem?_append_right g, List.getElem?_append_right g]
      obtain ⟨k, hk⟩ : ∃ k, i - L1.length = k + 1 := ⟨i - L1.length - 1, by omega⟩
      rw [hk, List.getElem?_cons_succ, List.getElem?_cons_succ]
  have same : ∀ x, (L1 ++ (e, v', ys) :: L2)[L1.length]? = some x → x = (e, v', ys) := fun x h => by
    rw [List.getElem?_append_right (Nat.le_refl _)] at h; simp at h; exact h.symm
  have apv : ∀ (i : Nat) (x : Row), i ≠ L1.length → (L1 ++ (e, v, xs) :: L2)[i]? = some x → Apart v' x.2.1 := fun i x hi hx k h1 h2 => by
    rcases O.2.2 k h1 with h | h
    · exact H.bag.apart _ _ _ _ idx hx (fun e => hi e.symm) k h h2
    · have := ((H.bag.own x (List.mem_of_getElem? hx)).lt k h2).2; omega
  refine ⟨⟨fun x hx => ?_, fun i j x y hx hy hij => ?_, fun x hx k hk => ?_, fun k hk => Nat.lt_of_lt_of_le (H.bag.ltX k hk) c.size⟩, fun p hp => ⟨?_, (H.bx p hp).2⟩, H.be.trans (c.below H.be.size fun k hk => (hv.lt k (Option.mem_toList.1 hk)).1), H.ge⟩
  · obtain ⟨i, hi⟩ := List.getElem?_of_mem hx
    by_cases h : i = L1.length
    · subst h; rw [same x hi]; exact O.own
    · have h2 := (other i x h).1 hi
      exact c.own (H.bag.own x (List.mem_of_getElem? h2)) fun k hk hm => H.bag.apart _ _ _ _ idx h2 (fun e => h e.symm) k (Option.mem_toList.1 hm) hk
  · by_cases h : i = L1.length
    · subst h
      have h2 := (other j y (fun e => hij e.symm)).1 hy
      rw [same x hx]
      exact apv j y (fun e => hij e.symm) h2
    · by_cases h' : j = L1.length
      · subst h'
        have h2 := (other i x h).1 hx
        rw [same y hy]
        exact (apv i x h h2).symm
      · exact H.bag.apart i j x y ((other i x h).1 hx) ((other j y h').1 hy) hij
  · obtain ⟨i, hi⟩ := List.getElem?_of_mem hx
    by_cases h : i = L1.length
    · subst h; rw [same x hi]
      intro e1
      rcases O.2.2 k e1 with h | h
      · exact hvo k hk h
      · have := H.bag.ltX k hk; omega
    · exact H.bag.off x (List.mem_of_getElem? ((other i x h).1 hi)) k hk
  · exact (c.block p.1 (H.box_lt hp) fun hm => hvo p.1 (H.bx p hp).2 (Option.mem_toList.1 hm)).trans (H.bx p hp).1
/-- apart of a list that is a row of the bag. -/
theorem Ms.apartR {A : Option Addr} {k c : Nat} {us : List Value} (h : Ms w0 w RL X BL) (q : Nat) (hq : RL[q]? = some (45, .slice A k c, us)) (hqI : q ∉ I) (hk : us.length = k) (J : List Nat) (e2 : pick RL J = RL2) (hI : I.Nodup) (hus : I.map (fun i => RL[i]?.map (·.2.1)) = us.map some) (he : I.map (fun i => RL[i]?.map (·.1)) = I.map fun _ => some 5) (hl : us.length ≤ 100) (hB : ∀ i ∈ I, ∀ x, RL[i]? = some x → x.2.2.length ≤ 140737488355000)
    (hJ : J.Nodup) (hIJ : ∀ j ∈ J, j ∉ I) (hs : (J.all fun j => RL[j]?.isSome) = true) :
    Calls Try.prog 45 #[.slice A k c] w fun e w' => e = .returned (.bool true) ∧ Ms w0 w' RL2 X BL ∧ Chg (ablk us) w w' ∧ ∀ y ∈ ablk us, y ∉ X := by
  subst e2
  have F : Fil w w0.heap.size 45 5 (.slice A k c) us (nOf RL I) (fbG (nOf RL I)) (fun _ _ => False) := by
    refine ⟨h.bag.own _ (List.mem_of_getElem? hq), fun i u hu => ?_, fun i j u u' hu hu' hij => ?_, fun i u hu => ?_⟩
    · obtain ⟨r, x, hr, hx, rfl⟩ := us_rows hus hu
      have hn : nOf RL I i = x.2.2.length := by unfold nOf; rw [hr]; simp only [Option.bind_some, hx, Option.map_some, Option.getD_some]
      have ht : x.1 = 5 := by
        have e3 : (I.map (fun i => RL[i]?.map (·.1)))[i]? = (I.map fun _ => some 5)[i]? := by rw [he]
        rw [List.getElem?_map, List.getElem?_map, hr] at e3
        simp only [Option.map_some, Option.some.injEq, hx] at e3
        exact e3
      have := h.bag.own x (List.mem_of_getElem? hx)
      rw [ht, ← hn] at this
      exact ⟨x.2.2, this, fun t _ hf => absurd hf id⟩
    · obtain ⟨r, x, hr, hx, rfl⟩ := us_rows hus hu
      obtain ⟨r', x', hr', hx', rfl⟩ := us_rows hus hu'
      exact h.bag.apart r r' x x' hx hx' fun e => hij (by subst e; exact nodup_at hI hr hr')
    · obtain ⟨r, x, hr, hx, rfl⟩ := us_rows hus hu
      exact h.bag.apart q r _ x hq hx fun e => hqI (by subst e; exact List.mem_of_getElem? hr)
  refine (apart_any07 w w0.heap.size k c A us (nOf RL I) hk F (by omega) (nOf_le hB) h.be.size).mono ?_
  rintro e w' ⟨he, hc⟩
  exact ⟨he, h.mark J hc hus hJ hIJ hs, hc, fun y hy hm => h.bag.off_blk (fun u hu => (us_mem hus u hu).imp fun i ⟨x, h⟩ => ⟨x, h.2⟩) hm hy⟩
/-- The rows of a list of the bag read as they should. -/
theorem Ms.kp (h : Ms w0 w RL X BL) {x : Slc} (hx : slr x ∈ RL) (hl : ∀ y ∈ x.2.2.2, y < 256) : Kp w x.1 x.2.1 x.2.2.2 := by
  obtain ⟨i, hi⟩ := List.getElem?_of_mem hx
  have o := h.bag.own _ hx
  obtain ⟨A, c, e, _⟩ := own_form o
  have hn : x.2.1 = (cb x.2.2.2).length := by
    have e : slv x = .slice A (cb x.2.2.2).length c := e
    unfold slv at e
    injection e
  exact ⟨h.bag.rd i hi, by rw [hn, cb_length], hl⟩
theorem Ms.rws (h : Ms w0 w RL X BL) {A : Option Addr} {k c : Nat} {l : List Slc} (q : Nat) (hq : RL[q]? = some (45, .slice A k c, l.map slv)) (hl : l.length = k) (hr : ∀ x ∈ l, slr x ∈ RL) (hlt : ∀ x ∈ l, ∀ y ∈ x.2.2.2, y < 256) : Rws w A k (l.map fun x => x.2.2.2) := by
  have o := h.bag.own _ (List.mem_of_getElem? hq)
  simp only [List.length_map, hl] at o
  exact rws_own o hl fun x hx => h.kp (hr x hx) (hlt x hx)
end
end Go.Proofs.Ytjkenhkoakaaoaa
