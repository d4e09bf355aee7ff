/- CodecMemory: lists of rows of one's own come in; apart of a list that is not a fresh literal. -/
import Derived.Test.YtjkenhkoakaaoaaTwiceW
namespace Go.Proofs.Ytjkenhkoakaaoaa
open Go.RowKit
set_option linter.unusedVariables false
theorem nine {α : Type} (l : List α) (h : l.length = 9) : ∃ x1 x2 x3 x4 x5 x6 x7 x8 x9, l = [x1, x2, x3, x4, x5, x6, x7, x8, x9] := by
  match l, h with
  | [a, b, c, d, e, f, g, h, i], _ => exact ⟨a, b, c, d, e, f, g, h, i, rfl⟩
theorem four {α : Type} (l : List α) (h : l.length = 4) : ∃ x1 x2 x3 x4, l = [x1, x2, x3, x4] := by
  match l, h with
  | [a, b, c, d], _ => exact ⟨a, b, c, d, rfl⟩
section
variable {w0 w w' : World} {RL RL2 : List Row} {X : List Nat} {BL : List (Nat × Array Value × Nat)} {I : List Nat}
theorem bag_pair {W : World} {base : Nat} {L : List Row} {Y : List Nat} (B : Bag W base L Y) : L.Pairwise fun r s => Apart r.2.1 s.2.1 :=
  List.pairwise_iff_getElem.2 fun i j hi hj h => B.apart i j _ _ (List.getElem?_eq_getElem hi) (List.getElem?_eq_getElem hj) (by omega)
/-- A call that makes a list of rows, and nothing else. -/
theorem Ms.list (H : Ms w0 w RL X BL) {v : Value} {l : List Slc} {ps : List (List Nat)} (o : OwV w.heap.size w' v l ps) (b : Below w.heap.size w w') : Ms w0 w' (RL ++ l.map slr) (X ++ v.ownBlock.toList) BL := by
  have hv : ∀ k, v.ownBlock = some k → w.heap.size ≤ k ∧ k < w'.heap.size := fun k hk => o.out.lt k hk
  refine H.turn (Y := []) (X' := X ++ v.ownBlock.toList) (NR := l.map slr) (Chg.of_below b) (fun y h => absurd h List.not_mem_nil) (fun p _ => List.not_mem_nil) (fun x hx => ?_) (fun p hp => List.mem_append_left _ (H.bx p hp).2) o.bag.own (bag_pair o.bag) fun r hr k hk => ?_
  · rcases List.mem_append.1 hx with h | h
    · exact ⟨Nat.lt_of_lt_of_le (H.bag.ltX x h) b.size, .inl h⟩
    · have := hv x (Option.mem_toList.1 h); exact ⟨this.2, .inr this.1⟩
  · rcases List.mem_append.1 hk with h | h
    · intro e
      have := ((o.bag.own r hr).lt k e).1
      have := H.bag.ltX k h; omega
    · exact o.bag.off r hr k h
theorem Ow.toV {base : Nat} {g : Nat} {l : List Slc} {ps : List (List Nat)} (o : Ow base w g l ps) : OwV base w (.slice (some ⟨g, 0, none⟩) l.length l.length) l ps :=
  ⟨o.out, ⟨o.bag.own, o.bag.apart, fun x hx k hk => o.bag.off x hx k (by rw [Option.mem_toList] at hk; have hk : some g = some k := hk; injection hk with hk; rw [hk]; exact List.mem_singleton.2 rfl), fun k hk => o.bag.ltX k (by rw [Option.mem_toList] at hk; have hk : some g = some k := hk; injection hk with hk; rw [hk]; exact List.mem_singleton.2 rfl)⟩, o.ps, o.lt⟩
/-- A list of rows of one's own reads as these rows. -/
theorem rws_own {base : Nat} {A : Option Addr} {k c : Nat} {l : List Slc} (h : w.ownsRow base 45 1 (.slice A k c) k (l.map slv)) (hl : l.length = k) (hr : ∀ x ∈ l, Kp w x.1 x.2.1 x.2.2.2) : Rws w A k (l.map fun x => x.2.2.2) := by
  refine ⟨by rw [List.length_map]; exact hl, fun r hr2 => ?_⟩
  obtain ⟨g, cap, e, _, hg⟩ := own_pos h (by omega)
  cases e
  have hx := hr l[r] (List.getElem_mem (by omega))
  have hgd : (l.map fun x => x.2.2.2).getD r [] = l[r].2.2.2 := by rw [List.getD_eq_getElem?_getD, List.getElem?_map, List.getElem?_eq_getElem (by omega)]; rfl
  refine ⟨g, 0, l[r].1, l[r].2.2.1, rfl, hg, ?_, ?_, ?_⟩
  · rw [hgd, hx.ln, Nat.zero_add]
    exact (own_atG h (j := r) (u := slv l[r]) (by rw [List.getElem?_map, List.getElem?_eq_getElem (by omega)]; rfl)).1
  · rw [hgd, hx.ln]; exact hx.rd
  · rw [hgd]; exact hx.lt
/-- apart of a list whose own block is of X. -/
theorem Ms.apartV {A : Option Addr} {k c : Nat} {us : List Value} (h : Ms w0 w RL X BL) (ho : w.ownsRow w0.heap.size 45 1 (.slice A k c) us.length us) (hk : us.length = k) (hX : ∀ g, (Value.slice A k c).ownBlock = some g → g ∈ X) (J : List Nat) (e2 : pick RL J = RL2) (hI : I.Nodup) (hus : I.map (fun i => RL[i]?.map (·.2.1)) = us.map some) (he : I.map (fun i => RL[i]?.map (·.1)) = I.map fun _ => some 5) (hl : us.length ≤ 100) (hB : ∀ i ∈ I, ∀ x, RL[i]? = some x → x.2.2.length ≤ 140737488355000)
    (hJ : J.Nodup) (hIJ : ∀ j ∈ J, j ∉ I) (hs : (J.all fun j => RL[j]?.isSome) = true) :
    Calls Try.prog 45 #[.slice A k c] w fun e w' => e = .returned (.bool true) ∧ Ms w0 w' RL2 X BL ∧ Chg (ablk us) w w' ∧ ∀ y ∈ ablk us, y ∉ X := by
  subst e2
  have F : Fil w w0.heap.size 45 5 (.slice A k c) us (nOf RL I) (fbG (nOf RL I)) (fun _ _ => False) := by
    refine ⟨ho, fun i u hu => ?_, fun i j u u' hu hu' hij => ?_, fun i u hu => ?_⟩
    · obtain ⟨q, x, hq, hx, rfl⟩ := us_rows hus hu
      have hn : nOf RL I i = x.2.2.length := by unfold nOf; rw [hq]; simp only [Option.bind_some, hx, Option.map_some, Option.getD_some]
      have ht : x.1 = 5 := by
        have e3 : (I.map (fun i => RL[i]?.map (·.1)))[i]? = (I.map fun _ => some 5)[i]? := by rw [he]
        rw [List.getElem?_map, List.getElem?_map, hq] at e3
        simp only [Option.map_some, Option.some.injEq, hx] at e3
        exact e3
      have := h.bag.own x (List.mem_of_getElem? hx)
      rw [ht, ← hn] at this
      exact ⟨x.2.2, this, fun t _ hf => absurd hf id⟩
    · obtain ⟨q, x, hq, hx, rfl⟩ := us_rows hus hu
      obtain ⟨q', x', hq', hx', rfl⟩ := us_rows hus hu'
      exact h.bag.apart q q' x x' hx hx' fun e => hij (by subst e; exact nodup_at hI hq hq')
    · obtain ⟨q, x, hq, hx, rfl⟩ := us_rows hus hu
      exact fun b h1 h2 => h.bag.off x (List.mem_of_getElem? hx) b (hX b h1) h2
  refine (apart_any07 w w0.heap.size k c A us (nOf RL I) hk F (by omega) (nOf_le hB) h.be.size).mono ?_
  rintro e w' ⟨he, hc⟩
  exact ⟨he, h.mark J hc hus hJ hIJ hs, hc, fun y hy hm => h.bag.off_blk (fun u hu => (us_mem hus u hu).imp fun i ⟨x, h⟩ => ⟨x, h.2⟩) hm hy⟩
end
end Go.Proofs.Ytjkenhkoakaaoaa
