/- Lists of rows are written over and looked at. -/
import Derived.Test.YtjkenhkoakaaoaaMemV7
import Derived.Test.YtjkenhkoakaaoaaApartG
import Derived.Test.YtjkenhkoakaaoaaApartH
import Derived.Test.YtjkenhkoakaaoaaRowsA
namespace Go.Proofs.Ytjkenhkoakaaoaa
open Go.RowKit
set_option linter.unusedVariables false
section
variable {w0 w : World} {RL RL2 : List Row} {X : List Nat} {BL : List (Nat × Array Value × Nat)} {us : List Value} {I : List Nat}
theorem Ms.re (h : Ms w0 w RL X BL) (e : RL = RL2) : Ms w0 w RL2 X BL := by rw [← e]; exact h
/-- apart of a list that has just been written out. -/
theorem Ms.apart7 (h : Ms w0 w RL X BL) (J : List Nat) (e2 : pick RL J = RL2) (hI : I.Nodup) (hus : I.map (fun i => RL[i]?.map (·.2.1)) = us.map some) (he : I.map (fun i => RL[i]?.map (·.1)) = I.map fun _ => some 5) (hl : us.length ≤ 100) (hB : ∀ i ∈ I, ∀ x, RL[i]? = some x → x.2.2.length ≤ 140737488355000)
    (hJ : J.Nodup) (hIJ : ∀ j ∈ J, j ∉ I) (hs : (J.all fun j => RL[j]?.isSome) = true) :
    Calls Try.prog 45 #[.slice (some ⟨w.heap.size, 0, none⟩) us.length us.length] (w.alloc (.cells us.toArray 45)) fun e w' => e = .returned (.bool true) ∧ Ms w0 w' RL2 X BL ∧ Chg (ablk us) w w' ∧ ∀ y ∈ ablk us, y ∉ X := by
  subst e2
  have hal : Below w.heap.size w (w.alloc (.cells us.toArray 45)) := (Below.refl _ _).alloc (Nat.le_refl _) _
  refine (apart_any07 _ w0.heap.size us.length us.length _ us (nOf RL I) rfl (h.fil hI hus he (by unfold maxLen; omega) _) hl (nOf_le hB) (Nat.le_trans h.be.size hal.size)).mono ?_
  rintro e w' ⟨he, hc⟩
  exact ⟨he, (h.below hal).mark J hc hus hJ hIJ hs, ((Chg.of_below (L := []) hal).mono (fun k hk _ => absurd hk List.not_mem_nil)).trans hc, fun y hy hm => h.bag.off_blk (fun u hu => (us_mem hus u hu).imp fun i ⟨x, h⟩ => ⟨x, h.2⟩) hm hy⟩
theorem Ms.apartT7 (h : Ms w0 w RL X BL) (J : List Nat) (e2 : pick RL J = RL2) (hI : I.Nodup) (hus : I.map (fun i => RL[i]?.map (·.2.1)) = us.map some) (he : I.map (fun i => RL[i]?.map (·.1)) = I.map fun _ => some 9) (hl : us.length ≤ 100) (hB : ∀ i ∈ I, ∀ x, RL[i]? = some x → x.2.2.length ≤ 8796093021000)
    (hJ : J.Nodup) (hIJ : ∀ j ∈ J, j ∉ I) (hs : (J.all fun j => RL[j]?.isSome) = true) :
    Calls Try.prog 55 #[.slice (some ⟨w.heap.size, 0, none⟩) us.length us.length] (w.alloc (.cells us.toArray 49)) fun e w' => e = .returned (.bool true) ∧ Ms w0 w' RL2 X BL ∧ Chg (ablk us) w w' ∧ ∀ y ∈ ablk us, y ∉ X := by
  subst e2
  have hal : Below w.heap.size w (w.alloc (.cells us.toArray 49)) := (Below.refl _ _).alloc (Nat.le_refl _) _
  refine (apartTexts_any07 _ w0.heap.size us.length us.length _ us (nOf RL I) rfl (h.fil hI hus he (by unfold maxLen; omega) _) hl (nOf_le hB) (Nat.le_trans h.be.size hal.size)).mono ?_
  rintro e w' ⟨he, hc⟩
  exact ⟨he, (h.below hal).mark J hc hus hJ hIJ hs, ((Chg.of_below (L := []) hal).mono (fun k hk _ => absurd hk List.not_mem_nil)).trans hc, fun y hy hm => h.bag.off_blk (fun u hu => (us_mem hus u hu).imp fun i ⟨x, h⟩ => ⟨x, h.2⟩) hm hy⟩
end
theorem Rws.step7 {w w' : World} {A : Option Addr} {n : Nat} {ps : List (List Nat)} (h : Rws w A n ps) (b : Below w.heap.size w w') : Rws w' A n ps :=
  ⟨h.1, fun r hr => let ⟨g, off, Ar, Cr, e, hg, hc, hrd, hx⟩ := h.2 r hr
    ⟨g, off, Ar, Cr, e, Nat.lt_of_lt_of_le hg b.size, (b.cell (p := ⟨g, off + r, none⟩) hg).trans hc, (hrd.below b).more b.size, hx⟩⟩
end Go.Proofs.Ytjkenhkoakaaoaa
