/- Where the law's own stands. -/
import Derived.Test.YtplpaipmkpjgfaaApartO
import Derived.Test.YtplpaipmkpjgfaaMoveP
import Derived.Test.YtplpaipmkpjgfaaJudgesWalk
namespace Go.Proofs.Ytplpaipmkpjgfaa
open Go.RowKit
set_option linter.unusedVariables false
set_option linter.unusedSimpArgs false
abbrev Ans3 := Value × List Value × List (List Int)
section
variable {S S' : Nat → Sn} {n : Nat}
theorem staleP_cong2 (h : ∀ r, r < n → (S' r).kind = (S r).kind ∧ (S' r).hd = (S r).hd) (vk ep ct sz : Int) : staleP S' vk ep ct sz n = staleP S vk ep ct sz n := by
  unfold staleP
  congr 1
  refine List.filter_congr fun r hr => ?_
  have := h r (List.mem_range.1 hr)
  unfold staleB showsP
  rw [this.1, this.2]
theorem grpR_congr (h : ∀ r, r < n → (S' r).kind = (S r).kind ∧ (S' r).hd = (S r).hd) (L : List Wr) : grpR S' n L = grpR S n L := by
  unfold grpR
  simp only [plc_congr h]
theorem askP_congr (h : ∀ r, r < n → (S' r).kind = (S r).kind ∧ (S' r).hd = (S r).hd) (i k m b : Int) : askP i S' n k m b = askP i S n k m b := by
  unfold askP
  rw [judgeP_congr h, possP_congr h, grpL_congr h, grpR_congr h, grpR_congr h, staleP_cong2 h, staleP_cong2 h]
theorem grpR_row (S : Nat → Sn) (n : Nat) (L : List Wr) : ∀ r ∈ grpR S n L, r.length ≤ n + 4 := fun r hr => by
  obtain ⟨x, _, hx⟩ := List.mem_flatMap.1 hr
  simp only [List.mem_cons, List.not_mem_nil, or_false] at hx
  rcases hx with rfl | rfl
  · have := plc_le S x n; omega
  · simp
theorem askP_row (i : Int) (S : Nat → Sn) (n : Nat) (k m b : Int) : ∀ r ∈ askP i S n k m b, r.length ≤ n + 4 := fun r hr => by
  unfold askP at hr
  split at hr
  · simp only [List.mem_cons, List.not_mem_nil, or_false] at hr
    rcases hr with rfl | rfl
    · have := judge_len S n k m b; omega
    · simp
  · split at hr
    · rw [List.mem_singleton.1 hr]; have := staleP_le S 2 0 0 0 n; omega
    · split at hr
      · rw [List.mem_singleton.1 hr]; have := staleP_le S 1 1 2 5 n; omega
      · split at hr
        · exact grpR_row _ _ _ r hr
        · rcases List.mem_append.1 hr with h | h
          · exact grpR_row _ _ _ r h
          · split at h
            · rw [List.mem_singleton.1 h]; simp
            · simp at h
theorem askP_row' (i : Int) (S : Nat → Sn) (n : Nat) (k m b : Int) (j : Nat) : ((askP i S n k m b).getD j []).length ≤ n + 4 := by
  rw [List.getD_eq_getElem?_getD]
  cases h : (askP i S n k m b)[j]? with
  | none => simp
  | some r => exact askP_row i S n k m b r (List.mem_of_getElem? h)
theorem askP_len (i : Int) (S : Nat → Sn) (n : Nat) (k m b : Int) : (askP i S n k m b).length ≤ 2 * n + 2 := by
  unfold askP
  split
  · simp
  · split
    · simp
    · split
      · simp
      · split
        · rw [grpR_len]; have := grpL_le S n; omega
        · rw [List.length_append, grpR_len]
          have := poss_len S n k m b
          split <;> simp <;> omega
end
/-- Answers, each in memory of its own, and the shape's box. -/
structure OS3 (w W : World) (k m b : Int) (AL : List Ans3) : Prop where
  sh : W.heap[w.heap.size]? = some (.cells #[.int .i64 k, .int .i64 m, .int .i64 b] 34 (0, 0))
  ans : ∀ x ∈ AL, AnsW W (w.heap.size + 1) x.1 x.2.1 x.2.2
  dis : ∀ (i j : Nat) (x y : Ans3), AL[i]? = some x → AL[j]? = some y → i ≠ j → ∀ u ∈ x.1 :: x.2.1, ∀ u' ∈ y.1 :: y.2.1, Apart u u'
  bel : Below w.heap.size w W
/-- Beside them the list that is handed in, and may be written over. -/
structure OWt (w W : World) (g n : Nat) (A : Option Addr) (T : Nat → Sn) (B : Nat → List (List Nat)) (k m b : Int) (AL : List Ans3) : Prop where
  st : OS3 w W k m b AL
  cop : 0 < n → A = some ⟨g, 0, none⟩ ∧ Cop W (w.heap.size + 1) g n T
  rbl : ∀ r, r < n → RBl W (fun q => q < W.heap.size ∧ q ≠ g) (T r).bl (B r)
  off : ∀ x ∈ AL, ∀ u ∈ x.1 :: x.2.1, u.ownBlock ≠ some g
  hg : w.heap.size ≤ g ∧ g < W.heap.size
section
variable {w W W' : World} {g n : Nat} {A : Option Addr} {T T' : Nat → Sn} {B : Nat → List (List Nat)} {k m b : Int} {AL : List Ans3}
theorem AnsW.lt {base : Nat} {v : Value} {us : List Value} {R : List (List Int)} (H : AnsW W base v us R) : ∀ u ∈ v :: us, ∀ q, u.ownBlock = some q → base ≤ q ∧ q < W.heap.size := fun u hu q hq => by
  rcases List.mem_cons.1 hu with rfl | h
  · exact H.out.lt q hq
  · obtain ⟨i, hi⟩ := List.getElem?_of_mem h
    exact (H.row i u hi).lt q hq
theorem OS3.big (H : OS3 w W k m b AL) : w.heap.size < W.heap.size := (Array.getElem?_eq_some_iff.1 H.sh).1
theorem OS3.keep (H : OS3 w W k m b AL) (h : Below W.heap.size W W') : OS3 w W' k m b AL :=
  ⟨(h.block _ H.big).trans H.sh, fun x hx => (H.ans x hx).keep h, H.dis, H.bel.trans (h.mono H.bel.size)⟩
theorem OS3.push (H : OS3 w W k m b AL) {v : Value} {us : List Value} {R : List (List Int)} (ha : AnsW W' W.heap.size v us R) (h : Below W.heap.size W W') : OS3 w W' k m b (AL ++ [(v, us, R)]) := by
  have K := H.keep h
  have key : ∀ (i : Nat) (x : Ans3), (AL ++ [(v, us, R)])[i]? = some x → (i < AL.length ∧ AL[i]? = some x) ∨ (i = AL.length ∧ x = (v, us, R)) := fun i x h => by
    rcases Nat.lt_or_ge i AL.length with g | g
    · rw [List.getElem?_append_left g] at h; exact .inl ⟨g, h⟩
    · rw [List.getElem?_append_right g] at h
      rcases Nat.eq_zero_or_pos (i - AL.length) with e | e
      · rw [e] at h; simp at h; exact .inr ⟨by omega, h.symm⟩
      · rw [List.getElem?_eq_none (by simp; omega)] at h; cases h
  refine ⟨K.sh, fun x hx => ?_, fun i j x y hx hy hij u hu u' hu' => ?_, K.bel⟩
  · rcases List.mem_append.1 hx with h1 | h1
    · exact K.ans x h1
    · rw [List.mem_singleton.1 h1]; exact ha.low H.big
  · rcases key i x hx with ⟨_, e⟩ | ⟨e, rfl⟩
    · rcases key j y hy with ⟨_, e2⟩ | ⟨e2, rfl⟩
      · exact H.dis i j x y e e2 hij u hu u' hu'
      · intro q h1 h2
        have := ((H.ans x (List.mem_of_getElem? e)).lt u hu q h1).2
        have := (ha.lt u' hu' q h2).1
        omega
    · rcases key j y hy with ⟨_, e2⟩ | ⟨e2, rfl⟩
      · intro q h1 h2
        have := ((H.ans y (List.mem_of_getElem? e2)).lt u' hu' q h2).2
        have := (ha.lt u hu q h1).1
        omega
      · omega
theorem OWt.keep (H : OWt w W g n A T B k m b AL) (h : Below W.heap.size W W') : OWt w W' g n A T B k m b AL :=
  ⟨H.st.keep h, fun hn => ⟨(H.cop hn).1, (H.cop hn).2.keep h⟩, fun r hr => (H.rbl r hr).keep (fun a ha => h.cell ha.1) (fun q hq => ⟨Nat.lt_of_lt_of_le hq.1 h.size, hq.2⟩), H.off, H.hg.1, Nat.lt_of_lt_of_le H.hg.2 h.size⟩
theorem OWt.push (H : OWt w W g n A T B k m b AL) {v : Value} {us : List Value} {R : List (List Int)} (ha : AnsW W' W.heap.size v us R) (h : Below W.heap.size W W') : OWt w W' g n A T B k m b (AL ++ [(v, us, R)]) := by
  have K := H.keep h
  refine ⟨H.st.push ha h, K.cop, K.rbl, fun x hx u hu => ?_, K.hg⟩
  rcases List.mem_append.1 hx with h1 | h1
  · exact H.off x h1 u hu
  · rw [List.mem_singleton.1 h1] at hu
    intro e
    have := (ha.lt u hu g e).1
    have := H.hg.2
    omega
theorem OWt.view (H : OWt w W g n A T B k m b AL) : View W W.heap.size A n T := by
  rcases Nat.eq_zero_or_pos n with h | h
  · subst h; exact fun r hr => absurd hr (by omega)
  · rw [(H.cop h).1]; exact (H.cop h).2.view
theorem OWt.seen (H : OWt w W g n A T B k m b AL) (hB : ∀ r, r < n → ∀ j, j < (B r).length → ∀ x ∈ (B r).getD j [], x < 256) (h1 : n * 120 ≤ 140737488351232) (h2 : ∀ r, r < n → (B r).length * 24 ≤ 140737488351232) (h3 : ∀ r j, r < n → ((B r).getD j []).length ≤ 140737488351232) : SeenA W A n T B :=
  ⟨H.view, fun r hr => (H.rbl r hr).blk (fun q hq => hq.1) (hB r hr), h1, h2, h3⟩
/-- Elements are written over. -/
theorem OWt.turn (H : OWt w W g n A T B k m b AL) (hgr : W.grownBy W' (some g)) (hn : 0 < n) (hc : Cop W' (w.heap.size + 1) g n T') (hbl : ∀ r, r < n → (T' r).bl = (T r).bl) : OWt w W' g n A T' B k m b AL := by
  have hne : w.heap.size ≠ g := by have := (H.cop hn).2.lo; omega
  refine ⟨⟨(hgr.block _ H.st.big (fun e => hne (by injection e))).trans H.st.sh, fun x hx => ?_, H.st.dis, H.st.bel.grown hgr H.st.bel.size fun q hq => by injection hq with hq; subst hq; exact H.hg.1⟩, fun _ => ⟨(H.cop hn).1, hc⟩, fun r hr => ?_, H.off, H.hg.1, Nat.lt_of_lt_of_le H.hg.2 hgr.size⟩
  · have ho : ∀ u ∈ x.1 :: x.2.1, u.ownBlock ≠ some g := H.off x hx
    have a := H.st.ans x hx
    exact ⟨own_keepC a.out hgr (ho _ (List.mem_cons_self ..)), a.len, fun i u hu => own_keepC (a.row i u hu) hgr (ho u (List.mem_cons_of_mem _ (List.mem_of_getElem? hu))), a.apart, a.off⟩
  · rw [hbl r hr]
    exact (H.rbl r hr).keep (fun a ha => World.cell?_of_block (hgr.block a.block ha.1 (fun e => ha.2 (by injection e)))) (fun q hq => ⟨Nat.lt_of_lt_of_le hq.1 hgr.size, hq.2⟩)
/-- Its beginning. -/
theorem OWt.start {W0 W1 : World} {S : Nat → Sn} {c : Nat} {bl : Nat → Value} (h0 : PSt w W0 k m b) (hO : OutC W0 W1 S B (.slice A n c) n bl) (hok : ∀ r, r < n → SnOk (S r)) : ∃ g, OWt w W1 g n A (fun r => { S r with bl := bl r }) B k m b [] := by
  have h1 := h0.keep hO.1
  have s : OS3 w W1 k m b [] := ⟨h1.sh, fun x hx => absurd hx List.not_mem_nil, fun i j x y h => by simp at h, h1.bel⟩
  rcases Nat.eq_zero_or_pos n with h | h
  · subst h
    exact ⟨w.heap.size, s, fun h => absurd h (by omega), fun r hr => absurd hr (by omega), fun x hx => absurd hx List.not_mem_nil, Nat.le_refl _, s.big⟩
  · obtain ⟨g, hA, hc⟩ := hO.cop hok h
    have hlo := hc.lo
    have hbig := h0.big
    refine ⟨g, s, fun _ => ⟨hA, hc.vw, hc.th, by omega, hc.hi⟩, fun r hr => ?_, fun x hx => absurd hx List.not_mem_nil, by omega, hc.hi⟩
    refine (hO.2.2 r hr).keep (fun a ha => rfl) fun q hq => ⟨hq.1, fun e => hq.2 ?_⟩
    rw [hA, e]; rfl
end
/-- One list of lists behind another. -/
theorem AnsW.app {W W' : World} {base : Nat} {v v' : Value} {us us2 : List Value} {R R2 : List (List Int)} {v2 : Value} (H : AnsW W base v us R) (H2 : AnsW W base v2 us2 R2) (dis : ∀ u ∈ v :: us, ∀ u' ∈ us2, Apart u u') (O : Onto W W' base 25 v v' (us.length + us2.length) (us ++ us2)) : AnsW W' base v' (us ++ us2) (R ++ R2) := by
  have hl := H.len
  have key : ∀ (i : Nat) (x : Value), (us ++ us2)[i]? = some x → (i < us.length ∧ us[i]? = some x) ∨ (us.length ≤ i ∧ us2[i - us.length]? = some x) := fun i x h => by
    rcases Nat.lt_or_ge i us.length with g | g
    · rw [List.getElem?_append_left g] at h; exact .inl ⟨g, h⟩
    · rw [List.getElem?_append_right g] at h; exact .inr ⟨g, h⟩
  have gd : ∀ i, us.length ≤ i → (R ++ R2).getD i [] = R2.getD (i - us.length) [] := fun i hi => by
    rw [List.getD_eq_getElem?_getD, List.getD_eq_getElem?_getD, List.getElem?_append_right (by omega), hl]
  have gl : ∀ i, i < us.length → (R ++ R2).getD i [] = R.getD i [] := fun i hi => by
    rw [List.getD_eq_getElem?_getD, List.getD_eq_getElem?_getD, List.getElem?_append_left (by omega)]
  refine ⟨by rw [List.length_append]; exact O.own, by rw [List.length_append, List.length_append, hl, H2.len], fun i x h => ?_, fun i j x y hx hy hij => ?_, fun i x h => ?_⟩
  · rcases key i x h with ⟨g, e⟩ | ⟨g, e⟩
    · rw [gl i g]; exact O.keep (H.row i x e) (H.off i x e)
    · rw [gd i g]; exact O.keep (H2.row _ x e) (dis v (List.mem_cons_self ..) x (List.mem_of_getElem? e))
  · rcases key i x hx with ⟨g, e⟩ | ⟨g, e⟩ <;> rcases key j y hy with ⟨g2, e2⟩ | ⟨g2, e2⟩
    · exact H.apart i j x y e e2 hij
    · exact dis x (List.mem_cons_of_mem _ (List.mem_of_getElem? e)) y (List.mem_of_getElem? e2)
    · exact (dis y (List.mem_cons_of_mem _ (List.mem_of_getElem? e2)) x (List.mem_of_getElem? e)).symm
    · exact H2.apart _ _ x y e e2 (by omega)
  · rcases key i x h with ⟨g, e⟩ | ⟨g, e⟩
    · exact O.apart (H.row i x e) (H.off i x e)
    · exact O.apart (H2.row _ x e) (dis v (List.mem_cons_self ..) x (List.mem_of_getElem? e))
theorem AnsW.fil {W : World} {base : Nat} {v : Value} {us : List Value} {R : List (List Int)} {F : Nat → Nat → Value} (H : AnsW W base v us R) : Fil W base 25 3 v us (fun i => (R.getD i []).length) F (fun _ _ => False) :=
  ⟨H.out, fun i u hu => ⟨_, H.row i u hu, fun t _ h => absurd h id⟩, H.apart, H.off⟩
end Go.Proofs.Ytplpaipmkpjgfaa
namespace Go.Proofs.Ytplpaipmkpjgfaa
open Go.RowKit
set_option linter.unusedVariables false
set_option linter.unusedSimpArgs false
theorem Cop.cell {wr : World} {base g n : Nat} {T : Nat → Sn} (H : Cop wr base g n T) {i : Nat} (hi : i < n) {j0 : Nat} (hj : j0 < 19) (u : Value) (z : Sn) (hz : SnOk z) (hc : z.cells = (T i).cells.set j0 u) : Cop (wr.setCell ⟨g, i * 19 + j0, none⟩ u) base g n (upd T i z) := by
  refine ⟨fun r hr => ?_, fun r hr j hj => ?_, H.lo, by simpa [World.setCell] using H.hi⟩
  · by_cases e : r = i
    · subst e
      rw [upd_at]
      refine ⟨fun j v hv => ?_, hz⟩
      rw [hc, List.getElem?_set] at hv
      by_cases e2 : j0 = j
      · subst e2
        rw [if_pos rfl, if_pos (by rw [Sn.len]; exact hj)] at hv
        injection hv with hv
        subst hv
        obtain ⟨u0, hu0⟩ := Option.isSome_iff_exists.1 (H.th r hr j0 hj).1
        exact World.cell?_setCell_same _ _ _ hu0
      · rw [if_neg e2] at hv
        rw [World.cell?_setCell_other _ _ _ _ (fun e => e2 (by injection e with _ e; omega))]
        exact (H.vw r hr).1 j v hv
    · rw [upd_ne T z e]
      refine ⟨fun j v hv => ?_, (H.vw r hr).2⟩
      have hjl : j < 19 := by have := (List.getElem?_eq_some_iff.1 hv).1; rw [Sn.len] at this; exact this
      rw [World.cell?_setCell_other _ _ _ _ (fun e2 => e (by injection e2 with _ e2; omega))]
      exact (H.vw r hr).1 j v hv
  · have h := H.th r hr j hj
    refine ⟨?_, by rw [World.frozen?_setCell]; exact h.2⟩
    obtain ⟨u0, hu0⟩ := Option.isSome_iff_exists.1 h.1
    by_cases e : (⟨g, i * 19 + j0, none⟩ : Addr) = ⟨g, r * 19 + j, none⟩
    · rw [e, World.cell?_setCell_same _ _ _ hu0]; rfl
    · rw [World.cell?_setCell_other _ _ _ _ e, hu0]; rfl
theorem AnsW.form {W : World} {base : Nat} {v : Value} {us : List Value} {R : List (List Int)} (H : AnsW W base v us R) : ∃ A c, v = .slice A R.length c := by
  obtain ⟨A, c, e, _, _⟩ := own_form H.out
  exact ⟨A, c, by rw [e, H.len]⟩
/-- What ask answers, its slice's form told. -/
theorem ask_form (W : World) (n c : Nat) (A : Option Addr) (S : Nat → Sn) (hv : View W W.heap.size A n S) (hn : n * 120 ≤ 140737488351232) (k m b i : Int) (R : List (List Int)) (l : Nat) (hR : askP i S n k m b = R) (hl : R.length = l) :
    Calls Try.prog 44 #[.int .i64 i, .agg #[.int .i64 k, .int .i64 m, .int .i64 b], .slice A n c] W fun e w' => ∃ A' c' us, e = .returned (.slice A' l c') ∧ AnsW w' W.heap.size (.slice A' l c') us R ∧ Below W.heap.size W w' := by
  subst hR hl
  refine (ask_any W W.heap.size n c A S hv (Nat.le_refl _) hn k m b i).mono ?_
  rintro e w' ⟨v, us, rfl, ha, hb⟩
  obtain ⟨A', c', rfl⟩ := ha.form
  exact ⟨A', c', us, rfl, ha, hb⟩
theorem same_form (w : World) (c1 c2 l : Nat) (A1 A2 : Option Addr) (R : List (List Int)) (b1 b2 : Nat) (us1 us2 : List Value) (hl : R.length = l) (h1 : AnsW w b1 (.slice A1 l c1) us1 R) (h2 : AnsW w b2 (.slice A2 l c2) us2 R) (hn : l ≤ 140737488355328) (hr : ∀ i, (R.getD i []).length ≤ 140737488355328) :
    Calls Try.prog 46 #[.slice A1 l c1, .slice A2 l c2] w fun e w' => e = .returned (.bool true) ∧ Below w.heap.size w w' := by
  subst hl
  exact samelists_any w c1 c2 A1 A2 R h1.rd h2.rd hn hr
theorem copies_form (w : World) (c l : Nat) (A : Option Addr) (R : List (List Int)) (b1 : Nat) (us1 : List Value) (hl : R.length = l) (h1 : AnsW w b1 (.slice A l c) us1 R) (hn : l * 24 ≤ 140737488351232) (hr : ∀ i, (R.getD i []).length * 8 ≤ 140737488351232) :
    Calls Try.prog 45 #[.slice A l c] w fun e w' => ∃ A' c' us, e = .returned (.slice A' l c') ∧ AnsW w' w.heap.size (.slice A' l c') us R ∧ Below w.heap.size w w' := by
  subst hl
  refine (copies_any w R.length c w.heap.size A R rfl h1.rd (Nat.le_refl _) hn hr).mono ?_
  rintro e w' ⟨v, us, rfl, ha, hb⟩
  obtain ⟨A', c', rfl⟩ := ha.form
  exact ⟨A', c', us, rfl, ha, hb⟩
theorem OWt.mut {w W : World} {g n : Nat} {T : Nat → Sn} {B : Nat → List (List Nat)} {k m b : Int} {AL : List Ans3} (H : OWt w W g n (some ⟨g, 0, none⟩) T B k m b AL) {q : Nat} (hq : q < n) (c : Int) (hc : J64 c) :
    ∃ T', OWt w ((((W.setCell ⟨g, q * 19, none⟩ (.int .i64 2)).setCell ⟨g, q * 19 + 1 + 14, none⟩ (.int .i64 1)).setCell ⟨g, q * 19 + 1 + 14 + 1, none⟩ (.int .i64 c)).setCell ⟨g, q * 19 + 1 + 12, none⟩ (.int .i64 5)) g n (some ⟨g, 0, none⟩) T' B k m b AL := by
  have hC := (H.cop (by omega)).2
  have ok := (hC.vw q hq).2
  have j1 : J64 1 := by unfold J64; omega
  have j2 : J64 2 := by unfold J64; omega
  have j5 : J64 5 := by unfold J64; omega
  obtain ⟨z0, hz0⟩ : ∃ z, T q = z := ⟨_, rfl⟩
  rw [hz0] at ok
  have h1 := hC.cell hq (j0 := 0) (by omega) (.int .i64 2) { z0 with kind := 2 } ⟨j2, ok.size, ok.epoch, ok.count, ok.bl⟩ (by rw [hz0]; rfl)
  have h2 := h1.cell hq (j0 := 15) (by omega) (.int .i64 1) { z0 with kind := 2, hd := { z0.hd with epoch := 1 } } ⟨j2, ok.size, j1, ok.count, ok.bl⟩ (by rw [upd_at]; rfl)
  have h3 := h2.cell hq (j0 := 16) (by omega) (.int .i64 c) { z0 with kind := 2, hd := { z0.hd with epoch := 1, count := c } } ⟨j2, ok.size, j1, hc, ok.bl⟩ (by rw [upd_at]; rfl)
  have h4 := h3.cell hq (j0 := 13) (by omega) (.int .i64 5) { z0 with kind := 2, hd := { z0.hd with epoch := 1, count := c, size := 5 } } ⟨j2, j5, j1, hc, ok.bl⟩ (by rw [upd_at]; rfl)
  have gr : ∀ (W1 : World) (o : Nat) (u : Value), W.grownBy W1 (some g) → W.grownBy (W1.setCell ⟨g, o, none⟩ u) (some g) := fun W1 o u h => h.trans (grown_set1 W1 g o u)
  refine ⟨_, H.turn (gr _ _ _ (gr _ _ _ (gr _ _ _ (gr _ _ _ (World.grownBy.refl W _))))) (by omega) h4 fun r hr => ?_⟩
  unfold upd
  by_cases e : r = q
  · subst e; simp only [if_pos]; rw [hz0]
  · simp only [if_neg e]
theorem OS3.range {w W : World} {k m b : Int} {AL : List Ans3} (h : OS3 w W k m b AL) : W.rangeAt w.heap.size 0 [.int .i64 k, .int .i64 m, .int .i64 b] := fun j v hj => by
  rw [Nat.zero_add, cell_of_row _ _ _ _ _ _ h.sh]
  simpa using hj
/-- All lists, put behind one another. -/
structure AllS (w W : World) (k m b : Int) (AL : List Ans3) (v : Value) (us : List Value) (R : List (List Int)) (I : List Nat) : Prop where
  st : OS3 w W k m b AL
  all : AnsW W (w.heap.size + 1) v us R
  off : ∀ x ∈ AL, ∀ u ∈ x.1 :: x.2.1, Apart v u
  from_ : ∀ u ∈ us, ∃ i x, i ∈ I ∧ AL[i]? = some x ∧ u ∈ x.2.1
section
variable {w W W' : World} {k m b : Int} {AL : List Ans3} {v v' : Value} {us : List Value} {R : List (List Int)} {I : List Nat}
theorem AllS.start (h : OS3 w W k m b AL) : AllS w W k m b AL (.slice none 0 0) [] [] [] := ⟨h, AnsW.nil _ _, fun _ _ _ _ => Apart.nil _, fun u hu => absurd hu List.not_mem_nil⟩
theorem AllS.big (h : AllS w W k m b AL v us R I) : w.heap.size + 1 ≤ W.heap.size := h.st.big
theorem AllS.own (h : AllS w W k m b AL v us R I) {t : Nat} (ht : R.length = t) : W.ownsRow (w.heap.size + 1) 25 1 v t us := by subst ht; rw [← h.all.len]; exact h.all.out
theorem AllS.rd (h : AllS w W k m b AL v us R I) (j : Nat) {A : Option Addr} {l c : Nat} {u : List Value} {R' : List (List Int)} (hj : AL[j]? = some (.slice A l c, u, R')) : Rd W W.heap.size A l u := by
  have o := (h.st.ans _ (List.mem_of_getElem? hj)).out
  simp only at o
  have hl : l = u.length := by obtain ⟨_, _, e, _⟩ := own_form o; injection e
  rw [← hl] at o
  exact Rd.of_own o
theorem AllS.one (h : AllS w W k m b AL v us R I) (j : Nat) {A : Option Addr} {l c : Nat} {u : List Value} {R' : List (List Int)} (hj : AL[j]? = some (.slice A l c, u, R')) : ∀ y ∈ u, y.oneCell' = true := fun y hy => by
  obtain ⟨i, hi⟩ := List.getElem?_of_mem hy
  obtain ⟨_, _, e, _, _⟩ := own_form ((h.st.ans _ (List.mem_of_getElem? hj)).row i y hi)
  rw [e]; rfl
theorem AllS.app (h : AllS w W k m b AL v us R I) {j : Nat} {A : Option Addr} {l c : Nat} {u : List Value} {R' : List (List Int)} (hj : AL[j]? = some (.slice A l c, u, R')) (hjI : j ∉ I) (hl : R'.length = l) {t : Nat} (ht : R.length = t) (O : Onto W W' (w.heap.size + 1) 25 v v' (t + l) (us ++ u)) :
    AllS w W' k m b AL v' (us ++ u) (R ++ R') (I ++ [j]) ∧ (R ++ R').length = t + l := by
  subst ht
  have a := h.st.ans _ (List.mem_of_getElem? hj)
  have hul : u.length = l := by have := a.len; simp only at this; omega
  have hO : Onto W W' (w.heap.size + 1) 25 v v' (us.length + u.length) (us ++ u) := by rw [hul, h.all.len]; exact O
  have hne : ∀ x ∈ AL, ∀ z ∈ x.1 :: x.2.1, ∀ q, z.ownBlock = some q → q < W.heap.size → W'.heap[q]? = W.heap[q]? := fun x hx z hz q hq hlt => O.2.1.block q hlt fun e => h.off x hx z hz q e.symm hq
  refine ⟨⟨⟨?_, fun x hx => ?_, h.st.dis, h.st.bel.trans ((O.below (fun q hq => (h.all.out.lt q hq).1) h.big).mono (Nat.le_succ _))⟩, h.all.app a (fun z hz z' hz' => ?_) hO, fun x hx z hz => ?_, fun z hz => ?_⟩, by rw [List.length_append, hl]⟩
  · rw [O.2.1.block _ h.st.big (fun e => by have := (h.all.out.lt _ e.symm).1; omega)]; exact h.st.sh
  · have a := h.st.ans x hx
    exact ⟨own_stay a.out (hne x hx _ (List.mem_cons_self ..)), a.len, fun i z hz => own_stay (a.row i z hz) (hne x hx z (List.mem_cons_of_mem _ (List.mem_of_getElem? hz))), a.apart, a.off⟩
  · rcases List.mem_cons.1 hz with rfl | h1
    · exact h.off _ (List.mem_of_getElem? hj) z' (List.mem_cons_of_mem _ hz')
    · obtain ⟨i, x, hi, hx, hu⟩ := h.from_ z h1
      exact h.st.dis i j x _ hx hj (fun e => hjI (e ▸ hi)) z (List.mem_cons_of_mem _ hu) z' (List.mem_cons_of_mem _ hz')
  · intro q h1 h2
    rcases O.2.2 q h1 with e | e
    · exact h.off x hx z hz q e h2
    · have := ((h.st.ans x hx).lt z hz q h2).2; omega
  · rcases List.mem_append.1 hz with h1 | h1
    · obtain ⟨i, x, hi, hx, hu⟩ := h.from_ z h1
      exact ⟨i, x, List.mem_append_left _ hi, hx, hu⟩
    · exact ⟨j, _, by simp, hj, h1⟩
/-- All were written over: one that was not among them stands. -/
theorem AllS.apart (h : AllS w W k m b AL v us R I) (c : Chg (blk us) W W') {j : Nat} {x : Ans3} (hj : AL[j]? = some x) (hjI : j ∉ I) : OS3 w W' k m b [x] := by
  have hne : ∀ z ∈ x.1 :: x.2.1, ∀ q, z.ownBlock = some q → q ∉ blk us := fun z hz q hq hm => by
    obtain ⟨u, hu, he⟩ := List.mem_filterMap.1 hm
    obtain ⟨i, y, hi, hy, hu2⟩ := h.from_ u hu
    exact h.st.dis i j y x hy hj (fun e => hjI (e ▸ hi)) u (List.mem_cons_of_mem _ hu2) z hz q he hq
  have lo : ∀ q ∈ blk us, w.heap.size + 1 ≤ q := fun q hm => by
    obtain ⟨u, hu, he⟩ := List.mem_filterMap.1 hm
    obtain ⟨i, y, hi, hy, hu2⟩ := h.from_ u hu
    exact ((h.st.ans y (List.mem_of_getElem? hy)).lt u (List.mem_cons_of_mem _ hu2) q he).1
  have a := h.st.ans x (List.mem_of_getElem? hj)
  refine ⟨(c.block _ h.st.big (fun e => by have := lo _ e; omega)).trans h.st.sh, fun y hy => ?_, fun i j' y z hy hz hij => ?_, h.st.bel.trans (c.below h.st.bel.size fun q hq => by have := lo q hq; omega)⟩
  · rw [List.mem_singleton.1 hy]
    exact ⟨c.own a.out (hne _ (List.mem_cons_self ..)), a.len, fun i z hz => c.own (a.row i z hz) (hne z (List.mem_cons_of_mem _ (List.mem_of_getElem? hz))), a.apart, a.off⟩
  · have h1 := (List.getElem?_eq_some_iff.1 hy).1
    have h2 := (List.getElem?_eq_some_iff.1 hz).1
    simp at h1 h2; omega
end
theorem rows_le {X Y : List (List Int)} {c : Nat} (h1 : ∀ j, (X.getD j []).length ≤ c) (h2 : ∀ j, (Y.getD j []).length ≤ c) (j : Nat) : ((X ++ Y).getD j []).length ≤ c := by
  rw [List.getD_eq_getElem?_getD]
  rcases Nat.lt_or_ge j X.length with h | h
  · rw [List.getElem?_append_left h, ← List.getD_eq_getElem?_getD]; exact h1 j
  · rw [List.getElem?_append_right h, ← List.getD_eq_getElem?_getD]; exact h2 _
set_option maxRecDepth 20000 in
set_option maxHeartbeats 2000000 in
theorem own_any (w : World) (i k m b : Int) (A : Option Addr) (n c : Nat) (S : Nat → Sn) (B : Nat → List (List Nat)) (hA : SeenA w A n S B) (A2 : Option Addr) (n2 c2 : Nat) (S2 : Nat → Sn) (B2 : Nat → List (List Nat)) (hA2 : SeenA w A2 n2 S2 B2) (hn : n ≤ 33554432) (hn2 : n2 ≤ 33554432) :
    Calls Try.prog 30 #[.int .i64 i, .agg #[.int .i64 k, .int .i64 m, .int .i64 b], .slice A n c, .slice A2 n2 c2] w fun e w' => e = .returned (.bool true) ∧ Below w.heap.size w w' := by
  have HS := Hd.mk (And.intro hA hA2)
  have H0 := Hd.mk (PSt.start w k m b)
  have hnb : n * 120 ≤ 140737488351232 := by omega
  have hnb2 : n2 * 120 ≤ 140737488351232 := by omega
  clear hA hA2
  obtain ⟨R, hR⟩ : ∃ R, askP i S n k m b = R := ⟨_, rfl⟩
  obtain ⟨R2, hR2⟩ : ∃ R, askP i S2 n2 k m b = R := ⟨_, rfl⟩
  obtain ⟨l, hl⟩ : ∃ l, R.length = l := ⟨_, rfl⟩
  obtain ⟨l2, hl2⟩ : ∃ l, R2.length = l := ⟨_, rfl⟩
  have HR : Hd (askP i S n k m b = R ∧ R.length = l ∧ ∀ j, (R.getD j []).length ≤ n + 4) := ⟨hR, hl, fun j => by rw [← hR]; exact askP_row' i S n k m b j⟩
  have HR2 : Hd (askP i S2 n2 k m b = R2 ∧ R2.length = l2 ∧ ∀ j, (R2.getD j []).length ≤ n2 + 4) := ⟨hR2, hl2, fun j => by rw [← hR2]; exact askP_row' i S2 n2 k m b j⟩
  have hlb : l ≤ 2 * n + 2 := by rw [← hl, ← hR]; exact askP_len i S n k m b
  have hlb2 : l2 ≤ 2 * n2 + 2 := by rw [← hl2, ← hR2]; exact askP_len i S2 n2 k m b
  clear hR hR2 hl hl2
  go_enter Try.func30, Try.ntmps30
  go_upto_region 1 with fail
  obtain ⟨w1, hw1⟩ : ∃ w1, w.alloc (.cells #[.int .i64 k, .int .i64 m, .int .i64 b] 34) = w1 := ⟨_, rfl⟩
  rw [hw1] at H0 ⊢
  clear hw1
  go_wp2_with fail
  refine (copied_any w1 A n c S B (HS.out.1.keep H0.out.bel)).mono ?_
  rintro e w2 ⟨A3, c3, bl, rfl, hO⟩
  obtain ⟨g, hg⟩ := OWt.start H0.out hO (fun r hr => let ⟨_, _, _, _, _, h⟩ := HS.out.1.view r hr; h)
  have H2 := Hd.mk hg
  clear hg hO H0
  have HT : Hd (∀ r, r < n → ((fun r => ({ S r with bl := bl r } : Sn)) r).kind = (S r).kind ∧ ((fun r => ({ S r with bl := bl r } : Sn)) r).hd = (S r).hd) := ⟨fun r _ => ⟨rfl, rfl⟩⟩
  obtain ⟨T, hT⟩ : ∃ T : Nat → Sn, (fun r => ({ S r with bl := bl r } : Sn)) = T := ⟨_, rfl⟩
  rw [hT] at H2 HT
  clear hT
  go_wp2_with (refine at_load ?_; refine wpList_load_row rfl 34 (.tmp 5) rfl w.heap.size rfl 34 #[.int .i64 k, .int .i64 m, .int .i64 b] (0, 0) _ H2.out.st.sh Try.underlying34 rfl infoSh ?_)
  refine (ask_form w2 n c3 A3 T (H2.out.view) hnb k m b i R l ((askP_congr HT.out i k m b).trans HR.out.1) HR.out.2.1).mono ?_
  rintro e w3 ⟨Aa, ca, ua, rfl, ha, hb⟩
  have H3 : Hd (OWt w w3 g n A3 T B k m b [(.slice Aa l ca, ua, R)]) := ⟨H2.out.push ha hb⟩
  clear ha hb H2
  go_wp2_with (refine at_load ?_; refine wpList_load_row rfl 34 (.tmp 5) rfl w.heap.size rfl 34 #[.int .i64 k, .int .i64 m, .int .i64 b] (0, 0) _ H3.out.st.sh Try.underlying34 rfl infoSh ?_)
  refine (ask_form w3 n c3 A3 T (H3.out.view) hnb k m b i R l ((askP_congr HT.out i k m b).trans HR.out.1) HR.out.2.1).mono ?_
  rintro e w4 ⟨Ab, cb, ub, rfl, ha, hb⟩
  have H4 : Hd (OWt w w4 g n A3 T B k m b [(.slice Aa l ca, ua, R), (.slice Ab l cb, ub, R)]) := ⟨H3.out.push ha hb⟩
  clear ha hb H3
  go_wp2_with fail
  refine (copies_form w4 ca l Aa R _ ua HR.out.2.1 (H4.out.st.ans _ (List.mem_cons_self ..)) (by omega) (fun j => by have := HR.out.2.2 j; omega)).mono ?_
  rintro e w5 ⟨Aw, cw, uw, rfl, ha, hb⟩
  have H5 : Hd (OWt w w5 g n A3 T B k m b [(.slice Aa l ca, ua, R), (.slice Ab l cb, ub, R), (.slice Aw l cw, uw, R)]) := ⟨H4.out.push ha hb⟩
  clear ha hb H4
  go_wp2_with (refine at_load ?_; refine wpList_load_row rfl 34 (.tmp 5) rfl w.heap.size rfl 34 #[.int .i64 k, .int .i64 m, .int .i64 b] (0, 0) _ H5.out.st.sh Try.underlying34 rfl infoSh ?_)
  refine (ask_form w5 n2 c2 A2 S2 ((HS.out.2.keep H5.out.st.bel).view) hnb2 k m b i R2 l2 HR2.out.1 HR2.out.2.1).mono ?_
  rintro e w6 ⟨Ac, cc, uc, rfl, ha, hb⟩
  have H6 : Hd (OWt w w6 g n A3 T B k m b [(.slice Aa l ca, ua, R), (.slice Ab l cb, ub, R), (.slice Aw l cw, uw, R), (.slice Ac l2 cc, uc, R2)]) := ⟨H5.out.push ha hb⟩
  clear ha hb H5
  go_wp2_with (refine at_load ?_; refine wpList_load_row rfl 34 (.tmp 5) rfl w.heap.size rfl 34 #[.int .i64 k, .int .i64 m, .int .i64 b] (0, 0) _ H6.out.st.sh Try.underlying34 rfl infoSh ?_)
  refine (ask_form w6 n c3 A3 T (H6.out.view) hnb k m b i R l ((askP_congr HT.out i k m b).trans HR.out.1) HR.out.2.1).mono ?_
  rintro e w7 ⟨Ad, cd, ud, rfl, ha, hb⟩
  have H7 : Hd (OWt w w7 g n A3 T B k m b [(.slice Aa l ca, ua, R), (.slice Ab l cb, ub, R), (.slice Aw l cw, uw, R), (.slice Ac l2 cc, uc, R2), (.slice Ad l cd, ud, R)]) := ⟨H6.out.push ha hb⟩
  clear ha hb H6
  go_wp2_with fail
  refine (same_form w7 cb cw l Ab Aw R _ _ ub uw HR.out.2.1 (H7.out.st.ans _ (List.mem_of_getElem? (i := 1) rfl)) (H7.out.st.ans _ (List.mem_of_getElem? (i := 2) rfl)) (by omega) (fun j => by have := HR.out.2.2 j; omega)).mono ?_
  rintro e w8 ⟨rfl, hb⟩
  have H8 := Hd.mk (H7.out.keep hb)
  clear hb H7
  go_wp2_with fail
  refine (same_form w8 cd cw l Ad Aw R _ _ ud uw HR.out.2.1 (H8.out.st.ans _ (List.mem_of_getElem? (i := 4) rfl)) (H8.out.st.ans _ (List.mem_of_getElem? (i := 2) rfl)) (by omega) (fun j => by have := HR.out.2.2 j; omega)).mono ?_
  rintro e w9 ⟨rfl, hb⟩
  have H9 := Hd.mk (H8.out.keep hb)
  clear hb H8
  go_wp2_with fail
  go_loopw [15] (fun u15 wr => ∃ (q : Nat) (T' : Nat → Sn), q ≤ n ∧ u15 = .int .i64 (q : Int) ∧ OWt w wr g n A3 T' B k m b [(.slice Aa l ca, ua, R), (.slice Ab l cb, ub, R), (.slice Aw l cw, uw, R), (.slice Ac l2 cc, uc, R2), (.slice Ad l cd, ud, R)]) (fun u15 _ => n - (intOf u15).toNat)
  case atStart => exact ⟨0, T, by omega, rfl, H9.out⟩
  case round =>
    clear H9 HT
    obtain ⟨q, T', hq, rfl, hO⟩ := hrel
    have H1 := Hd.mk hO
    clear hO
    by_cases hlt : q < n
    · have hqi : (q : Int) < (n : Int) := by omega
      obtain ⟨hA3, hcop⟩ := H1.out.cop (by omega)
      subst hA3
      have HC := Hd.mk hcop
      have t0 := hcop.th q hlt 0 (by omega)
      have t15 := hcop.th q hlt 15 (by omega)
      have t16 := hcop.th q hlt 16 (by omega)
      have t13 := hcop.th q hlt 13 (by omega)
      obtain ⟨x0, e0⟩ := Option.isSome_iff_exists.1 t0.1
      obtain ⟨x15, e15⟩ := Option.isSome_iff_exists.1 t15.1
      obtain ⟨x16, e16⟩ := Option.isSome_iff_exists.1 t16.1
      obtain ⟨x13, e13⟩ := Option.isSome_iff_exists.1 t13.1
      have z0 := t0.2
      have z15 := t15.2
      have z16 := t16.2
      have z13 := t13.2
      rw [Nat.add_zero] at e0 z0
      have hmod := Int.tmod_eq_emod_of_nonneg (a := (q : Int)) (b := 3) (by omega)
      clear hcop t0 t15 t16 t13
      go_wp2_with fail
      go_roundw
      case rel =>
        obtain ⟨T2, hT2⟩ := H1.out.mut hlt (1 + (q : Int) % 3) (by unfold J64; omega)
        exact ⟨q + 1, T2, by omega, by go_num, hT2⟩
      case measure => simp [intOf]; omega
    · have hqn : n = q := by omega
      subst hqn
      obtain ⟨R3, hR3⟩ : ∃ R, askP i T' n k m b = R := ⟨_, rfl⟩
      obtain ⟨l3, hl3⟩ : ∃ l, R3.length = l := ⟨_, rfl⟩
      have HR3 : Hd (askP i T' n k m b = R3 ∧ R3.length = l3 ∧ ∀ j, (R3.getD j []).length ≤ n + 4) := ⟨hR3, hl3, fun j => by rw [← hR3]; exact askP_row' i T' n k m b j⟩
      have hlb3 : l3 ≤ 2 * n + 2 := by rw [← hl3, ← hR3]; exact askP_len i T' n k m b
      clear hR3 hl3
      go_wp2_with (refine at_load ?_; refine wpList_load_row rfl 34 (.tmp 5) rfl w.heap.size rfl 34 #[.int .i64 k, .int .i64 m, .int .i64 b] (0, 0) _ H1.out.st.sh Try.underlying34 rfl infoSh ?_)
      refine (ask_form wr n c3 A3 T' H1.out.view hnb k m b i R3 l3 HR3.out.1 HR3.out.2.1).mono ?_
      rintro e x1 ⟨Ae, ce, ue, rfl, ha, hb⟩
      have X1 : Hd (OWt w x1 g n A3 T' B k m b [(.slice Aa l ca, ua, R), (.slice Ab l cb, ub, R), (.slice Aw l cw, uw, R), (.slice Ac l2 cc, uc, R2), (.slice Ad l cd, ud, R), (.slice Ae l3 ce, ue, R3)]) := ⟨H1.out.push ha hb⟩
      clear ha hb H1
      have HBB : Hd (∀ r, r < n → ∀ j, j < (B r).length → ∀ x ∈ (B r).getD j [], x < 256) := ⟨fun r hr j hj => by
        obtain ⟨A', c', _, h⟩ := HS.out.1.blk r hr
        obtain ⟨_, _, _, _, _, _, _, _, h2⟩ := h j hj
        exact h2⟩
      have HOK : Hd (∀ r, r < n → SnOk (T' r)) := ⟨fun r hr => by obtain ⟨_, _, _, _, _, h⟩ := X1.out.view r hr; exact h⟩
      go_upto_region 16 with fail
      refine wp_region_held_drew (S := fun W => OWt w W g n A3 T' B k m b [(.slice Aa l ca, ua, R), (.slice Ab l cb, ub, R), (.slice Aw l cw, uw, R), (.slice Ac l2 cc, uc, R2), (.slice Ad l cd, ud, R), (.slice Ae l3 ce, ue, R3)]) (by kernel_rfl) (X1.out.keep (Below.refl _ _).drew) (fun hHeld => ?_)
      refine wpAnyH_take (i := 0) (oi := ?oi101) (v := ?v101) ?hi101 (by kernel_rfl) (by kernel_rfl) (by kernel_rfl) ?hQ101 (Or.inl ⟨?hw101, ?hy101⟩) (by assumption) ?rest101
      case hi101 => simp only [List.getElem?_toArray, List.getElem?_cons_succ, List.getElem?_cons_zero]; rfl
      case hQ101 => exact fun _ _ _ h => h
      case hw101 => rfl
      case hy101 => (intro W hW; go_simp; all_goals rfl)
      simp only [Act.put, List.setIfInBounds_toArray, List.set_cons_zero, List.set_cons_succ]
      refine wpAnyH_take (i := 1) (oi := ?oiR) (v := .agg #[.int .i64 k, .int .i64 m, .int .i64 b]) ?hiR (by kernel_rfl) (by kernel_rfl) (by kernel_rfl) ?hQR ?hyR (by assumption) ?restR
      case hiR => simp only [List.getElem?_toArray, List.getElem?_cons_succ, List.getElem?_cons_zero]; rfl
      case hQR => exact fun _ _ _ h => h
      case hyR => exact yieldsIf_load_mid rfl 34 (.tmp 5) rfl w.heap.size 0 rfl [.int .i64 k, .int .i64 m, .int .i64 b] _ (fun W hW => hW.st.range) Try.underlying34 rfl infoSh
      simp only [Act.put, List.setIfInBounds_toArray, List.set_cons_zero, List.set_cons_succ]
      refine wpAnyH_take (i := 2) (oi := ?oi201) (v := ?v201) ?hi201 (by kernel_rfl) (by kernel_rfl) (by kernel_rfl) ?hQ201 (Or.inl ⟨?hw201, ?hy201⟩) (by assumption) ?rest201
      case hi201 => simp only [List.getElem?_toArray, List.getElem?_cons_succ, List.getElem?_cons_zero]; rfl
      case hQ201 => exact fun _ _ _ h => h
      case hw201 => rfl
      case hy201 => (intro W hW; go_simp; all_goals rfl)
      simp only [Act.put, List.setIfInBounds_toArray, List.set_cons_zero, List.set_cons_succ]
      refine wpAnyH_ready (rs := [3]) (by kernel_rfl) (by simp) ?_
      refine AllReadyH.cons (i := 3) (o := ?o202) ?ho202 (fun Kq hK => ?step202) AllReadyH.nil
      case ho202 => simp only [List.getElem?_toArray, List.getElem?_cons_succ, List.getElem?_cons_zero]; rfl
      go_simp
      (go_at_call 28; refine (copied_any _ A3 n c3 T' B (hHeld.seen HBB.out hnb HS.out.1.lenB HS.out.1.lenR)).mono ?_; rintro e x2 ⟨A6, c6, bl6, rfl, hO⟩)
      have HV := Hd.mk (hO.view HOK.out)
      have hF := hHeld.keep hO.1
      refine hK.out _ _ hF (fun _ => ?_)
      clear hK Kq hHeld hO
      have hHeld := hF
      clear hF
      try simp only [Act.put, List.setIfInBounds_toArray, List.set_cons_zero, List.set_cons_succ]
      refine wpAnyH_ready (rs := [4]) (by kernel_rfl) (by simp) ?_
      refine AllReadyH.cons (i := 4) (o := ?o203) ?ho203 (fun Kq hK => ?step203) AllReadyH.nil
      case ho203 => simp only [List.getElem?_toArray, List.getElem?_cons_succ, List.getElem?_cons_zero]; rfl
      go_simp
      (go_at_call 44; refine (ask_form x2 n c6 A6 (fun r => ({ T' r with bl := bl6 r } : Sn)) HV.out hnb k m b i R3 l3 ((askP_congr (S := T') (S' := fun r => ({ T' r with bl := bl6 r } : Sn)) (fun r _ => ⟨rfl, rfl⟩) i k m b).trans HR3.out.1) HR3.out.2.1).mono ?_; rintro e x3 ⟨Af, cf, uf, rfl, ha, hb⟩)
      have X3 : Hd (OWt w x3 g n A3 T' B k m b [(.slice Aa l ca, ua, R), (.slice Ab l cb, ub, R), (.slice Aw l cw, uw, R), (.slice Ac l2 cc, uc, R2), (.slice Ad l cd, ud, R), (.slice Ae l3 ce, ue, R3), (.slice Af l3 cf, uf, R3)]) := ⟨hHeld.push ha hb⟩
      have hF := hHeld.keep hb
      refine hK.out _ _ hF (fun _ => ?_)
      clear hK Kq hHeld ha hb
      have hHeld := hF
      clear hF
      try simp only [Act.put, List.setIfInBounds_toArray, List.set_cons_zero, List.set_cons_succ]
      refine wpAnyH_take (i := 5) (oi := ?oi301) (v := ?v301) ?hi301 (by kernel_rfl) (by kernel_rfl) (by kernel_rfl) ?hQ301 (Or.inl ⟨?hw301, ?hy301⟩) (by assumption) ?rest301
      case hi301 => simp only [List.getElem?_toArray, List.getElem?_cons_succ, List.getElem?_cons_zero]; rfl
      case hQ301 => exact fun _ _ _ h => h
      case hw301 => rfl
      case hy301 => (intro W hW; go_simp; all_goals rfl)
      simp only [Act.put, List.setIfInBounds_toArray, List.set_cons_zero, List.set_cons_succ]
      refine wpAnyH_done (by kernel_rfl) ?_ _
      clear hHeld X1 HV
      have Y3 : Hd (OS3 w x3 k m b [(.slice Aa l ca, ua, R), (.slice Ab l cb, ub, R), (.slice Aw l cw, uw, R), (.slice Ac l2 cc, uc, R2), (.slice Ad l cd, ud, R), (.slice Ae l3 ce, ue, R3), (.slice Af l3 cf, uf, R3)]) := ⟨X3.out.st⟩
      clear X3
      go_wp2_with fail
      refine (same_form x3 ca cw l Aa Aw R _ _ ua uw HR.out.2.1 (Y3.out.ans _ (List.mem_of_getElem? (i := 0) rfl)) (Y3.out.ans _ (List.mem_of_getElem? (i := 2) rfl)) (by omega) (fun j => by have := HR.out.2.2 j; omega)).mono ?_
      rintro e x4 ⟨rfl, hb⟩
      have Y4 := Hd.mk (Y3.out.keep hb)
      clear hb Y3
      go_wp2_with fail
      refine (same_form x4 cb cw l Ab Aw R _ _ ub uw HR.out.2.1 (Y4.out.ans _ (List.mem_of_getElem? (i := 1) rfl)) (Y4.out.ans _ (List.mem_of_getElem? (i := 2) rfl)) (by omega) (fun j => by have := HR.out.2.2 j; omega)).mono ?_
      rintro e x5 ⟨rfl, hb⟩
      have Y5 := Hd.mk (Y4.out.keep hb)
      clear hb Y4
      go_wp2_with fail
      refine (same_form x5 cd cw l Ad Aw R _ _ ud uw HR.out.2.1 (Y5.out.ans _ (List.mem_of_getElem? (i := 4) rfl)) (Y5.out.ans _ (List.mem_of_getElem? (i := 2) rfl)) (by omega) (fun j => by have := HR.out.2.2 j; omega)).mono ?_
      rintro e x6 ⟨rfl, hb⟩
      have Y6 := Hd.mk (Y5.out.keep hb)
      clear hb Y5
      go_wp2_with fail
      refine (same_form x6 ce cf l3 Ae Af R3 _ _ ue uf HR3.out.2.1 (Y6.out.ans _ (List.mem_of_getElem? (i := 5) rfl)) (Y6.out.ans _ (List.mem_of_getElem? (i := 6) rfl)) (by omega) (fun j => by have := HR3.out.2.2 j; omega)).mono ?_
      rintro e x7 ⟨rfl, hb⟩
      have Y7 := Hd.mk (Y6.out.keep hb)
      clear hb Y6
      have Z0 : Hd (AllS w x7 k m b [(.slice Aa l ca, ua, R), (.slice Ab l cb, ub, R), (.slice Aw l cw, uw, R), (.slice Ac l2 cc, uc, R2), (.slice Ad l cd, ud, R), (.slice Ae l3 ce, ue, R3), (.slice Af l3 cf, uf, R3)] (.slice none 0 0) [] [] [] ∧ ([] : List (List Int)).length = 0) := ⟨AllS.start Y7.out, rfl⟩
      have h63_0 : Hd (0 + l ≤ maxLen) := ⟨by unfold maxLen; omega⟩
      have hby_0 : Hd ((0 + l) * 24 ≤ 140737488355328) := ⟨by omega⟩
      go_upto_region 21 with (at_builtin; refine wpList_app elII rfl (.tmp 106) (.tmp 107) rfl (w.heap.size + 1) (.slice none 0 0) (0) [] rfl (Z0.out.1.own Z0.out.2) _ Aa l ca ua rfl (Z0.out.1.rd 0 rfl) (Z0.out.1.one 0 rfl) h63_0.out hby_0.out Z0.out.1.big ?_; intro va0 y0 hO0; have Z1 := Hd.mk (Z0.out.1.app (j := 0) rfl (by decide) HR.out.2.1 Z0.out.2 hO0); clear hO0)
      clear Z0
      have h63_1 : Hd (0 + l + l ≤ maxLen) := ⟨by unfold maxLen; omega⟩
      have hby_1 : Hd ((0 + l + l) * 24 ≤ 140737488355328) := ⟨by omega⟩
      go_upto_region 22 with (at_builtin; refine wpList_app elII rfl (.tmp 109) (.tmp 110) rfl (w.heap.size + 1) va0 (0 + l) ([] ++ ua) rfl (Z1.out.1.own Z1.out.2) _ Ab l cb ub rfl (Z1.out.1.rd 1 rfl) (Z1.out.1.one 1 rfl) h63_1.out hby_1.out Z1.out.1.big ?_; intro va1 y1 hO1; have Z2 := Hd.mk (Z1.out.1.app (j := 1) rfl (by decide) HR.out.2.1 Z1.out.2 hO1); clear hO1)
      clear Z1
      have h63_2 : Hd (0 + l + l + l2 ≤ maxLen) := ⟨by unfold maxLen; omega⟩
      have hby_2 : Hd ((0 + l + l + l2) * 24 ≤ 140737488355328) := ⟨by omega⟩
      go_upto_region 23 with (at_builtin; refine wpList_app elII rfl (.tmp 112) (.tmp 113) rfl (w.heap.size + 1) va1 (0 + l + l) (([] ++ ua) ++ ub) rfl (Z2.out.1.own Z2.out.2) _ Ac l2 cc uc rfl (Z2.out.1.rd 3 rfl) (Z2.out.1.one 3 rfl) h63_2.out hby_2.out Z2.out.1.big ?_; intro va2 y2 hO2; have Z3 := Hd.mk (Z2.out.1.app (j := 3) rfl (by decide) HR2.out.2.1 Z2.out.2 hO2); clear hO2)
      clear Z2
      have h63_3 : Hd (0 + l + l + l2 + l ≤ maxLen) := ⟨by unfold maxLen; omega⟩
      have hby_3 : Hd ((0 + l + l + l2 + l) * 24 ≤ 140737488355328) := ⟨by omega⟩
      go_upto_region 24 with (at_builtin; refine wpList_app elII rfl (.tmp 115) (.tmp 116) rfl (w.heap.size + 1) va2 (0 + l + l + l2) ((([] ++ ua) ++ ub) ++ uc) rfl (Z3.out.1.own Z3.out.2) _ Ad l cd ud rfl (Z3.out.1.rd 4 rfl) (Z3.out.1.one 4 rfl) h63_3.out hby_3.out Z3.out.1.big ?_; intro va3 y3 hO3; have Z4 := Hd.mk (Z3.out.1.app (j := 4) rfl (by decide) HR.out.2.1 Z3.out.2 hO3); clear hO3)
      clear Z3
      have h63_4 : Hd (0 + l + l + l2 + l + l3 ≤ maxLen) := ⟨by unfold maxLen; omega⟩
      have hby_4 : Hd ((0 + l + l + l2 + l + l3) * 24 ≤ 140737488355328) := ⟨by omega⟩
      go_upto_region 25 with (at_builtin; refine wpList_app elII rfl (.tmp 118) (.tmp 119) rfl (w.heap.size + 1) va3 (0 + l + l + l2 + l) (((([] ++ ua) ++ ub) ++ uc) ++ ud) rfl (Z4.out.1.own Z4.out.2) _ Ae l3 ce ue rfl (Z4.out.1.rd 5 rfl) (Z4.out.1.one 5 rfl) h63_4.out hby_4.out Z4.out.1.big ?_; intro va4 y4 hO4; have Z5 := Hd.mk (Z4.out.1.app (j := 5) rfl (by decide) HR3.out.2.1 Z4.out.2 hO4); clear hO4)
      clear Z4
      have h63_5 : Hd (0 + l + l + l2 + l + l3 + l3 ≤ maxLen) := ⟨by unfold maxLen; omega⟩
      have hby_5 : Hd ((0 + l + l + l2 + l + l3 + l3) * 24 ≤ 140737488355328) := ⟨by omega⟩
      go_upto_region 26 with (at_builtin; refine wpList_app elII rfl (.tmp 121) (.tmp 122) rfl (w.heap.size + 1) va4 (0 + l + l + l2 + l + l3) ((((([] ++ ua) ++ ub) ++ uc) ++ ud) ++ ue) rfl (Z5.out.1.own Z5.out.2) _ Af l3 cf uf rfl (Z5.out.1.rd 6 rfl) (Z5.out.1.one 6 rfl) h63_5.out hby_5.out Z5.out.1.big ?_; intro va5 y5 hO5; have Z6 := Hd.mk (Z5.out.1.app (j := 6) rfl (by decide) HR3.out.2.1 Z5.out.2 hO5); clear hO5)
      clear Z5
      obtain ⟨A9, c9, e9⟩ := Z6.out.1.all.form
      obtain ⟨tt, htt⟩ : ∃ tt, 0 + l + l + l2 + l + l3 + l3 = tt := ⟨_, rfl⟩
      rw [Z6.out.2, htt] at e9
      subst e9
      have hN : tt ≤ 1073741824 := by omega
      have HTT := Hd.mk htt
      clear htt
      have HRW : Hd (∀ j, (((((((([] ++ R) ++ R) ++ R2) ++ R) ++ R3) ++ R3)).getD j []).length ≤ 1073741824) := ⟨fun j => rows_le (rows_le (rows_le (rows_le (rows_le (rows_le (fun j => by simp) (fun j => by have := HR.out.2.2 j; omega)) (fun j => by have := HR.out.2.2 j; omega)) (fun j => by have := HR2.out.2.2 j; omega)) (fun j => by have := HR.out.2.2 j; omega)) (fun j => by have := HR3.out.2.2 j; omega)) (fun j => by have := HR3.out.2.2 j; omega) j⟩
      go_wp2_with fail
      refine (apart_any y5 (w.heap.size + 1) tt c9 A9 (((((([] ++ ua) ++ ub) ++ uc) ++ ud) ++ ue) ++ uf) (fun i => (((((((([] ++ R) ++ R) ++ R2) ++ R) ++ R3) ++ R3)).getD i []).length) (by rw [Z6.out.1.all.len, Z6.out.2]; exact HTT.out) Z6.out.1.all.fil hN (fun i => HRW.out i) Z6.out.1.big).mono ?_
      rintro e z1 ⟨rfl, hC⟩
      have Q1 : Hd (OS3 w z1 k m b [(.slice Aw l cw, uw, R)]) := ⟨Z6.out.1.apart hC (j := 2) rfl (by decide)⟩
      clear hC Z6
      have d0 : z1.cell? ⟨w.heap.size, 0, none⟩ = some (.int .i64 k) := by rw [cell_of_row _ _ _ _ _ _ Q1.out.sh]; rfl
      have d1 : z1.cell? ⟨w.heap.size, 1, none⟩ = some (.int .i64 m) := by rw [cell_of_row _ _ _ _ _ _ Q1.out.sh]; rfl
      have d2 : z1.cell? ⟨w.heap.size, 2, none⟩ = some (.int .i64 b) := by rw [cell_of_row _ _ _ _ _ _ Q1.out.sh]; rfl
      go_wp2_with fail
      clear d0 d1 d2
      refine (ask_form z1 n c A S (HS.out.1.keep Q1.out.bel).view hnb k m b i R l HR.out.1 HR.out.2.1).mono ?_
      rintro e z2 ⟨Ah, ch, uh, rfl, ha, hb⟩
      have Q2 : Hd (OS3 w z2 k m b ([(.slice Aw l cw, uw, R)] ++ [(.slice Ah l ch, uh, R)])) := ⟨Q1.out.push ha hb⟩
      clear ha hb Q1
      go_wp2_with fail
      refine (same_form z2 ch cw l Ah Aw R _ _ uh uw HR.out.2.1 (Q2.out.ans _ (List.mem_of_getElem? (i := 1) rfl)) (Q2.out.ans _ (List.mem_of_getElem? (i := 0) rfl)) (by omega) (fun j => by have := HR.out.2.2 j; omega)).mono ?_
      rintro e z3 ⟨rfl, hb⟩
      have Q3 := Hd.mk (Q2.out.keep hb)
      clear hb Q2
      go_wp2_with fail
      go_ret
      exact ⟨rfl, Q3.out.bel⟩
end Go.Proofs.Ytplpaipmkpjgfaa
