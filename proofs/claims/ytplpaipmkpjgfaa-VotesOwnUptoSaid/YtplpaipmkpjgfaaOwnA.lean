/- Lists of lists of numbers: read, owned; contracts of the law's same and copies. -/
import Derived.Test.YtplpaipmkpjgfaaCopyS
namespace Go.Proofs.Ytplpaipmkpjgfaa
open Go.RowKit
set_option linter.unusedVariables false
set_option linter.unusedSimpArgs false
theorem infoII : (Try.prog.info? 25).map (fun i => (i.zero, i.size, i.bytes)) = some (some (.slice none 0 0), 1, 24) := by kernel_rfl
theorem elII : El Try.prog 88 25 24 (.slice none 0 0) := ⟨Try.underlying88, info_parts infoII, rfl⟩
/-- A list of lists, read. -/
def RdAns (w : World) (B : Nat) (A : Option Addr) (R : List (List Int)) : Prop :=
  ∀ i, i < R.length → ∃ g off Ai ci, A = some ⟨g, off, none⟩ ∧ g < B ∧ w.cell? ⟨g, off + i, none⟩ = some (.slice Ai (R.getD i []).length ci) ∧ Rd w B Ai (R.getD i []).length (iz (R.getD i []))
/-- A list of lists, each in memory of its own. -/
structure AnsW (w : World) (base : Nat) (v : Value) (us : List Value) (R : List (List Int)) : Prop where
  out : w.ownsRow base 25 1 v us.length us
  len : us.length = R.length
  row : ∀ (i : Nat) (u : Value), us[i]? = some u → w.ownsRow base 3 1 u (R.getD i []).length (iz (R.getD i []))
  apart : ∀ (i j : Nat) (u u' : Value), us[i]? = some u → us[j]? = some u' → i ≠ j → Apart u u'
  off : ∀ (i : Nat) (u : Value), us[i]? = some u → Apart v u
section
variable {w w' : World} {base B : Nat} {v v' u : Value} {us : List Value} {R : List (List Int)} {r : List Int} {A : Option Addr}
theorem RdAns.below (h : RdAns w B A R) (b : Below B w w') : RdAns w' B A R := fun i hi => by
  obtain ⟨g, off, Ai, ci, e, hg, hc, hr⟩ := h i hi
  exact ⟨g, off, Ai, ci, e, hg, (b.cell (p := ⟨g, _, none⟩) hg).trans hc, hr.below b⟩
theorem RdAns.more {B' : Nat} (h : RdAns w B A R) (hB : B ≤ B') : RdAns w B' A R := fun i hi => by
  obtain ⟨g, off, Ai, ci, e, hg, hc, hr⟩ := h i hi
  exact ⟨g, off, Ai, ci, e, by omega, hc, hr.more hB⟩
theorem AnsW.nil (w : World) (base : Nat) : AnsW w base (.slice none 0 0) [] [] :=
  ⟨World.ownsRow_nil _ _ _ _, rfl, fun i u h => by simp at h, fun i j u u' h => by simp at h, fun i u h => by simp at h⟩
theorem AnsW.keep (H : AnsW w base v us R) (b : Below w.heap.size w w') : AnsW w' base v us R :=
  ⟨own_belowS H.out b, H.len, fun i u h => own_belowS (H.row i u h) b, H.apart, H.off⟩
theorem AnsW.low {base' : Nat} (H : AnsW w base v us R) (h : base' ≤ base) : AnsW w base' v us R :=
  ⟨own_low H.out h, H.len, fun i u hu => own_low (H.row i u hu) h, H.apart, H.off⟩
theorem AnsW.rd {c n : Nat} (H : AnsW w base (.slice A n c) us R) : RdAns w w.heap.size A R := fun i hi => by
  have hl := H.len
  obtain ⟨u, hu⟩ : ∃ u, us[i]? = some u := ⟨_, List.getElem?_eq_getElem (by omega)⟩
  obtain ⟨Au, cu, e, _, _⟩ := own_form (H.row i u hu)
  have hn : n = us.length := by obtain ⟨_, _, e, _⟩ := own_form H.out; injection e
  have hout := H.out
  rw [← hn] at hout
  obtain ⟨g, off, e1, hg, hc⟩ := (Rd.of_own hout).2 (by omega)
  have hrow := H.row i u hu
  rw [e] at hrow
  exact ⟨g, off, Au, cu, e1, hg, by rw [hc i (by omega), hu, e], Rd.of_own hrow⟩
theorem getD_snoc_lt {α : Type} (l : List α) (x d : α) {i : Nat} (h : i < l.length) : (l ++ [x]).getD i d = l.getD i d := by
  rw [List.getD_eq_getElem?_getD, List.getD_eq_getElem?_getD, List.getElem?_append_left h]
theorem getD_snoc_eq {α : Type} (l : List α) (x d : α) {i : Nat} (h : i = l.length) : (l ++ [x]).getD i d = x := by
  subst h; rw [List.getD_eq_getElem?_getD, List.getElem?_append_right (Nat.le_refl _)]; simp
/-- One list more. -/
theorem AnsW.push (H : AnsW w base v us R) (hu : w.ownsRow base 3 1 u r.length (iz r)) (hv : Apart v u) (ha : ∀ (i : Nat) (u' : Value), us[i]? = some u' → Apart u' u) (O : Onto w w' base 25 v v' (us.length + 1) (us ++ [u])) : AnsW w' base v' (us ++ [u]) (R ++ [r]) := by
  have hl := H.len
  have key : ∀ (i : Nat) (x : Value), (us ++ [u])[i]? = some x → (i < us.length ∧ us[i]? = some x) ∨ (i = us.length ∧ x = u) := fun i x h => by
    rcases Nat.lt_or_ge i us.length with g | g
    · rw [List.getElem?_append_left g] at h; exact .inl ⟨g, h⟩
    · rw [List.getElem?_append_right g] at h
      rcases Nat.eq_zero_or_pos (i - us.length) with e | e
      · rw [e] at h; simp at h; exact .inr ⟨by omega, h.symm⟩
      · rw [List.getElem?_eq_none (by simp; omega)] at h; cases h
  refine ⟨by rw [List.length_append]; exact O.own, by simp; omega, fun i x h => ?_, fun i j x y hx hy hij => ?_, fun i x h => ?_⟩
  · rcases key i x h with ⟨g, e⟩ | ⟨g, e⟩
    · rw [getD_snoc_lt _ _ _ (by omega)]
      exact O.keep (H.row i x e) (H.off i x e)
    · subst e
      rw [getD_snoc_eq _ _ _ (by omega)]
      exact O.keep hu hv
  · rcases key i x hx with ⟨g, e⟩ | ⟨g, e⟩
    · rcases key j y hy with ⟨g2, e2⟩ | ⟨g2, e2⟩
      · exact H.apart i j x y e e2 hij
      · subst e2; exact ha i x e
    · rcases key j y hy with ⟨g2, e2⟩ | ⟨g2, e2⟩
      · subst e; exact (ha j y e2).symm
      · omega
  · rcases key i x h with ⟨g, e⟩ | ⟨g, e⟩
    · exact O.apart (H.row i x e) (H.off i x e)
    · subst e; exact O.apart hu hv
end
set_option maxRecDepth 20000 in
set_option maxHeartbeats 4000000 in
theorem samelists_any (w : World) (c1 c2 : Nat) (A1 A2 : Option Addr) (R : List (List Int)) (h1 : RdAns w w.heap.size A1 R) (h2 : RdAns w w.heap.size A2 R) (hn : R.length ≤ 140737488355328) (hr : ∀ i, (R.getD i []).length ≤ 140737488355328) :
    Calls Try.prog 46 #[.slice A1 R.length c1, .slice A2 R.length c2] w fun e w' => e = .returned (.bool true) ∧ Below w.heap.size w w' := by
  have HH := Hd.mk (And.intro h1 h2)
  have HR := Hd.mk hr
  clear h1 h2 hr
  obtain ⟨n, hnn⟩ : ∃ n, R.length = n := ⟨_, rfl⟩
  have HN := Hd.mk hnn
  rw [hnn] at hn ⊢
  clear hnn
  go_enter Try.func46, Try.ntmps46
  go_wp2_with fail
  go_loopw [5] (fun i wr => ∃ j : Nat, j ≤ n ∧ i = .int .i64 (j : Int) ∧ Below w.heap.size w wr) (fun i _ => n - (intOf i).toNat)
  case atStart => exact ⟨0, by omega, rfl, Below.refl _ _⟩
  case round =>
    obtain ⟨j, hj, rfl, hb⟩ := hrel
    have HB := Hd.mk hb
    clear hb
    by_cases hlt : j < n
    · have hji : (j : Int) < (n : Int) := by omega
      obtain ⟨g1, o1, B1, d1, rfl, hg1, hc1, hr1⟩ := (HH.out.1.below HB.out) j (by rw [HN.out]; exact hlt)
      obtain ⟨g2, o2, B2, d2, rfl, hg2, hc2, hr2⟩ := (HH.out.2.below HB.out) j (by rw [HN.out]; exact hlt)
      have hl := HR.out j
      obtain ⟨l, hll⟩ : ∃ l, R.getD j [] = l := ⟨_, rfl⟩
      rw [hll] at hc1 hc2 hr1 hr2 hl
      obtain ⟨m, hm⟩ : ∃ m, l.length = m := ⟨_, rfl⟩
      rw [hm] at hc1 hc2 hr1 hr2 hl
      have HX : Hd (∀ W, Below wr.heap.size wr W → W.cell? ⟨g1, o1 + j, none⟩ = some (.slice B1 m d1) ∧ W.cell? ⟨g2, o2 + j, none⟩ = some (.slice B2 m d2)) := ⟨fun W hW => ⟨(hW.cell (p := ⟨g1, _, none⟩) (Nat.lt_of_lt_of_le hg1 HB.out.size)).trans hc1, (hW.cell (p := ⟨g2, _, none⟩) (Nat.lt_of_lt_of_le hg2 HB.out.size)).trans hc2⟩⟩
      have HS : Hd (∀ W, Below wr.heap.size wr W → Calls Try.prog 13 #[.slice B1 m d1, .slice B2 m d2] W fun e w' => e = .returned (.bool true) ∧ Below W.heap.size W w') := ⟨fun W hW => sameInts_any W w.heap.size m d1 d2 B1 B2 l (hr1.below (hW.mono HB.out.size)) (hr2.below (hW.mono HB.out.size)) (Nat.le_trans HB.out.size hW.size) hl⟩
      clear hc1 hc2 hr1 hr2 hll hm hg1 hg2
      go_upto_region 6 with fail
      refine wp_region_held_drew (S := fun W => Below wr.heap.size wr W) (by kernel_rfl) ((Below.refl _ _).drew) (fun hHeld => ?_)
      refine wpAnyH_take (i := 0) (oi := ?oi1) (v := ?v1) ?hi1 (by kernel_rfl) (by kernel_rfl) (by kernel_rfl) ?hQ1 (Or.inl ⟨?hw1, ?hy1⟩) (by assumption) ?rest1
      case hi1 => simp only [List.getElem?_toArray, List.getElem?_cons_succ, List.getElem?_cons_zero]; rfl
      case hQ1 => exact fun _ _ _ h => h
      case hw1 => rfl
      case hy1 => (intro W hW; obtain ⟨q0, q1⟩ := HX.out W hW; go_simp; all_goals rfl)
      simp only [Act.put, List.setIfInBounds_toArray, List.set_cons_zero, List.set_cons_succ]
      refine wpAnyH_take (i := 1) (oi := ?oi2) (v := ?v2) ?hi2 (by kernel_rfl) (by kernel_rfl) (by kernel_rfl) ?hQ2 (Or.inl ⟨?hw2, ?hy2⟩) (by assumption) ?rest2
      case hi2 => simp only [List.getElem?_toArray, List.getElem?_cons_succ, List.getElem?_cons_zero]; rfl
      case hQ2 => exact fun _ _ _ h => h
      case hw2 => rfl
      case hy2 => (intro W hW; obtain ⟨q0, q1⟩ := HX.out W hW; go_simp; all_goals rfl)
      simp only [Act.put, List.setIfInBounds_toArray, List.set_cons_zero, List.set_cons_succ]
      refine wpAnyH_take (i := 2) (oi := ?oi3) (v := ?v3) ?hi3 (by kernel_rfl) (by kernel_rfl) (by kernel_rfl) ?hQ3 (Or.inl ⟨?hw3, ?hy3⟩) (by assumption) ?rest3
      case hi3 => simp only [List.getElem?_toArray, List.getElem?_cons_succ, List.getElem?_cons_zero]; rfl
      case hQ3 => exact fun _ _ _ h => h
      case hw3 => rfl
      case hy3 => (intro W hW; obtain ⟨q0, q1⟩ := HX.out W hW; go_simp; all_goals rfl)
      simp only [Act.put, List.setIfInBounds_toArray, List.set_cons_zero, List.set_cons_succ]
      refine wpAnyH_take (i := 3) (oi := ?oi4) (v := ?v4) ?hi4 (by kernel_rfl) (by kernel_rfl) (by kernel_rfl) ?hQ4 (Or.inl ⟨?hw4, ?hy4⟩) (by assumption) ?rest4
      case hi4 => simp only [List.getElem?_toArray, List.getElem?_cons_succ, List.getElem?_cons_zero]; rfl
      case hQ4 => exact fun _ _ _ h => h
      case hw4 => rfl
      case hy4 => (intro W hW; obtain ⟨q0, q1⟩ := HX.out W hW; go_simp; all_goals rfl)
      simp only [Act.put, List.setIfInBounds_toArray, List.set_cons_zero, List.set_cons_succ]
      refine wpAnyH_take (i := 4) (oi := ?oi5) (v := ?v5) ?hi5 (by kernel_rfl) (by kernel_rfl) (by kernel_rfl) ?hQ5 (Or.inl ⟨?hw5, ?hy5⟩) (by assumption) ?rest5
      case hi5 => simp only [List.getElem?_toArray, List.getElem?_cons_succ, List.getElem?_cons_zero]; rfl
      case hQ5 => exact fun _ _ _ h => h
      case hw5 => rfl
      case hy5 => (intro W hW; obtain ⟨q0, q1⟩ := HX.out W hW; go_simp; all_goals rfl)
      simp only [Act.put, List.setIfInBounds_toArray, List.set_cons_zero, List.set_cons_succ]
      refine wpAnyH_take (i := 5) (oi := ?oi6) (v := ?v6) ?hi6 (by kernel_rfl) (by kernel_rfl) (by kernel_rfl) ?hQ6 (Or.inl ⟨?hw6, ?hy6⟩) (by assumption) ?rest6
      case hi6 => simp only [List.getElem?_toArray, List.getElem?_cons_succ, List.getElem?_cons_zero]; rfl
      case hQ6 => exact fun _ _ _ h => h
      case hw6 => rfl
      case hy6 => (intro W hW; obtain ⟨q0, q1⟩ := HX.out W hW; go_simp; all_goals rfl)
      simp only [Act.put, List.setIfInBounds_toArray, List.set_cons_zero, List.set_cons_succ]
      refine wpAnyH_take (i := 6) (oi := ?oi7) (v := ?v7) ?hi7 (by kernel_rfl) (by kernel_rfl) (by kernel_rfl) ?hQ7 (Or.inl ⟨?hw7, ?hy7⟩) (by assumption) ?rest7
      case hi7 => simp only [List.getElem?_toArray, List.getElem?_cons_succ, List.getElem?_cons_zero]; rfl
      case hQ7 => exact fun _ _ _ h => h
      case hw7 => rfl
      case hy7 => (intro W hW; obtain ⟨q0, q1⟩ := HX.out W hW; go_simp; all_goals rfl)
      simp only [Act.put, List.setIfInBounds_toArray, List.set_cons_zero, List.set_cons_succ]
      refine wpAnyH_take (i := 7) (oi := ?oi8) (v := ?v8) ?hi8 (by kernel_rfl) (by kernel_rfl) (by kernel_rfl) ?hQ8 (Or.inl ⟨?hw8, ?hy8⟩) (by assumption) ?rest8
      case hi8 => simp only [List.getElem?_toArray, List.getElem?_cons_succ, List.getElem?_cons_zero]; rfl
      case hQ8 => exact fun _ _ _ h => h
      case hw8 => rfl
      case hy8 => (intro W hW; obtain ⟨q0, q1⟩ := HX.out W hW; go_simp; all_goals rfl)
      simp only [Act.put, List.setIfInBounds_toArray, List.set_cons_zero, List.set_cons_succ]
      refine wpAnyH_ready (rs := [8]) (by kernel_rfl) (by simp) ?_
      refine AllReadyH.cons (i := 8) (o := ?o9) ?ho9 (fun Kq hK => ?step9) AllReadyH.nil
      case ho9 => simp only [List.getElem?_toArray, List.getElem?_cons_succ, List.getElem?_cons_zero]; rfl
      go_simp
      (go_at_call 13; refine (HS.out _ hHeld).mono ?_; rintro e w8 ⟨rfl, hb⟩)
      have hF : Below wr.heap.size wr w8 := hHeld.trans (hb.mono hHeld.size)
      refine hK.out _ _ hF (fun _ => ?_)
      clear hK Kq hHeld hb
      have hHeld := hF
      clear hF
      try simp only [Act.put, List.setIfInBounds_toArray, List.set_cons_zero, List.set_cons_succ]
      refine wpAnyH_take (i := 9) (oi := ?oi10) (v := ?v10) ?hi10 (by kernel_rfl) (by kernel_rfl) (by kernel_rfl) ?hQ10 (Or.inl ⟨?hw10, ?hy10⟩) (by assumption) ?rest10
      case hi10 => simp only [List.getElem?_toArray, List.getElem?_cons_succ, List.getElem?_cons_zero]; rfl
      case hQ10 => exact fun _ _ _ h => h
      case hw10 => rfl
      case hy10 => (intro W hW; obtain ⟨q0, q1⟩ := HX.out W hW; go_simp; all_goals rfl)
      simp only [Act.put, List.setIfInBounds_toArray, List.set_cons_zero, List.set_cons_succ]
      refine wpAnyH_done (by kernel_rfl) ?_ _
      have H9 := Hd.mk hHeld
      clear hHeld
      go_wp2_with fail
      go_roundw
      case rel => exact ⟨j + 1, by omega, by go_num, HB.out.trans (H9.out.mono HB.out.size)⟩
      case measure => simp [intOf]; omega
    · have hjn : j = n := by omega
      subst hjn
      go_wp2_with fail
      go_ret
      exact ⟨rfl, HB.out⟩
set_option maxRecDepth 20000 in
set_option maxHeartbeats 8000000 in
theorem copies_any (w : World) (n c B : Nat) (A : Option Addr) (R : List (List Int)) (hlen : R.length = n) (h1 : RdAns w B A R) (hB : B ≤ w.heap.size) (hn : n * 24 ≤ 140737488351232) (hr : ∀ i, (R.getD i []).length * 8 ≤ 140737488351232) :
    Calls Try.prog 45 #[.slice A n c] w fun e w' => ∃ v us, e = .returned v ∧ AnsW w' w.heap.size v us R ∧ Below w.heap.size w w' := by
  have HH := Hd.mk (And.intro h1 (And.intro hB hlen))
  have HR := Hd.mk hr
  clear h1 hr hB hlen
  go_enter Try.func45, Try.ntmps45
  go_wp2_with fail
  go_loopw [3, 4] (fun v i wr => ∃ (q : Nat) (us : List Value), q ≤ n ∧ i = .int .i64 (q : Int) ∧ us.length = q ∧ AnsW wr w.heap.size v us (R.take q) ∧ Below w.heap.size w wr) (fun _ i _ => n - (intOf i).toNat)
  case atStart => exact ⟨0, [], by omega, rfl, rfl, by rw [List.take_zero]; exact AnsW.nil _ _, Below.refl _ _⟩
  case round =>
    obtain ⟨q, us, hq, rfl, hul, hA, hb⟩ := hrel
    have H := Hd.mk (And.intro hA (And.intro hb hul))
    have hsz := hb.size
    clear hA hb hul
    by_cases hlt : q < n
    · have hqi : (q : Int) < (n : Int) := by omega
      have hsn : R.take (q + 1) = R.take q ++ [R.getD q []] := by rw [List.take_add_one, List.getElem?_eq_getElem (by rw [HH.out.2.2]; exact hlt), List.getD_eq_getElem?_getD, List.getElem?_eq_getElem (by rw [HH.out.2.2]; exact hlt)]; rfl
      obtain ⟨g, off, Ar, Cr, rfl, hg, hc, hrd⟩ := (HH.out.1.below (H.out.2.1.mono HH.out.2.1)) q (by rw [HH.out.2.2]; exact hlt)
      have hl := HR.out q
      obtain ⟨l, hll⟩ : ∃ l, R.getD q [] = l := ⟨_, rfl⟩
      rw [hll] at hc hrd hl hsn
      obtain ⟨len, hm⟩ : ∃ m, l.length = m := ⟨_, rfl⟩
      rw [hm] at hc hrd hl
      have HLE := Hd.mk hm
      have HSN := Hd.mk hsn
      have hgw : g < wr.heap.size := by have := HH.out.2.1; omega
      have ck : (wr.alloc (.cells #[] 3)).cell? ⟨g, off + q, none⟩ = some (.slice Ar len Cr) := by rw [World.cell?_alloc_lt _ _ _ hgw]; exact hc
      have HRK : Hd (Rd (wr.alloc (.cells #[] 3)) B Ar len (iz l)) := ⟨hrd.alloc (by have := HH.out.2.1; omega) _⟩
      have HE : Hd ((wr.alloc (.cells #[] 3)).ownsRow wr.heap.size 3 1 (.slice (some ⟨wr.heap.size, 0, none⟩) 0 0) 0 []) := ⟨(onto_lit (w := wr) (e := 3) [] (by unfold maxLen; decide)).own⟩
      have h63 : Hd (0 + len ≤ maxLen) := ⟨by unfold maxLen; omega⟩
      have hby : Hd ((0 + len) * 8 ≤ 140737488355328) := ⟨by omega⟩
      have h63c : Hd (q + 1 ≤ maxLen) := ⟨by unfold maxLen; omega⟩
      have hbyc : Hd ((q + 1) * 24 ≤ 140737488355328) := ⟨by omega⟩
      clear hll hm hsn hc hrd hgw hg
      go_wp2_with (at_builtin; first
        | (refine wpList_app elI rfl (.tmp 12) (.tmp 16) rfl wr.heap.size (.slice (some ⟨wr.heap.size, 0, none⟩) 0 0) 0 [] rfl HE.out B Ar len Cr (iz l) rfl HRK.out (iz_one l) h63.out hby.out (by simp) ?_; intro v8 w8 hO8
           have H8 : Hd (w8.ownsRow wr.heap.size 3 1 v8 len (iz l) ∧ Below wr.heap.size wr w8) := ⟨by have := hO8.own; simpa using this, ((Below.refl _ _).alloc (Nat.le_refl _) _).trans (hO8.below (B := wr.heap.size) (fun k hk => by simp [Value.ownBlock] at hk; omega) (by simp))⟩
           obtain ⟨A8, c8, hv8, _, _⟩ := own_form H8.out.1
           subst hv8
           have HA8 := Hd.mk (H.out.1.keep H8.out.2)
           have hs8 : w.heap.size ≤ w8.heap.size := Nat.le_trans hsz H8.out.2.size
           have hown : w8.ownsRow w.heap.size 25 1 u3 q us := by have h := HA8.out.out; rw [H.out.2.2] at h; exact h
           have HOW := Hd.mk hown
           clear hO8 hown)
        | (refine push_at0 (w0 := w8) elII rfl (.tmp 11) (.tmp 18) rfl w.heap.size u3 q us (.slice A8 len c8) rfl w8.heap.size rfl rfl rfl HOW.out h63c.out hbyc.out hs8 ?_; intro v10 w10 hO10
           have HO10 := Hd.mk hO10
           clear hO10))
      have hnew : ∀ x : Value, (∃ e m xs, wr.ownsRow w.heap.size e 1 x m xs) → Apart x (.slice A8 len c8) := fun x ⟨e, m, xs, hx⟩ k hk hk2 => by
        have h1 := (hx.lt k hk).2
        have h2 := (H8.out.1.lt k hk2).1
        omega
      have HP := Hd.mk (HA8.out.push (u := .slice A8 len c8) (r := l) (by rw [HLE.out]; exact own_low H8.out.1 hsz) (hnew _ ⟨_, _, _, H.out.1.out⟩) (fun i u' hu => hnew _ ⟨_, _, _, H.out.1.row i u' hu⟩) (by rw [H.out.2.2]; exact HO10.out))
      go_roundw
      case rel =>
        refine ⟨q + 1, us ++ [.slice A8 len c8], by omega, by go_num, by simp [H.out.2.2], ?_, ?_⟩
        · rw [HSN.out]; exact HP.out
        · exact (H.out.2.1.trans (H8.out.2.mono hsz)).trans (HO10.out.below (fun g e => (World.ownsRow.lt HOW.out g e).1) hs8)
      case measure => simp [intOf]; omega
    · have hqn : q = n := by omega
      subst hqn
      obtain ⟨A', c', hv', _, _⟩ := own_form H.out.1.out
      subst hv'
      go_wp2_with fail
      go_ret
      refine ⟨_, us, rfl, ?_, H.out.2.1⟩
      have h := H.out.1
      rw [← HH.out.2.2, List.take_length] at h
      exact h
end Go.Proofs.Ytplpaipmkpjgfaa
