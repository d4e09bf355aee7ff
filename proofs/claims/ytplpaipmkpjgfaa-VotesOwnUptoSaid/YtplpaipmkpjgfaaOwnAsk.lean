/- Contract of the law's ask. -/
import Derived.Test.YtplpaipmkpjgfaaStaleO
import Derived.Test.YtplpaipmkpjgfaaOwnG
import Derived.Test.YtplpaipmkpjgfaaFillP
import Derived.Test.YtplpaipmkpjgfaaGroupsWalk
namespace Go.Proofs.Ytplpaipmkpjgfaa
open Go.RowKit
set_option linter.unusedVariables false
set_option linter.unusedSimpArgs false
/-- What is asked, told. -/
def askP (i : Int) (S : Nat → Sn) (n : Nat) (k m b : Int) : List (List Int) :=
  if i = 0 then [(judgeP S n k m b).2.2, [(judgeP S n k m b).1, (judgeP S n k m b).2.1.1, (judgeP S n k m b).2.1.2.1, (judgeP S n k m b).2.1.2.2]]
  else if i = 1 then [staleP S 2 0 0 0 n]
  else if i = 2 then [staleP S 1 1 2 5 n]
  else if i = 3 then grpR S n (grpL S n)
  else grpR S n (possP S n k m b).1 ++ (if (possP S n k m b).2 = true then [[1]] else [])
/-- A literal of lists of one's own. -/
theorem AnsW.one {w : World} {base N : Nat} {u : Value} {r : List Int} (hu : w.ownsRow base 3 1 u r.length (iz r)) (hN : w.heap.size = N) (hb : base ≤ N) : AnsW (w.alloc (.cells #[u] 25)) base (.slice (some ⟨N, 0, none⟩) 1 1) [u] [r] := by
  subst hN
  have hk : ∀ (i : Nat) (x : Value), [u][i]? = some x → i = 0 ∧ x = u := fun i x h => by
    rcases i with _ | i
    · simp at h; exact ⟨rfl, h.symm⟩
    · simp at h
  refine ⟨own_low (onto_lit (w := w) (e := 25) [u] (by unfold maxLen; simp)).own hb, rfl, fun i x h => ?_, fun i j x y hx hy hij => ?_, fun i x h => ?_⟩
  · obtain ⟨rfl, rfl⟩ := hk i x h; exact hu.alloc _
  · have := (hk i x hx).1; have := (hk j y hy).1; omega
  · obtain ⟨rfl, rfl⟩ := hk i x h
    intro k h1 h2
    have h1 : w.heap.size = k := by simpa [Value.ownBlock] using h1
    have := (hu.lt k h2).2
    omega
theorem AnsW.two {w : World} {base N : Nat} {u1 u2 : Value} {r1 r2 : List Int} (h1 : w.ownsRow base 3 1 u1 r1.length (iz r1)) (h2 : w.ownsRow base 3 1 u2 r2.length (iz r2)) (ha : Apart u1 u2) (hN : w.heap.size = N) (hb : base ≤ N) : AnsW (w.alloc (.cells #[u1, u2] 25)) base (.slice (some ⟨N, 0, none⟩) 2 2) [u1, u2] [r1, r2] := by
  subst hN
  have hk : ∀ (i : Nat) (x : Value), [u1, u2][i]? = some x → (i = 0 ∧ x = u1) ∨ (i = 1 ∧ x = u2) := fun i x h => by
    rcases i with _ | _ | i
    · simp at h; exact .inl ⟨rfl, h.symm⟩
    · simp at h; exact .inr ⟨rfl, h.symm⟩
    · simp at h
  refine ⟨own_low (onto_lit (w := w) (e := 25) [u1, u2] (by unfold maxLen; simp)).own hb, rfl, fun i x h => ?_, fun i j x y hx hy hij => ?_, fun i x h => ?_⟩
  · rcases hk i x h with ⟨rfl, rfl⟩ | ⟨rfl, rfl⟩
    · exact h1.alloc _
    · exact h2.alloc _
  · rcases hk i x hx with ⟨rfl, rfl⟩ | ⟨rfl, rfl⟩ <;> rcases hk j y hy with ⟨rfl, rfl⟩ | ⟨rfl, rfl⟩
    · omega
    · exact ha
    · exact ha.symm
    · omega
  · intro k e1 e2
    have e1 : w.heap.size = k := by simpa [Value.ownBlock] using e1
    rcases hk i x h with ⟨rfl, rfl⟩ | ⟨rfl, rfl⟩
    · have := (h1.lt k e2).2; omega
    · have := (h2.lt k e2).2; omega
theorem possP_nodup (S : Nat → Sn) (n : Nat) (k m b : Int) : (possP S n k m b).1.Nodup := by
  have h := filt_poss S n k (grpL S n) (grpL_nodup S n)
  unfold possP
  split
  · rw [← h]; exact (grpL_nodup S n).filter _
  · exact List.nodup_nil
/-- What ask answers. -/
def OPost (w : World) (R : List (List Int)) (e : Ending) (w' : World) : Prop := ∃ v us, e = .returned v ∧ AnsW w' w.heap.size v us R ∧ Below w.heap.size w w'
set_option maxRecDepth 20000 in
set_option maxHeartbeats 8000000 in
theorem ask_any (w : World) (Q n c : Nat) (A : Option Addr) (S : Nat → Sn) (hv : View w Q A n S) (hQ : Q ≤ w.heap.size) (hn : n * 120 ≤ 140737488351232) (k m b i : Int) :
    Calls Try.prog 44 #[.int .i64 i, .agg #[.int .i64 k, .int .i64 m, .int .i64 b], .slice A n c] w (OPost w (askP i S n k m b)) := by
  have HH : Hd (View w Q A n S ∧ Q ≤ w.heap.size) := ⟨hv, hQ⟩
  have HJ : Hd (∀ R, askP i S n k m b = R → ∀ (e : Ending) (w' : World), (∃ v us, e = .returned v ∧ AnsW w' w.heap.size v us R ∧ Below w.heap.size w w') → OPost w (askP i S n k m b) e w') := ⟨fun R h e w' h2 => by subst h; exact h2⟩
  clear hv hQ
  have H1 := Hd.mk (PSt.start w k m b)
  go_enter Try.func44, Try.ntmps44
  go_upto_region 1 with fail
  obtain ⟨w1, hw1⟩ : ∃ w1, w.alloc (.cells #[.int .i64 k, .int .i64 m, .int .i64 b] 34) = w1 := ⟨_, rfl⟩
  rw [hw1] at H1 ⊢
  clear hw1
  have HV : Hd (∀ W, Below w.heap.size w W → View W Q A n S ∧ Q ≤ W.heap.size) := ⟨fun W hW => ⟨HH.out.1.below (hW.mono HH.out.2), Nat.le_trans HH.out.2 hW.size⟩⟩
  by_cases i0 : i = 0
  · subst i0
    go_wp2_with (refine at_load ?_; refine wpList_load_row rfl 34 (.tmp 4) rfl w.heap.size rfl 34 #[.int .i64 k, .int .i64 m, .int .i64 b] (0, 0) _ H1.out.sh Try.underlying34 rfl infoSh ?_)
    refine (judge_any w1 Q n c A S (HV.out w1 H1.out.bel).1 (HV.out w1 H1.out.bel).2 hn k m b).mono ?_
    rintro e w2 ⟨P, rfl, ho, hb⟩
    have HR : Hd (askP 0 S n k m b = [(judgeP S n k m b).2.2, [(judgeP S n k m b).1, (judgeP S n k m b).2.1.1, (judgeP S n k m b).2.1.2.1, (judgeP S n k m b).2.1.2.2]]) := ⟨rfl⟩
    obtain ⟨⟨jk, ⟨j1, j2, j3⟩, jl⟩, hj⟩ : ∃ r, judgeP S n k m b = r := ⟨_, rfl⟩
    rw [hj] at ho HR ⊢
    simp only [verV]
    obtain ⟨Aj, cj, hP, _, _⟩ := own_form ho
    subst hP
    obtain ⟨lj, hlj⟩ : ∃ l, jl.length = l := ⟨_, rfl⟩
    simp only at ho
    rw [hlj] at ho ⊢
    have HLJ := Hd.mk hlj
    have H2 := Hd.mk (And.intro (H1.out.keep hb) (own_low ho H1.out.bel.size))
    clear ho hb hj H1 hlj
    go_upto_region 4 with (refine at_store (x := .tmp 7) ?_; refine wpList_boxed rfl 27 (.tmp 7) (.tmp 16) rfl w2.heap.size rfl #[.int .i64 jk, .int .i64 j1, .int .i64 j2, .int .i64 j3, .slice Aj lj cj] rfl rfl infoV2 rfl (by simp [Value.oneCell']) ?_; intro w3 HW3)
    obtain ⟨gv, hgv⟩ : ∃ gv, w2.heap.size = gv := ⟨_, rfl⟩
    rw [hgv] at HW3 ⊢
    have c0 : w3.cell? ⟨gv, 0, none⟩ = some (.int .i64 jk) := by rw [cell_of_row _ _ _ _ _ _ HW3.out.1]; rfl
    have c1 : w3.cell? ⟨gv, 1, none⟩ = some (.int .i64 j1) := by rw [cell_of_row _ _ _ _ _ _ HW3.out.1]; rfl
    have c2 : w3.cell? ⟨gv, 2, none⟩ = some (.int .i64 j2) := by rw [cell_of_row _ _ _ _ _ _ HW3.out.1]; rfl
    have c3 : w3.cell? ⟨gv, 3, none⟩ = some (.int .i64 j3) := by rw [cell_of_row _ _ _ _ _ _ HW3.out.1]; rfl
    have c4 : w3.cell? ⟨gv, 4, none⟩ = some (.slice Aj lj cj) := by rw [cell_of_row _ _ _ _ _ _ HW3.out.1]; rfl
    have H3 : Hd (Below w.heap.size w w3 ∧ w3.ownsRow w.heap.size 3 1 (.slice Aj lj cj) lj (iz jl)) := ⟨H2.out.1.bel.trans (HW3.out.2.1.mono (by rw [← hgv]; exact H2.out.1.bel.size)), own_belowS H2.out.2 (by rw [hgv]; exact HW3.out.2.1)⟩
    clear HW3 hgv H2
    go_wp2_with fail
    go_ret
    refine HJ.out _ HR.out _ _ ⟨_, _, rfl, AnsW.two (N := w3.heap.size + 1) (u1 := .slice Aj lj cj) (u2 := .slice (some ⟨w3.heap.size, 0, none⟩) 4 4) (by rw [HLJ.out]; exact H3.out.2.alloc _) (own_low (onto_lit (w := w3) (e := 3) [.int .i64 jk, .int .i64 j1, .int .i64 j2, .int .i64 j3] (by unfold maxLen; simp)).own H3.out.1.size) (fun q h1 h2 => ?_) (by simp) (by have := H3.out.1.size; omega), (H3.out.1.alloc H3.out.1.size _).alloc (by have := H3.out.1.size; simp; omega) _⟩
    have h2 : w3.heap.size = q := by simpa [Value.ownBlock] using h2
    have := (H3.out.2.lt q h1).2
    omega
  by_cases i1 : i = 1
  · subst i1
    go_wp2_with fail
    refine (stale_own w1 Q n c A S (HV.out w1 H1.out.bel).1 (HV.out w1 H1.out.bel).2 hn 2 0 0 0 (.slice none 0 0)).mono ?_
    rintro e w2 ⟨A2, c2, rfl, hb, ho⟩
    obtain ⟨R, hR⟩ : ∃ R, staleP S 2 0 0 0 n = R := ⟨_, rfl⟩
    have HR : Hd (askP 1 S n k m b = [R]) := ⟨by rw [← hR]; rfl⟩
    rw [hR] at ho ⊢
    have H2 := Hd.mk (And.intro (H1.out.bel.trans (hb.mono H1.out.bel.size)) (own_low ho H1.out.bel.size))
    clear ho hb hR H1
    go_wp2_with fail
    go_ret
    exact HJ.out _ HR.out _ _ ⟨_, _, rfl, AnsW.one H2.out.2 rfl H2.out.1.size, H2.out.1.alloc H2.out.1.size _⟩
  by_cases i2 : i = 2
  · subst i2
    go_wp2_with fail
    refine (stale_own w1 Q n c A S (HV.out w1 H1.out.bel).1 (HV.out w1 H1.out.bel).2 hn 1 1 2 5 (.slice none 0 0)).mono ?_
    rintro e w2 ⟨A2, c2, rfl, hb, ho⟩
    obtain ⟨R, hR⟩ : ∃ R, staleP S 1 1 2 5 n = R := ⟨_, rfl⟩
    have HR : Hd (askP 2 S n k m b = [R]) := ⟨by rw [← hR]; rfl⟩
    rw [hR] at ho ⊢
    have H2 := Hd.mk (And.intro (H1.out.bel.trans (hb.mono H1.out.bel.size)) (own_low ho H1.out.bel.size))
    clear ho hb hR H1
    go_wp2_with fail
    go_ret
    exact HJ.out _ HR.out _ _ ⟨_, _, rfl, AnsW.one H2.out.2 rfl H2.out.1.size, H2.out.1.alloc H2.out.1.size _⟩
  have HGL : Hd (∀ (w5 : World) (base cc : Nat) (AA : Option Addr) (f : Wr → Value) (L : List Wr), Below w.heap.size w w5 → GL base w5 S n f (.slice AA L.length cc) L → w.heap.size ≤ base → base ≤ w5.heap.size → L.length ≤ n → L.Nodup → Calls Try.prog 51 #[.slice AA L.length cc] w5 fun e w' => ∃ v us, e = .returned v ∧ AnsW w' w.heap.size v us (grpR S n L) ∧ Below w.heap.size w w' ∧ Below w5.heap.size w5 w') := ⟨fun w5 base cc AA f L hb hG h1 h2 h3 h4 =>
    (grouplists_any w5 base n cc AA S f L hG h2 h3 hn h4).mono fun e w' ⟨v, us, he, ha, hb2⟩ => ⟨v, us, he, ha.low h1, hb.trans (hb2.mono hb.size), hb2⟩⟩
  by_cases i3 : i = 3
  · subst i3
    go_wp2_with fail
    refine (groups_any w1 Q n c A S (HV.out w1 H1.out.bel).1 (HV.out w1 H1.out.bel).2 hn).mono ?_
    rintro e w2 ⟨v, f, gl, rfl, hO⟩
    have H2 := Hd.mk (And.intro (H1.out.bel.trans (hO.bel.mono H1.out.bel.size)) (And.intro hO.gl (by have := hO.bel.size; have := (hO.map.lt); omega : w1.heap.size + 1 ≤ w2.heap.size)))
    clear hO
    obtain ⟨L, hL⟩ : ∃ L, grpL S n = L := ⟨_, rfl⟩
    have HR : Hd (askP 3 S n k m b = grpR S n L ∧ L.length ≤ n ∧ L.Nodup) := ⟨by rw [← hL]; rfl, hL ▸ grpL_le S n, hL ▸ grpL_nodup S n⟩
    rw [hL] at H2
    clear hL
    obtain ⟨A9, c9, hv9, _, _⟩ := ownN_form H2.out.2.1.out
    subst hv9
    go_wp2_with fail
    refine (HGL.out w2 (w1.heap.size + 1) c9 A9 f L H2.out.1 H2.out.2.1 (by have := H1.out.bel.size; omega) H2.out.2.2 HR.out.2.1 HR.out.2.2).mono ?_
    rintro e w3 ⟨v3, us, rfl, ha, hb, _⟩
    have H3 := Hd.mk (And.intro ha hb)
    clear ha hb
    go_wp2_with fail
    go_ret
    exact HJ.out _ HR.out.1 _ _ ⟨_, _, rfl, H3.out.1, H3.out.2⟩
  have n0 : (i == 0) = false := by rw [beq_eq_false_iff_ne]; exact i0
  have n1 : (i == 1) = false := by rw [beq_eq_false_iff_ne]; exact i1
  have n2 : (i == 2) = false := by rw [beq_eq_false_iff_ne]; exact i2
  have n3 : (i == 3) = false := by rw [beq_eq_false_iff_ne]; exact i3
  have HR0 : Hd (askP i S n k m b = grpR S n (possP S n k m b).1 ++ (if (possP S n k m b).2 = true then [[1]] else [])) := ⟨by unfold askP; rw [if_neg i0, if_neg i1, if_neg i2, if_neg i3]⟩
  clear i0 i1 i2 i3
  go_wp2_with (refine at_load ?_; refine wpList_load_row rfl 34 (.tmp 4) rfl w.heap.size rfl 34 #[.int .i64 k, .int .i64 m, .int .i64 b] (0, 0) _ H1.out.sh Try.underlying34 rfl infoSh ?_)
  refine (possible_any w1 Q n c A S (HV.out w1 H1.out.bel).1 (HV.out w1 H1.out.bel).2 hn k m b).mono ?_
  have hple := poss_len S n k m b
  have hpnd := possP_nodup S n k m b
  obtain ⟨⟨L, bq⟩, hp⟩ : ∃ r, possP S n k m b = r := ⟨_, rfl⟩
  rw [hp] at hple hpnd HR0 ⊢
  simp only at hple hpnd HR0 ⊢
  rintro e w2 ⟨v, rfl, ⟨f, hG⟩, hb⟩
  have H2 := Hd.mk (And.intro (H1.out.bel.trans (hb.mono H1.out.bel.size)) (And.intro hG hb.size))
  have HR := Hd.mk (And.intro HR0.out (And.intro hple hpnd))
  clear hG hb hp hple hpnd HR0
  obtain ⟨A9, c9, hv9, _, _⟩ := ownN_form H2.out.2.1.out
  subst hv9
  go_wp2_with fail
  refine (HGL.out w2 w1.heap.size c9 A9 f L H2.out.1 H2.out.2.1 H1.out.bel.size H2.out.2.2 HR.out.2.1 HR.out.2.2).mono ?_
  rintro e w3 ⟨v3, us, rfl, ha, hb, _⟩
  have H3 := Hd.mk (And.intro ha hb)
  clear ha hb H2
  rcases bq with _ | _
  · go_wp2_with fail
    go_ret
    exact HJ.out _ (by rw [HR.out.1]; exact List.append_nil _) _ _ ⟨_, _, rfl, H3.out.1, H3.out.2⟩
  · have hlen : us.length ≤ 4398046511104 := by have := H3.out.1.len; rw [grpR_len] at this; have := HR.out.2.1; omega
    have HU := Hd.mk hlen
    obtain ⟨lu, hlu⟩ : ∃ l, us.length = l := ⟨_, rfl⟩
    have HLU := Hd.mk hlu
    rw [hlu] at hlen
    clear hlu
    have h63 : Hd (lu + 1 ≤ maxLen) := ⟨by unfold maxLen; omega⟩
    have hby : Hd ((lu + 1) * 24 ≤ 140737488355328) := ⟨by omega⟩
    have HL4 : Hd ((w3.alloc (.cells #[.int .i64 1] 3)).ownsRow w3.heap.size 3 1 (.slice (some ⟨w3.heap.size, 0, none⟩) 1 1) 1 (iz [1]) ∧ Below w3.heap.size w3 (w3.alloc (.cells #[.int .i64 1] 3))) := ⟨by exact (onto_lit (w := w3) (e := 3) [.int .i64 1] (by unfold maxLen; simp)).own, by exact (Below.refl _ _).alloc (Nat.le_refl _) _⟩
    have HA4 : Hd (AnsW (w3.alloc (.cells #[.int .i64 1] 3)) w.heap.size v3 us (grpR S n L) ∧ Below w.heap.size w (w3.alloc (.cells #[.int .i64 1] 3))) := ⟨H3.out.1.keep HL4.out.2, H3.out.2.trans (HL4.out.2.mono H3.out.2.size)⟩
    go_wp2_with (refine at_buildSlice ?_; refine wpList_push elII rfl rfl (.tmp 58) (.tmp 59) 60 rfl rfl rfl w.heap.size v3 lu us (.slice (some ⟨w3.heap.size, 0, none⟩) 1 1) rfl rfl rfl rfl (by rw [← HLU.out]; exact HA4.out.1.out) h63.out hby.out HA4.out.2.size ?_; intro v5 w5 hO5; have HO5 := Hd.mk hO5; clear hO5)
    go_ret
    refine HJ.out _ HR.out.1 _ _ ⟨_, _, rfl, HA4.out.1.push (own_low HL4.out.1 H3.out.2.size) (fun q h1 h2 => ?_) (fun j u' hu' q h1 h2 => ?_) (by rw [HLU.out]; exact HO5.out), HA4.out.2.trans (HO5.out.below (fun q hq => (HA4.out.1.out.lt q hq).1) HA4.out.2.size)⟩
    · have h2 : w3.heap.size = q := by simpa [Value.ownBlock] using h2
      have := (H3.out.1.out.lt q h1).2
      omega
    · have h2 : w3.heap.size = q := by simpa [Value.ownBlock] using h2
      have := ((H3.out.1.row j u' hu').lt q h1).2
      omega
end Go.Proofs.Ytplpaipmkpjgfaa
