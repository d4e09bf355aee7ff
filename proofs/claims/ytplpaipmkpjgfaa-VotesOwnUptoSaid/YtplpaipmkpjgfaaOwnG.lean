/- Contract of the law's groups. (tools/grpgen.py prints it.) -/
import Derived.Test.YtplpaipmkpjgfaaOwnA
import Derived.Test.YtplpaipmkpjgfaaRefPs
namespace Go.Proofs.Ytplpaipmkpjgfaa
open Go.RowKit
set_option linter.unusedVariables false
set_option linter.unusedSimpArgs false
theorem elIIN : ElN Try.prog 88 25 1 24 := by
  obtain ⟨i, hi, h⟩ := Option.map_eq_some_iff.1 infoII
  simp only [Prod.mk.injEq] at h
  exact ⟨Try.underlying88, ⟨i, _, hi, h.1, h.2.1, h.2.2, rfl⟩, by omega⟩
theorem step_appN {P : Program} {t e size bytes : Nat} {ops : Array Oper} {o : Oper} {a : Act} {w0 : World} {Q : Exit → Act → World → Prop} {K : Act → World → Prop} {Z : Prop} (E : ElN P t e size bytes) (hgd : o.guard = none) (s x : Operand) (ho : o.op = .call { callee := .builtin .append, args := #[s, x], argTypes := #[t, t] })
    (base : Nat) (v : Value) (n : Nat) (xs : List Value) (hs : a.eval s = v) (p : Nat → Prop) (A : Option Addr) (m c : Nat) (news : List Value) (hx : a.eval x = .slice A m c) (hown : w0.ownsRow base e size v n xs) (hr : RdN w0 p size A m news) (h1 : ∀ u ∈ news, u.oneCell' = true)
    (h63 : n + m ≤ maxLen) (hby : (n + m) * bytes ≤ 140737488355328) (hbase : base ≤ w0.heap.size)
    (h : ∀ v' w', OntoN w0 w' base e size v v' (n + m) (xs ++ news) → K (a.put o.dst v') w') :
    if Region.wanted o (yielded ops a.tmps) = true then Oper.wp P o a w0 K Q else Z := by
  have hw : Region.wanted o (yielded ops a.tmps) = true := by simp [Region.wanted, hgd]
  rw [if_pos hw]
  obtain ⟨v', w', hrun, g1⟩ := run_appN E o.type base v n xs hown p A m c news hr h1 h63 hby hbase
  unfold Oper.wp execOp
  simp only [ho, resolve, invoke, builtin, Sem.run_bind, Sem.run_pure, Result.andThen_ok, List.map_toArray, List.map_cons, List.map_nil, hs, hx, hrun]
  exact h v' w' g1
/-- What is told of groups. -/
def grpR (S : Nat → Sn) (n : Nat) (L : List Wr) : List (List Int) := L.flatMap fun x => [plc S x n, [x.1, x.2.1, x.2.2]]
theorem grpR_snoc (S : Nat → Sn) (n : Nat) (L : List Wr) (x : Wr) : grpR S n (L ++ [x]) = (grpR S n L ++ [plc S x n]) ++ [[x.1, x.2.1, x.2.2]] := by
  unfold grpR; rw [List.flatMap_append]; simp
theorem grpR_len (S : Nat → Sn) (n : Nat) : ∀ L : List Wr, (grpR S n L).length = 2 * L.length
  | [] => rfl
  | x :: r => by have := grpR_len S n r; unfold grpR at *; rw [List.flatMap_cons, List.length_append, this, List.length_cons]; simp; omega
theorem AnsW.push2 {w w' : World} {base : Nat} {v v' u1 u2 : Value} {us : List Value} {R : List (List Int)} {r1 r2 : List Int} (H : AnsW w base v us R) (h1 : w.ownsRow base 3 1 u1 r1.length (iz r1)) (h2 : w.ownsRow base 3 1 u2 r2.length (iz r2)) (v1 : Apart v u1) (v2 : Apart v u2) (h12 : Apart u1 u2)
    (a1 : ∀ (i : Nat) (u' : Value), us[i]? = some u' → Apart u' u1) (a2 : ∀ (i : Nat) (u' : Value), us[i]? = some u' → Apart u' u2) (O : Onto w w' base 25 v v' (us.length + 2) (us ++ [u1, u2])) : AnsW w' base v' ((us ++ [u1]) ++ [u2]) ((R ++ [r1]) ++ [r2]) := by
  have hl := H.len
  have key : ∀ (i : Nat) (x : Value), ((us ++ [u1]) ++ [u2])[i]? = some x → (i < us.length ∧ us[i]? = some x) ∨ (i = us.length ∧ x = u1) ∨ (i = us.length + 1 ∧ x = u2) := fun i x h => by
    rw [List.append_assoc] at h
    rcases Nat.lt_or_ge i us.length with g | g
    · rw [List.getElem?_append_left g] at h; exact .inl ⟨g, h⟩
    · rw [List.getElem?_append_right g] at h
      rcases hd : i - us.length with _ | _ | d
      · rw [hd] at h; simp at h; exact .inr (.inl ⟨by omega, h.symm⟩)
      · rw [hd] at h; simp at h; exact .inr (.inr ⟨by omega, h.symm⟩)
      · rw [hd] at h; simp at h
  have rowOf : ∀ (i : Nat) (x : Value), ((us ++ [u1]) ++ [u2])[i]? = some x → ∃ m ys, w.ownsRow base 3 1 x m ys ∧ Apart v x ∧ m = (((R ++ [r1]) ++ [r2]).getD i []).length ∧ ys = iz (((R ++ [r1]) ++ [r2]).getD i []) := fun i x h => by
    rcases key i x h with ⟨g, e⟩ | ⟨g, e⟩ | ⟨g, e⟩
    · refine ⟨_, _, H.row i x e, H.off i x e, ?_, ?_⟩ <;> rw [getD_snoc_lt _ _ _ (by simp; omega), getD_snoc_lt _ _ _ (by omega)]
    · subst e; refine ⟨_, _, h1, v1, ?_, ?_⟩ <;> rw [getD_snoc_lt _ _ _ (by simp; omega), getD_snoc_eq _ _ _ (by omega)]
    · subst e; refine ⟨_, _, h2, v2, ?_, ?_⟩ <;> rw [getD_snoc_eq _ _ _ (by simp; omega)]
  refine ⟨by rw [List.append_assoc]; simpa using O.own, by simp; omega, fun i x h => ?_, fun i j x y hx hy hij => ?_, fun i x h => ?_⟩
  · obtain ⟨m, ys, hr, hv, rfl, rfl⟩ := rowOf i x h
    exact O.keep hr hv
  · rcases key i x hx with ⟨g, e⟩ | ⟨g, e⟩ | ⟨g, e⟩ <;> rcases key j y hy with ⟨g', e'⟩ | ⟨g', e'⟩ | ⟨g', e'⟩
    · exact H.apart i j x y e e' hij
    · subst e'; exact a1 i x e
    · subst e'; exact a2 i x e
    · subst e; exact (a1 j y e').symm
    · omega
    · subst e e'; exact h12
    · subst e; exact (a2 j y e').symm
    · subst e e'; exact h12.symm
    · omega
  · obtain ⟨m, ys, hr, hv, _, _⟩ := rowOf i x h
    exact O.apart hr hv
set_option maxRecDepth 20000 in
set_option maxHeartbeats 8000000 in
theorem grouplists_any (w : World) (base n c : Nat) (A : Option Addr) (S : Nat → Sn) (f : Wr → Value) (L : List Wr) (hG : GL base w S n f (.slice A L.length c) L) (hb : base ≤ w.heap.size) (hL : L.length ≤ n) (hn : n * 120 ≤ 140737488351232) (hnd : L.Nodup) :
    Calls Try.prog 51 #[.slice A L.length c] w fun e w' => ∃ v us, e = .returned v ∧ AnsW w' base v us (grpR S n L) ∧ Below w.heap.size w w' := by
  have HG := Hd.mk hG
  have HND := Hd.mk hnd
  clear hG hnd
  go_enter Try.func51, Try.ntmps51
  go_wp2_with fail
  go_loopw [3, 4] (fun v i wr => ∃ (q : Nat) (us : List Value), q ≤ L.length ∧ i = .int .i64 (q : Int) ∧ us.length = 2 * q ∧ AnsW wr base v us (grpR S n (L.take q)) ∧ Below w.heap.size w wr ∧ (∀ k, v.ownBlock = some k → w.heap.size ≤ k) ∧ (∀ (i : Nat) (u : Value), us[i]? = some u → (∃ y, y ∈ L.take q ∧ u = f y) ∨ ∀ k, u.ownBlock = some k → w.heap.size ≤ k)) (fun _ i _ => L.length - (intOf i).toNat)
  case atStart => exact ⟨0, [], by omega, rfl, rfl, AnsW.nil _ _, Below.refl _ _, (fun k h => by cases h), (fun i u h => by simp at h)⟩
  case round =>
    obtain ⟨q, us, hq, rfl, hul, hA, hbl, hv0, hsrc⟩ := hrel
    have H := Hd.mk (And.intro hA (And.intro hbl (And.intro hul (And.intro hv0 hsrc))))
    have hsz := hbl.size
    clear hA hbl hul hv0 hsrc
    by_cases hlt : q < L.length
    · have hqi : (q : Int) < (L.length : Int) := by omega
      have hsn : L.take (q + 1) = L.take q ++ [L.getD q (0, 0, 0)] := by rw [List.take_add_one, List.getElem?_eq_getElem hlt, List.getD_eq_getElem?_getD, List.getElem?_eq_getElem hlt]; rfl
      have hnt : L.getD q (0, 0, 0) ∉ L.take q := fun hm => by
        have h := HND.out
        rw [← List.take_append_drop (q + 1) L, hsn] at h
        have h2 := (List.nodup_append.1 h).1
        exact (List.nodup_append.1 h2).2.2 _ hm _ (by simp) rfl
      obtain ⟨x, hx⟩ : ∃ x, L.getD q (0, 0, 0) = x := ⟨_, rfl⟩
      have HXM : Hd (x ∈ L) := ⟨hx ▸ getD_mem hlt⟩
      obtain ⟨g, c9, hv, _, hg, hr⟩ := HG.out.at_ hlt
      rw [hx] at hr hsn hnt
      injection hv with hv1 hv2 hv3
      subst hv1 hv3
      have hrow := HG.out.rows x HXM.out
      obtain ⟨D1, d1, hf, _, _⟩ := own_form hrow
      have HAX : Hd (∀ y, y ∈ L.take q → Apart (f y) (f x)) := ⟨fun y hy => HG.out.apart y x (List.mem_of_mem_take hy) HXM.out (fun e => hnt (e ▸ hy))⟩
      have hmn : (plc S x n).length ≤ n := plc_le _ _ _
      obtain ⟨ek, ck, sk⟩ := x
      have hce : encG f (ek, ck, sk) = [.int .i64 ek, .int .i64 ck, .int .i64 sk, .slice D1 (plc S (ek, ck, sk) n).length d1] := by unfold encG; rw [hf]
      rw [hce] at hr
      obtain ⟨pl, hpl⟩ : ∃ pl, plc S (ek, ck, sk) n = pl := ⟨_, rfl⟩
      rw [hf, hpl] at hrow
      rw [hpl] at hr hmn hf
      obtain ⟨mm, hmm⟩ : ∃ mm, pl.length = mm := ⟨_, rfl⟩
      rw [hmm] at hr hmn hf hrow
      have HF := Hd.mk (And.intro hf (And.intro hrow (And.intro hpl hmm)))
      have HSN := Hd.mk hsn
      have HX : Hd (∀ W, Below w.heap.size w W → W.cell? ⟨g, q * 4, none⟩ = some (.int .i64 ek) ∧ W.cell? ⟨g, q * 4 + 1, none⟩ = some (.int .i64 ck) ∧ W.cell? ⟨g, q * 4 + 2, none⟩ = some (.int .i64 sk) ∧ W.cell? ⟨g, q * 4 + 3, none⟩ = some (.slice D1 mm d1)) := ⟨fun W hW => by
        have kk : ∀ {i : Nat} {u : Value}, w.cell? ⟨g, i, none⟩ = some u → W.cell? ⟨g, i, none⟩ = some u := fun {i u} hc => (hW.cell (p := ⟨g, i, none⟩) hg).trans hc
        exact ⟨kk (hr 0 _ rfl), kk (hr 1 _ rfl), kk (hr 2 _ rfl), kk (hr 3 _ rfl)⟩⟩
      have h63 : Hd (us.length + 2 ≤ maxLen) := ⟨by have := H.out.2.2.1; unfold maxLen; omega⟩
      have hby : Hd ((us.length + 2) * 24 ≤ 140737488355328) := ⟨by have := H.out.2.2.1; omega⟩
      clear hsn hnt hx hr hf hrow hpl hmm hce hv2 hg
      go_upto_region 5 with fail
      refine wp_region_held_drew (S := fun W => Below w.heap.size w W) (by kernel_rfl) (H.out.2.1.drew) (fun hHeld => ?_)
      refine wpAnyH_take (i := 0) (oi := ?oi101) (v := ?v101) ?hi101 (by kernel_rfl) (by kernel_rfl) (by kernel_rfl) ?hQ101 (Or.inl ⟨?hw101, ?hy101⟩) (by assumption) ?rest101
      case hi101 => simp only [List.getElem?_toArray, List.getElem?_cons_succ, List.getElem?_cons_zero]; rfl
      case hQ101 => exact fun _ _ _ h => h
      case hw101 => rfl
      case hy101 => (intro W hW; obtain ⟨q0, q1, q2, q3⟩ := HX.out W hW; go_simp; all_goals rfl)
      simp only [Act.put, List.setIfInBounds_toArray, List.set_cons_zero, List.set_cons_succ]
      refine wpAnyH_take (i := 1) (oi := ?oi102) (v := ?v102) ?hi102 (by kernel_rfl) (by kernel_rfl) (by kernel_rfl) ?hQ102 (Or.inl ⟨?hw102, ?hy102⟩) (by assumption) ?rest102
      case hi102 => simp only [List.getElem?_toArray, List.getElem?_cons_succ, List.getElem?_cons_zero]; rfl
      case hQ102 => exact fun _ _ _ h => h
      case hw102 => rfl
      case hy102 => (intro W hW; obtain ⟨q0, q1, q2, q3⟩ := HX.out W hW; go_simp; all_goals rfl)
      simp only [Act.put, List.setIfInBounds_toArray, List.set_cons_zero, List.set_cons_succ]
      refine wpAnyH_take (i := 2) (oi := ?oi103) (v := ?v103) ?hi103 (by kernel_rfl) (by kernel_rfl) (by kernel_rfl) ?hQ103 (Or.inl ⟨?hw103, ?hy103⟩) (by assumption) ?rest103
      case hi103 => simp only [List.getElem?_toArray, List.getElem?_cons_succ, List.getElem?_cons_zero]; rfl
      case hQ103 => exact fun _ _ _ h => h
      case hw103 => rfl
      case hy103 => (intro W hW; obtain ⟨q0, q1, q2, q3⟩ := HX.out W hW; go_simp; all_goals rfl)
      simp only [Act.put, List.setIfInBounds_toArray, List.set_cons_zero, List.set_cons_succ]
      refine wpAnyH_take (i := 3) (oi := ?oi104) (v := ?v104) ?hi104 (by kernel_rfl) (by kernel_rfl) (by kernel_rfl) ?hQ104 (Or.inl ⟨?hw104, ?hy104⟩) (by assumption) ?rest104
      case hi104 => simp only [List.getElem?_toArray, List.getElem?_cons_succ, List.getElem?_cons_zero]; rfl
      case hQ104 => exact fun _ _ _ h => h
      case hw104 => rfl
      case hy104 => (intro W hW; obtain ⟨q0, q1, q2, q3⟩ := HX.out W hW; go_simp; all_goals rfl)
      simp only [Act.put, List.setIfInBounds_toArray, List.set_cons_zero, List.set_cons_succ]
      refine wpAnyH_take (i := 4) (oi := ?oi105) (v := ?v105) ?hi105 (by kernel_rfl) (by kernel_rfl) (by kernel_rfl) ?hQ105 (Or.inl ⟨?hw105, ?hy105⟩) (by assumption) ?rest105
      case hi105 => simp only [List.getElem?_toArray, List.getElem?_cons_succ, List.getElem?_cons_zero]; rfl
      case hQ105 => exact fun _ _ _ h => h
      case hw105 => rfl
      case hy105 => (intro W hW; obtain ⟨q0, q1, q2, q3⟩ := HX.out W hW; go_simp; all_goals rfl)
      simp only [Act.put, List.setIfInBounds_toArray, List.set_cons_zero, List.set_cons_succ]
      refine wpAnyH_take (i := 5) (oi := ?oi106) (v := ?v106) ?hi106 (by kernel_rfl) (by kernel_rfl) (by kernel_rfl) ?hQ106 (Or.inl ⟨?hw106, ?hy106⟩) (by assumption) ?rest106
      case hi106 => simp only [List.getElem?_toArray, List.getElem?_cons_succ, List.getElem?_cons_zero]; rfl
      case hQ106 => exact fun _ _ _ h => h
      case hw106 => rfl
      case hy106 => (intro W hW; obtain ⟨q0, q1, q2, q3⟩ := HX.out W hW; go_simp; all_goals rfl)
      simp only [Act.put, List.setIfInBounds_toArray, List.set_cons_zero, List.set_cons_succ]
      refine wpAnyH_take (i := 6) (oi := ?oi107) (v := ?v107) ?hi107 (by kernel_rfl) (by kernel_rfl) (by kernel_rfl) ?hQ107 (Or.inl ⟨?hw107, ?hy107⟩) (by assumption) ?rest107
      case hi107 => simp only [List.getElem?_toArray, List.getElem?_cons_succ, List.getElem?_cons_zero]; rfl
      case hQ107 => exact fun _ _ _ h => h
      case hw107 => rfl
      case hy107 => (intro W hW; obtain ⟨q0, q1, q2, q3⟩ := HX.out W hW; go_simp; all_goals rfl)
      simp only [Act.put, List.setIfInBounds_toArray, List.set_cons_zero, List.set_cons_succ]
      refine wpAnyH_take (i := 7) (oi := ?oi108) (v := ?v108) ?hi108 (by kernel_rfl) (by kernel_rfl) (by kernel_rfl) ?hQ108 (Or.inl ⟨?hw108, ?hy108⟩) (by assumption) ?rest108
      case hi108 => simp only [List.getElem?_toArray, List.getElem?_cons_succ, List.getElem?_cons_zero]; rfl
      case hQ108 => exact fun _ _ _ h => h
      case hw108 => rfl
      case hy108 => (intro W hW; obtain ⟨q0, q1, q2, q3⟩ := HX.out W hW; go_simp; all_goals rfl)
      simp only [Act.put, List.setIfInBounds_toArray, List.set_cons_zero, List.set_cons_succ]
      refine wpAnyH_take (i := 8) (oi := ?oi109) (v := ?v109) ?hi109 (by kernel_rfl) (by kernel_rfl) (by kernel_rfl) ?hQ109 (Or.inl ⟨?hw109, ?hy109⟩) (by assumption) ?rest109
      case hi109 => simp only [List.getElem?_toArray, List.getElem?_cons_succ, List.getElem?_cons_zero]; rfl
      case hQ109 => exact fun _ _ _ h => h
      case hw109 => rfl
      case hy109 => (intro W hW; obtain ⟨q0, q1, q2, q3⟩ := HX.out W hW; go_simp; all_goals rfl)
      simp only [Act.put, List.setIfInBounds_toArray, List.set_cons_zero, List.set_cons_succ]
      refine wpAnyH_take (i := 9) (oi := ?oi110) (v := ?v110) ?hi110 (by kernel_rfl) (by kernel_rfl) (by kernel_rfl) ?hQ110 (Or.inl ⟨?hw110, ?hy110⟩) (by assumption) ?rest110
      case hi110 => simp only [List.getElem?_toArray, List.getElem?_cons_succ, List.getElem?_cons_zero]; rfl
      case hQ110 => exact fun _ _ _ h => h
      case hw110 => rfl
      case hy110 => (intro W hW; obtain ⟨q0, q1, q2, q3⟩ := HX.out W hW; go_simp; all_goals rfl)
      simp only [Act.put, List.setIfInBounds_toArray, List.set_cons_zero, List.set_cons_succ]
      refine wpAnyH_take (i := 10) (oi := ?oi111) (v := ?v111) ?hi111 (by kernel_rfl) (by kernel_rfl) (by kernel_rfl) ?hQ111 (Or.inl ⟨?hw111, ?hy111⟩) (by assumption) ?rest111
      case hi111 => simp only [List.getElem?_toArray, List.getElem?_cons_succ, List.getElem?_cons_zero]; rfl
      case hQ111 => exact fun _ _ _ h => h
      case hw111 => rfl
      case hy111 => (intro W hW; obtain ⟨q0, q1, q2, q3⟩ := HX.out W hW; go_simp; all_goals rfl)
      simp only [Act.put, List.setIfInBounds_toArray, List.set_cons_zero, List.set_cons_succ]
      refine wpAnyH_take (i := 11) (oi := ?oi112) (v := ?v112) ?hi112 (by kernel_rfl) (by kernel_rfl) (by kernel_rfl) ?hQ112 (Or.inl ⟨?hw112, ?hy112⟩) (by assumption) ?rest112
      case hi112 => simp only [List.getElem?_toArray, List.getElem?_cons_succ, List.getElem?_cons_zero]; rfl
      case hQ112 => exact fun _ _ _ h => h
      case hw112 => rfl
      case hy112 => (intro W hW; obtain ⟨q0, q1, q2, q3⟩ := HX.out W hW; go_simp; all_goals rfl)
      simp only [Act.put, List.setIfInBounds_toArray, List.set_cons_zero, List.set_cons_succ]
      refine wpAnyH_take (i := 12) (oi := ?oi113) (v := ?v113) ?hi113 (by kernel_rfl) (by kernel_rfl) (by kernel_rfl) ?hQ113 (Or.inl ⟨?hw113, ?hy113⟩) (by assumption) ?rest113
      case hi113 => simp only [List.getElem?_toArray, List.getElem?_cons_succ, List.getElem?_cons_zero]; rfl
      case hQ113 => exact fun _ _ _ h => h
      case hw113 => rfl
      case hy113 => (intro W hW; obtain ⟨q0, q1, q2, q3⟩ := HX.out W hW; go_simp; all_goals rfl)
      simp only [Act.put, List.setIfInBounds_toArray, List.set_cons_zero, List.set_cons_succ]
      refine wpAnyH_take (i := 13) (oi := ?oi114) (v := ?v114) ?hi114 (by kernel_rfl) (by kernel_rfl) (by kernel_rfl) ?hQ114 (Or.inl ⟨?hw114, ?hy114⟩) (by assumption) ?rest114
      case hi114 => simp only [List.getElem?_toArray, List.getElem?_cons_succ, List.getElem?_cons_zero]; rfl
      case hQ114 => exact fun _ _ _ h => h
      case hw114 => rfl
      case hy114 => (intro W hW; obtain ⟨q0, q1, q2, q3⟩ := HX.out W hW; go_simp; all_goals rfl)
      simp only [Act.put, List.setIfInBounds_toArray, List.set_cons_zero, List.set_cons_succ]
      refine wpAnyH_take (i := 14) (oi := ?oi115) (v := ?v115) ?hi115 (by kernel_rfl) (by kernel_rfl) (by kernel_rfl) ?hQ115 (Or.inl ⟨?hw115, ?hy115⟩) (by assumption) ?rest115
      case hi115 => simp only [List.getElem?_toArray, List.getElem?_cons_succ, List.getElem?_cons_zero]; rfl
      case hQ115 => exact fun _ _ _ h => h
      case hw115 => rfl
      case hy115 => (intro W hW; obtain ⟨q0, q1, q2, q3⟩ := HX.out W hW; go_simp; all_goals rfl)
      simp only [Act.put, List.setIfInBounds_toArray, List.set_cons_zero, List.set_cons_succ]
      refine wpAnyH_take (i := 15) (oi := ?oi116) (v := ?v116) ?hi116 (by kernel_rfl) (by kernel_rfl) (by kernel_rfl) ?hQ116 (Or.inl ⟨?hw116, ?hy116⟩) (by assumption) ?rest116
      case hi116 => simp only [List.getElem?_toArray, List.getElem?_cons_succ, List.getElem?_cons_zero]; rfl
      case hQ116 => exact fun _ _ _ h => h
      case hw116 => rfl
      case hy116 => (intro W hW; obtain ⟨q0, q1, q2, q3⟩ := HX.out W hW; go_simp; all_goals rfl)
      simp only [Act.put, List.setIfInBounds_toArray, List.set_cons_zero, List.set_cons_succ]
      refine wpAnyH_take (i := 16) (oi := ?oi117) (v := ?v117) ?hi117 (by kernel_rfl) (by kernel_rfl) (by kernel_rfl) ?hQ117 (Or.inl ⟨?hw117, ?hy117⟩) (by assumption) ?rest117
      case hi117 => simp only [List.getElem?_toArray, List.getElem?_cons_succ, List.getElem?_cons_zero]; rfl
      case hQ117 => exact fun _ _ _ h => h
      case hw117 => rfl
      case hy117 => (intro W hW; obtain ⟨q0, q1, q2, q3⟩ := HX.out W hW; go_simp; all_goals rfl)
      simp only [Act.put, List.setIfInBounds_toArray, List.set_cons_zero, List.set_cons_succ]
      refine wpAnyH_take (i := 17) (oi := ?oi118) (v := ?v118) ?hi118 (by kernel_rfl) (by kernel_rfl) (by kernel_rfl) ?hQ118 (Or.inl ⟨?hw118, ?hy118⟩) (by assumption) ?rest118
      case hi118 => simp only [List.getElem?_toArray, List.getElem?_cons_succ, List.getElem?_cons_zero]; rfl
      case hQ118 => exact fun _ _ _ h => h
      case hw118 => rfl
      case hy118 => (intro W hW; obtain ⟨q0, q1, q2, q3⟩ := HX.out W hW; go_simp; all_goals rfl)
      simp only [Act.put, List.setIfInBounds_toArray, List.set_cons_zero, List.set_cons_succ]
      refine wpAnyH_take (i := 18) (oi := ?oi119) (v := ?v119) ?hi119 (by kernel_rfl) (by kernel_rfl) (by kernel_rfl) ?hQ119 (Or.inl ⟨?hw119, ?hy119⟩) (by assumption) ?rest119
      case hi119 => simp only [List.getElem?_toArray, List.getElem?_cons_succ, List.getElem?_cons_zero]; rfl
      case hQ119 => exact fun _ _ _ h => h
      case hw119 => rfl
      case hy119 => (intro W hW; obtain ⟨q0, q1, q2, q3⟩ := HX.out W hW; go_simp; all_goals rfl)
      simp only [Act.put, List.setIfInBounds_toArray, List.set_cons_zero, List.set_cons_succ]
      refine wpAnyH_take (i := 19) (oi := ?oi120) (v := ?v120) ?hi120 (by kernel_rfl) (by kernel_rfl) (by kernel_rfl) ?hQ120 (Or.inl ⟨?hw120, ?hy120⟩) (by assumption) ?rest120
      case hi120 => simp only [List.getElem?_toArray, List.getElem?_cons_succ, List.getElem?_cons_zero]; rfl
      case hQ120 => exact fun _ _ _ h => h
      case hw120 => rfl
      case hy120 => (intro W hW; obtain ⟨q0, q1, q2, q3⟩ := HX.out W hW; go_simp; all_goals rfl)
      simp only [Act.put, List.setIfInBounds_toArray, List.set_cons_zero, List.set_cons_succ]
      refine wpAnyH_take (i := 20) (oi := ?oi121) (v := ?v121) ?hi121 (by kernel_rfl) (by kernel_rfl) (by kernel_rfl) ?hQ121 (Or.inl ⟨?hw121, ?hy121⟩) (by assumption) ?rest121
      case hi121 => simp only [List.getElem?_toArray, List.getElem?_cons_succ, List.getElem?_cons_zero]; rfl
      case hQ121 => exact fun _ _ _ h => h
      case hw121 => rfl
      case hy121 => (intro W hW; obtain ⟨q0, q1, q2, q3⟩ := HX.out W hW; go_simp; all_goals rfl)
      simp only [Act.put, List.setIfInBounds_toArray, List.set_cons_zero, List.set_cons_succ]
      refine wpAnyH_take (i := 21) (oi := ?oi122) (v := ?v122) ?hi122 (by kernel_rfl) (by kernel_rfl) (by kernel_rfl) ?hQ122 (Or.inl ⟨?hw122, ?hy122⟩) (by assumption) ?rest122
      case hi122 => simp only [List.getElem?_toArray, List.getElem?_cons_succ, List.getElem?_cons_zero]; rfl
      case hQ122 => exact fun _ _ _ h => h
      case hw122 => rfl
      case hy122 => (intro W hW; obtain ⟨q0, q1, q2, q3⟩ := HX.out W hW; go_simp; all_goals rfl)
      simp only [Act.put, List.setIfInBounds_toArray, List.set_cons_zero, List.set_cons_succ]
      refine wpAnyH_take (i := 22) (oi := ?oi123) (v := ?v123) ?hi123 (by kernel_rfl) (by kernel_rfl) (by kernel_rfl) ?hQ123 (Or.inl ⟨?hw123, ?hy123⟩) (by assumption) ?rest123
      case hi123 => simp only [List.getElem?_toArray, List.getElem?_cons_succ, List.getElem?_cons_zero]; rfl
      case hQ123 => exact fun _ _ _ h => h
      case hw123 => rfl
      case hy123 => (intro W hW; obtain ⟨q0, q1, q2, q3⟩ := HX.out W hW; go_simp; all_goals rfl)
      simp only [Act.put, List.setIfInBounds_toArray, List.set_cons_zero, List.set_cons_succ]
      refine wpAnyH_ready (rs := [23]) (by kernel_rfl) (by simp) ?_
      refine AllReadyH.cons (i := 23) (o := ?o124) ?ho124 (fun Kq hK => ?step124) AllReadyH.nil
      case ho124 => simp only [List.getElem?_toArray, List.getElem?_cons_succ, List.getElem?_cons_zero]; rfl
      go_simp
      skip
      refine hK.out _ _ ((H.out.2.1.alloc hsz _).drew) (fun _ => ?_)
      clear hK Kq
      try simp only [Act.put, List.setIfInBounds_toArray, List.set_cons_zero, List.set_cons_succ]
      have hl1 : Rd (wr.alloc (.cells #[.int .i64 ek, .int .i64 ck, .int .i64 sk] 3)).drew (wr.heap.size + 1) (some ⟨wr.heap.size, 0, none⟩) 3 (iz [ek, ck, sk]) := rd_lit (w := wr) (e := 3) (iz [ek, ck, sk])
      have ho1 : (wr.alloc (.cells #[.int .i64 ek, .int .i64 ck, .int .i64 sk] 3)).drew.ownsRow wr.heap.size 3 1 (.slice (some ⟨wr.heap.size, 0, none⟩) 3 3) 3 (iz [ek, ck, sk]) := (onto_lit (w := wr) (e := 3) (iz [ek, ck, sk]) (by rw [iz_len]; show 3 ≤ _; unfold maxLen; decide)).own
      have hb1 : Below wr.heap.size wr (wr.alloc (.cells #[.int .i64 ek, .int .i64 ck, .int .i64 sk] 3)).drew := ((Below.refl _ _).alloc (Nat.le_refl _) _).drew
      have hz1 : (wr.alloc (.cells #[.int .i64 ek, .int .i64 ck, .int .i64 sk] 3)).drew.heap.size = wr.heap.size + 1 := by simp
      obtain ⟨w1, hw1⟩ : ∃ w1, (wr.alloc (.cells #[.int .i64 ek, .int .i64 ck, .int .i64 sk] 3)).drew = w1 := ⟨_, rfl⟩
      rw [hw1] at hl1 ho1 hb1 hz1 ⊢
      clear hw1
      have H1 := Hd.mk (And.intro ho1 (And.intro hb1 hz1))
      clear hl1 ho1 hb1 hz1 hHeld
      have hHeld : Below w.heap.size w w1 := H.out.2.1.trans (H1.out.2.1.mono hsz)
      refine wpAnyH_ready (rs := [24]) (by kernel_rfl) (by simp) ?_
      refine AllReadyH.cons (i := 24) (o := ?o125) ?ho125 (fun Kq hK => ?step125) AllReadyH.nil
      case ho125 => simp only [List.getElem?_toArray, List.getElem?_cons_succ, List.getElem?_cons_zero]; rfl
      go_simp
      skip
      refine hK.out _ _ (hHeld.alloc hHeld.size _) (fun _ => ?_)
      clear hK Kq
      try simp only [Act.put, List.setIfInBounds_toArray, List.set_cons_zero, List.set_cons_succ]
      have hb2 : Below w1.heap.size w1 (w1.alloc (.cells #[.slice D1 mm d1, .slice (some ⟨wr.heap.size, 0, none⟩) 3 3] 25)) := (Below.refl _ _).alloc (Nat.le_refl _) _
      have hl2 : Rd (w1.alloc (.cells #[.slice D1 mm d1, .slice (some ⟨wr.heap.size, 0, none⟩) 3 3] 25)) (w1.heap.size + 1) (some ⟨w1.heap.size, 0, none⟩) 2 [.slice D1 mm d1, .slice (some ⟨wr.heap.size, 0, none⟩) 3 3] := rd_lit (w := w1) (e := 25) [.slice D1 mm d1, .slice (some ⟨wr.heap.size, 0, none⟩) 3 3]
      obtain ⟨w2, hw2⟩ : ∃ w2, w1.alloc (.cells #[.slice D1 mm d1, .slice (some ⟨wr.heap.size, 0, none⟩) 3 3] 25) = w2 := ⟨_, rfl⟩
      rw [hw2] at hb2 hl2 ⊢
      clear hw2
      have hb02 : Below wr.heap.size wr w2 := H1.out.2.1.trans (hb2.mono H1.out.2.1.size)
      have HA2 := Hd.mk (H.out.1.keep hb02)
      have HO1 := Hd.mk (own_belowS H1.out.1 hb2)
      have HF2 := Hd.mk (own_belowS HF.out.2.1 (H.out.2.1.trans (hb02.mono hsz)))
      have HL2 := Hd.mk hl2
      have HB02 := Hd.mk hb02
      clear hb2 hl2 hb02 hHeld
      refine wpAnyH_ready (rs := [25]) (by kernel_rfl) (by simp) ?_
      refine AllReadyH.cons (i := 25) (o := ?o1091) ?ho1091 (fun Kq hK => ?step1091) AllReadyH.nil
      case ho1091 => simp only [List.getElem?_toArray, List.getElem?_cons_succ, List.getElem?_cons_zero]; rfl
      refine step_appN elIIN rfl (.tmp 11) (.tmp 35) rfl base u3 us.length us rfl (· < w1.heap.size + 1) (some ⟨w1.heap.size, 0, none⟩) 2 2 [.slice D1 mm d1, .slice (some ⟨wr.heap.size, 0, none⟩) 3 3] rfl HA2.out.out HL2.out.toN (by intro u hu; simp at hu; rcases hu with rfl | rfl <;> rfl) h63.out hby.out (by have := HB02.out.size; omega) (fun v3 w3 hO3 => ?_)
      have HO3 : Hd (Onto w2 w3 base 25 u3 v3 (us.length + 2) (us ++ [.slice D1 mm d1, .slice (some ⟨wr.heap.size, 0, none⟩) 3 3])) := ⟨hO3⟩
      clear hO3
      have HB3 : Hd (Below w.heap.size w w3) := ⟨(H.out.2.1.trans (HB02.out.mono hsz)).trans (HO3.out.below (fun k hk => H.out.2.2.2.1 k hk) (by have := HB02.out.size; omega))⟩
      have HV3 : Hd (∀ k, v3.ownBlock = some k → w.heap.size ≤ k) := ⟨fun k hk => by rcases HO3.out.2.2 k hk with h | h; exact H.out.2.2.2.1 k h; have := HB02.out.size; omega⟩
      have hlt3 : ∀ (i : Nat) (u : Value), us[i]? = some u → ∀ k, u.ownBlock = some k → k < wr.heap.size := fun i u hu k hk => ((H.out.1.row i u hu).lt k hk).2
      have hfw : ∀ k, (Value.slice D1 mm d1).ownBlock = some k → k < w.heap.size := fun k hk => (HF.out.2.1.lt k hk).2
      have HP := Hd.mk (HA2.out.push2 (u1 := .slice D1 mm d1) (u2 := .slice (some ⟨wr.heap.size, 0, none⟩) 3 3) (r1 := pl) (r2 := [ek, ck, sk]) (by rw [HF.out.2.2.2]; exact HF2.out) (own_low HO1.out (by omega)) (fun k h1 h2 => by have := H.out.2.2.2.1 k h1; have := hfw k h2; omega) (fun k h1 h2 => by have := (H.out.1.out.lt k h1).2; have h2 : wr.heap.size = k := (by simpa [Value.ownBlock] using h2); omega) (fun k h1 h2 => by have := hfw k h1; have h2 : wr.heap.size = k := (by simpa [Value.ownBlock] using h2); omega) (fun i u' hu => by rcases H.out.2.2.2.2 i u' hu with ⟨y, hy, e⟩ | e; (rw [e, ← HF.out.1]; exact HAX.out y hy); exact fun k h1 h2 => by have := e k h1; have := hfw k h2; omega) (fun i u' hu k h1 h2 => by have := hlt3 i u' hu k h1; have h2 : wr.heap.size = k := (by simpa [Value.ownBlock] using h2); omega) HO3.out)
      clear hlt3 hfw
      obtain ⟨A3, c3, hv3, _, _⟩ := own_form HO3.out.own
      subst hv3
      refine hK.out _ _ HB3.out (fun _ => ?_)
      clear hK Kq
      try simp only [Act.put, List.setIfInBounds_toArray, List.set_cons_zero, List.set_cons_succ]
      refine wpAnyH_take (i := 26) (oi := ?oi126) (v := ?v126) ?hi126 (by kernel_rfl) (by kernel_rfl) (by kernel_rfl) ?hQ126 (Or.inl ⟨?hw126, ?hy126⟩) (by assumption) ?rest126
      case hi126 => simp only [List.getElem?_toArray, List.getElem?_cons_succ, List.getElem?_cons_zero]; rfl
      case hQ126 => exact fun _ _ _ h => h
      case hw126 => rfl
      case hy126 => (intro W hW; obtain ⟨q0, q1, q2, q3⟩ := HX.out W hW; go_simp; all_goals rfl)
      simp only [Act.put, List.setIfInBounds_toArray, List.set_cons_zero, List.set_cons_succ]
      refine wpAnyH_done (by kernel_rfl) ?_ _
      go_wp2_with fail
      go_roundw
      case rel =>
        refine ⟨q + 1, (us ++ [.slice D1 mm d1]) ++ [.slice (some ⟨wr.heap.size, 0, none⟩) 3 3], by omega, by go_num, by simp [H.out.2.2.1]; omega, ?_, HB3.out, HV3.out, ?_⟩
        · rw [HSN.out, grpR_snoc, HF.out.2.2.1]
          exact HP.out
        · intro i u hu
          rw [HSN.out]
          rcases Nat.lt_or_ge i us.length with g1 | g1
          · rw [List.append_assoc, List.getElem?_append_left g1] at hu
            rcases H.out.2.2.2.2 i u hu with ⟨y, hy, e⟩ | e
            · exact .inl ⟨y, List.mem_append_left _ hy, e⟩
            · exact .inr e
          · rw [List.append_assoc, List.getElem?_append_right g1] at hu
            rcases hd : i - us.length with _ | _ | d
            · rw [hd] at hu; simp at hu
              exact .inl ⟨(ek, ck, sk), by simp, by rw [HF.out.1]; exact hu.symm⟩
            · rw [hd] at hu; simp at hu
              exact .inr fun k hk => by rw [← hu] at hk; have hk : wr.heap.size = k := (by simpa [Value.ownBlock] using hk); omega
            · rw [hd] at hu; simp at hu
      case measure => simp [intOf]; omega
    · have hqn : q = L.length := by omega
      subst hqn
      obtain ⟨A', c', hv', _, _⟩ := own_form H.out.1.out
      subst hv'
      go_wp2_with fail
      go_ret
      refine ⟨_, us, rfl, ?_, H.out.2.1⟩
      have h := H.out.1
      rw [List.take_length] at h
      exact h
end Go.Proofs.Ytplpaipmkpjgfaa
