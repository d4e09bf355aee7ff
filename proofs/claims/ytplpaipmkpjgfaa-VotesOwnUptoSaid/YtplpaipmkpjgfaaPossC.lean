/- The contract of the program's Possible. -/
import Derived.Test.YtplpaipmkpjgfaaJudgeC
namespace Go.Proofs.Ytplpaipmkpjgfaa
open Go.RowKit
set_option linter.unusedVariables false
set_option linter.unusedSimpArgs false
/-- The shape's box, underway. -/
structure PSt (w wr : World) (k m b : Int) : Prop where
  sh : wr.heap[w.heap.size]? = some (.cells #[.int .i64 k, .int .i64 m, .int .i64 b] 34 (0, 0))
  bel : Below w.heap.size w wr
section
variable {w wr w' : World} {k m b : Int}
theorem PSt.big (H : PSt w wr k m b) : w.heap.size < wr.heap.size := (Array.getElem?_eq_some_iff.1 H.sh).1
theorem PSt.keep (H : PSt w wr k m b) (hb : Below wr.heap.size wr w') : PSt w w' k m b := ⟨(hb.block _ H.big).trans H.sh, H.bel.trans (hb.mono H.bel.size)⟩
theorem PSt.grow (H : PSt w wr k m b) {row : Option Nat} (hg : wr.grownBy w' row) (hr : ∀ j, row = some j → w.heap.size < j) : PSt w w' k m b :=
  ⟨(hg.block _ H.big (fun e => by have := hr _ e.symm; omega)).trans H.sh, H.bel.grown hg H.bel.size fun j hj => by have := hr j hj; omega⟩
theorem PSt.c0 (H : PSt w wr k m b) : wr.cell? ⟨w.heap.size, 0, none⟩ = some (.int .i64 k) := by rw [cell_of_row _ _ _ _ _ _ H.sh]; rfl
theorem PSt.start (w : World) (k m b : Int) : PSt w (w.alloc (.cells #[.int .i64 k, .int .i64 m, .int .i64 b] 34)) k m b := ⟨heap_alloc_new _ _, (Below.refl _ _).alloc (Nat.le_refl _) _⟩
end
/-- The list that is answered, underway. -/
structure OSt (base : Nat) (wr : World) (f : Wr → Value) (v : Value) (o : List Wr) (vl : Value) (L : List Wr) : Prop where
  out : wr.ownsRow base 62 4 v o.length (o.flatMap (encG f))
  off : ∀ x, x ∈ L → Apart v (f x)
  sep : Apart v vl
  mem : ∀ x, x ∈ o → x ∈ L
section
variable {base n : Nat} {wr w' : World} {S : Nat → Sn} {f : Wr → Value} {v v2 vl : Value} {o L : List Wr}
theorem OSt.keep (H : OSt base wr f v o vl L) (b : Below wr.heap.size wr w') : OSt base w' f v o vl L := ⟨own_belowS H.out b, H.off, H.sep, H.mem⟩
theorem apart_off {a b : Value} (h : Apart a b) : b.ownBlock = none ∨ b.ownBlock ≠ a.ownBlock := by
  cases hb : b.ownBlock with
  | none => exact .inl rfl
  | some k => exact .inr fun e => h k e.symm hb
/-- A group more: the list's, and what stays. -/
theorem OSt.more (H : OSt base wr f v o vl L) (G : GL base wr S n f vl L) {x : Wr} (hx : x ∈ L) (hO : OntoN wr w' base 62 4 v v2 (o.length + 1) (o.flatMap (encG f) ++ encG f x)) : OSt base w' f v2 (o ++ [x]) vl L ∧ GL base w' S n f vl L := by
  have ap : ∀ {u : Value} {e size n xs}, wr.ownsRow base e size u n xs → Apart v u → Apart v2 u := fun {u e size n xs} ho ha k hk hu => by
    rcases hO.2.2 k hk with h | h
    · exact ha k h hu
    · have := (ho.lt k hu).2; omega
  refine ⟨⟨?_, fun y hy => ap (G.rows y hy) (H.off y hy), ap G.out H.sep, fun y hy => ?_⟩, ⟨fun y hy => (G.rows y hy).kept hO.2.1 (apart_off (H.off y hy)), G.apart, G.out.kept hO.2.1 (apart_off H.sep), G.off⟩⟩
  · have := hO.1
    rw [List.length_append, List.flatMap_append]
    simpa using this
  · rcases List.mem_append.1 hy with h | h
    · exact H.mem y h
    · simp at h; subst h; exact hx
theorem OSt.gl (H : OSt base wr f v o vl L) (G : GL base wr S n f vl L) : GL base wr S n f v o := ⟨fun x hx => G.rows x (H.mem x hx), fun x y hx hy => G.apart x y (H.mem x hx) (H.mem y hy), H.out, fun x hx => H.off x (H.mem x hx)⟩
end
theorem cell_push {w5 w7 : World} {base e size n p i : Nat} {v v' u : Value} {xs : List Value} (hO : OntoN w5 w7 base e size v v' n xs) (hj : p < w5.heap.size) (hs : v.ownBlock = none ∨ v.ownBlock ≠ some p) (h : w5.cell? ⟨p, i, none⟩ = some u) : w7.cell? ⟨p, i, none⟩ = some u :=
  (World.cell?_of_block (a := ⟨p, i, none⟩) (hO.block hj hs)).trans h
theorem OSt.push {base n : Nat} {w wr w' : World} {S : Nat → Sn} {f : Wr → Value} {v v2 vl : Value} {o L : List Wr} {k m b : Int} {us : List Value} (H : OSt base wr f v o vl L) (G : GL base wr S n f vl L) (J : PSt w wr k m b) (hb : w.heap.size < base) {x : Wr} (hx : x ∈ L) (hu : encG f x = us) (hO : OntoN wr w' base 62 4 v v2 (o.length + 1) (o.flatMap (encG f) ++ us)) :
    OSt base w' f v2 (o ++ [x]) vl L ∧ GL base w' S n f vl L ∧ PSt w w' k m b := by
  subst hu
  have h := H.more G hx hO
  exact ⟨h.1, h.2, J.grow hO.2.1 fun i hi => by have := (H.out.lt i hi).1; omega⟩
theorem cells4_one (a b c : Int) (A : Option Addr) (m d : Nat) : ∀ u ∈ [Value.int .i64 a, .int .i64 b, .int .i64 c, .slice A m d], u.oneCell' = true := by simp [Value.oneCell']
set_option maxRecDepth 20000 in
set_option maxHeartbeats 20000000 in
theorem possible_any (w : World) (Q n c : Nat) (A : Option Addr) (S : Nat → Sn) (hv : View w Q A n S) (hQ : Q ≤ w.heap.size) (hn : n * 120 ≤ 140737488351232) (k m b : Int) :
    Calls Try.prog 21 #[.agg #[.int .i64 k, .int .i64 m, .int .i64 b], .slice A n c] w fun e w' => ∃ v, e = .returned (.tuple #[v, .bool (possP S n k m b).2]) ∧ (∃ f, GL w.heap.size w' S n f v (possP S n k m b).1) ∧ Below w.heap.size w w' := by
  have HH : Hd (View w Q A n S ∧ Q ≤ w.heap.size) := ⟨hv, hQ⟩
  have HJ : Hd (∀ r, r = possP S n k m b → ∀ (e : Ending) (w' : World), (∃ v, e = .returned (.tuple #[v, .bool r.2]) ∧ (∃ f, GL w.heap.size w' S n f v r.1) ∧ Below w.heap.size w w') → ∃ v, e = .returned (.tuple #[v, .bool (possP S n k m b).2]) ∧ (∃ f, GL w.heap.size w' S n f v (possP S n k m b).1) ∧ Below w.heap.size w w') := ⟨fun r h e w' h2 => by subst h; exact h2⟩
  clear hv hQ
  have H1 := Hd.mk (PSt.start w k m b)
  go_enter Try.func21, Try.ntmps21
  go_wp2_with fail
  obtain ⟨w1, hw1⟩ : ∃ w1, w.alloc (.cells #[.int .i64 k, .int .i64 m, .int .i64 b] 34) = w1 := ⟨_, rfl⟩
  rw [hw1] at H1 ⊢
  clear hw1
  refine (fits_any w1 k m b n).mono ?_
  rintro e w2 ⟨rfl, hb2⟩
  have H2 := Hd.mk (H1.out.keep hb2)
  clear H1 hb2
  rcases q : fitsB k m b n with _ | _
  · have HQ : Hd (([], false) = possP S n k m b) := ⟨by unfold possP; rw [if_neg (by rw [q]; decide)]⟩
    clear q
    go_wp2_with fail
    go_ret2
    exact HJ.out _ HQ.out _ _ ⟨_, rfl, ⟨fun _ => .slice none 0 0, GLT.none _ _ _ _ _ _⟩, H2.out.bel⟩
  · have HQ : Hd (fitsB k m b n = true) := ⟨q⟩
    clear q
    go_wp2_with fail
    refine (hidden_any w2 w.heap.size n c A S ((HH.out.1.more HH.out.2).below H2.out.bel) H2.out.bel.size hn).mono ?_
    rintro e w3 ⟨rfl, hb3⟩
    have H3 := Hd.mk (H2.out.keep hb3)
    clear H2 hb3
    have hle := hidN_le S n
    obtain ⟨hd, hhd⟩ : ∃ hd, hidN S n = hd := ⟨_, rfl⟩
    have HHD := Hd.mk hhd
    rw [hhd] at hle
    rw [hhd]
    clear hhd
    go_wp2_with fail
    refine (groups_any w3 Q n c A S (HH.out.1.below (H3.out.bel.mono HH.out.2)) (Nat.le_trans HH.out.2 H3.out.bel.size) hn).mono ?_
    rintro e w4 ⟨v, f, gl, rfl, hO⟩
    have H4 := Hd.mk (And.intro (H3.out.keep (hO.bel)) (hO.gl.low (base' := w.heap.size + 1) (by have := H3.out.big; omega)))
    clear hO H3
    obtain ⟨L, hL⟩ : ∃ L, grpL S n = L := ⟨_, rfl⟩
    have hLn : L.length ≤ n := hL ▸ grpL_le S n
    have HL := Hd.mk hL
    rw [hL] at H4
    clear hL
    obtain ⟨A9, c9, hv9, _, _⟩ := ownN_form H4.out.2.out
    rw [hv9] at H4 ⊢
    clear hv9
    go_wp2_with fail
    go_loopw [7, 20] (fun vo i wr => ∃ j : Nat, j ≤ L.length ∧ i = .int .i64 (j : Int) ∧ ∃ o : List Wr, o.length ≤ j ∧ PSt w wr k m b ∧ GL (w.heap.size + 1) wr S n f (.slice A9 L.length c9) L ∧ OSt (w.heap.size + 1) wr f vo o (.slice A9 L.length c9) L ∧ possW S n k L = (o ++ (possW S n k (L.drop j)).1, (possW S n k (L.drop j)).2)) (fun _ i _ => L.length - (intOf i).toNat)
    case atStart => exact ⟨0, by omega, rfl, [], by simp, H4.out.1, H4.out.2, ⟨World.ownsRow_nil _ _ _ _, fun _ _ => Apart.nil _, Apart.nil _, fun x h => absurd h List.not_mem_nil⟩, rfl⟩
    case round =>
      clear H4
      obtain ⟨j, hj, rfl, o, hoj, h1, h2, h3, h4⟩ := hrel
      have H4 := Hd.mk (And.intro h1 (And.intro h2 (And.intro h3 h4)))
      clear h1 h2 h3 h4
      by_cases hlt : j < L.length
      · have hji : (j : Int) < (L.length : Int) := by omega
        obtain ⟨x, hx⟩ : ∃ x, L.getD j (0, 0, 0) = x := ⟨_, rfl⟩
        have HXM : Hd (x ∈ L) := ⟨hx ▸ getD_mem hlt⟩
        obtain ⟨g, c9', hv, _, hg, hr⟩ := H4.out.2.1.at_ hlt
        rw [hx] at hr
        injection hv with hv1 hv2 hv3
        subst hv1 hv3
        have htd := poss_drop (S := S) (n := n) (k := k) hlt
        rw [hx] at htd
        have HR := Hd.mk hr
        have HT := Hd.mk htd
        clear hx hr htd
        obtain ⟨A1, c1, hf, _, _⟩ := own_form (H4.out.2.1.rows x HXM.out)
        have HF := Hd.mk hf
        clear hf
        obtain ⟨ek, ck, sk⟩ := x
        obtain ⟨mm, hmm⟩ : ∃ mm, (plc S (ek, ck, sk) n).length = mm := ⟨_, rfl⟩
        have hmn : mm ≤ n := hmm ▸ plc_le _ _ _
        rw [hmm] at HF
        have HC : Hd (encG f (ek, ck, sk) = [.int .i64 ek, .int .i64 ck, .int .i64 sk, .slice A1 mm c1]) := ⟨by unfold encG; rw [HF.out]⟩
        rw [HC.out] at HR
        have HN : Hd ((cnt S n (ek, ck, sk) : Int) = (mm : Int)) := ⟨by unfold cnt; rw [hmm]⟩
        rw [HN.out, HHD.out] at HT
        clear hmm
        have h63 : Hd (o.length + 1 ≤ maxLen) := ⟨by unfold maxLen; omega⟩
        have hby : Hd ((o.length + 1) * 48 ≤ 140737488355328) := ⟨by omega⟩
        by_cases hk : k ≤ (mm : Int)
        · have hk2 : k ≤ (mm : Int) + (hd : Int) := by omega
          have HT1 : Hd ((o ++ [(ek, ck, sk)], false) = possW S n k L) := ⟨by rw [H4.out.2.2.2, HT.out, if_pos hk, if_pos hk2]⟩
          clear HT
          go_wp2_with (first
            | (refine at_load ?_; refine wpList_load_mid rfl 62 (.tmp 22) rfl g (j * 4) rfl [.int .i64 ek, .int .i64 ck, .int .i64 sk, .slice A1 mm c1] _ HR.out Try.underlying62 rfl infoG ?_)
            | (refine at_store ?_; refine wpList_boxed rfl 62 (.tmp 9) (.tmp 23) rfl wr.heap.size rfl #[.int .i64 ek, .int .i64 ck, .int .i64 sk, .slice A1 mm c1] rfl rfl infoG rfl (by simp [Value.oneCell']) ?_; intro w5 HW5
               have H5 := Hd.mk (H4.out.1.keep HW5.out.2.1)
               have H6 := Hd.mk (And.intro (H4.out.2.1.keep HW5.out.2.1) (H4.out.2.2.1.keep HW5.out.2.1))
               have s0 := H5.out.c0
               have b0 : w5.cell? ⟨wr.heap.size, 0, none⟩ = some (.int .i64 ek) := by rw [cell_of_row _ _ _ _ _ _ HW5.out.1]; rfl
               have b1 : w5.cell? ⟨wr.heap.size, 1, none⟩ = some (.int .i64 ck) := by rw [cell_of_row _ _ _ _ _ _ HW5.out.1]; rfl
               have b2 : w5.cell? ⟨wr.heap.size, 2, none⟩ = some (.int .i64 sk) := by rw [cell_of_row _ _ _ _ _ _ HW5.out.1]; rfl
               have b3 : w5.cell? ⟨wr.heap.size, 3, none⟩ = some (.slice A1 mm c1) := by rw [cell_of_row _ _ _ _ _ _ HW5.out.1]; rfl)
            | (at_builtin; refine pushN_at0 elG rfl (.tmp 32) (.tmp 34) rfl (w.heap.size + 1) u7 o.length (o.flatMap (encG f)) [.int .i64 ek, .int .i64 ck, .int .i64 sk, .slice A1 mm c1] rfl _ rfl rfl rfl (cells4_one _ _ _ _ _ _) H6.out.2.out h63.out hby.out (by have := H5.out.big; omega) ?_; intro v2 w7 hO2
               have H7 := Hd.mk (H6.out.2.push H6.out.1 H5.out (by omega) HXM.out HC.out hO2)
               have s1 := H7.out.2.2.c0
               have b4 : w7.cell? ⟨wr.heap.size, 3, none⟩ = some (.slice A1 mm c1) := cell_push hO2 (by rw [HW5.out.2.2]; omega) (own_top H4.out.2.2.1.out) b3))
          go_ret2
          exact HJ.out _ (HT1.out.trans (by unfold possP; rw [if_pos HQ.out, HL.out])) _ _ ⟨_, rfl, ⟨f, (H7.out.1.gl H7.out.2.1).low (by omega)⟩, H7.out.2.2.bel⟩
        · by_cases hk2 : k ≤ (mm : Int) + (hd : Int)
          · have HT1 : Hd (possW S n k L = ((o ++ [(ek, ck, sk)]) ++ (possW S n k (L.drop (j + 1))).1, (possW S n k (L.drop (j + 1))).2)) := ⟨by rw [H4.out.2.2.2, HT.out, if_neg hk, if_pos hk2, List.append_assoc]⟩
            clear HT
            go_wp2_with (first
              | (refine at_load ?_; refine wpList_load_mid rfl 62 (.tmp 22) rfl g (j * 4) rfl [.int .i64 ek, .int .i64 ck, .int .i64 sk, .slice A1 mm c1] _ HR.out Try.underlying62 rfl infoG ?_)
              | (refine at_store ?_; refine wpList_boxed rfl 62 (.tmp 9) (.tmp 23) rfl wr.heap.size rfl #[.int .i64 ek, .int .i64 ck, .int .i64 sk, .slice A1 mm c1] rfl rfl infoG rfl (by simp [Value.oneCell']) ?_; intro w5 HW5
                 have H5 := Hd.mk (H4.out.1.keep HW5.out.2.1)
                 have H6 := Hd.mk (And.intro (H4.out.2.1.keep HW5.out.2.1) (H4.out.2.2.1.keep HW5.out.2.1))
                 have s0 := H5.out.c0
                 have b0 : w5.cell? ⟨wr.heap.size, 0, none⟩ = some (.int .i64 ek) := by rw [cell_of_row _ _ _ _ _ _ HW5.out.1]; rfl
                 have b1 : w5.cell? ⟨wr.heap.size, 1, none⟩ = some (.int .i64 ck) := by rw [cell_of_row _ _ _ _ _ _ HW5.out.1]; rfl
                 have b2 : w5.cell? ⟨wr.heap.size, 2, none⟩ = some (.int .i64 sk) := by rw [cell_of_row _ _ _ _ _ _ HW5.out.1]; rfl
                 have b3 : w5.cell? ⟨wr.heap.size, 3, none⟩ = some (.slice A1 mm c1) := by rw [cell_of_row _ _ _ _ _ _ HW5.out.1]; rfl)
              | (at_builtin; refine pushN_at0 elG rfl (.tmp 32) (.tmp 34) rfl (w.heap.size + 1) u7 o.length (o.flatMap (encG f)) [.int .i64 ek, .int .i64 ck, .int .i64 sk, .slice A1 mm c1] rfl _ rfl rfl rfl (cells4_one _ _ _ _ _ _) H6.out.2.out h63.out hby.out (by have := H5.out.big; omega) ?_; intro v2 w7 hO2
                 have H7 := Hd.mk (H6.out.2.push H6.out.1 H5.out (by omega) HXM.out HC.out hO2)
                 have s1 := H7.out.2.2.c0
                 have b4 : w7.cell? ⟨wr.heap.size, 3, none⟩ = some (.slice A1 mm c1) := cell_push hO2 (by rw [HW5.out.2.2]; omega) (own_top H4.out.2.2.1.out) b3))
            go_roundw
            case rel => exact ⟨j + 1, by omega, by go_num, o ++ [(ek, ck, sk)], by simp; omega, H7.out.2.2, H7.out.2.1, H7.out.1, HT1.out⟩
            case measure => simp [intOf]; omega
          · have HT1 : Hd (possW S n k L = (o ++ (possW S n k (L.drop (j + 1))).1, (possW S n k (L.drop (j + 1))).2)) := ⟨by rw [H4.out.2.2.2, HT.out, if_neg hk, if_neg hk2, List.nil_append]⟩
            clear HT
            go_wp2_with (first
              | (refine at_load ?_; refine wpList_load_mid rfl 62 (.tmp 22) rfl g (j * 4) rfl [.int .i64 ek, .int .i64 ck, .int .i64 sk, .slice A1 mm c1] _ HR.out Try.underlying62 rfl infoG ?_)
              | (refine at_store ?_; refine wpList_boxed rfl 62 (.tmp 9) (.tmp 23) rfl wr.heap.size rfl #[.int .i64 ek, .int .i64 ck, .int .i64 sk, .slice A1 mm c1] rfl rfl infoG rfl (by simp [Value.oneCell']) ?_; intro w5 HW5
                 have H5 := Hd.mk (H4.out.1.keep HW5.out.2.1)
                 have H6 := Hd.mk (And.intro (H4.out.2.1.keep HW5.out.2.1) (H4.out.2.2.1.keep HW5.out.2.1))
                 have s0 := H5.out.c0
                 have b0 : w5.cell? ⟨wr.heap.size, 0, none⟩ = some (.int .i64 ek) := by rw [cell_of_row _ _ _ _ _ _ HW5.out.1]; rfl
                 have b1 : w5.cell? ⟨wr.heap.size, 1, none⟩ = some (.int .i64 ck) := by rw [cell_of_row _ _ _ _ _ _ HW5.out.1]; rfl
                 have b2 : w5.cell? ⟨wr.heap.size, 2, none⟩ = some (.int .i64 sk) := by rw [cell_of_row _ _ _ _ _ _ HW5.out.1]; rfl
                 have b3 : w5.cell? ⟨wr.heap.size, 3, none⟩ = some (.slice A1 mm c1) := by rw [cell_of_row _ _ _ _ _ _ HW5.out.1]; rfl))
            go_roundw
            case rel => exact ⟨j + 1, by omega, by go_num, o, by omega, H5.out, H4.out.2.1.keep HW5.out.2.1, H4.out.2.2.1.keep HW5.out.2.1, HT1.out⟩
            case measure => simp [intOf]; omega
      · have hjn : j = L.length := by omega
        subst hjn
        have HT1 : Hd ((o, true) = possW S n k L) := ⟨by rw [H4.out.2.2.2, List.drop_length]; show _ = (o ++ [], true); rw [List.append_nil]⟩
        go_wp2_with fail
        go_ret2
        exact HJ.out _ (HT1.out.trans (by unfold possP; rw [if_pos HQ.out, HL.out])) _ _ ⟨_, rfl, ⟨f, (H4.out.2.2.1.gl H4.out.2.1).low (by omega)⟩, H4.out.1.bel⟩
end Go.Proofs.Ytplpaipmkpjgfaa
