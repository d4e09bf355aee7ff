/- The walk of HealthStays: it returns true for every input. -/
import Derived.Test.YtknpcbekaodlkaaScores
import Derived.Test.YtknpcbekaodlkaaArgTold
namespace Go.Proofs.Ytknpcbekaodlkaa
open Go.RowKit
set_option linter.unusedVariables false
theorem law_set {K : Nat} {ss : List Nat} (L : Law K ss) (i v : Nat) (hv : v ≤ one32) : Law K (ss.set i v) :=
  ⟨L.k0, L.k1, fun s hs => by rcases List.mem_or_eq_of_mem_set hs with h | h; exact L.sc s h; rw [h]; exact hv⟩
theorem own_other {w w' : World} {base e n k : Nat} {v : Value} {xs : List Value} (h : w.ownsRow base e 1 v n xs) (hg : w.grownBy w' (some k)) (hk : k < base) : w'.ownsRow base e 1 v n xs :=
  h.kept hg (by
    cases hv : v.ownBlock with
    | none => exact .inl rfl
    | some q => exact .inr fun he => absurd (h.lt q hv).1 (by have e : q = k := (by simpa using he); omega))
theorem own_drewN {w : World} {base e n : Nat} {v : Value} {xs : List Value} (h : w.ownsRow base e 1 v n xs) (k : Nat) : (w.drewN k).ownsRow base e 1 v n xs := h
theorem set_getD (ss : List Nat) (i j v : Nat) (h : i < ss.length) : (ss.set i v).getD j 0 = if j = i then v else ss.getD j 0 := by
  rw [List.getD_eq_getElem?_getD, List.getD_eq_getElem?_getD, List.getElem?_set]
  by_cases e : i = j
  · subst e; rw [if_pos rfl, if_pos h, if_pos rfl]; rfl
  · rw [if_neg e, if_neg (fun h => e h.symm)]
theorem f64_lt {a b : Nat} (ha : a < inf64) (hb : b < inf64) : FloatKind.f64.format.order a b = some (if a < b then .lt else if a = b then .eq else .gt) := order_pos ha hb
/-- What the law asks of one score behind a telling. -/
theorem stays_facts {K s : Nat} (hK : K ≤ one32) (hs : s ≤ one32) (good : Bool) :
    (FloatKind.f64.format.order (up (tellT K s good)) 0 == some .gt || FloatKind.f64.format.order (up (tellT K s good)) 0 == some .eq) = true ∧
    (FloatKind.f64.format.order (up (tellT K s good)) 4607182418800017408 == some .lt || FloatKind.f64.format.order (up (tellT K s good)) 4607182418800017408 == some .eq) = true ∧
    (good = true → (FloatKind.f64.format.order (up (tellT K s good)) (up s) == some .lt) = false) ∧ (good = false → (FloatKind.f64.format.order (up (tellT K s good)) (up s) == some .gt) = false) := by
  have ht := tellT_one hK hs good
  have hu := up_le_one ht
  have hi : one64 < inf64 := by decide
  have hx : up (tellT K s good) < inf64 := Nat.lt_of_le_of_lt hu hi
  have hy : up s < inf64 := Nat.lt_of_le_of_lt (up_le_one hs) hi
  refine ⟨?_, ?_, ?_, ?_⟩
  · rw [f64_lt hx (by decide), if_neg (by omega)]
    by_cases h0 : up (tellT K s good) = 0
    · rw [if_pos h0]; rfl
    · rw [if_neg h0]; rfl
  · rw [order_one hx]
    by_cases h0 : up (tellT K s good) < one64
    · rw [if_pos h0]; rfl
    · rw [if_neg h0, if_pos (by omega)]; rfl
  · intro hg
    subst hg
    have := (up_le_iff _ _).2 (good_all hK hs).1
    rw [f64_lt hx hy, if_neg (by omega)]
    split <;> rfl
  · intro hg
    subst hg
    have := (up_le_iff _ _).2 (bad_low (S := s) hK)
    rw [f64_lt hx hy]
    by_cases h0 : up (tellT K s false) < up s
    · rw [if_pos h0]; rfl
    · rw [if_neg h0, if_pos (by omega)]; rfl
set_option maxRecDepth 20000 in
set_option maxHeartbeats 2000000 in
theorem stays_walk0 (n : Int) (x : Nat) (A : Option Addr) (m c : Nat) (T : Nat → Bool × Int × Int × Bool) (w : World) (hT : Tolds w A m T) (hm : m * 32 ≤ 140737488351232) :
    Calls Try.prog 10 #[.int .i64 n, .float .f64 x, .slice A m c] w fun e w' => e = .returned (.bool true) ∧ Below w.heap.size w w' := by
  have HB := Hd.mk (wrap64_bd (n - 1))
  have HN : Hd ((1 : Int) + ((pickP (wrap64 (n - 1)) 255 : Nat) : Int) = ((placesN n : Nat) : Int)) := ⟨by unfold placesN; omega⟩
  have hp := pickP_lt (wrap64 (n - 1)) 255 (by decide)
  have HT := Hd.mk hT
  have HL := Hd.mk (placesN_le n)
  have hm2 : m ≤ 4398046510976 := by omega
  clear hT hm
  go_enter Try.func10, Try.ntmps10
  go_wp2_with fail
  refine (awake_any w).mono ?_
  rintro e w1 ⟨rfl, hb1⟩
  have H1 := Hd.mk hb1
  clear hb1
  go_wp2_with fail
  refine (board_any w1 n x).mono ?_
  rintro e w2 ⟨b, h, cap, K, rfl, hK0, hK1, hBr, hb2⟩
  have H2 : Hd (0 < K ∧ K < one32 ∧ Brd w2 w.heap.size b h cap K (List.replicate (placesN n) one32) ∧ Below w.heap.size w w2) := ⟨hK0, hK1, ⟨Nat.le_trans H1.out.size hBr.hB, hBr.ne, hBr.blk, own_more hBr.row H1.out.size⟩, H1.out.trans (hb2.mono H1.out.size)⟩
  clear hK0 hK1 hBr hb2
  go_wp2_with fail
  refine (pick_any _ _ 255 (by decide) (by decide) HB.out.1 HB.out.2).mono ?_
  rintro e w3 ⟨rfl, rfl⟩
  obtain ⟨q, hq⟩ : ∃ q, placesN n = q := ⟨_, rfl⟩
  have hpq := HN.out
  obtain ⟨pp, hpp⟩ : ∃ pp, pickP (wrap64 (n - 1)) 255 = pp := ⟨_, rfl⟩
  rw [hpp] at hpq hp ⊢
  rw [hq] at H2 HL hpq
  have hq1 := HL.out.1
  have hq2 := HL.out.2
  clear hq hpp HN HB
  go_wp2_with fail
  clear hpq hp
  have L0 := Hd.mk (law_start H2.out.1 H2.out.2.1 q)
  have hS := scores_any w2 w.heap.size b h cap K (List.replicate q one32) H2.out.2.2.1 L0.out (by rw [List.length_replicate]; exact hq1) (by rw [List.length_replicate]; exact hq2)
  rw [List.length_replicate] at hS
  refine hS.mono ?_
  clear hS
  rintro e w3 ⟨g, cg, rfl, ho, hb3⟩
  have H3 : Hd (w3.ownsRow w2.heap.size 24 1 (.slice (some ⟨g, 0, none⟩) q cg) q (fv (ups (List.replicate q one32))) ∧ Brd w3 w.heap.size b h cap K (List.replicate q one32) ∧ Below w.heap.size w w3) := ⟨ho, H2.out.2.2.1.keep hb3, H2.out.2.2.2.trans (hb3.mono H2.out.2.2.2.size)⟩
  clear ho hb3
  go_wp2_with fail
  go_loopw [8, 9, 10, 11, 12] (fun s i u10 u11 u12 wr => ∃ (k : Nat) (ss : List Nat) (base g c : Nat), k ≤ m ∧ i = .int .i64 (k : Int) ∧ s = .slice (some ⟨g, 0, none⟩) q c ∧ ss.length = q ∧ Law K ss ∧ h < base ∧ wr.ownsRow base 24 1 s q (fv (ups ss)) ∧ Brd wr w.heap.size b h cap K ss ∧ Below w.heap.size w wr) (fun _ i _ _ _ _ => m - (intOf i).toNat)
  case atStart => exact ⟨0, List.replicate q one32, w2.heap.size, g, cg, by omega, rfl, rfl, List.length_replicate, L0.out, H2.out.2.2.1.lt.2.1, H3.out.1, H3.out.2.1, H3.out.2.2⟩
  case round =>
    obtain ⟨k, ss, base, g1, c1, hk, rfl, rfl, hlen, hLaw, hbase, hown, hBr, hbel⟩ := hrel
    have H4 := Hd.mk (And.intro hlen (And.intro hLaw (And.intro hbase (And.intro hown (And.intro hBr hbel)))))
    clear hlen hLaw hbase hown hBr hbel
    obtain ⟨wo, hwo⟩ : ∃ wo : World, wo = wr := ⟨_, rfl⟩
    rw [← hwo] at H4 ⊢
    clear hwo
    by_cases hkm : k < m
    · have hki : (k : Int) < (m : Int) := by omega
      obtain ⟨gT, oT, rfl, _, c0, c1', c2, c3, _, j2⟩ := (HT.out.below H4.out.2.2.2.2.2) k hkm
      obtain ⟨P, hP⟩ : ∃ P, (T k).2.2.1 = P := ⟨_, rfl⟩
      obtain ⟨G, hG⟩ : ∃ G, (T k).2.2.2 = G := ⟨_, rfl⟩
      rw [hP] at c2 j2
      rw [hG] at c3
      have HC := Hd.mk (And.intro c0 (And.intro c1' (And.intro c2 c3)))
      have hj1 := j2.1
      have hj2 := j2.2
      clear c0 c1' hP hG j2
      go_wp2_with fail
      refine (pick_any _ P q hq1 (by omega) hj1 hj2).mono ?_
      rintro e w4 ⟨rfl, rfl⟩
      have ha := pickP_lt P q hq1
      obtain ⟨a, haa⟩ : ∃ a, pickP P q = a := ⟨_, rfl⟩
      rw [haa] at ha ⊢
      clear haa hj1 hj2
      have c3 := HC.out.2.2.2
      go_wp2_with fail
      clear c3
      refine (tell_in wo w.heap.size b h cap K ss H4.out.2.2.2.2.1 H4.out.2.1 a (by rw [H4.out.1]; exact ha) G).mono ?_
      rintro e w5 ⟨rfl, hB5, hg5⟩
      have hSa : ss.getD a 0 ≤ one32 := law_get H4.out.2.1 a
      have hF := stays_facts (Nat.le_of_lt H4.out.2.1.k1) hSa G
      have hv1 := tellT_one (Nat.le_of_lt H4.out.2.1.k1) hSa G
      obtain ⟨v, hv⟩ : ∃ v, tellT K (ss.getD a 0) G = v := ⟨_, rfl⟩
      rw [hv] at hB5 hF hv1
      have hbl5 : Below w.heap.size w w5 := H4.out.2.2.2.2.2.grown hg5 H4.out.2.2.2.2.2.size (fun k hk => by cases hk; exact H4.out.2.2.2.2.1.lt.2.2)
      have H5 : Hd (Brd w5 w.heap.size b h cap K (ss.set a v) ∧ Law K (ss.set a v) ∧ w5.ownsRow base 24 1 (.slice (some ⟨g1, 0, none⟩) q c1) q (fv (ups ss)) ∧ Below w.heap.size w w5 ∧ (ss.set a v).length = q) :=
        ⟨hB5, law_set H4.out.2.1 a v hv1, own_other H4.out.2.2.2.1 hg5 H4.out.2.2.1, hbl5, by rw [List.length_set]; exact H4.out.1⟩
      have HF := Hd.mk hF
      clear hB5 hg5 hF hv1 hv hbl5 hSa
      go_wp2_with fail
      have hS := scores_any w5 w.heap.size b h cap K (ss.set a v) H5.out.1 H5.out.2.1 (by rw [H5.out.2.2.2.2]; exact hq1) (by rw [H5.out.2.2.2.2]; exact hq2)
      rw [H5.out.2.2.2.2] at hS
      refine hS.mono ?_
      clear hS
      rintro e w6 ⟨g6, c6, rfl, ho6, hb6⟩
      have H6 : Hd (w6.ownsRow w5.heap.size 24 1 (.slice (some ⟨g6, 0, none⟩) q c6) q (fv (ups (ss.set a v))) ∧ w6.ownsRow base 24 1 (.slice (some ⟨g1, 0, none⟩) q c1) q (fv (ups ss)) ∧ Brd w6 w.heap.size b h cap K (ss.set a v) ∧ Below w.heap.size w w6) :=
        ⟨ho6, own_belowH H5.out.2.2.1 hb6, H5.out.1.keep hb6, H5.out.2.2.2.1.trans (hb6.mono H5.out.2.2.2.1.size)⟩
      clear ho6 hb6
      have HCL : Hd (∀ wi : World, Below w6.heap.size w6 wi → ∀ d : Nat, d < q → wi.cell? ⟨g6, d, none⟩ = some (.float .f64 (up ((ss.set a v).getD d 0))) ∧ wi.cell? ⟨g1, d, none⟩ = some (.float .f64 (up (ss.getD d 0)))) := ⟨fun wi hbi d hd => by
        have l6 := (H6.out.1.lt g6 rfl).2
        have l1 := (H6.out.2.1.lt g1 rfl).2
        constructor
        · rw [hbi.cell (p := ⟨g6, d, none⟩) l6, H6.out.1.cellAt d (by omega), fv_get _ _ (by rw [ups_len, H5.out.2.2.2.2]; exact hd), ups_get _ _ (by rw [H5.out.2.2.2.2]; exact hd)]
        · rw [hbi.cell (p := ⟨g1, d, none⟩) l1, H6.out.2.1.cellAt d (by omega), fv_get _ _ (by rw [ups_len, H4.out.1]; exact hd), ups_get _ _ (by rw [H4.out.1]; exact hd)]⟩
      go_wp2_with fail
      go_loopw [12] (fun j wi => ∃ d : Nat, d ≤ q ∧ j = .int .i64 (d : Int) ∧ Below w6.heap.size w6 wi) (fun j _ => q - (intOf j).toNat)
      case atStart => exact ⟨0, by omega, rfl, Below.refl _ _⟩
      case round =>
        obtain ⟨d, hd, rfl, hbi⟩ := hrel
        have HI := Hd.mk hbi
        clear hbi
        by_cases hdq : d < q
        · have hdi : (d : Int) < (q : Int) := by omega
          obtain ⟨n1, n2⟩ := HCL.out wr HI.out d hdq
          by_cases hda : d = a
          · have hg : ((d : Int) != (a : Int)) = false := by simp [hda]
            clear hda n1 n2
            go_wp2_with fail
            go_quiet (fail)
            go_wp2_with fail
            go_roundw
            case rel => exact ⟨d + 1, by omega, by go_num, below_drewN HI.out _⟩
            case measure => simp [intOf]; omega
          · have hg : ((d : Int) != (a : Int)) = true := by simp; omega
            rw [set_getD ss a d v (by rw [H4.out.1]; exact ha), if_neg hda] at n1
            have hx : up (ss.getD d 0) < inf64 := Nat.lt_of_le_of_lt (up_le_one (law_get H4.out.2.1 d)) (by decide)
            have hq : (FloatKind.f64.format.order (up (ss.getD d 0)) (up (ss.getD d 0)) != some .eq) = false := by rw [f64_lt hx hx, if_neg (Nat.lt_irrefl _), if_pos rfl]; rfl
            generalize up (ss.getD d 0) = x at n1 n2 hq
            clear hda hx
            go_wp2_with fail
            go_quiet (fail)
            go_wp2_with fail
            go_roundw
            case rel => exact ⟨d + 1, by omega, by go_num, below_drewN HI.out _⟩
            case measure => simp [intOf]; omega
        · have hai : (a : Int) < (q : Int) := by omega
          obtain ⟨n1, n2⟩ := HCL.out wr HI.out a ha
          rw [set_getD ss a a v (by rw [H4.out.1]; exact ha), if_pos rfl] at n1
          obtain ⟨f1, f2, f3, f4⟩ := HF.out
          have hbw : Below w.heap.size w wr := H6.out.2.2.2.trans (HI.out.mono H6.out.2.2.2.size)
          obtain ⟨gT', oT', heq, _, _, _, _, c3, _, _⟩ := (HT.out.below hbw) k hkm
          injection heq with heq
          injection heq with e1 e2
          subst e1 e2
          have hGG : (T k).2.2.2 = G := by
            have h1 := HC.out.2.2.2
            obtain ⟨g2, o2, he2, _, _, _, _, c3', _, _⟩ := (HT.out.below H4.out.2.2.2.2.2) k hkm
            injection he2 with he2
            injection he2 with e1 e2
            subst e1 e2
            rw [h1] at c3'
            injection c3' with c3'
            injection c3' with c3'
            exact c3'.symm
          rw [hGG] at c3
          have HW := Hd.mk hbw
          generalize up v = y at n1 f1 f2 f3 f4
          generalize up (ss.getD a 0) = x at n2 f3 f4
          clear hGG hbw
          rcases G with _ | _
          · have f5 := f4 rfl
            clear f3 f4
            go_wp2_with fail
            go_quiet (fail)
            go_wp2_with fail
            go_roundw
            case rel => exact ⟨k + 1, ss.set a v, w5.heap.size, g6, c6, by omega, by go_num, rfl, H5.out.2.2.2.2, H5.out.2.1, H5.out.1.lt.2.1, own_drewN (own_belowH H6.out.1 HI.out) _, (H6.out.2.2.1.keep HI.out).drew _, below_drewN HW.out _⟩
            case measure => simp [intOf]; omega
          · have f5 := f3 rfl
            clear f3 f4
            go_wp2_with fail
            go_quiet (fail)
            go_wp2_with fail
            go_roundw
            case rel => exact ⟨k + 1, ss.set a v, w5.heap.size, g6, c6, by omega, by go_num, rfl, H5.out.2.2.2.2, H5.out.2.1, H5.out.1.lt.2.1, own_drewN (own_belowH H6.out.1 HI.out) _, (H6.out.2.2.1.keep HI.out).drew _, below_drewN HW.out _⟩
            case measure => simp [intOf]; omega
    · go_wp2_with fail
      go_ret
      exact ⟨by simp, H4.out.2.2.2.2.2⟩
theorem stays_walk (n : Int) (x : Nat) (A : Option Addr) (m c : Nat) (T : Nat → Bool × Int × Int × Bool) (w : World) (hn : (Lit.int .i64 n).wf = true) (hx : (Lit.float .f64 x).wf = true) (hT : Tolds w A m T) (hm : m * 32 ≤ 140737488351232) :
    Calls Try.prog 10 #[.int .i64 n, .float .f64 x, .slice A m c] w fun e w' => e = .returned (.bool true) ∧ Below w.heap.size w w' := stays_walk0 n x A m c T w hT hm
end Go.Proofs.Ytknpcbekaodlkaa
