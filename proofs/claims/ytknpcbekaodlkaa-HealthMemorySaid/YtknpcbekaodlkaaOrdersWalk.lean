/- The walk of HealthOrders: it returns true for every input. -/
import Derived.Test.YtknpcbekaodlkaaStaysWalk
namespace Go.Proofs.Ytknpcbekaodlkaa
open Go.RowKit
set_option linter.unusedVariables false
theorem infoBo : (Try.prog.info? 4).map (fun i => (i.zero, i.size, i.bytes)) = some (some (.bool false), 1, 1) := by kernel_rfl
theorem orderP_lt (ss : List Nat) (k : Nat) (h : k < ss.length) : (orderP ss).getD k 0 < ss.length := by
  have hk : k < (orderP ss).length := by rw [orderP_len]; exact h
  rw [List.getD_eq_getElem?_getD, List.getElem?_eq_getElem hk]
  exact List.mem_range.1 ((orderP_perm ss).mem_iff.1 (List.getElem_mem hk))
theorem orderP_nodup (ss : List Nat) : (orderP ss).Nodup := (orderP_perm ss).nodup_iff.2 List.nodup_range
theorem orderP_next (ss : List Nat) (k : Nat) (h : k + 1 < ss.length) : leO ss ((orderP ss).getD k 0) ((orderP ss).getD (k + 1) 0) = true := by
  have hk : k + 1 < (orderP ss).length := by rw [orderP_len]; exact h
  have := List.pairwise_iff_getElem.1 (orderP_sorted ss) k (k + 1) (by omega) hk (by omega)
  rwa [List.getD_eq_getElem?_getD, List.getElem?_eq_getElem (by omega), List.getD_eq_getElem?_getD, List.getElem?_eq_getElem hk]
/-- Which places were met. -/
def metP (O : List Nat) (k q : Nat) : Bool := (O.take k).contains q
theorem metP_new {O : List Nat} (hn : O.Nodup) {k : Nat} (h : k < O.length) : metP O k (O.getD k 0) = false := by
  unfold metP
  rw [List.getD_eq_getElem?_getD, List.getElem?_eq_getElem h, Option.getD_some]
  rcases hc : (O.take k).contains O[k] with _ | _
  · rfl
  · exfalso
    obtain ⟨j, hj, he⟩ := List.getElem_of_mem (List.contains_iff_mem.1 hc)
    rw [List.length_take] at hj
    rw [List.getElem_take] at he
    exact List.pairwise_iff_getElem.1 hn j k (by omega) h (by omega) he
theorem metP_next {O : List Nat} {k : Nat} (h : k < O.length) (q : Nat) : metP O (k + 1) q = if q = O.getD k 0 then true else metP O k q := by
  unfold metP
  rw [List.take_succ_eq_append_getElem h, List.getD_eq_getElem?_getD, List.getElem?_eq_getElem h, Option.getD_some]
  generalize O.take k = L
  by_cases e : q = O[k]
  · rw [if_pos e]; simp [e]
  · rw [if_neg e]; simp [e]
set_option maxRecDepth 20000 in
set_option maxHeartbeats 2000000 in
theorem orders_walk0 (n : Int) (x : Nat) (A : Option Addr) (m c : Nat) (T : Nat → Bool × Int × Int × Bool) (w : World) (hT : Tolds w A m T) (hm : m * 32 ≤ 140737488351232) :
    Calls Try.prog 11 #[.int .i64 n, .float .f64 x, .slice A m c] w fun e w' => e = .returned (.bool true) ∧ Below w.heap.size w w' := by
  have HB := Hd.mk (wrap64_bd (n - 1))
  have HN : Hd ((1 : Int) + ((pickP (wrap64 (n - 1)) 255 : Nat) : Int) = ((placesN n : Nat) : Int)) := ⟨by unfold placesN; omega⟩
  have hp := pickP_lt (wrap64 (n - 1)) 255 (by decide)
  have HT := Hd.mk hT
  have HL := Hd.mk (placesN_le n)
  have hm2 : m ≤ 4398046510976 := by omega
  clear hT hm
  go_enter Try.func11, Try.ntmps11
  go_wp2_with fail
  refine (awake_any w).mono ?_
  rintro e w1 ⟨rfl, hb1⟩
  have H1 := Hd.mk hb1
  clear hb1
  go_wp2_with fail
  refine (board_any w1 n x).mono ?_
  rintro e w2 ⟨b, h, cap, K, rfl, hK0, hK1, hBr, hb2⟩
  have H2 : Hd (0 < K ∧ K < one32 ∧ Brd w2 w.heap.size b h cap K (List.replicate (placesN n) one32) ∧ Below w.heap.size w w2) := ⟨hK0, hK1, ⟨Nat.le_trans H1.out.size hBr.hB, hBr.ne, hBr.blk, own_more hBr.row H1.out.size⟩, H1.out.trans (hb2.mono H1.out.size)⟩
  clear hK0 hK1 hBr hb2
  go_wp2_with fail
  refine (pick_any _ _ 255 (by decide) (by decide) HB.out.1 HB.out.2).mono ?_
  rintro e w3 ⟨rfl, rfl⟩
  obtain ⟨q, hq⟩ : ∃ q, placesN n = q := ⟨_, rfl⟩
  have hpq := HN.out
  obtain ⟨pp, hpp⟩ : ∃ pp, pickP (wrap64 (n - 1)) 255 = pp := ⟨_, rfl⟩
  rw [hpp] at hpq hp ⊢
  rw [hq] at H2 HL hpq
  have hq1 := HL.out.1
  have hq2 := HL.out.2
  have L0 := Hd.mk (law_start H2.out.1 H2.out.2.1 q)
  clear hq hpp HN HB
  go_wp2_with fail
  clear hpq hp
  go_loopw [8] (fun i wr => ∃ (k : Nat) (ss : List Nat), k ≤ m ∧ i = .int .i64 (k : Int) ∧ ss.length = q ∧ Law K ss ∧ Brd wr w.heap.size b h cap K ss ∧ Below w.heap.size w wr) (fun i _ => m - (intOf i).toNat)
  case atStart => exact ⟨0, List.replicate q one32, by omega, rfl, List.length_replicate, L0.out, H2.out.2.2.1, H2.out.2.2.2⟩
  case round =>
    obtain ⟨k, ss, hk, rfl, hlen, hLaw, hBr, hbel⟩ := hrel
    have H4 := Hd.mk (And.intro hlen (And.intro hLaw (And.intro hBr hbel)))
    clear hlen hLaw hBr hbel
    obtain ⟨wo, hwo⟩ : ∃ wo : World, wo = wr := ⟨_, rfl⟩
    rw [← hwo] at H4 ⊢
    clear hwo
    by_cases hkm : k < m
    · have hki : (k : Int) < (m : Int) := by omega
      obtain ⟨gT, oT, rfl, _, c0, c1', c2, c3, _, j2⟩ := (HT.out.below H4.out.2.2.2) k hkm
      obtain ⟨P, hP⟩ : ∃ P, (T k).2.2.1 = P := ⟨_, rfl⟩
      obtain ⟨G, hG⟩ : ∃ G, (T k).2.2.2 = G := ⟨_, rfl⟩
      rw [hP] at c2 j2
      rw [hG] at c3
      have ha := pickP_lt P q hq1
      have HC : Hd (Calls Try.prog 24 #[.int .i64 P, .int .i64 (q : Int)] wo.drew fun e w' => e = .returned (.int .i64 ((pickP P q : Nat) : Int)) ∧ w' = wo.drew) :=
        ⟨(pick_any _ P q hq1 (by omega) j2.1 j2.2).mono fun _ _ ⟨h1, h2⟩ => ⟨h1, h2.symm⟩⟩
      obtain ⟨a, haa⟩ : ∃ a, pickP P q = a := ⟨_, rfl⟩
      rw [haa] at ha HC
      clear haa j2 c0 c1' hP hG
      go_wp2_with fail
      refine wp_region_still_tail 13 (by kernel_rfl) (by kernel_rfl) ?_
      simp only [List.take_succ_cons, List.take_zero, List.drop_succ_cons, List.drop_zero]
      repeat still_step
      still_call HC.out
      repeat still_step
      refine wpStill_nil ?_
      change wpList _ _ _ _ _ wo.drew
      go_wp2_with fail
      refine (tell_in wo.drew w.heap.size b h cap K ss (H4.out.2.2.1.drew 1) H4.out.2.1 a (by rw [H4.out.1]; exact ha) G).mono ?_
      rintro e w5 ⟨rfl, hB5, hg5⟩
      have H5 : Hd (Brd w5 w.heap.size b h cap K (ss.set a (tellT K (ss.getD a 0) G)) ∧ Law K (ss.set a (tellT K (ss.getD a 0) G)) ∧ Below w.heap.size w w5 ∧ (ss.set a (tellT K (ss.getD a 0) G)).length = q) :=
        ⟨hB5, law_set H4.out.2.1 a _ (tellT_one (Nat.le_of_lt H4.out.2.1.k1) (law_get H4.out.2.1 a) G), H4.out.2.2.2.drew.grown hg5 H4.out.2.2.2.size (fun k hk => by cases hk; exact H4.out.2.2.1.lt.2.2), by rw [List.length_set]; exact H4.out.1⟩
      clear hB5 hg5
      go_wp2_with fail
      go_roundw
      case rel => exact ⟨k + 1, _, by omega, by go_num, H5.out.2.2.2, H5.out.2.1, H5.out.1, H5.out.2.2.1⟩
      case measure => simp [intOf]; omega
    · go_wp2_with fail
      have hO := order_any wo w.heap.size b h cap K ss H4.out.2.2.1 H4.out.2.1.sc (by rw [H4.out.1]; omega) (by rw [H4.out.1]; exact hq2)
      rw [H4.out.1] at hO
      refine hO.mono ?_
      clear hO
      rintro e w5 ⟨g, rfl, ho, hb5, hg5⟩
      have H5 : Hd (w5.ownsRow wo.heap.size 3 1 (.slice (some ⟨g, 0, none⟩) q q) q (iv (orderP ss)) ∧ Brd w5 w.heap.size b h cap K ss ∧ Below w.heap.size w w5) := ⟨ho, H4.out.2.2.1.keep hb5, H4.out.2.2.2.trans (hb5.mono H4.out.2.2.2.size)⟩
      clear ho hb5 hg5
      have hmk := fun W => run_make_row' (P := Try.prog) 79 4 (.bool false) 1 Try.underlying79 infoBo rfl .i64 .i64 q (by omega) (by omega) W
      go_wp2_with fail
      obtain ⟨S, hS⟩ : ∃ S, w5.heap.size = S := ⟨_, rfl⟩
      have H6 : Hd ((w5.alloc (.cells (madeCells #[.bool false] q) 4)).rowIs S 4 q (fun j => .bool (metP (orderP ss) 0 j)) ∧ Below w5.heap.size w5 (w5.alloc (.cells (madeCells #[.bool false] q) 4))) := ⟨by rw [← hS]; exact World.rowIs_made w5 (.bool false) q 4, (Below.refl _ _).alloc (Nat.le_refl _) _⟩
      rw [hS]
      obtain ⟨W6, hW6⟩ : ∃ W6, w5.alloc (.cells (madeCells #[.bool false] q) 4) = W6 := ⟨_, rfl⟩
      rw [hW6] at H6 ⊢
      have HS := Hd.mk hS
      clear hW6 hS hmk
      obtain ⟨O, hO⟩ : ∃ O, orderP ss = O := ⟨_, rfl⟩
      have HO : Hd ((∀ k, k < q → O.getD k 0 < q) ∧ (∀ k, k < q → metP O k (O.getD k 0) = false) ∧ (∀ k, k + 1 < q → leO ss (O.getD k 0) (O.getD (k + 1) 0) = true) ∧ O.length = q) := ⟨by
        rw [← hO, ← H4.out.1]
        exact ⟨orderP_lt ss, fun k hk => metP_new (orderP_nodup ss) (by rw [orderP_len]; exact hk), orderP_next ss, orderP_len ss⟩⟩
      rw [hO] at H5 H6
      clear hO
      go_loopw [11, 12, 13, 14, 15] (fun i u12 u13 u14 u15 wr => ∃ k : Nat, k ≤ q ∧ i = .int .i64 (k : Int) ∧ wr.rowIs S 4 q (fun j => .bool (metP O k j)) ∧ Below w5.heap.size w5 wr) (fun i _ _ _ _ _ => q - (intOf i).toNat)
      case atStart => exact ⟨0, by omega, rfl, H6.out.1, H6.out.2⟩
      case round =>
        obtain ⟨k, hk, rfl, hrow, hbl⟩ := hrel
        have H7 := Hd.mk (And.intro hrow hbl)
        clear hrow hbl
        by_cases hkq : k < q
        · have hki : (k : Int) < (q : Int) := by omega
          have hgl := (H5.out.1.lt g rfl).2
          have HCL : Hd (∀ wi : World, Below w5.heap.size w5 wi → ∀ d : Nat, d < q → wi.cell? ⟨g, d, none⟩ = some (.int .i64 ((O.getD d 0 : Nat) : Int))) := ⟨fun wi hbi d hd => by
            rw [hbi.cell (p := ⟨g, d, none⟩) hgl, H5.out.1.cellAt d (by omega), iv_get _ _ (by rw [HO.out.2.2.2]; exact hd)]⟩
          have n1 := HCL.out wr H7.out.2 k hkq
          have hd := HO.out.1 k hkq
          have n2 := H7.out.1.cell hd
          rw [HO.out.2.1 k hkq] at n2
          have hfz := H7.out.1.frozen (O.getD k 0)
          have HN := Hd.mk (metP_next (O := O) (k := k) (by rw [HO.out.2.2.2]; exact hkq))
          have HL2 : Hd (0 < k → leO ss (O.getD (k - 1) 0) (O.getD k 0) = true ∧ O.getD (k - 1) 0 < q) := ⟨fun h0 => by
            have := HO.out.2.2.1 (k - 1) (by omega)
            rw [show k - 1 + 1 = k by omega] at this
            exact ⟨this, HO.out.1 (k - 1) (by omega)⟩⟩
          obtain ⟨d, hdd⟩ : ∃ d, O.getD k 0 = d := ⟨_, rfl⟩
          rw [hdd] at n1 n2 hfz hd HN HL2
          have hdi : (d : Int) < (q : Int) := by omega
          have hd0 : ¬ (d : Int) < 0 := by omega
          have hbS : S ≤ S := Nat.le_refl _
          have H8 : Hd ((wr.setCell ⟨S, d, none⟩ (.bool true)).rowIs S 4 q (fun j => .bool (metP O (k + 1) j)) ∧ Below w5.heap.size w5 (wr.setCell ⟨S, d, none⟩ (.bool true))) :=
            ⟨(H7.out.1.set d (.bool true)).congr fun j hj => by
              rw [HN.out]
              by_cases e : j = d
              · rw [if_pos e, if_pos e]
              · rw [if_neg e, if_neg e], H7.out.2.setCell (p := ⟨S, d, none⟩) (by show w5.heap.size ≤ S; rw [HS.out]; exact Nat.le_refl _) _⟩
          by_cases hk0 : 0 < k
          · have hk0i : (0 : Int) < (k : Int) := by omega
            obtain ⟨j, hj⟩ : ∃ j, k - 1 = j := ⟨_, rfl⟩
            have hl := HL2.out hk0
            rw [hj] at hl
            have hkj : (k : Int) - 1 = (j : Int) := by omega
            have hjq : (j : Int) < (q : Int) := by omega
            have m1 := HCL.out _ H8.out.2 j (by omega)
            have m2 := HCL.out _ H8.out.2 k hkq
            rw [hdd] at m2
            obtain ⟨dj, hdj⟩ : ∃ dj, O.getD j 0 = dj := ⟨_, rfl⟩
            rw [hdj] at m1 hl
            have hs1 := law_get H4.out.2.1 dj
            have hs2 := law_get H4.out.2.1 d
            have x1 : up (ss.getD dj 0) < inf64 := Nat.lt_of_le_of_lt (up_le_one hs1) (by decide)
            have x2 : up (ss.getD d 0) < inf64 := Nat.lt_of_le_of_lt (up_le_one hs2) (by decide)
            have hle := (leO_iff ss dj d).1 hl.1
            have HX : Hd (∀ W, Brd W w.heap.size b h cap K ss → Calls Try.prog 32 #[.pointer (some ⟨b, 0, none⟩), .int .i64 (dj : Int)] W (fun e w' => e = .returned (.tuple #[.float .f64 (up (ss.getD dj 0)), .int .i64 0]) ∧ W = w') ∧
                Calls Try.prog 32 #[.pointer (some ⟨b, 0, none⟩), .int .i64 (d : Int)] W (fun e w' => e = .returned (.tuple #[.float .f64 (up (ss.getD d 0)), .int .i64 0]) ∧ W = w')) :=
              ⟨fun W hW => ⟨score_in W w.heap.size b h cap K ss hW H4.out.2.1 dj (by rw [H4.out.1]; exact hl.2), score_in W w.heap.size b h cap K ss hW H4.out.2.1 d (by rw [H4.out.1]; exact hd)⟩⟩
            have HB8 := Hd.mk (H5.out.2.1.keep (H8.out.2))
            have hc3 : ss.getD d 0 < ss.getD dj 0 ∨ (ss.getD dj 0 = ss.getD d 0 ∧ dj ≤ d) := hle
            have f1 : (FloatKind.f64.format.order (up (ss.getD dj 0)) (up (ss.getD d 0)) == some .lt) = false := by
              rw [f64_lt x1 x2, if_neg (by rw [up_lt_iff]; omega)]
              split <;> rfl
            have f2 : ((FloatKind.f64.format.order (up (ss.getD dj 0)) (up (ss.getD d 0)) == some .eq) = false) ∨ ((FloatKind.f64.format.order (up (ss.getD dj 0)) (up (ss.getD d 0)) == some .eq) = true ∧ ¬ (d : Int) < (dj : Int)) := by
              rcases hc3 with h3 | ⟨h3, h4⟩
              · left
                have := (up_lt_iff (ss.getD d 0) (ss.getD dj 0)).2 h3
                rw [f64_lt x1 x2, if_neg (by omega), if_neg (by omega)]; rfl
              · right
                rw [h3] at x1 ⊢
                refine ⟨?_, by omega⟩
                rw [f64_lt x1 x1, if_neg (Nat.lt_irrefl _), if_pos rfl]; rfl
            generalize up (ss.getD dj 0) = u at HX f1 f2
            generalize up (ss.getD d 0) = v at HX f1 f2
            clear hj hl hdj hs1 hs2 x1 x2 hle hc3 hdd hbS
            go_wp2_with fail
            refine (HX.out _ HB8.out).1.mono ?_
            rintro e w9 ⟨rfl, rfl⟩
            go_wp2_with fail
            refine (HX.out _ HB8.out).2.mono ?_
            rintro e w9 ⟨rfl, rfl⟩
            rcases f2 with f2 | ⟨f2, f3⟩
            · go_wp2_with fail
              go_quiet (fail)
              go_wp2_with fail
              go_roundw
              case rel => exact ⟨k + 1, by omega, by go_num, H8.out.1, below_drewN H8.out.2 _⟩
              case measure => simp [intOf]; omega
            · have f4 : decide ((d : Int) < (dj : Int)) = false := decide_eq_false (by omega)
              go_wp2_with fail
              go_quiet (fail)
              go_wp2_with fail
              go_roundw
              case rel => exact ⟨k + 1, by omega, by go_num, H8.out.1, below_drewN H8.out.2 _⟩
              case measure => simp [intOf]; omega
          · have hk0i : ¬ (0 : Int) < (k : Int) := by omega
            go_wp2_with fail
            go_roundw
            case rel => exact ⟨k + 1, by omega, by go_num, H8.out.1, H8.out.2⟩
            case measure => simp [intOf]; omega
        · go_wp2_with fail
          go_ret
          exact ⟨rfl, H5.out.2.2.trans (H7.out.2.mono H5.out.2.2.size)⟩
theorem orders_walk (n : Int) (x : Nat) (A : Option Addr) (m c : Nat) (T : Nat → Bool × Int × Int × Bool) (w : World) (hn : (Lit.int .i64 n).wf = true) (hx : (Lit.float .f64 x).wf = true) (hT : Tolds w A m T) (hm : m * 32 ≤ 140737488351232) :
    Calls Try.prog 11 #[.int .i64 n, .float .f64 x, .slice A m c] w fun e w' => e = .returned (.bool true) ∧ Below w.heap.size w w' := orders_walk0 n x A m c T w hT hm
end Go.Proofs.Ytknpcbekaodlkaa
