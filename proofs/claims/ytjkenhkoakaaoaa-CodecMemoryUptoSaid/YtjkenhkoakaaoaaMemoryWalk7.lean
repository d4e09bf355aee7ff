/- The walk of CodecMemory: it returns true. (tools/memgen7.py prints it.) -/
import Derived.Test.YtjkenhkoakaaoaaMemR7
import Derived.Test.YtjkenhkoakaaoaaAwake
import Derived.Deep.Cut
import Derived.Deep.CutRange
namespace Go.Proofs.Ytjkenhkoakaaoaa
open Go.RowKit
set_option linter.unusedVariables false
set_option linter.unusedSimpArgs false
theorem infoPu : (Try.prog.info? 51).map (·.size) = some 5 := by kernel_rfl
theorem slv_one {l : List Slc} : ∀ u ∈ l.map slv, u.oneCell' = true := fun u hu => by
  obtain ⟨x, _, rfl⟩ := List.mem_map.1 hu
  rfl
set_option maxRecDepth 20000 in
set_option maxHeartbeats 16000000 in
theorem memory7_walk (w : World) (p z : Pu) (hp : p.Ok w) (hz : z.Ok w) :
    Calls Try.prog 9 #[.agg #[.slice p.Ab p.nb p.cb', .int .u64 (p.v : Int), .int .i64 p.sv, .slice p.Ap p.np p.cp, .slice p.At p.k p.ct], .agg #[.slice z.Ab z.nb z.cb', .int .u64 (z.v : Int), .int .i64 z.sv, .slice z.Ap z.np z.cp, .slice z.At z.k z.ct]] w fun e w' => e = .returned (.bool true) ∧ Below w.heap.size w w' := by
  have HP := Hd.mk hp
  have HZ := Hd.mk hz
  clear hp hz
  obtain ⟨b2, hb2⟩ : ∃ q, w.heap.size = q := ⟨_, rfl⟩
  obtain ⟨b3, hb3⟩ : ∃ q, b2 + 1 = q := ⟨_, rfl⟩
  obtain ⟨w1, hw1⟩ : ∃ U, (w.alloc (.cells #[.slice p.Ab p.nb p.cb', .int .u64 (p.v : Int), .int .i64 p.sv, .slice p.Ap p.np p.cp, .slice p.At p.k p.ct] 51)).alloc (.cells #[.slice z.Ab z.nb z.cb', .int .u64 (z.v : Int), .int .i64 z.sv, .slice z.Ap z.np z.cp, .slice z.At z.k z.ct] 51) = U := ⟨_, rfl⟩
  have H1 : Hd (Ms w w1 [] ([] ++ [b2] ++ [b3]) ([] ++ [(b2, #[.slice p.Ab p.nb p.cb', .int .u64 (p.v : Int), .int .i64 p.sv, .slice p.Ap p.np p.cp, .slice p.At p.k p.ct], 51)] ++ [(b3, #[.slice z.Ab z.nb z.cb', .int .u64 (z.v : Int), .int .i64 z.sv, .slice z.Ap z.np z.cp, .slice z.At z.k z.ct], 51)])) := ⟨by
    rw [← hw1, ← hb3, ← hb2]
    have s1 := (Ms.start w).box (w' := w.alloc (.cells #[.slice p.Ab p.nb p.cb', .int .u64 (p.v : Int), .int .i64 p.sv, .slice p.Ap p.np p.cp, .slice p.At p.k p.ct] 51)) ((Below.refl _ _).alloc (Nat.le_refl _) _) (Nat.le_refl _) (heap_alloc_new _ _)
    have s2 := s1.box (w' := (w.alloc (.cells #[.slice p.Ab p.nb p.cb', .int .u64 (p.v : Int), .int .i64 p.sv, .slice p.Ap p.np p.cp, .slice p.At p.k p.ct] 51)).alloc (.cells #[.slice z.Ab z.nb z.cb', .int .u64 (z.v : Int), .int .i64 z.sv, .slice z.Ap z.np z.cp, .slice z.At z.k z.ct] 51)) ((Below.refl _ _).alloc (Nat.le_refl _) _) (Nat.le_refl _) (heap_alloc_new _ _)
    have e : (w.alloc (.cells #[.slice p.Ab p.nb p.cb', .int .u64 (p.v : Int), .int .i64 p.sv, .slice p.Ap p.np p.cp, .slice p.At p.k p.ct] 51)).heap.size = w.heap.size + 1 := by simp
    rw [e] at s2
    exact s2⟩
  go_enter Try.func9, Try.ntmps9
  go_upto_region 1 with fail
  try rw [hw1]
  try rw [hb2]
  try rw [hb3]
  clear hw1 hb2 hb3
  go_wp2_with fail
  refine (awake_any w1).mono ?_
  rintro e w2 ⟨rfl, hch⟩
  have H2 := Hd.mk (H1.out.below (hch.below (Nat.le_refl _) (fun k hk => absurd hk List.not_mem_nil)))
  clear hch H1
  have d1 : w2.cell? ⟨b2, 0, none⟩ = some (.slice p.Ab p.nb p.cb') := H2.out.at_ 0 rfl 0 rfl
  have d2 : w2.cell? ⟨b2, 3, none⟩ = some (.slice p.Ap p.np p.cp) := H2.out.at_ 0 rfl 3 rfl
  have d3 : w2.cell? ⟨b3, 0, none⟩ = some (.slice z.Ab z.nb z.cb') := H2.out.at_ 1 rfl 0 rfl
  have d4 : w2.cell? ⟨b3, 3, none⟩ = some (.slice z.Ap z.np z.cp) := H2.out.at_ 1 rfl 3 rfl
  go_wp2_with fail
  clear d1 d2 d3 d4
  refine (rows_lit w2 [(p.Ab, p.nb, p.cb', p.bs), (p.Ap, p.np, p.cp, p.ps), (z.Ab, z.nb, z.cb', z.bs), (z.Ap, z.np, z.cp, z.ps)] (by
    have b := H2.out.be
    intro x hx
    simp only [List.mem_cons, List.not_mem_nil, or_false] at hx
    rcases hx with rfl | rfl | rfl | rfl
    · exact ⟨(HP.out.rb.below b).more b.size, by have := HP.out.rb.1; rwa [cb_length] at this, HP.out.lb⟩
    · exact ⟨(HP.out.rp.below b).more b.size, by have := HP.out.rp.1; rwa [cb_length] at this, HP.out.lp⟩
    · exact ⟨(HZ.out.rb.below b).more b.size, by have := HZ.out.rb.1; rwa [cb_length] at this, HZ.out.lb⟩
    · exact ⟨(HZ.out.rp.below b).more b.size, by have := HZ.out.rp.1; rwa [cb_length] at this, HZ.out.lp⟩) (by simp) (by
    intro x hx
    simp only [List.mem_cons, List.not_mem_nil, or_false] at hx
    have k1 := HP.out.nb; have k2 := HP.out.np; have k3 := HZ.out.nb; have k4 := HZ.out.np
    rcases hx with rfl | rfl | rfl | rfl <;> (simp only; omega))).mono ?_
  rintro e w3 ⟨vk, lk, rfl, hov, hbe⟩
  obtain ⟨k1, k2, k3, k4, hlk⟩ := four lk (by have := congrArg List.length hov.ps; simpa using this)
  subst hlk
  obtain ⟨Ak, ck, hvk, _⟩ := own_form hov.out
  subst hvk
  have HK := Hd.mk (And.intro hov.ps hov.lt)
  have H3 := Hd.mk (H2.out.listR hov hbe)
  clear hov hbe H2
  have d0 : w3.cell? ⟨b2, 0, none⟩ = some (.slice p.Ab p.nb p.cb') := H3.out.at_ 0 rfl 0 rfl
  have d3 : w3.cell? ⟨b2, 3, none⟩ = some (.slice p.Ap p.np p.cp) := H3.out.at_ 0 rfl 3 rfl
  have d4 : w3.cell? ⟨b2, 4, none⟩ = some (.slice p.At p.k p.ct) := H3.out.at_ 0 rfl 4 rfl
  go_wp2_with (refine at_load (x := .tmp 2) ?_; refine wpList_load_row rfl 51 (.tmp 2) rfl b2 rfl 51 #[.slice p.Ab p.nb p.cb', .int .u64 (p.v : Int), .int .i64 p.sv, .slice p.Ap p.np p.cp, .slice p.At p.k p.ct] (0, 0) _ (H3.out.box_ 0 rfl) Try.underlying51 rfl infoPu ?_)
  clear d0 d3 d4
  refine (puts_m p HP.out H3.out.be).mono ?_
  rintro e w4 ⟨gx, x1, x2, x3, x4, x5, x6, x7, x8, x9, rfl, hov, hbe⟩
  have Hx := Hd.mk (And.intro hov.ps hov.lt)
  have H4 := Hd.mk (H3.out.listR hov hbe)
  clear hov hbe H3
  as_aux_lemma =>
    go_wp2_with fail
    refine (rows_any w4 (some ⟨gx, 0, none⟩) 9 9 p.wants (by rw [← Hx.out.1]; exact H4.out.rws (c := 9) (l := [x1, x2, x3, x4, x5, x6, x7, x8, x9]) 5 (by kernel_rfl) rfl (fun y hy => List.mem_append_right _ (List.mem_cons_of_mem _ (List.mem_map.2 ⟨y, hy, rfl⟩))) Hx.out.2) (by omega) (fun q hq => by have := Pu.wants_le HP.out q hq; omega)).mono ?_
    rintro e w5 ⟨vu, lu, rfl, hov, hbe⟩
    obtain ⟨j1, j2, j3, j4, j5, j6, j7, j8, j9, hlu⟩ := nine lu (by have := congrArg List.length hov.ps; simpa [Pu.wants, wants] using this)
    subst hlu
    obtain ⟨Aj, cj, hvu, _⟩ := own_form hov.out
    subst hvu
    have Hj := Hd.mk (And.intro hov.ps hov.lt)
    have H5 := Hd.mk (H4.out.listR hov hbe)
    clear hov hbe H4
    have d0 : w5.cell? ⟨b2, 0, none⟩ = some (.slice p.Ab p.nb p.cb') := H5.out.at_ 0 rfl 0 rfl
    have d3 : w5.cell? ⟨b2, 3, none⟩ = some (.slice p.Ap p.np p.cp) := H5.out.at_ 0 rfl 3 rfl
    have d4 : w5.cell? ⟨b2, 4, none⟩ = some (.slice p.At p.k p.ct) := H5.out.at_ 0 rfl 4 rfl
    go_wp2_with (refine at_load (x := .tmp 2) ?_; refine wpList_load_row rfl 51 (.tmp 2) rfl b2 rfl 51 #[.slice p.Ab p.nb p.cb', .int .u64 (p.v : Int), .int .i64 p.sv, .slice p.Ap p.np p.cp, .slice p.At p.k p.ct] (0, 0) _ (H5.out.box_ 0 rfl) Try.underlying51 rfl infoPu ?_)
    clear d0 d3 d4
    refine (puts_m p HP.out H5.out.be).mono ?_
    rintro e w6 ⟨gy, y1, y2, y3, y4, y5, y6, y7, y8, y9, rfl, hov, hbe⟩
    have Hy := Hd.mk (And.intro hov.ps hov.lt)
    have H6 := Hd.mk (H5.out.listR hov hbe)
    clear hov hbe H5
    have d0 : w6.cell? ⟨b3, 0, none⟩ = some (.slice z.Ab z.nb z.cb') := H6.out.at_ 1 rfl 0 rfl
    have d3 : w6.cell? ⟨b3, 3, none⟩ = some (.slice z.Ap z.np z.cp) := H6.out.at_ 1 rfl 3 rfl
    have d4 : w6.cell? ⟨b3, 4, none⟩ = some (.slice z.At z.k z.ct) := H6.out.at_ 1 rfl 4 rfl
    go_wp2_with (refine at_load (x := .tmp 3) ?_; refine wpList_load_row rfl 51 (.tmp 3) rfl b3 rfl 51 #[.slice z.Ab z.nb z.cb', .int .u64 (z.v : Int), .int .i64 z.sv, .slice z.Ap z.np z.cp, .slice z.At z.k z.ct] (0, 0) _ (H6.out.box_ 1 rfl) Try.underlying51 rfl infoPu ?_)
    clear d0 d3 d4
    refine (puts_m z HZ.out H6.out.be).mono ?_
    rintro e w7 ⟨gt, t1, t2, t3, t4, t5, t6, t7, t8, t9, rfl, hov, hbe⟩
    have Ht := Hd.mk (And.intro hov.ps hov.lt)
    have H7 := Hd.mk (H6.out.listR hov hbe)
    clear hov hbe H6
    have d0 : w7.cell? ⟨b2, 0, none⟩ = some (.slice p.Ab p.nb p.cb') := H7.out.at_ 0 rfl 0 rfl
    have d3 : w7.cell? ⟨b2, 3, none⟩ = some (.slice p.Ap p.np p.cp) := H7.out.at_ 0 rfl 3 rfl
    have d4 : w7.cell? ⟨b2, 4, none⟩ = some (.slice p.At p.k p.ct) := H7.out.at_ 0 rfl 4 rfl
    go_wp2_with (refine at_load (x := .tmp 2) ?_; refine wpList_load_row rfl 51 (.tmp 2) rfl b2 rfl 51 #[.slice p.Ab p.nb p.cb', .int .u64 (p.v : Int), .int .i64 p.sv, .slice p.Ap p.np p.cp, .slice p.At p.k p.ct] (0, 0) _ (H7.out.box_ 0 rfl) Try.underlying51 rfl infoPu ?_)
    clear d0 d3 d4
    refine (puts_m p HP.out H7.out.be).mono ?_
    rintro e w8 ⟨gs, s1, s2, s3, s4, s5, s6, s7, s8, s9, rfl, hov, hbe⟩
    have Hs := Hd.mk (And.intro hov.ps hov.lt)
    have H8 := Hd.mk (H7.out.listR hov hbe)
    clear hov hbe H7
    as_aux_lemma =>
      go_wp2_with fail
      refine (same_any w8 (some ⟨gx, 0, none⟩) Aj 9 9 cj p.wants (by rw [← Hx.out.1]; exact H8.out.rws (c := 9) (l := [x1, x2, x3, x4, x5, x6, x7, x8, x9]) 5 (by kernel_rfl) rfl (fun y hy => List.mem_append_left _ (List.mem_append_left _ (List.mem_append_left _ (List.mem_append_left _ (List.mem_append_right _ (List.mem_cons_of_mem _ (List.mem_map.2 ⟨y, hy, rfl⟩))))))) Hx.out.2) (by rw [← Hj.out.1]; exact H8.out.rws (c := cj) (l := [j1, j2, j3, j4, j5, j6, j7, j8, j9]) 15 (by kernel_rfl) rfl (fun y hy => List.mem_append_left _ (List.mem_append_left _ (List.mem_append_left _ (List.mem_append_right _ (List.mem_cons_of_mem _ (List.mem_map.2 ⟨y, hy, rfl⟩)))))) Hj.out.2) (by omega)).mono ?_
      rintro e w9 ⟨rfl, hbe⟩
      have H9 := Hd.mk (H8.out.below hbe)
      clear hbe H8
      go_wp2_with fail
      refine (same_any w9 (some ⟨gy, 0, none⟩) Aj 9 9 cj p.wants (by rw [← Hy.out.1]; exact H9.out.rws (c := 9) (l := [y1, y2, y3, y4, y5, y6, y7, y8, y9]) 25 (by kernel_rfl) rfl (fun y hy => List.mem_append_left _ (List.mem_append_left _ (List.mem_append_right _ (List.mem_cons_of_mem _ (List.mem_map.2 ⟨y, hy, rfl⟩))))) Hy.out.2) (by rw [← Hj.out.1]; exact H9.out.rws (c := cj) (l := [j1, j2, j3, j4, j5, j6, j7, j8, j9]) 15 (by kernel_rfl) rfl (fun y hy => List.mem_append_left _ (List.mem_append_left _ (List.mem_append_left _ (List.mem_append_right _ (List.mem_cons_of_mem _ (List.mem_map.2 ⟨y, hy, rfl⟩)))))) Hj.out.2) (by omega)).mono ?_
      rintro e w10 ⟨rfl, hbe⟩
      have H10 := Hd.mk (H9.out.below hbe)
      clear hbe H9
      go_wp2_with fail
      refine (same_any w10 (some ⟨gs, 0, none⟩) Aj 9 9 cj p.wants (by rw [← Hs.out.1]; exact H10.out.rws (c := 9) (l := [s1, s2, s3, s4, s5, s6, s7, s8, s9]) 45 (by kernel_rfl) rfl (fun y hy => List.mem_append_right _ (List.mem_cons_of_mem _ (List.mem_map.2 ⟨y, hy, rfl⟩))) Hs.out.2) (by rw [← Hj.out.1]; exact H10.out.rws (c := cj) (l := [j1, j2, j3, j4, j5, j6, j7, j8, j9]) 15 (by kernel_rfl) rfl (fun y hy => List.mem_append_left _ (List.mem_append_left _ (List.mem_append_left _ (List.mem_append_right _ (List.mem_cons_of_mem _ (List.mem_map.2 ⟨y, hy, rfl⟩)))))) Hj.out.2) (by omega)).mono ?_
      rintro e w11 ⟨rfl, hbe⟩
      have H11 := Hd.mk (H10.out.below hbe)
      clear hbe H10
      go_upto_if 83 with fail
      go_cut [] from 22 (fun wx => wx = w11)
      case first =>
        go_wp2_with fail
        go_meet
        case rel => rfl
      rw [hcut]
      clear hcut
      have G0 := Hd.mk (H11.out.re (RL2 := [(45, .slice Ak 4 ck, [k1, k2, k3, k4].map slv), slr k1, slr k2, slr k3, slr k4] ++ (45, .slice (some ⟨gx, 0, none⟩) 9 9, [x1, x2, x3, x4, x5, x6, x7, x8, x9].map slv) :: [slr x1, slr x2, slr x3, slr x4, slr x5, slr x6, slr x7, slr x8, slr x9, (45, .slice Aj 9 cj, [j1, j2, j3, j4, j5, j6, j7, j8, j9].map slv), slr j1, slr j2, slr j3, slr j4, slr j5, slr j6, slr j7, slr j8, slr j9, (45, .slice (some ⟨gy, 0, none⟩) 9 9, [y1, y2, y3, y4, y5, y6, y7, y8, y9].map slv), slr y1, slr y2, slr y3, slr y4, slr y5, slr y6, slr y7, slr y8, slr y9, (45, .slice (some ⟨gt, 0, none⟩) 9 9, [t1, t2, t3, t4, t5, t6, t7, t8, t9].map slv), slr t1, slr t2, slr t3, slr t4, slr t5, slr t6, slr t7, slr t8, slr t9, (45, .slice (some ⟨gs, 0, none⟩) 9 9, [s1, s2, s3, s4, s5, s6, s7, s8, s9].map slv), slr s1, slr s2, slr s3, slr s4, slr s5, slr s6, slr s7, slr s8, slr s9]) (by kernel_rfl))
      clear H11
      go_wp2_with (first | (at_builtin; refine wpList_app elBBG rfl (.tmp 84) (.tmp 85) rfl w.heap.size (.slice (some ⟨gx, 0, none⟩) 9 9) 9 ([x1, x2, x3, x4, x5, x6, x7, x8, x9].map slv) rfl (G0.out.bag.own _ (List.mem_of_getElem? (i := 5) rfl)) w11.heap.size (some ⟨gy, 0, none⟩) 9 9 ([y1, y2, y3, y4, y5, y6, y7, y8, y9].map slv) rfl (G0.out.rd 25 rfl) slv_one (by unfold maxLen; omega) (by omega) G0.out.be.size ?_; intro v1 wm hO; obtain ⟨Am, cm, hv1, _⟩ := own_form hO.own; subst hv1; have G1 : Hd (Ms w wm ([(45, .slice Ak 4 ck, [k1, k2, k3, k4].map slv), slr k1, slr k2, slr k3, slr k4] ++ (45, .slice Am 18 cm, [x1, x2, x3, x4, x5, x6, x7, x8, x9].map slv ++ [y1, y2, y3, y4, y5, y6, y7, y8, y9].map slv) :: [slr x1, slr x2, slr x3, slr x4, slr x5, slr x6, slr x7, slr x8, slr x9, (45, .slice Aj 9 cj, [j1, j2, j3, j4, j5, j6, j7, j8, j9].map slv), slr j1, slr j2, slr j3, slr j4, slr j5, slr j6, slr j7, slr j8, slr j9, (45, .slice (some ⟨gy, 0, none⟩) 9 9, [y1, y2, y3, y4, y5, y6, y7, y8, y9].map slv), slr y1, slr y2, slr y3, slr y4, slr y5, slr y6, slr y7, slr y8, slr y9, (45, .slice (some ⟨gt, 0, none⟩) 9 9, [t1, t2, t3, t4, t5, t6, t7, t8, t9].map slv), slr t1, slr t2, slr t3, slr t4, slr t5, slr t6, slr t7, slr t8, slr t9, (45, .slice (some ⟨gs, 0, none⟩) 9 9, [s1, s2, s3, s4, s5, s6, s7, s8, s9].map slv), slr s1, slr s2, slr s3, slr s4, slr s5, slr s6, slr s7, slr s8, slr s9]) ([] ++ [b2] ++ [b3]) ([] ++ [(b2, #[.slice p.Ab p.nb p.cb', .int .u64 (p.v : Int), .int .i64 p.sv, .slice p.Ap p.np p.cp, .slice p.At p.k p.ct], 51)] ++ [(b3, #[.slice z.Ab z.nb z.cb', .int .u64 (z.v : Int), .int .i64 z.sv, .slice z.Ap z.np z.cp, .slice z.At z.k z.ct], 51)])) := ⟨G0.out.grow hO⟩; clear hO) | (at_builtin; refine wpList_app elBBG rfl (.tmp 86) (.tmp 87) rfl w.heap.size (.slice Am 18 cm) 18 ([x1, x2, x3, x4, x5, x6, x7, x8, x9].map slv ++ [y1, y2, y3, y4, y5, y6, y7, y8, y9].map slv) rfl (G1.out.bag.own _ (List.mem_of_getElem? (i := 5) rfl)) wm.heap.size (some ⟨gt, 0, none⟩) 9 9 ([t1, t2, t3, t4, t5, t6, t7, t8, t9].map slv) rfl (G1.out.rd 35 rfl) slv_one (by unfold maxLen; omega) (by omega) G1.out.be.size ?_; intro v1 wn hO; obtain ⟨An, cn, hv1, _⟩ := own_form hO.own; subst hv1; have G2 : Hd (Ms w wn ([(45, .slice Ak 4 ck, [k1, k2, k3, k4].map slv), slr k1, slr k2, slr k3, slr k4] ++ (45, .slice An 27 cn, [x1, x2, x3, x4, x5, x6, x7, x8, x9].map slv ++ [y1, y2, y3, y4, y5, y6, y7, y8, y9].map slv ++ [t1, t2, t3, t4, t5, t6, t7, t8, t9].map slv) :: [slr x1, slr x2, slr x3, slr x4, slr x5, slr x6, slr x7, slr x8, slr x9, (45, .slice Aj 9 cj, [j1, j2, j3, j4, j5, j6, j7, j8, j9].map slv), slr j1, slr j2, slr j3, slr j4, slr j5, slr j6, slr j7, slr j8, slr j9, (45, .slice (some ⟨gy, 0, none⟩) 9 9, [y1, y2, y3, y4, y5, y6, y7, y8, y9].map slv), slr y1, slr y2, slr y3, slr y4, slr y5, slr y6, slr y7, slr y8, slr y9, (45, .slice (some ⟨gt, 0, none⟩) 9 9, [t1, t2, t3, t4, t5, t6, t7, t8, t9].map slv), slr t1, slr t2, slr t3, slr t4, slr t5, slr t6, slr t7, slr t8, slr t9, (45, .slice (some ⟨gs, 0, none⟩) 9 9, [s1, s2, s3, s4, s5, s6, s7, s8, s9].map slv), slr s1, slr s2, slr s3, slr s4, slr s5, slr s6, slr s7, slr s8, slr s9]) ([] ++ [b2] ++ [b3]) ([] ++ [(b2, #[.slice p.Ab p.nb p.cb', .int .u64 (p.v : Int), .int .i64 p.sv, .slice p.Ap p.np p.cp, .slice p.At p.k p.ct], 51)] ++ [(b3, #[.slice z.Ab z.nb z.cb', .int .u64 (z.v : Int), .int .i64 z.sv, .slice z.Ap z.np z.cp, .slice z.At z.k z.ct], 51)])) := ⟨G1.out.grow hO⟩; clear hO) | (at_builtin; refine wpList_app elBBG rfl (.tmp 88) (.tmp 89) rfl w.heap.size (.slice An 27 cn) 27 ([x1, x2, x3, x4, x5, x6, x7, x8, x9].map slv ++ [y1, y2, y3, y4, y5, y6, y7, y8, y9].map slv ++ [t1, t2, t3, t4, t5, t6, t7, t8, t9].map slv) rfl (G2.out.bag.own _ (List.mem_of_getElem? (i := 5) rfl)) wn.heap.size (some ⟨gs, 0, none⟩) 9 9 ([s1, s2, s3, s4, s5, s6, s7, s8, s9].map slv) rfl (G2.out.rd 45 rfl) slv_one (by unfold maxLen; omega) (by omega) G2.out.be.size ?_; intro v1 wo hO; obtain ⟨Ao, co, hv1, _⟩ := own_form hO.own; subst hv1; have G3 : Hd (Ms w wo ([(45, .slice Ak 4 ck, [k1, k2, k3, k4].map slv), slr k1, slr k2, slr k3, slr k4] ++ (45, .slice Ao 36 co, [x1, x2, x3, x4, x5, x6, x7, x8, x9].map slv ++ [y1, y2, y3, y4, y5, y6, y7, y8, y9].map slv ++ [t1, t2, t3, t4, t5, t6, t7, t8, t9].map slv ++ [s1, s2, s3, s4, s5, s6, s7, s8, s9].map slv) :: [slr x1, slr x2, slr x3, slr x4, slr x5, slr x6, slr x7, slr x8, slr x9, (45, .slice Aj 9 cj, [j1, j2, j3, j4, j5, j6, j7, j8, j9].map slv), slr j1, slr j2, slr j3, slr j4, slr j5, slr j6, slr j7, slr j8, slr j9, (45, .slice (some ⟨gy, 0, none⟩) 9 9, [y1, y2, y3, y4, y5, y6, y7, y8, y9].map slv), slr y1, slr y2, slr y3, slr y4, slr y5, slr y6, slr y7, slr y8, slr y9, (45, .slice (some ⟨gt, 0, none⟩) 9 9, [t1, t2, t3, t4, t5, t6, t7, t8, t9].map slv), slr t1, slr t2, slr t3, slr t4, slr t5, slr t6, slr t7, slr t8, slr t9, (45, .slice (some ⟨gs, 0, none⟩) 9 9, [s1, s2, s3, s4, s5, s6, s7, s8, s9].map slv), slr s1, slr s2, slr s3, slr s4, slr s5, slr s6, slr s7, slr s8, slr s9]) ([] ++ [b2] ++ [b3]) ([] ++ [(b2, #[.slice p.Ab p.nb p.cb', .int .u64 (p.v : Int), .int .i64 p.sv, .slice p.Ap p.np p.cp, .slice p.At p.k p.ct], 51)] ++ [(b3, #[.slice z.Ab z.nb z.cb', .int .u64 (z.v : Int), .int .i64 z.sv, .slice z.Ap z.np z.cp, .slice z.At z.k z.ct], 51)])) := ⟨G2.out.grow hO⟩; clear hO))
      as_aux_lemma =>
        have hbx : Hd (∀ y ∈ [x1, x2, x3, x4, x5, x6, x7, x8, x9], y.2.2.2.length ≤ 140737488355000) := ⟨fun y hy => Nat.le_trans (Pu.wants_le HP.out _ (by rw [← Hx.out.1]; exact List.mem_map.2 ⟨y, hy, rfl⟩)) (by decide)⟩
        have hby : Hd (∀ y ∈ [y1, y2, y3, y4, y5, y6, y7, y8, y9], y.2.2.2.length ≤ 140737488355000) := ⟨fun y hy => Nat.le_trans (Pu.wants_le HP.out _ (by rw [← Hy.out.1]; exact List.mem_map.2 ⟨y, hy, rfl⟩)) (by decide)⟩
        have hbt : Hd (∀ y ∈ [t1, t2, t3, t4, t5, t6, t7, t8, t9], y.2.2.2.length ≤ 140737488355000) := ⟨fun y hy => Nat.le_trans (Pu.wants_le HZ.out _ (by rw [← Ht.out.1]; exact List.mem_map.2 ⟨y, hy, rfl⟩)) (by decide)⟩
        have hbs : Hd (∀ y ∈ [s1, s2, s3, s4, s5, s6, s7, s8, s9], y.2.2.2.length ≤ 140737488355000) := ⟨fun y hy => Nat.le_trans (Pu.wants_le HP.out _ (by rw [← Hs.out.1]; exact List.mem_map.2 ⟨y, hy, rfl⟩)) (by decide)⟩
        have hk36 : Hd (∀ y ∈ (([x1, x2, x3, x4, x5, x6, x7, x8, x9] ++ [y1, y2, y3, y4, y5, y6, y7, y8, y9]) ++ [t1, t2, t3, t4, t5, t6, t7, t8, t9]) ++ [s1, s2, s3, s4, s5, s6, s7, s8, s9], y.2.2.2.length ≤ 140737488355000) := ⟨fun y hy => (List.mem_append.1 hy).elim (fun h => (List.mem_append.1 h).elim (fun h => (List.mem_append.1 h).elim (hbx.out y) (hby.out y)) (hbt.out y)) (hbs.out y)⟩
        clear hbx hby hbt hbs
        go_wp2_with fail
        refine (G3.out.apartR (us := [x1, x2, x3, x4, x5, x6, x7, x8, x9].map slv ++ [y1, y2, y3, y4, y5, y6, y7, y8, y9].map slv ++ [t1, t2, t3, t4, t5, t6, t7, t8, t9].map slv ++ [s1, s2, s3, s4, s5, s6, s7, s8, s9].map slv) (I := [6, 7, 8, 9, 10, 11, 12, 13, 14, 26, 27, 28, 29, 30, 31, 32, 33, 34, 36, 37, 38, 39, 40, 41, 42, 43, 44, 46, 47, 48, 49, 50, 51, 52, 53, 54]) (RL2 := (((((45, .slice Ak 4 ck, [k1, k2, k3, k4].map slv) : Row) :: ([k1, k2, k3, k4].map slr)) ++ (((45, .slice Aj 9 cj, [j1, j2, j3, j4, j5, j6, j7, j8, j9].map slv) : Row) :: ([j1, j2, j3, j4, j5, j6, j7, j8, j9].map slr))))) 5 (by kernel_rfl) (by decide) (by kernel_rfl) [0, 1, 2, 3, 4, 15, 16, 17, 18, 19, 20, 21, 22, 23, 24] (by kernel_rfl) (by decide) (by kernel_rfl) (by kernel_rfl) (by simp) (hB_of (L := (([x1, x2, x3, x4, x5, x6, x7, x8, x9] ++ [y1, y2, y3, y4, y5, y6, y7, y8, y9]) ++ [t1, t2, t3, t4, t5, t6, t7, t8, t9]) ++ [s1, s2, s3, s4, s5, s6, s7, s8, s9]) (by kernel_rfl) hk36.out) (by decide) (by decide) (by kernel_rfl)).mono ?_
        rintro e w20 ⟨rfl, hM, _, _⟩
        have H20 := Hd.mk hM
        clear hM hk36 G0 G1 G2 G3 Hx Hy Ht Hs
        have d1 : w20.cell? ⟨b2, 0, none⟩ = some (.slice p.Ab p.nb p.cb') := H20.out.at_ 0 rfl 0 rfl
        have d2 : w20.cell? ⟨b2, 3, none⟩ = some (.slice p.Ap p.np p.cp) := H20.out.at_ 0 rfl 3 rfl
        have d3 : w20.cell? ⟨b3, 0, none⟩ = some (.slice z.Ab z.nb z.cb') := H20.out.at_ 1 rfl 0 rfl
        have d4 : w20.cell? ⟨b3, 3, none⟩ = some (.slice z.Ap z.np z.cp) := H20.out.at_ 1 rfl 3 rfl
        go_wp2_with fail
        clear d1 d2 d3 d4
        as_aux_lemma =>
          obtain ⟨wl, hwl⟩ : ∃ U, w20.alloc (.cells #[.slice p.Ab p.nb p.cb', .slice p.Ap p.np p.cp, .slice z.Ab z.nb z.cb', .slice z.Ap z.np z.cp] 45) = U := ⟨_, rfl⟩
          have HL : Hd (Rws wl (some ⟨w20.heap.size, 0, none⟩) 4 [p.bs, p.ps, z.bs, z.ps] ∧ Below w20.heap.size w20 wl) := ⟨by
            rw [← hwl]
            refine ⟨rws_of (w := w20) (e := 45) [(p.Ab, p.nb, p.cb', p.bs), (p.Ap, p.np, p.cp, p.ps), (z.Ab, z.nb, z.cb', z.bs), (z.Ap, z.np, z.cp, z.ps)] (fun x hx => ?_), (Below.refl _ _).alloc (Nat.le_refl _) _⟩
            have b := H20.out.be
            simp only [List.mem_cons, List.not_mem_nil, or_false] at hx
            rcases hx with rfl | rfl | rfl | rfl
            · exact HP.out.kb b
            · exact HP.out.kp b
            · exact HZ.out.kb b
            · exact HZ.out.kp b⟩
          try rw [hwl]
          clear hwl
          refine (same_any wl (some ⟨w20.heap.size, 0, none⟩) Ak 4 4 ck [p.bs, p.ps, z.bs, z.ps] HL.out.1 (by have e : [k1, k2, k3, k4].map (fun x : Slc => x.2.2.2) = [p.bs, p.ps, z.bs, z.ps] := HK.out.1; rw [← e]; exact Rws.step7 (H20.out.rws (c := ck) (l := [k1, k2, k3, k4]) 0 (by kernel_rfl) rfl (fun y hy => List.mem_append_left _ (List.mem_cons_of_mem _ (List.mem_map.2 ⟨y, hy, rfl⟩))) HK.out.2) HL.out.2) (by omega)).mono ?_
          rintro e w21 ⟨rfl, hbe⟩
          have H21 := Hd.mk (H20.out.below (HL.out.2.trans (hbe.mono HL.out.2.size)))
          clear hbe HL H20
          as_aux_lemma =>
            have d1 : w21.cell? ⟨b2, 0, none⟩ = some (.slice p.Ab p.nb p.cb') := H21.out.at_ 0 rfl 0 rfl
            have d2 : w21.cell? ⟨b2, 1, none⟩ = some (.int .u64 (p.v : Int)) := H21.out.at_ 0 rfl 1 rfl
            have d3 : w21.cell? ⟨b2, 2, none⟩ = some (.int .i64 p.sv) := H21.out.at_ 0 rfl 2 rfl
            have d4 : w21.cell? ⟨b2, 3, none⟩ = some (.slice p.Ap p.np p.cp) := H21.out.at_ 0 rfl 3 rfl
            have d5 : w21.cell? ⟨b2, 4, none⟩ = some (.slice p.At p.k p.ct) := H21.out.at_ 0 rfl 4 rfl
            go_wp2_with fail
            clear d1 d2 d3 d4 d5
            refine (puts_m p HP.out H21.out.be).mono ?_
            rintro e w22 ⟨gr, r1, r2, r3, r4, r5, r6, r7, r8, r9, rfl, hov, hbe⟩
            have Hr := Hd.mk (And.intro hov.ps hov.lt)
            have H22 := Hd.mk (H21.out.listR hov hbe)
            clear hov hbe H21
            go_wp2_with fail
            refine (same_any w22 (some ⟨gr, 0, none⟩) Aj 9 9 cj p.wants (by rw [← Hr.out.1]; exact H22.out.rws (c := 9) (l := [r1, r2, r3, r4, r5, r6, r7, r8, r9]) 15 (by kernel_rfl) rfl (fun y hy => List.mem_append_right _ (List.mem_cons_of_mem _ (List.mem_map.2 ⟨y, hy, rfl⟩))) Hr.out.2) (by rw [← Hj.out.1]; exact H22.out.rws (c := cj) (l := [j1, j2, j3, j4, j5, j6, j7, j8, j9]) 5 (by kernel_rfl) rfl (fun y hy => List.mem_append_left _ (List.mem_append_right _ (List.mem_cons_of_mem _ (List.mem_map.2 ⟨y, hy, rfl⟩)))) Hj.out.2) (by omega)).mono ?_
            rintro e w23 ⟨rfl, hbe⟩
            have H23 := Hd.mk (Ms.left (Ms.left (H22.out.below hbe)))
            clear hbe H22 Hr Hj
            go_upto_if 120 with fail
            go_cut [] from 22 (fun wx => wx = w23)
            case first =>
              go_wp2_with fail
              go_meet
              case rel => rfl
            rw [hcut]
            clear hcut
            as_aux_lemma =>
              obtain ⟨N1, N2, N3, hcuts⟩ := cuts_of p.ps z.ps p.ts p.np z.np p.k (by have := HP.out.rp.1; rwa [cb_length] at this) (by have := HZ.out.rp.1; rwa [cb_length] at this)
              obtain ⟨n1, hn1⟩ : ∃ q, 0 + (uv p.np).length + p.np = q := ⟨_, rfl⟩
              obtain ⟨n2, hn2⟩ : ∃ q, n1 + (uv z.np).length + z.np = q := ⟨_, rfl⟩
              obtain ⟨N, hN⟩ : ∃ q, n2 + (uv p.k).length + (tx p.ts).length = q := ⟨_, rfl⟩
              rw [hn1, hn2, hN] at hcuts
              have hlt : ∀ t ∈ p.ts, t.size < 2 ^ 64 := fun t ht => by have := ssum_memM _ t ht; have := HP.out.ss; omega
              have hsz : n1 ≤ 1048586 ∧ n2 ≤ 2097172 ∧ (tx p.ts).length ≤ 11534336 ∧ N ≤ 13631518 := by
                have h1 := tx_ssum p.ts hlt
                have h2 := HP.out.ss; have h3 := HP.out.k; have h4 := HP.out.np; have h5 := HZ.out.np
                have h6 : p.ts.length = p.k := by have := HP.out.rt.1; rwa [cs_len] at this
                have u1 := (uv_len p.np).2; have u2 := (uv_len z.np).2; have u3 := (uv_len p.k).2
                omega
              have HS := Hd.mk (And.intro hn1 (And.intro hn2 (And.intro hN hsz)))
              have hby : ∀ x ∈ [] ++ uv p.np ++ p.ps ++ uv z.np ++ z.ps ++ uv p.k ++ tx p.ts, x < 256 := by
                have u1 := uv_lt p.np (by have := HP.out.np; omega); have u2 := uv_lt z.np (by have := HZ.out.np; omega); have u3 := uv_lt p.k (by have := HP.out.k; omega)
                have u4 := tx_lt7 p.ts hlt; have u5 := HP.out.lp; have u6 := HZ.out.lp
                intro x hx
                simp only [List.nil_append, List.mem_append] at hx
                rcases hx with (((((h | h) | h) | h) | h) | h)
                · exact u1 x h
                · exact u5 x h
                · exact u2 x h
                · exact u6 x h
                · exact u3 x h
                · exact u4 x h
              obtain ⟨st, hst⟩ : ∃ q, [] ++ uv p.np ++ p.ps ++ uv z.np ++ z.ps ++ uv p.k ++ tx p.ts = q := ⟨_, rfl⟩
              rw [hst] at hcuts hby
              have HCU := Hd.mk (And.intro hcuts (And.intro hby hst))
              clear hcuts hby hst hn1 hn2 hN hsz hlt
              have HCC : Hd (∀ W, Below w23.heap.size w23 W → W.cell? ⟨b2, 3, none⟩ = some (.slice p.Ap p.np p.cp) ∧ W.cell? ⟨b3, 3, none⟩ = some (.slice z.Ap z.np z.cp) ∧ W.cell? ⟨b2, 4, none⟩ = some (.slice p.At p.k p.ct) ∧ Below w.heap.size w W) := ⟨fun W hW => ⟨(H23.out.below hW).at_ 0 rfl 3 rfl, (H23.out.below hW).at_ 1 rfl 3 rfl, (H23.out.below hW).at_ 0 rfl 4 rfl, (H23.out.below hW).be⟩⟩
              go_upto_region 14 with fail
              refine wp_region_held_drew (S := fun W => Below w23.heap.size w23 W) (by kernel_rfl) ((Below.refl _ _).drew) (fun hHeld => ?_)
              refine wpAnyH_take (i := 0) (oi := ?oi101) (v := ?v101) ?hi101 (by kernel_rfl) (by kernel_rfl) (by kernel_rfl) ?hQ101 (Or.inl ⟨?hw101, ?hy101⟩) (by assumption) ?rest101
              case hi101 => simp only [List.getElem?_toArray, List.getElem?_cons_succ, List.getElem?_cons_zero]; rfl
              case hQ101 => exact fun _ _ _ h => h
              case hw101 => rfl
              case hy101 => (intro W hW; obtain ⟨d0, d1, d2, _⟩ := HCC.out W hW; go_simp; all_goals rfl)
              simp only [Act.put, List.setIfInBounds_toArray, List.set_cons_zero, List.set_cons_succ]
              refine wpAnyH_take (i := 1) (oi := ?oi102) (v := ?v102) ?hi102 (by kernel_rfl) (by kernel_rfl) (by kernel_rfl) ?hQ102 (Or.inl ⟨?hw102, ?hy102⟩) (by assumption) ?rest102
              case hi102 => simp only [List.getElem?_toArray, List.getElem?_cons_succ, List.getElem?_cons_zero]; rfl
              case hQ102 => exact fun _ _ _ h => h
              case hw102 => rfl
              case hy102 => (intro W hW; obtain ⟨d0, d1, d2, _⟩ := HCC.out W hW; go_simp; all_goals rfl)
              simp only [Act.put, List.setIfInBounds_toArray, List.set_cons_zero, List.set_cons_succ]
              refine wpAnyH_take (i := 3) (oi := ?oi103) (v := ?v103) ?hi103 (by kernel_rfl) (by kernel_rfl) (by kernel_rfl) ?hQ103 (Or.inl ⟨?hw103, ?hy103⟩) (by assumption) ?rest103
              case hi103 => simp only [List.getElem?_toArray, List.getElem?_cons_succ, List.getElem?_cons_zero]; rfl
              case hQ103 => exact fun _ _ _ h => h
              case hw103 => rfl
              case hy103 => (intro W hW; obtain ⟨d0, d1, d2, _⟩ := HCC.out W hW; go_simp; all_goals rfl)
              simp only [Act.put, List.setIfInBounds_toArray, List.set_cons_zero, List.set_cons_succ]
              refine wpAnyH_take (i := 4) (oi := ?oi104) (v := ?v104) ?hi104 (by kernel_rfl) (by kernel_rfl) (by kernel_rfl) ?hQ104 (Or.inl ⟨?hw104, ?hy104⟩) (by assumption) ?rest104
              case hi104 => simp only [List.getElem?_toArray, List.getElem?_cons_succ, List.getElem?_cons_zero]; rfl
              case hQ104 => exact fun _ _ _ h => h
              case hw104 => rfl
              case hy104 => (intro W hW; obtain ⟨d0, d1, d2, _⟩ := HCC.out W hW; go_simp; all_goals rfl)
              simp only [Act.put, List.setIfInBounds_toArray, List.set_cons_zero, List.set_cons_succ]
              refine wpAnyH_take (i := 6) (oi := ?oi105) (v := ?v105) ?hi105 (by kernel_rfl) (by kernel_rfl) (by kernel_rfl) ?hQ105 (Or.inl ⟨?hw105, ?hy105⟩) (by assumption) ?rest105
              case hi105 => simp only [List.getElem?_toArray, List.getElem?_cons_succ, List.getElem?_cons_zero]; rfl
              case hQ105 => exact fun _ _ _ h => h
              case hw105 => rfl
              case hy105 => (intro W hW; obtain ⟨d0, d1, d2, _⟩ := HCC.out W hW; go_simp; all_goals rfl)
              simp only [Act.put, List.setIfInBounds_toArray, List.set_cons_zero, List.set_cons_succ]
              refine wpAnyH_take (i := 7) (oi := ?oi106) (v := ?v106) ?hi106 (by kernel_rfl) (by kernel_rfl) (by kernel_rfl) ?hQ106 (Or.inl ⟨?hw106, ?hy106⟩) (by assumption) ?rest106
              case hi106 => simp only [List.getElem?_toArray, List.getElem?_cons_succ, List.getElem?_cons_zero]; rfl
              case hQ106 => exact fun _ _ _ h => h
              case hw106 => rfl
              case hy106 => (intro W hW; obtain ⟨d0, d1, d2, _⟩ := HCC.out W hW; go_simp; all_goals rfl)
              simp only [Act.put, List.setIfInBounds_toArray, List.set_cons_zero, List.set_cons_succ]
              refine wpAnyH_ready (rs := [2]) (by kernel_rfl) (by simp) ?_
              refine AllReadyH.cons (i := 2) (o := ?o107) ?ho107 (fun Kq hK => ?step107) AllReadyH.nil
              case ho107 => simp only [List.getElem?_toArray, List.getElem?_cons_succ, List.getElem?_cons_zero]; rfl
              go_simp
              (refine (putBytes_any _ none p.Ap 0 0 p.np p.cp _ [] p.ps Rd.nil (HP.out.kp (HCC.out _ hHeld).2.2.2).rd (by have := HP.out.np; omega) (Nat.le_refl _)).mono ?_; rintro e w24 ⟨v1, rfl, hO⟩)
              rw [HS.out.1] at hO
              obtain ⟨A1, c1, hv1, _⟩ := own_form hO.own
              subst hv1
              have hF1 : Below w23.heap.size w23 w24 := hHeld.trans ((hO.below (fun k hk => by cases hk) (Nat.le_refl _)).mono hHeld.size)
              have HO1 : Hd (Rd w24 w24.heap.size A1 n1 (cb ([] ++ uv p.np ++ p.ps)) ∧ Below w23.heap.size w23 w24) := ⟨Rd.of_own hO.own, hF1⟩
              clear hO
              refine hK.out _ _ hF1 (fun _ => ?_)
              clear hK
              try simp only [Act.put, List.setIfInBounds_toArray, List.set_cons_zero, List.set_cons_succ]
              refine wpAnyH_ready (rs := [5]) (by kernel_rfl) (by simp) ?_
              refine AllReadyH.cons (i := 5) (o := ?o108) ?ho108 (fun Kq hK => ?step108) AllReadyH.nil
              case ho108 => simp only [List.getElem?_toArray, List.getElem?_cons_succ, List.getElem?_cons_zero]; rfl
              go_simp
              (refine (putBytes_any _ A1 z.Ap n1 c1 z.np z.cp _ ([] ++ uv p.np ++ p.ps) z.ps HO1.out.1 (HZ.out.kp (HCC.out _ hF1).2.2.2).rd (by have := HZ.out.np; have := HS.out.2.2.2; omega) (Nat.le_refl _)).mono ?_; rintro e w25 ⟨v1, rfl, hO⟩)
              rw [HS.out.2.1] at hO
              obtain ⟨A2, c2, hv1, _⟩ := own_form hO.own
              subst hv1
              have hF2 : Below w23.heap.size w23 w25 := hF1.trans ((hO.below (fun k hk => by cases hk) (Nat.le_refl _)).mono hF1.size)
              have HO2 : Hd (Rd w25 w25.heap.size A2 n2 (cb ([] ++ uv p.np ++ p.ps ++ uv z.np ++ z.ps)) ∧ Below w23.heap.size w23 w25) := ⟨Rd.of_own hO.own, hF2⟩
              clear hO
              refine hK.out _ _ hF2 (fun _ => ?_)
              clear hK
              try simp only [Act.put, List.setIfInBounds_toArray, List.set_cons_zero, List.set_cons_succ]
              refine wpAnyH_ready (rs := [8]) (by kernel_rfl) (by simp) ?_
              refine AllReadyH.cons (i := 8) (o := ?o109) ?ho109 (fun Kq hK => ?step109) AllReadyH.nil
              case ho109 => simp only [List.getElem?_toArray, List.getElem?_cons_succ, List.getElem?_cons_zero]; rfl
              go_simp
              (refine (putTexts_any _ A2 p.At n2 c2 p.k p.ct _ ([] ++ uv p.np ++ p.ps ++ uv z.np ++ z.ps) p.ts HO2.out.1 (HP.out.kt (HCC.out _ hF2).2.2.2) (by have := HS.out.2.2.2; omega) (by have := HP.out.k; omega) (Nat.le_refl _)).mono ?_; rintro e w26 ⟨v1, rfl, hO⟩)
              rw [HS.out.2.2.1] at hO
              obtain ⟨A3, c3, hv1, _⟩ := own_form hO.own
              subst hv1
              have hF3 : Below w23.heap.size w23 w26 := hF2.trans ((hO.below (fun k hk => by cases hk) (Nat.le_refl _)).mono hF2.size)
              have HO3 : Hd (Rd w26 w26.heap.size A3 N (cb st) ∧ Below w23.heap.size w23 w26) := ⟨by have := Rd.of_own hO.own; rwa [HCU.out.2.2] at this, hF3⟩
              clear hO
              refine hK.out _ _ hF3 (fun _ => ?_)
              clear hK
              try simp only [Act.put, List.setIfInBounds_toArray, List.set_cons_zero, List.set_cons_succ]
              refine wpAnyH_take (i := 9) (oi := ?oi110) (v := ?v110) ?hi110 (by kernel_rfl) (by kernel_rfl) (by kernel_rfl) ?hQ110 (Or.inl ⟨?hw110, ?hy110⟩) (by assumption) ?rest110
              case hi110 => simp only [List.getElem?_toArray, List.getElem?_cons_succ, List.getElem?_cons_zero]; rfl
              case hQ110 => exact fun _ _ _ h => h
              case hw110 => rfl
              case hy110 => (intro W hW; obtain ⟨d0, d1, d2, _⟩ := HCC.out W hW; go_simp; all_goals rfl)
              simp only [Act.put, List.setIfInBounds_toArray, List.set_cons_zero, List.set_cons_succ]
              refine wpAnyH_done (by kernel_rfl) ?_ _
              have H26 : Hd (Ms w w26 (((45, .slice Ak 4 ck, [k1, k2, k3, k4].map slv) : Row) :: ([k1, k2, k3, k4].map slr)) ([] ++ [b2] ++ [b3]) ([] ++ [(b2, #[.slice p.Ab p.nb p.cb', .int .u64 (p.v : Int), .int .i64 p.sv, .slice p.Ap p.np p.cp, .slice p.At p.k p.ct], 51)] ++ [(b3, #[.slice z.Ab z.nb z.cb', .int .u64 (z.v : Int), .int .i64 z.sv, .slice z.Ap z.np z.cp, .slice z.At z.k z.ct], 51)])) := ⟨H23.out.below HO3.out.2⟩
              clear HO1 HO2 hF1 hF2 hF3 hHeld HCC H23
              as_aux_lemma =>
                go_wp2_with fail
                refine (H26.out.opened HO3.out.1 (by have := HS.out.2.2.2; omega) HCU.out.2.1).mono ?_
                rintro e w27 ⟨ga, Aa, ca, X1, rfl, hb1, hx1, hr1⟩
                have HA := Hd.mk (And.intro hb1 (And.intro hx1 hr1))
                clear hb1 hx1 hr1
                go_wp2_with fail
                refine ((H26.out.below HA.out.1).opened ((HO3.out.1.below HA.out.1).more HA.out.1.size) (by have := HS.out.2.2.2; omega) HCU.out.2.1).mono ?_
                rintro e w28 ⟨gb, Ab, cbb, X2, rfl, hb2, hx2, hr2⟩
                have T28 := Hd.mk (H26.out.two HA.out.1 HA.out.2.1 HA.out.2.2 hb2 hx2 hr2)
                have HPL : Hd (p.ps.length = p.np ∧ z.ps.length = z.np ∧ p.np ≤ 1048576 ∧ z.np ≤ 1048576 ∧ p.ts.length = p.k ∧ p.k ≤ 1048576) := ⟨by have := HP.out.rp.1; rwa [cb_length] at this, by have := HZ.out.rp.1; rwa [cb_length] at this, HP.out.np, HZ.out.np, by have := HP.out.rt.1; rwa [cs_len] at this, HP.out.k⟩
                clear hb2 hx2 hr2 HA H26 HO3
                as_aux_lemma =>
                  have d0 : w28.cell? ⟨b2, 3, none⟩ = some (.slice p.Ap p.np p.cp) := T28.out.ms.at_ 0 rfl 3 rfl
                  go_wp2_with fail
                  clear d0
                  refine (T28.out.block (pre := []) HPL.out.1 (by have := HPL.out.2.2.1; omega) HCU.out.1.c1 rfl HCU.out.1.a1).mono ?_
                  rintro e w29 ⟨D1, e1, rfl, hT⟩
                  have T29 := Hd.mk (hT)
                  clear hT T28
                  have d0 : w29.cell? ⟨b2, 3, none⟩ = some (.slice p.Ap p.np p.cp) := T29.out.ms.at_ 0 rfl 3 rfl
                  go_wp2_with fail
                  clear d0
                  refine (T29.out.swap.block (pre := []) HPL.out.1 (by have := HPL.out.2.2.1; omega) HCU.out.1.c1 rfl HCU.out.1.a1).mono ?_
                  rintro e w30 ⟨D2, e2, rfl, hT⟩
                  have T30 := Hd.mk (hT.swap)
                  clear hT T29
                  have d0 : w30.cell? ⟨b3, 3, none⟩ = some (.slice z.Ap z.np z.cp) := T30.out.ms.at_ 1 rfl 3 rfl
                  go_wp2_with fail
                  clear d0
                  refine (T30.out.block HPL.out.2.1 (by have := HPL.out.2.2.2.1; omega) HCU.out.1.c2 HCU.out.1.b1 HCU.out.1.a2).mono ?_
                  rintro e w31 ⟨D3, e3, rfl, hT⟩
                  have T31 := Hd.mk (hT)
                  clear hT T30
                  go_wp2_with fail
                  refine (T31.out.swap.num (n := z.np) (by have := HPL.out.2.2.2.1; omega) HCU.out.1.c3 HCU.out.1.b1 HCU.out.1.a3).mono ?_
                  rintro e w32 ⟨rfl, hT⟩
                  have T32 := Hd.mk (hT.swap)
                  clear hT T31
                  have d0 : w32.cell? ⟨b3, 3, none⟩ = some (.slice z.Ap z.np z.cp) := T32.out.ms.at_ 1 rfl 3 rfl
                  go_wp2_with fail
                  clear d0
                  refine (T32.out.swap.bytes HPL.out.2.1 (by have := HPL.out.2.2.2.1; omega) HCU.out.1.c4 HCU.out.1.b3 HCU.out.1.a4).mono ?_
                  rintro e w33 ⟨D4, e4, rfl, hT⟩
                  have T33 := Hd.mk (hT.swap)
                  clear hT T32
                  as_aux_lemma =>
                    have T34 := Hd.mk (T33.out.re (RL2 := [(45, .slice Ak 4 ck, [k1, k2, k3, k4].map slv), slr k1, slr k2, slr k3, slr k4, (5, .slice D1 p.np e1, cb p.ps), (5, .slice D2 p.np e2, cb p.ps), (5, .slice D3 z.np e3, cb z.ps), (5, .slice D4 z.np e4, cb z.ps)]) (by kernel_rfl))
                    clear T33
                    have HKD : Hd ((∀ x ∈ ([(D1, p.np, e1, p.ps), (D2, p.np, e2, p.ps), (D3, z.np, e3, z.ps), (D4, z.np, e4, z.ps)] : List Slc), Kp w33 x.1 x.2.1 x.2.2.2) ∧ ∀ x ∈ ([(p.Ap, p.np, p.cp, p.ps), (p.Ap, p.np, p.cp, p.ps), (z.Ap, z.np, z.cp, z.ps), (z.Ap, z.np, z.cp, z.ps)] : List Slc), Kp w33 x.1 x.2.1 x.2.2.2) := ⟨by
                      have q1 : Kp w33 D1 p.np p.ps := ⟨T34.out.ms.rd 5 rfl, HPL.out.1, HP.out.lp⟩
                      have q2 : Kp w33 D2 p.np p.ps := ⟨T34.out.ms.rd 6 rfl, HPL.out.1, HP.out.lp⟩
                      have q3 : Kp w33 D3 z.np z.ps := ⟨T34.out.ms.rd 7 rfl, HPL.out.2.1, HZ.out.lp⟩
                      have q4 : Kp w33 D4 z.np z.ps := ⟨T34.out.ms.rd 8 rfl, HPL.out.2.1, HZ.out.lp⟩
                      have b := T34.out.ms.be
                      refine ⟨fun x hx => ?_, fun x hx => ?_⟩
                      · simp only [List.mem_cons, List.not_mem_nil, or_false] at hx
                        rcases hx with rfl | rfl | rfl | rfl
                        · exact q1
                        · exact q2
                        · exact q3
                        · exact q4
                      · simp only [List.mem_cons, List.not_mem_nil, or_false] at hx
                        rcases hx with rfl | rfl | rfl | rfl
                        · exact HP.out.kp b
                        · exact HP.out.kp b
                        · exact HZ.out.kp b
                        · exact HZ.out.kp b⟩
                    obtain ⟨wa, hwa⟩ : ∃ U, w33.alloc (.cells #[.slice D1 p.np e1, .slice D2 p.np e2, .slice D3 z.np e3, .slice D4 z.np e4] 45) = U := ⟨_, rfl⟩
                    obtain ⟨wb, hwb⟩ : ∃ U, wa.alloc (.cells #[.slice p.Ap p.np p.cp, .slice p.Ap p.np p.cp, .slice z.Ap z.np z.cp, .slice z.Ap z.np z.cp] 45) = U := ⟨_, rfl⟩
                    have HRW : Hd (Rws wb (some ⟨w33.heap.size, 0, none⟩) 4 [p.ps, p.ps, z.ps, z.ps] ∧ Rws wb (some ⟨wa.heap.size, 0, none⟩) 4 [p.ps, p.ps, z.ps, z.ps] ∧ Below w33.heap.size w33 wb) := ⟨by
                      have hs : wa.heap.size = w33.heap.size + 1 := by rw [← hwa]; simp
                      rw [hs, ← hwb, ← hwa]
                      exact two_lit w33 [(D1, p.np, e1, p.ps), (D2, p.np, e2, p.ps), (D3, z.np, e3, z.ps), (D4, z.np, e4, z.ps)] [(p.Ap, p.np, p.cp, p.ps), (p.Ap, p.np, p.cp, p.ps), (z.Ap, z.np, z.cp, z.ps), (z.Ap, z.np, z.cp, z.ps)] HKD.out.1 HKD.out.2⟩
                    have hba : Below w33.heap.size w33 wa := by rw [← hwa]; exact (Below.refl _ _).alloc (Nat.le_refl _) _
                    have d1 : wa.cell? ⟨b2, 3, none⟩ = some (.slice p.Ap p.np p.cp) := (T34.out.below hba).ms.at_ 0 rfl 3 rfl
                    have d2 : wa.cell? ⟨b3, 3, none⟩ = some (.slice z.Ap z.np z.cp) := (T34.out.below hba).ms.at_ 1 rfl 3 rfl
                    clear hba
                    go_wp2_with fail
                    try rw [hwa]
                    try rw [hwb]
                    clear hwa hwb d1 d2 HKD
                    refine (same_any wb (some ⟨w33.heap.size, 0, none⟩) (some ⟨wa.heap.size, 0, none⟩) 4 4 4 [p.ps, p.ps, z.ps, z.ps] HRW.out.1 HRW.out.2.1 (by omega)).mono ?_
                    rintro e w34 ⟨rfl, hbe⟩
                    have T35 := Hd.mk (T34.out.below (HRW.out.2.2.trans (hbe.mono HRW.out.2.2.size)))
                    clear hbe HRW T34
                    go_wp2_with fail
                    refine (T35.out.apart (us := [.slice D1 p.np e1, .slice D2 p.np e2, .slice D3 z.np e3, .slice D4 z.np e4]) (I := [5, 6, 7, 8]) (RL2 := [(45, .slice Ak 4 ck, [k1, k2, k3, k4].map slv), slr k1, slr k2, slr k3, slr k4]) [0, 1, 2, 3, 4] (by kernel_rfl) (by decide) (by kernel_rfl) (by kernel_rfl) (by simp) (by
                      intro i hi x hx
                      have q1 := HPL.out.1
                      have q2 := HPL.out.2.1
                      have q3 := HPL.out.2.2.1
                      have q4 := HPL.out.2.2.2.1
                      simp only [List.mem_cons, List.not_mem_nil, or_false] at hi
                      rcases hi with rfl | rfl | rfl | rfl <;> (have e := Option.some.inj hx; rw [← e, cb_length]; omega)) (by decide) (by decide) (by kernel_rfl)).mono ?_
                    rintro e w35 ⟨rfl, hT⟩
                    have T36 := Hd.mk hT
                    clear hT T35
                    go_upto_if 180 with fail
                    go_cut [] from 22 (fun wx => wx = w35)
                    case first =>
                      go_wp2_with fail
                      go_meet
                      case rel => rfl
                    rw [hcut]
                    clear hcut
                    as_aux_lemma =>
                      go_upto_region 24 with fail
                      have TD := Hd.mk (T36.out.below ((Below.refl _ _).drew))
                      refine wp_region_held_drew (S := fun W => W.cell? ⟨b2, 4, none⟩ = some (.slice p.At p.k p.ct)) (by kernel_rfl) (TD.out.ms.at_ 0 rfl 4 rfl) (fun hHeld => ?_)
                      refine wpAnyH_take (i := 0) (oi := ?oi201) (v := ?v201) ?hi201 (by kernel_rfl) (by kernel_rfl) (by kernel_rfl) ?hQ201 (Or.inl ⟨?hw201, ?hy201⟩) (by assumption) ?rest201
                      case hi201 => simp only [List.getElem?_toArray, List.getElem?_cons_succ, List.getElem?_cons_zero]; rfl
                      case hQ201 => exact fun _ _ _ h => h
                      case hw201 => rfl
                      case hy201 => (intro W d0; go_simp; all_goals rfl)
                      simp only [Act.put, List.setIfInBounds_toArray, List.set_cons_zero, List.set_cons_succ]
                      refine wpAnyH_take (i := 1) (oi := ?oi202) (v := ?v202) ?hi202 (by kernel_rfl) (by kernel_rfl) (by kernel_rfl) ?hQ202 (Or.inl ⟨?hw202, ?hy202⟩) (by assumption) ?rest202
                      case hi202 => simp only [List.getElem?_toArray, List.getElem?_cons_succ, List.getElem?_cons_zero]; rfl
                      case hQ202 => exact fun _ _ _ h => h
                      case hw202 => rfl
                      case hy202 => (intro W d0; go_simp; all_goals rfl)
                      simp only [Act.put, List.setIfInBounds_toArray, List.set_cons_zero, List.set_cons_succ]
                      refine wpAnyH_take (i := 2) (oi := ?oi203) (v := ?v203) ?hi203 (by kernel_rfl) (by kernel_rfl) (by kernel_rfl) ?hQ203 (Or.inl ⟨?hw203, ?hy203⟩) (by assumption) ?rest203
                      case hi203 => simp only [List.getElem?_toArray, List.getElem?_cons_succ, List.getElem?_cons_zero]; rfl
                      case hQ203 => exact fun _ _ _ h => h
                      case hw203 => rfl
                      case hy203 => (intro W d0; go_simp; all_goals rfl)
                      simp only [Act.put, List.setIfInBounds_toArray, List.set_cons_zero, List.set_cons_succ]
                      refine wpAnyH_take (i := 3) (oi := ?oi204) (v := ?v204) ?hi204 (by kernel_rfl) (by kernel_rfl) (by kernel_rfl) ?hQ204 (Or.inl ⟨?hw204, ?hy204⟩) (by assumption) ?rest204
                      case hi204 => simp only [List.getElem?_toArray, List.getElem?_cons_succ, List.getElem?_cons_zero]; rfl
                      case hQ204 => exact fun _ _ _ h => h
                      case hw204 => rfl
                      case hy204 => (intro W d0; go_simp; all_goals rfl)
                      simp only [Act.put, List.setIfInBounds_toArray, List.set_cons_zero, List.set_cons_succ]
                      refine wpAnyH_take (i := 4) (oi := ?oi205) (v := ?v205) ?hi205 (by kernel_rfl) (by kernel_rfl) (by kernel_rfl) ?hQ205 (Or.inl ⟨?hw205, ?hy205⟩) (by assumption) ?rest205
                      case hi205 => simp only [List.getElem?_toArray, List.getElem?_cons_succ, List.getElem?_cons_zero]; rfl
                      case hQ205 => exact fun _ _ _ h => h
                      case hw205 => rfl
                      case hy205 => (intro W d0; go_simp; all_goals rfl)
                      simp only [Act.put, List.setIfInBounds_toArray, List.set_cons_zero, List.set_cons_succ]
                      refine wpAnyH_take (i := 5) (oi := ?oi206) (v := ?v206) ?hi206 (by kernel_rfl) (by kernel_rfl) (by kernel_rfl) ?hQ206 (Or.inl ⟨?hw206, ?hy206⟩) (by assumption) ?rest206
                      case hi206 => simp only [List.getElem?_toArray, List.getElem?_cons_succ, List.getElem?_cons_zero]; rfl
                      case hQ206 => exact fun _ _ _ h => h
                      case hw206 => rfl
                      case hy206 => (intro W d0; go_simp; all_goals rfl)
                      simp only [Act.put, List.setIfInBounds_toArray, List.set_cons_zero, List.set_cons_succ]
                      refine wpAnyH_ready (rs := [6]) (by kernel_rfl) (by simp) ?_
                      refine AllReadyH.cons (i := 6) (o := ?o207) ?ho207 (fun Kq hK => ?step207) AllReadyH.nil
                      case ho207 => simp only [List.getElem?_toArray, List.getElem?_cons_succ, List.getElem?_cons_zero]; rfl
                      go_simp
                      (refine (longest_any _ p.At p.k p.ct _ p.ts (HP.out.kt TD.out.ms.be) (by have := HPL.out.2.2.2.2.2; omega) (fun t ht => by have := ssum_memM _ t ht; have := HP.out.ss; omega)).mono ?_; rintro e wq ⟨rfl, rfl⟩)
                      refine hK.out _ _ hHeld (fun _ => ?_)
                      clear hK
                      try simp only [Act.put, List.setIfInBounds_toArray, List.set_cons_zero, List.set_cons_succ]
                      refine wpAnyH_ready (rs := [7]) (by kernel_rfl) (by simp) ?_
                      refine AllReadyH.cons (i := 7) (o := ?o208) ?ho208 (fun Kq hK => ?step208) AllReadyH.nil
                      case ho208 => simp only [List.getElem?_toArray, List.getElem?_cons_succ, List.getElem?_cons_zero]; rfl
                      go_simp
                      (refine (TD.out.texts HPL.out.2.2.2.2.1 (by have := HPL.out.2.2.2.2.2; omega) (fun t ht => by have := ssum_memM _ t ht; have := HP.out.ss; omega) HCU.out.1.c5 HCU.out.1.b4 HCU.out.1.a5).mono ?_; rintro e w36 ⟨D5, e5, rfl, hT⟩)
                      have hF : w36.cell? ⟨b2, 4, none⟩ = some (.slice p.At p.k p.ct) := hT.ms.at_ 0 rfl 4 rfl
                      have T37 := Hd.mk (hT)
                      clear hT
                      refine hK.out _ _ hF (fun _ => ?_)
                      clear hK
                      try simp only [Act.put, List.setIfInBounds_toArray, List.set_cons_zero, List.set_cons_succ]
                      refine wpAnyH_take (i := 8) (oi := ?oi209) (v := ?v209) ?hi209 (by kernel_rfl) (by kernel_rfl) (by kernel_rfl) ?hQ209 (Or.inl ⟨?hw209, ?hy209⟩) (by assumption) ?rest209
                      case hi209 => simp only [List.getElem?_toArray, List.getElem?_cons_succ, List.getElem?_cons_zero]; rfl
                      case hQ209 => exact fun _ _ _ h => h
                      case hw209 => rfl
                      case hy209 => (intro W d0; go_simp; all_goals rfl)
                      simp only [Act.put, List.setIfInBounds_toArray, List.set_cons_zero, List.set_cons_succ]
                      refine wpAnyH_done (by kernel_rfl) ?_ _
                      clear hF hHeld TD T36
                      go_upto_region 25 with fail
                      have TD := Hd.mk (T37.out.below ((Below.refl _ _).drew))
                      refine wp_region_held_drew (S := fun W => W.cell? ⟨b2, 4, none⟩ = some (.slice p.At p.k p.ct)) (by kernel_rfl) (TD.out.ms.at_ 0 rfl 4 rfl) (fun hHeld => ?_)
                      refine wpAnyH_take (i := 0) (oi := ?oi301) (v := ?v301) ?hi301 (by kernel_rfl) (by kernel_rfl) (by kernel_rfl) ?hQ301 (Or.inl ⟨?hw301, ?hy301⟩) (by assumption) ?rest301
                      case hi301 => simp only [List.getElem?_toArray, List.getElem?_cons_succ, List.getElem?_cons_zero]; rfl
                      case hQ301 => exact fun _ _ _ h => h
                      case hw301 => rfl
                      case hy301 => (intro W d0; go_simp; all_goals rfl)
                      simp only [Act.put, List.setIfInBounds_toArray, List.set_cons_zero, List.set_cons_succ]
                      refine wpAnyH_take (i := 1) (oi := ?oi302) (v := ?v302) ?hi302 (by kernel_rfl) (by kernel_rfl) (by kernel_rfl) ?hQ302 (Or.inl ⟨?hw302, ?hy302⟩) (by assumption) ?rest302
                      case hi302 => simp only [List.getElem?_toArray, List.getElem?_cons_succ, List.getElem?_cons_zero]; rfl
                      case hQ302 => exact fun _ _ _ h => h
                      case hw302 => rfl
                      case hy302 => (intro W d0; go_simp; all_goals rfl)
                      simp only [Act.put, List.setIfInBounds_toArray, List.set_cons_zero, List.set_cons_succ]
                      refine wpAnyH_take (i := 2) (oi := ?oi303) (v := ?v303) ?hi303 (by kernel_rfl) (by kernel_rfl) (by kernel_rfl) ?hQ303 (Or.inl ⟨?hw303, ?hy303⟩) (by assumption) ?rest303
                      case hi303 => simp only [List.getElem?_toArray, List.getElem?_cons_succ, List.getElem?_cons_zero]; rfl
                      case hQ303 => exact fun _ _ _ h => h
                      case hw303 => rfl
                      case hy303 => (intro W d0; go_simp; all_goals rfl)
                      simp only [Act.put, List.setIfInBounds_toArray, List.set_cons_zero, List.set_cons_succ]
                      refine wpAnyH_take (i := 3) (oi := ?oi304) (v := ?v304) ?hi304 (by kernel_rfl) (by kernel_rfl) (by kernel_rfl) ?hQ304 (Or.inl ⟨?hw304, ?hy304⟩) (by assumption) ?rest304
                      case hi304 => simp only [List.getElem?_toArray, List.getElem?_cons_succ, List.getElem?_cons_zero]; rfl
                      case hQ304 => exact fun _ _ _ h => h
                      case hw304 => rfl
                      case hy304 => (intro W d0; go_simp; all_goals rfl)
                      simp only [Act.put, List.setIfInBounds_toArray, List.set_cons_zero, List.set_cons_succ]
                      refine wpAnyH_take (i := 4) (oi := ?oi305) (v := ?v305) ?hi305 (by kernel_rfl) (by kernel_rfl) (by kernel_rfl) ?hQ305 (Or.inl ⟨?hw305, ?hy305⟩) (by assumption) ?rest305
                      case hi305 => simp only [List.getElem?_toArray, List.getElem?_cons_succ, List.getElem?_cons_zero]; rfl
                      case hQ305 => exact fun _ _ _ h => h
                      case hw305 => rfl
                      case hy305 => (intro W d0; go_simp; all_goals rfl)
                      simp only [Act.put, List.setIfInBounds_toArray, List.set_cons_zero, List.set_cons_succ]
                      refine wpAnyH_take (i := 5) (oi := ?oi306) (v := ?v306) ?hi306 (by kernel_rfl) (by kernel_rfl) (by kernel_rfl) ?hQ306 (Or.inl ⟨?hw306, ?hy306⟩) (by assumption) ?rest306
                      case hi306 => simp only [List.getElem?_toArray, List.getElem?_cons_succ, List.getElem?_cons_zero]; rfl
                      case hQ306 => exact fun _ _ _ h => h
                      case hw306 => rfl
                      case hy306 => (intro W d0; go_simp; all_goals rfl)
                      simp only [Act.put, List.setIfInBounds_toArray, List.set_cons_zero, List.set_cons_succ]
                      refine wpAnyH_ready (rs := [6]) (by kernel_rfl) (by simp) ?_
                      refine AllReadyH.cons (i := 6) (o := ?o307) ?ho307 (fun Kq hK => ?step307) AllReadyH.nil
                      case ho307 => simp only [List.getElem?_toArray, List.getElem?_cons_succ, List.getElem?_cons_zero]; rfl
                      go_simp
                      (refine (longest_any _ p.At p.k p.ct _ p.ts (HP.out.kt TD.out.ms.be) (by have := HPL.out.2.2.2.2.2; omega) (fun t ht => by have := ssum_memM _ t ht; have := HP.out.ss; omega)).mono ?_; rintro e wq ⟨rfl, rfl⟩)
                      refine hK.out _ _ hHeld (fun _ => ?_)
                      clear hK
                      try simp only [Act.put, List.setIfInBounds_toArray, List.set_cons_zero, List.set_cons_succ]
                      refine wpAnyH_ready (rs := [7]) (by kernel_rfl) (by simp) ?_
                      refine AllReadyH.cons (i := 7) (o := ?o308) ?ho308 (fun Kq hK => ?step308) AllReadyH.nil
                      case ho308 => simp only [List.getElem?_toArray, List.getElem?_cons_succ, List.getElem?_cons_zero]; rfl
                      go_simp
                      (refine (TD.out.swap.texts HPL.out.2.2.2.2.1 (by have := HPL.out.2.2.2.2.2; omega) (fun t ht => by have := ssum_memM _ t ht; have := HP.out.ss; omega) HCU.out.1.c5 HCU.out.1.b4 HCU.out.1.a5).mono ?_; rintro e w37 ⟨D6, e6, rfl, hT⟩)
                      have hF : w37.cell? ⟨b2, 4, none⟩ = some (.slice p.At p.k p.ct) := hT.ms.at_ 0 rfl 4 rfl
                      have T38 := Hd.mk (hT.swap)
                      clear hT
                      refine hK.out _ _ hF (fun _ => ?_)
                      clear hK
                      try simp only [Act.put, List.setIfInBounds_toArray, List.set_cons_zero, List.set_cons_succ]
                      refine wpAnyH_take (i := 8) (oi := ?oi309) (v := ?v309) ?hi309 (by kernel_rfl) (by kernel_rfl) (by kernel_rfl) ?hQ309 (Or.inl ⟨?hw309, ?hy309⟩) (by assumption) ?rest309
                      case hi309 => simp only [List.getElem?_toArray, List.getElem?_cons_succ, List.getElem?_cons_zero]; rfl
                      case hQ309 => exact fun _ _ _ h => h
                      case hw309 => rfl
                      case hy309 => (intro W d0; go_simp; all_goals rfl)
                      simp only [Act.put, List.setIfInBounds_toArray, List.set_cons_zero, List.set_cons_succ]
                      refine wpAnyH_done (by kernel_rfl) ?_ _
                      clear hF hHeld TD T37
                      as_aux_lemma =>
                        have HK2 : Hd (Kp w37 k2.1 k2.2.1 k2.2.2.2 ∧ Kp w37 k4.1 k4.2.1 k4.2.2.2 ∧ k2.2.2.2 = p.ps ∧ k4.2.2.2 = z.ps) := ⟨T38.out.ms.kp (x := k2) (List.mem_of_getElem? (i := 2) (by kernel_rfl)) (HK.out.2 k2 (by simp)), T38.out.ms.kp (x := k4) (List.mem_of_getElem? (i := 4) (by kernel_rfl)) (HK.out.2 k4 (by simp)), by
                          have := HK.out.1
                          simp only [List.map_cons, List.cons.injEq] at this
                          exact ⟨this.2.1, this.2.2.2.1⟩⟩
                        have ho0 := T38.out.ms.bag.own (45, .slice Ak 4 ck, [k1, k2, k3, k4].map slv) (List.mem_of_getElem? (i := 0) (by kernel_rfl))
                        obtain ⟨gk, capk, hAk, _, hgk⟩ := own_pos ho0 (by simp)
                        injection hAk with q1 q2 q3
                        clear q2 q3
                        subst q1
                        have ho1 : w37.ownsRow w.heap.size 45 1 (.slice (some ⟨gk, 0, none⟩) 4 ck) 4 ([k1, k2, k3, k4].map slv) := ho0
                        have HCC : Hd (∀ W, Below w37.heap.size w37 W → W.cell? ⟨b2, 4, none⟩ = some (.slice p.At p.k p.ct) ∧ W.cell? ⟨b2, 3, none⟩ = some (.slice p.Ap p.np p.cp) ∧ W.cell? ⟨b3, 3, none⟩ = some (.slice z.Ap z.np z.cp) ∧ W.cell? ⟨gk, 1, none⟩ = some (.slice k2.1 k2.2.1 k2.2.2.1) ∧ W.cell? ⟨gk, 3, none⟩ = some (.slice k4.1 k4.2.1 k4.2.2.1)) := ⟨fun W hW => ⟨(T38.out.below hW).ms.at_ 0 rfl 4 rfl, (T38.out.below hW).ms.at_ 0 rfl 3 rfl, (T38.out.below hW).ms.at_ 1 rfl 3 rfl, (hW.cell (p := ⟨gk, 1, none⟩) hgk).trans (own_atG ho1 (j := 1) (u := slv k2) rfl).1, (hW.cell (p := ⟨gk, 3, none⟩) hgk).trans (own_atG ho1 (j := 3) (u := slv k4) rfl).1⟩⟩
                        have T39 := Hd.mk (T38.out.sel [5, 6] (RL2 := [(9, .slice D5 p.k e5, cs p.ts), (9, .slice D6 p.k e6, cs p.ts)]) (by kernel_rfl) (by decide) (by kernel_rfl))
                        clear T38 HK ho0 ho1 hgk
                        go_upto_region 26 with fail
                        go_cut [234] from 197 to 234 (fun r wx => r = .bool false ∧ Ms w wx [(9, .slice D5 p.k e5, cs p.ts), (9, .slice D6 p.k e6, cs p.ts)] ((([] ++ [b2] ++ [b3]) ++ (ga :: X1)) ++ (gb :: X2)) ([] ++ [(b2, #[.slice p.Ab p.nb p.cb', .int .u64 (p.v : Int), .int .i64 p.sv, .slice p.Ap p.np p.cp, .slice p.At p.k p.ct], 51)] ++ [(b3, #[.slice z.Ab z.nb z.cb', .int .u64 (z.v : Int), .int .i64 z.sv, .slice z.Ap z.np z.cp, .slice z.At z.k z.ct], 51)]))
                        case first =>
                          have TD := Hd.mk (T39.out.below ((Below.refl _ _).drew))
                          refine wp_region_held_drew (S := fun W => Below w37.heap.size w37 W) (by kernel_rfl) ((Below.refl _ _).drew) (fun hHeld => ?_)
                          refine wpAnyH_take (i := 0) (oi := ?oi401) (v := ?v401) ?hi401 (by kernel_rfl) (by kernel_rfl) (by kernel_rfl) ?hQ401 (Or.inl ⟨?hw401, ?hy401⟩) (by assumption) ?rest401
                          case hi401 => simp only [List.getElem?_toArray, List.getElem?_cons_succ, List.getElem?_cons_zero]; rfl
                          case hQ401 => exact fun _ _ _ h => h
                          case hw401 => rfl
                          case hy401 => (intro W hW; obtain ⟨d0, d1, d2, d3, d4⟩ := HCC.out W hW; go_simp; all_goals rfl)
                          simp only [Act.put, List.setIfInBounds_toArray, List.set_cons_zero, List.set_cons_succ]
                          refine wpAnyH_ready (rs := [1]) (by kernel_rfl) (by simp) ?_
                          refine AllReadyH.cons (i := 1) (o := ?o402) ?ho402 (fun Kq hK => ?step402) AllReadyH.nil
                          case ho402 => simp only [List.getElem?_toArray, List.getElem?_cons_succ, List.getElem?_cons_zero]; rfl
                          go_simp
                          (refine (TD.out.fin rfl).mono ?_; rintro e w38 ⟨rfl, hT, hb⟩)
                          have hF1 : Below w37.heap.size w37 w38 := hHeld.trans (hb.mono hHeld.size)
                          have T40 := Hd.mk (hT)
                          clear hT hb
                          refine hK.out _ _ hF1 (fun _ => ?_)
                          clear hK
                          try simp only [Act.put, List.setIfInBounds_toArray, List.set_cons_zero, List.set_cons_succ]
                          refine wpAnyH_take (i := 2) (oi := ?oi403) (v := ?v403) ?hi403 (by kernel_rfl) (by kernel_rfl) (by kernel_rfl) ?hQ403 (Or.inl ⟨?hw403, ?hy403⟩) (by assumption) ?rest403
                          case hi403 => simp only [List.getElem?_toArray, List.getElem?_cons_succ, List.getElem?_cons_zero]; rfl
                          case hQ403 => exact fun _ _ _ h => h
                          case hw403 => rfl
                          case hy403 => (intro W hW; obtain ⟨d0, d1, d2, d3, d4⟩ := HCC.out W hW; go_simp; all_goals rfl)
                          simp only [Act.put, List.setIfInBounds_toArray, List.set_cons_zero, List.set_cons_succ]
                          refine wpAnyH_take (i := 3) (oi := ?oi404) (v := ?v404) ?hi404 (by kernel_rfl) (by kernel_rfl) (by kernel_rfl) ?hQ404 (Or.inl ⟨?hw404, ?hy404⟩) (by assumption) ?rest404
                          case hi404 => simp only [List.getElem?_toArray, List.getElem?_cons_succ, List.getElem?_cons_zero]; rfl
                          case hQ404 => exact fun _ _ _ h => h
                          case hw404 => rfl
                          case hy404 => (intro W hW; obtain ⟨d0, d1, d2, d3, d4⟩ := HCC.out W hW; go_simp; all_goals rfl)
                          simp only [Act.put, List.setIfInBounds_toArray, List.set_cons_zero, List.set_cons_succ]
                          refine wpAnyH_take (i := 4) (oi := ?oi405) (v := ?v405) ?hi405 (by kernel_rfl) (by kernel_rfl) (by kernel_rfl) ?hQ405 (Or.inl ⟨?hw405, ?hy405⟩) (by assumption) ?rest405
                          case hi405 => simp only [List.getElem?_toArray, List.getElem?_cons_succ, List.getElem?_cons_zero]; rfl
                          case hQ405 => exact fun _ _ _ h => h
                          case hw405 => rfl
                          case hy405 => (intro W hW; obtain ⟨d0, d1, d2, d3, d4⟩ := HCC.out W hW; go_simp; all_goals rfl)
                          simp only [Act.put, List.setIfInBounds_toArray, List.set_cons_zero, List.set_cons_succ]
                          refine wpAnyH_ready (rs := [5]) (by kernel_rfl) (by simp) ?_
                          refine AllReadyH.cons (i := 5) (o := ?o406) ?ho406 (fun Kq hK => ?step406) AllReadyH.nil
                          case ho406 => simp only [List.getElem?_toArray, List.getElem?_cons_succ, List.getElem?_cons_zero]; rfl
                          go_simp
                          (refine (T40.out.swap.fin rfl).mono ?_; rintro e w39 ⟨rfl, hT, hb⟩)
                          have hF2 : Below w37.heap.size w37 w39 := hF1.trans (hb.mono hF1.size)
                          have T41 := Hd.mk (hT.swap)
                          clear hT hb
                          refine hK.out _ _ hF2 (fun _ => ?_)
                          clear hK
                          try simp only [Act.put, List.setIfInBounds_toArray, List.set_cons_zero, List.set_cons_succ]
                          refine wpAnyH_take (i := 6) (oi := ?oi407) (v := ?v407) ?hi407 (by kernel_rfl) (by kernel_rfl) (by kernel_rfl) ?hQ407 (Or.inl ⟨?hw407, ?hy407⟩) (by assumption) ?rest407
                          case hi407 => simp only [List.getElem?_toArray, List.getElem?_cons_succ, List.getElem?_cons_zero]; rfl
                          case hQ407 => exact fun _ _ _ h => h
                          case hw407 => rfl
                          case hy407 => (intro W hW; obtain ⟨d0, d1, d2, d3, d4⟩ := HCC.out W hW; go_simp; all_goals rfl)
                          simp only [Act.put, List.setIfInBounds_toArray, List.set_cons_zero, List.set_cons_succ]
                          refine wpAnyH_take (i := 7) (oi := ?oi408) (v := ?v408) ?hi408 (by kernel_rfl) (by kernel_rfl) (by kernel_rfl) ?hQ408 (Or.inl ⟨?hw408, ?hy408⟩) (by assumption) ?rest408
                          case hi408 => simp only [List.getElem?_toArray, List.getElem?_cons_succ, List.getElem?_cons_zero]; rfl
                          case hQ408 => exact fun _ _ _ h => h
                          case hw408 => rfl
                          case hy408 => (intro W hW; obtain ⟨d0, d1, d2, d3, d4⟩ := HCC.out W hW; go_simp; all_goals rfl)
                          simp only [Act.put, List.setIfInBounds_toArray, List.set_cons_zero, List.set_cons_succ]
                          refine wpAnyH_take (i := 8) (oi := ?oi409) (v := ?v409) ?hi409 (by kernel_rfl) (by kernel_rfl) (by kernel_rfl) ?hQ409 (Or.inl ⟨?hw409, ?hy409⟩) (by assumption) ?rest409
                          case hi409 => simp only [List.getElem?_toArray, List.getElem?_cons_succ, List.getElem?_cons_zero]; rfl
                          case hQ409 => exact fun _ _ _ h => h
                          case hw409 => rfl
                          case hy409 => (intro W hW; obtain ⟨d0, d1, d2, d3, d4⟩ := HCC.out W hW; go_simp; all_goals rfl)
                          simp only [Act.put, List.setIfInBounds_toArray, List.set_cons_zero, List.set_cons_succ]
                          refine wpAnyH_take (i := 9) (oi := ?oi410) (v := ?v410) ?hi410 (by kernel_rfl) (by kernel_rfl) (by kernel_rfl) ?hQ410 (Or.inl ⟨?hw410, ?hy410⟩) (by assumption) ?rest410
                          case hi410 => simp only [List.getElem?_toArray, List.getElem?_cons_succ, List.getElem?_cons_zero]; rfl
                          case hQ410 => exact fun _ _ _ h => h
                          case hw410 => rfl
                          case hy410 => (intro W hW; obtain ⟨d0, d1, d2, d3, d4⟩ := HCC.out W hW; go_simp; all_goals rfl)
                          simp only [Act.put, List.setIfInBounds_toArray, List.set_cons_zero, List.set_cons_succ]
                          refine wpAnyH_take (i := 10) (oi := ?oi411) (v := ?v411) ?hi411 (by kernel_rfl) (by kernel_rfl) (by kernel_rfl) ?hQ411 (Or.inl ⟨?hw411, ?hy411⟩) (by assumption) ?rest411
                          case hi411 => simp only [List.getElem?_toArray, List.getElem?_cons_succ, List.getElem?_cons_zero]; rfl
                          case hQ411 => exact fun _ _ _ h => h
                          case hw411 => rfl
                          case hy411 => (intro W hW; obtain ⟨d0, d1, d2, d3, d4⟩ := HCC.out W hW; go_simp; all_goals rfl)
                          simp only [Act.put, List.setIfInBounds_toArray, List.set_cons_zero, List.set_cons_succ]
                          refine wpAnyH_take (i := 11) (oi := ?oi412) (v := ?v412) ?hi412 (by kernel_rfl) (by kernel_rfl) (by kernel_rfl) ?hQ412 (Or.inl ⟨?hw412, ?hy412⟩) (by assumption) ?rest412
                          case hi412 => simp only [List.getElem?_toArray, List.getElem?_cons_succ, List.getElem?_cons_zero]; rfl
                          case hQ412 => exact fun _ _ _ h => h
                          case hw412 => rfl
                          case hy412 => (intro W hW; obtain ⟨d0, d1, d2, d3, d4⟩ := HCC.out W hW; go_simp; all_goals rfl)
                          simp only [Act.put, List.setIfInBounds_toArray, List.set_cons_zero, List.set_cons_succ]
                          refine wpAnyH_ready (rs := [12]) (by kernel_rfl) (by simp) ?_
                          refine AllReadyH.cons (i := 12) (o := ?o413) ?ho413 (fun Kq hK => ?step413) AllReadyH.nil
                          case ho413 => simp only [List.getElem?_toArray, List.getElem?_cons_succ, List.getElem?_cons_zero]; rfl
                          go_simp
                          (refine (sameTexts_any _ D5 p.At p.k e5 p.ct _ p.ts (T41.out.ms.rd 0 rfl) (HP.out.kt T41.out.ms.be) (by have := HPL.out.2.2.2.2.2; omega)).mono ?_; rintro e w40 ⟨rfl, hb⟩)
                          have hF3 : Below w37.heap.size w37 w40 := hF2.trans (hb.mono hF2.size)
                          have T42 := Hd.mk (T41.out.below hb)
                          clear hb
                          refine hK.out _ _ hF3 (fun _ => ?_)
                          clear hK
                          try simp only [Act.put, List.setIfInBounds_toArray, List.set_cons_zero, List.set_cons_succ]
                          refine wpAnyH_take (i := 13) (oi := ?oi414) (v := ?v414) ?hi414 (by kernel_rfl) (by kernel_rfl) (by kernel_rfl) ?hQ414 (Or.inl ⟨?hw414, ?hy414⟩) (by assumption) ?rest414
                          case hi414 => simp only [List.getElem?_toArray, List.getElem?_cons_succ, List.getElem?_cons_zero]; rfl
                          case hQ414 => exact fun _ _ _ h => h
                          case hw414 => rfl
                          case hy414 => (intro W hW; obtain ⟨d0, d1, d2, d3, d4⟩ := HCC.out W hW; go_simp; all_goals rfl)
                          simp only [Act.put, List.setIfInBounds_toArray, List.set_cons_zero, List.set_cons_succ]
                          refine wpAnyH_take (i := 14) (oi := ?oi415) (v := ?v415) ?hi415 (by kernel_rfl) (by kernel_rfl) (by kernel_rfl) ?hQ415 (Or.inl ⟨?hw415, ?hy415⟩) (by assumption) ?rest415
                          case hi415 => simp only [List.getElem?_toArray, List.getElem?_cons_succ, List.getElem?_cons_zero]; rfl
                          case hQ415 => exact fun _ _ _ h => h
                          case hw415 => rfl
                          case hy415 => (intro W hW; obtain ⟨d0, d1, d2, d3, d4⟩ := HCC.out W hW; go_simp; all_goals rfl)
                          simp only [Act.put, List.setIfInBounds_toArray, List.set_cons_zero, List.set_cons_succ]
                          refine wpAnyH_take (i := 15) (oi := ?oi416) (v := ?v416) ?hi416 (by kernel_rfl) (by kernel_rfl) (by kernel_rfl) ?hQ416 (Or.inl ⟨?hw416, ?hy416⟩) (by assumption) ?rest416
                          case hi416 => simp only [List.getElem?_toArray, List.getElem?_cons_succ, List.getElem?_cons_zero]; rfl
                          case hQ416 => exact fun _ _ _ h => h
                          case hw416 => rfl
                          case hy416 => (intro W hW; obtain ⟨d0, d1, d2, d3, d4⟩ := HCC.out W hW; go_simp; all_goals rfl)
                          simp only [Act.put, List.setIfInBounds_toArray, List.set_cons_zero, List.set_cons_succ]
                          refine wpAnyH_take (i := 16) (oi := ?oi417) (v := ?v417) ?hi417 (by kernel_rfl) (by kernel_rfl) (by kernel_rfl) ?hQ417 (Or.inl ⟨?hw417, ?hy417⟩) (by assumption) ?rest417
                          case hi417 => simp only [List.getElem?_toArray, List.getElem?_cons_succ, List.getElem?_cons_zero]; rfl
                          case hQ417 => exact fun _ _ _ h => h
                          case hw417 => rfl
                          case hy417 => (intro W hW; obtain ⟨d0, d1, d2, d3, d4⟩ := HCC.out W hW; go_simp; all_goals rfl)
                          simp only [Act.put, List.setIfInBounds_toArray, List.set_cons_zero, List.set_cons_succ]
                          refine wpAnyH_take (i := 17) (oi := ?oi418) (v := ?v418) ?hi418 (by kernel_rfl) (by kernel_rfl) (by kernel_rfl) ?hQ418 (Or.inl ⟨?hw418, ?hy418⟩) (by assumption) ?rest418
                          case hi418 => simp only [List.getElem?_toArray, List.getElem?_cons_succ, List.getElem?_cons_zero]; rfl
                          case hQ418 => exact fun _ _ _ h => h
                          case hw418 => rfl
                          case hy418 => (intro W hW; obtain ⟨d0, d1, d2, d3, d4⟩ := HCC.out W hW; go_simp; all_goals rfl)
                          simp only [Act.put, List.setIfInBounds_toArray, List.set_cons_zero, List.set_cons_succ]
                          refine wpAnyH_take (i := 18) (oi := ?oi419) (v := ?v419) ?hi419 (by kernel_rfl) (by kernel_rfl) (by kernel_rfl) ?hQ419 (Or.inl ⟨?hw419, ?hy419⟩) (by assumption) ?rest419
                          case hi419 => simp only [List.getElem?_toArray, List.getElem?_cons_succ, List.getElem?_cons_zero]; rfl
                          case hQ419 => exact fun _ _ _ h => h
                          case hw419 => rfl
                          case hy419 => (intro W hW; obtain ⟨d0, d1, d2, d3, d4⟩ := HCC.out W hW; go_simp; all_goals rfl)
                          simp only [Act.put, List.setIfInBounds_toArray, List.set_cons_zero, List.set_cons_succ]
                          refine wpAnyH_ready (rs := [19]) (by kernel_rfl) (by simp) ?_
                          refine AllReadyH.cons (i := 19) (o := ?o420) ?ho420 (fun Kq hK => ?step420) AllReadyH.nil
                          case ho420 => simp only [List.getElem?_toArray, List.getElem?_cons_succ, List.getElem?_cons_zero]; rfl
                          go_simp
                          (refine (sameTexts_any _ D6 p.At p.k e6 p.ct _ p.ts (T42.out.ms.rd 1 rfl) (HP.out.kt T42.out.ms.be) (by have := HPL.out.2.2.2.2.2; omega)).mono ?_; rintro e w41 ⟨rfl, hb⟩)
                          have hF4 : Below w37.heap.size w37 w41 := hF3.trans (hb.mono hF3.size)
                          have T43 := Hd.mk (T42.out.below hb)
                          clear hb
                          refine hK.out _ _ hF4 (fun _ => ?_)
                          clear hK
                          try simp only [Act.put, List.setIfInBounds_toArray, List.set_cons_zero, List.set_cons_succ]
                          refine wpAnyH_take (i := 20) (oi := ?oi421) (v := ?v421) ?hi421 (by kernel_rfl) (by kernel_rfl) (by kernel_rfl) ?hQ421 (Or.inl ⟨?hw421, ?hy421⟩) (by assumption) ?rest421
                          case hi421 => simp only [List.getElem?_toArray, List.getElem?_cons_succ, List.getElem?_cons_zero]; rfl
                          case hQ421 => exact fun _ _ _ h => h
                          case hw421 => rfl
                          case hy421 => (intro W hW; obtain ⟨d0, d1, d2, d3, d4⟩ := HCC.out W hW; go_simp; all_goals rfl)
                          simp only [Act.put, List.setIfInBounds_toArray, List.set_cons_zero, List.set_cons_succ]
                          refine wpAnyH_take (i := 21) (oi := ?oi422) (v := ?v422) ?hi422 (by kernel_rfl) (by kernel_rfl) (by kernel_rfl) ?hQ422 (Or.inl ⟨?hw422, ?hy422⟩) (by assumption) ?rest422
                          case hi422 => simp only [List.getElem?_toArray, List.getElem?_cons_succ, List.getElem?_cons_zero]; rfl
                          case hQ422 => exact fun _ _ _ h => h
                          case hw422 => rfl
                          case hy422 => (intro W hW; obtain ⟨d0, d1, d2, d3, d4⟩ := HCC.out W hW; go_simp; all_goals rfl)
                          simp only [Act.put, List.setIfInBounds_toArray, List.set_cons_zero, List.set_cons_succ]
                          refine wpAnyH_take (i := 22) (oi := ?oi423) (v := ?v423) ?hi423 (by kernel_rfl) (by kernel_rfl) (by kernel_rfl) ?hQ423 (Or.inl ⟨?hw423, ?hy423⟩) (by assumption) ?rest423
                          case hi423 => simp only [List.getElem?_toArray, List.getElem?_cons_succ, List.getElem?_cons_zero]; rfl
                          case hQ423 => exact fun _ _ _ h => h
                          case hw423 => rfl
                          case hy423 => (intro W hW; obtain ⟨d0, d1, d2, d3, d4⟩ := HCC.out W hW; go_simp; all_goals rfl)
                          simp only [Act.put, List.setIfInBounds_toArray, List.set_cons_zero, List.set_cons_succ]
                          refine wpAnyH_take (i := 23) (oi := ?oi424) (v := ?v424) ?hi424 (by kernel_rfl) (by kernel_rfl) (by kernel_rfl) ?hQ424 (Or.inl ⟨?hw424, ?hy424⟩) (by assumption) ?rest424
                          case hi424 => simp only [List.getElem?_toArray, List.getElem?_cons_succ, List.getElem?_cons_zero]; rfl
                          case hQ424 => exact fun _ _ _ h => h
                          case hw424 => rfl
                          case hy424 => (intro W hW; obtain ⟨d0, d1, d2, d3, d4⟩ := HCC.out W hW; go_simp; all_goals rfl)
                          simp only [Act.put, List.setIfInBounds_toArray, List.set_cons_zero, List.set_cons_succ]
                          refine wpAnyH_take (i := 24) (oi := ?oi425) (v := ?v425) ?hi425 (by kernel_rfl) (by kernel_rfl) (by kernel_rfl) ?hQ425 (Or.inl ⟨?hw425, ?hy425⟩) (by assumption) ?rest425
                          case hi425 => simp only [List.getElem?_toArray, List.getElem?_cons_succ, List.getElem?_cons_zero]; rfl
                          case hQ425 => exact fun _ _ _ h => h
                          case hw425 => rfl
                          case hy425 => (intro W hW; obtain ⟨d0, d1, d2, d3, d4⟩ := HCC.out W hW; go_simp; all_goals rfl)
                          simp only [Act.put, List.setIfInBounds_toArray, List.set_cons_zero, List.set_cons_succ]
                          refine wpAnyH_take (i := 25) (oi := ?oi426) (v := ?v426) ?hi426 (by kernel_rfl) (by kernel_rfl) (by kernel_rfl) ?hQ426 (Or.inl ⟨?hw426, ?hy426⟩) (by assumption) ?rest426
                          case hi426 => simp only [List.getElem?_toArray, List.getElem?_cons_succ, List.getElem?_cons_zero]; rfl
                          case hQ426 => exact fun _ _ _ h => h
                          case hw426 => rfl
                          case hy426 => (intro W hW; obtain ⟨d0, d1, d2, d3, d4⟩ := HCC.out W hW; go_simp; all_goals rfl)
                          simp only [Act.put, List.setIfInBounds_toArray, List.set_cons_zero, List.set_cons_succ]
                          refine wpAnyH_take (i := 26) (oi := ?oi427) (v := ?v427) ?hi427 (by kernel_rfl) (by kernel_rfl) (by kernel_rfl) ?hQ427 (Or.inl ⟨?hw427, ?hy427⟩) (by assumption) ?rest427
                          case hi427 => simp only [List.getElem?_toArray, List.getElem?_cons_succ, List.getElem?_cons_zero]; rfl
                          case hQ427 => exact fun _ _ _ h => h
                          case hw427 => rfl
                          case hy427 => (intro W hW; obtain ⟨d0, d1, d2, d3, d4⟩ := HCC.out W hW; go_simp; all_goals rfl)
                          simp only [Act.put, List.setIfInBounds_toArray, List.set_cons_zero, List.set_cons_succ]
                          refine wpAnyH_take (i := 28) (oi := ?oi428) (v := ?v428) ?hi428 (by kernel_rfl) (by kernel_rfl) (by kernel_rfl) ?hQ428 (Or.inl ⟨?hw428, ?hy428⟩) (by assumption) ?rest428
                          case hi428 => simp only [List.getElem?_toArray, List.getElem?_cons_succ, List.getElem?_cons_zero]; rfl
                          case hQ428 => exact fun _ _ _ h => h
                          case hw428 => rfl
                          case hy428 => (intro W hW; obtain ⟨d0, d1, d2, d3, d4⟩ := HCC.out W hW; go_simp; all_goals rfl)
                          simp only [Act.put, List.setIfInBounds_toArray, List.set_cons_zero, List.set_cons_succ]
                          refine wpAnyH_take (i := 29) (oi := ?oi429) (v := ?v429) ?hi429 (by kernel_rfl) (by kernel_rfl) (by kernel_rfl) ?hQ429 (Or.inl ⟨?hw429, ?hy429⟩) (by assumption) ?rest429
                          case hi429 => simp only [List.getElem?_toArray, List.getElem?_cons_succ, List.getElem?_cons_zero]; rfl
                          case hQ429 => exact fun _ _ _ h => h
                          case hw429 => rfl
                          case hy429 => (intro W hW; obtain ⟨d0, d1, d2, d3, d4⟩ := HCC.out W hW; go_simp; all_goals rfl)
                          simp only [Act.put, List.setIfInBounds_toArray, List.set_cons_zero, List.set_cons_succ]
                          refine wpAnyH_take (i := 30) (oi := ?oi430) (v := ?v430) ?hi430 (by kernel_rfl) (by kernel_rfl) (by kernel_rfl) ?hQ430 (Or.inl ⟨?hw430, ?hy430⟩) (by assumption) ?rest430
                          case hi430 => simp only [List.getElem?_toArray, List.getElem?_cons_succ, List.getElem?_cons_zero]; rfl
                          case hQ430 => exact fun _ _ _ h => h
                          case hw430 => rfl
                          case hy430 => (intro W hW; obtain ⟨d0, d1, d2, d3, d4⟩ := HCC.out W hW; go_simp; all_goals rfl)
                          simp only [Act.put, List.setIfInBounds_toArray, List.set_cons_zero, List.set_cons_succ]
                          refine wpAnyH_take (i := 31) (oi := ?oi431) (v := ?v431) ?hi431 (by kernel_rfl) (by kernel_rfl) (by kernel_rfl) ?hQ431 (Or.inl ⟨?hw431, ?hy431⟩) (by assumption) ?rest431
                          case hi431 => simp only [List.getElem?_toArray, List.getElem?_cons_succ, List.getElem?_cons_zero]; rfl
                          case hQ431 => exact fun _ _ _ h => h
                          case hw431 => rfl
                          case hy431 => (intro W hW; obtain ⟨d0, d1, d2, d3, d4⟩ := HCC.out W hW; go_simp; all_goals rfl)
                          simp only [Act.put, List.setIfInBounds_toArray, List.set_cons_zero, List.set_cons_succ]
                          refine wpAnyH_take (i := 32) (oi := ?oi432) (v := ?v432) ?hi432 (by kernel_rfl) (by kernel_rfl) (by kernel_rfl) ?hQ432 (Or.inl ⟨?hw432, ?hy432⟩) (by assumption) ?rest432
                          case hi432 => simp only [List.getElem?_toArray, List.getElem?_cons_succ, List.getElem?_cons_zero]; rfl
                          case hQ432 => exact fun _ _ _ h => h
                          case hw432 => rfl
                          case hy432 => (intro W hW; obtain ⟨d0, d1, d2, d3, d4⟩ := HCC.out W hW; go_simp; all_goals rfl)
                          simp only [Act.put, List.setIfInBounds_toArray, List.set_cons_zero, List.set_cons_succ]
                          refine wpAnyH_take (i := 33) (oi := ?oi433) (v := ?v433) ?hi433 (by kernel_rfl) (by kernel_rfl) (by kernel_rfl) ?hQ433 (Or.inl ⟨?hw433, ?hy433⟩) (by assumption) ?rest433
                          case hi433 => simp only [List.getElem?_toArray, List.getElem?_cons_succ, List.getElem?_cons_zero]; rfl
                          case hQ433 => exact fun _ _ _ h => h
                          case hw433 => rfl
                          case hy433 => (intro W hW; obtain ⟨d0, d1, d2, d3, d4⟩ := HCC.out W hW; go_simp; all_goals rfl)
                          simp only [Act.put, List.setIfInBounds_toArray, List.set_cons_zero, List.set_cons_succ]
                          clear TD T40 T41 T42 hF1 hF2 hF3 hHeld
                          have HL1 : Hd ((∀ x ∈ ([(p.Ap, p.np, p.cp, p.ps), (z.Ap, z.np, z.cp, z.ps)] : List Slc), Kp w41 x.1 x.2.1 x.2.2.2) ∧ ∀ x ∈ ([k2, k4] : List Slc), Kp w41 x.1 x.2.1 x.2.2.2) := ⟨by
                            have b := T43.out.ms.be
                            refine ⟨fun x hx => ?_, fun x hx => ?_⟩
                            · simp only [List.mem_cons, List.not_mem_nil, or_false] at hx
                              rcases hx with rfl | rfl
                              · exact HP.out.kp b
                              · exact HZ.out.kp b
                            · simp only [List.mem_cons, List.not_mem_nil, or_false] at hx
                              rcases hx with rfl | rfl
                              · exact HK2.out.1.step hF4
                              · exact HK2.out.2.1.step hF4⟩
                          refine wpAnyH_ready (rs := [27, 34]) (by kernel_rfl) (by simp) ?_
                          refine AllReadyH.cons (i := 27) (o := ?oA) ?hoA (fun Kq hK => ?stA) (AllReadyH.cons (i := 34) (o := ?oB) ?hoB (fun Kq hK => ?stB) AllReadyH.nil)
                          case hoA => simp only [List.getElem?_toArray, List.getElem?_cons_succ, List.getElem?_cons_zero]; rfl
                          case hoB => simp only [List.getElem?_toArray, List.getElem?_cons_succ, List.getElem?_cons_zero]; rfl
                          case stA =>
                            go_simp
                            refine hK.out _ _ (hF4.alloc hF4.size _) (fun _ => ?_)
                            clear hK Kq
                            try simp only [Act.put, List.setIfInBounds_toArray, List.set_cons_zero, List.set_cons_succ]
                            obtain ⟨wa, hwa⟩ : ∃ U, w41.alloc (.cells #[.slice p.Ap p.np p.cp, .slice z.Ap z.np z.cp] 45) = U := ⟨_, rfl⟩
                            try rw [hwa]
                            have hFa : Below w37.heap.size w37 wa := by rw [← hwa]; exact hF4.alloc hF4.size _
                            have HWA := Hd.mk hwa
                            clear hwa
                            refine wpAnyH_ready (rs := [34]) (by kernel_rfl) (by simp) ?_
                            refine AllReadyH.cons (i := 34) (o := ?oCstA) ?hoCstA (fun Kq hK => ?stCstA) AllReadyH.nil
                            case hoCstA => simp only [List.getElem?_toArray, List.getElem?_cons_succ, List.getElem?_cons_zero]; rfl
                            go_simp
                            refine hK.out _ _ (hFa.alloc hFa.size _) (fun _ => ?_)
                            clear hK Kq
                            try simp only [Act.put, List.setIfInBounds_toArray, List.set_cons_zero, List.set_cons_succ]
                            obtain ⟨wb, hwb⟩ : ∃ U, wa.alloc (.cells #[.slice k2.1 k2.2.1 k2.2.2.1, .slice k4.1 k4.2.1 k4.2.2.1] 45) = U := ⟨_, rfl⟩
                            try rw [hwb]
                            have hFb : Below w37.heap.size w37 wb := by rw [← hwb]; exact hFa.alloc hFa.size _
                            have HRW : Hd (Rws wb (some ⟨w41.heap.size, 0, none⟩) 2 [p.ps, z.ps] ∧ Rws wb (some ⟨wa.heap.size, 0, none⟩) 2 [p.ps, z.ps] ∧ Below w41.heap.size w41 wb) := ⟨by
                              have hs : wa.heap.size = w41.heap.size + 1 := by rw [← HWA.out]; simp
                              have hq := two_lit w41 [(p.Ap, p.np, p.cp, p.ps), (z.Ap, z.np, z.cp, z.ps)] [k2, k4] HL1.out.1 HL1.out.2
                              have e2 : ([k2, k4] : List Slc).map (fun x => x.2.2.2) = [p.ps, z.ps] := by simp only [List.map_cons, List.map_nil, HK2.out.2.2.1, HK2.out.2.2.2]
                              rw [e2] at hq
                              rw [hs, ← hwb, ← HWA.out]
                              exact hq⟩
                            clear hwb HL1 hFa HWA
                            refine wpAnyH_ready (rs := [35]) (by kernel_rfl) (by simp) ?_
                            refine AllReadyH.cons (i := 35) (o := ?o501) ?ho501 (fun Kq hK => ?step501) AllReadyH.nil
                            case ho501 => simp only [List.getElem?_toArray, List.getElem?_cons_succ, List.getElem?_cons_zero]; rfl
                            go_simp
                            (refine (same_any wb (some ⟨w41.heap.size, 0, none⟩) (some ⟨wa.heap.size, 0, none⟩) 2 2 2 [p.ps, z.ps] HRW.out.1 HRW.out.2.1 (by omega)).mono ?_; rintro e w42 ⟨rfl, hb⟩)
                            have hF5 : Below w37.heap.size w37 w42 := hFb.trans (hb.mono hFb.size)
                            have HM := Hd.mk (T43.out.below (HRW.out.2.2.trans (hb.mono HRW.out.2.2.size)))
                            clear hb
                            refine hK.out _ _ hF5 (fun _ => ?_)
                            clear hK
                            try simp only [Act.put, List.setIfInBounds_toArray, List.set_cons_zero, List.set_cons_succ]
                            refine wpAnyH_take (i := 36) (oi := ?oi502) (v := ?v502) ?hi502 (by kernel_rfl) (by kernel_rfl) (by kernel_rfl) ?hQ502 (Or.inl ⟨?hw502, ?hy502⟩) (by assumption) ?rest502
                            case hi502 => simp only [List.getElem?_toArray, List.getElem?_cons_succ, List.getElem?_cons_zero]; rfl
                            case hQ502 => exact fun _ _ _ h => h
                            case hw502 => rfl
                            case hy502 => (intro W hW; go_simp; all_goals rfl)
                            simp only [Act.put, List.setIfInBounds_toArray, List.set_cons_zero, List.set_cons_succ]
                            refine wpAnyH_take (i := 37) (oi := ?oi503) (v := ?v503) ?hi503 (by kernel_rfl) (by kernel_rfl) (by kernel_rfl) ?hQ503 (Or.inl ⟨?hw503, ?hy503⟩) (by assumption) ?rest503
                            case hi503 => simp only [List.getElem?_toArray, List.getElem?_cons_succ, List.getElem?_cons_zero]; rfl
                            case hQ503 => exact fun _ _ _ h => h
                            case hw503 => rfl
                            case hy503 => (intro W hW; go_simp; all_goals rfl)
                            simp only [Act.put, List.setIfInBounds_toArray, List.set_cons_zero, List.set_cons_succ]
                            refine wpAnyH_done (by kernel_rfl) ?_ _
                            (try go_wp2_with fail)
                            go_meet
                            exact ⟨rfl, HM.out.ms⟩
                          case stB =>
                            go_simp
                            refine hK.out _ _ (hF4.alloc hF4.size _) (fun _ => ?_)
                            clear hK Kq
                            try simp only [Act.put, List.setIfInBounds_toArray, List.set_cons_zero, List.set_cons_succ]
                            obtain ⟨wa, hwa⟩ : ∃ U, w41.alloc (.cells #[.slice k2.1 k2.2.1 k2.2.2.1, .slice k4.1 k4.2.1 k4.2.2.1] 45) = U := ⟨_, rfl⟩
                            try rw [hwa]
                            have hFa : Below w37.heap.size w37 wa := by rw [← hwa]; exact hF4.alloc hF4.size _
                            have HWA := Hd.mk hwa
                            clear hwa
                            refine wpAnyH_ready (rs := [27]) (by kernel_rfl) (by simp) ?_
                            refine AllReadyH.cons (i := 27) (o := ?oCstB) ?hoCstB (fun Kq hK => ?stCstB) AllReadyH.nil
                            case hoCstB => simp only [List.getElem?_toArray, List.getElem?_cons_succ, List.getElem?_cons_zero]; rfl
                            go_simp
                            refine hK.out _ _ (hFa.alloc hFa.size _) (fun _ => ?_)
                            clear hK Kq
                            try simp only [Act.put, List.setIfInBounds_toArray, List.set_cons_zero, List.set_cons_succ]
                            obtain ⟨wb, hwb⟩ : ∃ U, wa.alloc (.cells #[.slice p.Ap p.np p.cp, .slice z.Ap z.np z.cp] 45) = U := ⟨_, rfl⟩
                            try rw [hwb]
                            have hFb : Below w37.heap.size w37 wb := by rw [← hwb]; exact hFa.alloc hFa.size _
                            have HRW : Hd (Rws wb (some ⟨wa.heap.size, 0, none⟩) 2 [p.ps, z.ps] ∧ Rws wb (some ⟨w41.heap.size, 0, none⟩) 2 [p.ps, z.ps] ∧ Below w41.heap.size w41 wb) := ⟨by
                              have hs : wa.heap.size = w41.heap.size + 1 := by rw [← HWA.out]; simp
                              have hq := two_lit w41 [k2, k4] [(p.Ap, p.np, p.cp, p.ps), (z.Ap, z.np, z.cp, z.ps)] HL1.out.2 HL1.out.1
                              have e2 : ([k2, k4] : List Slc).map (fun x => x.2.2.2) = [p.ps, z.ps] := by simp only [List.map_cons, List.map_nil, HK2.out.2.2.1, HK2.out.2.2.2]
                              rw [e2] at hq
                              rw [hs, ← hwb, ← HWA.out]
                              exact ⟨hq.2.1, hq.1, hq.2.2⟩⟩
                            clear hwb HL1 hFa HWA
                            refine wpAnyH_ready (rs := [35]) (by kernel_rfl) (by simp) ?_
                            refine AllReadyH.cons (i := 35) (o := ?o601) ?ho601 (fun Kq hK => ?step601) AllReadyH.nil
                            case ho601 => simp only [List.getElem?_toArray, List.getElem?_cons_succ, List.getElem?_cons_zero]; rfl
                            go_simp
                            (refine (same_any wb (some ⟨wa.heap.size, 0, none⟩) (some ⟨w41.heap.size, 0, none⟩) 2 2 2 [p.ps, z.ps] HRW.out.1 HRW.out.2.1 (by omega)).mono ?_; rintro e w42 ⟨rfl, hb⟩)
                            have hF5 : Below w37.heap.size w37 w42 := hFb.trans (hb.mono hFb.size)
                            have HM := Hd.mk (T43.out.below (HRW.out.2.2.trans (hb.mono HRW.out.2.2.size)))
                            clear hb
                            refine hK.out _ _ hF5 (fun _ => ?_)
                            clear hK
                            try simp only [Act.put, List.setIfInBounds_toArray, List.set_cons_zero, List.set_cons_succ]
                            refine wpAnyH_take (i := 36) (oi := ?oi602) (v := ?v602) ?hi602 (by kernel_rfl) (by kernel_rfl) (by kernel_rfl) ?hQ602 (Or.inl ⟨?hw602, ?hy602⟩) (by assumption) ?rest602
                            case hi602 => simp only [List.getElem?_toArray, List.getElem?_cons_succ, List.getElem?_cons_zero]; rfl
                            case hQ602 => exact fun _ _ _ h => h
                            case hw602 => rfl
                            case hy602 => (intro W hW; go_simp; all_goals rfl)
                            simp only [Act.put, List.setIfInBounds_toArray, List.set_cons_zero, List.set_cons_succ]
                            refine wpAnyH_take (i := 37) (oi := ?oi603) (v := ?v603) ?hi603 (by kernel_rfl) (by kernel_rfl) (by kernel_rfl) ?hQ603 (Or.inl ⟨?hw603, ?hy603⟩) (by assumption) ?rest603
                            case hi603 => simp only [List.getElem?_toArray, List.getElem?_cons_succ, List.getElem?_cons_zero]; rfl
                            case hQ603 => exact fun _ _ _ h => h
                            case hw603 => rfl
                            case hy603 => (intro W hW; go_simp; all_goals rfl)
                            simp only [Act.put, List.setIfInBounds_toArray, List.set_cons_zero, List.set_cons_succ]
                            refine wpAnyH_done (by kernel_rfl) ?_ _
                            (try go_wp2_with fail)
                            go_meet
                            exact ⟨rfl, HM.out.ms⟩
                        case rest =>
                          obtain ⟨hr, hM⟩ := hcut
                          subst hr
                          have H50 := Hd.mk hM
                          clear hM T39 HCC HK2
                          as_aux_lemma =>
                            have d0 : wc.cell? ⟨b2, 4, none⟩ = some (.slice p.At p.k p.ct) := H50.out.at_ 0 rfl 4 rfl
                            have h63 : Hd (0 + p.k ≤ maxLen ∧ (0 + p.k) * 16 ≤ 140737488355328) := ⟨by have := HP.out.k; unfold maxLen; omega, by have := HP.out.k; omega⟩
                            go_wp2_with (at_builtin; refine wpList_app elS rfl (.const (.slice none 0 0)) (.tmp 236) rfl wc.heap.size (.slice none 0 0) 0 [] rfl (World.ownsRow_nil ..) wc.heap.size p.At p.k p.ct (cs p.ts) rfl (HP.out.kt H50.out.be) (cs_one _) h63.out.1 h63.out.2 (Nat.le_refl _) ?_; intro v1 w51 hO; rw [Nat.zero_add] at hO; obtain ⟨D7, e7, hv1, _⟩ := own_form hO.own; subst hv1; have HO : Hd (w51.ownsRow wc.heap.size 9 1 (.slice D7 p.k e7) p.k (cs p.ts) ∧ Below wc.heap.size wc w51) := ⟨hO.own, hO.below (fun k hk => by cases hk) (Nat.le_refl _)⟩; clear hO)
                            clear d0 h63
                            have H51 := Hd.mk (H50.out.row (by rw [cs_len]; exact HPL.out.2.2.2.2.1) HO.out.2 HO.out.1)
                            clear HO H50
                            as_aux_lemma =>
                              refine (H51.out.apartT7 (us := [.slice D5 p.k e5, .slice D6 p.k e6]) (I := [0, 1]) (RL2 := [(9, .slice D7 p.k e7, cs p.ts)]) [2] (by kernel_rfl) (by decide) (by kernel_rfl) (by kernel_rfl) (by simp) (by
                                intro i hi x hx
                                have q1 := HPL.out.2.2.2.2.1
                                have q2 := HPL.out.2.2.2.2.2
                                simp only [List.mem_cons, List.not_mem_nil, or_false] at hi
                                rcases hi with rfl | rfl <;> (have e := Option.some.inj hx; rw [← e, cs_len]; omega)) (by decide) (by decide) (by kernel_rfl)).mono ?_
                              rintro e w52 ⟨rfl, hM, _, _⟩
                              have H52 := Hd.mk hM
                              clear hM H51
                              have d0 : w52.cell? ⟨b2, 4, none⟩ = some (.slice p.At p.k p.ct) := H52.out.at_ 0 rfl 4 rfl
                              go_wp2_with fail
                              clear d0
                              refine (sameTexts_any _ p.At D7 p.k p.ct e7 _ p.ts (HP.out.kt H52.out.be) (H52.out.rd 0 rfl) (by have := HPL.out.2.2.2.2.2; omega)).mono ?_
                              rintro e w53 ⟨rfl, hb⟩
                              have H53 := Hd.mk (H52.out.below hb)
                              clear hb H52
                              as_aux_lemma =>
                                have d0 : w53.cell? ⟨b2, 0, none⟩ = some (.slice p.Ab p.nb p.cb') := H53.out.at_ 0 rfl 0 rfl
                                have d1 : w53.cell? ⟨b2, 1, none⟩ = some (.int .u64 (p.v : Int)) := H53.out.at_ 0 rfl 1 rfl
                                have d2 : w53.cell? ⟨b2, 2, none⟩ = some (.int .i64 p.sv) := H53.out.at_ 0 rfl 2 rfl
                                have d3 : w53.cell? ⟨b2, 3, none⟩ = some (.slice p.Ap p.np p.cp) := H53.out.at_ 0 rfl 3 rfl
                                have d4 : w53.cell? ⟨b2, 4, none⟩ = some (.slice p.At p.k p.ct) := H53.out.at_ 0 rfl 4 rfl
                                go_wp2_with fail
                                clear d0 d1 d2 d3 d4
                                refine (twice_any7 w53 p.Ab p.nb p.cb' p.bs p.v (.int .i64 p.sv) (.slice p.Ap p.np p.cp) (.slice p.At p.k p.ct) (HP.out.kb H53.out.be).rd HP.out.lb HP.out.hv (by have := HP.out.nb; omega)).mono ?_
                                rintro e w54 ⟨rfl, hb⟩
                                have H54 := Hd.mk (H53.out.below hb)
                                clear hb H53
                                have d0 : w54.cell? ⟨b2, 3, none⟩ = some (.slice p.Ap p.np p.cp) := H54.out.at_ 0 rfl 3 rfl
                                have d1 : w54.cell? ⟨b3, 3, none⟩ = some (.slice z.Ap z.np z.cp) := H54.out.at_ 1 rfl 3 rfl
                                go_wp2_with fail
                                clear d0 d1
                                refine (held_any7 w54 p.Ap z.Ap p.np p.cp z.np z.cp p.ps z.ps (HP.out.kp H54.out.be).rd (HZ.out.kp H54.out.be).rd HP.out.lp HZ.out.lp (by have := HP.out.np; have := HZ.out.np; omega)).mono ?_
                                rintro e w55 ⟨rfl, hb⟩
                                have H55 := Hd.mk (H54.out.be.trans (hb.mono H54.out.be.size))
                                clear hb H54
                                go_wp2_with fail
                                go_ret
                                exact ⟨rfl, H55.out⟩
end Go.Proofs.Ytjkenhkoakaaoaa
