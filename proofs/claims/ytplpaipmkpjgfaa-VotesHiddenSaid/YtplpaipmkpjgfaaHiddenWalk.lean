/- The walk of VotesHidden: it returns true for every input. (tools/hidgen.py prints it.) -/
import Derived.Test.YtplpaipmkpjgfaaBareA
import Derived.Deep.CutRange
import Derived.Deep.Cut
namespace Go.Proofs.Ytplpaipmkpjgfaa
open Go.RowKit
set_option linter.unusedVariables false
set_option linter.unusedSimpArgs false
theorem Cop.keepB {wr w' : World} {base g n B : Nat} {T : Nat → Sn} (H : Cop wr base g n T) (b : Below B wr w') (hg : g < B) : Cop w' base g n T :=
  ⟨fun r hr => ⟨fun j v hv => (b.cell (p := ⟨g, _, none⟩) hg).trans ((H.vw r hr).1 j v hv), (H.vw r hr).2⟩, fun r hr j hj => by
    have h := H.th r hr j hj
    have hb := b.block g hg
    exact ⟨by rw [b.cell (p := ⟨g, _, none⟩) hg]; exact h.1, by have h2 := h.2; unfold World.frozen? at h2 ⊢; rw [show w'.heap[g]? = wr.heap[g]? from hb]; exact h2⟩, H.lo, Nat.lt_of_lt_of_le H.hi b.size⟩
theorem tmod_lo (z : Int) (N : Nat) (h : 0 < N) : -(N : Int) < z.tmod (N : Int) := by
  rcases Int.le_total 0 z with g | g
  · have := Int.tmod_nonneg (N : Int) g; omega
  · have h1 : z.tmod (N : Int) = -((-z).tmod (N : Int)) := by rw [Int.neg_tmod]; simp
    have h2 := Int.tmod_lt_of_pos (-z) (show (0 : Int) < (N : Int) by omega)
    omega
set_option maxRecDepth 20000 in
set_option maxHeartbeats 40000000 in
theorem hidden_walk (A : Option Addr) (n c : Nat) (S : Nat → Sn) (B : Nat → List (List Nat)) (k m b : Int) (A2 : Option Addr) (nh c2 : Nat) (zs : List Int) (w : World) (hA : SeenA w A n S B) (hz : Rd w w.heap.size A2 nh (iz zs)) (hnh : nh ≤ 140737488355328) :
    Calls Try.prog 6 #[.agg #[.int .i64 k, .int .i64 m, .int .i64 b], .slice A n c, .slice A2 nh c2] w fun e w' => e = .returned (.bool true) ∧ Below w.heap.size w w' := by
  have HA := Hd.mk hA.view
  have HZ := Hd.mk hz
  have hn := hA.lenA
  clear hA hz
  have H1 := Hd.mk (PSt.start w k m b)
  go_enter Try.func6, Try.ntmps6
  go_wp2_with fail
  obtain ⟨w1, hw1⟩ : ∃ w1, w.alloc (.cells #[.int .i64 k, .int .i64 m, .int .i64 b] 34) = w1 := ⟨_, rfl⟩
  rw [hw1] at H1 ⊢
  clear hw1
  refine (awake_any w1).mono ?_
  rintro e w2 ⟨rfl, hb2⟩
  have H2 := Hd.mk (H1.out.keep hb2)
  clear hb2 H1
  go_wp2_with (refine at_load (x := .tmp 3) ?_; refine wpList_load_row rfl 34 (.tmp 3) rfl w.heap.size rfl 34 #[.int .i64 k, .int .i64 m, .int .i64 b] (0, 0) _ H2.out.sh Try.underlying34 rfl infoSh ?_)
  refine (reffits_any w2 k m b).mono ?_
  rintro e w3 ⟨rfl, hb3⟩
  have H3 := Hd.mk (H2.out.keep hb3)
  clear hb3 H2
  rcases q : fitsR k m b with _ | _
  · clear q
    go_wp2_with fail
    go_ret
    exact ⟨rfl, H3.out.bel⟩
  obtain ⟨r1, r2, r3, r4, r5, r6⟩ := of_decide_eq_true (show decide _ = true from q)
  obtain ⟨N, hN⟩ : ∃ N : Nat, (N : Int) = k + m := ⟨(k + m).toNat, by omega⟩
  have HQ : Hd (fitsB k m b N = true) := ⟨by unfold fitsB; rw [q, hN]; simp⟩
  clear q
  have hN255 : N ≤ 255 := by omega
  have hN0 : 0 < N := by omega
  obtain ⟨F, hF⟩ : ∃ F, bareS S n = F := ⟨_, rfl⟩
  have HF : Hd (∀ i, hidB (F i) = false) := ⟨by rw [← hF]; exact bareS_hid S n⟩
  have HFC : Hd (∀ i, (∃ x, F i = shW x) ∨ F i = kindSn 1) := ⟨by rw [← hF]; exact bareS_cases S n⟩
  go_wp2_with (refine at_load (x := .tmp 3) ?_; refine wpList_load_row rfl 34 (.tmp 3) rfl w.heap.size rfl 34 #[.int .i64 k, .int .i64 m, .int .i64 b] (0, 0) _ H3.out.sh Try.underlying34 rfl infoSh ?_)
  have hbb := bare_any w3 w.heap.size n c A S (HA.out.below H3.out.bel) H3.out.bel.size hn k m b N hN r1 r2 r4
  rw [hF] at hbb
  refine hbb.mono ?_
  clear hbb
  rintro e w4 ⟨g1, cg1, rfl, hC1, hb4⟩
  have H4 := Hd.mk (And.intro (H3.out.keep hb4) hC1)
  clear hb4 hC1 H3
  go_wp2_with (refine at_load (x := .tmp 3) ?_; refine wpList_load_row rfl 34 (.tmp 3) rfl w.heap.size rfl 34 #[.int .i64 k, .int .i64 m, .int .i64 b] (0, 0) _ H4.out.1.sh Try.underlying34 rfl infoSh ?_)
  have hbb := bare_any w4 w.heap.size n c A S (HA.out.below H4.out.1.bel) H4.out.1.bel.size hn k m b N hN r1 r2 r4
  rw [hF] at hbb
  refine hbb.mono ?_
  clear hbb
  rintro e w5 ⟨g2, cg2, rfl, hC2, hb5⟩
  have H5 := Hd.mk (And.intro (H4.out.1.keep hb5) (And.intro (H4.out.2.keep hb5) hC2))
  have HG : Hd (g1 < w4.heap.size ∧ w4.heap.size ≤ g2 ∧ w.heap.size < w4.heap.size) := ⟨H4.out.2.hi, hC2.lo, H4.out.1.big⟩
  clear hb5 hC2 H4 hF
  have hNz : ((N : Int) == 0) = false := by simp; omega
  clear hN
  go_wp2_with fail
  go_loopw [12, 13] (fun iv av wr => ∃ (t : Nat) (P : Nat → Sn), t ≤ nh ∧ iv = .int .i64 (t : Int) ∧ PSt w wr k m b ∧ Cop wr w3.heap.size g1 N F ∧ Cop wr w4.heap.size g2 N P ∧ Hides P F N) (fun iv _ _ => nh - (intOf iv).toNat)
  case atStart => exact ⟨0, F, by omega, rfl, H5.out.1, H5.out.2.1, H5.out.2.2, Hides.refl F N⟩
  case round =>
    clear H5
    obtain ⟨t, P, ht, rfl, h1, h2, h3, h4⟩ := hrel
    have H5 := Hd.mk (And.intro h1 (And.intro h2 (And.intro h3 h4)))
    clear h1 h2 h3 h4
    by_cases hlt : t < nh
    · have hti : (t : Int) < (nh : Int) := by omega
      obtain ⟨gz, oz, u, rfl, _, hx, hc⟩ := (HZ.out.below H5.out.1.bel).at_ hlt
      rw [iz_get _ _ (by have := HZ.out.1; rw [iz_len] at this; omega)] at hx
      injection hx with hx
      subst hx
      obtain ⟨z, hzz⟩ : ∃ z, zs.getD t 0 = z := ⟨_, rfl⟩
      rw [hzz] at hc
      clear hzz
      have hp : J64 (3 + (t : Int) % 2) ∧ (3 + (t : Int) % 2) ≠ 1 ∧ (3 + (t : Int) % 2) ≠ 2 := ⟨by unfold J64; omega, by omega, by omega⟩
      obtain ⟨p, hpp⟩ : ∃ p : Int, 3 + (t : Int) % 2 = p := ⟨_, rfl⟩
      rw [hpp] at hp
      have HP := Hd.mk hp
      clear hp
      obtain ⟨r, hr⟩ : ∃ r : Int, z.tmod (N : Int) = r := ⟨_, rfl⟩
      have hrb : -(N : Int) < r ∧ r < (N : Int) := by
        have h1 := Int.tmod_lt_of_pos z (show (0 : Int) < (N : Int) by omega)
        have h2 := tmod_lo z N (by omega)
        omega
      by_cases hr0 : r < 0
      · obtain ⟨a, haa⟩ : ∃ a : Nat, r + (N : Int) = (a : Int) := ⟨(r + N).toNat, by omega⟩
        have ha : a < N := by omega
        have ha' : (a : Int) < (N : Int) := by omega
        have hwa : wrap64 (r + (N : Int)) = (a : Int) := by unfold wrap64; omega
        clear hrb haa
        go_wp2_with (refine at_store (x := .tmp 60) ?_; refine wpList_setSn rfl (.tmp 60) (.tmp 59) rfl H5.out.2.2.1 a ha (kindSn p) (kind_ok HP.out.1) rfl (kindSn p).cells rfl rfl ?_; intro w6 HW6)
        go_roundw
        case rel => exact ⟨t + 1, upd P a (kindSn p), by omega, by go_num, H5.out.1.keepB HW6.out.2.1 HG.out.2.2, H5.out.2.1.keepB HW6.out.2.1 HG.out.1, HW6.out.1, H5.out.2.2.2.upd a (hid_kind HP.out.2.1 HP.out.2.2)⟩
        case measure => simp [intOf]; omega
      · obtain ⟨a, rfl⟩ : ∃ a : Nat, r = (a : Int) := ⟨r.toNat, by omega⟩
        have ha : a < N := by omega
        have ha' : (a : Int) < (N : Int) := by omega
        have hd0 : decide ((a : Int) < 0) = false := decide_eq_false (by omega)
        clear hrb hr0
        go_wp2_with (refine at_store (x := .tmp 60) ?_; refine wpList_setSn rfl (.tmp 60) (.tmp 59) rfl H5.out.2.2.1 a ha (kindSn p) (kind_ok HP.out.1) rfl (kindSn p).cells rfl rfl ?_; intro w6 HW6)
        go_roundw
        case rel => exact ⟨t + 1, upd P a (kindSn p), by omega, by go_num, H5.out.1.keepB HW6.out.2.1 HG.out.2.2, H5.out.2.1.keepB HW6.out.2.1 HG.out.1, HW6.out.1, H5.out.2.2.2.upd a (hid_kind HP.out.2.1 HP.out.2.2)⟩
        case measure => simp [intOf]; omega
    · have htn : t = nh := by omega
      subst htn
      obtain ⟨wo, hwo⟩ : ∃ wo, wo = wr := ⟨_, rfl⟩
      rw [← hwo] at H5 ⊢
      clear hwo
      go_wp2_with fail
      go_loopw [14, 15, 16] (fun hv ev iv wr => ∃ q : Nat, q ≤ N ∧ iv = .int .i64 (q : Int) ∧ hv = .int .i64 (hidN P q : Int) ∧ ev = .bool (elseB P F N q) ∧ Below wo.heap.size wo wr) (fun _ _ iv _ => N - (intOf iv).toNat)
      case atStart => exact ⟨0, by omega, rfl, rfl, rfl, Below.refl _ _⟩
      case round =>
        obtain ⟨q, hq, rfl, rfl, rfl, hb⟩ := hrel
        have H6 := Hd.mk (And.intro (H5.out.1.keep hb) (And.intro (H5.out.2.1.keep hb) (H5.out.2.2.1.keep hb)))
        have HB := Hd.mk hb
        clear hb
        have hhq := hidN_le P q
        have HHN := Hd.mk (hidN_next P q)
        have HEN := Hd.mk (elseB_next (P := P) (F := F) (N := N) q)
        obtain ⟨hq0, hhq0⟩ : ∃ z, hidN P q = z := ⟨_, rfl⟩
        obtain ⟨eb, heb⟩ : ∃ z, elseB P F N q = z := ⟨_, rfl⟩
        rw [hhq0] at hhq HHN ⊢
        rw [heb] at HEN ⊢
        have HEQ := Hd.mk (And.intro hhq0 heb)
        clear hhq0 heb
        by_cases hlt : q < N
        · have hqi : (q : Int) < (N : Int) := by omega
          have HXF : Hd (∀ W, Below wr.heap.size wr W → W.rangeAt g1 (q * 19) (F q).cells) := ⟨fun W hW => ((H6.out.2.1.keep hW).vw q hlt).1⟩
          have HXP : Hd (∀ W, Below wr.heap.size wr W → W.rangeAt g2 (q * 19) (P q).cells) := ⟨fun W hW => ((H6.out.2.2.keep hW).vw q hlt).1⟩
          have dF : wr.cell? ⟨g1, q * 19, none⟩ = some (.int .i64 (F q).kind) := HXF.out wr (Below.refl _ _) 0 _ rfl
          have dP : wr.cell? ⟨g2, q * 19, none⟩ = some (.int .i64 (P q).kind) := HXP.out wr (Below.refl _ _) 0 _ rfl
          rcases H5.out.2.2.2 q hlt with e | e
          · have HSM : Hd (hidB (P q) = false) := ⟨by rw [e]; exact HF.out q⟩
            rw [e] at dP
            obtain ⟨kd, hkd⟩ : ∃ z, (F q).kind = z := ⟨_, rfl⟩
            rw [hkd] at dF dP
            clear e hkd
            have qkk : (kd != kd) = false := by simp
            go_wp2_with fail
            go_quiet (fail)
            go_wp2_with fail
            go_roundw
            case rel => exact ⟨q + 1, by omega, by go_num, by rw [HHN.out, if_neg (by rw [HSM.out]; decide)], by rw [HEN.out, if_neg (fun h => by rw [HSM.out] at h; exact absurd h.1 (by decide))], below_drewN HB.out _⟩
            case measure => simp [intOf]; omega
          · have HHD := Hd.mk e
            clear e
            have hkp : (P q).kind ≠ 1 ∧ (P q).kind ≠ 2 := by have := HHD.out; unfold hidB at this; simp at this; omega
            obtain ⟨kp, hkpe⟩ : ∃ z, (P q).kind = z := ⟨_, rfl⟩
            rw [hkpe] at dP hkp
            clear hkpe
            rcases HFC.out q with ⟨x, hx⟩ | hx
            · have HX := Hd.mk hx
              have hx0 : (F q).kind = 2 := by rw [hx]; rfl
              have HK2 := Hd.mk hx0
              rw [hx0] at dF
              clear hx hx0
              have qkp : (kp != 2) = true := by simp [hkp.2]
              clear hkp
              obtain ⟨e1, q1, s1⟩ := x
              have HW : Hd (wrOf (F q) = (e1, q1, s1)) := ⟨by rw [HX.out]; rfl⟩
              obtain ⟨cc, hcc⟩ : ∃ z, cnt P N (e1, q1, s1) = z := ⟨_, rfl⟩
              have HCC := Hd.mk hcc
              have hccn : cc ≤ N := hcc ▸ cnt_le _ _ _
              clear hcc
              have HX3 : Hd (∀ W, Below wr.heap.size wr W → W.cell? ⟨g1, q * 19, none⟩ = some (.int .i64 2) ∧ W.cell? ⟨g1, q * 19 + 13, none⟩ = some (.int .i64 s1) ∧ W.cell? ⟨g1, q * 19 + 15, none⟩ = some (.int .i64 e1) ∧ W.cell? ⟨g1, q * 19 + 16, none⟩ = some (.int .i64 q1)) := ⟨fun W hW => by
                have h := HXF.out W hW
                rw [HX.out] at h
                exact ⟨h 0 _ rfl, h 13 _ rfl, h 15 _ rfl, h 16 _ rfl⟩⟩
              have HSH : Hd (∀ W, Below wr.heap.size wr W → Calls Try.prog 26 #[.slice (some ⟨g2, 0, none⟩) N cg2, .agg #[.int .i64 e1, .int .i64 q1], .int .i64 s1] W fun e w' => e = .returned (.int .i64 (cc : Int)) ∧ Below W.heap.size W w') := ⟨fun W hW => by
                have h := shows_any W W.heap.size N cg2 (some ⟨g2, 0, none⟩) P ((H6.out.2.2.keep hW).view) (Nat.le_refl _) (by omega) e1 q1 s1
                rw [HCC.out] at h
                exact h⟩
              go_upto_region 22 with fail
              go_quiet (fail)
              obtain ⟨wq, hwq⟩ : ∃ wq, wr.drewN nq = wq := ⟨_, rfl⟩
              have HBQ : Hd (Below wr.heap.size wr wq) := ⟨hwq ▸ below_drewN (Below.refl _ _) _⟩
              rw [hwq]
              clear hwq dF dP
              go_upto_region 24 with fail
              refine wp_region_held_drew (S := fun W => Below wr.heap.size wr W) (by kernel_rfl) (HBQ.out.drew) (fun hHeld => ?_)
              refine wpAnyH_take (i := 0) (oi := ?oi101) (v := ?v101) ?hi101 (by kernel_rfl) (by kernel_rfl) (by kernel_rfl) ?hQ101 (Or.inl ⟨?hw101, ?hy101⟩) (by assumption) ?rest101
              case hi101 => simp only [List.getElem?_toArray, List.getElem?_cons_succ, List.getElem?_cons_zero]; rfl
              case hQ101 => exact fun _ _ _ h => h
              case hw101 => rfl
              case hy101 => (intro W hW; obtain ⟨q0, q1, q2, q3⟩ := HX3.out W hW; go_simp; all_goals rfl)
              simp only [Act.put, List.setIfInBounds_toArray, List.set_cons_zero, List.set_cons_succ]
              refine wpAnyH_take (i := 1) (oi := ?oi102) (v := ?v102) ?hi102 (by kernel_rfl) (by kernel_rfl) (by kernel_rfl) ?hQ102 (Or.inl ⟨?hw102, ?hy102⟩) (by assumption) ?rest102
              case hi102 => simp only [List.getElem?_toArray, List.getElem?_cons_succ, List.getElem?_cons_zero]; rfl
              case hQ102 => exact fun _ _ _ h => h
              case hw102 => rfl
              case hy102 => (intro W hW; obtain ⟨q0, q1, q2, q3⟩ := HX3.out W hW; go_simp; all_goals rfl)
              simp only [Act.put, List.setIfInBounds_toArray, List.set_cons_zero, List.set_cons_succ]
              refine wpAnyH_take (i := 2) (oi := ?oi103) (v := ?v103) ?hi103 (by kernel_rfl) (by kernel_rfl) (by kernel_rfl) ?hQ103 (Or.inl ⟨?hw103, ?hy103⟩) (by assumption) ?rest103
              case hi103 => simp only [List.getElem?_toArray, List.getElem?_cons_succ, List.getElem?_cons_zero]; rfl
              case hQ103 => exact fun _ _ _ h => h
              case hw103 => rfl
              case hy103 => (intro W hW; obtain ⟨q0, q1, q2, q3⟩ := HX3.out W hW; go_simp; all_goals rfl)
              simp only [Act.put, List.setIfInBounds_toArray, List.set_cons_zero, List.set_cons_succ]
              refine wpAnyH_take (i := 3) (oi := ?oi104) (v := ?v104) ?hi104 (by kernel_rfl) (by kernel_rfl) (by kernel_rfl) ?hQ104 (Or.inl ⟨?hw104, ?hy104⟩) (by assumption) ?rest104
              case hi104 => simp only [List.getElem?_toArray, List.getElem?_cons_succ, List.getElem?_cons_zero]; rfl
              case hQ104 => exact fun _ _ _ h => h
              case hw104 => rfl
              case hy104 => (intro W hW; obtain ⟨q0, q1, q2, q3⟩ := HX3.out W hW; go_simp; all_goals rfl)
              simp only [Act.put, List.setIfInBounds_toArray, List.set_cons_zero, List.set_cons_succ]
              refine wpAnyH_take (i := 4) (oi := ?oi105) (v := ?v105) ?hi105 (by kernel_rfl) (by kernel_rfl) (by kernel_rfl) ?hQ105 (Or.inl ⟨?hw105, ?hy105⟩) (by assumption) ?rest105
              case hi105 => simp only [List.getElem?_toArray, List.getElem?_cons_succ, List.getElem?_cons_zero]; rfl
              case hQ105 => exact fun _ _ _ h => h
              case hw105 => rfl
              case hy105 => (intro W hW; obtain ⟨q0, q1, q2, q3⟩ := HX3.out W hW; go_simp; all_goals rfl)
              simp only [Act.put, List.setIfInBounds_toArray, List.set_cons_zero, List.set_cons_succ]
              refine wpAnyH_take (i := 5) (oi := ?oi106) (v := ?v106) ?hi106 (by kernel_rfl) (by kernel_rfl) (by kernel_rfl) ?hQ106 (Or.inl ⟨?hw106, ?hy106⟩) (by assumption) ?rest106
              case hi106 => simp only [List.getElem?_toArray, List.getElem?_cons_succ, List.getElem?_cons_zero]; rfl
              case hQ106 => exact fun _ _ _ h => h
              case hw106 => rfl
              case hy106 => (intro W hW; obtain ⟨q0, q1, q2, q3⟩ := HX3.out W hW; go_simp; all_goals rfl)
              simp only [Act.put, List.setIfInBounds_toArray, List.set_cons_zero, List.set_cons_succ]
              refine wpAnyH_take (i := 6) (oi := ?oi107) (v := ?v107) ?hi107 (by kernel_rfl) (by kernel_rfl) (by kernel_rfl) ?hQ107 (Or.inl ⟨?hw107, ?hy107⟩) (by assumption) ?rest107
              case hi107 => simp only [List.getElem?_toArray, List.getElem?_cons_succ, List.getElem?_cons_zero]; rfl
              case hQ107 => exact fun _ _ _ h => h
              case hw107 => rfl
              case hy107 => (intro W hW; obtain ⟨q0, q1, q2, q3⟩ := HX3.out W hW; go_simp; all_goals rfl)
              simp only [Act.put, List.setIfInBounds_toArray, List.set_cons_zero, List.set_cons_succ]
              refine wpAnyH_take (i := 7) (oi := ?oi108) (v := ?v108) ?hi108 (by kernel_rfl) (by kernel_rfl) (by kernel_rfl) ?hQ108 (Or.inl ⟨?hw108, ?hy108⟩) (by assumption) ?rest108
              case hi108 => simp only [List.getElem?_toArray, List.getElem?_cons_succ, List.getElem?_cons_zero]; rfl
              case hQ108 => exact fun _ _ _ h => h
              case hw108 => rfl
              case hy108 => (intro W hW; obtain ⟨q0, q1, q2, q3⟩ := HX3.out W hW; go_simp; all_goals rfl)
              simp only [Act.put, List.setIfInBounds_toArray, List.set_cons_zero, List.set_cons_succ]
              refine wpAnyH_take (i := 8) (oi := ?oi109) (v := ?v109) ?hi109 (by kernel_rfl) (by kernel_rfl) (by kernel_rfl) ?hQ109 (Or.inl ⟨?hw109, ?hy109⟩) (by assumption) ?rest109
              case hi109 => simp only [List.getElem?_toArray, List.getElem?_cons_succ, List.getElem?_cons_zero]; rfl
              case hQ109 => exact fun _ _ _ h => h
              case hw109 => rfl
              case hy109 => (intro W hW; obtain ⟨q0, q1, q2, q3⟩ := HX3.out W hW; go_simp; all_goals rfl)
              simp only [Act.put, List.setIfInBounds_toArray, List.set_cons_zero, List.set_cons_succ]
              refine wpAnyH_take (i := 9) (oi := ?oi110) (v := ?v110) ?hi110 (by kernel_rfl) (by kernel_rfl) (by kernel_rfl) ?hQ110 (Or.inl ⟨?hw110, ?hy110⟩) (by assumption) ?rest110
              case hi110 => simp only [List.getElem?_toArray, List.getElem?_cons_succ, List.getElem?_cons_zero]; rfl
              case hQ110 => exact fun _ _ _ h => h
              case hw110 => rfl
              case hy110 => (intro W hW; obtain ⟨q0, q1, q2, q3⟩ := HX3.out W hW; go_simp; all_goals rfl)
              simp only [Act.put, List.setIfInBounds_toArray, List.set_cons_zero, List.set_cons_succ]
              refine wpAnyH_take (i := 10) (oi := ?oi111) (v := ?v111) ?hi111 (by kernel_rfl) (by kernel_rfl) (by kernel_rfl) ?hQ111 (Or.inl ⟨?hw111, ?hy111⟩) (by assumption) ?rest111
              case hi111 => simp only [List.getElem?_toArray, List.getElem?_cons_succ, List.getElem?_cons_zero]; rfl
              case hQ111 => exact fun _ _ _ h => h
              case hw111 => rfl
              case hy111 => (intro W hW; obtain ⟨q0, q1, q2, q3⟩ := HX3.out W hW; go_simp; all_goals rfl)
              simp only [Act.put, List.setIfInBounds_toArray, List.set_cons_zero, List.set_cons_succ]
              refine wpAnyH_take (i := 11) (oi := ?oi112) (v := ?v112) ?hi112 (by kernel_rfl) (by kernel_rfl) (by kernel_rfl) ?hQ112 (Or.inl ⟨?hw112, ?hy112⟩) (by assumption) ?rest112
              case hi112 => simp only [List.getElem?_toArray, List.getElem?_cons_succ, List.getElem?_cons_zero]; rfl
              case hQ112 => exact fun _ _ _ h => h
              case hw112 => rfl
              case hy112 => (intro W hW; obtain ⟨q0, q1, q2, q3⟩ := HX3.out W hW; go_simp; all_goals rfl)
              simp only [Act.put, List.setIfInBounds_toArray, List.set_cons_zero, List.set_cons_succ]
              refine wpAnyH_take (i := 12) (oi := ?oi113) (v := ?v113) ?hi113 (by kernel_rfl) (by kernel_rfl) (by kernel_rfl) ?hQ113 (Or.inl ⟨?hw113, ?hy113⟩) (by assumption) ?rest113
              case hi113 => simp only [List.getElem?_toArray, List.getElem?_cons_succ, List.getElem?_cons_zero]; rfl
              case hQ113 => exact fun _ _ _ h => h
              case hw113 => rfl
              case hy113 => (intro W hW; obtain ⟨q0, q1, q2, q3⟩ := HX3.out W hW; go_simp; all_goals rfl)
              simp only [Act.put, List.setIfInBounds_toArray, List.set_cons_zero, List.set_cons_succ]
              refine wpAnyH_take (i := 13) (oi := ?oi114) (v := ?v114) ?hi114 (by kernel_rfl) (by kernel_rfl) (by kernel_rfl) ?hQ114 (Or.inl ⟨?hw114, ?hy114⟩) (by assumption) ?rest114
              case hi114 => simp only [List.getElem?_toArray, List.getElem?_cons_succ, List.getElem?_cons_zero]; rfl
              case hQ114 => exact fun _ _ _ h => h
              case hw114 => rfl
              case hy114 => (intro W hW; obtain ⟨q0, q1, q2, q3⟩ := HX3.out W hW; go_simp; all_goals rfl)
              simp only [Act.put, List.setIfInBounds_toArray, List.set_cons_zero, List.set_cons_succ]
              refine wpAnyH_take (i := 14) (oi := ?oi115) (v := ?v115) ?hi115 (by kernel_rfl) (by kernel_rfl) (by kernel_rfl) ?hQ115 (Or.inl ⟨?hw115, ?hy115⟩) (by assumption) ?rest115
              case hi115 => simp only [List.getElem?_toArray, List.getElem?_cons_succ, List.getElem?_cons_zero]; rfl
              case hQ115 => exact fun _ _ _ h => h
              case hw115 => rfl
              case hy115 => (intro W hW; obtain ⟨q0, q1, q2, q3⟩ := HX3.out W hW; go_simp; all_goals rfl)
              simp only [Act.put, List.setIfInBounds_toArray, List.set_cons_zero, List.set_cons_succ]
              refine wpAnyH_take (i := 15) (oi := ?oi116) (v := ?v116) ?hi116 (by kernel_rfl) (by kernel_rfl) (by kernel_rfl) ?hQ116 (Or.inl ⟨?hw116, ?hy116⟩) (by assumption) ?rest116
              case hi116 => simp only [List.getElem?_toArray, List.getElem?_cons_succ, List.getElem?_cons_zero]; rfl
              case hQ116 => exact fun _ _ _ h => h
              case hw116 => rfl
              case hy116 => (intro W hW; obtain ⟨q0, q1, q2, q3⟩ := HX3.out W hW; go_simp; all_goals rfl)
              simp only [Act.put, List.setIfInBounds_toArray, List.set_cons_zero, List.set_cons_succ]
              refine wpAnyH_take (i := 16) (oi := ?oi117) (v := ?v117) ?hi117 (by kernel_rfl) (by kernel_rfl) (by kernel_rfl) ?hQ117 (Or.inl ⟨?hw117, ?hy117⟩) (by assumption) ?rest117
              case hi117 => simp only [List.getElem?_toArray, List.getElem?_cons_succ, List.getElem?_cons_zero]; rfl
              case hQ117 => exact fun _ _ _ h => h
              case hw117 => rfl
              case hy117 => (intro W hW; obtain ⟨q0, q1, q2, q3⟩ := HX3.out W hW; go_simp; all_goals rfl)
              simp only [Act.put, List.setIfInBounds_toArray, List.set_cons_zero, List.set_cons_succ]
              refine wpAnyH_take (i := 17) (oi := ?oi118) (v := ?v118) ?hi118 (by kernel_rfl) (by kernel_rfl) (by kernel_rfl) ?hQ118 (Or.inl ⟨?hw118, ?hy118⟩) (by assumption) ?rest118
              case hi118 => simp only [List.getElem?_toArray, List.getElem?_cons_succ, List.getElem?_cons_zero]; rfl
              case hQ118 => exact fun _ _ _ h => h
              case hw118 => rfl
              case hy118 => (intro W hW; obtain ⟨q0, q1, q2, q3⟩ := HX3.out W hW; go_simp; all_goals rfl)
              simp only [Act.put, List.setIfInBounds_toArray, List.set_cons_zero, List.set_cons_succ]
              refine wpAnyH_take (i := 18) (oi := ?oi119) (v := ?v119) ?hi119 (by kernel_rfl) (by kernel_rfl) (by kernel_rfl) ?hQ119 (Or.inl ⟨?hw119, ?hy119⟩) (by assumption) ?rest119
              case hi119 => simp only [List.getElem?_toArray, List.getElem?_cons_succ, List.getElem?_cons_zero]; rfl
              case hQ119 => exact fun _ _ _ h => h
              case hw119 => rfl
              case hy119 => (intro W hW; obtain ⟨q0, q1, q2, q3⟩ := HX3.out W hW; go_simp; all_goals rfl)
              simp only [Act.put, List.setIfInBounds_toArray, List.set_cons_zero, List.set_cons_succ]
              refine wpAnyH_take (i := 19) (oi := ?oi120) (v := ?v120) ?hi120 (by kernel_rfl) (by kernel_rfl) (by kernel_rfl) ?hQ120 (Or.inl ⟨?hw120, ?hy120⟩) (by assumption) ?rest120
              case hi120 => simp only [List.getElem?_toArray, List.getElem?_cons_succ, List.getElem?_cons_zero]; rfl
              case hQ120 => exact fun _ _ _ h => h
              case hw120 => rfl
              case hy120 => (intro W hW; obtain ⟨q0, q1, q2, q3⟩ := HX3.out W hW; go_simp; all_goals rfl)
              simp only [Act.put, List.setIfInBounds_toArray, List.set_cons_zero, List.set_cons_succ]
              refine wpAnyH_take (i := 20) (oi := ?oi121) (v := ?v121) ?hi121 (by kernel_rfl) (by kernel_rfl) (by kernel_rfl) ?hQ121 (Or.inl ⟨?hw121, ?hy121⟩) (by assumption) ?rest121
              case hi121 => simp only [List.getElem?_toArray, List.getElem?_cons_succ, List.getElem?_cons_zero]; rfl
              case hQ121 => exact fun _ _ _ h => h
              case hw121 => rfl
              case hy121 => (intro W hW; obtain ⟨q0, q1, q2, q3⟩ := HX3.out W hW; go_simp; all_goals rfl)
              simp only [Act.put, List.setIfInBounds_toArray, List.set_cons_zero, List.set_cons_succ]
              refine wpAnyH_take (i := 21) (oi := ?oi122) (v := ?v122) ?hi122 (by kernel_rfl) (by kernel_rfl) (by kernel_rfl) ?hQ122 (Or.inl ⟨?hw122, ?hy122⟩) (by assumption) ?rest122
              case hi122 => simp only [List.getElem?_toArray, List.getElem?_cons_succ, List.getElem?_cons_zero]; rfl
              case hQ122 => exact fun _ _ _ h => h
              case hw122 => rfl
              case hy122 => (intro W hW; obtain ⟨q0, q1, q2, q3⟩ := HX3.out W hW; go_simp; all_goals rfl)
              simp only [Act.put, List.setIfInBounds_toArray, List.set_cons_zero, List.set_cons_succ]
              refine wpAnyH_ready (rs := [22]) (by kernel_rfl) (by simp) ?_
              refine AllReadyH.cons (i := 22) (o := ?o123) ?ho123 (fun Kq hK => ?step123) AllReadyH.nil
              case ho123 => simp only [List.getElem?_toArray, List.getElem?_cons_succ, List.getElem?_cons_zero]; rfl
              go_simp
              (go_at_call 26; refine (HSH.out _ hHeld).mono ?_; rintro e w8 ⟨rfl, hb⟩)
              have hF : Below wr.heap.size wr w8 := hHeld.trans (hb.mono hHeld.size)
              refine hK.out _ _ hF (fun _ => ?_)
              clear hK Kq hHeld hb
              have hHeld := hF
              clear hF
              try simp only [Act.put, List.setIfInBounds_toArray, List.set_cons_zero, List.set_cons_succ]
              refine wpAnyH_take (i := 23) (oi := ?oi124) (v := ?v124) ?hi124 (by kernel_rfl) (by kernel_rfl) (by kernel_rfl) ?hQ124 (Or.inl ⟨?hw124, ?hy124⟩) (by assumption) ?rest124
              case hi124 => simp only [List.getElem?_toArray, List.getElem?_cons_succ, List.getElem?_cons_zero]; rfl
              case hQ124 => exact fun _ _ _ h => h
              case hw124 => rfl
              case hy124 => (intro W hW; obtain ⟨q0, q1, q2, q3⟩ := HX3.out W hW; go_simp; all_goals rfl)
              simp only [Act.put, List.setIfInBounds_toArray, List.set_cons_zero, List.set_cons_succ]
              refine wpAnyH_take (i := 24) (oi := ?oi125) (v := ?v125) ?hi125 (by kernel_rfl) (by kernel_rfl) (by kernel_rfl) ?hQ125 (Or.inl ⟨?hw125, ?hy125⟩) (by assumption) ?rest125
              case hi125 => simp only [List.getElem?_toArray, List.getElem?_cons_succ, List.getElem?_cons_zero]; rfl
              case hQ125 => exact fun _ _ _ h => h
              case hw125 => rfl
              case hy125 => (intro W hW; obtain ⟨q0, q1, q2, q3⟩ := HX3.out W hW; go_simp; all_goals rfl)
              simp only [Act.put, List.setIfInBounds_toArray, List.set_cons_zero, List.set_cons_succ]
              refine wpAnyH_done (by kernel_rfl) ?_ _
              have HB8 : Hd (Below wr.heap.size wr w8) := ⟨hHeld⟩
              clear hHeld
              by_cases hc0 : cc = 0
              · subst hc0
                go_wp2_with fail
                go_roundw
                case rel => exact ⟨q + 1, by omega, by go_num, by rw [HHN.out, if_pos HHD.out]; go_num, by rw [HEN.out, if_pos ⟨HHD.out, HK2.out, by rw [HW.out]; exact HCC.out⟩], HB.out.trans (HB8.out.mono HB.out.size)⟩
                case measure => simp [intOf]; omega
              · have qc0 : ((cc : Int) == 0) = false := by simp [hc0]
                have HNZ := Hd.mk hc0
                clear hc0
                go_wp2_with fail
                go_roundw
                case rel => exact ⟨q + 1, by omega, by go_num, by rw [HHN.out, if_pos HHD.out]; go_num, by rw [HEN.out, if_neg (fun h => HNZ.out (by have := h.2.2; rw [HW.out, HCC.out] at this; exact this))], HB.out.trans (HB8.out.mono HB.out.size)⟩
                case measure => simp [intOf]; omega
            · have HK1 : Hd ((F q).kind = 1) := ⟨by rw [hx]; rfl⟩
              rw [HK1.out] at dF
              clear hx
              have qkp : (kp != 1) = true := by simp [hkp.1]
              clear hkp
              have HX3 : Hd (∀ W, Below wr.heap.size wr W → W.cell? ⟨g1, q * 19, none⟩ = some (.int .i64 1)) := ⟨fun W hW => by
                have h := HXF.out W hW 0 _ rfl
                rw [HK1.out] at h
                exact h⟩
              go_upto_region 22 with fail
              go_quiet (fail)
              obtain ⟨wq, hwq⟩ : ∃ wq, wr.drewN nq = wq := ⟨_, rfl⟩
              have HBQ : Hd (Below wr.heap.size wr wq) := ⟨hwq ▸ below_drewN (Below.refl _ _) _⟩
              rw [hwq]
              clear hwq dF dP
              go_upto_region 24 with fail
              refine wp_region_held_drew (S := fun W => Below wr.heap.size wr W) (by kernel_rfl) (HBQ.out.drew) (fun hHeld => ?_)
              refine wpAnyH_take (i := 0) (oi := ?oi201) (v := ?v201) ?hi201 (by kernel_rfl) (by kernel_rfl) (by kernel_rfl) ?hQ201 (Or.inl ⟨?hw201, ?hy201⟩) (by assumption) ?rest201
              case hi201 => simp only [List.getElem?_toArray, List.getElem?_cons_succ, List.getElem?_cons_zero]; rfl
              case hQ201 => exact fun _ _ _ h => h
              case hw201 => rfl
              case hy201 => (intro W hW; have q0 := HX3.out W hW; go_simp; all_goals rfl)
              simp only [Act.put, List.setIfInBounds_toArray, List.set_cons_zero, List.set_cons_succ]
              refine wpAnyH_take (i := 1) (oi := ?oi202) (v := ?v202) ?hi202 (by kernel_rfl) (by kernel_rfl) (by kernel_rfl) ?hQ202 (Or.inl ⟨?hw202, ?hy202⟩) (by assumption) ?rest202
              case hi202 => simp only [List.getElem?_toArray, List.getElem?_cons_succ, List.getElem?_cons_zero]; rfl
              case hQ202 => exact fun _ _ _ h => h
              case hw202 => rfl
              case hy202 => (intro W hW; have q0 := HX3.out W hW; go_simp; all_goals rfl)
              simp only [Act.put, List.setIfInBounds_toArray, List.set_cons_zero, List.set_cons_succ]
              refine wpAnyH_take (i := 2) (oi := ?oi203) (v := ?v203) ?hi203 (by kernel_rfl) (by kernel_rfl) (by kernel_rfl) ?hQ203 (Or.inl ⟨?hw203, ?hy203⟩) (by assumption) ?rest203
              case hi203 => simp only [List.getElem?_toArray, List.getElem?_cons_succ, List.getElem?_cons_zero]; rfl
              case hQ203 => exact fun _ _ _ h => h
              case hw203 => rfl
              case hy203 => (intro W hW; have q0 := HX3.out W hW; go_simp; all_goals rfl)
              simp only [Act.put, List.setIfInBounds_toArray, List.set_cons_zero, List.set_cons_succ]
              refine wpAnyH_take (i := 3) (oi := ?oi204) (v := ?v204) ?hi204 (by kernel_rfl) (by kernel_rfl) (by kernel_rfl) ?hQ204 (Or.inl ⟨?hw204, ?hy204⟩) (by assumption) ?rest204
              case hi204 => simp only [List.getElem?_toArray, List.getElem?_cons_succ, List.getElem?_cons_zero]; rfl
              case hQ204 => exact fun _ _ _ h => h
              case hw204 => rfl
              case hy204 => (intro W hW; have q0 := HX3.out W hW; go_simp; all_goals rfl)
              simp only [Act.put, List.setIfInBounds_toArray, List.set_cons_zero, List.set_cons_succ]
              refine wpAnyH_take (i := 4) (oi := ?oi205) (v := ?v205) ?hi205 (by kernel_rfl) (by kernel_rfl) (by kernel_rfl) ?hQ205 (Or.inl ⟨?hw205, ?hy205⟩) (by assumption) ?rest205
              case hi205 => simp only [List.getElem?_toArray, List.getElem?_cons_succ, List.getElem?_cons_zero]; rfl
              case hQ205 => exact fun _ _ _ h => h
              case hw205 => rfl
              case hy205 => (intro W hW; have q0 := HX3.out W hW; go_simp; all_goals rfl)
              simp only [Act.put, List.setIfInBounds_toArray, List.set_cons_zero, List.set_cons_succ]
              refine wpAnyH_take (i := 5) (oi := ?oi206) (v := ?v206) ?hi206 (by kernel_rfl) (by kernel_rfl) (by kernel_rfl) ?hQ206 (Or.inl ⟨?hw206, ?hy206⟩) (by assumption) ?rest206
              case hi206 => simp only [List.getElem?_toArray, List.getElem?_cons_succ, List.getElem?_cons_zero]; rfl
              case hQ206 => exact fun _ _ _ h => h
              case hw206 => rfl
              case hy206 => (intro W hW; have q0 := HX3.out W hW; go_simp; all_goals rfl)
              simp only [Act.put, List.setIfInBounds_toArray, List.set_cons_zero, List.set_cons_succ]
              refine wpAnyH_take (i := 6) (oi := ?oi207) (v := ?v207) ?hi207 (by kernel_rfl) (by kernel_rfl) (by kernel_rfl) ?hQ207 (Or.inl ⟨?hw207, ?hy207⟩) (by assumption) ?rest207
              case hi207 => simp only [List.getElem?_toArray, List.getElem?_cons_succ, List.getElem?_cons_zero]; rfl
              case hQ207 => exact fun _ _ _ h => h
              case hw207 => rfl
              case hy207 => (intro W hW; have q0 := HX3.out W hW; go_simp; all_goals rfl)
              simp only [Act.put, List.setIfInBounds_toArray, List.set_cons_zero, List.set_cons_succ]
              refine wpAnyH_take (i := 7) (oi := ?oi208) (v := ?v208) ?hi208 (by kernel_rfl) (by kernel_rfl) (by kernel_rfl) ?hQ208 (Or.inr ⟨?hw208, ?hv208⟩) (by assumption) ?rest208
              case hi208 => simp only [List.getElem?_toArray, List.getElem?_cons_succ, List.getElem?_cons_zero]; rfl
              case hQ208 => exact fun _ _ _ h => h
              case hw208 => rfl
              case hv208 => rfl
              simp only [Act.put, List.setIfInBounds_toArray, List.set_cons_zero, List.set_cons_succ]
              refine wpAnyH_take (i := 8) (oi := ?oi209) (v := ?v209) ?hi209 (by kernel_rfl) (by kernel_rfl) (by kernel_rfl) ?hQ209 (Or.inr ⟨?hw209, ?hv209⟩) (by assumption) ?rest209
              case hi209 => simp only [List.getElem?_toArray, List.getElem?_cons_succ, List.getElem?_cons_zero]; rfl
              case hQ209 => exact fun _ _ _ h => h
              case hw209 => rfl
              case hv209 => rfl
              simp only [Act.put, List.setIfInBounds_toArray, List.set_cons_zero, List.set_cons_succ]
              refine wpAnyH_take (i := 9) (oi := ?oi210) (v := ?v210) ?hi210 (by kernel_rfl) (by kernel_rfl) (by kernel_rfl) ?hQ210 (Or.inr ⟨?hw210, ?hv210⟩) (by assumption) ?rest210
              case hi210 => simp only [List.getElem?_toArray, List.getElem?_cons_succ, List.getElem?_cons_zero]; rfl
              case hQ210 => exact fun _ _ _ h => h
              case hw210 => rfl
              case hv210 => rfl
              simp only [Act.put, List.setIfInBounds_toArray, List.set_cons_zero, List.set_cons_succ]
              refine wpAnyH_take (i := 10) (oi := ?oi211) (v := ?v211) ?hi211 (by kernel_rfl) (by kernel_rfl) (by kernel_rfl) ?hQ211 (Or.inr ⟨?hw211, ?hv211⟩) (by assumption) ?rest211
              case hi211 => simp only [List.getElem?_toArray, List.getElem?_cons_succ, List.getElem?_cons_zero]; rfl
              case hQ211 => exact fun _ _ _ h => h
              case hw211 => rfl
              case hv211 => rfl
              simp only [Act.put, List.setIfInBounds_toArray, List.set_cons_zero, List.set_cons_succ]
              refine wpAnyH_take (i := 11) (oi := ?oi212) (v := ?v212) ?hi212 (by kernel_rfl) (by kernel_rfl) (by kernel_rfl) ?hQ212 (Or.inr ⟨?hw212, ?hv212⟩) (by assumption) ?rest212
              case hi212 => simp only [List.getElem?_toArray, List.getElem?_cons_succ, List.getElem?_cons_zero]; rfl
              case hQ212 => exact fun _ _ _ h => h
              case hw212 => rfl
              case hv212 => rfl
              simp only [Act.put, List.setIfInBounds_toArray, List.set_cons_zero, List.set_cons_succ]
              refine wpAnyH_take (i := 12) (oi := ?oi213) (v := ?v213) ?hi213 (by kernel_rfl) (by kernel_rfl) (by kernel_rfl) ?hQ213 (Or.inr ⟨?hw213, ?hv213⟩) (by assumption) ?rest213
              case hi213 => simp only [List.getElem?_toArray, List.getElem?_cons_succ, List.getElem?_cons_zero]; rfl
              case hQ213 => exact fun _ _ _ h => h
              case hw213 => rfl
              case hv213 => rfl
              simp only [Act.put, List.setIfInBounds_toArray, List.set_cons_zero, List.set_cons_succ]
              refine wpAnyH_take (i := 13) (oi := ?oi214) (v := ?v214) ?hi214 (by kernel_rfl) (by kernel_rfl) (by kernel_rfl) ?hQ214 (Or.inr ⟨?hw214, ?hv214⟩) (by assumption) ?rest214
              case hi214 => simp only [List.getElem?_toArray, List.getElem?_cons_succ, List.getElem?_cons_zero]; rfl
              case hQ214 => exact fun _ _ _ h => h
              case hw214 => rfl
              case hv214 => rfl
              simp only [Act.put, List.setIfInBounds_toArray, List.set_cons_zero, List.set_cons_succ]
              refine wpAnyH_take (i := 14) (oi := ?oi215) (v := ?v215) ?hi215 (by kernel_rfl) (by kernel_rfl) (by kernel_rfl) ?hQ215 (Or.inr ⟨?hw215, ?hv215⟩) (by assumption) ?rest215
              case hi215 => simp only [List.getElem?_toArray, List.getElem?_cons_succ, List.getElem?_cons_zero]; rfl
              case hQ215 => exact fun _ _ _ h => h
              case hw215 => rfl
              case hv215 => rfl
              simp only [Act.put, List.setIfInBounds_toArray, List.set_cons_zero, List.set_cons_succ]
              refine wpAnyH_take (i := 15) (oi := ?oi216) (v := ?v216) ?hi216 (by kernel_rfl) (by kernel_rfl) (by kernel_rfl) ?hQ216 (Or.inr ⟨?hw216, ?hv216⟩) (by assumption) ?rest216
              case hi216 => simp only [List.getElem?_toArray, List.getElem?_cons_succ, List.getElem?_cons_zero]; rfl
              case hQ216 => exact fun _ _ _ h => h
              case hw216 => rfl
              case hv216 => rfl
              simp only [Act.put, List.setIfInBounds_toArray, List.set_cons_zero, List.set_cons_succ]
              refine wpAnyH_take (i := 16) (oi := ?oi217) (v := ?v217) ?hi217 (by kernel_rfl) (by kernel_rfl) (by kernel_rfl) ?hQ217 (Or.inr ⟨?hw217, ?hv217⟩) (by assumption) ?rest217
              case hi217 => simp only [List.getElem?_toArray, List.getElem?_cons_succ, List.getElem?_cons_zero]; rfl
              case hQ217 => exact fun _ _ _ h => h
              case hw217 => rfl
              case hv217 => rfl
              simp only [Act.put, List.setIfInBounds_toArray, List.set_cons_zero, List.set_cons_succ]
              refine wpAnyH_take (i := 17) (oi := ?oi218) (v := ?v218) ?hi218 (by kernel_rfl) (by kernel_rfl) (by kernel_rfl) ?hQ218 (Or.inr ⟨?hw218, ?hv218⟩) (by assumption) ?rest218
              case hi218 => simp only [List.getElem?_toArray, List.getElem?_cons_succ, List.getElem?_cons_zero]; rfl
              case hQ218 => exact fun _ _ _ h => h
              case hw218 => rfl
              case hv218 => rfl
              simp only [Act.put, List.setIfInBounds_toArray, List.set_cons_zero, List.set_cons_succ]
              refine wpAnyH_take (i := 18) (oi := ?oi219) (v := ?v219) ?hi219 (by kernel_rfl) (by kernel_rfl) (by kernel_rfl) ?hQ219 (Or.inr ⟨?hw219, ?hv219⟩) (by assumption) ?rest219
              case hi219 => simp only [List.getElem?_toArray, List.getElem?_cons_succ, List.getElem?_cons_zero]; rfl
              case hQ219 => exact fun _ _ _ h => h
              case hw219 => rfl
              case hv219 => rfl
              simp only [Act.put, List.setIfInBounds_toArray, List.set_cons_zero, List.set_cons_succ]
              refine wpAnyH_take (i := 19) (oi := ?oi220) (v := ?v220) ?hi220 (by kernel_rfl) (by kernel_rfl) (by kernel_rfl) ?hQ220 (Or.inr ⟨?hw220, ?hv220⟩) (by assumption) ?rest220
              case hi220 => simp only [List.getElem?_toArray, List.getElem?_cons_succ, List.getElem?_cons_zero]; rfl
              case hQ220 => exact fun _ _ _ h => h
              case hw220 => rfl
              case hv220 => rfl
              simp only [Act.put, List.setIfInBounds_toArray, List.set_cons_zero, List.set_cons_succ]
              refine wpAnyH_take (i := 20) (oi := ?oi221) (v := ?v221) ?hi221 (by kernel_rfl) (by kernel_rfl) (by kernel_rfl) ?hQ221 (Or.inr ⟨?hw221, ?hv221⟩) (by assumption) ?rest221
              case hi221 => simp only [List.getElem?_toArray, List.getElem?_cons_succ, List.getElem?_cons_zero]; rfl
              case hQ221 => exact fun _ _ _ h => h
              case hw221 => rfl
              case hv221 => rfl
              simp only [Act.put, List.setIfInBounds_toArray, List.set_cons_zero, List.set_cons_succ]
              refine wpAnyH_take (i := 21) (oi := ?oi222) (v := ?v222) ?hi222 (by kernel_rfl) (by kernel_rfl) (by kernel_rfl) ?hQ222 (Or.inr ⟨?hw222, ?hv222⟩) (by assumption) ?rest222
              case hi222 => simp only [List.getElem?_toArray, List.getElem?_cons_succ, List.getElem?_cons_zero]; rfl
              case hQ222 => exact fun _ _ _ h => h
              case hw222 => rfl
              case hv222 => rfl
              simp only [Act.put, List.setIfInBounds_toArray, List.set_cons_zero, List.set_cons_succ]
              refine wpAnyH_take (i := 22) (oi := ?oi223) (v := ?v223) ?hi223 (by kernel_rfl) (by kernel_rfl) (by kernel_rfl) ?hQ223 (Or.inr ⟨?hw223, ?hv223⟩) (by assumption) ?rest223
              case hi223 => simp only [List.getElem?_toArray, List.getElem?_cons_succ, List.getElem?_cons_zero]; rfl
              case hQ223 => exact fun _ _ _ h => h
              case hw223 => rfl
              case hv223 => rfl
              simp only [Act.put, List.setIfInBounds_toArray, List.set_cons_zero, List.set_cons_succ]
              refine wpAnyH_take (i := 23) (oi := ?oi224) (v := ?v224) ?hi224 (by kernel_rfl) (by kernel_rfl) (by kernel_rfl) ?hQ224 (Or.inr ⟨?hw224, ?hv224⟩) (by assumption) ?rest224
              case hi224 => simp only [List.getElem?_toArray, List.getElem?_cons_succ, List.getElem?_cons_zero]; rfl
              case hQ224 => exact fun _ _ _ h => h
              case hw224 => rfl
              case hv224 => rfl
              simp only [Act.put, List.setIfInBounds_toArray, List.set_cons_zero, List.set_cons_succ]
              refine wpAnyH_take (i := 24) (oi := ?oi225) (v := ?v225) ?hi225 (by kernel_rfl) (by kernel_rfl) (by kernel_rfl) ?hQ225 (Or.inl ⟨?hw225, ?hy225⟩) (by assumption) ?rest225
              case hi225 => simp only [List.getElem?_toArray, List.getElem?_cons_succ, List.getElem?_cons_zero]; rfl
              case hQ225 => exact fun _ _ _ h => h
              case hw225 => rfl
              case hy225 => (intro W hW; have q0 := HX3.out W hW; go_simp; all_goals rfl)
              simp only [Act.put, List.setIfInBounds_toArray, List.set_cons_zero, List.set_cons_succ]
              refine wpAnyH_done (by kernel_rfl) ?_ _
              go_wp2_with fail
              go_roundw
              case rel => exact ⟨q + 1, by omega, by go_num, by rw [HHN.out, if_pos HHD.out]; go_num, by rw [HEN.out, if_neg (fun h => by rw [HK1.out] at h; exact absurd h.2.1 (by decide))], HB.out.trans (hHeld.mono HB.out.size)⟩
              case measure => simp [intOf]; omega
        · have hqn : q = N := by omega
          subst hqn
          clear HHN HEN
          obtain ⟨hH, hE⟩ := HEQ.out
          have HHH := Hd.mk hH
          have HEE := Hd.mk hE
          clear hH hE HEQ
          obtain ⟨w5x, hw5x⟩ : ∃ w5x, w5x = wr := ⟨_, rfl⟩
          rw [← hw5x] at H6 HB ⊢
          clear hw5x
          have HHI := Hd.mk H5.out.2.2.2
          clear H5 HB
          have hq120 : q * 120 ≤ 140737488351232 := by omega
          go_wp2_with (refine at_load (x := .tmp 3) ?_; refine wpList_load_row rfl 34 (.tmp 3) rfl w.heap.size rfl 34 #[.int .i64 k, .int .i64 m, .int .i64 b] (0, 0) _ H6.out.1.sh Try.underlying34 rfl infoSh ?_)
          have hj := judge_any w5x w5x.heap.size q cg1 (some ⟨g1, 0, none⟩) F H6.out.2.1.view (Nat.le_refl _) hq120 k m b
          obtain ⟨⟨vk, ⟨ep, ct, sz⟩, pv⟩, hv⟩ : ∃ r, judgeP F q k m b = r := ⟨_, rfl⟩
          rw [hv] at hj
          have HV := Hd.mk hv
          refine hj.mono ?_
          clear hj hv
          rintro e w6 ⟨P1, rfl, ho6, hb6⟩
          obtain ⟨A6, c6, rfl, _, _⟩ := own_form ho6
          rw [show verV (vk, (ep, ct, sz), pv) (.slice A6 ((vk, (ep, ct, sz), pv) : Int × Wr × List Int).2.2.length c6) = #[.int .i64 vk, .int .i64 ep, .int .i64 ct, .int .i64 sz, .slice A6 pv.length c6] from rfl]
          obtain ⟨n1, hn1⟩ : ∃ n1, pv.length = n1 := ⟨_, rfl⟩
          rw [hn1]
          clear ho6 hn1
          have H7 := Hd.mk (And.intro (H6.out.1.keep hb6) (And.intro (H6.out.2.1.keep hb6) (H6.out.2.2.keep hb6)))
          clear hb6 H6
          go_wp2_with (first
            | (refine at_store (x := .tmp 17) ?_; refine wpList_boxed rfl 27 (.tmp 17) (.tmp 106) rfl w6.heap.size rfl #[.int .i64 vk, .int .i64 ep, .int .i64 ct, .int .i64 sz, .slice A6 n1 c6] rfl rfl infoV2 rfl (by simp [Value.oneCell']) ?_; intro w7 HW7
               have H8 := Hd.mk (And.intro (H7.out.1.keep HW7.out.2.1) (And.intro (H7.out.2.1.keep HW7.out.2.1) (H7.out.2.2.keep HW7.out.2.1))))
            | (refine at_load (x := .tmp 3) ?_; refine wpList_load_row rfl 34 (.tmp 3) rfl w.heap.size rfl 34 #[.int .i64 k, .int .i64 m, .int .i64 b] (0, 0) _ H8.out.1.sh Try.underlying34 rfl infoSh ?_))
          have hj := judge_any w7 w7.heap.size q cg2 (some ⟨g2, 0, none⟩) P H8.out.2.2.view (Nat.le_refl _) hq120 k m b
          obtain ⟨⟨wk, ⟨e2, q2, s2⟩, pw⟩, hw⟩ : ∃ r, judgeP P q k m b = r := ⟨_, rfl⟩
          rw [hw] at hj
          have HWP := Hd.mk hw
          refine hj.mono ?_
          clear hj hw
          rintro e w8 ⟨P2, rfl, ho8, hb8⟩
          obtain ⟨A8, c8, rfl, _, _⟩ := own_form ho8
          rw [show verV (wk, (e2, q2, s2), pw) (.slice A8 ((wk, (e2, q2, s2), pw) : Int × Wr × List Int).2.2.length c8) = #[.int .i64 wk, .int .i64 e2, .int .i64 q2, .int .i64 s2, .slice A8 pw.length c8] from rfl]
          obtain ⟨n2, hn2⟩ : ∃ n2, pw.length = n2 := ⟨_, rfl⟩
          have HN2 := Hd.mk hn2
          rw [hn2]
          clear ho8 hn2
          have H9 : Hd (PSt w w8 k m b ∧ Cop w8 w3.heap.size g1 q F ∧ Cop w8 w4.heap.size g2 q P ∧ w8.heap[w6.heap.size]? = some (.cells #[.int .i64 vk, .int .i64 ep, .int .i64 ct, .int .i64 sz, .slice A6 n1 c6] 27 (0, 0))) := ⟨H8.out.1.keep hb8, H8.out.2.1.keep hb8, H8.out.2.2.keep hb8, (hb8.block _ (Array.getElem?_eq_some_iff.1 HW7.out.1).1).trans HW7.out.1⟩
          clear hb8 H8 HW7 H7
          go_wp2_with (first
            | (refine at_store (x := .tmp 18) ?_; refine wpList_boxed rfl 27 (.tmp 18) (.tmp 109) rfl w8.heap.size rfl #[.int .i64 wk, .int .i64 e2, .int .i64 q2, .int .i64 s2, .slice A8 n2 c8] rfl rfl infoV2 rfl (by simp [Value.oneCell']) ?_; intro w9 HW9
               have H10 : Hd (PSt w w9 k m b ∧ Cop w9 w3.heap.size g1 q F ∧ Cop w9 w4.heap.size g2 q P ∧ w9.heap[w6.heap.size]? = some (.cells #[.int .i64 vk, .int .i64 ep, .int .i64 ct, .int .i64 sz, .slice A6 n1 c6] 27 (0, 0)) ∧ w9.heap[w8.heap.size]? = some (.cells #[.int .i64 wk, .int .i64 e2, .int .i64 q2, .int .i64 s2, .slice A8 n2 c8] 27 (0, 0))) := ⟨H9.out.1.keep HW9.out.2.1, H9.out.2.1.keep HW9.out.2.1, H9.out.2.2.1.keep HW9.out.2.1, (HW9.out.2.1.block _ (Array.getElem?_eq_some_iff.1 H9.out.2.2.2).1).trans H9.out.2.2.2, HW9.out.1⟩)
            | (refine at_load (x := .tmp 3) ?_; refine wpList_load_row rfl 34 (.tmp 3) rfl w.heap.size rfl 34 #[.int .i64 k, .int .i64 m, .int .i64 b] (0, 0) _ H10.out.1.sh Try.underlying34 rfl infoSh ?_))
          have hj := possible_any w9 w9.heap.size q cg2 (some ⟨g2, 0, none⟩) P H10.out.2.2.1.view (Nat.le_refl _) hq120 k m b
          have hOl := poss_len P q k m b
          obtain ⟨⟨O, ab⟩, ho⟩ : ∃ r, possP P q k m b = r := ⟨_, rfl⟩
          rw [ho] at hj hOl
          have HO := Hd.mk ho
          change O.length ≤ q at hOl
          refine hj.mono ?_
          clear hj ho
          rintro e wr ⟨v10, rfl, ⟨f10, hG10⟩, hb10⟩
          obtain ⟨A10, c10, hv10, _, _⟩ := ownN_form hG10.out
          change v10 = .slice A10 O.length c10 at hv10
          subst hv10
          have HGL := Hd.mk hG10
          have HC := Hd.mk (And.intro (H10.out.1.keep hb10) (And.intro (H10.out.2.1.keep hb10) (H10.out.2.2.1.keep hb10)))
          have HCL : Hd (∀ W, Below wr.heap.size wr W → W.cell? ⟨w6.heap.size, 0, none⟩ = some (.int .i64 vk) ∧ W.cell? ⟨w6.heap.size, 1, none⟩ = some (.int .i64 ep) ∧ W.cell? ⟨w6.heap.size, 2, none⟩ = some (.int .i64 ct) ∧ W.cell? ⟨w6.heap.size, 3, none⟩ = some (.int .i64 sz) ∧ W.cell? ⟨w6.heap.size, 4, none⟩ = some (.slice A6 n1 c6) ∧ W.cell? ⟨w8.heap.size, 0, none⟩ = some (.int .i64 wk) ∧ W.cell? ⟨w8.heap.size, 1, none⟩ = some (.int .i64 e2) ∧ W.cell? ⟨w8.heap.size, 2, none⟩ = some (.int .i64 q2) ∧ W.cell? ⟨w8.heap.size, 3, none⟩ = some (.int .i64 s2) ∧ W.cell? ⟨w8.heap.size, 4, none⟩ = some (.slice A8 n2 c8) ∧ W.cell? ⟨w.heap.size, 0, none⟩ = some (.int .i64 k) ∧ W.cell? ⟨w.heap.size, 1, none⟩ = some (.int .i64 m)) := ⟨fun W hW => by
            have hB : Below w9.heap.size w9 W := hb10.trans (hW.mono hb10.size)
            have h1 : W.heap[w6.heap.size]? = _ := (hB.block _ (Array.getElem?_eq_some_iff.1 H10.out.2.2.2.1).1).trans H10.out.2.2.2.1
            have h2 : W.heap[w8.heap.size]? = _ := (hB.block _ (Array.getElem?_eq_some_iff.1 H10.out.2.2.2.2).1).trans H10.out.2.2.2.2
            have h3 := HC.out.1.keep hW
            refine ⟨?_, ?_, ?_, ?_, ?_, ?_, ?_, ?_, ?_, ?_, h3.c0, h3.c1⟩
            all_goals first | (rw [cell_of_row _ _ _ _ _ _ h1]; rfl) | (rw [cell_of_row _ _ _ _ _ _ h2]; rfl)⟩
          have HSF : Hd (∀ W, Below wr.heap.size wr W → ∀ a b c : Int, Calls Try.prog 26 #[.slice (some ⟨g1, 0, none⟩) q cg1, .agg #[.int .i64 a, .int .i64 b], .int .i64 c] W fun e w' => e = .returned (.int .i64 (cnt F q (a, b, c) : Int)) ∧ Below W.heap.size W w') := ⟨fun W hW a b c => shows_any W W.heap.size q cg1 (some ⟨g1, 0, none⟩) F ((HC.out.2.1.keep hW).view) (Nat.le_refl _) hq120 a b c⟩
          have HSP : Hd (∀ W, Below wr.heap.size wr W → ∀ a b c : Int, Calls Try.prog 26 #[.slice (some ⟨g2, 0, none⟩) q cg2, .agg #[.int .i64 a, .int .i64 b], .int .i64 c] W fun e w' => e = .returned (.int .i64 (cnt P q (a, b, c) : Int)) ∧ Below W.heap.size W w') := ⟨fun W hW a b c => shows_any W W.heap.size q cg2 (some ⟨g2, 0, none⟩) P ((HC.out.2.2.keep hW).view) (Nat.le_refl _) hq120 a b c⟩
          clear hG10 hb10 H10 HW9 H9
          have hhq := hidN_le P q
          rw [HHH.out] at hhq
          have hk1 : 1 ≤ k := by omega
          rcases ht : topW F q k (grpL F q) with _ | v
          · have hav := judge_absent HQ.out ht
            rw [hidF HF.out, if_pos (by omega), HV.out] at hav
            simp only [Prod.mk.injEq] at hav
            obtain ⟨e1, _, _⟩ := hav
            subst e1
            have htP := hide_none HHI.out HF.out hk1 ht
            have haw := judge_absent HQ.out htP
            rw [HHH.out, HWP.out] at haw
            have hab := poss_absent HQ.out htP
            rw [HO.out] at hab
            change ab = true at hab
            subst hab
            by_cases hm : (hq0 : Int) ≤ m
            · rw [if_pos hm] at haw
              simp only [Prod.mk.injEq] at haw
              obtain ⟨e1, _, _⟩ := haw
              subst e1
              clear ht htP
              obtain ⟨a0, _, _, _, _, z0, _, _, _, _, y0, y1⟩ := HCL.out wr (Below.refl _ _)
              go_upto_region 31 with fail
              clear a0 z0 y0 y1
              refine wp_region_held_drew (S := fun W => Below wr.heap.size wr W) (by kernel_rfl) ((Below.refl _ _).drew) (fun hHeld => ?_)
              refine wpAnyH_take (i := 0) (oi := ?oi701) (v := ?v701) ?hi701 (by kernel_rfl) (by kernel_rfl) (by kernel_rfl) ?hQ701 (Or.inl ⟨?hw701, ?hy701⟩) (by assumption) ?rest701
              case hi701 => simp only [List.getElem?_toArray, List.getElem?_cons_succ, List.getElem?_cons_zero]; rfl
              case hQ701 => exact fun _ _ _ h => h
              case hw701 => rfl
              case hy701 => (intro W hW; obtain ⟨a0, a1, a2, a3, a4, z0, z1, z2, z3, z4, y0, y1⟩ := HCL.out W hW; go_simp; all_goals rfl)
              simp only [Act.put, List.setIfInBounds_toArray, List.set_cons_zero, List.set_cons_succ]
              refine wpAnyH_take (i := 1) (oi := ?oi702) (v := ?v702) ?hi702 (by kernel_rfl) (by kernel_rfl) (by kernel_rfl) ?hQ702 (Or.inl ⟨?hw702, ?hy702⟩) (by assumption) ?rest702
              case hi702 => simp only [List.getElem?_toArray, List.getElem?_cons_succ, List.getElem?_cons_zero]; rfl
              case hQ702 => exact fun _ _ _ h => h
              case hw702 => rfl
              case hy702 => (intro W hW; obtain ⟨a0, a1, a2, a3, a4, z0, z1, z2, z3, z4, y0, y1⟩ := HCL.out W hW; go_simp; all_goals rfl)
              simp only [Act.put, List.setIfInBounds_toArray, List.set_cons_zero, List.set_cons_succ]
              refine wpAnyH_take (i := 2) (oi := ?oi703) (v := ?v703) ?hi703 (by kernel_rfl) (by kernel_rfl) (by kernel_rfl) ?hQ703 (Or.inl ⟨?hw703, ?hy703⟩) (by assumption) ?rest703
              case hi703 => simp only [List.getElem?_toArray, List.getElem?_cons_succ, List.getElem?_cons_zero]; rfl
              case hQ703 => exact fun _ _ _ h => h
              case hw703 => rfl
              case hy703 => (intro W hW; obtain ⟨a0, a1, a2, a3, a4, z0, z1, z2, z3, z4, y0, y1⟩ := HCL.out W hW; go_simp; all_goals rfl)
              simp only [Act.put, List.setIfInBounds_toArray, List.set_cons_zero, List.set_cons_succ]
              refine wpAnyH_take (i := 3) (oi := ?oi704) (v := ?v704) ?hi704 (by kernel_rfl) (by kernel_rfl) (by kernel_rfl) ?hQ704 (Or.inl ⟨?hw704, ?hy704⟩) (by assumption) ?rest704
              case hi704 => simp only [List.getElem?_toArray, List.getElem?_cons_succ, List.getElem?_cons_zero]; rfl
              case hQ704 => exact fun _ _ _ h => h
              case hw704 => rfl
              case hy704 => (intro W hW; obtain ⟨a0, a1, a2, a3, a4, z0, z1, z2, z3, z4, y0, y1⟩ := HCL.out W hW; go_simp; all_goals rfl)
              simp only [Act.put, List.setIfInBounds_toArray, List.set_cons_zero, List.set_cons_succ]
              refine wpAnyH_take (i := 4) (oi := ?oi705) (v := ?v705) ?hi705 (by kernel_rfl) (by kernel_rfl) (by kernel_rfl) ?hQ705 (Or.inr ⟨?hw705, ?hv705⟩) (by assumption) ?rest705
              case hi705 => simp only [List.getElem?_toArray, List.getElem?_cons_succ, List.getElem?_cons_zero]; rfl
              case hQ705 => exact fun _ _ _ h => h
              case hw705 => rfl
              case hv705 => rfl
              simp only [Act.put, List.setIfInBounds_toArray, List.set_cons_zero, List.set_cons_succ]
              refine wpAnyH_take (i := 5) (oi := ?oi706) (v := ?v706) ?hi706 (by kernel_rfl) (by kernel_rfl) (by kernel_rfl) ?hQ706 (Or.inr ⟨?hw706, ?hv706⟩) (by assumption) ?rest706
              case hi706 => simp only [List.getElem?_toArray, List.getElem?_cons_succ, List.getElem?_cons_zero]; rfl
              case hQ706 => exact fun _ _ _ h => h
              case hw706 => rfl
              case hv706 => rfl
              simp only [Act.put, List.setIfInBounds_toArray, List.set_cons_zero, List.set_cons_succ]
              refine wpAnyH_take (i := 6) (oi := ?oi707) (v := ?v707) ?hi707 (by kernel_rfl) (by kernel_rfl) (by kernel_rfl) ?hQ707 (Or.inr ⟨?hw707, ?hv707⟩) (by assumption) ?rest707
              case hi707 => simp only [List.getElem?_toArray, List.getElem?_cons_succ, List.getElem?_cons_zero]; rfl
              case hQ707 => exact fun _ _ _ h => h
              case hw707 => rfl
              case hv707 => rfl
              simp only [Act.put, List.setIfInBounds_toArray, List.set_cons_zero, List.set_cons_succ]
              refine wpAnyH_take (i := 7) (oi := ?oi708) (v := ?v708) ?hi708 (by kernel_rfl) (by kernel_rfl) (by kernel_rfl) ?hQ708 (Or.inr ⟨?hw708, ?hv708⟩) (by assumption) ?rest708
              case hi708 => simp only [List.getElem?_toArray, List.getElem?_cons_succ, List.getElem?_cons_zero]; rfl
              case hQ708 => exact fun _ _ _ h => h
              case hw708 => rfl
              case hv708 => rfl
              simp only [Act.put, List.setIfInBounds_toArray, List.set_cons_zero, List.set_cons_succ]
              refine wpAnyH_take (i := 8) (oi := ?oi709) (v := ?v709) ?hi709 (by kernel_rfl) (by kernel_rfl) (by kernel_rfl) ?hQ709 (Or.inr ⟨?hw709, ?hv709⟩) (by assumption) ?rest709
              case hi709 => simp only [List.getElem?_toArray, List.getElem?_cons_succ, List.getElem?_cons_zero]; rfl
              case hQ709 => exact fun _ _ _ h => h
              case hw709 => rfl
              case hv709 => rfl
              simp only [Act.put, List.setIfInBounds_toArray, List.set_cons_zero, List.set_cons_succ]
              refine wpAnyH_take (i := 9) (oi := ?oi710) (v := ?v710) ?hi710 (by kernel_rfl) (by kernel_rfl) (by kernel_rfl) ?hQ710 (Or.inr ⟨?hw710, ?hv710⟩) (by assumption) ?rest710
              case hi710 => simp only [List.getElem?_toArray, List.getElem?_cons_succ, List.getElem?_cons_zero]; rfl
              case hQ710 => exact fun _ _ _ h => h
              case hw710 => rfl
              case hv710 => rfl
              simp only [Act.put, List.setIfInBounds_toArray, List.set_cons_zero, List.set_cons_succ]
              refine wpAnyH_take (i := 10) (oi := ?oi711) (v := ?v711) ?hi711 (by kernel_rfl) (by kernel_rfl) (by kernel_rfl) ?hQ711 (Or.inr ⟨?hw711, ?hv711⟩) (by assumption) ?rest711
              case hi711 => simp only [List.getElem?_toArray, List.getElem?_cons_succ, List.getElem?_cons_zero]; rfl
              case hQ711 => exact fun _ _ _ h => h
              case hw711 => rfl
              case hv711 => rfl
              simp only [Act.put, List.setIfInBounds_toArray, List.set_cons_zero, List.set_cons_succ]
              refine wpAnyH_take (i := 11) (oi := ?oi712) (v := ?v712) ?hi712 (by kernel_rfl) (by kernel_rfl) (by kernel_rfl) ?hQ712 (Or.inr ⟨?hw712, ?hv712⟩) (by assumption) ?rest712
              case hi712 => simp only [List.getElem?_toArray, List.getElem?_cons_succ, List.getElem?_cons_zero]; rfl
              case hQ712 => exact fun _ _ _ h => h
              case hw712 => rfl
              case hv712 => rfl
              simp only [Act.put, List.setIfInBounds_toArray, List.set_cons_zero, List.set_cons_succ]
              refine wpAnyH_take (i := 12) (oi := ?oi713) (v := ?v713) ?hi713 (by kernel_rfl) (by kernel_rfl) (by kernel_rfl) ?hQ713 (Or.inr ⟨?hw713, ?hv713⟩) (by assumption) ?rest713
              case hi713 => simp only [List.getElem?_toArray, List.getElem?_cons_succ, List.getElem?_cons_zero]; rfl
              case hQ713 => exact fun _ _ _ h => h
              case hw713 => rfl
              case hv713 => rfl
              simp only [Act.put, List.setIfInBounds_toArray, List.set_cons_zero, List.set_cons_succ]
              refine wpAnyH_take (i := 13) (oi := ?oi714) (v := ?v714) ?hi714 (by kernel_rfl) (by kernel_rfl) (by kernel_rfl) ?hQ714 (Or.inr ⟨?hw714, ?hv714⟩) (by assumption) ?rest714
              case hi714 => simp only [List.getElem?_toArray, List.getElem?_cons_succ, List.getElem?_cons_zero]; rfl
              case hQ714 => exact fun _ _ _ h => h
              case hw714 => rfl
              case hv714 => rfl
              simp only [Act.put, List.setIfInBounds_toArray, List.set_cons_zero, List.set_cons_succ]
              refine wpAnyH_take (i := 14) (oi := ?oi715) (v := ?v715) ?hi715 (by kernel_rfl) (by kernel_rfl) (by kernel_rfl) ?hQ715 (Or.inr ⟨?hw715, ?hv715⟩) (by assumption) ?rest715
              case hi715 => simp only [List.getElem?_toArray, List.getElem?_cons_succ, List.getElem?_cons_zero]; rfl
              case hQ715 => exact fun _ _ _ h => h
              case hw715 => rfl
              case hv715 => rfl
              simp only [Act.put, List.setIfInBounds_toArray, List.set_cons_zero, List.set_cons_succ]
              refine wpAnyH_take (i := 15) (oi := ?oi716) (v := ?v716) ?hi716 (by kernel_rfl) (by kernel_rfl) (by kernel_rfl) ?hQ716 (Or.inr ⟨?hw716, ?hv716⟩) (by assumption) ?rest716
              case hi716 => simp only [List.getElem?_toArray, List.getElem?_cons_succ, List.getElem?_cons_zero]; rfl
              case hQ716 => exact fun _ _ _ h => h
              case hw716 => rfl
              case hv716 => rfl
              simp only [Act.put, List.setIfInBounds_toArray, List.set_cons_zero, List.set_cons_succ]
              refine wpAnyH_take (i := 16) (oi := ?oi717) (v := ?v717) ?hi717 (by kernel_rfl) (by kernel_rfl) (by kernel_rfl) ?hQ717 (Or.inr ⟨?hw717, ?hv717⟩) (by assumption) ?rest717
              case hi717 => simp only [List.getElem?_toArray, List.getElem?_cons_succ, List.getElem?_cons_zero]; rfl
              case hQ717 => exact fun _ _ _ h => h
              case hw717 => rfl
              case hv717 => rfl
              simp only [Act.put, List.setIfInBounds_toArray, List.set_cons_zero, List.set_cons_succ]
              refine wpAnyH_take (i := 17) (oi := ?oi718) (v := ?v718) ?hi718 (by kernel_rfl) (by kernel_rfl) (by kernel_rfl) ?hQ718 (Or.inr ⟨?hw718, ?hv718⟩) (by assumption) ?rest718
              case hi718 => simp only [List.getElem?_toArray, List.getElem?_cons_succ, List.getElem?_cons_zero]; rfl
              case hQ718 => exact fun _ _ _ h => h
              case hw718 => rfl
              case hv718 => rfl
              simp only [Act.put, List.setIfInBounds_toArray, List.set_cons_zero, List.set_cons_succ]
              refine wpAnyH_take (i := 18) (oi := ?oi719) (v := ?v719) ?hi719 (by kernel_rfl) (by kernel_rfl) (by kernel_rfl) ?hQ719 (Or.inr ⟨?hw719, ?hv719⟩) (by assumption) ?rest719
              case hi719 => simp only [List.getElem?_toArray, List.getElem?_cons_succ, List.getElem?_cons_zero]; rfl
              case hQ719 => exact fun _ _ _ h => h
              case hw719 => rfl
              case hv719 => rfl
              simp only [Act.put, List.setIfInBounds_toArray, List.set_cons_zero, List.set_cons_succ]
              refine wpAnyH_take (i := 19) (oi := ?oi720) (v := ?v720) ?hi720 (by kernel_rfl) (by kernel_rfl) (by kernel_rfl) ?hQ720 (Or.inr ⟨?hw720, ?hv720⟩) (by assumption) ?rest720
              case hi720 => simp only [List.getElem?_toArray, List.getElem?_cons_succ, List.getElem?_cons_zero]; rfl
              case hQ720 => exact fun _ _ _ h => h
              case hw720 => rfl
              case hv720 => rfl
              simp only [Act.put, List.setIfInBounds_toArray, List.set_cons_zero, List.set_cons_succ]
              refine wpAnyH_take (i := 20) (oi := ?oi721) (v := ?v721) ?hi721 (by kernel_rfl) (by kernel_rfl) (by kernel_rfl) ?hQ721 (Or.inr ⟨?hw721, ?hv721⟩) (by assumption) ?rest721
              case hi721 => simp only [List.getElem?_toArray, List.getElem?_cons_succ, List.getElem?_cons_zero]; rfl
              case hQ721 => exact fun _ _ _ h => h
              case hw721 => rfl
              case hv721 => rfl
              simp only [Act.put, List.setIfInBounds_toArray, List.set_cons_zero, List.set_cons_succ]
              refine wpAnyH_take (i := 21) (oi := ?oi722) (v := ?v722) ?hi722 (by kernel_rfl) (by kernel_rfl) (by kernel_rfl) ?hQ722 (Or.inr ⟨?hw722, ?hv722⟩) (by assumption) ?rest722
              case hi722 => simp only [List.getElem?_toArray, List.getElem?_cons_succ, List.getElem?_cons_zero]; rfl
              case hQ722 => exact fun _ _ _ h => h
              case hw722 => rfl
              case hv722 => rfl
              simp only [Act.put, List.setIfInBounds_toArray, List.set_cons_zero, List.set_cons_succ]
              refine wpAnyH_take (i := 22) (oi := ?oi723) (v := ?v723) ?hi723 (by kernel_rfl) (by kernel_rfl) (by kernel_rfl) ?hQ723 (Or.inr ⟨?hw723, ?hv723⟩) (by assumption) ?rest723
              case hi723 => simp only [List.getElem?_toArray, List.getElem?_cons_succ, List.getElem?_cons_zero]; rfl
              case hQ723 => exact fun _ _ _ h => h
              case hw723 => rfl
              case hv723 => rfl
              simp only [Act.put, List.setIfInBounds_toArray, List.set_cons_zero, List.set_cons_succ]
              refine wpAnyH_take (i := 23) (oi := ?oi724) (v := ?v724) ?hi724 (by kernel_rfl) (by kernel_rfl) (by kernel_rfl) ?hQ724 (Or.inr ⟨?hw724, ?hv724⟩) (by assumption) ?rest724
              case hi724 => simp only [List.getElem?_toArray, List.getElem?_cons_succ, List.getElem?_cons_zero]; rfl
              case hQ724 => exact fun _ _ _ h => h
              case hw724 => rfl
              case hv724 => rfl
              simp only [Act.put, List.setIfInBounds_toArray, List.set_cons_zero, List.set_cons_succ]
              refine wpAnyH_take (i := 24) (oi := ?oi725) (v := ?v725) ?hi725 (by kernel_rfl) (by kernel_rfl) (by kernel_rfl) ?hQ725 (Or.inr ⟨?hw725, ?hv725⟩) (by assumption) ?rest725
              case hi725 => simp only [List.getElem?_toArray, List.getElem?_cons_succ, List.getElem?_cons_zero]; rfl
              case hQ725 => exact fun _ _ _ h => h
              case hw725 => rfl
              case hv725 => rfl
              simp only [Act.put, List.setIfInBounds_toArray, List.set_cons_zero, List.set_cons_succ]
              refine wpAnyH_take (i := 25) (oi := ?oi726) (v := ?v726) ?hi726 (by kernel_rfl) (by kernel_rfl) (by kernel_rfl) ?hQ726 (Or.inr ⟨?hw726, ?hv726⟩) (by assumption) ?rest726
              case hi726 => simp only [List.getElem?_toArray, List.getElem?_cons_succ, List.getElem?_cons_zero]; rfl
              case hQ726 => exact fun _ _ _ h => h
              case hw726 => rfl
              case hv726 => rfl
              simp only [Act.put, List.setIfInBounds_toArray, List.set_cons_zero, List.set_cons_succ]
              refine wpAnyH_take (i := 26) (oi := ?oi727) (v := ?v727) ?hi727 (by kernel_rfl) (by kernel_rfl) (by kernel_rfl) ?hQ727 (Or.inr ⟨?hw727, ?hv727⟩) (by assumption) ?rest727
              case hi727 => simp only [List.getElem?_toArray, List.getElem?_cons_succ, List.getElem?_cons_zero]; rfl
              case hQ727 => exact fun _ _ _ h => h
              case hw727 => rfl
              case hv727 => rfl
              simp only [Act.put, List.setIfInBounds_toArray, List.set_cons_zero, List.set_cons_succ]
              refine wpAnyH_take (i := 27) (oi := ?oi728) (v := ?v728) ?hi728 (by kernel_rfl) (by kernel_rfl) (by kernel_rfl) ?hQ728 (Or.inr ⟨?hw728, ?hv728⟩) (by assumption) ?rest728
              case hi728 => simp only [List.getElem?_toArray, List.getElem?_cons_succ, List.getElem?_cons_zero]; rfl
              case hQ728 => exact fun _ _ _ h => h
              case hw728 => rfl
              case hv728 => rfl
              simp only [Act.put, List.setIfInBounds_toArray, List.set_cons_zero, List.set_cons_succ]
              refine wpAnyH_take (i := 28) (oi := ?oi729) (v := ?v729) ?hi729 (by kernel_rfl) (by kernel_rfl) (by kernel_rfl) ?hQ729 (Or.inr ⟨?hw729, ?hv729⟩) (by assumption) ?rest729
              case hi729 => simp only [List.getElem?_toArray, List.getElem?_cons_succ, List.getElem?_cons_zero]; rfl
              case hQ729 => exact fun _ _ _ h => h
              case hw729 => rfl
              case hv729 => rfl
              simp only [Act.put, List.setIfInBounds_toArray, List.set_cons_zero, List.set_cons_succ]
              refine wpAnyH_take (i := 29) (oi := ?oi730) (v := ?v730) ?hi730 (by kernel_rfl) (by kernel_rfl) (by kernel_rfl) ?hQ730 (Or.inr ⟨?hw730, ?hv730⟩) (by assumption) ?rest730
              case hi730 => simp only [List.getElem?_toArray, List.getElem?_cons_succ, List.getElem?_cons_zero]; rfl
              case hQ730 => exact fun _ _ _ h => h
              case hw730 => rfl
              case hv730 => rfl
              simp only [Act.put, List.setIfInBounds_toArray, List.set_cons_zero, List.set_cons_succ]
              refine wpAnyH_take (i := 30) (oi := ?oi731) (v := ?v731) ?hi731 (by kernel_rfl) (by kernel_rfl) (by kernel_rfl) ?hQ731 (Or.inr ⟨?hw731, ?hv731⟩) (by assumption) ?rest731
              case hi731 => simp only [List.getElem?_toArray, List.getElem?_cons_succ, List.getElem?_cons_zero]; rfl
              case hQ731 => exact fun _ _ _ h => h
              case hw731 => rfl
              case hv731 => rfl
              simp only [Act.put, List.setIfInBounds_toArray, List.set_cons_zero, List.set_cons_succ]
              refine wpAnyH_take (i := 31) (oi := ?oi732) (v := ?v732) ?hi732 (by kernel_rfl) (by kernel_rfl) (by kernel_rfl) ?hQ732 (Or.inr ⟨?hw732, ?hv732⟩) (by assumption) ?rest732
              case hi732 => simp only [List.getElem?_toArray, List.getElem?_cons_succ, List.getElem?_cons_zero]; rfl
              case hQ732 => exact fun _ _ _ h => h
              case hw732 => rfl
              case hv732 => rfl
              simp only [Act.put, List.setIfInBounds_toArray, List.set_cons_zero, List.set_cons_succ]
              refine wpAnyH_take (i := 32) (oi := ?oi733) (v := ?v733) ?hi733 (by kernel_rfl) (by kernel_rfl) (by kernel_rfl) ?hQ733 (Or.inr ⟨?hw733, ?hv733⟩) (by assumption) ?rest733
              case hi733 => simp only [List.getElem?_toArray, List.getElem?_cons_succ, List.getElem?_cons_zero]; rfl
              case hQ733 => exact fun _ _ _ h => h
              case hw733 => rfl
              case hv733 => rfl
              simp only [Act.put, List.setIfInBounds_toArray, List.set_cons_zero, List.set_cons_succ]
              refine wpAnyH_take (i := 33) (oi := ?oi734) (v := ?v734) ?hi734 (by kernel_rfl) (by kernel_rfl) (by kernel_rfl) ?hQ734 (Or.inr ⟨?hw734, ?hv734⟩) (by assumption) ?rest734
              case hi734 => simp only [List.getElem?_toArray, List.getElem?_cons_succ, List.getElem?_cons_zero]; rfl
              case hQ734 => exact fun _ _ _ h => h
              case hw734 => rfl
              case hv734 => rfl
              simp only [Act.put, List.setIfInBounds_toArray, List.set_cons_zero, List.set_cons_succ]
              refine wpAnyH_take (i := 34) (oi := ?oi735) (v := ?v735) ?hi735 (by kernel_rfl) (by kernel_rfl) (by kernel_rfl) ?hQ735 (Or.inr ⟨?hw735, ?hv735⟩) (by assumption) ?rest735
              case hi735 => simp only [List.getElem?_toArray, List.getElem?_cons_succ, List.getElem?_cons_zero]; rfl
              case hQ735 => exact fun _ _ _ h => h
              case hw735 => rfl
              case hv735 => rfl
              simp only [Act.put, List.setIfInBounds_toArray, List.set_cons_zero, List.set_cons_succ]
              refine wpAnyH_take (i := 35) (oi := ?oi736) (v := ?v736) ?hi736 (by kernel_rfl) (by kernel_rfl) (by kernel_rfl) ?hQ736 (Or.inr ⟨?hw736, ?hv736⟩) (by assumption) ?rest736
              case hi736 => simp only [List.getElem?_toArray, List.getElem?_cons_succ, List.getElem?_cons_zero]; rfl
              case hQ736 => exact fun _ _ _ h => h
              case hw736 => rfl
              case hv736 => rfl
              simp only [Act.put, List.setIfInBounds_toArray, List.set_cons_zero, List.set_cons_succ]
              refine wpAnyH_take (i := 36) (oi := ?oi737) (v := ?v737) ?hi737 (by kernel_rfl) (by kernel_rfl) (by kernel_rfl) ?hQ737 (Or.inr ⟨?hw737, ?hv737⟩) (by assumption) ?rest737
              case hi737 => simp only [List.getElem?_toArray, List.getElem?_cons_succ, List.getElem?_cons_zero]; rfl
              case hQ737 => exact fun _ _ _ h => h
              case hw737 => rfl
              case hv737 => rfl
              simp only [Act.put, List.setIfInBounds_toArray, List.set_cons_zero, List.set_cons_succ]
              refine wpAnyH_take (i := 37) (oi := ?oi738) (v := ?v738) ?hi738 (by kernel_rfl) (by kernel_rfl) (by kernel_rfl) ?hQ738 (Or.inr ⟨?hw738, ?hv738⟩) (by assumption) ?rest738
              case hi738 => simp only [List.getElem?_toArray, List.getElem?_cons_succ, List.getElem?_cons_zero]; rfl
              case hQ738 => exact fun _ _ _ h => h
              case hw738 => rfl
              case hv738 => rfl
              simp only [Act.put, List.setIfInBounds_toArray, List.set_cons_zero, List.set_cons_succ]
              refine wpAnyH_take (i := 38) (oi := ?oi739) (v := ?v739) ?hi739 (by kernel_rfl) (by kernel_rfl) (by kernel_rfl) ?hQ739 (Or.inr ⟨?hw739, ?hv739⟩) (by assumption) ?rest739
              case hi739 => simp only [List.getElem?_toArray, List.getElem?_cons_succ, List.getElem?_cons_zero]; rfl
              case hQ739 => exact fun _ _ _ h => h
              case hw739 => rfl
              case hv739 => rfl
              simp only [Act.put, List.setIfInBounds_toArray, List.set_cons_zero, List.set_cons_succ]
              refine wpAnyH_take (i := 39) (oi := ?oi740) (v := ?v740) ?hi740 (by kernel_rfl) (by kernel_rfl) (by kernel_rfl) ?hQ740 (Or.inr ⟨?hw740, ?hv740⟩) (by assumption) ?rest740
              case hi740 => simp only [List.getElem?_toArray, List.getElem?_cons_succ, List.getElem?_cons_zero]; rfl
              case hQ740 => exact fun _ _ _ h => h
              case hw740 => rfl
              case hv740 => rfl
              simp only [Act.put, List.setIfInBounds_toArray, List.set_cons_zero, List.set_cons_succ]
              refine wpAnyH_take (i := 40) (oi := ?oi741) (v := ?v741) ?hi741 (by kernel_rfl) (by kernel_rfl) (by kernel_rfl) ?hQ741 (Or.inr ⟨?hw741, ?hv741⟩) (by assumption) ?rest741
              case hi741 => simp only [List.getElem?_toArray, List.getElem?_cons_succ, List.getElem?_cons_zero]; rfl
              case hQ741 => exact fun _ _ _ h => h
              case hw741 => rfl
              case hv741 => rfl
              simp only [Act.put, List.setIfInBounds_toArray, List.set_cons_zero, List.set_cons_succ]
              refine wpAnyH_take (i := 41) (oi := ?oi742) (v := ?v742) ?hi742 (by kernel_rfl) (by kernel_rfl) (by kernel_rfl) ?hQ742 (Or.inl ⟨?hw742, ?hy742⟩) (by assumption) ?rest742
              case hi742 => simp only [List.getElem?_toArray, List.getElem?_cons_succ, List.getElem?_cons_zero]; rfl
              case hQ742 => exact fun _ _ _ h => h
              case hw742 => rfl
              case hy742 => (intro W hW; obtain ⟨a0, a1, a2, a3, a4, z0, z1, z2, z3, z4, y0, y1⟩ := HCL.out W hW; go_simp; all_goals rfl)
              simp only [Act.put, List.setIfInBounds_toArray, List.set_cons_zero, List.set_cons_succ]
              refine wpAnyH_done (by kernel_rfl) ?_ _
              have HB8 := Hd.mk hHeld
              clear hHeld
              obtain ⟨a0, _, _, _, _, z0, _, _, _, _, y0, y1⟩ := HCL.out _ HB8.out
              go_wp2_with fail
              go_ret
              exact ⟨rfl, (HC.out.1.keep HB8.out).bel⟩
            · rw [if_neg hm] at haw
              simp only [Prod.mk.injEq] at haw
              obtain ⟨e1, _, _⟩ := haw
              subst e1
              clear ht htP
              obtain ⟨a0, _, _, _, _, z0, _, _, _, _, y0, y1⟩ := HCL.out wr (Below.refl _ _)
              go_upto_region 31 with fail
              clear a0 z0 y0 y1
              refine wp_region_held_drew (S := fun W => Below wr.heap.size wr W) (by kernel_rfl) ((Below.refl _ _).drew) (fun hHeld => ?_)
              refine wpAnyH_take (i := 0) (oi := ?oi801) (v := ?v801) ?hi801 (by kernel_rfl) (by kernel_rfl) (by kernel_rfl) ?hQ801 (Or.inl ⟨?hw801, ?hy801⟩) (by assumption) ?rest801
              case hi801 => simp only [List.getElem?_toArray, List.getElem?_cons_succ, List.getElem?_cons_zero]; rfl
              case hQ801 => exact fun _ _ _ h => h
              case hw801 => rfl
              case hy801 => (intro W hW; obtain ⟨a0, a1, a2, a3, a4, z0, z1, z2, z3, z4, y0, y1⟩ := HCL.out W hW; go_simp; all_goals rfl)
              simp only [Act.put, List.setIfInBounds_toArray, List.set_cons_zero, List.set_cons_succ]
              refine wpAnyH_take (i := 1) (oi := ?oi802) (v := ?v802) ?hi802 (by kernel_rfl) (by kernel_rfl) (by kernel_rfl) ?hQ802 (Or.inl ⟨?hw802, ?hy802⟩) (by assumption) ?rest802
              case hi802 => simp only [List.getElem?_toArray, List.getElem?_cons_succ, List.getElem?_cons_zero]; rfl
              case hQ802 => exact fun _ _ _ h => h
              case hw802 => rfl
              case hy802 => (intro W hW; obtain ⟨a0, a1, a2, a3, a4, z0, z1, z2, z3, z4, y0, y1⟩ := HCL.out W hW; go_simp; all_goals rfl)
              simp only [Act.put, List.setIfInBounds_toArray, List.set_cons_zero, List.set_cons_succ]
              refine wpAnyH_take (i := 2) (oi := ?oi803) (v := ?v803) ?hi803 (by kernel_rfl) (by kernel_rfl) (by kernel_rfl) ?hQ803 (Or.inl ⟨?hw803, ?hy803⟩) (by assumption) ?rest803
              case hi803 => simp only [List.getElem?_toArray, List.getElem?_cons_succ, List.getElem?_cons_zero]; rfl
              case hQ803 => exact fun _ _ _ h => h
              case hw803 => rfl
              case hy803 => (intro W hW; obtain ⟨a0, a1, a2, a3, a4, z0, z1, z2, z3, z4, y0, y1⟩ := HCL.out W hW; go_simp; all_goals rfl)
              simp only [Act.put, List.setIfInBounds_toArray, List.set_cons_zero, List.set_cons_succ]
              refine wpAnyH_take (i := 3) (oi := ?oi804) (v := ?v804) ?hi804 (by kernel_rfl) (by kernel_rfl) (by kernel_rfl) ?hQ804 (Or.inl ⟨?hw804, ?hy804⟩) (by assumption) ?rest804
              case hi804 => simp only [List.getElem?_toArray, List.getElem?_cons_succ, List.getElem?_cons_zero]; rfl
              case hQ804 => exact fun _ _ _ h => h
              case hw804 => rfl
              case hy804 => (intro W hW; obtain ⟨a0, a1, a2, a3, a4, z0, z1, z2, z3, z4, y0, y1⟩ := HCL.out W hW; go_simp; all_goals rfl)
              simp only [Act.put, List.setIfInBounds_toArray, List.set_cons_zero, List.set_cons_succ]
              refine wpAnyH_take (i := 4) (oi := ?oi805) (v := ?v805) ?hi805 (by kernel_rfl) (by kernel_rfl) (by kernel_rfl) ?hQ805 (Or.inr ⟨?hw805, ?hv805⟩) (by assumption) ?rest805
              case hi805 => simp only [List.getElem?_toArray, List.getElem?_cons_succ, List.getElem?_cons_zero]; rfl
              case hQ805 => exact fun _ _ _ h => h
              case hw805 => rfl
              case hv805 => rfl
              simp only [Act.put, List.setIfInBounds_toArray, List.set_cons_zero, List.set_cons_succ]
              refine wpAnyH_take (i := 5) (oi := ?oi806) (v := ?v806) ?hi806 (by kernel_rfl) (by kernel_rfl) (by kernel_rfl) ?hQ806 (Or.inr ⟨?hw806, ?hv806⟩) (by assumption) ?rest806
              case hi806 => simp only [List.getElem?_toArray, List.getElem?_cons_succ, List.getElem?_cons_zero]; rfl
              case hQ806 => exact fun _ _ _ h => h
              case hw806 => rfl
              case hv806 => rfl
              simp only [Act.put, List.setIfInBounds_toArray, List.set_cons_zero, List.set_cons_succ]
              refine wpAnyH_take (i := 6) (oi := ?oi807) (v := ?v807) ?hi807 (by kernel_rfl) (by kernel_rfl) (by kernel_rfl) ?hQ807 (Or.inr ⟨?hw807, ?hv807⟩) (by assumption) ?rest807
              case hi807 => simp only [List.getElem?_toArray, List.getElem?_cons_succ, List.getElem?_cons_zero]; rfl
              case hQ807 => exact fun _ _ _ h => h
              case hw807 => rfl
              case hv807 => rfl
              simp only [Act.put, List.setIfInBounds_toArray, List.set_cons_zero, List.set_cons_succ]
              refine wpAnyH_take (i := 7) (oi := ?oi808) (v := ?v808) ?hi808 (by kernel_rfl) (by kernel_rfl) (by kernel_rfl) ?hQ808 (Or.inr ⟨?hw808, ?hv808⟩) (by assumption) ?rest808
              case hi808 => simp only [List.getElem?_toArray, List.getElem?_cons_succ, List.getElem?_cons_zero]; rfl
              case hQ808 => exact fun _ _ _ h => h
              case hw808 => rfl
              case hv808 => rfl
              simp only [Act.put, List.setIfInBounds_toArray, List.set_cons_zero, List.set_cons_succ]
              refine wpAnyH_take (i := 8) (oi := ?oi809) (v := ?v809) ?hi809 (by kernel_rfl) (by kernel_rfl) (by kernel_rfl) ?hQ809 (Or.inr ⟨?hw809, ?hv809⟩) (by assumption) ?rest809
              case hi809 => simp only [List.getElem?_toArray, List.getElem?_cons_succ, List.getElem?_cons_zero]; rfl
              case hQ809 => exact fun _ _ _ h => h
              case hw809 => rfl
              case hv809 => rfl
              simp only [Act.put, List.setIfInBounds_toArray, List.set_cons_zero, List.set_cons_succ]
              refine wpAnyH_take (i := 9) (oi := ?oi810) (v := ?v810) ?hi810 (by kernel_rfl) (by kernel_rfl) (by kernel_rfl) ?hQ810 (Or.inr ⟨?hw810, ?hv810⟩) (by assumption) ?rest810
              case hi810 => simp only [List.getElem?_toArray, List.getElem?_cons_succ, List.getElem?_cons_zero]; rfl
              case hQ810 => exact fun _ _ _ h => h
              case hw810 => rfl
              case hv810 => rfl
              simp only [Act.put, List.setIfInBounds_toArray, List.set_cons_zero, List.set_cons_succ]
              refine wpAnyH_take (i := 10) (oi := ?oi811) (v := ?v811) ?hi811 (by kernel_rfl) (by kernel_rfl) (by kernel_rfl) ?hQ811 (Or.inr ⟨?hw811, ?hv811⟩) (by assumption) ?rest811
              case hi811 => simp only [List.getElem?_toArray, List.getElem?_cons_succ, List.getElem?_cons_zero]; rfl
              case hQ811 => exact fun _ _ _ h => h
              case hw811 => rfl
              case hv811 => rfl
              simp only [Act.put, List.setIfInBounds_toArray, List.set_cons_zero, List.set_cons_succ]
              refine wpAnyH_take (i := 11) (oi := ?oi812) (v := ?v812) ?hi812 (by kernel_rfl) (by kernel_rfl) (by kernel_rfl) ?hQ812 (Or.inr ⟨?hw812, ?hv812⟩) (by assumption) ?rest812
              case hi812 => simp only [List.getElem?_toArray, List.getElem?_cons_succ, List.getElem?_cons_zero]; rfl
              case hQ812 => exact fun _ _ _ h => h
              case hw812 => rfl
              case hv812 => rfl
              simp only [Act.put, List.setIfInBounds_toArray, List.set_cons_zero, List.set_cons_succ]
              refine wpAnyH_take (i := 12) (oi := ?oi813) (v := ?v813) ?hi813 (by kernel_rfl) (by kernel_rfl) (by kernel_rfl) ?hQ813 (Or.inr ⟨?hw813, ?hv813⟩) (by assumption) ?rest813
              case hi813 => simp only [List.getElem?_toArray, List.getElem?_cons_succ, List.getElem?_cons_zero]; rfl
              case hQ813 => exact fun _ _ _ h => h
              case hw813 => rfl
              case hv813 => rfl
              simp only [Act.put, List.setIfInBounds_toArray, List.set_cons_zero, List.set_cons_succ]
              refine wpAnyH_take (i := 13) (oi := ?oi814) (v := ?v814) ?hi814 (by kernel_rfl) (by kernel_rfl) (by kernel_rfl) ?hQ814 (Or.inr ⟨?hw814, ?hv814⟩) (by assumption) ?rest814
              case hi814 => simp only [List.getElem?_toArray, List.getElem?_cons_succ, List.getElem?_cons_zero]; rfl
              case hQ814 => exact fun _ _ _ h => h
              case hw814 => rfl
              case hv814 => rfl
              simp only [Act.put, List.setIfInBounds_toArray, List.set_cons_zero, List.set_cons_succ]
              refine wpAnyH_take (i := 14) (oi := ?oi815) (v := ?v815) ?hi815 (by kernel_rfl) (by kernel_rfl) (by kernel_rfl) ?hQ815 (Or.inr ⟨?hw815, ?hv815⟩) (by assumption) ?rest815
              case hi815 => simp only [List.getElem?_toArray, List.getElem?_cons_succ, List.getElem?_cons_zero]; rfl
              case hQ815 => exact fun _ _ _ h => h
              case hw815 => rfl
              case hv815 => rfl
              simp only [Act.put, List.setIfInBounds_toArray, List.set_cons_zero, List.set_cons_succ]
              refine wpAnyH_take (i := 15) (oi := ?oi816) (v := ?v816) ?hi816 (by kernel_rfl) (by kernel_rfl) (by kernel_rfl) ?hQ816 (Or.inr ⟨?hw816, ?hv816⟩) (by assumption) ?rest816
              case hi816 => simp only [List.getElem?_toArray, List.getElem?_cons_succ, List.getElem?_cons_zero]; rfl
              case hQ816 => exact fun _ _ _ h => h
              case hw816 => rfl
              case hv816 => rfl
              simp only [Act.put, List.setIfInBounds_toArray, List.set_cons_zero, List.set_cons_succ]
              refine wpAnyH_take (i := 16) (oi := ?oi817) (v := ?v817) ?hi817 (by kernel_rfl) (by kernel_rfl) (by kernel_rfl) ?hQ817 (Or.inr ⟨?hw817, ?hv817⟩) (by assumption) ?rest817
              case hi817 => simp only [List.getElem?_toArray, List.getElem?_cons_succ, List.getElem?_cons_zero]; rfl
              case hQ817 => exact fun _ _ _ h => h
              case hw817 => rfl
              case hv817 => rfl
              simp only [Act.put, List.setIfInBounds_toArray, List.set_cons_zero, List.set_cons_succ]
              refine wpAnyH_take (i := 17) (oi := ?oi818) (v := ?v818) ?hi818 (by kernel_rfl) (by kernel_rfl) (by kernel_rfl) ?hQ818 (Or.inr ⟨?hw818, ?hv818⟩) (by assumption) ?rest818
              case hi818 => simp only [List.getElem?_toArray, List.getElem?_cons_succ, List.getElem?_cons_zero]; rfl
              case hQ818 => exact fun _ _ _ h => h
              case hw818 => rfl
              case hv818 => rfl
              simp only [Act.put, List.setIfInBounds_toArray, List.set_cons_zero, List.set_cons_succ]
              refine wpAnyH_take (i := 18) (oi := ?oi819) (v := ?v819) ?hi819 (by kernel_rfl) (by kernel_rfl) (by kernel_rfl) ?hQ819 (Or.inr ⟨?hw819, ?hv819⟩) (by assumption) ?rest819
              case hi819 => simp only [List.getElem?_toArray, List.getElem?_cons_succ, List.getElem?_cons_zero]; rfl
              case hQ819 => exact fun _ _ _ h => h
              case hw819 => rfl
              case hv819 => rfl
              simp only [Act.put, List.setIfInBounds_toArray, List.set_cons_zero, List.set_cons_succ]
              refine wpAnyH_take (i := 19) (oi := ?oi820) (v := ?v820) ?hi820 (by kernel_rfl) (by kernel_rfl) (by kernel_rfl) ?hQ820 (Or.inr ⟨?hw820, ?hv820⟩) (by assumption) ?rest820
              case hi820 => simp only [List.getElem?_toArray, List.getElem?_cons_succ, List.getElem?_cons_zero]; rfl
              case hQ820 => exact fun _ _ _ h => h
              case hw820 => rfl
              case hv820 => rfl
              simp only [Act.put, List.setIfInBounds_toArray, List.set_cons_zero, List.set_cons_succ]
              refine wpAnyH_take (i := 20) (oi := ?oi821) (v := ?v821) ?hi821 (by kernel_rfl) (by kernel_rfl) (by kernel_rfl) ?hQ821 (Or.inr ⟨?hw821, ?hv821⟩) (by assumption) ?rest821
              case hi821 => simp only [List.getElem?_toArray, List.getElem?_cons_succ, List.getElem?_cons_zero]; rfl
              case hQ821 => exact fun _ _ _ h => h
              case hw821 => rfl
              case hv821 => rfl
              simp only [Act.put, List.setIfInBounds_toArray, List.set_cons_zero, List.set_cons_succ]
              refine wpAnyH_take (i := 21) (oi := ?oi822) (v := ?v822) ?hi822 (by kernel_rfl) (by kernel_rfl) (by kernel_rfl) ?hQ822 (Or.inr ⟨?hw822, ?hv822⟩) (by assumption) ?rest822
              case hi822 => simp only [List.getElem?_toArray, List.getElem?_cons_succ, List.getElem?_cons_zero]; rfl
              case hQ822 => exact fun _ _ _ h => h
              case hw822 => rfl
              case hv822 => rfl
              simp only [Act.put, List.setIfInBounds_toArray, List.set_cons_zero, List.set_cons_succ]
              refine wpAnyH_take (i := 22) (oi := ?oi823) (v := ?v823) ?hi823 (by kernel_rfl) (by kernel_rfl) (by kernel_rfl) ?hQ823 (Or.inr ⟨?hw823, ?hv823⟩) (by assumption) ?rest823
              case hi823 => simp only [List.getElem?_toArray, List.getElem?_cons_succ, List.getElem?_cons_zero]; rfl
              case hQ823 => exact fun _ _ _ h => h
              case hw823 => rfl
              case hv823 => rfl
              simp only [Act.put, List.setIfInBounds_toArray, List.set_cons_zero, List.set_cons_succ]
              refine wpAnyH_take (i := 23) (oi := ?oi824) (v := ?v824) ?hi824 (by kernel_rfl) (by kernel_rfl) (by kernel_rfl) ?hQ824 (Or.inr ⟨?hw824, ?hv824⟩) (by assumption) ?rest824
              case hi824 => simp only [List.getElem?_toArray, List.getElem?_cons_succ, List.getElem?_cons_zero]; rfl
              case hQ824 => exact fun _ _ _ h => h
              case hw824 => rfl
              case hv824 => rfl
              simp only [Act.put, List.setIfInBounds_toArray, List.set_cons_zero, List.set_cons_succ]
              refine wpAnyH_take (i := 24) (oi := ?oi825) (v := ?v825) ?hi825 (by kernel_rfl) (by kernel_rfl) (by kernel_rfl) ?hQ825 (Or.inr ⟨?hw825, ?hv825⟩) (by assumption) ?rest825
              case hi825 => simp only [List.getElem?_toArray, List.getElem?_cons_succ, List.getElem?_cons_zero]; rfl
              case hQ825 => exact fun _ _ _ h => h
              case hw825 => rfl
              case hv825 => rfl
              simp only [Act.put, List.setIfInBounds_toArray, List.set_cons_zero, List.set_cons_succ]
              refine wpAnyH_take (i := 25) (oi := ?oi826) (v := ?v826) ?hi826 (by kernel_rfl) (by kernel_rfl) (by kernel_rfl) ?hQ826 (Or.inr ⟨?hw826, ?hv826⟩) (by assumption) ?rest826
              case hi826 => simp only [List.getElem?_toArray, List.getElem?_cons_succ, List.getElem?_cons_zero]; rfl
              case hQ826 => exact fun _ _ _ h => h
              case hw826 => rfl
              case hv826 => rfl
              simp only [Act.put, List.setIfInBounds_toArray, List.set_cons_zero, List.set_cons_succ]
              refine wpAnyH_take (i := 26) (oi := ?oi827) (v := ?v827) ?hi827 (by kernel_rfl) (by kernel_rfl) (by kernel_rfl) ?hQ827 (Or.inr ⟨?hw827, ?hv827⟩) (by assumption) ?rest827
              case hi827 => simp only [List.getElem?_toArray, List.getElem?_cons_succ, List.getElem?_cons_zero]; rfl
              case hQ827 => exact fun _ _ _ h => h
              case hw827 => rfl
              case hv827 => rfl
              simp only [Act.put, List.setIfInBounds_toArray, List.set_cons_zero, List.set_cons_succ]
              refine wpAnyH_take (i := 27) (oi := ?oi828) (v := ?v828) ?hi828 (by kernel_rfl) (by kernel_rfl) (by kernel_rfl) ?hQ828 (Or.inr ⟨?hw828, ?hv828⟩) (by assumption) ?rest828
              case hi828 => simp only [List.getElem?_toArray, List.getElem?_cons_succ, List.getElem?_cons_zero]; rfl
              case hQ828 => exact fun _ _ _ h => h
              case hw828 => rfl
              case hv828 => rfl
              simp only [Act.put, List.setIfInBounds_toArray, List.set_cons_zero, List.set_cons_succ]
              refine wpAnyH_take (i := 28) (oi := ?oi829) (v := ?v829) ?hi829 (by kernel_rfl) (by kernel_rfl) (by kernel_rfl) ?hQ829 (Or.inr ⟨?hw829, ?hv829⟩) (by assumption) ?rest829
              case hi829 => simp only [List.getElem?_toArray, List.getElem?_cons_succ, List.getElem?_cons_zero]; rfl
              case hQ829 => exact fun _ _ _ h => h
              case hw829 => rfl
              case hv829 => rfl
              simp only [Act.put, List.setIfInBounds_toArray, List.set_cons_zero, List.set_cons_succ]
              refine wpAnyH_take (i := 29) (oi := ?oi830) (v := ?v830) ?hi830 (by kernel_rfl) (by kernel_rfl) (by kernel_rfl) ?hQ830 (Or.inr ⟨?hw830, ?hv830⟩) (by assumption) ?rest830
              case hi830 => simp only [List.getElem?_toArray, List.getElem?_cons_succ, List.getElem?_cons_zero]; rfl
              case hQ830 => exact fun _ _ _ h => h
              case hw830 => rfl
              case hv830 => rfl
              simp only [Act.put, List.setIfInBounds_toArray, List.set_cons_zero, List.set_cons_succ]
              refine wpAnyH_take (i := 30) (oi := ?oi831) (v := ?v831) ?hi831 (by kernel_rfl) (by kernel_rfl) (by kernel_rfl) ?hQ831 (Or.inr ⟨?hw831, ?hv831⟩) (by assumption) ?rest831
              case hi831 => simp only [List.getElem?_toArray, List.getElem?_cons_succ, List.getElem?_cons_zero]; rfl
              case hQ831 => exact fun _ _ _ h => h
              case hw831 => rfl
              case hv831 => rfl
              simp only [Act.put, List.setIfInBounds_toArray, List.set_cons_zero, List.set_cons_succ]
              refine wpAnyH_take (i := 31) (oi := ?oi832) (v := ?v832) ?hi832 (by kernel_rfl) (by kernel_rfl) (by kernel_rfl) ?hQ832 (Or.inr ⟨?hw832, ?hv832⟩) (by assumption) ?rest832
              case hi832 => simp only [List.getElem?_toArray, List.getElem?_cons_succ, List.getElem?_cons_zero]; rfl
              case hQ832 => exact fun _ _ _ h => h
              case hw832 => rfl
              case hv832 => rfl
              simp only [Act.put, List.setIfInBounds_toArray, List.set_cons_zero, List.set_cons_succ]
              refine wpAnyH_take (i := 32) (oi := ?oi833) (v := ?v833) ?hi833 (by kernel_rfl) (by kernel_rfl) (by kernel_rfl) ?hQ833 (Or.inr ⟨?hw833, ?hv833⟩) (by assumption) ?rest833
              case hi833 => simp only [List.getElem?_toArray, List.getElem?_cons_succ, List.getElem?_cons_zero]; rfl
              case hQ833 => exact fun _ _ _ h => h
              case hw833 => rfl
              case hv833 => rfl
              simp only [Act.put, List.setIfInBounds_toArray, List.set_cons_zero, List.set_cons_succ]
              refine wpAnyH_take (i := 33) (oi := ?oi834) (v := ?v834) ?hi834 (by kernel_rfl) (by kernel_rfl) (by kernel_rfl) ?hQ834 (Or.inr ⟨?hw834, ?hv834⟩) (by assumption) ?rest834
              case hi834 => simp only [List.getElem?_toArray, List.getElem?_cons_succ, List.getElem?_cons_zero]; rfl
              case hQ834 => exact fun _ _ _ h => h
              case hw834 => rfl
              case hv834 => rfl
              simp only [Act.put, List.setIfInBounds_toArray, List.set_cons_zero, List.set_cons_succ]
              refine wpAnyH_take (i := 34) (oi := ?oi835) (v := ?v835) ?hi835 (by kernel_rfl) (by kernel_rfl) (by kernel_rfl) ?hQ835 (Or.inr ⟨?hw835, ?hv835⟩) (by assumption) ?rest835
              case hi835 => simp only [List.getElem?_toArray, List.getElem?_cons_succ, List.getElem?_cons_zero]; rfl
              case hQ835 => exact fun _ _ _ h => h
              case hw835 => rfl
              case hv835 => rfl
              simp only [Act.put, List.setIfInBounds_toArray, List.set_cons_zero, List.set_cons_succ]
              refine wpAnyH_take (i := 35) (oi := ?oi836) (v := ?v836) ?hi836 (by kernel_rfl) (by kernel_rfl) (by kernel_rfl) ?hQ836 (Or.inr ⟨?hw836, ?hv836⟩) (by assumption) ?rest836
              case hi836 => simp only [List.getElem?_toArray, List.getElem?_cons_succ, List.getElem?_cons_zero]; rfl
              case hQ836 => exact fun _ _ _ h => h
              case hw836 => rfl
              case hv836 => rfl
              simp only [Act.put, List.setIfInBounds_toArray, List.set_cons_zero, List.set_cons_succ]
              refine wpAnyH_take (i := 36) (oi := ?oi837) (v := ?v837) ?hi837 (by kernel_rfl) (by kernel_rfl) (by kernel_rfl) ?hQ837 (Or.inr ⟨?hw837, ?hv837⟩) (by assumption) ?rest837
              case hi837 => simp only [List.getElem?_toArray, List.getElem?_cons_succ, List.getElem?_cons_zero]; rfl
              case hQ837 => exact fun _ _ _ h => h
              case hw837 => rfl
              case hv837 => rfl
              simp only [Act.put, List.setIfInBounds_toArray, List.set_cons_zero, List.set_cons_succ]
              refine wpAnyH_take (i := 37) (oi := ?oi838) (v := ?v838) ?hi838 (by kernel_rfl) (by kernel_rfl) (by kernel_rfl) ?hQ838 (Or.inr ⟨?hw838, ?hv838⟩) (by assumption) ?rest838
              case hi838 => simp only [List.getElem?_toArray, List.getElem?_cons_succ, List.getElem?_cons_zero]; rfl
              case hQ838 => exact fun _ _ _ h => h
              case hw838 => rfl
              case hv838 => rfl
              simp only [Act.put, List.setIfInBounds_toArray, List.set_cons_zero, List.set_cons_succ]
              refine wpAnyH_take (i := 38) (oi := ?oi839) (v := ?v839) ?hi839 (by kernel_rfl) (by kernel_rfl) (by kernel_rfl) ?hQ839 (Or.inr ⟨?hw839, ?hv839⟩) (by assumption) ?rest839
              case hi839 => simp only [List.getElem?_toArray, List.getElem?_cons_succ, List.getElem?_cons_zero]; rfl
              case hQ839 => exact fun _ _ _ h => h
              case hw839 => rfl
              case hv839 => rfl
              simp only [Act.put, List.setIfInBounds_toArray, List.set_cons_zero, List.set_cons_succ]
              refine wpAnyH_take (i := 39) (oi := ?oi840) (v := ?v840) ?hi840 (by kernel_rfl) (by kernel_rfl) (by kernel_rfl) ?hQ840 (Or.inr ⟨?hw840, ?hv840⟩) (by assumption) ?rest840
              case hi840 => simp only [List.getElem?_toArray, List.getElem?_cons_succ, List.getElem?_cons_zero]; rfl
              case hQ840 => exact fun _ _ _ h => h
              case hw840 => rfl
              case hv840 => rfl
              simp only [Act.put, List.setIfInBounds_toArray, List.set_cons_zero, List.set_cons_succ]
              refine wpAnyH_take (i := 40) (oi := ?oi841) (v := ?v841) ?hi841 (by kernel_rfl) (by kernel_rfl) (by kernel_rfl) ?hQ841 (Or.inr ⟨?hw841, ?hv841⟩) (by assumption) ?rest841
              case hi841 => simp only [List.getElem?_toArray, List.getElem?_cons_succ, List.getElem?_cons_zero]; rfl
              case hQ841 => exact fun _ _ _ h => h
              case hw841 => rfl
              case hv841 => rfl
              simp only [Act.put, List.setIfInBounds_toArray, List.set_cons_zero, List.set_cons_succ]
              refine wpAnyH_take (i := 41) (oi := ?oi842) (v := ?v842) ?hi842 (by kernel_rfl) (by kernel_rfl) (by kernel_rfl) ?hQ842 (Or.inl ⟨?hw842, ?hy842⟩) (by assumption) ?rest842
              case hi842 => simp only [List.getElem?_toArray, List.getElem?_cons_succ, List.getElem?_cons_zero]; rfl
              case hQ842 => exact fun _ _ _ h => h
              case hw842 => rfl
              case hy842 => (intro W hW; obtain ⟨a0, a1, a2, a3, a4, z0, z1, z2, z3, z4, y0, y1⟩ := HCL.out W hW; go_simp; all_goals rfl)
              simp only [Act.put, List.setIfInBounds_toArray, List.set_cons_zero, List.set_cons_succ]
              refine wpAnyH_done (by kernel_rfl) ?_ _
              have HB8 := Hd.mk hHeld
              clear hHeld
              obtain ⟨a0, _, _, _, _, z0, _, _, _, _, y0, y1⟩ := HCL.out _ HB8.out
              go_wp2_with fail
              go_ret
              exact ⟨rfl, (HC.out.1.keep HB8.out).bel⟩
          · have htv := top_first _ (grp_pair F q) ht
            have hjt := judge_top HQ.out ht
            rw [HV.out] at hjt
            simp only [Prod.mk.injEq] at hjt
            obtain ⟨e1, e2', _⟩ := hjt
            subst e1
            subst e2'
            have HTV := Hd.mk (And.intro ht htv)
            clear ht htv
            obtain ⟨mv, hmv⟩ : ∃ z, cnt F q (ep, ct, sz) = z := ⟨_, rfl⟩
            have HMV := Hd.mk hmv
            have hmvq : mv ≤ q := hmv ▸ cnt_le _ _ _
            have hkmv : k ≤ (mv : Int) := by have := HTV.out.2.1; rw [hmv] at this; exact this
            clear hmv
            obtain ⟨a0, a1, a2, a3, a4, z0, z1, z2, z3, z4, y0, y1⟩ := HCL.out wr (Below.refl _ _)
            go_upto_region 31 with fail
            clear a0 a1 a2 a3 a4 z0 z1 z2 z3 z4 y0 y1
            go_cut [165] from 124 (fun r wx => r = .bool false ∧ Below wr.heap.size wr wx)
            case first =>
              by_cases hw1 : wk = 1
              · subst hw1
                obtain ⟨_, htP, hpw⟩ := judge_one HWP.out
                obtain ⟨hkx, v', htv', hno⟩ := hide_some HHI.out HF.out hk1 htP
                obtain rfl : v' = (ep, ct, sz) := by rw [HTV.out.1] at htv'; injection htv' with h; exact h.symm
                have hpn : cnt P q (e2, q2, s2) = n2 := by rw [← HN2.out, hpw]; rfl
                obtain ⟨fx, hfx⟩ : ∃ z, cnt F q (e2, q2, s2) = z := ⟨_, rfl⟩
                have hfxq : fx ≤ q := hfx ▸ cnt_le _ _ _
                rw [hfx] at hkx
                have hlt' : ¬ (fx : Int) < k := by omega
                have HSF1 : Hd (∀ W, Below wr.heap.size wr W → Calls Try.prog 26 #[.slice (some ⟨g1, 0, none⟩) q cg1, .agg #[.int .i64 e2, .int .i64 q2], .int .i64 s2] W fun e w' => e = .returned (.int .i64 (fx : Int)) ∧ Below W.heap.size W w') := ⟨fun W hW => by have h := HSF.out W hW e2 q2 s2; rw [hfx] at h; exact h⟩
                have HSP1 : Hd (∀ W, Below wr.heap.size wr W → Calls Try.prog 26 #[.slice (some ⟨g2, 0, none⟩) q cg2, .agg #[.int .i64 e2, .int .i64 q2], .int .i64 s2] W fun e w' => e = .returned (.int .i64 (n2 : Int)) ∧ Below W.heap.size W w') := ⟨fun W hW => by have h := HSP.out W hW e2 q2 s2; rw [hpn] at h; exact h⟩
                have HOL : Hd (∀ W, Calls Try.prog 27 #[.agg #[.int .i64 ep, .int .i64 ct], .int .i64 sz, .agg #[.int .i64 e2, .int .i64 q2], .int .i64 s2] W fun e w' => e = .returned (.bool false) ∧ Below W.heap.size W w') := ⟨fun W => by have h := older_any W ep ct sz e2 q2 s2; rw [decide_eq_false hno] at h; exact h⟩
                clear htP hpw htv' hno hpn hfx hkx
                refine wp_region_held_drew (S := fun W => Below wr.heap.size wr W) (by kernel_rfl) ((Below.refl _ _).drew) (fun hHeld => ?_)
                refine wpAnyH_take (i := 0) (oi := ?oi301) (v := ?v301) ?hi301 (by kernel_rfl) (by kernel_rfl) (by kernel_rfl) ?hQ301 (Or.inl ⟨?hw301, ?hy301⟩) (by assumption) ?rest301
                case hi301 => simp only [List.getElem?_toArray, List.getElem?_cons_succ, List.getElem?_cons_zero]; rfl
                case hQ301 => exact fun _ _ _ h => h
                case hw301 => rfl
                case hy301 => (intro W hW; obtain ⟨a0, a1, a2, a3, a4, z0, z1, z2, z3, z4, y0, y1⟩ := HCL.out W hW; go_simp; all_goals rfl)
                simp only [Act.put, List.setIfInBounds_toArray, List.set_cons_zero, List.set_cons_succ]
                refine wpAnyH_take (i := 1) (oi := ?oi302) (v := ?v302) ?hi302 (by kernel_rfl) (by kernel_rfl) (by kernel_rfl) ?hQ302 (Or.inl ⟨?hw302, ?hy302⟩) (by assumption) ?rest302
                case hi302 => simp only [List.getElem?_toArray, List.getElem?_cons_succ, List.getElem?_cons_zero]; rfl
                case hQ302 => exact fun _ _ _ h => h
                case hw302 => rfl
                case hy302 => (intro W hW; obtain ⟨a0, a1, a2, a3, a4, z0, z1, z2, z3, z4, y0, y1⟩ := HCL.out W hW; go_simp; all_goals rfl)
                simp only [Act.put, List.setIfInBounds_toArray, List.set_cons_zero, List.set_cons_succ]
                refine wpAnyH_take (i := 2) (oi := ?oi303) (v := ?v303) ?hi303 (by kernel_rfl) (by kernel_rfl) (by kernel_rfl) ?hQ303 (Or.inl ⟨?hw303, ?hy303⟩) (by assumption) ?rest303
                case hi303 => simp only [List.getElem?_toArray, List.getElem?_cons_succ, List.getElem?_cons_zero]; rfl
                case hQ303 => exact fun _ _ _ h => h
                case hw303 => rfl
                case hy303 => (intro W hW; obtain ⟨a0, a1, a2, a3, a4, z0, z1, z2, z3, z4, y0, y1⟩ := HCL.out W hW; go_simp; all_goals rfl)
                simp only [Act.put, List.setIfInBounds_toArray, List.set_cons_zero, List.set_cons_succ]
                refine wpAnyH_take (i := 3) (oi := ?oi304) (v := ?v304) ?hi304 (by kernel_rfl) (by kernel_rfl) (by kernel_rfl) ?hQ304 (Or.inl ⟨?hw304, ?hy304⟩) (by assumption) ?rest304
                case hi304 => simp only [List.getElem?_toArray, List.getElem?_cons_succ, List.getElem?_cons_zero]; rfl
                case hQ304 => exact fun _ _ _ h => h
                case hw304 => rfl
                case hy304 => (intro W hW; obtain ⟨a0, a1, a2, a3, a4, z0, z1, z2, z3, z4, y0, y1⟩ := HCL.out W hW; go_simp; all_goals rfl)
                simp only [Act.put, List.setIfInBounds_toArray, List.set_cons_zero, List.set_cons_succ]
                refine wpAnyH_take (i := 4) (oi := ?oi305) (v := ?v305) ?hi305 (by kernel_rfl) (by kernel_rfl) (by kernel_rfl) ?hQ305 (Or.inl ⟨?hw305, ?hy305⟩) (by assumption) ?rest305
                case hi305 => simp only [List.getElem?_toArray, List.getElem?_cons_succ, List.getElem?_cons_zero]; rfl
                case hQ305 => exact fun _ _ _ h => h
                case hw305 => rfl
                case hy305 => (intro W hW; obtain ⟨a0, a1, a2, a3, a4, z0, z1, z2, z3, z4, y0, y1⟩ := HCL.out W hW; go_simp; all_goals rfl)
                simp only [Act.put, List.setIfInBounds_toArray, List.set_cons_zero, List.set_cons_succ]
                refine wpAnyH_take (i := 5) (oi := ?oi306) (v := ?v306) ?hi306 (by kernel_rfl) (by kernel_rfl) (by kernel_rfl) ?hQ306 (Or.inl ⟨?hw306, ?hy306⟩) (by assumption) ?rest306
                case hi306 => simp only [List.getElem?_toArray, List.getElem?_cons_succ, List.getElem?_cons_zero]; rfl
                case hQ306 => exact fun _ _ _ h => h
                case hw306 => rfl
                case hy306 => (intro W hW; obtain ⟨a0, a1, a2, a3, a4, z0, z1, z2, z3, z4, y0, y1⟩ := HCL.out W hW; go_simp; all_goals rfl)
                simp only [Act.put, List.setIfInBounds_toArray, List.set_cons_zero, List.set_cons_succ]
                refine wpAnyH_take (i := 6) (oi := ?oi307) (v := ?v307) ?hi307 (by kernel_rfl) (by kernel_rfl) (by kernel_rfl) ?hQ307 (Or.inl ⟨?hw307, ?hy307⟩) (by assumption) ?rest307
                case hi307 => simp only [List.getElem?_toArray, List.getElem?_cons_succ, List.getElem?_cons_zero]; rfl
                case hQ307 => exact fun _ _ _ h => h
                case hw307 => rfl
                case hy307 => (intro W hW; obtain ⟨a0, a1, a2, a3, a4, z0, z1, z2, z3, z4, y0, y1⟩ := HCL.out W hW; go_simp; all_goals rfl)
                simp only [Act.put, List.setIfInBounds_toArray, List.set_cons_zero, List.set_cons_succ]
                refine wpAnyH_take (i := 7) (oi := ?oi308) (v := ?v308) ?hi308 (by kernel_rfl) (by kernel_rfl) (by kernel_rfl) ?hQ308 (Or.inl ⟨?hw308, ?hy308⟩) (by assumption) ?rest308
                case hi308 => simp only [List.getElem?_toArray, List.getElem?_cons_succ, List.getElem?_cons_zero]; rfl
                case hQ308 => exact fun _ _ _ h => h
                case hw308 => rfl
                case hy308 => (intro W hW; obtain ⟨a0, a1, a2, a3, a4, z0, z1, z2, z3, z4, y0, y1⟩ := HCL.out W hW; go_simp; all_goals rfl)
                simp only [Act.put, List.setIfInBounds_toArray, List.set_cons_zero, List.set_cons_succ]
                refine wpAnyH_take (i := 8) (oi := ?oi309) (v := ?v309) ?hi309 (by kernel_rfl) (by kernel_rfl) (by kernel_rfl) ?hQ309 (Or.inl ⟨?hw309, ?hy309⟩) (by assumption) ?rest309
                case hi309 => simp only [List.getElem?_toArray, List.getElem?_cons_succ, List.getElem?_cons_zero]; rfl
                case hQ309 => exact fun _ _ _ h => h
                case hw309 => rfl
                case hy309 => (intro W hW; obtain ⟨a0, a1, a2, a3, a4, z0, z1, z2, z3, z4, y0, y1⟩ := HCL.out W hW; go_simp; all_goals rfl)
                simp only [Act.put, List.setIfInBounds_toArray, List.set_cons_zero, List.set_cons_succ]
                refine wpAnyH_take (i := 9) (oi := ?oi310) (v := ?v310) ?hi310 (by kernel_rfl) (by kernel_rfl) (by kernel_rfl) ?hQ310 (Or.inl ⟨?hw310, ?hy310⟩) (by assumption) ?rest310
                case hi310 => simp only [List.getElem?_toArray, List.getElem?_cons_succ, List.getElem?_cons_zero]; rfl
                case hQ310 => exact fun _ _ _ h => h
                case hw310 => rfl
                case hy310 => (intro W hW; obtain ⟨a0, a1, a2, a3, a4, z0, z1, z2, z3, z4, y0, y1⟩ := HCL.out W hW; go_simp; all_goals rfl)
                simp only [Act.put, List.setIfInBounds_toArray, List.set_cons_zero, List.set_cons_succ]
                refine wpAnyH_take (i := 10) (oi := ?oi311) (v := ?v311) ?hi311 (by kernel_rfl) (by kernel_rfl) (by kernel_rfl) ?hQ311 (Or.inl ⟨?hw311, ?hy311⟩) (by assumption) ?rest311
                case hi311 => simp only [List.getElem?_toArray, List.getElem?_cons_succ, List.getElem?_cons_zero]; rfl
                case hQ311 => exact fun _ _ _ h => h
                case hw311 => rfl
                case hy311 => (intro W hW; obtain ⟨a0, a1, a2, a3, a4, z0, z1, z2, z3, z4, y0, y1⟩ := HCL.out W hW; go_simp; all_goals rfl)
                simp only [Act.put, List.setIfInBounds_toArray, List.set_cons_zero, List.set_cons_succ]
                refine wpAnyH_take (i := 11) (oi := ?oi312) (v := ?v312) ?hi312 (by kernel_rfl) (by kernel_rfl) (by kernel_rfl) ?hQ312 (Or.inl ⟨?hw312, ?hy312⟩) (by assumption) ?rest312
                case hi312 => simp only [List.getElem?_toArray, List.getElem?_cons_succ, List.getElem?_cons_zero]; rfl
                case hQ312 => exact fun _ _ _ h => h
                case hw312 => rfl
                case hy312 => (intro W hW; obtain ⟨a0, a1, a2, a3, a4, z0, z1, z2, z3, z4, y0, y1⟩ := HCL.out W hW; go_simp; all_goals rfl)
                simp only [Act.put, List.setIfInBounds_toArray, List.set_cons_zero, List.set_cons_succ]
                refine wpAnyH_take (i := 12) (oi := ?oi313) (v := ?v313) ?hi313 (by kernel_rfl) (by kernel_rfl) (by kernel_rfl) ?hQ313 (Or.inl ⟨?hw313, ?hy313⟩) (by assumption) ?rest313
                case hi313 => simp only [List.getElem?_toArray, List.getElem?_cons_succ, List.getElem?_cons_zero]; rfl
                case hQ313 => exact fun _ _ _ h => h
                case hw313 => rfl
                case hy313 => (intro W hW; obtain ⟨a0, a1, a2, a3, a4, z0, z1, z2, z3, z4, y0, y1⟩ := HCL.out W hW; go_simp; all_goals rfl)
                simp only [Act.put, List.setIfInBounds_toArray, List.set_cons_zero, List.set_cons_succ]
                refine wpAnyH_take (i := 14) (oi := ?oi314) (v := ?v314) ?hi314 (by kernel_rfl) (by kernel_rfl) (by kernel_rfl) ?hQ314 (Or.inl ⟨?hw314, ?hy314⟩) (by assumption) ?rest314
                case hi314 => simp only [List.getElem?_toArray, List.getElem?_cons_succ, List.getElem?_cons_zero]; rfl
                case hQ314 => exact fun _ _ _ h => h
                case hw314 => rfl
                case hy314 => (intro W hW; obtain ⟨a0, a1, a2, a3, a4, z0, z1, z2, z3, z4, y0, y1⟩ := HCL.out W hW; go_simp; all_goals rfl)
                simp only [Act.put, List.setIfInBounds_toArray, List.set_cons_zero, List.set_cons_succ]
                refine wpAnyH_take (i := 15) (oi := ?oi315) (v := ?v315) ?hi315 (by kernel_rfl) (by kernel_rfl) (by kernel_rfl) ?hQ315 (Or.inl ⟨?hw315, ?hy315⟩) (by assumption) ?rest315
                case hi315 => simp only [List.getElem?_toArray, List.getElem?_cons_succ, List.getElem?_cons_zero]; rfl
                case hQ315 => exact fun _ _ _ h => h
                case hw315 => rfl
                case hy315 => (intro W hW; obtain ⟨a0, a1, a2, a3, a4, z0, z1, z2, z3, z4, y0, y1⟩ := HCL.out W hW; go_simp; all_goals rfl)
                simp only [Act.put, List.setIfInBounds_toArray, List.set_cons_zero, List.set_cons_succ]
                refine wpAnyH_ready (rs := [13]) (by kernel_rfl) (by simp) ?_
                refine AllReadyH.cons (i := 13) (o := ?o316) ?ho316 (fun Kq hK => ?step316) AllReadyH.nil
                case ho316 => simp only [List.getElem?_toArray, List.getElem?_cons_succ, List.getElem?_cons_zero]; rfl
                go_simp
                (go_at_call 26; refine (HSF1.out _ hHeld).mono ?_; rintro e w13 ⟨rfl, hb⟩)
                have hF : Below wr.heap.size wr w13 := hHeld.trans (hb.mono hHeld.size)
                refine hK.out _ _ hF (fun _ => ?_)
                clear hK Kq hHeld hb
                have hHeld := hF
                clear hF
                try simp only [Act.put, List.setIfInBounds_toArray, List.set_cons_zero, List.set_cons_succ]
                refine wpAnyH_take (i := 16) (oi := ?oi317) (v := ?v317) ?hi317 (by kernel_rfl) (by kernel_rfl) (by kernel_rfl) ?hQ317 (Or.inl ⟨?hw317, ?hy317⟩) (by assumption) ?rest317
                case hi317 => simp only [List.getElem?_toArray, List.getElem?_cons_succ, List.getElem?_cons_zero]; rfl
                case hQ317 => exact fun _ _ _ h => h
                case hw317 => rfl
                case hy317 => (intro W hW; obtain ⟨a0, a1, a2, a3, a4, z0, z1, z2, z3, z4, y0, y1⟩ := HCL.out W hW; go_simp; all_goals rfl)
                simp only [Act.put, List.setIfInBounds_toArray, List.set_cons_zero, List.set_cons_succ]
                refine wpAnyH_take (i := 17) (oi := ?oi318) (v := ?v318) ?hi318 (by kernel_rfl) (by kernel_rfl) (by kernel_rfl) ?hQ318 (Or.inl ⟨?hw318, ?hy318⟩) (by assumption) ?rest318
                case hi318 => simp only [List.getElem?_toArray, List.getElem?_cons_succ, List.getElem?_cons_zero]; rfl
                case hQ318 => exact fun _ _ _ h => h
                case hw318 => rfl
                case hy318 => (intro W hW; obtain ⟨a0, a1, a2, a3, a4, z0, z1, z2, z3, z4, y0, y1⟩ := HCL.out W hW; go_simp; all_goals rfl)
                simp only [Act.put, List.setIfInBounds_toArray, List.set_cons_zero, List.set_cons_succ]
                refine wpAnyH_take (i := 18) (oi := ?oi319) (v := ?v319) ?hi319 (by kernel_rfl) (by kernel_rfl) (by kernel_rfl) ?hQ319 (Or.inl ⟨?hw319, ?hy319⟩) (by assumption) ?rest319
                case hi319 => simp only [List.getElem?_toArray, List.getElem?_cons_succ, List.getElem?_cons_zero]; rfl
                case hQ319 => exact fun _ _ _ h => h
                case hw319 => rfl
                case hy319 => (intro W hW; obtain ⟨a0, a1, a2, a3, a4, z0, z1, z2, z3, z4, y0, y1⟩ := HCL.out W hW; go_simp; all_goals rfl)
                simp only [Act.put, List.setIfInBounds_toArray, List.set_cons_zero, List.set_cons_succ]
                refine wpAnyH_take (i := 19) (oi := ?oi320) (v := ?v320) ?hi320 (by kernel_rfl) (by kernel_rfl) (by kernel_rfl) ?hQ320 (Or.inl ⟨?hw320, ?hy320⟩) (by assumption) ?rest320
                case hi320 => simp only [List.getElem?_toArray, List.getElem?_cons_succ, List.getElem?_cons_zero]; rfl
                case hQ320 => exact fun _ _ _ h => h
                case hw320 => rfl
                case hy320 => (intro W hW; obtain ⟨a0, a1, a2, a3, a4, z0, z1, z2, z3, z4, y0, y1⟩ := HCL.out W hW; go_simp; all_goals rfl)
                simp only [Act.put, List.setIfInBounds_toArray, List.set_cons_zero, List.set_cons_succ]
                refine wpAnyH_take (i := 20) (oi := ?oi321) (v := ?v321) ?hi321 (by kernel_rfl) (by kernel_rfl) (by kernel_rfl) ?hQ321 (Or.inl ⟨?hw321, ?hy321⟩) (by assumption) ?rest321
                case hi321 => simp only [List.getElem?_toArray, List.getElem?_cons_succ, List.getElem?_cons_zero]; rfl
                case hQ321 => exact fun _ _ _ h => h
                case hw321 => rfl
                case hy321 => (intro W hW; obtain ⟨a0, a1, a2, a3, a4, z0, z1, z2, z3, z4, y0, y1⟩ := HCL.out W hW; go_simp; all_goals rfl)
                simp only [Act.put, List.setIfInBounds_toArray, List.set_cons_zero, List.set_cons_succ]
                refine wpAnyH_take (i := 21) (oi := ?oi322) (v := ?v322) ?hi322 (by kernel_rfl) (by kernel_rfl) (by kernel_rfl) ?hQ322 (Or.inl ⟨?hw322, ?hy322⟩) (by assumption) ?rest322
                case hi322 => simp only [List.getElem?_toArray, List.getElem?_cons_succ, List.getElem?_cons_zero]; rfl
                case hQ322 => exact fun _ _ _ h => h
                case hw322 => rfl
                case hy322 => (intro W hW; obtain ⟨a0, a1, a2, a3, a4, z0, z1, z2, z3, z4, y0, y1⟩ := HCL.out W hW; go_simp; all_goals rfl)
                simp only [Act.put, List.setIfInBounds_toArray, List.set_cons_zero, List.set_cons_succ]
                refine wpAnyH_take (i := 22) (oi := ?oi323) (v := ?v323) ?hi323 (by kernel_rfl) (by kernel_rfl) (by kernel_rfl) ?hQ323 (Or.inl ⟨?hw323, ?hy323⟩) (by assumption) ?rest323
                case hi323 => simp only [List.getElem?_toArray, List.getElem?_cons_succ, List.getElem?_cons_zero]; rfl
                case hQ323 => exact fun _ _ _ h => h
                case hw323 => rfl
                case hy323 => (intro W hW; obtain ⟨a0, a1, a2, a3, a4, z0, z1, z2, z3, z4, y0, y1⟩ := HCL.out W hW; go_simp; all_goals rfl)
                simp only [Act.put, List.setIfInBounds_toArray, List.set_cons_zero, List.set_cons_succ]
                refine wpAnyH_take (i := 23) (oi := ?oi324) (v := ?v324) ?hi324 (by kernel_rfl) (by kernel_rfl) (by kernel_rfl) ?hQ324 (Or.inl ⟨?hw324, ?hy324⟩) (by assumption) ?rest324
                case hi324 => simp only [List.getElem?_toArray, List.getElem?_cons_succ, List.getElem?_cons_zero]; rfl
                case hQ324 => exact fun _ _ _ h => h
                case hw324 => rfl
                case hy324 => (intro W hW; obtain ⟨a0, a1, a2, a3, a4, z0, z1, z2, z3, z4, y0, y1⟩ := HCL.out W hW; go_simp; all_goals rfl)
                simp only [Act.put, List.setIfInBounds_toArray, List.set_cons_zero, List.set_cons_succ]
                refine wpAnyH_take (i := 24) (oi := ?oi325) (v := ?v325) ?hi325 (by kernel_rfl) (by kernel_rfl) (by kernel_rfl) ?hQ325 (Or.inl ⟨?hw325, ?hy325⟩) (by assumption) ?rest325
                case hi325 => simp only [List.getElem?_toArray, List.getElem?_cons_succ, List.getElem?_cons_zero]; rfl
                case hQ325 => exact fun _ _ _ h => h
                case hw325 => rfl
                case hy325 => (intro W hW; obtain ⟨a0, a1, a2, a3, a4, z0, z1, z2, z3, z4, y0, y1⟩ := HCL.out W hW; go_simp; all_goals rfl)
                simp only [Act.put, List.setIfInBounds_toArray, List.set_cons_zero, List.set_cons_succ]
                refine wpAnyH_take (i := 25) (oi := ?oi326) (v := ?v326) ?hi326 (by kernel_rfl) (by kernel_rfl) (by kernel_rfl) ?hQ326 (Or.inl ⟨?hw326, ?hy326⟩) (by assumption) ?rest326
                case hi326 => simp only [List.getElem?_toArray, List.getElem?_cons_succ, List.getElem?_cons_zero]; rfl
                case hQ326 => exact fun _ _ _ h => h
                case hw326 => rfl
                case hy326 => (intro W hW; obtain ⟨a0, a1, a2, a3, a4, z0, z1, z2, z3, z4, y0, y1⟩ := HCL.out W hW; go_simp; all_goals rfl)
                simp only [Act.put, List.setIfInBounds_toArray, List.set_cons_zero, List.set_cons_succ]
                refine wpAnyH_take (i := 26) (oi := ?oi327) (v := ?v327) ?hi327 (by kernel_rfl) (by kernel_rfl) (by kernel_rfl) ?hQ327 (Or.inl ⟨?hw327, ?hy327⟩) (by assumption) ?rest327
                case hi327 => simp only [List.getElem?_toArray, List.getElem?_cons_succ, List.getElem?_cons_zero]; rfl
                case hQ327 => exact fun _ _ _ h => h
                case hw327 => rfl
                case hy327 => (intro W hW; obtain ⟨a0, a1, a2, a3, a4, z0, z1, z2, z3, z4, y0, y1⟩ := HCL.out W hW; go_simp; all_goals rfl)
                simp only [Act.put, List.setIfInBounds_toArray, List.set_cons_zero, List.set_cons_succ]
                refine wpAnyH_ready (rs := [27]) (by kernel_rfl) (by simp) ?_
                refine AllReadyH.cons (i := 27) (o := ?o328) ?ho328 (fun Kq hK => ?step328) AllReadyH.nil
                case ho328 => simp only [List.getElem?_toArray, List.getElem?_cons_succ, List.getElem?_cons_zero]; rfl
                go_simp
                (go_at_call 27; refine (HOL.out _).mono ?_; rintro e w27 ⟨rfl, hb⟩)
                have hF : Below wr.heap.size wr w27 := hHeld.trans (hb.mono hHeld.size)
                refine hK.out _ _ hF (fun _ => ?_)
                clear hK Kq hHeld hb
                have hHeld := hF
                clear hF
                try simp only [Act.put, List.setIfInBounds_toArray, List.set_cons_zero, List.set_cons_succ]
                refine wpAnyH_take (i := 28) (oi := ?oi329) (v := ?v329) ?hi329 (by kernel_rfl) (by kernel_rfl) (by kernel_rfl) ?hQ329 (Or.inl ⟨?hw329, ?hy329⟩) (by assumption) ?rest329
                case hi329 => simp only [List.getElem?_toArray, List.getElem?_cons_succ, List.getElem?_cons_zero]; rfl
                case hQ329 => exact fun _ _ _ h => h
                case hw329 => rfl
                case hy329 => (intro W hW; obtain ⟨a0, a1, a2, a3, a4, z0, z1, z2, z3, z4, y0, y1⟩ := HCL.out W hW; go_simp; all_goals rfl)
                simp only [Act.put, List.setIfInBounds_toArray, List.set_cons_zero, List.set_cons_succ]
                refine wpAnyH_take (i := 29) (oi := ?oi330) (v := ?v330) ?hi330 (by kernel_rfl) (by kernel_rfl) (by kernel_rfl) ?hQ330 (Or.inl ⟨?hw330, ?hy330⟩) (by assumption) ?rest330
                case hi330 => simp only [List.getElem?_toArray, List.getElem?_cons_succ, List.getElem?_cons_zero]; rfl
                case hQ330 => exact fun _ _ _ h => h
                case hw330 => rfl
                case hy330 => (intro W hW; obtain ⟨a0, a1, a2, a3, a4, z0, z1, z2, z3, z4, y0, y1⟩ := HCL.out W hW; go_simp; all_goals rfl)
                simp only [Act.put, List.setIfInBounds_toArray, List.set_cons_zero, List.set_cons_succ]
                refine wpAnyH_take (i := 30) (oi := ?oi331) (v := ?v331) ?hi331 (by kernel_rfl) (by kernel_rfl) (by kernel_rfl) ?hQ331 (Or.inl ⟨?hw331, ?hy331⟩) (by assumption) ?rest331
                case hi331 => simp only [List.getElem?_toArray, List.getElem?_cons_succ, List.getElem?_cons_zero]; rfl
                case hQ331 => exact fun _ _ _ h => h
                case hw331 => rfl
                case hy331 => (intro W hW; obtain ⟨a0, a1, a2, a3, a4, z0, z1, z2, z3, z4, y0, y1⟩ := HCL.out W hW; go_simp; all_goals rfl)
                simp only [Act.put, List.setIfInBounds_toArray, List.set_cons_zero, List.set_cons_succ]
                refine wpAnyH_take (i := 31) (oi := ?oi332) (v := ?v332) ?hi332 (by kernel_rfl) (by kernel_rfl) (by kernel_rfl) ?hQ332 (Or.inl ⟨?hw332, ?hy332⟩) (by assumption) ?rest332
                case hi332 => simp only [List.getElem?_toArray, List.getElem?_cons_succ, List.getElem?_cons_zero]; rfl
                case hQ332 => exact fun _ _ _ h => h
                case hw332 => rfl
                case hy332 => (intro W hW; obtain ⟨a0, a1, a2, a3, a4, z0, z1, z2, z3, z4, y0, y1⟩ := HCL.out W hW; go_simp; all_goals rfl)
                simp only [Act.put, List.setIfInBounds_toArray, List.set_cons_zero, List.set_cons_succ]
                refine wpAnyH_take (i := 32) (oi := ?oi333) (v := ?v333) ?hi333 (by kernel_rfl) (by kernel_rfl) (by kernel_rfl) ?hQ333 (Or.inl ⟨?hw333, ?hy333⟩) (by assumption) ?rest333
                case hi333 => simp only [List.getElem?_toArray, List.getElem?_cons_succ, List.getElem?_cons_zero]; rfl
                case hQ333 => exact fun _ _ _ h => h
                case hw333 => rfl
                case hy333 => (intro W hW; obtain ⟨a0, a1, a2, a3, a4, z0, z1, z2, z3, z4, y0, y1⟩ := HCL.out W hW; go_simp; all_goals rfl)
                simp only [Act.put, List.setIfInBounds_toArray, List.set_cons_zero, List.set_cons_succ]
                refine wpAnyH_take (i := 33) (oi := ?oi334) (v := ?v334) ?hi334 (by kernel_rfl) (by kernel_rfl) (by kernel_rfl) ?hQ334 (Or.inl ⟨?hw334, ?hy334⟩) (by assumption) ?rest334
                case hi334 => simp only [List.getElem?_toArray, List.getElem?_cons_succ, List.getElem?_cons_zero]; rfl
                case hQ334 => exact fun _ _ _ h => h
                case hw334 => rfl
                case hy334 => (intro W hW; obtain ⟨a0, a1, a2, a3, a4, z0, z1, z2, z3, z4, y0, y1⟩ := HCL.out W hW; go_simp; all_goals rfl)
                simp only [Act.put, List.setIfInBounds_toArray, List.set_cons_zero, List.set_cons_succ]
                refine wpAnyH_take (i := 34) (oi := ?oi335) (v := ?v335) ?hi335 (by kernel_rfl) (by kernel_rfl) (by kernel_rfl) ?hQ335 (Or.inl ⟨?hw335, ?hy335⟩) (by assumption) ?rest335
                case hi335 => simp only [List.getElem?_toArray, List.getElem?_cons_succ, List.getElem?_cons_zero]; rfl
                case hQ335 => exact fun _ _ _ h => h
                case hw335 => rfl
                case hy335 => (intro W hW; obtain ⟨a0, a1, a2, a3, a4, z0, z1, z2, z3, z4, y0, y1⟩ := HCL.out W hW; go_simp; all_goals rfl)
                simp only [Act.put, List.setIfInBounds_toArray, List.set_cons_zero, List.set_cons_succ]
                refine wpAnyH_take (i := 35) (oi := ?oi336) (v := ?v336) ?hi336 (by kernel_rfl) (by kernel_rfl) (by kernel_rfl) ?hQ336 (Or.inl ⟨?hw336, ?hy336⟩) (by assumption) ?rest336
                case hi336 => simp only [List.getElem?_toArray, List.getElem?_cons_succ, List.getElem?_cons_zero]; rfl
                case hQ336 => exact fun _ _ _ h => h
                case hw336 => rfl
                case hy336 => (intro W hW; obtain ⟨a0, a1, a2, a3, a4, z0, z1, z2, z3, z4, y0, y1⟩ := HCL.out W hW; go_simp; all_goals rfl)
                simp only [Act.put, List.setIfInBounds_toArray, List.set_cons_zero, List.set_cons_succ]
                refine wpAnyH_take (i := 36) (oi := ?oi337) (v := ?v337) ?hi337 (by kernel_rfl) (by kernel_rfl) (by kernel_rfl) ?hQ337 (Or.inl ⟨?hw337, ?hy337⟩) (by assumption) ?rest337
                case hi337 => simp only [List.getElem?_toArray, List.getElem?_cons_succ, List.getElem?_cons_zero]; rfl
                case hQ337 => exact fun _ _ _ h => h
                case hw337 => rfl
                case hy337 => (intro W hW; obtain ⟨a0, a1, a2, a3, a4, z0, z1, z2, z3, z4, y0, y1⟩ := HCL.out W hW; go_simp; all_goals rfl)
                simp only [Act.put, List.setIfInBounds_toArray, List.set_cons_zero, List.set_cons_succ]
                refine wpAnyH_take (i := 37) (oi := ?oi338) (v := ?v338) ?hi338 (by kernel_rfl) (by kernel_rfl) (by kernel_rfl) ?hQ338 (Or.inl ⟨?hw338, ?hy338⟩) (by assumption) ?rest338
                case hi338 => simp only [List.getElem?_toArray, List.getElem?_cons_succ, List.getElem?_cons_zero]; rfl
                case hQ338 => exact fun _ _ _ h => h
                case hw338 => rfl
                case hy338 => (intro W hW; obtain ⟨a0, a1, a2, a3, a4, z0, z1, z2, z3, z4, y0, y1⟩ := HCL.out W hW; go_simp; all_goals rfl)
                simp only [Act.put, List.setIfInBounds_toArray, List.set_cons_zero, List.set_cons_succ]
                refine wpAnyH_ready (rs := [38]) (by kernel_rfl) (by simp) ?_
                refine AllReadyH.cons (i := 38) (o := ?o339) ?ho339 (fun Kq hK => ?step339) AllReadyH.nil
                case ho339 => simp only [List.getElem?_toArray, List.getElem?_cons_succ, List.getElem?_cons_zero]; rfl
                go_simp
                (go_at_call 26; refine (HSP1.out _ hHeld).mono ?_; rintro e w38 ⟨rfl, hb⟩)
                have hF : Below wr.heap.size wr w38 := hHeld.trans (hb.mono hHeld.size)
                refine hK.out _ _ hF (fun _ => ?_)
                clear hK Kq hHeld hb
                have hHeld := hF
                clear hF
                try simp only [Act.put, List.setIfInBounds_toArray, List.set_cons_zero, List.set_cons_succ]
                refine wpAnyH_take (i := 39) (oi := ?oi340) (v := ?v340) ?hi340 (by kernel_rfl) (by kernel_rfl) (by kernel_rfl) ?hQ340 (Or.inl ⟨?hw340, ?hy340⟩) (by assumption) ?rest340
                case hi340 => simp only [List.getElem?_toArray, List.getElem?_cons_succ, List.getElem?_cons_zero]; rfl
                case hQ340 => exact fun _ _ _ h => h
                case hw340 => rfl
                case hy340 => (intro W hW; obtain ⟨a0, a1, a2, a3, a4, z0, z1, z2, z3, z4, y0, y1⟩ := HCL.out W hW; go_simp; all_goals rfl)
                simp only [Act.put, List.setIfInBounds_toArray, List.set_cons_zero, List.set_cons_succ]
                refine wpAnyH_take (i := 40) (oi := ?oi341) (v := ?v341) ?hi341 (by kernel_rfl) (by kernel_rfl) (by kernel_rfl) ?hQ341 (Or.inl ⟨?hw341, ?hy341⟩) (by assumption) ?rest341
                case hi341 => simp only [List.getElem?_toArray, List.getElem?_cons_succ, List.getElem?_cons_zero]; rfl
                case hQ341 => exact fun _ _ _ h => h
                case hw341 => rfl
                case hy341 => (intro W hW; obtain ⟨a0, a1, a2, a3, a4, z0, z1, z2, z3, z4, y0, y1⟩ := HCL.out W hW; go_simp; all_goals rfl)
                simp only [Act.put, List.setIfInBounds_toArray, List.set_cons_zero, List.set_cons_succ]
                refine wpAnyH_take (i := 41) (oi := ?oi342) (v := ?v342) ?hi342 (by kernel_rfl) (by kernel_rfl) (by kernel_rfl) ?hQ342 (Or.inl ⟨?hw342, ?hy342⟩) (by assumption) ?rest342
                case hi342 => simp only [List.getElem?_toArray, List.getElem?_cons_succ, List.getElem?_cons_zero]; rfl
                case hQ342 => exact fun _ _ _ h => h
                case hw342 => rfl
                case hy342 => (intro W hW; obtain ⟨a0, a1, a2, a3, a4, z0, z1, z2, z3, z4, y0, y1⟩ := HCL.out W hW; go_simp; all_goals rfl)
                simp only [Act.put, List.setIfInBounds_toArray, List.set_cons_zero, List.set_cons_succ]
                refine wpAnyH_done (by kernel_rfl) ?_ _
                have H9 := Hd.mk hHeld
                clear hHeld
                (try go_wp2_with fail)
                go_meet
                exact ⟨rfl, H9.out⟩
              · have qw1 : (wk == 1) = false := by simp [hw1]
                clear hw1
                refine wp_region_held_drew (S := fun W => Below wr.heap.size wr W) (by kernel_rfl) ((Below.refl _ _).drew) (fun hHeld => ?_)
                refine wpAnyH_take (i := 0) (oi := ?oi401) (v := ?v401) ?hi401 (by kernel_rfl) (by kernel_rfl) (by kernel_rfl) ?hQ401 (Or.inl ⟨?hw401, ?hy401⟩) (by assumption) ?rest401
                case hi401 => simp only [List.getElem?_toArray, List.getElem?_cons_succ, List.getElem?_cons_zero]; rfl
                case hQ401 => exact fun _ _ _ h => h
                case hw401 => rfl
                case hy401 => (intro W hW; obtain ⟨a0, a1, a2, a3, a4, z0, z1, z2, z3, z4, y0, y1⟩ := HCL.out W hW; go_simp; all_goals rfl)
                simp only [Act.put, List.setIfInBounds_toArray, List.set_cons_zero, List.set_cons_succ]
                refine wpAnyH_take (i := 1) (oi := ?oi402) (v := ?v402) ?hi402 (by kernel_rfl) (by kernel_rfl) (by kernel_rfl) ?hQ402 (Or.inl ⟨?hw402, ?hy402⟩) (by assumption) ?rest402
                case hi402 => simp only [List.getElem?_toArray, List.getElem?_cons_succ, List.getElem?_cons_zero]; rfl
                case hQ402 => exact fun _ _ _ h => h
                case hw402 => rfl
                case hy402 => (intro W hW; obtain ⟨a0, a1, a2, a3, a4, z0, z1, z2, z3, z4, y0, y1⟩ := HCL.out W hW; go_simp; all_goals rfl)
                simp only [Act.put, List.setIfInBounds_toArray, List.set_cons_zero, List.set_cons_succ]
                refine wpAnyH_take (i := 2) (oi := ?oi403) (v := ?v403) ?hi403 (by kernel_rfl) (by kernel_rfl) (by kernel_rfl) ?hQ403 (Or.inl ⟨?hw403, ?hy403⟩) (by assumption) ?rest403
                case hi403 => simp only [List.getElem?_toArray, List.getElem?_cons_succ, List.getElem?_cons_zero]; rfl
                case hQ403 => exact fun _ _ _ h => h
                case hw403 => rfl
                case hy403 => (intro W hW; obtain ⟨a0, a1, a2, a3, a4, z0, z1, z2, z3, z4, y0, y1⟩ := HCL.out W hW; go_simp; all_goals rfl)
                simp only [Act.put, List.setIfInBounds_toArray, List.set_cons_zero, List.set_cons_succ]
                refine wpAnyH_take (i := 3) (oi := ?oi404) (v := ?v404) ?hi404 (by kernel_rfl) (by kernel_rfl) (by kernel_rfl) ?hQ404 (Or.inl ⟨?hw404, ?hy404⟩) (by assumption) ?rest404
                case hi404 => simp only [List.getElem?_toArray, List.getElem?_cons_succ, List.getElem?_cons_zero]; rfl
                case hQ404 => exact fun _ _ _ h => h
                case hw404 => rfl
                case hy404 => (intro W hW; obtain ⟨a0, a1, a2, a3, a4, z0, z1, z2, z3, z4, y0, y1⟩ := HCL.out W hW; go_simp; all_goals rfl)
                simp only [Act.put, List.setIfInBounds_toArray, List.set_cons_zero, List.set_cons_succ]
                refine wpAnyH_take (i := 4) (oi := ?oi405) (v := ?v405) ?hi405 (by kernel_rfl) (by kernel_rfl) (by kernel_rfl) ?hQ405 (Or.inr ⟨?hw405, ?hv405⟩) (by assumption) ?rest405
                case hi405 => simp only [List.getElem?_toArray, List.getElem?_cons_succ, List.getElem?_cons_zero]; rfl
                case hQ405 => exact fun _ _ _ h => h
                case hw405 => rfl
                case hv405 => rfl
                simp only [Act.put, List.setIfInBounds_toArray, List.set_cons_zero, List.set_cons_succ]
                refine wpAnyH_take (i := 5) (oi := ?oi406) (v := ?v406) ?hi406 (by kernel_rfl) (by kernel_rfl) (by kernel_rfl) ?hQ406 (Or.inr ⟨?hw406, ?hv406⟩) (by assumption) ?rest406
                case hi406 => simp only [List.getElem?_toArray, List.getElem?_cons_succ, List.getElem?_cons_zero]; rfl
                case hQ406 => exact fun _ _ _ h => h
                case hw406 => rfl
                case hv406 => rfl
                simp only [Act.put, List.setIfInBounds_toArray, List.set_cons_zero, List.set_cons_succ]
                refine wpAnyH_take (i := 6) (oi := ?oi407) (v := ?v407) ?hi407 (by kernel_rfl) (by kernel_rfl) (by kernel_rfl) ?hQ407 (Or.inr ⟨?hw407, ?hv407⟩) (by assumption) ?rest407
                case hi407 => simp only [List.getElem?_toArray, List.getElem?_cons_succ, List.getElem?_cons_zero]; rfl
                case hQ407 => exact fun _ _ _ h => h
                case hw407 => rfl
                case hv407 => rfl
                simp only [Act.put, List.setIfInBounds_toArray, List.set_cons_zero, List.set_cons_succ]
                refine wpAnyH_take (i := 7) (oi := ?oi408) (v := ?v408) ?hi408 (by kernel_rfl) (by kernel_rfl) (by kernel_rfl) ?hQ408 (Or.inr ⟨?hw408, ?hv408⟩) (by assumption) ?rest408
                case hi408 => simp only [List.getElem?_toArray, List.getElem?_cons_succ, List.getElem?_cons_zero]; rfl
                case hQ408 => exact fun _ _ _ h => h
                case hw408 => rfl
                case hv408 => rfl
                simp only [Act.put, List.setIfInBounds_toArray, List.set_cons_zero, List.set_cons_succ]
                refine wpAnyH_take (i := 8) (oi := ?oi409) (v := ?v409) ?hi409 (by kernel_rfl) (by kernel_rfl) (by kernel_rfl) ?hQ409 (Or.inr ⟨?hw409, ?hv409⟩) (by assumption) ?rest409
                case hi409 => simp only [List.getElem?_toArray, List.getElem?_cons_succ, List.getElem?_cons_zero]; rfl
                case hQ409 => exact fun _ _ _ h => h
                case hw409 => rfl
                case hv409 => rfl
                simp only [Act.put, List.setIfInBounds_toArray, List.set_cons_zero, List.set_cons_succ]
                refine wpAnyH_take (i := 9) (oi := ?oi410) (v := ?v410) ?hi410 (by kernel_rfl) (by kernel_rfl) (by kernel_rfl) ?hQ410 (Or.inr ⟨?hw410, ?hv410⟩) (by assumption) ?rest410
                case hi410 => simp only [List.getElem?_toArray, List.getElem?_cons_succ, List.getElem?_cons_zero]; rfl
                case hQ410 => exact fun _ _ _ h => h
                case hw410 => rfl
                case hv410 => rfl
                simp only [Act.put, List.setIfInBounds_toArray, List.set_cons_zero, List.set_cons_succ]
                refine wpAnyH_take (i := 10) (oi := ?oi411) (v := ?v411) ?hi411 (by kernel_rfl) (by kernel_rfl) (by kernel_rfl) ?hQ411 (Or.inr ⟨?hw411, ?hv411⟩) (by assumption) ?rest411
                case hi411 => simp only [List.getElem?_toArray, List.getElem?_cons_succ, List.getElem?_cons_zero]; rfl
                case hQ411 => exact fun _ _ _ h => h
                case hw411 => rfl
                case hv411 => rfl
                simp only [Act.put, List.setIfInBounds_toArray, List.set_cons_zero, List.set_cons_succ]
                refine wpAnyH_take (i := 11) (oi := ?oi412) (v := ?v412) ?hi412 (by kernel_rfl) (by kernel_rfl) (by kernel_rfl) ?hQ412 (Or.inr ⟨?hw412, ?hv412⟩) (by assumption) ?rest412
                case hi412 => simp only [List.getElem?_toArray, List.getElem?_cons_succ, List.getElem?_cons_zero]; rfl
                case hQ412 => exact fun _ _ _ h => h
                case hw412 => rfl
                case hv412 => rfl
                simp only [Act.put, List.setIfInBounds_toArray, List.set_cons_zero, List.set_cons_succ]
                refine wpAnyH_take (i := 12) (oi := ?oi413) (v := ?v413) ?hi413 (by kernel_rfl) (by kernel_rfl) (by kernel_rfl) ?hQ413 (Or.inr ⟨?hw413, ?hv413⟩) (by assumption) ?rest413
                case hi413 => simp only [List.getElem?_toArray, List.getElem?_cons_succ, List.getElem?_cons_zero]; rfl
                case hQ413 => exact fun _ _ _ h => h
                case hw413 => rfl
                case hv413 => rfl
                simp only [Act.put, List.setIfInBounds_toArray, List.set_cons_zero, List.set_cons_succ]
                refine wpAnyH_take (i := 13) (oi := ?oi414) (v := ?v414) ?hi414 (by kernel_rfl) (by kernel_rfl) (by kernel_rfl) ?hQ414 (Or.inr ⟨?hw414, ?hv414⟩) (by assumption) ?rest414
                case hi414 => simp only [List.getElem?_toArray, List.getElem?_cons_succ, List.getElem?_cons_zero]; rfl
                case hQ414 => exact fun _ _ _ h => h
                case hw414 => rfl
                case hv414 => rfl
                simp only [Act.put, List.setIfInBounds_toArray, List.set_cons_zero, List.set_cons_succ]
                refine wpAnyH_take (i := 14) (oi := ?oi415) (v := ?v415) ?hi415 (by kernel_rfl) (by kernel_rfl) (by kernel_rfl) ?hQ415 (Or.inr ⟨?hw415, ?hv415⟩) (by assumption) ?rest415
                case hi415 => simp only [List.getElem?_toArray, List.getElem?_cons_succ, List.getElem?_cons_zero]; rfl
                case hQ415 => exact fun _ _ _ h => h
                case hw415 => rfl
                case hv415 => rfl
                simp only [Act.put, List.setIfInBounds_toArray, List.set_cons_zero, List.set_cons_succ]
                refine wpAnyH_take (i := 15) (oi := ?oi416) (v := ?v416) ?hi416 (by kernel_rfl) (by kernel_rfl) (by kernel_rfl) ?hQ416 (Or.inr ⟨?hw416, ?hv416⟩) (by assumption) ?rest416
                case hi416 => simp only [List.getElem?_toArray, List.getElem?_cons_succ, List.getElem?_cons_zero]; rfl
                case hQ416 => exact fun _ _ _ h => h
                case hw416 => rfl
                case hv416 => rfl
                simp only [Act.put, List.setIfInBounds_toArray, List.set_cons_zero, List.set_cons_succ]
                refine wpAnyH_take (i := 16) (oi := ?oi417) (v := ?v417) ?hi417 (by kernel_rfl) (by kernel_rfl) (by kernel_rfl) ?hQ417 (Or.inr ⟨?hw417, ?hv417⟩) (by assumption) ?rest417
                case hi417 => simp only [List.getElem?_toArray, List.getElem?_cons_succ, List.getElem?_cons_zero]; rfl
                case hQ417 => exact fun _ _ _ h => h
                case hw417 => rfl
                case hv417 => rfl
                simp only [Act.put, List.setIfInBounds_toArray, List.set_cons_zero, List.set_cons_succ]
                refine wpAnyH_take (i := 17) (oi := ?oi418) (v := ?v418) ?hi418 (by kernel_rfl) (by kernel_rfl) (by kernel_rfl) ?hQ418 (Or.inr ⟨?hw418, ?hv418⟩) (by assumption) ?rest418
                case hi418 => simp only [List.getElem?_toArray, List.getElem?_cons_succ, List.getElem?_cons_zero]; rfl
                case hQ418 => exact fun _ _ _ h => h
                case hw418 => rfl
                case hv418 => rfl
                simp only [Act.put, List.setIfInBounds_toArray, List.set_cons_zero, List.set_cons_succ]
                refine wpAnyH_take (i := 18) (oi := ?oi419) (v := ?v419) ?hi419 (by kernel_rfl) (by kernel_rfl) (by kernel_rfl) ?hQ419 (Or.inr ⟨?hw419, ?hv419⟩) (by assumption) ?rest419
                case hi419 => simp only [List.getElem?_toArray, List.getElem?_cons_succ, List.getElem?_cons_zero]; rfl
                case hQ419 => exact fun _ _ _ h => h
                case hw419 => rfl
                case hv419 => rfl
                simp only [Act.put, List.setIfInBounds_toArray, List.set_cons_zero, List.set_cons_succ]
                refine wpAnyH_take (i := 19) (oi := ?oi420) (v := ?v420) ?hi420 (by kernel_rfl) (by kernel_rfl) (by kernel_rfl) ?hQ420 (Or.inr ⟨?hw420, ?hv420⟩) (by assumption) ?rest420
                case hi420 => simp only [List.getElem?_toArray, List.getElem?_cons_succ, List.getElem?_cons_zero]; rfl
                case hQ420 => exact fun _ _ _ h => h
                case hw420 => rfl
                case hv420 => rfl
                simp only [Act.put, List.setIfInBounds_toArray, List.set_cons_zero, List.set_cons_succ]
                refine wpAnyH_take (i := 20) (oi := ?oi421) (v := ?v421) ?hi421 (by kernel_rfl) (by kernel_rfl) (by kernel_rfl) ?hQ421 (Or.inr ⟨?hw421, ?hv421⟩) (by assumption) ?rest421
                case hi421 => simp only [List.getElem?_toArray, List.getElem?_cons_succ, List.getElem?_cons_zero]; rfl
                case hQ421 => exact fun _ _ _ h => h
                case hw421 => rfl
                case hv421 => rfl
                simp only [Act.put, List.setIfInBounds_toArray, List.set_cons_zero, List.set_cons_succ]
                refine wpAnyH_take (i := 21) (oi := ?oi422) (v := ?v422) ?hi422 (by kernel_rfl) (by kernel_rfl) (by kernel_rfl) ?hQ422 (Or.inr ⟨?hw422, ?hv422⟩) (by assumption) ?rest422
                case hi422 => simp only [List.getElem?_toArray, List.getElem?_cons_succ, List.getElem?_cons_zero]; rfl
                case hQ422 => exact fun _ _ _ h => h
                case hw422 => rfl
                case hv422 => rfl
                simp only [Act.put, List.setIfInBounds_toArray, List.set_cons_zero, List.set_cons_succ]
                refine wpAnyH_take (i := 22) (oi := ?oi423) (v := ?v423) ?hi423 (by kernel_rfl) (by kernel_rfl) (by kernel_rfl) ?hQ423 (Or.inr ⟨?hw423, ?hv423⟩) (by assumption) ?rest423
                case hi423 => simp only [List.getElem?_toArray, List.getElem?_cons_succ, List.getElem?_cons_zero]; rfl
                case hQ423 => exact fun _ _ _ h => h
                case hw423 => rfl
                case hv423 => rfl
                simp only [Act.put, List.setIfInBounds_toArray, List.set_cons_zero, List.set_cons_succ]
                refine wpAnyH_take (i := 23) (oi := ?oi424) (v := ?v424) ?hi424 (by kernel_rfl) (by kernel_rfl) (by kernel_rfl) ?hQ424 (Or.inr ⟨?hw424, ?hv424⟩) (by assumption) ?rest424
                case hi424 => simp only [List.getElem?_toArray, List.getElem?_cons_succ, List.getElem?_cons_zero]; rfl
                case hQ424 => exact fun _ _ _ h => h
                case hw424 => rfl
                case hv424 => rfl
                simp only [Act.put, List.setIfInBounds_toArray, List.set_cons_zero, List.set_cons_succ]
                refine wpAnyH_take (i := 24) (oi := ?oi425) (v := ?v425) ?hi425 (by kernel_rfl) (by kernel_rfl) (by kernel_rfl) ?hQ425 (Or.inr ⟨?hw425, ?hv425⟩) (by assumption) ?rest425
                case hi425 => simp only [List.getElem?_toArray, List.getElem?_cons_succ, List.getElem?_cons_zero]; rfl
                case hQ425 => exact fun _ _ _ h => h
                case hw425 => rfl
                case hv425 => rfl
                simp only [Act.put, List.setIfInBounds_toArray, List.set_cons_zero, List.set_cons_succ]
                refine wpAnyH_take (i := 25) (oi := ?oi426) (v := ?v426) ?hi426 (by kernel_rfl) (by kernel_rfl) (by kernel_rfl) ?hQ426 (Or.inr ⟨?hw426, ?hv426⟩) (by assumption) ?rest426
                case hi426 => simp only [List.getElem?_toArray, List.getElem?_cons_succ, List.getElem?_cons_zero]; rfl
                case hQ426 => exact fun _ _ _ h => h
                case hw426 => rfl
                case hv426 => rfl
                simp only [Act.put, List.setIfInBounds_toArray, List.set_cons_zero, List.set_cons_succ]
                refine wpAnyH_take (i := 26) (oi := ?oi427) (v := ?v427) ?hi427 (by kernel_rfl) (by kernel_rfl) (by kernel_rfl) ?hQ427 (Or.inr ⟨?hw427, ?hv427⟩) (by assumption) ?rest427
                case hi427 => simp only [List.getElem?_toArray, List.getElem?_cons_succ, List.getElem?_cons_zero]; rfl
                case hQ427 => exact fun _ _ _ h => h
                case hw427 => rfl
                case hv427 => rfl
                simp only [Act.put, List.setIfInBounds_toArray, List.set_cons_zero, List.set_cons_succ]
                refine wpAnyH_take (i := 27) (oi := ?oi428) (v := ?v428) ?hi428 (by kernel_rfl) (by kernel_rfl) (by kernel_rfl) ?hQ428 (Or.inr ⟨?hw428, ?hv428⟩) (by assumption) ?rest428
                case hi428 => simp only [List.getElem?_toArray, List.getElem?_cons_succ, List.getElem?_cons_zero]; rfl
                case hQ428 => exact fun _ _ _ h => h
                case hw428 => rfl
                case hv428 => rfl
                simp only [Act.put, List.setIfInBounds_toArray, List.set_cons_zero, List.set_cons_succ]
                refine wpAnyH_take (i := 28) (oi := ?oi429) (v := ?v429) ?hi429 (by kernel_rfl) (by kernel_rfl) (by kernel_rfl) ?hQ429 (Or.inr ⟨?hw429, ?hv429⟩) (by assumption) ?rest429
                case hi429 => simp only [List.getElem?_toArray, List.getElem?_cons_succ, List.getElem?_cons_zero]; rfl
                case hQ429 => exact fun _ _ _ h => h
                case hw429 => rfl
                case hv429 => rfl
                simp only [Act.put, List.setIfInBounds_toArray, List.set_cons_zero, List.set_cons_succ]
                refine wpAnyH_take (i := 29) (oi := ?oi430) (v := ?v430) ?hi430 (by kernel_rfl) (by kernel_rfl) (by kernel_rfl) ?hQ430 (Or.inr ⟨?hw430, ?hv430⟩) (by assumption) ?rest430
                case hi430 => simp only [List.getElem?_toArray, List.getElem?_cons_succ, List.getElem?_cons_zero]; rfl
                case hQ430 => exact fun _ _ _ h => h
                case hw430 => rfl
                case hv430 => rfl
                simp only [Act.put, List.setIfInBounds_toArray, List.set_cons_zero, List.set_cons_succ]
                refine wpAnyH_take (i := 30) (oi := ?oi431) (v := ?v431) ?hi431 (by kernel_rfl) (by kernel_rfl) (by kernel_rfl) ?hQ431 (Or.inr ⟨?hw431, ?hv431⟩) (by assumption) ?rest431
                case hi431 => simp only [List.getElem?_toArray, List.getElem?_cons_succ, List.getElem?_cons_zero]; rfl
                case hQ431 => exact fun _ _ _ h => h
                case hw431 => rfl
                case hv431 => rfl
                simp only [Act.put, List.setIfInBounds_toArray, List.set_cons_zero, List.set_cons_succ]
                refine wpAnyH_take (i := 31) (oi := ?oi432) (v := ?v432) ?hi432 (by kernel_rfl) (by kernel_rfl) (by kernel_rfl) ?hQ432 (Or.inr ⟨?hw432, ?hv432⟩) (by assumption) ?rest432
                case hi432 => simp only [List.getElem?_toArray, List.getElem?_cons_succ, List.getElem?_cons_zero]; rfl
                case hQ432 => exact fun _ _ _ h => h
                case hw432 => rfl
                case hv432 => rfl
                simp only [Act.put, List.setIfInBounds_toArray, List.set_cons_zero, List.set_cons_succ]
                refine wpAnyH_take (i := 32) (oi := ?oi433) (v := ?v433) ?hi433 (by kernel_rfl) (by kernel_rfl) (by kernel_rfl) ?hQ433 (Or.inr ⟨?hw433, ?hv433⟩) (by assumption) ?rest433
                case hi433 => simp only [List.getElem?_toArray, List.getElem?_cons_succ, List.getElem?_cons_zero]; rfl
                case hQ433 => exact fun _ _ _ h => h
                case hw433 => rfl
                case hv433 => rfl
                simp only [Act.put, List.setIfInBounds_toArray, List.set_cons_zero, List.set_cons_succ]
                refine wpAnyH_take (i := 33) (oi := ?oi434) (v := ?v434) ?hi434 (by kernel_rfl) (by kernel_rfl) (by kernel_rfl) ?hQ434 (Or.inr ⟨?hw434, ?hv434⟩) (by assumption) ?rest434
                case hi434 => simp only [List.getElem?_toArray, List.getElem?_cons_succ, List.getElem?_cons_zero]; rfl
                case hQ434 => exact fun _ _ _ h => h
                case hw434 => rfl
                case hv434 => rfl
                simp only [Act.put, List.setIfInBounds_toArray, List.set_cons_zero, List.set_cons_succ]
                refine wpAnyH_take (i := 34) (oi := ?oi435) (v := ?v435) ?hi435 (by kernel_rfl) (by kernel_rfl) (by kernel_rfl) ?hQ435 (Or.inr ⟨?hw435, ?hv435⟩) (by assumption) ?rest435
                case hi435 => simp only [List.getElem?_toArray, List.getElem?_cons_succ, List.getElem?_cons_zero]; rfl
                case hQ435 => exact fun _ _ _ h => h
                case hw435 => rfl
                case hv435 => rfl
                simp only [Act.put, List.setIfInBounds_toArray, List.set_cons_zero, List.set_cons_succ]
                refine wpAnyH_take (i := 35) (oi := ?oi436) (v := ?v436) ?hi436 (by kernel_rfl) (by kernel_rfl) (by kernel_rfl) ?hQ436 (Or.inr ⟨?hw436, ?hv436⟩) (by assumption) ?rest436
                case hi436 => simp only [List.getElem?_toArray, List.getElem?_cons_succ, List.getElem?_cons_zero]; rfl
                case hQ436 => exact fun _ _ _ h => h
                case hw436 => rfl
                case hv436 => rfl
                simp only [Act.put, List.setIfInBounds_toArray, List.set_cons_zero, List.set_cons_succ]
                refine wpAnyH_take (i := 36) (oi := ?oi437) (v := ?v437) ?hi437 (by kernel_rfl) (by kernel_rfl) (by kernel_rfl) ?hQ437 (Or.inr ⟨?hw437, ?hv437⟩) (by assumption) ?rest437
                case hi437 => simp only [List.getElem?_toArray, List.getElem?_cons_succ, List.getElem?_cons_zero]; rfl
                case hQ437 => exact fun _ _ _ h => h
                case hw437 => rfl
                case hv437 => rfl
                simp only [Act.put, List.setIfInBounds_toArray, List.set_cons_zero, List.set_cons_succ]
                refine wpAnyH_take (i := 37) (oi := ?oi438) (v := ?v438) ?hi438 (by kernel_rfl) (by kernel_rfl) (by kernel_rfl) ?hQ438 (Or.inr ⟨?hw438, ?hv438⟩) (by assumption) ?rest438
                case hi438 => simp only [List.getElem?_toArray, List.getElem?_cons_succ, List.getElem?_cons_zero]; rfl
                case hQ438 => exact fun _ _ _ h => h
                case hw438 => rfl
                case hv438 => rfl
                simp only [Act.put, List.setIfInBounds_toArray, List.set_cons_zero, List.set_cons_succ]
                refine wpAnyH_take (i := 38) (oi := ?oi439) (v := ?v439) ?hi439 (by kernel_rfl) (by kernel_rfl) (by kernel_rfl) ?hQ439 (Or.inr ⟨?hw439, ?hv439⟩) (by assumption) ?rest439
                case hi439 => simp only [List.getElem?_toArray, List.getElem?_cons_succ, List.getElem?_cons_zero]; rfl
                case hQ439 => exact fun _ _ _ h => h
                case hw439 => rfl
                case hv439 => rfl
                simp only [Act.put, List.setIfInBounds_toArray, List.set_cons_zero, List.set_cons_succ]
                refine wpAnyH_take (i := 39) (oi := ?oi440) (v := ?v440) ?hi440 (by kernel_rfl) (by kernel_rfl) (by kernel_rfl) ?hQ440 (Or.inr ⟨?hw440, ?hv440⟩) (by assumption) ?rest440
                case hi440 => simp only [List.getElem?_toArray, List.getElem?_cons_succ, List.getElem?_cons_zero]; rfl
                case hQ440 => exact fun _ _ _ h => h
                case hw440 => rfl
                case hv440 => rfl
                simp only [Act.put, List.setIfInBounds_toArray, List.set_cons_zero, List.set_cons_succ]
                refine wpAnyH_take (i := 40) (oi := ?oi441) (v := ?v441) ?hi441 (by kernel_rfl) (by kernel_rfl) (by kernel_rfl) ?hQ441 (Or.inr ⟨?hw441, ?hv441⟩) (by assumption) ?rest441
                case hi441 => simp only [List.getElem?_toArray, List.getElem?_cons_succ, List.getElem?_cons_zero]; rfl
                case hQ441 => exact fun _ _ _ h => h
                case hw441 => rfl
                case hv441 => rfl
                simp only [Act.put, List.setIfInBounds_toArray, List.set_cons_zero, List.set_cons_succ]
                refine wpAnyH_take (i := 41) (oi := ?oi442) (v := ?v442) ?hi442 (by kernel_rfl) (by kernel_rfl) (by kernel_rfl) ?hQ442 (Or.inl ⟨?hw442, ?hy442⟩) (by assumption) ?rest442
                case hi442 => simp only [List.getElem?_toArray, List.getElem?_cons_succ, List.getElem?_cons_zero]; rfl
                case hQ442 => exact fun _ _ _ h => h
                case hw442 => rfl
                case hy442 => (intro W hW; obtain ⟨a0, a1, a2, a3, a4, z0, z1, z2, z3, z4, y0, y1⟩ := HCL.out W hW; go_simp; all_goals rfl)
                simp only [Act.put, List.setIfInBounds_toArray, List.set_cons_zero, List.set_cons_succ]
                refine wpAnyH_done (by kernel_rfl) ?_ _
                have H9 := Hd.mk hHeld
                clear hHeld
                (try go_wp2_with fail)
                go_meet
                exact ⟨rfl, H9.out⟩
            case rest =>
              obtain ⟨rfl, hbc⟩ := hcut
              obtain ⟨wd, hwd⟩ : ∃ wd, wd = wc := ⟨_, rfl⟩
              rw [← hwd] at hbc ⊢
              clear hwd
              have HBC := Hd.mk hbc
              obtain ⟨a0, a1, a2, a3, a4, z0, z1, z2, z3, z4, y0, y1⟩ := HCL.out wd hbc
              clear hbc
              go_upto_region 37 with fail
              clear a0 a1 a2 a3 a4 z0 z1 z2 z3 z4 y0 y1
              go_cut [214] from 185 (fun r wx => r = .bool false ∧ Below wr.heap.size wr wx)
              case first =>
                have HSV : Hd (∀ W, Below wr.heap.size wr W → Calls Try.prog 26 #[.slice (some ⟨g1, 0, none⟩) q cg1, .agg #[.int .i64 ep, .int .i64 ct], .int .i64 sz] W fun e w' => e = .returned (.int .i64 (mv : Int)) ∧ Below W.heap.size W w') := ⟨fun W hW => by have h := HSF.out W hW ep ct sz; rw [HMV.out] at h; exact h⟩
                have hw64 : wrap64 (k + (hq0 : Int)) = k + (hq0 : Int) := by unfold wrap64; omega
                have hwi : IntKind.i64.wrap (k + (hq0 : Int)) = k + (hq0 : Int) := IntWalk.i64_in _ (by omega)
                by_cases hc : k + (hq0 : Int) ≤ (mv : Int)
                · have hdc : decide (k + (hq0 : Int) ≤ (mv : Int)) = true := decide_eq_true hc
                  have htP := hide_told HHI.out HF.out hk1 HTV.out.1 (by rw [HHH.out, HMV.out]; exact hc)
                  have hjw := judge_top HQ.out htP
                  rw [HWP.out] at hjw
                  simp only [Prod.mk.injEq] at hjw
                  obtain ⟨e1, ⟨e2', e3', e4'⟩, _⟩ := hjw
                  subst e1 e2' e3' e4'
                  clear htP
                  refine wp_region_held_drew (S := fun W => Below wr.heap.size wr W) (by kernel_rfl) (HBC.out.drew) (fun hHeld => ?_)
                  refine wpAnyH_take (i := 0) (oi := ?oi501) (v := ?v501) ?hi501 (by kernel_rfl) (by kernel_rfl) (by kernel_rfl) ?hQ501 (Or.inl ⟨?hw501, ?hy501⟩) (by assumption) ?rest501
                  case hi501 => simp only [List.getElem?_toArray, List.getElem?_cons_succ, List.getElem?_cons_zero]; rfl
                  case hQ501 => exact fun _ _ _ h => h
                  case hw501 => rfl
                  case hy501 => (intro W hW; obtain ⟨a0, a1, a2, a3, a4, z0, z1, z2, z3, z4, y0, y1⟩ := HCL.out W hW; go_simp; all_goals rfl)
                  simp only [Act.put, List.setIfInBounds_toArray, List.set_cons_zero, List.set_cons_succ]
                  refine wpAnyH_take (i := 1) (oi := ?oi502) (v := ?v502) ?hi502 (by kernel_rfl) (by kernel_rfl) (by kernel_rfl) ?hQ502 (Or.inl ⟨?hw502, ?hy502⟩) (by assumption) ?rest502
                  case hi502 => simp only [List.getElem?_toArray, List.getElem?_cons_succ, List.getElem?_cons_zero]; rfl
                  case hQ502 => exact fun _ _ _ h => h
                  case hw502 => rfl
                  case hy502 => (intro W hW; obtain ⟨a0, a1, a2, a3, a4, z0, z1, z2, z3, z4, y0, y1⟩ := HCL.out W hW; go_simp; all_goals rfl)
                  simp only [Act.put, List.setIfInBounds_toArray, List.set_cons_zero, List.set_cons_succ]
                  refine wpAnyH_take (i := 2) (oi := ?oi503) (v := ?v503) ?hi503 (by kernel_rfl) (by kernel_rfl) (by kernel_rfl) ?hQ503 (Or.inl ⟨?hw503, ?hy503⟩) (by assumption) ?rest503
                  case hi503 => simp only [List.getElem?_toArray, List.getElem?_cons_succ, List.getElem?_cons_zero]; rfl
                  case hQ503 => exact fun _ _ _ h => h
                  case hw503 => rfl
                  case hy503 => (intro W hW; obtain ⟨a0, a1, a2, a3, a4, z0, z1, z2, z3, z4, y0, y1⟩ := HCL.out W hW; go_simp; all_goals rfl)
                  simp only [Act.put, List.setIfInBounds_toArray, List.set_cons_zero, List.set_cons_succ]
                  refine wpAnyH_take (i := 3) (oi := ?oi504) (v := ?v504) ?hi504 (by kernel_rfl) (by kernel_rfl) (by kernel_rfl) ?hQ504 (Or.inl ⟨?hw504, ?hy504⟩) (by assumption) ?rest504
                  case hi504 => simp only [List.getElem?_toArray, List.getElem?_cons_succ, List.getElem?_cons_zero]; rfl
                  case hQ504 => exact fun _ _ _ h => h
                  case hw504 => rfl
                  case hy504 => (intro W hW; obtain ⟨a0, a1, a2, a3, a4, z0, z1, z2, z3, z4, y0, y1⟩ := HCL.out W hW; go_simp; all_goals rfl)
                  simp only [Act.put, List.setIfInBounds_toArray, List.set_cons_zero, List.set_cons_succ]
                  refine wpAnyH_take (i := 4) (oi := ?oi505) (v := ?v505) ?hi505 (by kernel_rfl) (by kernel_rfl) (by kernel_rfl) ?hQ505 (Or.inl ⟨?hw505, ?hy505⟩) (by assumption) ?rest505
                  case hi505 => simp only [List.getElem?_toArray, List.getElem?_cons_succ, List.getElem?_cons_zero]; rfl
                  case hQ505 => exact fun _ _ _ h => h
                  case hw505 => rfl
                  case hy505 => (intro W hW; obtain ⟨a0, a1, a2, a3, a4, z0, z1, z2, z3, z4, y0, y1⟩ := HCL.out W hW; go_simp; all_goals rfl)
                  simp only [Act.put, List.setIfInBounds_toArray, List.set_cons_zero, List.set_cons_succ]
                  refine wpAnyH_take (i := 6) (oi := ?oi506) (v := ?v506) ?hi506 (by kernel_rfl) (by kernel_rfl) (by kernel_rfl) ?hQ506 (Or.inl ⟨?hw506, ?hy506⟩) (by assumption) ?rest506
                  case hi506 => simp only [List.getElem?_toArray, List.getElem?_cons_succ, List.getElem?_cons_zero]; rfl
                  case hQ506 => exact fun _ _ _ h => h
                  case hw506 => rfl
                  case hy506 => (intro W hW; obtain ⟨a0, a1, a2, a3, a4, z0, z1, z2, z3, z4, y0, y1⟩ := HCL.out W hW; go_simp; all_goals rfl)
                  simp only [Act.put, List.setIfInBounds_toArray, List.set_cons_zero, List.set_cons_succ]
                  refine wpAnyH_take (i := 7) (oi := ?oi507) (v := ?v507) ?hi507 (by kernel_rfl) (by kernel_rfl) (by kernel_rfl) ?hQ507 (Or.inl ⟨?hw507, ?hy507⟩) (by assumption) ?rest507
                  case hi507 => simp only [List.getElem?_toArray, List.getElem?_cons_succ, List.getElem?_cons_zero]; rfl
                  case hQ507 => exact fun _ _ _ h => h
                  case hw507 => rfl
                  case hy507 => (intro W hW; obtain ⟨a0, a1, a2, a3, a4, z0, z1, z2, z3, z4, y0, y1⟩ := HCL.out W hW; go_simp; all_goals rfl)
                  simp only [Act.put, List.setIfInBounds_toArray, List.set_cons_zero, List.set_cons_succ]
                  refine wpAnyH_take (i := 8) (oi := ?oi508) (v := ?v508) ?hi508 (by kernel_rfl) (by kernel_rfl) (by kernel_rfl) ?hQ508 (Or.inl ⟨?hw508, ?hy508⟩) (by assumption) ?rest508
                  case hi508 => simp only [List.getElem?_toArray, List.getElem?_cons_succ, List.getElem?_cons_zero]; rfl
                  case hQ508 => exact fun _ _ _ h => h
                  case hw508 => rfl
                  case hy508 => (intro W hW; obtain ⟨a0, a1, a2, a3, a4, z0, z1, z2, z3, z4, y0, y1⟩ := HCL.out W hW; go_simp; all_goals rfl)
                  simp only [Act.put, List.setIfInBounds_toArray, List.set_cons_zero, List.set_cons_succ]
                  refine wpAnyH_take (i := 9) (oi := ?oi509) (v := ?v509) ?hi509 (by kernel_rfl) (by kernel_rfl) (by kernel_rfl) ?hQ509 (Or.inl ⟨?hw509, ?hy509⟩) (by assumption) ?rest509
                  case hi509 => simp only [List.getElem?_toArray, List.getElem?_cons_succ, List.getElem?_cons_zero]; rfl
                  case hQ509 => exact fun _ _ _ h => h
                  case hw509 => rfl
                  case hy509 => (intro W hW; obtain ⟨a0, a1, a2, a3, a4, z0, z1, z2, z3, z4, y0, y1⟩ := HCL.out W hW; go_simp; all_goals rfl)
                  simp only [Act.put, List.setIfInBounds_toArray, List.set_cons_zero, List.set_cons_succ]
                  refine wpAnyH_ready (rs := [5]) (by kernel_rfl) (by simp) ?_
                  refine AllReadyH.cons (i := 5) (o := ?o510) ?ho510 (fun Kq hK => ?step510) AllReadyH.nil
                  case ho510 => simp only [List.getElem?_toArray, List.getElem?_cons_succ, List.getElem?_cons_zero]; rfl
                  go_simp
                  (go_at_call 26; refine (HSV.out _ hHeld).mono ?_; rintro e w5y ⟨rfl, hb⟩)
                  have hF : Below wr.heap.size wr w5y := hHeld.trans (hb.mono hHeld.size)
                  refine hK.out _ _ hF (fun _ => ?_)
                  clear hK Kq hHeld hb
                  have hHeld := hF
                  clear hF
                  try simp only [Act.put, List.setIfInBounds_toArray, List.set_cons_zero, List.set_cons_succ]
                  refine wpAnyH_take (i := 10) (oi := ?oi511) (v := ?v511) ?hi511 (by kernel_rfl) (by kernel_rfl) (by kernel_rfl) ?hQ511 (Or.inl ⟨?hw511, ?hy511⟩) (by assumption) ?rest511
                  case hi511 => simp only [List.getElem?_toArray, List.getElem?_cons_succ, List.getElem?_cons_zero]; rfl
                  case hQ511 => exact fun _ _ _ h => h
                  case hw511 => rfl
                  case hy511 => (intro W hW; obtain ⟨a0, a1, a2, a3, a4, z0, z1, z2, z3, z4, y0, y1⟩ := HCL.out W hW; go_simp; all_goals rfl)
                  simp only [Act.put, List.setIfInBounds_toArray, List.set_cons_zero, List.set_cons_succ]
                  refine wpAnyH_take (i := 11) (oi := ?oi512) (v := ?v512) ?hi512 (by kernel_rfl) (by kernel_rfl) (by kernel_rfl) ?hQ512 (Or.inl ⟨?hw512, ?hy512⟩) (by assumption) ?rest512
                  case hi512 => simp only [List.getElem?_toArray, List.getElem?_cons_succ, List.getElem?_cons_zero]; rfl
                  case hQ512 => exact fun _ _ _ h => h
                  case hw512 => rfl
                  case hy512 => (intro W hW; obtain ⟨a0, a1, a2, a3, a4, z0, z1, z2, z3, z4, y0, y1⟩ := HCL.out W hW; go_simp; all_goals rfl)
                  simp only [Act.put, List.setIfInBounds_toArray, List.set_cons_zero, List.set_cons_succ]
                  refine wpAnyH_take (i := 12) (oi := ?oi513) (v := ?v513) ?hi513 (by kernel_rfl) (by kernel_rfl) (by kernel_rfl) ?hQ513 (Or.inl ⟨?hw513, ?hy513⟩) (by assumption) ?rest513
                  case hi513 => simp only [List.getElem?_toArray, List.getElem?_cons_succ, List.getElem?_cons_zero]; rfl
                  case hQ513 => exact fun _ _ _ h => h
                  case hw513 => rfl
                  case hy513 => (intro W hW; obtain ⟨a0, a1, a2, a3, a4, z0, z1, z2, z3, z4, y0, y1⟩ := HCL.out W hW; go_simp; all_goals rfl)
                  simp only [Act.put, List.setIfInBounds_toArray, List.set_cons_zero, List.set_cons_succ]
                  refine wpAnyH_take (i := 13) (oi := ?oi514) (v := ?v514) ?hi514 (by kernel_rfl) (by kernel_rfl) (by kernel_rfl) ?hQ514 (Or.inl ⟨?hw514, ?hy514⟩) (by assumption) ?rest514
                  case hi514 => simp only [List.getElem?_toArray, List.getElem?_cons_succ, List.getElem?_cons_zero]; rfl
                  case hQ514 => exact fun _ _ _ h => h
                  case hw514 => rfl
                  case hy514 => (intro W hW; obtain ⟨a0, a1, a2, a3, a4, z0, z1, z2, z3, z4, y0, y1⟩ := HCL.out W hW; go_simp; all_goals rfl)
                  simp only [Act.put, List.setIfInBounds_toArray, List.set_cons_zero, List.set_cons_succ]
                  refine wpAnyH_take (i := 14) (oi := ?oi515) (v := ?v515) ?hi515 (by kernel_rfl) (by kernel_rfl) (by kernel_rfl) ?hQ515 (Or.inl ⟨?hw515, ?hy515⟩) (by assumption) ?rest515
                  case hi515 => simp only [List.getElem?_toArray, List.getElem?_cons_succ, List.getElem?_cons_zero]; rfl
                  case hQ515 => exact fun _ _ _ h => h
                  case hw515 => rfl
                  case hy515 => (intro W hW; obtain ⟨a0, a1, a2, a3, a4, z0, z1, z2, z3, z4, y0, y1⟩ := HCL.out W hW; go_simp; all_goals rfl)
                  simp only [Act.put, List.setIfInBounds_toArray, List.set_cons_zero, List.set_cons_succ]
                  refine wpAnyH_take (i := 15) (oi := ?oi516) (v := ?v516) ?hi516 (by kernel_rfl) (by kernel_rfl) (by kernel_rfl) ?hQ516 (Or.inl ⟨?hw516, ?hy516⟩) (by assumption) ?rest516
                  case hi516 => simp only [List.getElem?_toArray, List.getElem?_cons_succ, List.getElem?_cons_zero]; rfl
                  case hQ516 => exact fun _ _ _ h => h
                  case hw516 => rfl
                  case hy516 => (intro W hW; obtain ⟨a0, a1, a2, a3, a4, z0, z1, z2, z3, z4, y0, y1⟩ := HCL.out W hW; go_simp; all_goals rfl)
                  simp only [Act.put, List.setIfInBounds_toArray, List.set_cons_zero, List.set_cons_succ]
                  refine wpAnyH_take (i := 16) (oi := ?oi517) (v := ?v517) ?hi517 (by kernel_rfl) (by kernel_rfl) (by kernel_rfl) ?hQ517 (Or.inl ⟨?hw517, ?hy517⟩) (by assumption) ?rest517
                  case hi517 => simp only [List.getElem?_toArray, List.getElem?_cons_succ, List.getElem?_cons_zero]; rfl
                  case hQ517 => exact fun _ _ _ h => h
                  case hw517 => rfl
                  case hy517 => (intro W hW; obtain ⟨a0, a1, a2, a3, a4, z0, z1, z2, z3, z4, y0, y1⟩ := HCL.out W hW; go_simp; all_goals rfl)
                  simp only [Act.put, List.setIfInBounds_toArray, List.set_cons_zero, List.set_cons_succ]
                  refine wpAnyH_take (i := 17) (oi := ?oi518) (v := ?v518) ?hi518 (by kernel_rfl) (by kernel_rfl) (by kernel_rfl) ?hQ518 (Or.inl ⟨?hw518, ?hy518⟩) (by assumption) ?rest518
                  case hi518 => simp only [List.getElem?_toArray, List.getElem?_cons_succ, List.getElem?_cons_zero]; rfl
                  case hQ518 => exact fun _ _ _ h => h
                  case hw518 => rfl
                  case hy518 => (intro W hW; obtain ⟨a0, a1, a2, a3, a4, z0, z1, z2, z3, z4, y0, y1⟩ := HCL.out W hW; go_simp; all_goals rfl)
                  simp only [Act.put, List.setIfInBounds_toArray, List.set_cons_zero, List.set_cons_succ]
                  refine wpAnyH_take (i := 18) (oi := ?oi519) (v := ?v519) ?hi519 (by kernel_rfl) (by kernel_rfl) (by kernel_rfl) ?hQ519 (Or.inl ⟨?hw519, ?hy519⟩) (by assumption) ?rest519
                  case hi519 => simp only [List.getElem?_toArray, List.getElem?_cons_succ, List.getElem?_cons_zero]; rfl
                  case hQ519 => exact fun _ _ _ h => h
                  case hw519 => rfl
                  case hy519 => (intro W hW; obtain ⟨a0, a1, a2, a3, a4, z0, z1, z2, z3, z4, y0, y1⟩ := HCL.out W hW; go_simp; all_goals rfl)
                  simp only [Act.put, List.setIfInBounds_toArray, List.set_cons_zero, List.set_cons_succ]
                  refine wpAnyH_take (i := 19) (oi := ?oi520) (v := ?v520) ?hi520 (by kernel_rfl) (by kernel_rfl) (by kernel_rfl) ?hQ520 (Or.inl ⟨?hw520, ?hy520⟩) (by assumption) ?rest520
                  case hi520 => simp only [List.getElem?_toArray, List.getElem?_cons_succ, List.getElem?_cons_zero]; rfl
                  case hQ520 => exact fun _ _ _ h => h
                  case hw520 => rfl
                  case hy520 => (intro W hW; obtain ⟨a0, a1, a2, a3, a4, z0, z1, z2, z3, z4, y0, y1⟩ := HCL.out W hW; go_simp; all_goals rfl)
                  simp only [Act.put, List.setIfInBounds_toArray, List.set_cons_zero, List.set_cons_succ]
                  refine wpAnyH_take (i := 20) (oi := ?oi521) (v := ?v521) ?hi521 (by kernel_rfl) (by kernel_rfl) (by kernel_rfl) ?hQ521 (Or.inl ⟨?hw521, ?hy521⟩) (by assumption) ?rest521
                  case hi521 => simp only [List.getElem?_toArray, List.getElem?_cons_succ, List.getElem?_cons_zero]; rfl
                  case hQ521 => exact fun _ _ _ h => h
                  case hw521 => rfl
                  case hy521 => (intro W hW; obtain ⟨a0, a1, a2, a3, a4, z0, z1, z2, z3, z4, y0, y1⟩ := HCL.out W hW; go_simp; all_goals rfl)
                  simp only [Act.put, List.setIfInBounds_toArray, List.set_cons_zero, List.set_cons_succ]
                  refine wpAnyH_take (i := 21) (oi := ?oi522) (v := ?v522) ?hi522 (by kernel_rfl) (by kernel_rfl) (by kernel_rfl) ?hQ522 (Or.inl ⟨?hw522, ?hy522⟩) (by assumption) ?rest522
                  case hi522 => simp only [List.getElem?_toArray, List.getElem?_cons_succ, List.getElem?_cons_zero]; rfl
                  case hQ522 => exact fun _ _ _ h => h
                  case hw522 => rfl
                  case hy522 => (intro W hW; obtain ⟨a0, a1, a2, a3, a4, z0, z1, z2, z3, z4, y0, y1⟩ := HCL.out W hW; go_simp; all_goals rfl)
                  simp only [Act.put, List.setIfInBounds_toArray, List.set_cons_zero, List.set_cons_succ]
                  refine wpAnyH_take (i := 22) (oi := ?oi523) (v := ?v523) ?hi523 (by kernel_rfl) (by kernel_rfl) (by kernel_rfl) ?hQ523 (Or.inl ⟨?hw523, ?hy523⟩) (by assumption) ?rest523
                  case hi523 => simp only [List.getElem?_toArray, List.getElem?_cons_succ, List.getElem?_cons_zero]; rfl
                  case hQ523 => exact fun _ _ _ h => h
                  case hw523 => rfl
                  case hy523 => (intro W hW; obtain ⟨a0, a1, a2, a3, a4, z0, z1, z2, z3, z4, y0, y1⟩ := HCL.out W hW; go_simp; all_goals rfl)
                  simp only [Act.put, List.setIfInBounds_toArray, List.set_cons_zero, List.set_cons_succ]
                  refine wpAnyH_take (i := 23) (oi := ?oi524) (v := ?v524) ?hi524 (by kernel_rfl) (by kernel_rfl) (by kernel_rfl) ?hQ524 (Or.inl ⟨?hw524, ?hy524⟩) (by assumption) ?rest524
                  case hi524 => simp only [List.getElem?_toArray, List.getElem?_cons_succ, List.getElem?_cons_zero]; rfl
                  case hQ524 => exact fun _ _ _ h => h
                  case hw524 => rfl
                  case hy524 => (intro W hW; obtain ⟨a0, a1, a2, a3, a4, z0, z1, z2, z3, z4, y0, y1⟩ := HCL.out W hW; go_simp; all_goals rfl)
                  simp only [Act.put, List.setIfInBounds_toArray, List.set_cons_zero, List.set_cons_succ]
                  refine wpAnyH_take (i := 24) (oi := ?oi525) (v := ?v525) ?hi525 (by kernel_rfl) (by kernel_rfl) (by kernel_rfl) ?hQ525 (Or.inl ⟨?hw525, ?hy525⟩) (by assumption) ?rest525
                  case hi525 => simp only [List.getElem?_toArray, List.getElem?_cons_succ, List.getElem?_cons_zero]; rfl
                  case hQ525 => exact fun _ _ _ h => h
                  case hw525 => rfl
                  case hy525 => (intro W hW; obtain ⟨a0, a1, a2, a3, a4, z0, z1, z2, z3, z4, y0, y1⟩ := HCL.out W hW; go_simp; all_goals rfl)
                  simp only [Act.put, List.setIfInBounds_toArray, List.set_cons_zero, List.set_cons_succ]
                  refine wpAnyH_take (i := 25) (oi := ?oi526) (v := ?v526) ?hi526 (by kernel_rfl) (by kernel_rfl) (by kernel_rfl) ?hQ526 (Or.inl ⟨?hw526, ?hy526⟩) (by assumption) ?rest526
                  case hi526 => simp only [List.getElem?_toArray, List.getElem?_cons_succ, List.getElem?_cons_zero]; rfl
                  case hQ526 => exact fun _ _ _ h => h
                  case hw526 => rfl
                  case hy526 => (intro W hW; obtain ⟨a0, a1, a2, a3, a4, z0, z1, z2, z3, z4, y0, y1⟩ := HCL.out W hW; go_simp; all_goals rfl)
                  simp only [Act.put, List.setIfInBounds_toArray, List.set_cons_zero, List.set_cons_succ]
                  refine wpAnyH_take (i := 26) (oi := ?oi527) (v := ?v527) ?hi527 (by kernel_rfl) (by kernel_rfl) (by kernel_rfl) ?hQ527 (Or.inl ⟨?hw527, ?hy527⟩) (by assumption) ?rest527
                  case hi527 => simp only [List.getElem?_toArray, List.getElem?_cons_succ, List.getElem?_cons_zero]; rfl
                  case hQ527 => exact fun _ _ _ h => h
                  case hw527 => rfl
                  case hy527 => (intro W hW; obtain ⟨a0, a1, a2, a3, a4, z0, z1, z2, z3, z4, y0, y1⟩ := HCL.out W hW; go_simp; all_goals rfl)
                  simp only [Act.put, List.setIfInBounds_toArray, List.set_cons_zero, List.set_cons_succ]
                  refine wpAnyH_take (i := 27) (oi := ?oi528) (v := ?v528) ?hi528 (by kernel_rfl) (by kernel_rfl) (by kernel_rfl) ?hQ528 (Or.inl ⟨?hw528, ?hy528⟩) (by assumption) ?rest528
                  case hi528 => simp only [List.getElem?_toArray, List.getElem?_cons_succ, List.getElem?_cons_zero]; rfl
                  case hQ528 => exact fun _ _ _ h => h
                  case hw528 => rfl
                  case hy528 => (intro W hW; obtain ⟨a0, a1, a2, a3, a4, z0, z1, z2, z3, z4, y0, y1⟩ := HCL.out W hW; go_simp; all_goals rfl)
                  simp only [Act.put, List.setIfInBounds_toArray, List.set_cons_zero, List.set_cons_succ]
                  refine wpAnyH_take (i := 28) (oi := ?oi529) (v := ?v529) ?hi529 (by kernel_rfl) (by kernel_rfl) (by kernel_rfl) ?hQ529 (Or.inl ⟨?hw529, ?hy529⟩) (by assumption) ?rest529
                  case hi529 => simp only [List.getElem?_toArray, List.getElem?_cons_succ, List.getElem?_cons_zero]; rfl
                  case hQ529 => exact fun _ _ _ h => h
                  case hw529 => rfl
                  case hy529 => (intro W hW; obtain ⟨a0, a1, a2, a3, a4, z0, z1, z2, z3, z4, y0, y1⟩ := HCL.out W hW; go_simp; all_goals rfl)
                  simp only [Act.put, List.setIfInBounds_toArray, List.set_cons_zero, List.set_cons_succ]
                  refine wpAnyH_take (i := 29) (oi := ?oi530) (v := ?v530) ?hi530 (by kernel_rfl) (by kernel_rfl) (by kernel_rfl) ?hQ530 (Or.inl ⟨?hw530, ?hy530⟩) (by assumption) ?rest530
                  case hi530 => simp only [List.getElem?_toArray, List.getElem?_cons_succ, List.getElem?_cons_zero]; rfl
                  case hQ530 => exact fun _ _ _ h => h
                  case hw530 => rfl
                  case hy530 => (intro W hW; obtain ⟨a0, a1, a2, a3, a4, z0, z1, z2, z3, z4, y0, y1⟩ := HCL.out W hW; go_simp; all_goals rfl)
                  simp only [Act.put, List.setIfInBounds_toArray, List.set_cons_zero, List.set_cons_succ]
                  refine wpAnyH_done (by kernel_rfl) ?_ _
                  have H9 := Hd.mk hHeld
                  clear hHeld
                  (try go_wp2_with fail)
                  go_meet
                  exact ⟨rfl, H9.out⟩
                · have hdc : decide (k + (hq0 : Int) ≤ (mv : Int)) = false := decide_eq_false hc
                  refine wp_region_held_drew (S := fun W => Below wr.heap.size wr W) (by kernel_rfl) (HBC.out.drew) (fun hHeld => ?_)
                  refine wpAnyH_take (i := 0) (oi := ?oi601) (v := ?v601) ?hi601 (by kernel_rfl) (by kernel_rfl) (by kernel_rfl) ?hQ601 (Or.inl ⟨?hw601, ?hy601⟩) (by assumption) ?rest601
                  case hi601 => simp only [List.getElem?_toArray, List.getElem?_cons_succ, List.getElem?_cons_zero]; rfl
                  case hQ601 => exact fun _ _ _ h => h
                  case hw601 => rfl
                  case hy601 => (intro W hW; obtain ⟨a0, a1, a2, a3, a4, z0, z1, z2, z3, z4, y0, y1⟩ := HCL.out W hW; go_simp; all_goals rfl)
                  simp only [Act.put, List.setIfInBounds_toArray, List.set_cons_zero, List.set_cons_succ]
                  refine wpAnyH_take (i := 1) (oi := ?oi602) (v := ?v602) ?hi602 (by kernel_rfl) (by kernel_rfl) (by kernel_rfl) ?hQ602 (Or.inl ⟨?hw602, ?hy602⟩) (by assumption) ?rest602
                  case hi602 => simp only [List.getElem?_toArray, List.getElem?_cons_succ, List.getElem?_cons_zero]; rfl
                  case hQ602 => exact fun _ _ _ h => h
                  case hw602 => rfl
                  case hy602 => (intro W hW; obtain ⟨a0, a1, a2, a3, a4, z0, z1, z2, z3, z4, y0, y1⟩ := HCL.out W hW; go_simp; all_goals rfl)
                  simp only [Act.put, List.setIfInBounds_toArray, List.set_cons_zero, List.set_cons_succ]
                  refine wpAnyH_take (i := 2) (oi := ?oi603) (v := ?v603) ?hi603 (by kernel_rfl) (by kernel_rfl) (by kernel_rfl) ?hQ603 (Or.inl ⟨?hw603, ?hy603⟩) (by assumption) ?rest603
                  case hi603 => simp only [List.getElem?_toArray, List.getElem?_cons_succ, List.getElem?_cons_zero]; rfl
                  case hQ603 => exact fun _ _ _ h => h
                  case hw603 => rfl
                  case hy603 => (intro W hW; obtain ⟨a0, a1, a2, a3, a4, z0, z1, z2, z3, z4, y0, y1⟩ := HCL.out W hW; go_simp; all_goals rfl)
                  simp only [Act.put, List.setIfInBounds_toArray, List.set_cons_zero, List.set_cons_succ]
                  refine wpAnyH_take (i := 3) (oi := ?oi604) (v := ?v604) ?hi604 (by kernel_rfl) (by kernel_rfl) (by kernel_rfl) ?hQ604 (Or.inl ⟨?hw604, ?hy604⟩) (by assumption) ?rest604
                  case hi604 => simp only [List.getElem?_toArray, List.getElem?_cons_succ, List.getElem?_cons_zero]; rfl
                  case hQ604 => exact fun _ _ _ h => h
                  case hw604 => rfl
                  case hy604 => (intro W hW; obtain ⟨a0, a1, a2, a3, a4, z0, z1, z2, z3, z4, y0, y1⟩ := HCL.out W hW; go_simp; all_goals rfl)
                  simp only [Act.put, List.setIfInBounds_toArray, List.set_cons_zero, List.set_cons_succ]
                  refine wpAnyH_take (i := 4) (oi := ?oi605) (v := ?v605) ?hi605 (by kernel_rfl) (by kernel_rfl) (by kernel_rfl) ?hQ605 (Or.inl ⟨?hw605, ?hy605⟩) (by assumption) ?rest605
                  case hi605 => simp only [List.getElem?_toArray, List.getElem?_cons_succ, List.getElem?_cons_zero]; rfl
                  case hQ605 => exact fun _ _ _ h => h
                  case hw605 => rfl
                  case hy605 => (intro W hW; obtain ⟨a0, a1, a2, a3, a4, z0, z1, z2, z3, z4, y0, y1⟩ := HCL.out W hW; go_simp; all_goals rfl)
                  simp only [Act.put, List.setIfInBounds_toArray, List.set_cons_zero, List.set_cons_succ]
                  refine wpAnyH_take (i := 6) (oi := ?oi606) (v := ?v606) ?hi606 (by kernel_rfl) (by kernel_rfl) (by kernel_rfl) ?hQ606 (Or.inl ⟨?hw606, ?hy606⟩) (by assumption) ?rest606
                  case hi606 => simp only [List.getElem?_toArray, List.getElem?_cons_succ, List.getElem?_cons_zero]; rfl
                  case hQ606 => exact fun _ _ _ h => h
                  case hw606 => rfl
                  case hy606 => (intro W hW; obtain ⟨a0, a1, a2, a3, a4, z0, z1, z2, z3, z4, y0, y1⟩ := HCL.out W hW; go_simp; all_goals rfl)
                  simp only [Act.put, List.setIfInBounds_toArray, List.set_cons_zero, List.set_cons_succ]
                  refine wpAnyH_take (i := 7) (oi := ?oi607) (v := ?v607) ?hi607 (by kernel_rfl) (by kernel_rfl) (by kernel_rfl) ?hQ607 (Or.inl ⟨?hw607, ?hy607⟩) (by assumption) ?rest607
                  case hi607 => simp only [List.getElem?_toArray, List.getElem?_cons_succ, List.getElem?_cons_zero]; rfl
                  case hQ607 => exact fun _ _ _ h => h
                  case hw607 => rfl
                  case hy607 => (intro W hW; obtain ⟨a0, a1, a2, a3, a4, z0, z1, z2, z3, z4, y0, y1⟩ := HCL.out W hW; go_simp; all_goals rfl)
                  simp only [Act.put, List.setIfInBounds_toArray, List.set_cons_zero, List.set_cons_succ]
                  refine wpAnyH_take (i := 8) (oi := ?oi608) (v := ?v608) ?hi608 (by kernel_rfl) (by kernel_rfl) (by kernel_rfl) ?hQ608 (Or.inl ⟨?hw608, ?hy608⟩) (by assumption) ?rest608
                  case hi608 => simp only [List.getElem?_toArray, List.getElem?_cons_succ, List.getElem?_cons_zero]; rfl
                  case hQ608 => exact fun _ _ _ h => h
                  case hw608 => rfl
                  case hy608 => (intro W hW; obtain ⟨a0, a1, a2, a3, a4, z0, z1, z2, z3, z4, y0, y1⟩ := HCL.out W hW; go_simp; all_goals rfl)
                  simp only [Act.put, List.setIfInBounds_toArray, List.set_cons_zero, List.set_cons_succ]
                  refine wpAnyH_take (i := 9) (oi := ?oi609) (v := ?v609) ?hi609 (by kernel_rfl) (by kernel_rfl) (by kernel_rfl) ?hQ609 (Or.inl ⟨?hw609, ?hy609⟩) (by assumption) ?rest609
                  case hi609 => simp only [List.getElem?_toArray, List.getElem?_cons_succ, List.getElem?_cons_zero]; rfl
                  case hQ609 => exact fun _ _ _ h => h
                  case hw609 => rfl
                  case hy609 => (intro W hW; obtain ⟨a0, a1, a2, a3, a4, z0, z1, z2, z3, z4, y0, y1⟩ := HCL.out W hW; go_simp; all_goals rfl)
                  simp only [Act.put, List.setIfInBounds_toArray, List.set_cons_zero, List.set_cons_succ]
                  refine wpAnyH_ready (rs := [5]) (by kernel_rfl) (by simp) ?_
                  refine AllReadyH.cons (i := 5) (o := ?o610) ?ho610 (fun Kq hK => ?step610) AllReadyH.nil
                  case ho610 => simp only [List.getElem?_toArray, List.getElem?_cons_succ, List.getElem?_cons_zero]; rfl
                  go_simp
                  (go_at_call 26; refine (HSV.out _ hHeld).mono ?_; rintro e w5y ⟨rfl, hb⟩)
                  have hF : Below wr.heap.size wr w5y := hHeld.trans (hb.mono hHeld.size)
                  refine hK.out _ _ hF (fun _ => ?_)
                  clear hK Kq hHeld hb
                  have hHeld := hF
                  clear hF
                  try simp only [Act.put, List.setIfInBounds_toArray, List.set_cons_zero, List.set_cons_succ]
                  refine wpAnyH_take (i := 10) (oi := ?oi611) (v := ?v611) ?hi611 (by kernel_rfl) (by kernel_rfl) (by kernel_rfl) ?hQ611 (Or.inl ⟨?hw611, ?hy611⟩) (by assumption) ?rest611
                  case hi611 => simp only [List.getElem?_toArray, List.getElem?_cons_succ, List.getElem?_cons_zero]; rfl
                  case hQ611 => exact fun _ _ _ h => h
                  case hw611 => rfl
                  case hy611 => (intro W hW; obtain ⟨a0, a1, a2, a3, a4, z0, z1, z2, z3, z4, y0, y1⟩ := HCL.out W hW; go_simp; all_goals rfl)
                  simp only [Act.put, List.setIfInBounds_toArray, List.set_cons_zero, List.set_cons_succ]
                  refine wpAnyH_take (i := 11) (oi := ?oi612) (v := ?v612) ?hi612 (by kernel_rfl) (by kernel_rfl) (by kernel_rfl) ?hQ612 (Or.inl ⟨?hw612, ?hy612⟩) (by assumption) ?rest612
                  case hi612 => simp only [List.getElem?_toArray, List.getElem?_cons_succ, List.getElem?_cons_zero]; rfl
                  case hQ612 => exact fun _ _ _ h => h
                  case hw612 => rfl
                  case hy612 => (intro W hW; obtain ⟨a0, a1, a2, a3, a4, z0, z1, z2, z3, z4, y0, y1⟩ := HCL.out W hW; go_simp; all_goals rfl)
                  simp only [Act.put, List.setIfInBounds_toArray, List.set_cons_zero, List.set_cons_succ]
                  refine wpAnyH_take (i := 12) (oi := ?oi613) (v := ?v613) ?hi613 (by kernel_rfl) (by kernel_rfl) (by kernel_rfl) ?hQ613 (Or.inr ⟨?hw613, ?hv613⟩) (by assumption) ?rest613
                  case hi613 => simp only [List.getElem?_toArray, List.getElem?_cons_succ, List.getElem?_cons_zero]; rfl
                  case hQ613 => exact fun _ _ _ h => h
                  case hw613 => rfl
                  case hv613 => rfl
                  simp only [Act.put, List.setIfInBounds_toArray, List.set_cons_zero, List.set_cons_succ]
                  refine wpAnyH_take (i := 13) (oi := ?oi614) (v := ?v614) ?hi614 (by kernel_rfl) (by kernel_rfl) (by kernel_rfl) ?hQ614 (Or.inr ⟨?hw614, ?hv614⟩) (by assumption) ?rest614
                  case hi614 => simp only [List.getElem?_toArray, List.getElem?_cons_succ, List.getElem?_cons_zero]; rfl
                  case hQ614 => exact fun _ _ _ h => h
                  case hw614 => rfl
                  case hv614 => rfl
                  simp only [Act.put, List.setIfInBounds_toArray, List.set_cons_zero, List.set_cons_succ]
                  refine wpAnyH_take (i := 14) (oi := ?oi615) (v := ?v615) ?hi615 (by kernel_rfl) (by kernel_rfl) (by kernel_rfl) ?hQ615 (Or.inr ⟨?hw615, ?hv615⟩) (by assumption) ?rest615
                  case hi615 => simp only [List.getElem?_toArray, List.getElem?_cons_succ, List.getElem?_cons_zero]; rfl
                  case hQ615 => exact fun _ _ _ h => h
                  case hw615 => rfl
                  case hv615 => rfl
                  simp only [Act.put, List.setIfInBounds_toArray, List.set_cons_zero, List.set_cons_succ]
                  refine wpAnyH_take (i := 15) (oi := ?oi616) (v := ?v616) ?hi616 (by kernel_rfl) (by kernel_rfl) (by kernel_rfl) ?hQ616 (Or.inr ⟨?hw616, ?hv616⟩) (by assumption) ?rest616
                  case hi616 => simp only [List.getElem?_toArray, List.getElem?_cons_succ, List.getElem?_cons_zero]; rfl
                  case hQ616 => exact fun _ _ _ h => h
                  case hw616 => rfl
                  case hv616 => rfl
                  simp only [Act.put, List.setIfInBounds_toArray, List.set_cons_zero, List.set_cons_succ]
                  refine wpAnyH_take (i := 16) (oi := ?oi617) (v := ?v617) ?hi617 (by kernel_rfl) (by kernel_rfl) (by kernel_rfl) ?hQ617 (Or.inr ⟨?hw617, ?hv617⟩) (by assumption) ?rest617
                  case hi617 => simp only [List.getElem?_toArray, List.getElem?_cons_succ, List.getElem?_cons_zero]; rfl
                  case hQ617 => exact fun _ _ _ h => h
                  case hw617 => rfl
                  case hv617 => rfl
                  simp only [Act.put, List.setIfInBounds_toArray, List.set_cons_zero, List.set_cons_succ]
                  refine wpAnyH_take (i := 17) (oi := ?oi618) (v := ?v618) ?hi618 (by kernel_rfl) (by kernel_rfl) (by kernel_rfl) ?hQ618 (Or.inr ⟨?hw618, ?hv618⟩) (by assumption) ?rest618
                  case hi618 => simp only [List.getElem?_toArray, List.getElem?_cons_succ, List.getElem?_cons_zero]; rfl
                  case hQ618 => exact fun _ _ _ h => h
                  case hw618 => rfl
                  case hv618 => rfl
                  simp only [Act.put, List.setIfInBounds_toArray, List.set_cons_zero, List.set_cons_succ]
                  refine wpAnyH_take (i := 18) (oi := ?oi619) (v := ?v619) ?hi619 (by kernel_rfl) (by kernel_rfl) (by kernel_rfl) ?hQ619 (Or.inr ⟨?hw619, ?hv619⟩) (by assumption) ?rest619
                  case hi619 => simp only [List.getElem?_toArray, List.getElem?_cons_succ, List.getElem?_cons_zero]; rfl
                  case hQ619 => exact fun _ _ _ h => h
                  case hw619 => rfl
                  case hv619 => rfl
                  simp only [Act.put, List.setIfInBounds_toArray, List.set_cons_zero, List.set_cons_succ]
                  refine wpAnyH_take (i := 19) (oi := ?oi620) (v := ?v620) ?hi620 (by kernel_rfl) (by kernel_rfl) (by kernel_rfl) ?hQ620 (Or.inr ⟨?hw620, ?hv620⟩) (by assumption) ?rest620
                  case hi620 => simp only [List.getElem?_toArray, List.getElem?_cons_succ, List.getElem?_cons_zero]; rfl
                  case hQ620 => exact fun _ _ _ h => h
                  case hw620 => rfl
                  case hv620 => rfl
                  simp only [Act.put, List.setIfInBounds_toArray, List.set_cons_zero, List.set_cons_succ]
                  refine wpAnyH_take (i := 20) (oi := ?oi621) (v := ?v621) ?hi621 (by kernel_rfl) (by kernel_rfl) (by kernel_rfl) ?hQ621 (Or.inr ⟨?hw621, ?hv621⟩) (by assumption) ?rest621
                  case hi621 => simp only [List.getElem?_toArray, List.getElem?_cons_succ, List.getElem?_cons_zero]; rfl
                  case hQ621 => exact fun _ _ _ h => h
                  case hw621 => rfl
                  case hv621 => rfl
                  simp only [Act.put, List.setIfInBounds_toArray, List.set_cons_zero, List.set_cons_succ]
                  refine wpAnyH_take (i := 21) (oi := ?oi622) (v := ?v622) ?hi622 (by kernel_rfl) (by kernel_rfl) (by kernel_rfl) ?hQ622 (Or.inr ⟨?hw622, ?hv622⟩) (by assumption) ?rest622
                  case hi622 => simp only [List.getElem?_toArray, List.getElem?_cons_succ, List.getElem?_cons_zero]; rfl
                  case hQ622 => exact fun _ _ _ h => h
                  case hw622 => rfl
                  case hv622 => rfl
                  simp only [Act.put, List.setIfInBounds_toArray, List.set_cons_zero, List.set_cons_succ]
                  refine wpAnyH_take (i := 22) (oi := ?oi623) (v := ?v623) ?hi623 (by kernel_rfl) (by kernel_rfl) (by kernel_rfl) ?hQ623 (Or.inr ⟨?hw623, ?hv623⟩) (by assumption) ?rest623
                  case hi623 => simp only [List.getElem?_toArray, List.getElem?_cons_succ, List.getElem?_cons_zero]; rfl
                  case hQ623 => exact fun _ _ _ h => h
                  case hw623 => rfl
                  case hv623 => rfl
                  simp only [Act.put, List.setIfInBounds_toArray, List.set_cons_zero, List.set_cons_succ]
                  refine wpAnyH_take (i := 23) (oi := ?oi624) (v := ?v624) ?hi624 (by kernel_rfl) (by kernel_rfl) (by kernel_rfl) ?hQ624 (Or.inr ⟨?hw624, ?hv624⟩) (by assumption) ?rest624
                  case hi624 => simp only [List.getElem?_toArray, List.getElem?_cons_succ, List.getElem?_cons_zero]; rfl
                  case hQ624 => exact fun _ _ _ h => h
                  case hw624 => rfl
                  case hv624 => rfl
                  simp only [Act.put, List.setIfInBounds_toArray, List.set_cons_zero, List.set_cons_succ]
                  refine wpAnyH_take (i := 24) (oi := ?oi625) (v := ?v625) ?hi625 (by kernel_rfl) (by kernel_rfl) (by kernel_rfl) ?hQ625 (Or.inr ⟨?hw625, ?hv625⟩) (by assumption) ?rest625
                  case hi625 => simp only [List.getElem?_toArray, List.getElem?_cons_succ, List.getElem?_cons_zero]; rfl
                  case hQ625 => exact fun _ _ _ h => h
                  case hw625 => rfl
                  case hv625 => rfl
                  simp only [Act.put, List.setIfInBounds_toArray, List.set_cons_zero, List.set_cons_succ]
                  refine wpAnyH_take (i := 25) (oi := ?oi626) (v := ?v626) ?hi626 (by kernel_rfl) (by kernel_rfl) (by kernel_rfl) ?hQ626 (Or.inr ⟨?hw626, ?hv626⟩) (by assumption) ?rest626
                  case hi626 => simp only [List.getElem?_toArray, List.getElem?_cons_succ, List.getElem?_cons_zero]; rfl
                  case hQ626 => exact fun _ _ _ h => h
                  case hw626 => rfl
                  case hv626 => rfl
                  simp only [Act.put, List.setIfInBounds_toArray, List.set_cons_zero, List.set_cons_succ]
                  refine wpAnyH_take (i := 26) (oi := ?oi627) (v := ?v627) ?hi627 (by kernel_rfl) (by kernel_rfl) (by kernel_rfl) ?hQ627 (Or.inr ⟨?hw627, ?hv627⟩) (by assumption) ?rest627
                  case hi627 => simp only [List.getElem?_toArray, List.getElem?_cons_succ, List.getElem?_cons_zero]; rfl
                  case hQ627 => exact fun _ _ _ h => h
                  case hw627 => rfl
                  case hv627 => rfl
                  simp only [Act.put, List.setIfInBounds_toArray, List.set_cons_zero, List.set_cons_succ]
                  refine wpAnyH_take (i := 27) (oi := ?oi628) (v := ?v628) ?hi628 (by kernel_rfl) (by kernel_rfl) (by kernel_rfl) ?hQ628 (Or.inr ⟨?hw628, ?hv628⟩) (by assumption) ?rest628
                  case hi628 => simp only [List.getElem?_toArray, List.getElem?_cons_succ, List.getElem?_cons_zero]; rfl
                  case hQ628 => exact fun _ _ _ h => h
                  case hw628 => rfl
                  case hv628 => rfl
                  simp only [Act.put, List.setIfInBounds_toArray, List.set_cons_zero, List.set_cons_succ]
                  refine wpAnyH_take (i := 28) (oi := ?oi629) (v := ?v629) ?hi629 (by kernel_rfl) (by kernel_rfl) (by kernel_rfl) ?hQ629 (Or.inr ⟨?hw629, ?hv629⟩) (by assumption) ?rest629
                  case hi629 => simp only [List.getElem?_toArray, List.getElem?_cons_succ, List.getElem?_cons_zero]; rfl
                  case hQ629 => exact fun _ _ _ h => h
                  case hw629 => rfl
                  case hv629 => rfl
                  simp only [Act.put, List.setIfInBounds_toArray, List.set_cons_zero, List.set_cons_succ]
                  refine wpAnyH_take (i := 29) (oi := ?oi630) (v := ?v630) ?hi630 (by kernel_rfl) (by kernel_rfl) (by kernel_rfl) ?hQ630 (Or.inl ⟨?hw630, ?hy630⟩) (by assumption) ?rest630
                  case hi630 => simp only [List.getElem?_toArray, List.getElem?_cons_succ, List.getElem?_cons_zero]; rfl
                  case hQ630 => exact fun _ _ _ h => h
                  case hw630 => rfl
                  case hy630 => (intro W hW; obtain ⟨a0, a1, a2, a3, a4, z0, z1, z2, z3, z4, y0, y1⟩ := HCL.out W hW; go_simp; all_goals rfl)
                  simp only [Act.put, List.setIfInBounds_toArray, List.set_cons_zero, List.set_cons_succ]
                  refine wpAnyH_done (by kernel_rfl) ?_ _
                  have H9 := Hd.mk hHeld
                  clear hHeld
                  (try go_wp2_with fail)
                  go_meet
                  exact ⟨rfl, H9.out⟩
              case rest =>
                obtain ⟨rfl, hbd⟩ := hcut
                rcases eb with _ | _
                · go_wp2_with fail
                  go_ret
                  exact ⟨rfl, (HC.out.1.keep hbd).bel⟩
                · have hpos := else_pos HHI.out HEE.out (v := (ep, ct, sz)) (by rw [HMV.out]; omega)
                  have hmem := hide_poss HHI.out HF.out HQ.out hk1 HTV.out.1 hpos
                  rw [HO.out] at hmem
                  change (ep, ct, sz) ∈ O at hmem
                  have HMEM := Hd.mk hmem
                  have HBD := Hd.mk hbd
                  clear hpos hmem hbd
                  obtain ⟨wX, hwX⟩ : ∃ wX, wX = wr := ⟨_, rfl⟩
                  rw [← hwX] at HBD HCL HGL HC
                  clear hwX HSF HSP HBC HTV HMV HV HWP
                  go_wp2_with fail
                  go_loopw [21] (fun iv wr => ∃ t : Nat, t ≤ O.length ∧ iv = .int .i64 (t : Int) ∧ Below wX.heap.size wX wr ∧ (ep, ct, sz) ∉ O.take t) (fun iv _ => O.length - (intOf iv).toNat)
                  case atStart => exact ⟨0, by omega, rfl, HBD.out, by simp⟩
                  case round =>
                    clear HBD
                    obtain ⟨t, ht, rfl, hb, hnt⟩ := hrel
                    have HB := Hd.mk hb
                    have HNT := Hd.mk hnt
                    clear hb hnt
                    by_cases hlt : t < O.length
                    · have hti : (t : Int) < (O.length : Int) := by omega
                      have hsn : O.take (t + 1) = O.take t ++ [O.getD t (0, 0, 0)] := by rw [List.take_add_one, List.getElem?_eq_getElem hlt, List.getD_eq_getElem?_getD, List.getElem?_eq_getElem hlt]; rfl
                      obtain ⟨x, hx⟩ : ∃ x, O.getD t (0, 0, 0) = x := ⟨_, rfl⟩
                      obtain ⟨gg, cc', hv, _, hgg, hr⟩ := (HGL.out.keep HB.out).at_ hlt
                      rw [hx] at hr hsn
                      injection hv with hv1 hv2 hv3
                      subst hv1 hv3
                      obtain ⟨e5, q5, s5⟩ := x
                      have HSN := Hd.mk hsn
                      have b0 : wr.cell? ⟨gg, t * 4, none⟩ = some (.int .i64 e5) := hr 0 _ rfl
                      have b1 : wr.cell? ⟨gg, t * 4 + 1, none⟩ = some (.int .i64 q5) := hr 1 _ rfl
                      have b2 : wr.cell? ⟨gg, t * 4 + 2, none⟩ = some (.int .i64 s5) := hr 2 _ rfl
                      obtain ⟨_, a1, a2, a3, _⟩ := HCL.out wr HB.out
                      clear hv2 hx hr hsn hgg
                      rcases p1 : (e5 == ep) with _ | _
                      · have HX := True.intro
                        have HNE : Hd ((ep, ct, sz) ≠ (e5, q5, s5)) := ⟨fun h => by simp only [Prod.mk.injEq] at h; simp [h.1] at p1⟩
                        go_wp2_with fail
                        go_quiet (fail)
                        go_wp2_with fail
                        go_roundw
                        case rel =>
                          refine ⟨t + 1, by omega, by go_num, below_drewN HB.out _, ?_⟩
                          rw [HSN.out]
                          intro hm
                          rcases List.mem_append.1 hm with h | h
                          · exact HNT.out h
                          · exact HNE.out (List.mem_singleton.1 h)
                        case measure => simp [intOf]; omega
                      · have e_p1 := eq_of_beq p1
                        subst e_p1
                        clear p1
                        rcases p2 : (q5 == ct) with _ | _
                        · have HX := True.intro
                          have HNE : Hd ((e5, ct, sz) ≠ (e5, q5, s5)) := ⟨fun h => by simp only [Prod.mk.injEq] at h; simp [h.2.1] at p2⟩
                          go_wp2_with fail
                          go_quiet (fail)
                          go_wp2_with fail
                          go_roundw
                          case rel =>
                            refine ⟨t + 1, by omega, by go_num, below_drewN HB.out _, ?_⟩
                            rw [HSN.out]
                            intro hm
                            rcases List.mem_append.1 hm with h | h
                            · exact HNT.out h
                            · exact HNE.out (List.mem_singleton.1 h)
                          case measure => simp [intOf]; omega
                        · have e_p2 := eq_of_beq p2
                          subst e_p2
                          clear p2
                          rcases p3 : (s5 == sz) with _ | _
                          · have HX := True.intro
                            have HNE : Hd ((e5, q5, sz) ≠ (e5, q5, s5)) := ⟨fun h => by simp only [Prod.mk.injEq] at h; simp [h.2.2] at p3⟩
                            go_wp2_with fail
                            go_quiet (fail)
                            go_wp2_with fail
                            go_roundw
                            case rel =>
                              refine ⟨t + 1, by omega, by go_num, below_drewN HB.out _, ?_⟩
                              rw [HSN.out]
                              intro hm
                              rcases List.mem_append.1 hm with h | h
                              · exact HNT.out h
                              · exact HNE.out (List.mem_singleton.1 h)
                            case measure => simp [intOf]; omega
                          · have e_p3 := eq_of_beq p3
                            subst e_p3
                            clear p3
                            go_wp2_with fail
                            go_quiet (fail)
                            go_wp2_with fail
                            go_ret
                            exact ⟨rfl, (HC.out.1.keep (below_drewN HB.out nq)).bel⟩
                    · exfalso
                      have hnt := HNT.out
                      rw [show t = O.length by omega, List.take_length] at hnt
                      exact hnt HMEM.out
end Go.Proofs.Ytplpaipmkpjgfaa
