/- Contract of the law's bare. (tools/baregen.py prints it.) -/
import Derived.Test.YtplpaipmkpjgfaaHideP
import Derived.Test.YtplpaipmkpjgfaaRefPs
namespace Go.Proofs.Ytplpaipmkpjgfaa
open Go.RowKit
set_option linter.unusedVariables false
set_option linter.unusedSimpArgs false
theorem Cop.of_own {w : World} {base n c : Nat} {A : Option Addr} {T : Nat → Sn} (h : w.ownsRow base 58 19 (.slice A n c) n (snCells T n)) (hok : ∀ r, r < n → SnOk (T r)) (hn : 0 < n) : ∃ g, A = some ⟨g, 0, none⟩ ∧ Cop w base g n T := by
  have hvw := view_own h hok
  have h0 := h
  rcases h.2 with ⟨hv, h0⟩ | ⟨g, cap, cur, hv, hb, hg, hnc, hm, hcs, htake⟩
  · omega
  injection hv with hA
  subst hA
  have hgl := (Array.getElem?_eq_some_iff.1 hg).1
  refine ⟨g, rfl, ⟨fun r hr => ?_, fun r hr j hj => ⟨?_, by simp [World.frozen?, hg]⟩, hb, hgl⟩⟩
  · obtain ⟨g', off, e, _, hc, ok⟩ := hvw r hr
    injection e with e
    injection e with e e2
    subst e e2
    rw [Nat.zero_add] at hc
    exact ⟨hc, ok⟩
  · rw [cell_of_row _ _ _ _ _ _ hg]
    have : cur.size = cap * 19 := hcs
    have h3 : r * 19 + j < cur.size := by
      have : n * 19 ≤ cap * 19 := Nat.mul_le_mul_right _ hnc
      have : (r + 1) * 19 ≤ n * 19 := Nat.mul_le_mul_right _ hr
      omega
    rw [Array.getElem?_eq_getElem h3]; rfl
theorem PSt.keepB {w wr w' : World} {k m b : Int} {base : Nat} (H : PSt w wr k m b) (hb : Below base wr w') (h : w.heap.size < base) : PSt w w' k m b := ⟨(hb.block _ h).trans H.sh, H.bel.trans (hb.mono (by omega))⟩
theorem bare_ok {S : Nat → Sn} {n : Nat} (h : ∀ r, r < n → SnOk (S r)) (i : Nat) : SnOk (bareS S n i) := by
  unfold bareS
  split
  · rename_i hi
    exact shW_ok (h i hi.1).epoch (h i hi.1).count (h i hi.1).size
  · exact kind_ok (by unfold J64; decide)
set_option maxRecDepth 20000 in
set_option maxHeartbeats 40000000 in
theorem bare_any (w : World) (Q n c : Nat) (A : Option Addr) (S : Nat → Sn) (hv : View w Q A n S) (hQ : Q ≤ w.heap.size) (hn : n * 120 ≤ 140737488351232) (k m b : Int) (N : Nat) (hN : (N : Int) = k + m) (r1 : 1 ≤ m) (r2 : m ≤ k) (r4 : k + m ≤ 255) :
    Calls Try.prog 25 #[.agg #[.int .i64 k, .int .i64 m, .int .i64 b], .slice A n c] w fun e w' => ∃ g c', e = .returned (.slice (some ⟨g, 0, none⟩) N c') ∧ Cop w' w.heap.size g N (bareS S n) ∧ Below w.heap.size w w' := by
  have HH : Hd (View w Q A n S ∧ Q ≤ w.heap.size) := ⟨hv, hQ⟩
  clear hv hQ
  have H1 := Hd.mk (PSt.start w k m b)
  go_enter Try.func25, Try.ntmps25
  go_wp2_with fail
  obtain ⟨w1, hw1⟩ : ∃ w1, w.alloc (.cells #[.int .i64 k, .int .i64 m, .int .i64 b] 34) = w1 := ⟨_, rfl⟩
  rw [hw1] at H1 ⊢
  clear hw1
  go_loopw [5, 6] (fun v i wr => ∃ q : Nat, q ≤ N ∧ i = .int .i64 (q : Int) ∧ PSt w wr k m b ∧ wr.ownsRow (w.heap.size + 1) 58 19 v q (snCells (bareS S n) q)) (fun _ i _ => N - (intOf i).toNat)
  case atStart => exact ⟨0, by omega, rfl, H1.out, World.ownsRow_nil _ _ _ _⟩
  case round =>
    clear H1
    obtain ⟨q, hq, rfl, hP, hown⟩ := hrel
    have H2 := Hd.mk (And.intro hP hown)
    have hsz := hP.big
    have s0 := hP.c0
    have s1 := hP.c1
    clear hP hown
    have HNX := Hd.mk (snCells_next (bareS S n) q)
    by_cases hlt : q < N
    · have hqk : (q : Int) < k + m := by omega
      have h63 : Hd (q + 1 ≤ maxLen) := ⟨by unfold maxLen; omega⟩
      have hby : Hd ((q + 1) * 120 ≤ 140737488355328) := ⟨by omega⟩
      have HK1 := Hd.mk (all_oneCell_toArray (Sn.one (kindSn 1) (kind_ok (by unfold J64; decide))))
      by_cases hqn : q < n
      · have hqi : (q : Int) < (n : Int) := by omega
        obtain ⟨g, off, rfl, hg, d0, d13, d15, d16, _, _, hok⟩ := (HH.out.1.below (H2.out.1.bel.mono HH.out.2)).at_ hqn
        have hgw : g < wr.heap.size := by have := HH.out.2; have := H2.out.1.bel.size; omega
        have HBS : Hd (bareS S n q = if (S q).kind = 2 then shW ((S q).hd.epoch, (S q).hd.count, (S q).hd.size) else kindSn 1) := ⟨by unfold bareS; by_cases h2 : (S q).kind = 2; rw [if_pos ⟨hqn, h2⟩, if_pos h2]; rfl; rw [if_neg (fun h => h2 h.2), if_neg h2]⟩
        have HJ : Hd (J64 (S q).hd.epoch ∧ J64 (S q).hd.count ∧ J64 (S q).hd.size) := ⟨hok.epoch, hok.count, hok.size⟩
        clear hok
        obtain ⟨kd, hkd⟩ : ∃ z, (S q).kind = z := ⟨_, rfl⟩
        obtain ⟨ek, hek⟩ : ∃ z, (S q).hd.epoch = z := ⟨_, rfl⟩
        obtain ⟨ck, hck⟩ : ∃ z, (S q).hd.count = z := ⟨_, rfl⟩
        obtain ⟨sk, hsk⟩ : ∃ z, (S q).hd.size = z := ⟨_, rfl⟩
        rw [hkd] at d0 HBS
        rw [hek] at d15 HBS HJ
        rw [hck] at d16 HBS HJ
        rw [hsk] at d13 HBS HJ
        clear hkd hek hck hsk
        by_cases hk2 : kd = 2
        · subst hk2
          have HX4 : Hd (∀ W, Below wr.heap.size wr W → W.cell? ⟨g, off + q * 19 + 13, none⟩ = some (.int .i64 sk) ∧ W.cell? ⟨g, off + q * 19 + 15, none⟩ = some (.int .i64 ek) ∧ W.cell? ⟨g, off + q * 19 + 16, none⟩ = some (.int .i64 ck)) := ⟨fun W hW => by
            have kk : ∀ {i : Nat} {u : Value}, wr.cell? ⟨g, i, none⟩ = some u → W.cell? ⟨g, i, none⟩ = some u := fun {i u} hc => (hW.cell (p := ⟨g, i, none⟩) hgw).trans hc
            exact ⟨kk d13, kk d15, kk d16⟩⟩
          have HON := Hd.mk (Sn.one (shW (ek, ck, sk)) (shW_ok HJ.out.1 HJ.out.2.1 HJ.out.2.2))
          clear d13 d15 d16
          go_upto_region 7 with (refine at_store (x := .tmp 7) ?_; refine wpList_boxed rfl 58 (.tmp 7) (.tmp 17) rfl wr.heap.size rfl (kindSn 1).cells.toArray rfl rfl infoS rfl HK1.out ?_; intro w5 HW5
                                 have HBX : Hd (w5.heap[wr.heap.size]? = some (.cells (kindSn 1).cells.toArray 58 (0, 0)) ∧ Below wr.heap.size wr w5 ∧ w5.ownsRow (w.heap.size + 1) 58 19 u5 q (snCells (bareS S n) q) ∧ w.heap.size + 1 ≤ w5.heap.size) := ⟨HW5.out.1, HW5.out.2.1, own_belowS H2.out.2 HW5.out.2.1, by have := HW5.out.2.2; omega⟩
                                 have d0' := cell_keep d0 HW5.out.2.1)
          clear d0 d0'
          refine wp_region_held_drew (S := fun W => Below wr.heap.size wr W) (by kernel_rfl) (HBX.out.2.1.drew) (fun hHeld => ?_)
          refine wpAnyH_take (i := 0) (oi := ?oi101) (v := ?v101) ?hi101 (by kernel_rfl) (by kernel_rfl) (by kernel_rfl) ?hQ101 (Or.inl ⟨?hw101, ?hy101⟩) (by assumption) ?rest101
          case hi101 => simp only [List.getElem?_toArray, List.getElem?_cons_succ, List.getElem?_cons_zero]; rfl
          case hQ101 => exact fun _ _ _ h => h
          case hw101 => rfl
          case hy101 => (intro W hW; obtain ⟨q0, q1, q2⟩ := HX4.out W hW; go_simp; all_goals rfl)
          simp only [Act.put, List.setIfInBounds_toArray, List.set_cons_zero, List.set_cons_succ]
          refine wpAnyH_take (i := 1) (oi := ?oi102) (v := ?v102) ?hi102 (by kernel_rfl) (by kernel_rfl) (by kernel_rfl) ?hQ102 (Or.inl ⟨?hw102, ?hy102⟩) (by assumption) ?rest102
          case hi102 => simp only [List.getElem?_toArray, List.getElem?_cons_succ, List.getElem?_cons_zero]; rfl
          case hQ102 => exact fun _ _ _ h => h
          case hw102 => rfl
          case hy102 => (intro W hW; obtain ⟨q0, q1, q2⟩ := HX4.out W hW; go_simp; all_goals rfl)
          simp only [Act.put, List.setIfInBounds_toArray, List.set_cons_zero, List.set_cons_succ]
          refine wpAnyH_take (i := 2) (oi := ?oi103) (v := ?v103) ?hi103 (by kernel_rfl) (by kernel_rfl) (by kernel_rfl) ?hQ103 (Or.inl ⟨?hw103, ?hy103⟩) (by assumption) ?rest103
          case hi103 => simp only [List.getElem?_toArray, List.getElem?_cons_succ, List.getElem?_cons_zero]; rfl
          case hQ103 => exact fun _ _ _ h => h
          case hw103 => rfl
          case hy103 => (intro W hW; obtain ⟨q0, q1, q2⟩ := HX4.out W hW; go_simp; all_goals rfl)
          simp only [Act.put, List.setIfInBounds_toArray, List.set_cons_zero, List.set_cons_succ]
          refine wpAnyH_take (i := 3) (oi := ?oi104) (v := ?v104) ?hi104 (by kernel_rfl) (by kernel_rfl) (by kernel_rfl) ?hQ104 (Or.inl ⟨?hw104, ?hy104⟩) (by assumption) ?rest104
          case hi104 => simp only [List.getElem?_toArray, List.getElem?_cons_succ, List.getElem?_cons_zero]; rfl
          case hQ104 => exact fun _ _ _ h => h
          case hw104 => rfl
          case hy104 => (intro W hW; obtain ⟨q0, q1, q2⟩ := HX4.out W hW; go_simp; all_goals rfl)
          simp only [Act.put, List.setIfInBounds_toArray, List.set_cons_zero, List.set_cons_succ]
          refine wpAnyH_take (i := 4) (oi := ?oi105) (v := ?v105) ?hi105 (by kernel_rfl) (by kernel_rfl) (by kernel_rfl) ?hQ105 (Or.inl ⟨?hw105, ?hy105⟩) (by assumption) ?rest105
          case hi105 => simp only [List.getElem?_toArray, List.getElem?_cons_succ, List.getElem?_cons_zero]; rfl
          case hQ105 => exact fun _ _ _ h => h
          case hw105 => rfl
          case hy105 => (intro W hW; obtain ⟨q0, q1, q2⟩ := HX4.out W hW; go_simp; all_goals rfl)
          simp only [Act.put, List.setIfInBounds_toArray, List.set_cons_zero, List.set_cons_succ]
          refine wpAnyH_take (i := 5) (oi := ?oi106) (v := ?v106) ?hi106 (by kernel_rfl) (by kernel_rfl) (by kernel_rfl) ?hQ106 (Or.inl ⟨?hw106, ?hy106⟩) (by assumption) ?rest106
          case hi106 => simp only [List.getElem?_toArray, List.getElem?_cons_succ, List.getElem?_cons_zero]; rfl
          case hQ106 => exact fun _ _ _ h => h
          case hw106 => rfl
          case hy106 => (intro W hW; obtain ⟨q0, q1, q2⟩ := HX4.out W hW; go_simp; all_goals rfl)
          simp only [Act.put, List.setIfInBounds_toArray, List.set_cons_zero, List.set_cons_succ]
          refine wpAnyH_take (i := 6) (oi := ?oi107) (v := ?v107) ?hi107 (by kernel_rfl) (by kernel_rfl) (by kernel_rfl) ?hQ107 (Or.inl ⟨?hw107, ?hy107⟩) (by assumption) ?rest107
          case hi107 => simp only [List.getElem?_toArray, List.getElem?_cons_succ, List.getElem?_cons_zero]; rfl
          case hQ107 => exact fun _ _ _ h => h
          case hw107 => rfl
          case hy107 => (intro W hW; obtain ⟨q0, q1, q2⟩ := HX4.out W hW; go_simp; all_goals rfl)
          simp only [Act.put, List.setIfInBounds_toArray, List.set_cons_zero, List.set_cons_succ]
          refine wpAnyH_take (i := 7) (oi := ?oi108) (v := ?v108) ?hi108 (by kernel_rfl) (by kernel_rfl) (by kernel_rfl) ?hQ108 (Or.inl ⟨?hw108, ?hy108⟩) (by assumption) ?rest108
          case hi108 => simp only [List.getElem?_toArray, List.getElem?_cons_succ, List.getElem?_cons_zero]; rfl
          case hQ108 => exact fun _ _ _ h => h
          case hw108 => rfl
          case hy108 => (intro W hW; obtain ⟨q0, q1, q2⟩ := HX4.out W hW; go_simp; all_goals rfl)
          simp only [Act.put, List.setIfInBounds_toArray, List.set_cons_zero, List.set_cons_succ]
          refine wpAnyH_take (i := 8) (oi := ?oi109) (v := ?v109) ?hi109 (by kernel_rfl) (by kernel_rfl) (by kernel_rfl) ?hQ109 (Or.inl ⟨?hw109, ?hy109⟩) (by assumption) ?rest109
          case hi109 => simp only [List.getElem?_toArray, List.getElem?_cons_succ, List.getElem?_cons_zero]; rfl
          case hQ109 => exact fun _ _ _ h => h
          case hw109 => rfl
          case hy109 => (intro W hW; obtain ⟨q0, q1, q2⟩ := HX4.out W hW; go_simp; all_goals rfl)
          simp only [Act.put, List.setIfInBounds_toArray, List.set_cons_zero, List.set_cons_succ]
          refine wpAnyH_take (i := 9) (oi := ?oi110) (v := ?v110) ?hi110 (by kernel_rfl) (by kernel_rfl) (by kernel_rfl) ?hQ110 (Or.inl ⟨?hw110, ?hy110⟩) (by assumption) ?rest110
          case hi110 => simp only [List.getElem?_toArray, List.getElem?_cons_succ, List.getElem?_cons_zero]; rfl
          case hQ110 => exact fun _ _ _ h => h
          case hw110 => rfl
          case hy110 => (intro W hW; obtain ⟨q0, q1, q2⟩ := HX4.out W hW; go_simp; all_goals rfl)
          simp only [Act.put, List.setIfInBounds_toArray, List.set_cons_zero, List.set_cons_succ]
          refine wpAnyH_take (i := 10) (oi := ?oi111) (v := ?v111) ?hi111 (by kernel_rfl) (by kernel_rfl) (by kernel_rfl) ?hQ111 (Or.inl ⟨?hw111, ?hy111⟩) (by assumption) ?rest111
          case hi111 => simp only [List.getElem?_toArray, List.getElem?_cons_succ, List.getElem?_cons_zero]; rfl
          case hQ111 => exact fun _ _ _ h => h
          case hw111 => rfl
          case hy111 => (intro W hW; obtain ⟨q0, q1, q2⟩ := HX4.out W hW; go_simp; all_goals rfl)
          simp only [Act.put, List.setIfInBounds_toArray, List.set_cons_zero, List.set_cons_succ]
          refine wpAnyH_take (i := 11) (oi := ?oi112) (v := ?v112) ?hi112 (by kernel_rfl) (by kernel_rfl) (by kernel_rfl) ?hQ112 (Or.inl ⟨?hw112, ?hy112⟩) (by assumption) ?rest112
          case hi112 => simp only [List.getElem?_toArray, List.getElem?_cons_succ, List.getElem?_cons_zero]; rfl
          case hQ112 => exact fun _ _ _ h => h
          case hw112 => rfl
          case hy112 => (intro W hW; obtain ⟨q0, q1, q2⟩ := HX4.out W hW; go_simp; all_goals rfl)
          simp only [Act.put, List.setIfInBounds_toArray, List.set_cons_zero, List.set_cons_succ]
          refine wpAnyH_take (i := 12) (oi := ?oi113) (v := ?v113) ?hi113 (by kernel_rfl) (by kernel_rfl) (by kernel_rfl) ?hQ113 (Or.inl ⟨?hw113, ?hy113⟩) (by assumption) ?rest113
          case hi113 => simp only [List.getElem?_toArray, List.getElem?_cons_succ, List.getElem?_cons_zero]; rfl
          case hQ113 => exact fun _ _ _ h => h
          case hw113 => rfl
          case hy113 => (intro W hW; obtain ⟨q0, q1, q2⟩ := HX4.out W hW; go_simp; all_goals rfl)
          simp only [Act.put, List.setIfInBounds_toArray, List.set_cons_zero, List.set_cons_succ]
          refine wpAnyH_take (i := 13) (oi := ?oi114) (v := ?v114) ?hi114 (by kernel_rfl) (by kernel_rfl) (by kernel_rfl) ?hQ114 (Or.inl ⟨?hw114, ?hy114⟩) (by assumption) ?rest114
          case hi114 => simp only [List.getElem?_toArray, List.getElem?_cons_succ, List.getElem?_cons_zero]; rfl
          case hQ114 => exact fun _ _ _ h => h
          case hw114 => rfl
          case hy114 => (intro W hW; obtain ⟨q0, q1, q2⟩ := HX4.out W hW; go_simp; all_goals rfl)
          simp only [Act.put, List.setIfInBounds_toArray, List.set_cons_zero, List.set_cons_succ]
          refine wpAnyH_ready (rs := [14]) (by kernel_rfl) (by simp) ?_
          refine AllReadyH.cons (i := 14) (o := ?o115) ?ho115 (fun Kq hK => ?step115) AllReadyH.nil
          case ho115 => simp only [List.getElem?_toArray, List.getElem?_cons_succ, List.getElem?_cons_zero]; rfl
          go_simp
          (go_at_call 29; refine (shown_any _ ek ck sk).mono ?_; rintro e w7 ⟨rfl, hb⟩)
          have HB7 : Hd (Below w5.heap.size w5 w7) := ⟨((Below.refl _ _).drew).trans hb⟩
          have hF : Below wr.heap.size wr w7 := hHeld.trans (hb.mono hHeld.size)
          refine hK.out _ _ hF (fun _ => ?_)
          clear hK Kq hHeld hb
          have hHeld := hF
          clear hF
          try simp only [Act.put, List.setIfInBounds_toArray, List.set_cons_zero, List.set_cons_succ]
          have hZ : w7.heap[wr.heap.size]? = some (.cells (kindSn 1).cells.toArray 58 (0, 0)) := (HB7.out.block _ (Array.getElem?_eq_some_iff.1 HBX.out.1).1).trans HBX.out.1
          refine wpAnyH_ready (rs := [15]) (by kernel_rfl) (by simp) ?_
          refine AllReadyH.cons (i := 15) (o := ?o1091) ?ho1091 (fun Kq hK => ?step1091) AllReadyH.nil
          case ho1091 => simp only [List.getElem?_toArray, List.getElem?_cons_succ, List.getElem?_cons_zero]; rfl
          refine step_stored rfl 58 (.tmp 7) (.tmp 44) rfl wr.heap.size (shW (ek, ck, sk)).cells.toArray rfl rfl _ _ hZ infoS rfl (all_oneCell_toArray HON.out) (fun w8 HW8 => ?_)
          have HB8 : Hd (Below wr.heap.size wr w8) := ⟨(HBX.out.2.1.trans (HB7.out.mono HBX.out.2.1.size)).grown HW8.out.2.1 (Nat.le_trans HBX.out.2.1.size HB7.out.size) (fun g e => by injection e with e; omega)⟩
          refine hK.out _ _ HB8.out (fun _ => ?_)
          clear hK Kq
          try simp only [Act.put, List.setIfInBounds_toArray, List.set_cons_zero, List.set_cons_succ]
          refine wpAnyH_done (by kernel_rfl) ?_ _
          have H8 : Hd (w8.heap[wr.heap.size]? = some (.cells (shW (ek, ck, sk)).cells.toArray 58 (0, 0)) ∧ Below wr.heap.size wr w8 ∧ w8.ownsRow (w.heap.size + 1) 58 19 u5 q (snCells (bareS S n) q) ∧ w.heap.size + 1 ≤ w8.heap.size) := ⟨HW8.out.1, HB8.out, (own_belowS HBX.out.2.2.1 HB7.out).kept HW8.out.2.1 (by
            cases hv : Value.ownBlock u5 with
            | none => exact .inl rfl
            | some z => exact .inr (fun e => by have := (H2.out.2.lt z hv).2; injection e with e; omega)), by have := HB8.out.size; omega⟩
          clear HB8 HW8 HB7 HBX HX4
          go_wp2_with (first
            | (refine at_load (x := .tmp 7) ?_; refine wpList_load_row rfl 58 (.tmp 7) rfl wr.heap.size rfl 58 (shW (ek, ck, sk)).cells.toArray (0, 0) _ H8.out.1 Try.underlying58 rfl infoS ?_)
            | (refine at_buildSlice ?_; refine wpList_pushN elS rfl rfl (.tmp 45) (.tmp 46) 47 rfl rfl rfl (w.heap.size + 1) u5 q (snCells (bareS S n) q) (shW (ek, ck, sk)).cells rfl rfl HON.out rfl rfl H8.out.2.2.1 h63.out hby.out H8.out.2.2.2 ?_; intro v2 w9 hO2
               have HO2 := Hd.mk hO2
               clear hO2))
          go_roundw
          case rel =>
            have hb9 : Below wr.heap.size wr w8 := H8.out.2.1
            have hb5 := HO2.out.below (B := w.heap.size + 1) (fun g hg => (H8.out.2.2.1.lt g hg).1) (H8.out.2.2.2)
            refine ⟨q + 1, by omega, by go_num, (H2.out.1.keep hb9).keepB hb5 (by omega), ?_⟩
            rw [HNX.out, HBS.out, if_pos rfl]
            exact HO2.out.1
          case measure => simp [intOf]; omega
        · have HON := Hd.mk (Sn.one (kindSn 1) (kind_ok (by unfold J64; decide)))
          have qk2 : (kd == 2) = false := by simp [hk2]
          go_wp2_with (first
            | (refine at_store (x := .tmp 7) ?_; refine wpList_boxed rfl 58 (.tmp 7) (.tmp 17) rfl wr.heap.size rfl (kindSn 1).cells.toArray rfl rfl infoS rfl HK1.out ?_; intro w5 HW5
               have HBX : Hd (w5.heap[wr.heap.size]? = some (.cells (kindSn 1).cells.toArray 58 (0, 0)) ∧ Below wr.heap.size wr w5 ∧ w5.ownsRow (w.heap.size + 1) 58 19 u5 q (snCells (bareS S n) q) ∧ w.heap.size + 1 ≤ w5.heap.size) := ⟨HW5.out.1, HW5.out.2.1, own_belowS H2.out.2 HW5.out.2.1, by have := HW5.out.2.2; omega⟩
               have d0' := cell_keep d0 HW5.out.2.1)
            | (refine at_load (x := .tmp 7) ?_; refine wpList_load_row rfl 58 (.tmp 7) rfl wr.heap.size rfl 58 (kindSn 1).cells.toArray (0, 0) _ HBX.out.1 Try.underlying58 rfl infoS ?_)
            | (refine at_buildSlice ?_; refine wpList_pushN elS rfl rfl (.tmp 45) (.tmp 46) 47 rfl rfl rfl (w.heap.size + 1) u5 q (snCells (bareS S n) q) (kindSn 1).cells rfl rfl HON.out rfl rfl HBX.out.2.2.1 h63.out hby.out HBX.out.2.2.2 ?_; intro v2 w9 hO2
               have HO2 := Hd.mk hO2
               clear hO2))
          go_roundw
          case rel =>
            have hb9 : Below wr.heap.size wr _ := HBX.out.2.1
            have hb5 := HO2.out.below (B := w.heap.size + 1) (fun g hg => (HBX.out.2.2.1.lt g hg).1) (HBX.out.2.2.2)
            refine ⟨q + 1, by omega, by go_num, (H2.out.1.keep hb9).keepB hb5 (by omega), ?_⟩
            rw [HNX.out, HBS.out, if_neg hk2]
            exact HO2.out.1
          case measure => simp [intOf]; omega
      · have HON := Hd.mk (Sn.one (kindSn 1) (kind_ok (by unfold J64; decide)))
        have HBS : Hd (bareS S n q = kindSn 1) := ⟨by unfold bareS; rw [if_neg (fun h => hqn h.1)]⟩
        have hqi : ¬ (q : Int) < (n : Int) := by omega
        go_wp2_with (first
          | (refine at_store (x := .tmp 7) ?_; refine wpList_boxed rfl 58 (.tmp 7) (.tmp 17) rfl wr.heap.size rfl (kindSn 1).cells.toArray rfl rfl infoS rfl HK1.out ?_; intro w5 HW5
             have HBX : Hd (w5.heap[wr.heap.size]? = some (.cells (kindSn 1).cells.toArray 58 (0, 0)) ∧ Below wr.heap.size wr w5 ∧ w5.ownsRow (w.heap.size + 1) 58 19 u5 q (snCells (bareS S n) q) ∧ w.heap.size + 1 ≤ w5.heap.size) := ⟨HW5.out.1, HW5.out.2.1, own_belowS H2.out.2 HW5.out.2.1, by have := HW5.out.2.2; omega⟩)
          | (refine at_load (x := .tmp 7) ?_; refine wpList_load_row rfl 58 (.tmp 7) rfl wr.heap.size rfl 58 (kindSn 1).cells.toArray (0, 0) _ HBX.out.1 Try.underlying58 rfl infoS ?_)
          | (refine at_buildSlice ?_; refine wpList_pushN elS rfl rfl (.tmp 45) (.tmp 46) 47 rfl rfl rfl (w.heap.size + 1) u5 q (snCells (bareS S n) q) (kindSn 1).cells rfl rfl HON.out rfl rfl HBX.out.2.2.1 h63.out hby.out HBX.out.2.2.2 ?_; intro v2 w9 hO2
             have HO2 := Hd.mk hO2
             clear hO2))
        go_roundw
        case rel =>
          have hb9 : Below wr.heap.size wr _ := HBX.out.2.1
          have hb5 := HO2.out.below (B := w.heap.size + 1) (fun g hg => (HBX.out.2.2.1.lt g hg).1) (HBX.out.2.2.2)
          refine ⟨q + 1, by omega, by go_num, (H2.out.1.keep hb9).keepB hb5 (by omega), ?_⟩
          rw [HNX.out, HBS.out]
          exact HO2.out.1
        case measure => simp [intOf]; omega
    · have hqn : q = N := by omega
      subst hqn
      have hnk : ¬ (q : Int) < k + m := by omega
      obtain ⟨A', c', hv', _, _⟩ := ownN_form H2.out.2
      subst hv'
      obtain ⟨g, hA', hC⟩ := Cop.of_own (own_low (base' := w.heap.size) H2.out.2 (by omega)) (fun r hr => bare_ok HH.out.1.ok r) (by omega)
      subst hA'
      have HC := Hd.mk hC
      clear hC
      go_wp2_with fail
      go_ret
      first | exact ⟨g, HC.out, H2.out.1.bel⟩ | exact ⟨g, c', HC.out, H2.out.1.bel⟩ | exact ⟨g, c', rfl, HC.out, H2.out.1.bel⟩ | exact ⟨g, ⟨c', rfl⟩, HC.out, H2.out.1.bel⟩ | exact ⟨g, rfl, HC.out, H2.out.1.bel⟩
end Go.Proofs.Ytplpaipmkpjgfaa
