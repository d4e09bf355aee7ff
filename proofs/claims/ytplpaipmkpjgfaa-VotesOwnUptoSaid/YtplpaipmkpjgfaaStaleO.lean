/- The program's Stale, its answer owned. (tools/staleo.py prints it.) -/
import Derived.Test.YtplpaipmkpjgfaaOwnL
namespace Go.Proofs.Ytplpaipmkpjgfaa
open Go.RowKit
set_option linter.unusedVariables false
set_option linter.unusedSimpArgs false
set_option maxRecDepth 20000 in
set_option maxHeartbeats 40000000 in
theorem stale_own (w : World) (Q n c : Nat) (A : Option Addr) (S : Nat → Sn) (hv : View w Q A n S) (hQ : Q ≤ w.heap.size) (hn : n * 120 ≤ 140737488351232) (vk ep ct sz : Int) (P : Value) :
    Calls Try.prog 12 #[.slice A n c, .agg #[.int .i64 vk, .int .i64 ep, .int .i64 ct, .int .i64 sz, P]] w fun e w' => ∃ A' c', e = .returned (.slice A' (staleP S vk ep ct sz n).length c') ∧ Below w.heap.size w w' ∧ w'.ownsRow w.heap.size 3 1 (.slice A' (staleP S vk ep ct sz n).length c') (staleP S vk ep ct sz n).length (iz (staleP S vk ep ct sz n)) := by
  have HH : Hd (View w Q A n S ∧ Q ≤ w.heap.size) := ⟨hv, hQ⟩
  clear hv hQ
  go_enter Try.func12, Try.ntmps12
  go_wp2_with fail
  have H1 : Hd (St w (w.alloc (.cells #[.int .i64 vk, .int .i64 ep, .int .i64 ct, .int .i64 sz, P] 27)) #[.int .i64 vk, .int .i64 ep, .int .i64 ct, .int .i64 sz, P] (.slice none 0 0) 0 []) := ⟨heap_alloc_new _ _, (Below.refl _ _).alloc (Nat.le_refl _) _, World.ownsRow_nil _ _ _ _, by simp⟩
  obtain ⟨w1, hw1⟩ : ∃ w1, w.alloc (.cells #[.int .i64 vk, .int .i64 ep, .int .i64 ct, .int .i64 sz, P] 27) = w1 := ⟨_, rfl⟩
  rw [hw1] at H1 ⊢
  clear hw1
  go_loopw [5, 12] (fun v i wr => ∃ k : Nat, k ≤ n ∧ i = .int .i64 (k : Int) ∧ St w wr #[.int .i64 vk, .int .i64 ep, .int .i64 ct, .int .i64 sz, P] v (staleP S vk ep ct sz k).length (iz (staleP S vk ep ct sz k))) (fun _ i _ => n - (intOf i).toNat)
  case atStart => exact ⟨0, by omega, rfl, H1.out⟩
  case round =>
    clear H1
    obtain ⟨k, hk, rfl, hO⟩ := hrel
    have H2 := Hd.mk hO
    clear hO
    by_cases hlt : k < n
    · have hki : (k : Int) < (n : Int) := by omega
      obtain ⟨g, off, hA, hg, _, _, _, _, _, hrg, hok⟩ := (HH.out.1.below (H2.out.2.1.mono HH.out.2)).at_ hlt
      subst hA
      have HR := Hd.mk hrg
      have HON := Hd.mk (all_oneCell_toArray (Sn.one (S k) hok))
      clear hrg hok
      have HA : Hd ((wr.alloc (.cells sn0.cells.toArray 58)).heap[wr.heap.size]? = some (.cells sn0.cells.toArray 58 (0, 0))) := ⟨heap_alloc_new _ _⟩
      go_wp2_with (first
        | (refine wpList_load_mid rfl 58 (.tmp 15) rfl g (off + k * 19) rfl (S k).cells _ HR.out Try.underlying58 rfl infoS ?_)
        | (refine wpList_store_row rfl 58 (.tmp 7) (.tmp 16) rfl wr.heap.size (S k).cells.toArray rfl rfl 58 sn0.cells.toArray HA.out infoS rfl HON.out ?_)
        | (refine wpList_load_row rfl 58 (.tmp 7) rfl wr.heap.size rfl 58 (S k).cells.toArray (0, 0) _ (setRow_heap _ _ _ _ _ _ HA.out) Try.underlying58 rfl infoS ?_))
      have HW3 : Hd (St w ((wr.alloc (.cells sn0.cells.toArray 58)).setRow wr.heap.size (S k).cells.toArray) #[.int .i64 vk, .int .i64 ep, .int .i64 ct, .int .i64 sz, P] u5 (staleP S vk ep ct sz k).length (iz (staleP S vk ep ct sz k)) ∧ ((wr.alloc (.cells sn0.cells.toArray 58)).setRow wr.heap.size (S k).cells.toArray).heap[wr.heap.size]? = some (.cells (S k).cells.toArray 58 (0, 0))) := ⟨H2.out.keep (below_setRow ((Below.refl _ _).alloc (Nat.le_refl _) _) (Nat.le_refl _) _), setRow_heap _ _ _ _ _ _ HA.out⟩
      obtain ⟨w3, hw3⟩ : ∃ w3, (wr.alloc (.cells #[.int .i64 0, .int .u8 0, .int .u8 0, .int .u8 0, .int .u8 0, .int .u8 0, .int .u8 0, .int .u8 0, .int .u8 0, .int .i64 0, .int .i64 0, .int .i64 0, .string ⟨#[]⟩, .int .i64 0, .int .i64 0, .int .i64 0, .int .i64 0, .slice none 0 0, .int .i64 0] 58)).setRow wr.heap.size (S k).cells.toArray = w3 := ⟨_, rfl⟩
      have hw3' : (wr.alloc (.cells sn0.cells.toArray 58)).setRow wr.heap.size (S k).cells.toArray = w3 := hw3
      rw [hw3'] at HW3
      rw [hw3]
      clear hw3 hw3' H2 HA
      refine (of_any w3 (S k)).mono ?_
      rintro e w4 ⟨rfl, hb4⟩
      have H4 : Hd (St w w4 #[.int .i64 vk, .int .i64 ep, .int .i64 ct, .int .i64 sz, P] u5 (staleP S vk ep ct sz k).length (iz (staleP S vk ep ct sz k)) ∧ w4.heap[wr.heap.size]? = some (.cells (S k).cells.toArray 58 (0, 0))) := ⟨HW3.out.1.keep hb4, (hb4.block _ (Array.getElem?_eq_some_iff.1 HW3.out.2).1).trans HW3.out.2⟩
      have h7 : wr.heap.size < w4.heap.size := (Array.getElem?_eq_some_iff.1 H4.out.2).1
      have hsz := H4.out.1.2.2.2
      clear hb4 HW3 HR HON hg
      have hnx := staleP_next S vk ep ct sz k
      have hle := staleP_le S vk ep ct sz k
      have hsb : staleB vk ep ct sz (S k) = ((vk == 1) && !(((S k).kind == 2) && (((S k).hd.epoch == ep) && ((S k).hd.count == ct)) && ((S k).hd.size == sz)) || (vk == 2) && ((S k).kind != 1)) := rfl
      have d0 : w4.cell? ⟨wr.heap.size, 0, none⟩ = some (.int .i64 (S k).kind) := by rw [cell_of_row _ _ _ _ _ _ H4.out.2]; rfl
      rw [show wrt (S k) = #[.int .i64 (S k).hd.epoch, .int .i64 (S k).hd.count, .int .i64 (S k).hd.size] from rfl]
      generalize (S k).kind = kd at *
      generalize (S k).hd.size = sk at *
      generalize (S k).hd.epoch = ek at *
      generalize (S k).hd.count = ck at *
      obtain ⟨L, hL⟩ : ∃ L, staleP S vk ep ct sz k = L := ⟨_, rfl⟩
      rw [hL] at hnx hle H4
      have HN := Hd.mk hnx
      have HSB := Hd.mk hsb
      clear hnx hsb hL
      have HA4 : Hd ((w4.alloc (.cells #[.int .i64 0, .int .i64 0, .int .i64 0] 73)).heap[w4.heap.size]? = some (.cells #[.int .i64 0, .int .i64 0, .int .i64 0] 73 (0, 0))) := ⟨heap_alloc_new _ _⟩
      have hB5 : Below w4.heap.size w4 ((w4.alloc (.cells #[.int .i64 0, .int .i64 0, .int .i64 0] 73)).setRow w4.heap.size #[.int .i64 ek, .int .i64 ck, .int .i64 sk]) := below_setRow ((Below.refl _ _).alloc (Nat.le_refl _) _) (Nat.le_refl _) _
      have h5 : St w ((w4.alloc (.cells #[.int .i64 0, .int .i64 0, .int .i64 0] 73)).setRow w4.heap.size #[.int .i64 ek, .int .i64 ck, .int .i64 sk]) #[.int .i64 vk, .int .i64 ep, .int .i64 ct, .int .i64 sz, P] u5 L.length (iz L) := H4.out.1.keep hB5
      have H5 := Hd.mk h5
      have c0 : ((w4.alloc (.cells #[.int .i64 0, .int .i64 0, .int .i64 0] 73)).setRow w4.heap.size #[.int .i64 ek, .int .i64 ck, .int .i64 sk]).cell? ⟨w.heap.size, 0, none⟩ = some (.int .i64 vk) := by rw [cell_of_row _ _ _ _ _ _ h5.1]; rfl
      have c1 : ((w4.alloc (.cells #[.int .i64 0, .int .i64 0, .int .i64 0] 73)).setRow w4.heap.size #[.int .i64 ek, .int .i64 ck, .int .i64 sk]).cell? ⟨w.heap.size, 1, none⟩ = some (.int .i64 ep) := by rw [cell_of_row _ _ _ _ _ _ h5.1]; rfl
      have c2 : ((w4.alloc (.cells #[.int .i64 0, .int .i64 0, .int .i64 0] 73)).setRow w4.heap.size #[.int .i64 ek, .int .i64 ck, .int .i64 sk]).cell? ⟨w.heap.size, 2, none⟩ = some (.int .i64 ct) := by rw [cell_of_row _ _ _ _ _ _ h5.1]; rfl
      have c3 : ((w4.alloc (.cells #[.int .i64 0, .int .i64 0, .int .i64 0] 73)).setRow w4.heap.size #[.int .i64 ek, .int .i64 ck, .int .i64 sk]).cell? ⟨w.heap.size, 3, none⟩ = some (.int .i64 sz) := by rw [cell_of_row _ _ _ _ _ _ h5.1]; rfl
      have d5 : ((w4.alloc (.cells #[.int .i64 0, .int .i64 0, .int .i64 0] 73)).setRow w4.heap.size #[.int .i64 ek, .int .i64 ck, .int .i64 sk]).cell? ⟨wr.heap.size, 0, none⟩ = some (.int .i64 kd) := (hB5.cell (p := ⟨wr.heap.size, 0, none⟩) h7).trans d0
      have hr5 : ((w4.alloc (.cells #[.int .i64 0, .int .i64 0, .int .i64 0] 73)).setRow w4.heap.size #[.int .i64 ek, .int .i64 ck, .int .i64 sk]).heap[w4.heap.size]? = some (.cells #[.int .i64 ek, .int .i64 ck, .int .i64 sk] 73 (0, 0)) := setRow_heap _ _ _ _ _ _ HA4.out
      have e0 : ((w4.alloc (.cells #[.int .i64 0, .int .i64 0, .int .i64 0] 73)).setRow w4.heap.size #[.int .i64 ek, .int .i64 ck, .int .i64 sk]).cell? ⟨w4.heap.size, 0, none⟩ = some (.int .i64 ek) := by rw [cell_of_row _ _ _ _ _ _ hr5]; rfl
      have e1 : ((w4.alloc (.cells #[.int .i64 0, .int .i64 0, .int .i64 0] 73)).setRow w4.heap.size #[.int .i64 ek, .int .i64 ck, .int .i64 sk]).cell? ⟨w4.heap.size, 1, none⟩ = some (.int .i64 ck) := by rw [cell_of_row _ _ _ _ _ _ hr5]; rfl
      have e2 : ((w4.alloc (.cells #[.int .i64 0, .int .i64 0, .int .i64 0] 73)).setRow w4.heap.size #[.int .i64 ek, .int .i64 ck, .int .i64 sk]).cell? ⟨w4.heap.size, 2, none⟩ = some (.int .i64 sk) := by rw [cell_of_row _ _ _ _ _ _ hr5]; rfl
      have hbs : Hd (w.heap.size + 1 ≤ ((w4.alloc (.cells #[.int .i64 0, .int .i64 0, .int .i64 0] 73)).setRow w4.heap.size #[.int .i64 ek, .int .i64 ck, .int .i64 sk]).heap.size) := ⟨by have := h5.2.2.2; omega⟩
      have h63 : Hd (L.length + 1 ≤ maxLen) := ⟨by unfold maxLen; omega⟩
      have hby : Hd ((L.length + 1) * 8 ≤ 140737488355328) := ⟨by omega⟩
      have HN5 : Hd (((w4.alloc (.cells #[.int .i64 0, .int .i64 0, .int .i64 0] 73)).setRow w4.heap.size #[.int .i64 ek, .int .i64 ck, .int .i64 sk]).heap.size = w4.heap.size + 1) := ⟨by simp⟩
      have h4s : wr.heap.size < w4.heap.size := h7
      clear h5 hr5 d0 hB5 H4
      rcases v1 : (vk == 1) with _ | _
      · have HX := True.intro
        rcases v2 : (vk == 2) with _ | _
        · have HX := True.intro
          have HB : Hd (_ = false) := ⟨HSB.out.trans (by simp [v1, v2])⟩
          clear HSB
          go_wp2_with (refine wpList_store_row rfl 73 (.tmp 8) (.tmp 20) rfl w4.heap.size #[.int .i64 ek, .int .i64 ck, .int .i64 sk] rfl rfl 73 #[.int .i64 0, .int .i64 0, .int .i64 0] HA4.out infoW rfl (by simp [Value.oneCell']) ?_)
          go_roundw
          case rel =>
            refine ⟨k + 1, by omega, by go_num, ?_⟩
            rw [HN.out, if_neg (by rw [HB.out]; decide)]
            exact H5.out
          case measure => simp [intOf]; omega
        · have e_v2 := eq_of_beq v2
          subst e_v2
          clear v2
          rcases k1 : (kd == 1) with _ | _
          · have HX := True.intro
            have k2 : (kd != 1) = true := by simpa using k1
            have HB : Hd (_ = true) := ⟨HSB.out.trans (by simp [k1, k2])⟩
            clear HSB
            go_wp2_with (first | (refine wpList_store_row rfl 73 (.tmp 8) (.tmp 20) rfl w4.heap.size #[.int .i64 ek, .int .i64 ck, .int .i64 sk] rfl rfl 73 #[.int .i64 0, .int .i64 0, .int .i64 0] HA4.out infoW rfl (by simp [Value.oneCell']) ?_) | (at_builtin; refine push_at0 elI rfl (.tmp 43) (.tmp 45) rfl (w.heap.size + 1) u5 L.length (iz L) (.int .i64 (k : Int)) rfl (w4.heap.size + 1) HN5.out rfl rfl H5.out.2.2.1 h63.out hby.out hbs.out ?_; intro v2 w2 hO2))
            have H3 := Hd.mk hO2
            clear hO2
            go_wp2_with fail
            go_roundw
            case rel =>
              have hb5 := H3.out.below (B := w.heap.size + 1) (fun q hq => (H5.out.2.2.1.lt q hq).1) hbs.out
              refine ⟨k + 1, by omega, by go_num, (hb5.block _ (by omega)).trans H5.out.1, H5.out.2.1.trans (hb5.mono (by omega)), ?_, Nat.lt_of_lt_of_le H5.out.2.2.2 hb5.size⟩
              rw [HN.out, if_pos HB.out, List.length_append, iz_append]
              exact H3.out.own
            case measure => simp [intOf]; omega
          · have e_k1 := eq_of_beq k1
            subst e_k1
            clear k1
            have HB : Hd (_ = false) := ⟨HSB.out.trans (by simp [])⟩
            clear HSB
            go_wp2_with (refine wpList_store_row rfl 73 (.tmp 8) (.tmp 20) rfl w4.heap.size #[.int .i64 ek, .int .i64 ck, .int .i64 sk] rfl rfl 73 #[.int .i64 0, .int .i64 0, .int .i64 0] HA4.out infoW rfl (by simp [Value.oneCell']) ?_)
            go_roundw
            case rel =>
              refine ⟨k + 1, by omega, by go_num, ?_⟩
              rw [HN.out, if_neg (by rw [HB.out]; decide)]
              exact H5.out
            case measure => simp [intOf]; omega
      · have e_v1 := eq_of_beq v1
        subst e_v1
        clear v1
        rcases q1 : (kd == 2) with _ | _
        · have HX := True.intro
          have HB : Hd (_ = true) := ⟨HSB.out.trans (by simp [q1])⟩
          clear HSB
          go_wp2_with (first | (refine wpList_store_row rfl 73 (.tmp 8) (.tmp 20) rfl w4.heap.size #[.int .i64 ek, .int .i64 ck, .int .i64 sk] rfl rfl 73 #[.int .i64 0, .int .i64 0, .int .i64 0] HA4.out infoW rfl (by simp [Value.oneCell']) ?_) | (at_builtin; refine push_at0 elI rfl (.tmp 43) (.tmp 45) rfl (w.heap.size + 1) u5 L.length (iz L) (.int .i64 (k : Int)) rfl (w4.heap.size + 1) HN5.out rfl rfl H5.out.2.2.1 h63.out hby.out hbs.out ?_; intro v2 w2 hO2))
          have H3 := Hd.mk hO2
          clear hO2
          go_wp2_with fail
          go_roundw
          case rel =>
            have hb5 := H3.out.below (B := w.heap.size + 1) (fun q hq => (H5.out.2.2.1.lt q hq).1) hbs.out
            refine ⟨k + 1, by omega, by go_num, (hb5.block _ (by omega)).trans H5.out.1, H5.out.2.1.trans (hb5.mono (by omega)), ?_, Nat.lt_of_lt_of_le H5.out.2.2.2 hb5.size⟩
            rw [HN.out, if_pos HB.out, List.length_append, iz_append]
            exact H3.out.own
          case measure => simp [intOf]; omega
        · have e_q1 := eq_of_beq q1
          subst e_q1
          clear q1
          rcases q2 : (ek == ep) with _ | _
          · have HX := True.intro
            have HB : Hd (_ = true) := ⟨HSB.out.trans (by simp [q2])⟩
            clear HSB
            go_wp2_with (first | (refine wpList_store_row rfl 73 (.tmp 8) (.tmp 20) rfl w4.heap.size #[.int .i64 ek, .int .i64 ck, .int .i64 sk] rfl rfl 73 #[.int .i64 0, .int .i64 0, .int .i64 0] HA4.out infoW rfl (by simp [Value.oneCell']) ?_) | (at_builtin; refine push_at0 elI rfl (.tmp 43) (.tmp 45) rfl (w.heap.size + 1) u5 L.length (iz L) (.int .i64 (k : Int)) rfl (w4.heap.size + 1) HN5.out rfl rfl H5.out.2.2.1 h63.out hby.out hbs.out ?_; intro v2 w2 hO2))
            have H3 := Hd.mk hO2
            clear hO2
            go_wp2_with fail
            go_roundw
            case rel =>
              have hb5 := H3.out.below (B := w.heap.size + 1) (fun q hq => (H5.out.2.2.1.lt q hq).1) hbs.out
              refine ⟨k + 1, by omega, by go_num, (hb5.block _ (by omega)).trans H5.out.1, H5.out.2.1.trans (hb5.mono (by omega)), ?_, Nat.lt_of_lt_of_le H5.out.2.2.2 hb5.size⟩
              rw [HN.out, if_pos HB.out, List.length_append, iz_append]
              exact H3.out.own
            case measure => simp [intOf]; omega
          · have e_q2 := eq_of_beq q2
            subst e_q2
            clear q2
            rcases q3 : (ck == ct) with _ | _
            · have HX := True.intro
              have HB : Hd (_ = true) := ⟨HSB.out.trans (by simp [q3])⟩
              clear HSB
              go_wp2_with (first | (refine wpList_store_row rfl 73 (.tmp 8) (.tmp 20) rfl w4.heap.size #[.int .i64 ek, .int .i64 ck, .int .i64 sk] rfl rfl 73 #[.int .i64 0, .int .i64 0, .int .i64 0] HA4.out infoW rfl (by simp [Value.oneCell']) ?_) | (at_builtin; refine push_at0 elI rfl (.tmp 43) (.tmp 45) rfl (w.heap.size + 1) u5 L.length (iz L) (.int .i64 (k : Int)) rfl (w4.heap.size + 1) HN5.out rfl rfl H5.out.2.2.1 h63.out hby.out hbs.out ?_; intro v2 w2 hO2))
              have H3 := Hd.mk hO2
              clear hO2
              go_wp2_with fail
              go_roundw
              case rel =>
                have hb5 := H3.out.below (B := w.heap.size + 1) (fun q hq => (H5.out.2.2.1.lt q hq).1) hbs.out
                refine ⟨k + 1, by omega, by go_num, (hb5.block _ (by omega)).trans H5.out.1, H5.out.2.1.trans (hb5.mono (by omega)), ?_, Nat.lt_of_lt_of_le H5.out.2.2.2 hb5.size⟩
                rw [HN.out, if_pos HB.out, List.length_append, iz_append]
                exact H3.out.own
              case measure => simp [intOf]; omega
            · have e_q3 := eq_of_beq q3
              subst e_q3
              clear q3
              rcases q4 : (sk == sz) with _ | _
              · have HX := True.intro
                have HB : Hd (_ = true) := ⟨HSB.out.trans (by simp [q4])⟩
                clear HSB
                go_wp2_with (first | (refine wpList_store_row rfl 73 (.tmp 8) (.tmp 20) rfl w4.heap.size #[.int .i64 ek, .int .i64 ck, .int .i64 sk] rfl rfl 73 #[.int .i64 0, .int .i64 0, .int .i64 0] HA4.out infoW rfl (by simp [Value.oneCell']) ?_) | (at_builtin; refine push_at0 elI rfl (.tmp 43) (.tmp 45) rfl (w.heap.size + 1) u5 L.length (iz L) (.int .i64 (k : Int)) rfl (w4.heap.size + 1) HN5.out rfl rfl H5.out.2.2.1 h63.out hby.out hbs.out ?_; intro v2 w2 hO2))
                have H3 := Hd.mk hO2
                clear hO2
                go_wp2_with fail
                go_roundw
                case rel =>
                  have hb5 := H3.out.below (B := w.heap.size + 1) (fun q hq => (H5.out.2.2.1.lt q hq).1) hbs.out
                  refine ⟨k + 1, by omega, by go_num, (hb5.block _ (by omega)).trans H5.out.1, H5.out.2.1.trans (hb5.mono (by omega)), ?_, Nat.lt_of_lt_of_le H5.out.2.2.2 hb5.size⟩
                  rw [HN.out, if_pos HB.out, List.length_append, iz_append]
                  exact H3.out.own
                case measure => simp [intOf]; omega
              · have e_q4 := eq_of_beq q4
                subst e_q4
                clear q4
                have HB : Hd (_ = false) := ⟨HSB.out.trans (by simp [])⟩
                clear HSB
                go_wp2_with (refine wpList_store_row rfl 73 (.tmp 8) (.tmp 20) rfl w4.heap.size #[.int .i64 ek, .int .i64 ck, .int .i64 sk] rfl rfl 73 #[.int .i64 0, .int .i64 0, .int .i64 0] HA4.out infoW rfl (by simp [Value.oneCell']) ?_)
                go_roundw
                case rel =>
                  refine ⟨k + 1, by omega, by go_num, ?_⟩
                  rw [HN.out, if_neg (by rw [HB.out]; decide)]
                  exact H5.out
                case measure => simp [intOf]; omega
    · have hkn : k = n := by omega
      subst hkn
      obtain ⟨A', c', rfl, _, _⟩ := own_form H2.out.2.2.1
      go_wp2_with fail
      go_ret
      exact ⟨A', c', rfl, H2.out.2.1, own_low H2.out.2.2.1 (by omega)⟩
end Go.Proofs.Ytplpaipmkpjgfaa
