/- The contract of the program's Groups. -/
import Derived.Test.YtplpaipmkpjgfaaGrpP
namespace Go.Proofs.Ytplpaipmkpjgfaa
open Go.RowKit
set_option linter.unusedVariables false
set_option linter.unusedSimpArgs false
theorem SnOk.wr {x : Sn} (h : SnOk x) : WrOk (wrOf x) := ⟨h.epoch, h.count, h.size⟩
theorem OntoN.block {w w' : World} {base e size n j : Nat} {s v : Value} {xs : List Value} (h : OntoN w w' base e size s v n xs) (hj : j < w.heap.size) (hs : s.ownBlock = none ∨ s.ownBlock ≠ some j) : w'.heap[j]? = w.heap[j]? :=
  h.2.1.block j hj (by rcases hs with h | h; (rw [h]; simp); exact fun e => h e.symm)
theorem Onto.block' {w w' : World} {base e n j : Nat} {s v : Value} {xs : List Value} (h : Onto w w' base e s v n xs) (hj : j < w.heap.size) (hs : s.ownBlock = none ∨ s.ownBlock ≠ some j) : w'.heap[j]? = w.heap[j]? :=
  h.2.1.block j hj (by rcases hs with h | h; (rw [h]; simp); exact fun e => h e.symm)
theorem enc_one (a b c : Int) : ∀ u ∈ [Value.int .i64 a, .int .i64 b, .int .i64 c, .slice none 0 0], u.oneCell' = true := by simp [Value.oneCell']
set_option maxRecDepth 20000 in
set_option maxHeartbeats 40000000 in
theorem groups_any (w : World) (Q n c : Nat) (A : Option Addr) (S : Nat → Sn) (hv : View w Q A n S) (hQ : Q ≤ w.heap.size) (hn : n * 120 ≤ 140737488351232) :
    Calls Try.prog 20 #[.slice A n c] w fun e w' => ∃ v f gl, e = .returned v ∧ GOut w w' S n f v gl gl.length := by
  have HH : Hd (View w Q A n S ∧ Q ≤ w.heap.size) := ⟨hv, hQ⟩
  clear hv hQ
  have hmm := @run_makeMap Try.prog
  go_enter Try.func20, Try.ntmps20
  go_wp2_with fail
  have H1 : Hd (GSt w (w.alloc (.map #[] 0)) S 0 (fun _ => .slice none 0 0) (.slice none 0 0) []) := ⟨GSt.start w S⟩
  obtain ⟨w1, hw1⟩ : ∃ w1, w.alloc (.map #[] 0) = w1 := ⟨_, rfl⟩
  rw [hw1] at H1 ⊢
  clear hw1
  go_loopw [4, 13] (fun v i wr => ∃ k : Nat, k ≤ n ∧ i = .int .i64 (k : Int) ∧ ∃ f, GSt w wr S k f v (wrs S k)) (fun _ i _ => n - (intOf i).toNat)
  case atStart => exact ⟨0, by omega, rfl, _, H1.out⟩
  case round =>
    clear H1
    obtain ⟨k, hk, rfl, f, hO⟩ := hrel
    have H2 := Hd.mk hO
    clear hO
    by_cases hlt : k < n
    · have hki : (k : Int) < (n : Int) := by omega
      obtain ⟨g, off, hA, hg, _, _, _, _, _, hrg, hok⟩ := (HH.out.1.below (H2.out.bel.mono HH.out.2)).at_ hlt
      subst hA
      have HR := Hd.mk hrg
      have HW := Hd.mk hok.wr
      have HON := Hd.mk (all_oneCell_toArray (Sn.one (S k) hok))
      clear hrg hok
      have HA : Hd ((wr.alloc (.cells sn0.cells.toArray 58)).heap[wr.heap.size]? = some (.cells sn0.cells.toArray 58 (0, 0))) := ⟨heap_alloc_new _ _⟩
      go_wp2_with (first
        | (refine wpList_load_mid rfl 58 (.tmp 16) rfl g (off + k * 19) rfl (S k).cells _ HR.out Try.underlying58 rfl infoS ?_)
        | (refine wpList_store_row rfl 58 (.tmp 6) (.tmp 17) rfl wr.heap.size (S k).cells.toArray rfl rfl 58 sn0.cells.toArray HA.out infoS rfl HON.out ?_)
        | (refine wpList_load_row rfl 58 (.tmp 6) rfl wr.heap.size rfl 58 (S k).cells.toArray (0, 0) _ (setRow_heap _ _ _ _ _ _ HA.out) Try.underlying58 rfl infoS ?_))
      have HW3 : Hd (GSt w ((wr.alloc (.cells sn0.cells.toArray 58)).setRow wr.heap.size (S k).cells.toArray) S k f u4 (wrs S k)) := ⟨H2.out.keep (below_setRow ((Below.refl _ _).alloc (Nat.le_refl _) _) (Nat.le_refl _) _)⟩
      obtain ⟨w3, hw3⟩ : ∃ w3, (wr.alloc (.cells #[.int .i64 0, .int .u8 0, .int .u8 0, .int .u8 0, .int .u8 0, .int .u8 0, .int .u8 0, .int .u8 0, .int .u8 0, .int .i64 0, .int .i64 0, .int .i64 0, .string ⟨#[]⟩, .int .i64 0, .int .i64 0, .int .i64 0, .int .i64 0, .slice none 0 0, .int .i64 0] 58)).setRow wr.heap.size (S k).cells.toArray = w3 := ⟨_, rfl⟩
      have hw3' : (wr.alloc (.cells sn0.cells.toArray 58)).setRow wr.heap.size (S k).cells.toArray = w3 := hw3
      rw [hw3'] at HW3
      rw [hw3]
      clear hw3 hw3' H2 HA
      refine (of_any w3 (S k)).mono ?_
      rintro e w4 ⟨rfl, hb4⟩
      have H4 := Hd.mk (HW3.out.keep hb4)
      clear hb4 HW3 HR HON hg
      obtain ⟨ek, hek⟩ : ∃ z, (S k).hd.epoch = z := ⟨_, rfl⟩
      obtain ⟨ck, hck⟩ : ∃ z, (S k).hd.count = z := ⟨_, rfl⟩
      obtain ⟨sk, hsk⟩ : ∃ z, (S k).hd.size = z := ⟨_, rfl⟩
      obtain ⟨kd, hkd⟩ : ∃ z, (S k).kind = z := ⟨_, rfl⟩
      rw [show wrt (S k) = #[.int .i64 ek, .int .i64 ck, .int .i64 sk] by rw [← hek, ← hck, ← hsk]; rfl, hkd]
      have HX : Hd (wrOf (S k) = (ek, ck, sk) ∧ (S k).kind = kd) := ⟨by rw [← hek, ← hck, ← hsk]; rfl, hkd⟩
      clear hek hck hsk hkd
      have HA4 : Hd ((w4.alloc (.cells #[.int .i64 0, .int .i64 0, .int .i64 0] 73)).heap[w4.heap.size]? = some (.cells #[.int .i64 0, .int .i64 0, .int .i64 0] 73 (0, 0))) := ⟨heap_alloc_new _ _⟩
      have HB5 : Hd (Below w4.heap.size w4 ((w4.alloc (.cells #[.int .i64 0, .int .i64 0, .int .i64 0] 73)).setRow w4.heap.size #[.int .i64 ek, .int .i64 ck, .int .i64 sk])) := ⟨below_setRow ((Below.refl _ _).alloc (Nat.le_refl _) _) (Nat.le_refl _) _⟩
      have H5 := Hd.mk (H4.out.keep HB5.out)
      have HR5 : Hd (((w4.alloc (.cells #[.int .i64 0, .int .i64 0, .int .i64 0] 73)).setRow w4.heap.size #[.int .i64 ek, .int .i64 ck, .int .i64 sk]).heap[w4.heap.size]? = some (.cells #[.int .i64 ek, .int .i64 ck, .int .i64 sk] 73 (0, 0))) := ⟨setRow_heap _ _ _ _ _ _ HA4.out⟩
      have e0 : ((w4.alloc (.cells #[.int .i64 0, .int .i64 0, .int .i64 0] 73)).setRow w4.heap.size #[.int .i64 ek, .int .i64 ck, .int .i64 sk]).cell? ⟨w4.heap.size, 0, none⟩ = some (.int .i64 ek) := by rw [cell_of_row _ _ _ _ _ _ HR5.out]; rfl
      have e1 : ((w4.alloc (.cells #[.int .i64 0, .int .i64 0, .int .i64 0] 73)).setRow w4.heap.size #[.int .i64 ek, .int .i64 ck, .int .i64 sk]).cell? ⟨w4.heap.size, 1, none⟩ = some (.int .i64 ck) := by rw [cell_of_row _ _ _ _ _ _ HR5.out]; rfl
      have e2 : ((w4.alloc (.cells #[.int .i64 0, .int .i64 0, .int .i64 0] 73)).setRow w4.heap.size #[.int .i64 ek, .int .i64 ck, .int .i64 sk]).cell? ⟨w4.heap.size, 2, none⟩ = some (.int .i64 sk) := by rw [cell_of_row _ _ _ _ _ _ HR5.out]; rfl
      have HN5 : Hd (((w4.alloc (.cells #[.int .i64 0, .int .i64 0, .int .i64 0] 73)).setRow w4.heap.size #[.int .i64 ek, .int .i64 ck, .int .i64 sk]).heap.size = w4.heap.size + 1) := ⟨by simp⟩
      rcases q : (kd == 2) with _ | _
      · have HK : Hd ((S k).kind ≠ 2) := ⟨by rw [HX.out.2]; simpa using q⟩
        go_wp2_with (refine wpList_store_row rfl 73 (.tmp 7) (.tmp 21) rfl w4.heap.size #[.int .i64 ek, .int .i64 ck, .int .i64 sk] rfl rfl 73 #[.int .i64 0, .int .i64 0, .int .i64 0] HA4.out infoW rfl (by simp [Value.oneCell']) ?_)
        go_roundw
        case rel => exact ⟨k + 1, by omega, by go_num, f, H5.out.skip HK.out⟩
        case measure => simp [intOf]; omega
      · have e_q := eq_of_beq q
        subst e_q
        clear q
        have HK : Hd ((S k).kind = 2) := ⟨HX.out.2⟩
        have HE : Hd (wrOf (S k) = (ek, ck, sk)) := ⟨HX.out.1⟩
        have HWr : Hd (WrOk (ek, ck, sk)) := ⟨HE.out ▸ HW.out⟩
        clear HX HW
        obtain ⟨m, hm⟩ : ∃ m, (plc S (ek, ck, sk) k).length = m := ⟨_, rfl⟩
        obtain ⟨A1, c1, hf, _, _⟩ := own_form (H5.out.rows (ek, ck, sk))
        rw [hm] at hf
        have HF := Hd.mk hf
        have HP := Hd.mk hm
        have hmk : m ≤ k := hm ▸ plc_le _ _ _
        have hkm : Hd (k < maxLen) := ⟨by unfold maxLen; omega⟩
        have h63 : Hd (m + 1 ≤ maxLen) := ⟨by unfold maxLen; omega⟩
        have hby : Hd ((m + 1) * 8 ≤ 140737488355328) := ⟨by omega⟩
        clear hf hm
        rcases Nat.eq_zero_or_pos m with h0 | h0
        · subst h0
          obtain ⟨L, hL⟩ : ∃ L, wrs S k = L := ⟨_, rfl⟩
          have hLk : L.length ≤ k := hL ▸ wrs_le S k
          have HL := Hd.mk hL
          rw [hL] at H5 H4
          clear hL
          have h64 : Hd (L.length + 1 ≤ maxLen) := ⟨by unfold maxLen; omega⟩
          have hbz : Hd ((L.length + 1) * 48 ≤ 140737488355328) := ⟨by omega⟩
          have hbs : Hd (w.heap.size + 1 ≤ ((w4.alloc (.cells #[.int .i64 0, .int .i64 0, .int .i64 0] 73)).setRow w4.heap.size #[.int .i64 ek, .int .i64 ck, .int .i64 sk]).heap.size) := ⟨H5.out.big⟩
          have hj5 : Hd (w4.heap.size < ((w4.alloc (.cells #[.int .i64 0, .int .i64 0, .int .i64 0] 73)).setRow w4.heap.size #[.int .i64 ek, .int .i64 ck, .int .i64 sk]).heap.size) := ⟨by rw [HN5.out]; omega⟩
          go_wp2_with (first
            | (refine at_store ?_; refine wpList_store_row rfl 73 (.tmp 7) (.tmp 21) rfl w4.heap.size #[.int .i64 ek, .int .i64 ck, .int .i64 sk] rfl rfl 73 #[.int .i64 0, .int .i64 0, .int .i64 0] HA4.out infoW rfl (by simp [Value.oneCell']) ?_)
            | (refine at_lookup ?_; refine wpList_look rfl (.tmp 25) (.tmp 26) rfl w.heap.size k f rfl (ek, ck, sk) rfl H5.out.map HWr.out _ HF.out ?_)
            | (at_builtin; refine pushN_at0 elG rfl (.tmp 30) (.tmp 36) rfl (w.heap.size + 1) u4 L.length (flatW L) [.int .i64 ek, .int .i64 ck, .int .i64 sk, .slice none 0 0] rfl (w4.heap.size + 1) HN5.out rfl rfl (enc_one _ _ _) H5.out.out h64.out hbz.out hbs.out ?_; intro v2 w6 hO2; have H6 := Hd.mk (H5.out.more (ek, ck, sk) hO2))
            | (refine at_load ?_; refine wpList_load_row rfl 73 (.tmp 7) rfl w4.heap.size rfl 73 #[.int .i64 ek, .int .i64 ck, .int .i64 sk] (0, 0) _ ((hO2.block hj5.out (own_top H4.out.out)).trans HR5.out) Try.underlying73 rfl infoW ?_)
            | (refine at_mapEntry ?_; refine wpList_mapEntry rfl (.tmp 38) (.tmp 39) rfl w.heap.size k f rfl (ek, ck, sk) rfl (H6.out.map.keep (Go.Deep.blk_alloc_lt _ _ _ H6.out.big)) hkm.out HWr.out _ HF.out ?_; intro st w7 hE)
            | (at_builtin; refine wpList_app elI rfl (.tmp 40) (.tmp 42) rfl (w.heap.size + 1) (.slice A1 0 c1) 0 (iz (plc S (ek, ck, sk) k)) rfl (H6.out.own7 HF.out HP.out hE.out) (w6.heap.size + 1) (some ⟨w6.heap.size, 0, none⟩) 1 1 [.int .i64 (k : Int)] rfl (H6.out.lit7 rfl hE.out) (by simp [Value.oneCell']) h63.out hby.out (H6.out.base7 hE.out) ?_; intro v3 w8 hO3)
            | (refine at_entryStore ?_; refine wpList_entryStore rfl (.tmp 38) (.tmp 45) (.tmp 44) rfl w.heap.size k f rfl st rfl v3 rfl hE.out (hO3.block' (H6.out.base7 hE.out) (own_ne (H6.out.own7 HF.out HP.out hE.out) (by omega))) ?_; intro w9 hM))
          go_roundw
          case rel =>
            refine ⟨k + 1, by omega, by go_num, _, (H6.out.round' HK.out HE.out HF.out HP.out hE.out hO3 hM.out).cast ?_⟩
            rw [wrs_new HK.out (by rw [HE.out]; exact List.eq_nil_of_length_eq_zero HP.out), HL.out, HE.out]
          case measure => simp [intOf]; omega
        · have q0 : (((m : Nat) : Int) == 0) = false := by simp; omega
          go_wp2_with (first
            | (refine at_store ?_; refine wpList_store_row rfl 73 (.tmp 7) (.tmp 21) rfl w4.heap.size #[.int .i64 ek, .int .i64 ck, .int .i64 sk] rfl rfl 73 #[.int .i64 0, .int .i64 0, .int .i64 0] HA4.out infoW rfl (by simp [Value.oneCell']) ?_)
            | (refine at_lookup ?_; refine wpList_look rfl (.tmp 25) (.tmp 26) rfl w.heap.size k f rfl (ek, ck, sk) rfl H5.out.map HWr.out _ HF.out ?_)
            | (refine at_mapEntry ?_; refine wpList_mapEntry rfl (.tmp 38) (.tmp 39) rfl w.heap.size k f rfl (ek, ck, sk) rfl (H5.out.map.keep (Go.Deep.blk_alloc_lt _ _ _ H5.out.big)) hkm.out HWr.out _ HF.out ?_; intro st w7 hE)
            | (at_builtin; refine wpList_app elI rfl (.tmp 40) (.tmp 42) rfl (w.heap.size + 1) (.slice A1 m c1) m (iz (plc S (ek, ck, sk) k)) rfl (H5.out.own7 HF.out HP.out hE.out) (w4.heap.size + 2) (some ⟨w4.heap.size + 1, 0, none⟩) 1 1 [.int .i64 (k : Int)] rfl (H5.out.lit7 HN5.out hE.out) (by simp [Value.oneCell']) h63.out hby.out (H5.out.base7 hE.out) ?_; intro v3 w8 hO3)
            | (refine at_entryStore ?_; refine wpList_entryStore rfl (.tmp 38) (.tmp 45) (.tmp 44) rfl w.heap.size k f rfl st rfl v3 rfl hE.out (hO3.block' (H5.out.base7 hE.out) (own_ne (H5.out.own7 HF.out HP.out hE.out) (by omega))) ?_; intro w9 hM))
          go_roundw
          case rel =>
            refine ⟨k + 1, by omega, by go_num, _, (H5.out.round' HK.out HE.out HF.out HP.out hE.out hO3 hM.out).cast (wrs_old ?_).symm⟩
            rw [HE.out]; intro e; have := HP.out; rw [e] at this; simp at this; omega
          case measure => simp [intOf]; omega
    · have hkn : k = n := by omega
      subst hkn
      go_wp2_with fail
      refine (sort_all _ _ _ _ _ rfl (by have := wrs_le S k; omega) H2.out.out).mono ?_
      rintro e w2 ⟨rfl, gl, hp, hs, ho, hgr⟩
      have H3 := Hd.mk (H2.out.sorted hp hs ho hgr)
      have hlen : gl.length ≤ k := by rw [hp.length_eq]; exact wrs_le S k
      have hwr : Hd (∀ x ∈ gl, WrOk x) := ⟨fun x hx => by
        obtain ⟨i, hi, rfl⟩ := wrs_src S x k (hp.mem_iff.1 hx)
        obtain ⟨_, _, _, _, _, hok⟩ := HH.out.1 i hi
        exact hok.wr⟩
      clear hp hs ho hgr H2
      obtain ⟨A9, c9, hv9, _, _⟩ := ownN_form H3.out.out
      rw [hv9] at H3 ⊢
      clear hv9
      go_wp2_with fail
      go_loopw [51] (fun i wr => ∃ j : Nat, j ≤ gl.length ∧ i = .int .i64 (j : Int) ∧ GOut w wr S k f (.slice A9 gl.length c9) gl j) (fun i _ => gl.length - (intOf i).toNat)
      case atStart => exact ⟨0, by omega, rfl, H3.out⟩
      case round =>
        clear H3
        obtain ⟨j, hj, rfl, hO⟩ := hrel
        have H4 := Hd.mk hO
        clear hO
        by_cases hlt : j < gl.length
        · have hji : (j : Int) < (gl.length : Int) := by omega
          obtain ⟨ek, ck, sk, hx⟩ : ∃ a b c, gl.getD j (0, 0, 0) = (a, b, c) := ⟨_, _, _, rfl⟩
          have hxm : (ek, ck, sk) ∈ gl := by rw [← hx, List.getD_eq_getElem?_getD, List.getElem?_eq_getElem hlt]; exact List.getElem_mem hlt
          have HWr := Hd.mk (hwr.out _ hxm)
          obtain ⟨g, rfl⟩ : ∃ g, A9 = some ⟨g, 0, none⟩ := by
            rcases H4.out.out.2 with ⟨hv, h0⟩ | ⟨g, _, _, hv, _⟩
            · omega
            · injection hv with hA; exact ⟨g, hA⟩
          have c0 := (own_cell H4.out.out (j * 4 + 0) (.int .i64 ek) (by rw [flatG_get _ _ _ _ hlt (by omega), hx]; rfl)).1
          have c1 := (own_cell H4.out.out (j * 4 + 1) (.int .i64 ck) (by rw [flatG_get _ _ _ _ hlt (by omega), hx]; rfl)).1
          have c2 := (own_cell H4.out.out (j * 4 + 2) (.int .i64 sk) (by rw [flatG_get _ _ _ _ hlt (by omega), hx]; rfl)).1
          obtain ⟨c3, f3⟩ := own_cell H4.out.out (j * 4 + 3) (.slice none 0 0) (by rw [flatG_get _ _ _ _ hlt (by omega), hx]; rfl)
          rw [Nat.add_zero] at c0
          have HX := Hd.mk hx
          obtain ⟨A1, c1', hf, _, _⟩ := own_form (H4.out.rows (ek, ck, sk))
          have HF := Hd.mk hf
          clear hx hxm hf
          go_wp2_with fail
          refine wp_region_still_tail 17 (by kernel_rfl) (by kernel_rfl) ?_
          simp only [List.take_succ_cons, List.take_zero, List.drop_succ_cons, List.drop_zero]
          repeat still_step
          refine wpStill_look rfl (.tmp 56) (.tmp 67) rfl w.heap.size k f rfl (ek, ck, sk) rfl (H4.out.drew.map) HWr.out _ HF.out ?_
          repeat still_step
          refine wpStill_nil ?_
          change wpList _ _ _ _ _ wr.drew
          go_wp2_with fail
          go_roundw
          case rel =>
            refine ⟨j + 1, by omega, by go_num, ?_⟩
            rw [← HF.out]
            exact H4.out.drew.step hlt HX.out
          case measure => simp [intOf]; omega
        · have hjn : j = gl.length := by omega
          subst hjn
          go_wp2_with fail
          go_ret
          exact ⟨_, _, _, rfl, H4.out⟩
end Go.Proofs.Ytplpaipmkpjgfaa
