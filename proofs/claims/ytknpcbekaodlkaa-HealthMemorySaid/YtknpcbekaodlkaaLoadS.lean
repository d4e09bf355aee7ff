/- Contract of Load. -/
import Derived.Test.YtknpcbekaodlkaaTakeS
namespace Go.Proofs.Ytknpcbekaodlkaa
open Go.RowKit
set_option linter.unusedVariables false
/-- What Load answers of the bytes. -/
def Loaded (w : World) (bs : List Nat) (e : Ending) (w' : World) : Prop :=
  Below w.heap.size w w' ∧ ((loadP bs = none ∧ e = .returned (.tuple #[.pointer none, .int .i64 2])) ∨
    ∃ K ss b h cap, loadP bs = some (K, ss) ∧ e = .returned (.tuple #[.pointer (some ⟨b, 0, none⟩), .int .i64 0]) ∧ Brd w' w.heap.size b h cap K ss)
theorem Loaded.none {w w' : World} {bs : List Nat} (hb : Below w.heap.size w w') (h : loadP bs = none) : Loaded w bs (.returned (.tuple #[.pointer none, .int .i64 2])) w' := ⟨hb, .inl ⟨h, rfl⟩⟩
theorem loadP_shape {bs : List Nat} (h : shapeP bs = false) : loadP bs = none := by unfold loadP; rw [if_pos h]
theorem loadP_score {bs : List Nat} (k : Nat) (hk : k < bs.getD 0 0) (h : ¬ scoreP bs k ≤ one32) : loadP bs = none := by
  unfold loadP
  split
  · rfl
  · have : scoresOk bs (bs.getD 0 0) = false := by
      rcases h0 : scoresOk bs (bs.getD 0 0)
      · rfl
      · unfold scoresOk at h0
        have := List.all_eq_true.1 h0 (scoreP bs k) (by unfold scoresP; exact List.mem_map.2 ⟨k, List.mem_range.2 hk, rfl⟩)
        exact absurd (of_decide_eq_true this) h
    rw [if_pos this]
theorem loadP_keep {bs : List Nat} (h : keepOk (takeP (bs.drop 1)) = false) : loadP bs = none := by
  unfold loadP
  split
  · rfl
  · split
    · rfl
    · rfl
theorem loadP_all {bs : List Nat} (h1 : shapeP bs = true) (h2 : ∀ k, k < bs.getD 0 0 → scoreP bs k ≤ one32) (h3 : keepOk (takeP (bs.drop 1)) = true) : loadP bs = some (takeP (bs.drop 1), scoresP bs (bs.getD 0 0)) := by
  unfold loadP
  have : scoresOk bs (bs.getD 0 0) = true := by
    unfold scoresOk
    rw [List.all_eq_true]
    intro s hs
    unfold scoresP at hs
    obtain ⟨k, hk, rfl⟩ := List.mem_map.1 hs
    exact decide_eq_true (h2 k (List.mem_range.1 hk))
  rw [if_neg (by rw [h1]; decide), if_neg (by rw [this]; decide), if_neg (by rw [h3]; decide)]
theorem Rd.from_ {w : World} {B n : Nat} {A : Option Addr} {bs : List Nat} (hr : Rd w B A n (cb bs)) {c l : Nat} (hl : l ≤ n) (hn : n ≤ c) : Rd w B (cutA A c l) (n - l) (cb (bs.drop l)) := by
  have h := hr.cut (l := l) (h := n) hl (Nat.le_refl _) hn
  have e : ((cb bs).drop l).take (n - l) = cb (bs.drop l) := by
    rw [List.take_of_length_le (by rw [List.length_drop, hr.1]; exact Nat.le_refl _)]
    unfold cb; rw [List.map_drop]
  rwa [e] at h
theorem cutA_some {g off c l : Nat} (h : l < c) (h0 : 0 < l) : cutA (some ⟨g, off, none⟩) c l = some ⟨g, off + l, none⟩ := by
  unfold cutA
  rw [if_neg (by omega)]
  simp only [Option.map_some, Addr.add]
  split
  · rename_i h; omega
  · rfl
theorem grown_set (w : World) (a : Addr) (u : Value) : w.grownBy (w.setCell a u) (some a.block) :=
  ⟨rfl, rfl, rfl, by simp [World.setCell], fun k hk hne => Go.Deep.blk_setCell_other w a u k fun h => hne (by rw [h])⟩
set_option maxRecDepth 20000 in
set_option maxHeartbeats 2000000 in
theorem load_no (w : World) (B n c : Nat) (A : Option Addr) (bs : List Nat) (hr : Rd w B A n (cb bs)) (hb : ∀ y ∈ bs, y < 256) (hB : B ≤ w.heap.size) (hc : n ≤ c) (hs : shapeP bs = false) :
    Calls Try.prog 27 #[.slice A n c] w (Loaded w bs) := by
  have hl : bs.length = n := by have := hr.1; rwa [cb_length] at this
  by_cases hn0 : n = 0
  · subst hn0
    have HN : Hd (loadP bs = none) := ⟨loadP_shape (by unfold shapeP; rw [hl]; rfl)⟩
    clear hr hb hl
    go_enter Try.func27, Try.ntmps27
    go_wp2_with fail
    go_ret2
    exact Loaded.none (Below.refl _ _) HN.out
  obtain ⟨g, off, rfl, hg, hcc⟩ := hr.2 (by omega)
  have c0 : w.cell? ⟨g, off, none⟩ = some (.int .u8 ((bs.getD 0 0 : Nat) : Int)) := by
    have := hcc 0 (by omega)
    rw [Nat.add_zero] at this
    rw [this]; exact cb_get bs 0 (by omega)
  have x1 := getD_lt hb 0
  obtain ⟨m, hm⟩ : ∃ m, bs.getD 0 0 = m := ⟨_, rfl⟩
  rw [hm] at c0 x1
  have HM : Hd (bs.getD 0 0 = m ∧ bs.length = n ∧ (∀ y ∈ bs, y < 256) ∧ Rd w B (some ⟨g, off, none⟩) n (cb bs)) := ⟨hm, hl, hb, hr⟩
  have hn1 : ((n : Int) == 0) = false := by simp; omega
  have HN : Hd (loadP bs = none) := ⟨loadP_shape hs⟩
  have hs2 : m = 0 ∨ n ≠ 5 + 4 * m := by
    unfold shapeP at hs
    rw [hm, hl] at hs
    rcases Nat.eq_zero_or_pos m with h | h
    · exact .inl h
    · right
      intro he
      rw [decide_eq_true (by omega), decide_eq_true (by omega), decide_eq_true he] at hs
      cases hs
  clear hs hm hl hb hr hcc
  by_cases hm0 : m = 0
  · subst hm0
    clear hs2
    go_enter Try.func27, Try.ntmps27
    go_wp2_with fail
    go_ret2
    exact Loaded.none (Below.refl _ _) HN.out
  · have hne : ((n : Int) != 5 + 4 * (m : Int)) = true := by simp; omega
    have hm1 : ((m : Int) == 0) = false := by simp; omega
    clear hs2
    go_enter Try.func27, Try.ntmps27
    go_wp2_with fail
    go_ret2
    exact Loaded.none (Below.refl _ _) HN.out
set_option maxRecDepth 20000 in
set_option maxHeartbeats 2000000 in
theorem load_ok (w : World) (B n c : Nat) (A : Option Addr) (bs : List Nat) (hr : Rd w B A n (cb bs)) (hb : ∀ y ∈ bs, y < 256) (hB : B ≤ w.heap.size) (hc : n ≤ c) (hs1 : shapeP bs = true) :
    Calls Try.prog 27 #[.slice A n c] w (Loaded w bs) := by
  have hl : bs.length = n := by have := hr.1; rwa [cb_length] at this
  have hn0 : ¬ n = 0 := by
    intro h
    unfold shapeP at hs1
    rw [hl, h] at hs1
    cases hs1
  obtain ⟨g, off, rfl, hg, hcc⟩ := hr.2 (by omega)
  have c0 : w.cell? ⟨g, off, none⟩ = some (.int .u8 ((bs.getD 0 0 : Nat) : Int)) := by
    have := hcc 0 (by omega)
    rw [Nat.add_zero] at this
    rw [this]; exact cb_get bs 0 (by omega)
  have x1 := getD_lt hb 0
  obtain ⟨m, hm⟩ : ∃ m, bs.getD 0 0 = m := ⟨_, rfl⟩
  rw [hm] at c0 x1
  have HM : Hd (bs.getD 0 0 = m ∧ bs.length = n ∧ (∀ y ∈ bs, y < 256) ∧ Rd w B (some ⟨g, off, none⟩) n (cb bs)) := ⟨hm, hl, hb, hr⟩
  have hs2 : 1 ≤ m ∧ n = 5 + 4 * m := by
    have h := hs1
    unfold shapeP at h
    rw [hm, hl, Bool.and_eq_true, Bool.and_eq_true, decide_eq_true_iff, decide_eq_true_iff, decide_eq_true_iff] at h
    omega
  obtain ⟨hm1, hnm⟩ := hs2
  have hnq : ((n : Int) != 5 + 4 * (m : Int)) = false := by simp; omega
  have hn5 : 9 ≤ n := by omega
  obtain ⟨K, hK⟩ : ∃ K, takeP (bs.drop 1) = K := ⟨_, rfl⟩
  have HK : Hd (takeP (bs.drop 1) = K ∧ K < 2 ^ 32 ∧ shapeP bs = true) := ⟨hK, by rw [← hK]; exact take_lt (fun y hy => hb y (List.mem_of_mem_drop hy)), hs1⟩
  have hm0 : ((m : Int) == 0) = false := by simp; omega
  have hq0 : ((n : Int) == 0) = false := by simp; omega
  have HN := Hd.mk hnm
  clear hs1 hm hl hb hr hcc hK hn0 hnm
  go_enter Try.func27, Try.ntmps27
  have ht := take_any w B (n - 1) (c - 1) _ (bs.drop 1) (HM.out.2.2.2.from_ (l := 1) (by omega) hc) (fun y hy => HM.out.2.2.1 y (List.mem_of_mem_drop hy)) (by omega)
  rw [HK.out.1, cutA_some (by omega) (by omega)] at ht
  have HT := Hd.mk ht
  clear ht
  go_wp2_with fail
  refine HT.out.mono ?_
  rintro e w1 ⟨rfl, rfl⟩
  go_wp2_with fail
  go_loopw [5, 6] (fun r _ wr => ∃ (k : Nat) (A1 : Option Addr) (n1 c1 : Nat) (s : Value), k ≤ m ∧ r = .slice A1 n1 c1 ∧ n1 = 4 * (m - k) ∧ n1 ≤ c1 ∧ Rd wr B A1 n1 (cb (bs.drop (5 + 4 * k))) ∧ (∀ q, q < k → scoreP bs q ≤ one32) ∧
      wr.ownsRow (w1.heap.size + 1) 58 1 s k (ff (scoresP bs k)) ∧ wr.heap[w1.heap.size]? = some (.cells #[.float .f32 K, s] 61 (0, 0)) ∧ Below w1.heap.size w1 wr) (fun r _ _ => match r with | .slice _ q _ => q | _ => 0)
  case atStart =>
    refine ⟨0, some ⟨g, off + 5, none⟩, n - 5, c - 5, .slice none 0 0, by omega, rfl, by have := HN.out; omega, by omega, ?_, fun q hq => by omega, World.ownsRow_nil _ _ _ _, Go.Deep.blk_alloc_new _ _, (Below.refl _ _).alloc (Nat.le_refl _) _⟩
    have h := HM.out.2.2.2.from_ (l := 5) (by omega) hc
    rw [cutA_some (by omega) (by omega)] at h
    exact h.alloc hB _
  case round =>
    obtain ⟨k, A1, n1, c1, s, hk, rfl, hn1, hc1, hrd, hq, hown, hblk, hbl⟩ := hrel
    have HL := Hd.mk (And.intro hrd (And.intro hq (And.intro hown (And.intro hblk hbl))))
    have d0 : wr.cell? ⟨w1.heap.size, 0, none⟩ = some (.float .f32 K) := by rw [cell_of_row _ _ _ _ _ _ hblk]; rfl
    have d1 : wr.cell? ⟨w1.heap.size, 1, none⟩ = some s := by rw [cell_of_row _ _ _ _ _ _ hblk]; rfl
    have hsz := hbl.size
    have hbn : w1.heap.size < wr.heap.size := (Array.getElem?_eq_some_iff.1 hblk).1
    clear hrd hq hown hblk hbl c0 hm0 hq0 hnq
    by_cases hlt : k < m
    · have hx := take_any wr B n1 c1 A1 (bs.drop (5 + 4 * k)) HL.out.1 (fun y hy => HM.out.2.2.1 y (List.mem_of_mem_drop hy)) (by omega)
      have hxl : scoreP bs k < 2 ^ 32 := take_lt (fun y hy => HM.out.2.2.1 y (List.mem_of_mem_drop hy))
      have hn4 : 4 ≤ n1 := by omega
      have HX : Hd (∀ x, scoreP bs k = x → Calls Try.prog 47 #[.slice A1 n1 c1] wr fun e w' => e = .returned (.float .f32 x) ∧ w' = wr) := ⟨fun x h => by rw [← h]; exact hx⟩
      clear hx
      obtain ⟨x, hxe⟩ : ∃ x, scoreP bs k = x := ⟨_, rfl⟩
      rw [hxe] at hxl
      have HE := Hd.mk (And.intro hxe hxl)
      have HX2 := Hd.mk (HX.out x hxe)
      clear hxe hxl HX
      have HN1 := Hd.mk hn1
      clear hn1
      go_wp2_with fail
      refine HX2.out.mono ?_
      rintro e w2 ⟨rfl, rfl⟩
      rcases h1 : (FloatKind.f32.format.order x 0 == some .gt || FloatKind.f32.format.order x 0 == some .eq) with _ | _
      · have HZ : Hd (loadP bs = none) := ⟨loadP_score k (by rw [HM.out.1]; exact hlt) (by rw [HE.out.1]; intro h; have := ge32 h; rw [show FloatKind.f32.format = Ieee.single from rfl] at h1; rw [h1] at this; cases this)⟩
        go_wp2_with fail
        go_ret2
        exact Loaded.none HL.out.2.2.2.2 HZ.out
      · rcases h2 : (FloatKind.f32.format.order x 1065353216 == some .lt || FloatKind.f32.format.order x 1065353216 == some .eq) with _ | _
        · have HZ : Hd (loadP bs = none) := ⟨loadP_score k (by rw [HM.out.1]; exact hlt) (by rw [HE.out.1]; intro h; have := le32 h; rw [show FloatKind.f32.format = Ieee.single from rfl] at h2; rw [show Ieee.single.order x one32 = Ieee.single.order x 1065353216 from rfl, h2] at this; cases this)⟩
          go_wp2_with fail
          go_ret2
          exact Loaded.none HL.out.2.2.2.2 HZ.out
        · rcases good32 HE.out.2 h1 h2 with hx | hx
          · have e1 := fun W => run_widen (P := Try.prog) W 58 24 (by rw [Try.underlying58]; rfl) Try.underlying24 (Nat.lt_of_le_of_lt hx one_inf32)
            have hu := up_le_one hx
            have HU : Hd (Calls Try.prog 48 #[.float .f64 (up x)] w2 fun e w' => e = .returned (.bool false) ∧ w' = w2) := ⟨signbit_any w2 (up x) (Nat.lt_of_le_of_lt hu (by decide)) false (by unfold ms64 one64 at *; symm; apply decide_eq_false; omega)⟩
            have HX3 := Hd.mk hx
            clear hx hu
            go_wp2_with fail
            refine HU.out.mono ?_
            rintro e w3 ⟨rfl, rfl⟩
            have h63 : Hd (k + 1 ≤ maxLen) := ⟨by unfold maxLen; omega⟩
            have hby : Hd ((k + 1) * 4 ≤ 140737488355328) := ⟨by omega⟩
            have hbs : Hd (w1.heap.size + 1 ≤ w3.heap.size) := ⟨by omega⟩
            have s4 := fun W => run_cut_from (P := Try.prog) (w := W) elB A1 n1 c1 4 (by omega)
            go_wp2_with (refine wpList_push elF32 rfl rfl (.tmp 57) (.tmp 58) 59 rfl rfl rfl (w1.heap.size + 1) s k (ff (scoresP bs k)) _ rfl rfl rfl rfl HL.out.2.2.1 h63.out hby.out hbs.out ?_; intro v2 w4 hO2
                         obtain ⟨A2, c2, rfl, hc2, _⟩ := own_form hO2.own
                         have hb4 : w4.heap[w1.heap.size]? = some (.cells #[.float .f32 K, s] 61 (0, 0)) := by rw [(hO2.below (B := w1.heap.size + 1) (fun q hq => (HL.out.2.2.1.lt q hq).1) hbs.out).block _ (by omega)]; exact HL.out.2.2.2.1
                         have q1 : w4.cell? ⟨w1.heap.size, 1, none⟩ = some s := by rw [cell_of_row _ _ _ _ _ _ hb4]; rfl
                         have q2 : w4.frozen? ⟨w1.heap.size, 1, none⟩ = false := by simp [World.frozen?, hb4]
                         have H5 := Hd.mk (And.intro hO2 hb4); clear hO2 hb4)
            go_roundw
            case rel =>
              have hown5 := H5.out.1.own
              refine ⟨k + 1, _, _, _, .slice A2 (k + 1) c2, by omega, rfl, by have := HN1.out; omega, by omega, ?_, ?_, ?_, ?_, ?_⟩
              · have h := HL.out.1.from_ (l := 4) (by omega) (by omega)
                rw [List.drop_drop, show 5 + 4 * k + 4 = 5 + 4 * (k + 1) by omega] at h
                exact (h.below ((H5.out.1.below (B := w1.heap.size + 1) (fun q hq => (HL.out.2.2.1.lt q hq).1) hbs.out).mono (by omega))).setCell hB _
              · intro q hq
                rcases Nat.lt_or_ge q k with h | h
                · exact HL.out.2.1 q h
                · rw [show q = k by omega, HE.out.1]; exact HX3.out
              · rw [scoresP_next, ff_append, HE.out.1]
                refine hown5.kept (grown_set w4 ⟨w1.heap.size, 1, none⟩ _) (.inr ?_)
                intro h
                have := (hown5.lt w1.heap.size h).1
                omega
              · simp [World.setCell, Array.getElem?_modify, H5.out.2]
              · exact ((HL.out.2.2.2.2.trans ((H5.out.1.below (B := w1.heap.size + 1) (fun q hq => (HL.out.2.2.1.lt q hq).1) hbs.out).mono (by omega)))).setCell (Nat.le_refl _) _
            case measure => simp; omega
          · subst hx
            have HZ : Hd (loadP bs = none) := ⟨loadP_score k (by rw [HM.out.1]; exact hlt) (by rw [HE.out.1]; decide)⟩
            have e1 := fun W => run_widen_m (P := Try.prog) W 58 24 (by rw [Try.underlying58]; rfl) Try.underlying24
            have HU : Hd (Calls Try.prog 48 #[.float .f64 (ms64 + up 0)] w2 fun e w' => e = .returned (.bool true) ∧ w' = w2) := ⟨signbit_any w2 (ms64 + up 0) (by rw [up_zero]; decide) true (by symm; apply decide_eq_true; omega)⟩
            generalize ms64 + up 0 = y at *
            generalize ms32 = x at *
            go_wp2_with fail
            refine HU.out.mono ?_
            rintro e w3 ⟨rfl, rfl⟩
            go_wp2_with fail
            go_ret2
            exact Loaded.none HL.out.2.2.2.2 HZ.out
    · have hkm : k = m := by omega
      subst hkm
      have hn10 : n1 = 0 := by omega
      subst hn10
      clear hn1
      go_wp2_with fail
      refine (lawful_gen wr w1.heap.size K HK.out.2.1 d0).mono ?_
      rintro e w2 ⟨rfl, rfl⟩
      rcases hk0 : keepOk K with _ | _
      · go_wp2_with fail
        go_ret2
        exact Loaded.none HL.out.2.2.2.2 (loadP_keep (by rw [HK.out.1]; exact hk0))
      · go_wp2_with fail
        go_ret2
        obtain ⟨h, cap, rfl, hh1, hh2⟩ := own_pos HL.out.2.2.1 (by omega)
        refine ⟨HL.out.2.2.2.2, .inr ⟨K, scoresP bs k, w1.heap.size, h, cap, ?_, rfl, ?_⟩⟩
        · have := loadP_all HK.out.2.2 (by rw [HM.out.1]; exact HL.out.2.1) (by rw [HK.out.1]; exact hk0)
          rw [this, HK.out.1, HM.out.1]
        · refine ⟨Nat.le_refl _, by omega, ?_, ?_⟩
          · rw [scoresP_len]; exact HL.out.2.2.2.1
          · rw [scoresP_len]
            refine ⟨HL.out.2.2.1.1, ?_⟩
            rcases HL.out.2.2.1.2 with h1 | ⟨g1, cap1, cur, hv, hb1, rest⟩
            · exact .inl h1
            · exact .inr ⟨g1, cap1, cur, hv, by omega, rest⟩
theorem load_any (w : World) (B n c : Nat) (A : Option Addr) (bs : List Nat) (hr : Rd w B A n (cb bs)) (hb : ∀ y ∈ bs, y < 256) (hB : B ≤ w.heap.size) (hc : n ≤ c) :
    Calls Try.prog 27 #[.slice A n c] w (Loaded w bs) := by
  rcases h : shapeP bs with _ | _
  · exact load_no w B n c A bs hr hb hB hc h
  · exact load_ok w B n c A bs hr hb hB hc h
end Go.Proofs.Ytknpcbekaodlkaa
