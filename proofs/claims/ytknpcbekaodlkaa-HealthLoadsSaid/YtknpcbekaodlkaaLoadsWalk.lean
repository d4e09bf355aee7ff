/- The walk of HealthLoads: it returns true for every input. -/
import Derived.Test.YtknpcbekaodlkaaSeenC
namespace Go.Proofs.Ytknpcbekaodlkaa
open Go.RowKit
set_option linter.unusedVariables false
set_option linter.unusedSimpArgs false
/-- What was lent, underway. -/
def Lt (w wr : World) (g n cap : Nat) (bs : List Nat) : Prop :=
  wr.ownsRow w.heap.size 5 1 (.slice (some ⟨g, 0, none⟩) (n + 64) cap) (n + 64) (cb (bs ++ marks)) ∧ Below w.heap.size w wr ∧ bs.length = n ∧ (∀ y ∈ bs, y < 256)
section
variable {w wr w' : World} {g n cap : Nat} {bs : List Nat}
theorem Lt.keep (H : Lt w wr g n cap bs) (b : Below wr.heap.size wr w') : Lt w w' g n cap bs := ⟨own_belowH H.1 b, H.2.1.trans (b.mono H.2.1.size), H.2.2⟩
theorem Lt.rd (H : Lt w wr g n cap bs) : Rd wr wr.heap.size (some ⟨g, 0, none⟩) n (cb bs) := by
  have h := (Rd.of_own H.1).take (h := n) (by omega)
  rw [cb, ← List.map_take, List.take_left' H.2.2.1] at h
  exact h
theorem Lt.lt (H : Lt w wr g n cap bs) : w.heap.size ≤ g ∧ g < wr.heap.size := H.1.lt g rfl
theorem Lt.cell (H : Lt w wr g n cap bs) {i : Nat} (hi : i < n) : wr.cell? ⟨g, i, none⟩ = some (.int .u8 ((bs.getD i 0 : Nat) : Int)) := by
  have hcc := H.1.cellAt i (by omega)
  rwa [cb_append, List.getElem?_append_left (by rw [cb_length, H.2.2.1]; exact hi), cb_get _ _ (by rw [H.2.2.1]; exact hi)] at hcc
theorem Lt.set (H : Lt w wr g n cap bs) {i z : Nat} (hi : i < n) (hz : z < 256) : Lt w (wr.setCell ⟨g, i, none⟩ (.int .u8 (z : Int))) g n cap (bs.set i z) ∧ wr.grownBy (wr.setCell ⟨g, i, none⟩ (.int .u8 (z : Int))) (some g) := by
  have hst := H.1.stored i (.int .u8 (z : Int))
  have hset : (cb (bs ++ marks)).set i (.int .u8 (z : Int)) = cb (bs.set i z ++ marks) := by
    rw [cb_append, cb_append, List.set_append_left _ _ (by rw [cb_length, H.2.2.1]; exact hi)]; unfold cb; rw [List.map_set]; rfl
  rw [hset] at hst
  refine ⟨⟨hst.1, H.2.1.setCell H.lt.1 _, by rw [List.length_set]; exact H.2.2.1, fun x hx => ?_⟩, hst.2⟩
  rcases List.mem_or_eq_of_mem_set hx with h | h
  · exact H.2.2.2 x h
  · rw [h]; exact hz
end
theorem xor_byte (a i : Nat) (ha : a < 256) : ∃ z : Nat, z < 256 ∧ bits .xor .u8 (a : Int) ((i : Int) % 256) = (z : Int) := by
  have e : (i : Int) % 256 = ((i % 256 : Nat) : Int) := by omega
  rw [e]
  exact ⟨a ^^^ (i % 256), Nat.xor_lt_two_pow (n := 8) ha (by omega), u8_xor_nat a (i % 256) ha (by omega)⟩
set_option maxRecDepth 20000 in
set_option maxHeartbeats 4000000 in
theorem loads_walk (a : Option Addr) (len cap : Nat) (z : List Int) (w : World) (wa : IsRow .u8 w a len cap z) (hcap : cap * 1 ≤ 140737488351232) :
    Calls Try.prog 7 #[.slice a len cap] w fun e w' => e = .returned (.bool true) ∧ Below w.heap.size w w' := by
  obtain ⟨l, hr, hl, hll, hlc⟩ := wa.bytes
  have hr2 := hr.take hlc
  have hr3 : Rd w w.heap.size a len (cb (l.take len)) := by rw [cb, List.map_take]; exact hr2
  have HH : Hd ((∀ x ∈ l.take len, x < 256) ∧ (l.take len).length = len) := ⟨fun x hx => hl x (List.mem_of_mem_take hx), by have := hr3.1; rwa [cb_length] at this⟩
  have HR := Hd.mk hr3
  have hlen : len ≤ 140737488351232 := by omega
  clear hr hl hll hr2 wa hr3 hcap
  generalize l.take len = bs0 at *
  go_enter Try.func7, Try.ntmps7
  go_wp2_with fail
  refine (lent_any w a len cap w.heap.size bs0 HR.out (by omega) (Nat.le_refl _)).mono ?_
  rintro e w1 ⟨g, cp, rfl, ho1, hb1, hg1, hg2, hc1⟩
  have H1 : Hd (Lt w w1 g len cp bs0) := ⟨ho1, hb1, HH.out.2, HH.out.1⟩
  clear ho1 hb1 hg1 hg2 hlc HR HH
  generalize len = n at *
  go_wp2_with fail
  go_loopw [4] (fun t wr => ∃ (k : Nat) (bs : List Nat), k ≤ 2 ∧ t = .int .i64 (k : Int) ∧ Lt w wr g n cp bs) (fun t _ => 2 - (intOf t).toNat)
  case atStart => exact ⟨0, bs0, by omega, rfl, H1.out⟩
  case round =>
    clear H1
    obtain ⟨k, bs, hk, rfl, hO⟩ := hrel
    have H2 := Hd.mk hO
    have hsz := hO.2.1.size
    have hgl := hO.lt
    clear hO
    by_cases hk2 : k < 2
    · have hki : (k : Int) < 2 := by omega
      have h63 : Hd (0 + n ≤ maxLen) := ⟨by unfold maxLen; omega⟩
      have hby : Hd ((0 + n) * 1 ≤ 140737488355328) := ⟨by omega⟩
      go_wp2_with (refine wpList_app elB rfl (.const (.slice none 0 0)) (.tmp 17) rfl wr.heap.size (.slice none 0 0) 0 [] rfl (World.ownsRow_nil ..) wr.heap.size (some ⟨g, 0, none⟩) n cp (cb bs) rfl H2.out.rd (cb_one bs) h63.out hby.out (Nat.le_refl _) ?_; intro v2 w2 hO2)
      have H3 : Hd (Lt w w2 g n cp bs ∧ w2.ownsRow wr.heap.size 5 1 v2 n (cb bs)) := ⟨H2.out.keep (hO2.below (fun k hk => by cases hk) (Nat.le_refl _)), by have := hO2.own; simpa using this⟩
      clear hO2 h63 hby H2
      obtain ⟨A2, c2, rfl, hc2, _⟩ := own_form H3.out.2
      have HR2 := Hd.mk (Rd.of_own H3.out.2)
      go_wp2_with fail
      refine (refload_any w2 w2.heap.size n c2 A2 bs HR2.out H3.out.1.2.2.2 (Nat.le_refl _) hc2).mono ?_
      rintro e w3 ⟨hb3, ⟨hno, rfl⟩ | ⟨K, ss, h2, cap2, hld, rfl, hV⟩⟩
      · have H3' : Hd (Lt w w3 g n cp bs ∧ Rd w3 w3.heap.size A2 n (cb bs)) := ⟨H3.out.1.keep hb3, (HR2.out.below hb3).more hb3.size⟩
        clear H3 HR2 hb3
        go_wp2_with (refine wpList_store_row rfl 64 (.tmp 6) (.tmp 22) rfl w3.heap.size #[.float .f32 0, .slice none 0 0] rfl rfl 64 zB (heap_alloc_new _ _) infoBd rfl (bd_one ..) ?_)
        have H4 : Hd (Lt w ((w3.alloc (.cells #[.float .f32 0, .slice none 0 0] 64)).setRow w3.heap.size #[.float .f32 0, .slice none 0 0]) g n cp bs ∧ Rd ((w3.alloc (.cells #[.float .f32 0, .slice none 0 0] 64)).setRow w3.heap.size #[.float .f32 0, .slice none 0 0]) ((w3.alloc (.cells #[.float .f32 0, .slice none 0 0] 64)).setRow w3.heap.size #[.float .f32 0, .slice none 0 0]).heap.size A2 n (cb bs)) := by
          have hb : Below w3.heap.size w3 ((w3.alloc (.cells #[.float .f32 0, .slice none 0 0] 64)).setRow w3.heap.size #[.float .f32 0, .slice none 0 0]) := below_setRow ((Below.refl _ _).alloc (Nat.le_refl _) _) (Nat.le_refl _) _
          exact ⟨H3'.out.1.keep hb, (H3'.out.2.below hb).more hb.size⟩
        obtain ⟨w4, hw4⟩ : ∃ w4, ((w3.alloc (.cells #[.float .f32 0, .slice none 0 0] 64)).setRow w3.heap.size #[.float .f32 0, .slice none 0 0]) = w4 := ⟨_, rfl⟩
        rw [hw4] at H4 ⊢
        clear hw4 H3'
        refine (load_any w4 w4.heap.size n cp _ bs H4.out.1.rd H4.out.1.2.2.2 (Nat.le_refl _) (by omega)).mono ?_
        rintro e w5 ⟨hb5, ⟨_, rfl⟩ | ⟨K, ss, b, h, cap', hld, _, _⟩⟩
        · have H5 : Hd (Lt w w5 g n cp bs ∧ Rd w5 w5.heap.size A2 n (cb bs)) := ⟨H4.out.1.keep hb5, (H4.out.2.below hb5).more hb5.size⟩
          clear H4 hb5 hno
          go_wp2_with fail
          refine (unmarked_any w5 w.heap.size g n cp w5.heap.size A2 c2 bs H5.out.1.1 H5.out.2 (by omega) hc1).mono ?_
          rintro e w6 ⟨rfl, rfl⟩
          have H6 := Hd.mk H5.out.1
          clear H5
          go_wp2_with fail
          go_loopw [10] (fun i wr => ∃ (j : Nat) (bs2 : List Nat), j ≤ n ∧ i = .int .i64 (j : Int) ∧ Lt w wr g n cp bs2) (fun i _ => n - (intOf i).toNat)
          case atStart => exact ⟨0, bs, by omega, rfl, H6.out⟩
          case round =>
            clear H6
            obtain ⟨j, bs2, hj, rfl, hO⟩ := hrel
            have H6 := Hd.mk hO
            have hgl2 := hO.lt
            clear hO
            by_cases hjn : j < n
            · have hck := H6.out.cell hjn
              have hfz := H6.out.1.frozenAt j
              have hlt := getD_lt H6.out.2.2.2 j
              obtain ⟨z, hz1, hz2⟩ := xor_byte _ j hlt
              have HS := Hd.mk (H6.out.set hjn hz1)
              obtain ⟨X, hX⟩ : ∃ X : Int, ((bs2.getD j 0 : Nat) : Int) = X := ⟨_, rfl⟩
              rw [hX] at hck hz2
              have hx0 : 0 ≤ X := by omega
              have hx1 : X < 256 := by omega
              clear hX hlt hz1
              have hji : (j : Int) < (n : Int) := by omega
              have hnb : j ≤ 140737488351232 := by omega
              go_wp2_with fail
              go_roundw
              case rel => exact ⟨j + 1, _, by omega, by go_num, HS.out.1⟩
              case measure => simp [intOf]; omega
            · have hjn2 : j = n := by omega
              subst hjn2
              go_wp2_with fail
              go_roundw
              case rel => exact ⟨k + 1, bs2, by omega, by go_num, H6.out⟩
              case measure => simp [intOf]; omega
        · rw [hno] at hld; cases hld
      · obtain ⟨p1, p2, p3, p4, p5, p6⟩ := loadP_some hld
        have hm255 : ss.length ≤ 255 := by have := getD_lt H3.out.1.2.2.2 0; omega
        have HLW := Hd.mk (And.intro p4 (And.intro p3 hm255))
        have H3' : Hd (Lt w w3 g n cp bs ∧ Rd w3 w3.heap.size A2 n (cb bs) ∧ Vb w3 w2.heap.size h2 cap2 ss) := ⟨H3.out.1.keep hb3, (HR2.out.below hb3).more hb3.size, hV⟩
        have hg2' : g < w2.heap.size := H3.out.1.lt.2
        have hs3 := hb3.size
        clear H3 HR2 hb3 hV p1 p2 p3 p4 p5 p6
        obtain ⟨m, hm⟩ : ∃ m, ss.length = m := ⟨_, rfl⟩
        have HM := Hd.mk hm
        rw [hm]
        clear hm hm255
        go_wp2_with (refine wpList_store_row rfl 64 (.tmp 6) (.tmp 22) rfl w3.heap.size #[.float .f32 K, .slice (some ⟨h2, 0, none⟩) m cap2] rfl rfl 64 zB (heap_alloc_new _ _) infoBd rfl (bd_one ..) ?_)
        have H4 : Hd (Lt w ((w3.alloc (.cells #[.float .f32 0, .slice none 0 0] 64)).setRow w3.heap.size #[.float .f32 K, .slice (some ⟨h2, 0, none⟩) m cap2]) g n cp bs ∧ Rd ((w3.alloc (.cells #[.float .f32 0, .slice none 0 0] 64)).setRow w3.heap.size #[.float .f32 K, .slice (some ⟨h2, 0, none⟩) m cap2]) ((w3.alloc (.cells #[.float .f32 0, .slice none 0 0] 64)).setRow w3.heap.size #[.float .f32 K, .slice (some ⟨h2, 0, none⟩) m cap2]).heap.size A2 n (cb bs) ∧ Vb ((w3.alloc (.cells #[.float .f32 0, .slice none 0 0] 64)).setRow w3.heap.size #[.float .f32 K, .slice (some ⟨h2, 0, none⟩) m cap2]) w2.heap.size h2 cap2 ss ∧ ((w3.alloc (.cells #[.float .f32 0, .slice none 0 0] 64)).setRow w3.heap.size #[.float .f32 K, .slice (some ⟨h2, 0, none⟩) m cap2]).heap[w3.heap.size]? = some (.cells #[.float .f32 K, .slice (some ⟨h2, 0, none⟩) m cap2] 64 (0, 0))) := by
          have hb : Below w3.heap.size w3 ((w3.alloc (.cells #[.float .f32 0, .slice none 0 0] 64)).setRow w3.heap.size #[.float .f32 K, .slice (some ⟨h2, 0, none⟩) m cap2]) := below_setRow ((Below.refl _ _).alloc (Nat.le_refl _) _) (Nat.le_refl _) _
          exact ⟨H3'.out.1.keep hb, (H3'.out.2.1.below hb).more hb.size, H3'.out.2.2.keep hb, setRow_heap _ _ _ _ _ _ (heap_alloc_new _ _)⟩
        obtain ⟨w4, hw4⟩ : ∃ w4, ((w3.alloc (.cells #[.float .f32 0, .slice none 0 0] 64)).setRow w3.heap.size #[.float .f32 K, .slice (some ⟨h2, 0, none⟩) m cap2]) = w4 := ⟨_, rfl⟩
        rw [hw4] at H4 ⊢
        clear hw4 H3'
        refine (load_any w4 w4.heap.size n cp _ bs H4.out.1.rd H4.out.1.2.2.2 (Nat.le_refl _) (by omega)).mono ?_
        rintro e w5 ⟨hb5, ⟨hno, rfl⟩ | ⟨K2, ss2, b, h, cap', hld2, rfl, hB⟩⟩
        · rw [hno] at hld; cases hld
        · rw [hld] at hld2
          injection hld2 with hld2
          injection hld2 with e1 e2
          subst e1 e2
          have hM4 : w3.heap.size < w4.heap.size := (Array.getElem?_eq_some_iff.1 H4.out.2.2.2).1
          have hBl := hB.hB
          have hBl2 := hB.lt.2.2
          have H5 : Hd (Lt w w5 g n cp bs ∧ Rd w5 w5.heap.size A2 n (cb bs) ∧ Vb w5 w2.heap.size h2 cap2 ss ∧ w5.heap[w3.heap.size]? = some (.cells #[.float .f32 K, .slice (some ⟨h2, 0, none⟩) m cap2] 64 (0, 0)) ∧ Brd w5 w4.heap.size b h cap' K ss) := ⟨H4.out.1.keep hb5, (H4.out.2.1.below hb5).more hb5.size, H4.out.2.2.1.keep hb5, by rw [hb5.block _ hM4]; exact H4.out.2.2.2, hB⟩
          clear H4 hb5 hB hld
          go_wp2_with fail
          refine (unmarked_any w5 w.heap.size g n cp w5.heap.size A2 c2 bs H5.out.1.1 H5.out.2.1 (by omega) hc1).mono ?_
          rintro e w6 ⟨rfl, rfl⟩
          have H6 := Hd.mk (And.intro H5.out.1 H5.out.2.2)
          clear H5
          go_wp2_with fail
          go_loopw [10] (fun i wr => ∃ (j : Nat) (bs2 : List Nat), j ≤ n ∧ i = .int .i64 (j : Int) ∧ Lt w wr g n cp bs2 ∧ Vb wr w2.heap.size h2 cap2 ss ∧ wr.heap[w3.heap.size]? = some (.cells #[.float .f32 K, .slice (some ⟨h2, 0, none⟩) m cap2] 64 (0, 0)) ∧ Brd wr w4.heap.size b h cap' K ss) (fun i _ => n - (intOf i).toNat)
          case atStart => exact ⟨0, bs, by omega, rfl, H6.out⟩
          case round =>
            clear H6
            obtain ⟨j, bs2, hj, rfl, hO⟩ := hrel
            have H6 := Hd.mk hO
            have hgl2 := hO.1.lt
            have d0 : wr.cell? ⟨w3.heap.size, 0, none⟩ = some (.float .f32 K) := by rw [cell_of_row _ _ _ _ _ _ hO.2.2.1]; rfl
            have d1 : wr.cell? ⟨w3.heap.size, 1, none⟩ = some (.slice (some ⟨h2, 0, none⟩) m cap2) := by rw [cell_of_row _ _ _ _ _ _ hO.2.2.1]; rfl
            have hVl := hO.2.1.1
            clear hO
            by_cases hjn : j < n
            · clear d0 d1 hVl
              have hck := H6.out.1.cell hjn
              have hfz := H6.out.1.1.frozenAt j
              have hlt := getD_lt H6.out.1.2.2.2 j
              obtain ⟨z, hz1, hz2⟩ := xor_byte _ j hlt
              have HS := Hd.mk (H6.out.1.set hjn hz1)
              obtain ⟨X, hX⟩ : ∃ X : Int, ((bs2.getD j 0 : Nat) : Int) = X := ⟨_, rfl⟩
              rw [hX] at hck hz2
              have hx0 : 0 ≤ X := by omega
              have hx1 : X < 256 := by omega
              clear hX hlt hz1
              have hji : (j : Int) < (n : Int) := by omega
              have hnb : j ≤ 140737488351232 := by omega
              go_wp2_with fail
              go_roundw
              case rel =>
                refine ⟨j + 1, _, by omega, by go_num, HS.out.1, ?_, ?_, H6.out.2.2.2.other HS.out.2 (by omega) (by omega)⟩
                · exact H6.out.2.1.kept HS.out.2 (.inr fun e => by have := (World.ownsRow.lt H6.out.2.1 _ e).1; omega)
                · rw [Go.Deep.blk_setCell_other _ _ _ _ (by show w3.heap.size ≠ g; omega)]; exact H6.out.2.2.1
              case measure => simp [intOf]; omega
            · have hjn2 : j = n := by omega
              subst hjn2
              clear hVl
              have hsn := seen_any wr w4.heap.size w2.heap.size b h cap' h2 cap2 K ss H6.out.2.2.2 H6.out.2.1 HLW.out.1 HLW.out.2.1 HLW.out.2.2
              rw [HM.out] at hsn
              have HSN := Hd.mk hsn
              clear hsn
              go_wp2_with fail
              refine HSN.out.mono ?_
              rintro e w7 ⟨rfl, hb7⟩
              have H7 := Hd.mk (H6.out.1.keep hb7)
              clear hb7 H6 HSN d0 d1
              go_wp2_with fail
              go_roundw
              case rel => exact ⟨k + 1, bs2, by omega, by go_num, H7.out⟩
              case measure => simp [intOf]; omega
    · go_wp2_with fail
      go_ret
      exact ⟨rfl, H2.out.2.1⟩
end Go.Proofs.Ytknpcbekaodlkaa
