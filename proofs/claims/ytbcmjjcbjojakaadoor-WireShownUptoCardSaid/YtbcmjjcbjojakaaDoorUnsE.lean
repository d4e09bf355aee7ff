
/- Contract of the program's escape. (tools/unsgen2.py prints it.) -/
import Derived.Test.YtbcmjjcbjojakaaDoorPk12
import Derived.Test.YtbcmjjcbjojakaaDoorPk3
import Derived.Test.YtbcmjjcbjojakaaDoorPk6
import Derived.Deep.RegionHeld
import Derived.Deep.MidRow
namespace Go.Proofs.YtbcmjjcbjojakaaDoor
open Go.RowKit
set_option linter.unusedVariables false
set_option linter.unusedSimpArgs false
def ri (rs : List Nat) : List Value := rs.map fun (x : Nat) => Value.int .i32 (x : Int)
/-- A byte has been put behind the key. -/
def EsGood (base gk : Nat) (vk : Value) (acc : List Nat) (w : World) (b : Nat) (w' : World) : Prop :=
  ∃ v', w'.heap[gk]? = some (.cells #[v'] 28 (0, 0)) ∧ w'.ownsRowF base 5 1 v' (acc ++ [b]).length (cb (acc ++ [b])) ∧ Chg (gk :: vk.ownBlock.toList) w w'
def EsPost (base gk : Nat) (vk : Value) (acc : List Nat) (rs : List Nat) (w : World) (e : Ending) (w' : World) : Prop :=
  (escF rs = none ∧ e = .returned (.int .i64 0) ∧ Chg [] w w') ∨ ∃ b n, escF rs = some (b, n) ∧ e = .returned (.int .i64 ((n : Nat) : Int)) ∧ EsGood base gk vk acc w b w'
theorem own_blockF {w w' : World} {base e n : Nat} {v : Value} {xs : List Value} (h : w.ownsRowF base e 1 v n xs) (hb : ∀ k, v.ownBlock = some k → w'.heap[k]? = w.heap[k]?) : w'.ownsRowF base e 1 v n xs := by
  refine ⟨h.1, ?_⟩
  rcases h.2 with hn | ⟨g, cap, cur, fz, hv, hbs, hg, rest⟩
  · exact .inl hn
  · exact .inr ⟨g, cap, cur, fz, hv, hbs, by rw [hb g (by rw [hv]; rfl)]; exact hg, rest⟩
theorem own_setF {w : World} {base e n g i : Nat} {u v : Value} {xs : List Value} (h : w.ownsRowF base e 1 v n xs) (hne : ∀ k, v.ownBlock = some k → g ≠ k) : (w.setCell ⟨g, i, none⟩ u).ownsRowF base e 1 v n xs :=
  own_blockF h fun k hk => ((Chg.refl [g] w).setCell (by simp) u).block k (h.lt k hk).2 (by simp; exact fun e => hne k hk e.symm)
theorem own_formF {w : World} {base e n : Nat} {v : Value} {xs : List Value} (h : w.ownsRowF base e 1 v n xs) : ∃ A c, v = .slice A n c := by
  rcases h.2 with ⟨rfl, rfl⟩ | ⟨g, cap, cur, fz, rfl, _⟩
  · exact ⟨none, 0, rfl⟩
  · exact ⟨_, _, rfl⟩
theorem heap_setE (w : World) (g i : Nat) (u : Value) (xs : Array Value) (t : Nat) (h : w.heap[g]? = some (.cells xs t)) : (w.setCell ⟨g, i, none⟩ u).heap[g]? = some (.cells (xs.setIfInBounds i u) t) := by
  simp only [World.setCell]
  rw [Array.getElem?_modify, if_pos rfl, h]
  rfl
theorem or_shl (p q : Nat) (hp : p < 16) (hq : q < 16) : bits .or .i64 ((p : Int) * 16) (q : Int) = ((16 * p + q : Nat) : Int) := by
  have : ∀ p q : Fin 16, bits .or .i64 (((p.1 : Nat) : Int) * 16) ((q.1 : Nat) : Int) = ((16 * p.1 + q.1 : Nat) : Int) := by decide +kernel
  exact this ⟨p, hp⟩ ⟨q, hq⟩
set_option maxRecDepth 20000 in
set_option maxHeartbeats 8000000 in
theorem escape_any (w : World) (gk base : Nat) (vk : Value) (acc : List Nat) (A : Option Addr) (n c : Nat) (rs : List Nat) (hr : Rd w base A n (ri rs)) (hrs : ∀ x ∈ rs, x ≤ 1114111) (hn : n ≤ 9223372036854775807) (hAk : ∀ g o, A = some ⟨g, o, none⟩ → g ≠ gk) (hb : w.heap[gk]? = some (.cells #[vk] 28 (0, 0)))
    (ho : w.ownsRowF base 5 1 vk acc.length (cb acc)) (hgk : gk < base) (hbs : base ≤ w.heap.size) (hlen : acc.length ≤ 70368744177664) :
    Calls Tryd.prog 20 #[.pointer (some ⟨gk, 0, none⟩), .slice A n c] w (EsPost base gk vk acc rs w) := by
  have hl : rs.length = n := by have := hr.1; simpa [ri] using this
  obtain ⟨lk, hlk⟩ : ∃ q, acc.length = q := ⟨_, rfl⟩
  rw [hlk] at ho hlen
  have HLK := Hd.mk hlk
  have HOW := Hd.mk ho
  have HGK := Hd.mk hb
  have HBS : Hd (gk < base ∧ base ≤ w.heap.size ∧ gk < w.heap.size) := ⟨hgk, hbs, by omega⟩
  clear hlk ho hb
  go_enter Tryd.func20, Tryd.ntmps20
  rcases rs with _ | ⟨x0, r1⟩
  · have h0 : n = 0 := by simpa using hl.symm
    subst h0
    go_wp2_with fail
    go_ret
    exact .inl ⟨by decide, rfl, Chg.refl _ _⟩
  have hn1 : 0 < n := by rw [← hl]; simp
  have hn1i : (0 : Int) < (n : Int) := by omega
  obtain ⟨gA, oA, hAe, hgA, hcl⟩ := hr.2 hn1
  subst hAe
  have hgAk : gA ≠ gk := hAk gA oA rfl
  have hx0 : x0 ≤ 1114111 := hrs x0 (by simp)
  have HCL : Hd (∀ W, Chg (gk :: vk.ownBlock.toList) w W → ∀ i x, (x0 :: r1)[i]? = some x → W.cell? ⟨gA, oA + i, none⟩ = some (.int .i32 ((x : Nat) : Int))) := ⟨fun W b i x hx => by
    have hi : i < n := by rw [← hl]; exact (List.getElem?_eq_some_iff.1 hx).1
    rw [b.cell (p := ⟨gA, oA + i, none⟩) (by show gA < _; omega) (by
      intro hm
      rcases List.mem_cons.1 hm with h1 | h1
      · exact hgAk h1
      · rw [Option.mem_toList] at h1; have := (HOW.out.lt gA h1).1; omega), hcl i hi]
    unfold ri
    rw [List.getElem?_map, hx]; rfl⟩
  have c0 : w.cell? ⟨gA, oA, none⟩ = some (.int .i32 (x0 : Int)) := HCL.out w (Chg.refl _ _) 0 x0 rfl
  have HL := Hd.mk hl
  have HRS := Hd.mk hrs
  clear hr hcl hAk hgA hl hrs
  by_cases h9 : x0 = 92
  · subst h9
    have HESC : Hd (escF (92 :: r1) = some (92, 1)) := ⟨by unfold escF; rw [List.getD_cons_zero, if_pos (by omega)]⟩
    go_upto_region 2 with fail
    clear c0
    refine wp_region_held_drew (S := fun W => Chg (gk :: vk.ownBlock.toList) w W) (by kernel_rfl) (Chg.refl _ w).drew (fun hHeld => ?_)
    obtain ⟨wd, hwd⟩ : ∃ U, w.drew = U := ⟨_, rfl⟩
    have HWD : Hd (Chg (gk :: vk.ownBlock.toList) w wd ∧ wd.heap[gk]? = some (.cells #[vk] 28 (0, 0)) ∧ wd.ownsRowF base 5 1 vk lk (cb acc)) := ⟨by rw [← hwd]; exact ⟨(Chg.refl _ w).drew, HGK.out, HOW.out⟩⟩
    rw [hwd] at hHeld ⊢
    clear hwd
    have cg : wd.cell? ⟨gk, 0, none⟩ = some vk := by rw [cell_of_row wd gk 0 _ _ (0, 0) HWD.out.2.1]; rfl
    refine wpAnyH_take (i := 0) (oi := ?oi101) (v := ?v101) ?hi101 (by kernel_rfl) (by kernel_rfl) (by kernel_rfl) ?hQ101 (Or.inl ⟨?hw101, ?hy101⟩) (by assumption) ?rest101
    case hi101 => simp only [List.getElem?_toArray, List.getElem?_cons_succ, List.getElem?_cons_zero]; rfl
    case hQ101 => exact fun _ _ _ h => h
    case hw101 => rfl
    case hy101 => (intro W hW; go_simp; all_goals rfl)
    simp only [Act.put, List.setIfInBounds_toArray, List.set_cons_zero, List.set_cons_succ]
    refine wpAnyH_take (i := 1) (oi := ?oi102) (v := ?v102) ?hi102 (by kernel_rfl) (by kernel_rfl) (by kernel_rfl) ?hQ102 (Or.inl ⟨?hw102, ?hy102⟩) (by assumption) ?rest102
    case hi102 => simp only [List.getElem?_toArray, List.getElem?_cons_succ, List.getElem?_cons_zero]; rfl
    case hQ102 => exact fun _ _ _ h => h
    case hw102 => rfl
    case hy102 => (intro W hW; go_simp; all_goals rfl)
    simp only [Act.put, List.setIfInBounds_toArray, List.set_cons_zero, List.set_cons_succ]
    refine wpAnyH_take (i := 2) (oi := ?oi103) (v := ?v103) ?hi103 (by kernel_rfl) (by kernel_rfl) (by kernel_rfl) ?hQ103 (Or.inl ⟨?hw103, ?hy103⟩) (by assumption) ?rest103
    case hi103 => simp only [List.getElem?_toArray, List.getElem?_cons_succ, List.getElem?_cons_zero]; rfl
    case hQ103 => exact fun _ _ _ h => h
    case hw103 => rfl
    case hy103 => (intro W hW; go_simp; all_goals rfl)
    simp only [Act.put, List.setIfInBounds_toArray, List.set_cons_zero, List.set_cons_succ]
    refine wpAnyH_take (i := 4) (oi := ?oi104) (v := ?v104) ?hi104 (by kernel_rfl) (by kernel_rfl) (by kernel_rfl) ?hQ104 (Or.inl ⟨?hw104, ?hy104⟩) (by assumption) ?rest104
    case hi104 => simp only [List.getElem?_toArray, List.getElem?_cons_succ, List.getElem?_cons_zero]; rfl
    case hQ104 => exact fun _ _ _ h => h
    case hw104 => rfl
    case hy104 => (intro W hW; go_simp; all_goals rfl)
    simp only [Act.put, List.setIfInBounds_toArray, List.set_cons_zero, List.set_cons_succ]
    refine wpAnyH_take (i := 5) (oi := ?oi105) (v := ?v105) ?hi105 (by kernel_rfl) (by kernel_rfl) (by kernel_rfl) ?hQ105 (Or.inl ⟨?hw105, ?hy105⟩) (by assumption) ?rest105
    case hi105 => simp only [List.getElem?_toArray, List.getElem?_cons_succ, List.getElem?_cons_zero]; rfl
    case hQ105 => exact fun _ _ _ h => h
    case hw105 => rfl
    case hy105 => (intro W hW; go_simp; all_goals rfl)
    simp only [Act.put, List.setIfInBounds_toArray, List.set_cons_zero, List.set_cons_succ]
    refine wpAnyH_take (i := 6) (oi := ?oi106) (v := ?v106) ?hi106 (by kernel_rfl) (by kernel_rfl) (by kernel_rfl) ?hQ106 (Or.inl ⟨?hw106, ?hy106⟩) (by assumption) ?rest106
    case hi106 => simp only [List.getElem?_toArray, List.getElem?_cons_succ, List.getElem?_cons_zero]; rfl
    case hQ106 => exact fun _ _ _ h => h
    case hw106 => rfl
    case hy106 => (intro W hW; have f1 := HCL.out W hW 0 92 rfl; simp only [Nat.add_zero] at f1; go_simp; all_goals rfl)
    simp only [Act.put, List.setIfInBounds_toArray, List.set_cons_zero, List.set_cons_succ]
    refine wpAnyH_take (i := 7) (oi := ?oi107) (v := ?v107) ?hi107 (by kernel_rfl) (by kernel_rfl) (by kernel_rfl) ?hQ107 (Or.inl ⟨?hw107, ?hy107⟩) (by assumption) ?rest107
    case hi107 => simp only [List.getElem?_toArray, List.getElem?_cons_succ, List.getElem?_cons_zero]; rfl
    case hQ107 => exact fun _ _ _ h => h
    case hw107 => rfl
    case hy107 => (intro W hW; have f1 : IntKind.u8.wrap (92 : Int) = 92 := rfl; go_simp; all_goals rfl)
    simp only [Act.put, List.setIfInBounds_toArray, List.set_cons_zero, List.set_cons_succ]
    refine wpAnyH_ready (rs := [3, 8]) (by kernel_rfl) (by simp) ?_
    refine AllReadyH.cons (i := 3) (o := ?oR7_3) ?hoR7_3 (fun Kq hK => ?stR7_3) (AllReadyH.cons (i := 8) (o := ?oR7_8) ?hoR7_8 (fun Kq hK => ?stR7_8) (AllReadyH.nil))
    case hoR7_3 => simp only [List.getElem?_toArray, List.getElem?_cons_succ, List.getElem?_cons_zero]; rfl
    case hoR7_8 => simp only [List.getElem?_toArray, List.getElem?_cons_succ, List.getElem?_cons_zero]; rfl
    case stR7_3 =>
      go_simp
      refine hK.out _ _ (HWD.out.1) (fun _ => ?_)
      clear hK Kq
      try simp only [Act.put, List.setIfInBounds_toArray, List.set_cons_zero, List.set_cons_succ]
      refine wpAnyH_ready (rs := [8]) (by kernel_rfl) (by simp) ?_
      refine AllReadyH.cons (i := 8) (o := ?oR3_8) ?hoR3_8 (fun Kq hK => ?stR3_8) (AllReadyH.nil)
      case hoR3_8 => simp only [List.getElem?_toArray, List.getElem?_cons_succ, List.getElem?_cons_zero]; rfl
      case stR3_8 =>
        go_simp
        obtain ⟨gn, hgn⟩ : ∃ q, wd.heap.size = q := ⟨_, rfl⟩
        obtain ⟨wa, hwa⟩ : ∃ U, wd.alloc (.cells #[.int .u8 92] 5) = U := ⟨_, rfl⟩
        have HWA : Hd (Chg (gk :: vk.ownBlock.toList) w wa ∧ wa.heap[gk]? = some (.cells #[vk] 28 (0, 0)) ∧ wa.ownsRowF base 5 1 vk lk (cb acc) ∧ (∀ j u, ([.int .u8 (92 : Int)] : List Value)[j]? = some u → wa.cell? ((⟨gn, 0, none⟩ : Addr).add j) = some u)) := ⟨by
          rw [← hwa, ← hgn]
          refine ⟨HWD.out.1.alloc _, ?_, HWD.out.2.2.alloc _, fun j u hu => alloc_news wd [.int .u8 (92 : Int)] _ j u hu⟩
          rw [heap_alloc_old _ _ (by have := HBS.out.2.2; have := HWD.out.1.size; omega)]; exact HWD.out.2.1⟩
        try rw [hwa]
        try rw [hgn]
        refine hK.out _ _ (HWA.out.1) (fun _ => ?_)
        clear hK Kq hwa hgn
        try simp only [Act.put, List.setIfInBounds_toArray, List.set_cons_zero, List.set_cons_succ]
        refine wpAnyH_ready (rs := [9]) (by kernel_rfl) (by simp) ?_
        refine AllReadyH.cons (i := 9) (o := ?oR2_9) ?hoR2_9 (fun Kq hK => ?stR2_9) (AllReadyH.nil)
        case hoR2_9 => simp only [List.getElem?_toArray, List.getElem?_cons_succ, List.getElem?_cons_zero]; rfl
        case stR2_9 =>
          refine step_appF elB rfl (.tmp 24) (.tmp 29) rfl base vk lk (cb acc) rfl HWA.out.2.2.1 ⟨gn, 0, none⟩ 1 1 [.int .u8 (92 : Int)] rfl rfl HWA.out.2.2.2 (by intro u hu; rw [List.mem_singleton.1 hu]; rfl) (by unfold maxLen; omega) (by omega) (by have := HBS.out.2.1; have := HWA.out.1.size; omega) ?_
          intro v' w6 ho6 hg6
          have H6 : Hd (Chg (gk :: vk.ownBlock.toList) w w6 ∧ w6.heap[gk]? = some (.cells #[vk] 28 (0, 0)) ∧ w6.ownsRowF base 5 1 v' (lk + 1) (cb (acc ++ [92]))) := ⟨by
            have k1 : Chg vk.ownBlock.toList wa w6 := ⟨hg6.os, hg6.tape, hg6.output, hg6.size, fun x hx hm => hg6.block x hx fun e => hm (by rw [Option.mem_toList]; exact e.symm)⟩
            refine ⟨HWA.out.1.trans (k1.mono fun x hx _ => List.mem_cons_of_mem _ hx), (k1.block gk (by have := HBS.out; have := HWA.out.1.size; omega) fun hm => ?_).trans HWA.out.2.1, by rw [cb_append]; exact ho6⟩
            rw [Option.mem_toList] at hm; have := (HWA.out.2.2.1.lt gk hm).1; have := HBS.out; omega⟩
          clear ho6 hg6
          obtain ⟨A6, d6, hv6⟩ := own_formF H6.out.2.2
          subst hv6
          refine hK.out _ _ (H6.out.1) (fun _ => ?_)
          clear hK Kq
          try simp only [Act.put, List.setIfInBounds_toArray, List.set_cons_zero, List.set_cons_succ]
          refine wpAnyH_take (i := 10) (oi := ?oi201) (v := ?v201) ?hi201 (by kernel_rfl) (by kernel_rfl) (by kernel_rfl) ?hQ201 (Or.inl ⟨?hw201, ?hy201⟩) (by assumption) ?rest201
          case hi201 => simp only [List.getElem?_toArray, List.getElem?_cons_succ, List.getElem?_cons_zero]; rfl
          case hQ201 => exact fun _ _ _ h => h
          case hw201 => rfl
          case hy201 => (intro W hW; go_simp; all_goals rfl)
          simp only [Act.put, List.setIfInBounds_toArray, List.set_cons_zero, List.set_cons_succ]
          have c6 : w6.cell? ⟨gk, 0, none⟩ = some vk := by rw [cell_of_row w6 gk 0 _ _ (0, 0) H6.out.2.1]; rfl
          have z6 : w6.frozen? ⟨gk, 0, none⟩ = false := by simp [World.frozen?, H6.out.2.1]
          refine wpAnyH_ready (rs := [11]) (by kernel_rfl) (by simp) ?_
          refine AllReadyH.cons (i := 11) (o := ?oR1_11) ?hoR1_11 (fun Kq hK => ?stR1_11) (AllReadyH.nil)
          case hoR1_11 => simp only [List.getElem?_toArray, List.getElem?_cons_succ, List.getElem?_cons_zero]; rfl
          case stR1_11 =>
            go_simp
            have hC7 : Chg (gk :: vk.ownBlock.toList) w (w6.setCell ⟨gk, 0, none⟩ (.slice A6 (lk + 1) d6)) := H6.out.1.setCell (by simp) _
            refine hK.out _ _ (hC7) (fun _ => ?_)
            clear hK Kq c6 z6
            try simp only [Act.put, List.setIfInBounds_toArray, List.set_cons_zero, List.set_cons_succ]
            refine wpAnyH_done (by kernel_rfl) ?_ _
            obtain ⟨w7, hw7⟩ : ∃ U, w6.setCell ⟨gk, 0, none⟩ (.slice A6 (lk + 1) d6) = U := ⟨_, rfl⟩
            have HF : Hd (EsGood base gk vk acc w 92 w7 ∧ True) := ⟨by rw [← hw7]; exact ⟨⟨.slice A6 (lk + 1) d6, by rw [heap_setE w6 gk 0 _ _ _ H6.out.2.1]; rfl, by rw [List.length_append, HLK.out]; exact own_setF H6.out.2.2 (fun k hk => by have := (H6.out.2.2.lt k hk).1; have := HBS.out; omega), hC7⟩, trivial⟩⟩
            try rw [hw7]
            clear hC7 hw7
            try clear hHeld
            go_wp2_with fail
            go_ret
            exact .inr ⟨92, 1, HESC.out, rfl, HF.out.1⟩
    case stR7_8 =>
      go_simp
      obtain ⟨gn, hgn⟩ : ∃ q, wd.heap.size = q := ⟨_, rfl⟩
      obtain ⟨wa, hwa⟩ : ∃ U, wd.alloc (.cells #[.int .u8 92] 5) = U := ⟨_, rfl⟩
      have HWA : Hd (Chg (gk :: vk.ownBlock.toList) w wa ∧ wa.heap[gk]? = some (.cells #[vk] 28 (0, 0)) ∧ wa.ownsRowF base 5 1 vk lk (cb acc) ∧ (∀ j u, ([.int .u8 (92 : Int)] : List Value)[j]? = some u → wa.cell? ((⟨gn, 0, none⟩ : Addr).add j) = some u)) := ⟨by
        rw [← hwa, ← hgn]
        refine ⟨HWD.out.1.alloc _, ?_, HWD.out.2.2.alloc _, fun j u hu => alloc_news wd [.int .u8 (92 : Int)] _ j u hu⟩
        rw [heap_alloc_old _ _ (by have := HBS.out.2.2; have := HWD.out.1.size; omega)]; exact HWD.out.2.1⟩
      try rw [hwa]
      try rw [hgn]
      refine hK.out _ _ (HWA.out.1) (fun _ => ?_)
      clear hK Kq hwa hgn
      try simp only [Act.put, List.setIfInBounds_toArray, List.set_cons_zero, List.set_cons_succ]
      have cga : wa.cell? ⟨gk, 0, none⟩ = some vk := by rw [cell_of_row wa gk 0 _ _ (0, 0) HWA.out.2.1]; rfl
      refine wpAnyH_ready (rs := [3]) (by kernel_rfl) (by simp) ?_
      refine AllReadyH.cons (i := 3) (o := ?oR6_3) ?hoR6_3 (fun Kq hK => ?stR6_3) (AllReadyH.nil)
      case hoR6_3 => simp only [List.getElem?_toArray, List.getElem?_cons_succ, List.getElem?_cons_zero]; rfl
      case stR6_3 =>
        go_simp
        refine hK.out _ _ (HWA.out.1) (fun _ => ?_)
        clear hK Kq
        try simp only [Act.put, List.setIfInBounds_toArray, List.set_cons_zero, List.set_cons_succ]
        refine wpAnyH_ready (rs := [9]) (by kernel_rfl) (by simp) ?_
        refine AllReadyH.cons (i := 9) (o := ?oR5_9) ?hoR5_9 (fun Kq hK => ?stR5_9) (AllReadyH.nil)
        case hoR5_9 => simp only [List.getElem?_toArray, List.getElem?_cons_succ, List.getElem?_cons_zero]; rfl
        case stR5_9 =>
          refine step_appF elB rfl (.tmp 24) (.tmp 29) rfl base vk lk (cb acc) rfl HWA.out.2.2.1 ⟨gn, 0, none⟩ 1 1 [.int .u8 (92 : Int)] rfl rfl HWA.out.2.2.2 (by intro u hu; rw [List.mem_singleton.1 hu]; rfl) (by unfold maxLen; omega) (by omega) (by have := HBS.out.2.1; have := HWA.out.1.size; omega) ?_
          intro v' w6 ho6 hg6
          have H6 : Hd (Chg (gk :: vk.ownBlock.toList) w w6 ∧ w6.heap[gk]? = some (.cells #[vk] 28 (0, 0)) ∧ w6.ownsRowF base 5 1 v' (lk + 1) (cb (acc ++ [92]))) := ⟨by
            have k1 : Chg vk.ownBlock.toList wa w6 := ⟨hg6.os, hg6.tape, hg6.output, hg6.size, fun x hx hm => hg6.block x hx fun e => hm (by rw [Option.mem_toList]; exact e.symm)⟩
            refine ⟨HWA.out.1.trans (k1.mono fun x hx _ => List.mem_cons_of_mem _ hx), (k1.block gk (by have := HBS.out; have := HWA.out.1.size; omega) fun hm => ?_).trans HWA.out.2.1, by rw [cb_append]; exact ho6⟩
            rw [Option.mem_toList] at hm; have := (HWA.out.2.2.1.lt gk hm).1; have := HBS.out; omega⟩
          clear ho6 hg6
          obtain ⟨A6, d6, hv6⟩ := own_formF H6.out.2.2
          subst hv6
          refine hK.out _ _ (H6.out.1) (fun _ => ?_)
          clear hK Kq
          try simp only [Act.put, List.setIfInBounds_toArray, List.set_cons_zero, List.set_cons_succ]
          refine wpAnyH_take (i := 10) (oi := ?oi301) (v := ?v301) ?hi301 (by kernel_rfl) (by kernel_rfl) (by kernel_rfl) ?hQ301 (Or.inl ⟨?hw301, ?hy301⟩) (by assumption) ?rest301
          case hi301 => simp only [List.getElem?_toArray, List.getElem?_cons_succ, List.getElem?_cons_zero]; rfl
          case hQ301 => exact fun _ _ _ h => h
          case hw301 => rfl
          case hy301 => (intro W hW; go_simp; all_goals rfl)
          simp only [Act.put, List.setIfInBounds_toArray, List.set_cons_zero, List.set_cons_succ]
          have c6 : w6.cell? ⟨gk, 0, none⟩ = some vk := by rw [cell_of_row w6 gk 0 _ _ (0, 0) H6.out.2.1]; rfl
          have z6 : w6.frozen? ⟨gk, 0, none⟩ = false := by simp [World.frozen?, H6.out.2.1]
          refine wpAnyH_ready (rs := [11]) (by kernel_rfl) (by simp) ?_
          refine AllReadyH.cons (i := 11) (o := ?oR4_11) ?hoR4_11 (fun Kq hK => ?stR4_11) (AllReadyH.nil)
          case hoR4_11 => simp only [List.getElem?_toArray, List.getElem?_cons_succ, List.getElem?_cons_zero]; rfl
          case stR4_11 =>
            go_simp
            have hC7 : Chg (gk :: vk.ownBlock.toList) w (w6.setCell ⟨gk, 0, none⟩ (.slice A6 (lk + 1) d6)) := H6.out.1.setCell (by simp) _
            refine hK.out _ _ (hC7) (fun _ => ?_)
            clear hK Kq c6 z6
            try simp only [Act.put, List.setIfInBounds_toArray, List.set_cons_zero, List.set_cons_succ]
            refine wpAnyH_done (by kernel_rfl) ?_ _
            obtain ⟨w7, hw7⟩ : ∃ U, w6.setCell ⟨gk, 0, none⟩ (.slice A6 (lk + 1) d6) = U := ⟨_, rfl⟩
            have HF : Hd (EsGood base gk vk acc w 92 w7 ∧ True) := ⟨by rw [← hw7]; exact ⟨⟨.slice A6 (lk + 1) d6, by rw [heap_setE w6 gk 0 _ _ _ H6.out.2.1]; rfl, by rw [List.length_append, HLK.out]; exact own_setF H6.out.2.2 (fun k hk => by have := (H6.out.2.2.lt k hk).1; have := HBS.out; omega), hC7⟩, trivial⟩⟩
            try rw [hw7]
            clear hC7 hw7
            try clear hHeld
            go_wp2_with fail
            go_ret
            exact .inr ⟨92, 1, HESC.out, rfl, HF.out.1⟩
  by_cases h3 : x0 = 34
  · subst h3
    have HESC : Hd (escF (34 :: r1) = some (34, 1)) := ⟨by unfold escF; rw [List.getD_cons_zero, if_pos (by omega)]⟩
    go_upto_region 2 with fail
    clear c0
    refine wp_region_held_drew (S := fun W => Chg (gk :: vk.ownBlock.toList) w W) (by kernel_rfl) (Chg.refl _ w).drew (fun hHeld => ?_)
    obtain ⟨wd, hwd⟩ : ∃ U, w.drew = U := ⟨_, rfl⟩
    have HWD : Hd (Chg (gk :: vk.ownBlock.toList) w wd ∧ wd.heap[gk]? = some (.cells #[vk] 28 (0, 0)) ∧ wd.ownsRowF base 5 1 vk lk (cb acc)) := ⟨by rw [← hwd]; exact ⟨(Chg.refl _ w).drew, HGK.out, HOW.out⟩⟩
    rw [hwd] at hHeld ⊢
    clear hwd
    have cg : wd.cell? ⟨gk, 0, none⟩ = some vk := by rw [cell_of_row wd gk 0 _ _ (0, 0) HWD.out.2.1]; rfl
    refine wpAnyH_take (i := 0) (oi := ?oi401) (v := ?v401) ?hi401 (by kernel_rfl) (by kernel_rfl) (by kernel_rfl) ?hQ401 (Or.inl ⟨?hw401, ?hy401⟩) (by assumption) ?rest401
    case hi401 => simp only [List.getElem?_toArray, List.getElem?_cons_succ, List.getElem?_cons_zero]; rfl
    case hQ401 => exact fun _ _ _ h => h
    case hw401 => rfl
    case hy401 => (intro W hW; go_simp; all_goals rfl)
    simp only [Act.put, List.setIfInBounds_toArray, List.set_cons_zero, List.set_cons_succ]
    refine wpAnyH_take (i := 1) (oi := ?oi402) (v := ?v402) ?hi402 (by kernel_rfl) (by kernel_rfl) (by kernel_rfl) ?hQ402 (Or.inl ⟨?hw402, ?hy402⟩) (by assumption) ?rest402
    case hi402 => simp only [List.getElem?_toArray, List.getElem?_cons_succ, List.getElem?_cons_zero]; rfl
    case hQ402 => exact fun _ _ _ h => h
    case hw402 => rfl
    case hy402 => (intro W hW; go_simp; all_goals rfl)
    simp only [Act.put, List.setIfInBounds_toArray, List.set_cons_zero, List.set_cons_succ]
    refine wpAnyH_take (i := 2) (oi := ?oi403) (v := ?v403) ?hi403 (by kernel_rfl) (by kernel_rfl) (by kernel_rfl) ?hQ403 (Or.inl ⟨?hw403, ?hy403⟩) (by assumption) ?rest403
    case hi403 => simp only [List.getElem?_toArray, List.getElem?_cons_succ, List.getElem?_cons_zero]; rfl
    case hQ403 => exact fun _ _ _ h => h
    case hw403 => rfl
    case hy403 => (intro W hW; go_simp; all_goals rfl)
    simp only [Act.put, List.setIfInBounds_toArray, List.set_cons_zero, List.set_cons_succ]
    refine wpAnyH_take (i := 4) (oi := ?oi404) (v := ?v404) ?hi404 (by kernel_rfl) (by kernel_rfl) (by kernel_rfl) ?hQ404 (Or.inl ⟨?hw404, ?hy404⟩) (by assumption) ?rest404
    case hi404 => simp only [List.getElem?_toArray, List.getElem?_cons_succ, List.getElem?_cons_zero]; rfl
    case hQ404 => exact fun _ _ _ h => h
    case hw404 => rfl
    case hy404 => (intro W hW; go_simp; all_goals rfl)
    simp only [Act.put, List.setIfInBounds_toArray, List.set_cons_zero, List.set_cons_succ]
    refine wpAnyH_take (i := 5) (oi := ?oi405) (v := ?v405) ?hi405 (by kernel_rfl) (by kernel_rfl) (by kernel_rfl) ?hQ405 (Or.inl ⟨?hw405, ?hy405⟩) (by assumption) ?rest405
    case hi405 => simp only [List.getElem?_toArray, List.getElem?_cons_succ, List.getElem?_cons_zero]; rfl
    case hQ405 => exact fun _ _ _ h => h
    case hw405 => rfl
    case hy405 => (intro W hW; go_simp; all_goals rfl)
    simp only [Act.put, List.setIfInBounds_toArray, List.set_cons_zero, List.set_cons_succ]
    refine wpAnyH_take (i := 6) (oi := ?oi406) (v := ?v406) ?hi406 (by kernel_rfl) (by kernel_rfl) (by kernel_rfl) ?hQ406 (Or.inl ⟨?hw406, ?hy406⟩) (by assumption) ?rest406
    case hi406 => simp only [List.getElem?_toArray, List.getElem?_cons_succ, List.getElem?_cons_zero]; rfl
    case hQ406 => exact fun _ _ _ h => h
    case hw406 => rfl
    case hy406 => (intro W hW; have f1 := HCL.out W hW 0 34 rfl; simp only [Nat.add_zero] at f1; go_simp; all_goals rfl)
    simp only [Act.put, List.setIfInBounds_toArray, List.set_cons_zero, List.set_cons_succ]
    refine wpAnyH_take (i := 7) (oi := ?oi407) (v := ?v407) ?hi407 (by kernel_rfl) (by kernel_rfl) (by kernel_rfl) ?hQ407 (Or.inl ⟨?hw407, ?hy407⟩) (by assumption) ?rest407
    case hi407 => simp only [List.getElem?_toArray, List.getElem?_cons_succ, List.getElem?_cons_zero]; rfl
    case hQ407 => exact fun _ _ _ h => h
    case hw407 => rfl
    case hy407 => (intro W hW; have f1 : IntKind.u8.wrap (34 : Int) = 34 := rfl; go_simp; all_goals rfl)
    simp only [Act.put, List.setIfInBounds_toArray, List.set_cons_zero, List.set_cons_succ]
    refine wpAnyH_ready (rs := [3, 8]) (by kernel_rfl) (by simp) ?_
    refine AllReadyH.cons (i := 3) (o := ?oR14_3) ?hoR14_3 (fun Kq hK => ?stR14_3) (AllReadyH.cons (i := 8) (o := ?oR14_8) ?hoR14_8 (fun Kq hK => ?stR14_8) (AllReadyH.nil))
    case hoR14_3 => simp only [List.getElem?_toArray, List.getElem?_cons_succ, List.getElem?_cons_zero]; rfl
    case hoR14_8 => simp only [List.getElem?_toArray, List.getElem?_cons_succ, List.getElem?_cons_zero]; rfl
    case stR14_3 =>
      go_simp
      refine hK.out _ _ (HWD.out.1) (fun _ => ?_)
      clear hK Kq
      try simp only [Act.put, List.setIfInBounds_toArray, List.set_cons_zero, List.set_cons_succ]
      refine wpAnyH_ready (rs := [8]) (by kernel_rfl) (by simp) ?_
      refine AllReadyH.cons (i := 8) (o := ?oR10_8) ?hoR10_8 (fun Kq hK => ?stR10_8) (AllReadyH.nil)
      case hoR10_8 => simp only [List.getElem?_toArray, List.getElem?_cons_succ, List.getElem?_cons_zero]; rfl
      case stR10_8 =>
        go_simp
        obtain ⟨gn, hgn⟩ : ∃ q, wd.heap.size = q := ⟨_, rfl⟩
        obtain ⟨wa, hwa⟩ : ∃ U, wd.alloc (.cells #[.int .u8 34] 5) = U := ⟨_, rfl⟩
        have HWA : Hd (Chg (gk :: vk.ownBlock.toList) w wa ∧ wa.heap[gk]? = some (.cells #[vk] 28 (0, 0)) ∧ wa.ownsRowF base 5 1 vk lk (cb acc) ∧ (∀ j u, ([.int .u8 (34 : Int)] : List Value)[j]? = some u → wa.cell? ((⟨gn, 0, none⟩ : Addr).add j) = some u)) := ⟨by
          rw [← hwa, ← hgn]
          refine ⟨HWD.out.1.alloc _, ?_, HWD.out.2.2.alloc _, fun j u hu => alloc_news wd [.int .u8 (34 : Int)] _ j u hu⟩
          rw [heap_alloc_old _ _ (by have := HBS.out.2.2; have := HWD.out.1.size; omega)]; exact HWD.out.2.1⟩
        try rw [hwa]
        try rw [hgn]
        refine hK.out _ _ (HWA.out.1) (fun _ => ?_)
        clear hK Kq hwa hgn
        try simp only [Act.put, List.setIfInBounds_toArray, List.set_cons_zero, List.set_cons_succ]
        refine wpAnyH_ready (rs := [9]) (by kernel_rfl) (by simp) ?_
        refine AllReadyH.cons (i := 9) (o := ?oR9_9) ?hoR9_9 (fun Kq hK => ?stR9_9) (AllReadyH.nil)
        case hoR9_9 => simp only [List.getElem?_toArray, List.getElem?_cons_succ, List.getElem?_cons_zero]; rfl
        case stR9_9 =>
          refine step_appF elB rfl (.tmp 24) (.tmp 29) rfl base vk lk (cb acc) rfl HWA.out.2.2.1 ⟨gn, 0, none⟩ 1 1 [.int .u8 (34 : Int)] rfl rfl HWA.out.2.2.2 (by intro u hu; rw [List.mem_singleton.1 hu]; rfl) (by unfold maxLen; omega) (by omega) (by have := HBS.out.2.1; have := HWA.out.1.size; omega) ?_
          intro v' w6 ho6 hg6
          have H6 : Hd (Chg (gk :: vk.ownBlock.toList) w w6 ∧ w6.heap[gk]? = some (.cells #[vk] 28 (0, 0)) ∧ w6.ownsRowF base 5 1 v' (lk + 1) (cb (acc ++ [34]))) := ⟨by
            have k1 : Chg vk.ownBlock.toList wa w6 := ⟨hg6.os, hg6.tape, hg6.output, hg6.size, fun x hx hm => hg6.block x hx fun e => hm (by rw [Option.mem_toList]; exact e.symm)⟩
            refine ⟨HWA.out.1.trans (k1.mono fun x hx _ => List.mem_cons_of_mem _ hx), (k1.block gk (by have := HBS.out; have := HWA.out.1.size; omega) fun hm => ?_).trans HWA.out.2.1, by rw [cb_append]; exact ho6⟩
            rw [Option.mem_toList] at hm; have := (HWA.out.2.2.1.lt gk hm).1; have := HBS.out; omega⟩
          clear ho6 hg6
          obtain ⟨A6, d6, hv6⟩ := own_formF H6.out.2.2
          subst hv6
          refine hK.out _ _ (H6.out.1) (fun _ => ?_)
          clear hK Kq
          try simp only [Act.put, List.setIfInBounds_toArray, List.set_cons_zero, List.set_cons_succ]
          refine wpAnyH_take (i := 10) (oi := ?oi501) (v := ?v501) ?hi501 (by kernel_rfl) (by kernel_rfl) (by kernel_rfl) ?hQ501 (Or.inl ⟨?hw501, ?hy501⟩) (by assumption) ?rest501
          case hi501 => simp only [List.getElem?_toArray, List.getElem?_cons_succ, List.getElem?_cons_zero]; rfl
          case hQ501 => exact fun _ _ _ h => h
          case hw501 => rfl
          case hy501 => (intro W hW; go_simp; all_goals rfl)
          simp only [Act.put, List.setIfInBounds_toArray, List.set_cons_zero, List.set_cons_succ]
          have c6 : w6.cell? ⟨gk, 0, none⟩ = some vk := by rw [cell_of_row w6 gk 0 _ _ (0, 0) H6.out.2.1]; rfl
          have z6 : w6.frozen? ⟨gk, 0, none⟩ = false := by simp [World.frozen?, H6.out.2.1]
          refine wpAnyH_ready (rs := [11]) (by kernel_rfl) (by simp) ?_
          refine AllReadyH.cons (i := 11) (o := ?oR8_11) ?hoR8_11 (fun Kq hK => ?stR8_11) (AllReadyH.nil)
          case hoR8_11 => simp only [List.getElem?_toArray, List.getElem?_cons_succ, List.getElem?_cons_zero]; rfl
          case stR8_11 =>
            go_simp
            have hC7 : Chg (gk :: vk.ownBlock.toList) w (w6.setCell ⟨gk, 0, none⟩ (.slice A6 (lk + 1) d6)) := H6.out.1.setCell (by simp) _
            refine hK.out _ _ (hC7) (fun _ => ?_)
            clear hK Kq c6 z6
            try simp only [Act.put, List.setIfInBounds_toArray, List.set_cons_zero, List.set_cons_succ]
            refine wpAnyH_done (by kernel_rfl) ?_ _
            obtain ⟨w7, hw7⟩ : ∃ U, w6.setCell ⟨gk, 0, none⟩ (.slice A6 (lk + 1) d6) = U := ⟨_, rfl⟩
            have HF : Hd (EsGood base gk vk acc w 34 w7 ∧ True) := ⟨by rw [← hw7]; exact ⟨⟨.slice A6 (lk + 1) d6, by rw [heap_setE w6 gk 0 _ _ _ H6.out.2.1]; rfl, by rw [List.length_append, HLK.out]; exact own_setF H6.out.2.2 (fun k hk => by have := (H6.out.2.2.lt k hk).1; have := HBS.out; omega), hC7⟩, trivial⟩⟩
            try rw [hw7]
            clear hC7 hw7
            try clear hHeld
            go_wp2_with fail
            go_ret
            exact .inr ⟨34, 1, HESC.out, rfl, HF.out.1⟩
    case stR14_8 =>
      go_simp
      obtain ⟨gn, hgn⟩ : ∃ q, wd.heap.size = q := ⟨_, rfl⟩
      obtain ⟨wa, hwa⟩ : ∃ U, wd.alloc (.cells #[.int .u8 34] 5) = U := ⟨_, rfl⟩
      have HWA : Hd (Chg (gk :: vk.ownBlock.toList) w wa ∧ wa.heap[gk]? = some (.cells #[vk] 28 (0, 0)) ∧ wa.ownsRowF base 5 1 vk lk (cb acc) ∧ (∀ j u, ([.int .u8 (34 : Int)] : List Value)[j]? = some u → wa.cell? ((⟨gn, 0, none⟩ : Addr).add j) = some u)) := ⟨by
        rw [← hwa, ← hgn]
        refine ⟨HWD.out.1.alloc _, ?_, HWD.out.2.2.alloc _, fun j u hu => alloc_news wd [.int .u8 (34 : Int)] _ j u hu⟩
        rw [heap_alloc_old _ _ (by have := HBS.out.2.2; have := HWD.out.1.size; omega)]; exact HWD.out.2.1⟩
      try rw [hwa]
      try rw [hgn]
      refine hK.out _ _ (HWA.out.1) (fun _ => ?_)
      clear hK Kq hwa hgn
      try simp only [Act.put, List.setIfInBounds_toArray, List.set_cons_zero, List.set_cons_succ]
      have cga : wa.cell? ⟨gk, 0, none⟩ = some vk := by rw [cell_of_row wa gk 0 _ _ (0, 0) HWA.out.2.1]; rfl
      refine wpAnyH_ready (rs := [3]) (by kernel_rfl) (by simp) ?_
      refine AllReadyH.cons (i := 3) (o := ?oR13_3) ?hoR13_3 (fun Kq hK => ?stR13_3) (AllReadyH.nil)
      case hoR13_3 => simp only [List.getElem?_toArray, List.getElem?_cons_succ, List.getElem?_cons_zero]; rfl
      case stR13_3 =>
        go_simp
        refine hK.out _ _ (HWA.out.1) (fun _ => ?_)
        clear hK Kq
        try simp only [Act.put, List.setIfInBounds_toArray, List.set_cons_zero, List.set_cons_succ]
        refine wpAnyH_ready (rs := [9]) (by kernel_rfl) (by simp) ?_
        refine AllReadyH.cons (i := 9) (o := ?oR12_9) ?hoR12_9 (fun Kq hK => ?stR12_9) (AllReadyH.nil)
        case hoR12_9 => simp only [List.getElem?_toArray, List.getElem?_cons_succ, List.getElem?_cons_zero]; rfl
        case stR12_9 =>
          refine step_appF elB rfl (.tmp 24) (.tmp 29) rfl base vk lk (cb acc) rfl HWA.out.2.2.1 ⟨gn, 0, none⟩ 1 1 [.int .u8 (34 : Int)] rfl rfl HWA.out.2.2.2 (by intro u hu; rw [List.mem_singleton.1 hu]; rfl) (by unfold maxLen; omega) (by omega) (by have := HBS.out.2.1; have := HWA.out.1.size; omega) ?_
          intro v' w6 ho6 hg6
          have H6 : Hd (Chg (gk :: vk.ownBlock.toList) w w6 ∧ w6.heap[gk]? = some (.cells #[vk] 28 (0, 0)) ∧ w6.ownsRowF base 5 1 v' (lk + 1) (cb (acc ++ [34]))) := ⟨by
            have k1 : Chg vk.ownBlock.toList wa w6 := ⟨hg6.os, hg6.tape, hg6.output, hg6.size, fun x hx hm => hg6.block x hx fun e => hm (by rw [Option.mem_toList]; exact e.symm)⟩
            refine ⟨HWA.out.1.trans (k1.mono fun x hx _ => List.mem_cons_of_mem _ hx), (k1.block gk (by have := HBS.out; have := HWA.out.1.size; omega) fun hm => ?_).trans HWA.out.2.1, by rw [cb_append]; exact ho6⟩
            rw [Option.mem_toList] at hm; have := (HWA.out.2.2.1.lt gk hm).1; have := HBS.out; omega⟩
          clear ho6 hg6
          obtain ⟨A6, d6, hv6⟩ := own_formF H6.out.2.2
          subst hv6
          refine hK.out _ _ (H6.out.1) (fun _ => ?_)
          clear hK Kq
          try simp only [Act.put, List.setIfInBounds_toArray, List.set_cons_zero, List.set_cons_succ]
          refine wpAnyH_take (i := 10) (oi := ?oi601) (v := ?v601) ?hi601 (by kernel_rfl) (by kernel_rfl) (by kernel_rfl) ?hQ601 (Or.inl ⟨?hw601, ?hy601⟩) (by assumption) ?rest601
          case hi601 => simp only [List.getElem?_toArray, List.getElem?_cons_succ, List.getElem?_cons_zero]; rfl
          case hQ601 => exact fun _ _ _ h => h
          case hw601 => rfl
          case hy601 => (intro W hW; go_simp; all_goals rfl)
          simp only [Act.put, List.setIfInBounds_toArray, List.set_cons_zero, List.set_cons_succ]
          have c6 : w6.cell? ⟨gk, 0, none⟩ = some vk := by rw [cell_of_row w6 gk 0 _ _ (0, 0) H6.out.2.1]; rfl
          have z6 : w6.frozen? ⟨gk, 0, none⟩ = false := by simp [World.frozen?, H6.out.2.1]
          refine wpAnyH_ready (rs := [11]) (by kernel_rfl) (by simp) ?_
          refine AllReadyH.cons (i := 11) (o := ?oR11_11) ?hoR11_11 (fun Kq hK => ?stR11_11) (AllReadyH.nil)
          case hoR11_11 => simp only [List.getElem?_toArray, List.getElem?_cons_succ, List.getElem?_cons_zero]; rfl
          case stR11_11 =>
            go_simp
            have hC7 : Chg (gk :: vk.ownBlock.toList) w (w6.setCell ⟨gk, 0, none⟩ (.slice A6 (lk + 1) d6)) := H6.out.1.setCell (by simp) _
            refine hK.out _ _ (hC7) (fun _ => ?_)
            clear hK Kq c6 z6
            try simp only [Act.put, List.setIfInBounds_toArray, List.set_cons_zero, List.set_cons_succ]
            refine wpAnyH_done (by kernel_rfl) ?_ _
            obtain ⟨w7, hw7⟩ : ∃ U, w6.setCell ⟨gk, 0, none⟩ (.slice A6 (lk + 1) d6) = U := ⟨_, rfl⟩
            have HF : Hd (EsGood base gk vk acc w 34 w7 ∧ True) := ⟨by rw [← hw7]; exact ⟨⟨.slice A6 (lk + 1) d6, by rw [heap_setE w6 gk 0 _ _ _ H6.out.2.1]; rfl, by rw [List.length_append, HLK.out]; exact own_setF H6.out.2.2 (fun k hk => by have := (H6.out.2.2.lt k hk).1; have := HBS.out; omega), hC7⟩, trivial⟩⟩
            try rw [hw7]
            clear hC7 hw7
            try clear hHeld
            go_wp2_with fail
            go_ret
            exact .inr ⟨34, 1, HESC.out, rfl, HF.out.1⟩
  have b9 : ((x0 : Int) == 92) = false := beq_eq_false_iff_ne.2 (by omega)
  have b3 : ((x0 : Int) == 34) = false := beq_eq_false_iff_ne.2 (by omega)
  by_cases hl2 : 2 < n
  · have hl2i : (2 : Int) < (n : Int) := by omega
    by_cases h120 : x0 = 120
    · subst h120
      obtain ⟨x1, r2, rfl⟩ : ∃ x1 r2, r1 = x1 :: r2 := by cases r1 with | nil => have := HL.out; simp at this; omega | cons a b => exact ⟨a, b, rfl⟩
      obtain ⟨x2, r3, rfl⟩ : ∃ x2 r3, r2 = x2 :: r3 := by cases r2 with | nil => have := HL.out; simp at this; omega | cons a b => exact ⟨a, b, rfl⟩
      have hx1 : x1 ≤ 1114111 := HRS.out x1 (by simp)
      have hx2 : x2 ≤ 1114111 := HRS.out x2 (by simp)
      have c1 : w.cell? ⟨gA, oA + 1, none⟩ = some (.int .i32 (x1 : Int)) := HCL.out w (Chg.refl _ _) 1 x1 rfl
      have c2 : w.cell? ⟨gA, oA + 2, none⟩ = some (.int .i32 (x2 : Int)) := HCL.out w (Chg.refl _ _) 2 x2 rfl
      have hEs : escF (120 :: x1 :: x2 :: r3) = (match dig x1, dig x2 with | some p, some q => some (16 * p + q, 3) | _, _ => none) := by
        unfold escF
        simp only [List.getD_cons_zero, List.getD_cons_succ]
        rw [if_neg (by omega), if_pos trivial]
        cases dig x1 <;> cases dig x2 <;> rfl
      have hD1 : ∀ W, Calls Tryd.prog 32 #[.int .i32 (x1 : Int)] W fun e w' => e = .returned (.int .i64 (dgz x1)) ∧ w' = W := fun W => wdigit_any W x1 hx1
      have hD2 : ∀ W, Calls Tryd.prog 32 #[.int .i32 (x2 : Int)] W fun e w' => e = .returned (.int .i64 (dgz x2)) ∧ w' = W := fun W => wdigit_any W x2 hx2
      have hl1i : (1 : Int) < (n : Int) := by omega
      rcases hda : dig x1 with _ | p
      · have hz := dgz_none hda
        rw [hz] at hD1
        rw [hda] at hEs
        have HN := Hd.mk hEs
        clear hEs hD2 hz hda
        go_wp2_with (refine (hD1 _).mono ?_; rintro e z ⟨rfl, rfl⟩)
        go_ret
        exact .inl ⟨HN.out, rfl, Chg.refl _ _⟩
      rcases hdb : dig x2 with _ | q
      · have hz := dgz_none hdb
        obtain ⟨hz2, hp16⟩ := dgz_some hda
        rw [hz] at hD2
        rw [hz2] at hD1
        rw [hda, hdb] at hEs
        have HN := Hd.mk hEs
        have hpz : (0 : Int) ≤ (p : Int) := by omega
        clear hEs hz hz2 hda hdb
        go_wp2_with fail
        refine (hD1 _).mono ?_
        rintro e z ⟨rfl, hz⟩
        obtain rfl := hz.symm
        go_wp2_with fail
        refine (hD2 _).mono ?_
        rintro e z ⟨rfl, hz⟩
        obtain rfl := hz.symm
        go_wp2_with fail
        go_ret
        exact .inl ⟨HN.out, rfl, Chg.refl _ _⟩
      obtain ⟨hz1, hp16⟩ := dgz_some hda
      obtain ⟨hz2, hq16⟩ := dgz_some hdb
      rw [hz1] at hD1
      rw [hz2] at hD2
      rw [hda, hdb] at hEs
      obtain ⟨v, hv⟩ : ∃ v, 16 * p + q = v := ⟨_, rfl⟩
      simp only [hv] at hEs
      have HESC := Hd.mk hEs
      have hv8 : v < 256 := by omega
      have HV : Hd (IntKind.i64.wrap ((p : Int) * 16) = (p : Int) * 16 ∧ bits .or .i64 ((p : Int) * 16) (q : Int) = (v : Int) ∧ IntKind.u8.wrap (v : Int) = (v : Int)) := ⟨by rw [IntKind.wrap_i64]; omega, by rw [or_shl p q hp16 hq16, hv], by rw [IntKind.wrap_u8]; omega⟩
      have hpz : (0 : Int) ≤ (p : Int) := by omega
      have hqz : (0 : Int) ≤ (q : Int) := by omega
      clear hEs hz1 hz2 hda hdb hv
      go_wp2_with fail
      refine (hD1 _).mono ?_
      rintro e z ⟨rfl, hz⟩
      obtain rfl := hz.symm
      go_wp2_with fail
      refine (hD2 _).mono ?_
      rintro e z ⟨rfl, hz⟩
      obtain rfl := hz.symm
      go_upto_region 5 with fail
      clear c0 c1 c2 hpz hqz b9 b3
      refine wp_region_held_drew (S := fun W => Chg (gk :: vk.ownBlock.toList) w W) (by kernel_rfl) (Chg.refl _ w).drew (fun hHeld => ?_)
      obtain ⟨wd, hwd⟩ : ∃ U, w.drew = U := ⟨_, rfl⟩
      have HWD : Hd (Chg (gk :: vk.ownBlock.toList) w wd ∧ wd.heap[gk]? = some (.cells #[vk] 28 (0, 0)) ∧ wd.ownsRowF base 5 1 vk lk (cb acc)) := ⟨by rw [← hwd]; exact ⟨(Chg.refl _ w).drew, HGK.out, HOW.out⟩⟩
      rw [hwd] at hHeld ⊢
      clear hwd
      have cg : wd.cell? ⟨gk, 0, none⟩ = some vk := by rw [cell_of_row wd gk 0 _ _ (0, 0) HWD.out.2.1]; rfl
      refine wpAnyH_take (i := 0) (oi := ?oi701) (v := ?v701) ?hi701 (by kernel_rfl) (by kernel_rfl) (by kernel_rfl) ?hQ701 (Or.inl ⟨?hw701, ?hy701⟩) (by assumption) ?rest701
      case hi701 => simp only [List.getElem?_toArray, List.getElem?_cons_succ, List.getElem?_cons_zero]; rfl
      case hQ701 => exact fun _ _ _ h => h
      case hw701 => rfl
      case hy701 => (intro W hW; go_simp; all_goals rfl)
      simp only [Act.put, List.setIfInBounds_toArray, List.set_cons_zero, List.set_cons_succ]
      refine wpAnyH_take (i := 1) (oi := ?oi702) (v := ?v702) ?hi702 (by kernel_rfl) (by kernel_rfl) (by kernel_rfl) ?hQ702 (Or.inl ⟨?hw702, ?hy702⟩) (by assumption) ?rest702
      case hi702 => simp only [List.getElem?_toArray, List.getElem?_cons_succ, List.getElem?_cons_zero]; rfl
      case hQ702 => exact fun _ _ _ h => h
      case hw702 => rfl
      case hy702 => (intro W hW; go_simp; all_goals rfl)
      simp only [Act.put, List.setIfInBounds_toArray, List.set_cons_zero, List.set_cons_succ]
      refine wpAnyH_take (i := 2) (oi := ?oi703) (v := ?v703) ?hi703 (by kernel_rfl) (by kernel_rfl) (by kernel_rfl) ?hQ703 (Or.inl ⟨?hw703, ?hy703⟩) (by assumption) ?rest703
      case hi703 => simp only [List.getElem?_toArray, List.getElem?_cons_succ, List.getElem?_cons_zero]; rfl
      case hQ703 => exact fun _ _ _ h => h
      case hw703 => rfl
      case hy703 => (intro W hW; go_simp; all_goals rfl)
      simp only [Act.put, List.setIfInBounds_toArray, List.set_cons_zero, List.set_cons_succ]
      refine wpAnyH_take (i := 4) (oi := ?oi704) (v := ?v704) ?hi704 (by kernel_rfl) (by kernel_rfl) (by kernel_rfl) ?hQ704 (Or.inl ⟨?hw704, ?hy704⟩) (by assumption) ?rest704
      case hi704 => simp only [List.getElem?_toArray, List.getElem?_cons_succ, List.getElem?_cons_zero]; rfl
      case hQ704 => exact fun _ _ _ h => h
      case hw704 => rfl
      case hy704 => (intro W hW; go_simp; all_goals rfl)
      simp only [Act.put, List.setIfInBounds_toArray, List.set_cons_zero, List.set_cons_succ]
      refine wpAnyH_take (i := 5) (oi := ?oi705) (v := ?v705) ?hi705 (by kernel_rfl) (by kernel_rfl) (by kernel_rfl) ?hQ705 (Or.inl ⟨?hw705, ?hy705⟩) (by assumption) ?rest705
      case hi705 => simp only [List.getElem?_toArray, List.getElem?_cons_succ, List.getElem?_cons_zero]; rfl
      case hQ705 => exact fun _ _ _ h => h
      case hw705 => rfl
      case hy705 => (intro W hW; go_simp; all_goals rfl)
      simp only [Act.put, List.setIfInBounds_toArray, List.set_cons_zero, List.set_cons_succ]
      refine wpAnyH_take (i := 6) (oi := ?oi706) (v := ?v706) ?hi706 (by kernel_rfl) (by kernel_rfl) (by kernel_rfl) ?hQ706 (Or.inl ⟨?hw706, ?hy706⟩) (by assumption) ?rest706
      case hi706 => simp only [List.getElem?_toArray, List.getElem?_cons_succ, List.getElem?_cons_zero]; rfl
      case hQ706 => exact fun _ _ _ h => h
      case hw706 => rfl
      case hy706 => (intro W hW; have f1 := HCL.out W hW 1 x1 rfl; go_simp; all_goals rfl)
      simp only [Act.put, List.setIfInBounds_toArray, List.set_cons_zero, List.set_cons_succ]
      refine wpAnyH_take (i := 9) (oi := ?oi707) (v := ?v707) ?hi707 (by kernel_rfl) (by kernel_rfl) (by kernel_rfl) ?hQ707 (Or.inl ⟨?hw707, ?hy707⟩) (by assumption) ?rest707
      case hi707 => simp only [List.getElem?_toArray, List.getElem?_cons_succ, List.getElem?_cons_zero]; rfl
      case hQ707 => exact fun _ _ _ h => h
      case hw707 => rfl
      case hy707 => (intro W hW; go_simp; all_goals rfl)
      simp only [Act.put, List.setIfInBounds_toArray, List.set_cons_zero, List.set_cons_succ]
      refine wpAnyH_take (i := 10) (oi := ?oi708) (v := ?v708) ?hi708 (by kernel_rfl) (by kernel_rfl) (by kernel_rfl) ?hQ708 (Or.inl ⟨?hw708, ?hy708⟩) (by assumption) ?rest708
      case hi708 => simp only [List.getElem?_toArray, List.getElem?_cons_succ, List.getElem?_cons_zero]; rfl
      case hQ708 => exact fun _ _ _ h => h
      case hw708 => rfl
      case hy708 => (intro W hW; go_simp; all_goals rfl)
      simp only [Act.put, List.setIfInBounds_toArray, List.set_cons_zero, List.set_cons_succ]
      refine wpAnyH_take (i := 11) (oi := ?oi709) (v := ?v709) ?hi709 (by kernel_rfl) (by kernel_rfl) (by kernel_rfl) ?hQ709 (Or.inl ⟨?hw709, ?hy709⟩) (by assumption) ?rest709
      case hi709 => simp only [List.getElem?_toArray, List.getElem?_cons_succ, List.getElem?_cons_zero]; rfl
      case hQ709 => exact fun _ _ _ h => h
      case hw709 => rfl
      case hy709 => (intro W hW; have f1 := HCL.out W hW 2 x2 rfl; go_simp; all_goals rfl)
      simp only [Act.put, List.setIfInBounds_toArray, List.set_cons_zero, List.set_cons_succ]
      refine wpAnyH_ready (rs := [3, 7]) (by kernel_rfl) (by simp) ?_
      refine AllReadyH.cons (i := 3) (o := ?oR32_3) ?hoR32_3 (fun Kq hK => ?stR32_3) (AllReadyH.cons (i := 7) (o := ?oR32_7) ?hoR32_7 (fun Kq hK => ?stR32_7) (AllReadyH.nil))
      case hoR32_3 => simp only [List.getElem?_toArray, List.getElem?_cons_succ, List.getElem?_cons_zero]; rfl
      case hoR32_7 => simp only [List.getElem?_toArray, List.getElem?_cons_succ, List.getElem?_cons_zero]; rfl
      case stR32_3 =>
        go_simp
        refine hK.out _ _ (HWD.out.1) (fun _ => ?_)
        clear hK Kq
        try simp only [Act.put, List.setIfInBounds_toArray, List.set_cons_zero, List.set_cons_succ]
        refine wpAnyH_ready (rs := [7]) (by kernel_rfl) (by simp) ?_
        refine AllReadyH.cons (i := 7) (o := ?oR19_7) ?hoR19_7 (fun Kq hK => ?stR19_7) (AllReadyH.nil)
        case hoR19_7 => simp only [List.getElem?_toArray, List.getElem?_cons_succ, List.getElem?_cons_zero]; rfl
        case stR19_7 =>
          go_simp
          (go_at_call 32; refine (hD1 wd).mono ?_; rintro e z ⟨rfl, hz⟩; obtain rfl := hz.symm)
          refine hK.out _ _ (HWD.out.1) (fun _ => ?_)
          clear hK Kq
          try simp only [Act.put, List.setIfInBounds_toArray, List.set_cons_zero, List.set_cons_succ]
          refine wpAnyH_take (i := 8) (oi := ?oi801) (v := ?v801) ?hi801 (by kernel_rfl) (by kernel_rfl) (by kernel_rfl) ?hQ801 (Or.inl ⟨?hw801, ?hy801⟩) (by assumption) ?rest801
          case hi801 => simp only [List.getElem?_toArray, List.getElem?_cons_succ, List.getElem?_cons_zero]; rfl
          case hQ801 => exact fun _ _ _ h => h
          case hw801 => rfl
          case hy801 => (intro W hW; have f1 := HV.out.1; have f2 := HV.out.2.1; have f3 := HV.out.2.2; go_simp; all_goals rfl)
          simp only [Act.put, List.setIfInBounds_toArray, List.set_cons_zero, List.set_cons_succ]
          refine wpAnyH_ready (rs := [12]) (by kernel_rfl) (by simp) ?_
          refine AllReadyH.cons (i := 12) (o := ?oR18_12) ?hoR18_12 (fun Kq hK => ?stR18_12) (AllReadyH.nil)
          case hoR18_12 => simp only [List.getElem?_toArray, List.getElem?_cons_succ, List.getElem?_cons_zero]; rfl
          case stR18_12 =>
            go_simp
            (go_at_call 32; refine (hD2 wd).mono ?_; rintro e z ⟨rfl, hz⟩; obtain rfl := hz.symm)
            refine hK.out _ _ (HWD.out.1) (fun _ => ?_)
            clear hK Kq
            try simp only [Act.put, List.setIfInBounds_toArray, List.set_cons_zero, List.set_cons_succ]
            refine wpAnyH_take (i := 13) (oi := ?oi901) (v := ?v901) ?hi901 (by kernel_rfl) (by kernel_rfl) (by kernel_rfl) ?hQ901 (Or.inl ⟨?hw901, ?hy901⟩) (by assumption) ?rest901
            case hi901 => simp only [List.getElem?_toArray, List.getElem?_cons_succ, List.getElem?_cons_zero]; rfl
            case hQ901 => exact fun _ _ _ h => h
            case hw901 => rfl
            case hy901 => (intro W hW; have f1 := HV.out.1; have f2 := HV.out.2.1; have f3 := HV.out.2.2; go_simp; all_goals rfl)
            simp only [Act.put, List.setIfInBounds_toArray, List.set_cons_zero, List.set_cons_succ]
            refine wpAnyH_take (i := 14) (oi := ?oi902) (v := ?v902) ?hi902 (by kernel_rfl) (by kernel_rfl) (by kernel_rfl) ?hQ902 (Or.inl ⟨?hw902, ?hy902⟩) (by assumption) ?rest902
            case hi902 => simp only [List.getElem?_toArray, List.getElem?_cons_succ, List.getElem?_cons_zero]; rfl
            case hQ902 => exact fun _ _ _ h => h
            case hw902 => rfl
            case hy902 => (intro W hW; have f1 := HV.out.1; have f2 := HV.out.2.1; have f3 := HV.out.2.2; go_simp; all_goals rfl)
            simp only [Act.put, List.setIfInBounds_toArray, List.set_cons_zero, List.set_cons_succ]
            refine wpAnyH_ready (rs := [15]) (by kernel_rfl) (by simp) ?_
            refine AllReadyH.cons (i := 15) (o := ?oR17_15) ?hoR17_15 (fun Kq hK => ?stR17_15) (AllReadyH.nil)
            case hoR17_15 => simp only [List.getElem?_toArray, List.getElem?_cons_succ, List.getElem?_cons_zero]; rfl
            case stR17_15 =>
              go_simp
              obtain ⟨gn, hgn⟩ : ∃ q, wd.heap.size = q := ⟨_, rfl⟩
              obtain ⟨wa, hwa⟩ : ∃ U, wd.alloc (.cells #[.int .u8 (v : Int)] 5) = U := ⟨_, rfl⟩
              have HWA : Hd (Chg (gk :: vk.ownBlock.toList) w wa ∧ wa.heap[gk]? = some (.cells #[vk] 28 (0, 0)) ∧ wa.ownsRowF base 5 1 vk lk (cb acc) ∧ (∀ j u, ([.int .u8 (v : Int)] : List Value)[j]? = some u → wa.cell? ((⟨gn, 0, none⟩ : Addr).add j) = some u)) := ⟨by
                rw [← hwa, ← hgn]
                refine ⟨HWD.out.1.alloc _, ?_, HWD.out.2.2.alloc _, fun j u hu => alloc_news wd [.int .u8 (v : Int)] _ j u hu⟩
                rw [heap_alloc_old _ _ (by have := HBS.out.2.2; have := HWD.out.1.size; omega)]; exact HWD.out.2.1⟩
              try rw [hwa]
              try rw [hgn]
              refine hK.out _ _ (HWA.out.1) (fun _ => ?_)
              clear hK Kq hwa hgn
              try simp only [Act.put, List.setIfInBounds_toArray, List.set_cons_zero, List.set_cons_succ]
              refine wpAnyH_ready (rs := [16]) (by kernel_rfl) (by simp) ?_
              refine AllReadyH.cons (i := 16) (o := ?oR16_16) ?hoR16_16 (fun Kq hK => ?stR16_16) (AllReadyH.nil)
              case hoR16_16 => simp only [List.getElem?_toArray, List.getElem?_cons_succ, List.getElem?_cons_zero]; rfl
              case stR16_16 =>
                refine step_appF elB rfl (.tmp 59) (.tmp 71) rfl base vk lk (cb acc) rfl HWA.out.2.2.1 ⟨gn, 0, none⟩ 1 1 [.int .u8 (v : Int)] rfl rfl HWA.out.2.2.2 (by intro u hu; rw [List.mem_singleton.1 hu]; rfl) (by unfold maxLen; omega) (by omega) (by have := HBS.out.2.1; have := HWA.out.1.size; omega) ?_
                intro v' w6 ho6 hg6
                have H6 : Hd (Chg (gk :: vk.ownBlock.toList) w w6 ∧ w6.heap[gk]? = some (.cells #[vk] 28 (0, 0)) ∧ w6.ownsRowF base 5 1 v' (lk + 1) (cb (acc ++ [v]))) := ⟨by
                  have k1 : Chg vk.ownBlock.toList wa w6 := ⟨hg6.os, hg6.tape, hg6.output, hg6.size, fun x hx hm => hg6.block x hx fun e => hm (by rw [Option.mem_toList]; exact e.symm)⟩
                  refine ⟨HWA.out.1.trans (k1.mono fun x hx _ => List.mem_cons_of_mem _ hx), (k1.block gk (by have := HBS.out; have := HWA.out.1.size; omega) fun hm => ?_).trans HWA.out.2.1, by rw [cb_append]; exact ho6⟩
                  rw [Option.mem_toList] at hm; have := (HWA.out.2.2.1.lt gk hm).1; have := HBS.out; omega⟩
                clear ho6 hg6
                obtain ⟨A6, d6, hv6⟩ := own_formF H6.out.2.2
                subst hv6
                refine hK.out _ _ (H6.out.1) (fun _ => ?_)
                clear hK Kq
                try simp only [Act.put, List.setIfInBounds_toArray, List.set_cons_zero, List.set_cons_succ]
                refine wpAnyH_take (i := 17) (oi := ?oi1001) (v := ?v1001) ?hi1001 (by kernel_rfl) (by kernel_rfl) (by kernel_rfl) ?hQ1001 (Or.inl ⟨?hw1001, ?hy1001⟩) (by assumption) ?rest1001
                case hi1001 => simp only [List.getElem?_toArray, List.getElem?_cons_succ, List.getElem?_cons_zero]; rfl
                case hQ1001 => exact fun _ _ _ h => h
                case hw1001 => rfl
                case hy1001 => (intro W hW; go_simp; all_goals rfl)
                simp only [Act.put, List.setIfInBounds_toArray, List.set_cons_zero, List.set_cons_succ]
                have c6 : w6.cell? ⟨gk, 0, none⟩ = some vk := by rw [cell_of_row w6 gk 0 _ _ (0, 0) H6.out.2.1]; rfl
                have z6 : w6.frozen? ⟨gk, 0, none⟩ = false := by simp [World.frozen?, H6.out.2.1]
                refine wpAnyH_ready (rs := [18]) (by kernel_rfl) (by simp) ?_
                refine AllReadyH.cons (i := 18) (o := ?oR15_18) ?hoR15_18 (fun Kq hK => ?stR15_18) (AllReadyH.nil)
                case hoR15_18 => simp only [List.getElem?_toArray, List.getElem?_cons_succ, List.getElem?_cons_zero]; rfl
                case stR15_18 =>
                  go_simp
                  have hC7 : Chg (gk :: vk.ownBlock.toList) w (w6.setCell ⟨gk, 0, none⟩ (.slice A6 (lk + 1) d6)) := H6.out.1.setCell (by simp) _
                  refine hK.out _ _ (hC7) (fun _ => ?_)
                  clear hK Kq c6 z6
                  try simp only [Act.put, List.setIfInBounds_toArray, List.set_cons_zero, List.set_cons_succ]
                  refine wpAnyH_done (by kernel_rfl) ?_ _
                  obtain ⟨w7, hw7⟩ : ∃ U, w6.setCell ⟨gk, 0, none⟩ (.slice A6 (lk + 1) d6) = U := ⟨_, rfl⟩
                  have HF : Hd (EsGood base gk vk acc w v w7 ∧ True) := ⟨by rw [← hw7]; exact ⟨⟨.slice A6 (lk + 1) d6, by rw [heap_setE w6 gk 0 _ _ _ H6.out.2.1]; rfl, by rw [List.length_append, HLK.out]; exact own_setF H6.out.2.2 (fun k hk => by have := (H6.out.2.2.lt k hk).1; have := HBS.out; omega), hC7⟩, trivial⟩⟩
                  try rw [hw7]
                  clear hC7 hw7
                  try clear hHeld
                  go_wp2_with fail
                  go_ret
                  exact .inr ⟨v, 3, HESC.out, rfl, HF.out.1⟩
      case stR32_7 =>
        go_simp
        (go_at_call 32; refine (hD1 wd).mono ?_; rintro e z ⟨rfl, hz⟩; obtain rfl := hz.symm)
        refine hK.out _ _ (HWD.out.1) (fun _ => ?_)
        clear hK Kq
        try simp only [Act.put, List.setIfInBounds_toArray, List.set_cons_zero, List.set_cons_succ]
        refine wpAnyH_take (i := 8) (oi := ?oi1101) (v := ?v1101) ?hi1101 (by kernel_rfl) (by kernel_rfl) (by kernel_rfl) ?hQ1101 (Or.inl ⟨?hw1101, ?hy1101⟩) (by assumption) ?rest1101
        case hi1101 => simp only [List.getElem?_toArray, List.getElem?_cons_succ, List.getElem?_cons_zero]; rfl
        case hQ1101 => exact fun _ _ _ h => h
        case hw1101 => rfl
        case hy1101 => (intro W hW; have f1 := HV.out.1; have f2 := HV.out.2.1; have f3 := HV.out.2.2; go_simp; all_goals rfl)
        simp only [Act.put, List.setIfInBounds_toArray, List.set_cons_zero, List.set_cons_succ]
        refine wpAnyH_ready (rs := [3, 12]) (by kernel_rfl) (by simp) ?_
        refine AllReadyH.cons (i := 3) (o := ?oR31_3) ?hoR31_3 (fun Kq hK => ?stR31_3) (AllReadyH.cons (i := 12) (o := ?oR31_12) ?hoR31_12 (fun Kq hK => ?stR31_12) (AllReadyH.nil))
        case hoR31_3 => simp only [List.getElem?_toArray, List.getElem?_cons_succ, List.getElem?_cons_zero]; rfl
        case hoR31_12 => simp only [List.getElem?_toArray, List.getElem?_cons_succ, List.getElem?_cons_zero]; rfl
        case stR31_3 =>
          go_simp
          refine hK.out _ _ (HWD.out.1) (fun _ => ?_)
          clear hK Kq
          try simp only [Act.put, List.setIfInBounds_toArray, List.set_cons_zero, List.set_cons_succ]
          refine wpAnyH_ready (rs := [12]) (by kernel_rfl) (by simp) ?_
          refine AllReadyH.cons (i := 12) (o := ?oR23_12) ?hoR23_12 (fun Kq hK => ?stR23_12) (AllReadyH.nil)
          case hoR23_12 => simp only [List.getElem?_toArray, List.getElem?_cons_succ, List.getElem?_cons_zero]; rfl
          case stR23_12 =>
            go_simp
            (go_at_call 32; refine (hD2 wd).mono ?_; rintro e z ⟨rfl, hz⟩; obtain rfl := hz.symm)
            refine hK.out _ _ (HWD.out.1) (fun _ => ?_)
            clear hK Kq
            try simp only [Act.put, List.setIfInBounds_toArray, List.set_cons_zero, List.set_cons_succ]
            refine wpAnyH_take (i := 13) (oi := ?oi1201) (v := ?v1201) ?hi1201 (by kernel_rfl) (by kernel_rfl) (by kernel_rfl) ?hQ1201 (Or.inl ⟨?hw1201, ?hy1201⟩) (by assumption) ?rest1201
            case hi1201 => simp only [List.getElem?_toArray, List.getElem?_cons_succ, List.getElem?_cons_zero]; rfl
            case hQ1201 => exact fun _ _ _ h => h
            case hw1201 => rfl
            case hy1201 => (intro W hW; have f1 := HV.out.1; have f2 := HV.out.2.1; have f3 := HV.out.2.2; go_simp; all_goals rfl)
            simp only [Act.put, List.setIfInBounds_toArray, List.set_cons_zero, List.set_cons_succ]
            refine wpAnyH_take (i := 14) (oi := ?oi1202) (v := ?v1202) ?hi1202 (by kernel_rfl) (by kernel_rfl) (by kernel_rfl) ?hQ1202 (Or.inl ⟨?hw1202, ?hy1202⟩) (by assumption) ?rest1202
            case hi1202 => simp only [List.getElem?_toArray, List.getElem?_cons_succ, List.getElem?_cons_zero]; rfl
            case hQ1202 => exact fun _ _ _ h => h
            case hw1202 => rfl
            case hy1202 => (intro W hW; have f1 := HV.out.1; have f2 := HV.out.2.1; have f3 := HV.out.2.2; go_simp; all_goals rfl)
            simp only [Act.put, List.setIfInBounds_toArray, List.set_cons_zero, List.set_cons_succ]
            refine wpAnyH_ready (rs := [15]) (by kernel_rfl) (by simp) ?_
            refine AllReadyH.cons (i := 15) (o := ?oR22_15) ?hoR22_15 (fun Kq hK => ?stR22_15) (AllReadyH.nil)
            case hoR22_15 => simp only [List.getElem?_toArray, List.getElem?_cons_succ, List.getElem?_cons_zero]; rfl
            case stR22_15 =>
              go_simp
              obtain ⟨gn, hgn⟩ : ∃ q, wd.heap.size = q := ⟨_, rfl⟩
              obtain ⟨wa, hwa⟩ : ∃ U, wd.alloc (.cells #[.int .u8 (v : Int)] 5) = U := ⟨_, rfl⟩
              have HWA : Hd (Chg (gk :: vk.ownBlock.toList) w wa ∧ wa.heap[gk]? = some (.cells #[vk] 28 (0, 0)) ∧ wa.ownsRowF base 5 1 vk lk (cb acc) ∧ (∀ j u, ([.int .u8 (v : Int)] : List Value)[j]? = some u → wa.cell? ((⟨gn, 0, none⟩ : Addr).add j) = some u)) := ⟨by
                rw [← hwa, ← hgn]
                refine ⟨HWD.out.1.alloc _, ?_, HWD.out.2.2.alloc _, fun j u hu => alloc_news wd [.int .u8 (v : Int)] _ j u hu⟩
                rw [heap_alloc_old _ _ (by have := HBS.out.2.2; have := HWD.out.1.size; omega)]; exact HWD.out.2.1⟩
              try rw [hwa]
              try rw [hgn]
              refine hK.out _ _ (HWA.out.1) (fun _ => ?_)
              clear hK Kq hwa hgn
              try simp only [Act.put, List.setIfInBounds_toArray, List.set_cons_zero, List.set_cons_succ]
              refine wpAnyH_ready (rs := [16]) (by kernel_rfl) (by simp) ?_
              refine AllReadyH.cons (i := 16) (o := ?oR21_16) ?hoR21_16 (fun Kq hK => ?stR21_16) (AllReadyH.nil)
              case hoR21_16 => simp only [List.getElem?_toArray, List.getElem?_cons_succ, List.getElem?_cons_zero]; rfl
              case stR21_16 =>
                refine step_appF elB rfl (.tmp 59) (.tmp 71) rfl base vk lk (cb acc) rfl HWA.out.2.2.1 ⟨gn, 0, none⟩ 1 1 [.int .u8 (v : Int)] rfl rfl HWA.out.2.2.2 (by intro u hu; rw [List.mem_singleton.1 hu]; rfl) (by unfold maxLen; omega) (by omega) (by have := HBS.out.2.1; have := HWA.out.1.size; omega) ?_
                intro v' w6 ho6 hg6
                have H6 : Hd (Chg (gk :: vk.ownBlock.toList) w w6 ∧ w6.heap[gk]? = some (.cells #[vk] 28 (0, 0)) ∧ w6.ownsRowF base 5 1 v' (lk + 1) (cb (acc ++ [v]))) := ⟨by
                  have k1 : Chg vk.ownBlock.toList wa w6 := ⟨hg6.os, hg6.tape, hg6.output, hg6.size, fun x hx hm => hg6.block x hx fun e => hm (by rw [Option.mem_toList]; exact e.symm)⟩
                  refine ⟨HWA.out.1.trans (k1.mono fun x hx _ => List.mem_cons_of_mem _ hx), (k1.block gk (by have := HBS.out; have := HWA.out.1.size; omega) fun hm => ?_).trans HWA.out.2.1, by rw [cb_append]; exact ho6⟩
                  rw [Option.mem_toList] at hm; have := (HWA.out.2.2.1.lt gk hm).1; have := HBS.out; omega⟩
                clear ho6 hg6
                obtain ⟨A6, d6, hv6⟩ := own_formF H6.out.2.2
                subst hv6
                refine hK.out _ _ (H6.out.1) (fun _ => ?_)
                clear hK Kq
                try simp only [Act.put, List.setIfInBounds_toArray, List.set_cons_zero, List.set_cons_succ]
                refine wpAnyH_take (i := 17) (oi := ?oi1301) (v := ?v1301) ?hi1301 (by kernel_rfl) (by kernel_rfl) (by kernel_rfl) ?hQ1301 (Or.inl ⟨?hw1301, ?hy1301⟩) (by assumption) ?rest1301
                case hi1301 => simp only [List.getElem?_toArray, List.getElem?_cons_succ, List.getElem?_cons_zero]; rfl
                case hQ1301 => exact fun _ _ _ h => h
                case hw1301 => rfl
                case hy1301 => (intro W hW; go_simp; all_goals rfl)
                simp only [Act.put, List.setIfInBounds_toArray, List.set_cons_zero, List.set_cons_succ]
                have c6 : w6.cell? ⟨gk, 0, none⟩ = some vk := by rw [cell_of_row w6 gk 0 _ _ (0, 0) H6.out.2.1]; rfl
                have z6 : w6.frozen? ⟨gk, 0, none⟩ = false := by simp [World.frozen?, H6.out.2.1]
                refine wpAnyH_ready (rs := [18]) (by kernel_rfl) (by simp) ?_
                refine AllReadyH.cons (i := 18) (o := ?oR20_18) ?hoR20_18 (fun Kq hK => ?stR20_18) (AllReadyH.nil)
                case hoR20_18 => simp only [List.getElem?_toArray, List.getElem?_cons_succ, List.getElem?_cons_zero]; rfl
                case stR20_18 =>
                  go_simp
                  have hC7 : Chg (gk :: vk.ownBlock.toList) w (w6.setCell ⟨gk, 0, none⟩ (.slice A6 (lk + 1) d6)) := H6.out.1.setCell (by simp) _
                  refine hK.out _ _ (hC7) (fun _ => ?_)
                  clear hK Kq c6 z6
                  try simp only [Act.put, List.setIfInBounds_toArray, List.set_cons_zero, List.set_cons_succ]
                  refine wpAnyH_done (by kernel_rfl) ?_ _
                  obtain ⟨w7, hw7⟩ : ∃ U, w6.setCell ⟨gk, 0, none⟩ (.slice A6 (lk + 1) d6) = U := ⟨_, rfl⟩
                  have HF : Hd (EsGood base gk vk acc w v w7 ∧ True) := ⟨by rw [← hw7]; exact ⟨⟨.slice A6 (lk + 1) d6, by rw [heap_setE w6 gk 0 _ _ _ H6.out.2.1]; rfl, by rw [List.length_append, HLK.out]; exact own_setF H6.out.2.2 (fun k hk => by have := (H6.out.2.2.lt k hk).1; have := HBS.out; omega), hC7⟩, trivial⟩⟩
                  try rw [hw7]
                  clear hC7 hw7
                  try clear hHeld
                  go_wp2_with fail
                  go_ret
                  exact .inr ⟨v, 3, HESC.out, rfl, HF.out.1⟩
        case stR31_12 =>
          go_simp
          (go_at_call 32; refine (hD2 wd).mono ?_; rintro e z ⟨rfl, hz⟩; obtain rfl := hz.symm)
          refine hK.out _ _ (HWD.out.1) (fun _ => ?_)
          clear hK Kq
          try simp only [Act.put, List.setIfInBounds_toArray, List.set_cons_zero, List.set_cons_succ]
          refine wpAnyH_take (i := 13) (oi := ?oi1401) (v := ?v1401) ?hi1401 (by kernel_rfl) (by kernel_rfl) (by kernel_rfl) ?hQ1401 (Or.inl ⟨?hw1401, ?hy1401⟩) (by assumption) ?rest1401
          case hi1401 => simp only [List.getElem?_toArray, List.getElem?_cons_succ, List.getElem?_cons_zero]; rfl
          case hQ1401 => exact fun _ _ _ h => h
          case hw1401 => rfl
          case hy1401 => (intro W hW; have f1 := HV.out.1; have f2 := HV.out.2.1; have f3 := HV.out.2.2; go_simp; all_goals rfl)
          simp only [Act.put, List.setIfInBounds_toArray, List.set_cons_zero, List.set_cons_succ]
          refine wpAnyH_take (i := 14) (oi := ?oi1402) (v := ?v1402) ?hi1402 (by kernel_rfl) (by kernel_rfl) (by kernel_rfl) ?hQ1402 (Or.inl ⟨?hw1402, ?hy1402⟩) (by assumption) ?rest1402
          case hi1402 => simp only [List.getElem?_toArray, List.getElem?_cons_succ, List.getElem?_cons_zero]; rfl
          case hQ1402 => exact fun _ _ _ h => h
          case hw1402 => rfl
          case hy1402 => (intro W hW; have f1 := HV.out.1; have f2 := HV.out.2.1; have f3 := HV.out.2.2; go_simp; all_goals rfl)
          simp only [Act.put, List.setIfInBounds_toArray, List.set_cons_zero, List.set_cons_succ]
          refine wpAnyH_ready (rs := [3, 15]) (by kernel_rfl) (by simp) ?_
          refine AllReadyH.cons (i := 3) (o := ?oR30_3) ?hoR30_3 (fun Kq hK => ?stR30_3) (AllReadyH.cons (i := 15) (o := ?oR30_15) ?hoR30_15 (fun Kq hK => ?stR30_15) (AllReadyH.nil))
          case hoR30_3 => simp only [List.getElem?_toArray, List.getElem?_cons_succ, List.getElem?_cons_zero]; rfl
          case hoR30_15 => simp only [List.getElem?_toArray, List.getElem?_cons_succ, List.getElem?_cons_zero]; rfl
          case stR30_3 =>
            go_simp
            refine hK.out _ _ (HWD.out.1) (fun _ => ?_)
            clear hK Kq
            try simp only [Act.put, List.setIfInBounds_toArray, List.set_cons_zero, List.set_cons_succ]
            refine wpAnyH_ready (rs := [15]) (by kernel_rfl) (by simp) ?_
            refine AllReadyH.cons (i := 15) (o := ?oR26_15) ?hoR26_15 (fun Kq hK => ?stR26_15) (AllReadyH.nil)
            case hoR26_15 => simp only [List.getElem?_toArray, List.getElem?_cons_succ, List.getElem?_cons_zero]; rfl
            case stR26_15 =>
              go_simp
              obtain ⟨gn, hgn⟩ : ∃ q, wd.heap.size = q := ⟨_, rfl⟩
              obtain ⟨wa, hwa⟩ : ∃ U, wd.alloc (.cells #[.int .u8 (v : Int)] 5) = U := ⟨_, rfl⟩
              have HWA : Hd (Chg (gk :: vk.ownBlock.toList) w wa ∧ wa.heap[gk]? = some (.cells #[vk] 28 (0, 0)) ∧ wa.ownsRowF base 5 1 vk lk (cb acc) ∧ (∀ j u, ([.int .u8 (v : Int)] : List Value)[j]? = some u → wa.cell? ((⟨gn, 0, none⟩ : Addr).add j) = some u)) := ⟨by
                rw [← hwa, ← hgn]
                refine ⟨HWD.out.1.alloc _, ?_, HWD.out.2.2.alloc _, fun j u hu => alloc_news wd [.int .u8 (v : Int)] _ j u hu⟩
                rw [heap_alloc_old _ _ (by have := HBS.out.2.2; have := HWD.out.1.size; omega)]; exact HWD.out.2.1⟩
              try rw [hwa]
              try rw [hgn]
              refine hK.out _ _ (HWA.out.1) (fun _ => ?_)
              clear hK Kq hwa hgn
              try simp only [Act.put, List.setIfInBounds_toArray, List.set_cons_zero, List.set_cons_succ]
              refine wpAnyH_ready (rs := [16]) (by kernel_rfl) (by simp) ?_
              refine AllReadyH.cons (i := 16) (o := ?oR25_16) ?hoR25_16 (fun Kq hK => ?stR25_16) (AllReadyH.nil)
              case hoR25_16 => simp only [List.getElem?_toArray, List.getElem?_cons_succ, List.getElem?_cons_zero]; rfl
              case stR25_16 =>
                refine step_appF elB rfl (.tmp 59) (.tmp 71) rfl base vk lk (cb acc) rfl HWA.out.2.2.1 ⟨gn, 0, none⟩ 1 1 [.int .u8 (v : Int)] rfl rfl HWA.out.2.2.2 (by intro u hu; rw [List.mem_singleton.1 hu]; rfl) (by unfold maxLen; omega) (by omega) (by have := HBS.out.2.1; have := HWA.out.1.size; omega) ?_
                intro v' w6 ho6 hg6
                have H6 : Hd (Chg (gk :: vk.ownBlock.toList) w w6 ∧ w6.heap[gk]? = some (.cells #[vk] 28 (0, 0)) ∧ w6.ownsRowF base 5 1 v' (lk + 1) (cb (acc ++ [v]))) := ⟨by
                  have k1 : Chg vk.ownBlock.toList wa w6 := ⟨hg6.os, hg6.tape, hg6.output, hg6.size, fun x hx hm => hg6.block x hx fun e => hm (by rw [Option.mem_toList]; exact e.symm)⟩
                  refine ⟨HWA.out.1.trans (k1.mono fun x hx _ => List.mem_cons_of_mem _ hx), (k1.block gk (by have := HBS.out; have := HWA.out.1.size; omega) fun hm => ?_).trans HWA.out.2.1, by rw [cb_append]; exact ho6⟩
                  rw [Option.mem_toList] at hm; have := (HWA.out.2.2.1.lt gk hm).1; have := HBS.out; omega⟩
                clear ho6 hg6
                obtain ⟨A6, d6, hv6⟩ := own_formF H6.out.2.2
                subst hv6
                refine hK.out _ _ (H6.out.1) (fun _ => ?_)
                clear hK Kq
                try simp only [Act.put, List.setIfInBounds_toArray, List.set_cons_zero, List.set_cons_succ]
                refine wpAnyH_take (i := 17) (oi := ?oi1501) (v := ?v1501) ?hi1501 (by kernel_rfl) (by kernel_rfl) (by kernel_rfl) ?hQ1501 (Or.inl ⟨?hw1501, ?hy1501⟩) (by assumption) ?rest1501
                case hi1501 => simp only [List.getElem?_toArray, List.getElem?_cons_succ, List.getElem?_cons_zero]; rfl
                case hQ1501 => exact fun _ _ _ h => h
                case hw1501 => rfl
                case hy1501 => (intro W hW; go_simp; all_goals rfl)
                simp only [Act.put, List.setIfInBounds_toArray, List.set_cons_zero, List.set_cons_succ]
                have c6 : w6.cell? ⟨gk, 0, none⟩ = some vk := by rw [cell_of_row w6 gk 0 _ _ (0, 0) H6.out.2.1]; rfl
                have z6 : w6.frozen? ⟨gk, 0, none⟩ = false := by simp [World.frozen?, H6.out.2.1]
                refine wpAnyH_ready (rs := [18]) (by kernel_rfl) (by simp) ?_
                refine AllReadyH.cons (i := 18) (o := ?oR24_18) ?hoR24_18 (fun Kq hK => ?stR24_18) (AllReadyH.nil)
                case hoR24_18 => simp only [List.getElem?_toArray, List.getElem?_cons_succ, List.getElem?_cons_zero]; rfl
                case stR24_18 =>
                  go_simp
                  have hC7 : Chg (gk :: vk.ownBlock.toList) w (w6.setCell ⟨gk, 0, none⟩ (.slice A6 (lk + 1) d6)) := H6.out.1.setCell (by simp) _
                  refine hK.out _ _ (hC7) (fun _ => ?_)
                  clear hK Kq c6 z6
                  try simp only [Act.put, List.setIfInBounds_toArray, List.set_cons_zero, List.set_cons_succ]
                  refine wpAnyH_done (by kernel_rfl) ?_ _
                  obtain ⟨w7, hw7⟩ : ∃ U, w6.setCell ⟨gk, 0, none⟩ (.slice A6 (lk + 1) d6) = U := ⟨_, rfl⟩
                  have HF : Hd (EsGood base gk vk acc w v w7 ∧ True) := ⟨by rw [← hw7]; exact ⟨⟨.slice A6 (lk + 1) d6, by rw [heap_setE w6 gk 0 _ _ _ H6.out.2.1]; rfl, by rw [List.length_append, HLK.out]; exact own_setF H6.out.2.2 (fun k hk => by have := (H6.out.2.2.lt k hk).1; have := HBS.out; omega), hC7⟩, trivial⟩⟩
                  try rw [hw7]
                  clear hC7 hw7
                  try clear hHeld
                  go_wp2_with fail
                  go_ret
                  exact .inr ⟨v, 3, HESC.out, rfl, HF.out.1⟩
          case stR30_15 =>
            go_simp
            obtain ⟨gn, hgn⟩ : ∃ q, wd.heap.size = q := ⟨_, rfl⟩
            obtain ⟨wa, hwa⟩ : ∃ U, wd.alloc (.cells #[.int .u8 (v : Int)] 5) = U := ⟨_, rfl⟩
            have HWA : Hd (Chg (gk :: vk.ownBlock.toList) w wa ∧ wa.heap[gk]? = some (.cells #[vk] 28 (0, 0)) ∧ wa.ownsRowF base 5 1 vk lk (cb acc) ∧ (∀ j u, ([.int .u8 (v : Int)] : List Value)[j]? = some u → wa.cell? ((⟨gn, 0, none⟩ : Addr).add j) = some u)) := ⟨by
              rw [← hwa, ← hgn]
              refine ⟨HWD.out.1.alloc _, ?_, HWD.out.2.2.alloc _, fun j u hu => alloc_news wd [.int .u8 (v : Int)] _ j u hu⟩
              rw [heap_alloc_old _ _ (by have := HBS.out.2.2; have := HWD.out.1.size; omega)]; exact HWD.out.2.1⟩
            try rw [hwa]
            try rw [hgn]
            refine hK.out _ _ (HWA.out.1) (fun _ => ?_)
            clear hK Kq hwa hgn
            try simp only [Act.put, List.setIfInBounds_toArray, List.set_cons_zero, List.set_cons_succ]
            have cga : wa.cell? ⟨gk, 0, none⟩ = some vk := by rw [cell_of_row wa gk 0 _ _ (0, 0) HWA.out.2.1]; rfl
            refine wpAnyH_ready (rs := [3]) (by kernel_rfl) (by simp) ?_
            refine AllReadyH.cons (i := 3) (o := ?oR29_3) ?hoR29_3 (fun Kq hK => ?stR29_3) (AllReadyH.nil)
            case hoR29_3 => simp only [List.getElem?_toArray, List.getElem?_cons_succ, List.getElem?_cons_zero]; rfl
            case stR29_3 =>
              go_simp
              refine hK.out _ _ (HWA.out.1) (fun _ => ?_)
              clear hK Kq
              try simp only [Act.put, List.setIfInBounds_toArray, List.set_cons_zero, List.set_cons_succ]
              refine wpAnyH_ready (rs := [16]) (by kernel_rfl) (by simp) ?_
              refine AllReadyH.cons (i := 16) (o := ?oR28_16) ?hoR28_16 (fun Kq hK => ?stR28_16) (AllReadyH.nil)
              case hoR28_16 => simp only [List.getElem?_toArray, List.getElem?_cons_succ, List.getElem?_cons_zero]; rfl
              case stR28_16 =>
                refine step_appF elB rfl (.tmp 59) (.tmp 71) rfl base vk lk (cb acc) rfl HWA.out.2.2.1 ⟨gn, 0, none⟩ 1 1 [.int .u8 (v : Int)] rfl rfl HWA.out.2.2.2 (by intro u hu; rw [List.mem_singleton.1 hu]; rfl) (by unfold maxLen; omega) (by omega) (by have := HBS.out.2.1; have := HWA.out.1.size; omega) ?_
                intro v' w6 ho6 hg6
                have H6 : Hd (Chg (gk :: vk.ownBlock.toList) w w6 ∧ w6.heap[gk]? = some (.cells #[vk] 28 (0, 0)) ∧ w6.ownsRowF base 5 1 v' (lk + 1) (cb (acc ++ [v]))) := ⟨by
                  have k1 : Chg vk.ownBlock.toList wa w6 := ⟨hg6.os, hg6.tape, hg6.output, hg6.size, fun x hx hm => hg6.block x hx fun e => hm (by rw [Option.mem_toList]; exact e.symm)⟩
                  refine ⟨HWA.out.1.trans (k1.mono fun x hx _ => List.mem_cons_of_mem _ hx), (k1.block gk (by have := HBS.out; have := HWA.out.1.size; omega) fun hm => ?_).trans HWA.out.2.1, by rw [cb_append]; exact ho6⟩
                  rw [Option.mem_toList] at hm; have := (HWA.out.2.2.1.lt gk hm).1; have := HBS.out; omega⟩
                clear ho6 hg6
                obtain ⟨A6, d6, hv6⟩ := own_formF H6.out.2.2
                subst hv6
                refine hK.out _ _ (H6.out.1) (fun _ => ?_)
                clear hK Kq
                try simp only [Act.put, List.setIfInBounds_toArray, List.set_cons_zero, List.set_cons_succ]
                refine wpAnyH_take (i := 17) (oi := ?oi1601) (v := ?v1601) ?hi1601 (by kernel_rfl) (by kernel_rfl) (by kernel_rfl) ?hQ1601 (Or.inl ⟨?hw1601, ?hy1601⟩) (by assumption) ?rest1601
                case hi1601 => simp only [List.getElem?_toArray, List.getElem?_cons_succ, List.getElem?_cons_zero]; rfl
                case hQ1601 => exact fun _ _ _ h => h
                case hw1601 => rfl
                case hy1601 => (intro W hW; go_simp; all_goals rfl)
                simp only [Act.put, List.setIfInBounds_toArray, List.set_cons_zero, List.set_cons_succ]
                have c6 : w6.cell? ⟨gk, 0, none⟩ = some vk := by rw [cell_of_row w6 gk 0 _ _ (0, 0) H6.out.2.1]; rfl
                have z6 : w6.frozen? ⟨gk, 0, none⟩ = false := by simp [World.frozen?, H6.out.2.1]
                refine wpAnyH_ready (rs := [18]) (by kernel_rfl) (by simp) ?_
                refine AllReadyH.cons (i := 18) (o := ?oR27_18) ?hoR27_18 (fun Kq hK => ?stR27_18) (AllReadyH.nil)
                case hoR27_18 => simp only [List.getElem?_toArray, List.getElem?_cons_succ, List.getElem?_cons_zero]; rfl
                case stR27_18 =>
                  go_simp
                  have hC7 : Chg (gk :: vk.ownBlock.toList) w (w6.setCell ⟨gk, 0, none⟩ (.slice A6 (lk + 1) d6)) := H6.out.1.setCell (by simp) _
                  refine hK.out _ _ (hC7) (fun _ => ?_)
                  clear hK Kq c6 z6
                  try simp only [Act.put, List.setIfInBounds_toArray, List.set_cons_zero, List.set_cons_succ]
                  refine wpAnyH_done (by kernel_rfl) ?_ _
                  obtain ⟨w7, hw7⟩ : ∃ U, w6.setCell ⟨gk, 0, none⟩ (.slice A6 (lk + 1) d6) = U := ⟨_, rfl⟩
                  have HF : Hd (EsGood base gk vk acc w v w7 ∧ True) := ⟨by rw [← hw7]; exact ⟨⟨.slice A6 (lk + 1) d6, by rw [heap_setE w6 gk 0 _ _ _ H6.out.2.1]; rfl, by rw [List.length_append, HLK.out]; exact own_setF H6.out.2.2 (fun k hk => by have := (H6.out.2.2.lt k hk).1; have := HBS.out; omega), hC7⟩, trivial⟩⟩
                  try rw [hw7]
                  clear hC7 hw7
                  try clear hHeld
                  go_wp2_with fail
                  go_ret
                  exact .inr ⟨v, 3, HESC.out, rfl, HF.out.1⟩
    · have h120b : ((x0 : Int) == 120) = false := beq_eq_false_iff_ne.2 (by omega)
      have HN : Hd (escF (x0 :: r1) = none) := ⟨by unfold escF; rw [List.getD_cons_zero, if_neg (by omega), if_neg h120]⟩
      clear h120 h9 h3
      go_wp2_with fail
      go_ret
      exact .inl ⟨HN.out, rfl, Chg.refl _ _⟩
  · have hl2i : ¬ (2 : Int) < (n : Int) := by omega
    have HN : Hd (escF (x0 :: r1) = none) := ⟨by
      have hg2 : (x0 :: r1).getD 2 0 = 0 := by rw [List.getD_eq_getElem?_getD, List.getElem?_eq_none (by rw [HL.out]; omega)]; rfl
      have hd0 : dig 0 = none := by decide
      unfold escF; rw [List.getD_cons_zero, if_neg (by omega), hg2, hd0]
      split
      · cases dig ((x0 :: r1).getD 1 0) <;> rfl
      · rfl⟩
    clear h9 h3
    go_wp2_with fail
    go_ret
    exact .inl ⟨HN.out, rfl, Chg.refl _ _⟩
end Go.Proofs.YtbcmjjcbjojakaaDoor
