/- Contracts of the laws' longest, of sameTexts at lists of unlike lengths, and of back at texts. -/
import Derived.Test.YtjkenhkoakaaoaaBackC
import Derived.Test.YtjkenhkoakaaoaaAgainT
import Derived.WalkLawsBesides
namespace Go.Proofs.Ytjkenhkoakaaoaa
open Go.RowKit
set_option linter.unusedVariables false
set_option linter.unusedSimpArgs false
set_option maxRecDepth 20000
/-- The longest of texts. -/
def lmax (ts : List ByteArray) : Nat := ts.foldl (fun m t => max m t.size) 0
theorem lmax_snoc (ts : List ByteArray) (t : ByteArray) : lmax (ts ++ [t]) = max (lmax ts) t.size := by unfold lmax; rw [List.foldl_append]; rfl
theorem foldl_max_le (f : ByteArray → Nat) (N : Nat) : ∀ (ts : List ByteArray) (m : Nat), m ≤ N → (∀ t ∈ ts, f t ≤ N) → ts.foldl (fun m t => max m (f t)) m ≤ N
  | [], m, h, _ => h
  | t :: ts, m, h, ht => foldl_max_le f N ts _ (by have := ht t (by simp); show max m (f t) ≤ N; omega) fun x hx => ht x (by simp [hx])
theorem lmax_le (ts : List ByteArray) (N : Nat) (h : ∀ t ∈ ts, t.size ≤ N) : lmax ts ≤ N := foldl_max_le _ N ts 0 (Nat.zero_le _) h
theorem foldl_max_ge (f : ByteArray → Nat) : ∀ (ts : List ByteArray) (m : Nat), m ≤ ts.foldl (fun m t => max m (f t)) m ∧ ∀ t ∈ ts, f t ≤ ts.foldl (fun m t => max m (f t)) m
  | [], m => ⟨Nat.le_refl _, by simp⟩
  | t :: ts, m => by
    obtain ⟨h1, h2⟩ := foldl_max_ge f ts (max m (f t))
    refine ⟨by rw [List.foldl_cons]; omega, fun x hx => ?_⟩
    rw [List.foldl_cons]
    rcases List.mem_cons.1 hx with h | h
    · subst h; omega
    · exact h2 x h
theorem le_lmax (ts : List ByteArray) (t : ByteArray) (h : t ∈ ts) : t.size ≤ lmax ts := (foldl_max_ge _ ts 0).2 t h
set_option maxHeartbeats 1000000 in
theorem longest_any (w : World) (A : Option Addr) (n c B : Nat) (ts : List ByteArray) (hr : Rd w B A n (cs ts)) (hn : n ≤ 4194304) (hs : ∀ t ∈ ts, t.size ≤ 4194304) :
    Calls Try.prog 52 #[.slice A n c] w fun e w' => e = .returned (.int .i64 (lmax ts : Int)) ∧ w = w' := by
  have hl : ts.length = n := by have := hr.1; rwa [cs_len] at this
  have HH : Hd (Rd w B A n (cs ts) ∧ ts.length = n ∧ ∀ t ∈ ts, t.size ≤ 4194304) := ⟨hr, hl, hs⟩
  clear hr hl hs
  go_enter Try.func52, Try.ntmps52
  go_wp2_with fail
  go_loop [3, 4] (fun m i => ∃ k : Nat, k ≤ n ∧ i = .int .i64 k ∧ m = .int .i64 (lmax (ts.take k) : Int)) (fun _ i => n - (intOf i).toNat)
  case atStart => exact ⟨0, Nat.zero_le _, rfl, rfl⟩
  case round =>
    obtain ⟨k, hk, rfl, rfl⟩ := hrel
    have hm1 : ((lmax (ts.take k) : Nat) : Int) ≤ 4194304 := by have := lmax_le (ts.take k) 4194304 fun t ht => HH.out.2.2 t (List.mem_of_mem_take ht); omega
    obtain ⟨M, hM⟩ : ∃ M : Int, ((lmax (ts.take k) : Nat) : Int) = M := ⟨_, rfl⟩
    have HM := Hd.mk hM
    have hm0 : 0 ≤ M := by omega
    rw [hM] at hm1 ⊢
    clear hM
    by_cases hlt : k < n
    · obtain ⟨g, off, u, rfl, hg, hu, hc⟩ := HH.out.1.at_ hlt
      rw [cs_get ts k (by rw [HH.out.2.1]; exact hlt)] at hu
      injection hu with hu
      subst hu
      have hst : (ts.getD k ByteArray.empty).size ≤ 4194304 := HH.out.2.2 _ (by rw [List.getD_eq_getElem?_getD, List.getElem?_eq_getElem (by rw [HH.out.2.1]; exact hlt)]; exact List.getElem_mem _)
      have HT : Hd (ts.take (k + 1) = ts.take k ++ [ts.getD k ByteArray.empty]) := ⟨by rw [List.take_succ_eq_append_getElem (by rw [HH.out.2.1]; exact hlt), List.getD_eq_getElem?_getD, List.getElem?_eq_getElem (by rw [HH.out.2.1]; exact hlt)]; rfl⟩
      obtain ⟨T, hT⟩ : ∃ T, ts.getD k ByteArray.empty = T := ⟨_, rfl⟩
      rw [hT] at hc hst
      have HT2 := Hd.mk hT
      clear hT
      go_wp2_with fail
      all_goals
        go_round
        case rel =>
          refine ⟨k + 1, by omega, by go_num, ?_⟩
          rw [HT.out, HT2.out, lmax_snoc]
          have := HM.out
          first | (congr 1; omega) | (simp; omega)
        case measure => simp [intOf]; omega
    · have hkn : k = n := by omega
      go_wp2_with fail
      go_ret
      refine ⟨ret_int ?_, rfl⟩
      rw [← HM.out, List.take_of_length_le (by rw [HH.out.2.1]; omega)]
theorem sameTexts_ne (w : World) (A1 A2 : Option Addr) (n1 n2 c1 c2 : Nat) (hn1 : n1 ≤ 4398046511104) (hn2 : n2 ≤ 4398046511104) (hne : n1 ≠ n2) :
    Calls Try.prog 54 #[.slice A1 n1 c1, .slice A2 n2 c2] w fun e w' => e = .returned (.bool false) ∧ w = w' := by
  have h1 : ((n1 : Int) != (n2 : Int)) = true := by simp; omega
  clear hne
  go_enter Try.func54, Try.ntmps54
  go_wp2_with fail
  go_ret
  exact ⟨rfl, rfl⟩
theorem same_case (w1 : World) (A2 AT : Option Addr) (c3 cT nT : Nat) (r : List (List Nat)) (lT : List ByteArray) (B : Nat) (h1 : Rd w1 B A2 r.length (cs (r.map tx1))) (h2 : Rd w1 B AT nT (cs lT)) (hl : lT.length = nT) (hn : nT ≤ 4194304) (hcase : r.map tx1 = lT ∨ r = []) :
    Calls Try.prog 54 #[.slice A2 r.length c3, .slice AT nT cT] w1 (fun e w' => ∃ b, e = .returned (.bool b) ∧ Below w1.heap.size w1 w' ∧ (r.map tx1 = lT → b = true)) := by
  by_cases he : r.map tx1 = lT
  · have hrl : r.length = nT := by rw [← hl, ← he, List.length_map]
    rw [he] at h1
    rw [hrl] at h1 ⊢
    exact (sameTexts_any w1 A2 AT nT c3 cT B lT h1 h2 (by omega)).mono fun e w' ⟨h, hb⟩ => ⟨true, h, hb, fun _ => rfl⟩
  · rcases hcase with h | h
    · exact absurd h he
    · subst h
      have : nT ≠ 0 := by
        intro h0
        apply he
        rw [h0] at hl
        rw [List.eq_nil_of_length_eq_zero hl]; rfl
      exact (sameTexts_ne w1 A2 AT 0 nT c3 cT (by omega) (by omega) (by omega)).mono fun e w' ⟨h, hb⟩ => ⟨false, h, by subst hb; exact Below.refl _ _, fun h => absurd h he⟩
theorem lt_of_cell {w : World} {g o : Nat} {v : Value} (h : w.cell? ⟨g, o, none⟩ = some v) : g < w.heap.size := World.block_lt_of_cell? w _ h
set_option maxHeartbeats 1000000 in
theorem back_8 (w : World) (gr n c at_ : Nat) (fl : Int) (A : Option Addr) (bs : List Nat) (kind U S : Int) (AB AT : Option Addr) (nB cB nT cT : Nat) (hk : I64 kind) (hj : kind % 9 = 8) (R : Rr w gr A n c at_ fl bs) (lT : List ByteArray) (B : Nat) (hrT : Rd w B AT nT (cs lT)) (hBg : B ≤ gr) (hnT : nT ≤ 4194304) (hsT : ∀ t ∈ lT, t.size ≤ 4194304)
    (hcase : (redo (textsF bs at_ (nT : Int) (lmax lT : Int)) [] at_ fl).1.map tx1 = lT ∨ (redo (textsF bs at_ (nT : Int) (lmax lT : Int)) [] at_ fl).1 = []) :
    Calls Try.prog 61 #[.pointer (some ⟨gr, 0, none⟩), .agg #[.int .i64 kind, .int .u64 U, .int .i64 S, .slice AB nB cB, .slice AT nT cT]] w fun e w' =>
      ∃ b, e = .returned (.bool b) ∧ Chg [gr] w w' ∧ Rr w' gr A n c (redo (textsF bs at_ (nT : Int) (lmax lT : Int)) [] at_ fl).2.1 (redo (textsF bs at_ (nT : Int) (lmax lT : Int)) [] at_ fl).2.2 bs ∧ ((redo (textsF bs at_ (nT : Int) (lmax lT : Int)) [] at_ fl).1.map tx1 = lT → b = true) := by
  obtain ⟨W1, hW⟩ : ∃ W1, w.alloc (.cells #[.int .i64 kind, .int .u64 U, .int .i64 S, .slice AB nB cB, .slice AT nT cT] 98) = W1 := ⟨_, rfl⟩
  have HW := Hd.mk hW
  have H1 : Hd (Chg [gr] w W1 ∧ Rr W1 gr A n c at_ fl bs ∧ gr < w.heap.size ∧ w.heap.size < W1.heap.size) := by
    rw [← hW]
    exact ⟨(Chg.refl _ _).alloc _, R.keep' ((Chg.refl [] w).alloc _) (by simp), R.lt, by simp⟩
  have HB : Hd (Rd W1 B AT nT (cs lT) ∧ B ≤ gr ∧ B ≤ W1.heap.size ∧ lT.length = nT ∧ (∀ t ∈ lT, t.size ≤ 4194304)) := ⟨H1.out.1.rd hrT (by have := H1.out.2.2.1; omega) (by simpa using hBg), hBg, by have := H1.out.2.2; omega, by have := hrT.1; rwa [cs_len] at this, hsT⟩
  have HQ := Hd.mk hcase
  have hc : W1.cell? ⟨w.heap.size, 4, none⟩ = some (.slice AT nT cT) := by rw [← hW]; simp
  have HLM : Hd (lmax lT ≤ 4194304) := ⟨lmax_le lT _ hsT⟩
  clear hrT hBg hW R hcase hsT
  go_enter Try.func61, Try.ntmps61
  go_wp2_with fail
  refine (pick_any _ kind 9 hk (by omega) (by omega)).mono ?_
  rw [hj]
  rintro e z ⟨rfl, rfl⟩
  clear hj hk
  go_wp2_with fail
  rw [HW.out]
  go_region_held3 (fun w' => w'.cell? ⟨w.heap.size, 4, none⟩ = some (.slice AT nT cT))
    (first | (exact hc3) | (exact hc2) | (exact hc) | go_keep)
    (first
    | (go_at_call 52
       refine (longest_any W1.drew AT nT cT B lT (show Rd W1.drew B AT nT (cs lT) from HB.out.1) hnT HB.out.2.2.2.2).mono ?_
       rintro e z ⟨rfl, rfl⟩)
    | (go_at_call 51
       refine (texts_any _ gr n c at_ fl A bs (nT : Int) (lmax lT : Int) (by omega) (by have := HLM.out; omega) H1.out.2.1.drew).mono ?_
       rintro e w1 ⟨v, rfl, hch, hk, hr⟩
       unfold KTxt at hk
       obtain ⟨A2, c3, rfl, _, _⟩ := own_form hk
       have hc2 : w1.cell? ⟨w.heap.size, 4, none⟩ = some (.slice AT nT cT) := (hch.cell (p := ⟨w.heap.size, 4, none⟩) H1.out.2.2.2 (by have := H1.out.2.2.1; simp; omega)).trans hc
       have H2 : Hd (Chg [gr] w w1 ∧ Rr w1 gr A n c (redo (textsF bs at_ (nT : Int) (lmax lT : Int)) [] at_ fl).2.1 (redo (textsF bs at_ (nT : Int) (lmax lT : Int)) [] at_ fl).2.2 bs ∧ Rd w1 B AT nT (cs lT) ∧
         Rd w1 w1.heap.size A2 (redo (textsF bs at_ (nT : Int) (lmax lT : Int)) [] at_ fl).1.length (cs ((redo (textsF bs at_ (nT : Int) (lmax lT : Int)) [] at_ fl).1.map tx1))) := ⟨H1.out.1.trans hch.of_drew, hr, hch.of_drew.rd HB.out.1 HB.out.2.2.1 (by simpa using HB.out.2.1), Rd.of_own hk⟩
       have HS1 : Hd (W1.heap.size ≤ w1.heap.size) := ⟨hch.of_drew.size⟩
       clear hch hr hk)
    | (go_at_call 54
       refine (show Calls Try.prog 54 _ _ (fun e w' => ∃ b, e = .returned (.bool b) ∧ Below w1.heap.size w1 w' ∧ ((redo (textsF bs at_ (nT : Int) (lmax lT : Int)) [] at_ fl).1.map tx1 = lT → b = true)) from ?_).mono ?_
       · exact same_case w1 A2 AT c3 cT nT _ lT w1.heap.size H2.out.2.2.2 (H2.out.2.2.1.more (Nat.le_trans HB.out.2.2.1 HS1.out)) HB.out.2.2.2.1 hnT HQ.out
       rintro e w2 ⟨b, rfl, hb, hbb⟩
       have hc3 : w2.cell? ⟨w.heap.size, 4, none⟩ = some (.slice AT nT cT) := (hb.cell (p := ⟨w.heap.size, 4, none⟩) (lt_of_cell hc2)).trans hc2
       have H3 : Hd (Below w1.heap.size w1 w2 ∧ ((redo (textsF bs at_ (nT : Int) (lmax lT : Int)) [] at_ fl).1.map tx1 = lT → b = true)) := ⟨hb, hbb⟩
       clear hb hbb))
  go_wp2_with fail
  go_ret
  refine ⟨_, rfl, H2.out.1.then_below (H3.out.1.mono ?_), H2.out.2.1.below H3.out.1 (lt_of_cell H2.out.2.1.c0), H3.out.2⟩
  exact H2.out.1.size
end Go.Proofs.Ytjkenhkoakaaoaa
