/- What again puts behind bytes is just what was read. -/
import Derived.Test.YtjkenhkoakaaoaaAgain7
namespace Go.Proofs.Ytjkenhkoakaaoaa
open Go.RowKit
set_option linter.unusedVariables false
theorem tx1_data (l : List Nat) : (tx1 l).data.toList = l.map UInt8.ofNat := by
  unfold tx1; rw [strOfNums_data, List.map_map]; rfl
theorem tx1_size (l : List Nat) : (tx1 l).size = l.length := by
  have := congrArg List.length (tx1_data l)
  rw [List.length_map, Array.length_toList] at this
  exact this
theorem sb_tx1 (l : List Nat) (h : ∀ x ∈ l, x < 256) : sb (tx1 l) = l := by
  unfold sb
  rw [tx1_data, List.map_map]
  conv => rhs; rw [← List.map_id l]
  refine List.map_congr_left fun x hx => ?_
  have := h x hx
  simp only [Function.comp, UInt8.toNat_ofNat', id]
  omega
theorem tx_tx1 (ts : List (List Nat)) (h : ∀ t ∈ ts, ∀ x ∈ t, x < 256) : tx (ts.map tx1) = rws ts := by
  unfold tx rws
  rw [List.flatMap_map]
  induction ts with
  | nil => rfl
  | cons t ts ih =>
    rw [List.flatMap_cons, List.flatMap_cons, ih fun y hy => h y (by simp [hy]), tx1_size, sb_tx1 t (h t (by simp))]
    rfl
theorem rowsF_lb (bs : List Nat) (each : Nat) (hb : ∀ y ∈ bs, y < 256) : ∀ (k at_ a : Nat) (l : List (List Nat)), rowsF bs each k at_ = .ok (l, a) → ∀ t ∈ l, ∀ x ∈ t, x < 256
  | 0, at_, a, l, h => by cases h; simp
  | k + 1, at_, a, l, h => by
    unfold rowsF at h
    split at h
    · cases h
    rename_i b a1 hb1
    split at h
    · cases h
    rename_i l2 a2 hr
    cases h
    intro t ht
    rcases List.mem_cons.1 ht with h1 | h1
    · subst h1
      unfold blockF at hb1
      split at hb1
      · split at hb1
        · exact take_lb hb hb1
        · cases hb1
      · cases hb1
    · exact rowsF_lb bs each hb k a1 _ l2 hr t h1
theorem textsF_lb (bs : List Nat) (at_ : Nat) (most each : Int) (a : Nat) (l : List (List Nat)) (hb : ∀ y ∈ bs, y < 256) (h : textsF bs at_ most each = .ok (l, a)) : ∀ t ∈ l, ∀ x ∈ t, x < 256 := by
  unfold textsF at h
  split at h
  · cases h
  split at h
  · cases h
  split at h
  · exact rowsF_lb bs _ hb _ _ _ _ h
  · cases h
theorem rws_len (ts : List (List Nat)) : ts.length ≤ (rws ts).length := by
  induction ts with
  | nil => simp [rws]
  | cons t ts ih =>
    rw [rws_cons, List.length_append, List.length_cons]
    have := uv_len t.length
    unfold blk
    rw [List.length_append]
    omega
theorem redo_ok {α : Type} {bs : List Nat} {at_ at' : Nat} {o : Except Int (α × Nat)} {z a : α} (h : redo o z at_ 0 = (a, at', 0)) (hw : Well bs at_ o) : o = .ok (a, at') := by
  unfold redo at h
  rw [if_pos rfl] at h
  rcases ho : o with e | ⟨x, y⟩
  · rw [ho] at h hw
    simp only [Prod.mk.injEq] at h
    have : e = 0 := h.2.2
    subst this
    rcases hw with h | h | h <;> omega
  · rw [ho] at h
    simp only [Prod.mk.injEq] at h
    obtain ⟨rfl, rfl, _⟩ := h
    rfl
theorem fix_lt {bs : List Nat} {at_ k x a : Nat} (hb : ∀ y ∈ bs, y < 256) (h : fixF bs at_ k = .ok (x, a)) : x < 256 ^ k := by
  have := fix_bd bs at_ k 0 hb
  unfold redo at this
  rw [if_pos rfl, h] at this
  exact this
theorem slice_len (bs : List Nat) (a b : Nat) : ((bs.drop a).take (b - a)).length ≤ bs.length := by rw [List.length_take, List.length_drop]; omega
set_option maxHeartbeats 1000000 in
theorem again_told (w : World) (A AB AT : Option Addr) (n c cB cT B : Nat) (who N E : Int) (all bs : List Nat) (at_ at' k : Nat) (t : Tld) (hr : Rd w B A n (cb all)) (hrB : Rd w B AB t.B.length (cb t.B)) (hrT : Rd w B AT t.T.length (cs (t.T.map tx1))) (hB : B ≤ w.heap.size)
    (hn : n ≤ 1048576) (hl : bs.length ≤ 1048576) (hb : ∀ y ∈ bs, y < 256) (ha : at_ ≤ bs.length) (hk : k < 10) (h : askF bs at_ 0 N E k = (t, at', 0)) :
    Calls Try.prog 62 #[.slice A n c, .agg #[.int .i64 who, .int .i64 k, .int .i64 N, .int .i64 E], .agg #[.int .u64 t.U, .slice AB t.B.length cB, .slice AT t.T.length cT]] w (PutsOut w n all ((bs.drop at_).take (at' - at_))) := by
  have h64 : I64 (k : Int) := by unfold I64; omega
  have fixc : ∀ (j : Nat), numT (redo (fixF bs at_ j) 0 at_ 0) = (t, at', 0) → ∃ x : Nat, t = ⟨(x : Int), [], []⟩ ∧ x < 256 ^ j ∧ (bs.drop at_).take (at' - at_) = fx j x := by
    intro j h
    unfold numT at h
    obtain ⟨x, hx⟩ : ∃ x, (redo (fixF bs at_ j) 0 at_ 0).1 = x := ⟨_, rfl⟩
    rw [hx] at h
    have h2 : redo (fixF bs at_ j) 0 at_ 0 = (x, at', 0) := by rw [← hx, ← (Prod.mk.inj h).2]
    have h3 := redo_ok h2 (well_fix (bs := bs) j ha)
    exact ⟨x, (Prod.mk.inj h).1.symm, fix_lt hb h3, (fixF_form bs at_ j x at' hb h3).1⟩
  have numc : redo (numF bs at_) 0 at_ 0 = ((redo (numF bs at_) 0 at_ 0).1, at', 0) → ∃ x : Nat, (redo (numF bs at_) 0 at_ 0).1 = x ∧ x < 2 ^ 64 ∧ (bs.drop at_).take (at' - at_) = uv x := by
    intro h2
    have h3 := redo_ok h2 (well_num (bs := bs) hb ha)
    exact ⟨_, rfl, (numF_hi bs at_ _ at' hb h3).1, (numF_form bs at_ _ at' hb h3).1⟩
  have hsl := slice_len bs at_ at'
  have hcs : k = 0 ∨ k = 1 ∨ k = 2 ∨ k = 3 ∨ k = 4 ∨ k = 5 ∨ k = 6 ∨ k = 7 ∨ k = 8 ∨ k = 9 := by omega
  clear hk
  rcases hcs with rfl | rfl | rfl | rfl | rfl | rfl | rfl | rfl | rfl | rfl
  · obtain ⟨x, rfl, hx, e⟩ := fixc 1 h
    have := again_0 w A AB AT n c 0 cB 0 cT B who 0 N E x all [] [] hr hrB hrT hB (by simp [tx]; omega) h64 (by decide) (by omega) (by omega)
    rw [Int.toNat_natCast, ← e] at this; exact this
  · obtain ⟨x, rfl, hx, e⟩ := fixc 2 h
    have := again_1 w A AB AT n c 0 cB 0 cT B who 1 N E x all [] [] hr hrB hrT hB (by simp [tx]; omega) h64 (by decide) (by omega) (by omega)
    rw [Int.toNat_natCast, ← e] at this; exact this
  · obtain ⟨x, rfl, hx, e⟩ := fixc 4 h
    have := again_2 w A AB AT n c 0 cB 0 cT B who 2 N E x all [] [] hr hrB hrT hB (by simp [tx]; omega) h64 (by decide) (by omega) (by omega)
    rw [Int.toNat_natCast, ← e] at this; exact this
  · obtain ⟨x, rfl, hx, e⟩ := fixc 8 h
    have := again_3 w A AB AT n c 0 cB 0 cT B who 3 N E x all [] [] hr hrB hrT hB (by simp [tx]; omega) h64 (by decide) (by omega) (by omega)
    rw [Int.toNat_natCast, ← e] at this; exact this
  · obtain ⟨x, rfl, hx, e⟩ := fixc 2 h
    have := again_4 w A AB AT n c 0 cB 0 cT B who 4 N E x all [] [] hr hrB hrT hB (by simp [tx]; omega) h64 (by decide) (by omega) (by omega)
    rw [Int.toNat_natCast, ← e] at this; exact this
  · have h : numT (redo (numF bs at_) 0 at_ 0) = (t, at', 0) := h
    unfold numT at h
    obtain ⟨x, hx1, hx2, e⟩ := numc (by rw [← (Prod.mk.inj h).2])
    rw [hx1] at h
    obtain rfl := (Prod.mk.inj h).1
    have := again_5 w A AB AT n c 0 cB 0 cT B who 5 N E x all [] [] hr hrB hrT hB (by simp [tx]; omega) h64 (by decide) (by omega) (by omega)
    rw [Int.toNat_natCast, ← e] at this; exact this
  · have h : zagT (redo (numF bs at_) 0 at_ 0) = (t, at', 0) := h
    unfold zagT at h
    obtain ⟨x, hx1, hx2, e⟩ := numc (by rw [← (Prod.mk.inj h).2])
    rw [hx1] at h
    obtain rfl := (Prod.mk.inj h).1
    have hu := unz_bd (x : Int) (by omega) (by omega)
    have := again_6 w A AB AT n c 0 cB 0 cT B who 6 N E (IntKind.u64.wrap (unz (x : Int))) all [] [] hr hrB hrT hB (by simp [tx]; omega) h64 (by decide) (unz (x : Int)) hu.1 hu.2 rfl
    rw [zig_unz (x : Int) (by omega), Int.toNat_natCast, ← e] at this; exact this
  · have h : bytT (redo (bytesF bs at_ N) [] at_ 0) = (t, at', 0) := h
    unfold bytT at h
    have h2 : redo (bytesF bs at_ N) [] at_ 0 = ((redo (bytesF bs at_ N) [] at_ 0).1, at', 0) := by rw [← (Prod.mk.inj h).2]
    have h3 := redo_ok h2 (well_bytes (bs := bs) N ha)
    have ht := (Prod.mk.inj h).1
    obtain ⟨l, hl⟩ : ∃ l, (redo (bytesF bs at_ N) [] at_ 0).1 = l := ⟨_, rfl⟩
    rw [hl] at h3 ht
    subst ht
    unfold bytesF at h3
    split at h3
    · cases h3
    obtain ⟨e1, e2, _, e4⟩ := takeF_form _ _ _ _ _ h3
    have he : (bs.drop at_).take (at' - at_) = l := by rw [e1, e2]; congr 1; omega
    have hll : l.length ≤ 1048576 := by rw [← he]; omega
    have := again_7 w A AB AT n c l.length cB 0 cT B who 7 N E 0 all l [] hr hrB hB (by omega) h64 (by decide)
    rw [he]; exact this
  · have h : bytT (redo (blkF bs at_ N) [] at_ 0) = (t, at', 0) := h
    unfold bytT at h
    have h2 : redo (blkF bs at_ N) [] at_ 0 = ((redo (blkF bs at_ N) [] at_ 0).1, at', 0) := by rw [← (Prod.mk.inj h).2]
    have h3 := redo_ok h2 (well_blk (bs := bs) N hb ha)
    have ht := (Prod.mk.inj h).1
    obtain ⟨l, hl⟩ : ∃ l, (redo (blkF bs at_ N) [] at_ 0).1 = l := ⟨_, rfl⟩
    rw [hl] at h3 ht
    subst ht
    unfold blkF at h3
    split at h3
    · cases h3
    have he := (blockF_form bs at_ _ at' l hb h3).1
    have hll : l.length ≤ 1048576 := by
      have : (blk l).length ≤ 1048576 := by rw [← he]; omega
      unfold blk at this; rw [List.length_append] at this; omega
    have := again_8 w A AB AT n c l.length cB 0 cT B who 8 N E 0 all l [] hr hrB hrT hB (by simp [tx]; omega) h64 (by decide)
    rw [he]; exact this
  · have h : txtT (redo (textsF bs at_ N E) [] at_ 0) = (t, at', 0) := h
    unfold txtT at h
    have h2 : redo (textsF bs at_ N E) [] at_ 0 = ((redo (textsF bs at_ N E) [] at_ 0).1, at', 0) := by rw [← (Prod.mk.inj h).2]
    have h3 := redo_ok h2 (well_texts (bs := bs) N E hb ha)
    have ht := (Prod.mk.inj h).1
    obtain ⟨l, hl⟩ : ∃ l, (redo (textsF bs at_ N E) [] at_ 0).1 = l := ⟨_, rfl⟩
    rw [hl] at h3 ht
    subst ht
    have he := (textsF_form bs at_ N E at' l hb h3).1
    have hx := tx_tx1 l (textsF_lb bs at_ N E at' l hb h3)
    have hll : (txts l).length ≤ 1048576 := by rw [← he]; omega
    have hln := rws_len l
    unfold txts at hll
    rw [List.length_append] at hll
    have := again_9 w A AB AT n c 0 cB l.length cT B who 9 N E 0 all [] (l.map tx1) hr hrB hrT hB (by rw [hx]; omega) h64 (by decide)
    rw [he]
    unfold txts
    rw [hx] at this
    exact this
end Go.Proofs.Ytjkenhkoakaaoaa
