/- Contract of the reader's chunk. (tools/chunkgen.py prints it.) -/
import Derived.Test.YtbcmjjcbjojakaaMsgM
import Derived.Test.YtbcmjjcbjojakaaPk9
namespace Go.Proofs.Ytbcmjjcbjojakaa
open Go.RowKit
set_option linter.unusedVariables false
set_option linter.unusedSimpArgs false
/-- What a chunk comes to. -/
def CkLaw {T : Type} (Z : Kd T) (N : Nat) (w' : World) (m : Mid) (bs : List Nat) (ws : List Wm) (xs : List T) (r : Nat) (m' : Mid) (fl' : Int) (ws' : List Wm) (xs' : List T) : Prop :=
 match ckP m.s m.k bs with
 | .wait => r = 0 ∧ fl' = 0 ∧ m' = m ∧ ws' = ws ∧ xs' = xs
 | .bad e => r = 0 ∧ fl' = e ∧ ws' = ws ∧ xs' = xs
 | .ok false n => r = n + 11 ∧ fl' = 0 ∧ m' = m.next bs n ∧ ws' = ws ∧ xs' = xs
 | .ok true n => r = n + 11 ∧ m' = mid0 ∧ ((∃ x W, Z.rd (m.next bs n).c = some x ∧ fl' = 0 ∧ xs' = xs ++ [x] ∧ ws' = ws ++ [W] ∧ W.ok w' N) ∨ (Z.rd (m.next bs n).c = none ∧ fl' = 300 ∧ ws' = ws ∧ xs' = xs))
def CkDone {T : Type} (Z : Kd T) (base : Nat) (w : World) (g : Nat) (vl vc vq : Value) (L : List Nat) (m : Mid) (bs : List Nat) (ws : List Wm) (xs : List T) (e : Ending) (w' : World) : Prop :=
 ∃ (r : Nat) (vc' vq' : Value) (m' : Mid) (C' : Nat) (fl' : Int) (ws' : List Wm) (xs' : List T), e = .returned (.int .i64 (r : Int)) ∧ RdS Z base w' g vl vc' vq' L m'.c m'.s C' m'.k m'.p fl' ws' xs' ∧ Chg (rdY g vc vq) w w' ∧ (∀ x ∈ rdY g vc' vq', x ∈ rdY g vc vq ∨ w.heap.size ≤ x) ∧ CkLaw Z w.heap.size w' m bs ws xs r m' fl' ws' xs'
theorem rd_seg {w : World} {B n c l h : Nat} {A : Option Addr} {bs : List Nat} (hr : Rd w B A n (cb bs)) (h1 : l ≤ h) (h2 : h ≤ n) (h3 : n ≤ c) : Rd w B (cutA A c l) (h - l) (cb (seg bs l (h - l))) := by
 have := hr.cut (c := c) h1 h2 h3
 unfold seg
 rw [← cb_take, ← cb_drop]; exact this
theorem ckN_eq (bs : List Nat) (h : 3 ≤ bs.length) : le256 (seg bs 1 2) = ckN bs := by
 match bs, h with
 | a :: b :: c :: l, _ => simp [seg, ckN, le256]
theorem seg_lt {bs : List Nat} (h : ∀ x ∈ bs, x < 256) (i n : Nat) : ∀ x ∈ seg bs i n, x < 256 := fun x hx => h x (List.mem_of_mem_drop (List.mem_of_mem_take hx))
theorem seg_len {bs : List Nat} {i n : Nat} (h : i + n ≤ bs.length) : (seg bs i n).length = n := by unfold seg; rw [List.length_take, List.length_drop]; omega
section
variable {T : Type} {Z : Kd T} {N : Nat} {w' : World} {c : List Nat} {S k p : Nat} {bs : List Nat} {ws : List Wm} {xs : List T}
theorem CkLaw.wait (h : ckP S k bs = .wait) : CkLaw Z N w' ⟨c, S, k, p⟩ bs ws xs 0 ⟨c, S, k, p⟩ 0 ws xs := by unfold CkLaw; simp only; rw [h]; simp
theorem CkLaw.bad {e : Int} {m' : Mid} (h : ckP S k bs = .bad e) : CkLaw Z N w' ⟨c, S, k, p⟩ bs ws xs 0 m' e ws xs := by unfold CkLaw; simp only; rw [h]; simp
end
set_option maxRecDepth 20000 in
set_option maxHeartbeats 16000000 in
theorem chunk_any0 {T : Type} (Z : Kd T) (base : Nat) (w : World) (g : Nat) (vl vc vq : Value) (L c : List Nat) (S C k p : Nat) (ws : List Wm) (xs : List T) (h : RdS Z base w g vl vc vq L c S C k p 0 ws xs) (A : Option Addr) (n cp : Nat) (bs : List Nat) (hr : Rd w w.heap.size A n (cb bs)) (hn : n ≤ cp) (hl : ∀ x ∈ bs, x < 256) (hn40 : n ≤ 1099511627776)
  (hA : ∀ gg off, A = some ⟨gg, off, none⟩ → 0 < n → gg ∉ rdY g vc vq) (hk : k ≤ 2047) (hcl : c.length ≤ 16384 * k) (hp : p ≤ 16395 * k)
  (HMS : ∀ (w1 : World) (vc1 : Value) (c1 : List Nat) (S1 C1 k1 p1 : Nat), RdS Z base w1 g vl vc1 vq L c1 S1 C1 k1 p1 0 ws xs → c1.length ≤ 67108864 → Calls Try.prog 102 #[.pointer (some ⟨g, 0, none⟩)] w1 (MsgDone Z base w1 g vl vc1 vq L c1 0 ws xs)) :
  Calls Try.prog 78 #[.pointer (some ⟨g, 0, none⟩), .slice A n cp] w (CkDone Z base w g vl vc vq L ⟨c, S, k, p⟩ bs ws xs) := by
 have hbl : bs.length = n := by have := hr.1; rwa [cb_length] at this
 have H0 := Hd.mk h
 have HM := Hd.mk HMS
 have HR : Hd (Rd w w.heap.size A n (cb bs) ∧ (∀ x ∈ bs, x < 256) ∧ bs.length = n) := ⟨hr, hl, hbl⟩
 have HRW : Hd (∀ W, Chg (rdY g vc vq) w W → Rd W W.heap.size A n (cb bs)) := ⟨fun W b => (b.rd' hr (Nat.le_refl _) hA).more b.size⟩
 have HKN : Hd (c.length ≤ 16384 * k ∧ p ≤ 16395 * k) := ⟨hcl, hp⟩
 have hp2 : p ≤ 33560565 := by omega
 have HKE : Hd (∀ w1, Chg [] w w1 → RdS Z base w1 g vl vc vq L c S C k p 0 ws xs ∧ Chg (rdY g vc vq) w w1) := ⟨fun w1 b => ⟨h.new b, b.mono (by simp)⟩⟩
 have HYS : Hd (∀ x ∈ rdY g vc vq, x ∈ rdY g vc vq ∨ w.heap.size ≤ x) := ⟨fun x hx => .inl hx⟩
 clear h HMS hr hl hbl hcl hp hA
 go_enter Try.func78, Try.ntmps78
 by_cases h7 : n < 7
 ·have h7i : (n : Int) < 7 := by omega
  go_wp2_with fail
  go_ret
  exact ⟨0, vc, vq, ⟨c, S, k, p⟩, C, 0, ws, xs, rfl, H0.out, Chg.refl _ _, HYS.out, CkLaw.wait (by unfold ckP; rw [if_pos (by have := HR.out.2.2; omega)])⟩
 have h7i : ¬ (n : Int) < 7 := by omega
 have hcp3 : 3 ≤ cp := by omega
 have hcp7 : 7 ≤ cp := by omega
 have hcp3i : (3 : Int) ≤ (cp : Int) := by omega
 have hcp7i : (7 : Int) ≤ (cp : Int) := by omega
 have s13 : ∀ w, (Instr.slice 26 (.slice A n cp) (some (.int .i64 1)) (some (.int .i64 3)) none).run Try.prog w = .ok (.slice (cutA A cp 1) 2 (cp - 1)) w := fun w => run_cut elB A n cp 1 3 (by omega) (by omega)
 have s03 : ∀ w, (Instr.slice 26 (.slice A n cp) none (some (.int .i64 3)) none).run Try.prog w = .ok (.slice A 3 cp) w := fun w => run_cut_to elB A n cp 3 (by omega)
 have s37 : ∀ w, (Instr.slice 26 (.slice A n cp) (some (.int .i64 3)) (some (.int .i64 7)) none).run Try.prog w = .ok (.slice (cutA A cp 3) 4 (cp - 3)) w := fun w => run_cut elB A n cp 3 7 (by omega) (by omega)
 obtain ⟨N0, hN0⟩ : ∃ N, ckN bs = N := ⟨_, rfl⟩
 have HN0 := Hd.mk hN0
 have hNL : N0 < 65536 := by
  have h1 := le256_lt (seg bs 1 2) (seg_lt HR.out.2.1 1 2)
  rw [ckN_eq bs (by have := HR.out.2.2; omega), seg_len (by have := HR.out.2.2; omega), hN0] at h1
  omega
 clear hN0
 go_wp2_with fail
 refine (wnum_any w (cutA A cp 1) 2 (cp - 1) w.heap.size (seg bs 1 2) (rd_seg (l := 1) (h := 3) HR.out.1 (by omega) (by omega) hn) (seg_lt HR.out.2.1 1 2) (by omega)).mono ?_
 rw [ckN_eq bs (by have := HR.out.2.2; omega), HN0.out]
 rintro e w1 ⟨rfl, hw1⟩
 subst hw1
 go_upto_region 4 with fail
 obtain ⟨q1, hq1⟩ : ∃ q, Crc.more 0 (bs.take 3) = q := ⟨_, rfl⟩
 obtain ⟨q2, hq2⟩ : ∃ q, le256 (seg bs 3 4) = q := ⟨_, rfl⟩
 have HQ : Hd (Crc.more 0 (bs.take 3) = q1 ∧ le256 (seg bs 3 4) = q2) := ⟨hq1, hq2⟩
 clear hq1 hq2
 refine wp_region_held_drew (S := fun _ => True) (by kernel_rfl) trivial (fun hHeld => ?_)
 have H1 : Hd (RdS Z base w.drew g vl vc vq L c S C k p 0 ws xs ∧ Chg (rdY g vc vq) w w.drew) := ⟨HKE.out _ (Chg.refl [] w).drew⟩
 obtain ⟨w1, hw1⟩ : ∃ U, w.drew = U := ⟨_, rfl⟩
 rw [hw1] at H1 ⊢
 clear hw1
 refine wpAnyH_take (i := 0) (oi := ?oi101) (v := ?v101) ?hi101 (by kernel_rfl) (by kernel_rfl) (by kernel_rfl) ?hQ101 (Or.inl ⟨?hw101, ?hy101⟩) (by assumption) ?rest101
 case hi101 => simp only [List.getElem?_toArray, List.getElem?_cons_succ, List.getElem?_cons_zero]; rfl
 case hQ101 => exact fun _ _ _ h => h
 case hw101 => rfl
 case hy101 => (intro W hW; go_simp; all_goals rfl)
 simp only [Act.put, List.setIfInBounds_toArray, List.set_cons_zero, List.set_cons_succ]
 refine wpAnyH_take (i := 1) (oi := ?oi102) (v := ?v102) ?hi102 (by kernel_rfl) (by kernel_rfl) (by kernel_rfl) ?hQ102 (Or.inl ⟨?hw102, ?hy102⟩) (by assumption) ?rest102
 case hi102 => simp only [List.getElem?_toArray, List.getElem?_cons_succ, List.getElem?_cons_zero]; rfl
 case hQ102 => exact fun _ _ _ h => h
 case hw102 => rfl
 case hy102 => (intro W hW; go_simp; all_goals rfl)
 simp only [Act.put, List.setIfInBounds_toArray, List.set_cons_zero, List.set_cons_succ]
 refine wpAnyH_take (i := 3) (oi := ?oi103) (v := ?v103) ?hi103 (by kernel_rfl) (by kernel_rfl) (by kernel_rfl) ?hQ103 (Or.inl ⟨?hw103, ?hy103⟩) (by assumption) ?rest103
 case hi103 => simp only [List.getElem?_toArray, List.getElem?_cons_succ, List.getElem?_cons_zero]; rfl
 case hQ103 => exact fun _ _ _ h => h
 case hw103 => rfl
 case hy103 => (intro W hW; go_simp; all_goals rfl)
 simp only [Act.put, List.setIfInBounds_toArray, List.set_cons_zero, List.set_cons_succ]
 refine wpAnyH_take (i := 4) (oi := ?oi104) (v := ?v104) ?hi104 (by kernel_rfl) (by kernel_rfl) (by kernel_rfl) ?hQ104 (Or.inl ⟨?hw104, ?hy104⟩) (by assumption) ?rest104
 case hi104 => simp only [List.getElem?_toArray, List.getElem?_cons_succ, List.getElem?_cons_zero]; rfl
 case hQ104 => exact fun _ _ _ h => h
 case hw104 => rfl
 case hy104 => (intro W hW; go_simp; all_goals rfl)
 simp only [Act.put, List.setIfInBounds_toArray, List.set_cons_zero, List.set_cons_succ]
 refine wpAnyH_ready (rs := [2]) (by kernel_rfl) (by simp) ?_
 refine AllReadyH.cons (i := 2) (o := ?o105) ?ho105 (fun Kq hK => ?step105) AllReadyH.nil
 case ho105 => simp only [List.getElem?_toArray, List.getElem?_cons_succ, List.getElem?_cons_zero]; rfl
 go_simp
 (go_at_call 93; refine (sum_any w1 A 3 cp w1.heap.size (bs.take 3) (by have := (HRW.out w1 H1.out.2).take (h := 3) (by omega); rw [cb_take] at this; exact this) (Nat.le_refl _) (fun x hx => HR.out.2.1 x (List.mem_of_mem_take hx)) (by omega)).mono ?_; rw [HQ.out.1]; rintro e w2 ⟨rfl, hb⟩)
 have H2 : Hd (RdS Z base w2 g vl vc vq L c S C k p 0 ws xs ∧ Chg (rdY g vc vq) w w2) := ⟨H1.out.1.below hb, H1.out.2.trans (Chg.of_below hb)⟩
 clear hb
 refine hK.out _ _ trivial (fun _ => ?_)
 clear hK Kq
 try simp only [Act.put, List.setIfInBounds_toArray, List.set_cons_zero, List.set_cons_succ]
 refine wpAnyH_ready (rs := [5]) (by kernel_rfl) (by simp) ?_
 refine AllReadyH.cons (i := 5) (o := ?o106) ?ho106 (fun Kq hK => ?step106) AllReadyH.nil
 case ho106 => simp only [List.getElem?_toArray, List.getElem?_cons_succ, List.getElem?_cons_zero]; rfl
 go_simp
 (go_at_call 101; refine (wnum_any w2 (cutA A cp 3) 4 (cp - 3) w2.heap.size (seg bs 3 4) (rd_seg (l := 3) (h := 7) (HRW.out w2 H2.out.2) (by omega) (by omega) hn) (seg_lt HR.out.2.1 3 4) (by omega)).mono ?_; rw [HQ.out.2]; rintro e w3 ⟨rfl, hw3⟩; subst hw3)
 refine hK.out _ _ trivial (fun _ => ?_)
 clear hK Kq
 try simp only [Act.put, List.setIfInBounds_toArray, List.set_cons_zero, List.set_cons_succ]
 refine wpAnyH_take (i := 6) (oi := ?oi107) (v := ?v107) ?hi107 (by kernel_rfl) (by kernel_rfl) (by kernel_rfl) ?hQ107 (Or.inl ⟨?hw107, ?hy107⟩) (by assumption) ?rest107
 case hi107 => simp only [List.getElem?_toArray, List.getElem?_cons_succ, List.getElem?_cons_zero]; rfl
 case hQ107 => exact fun _ _ _ h => h
 case hw107 => rfl
 case hy107 => (intro W hW; go_simp; all_goals rfl)
 simp only [Act.put, List.setIfInBounds_toArray, List.set_cons_zero, List.set_cons_succ]
 refine wpAnyH_done (by kernel_rfl) ?_ _
 clear H1 hHeld s13 s03 s37
 have hb0 : ∃ gg off, A = some ⟨gg, off, none⟩ ∧ (∀ W, Chg (rdY g vc vq) w W → W.cell? ⟨gg, off, none⟩ = some (.int .u8 ((bs.getD 0 0 : Nat) : Int))) := by
  obtain ⟨gg, off, hAe, _, _⟩ := HR.out.1.2 (by omega)
  refine ⟨gg, off, hAe, fun W b => ?_⟩
  obtain ⟨g2, o2, h1, _, h2⟩ := (HRW.out W b).2 (by omega)
  rw [hAe] at h1; injection h1 with h1; injection h1 with h3 h4
  have := h2 0 (by omega)
  rw [cb_get _ _ (by have := HR.out.2.2; omega)] at this
  rw [h3, h4]; exact this
 obtain ⟨ga, oa, hAe, hb0⟩ := hb0
 have HB0 := Hd.mk hb0
 subst hAe
 clear hb0
 have hc0 := HB0.out w2 H2.out.2
 by_cases e12 : q1 = q2
 case neg =>
  have e12b : ((q1 : Int) == (q2 : Int)) = false := beq_eq_false_iff_ne.2 (by omega)
  clear hc0
  have d7 : w2.cell? ⟨g, 7, none⟩ = some (.int .i64 0) := H2.out.1.at_ 7 rfl
  have z7 := H2.out.1.z 7
  go_wp2_with fail
  go_ret
  exact ⟨0, vc, vq, ⟨c, S, k, p⟩, _, 302, ws, xs, rfl, H2.out.1.put 7 (.int .i64 302) rfl, H2.out.2.setCell (mem_Y.2 (.inl rfl)) _, HYS.out, CkLaw.bad (by unfold ckP; rw [if_neg (by have := HR.out.2.2; omega), if_pos (by rw [HQ.out.1, HQ.out.2]; exact e12)])⟩
 have e12b : ((q1 : Int) == (q2 : Int)) = true := by subst e12; simp
 have HE := Hd.mk e12
 clear e12
 obtain ⟨b0, hbb⟩ : ∃ b, bs.getD 0 0 = b := ⟨_, rfl⟩
 have HBB := Hd.mk hbb
 have hb256 : b0 < 256 := by
  rw [← hbb, List.getD_eq_getElem?_getD, List.getElem?_eq_getElem (by have := HR.out.2.2; omega)]; exact HR.out.2.1 _ (List.getElem_mem _)
 rw [hbb] at hc0 HB0
 clear hbb
 have d5 : w2.cell? ⟨g, 5, none⟩ = some (.int .i64 (k : Int)) := H2.out.1.at_ 5 rfl
 by_cases k1 : b0 = 1
 ·have hc1 : w2.cell? ⟨ga, oa, none⟩ = some (.int .u8 1) := by rw [hc0, k1]; rfl
  clear hc0
  by_cases k2 : N0 = 16384
  case neg =>
   have k2b : ((N0 : Int) == 16384) = false := beq_eq_false_iff_ne.2 (by omega)
   by_cases k3 : N0 = 0
   ·have k3b : ((N0 : Int) == 0) = true := by subst k3; rfl
    have d7 : w2.cell? ⟨g, 7, none⟩ = some (.int .i64 0) := H2.out.1.at_ 7 rfl
    have z7 := H2.out.1.z 7
    go_wp2_with fail
    go_ret
    exact ⟨0, vc, vq, ⟨c, S, k, p⟩, _, 301, ws, xs, rfl, H2.out.1.put 7 (.int .i64 301) rfl, H2.out.2.setCell (mem_Y.2 (.inl rfl)) _, HYS.out, CkLaw.bad (by unfold ckP; rw [if_neg (by have := HR.out.2.2; omega), if_neg (fun h => h (by rw [HQ.out.1, HQ.out.2]; exact HE.out)), if_pos (by unfold ckOdd; rw [HN0.out, HBB.out]; omega)])⟩
   have k3b : ((N0 : Int) == 0) = false := beq_eq_false_iff_ne.2 (by omega)
   by_cases k4 : 16384 < N0
   ·have k4i : (16384 : Int) < (N0 : Int) := by omega
    have d7 : w2.cell? ⟨g, 7, none⟩ = some (.int .i64 0) := H2.out.1.at_ 7 rfl
    have z7 := H2.out.1.z 7
    go_wp2_with fail
    go_ret
    exact ⟨0, vc, vq, ⟨c, S, k, p⟩, _, 301, ws, xs, rfl, H2.out.1.put 7 (.int .i64 301) rfl, H2.out.2.setCell (mem_Y.2 (.inl rfl)) _, HYS.out, CkLaw.bad (by unfold ckP; rw [if_neg (by have := HR.out.2.2; omega), if_neg (fun h => h (by rw [HQ.out.1, HQ.out.2]; exact HE.out)), if_pos (by unfold ckOdd; rw [HN0.out, HBB.out]; omega)])⟩
   have k4i : ¬ (16384 : Int) < (N0 : Int) := by omega
   have d7 : w2.cell? ⟨g, 7, none⟩ = some (.int .i64 0) := H2.out.1.at_ 7 rfl
   have z7 := H2.out.1.z 7
   go_wp2_with fail
   go_ret
   exact ⟨0, vc, vq, ⟨c, S, k, p⟩, _, 301, ws, xs, rfl, H2.out.1.put 7 (.int .i64 301) rfl, H2.out.2.setCell (mem_Y.2 (.inl rfl)) _, HYS.out, CkLaw.bad (by unfold ckP; rw [if_neg (by have := HR.out.2.2; omega), if_neg (fun h => h (by rw [HQ.out.1, HQ.out.2]; exact HE.out)), if_pos (by unfold ckOdd; rw [HN0.out, HBB.out]; omega)])⟩
  have k2b : ((N0 : Int) == 16384) = true := by subst k2; rfl
  have k3b : ((N0 : Int) == 0) = false := beq_eq_false_iff_ne.2 (by omega)
  have k4i : ¬ (16384 : Int) < (N0 : Int) := by omega
  by_cases k5 : k = 2047
  ·have k5b : ((k : Int) == 2047) = true := by subst k5; rfl
   have d7 : w2.cell? ⟨g, 7, none⟩ = some (.int .i64 0) := H2.out.1.at_ 7 rfl
   have z7 := H2.out.1.z 7
   go_wp2_with fail
   go_ret
   exact ⟨0, vc, vq, ⟨c, S, k, p⟩, _, 301, ws, xs, rfl, H2.out.1.put 7 (.int .i64 301) rfl, H2.out.2.setCell (mem_Y.2 (.inl rfl)) _, HYS.out, CkLaw.bad (by unfold ckP; rw [if_neg (by have := HR.out.2.2; omega), if_neg (fun h => h (by rw [HQ.out.1, HQ.out.2]; exact HE.out)), if_pos (by unfold ckOdd; rw [HN0.out, HBB.out]; omega)])⟩
  have k5b : ((k : Int) == 2047) = false := beq_eq_false_iff_ne.2 (by omega)
  have HOD : Hd (¬ ckOdd k bs ∧ b0 = 1 ∧ 0 < N0 ∧ N0 ≤ 16384 ∧ k ≤ 2047 ∧ k ≠ 2047) := ⟨by unfold ckOdd; rw [HN0.out, HBB.out]; omega, by omega, by omega, by omega, by omega, by omega⟩
  have HN16 : Hd (N0 = 16384) := ⟨k2⟩
  rw [show ((N0 : Nat) : Int) = 16384 by omega]
  clear k1
  try clear k2
  have hN2' : N0 ≤ 16384 := HOD.out.2.2.2.1
  go_upto_region 11 with fail
  try clear k2b
  try clear k3b
  try clear k4i
  try clear k5b
  try clear d5
  have hN1 : 0 < N0 := HOD.out.2.2.1
  have hN2 : N0 ≤ 16384 := HOD.out.2.2.2.1
  by_cases hw : n < N0 + 11
  ·have hwi : (n : Int) < 16395 := by have := HN16.out; omega
   go_wp2_with fail
   go_ret
   exact ⟨0, vc, vq, ⟨c, S, k, p⟩, C, 0, ws, xs, rfl, H2.out.1, H2.out.2, HYS.out, CkLaw.wait (by unfold ckP; rw [if_neg (by have := HR.out.2.2; omega), if_neg (fun h => h (by rw [HQ.out.1, HQ.out.2]; exact HE.out)), if_neg HOD.out.1, if_pos (by rw [HN0.out]; have := HR.out.2.2; omega)])⟩
  have hwi : ¬ (n : Int) < 16395 := by have := HN16.out; omega
  have s7n : ∀ w, (Instr.slice 26 (.slice (some ⟨ga, oa, none⟩) n cp) (some (.int .i64 7)) (some (.int .i64 16391)) none).run Try.prog w = .ok (.slice (cutA (some ⟨ga, oa, none⟩) cp 7) N0 (cp - 7)) w := fun w => by
   have := run_cut (w := w) elB (some ⟨ga, oa, none⟩) n cp 7 (7 + N0) (by omega) (by omega)
   rw [Nat.add_sub_cancel_left, show ((7 + N0 : Nat) : Int) = 16391 by have := HN16.out; omega] at this; exact this
  have snw : ∀ w, (Instr.slice 26 (.slice (some ⟨ga, oa, none⟩) n cp) (some (.int .i64 16391)) (some (.int .i64 16395)) none).run Try.prog w = .ok (.slice (cutA (some ⟨ga, oa, none⟩) cp (7 + N0)) 4 (cp - (7 + N0))) w := fun w => by
   have := run_cut (w := w) elB (some ⟨ga, oa, none⟩) n cp (7 + N0) (7 + N0 + 4) (by omega) (by omega)
   rw [Nat.add_sub_cancel_left, show ((7 + N0 : Nat) : Int) = 16391 by have := HN16.out; omega, show ((7 + N0 + 4 : Nat) : Int) = 16395 by have := HN16.out; omega] at this; exact this
  have HS7 := Hd.mk s7n
  have HSW := Hd.mk snw
  clear s7n snw
  go_upto_region 14 with fail
  clear hwi
  have s7n := HS7.out
  have hwp : IntKind.i64.wrap 16391 = 16391 := by rw [IntKind.wrap_i64]; omega
  have HWP := Hd.mk hwp
  refine wp_region_held_drew (S := fun _ => True) (by kernel_rfl) trivial (fun hHeld => ?_)
  have H3 : Hd (RdS Z base w2.drew g vl vc vq L c S C k p 0 ws xs ∧ Chg (rdY g vc vq) w w2.drew) := ⟨H2.out.1.drew, H2.out.2.drew⟩
  obtain ⟨w3, hw3⟩ : ∃ U, w2.drew = U := ⟨_, rfl⟩
  rw [hw3] at H3 ⊢
  clear hw3
  refine wpAnyH_take (i := 0) (oi := ?oi201) (v := ?v201) ?hi201 (by kernel_rfl) (by kernel_rfl) (by kernel_rfl) ?hQ201 (Or.inl ⟨?hw201, ?hy201⟩) (by assumption) ?rest201
  case hi201 => simp only [List.getElem?_toArray, List.getElem?_cons_succ, List.getElem?_cons_zero]; rfl
  case hQ201 => exact fun _ _ _ h => h
  case hw201 => rfl
  case hy201 => (intro W hW; go_simp; all_goals rfl)
  simp only [Act.put, List.setIfInBounds_toArray, List.set_cons_zero, List.set_cons_succ]
  refine wpAnyH_take (i := 1) (oi := ?oi202) (v := ?v202) ?hi202 (by kernel_rfl) (by kernel_rfl) (by kernel_rfl) ?hQ202 (Or.inl ⟨?hw202, ?hy202⟩) (by assumption) ?rest202
  case hi202 => simp only [List.getElem?_toArray, List.getElem?_cons_succ, List.getElem?_cons_zero]; rfl
  case hQ202 => exact fun _ _ _ h => h
  case hw202 => rfl
  case hy202 => (intro W hW; go_simp; all_goals rfl)
  simp only [Act.put, List.setIfInBounds_toArray, List.set_cons_zero, List.set_cons_succ]
  refine wpAnyH_take (i := 2) (oi := ?oi203) (v := ?v203) ?hi203 (by kernel_rfl) (by kernel_rfl) (by kernel_rfl) ?hQ203 (Or.inl ⟨?hw203, ?hy203⟩) (by assumption) ?rest203
  case hi203 => simp only [List.getElem?_toArray, List.getElem?_cons_succ, List.getElem?_cons_zero]; rfl
  case hQ203 => exact fun _ _ _ h => h
  case hw203 => rfl
  case hy203 => (intro W hW; go_simp; all_goals rfl)
  simp only [Act.put, List.setIfInBounds_toArray, List.set_cons_zero, List.set_cons_succ]
  refine wpAnyH_take (i := 3) (oi := ?oi204) (v := ?v204) ?hi204 (by kernel_rfl) (by kernel_rfl) (by kernel_rfl) ?hQ204 (Or.inl ⟨?hw204, ?hy204⟩) (by assumption) ?rest204
  case hi204 => simp only [List.getElem?_toArray, List.getElem?_cons_succ, List.getElem?_cons_zero]; rfl
  case hQ204 => exact fun _ _ _ h => h
  case hw204 => rfl
  case hy204 => (intro W hW; go_simp; all_goals rfl)
  simp only [Act.put, List.setIfInBounds_toArray, List.set_cons_zero, List.set_cons_succ]
  refine wpAnyH_take (i := 4) (oi := ?oi205) (v := ?v205) ?hi205 (by kernel_rfl) (by kernel_rfl) (by kernel_rfl) ?hQ205 (Or.inl ⟨?hw205, ?hy205⟩) (by assumption) ?rest205
  case hi205 => simp only [List.getElem?_toArray, List.getElem?_cons_succ, List.getElem?_cons_zero]; rfl
  case hQ205 => exact fun _ _ _ h => h
  case hw205 => rfl
  case hy205 => (intro W hW; go_simp; all_goals rfl)
  simp only [Act.put, List.setIfInBounds_toArray, List.set_cons_zero, List.set_cons_succ]
  refine wpAnyH_take (i := 5) (oi := ?oi206) (v := ?v206) ?hi206 (by kernel_rfl) (by kernel_rfl) (by kernel_rfl) ?hQ206 (Or.inl ⟨?hw206, ?hy206⟩) (by assumption) ?rest206
  case hi206 => simp only [List.getElem?_toArray, List.getElem?_cons_succ, List.getElem?_cons_zero]; rfl
  case hQ206 => exact fun _ _ _ h => h
  case hw206 => rfl
  case hy206 => (intro W hW; go_simp; all_goals rfl)
  simp only [Act.put, List.setIfInBounds_toArray, List.set_cons_zero, List.set_cons_succ]
  refine wpAnyH_take (i := 6) (oi := ?oi207) (v := ?v207) ?hi207 (by kernel_rfl) (by kernel_rfl) (by kernel_rfl) ?hQ207 (Or.inl ⟨?hw207, ?hy207⟩) (by assumption) ?rest207
  case hi207 => simp only [List.getElem?_toArray, List.getElem?_cons_succ, List.getElem?_cons_zero]; rfl
  case hQ207 => exact fun _ _ _ h => h
  case hw207 => rfl
  case hy207 => (intro W hW; go_simp; all_goals rfl)
  simp only [Act.put, List.setIfInBounds_toArray, List.set_cons_zero, List.set_cons_succ]
  refine wpAnyH_ready (rs := [7]) (by kernel_rfl) (by simp) ?_
  refine AllReadyH.cons (i := 7) (o := ?o208) ?ho208 (fun Kq hK => ?step208) AllReadyH.nil
  case ho208 => simp only [List.getElem?_toArray, List.getElem?_cons_succ, List.getElem?_cons_zero]; rfl
  go_simp
  (go_at_call 91; refine (write_any w3 g 3 58 S C _ (cutA (some ⟨ga, oa, none⟩) cp 7) N0 (cp - 7) w3.heap.size (seg bs 7 N0) H3.out.1.strm (by have := rd_seg (l := 7) (h := 7 + N0) (HRW.out w3 H3.out.2) (by omega) (by omega) hn; rw [Nat.add_sub_cancel_left] at this; exact this) (Nat.le_refl _) (seg_lt HR.out.2.1 7 N0) (by omega)).mono ?_; rintro e w4 ⟨rfl, hs4, hg4⟩)
  have H4 : Hd (RdS Z base w4 g vl vc vq L c (Crc.more S (seg bs 7 N0)) ((C + N0) % 18446744073709551616) k p 0 ws xs ∧ Chg (rdY g vc vq) w w4) := ⟨H3.out.1.crc hs4 hg4, H3.out.2.trans ((Chg.of_grown hg4).mono (fun x hx _ => by rw [List.mem_singleton.1 hx]; exact mem_Y.2 (.inl rfl)))⟩
  clear hs4 hg4
  refine hK.out _ _ trivial (fun _ => ?_)
  clear hK Kq
  try simp only [Act.put, List.setIfInBounds_toArray, List.set_cons_zero, List.set_cons_succ]
  refine wpAnyH_done (by kernel_rfl) ?_ _
  clear hHeld s7n H3 hwp
  obtain ⟨S2, hS2⟩ : ∃ s, Crc.more S (seg bs 7 N0) = s := ⟨_, rfl⟩
  obtain ⟨C2, hC2⟩ : ∃ s, (C + N0) % 18446744073709551616 = s := ⟨_, rfl⟩
  have HS2 := Hd.mk hS2
  rw [hS2, hC2] at H4
  clear hS2 hC2
  obtain ⟨q4, hq4⟩ : ∃ q, le256 (seg bs (7 + N0) 4) = q := ⟨_, rfl⟩
  have HQ4 := Hd.mk hq4
  clear hq4
  go_upto_region 15 with fail
  have snw := HSW.out
  have hwp := HWP.out
  refine wp_region_held_drew (S := fun _ => True) (by kernel_rfl) trivial (fun hHeld => ?_)
  have H5 : Hd (RdS Z base w4.drew g vl vc vq L c S2 C2 k p 0 ws xs ∧ Chg (rdY g vc vq) w w4.drew) := ⟨H4.out.1.drew, H4.out.2.drew⟩
  obtain ⟨w5, hw5⟩ : ∃ U, w4.drew = U := ⟨_, rfl⟩
  rw [hw5] at H5 ⊢
  clear hw5 H4
  refine wpAnyH_take (i := 0) (oi := ?oi301) (v := ?v301) ?hi301 (by kernel_rfl) (by kernel_rfl) (by kernel_rfl) ?hQ301 (Or.inl ⟨?hw301, ?hy301⟩) (by assumption) ?rest301
  case hi301 => simp only [List.getElem?_toArray, List.getElem?_cons_succ, List.getElem?_cons_zero]; rfl
  case hQ301 => exact fun _ _ _ h => h
  case hw301 => rfl
  case hy301 => (intro W hW; go_simp; all_goals rfl)
  simp only [Act.put, List.setIfInBounds_toArray, List.set_cons_zero, List.set_cons_succ]
  refine wpAnyH_take (i := 1) (oi := ?oi302) (v := ?v302) ?hi302 (by kernel_rfl) (by kernel_rfl) (by kernel_rfl) ?hQ302 (Or.inl ⟨?hw302, ?hy302⟩) (by assumption) ?rest302
  case hi302 => simp only [List.getElem?_toArray, List.getElem?_cons_succ, List.getElem?_cons_zero]; rfl
  case hQ302 => exact fun _ _ _ h => h
  case hw302 => rfl
  case hy302 => (intro W hW; go_simp; all_goals rfl)
  simp only [Act.put, List.setIfInBounds_toArray, List.set_cons_zero, List.set_cons_succ]
  refine wpAnyH_take (i := 2) (oi := ?oi303) (v := ?v303) ?hi303 (by kernel_rfl) (by kernel_rfl) (by kernel_rfl) ?hQ303 (Or.inl ⟨?hw303, ?hy303⟩) (by assumption) ?rest303
  case hi303 => simp only [List.getElem?_toArray, List.getElem?_cons_succ, List.getElem?_cons_zero]; rfl
  case hQ303 => exact fun _ _ _ h => h
  case hw303 => rfl
  case hy303 => (intro W hW; go_simp; all_goals rfl)
  simp only [Act.put, List.setIfInBounds_toArray, List.set_cons_zero, List.set_cons_succ]
  refine wpAnyH_take (i := 4) (oi := ?oi304) (v := ?v304) ?hi304 (by kernel_rfl) (by kernel_rfl) (by kernel_rfl) ?hQ304 (Or.inl ⟨?hw304, ?hy304⟩) (by assumption) ?rest304
  case hi304 => simp only [List.getElem?_toArray, List.getElem?_cons_succ, List.getElem?_cons_zero]; rfl
  case hQ304 => exact fun _ _ _ h => h
  case hw304 => rfl
  case hy304 => (intro W hW; go_simp; all_goals rfl)
  simp only [Act.put, List.setIfInBounds_toArray, List.set_cons_zero, List.set_cons_succ]
  refine wpAnyH_take (i := 5) (oi := ?oi305) (v := ?v305) ?hi305 (by kernel_rfl) (by kernel_rfl) (by kernel_rfl) ?hQ305 (Or.inl ⟨?hw305, ?hy305⟩) (by assumption) ?rest305
  case hi305 => simp only [List.getElem?_toArray, List.getElem?_cons_succ, List.getElem?_cons_zero]; rfl
  case hQ305 => exact fun _ _ _ h => h
  case hw305 => rfl
  case hy305 => (intro W hW; go_simp; all_goals rfl)
  simp only [Act.put, List.setIfInBounds_toArray, List.set_cons_zero, List.set_cons_succ]
  refine wpAnyH_take (i := 6) (oi := ?oi306) (v := ?v306) ?hi306 (by kernel_rfl) (by kernel_rfl) (by kernel_rfl) ?hQ306 (Or.inl ⟨?hw306, ?hy306⟩) (by assumption) ?rest306
  case hi306 => simp only [List.getElem?_toArray, List.getElem?_cons_succ, List.getElem?_cons_zero]; rfl
  case hQ306 => exact fun _ _ _ h => h
  case hw306 => rfl
  case hy306 => (intro W hW; go_simp; all_goals rfl)
  simp only [Act.put, List.setIfInBounds_toArray, List.set_cons_zero, List.set_cons_succ]
  refine wpAnyH_take (i := 7) (oi := ?oi307) (v := ?v307) ?hi307 (by kernel_rfl) (by kernel_rfl) (by kernel_rfl) ?hQ307 (Or.inl ⟨?hw307, ?hy307⟩) (by assumption) ?rest307
  case hi307 => simp only [List.getElem?_toArray, List.getElem?_cons_succ, List.getElem?_cons_zero]; rfl
  case hQ307 => exact fun _ _ _ h => h
  case hw307 => rfl
  case hy307 => (intro W hW; go_simp; all_goals rfl)
  simp only [Act.put, List.setIfInBounds_toArray, List.set_cons_zero, List.set_cons_succ]
  refine wpAnyH_take (i := 8) (oi := ?oi308) (v := ?v308) ?hi308 (by kernel_rfl) (by kernel_rfl) (by kernel_rfl) ?hQ308 (Or.inl ⟨?hw308, ?hy308⟩) (by assumption) ?rest308
  case hi308 => simp only [List.getElem?_toArray, List.getElem?_cons_succ, List.getElem?_cons_zero]; rfl
  case hQ308 => exact fun _ _ _ h => h
  case hw308 => rfl
  case hy308 => (intro W hW; go_simp; all_goals rfl)
  simp only [Act.put, List.setIfInBounds_toArray, List.set_cons_zero, List.set_cons_succ]
  refine wpAnyH_ready (rs := [3]) (by kernel_rfl) (by simp) ?_
  refine AllReadyH.cons (i := 3) (o := ?o309) ?ho309 (fun Kq hK => ?step309) AllReadyH.nil
  case ho309 => simp only [List.getElem?_toArray, List.getElem?_cons_succ, List.getElem?_cons_zero]; rfl
  go_simp
  (go_at_call 94; refine (ssum_any w5 g 3 58 S2 C2 _ H5.out.1.strm).mono ?_; rintro e w6 ⟨rfl, hw6⟩; subst hw6)
  refine hK.out _ _ trivial (fun _ => ?_)
  clear hK Kq
  try simp only [Act.put, List.setIfInBounds_toArray, List.set_cons_zero, List.set_cons_succ]
  refine wpAnyH_ready (rs := [9]) (by kernel_rfl) (by simp) ?_
  refine AllReadyH.cons (i := 9) (o := ?o310) ?ho310 (fun Kq hK => ?step310) AllReadyH.nil
  case ho310 => simp only [List.getElem?_toArray, List.getElem?_cons_succ, List.getElem?_cons_zero]; rfl
  go_simp
  (go_at_call 101; refine (wnum_any w5 (cutA (some ⟨ga, oa, none⟩) cp (7 + N0)) 4 (cp - (7 + N0)) w5.heap.size (seg bs (7 + N0) 4) (by have := rd_seg (l := 7 + N0) (h := 7 + N0 + 4) (HRW.out w5 H5.out.2) (by omega) (by omega) hn; rw [Nat.add_sub_cancel_left] at this; exact this) (seg_lt HR.out.2.1 _ 4) (by omega)).mono ?_; rw [HQ4.out]; rintro e w6 ⟨rfl, hw6⟩; subst hw6)
  refine hK.out _ _ trivial (fun _ => ?_)
  clear hK Kq
  try simp only [Act.put, List.setIfInBounds_toArray, List.set_cons_zero, List.set_cons_succ]
  refine wpAnyH_take (i := 10) (oi := ?oi311) (v := ?v311) ?hi311 (by kernel_rfl) (by kernel_rfl) (by kernel_rfl) ?hQ311 (Or.inl ⟨?hw311, ?hy311⟩) (by assumption) ?rest311
  case hi311 => simp only [List.getElem?_toArray, List.getElem?_cons_succ, List.getElem?_cons_zero]; rfl
  case hQ311 => exact fun _ _ _ h => h
  case hw311 => rfl
  case hy311 => (intro W hW; go_simp; all_goals rfl)
  simp only [Act.put, List.setIfInBounds_toArray, List.set_cons_zero, List.set_cons_succ]
  refine wpAnyH_done (by kernel_rfl) ?_ _
  clear hHeld snw hwp
  by_cases e4 : S2 = q4
  case neg =>
   have e4b : ((S2 : Int) == (q4 : Int)) = false := beq_eq_false_iff_ne.2 (by omega)
   have d7 : w5.cell? ⟨g, 7, none⟩ = some (.int .i64 0) := H5.out.1.at_ 7 rfl
   have z7 := H5.out.1.z 7
   go_wp2_with fail
   go_ret
   exact ⟨0, vc, vq, ⟨c, S2, k, p⟩, _, 302, ws, xs, rfl, H5.out.1.put 7 (.int .i64 302) rfl, H5.out.2.setCell (mem_Y.2 (.inl rfl)) _, HYS.out, CkLaw.bad (by unfold ckP; rw [if_neg (by have := HR.out.2.2; omega), if_neg (fun h => h (by rw [HQ.out.1, HQ.out.2]; exact HE.out)), if_neg HOD.out.1, if_neg (by rw [HN0.out]; have := HR.out.2.2; omega), if_pos (by rw [HN0.out, HS2.out, HQ4.out]; exact e4)])⟩
  have e4b : ((S2 : Int) == (q4 : Int)) = true := by subst e4; simp
  have HCK : Hd (ckP S k bs = .ok false N0) := ⟨by unfold ckP; rw [if_neg (by have := HR.out.2.2; omega), if_neg (fun h => h (by rw [HQ.out.1, HQ.out.2]; exact HE.out)), if_neg HOD.out.1, if_neg (by rw [HN0.out]; have := HR.out.2.2; omega), if_neg (fun h => h (by rw [HN0.out, HS2.out, HQ4.out]; exact e4)), HN0.out, HBB.out, HOD.out.2.1]; rfl⟩
  clear e4
  go_upto_region 18 with fail
  clear e4b
  have s7n := HS7.out
  have hwp := HWP.out
  refine wp_region_held_drew (S := fun _ => True) (by kernel_rfl) trivial (fun hHeld => ?_)
  have H6 : Hd (RdS Z base w5.drew g vl vc vq L c S2 C2 k p 0 ws xs ∧ Chg (rdY g vc vq) w w5.drew) := ⟨H5.out.1.drew, H5.out.2.drew⟩
  obtain ⟨w6, hw6⟩ : ∃ U, w5.drew = U := ⟨_, rfl⟩
  rw [hw6] at H6 ⊢
  clear hw6 H5
  refine wpAnyH_take (i := 0) (oi := ?oi401) (v := ?v401) ?hi401 (by kernel_rfl) (by kernel_rfl) (by kernel_rfl) ?hQ401 (Or.inl ⟨?hw401, ?hy401⟩) (by assumption) ?rest401
  case hi401 => simp only [List.getElem?_toArray, List.getElem?_cons_succ, List.getElem?_cons_zero]; rfl
  case hQ401 => exact fun _ _ _ h => h
  case hw401 => rfl
  case hy401 => (intro W hW; go_simp; all_goals rfl)
  simp only [Act.put, List.setIfInBounds_toArray, List.set_cons_zero, List.set_cons_succ]
  refine wpAnyH_take (i := 1) (oi := ?oi402) (v := ?v402) ?hi402 (by kernel_rfl) (by kernel_rfl) (by kernel_rfl) ?hQ402 (Or.inl ⟨?hw402, ?hy402⟩) (by assumption) ?rest402
  case hi402 => simp only [List.getElem?_toArray, List.getElem?_cons_succ, List.getElem?_cons_zero]; rfl
  case hQ402 => exact fun _ _ _ h => h
  case hw402 => rfl
  case hy402 => (intro W hW; go_simp; all_goals rfl)
  simp only [Act.put, List.setIfInBounds_toArray, List.set_cons_zero, List.set_cons_succ]
  refine wpAnyH_take (i := 2) (oi := ?oi403) (v := ?v403) ?hi403 (by kernel_rfl) (by kernel_rfl) (by kernel_rfl) ?hQ403 (Or.inl ⟨?hw403, ?hy403⟩) (by assumption) ?rest403
  case hi403 => simp only [List.getElem?_toArray, List.getElem?_cons_succ, List.getElem?_cons_zero]; rfl
  case hQ403 => exact fun _ _ _ h => h
  case hw403 => rfl
  case hy403 => (intro W hW; go_simp; all_goals rfl)
  simp only [Act.put, List.setIfInBounds_toArray, List.set_cons_zero, List.set_cons_succ]
  refine wpAnyH_take (i := 3) (oi := ?oi404) (v := ?v404) ?hi404 (by kernel_rfl) (by kernel_rfl) (by kernel_rfl) ?hQ404 (Or.inl ⟨?hw404, ?hy404⟩) (by assumption) ?rest404
  case hi404 => simp only [List.getElem?_toArray, List.getElem?_cons_succ, List.getElem?_cons_zero]; rfl
  case hQ404 => exact fun _ _ _ h => h
  case hw404 => rfl
  case hy404 => (intro W hW; go_simp; all_goals rfl)
  simp only [Act.put, List.setIfInBounds_toArray, List.set_cons_zero, List.set_cons_succ]
  refine wpAnyH_take (i := 5) (oi := ?oi405) (v := ?v405) ?hi405 (by kernel_rfl) (by kernel_rfl) (by kernel_rfl) ?hQ405 (Or.inl ⟨?hw405, ?hy405⟩) (by assumption) ?rest405
  case hi405 => simp only [List.getElem?_toArray, List.getElem?_cons_succ, List.getElem?_cons_zero]; rfl
  case hQ405 => exact fun _ _ _ h => h
  case hw405 => rfl
  case hy405 => (intro W hW; go_simp; all_goals rfl)
  simp only [Act.put, List.setIfInBounds_toArray, List.set_cons_zero, List.set_cons_succ]
  refine wpAnyH_take (i := 6) (oi := ?oi406) (v := ?v406) ?hi406 (by kernel_rfl) (by kernel_rfl) (by kernel_rfl) ?hQ406 (Or.inl ⟨?hw406, ?hy406⟩) (by assumption) ?rest406
  case hi406 => simp only [List.getElem?_toArray, List.getElem?_cons_succ, List.getElem?_cons_zero]; rfl
  case hQ406 => exact fun _ _ _ h => h
  case hw406 => rfl
  case hy406 => (intro W hW; go_simp; all_goals rfl)
  simp only [Act.put, List.setIfInBounds_toArray, List.set_cons_zero, List.set_cons_succ]
  refine wpAnyH_take (i := 7) (oi := ?oi407) (v := ?v407) ?hi407 (by kernel_rfl) (by kernel_rfl) (by kernel_rfl) ?hQ407 (Or.inl ⟨?hw407, ?hy407⟩) (by assumption) ?rest407
  case hi407 => simp only [List.getElem?_toArray, List.getElem?_cons_succ, List.getElem?_cons_zero]; rfl
  case hQ407 => exact fun _ _ _ h => h
  case hw407 => rfl
  case hy407 => (intro W hW; go_simp; all_goals rfl)
  simp only [Act.put, List.setIfInBounds_toArray, List.set_cons_zero, List.set_cons_succ]
  refine wpAnyH_take (i := 8) (oi := ?oi408) (v := ?v408) ?hi408 (by kernel_rfl) (by kernel_rfl) (by kernel_rfl) ?hQ408 (Or.inl ⟨?hw408, ?hy408⟩) (by assumption) ?rest408
  case hi408 => simp only [List.getElem?_toArray, List.getElem?_cons_succ, List.getElem?_cons_zero]; rfl
  case hQ408 => exact fun _ _ _ h => h
  case hw408 => rfl
  case hy408 => (intro W hW; go_simp; all_goals rfl)
  simp only [Act.put, List.setIfInBounds_toArray, List.set_cons_zero, List.set_cons_succ]
  have hd2 : w6.cell? ⟨g, 2, none⟩ = some vc := H6.out.1.at_ 2 rfl
  refine wpAnyH_ready (rs := [4]) (by kernel_rfl) (by simp) ?_
  refine AllReadyH.cons (i := 4) (o := ?o4M) ?ho4M (fun Kq hK => ?step4M) AllReadyH.nil
  case ho4M => simp only [List.getElem?_toArray, List.getElem?_cons_succ, List.getElem?_cons_zero]; rfl
  go_simp
  refine hK.out _ _ trivial (fun _ => ?_)
  clear hK Kq hd2
  try simp only [Act.put, List.setIfInBounds_toArray, List.set_cons_zero, List.set_cons_succ]
  refine wpAnyH_ready (rs := [9]) (by kernel_rfl) (by simp) ?_
  refine AllReadyH.cons (i := 9) (o := ?o9M) ?ho9M (fun Kq hK => ?step9M) AllReadyH.nil
  case ho9M => simp only [List.getElem?_toArray, List.getElem?_cons_succ, List.getElem?_cons_zero]; rfl
  refine step_app elB rfl (.tmp 97) (.tmp 101) rfl base vc c.length (cb c) rfl H6.out.1.co w6.heap.size (cutA (some ⟨ga, oa, none⟩) cp 7) N0 (cp - 7) (cb (seg bs 7 N0)) rfl (by have := rd_seg (l := 7) (h := 7 + N0) (HRW.out w6 H6.out.2) (by omega) (by omega) hn; rw [Nat.add_sub_cancel_left] at this; exact this) (cb_one _) (by have := HKN.out.1; have := HOD.out.2.2.2.2; unfold maxLen; omega) (by have := HKN.out.1; have := HOD.out.2.2.2.2; omega) (Nat.le_trans H6.out.1.bg (Nat.le_of_lt H6.out.1.lt)) ?_
  intro v' w7 hO
  rw [← cb_append] at hO
  have hsl : (c ++ seg bs 7 N0).length = c.length + N0 := by rw [List.length_append, seg_len (by have := HR.out.2.2; omega)]
  have H7 : Hd (Onto w6 w7 base 5 vc v' (c ++ seg bs 7 N0).length (cb (c ++ seg bs 7 N0))) := ⟨by rw [hsl]; exact hO⟩
  have hlt6 := H6.out.1.lt
  have hc7 : w7.cell? ⟨g, 2, none⟩ = some vc := (World.cell?_of_block (a := ⟨g, 2, none⟩) (hO.2.1.block g hlt6 (fun e => H6.out.1.gc e.symm))).trans (H6.out.1.at_ 2 rfl)
  have hz7 : w7.frozen? ⟨g, 2, none⟩ = false := (World.frozen?_of_block (a := ⟨g, 2, none⟩) (hO.2.1.block g hlt6 (fun e => H6.out.1.gc e.symm))).trans (H6.out.1.z 2)
  have HCZ := Hd.mk (And.intro hc7 hz7)
  clear hO hsl hlt6 hc7 hz7
  refine hK.out _ _ trivial (fun _ => ?_)
  clear hK Kq
  try simp only [Act.put, List.setIfInBounds_toArray, List.set_cons_zero, List.set_cons_succ]
  refine wpAnyH_take (i := 10) (oi := ?oi501) (v := ?v501) ?hi501 (by kernel_rfl) (by kernel_rfl) (by kernel_rfl) ?hQ501 (Or.inl ⟨?hw501, ?hy501⟩) (by assumption) ?rest501
  case hi501 => simp only [List.getElem?_toArray, List.getElem?_cons_succ, List.getElem?_cons_zero]; rfl
  case hQ501 => exact fun _ _ _ h => h
  case hw501 => rfl
  case hy501 => (intro W hW; go_simp; all_goals rfl)
  simp only [Act.put, List.setIfInBounds_toArray, List.set_cons_zero, List.set_cons_succ]
  refine wpAnyH_take (i := 11) (oi := ?oi502) (v := ?v502) ?hi502 (by kernel_rfl) (by kernel_rfl) (by kernel_rfl) ?hQ502 (Or.inl ⟨?hw502, ?hy502⟩) (by assumption) ?rest502
  case hi502 => simp only [List.getElem?_toArray, List.getElem?_cons_succ, List.getElem?_cons_zero]; rfl
  case hQ502 => exact fun _ _ _ h => h
  case hw502 => rfl
  case hy502 => (intro W hW; go_simp; all_goals rfl)
  simp only [Act.put, List.setIfInBounds_toArray, List.set_cons_zero, List.set_cons_succ]
  refine wpAnyH_ready (rs := [12]) (by kernel_rfl) (by simp) ?_
  refine AllReadyH.cons (i := 12) (o := ?o12M) ?ho12M (fun Kq hK => ?step12M) AllReadyH.nil
  case ho12M => simp only [List.getElem?_toArray, List.getElem?_cons_succ, List.getElem?_cons_zero]; rfl
  obtain ⟨Av, cv, hv, hvc, _⟩ := own_form H7.out.1
  refine step_set rfl 26 (.tmp 104) (.tmp 102) rfl g 2 v' rfl rfl (by rw [hv]; rfl) (by rw [hv]; rfl) vc HCZ.out.1 HCZ.out.2 infoSlB ?_
  obtain ⟨w8, hw8⟩ : ∃ U, w7.setCell ⟨g, 2, none⟩ v' = U := ⟨_, rfl⟩
  rw [hw8]
  have H8 : Hd (RdS Z base w8 g vl v' vq L (c ++ seg bs 7 N0) S2 C2 k p 0 ws xs ∧ Chg (rdY g vc vq) w w8 ∧ (∀ x, v'.ownBlock = some x → vc.ownBlock = some x ∨ w6.heap.size ≤ x)) := ⟨by rw [← hw8]; exact H6.out.1.cont (Y := vc.ownBlock.toList) ⟨H7.out.2.1.os, H7.out.2.1.tape, H7.out.2.1.output, H7.out.2.1.size, fun x hx hm => H7.out.2.1.block x hx fun e => hm (by rw [Option.mem_toList]; exact e.symm)⟩ (fun x hx => by rwa [Option.mem_toList] at hx) H7.out.1 H7.out.2.2 (fun x hx => (List.mem_append.1 hx).elim (H6.out.1.cb_ x) (seg_lt HR.out.2.1 7 N0 x)), by rw [← hw8]; exact (H6.out.2.trans ⟨H7.out.2.1.os, H7.out.2.1.tape, H7.out.2.1.output, H7.out.2.1.size, fun x hx hm => H7.out.2.1.block x hx fun e => hm (mem_Y.2 (.inr (.inl e.symm)))⟩).setCell (mem_Y.2 (.inl rfl)) _, H7.out.2.2⟩
  clear hw8 hv hvc
  refine hK.out _ _ trivial (fun _ => ?_)
  clear hK Kq
  try simp only [Act.put, List.setIfInBounds_toArray, List.set_cons_zero, List.set_cons_succ]
  refine wpAnyH_done (by kernel_rfl) ?_ _
  clear hHeld HCZ s7n H7 hwp
  have d5 : w8.cell? ⟨g, 5, none⟩ = some (.int .i64 (k : Int)) := H8.out.1.at_ 5 rfl
  have z5 := H8.out.1.z 5
  have d6 : w8.cell? ⟨g, 6, none⟩ = some (.int .i64 (p : Int)) := H8.out.1.at_ 6 rfl
  have z6 := H8.out.1.z 6
  go_upto_region 21 with fail
  obtain ⟨w9, hw9⟩ : ∃ U, (w8.setCell ⟨g, 5, none⟩ (.int .i64 ((k : Int) + 1))).setCell ⟨g, 6, none⟩ (.int .i64 ((p : Int) + 16395)) = U := ⟨_, rfl⟩
  rw [hw9]
  rw [show ((k : Int) + 1) = ((k + 1 : Nat) : Int) by omega, show ((p : Int) + 16395) = ((p + (N0 + 11) : Nat) : Int) by have := HN16.out; omega] at hw9
  have H9 : Hd (RdS Z base w9 g vl v' vq L (c ++ seg bs 7 N0) S2 C2 (k + 1) (p + (N0 + 11)) 0 ws xs ∧ Chg (rdY g vc vq) w w9) := ⟨by rw [← hw9]; exact (H8.out.1.put 5 (.int .i64 ((k + 1 : Nat) : Int)) (k' := k + 1) (p' := p) (fl' := 0) rfl).put 6 (.int .i64 ((p + (N0 + 11) : Nat) : Int)) (k' := k + 1) (p' := p + (N0 + 11)) (fl' := 0) rfl, by rw [← hw9]; exact (H8.out.2.1.setCell (mem_Y.2 (.inl rfl)) _).setCell (mem_Y.2 (.inl rfl)) _⟩
  have HVN := Hd.mk H8.out.2.2
  have HSZ : Hd (w.heap.size ≤ w6.heap.size) := ⟨H6.out.2.size⟩
  clear hw9 d5 z5 d6 z6 H8 H6
  have hc9 : w9.cell? ⟨ga, oa, none⟩ = some (.int .u8 1) := by rw [HB0.out w9 H9.out.2, HOD.out.2.1]; rfl
  have HNX : Hd ((⟨c, S, k, p⟩ : Mid).next bs N0 = ⟨(c ++ seg bs 7 N0), S2, k + 1, p + (N0 + 11)⟩) := ⟨by unfold Mid.next; simp only; rw [HS2.out]⟩
  have HY2 : Hd (∀ x ∈ rdY g v' vq, x ∈ rdY g vc vq ∨ w.heap.size ≤ x) := ⟨fun x hx => by
   rcases mem_Y.1 hx with h1 | h1 | h1
   ·exact .inl (mem_Y.2 (.inl h1))
   ·rcases HVN.out x h1 with h2 | h2
    ·exact .inl (mem_Y.2 (.inr (.inl h2)))
    ·exact .inr (Nat.le_trans HSZ.out h2)
   ·exact .inl (mem_Y.2 (.inr (.inr h1)))⟩
  go_wp2_with fail
  go_ret
  refine ⟨N0 + 11, v', vq, ⟨(c ++ seg bs 7 N0), S2, k + 1, p + (N0 + 11)⟩, C2, 0, ws, xs, ?_, H9.out.1, H9.out.2, HY2.out, ?_⟩
  ·have := HN16.out; first | rfl | (congr 2; omega) | (simp only [Ending.returned.injEq, Value.int.injEq, true_and]; omega) | go_num
  ·unfold CkLaw; simp only; rw [HCK.out]; exact ⟨by first | rfl | trivial, by first | rfl | trivial, HNX.out.symm, by first | rfl | trivial, by first | rfl | trivial⟩
 have k1b : ((b0 : Int) == 1) = false := beq_eq_false_iff_ne.2 (by omega)
 by_cases k2 : b0 = 2
 case neg =>
  have k2b : ((b0 : Int) == 2) = false := beq_eq_false_iff_ne.2 (by omega)
  have d7 : w2.cell? ⟨g, 7, none⟩ = some (.int .i64 0) := H2.out.1.at_ 7 rfl
  have z7 := H2.out.1.z 7
  go_wp2_with fail
  go_ret
  exact ⟨0, vc, vq, ⟨c, S, k, p⟩, _, 301, ws, xs, rfl, H2.out.1.put 7 (.int .i64 301) rfl, H2.out.2.setCell (mem_Y.2 (.inl rfl)) _, HYS.out, CkLaw.bad (by unfold ckP; rw [if_neg (by have := HR.out.2.2; omega), if_neg (fun h => h (by rw [HQ.out.1, HQ.out.2]; exact HE.out)), if_pos (by unfold ckOdd; rw [HN0.out, HBB.out]; omega)])⟩
 have hc1 : w2.cell? ⟨ga, oa, none⟩ = some (.int .u8 2) := by rw [hc0, k2]; rfl
 clear hc0 k1b
 by_cases k3 : N0 = 0
 ·have k3b : ((N0 : Int) == 0) = true := by subst k3; rfl
  have d7 : w2.cell? ⟨g, 7, none⟩ = some (.int .i64 0) := H2.out.1.at_ 7 rfl
  have z7 := H2.out.1.z 7
  go_wp2_with fail
  go_ret
  exact ⟨0, vc, vq, ⟨c, S, k, p⟩, _, 301, ws, xs, rfl, H2.out.1.put 7 (.int .i64 301) rfl, H2.out.2.setCell (mem_Y.2 (.inl rfl)) _, HYS.out, CkLaw.bad (by unfold ckP; rw [if_neg (by have := HR.out.2.2; omega), if_neg (fun h => h (by rw [HQ.out.1, HQ.out.2]; exact HE.out)), if_pos (by unfold ckOdd; rw [HN0.out, HBB.out]; omega)])⟩
 have k3b : ((N0 : Int) == 0) = false := beq_eq_false_iff_ne.2 (by omega)
 by_cases k4 : 16384 < N0
 ·have k4i : (16384 : Int) < (N0 : Int) := by omega
  have d7 : w2.cell? ⟨g, 7, none⟩ = some (.int .i64 0) := H2.out.1.at_ 7 rfl
  have z7 := H2.out.1.z 7
  go_wp2_with fail
  go_ret
  exact ⟨0, vc, vq, ⟨c, S, k, p⟩, _, 301, ws, xs, rfl, H2.out.1.put 7 (.int .i64 301) rfl, H2.out.2.setCell (mem_Y.2 (.inl rfl)) _, HYS.out, CkLaw.bad (by unfold ckP; rw [if_neg (by have := HR.out.2.2; omega), if_neg (fun h => h (by rw [HQ.out.1, HQ.out.2]; exact HE.out)), if_pos (by unfold ckOdd; rw [HN0.out, HBB.out]; omega)])⟩
 have k4i : ¬ (16384 : Int) < (N0 : Int) := by omega
 have HOD : Hd (¬ ckOdd k bs ∧ b0 = 2 ∧ 0 < N0 ∧ N0 ≤ 16384 ∧ k ≤ 2047) := ⟨by unfold ckOdd; rw [HN0.out, HBB.out]; omega, by omega, by omega, by omega, by omega⟩
 clear k1
 try clear k2
 have hN2' : N0 ≤ 16384 := HOD.out.2.2.2.1
 go_upto_region 11 with fail
 try clear k2b
 try clear k3b
 try clear k4i
 try clear k5b
 try clear d5
 have hN1 : 0 < N0 := HOD.out.2.2.1
 have hN2 : N0 ≤ 16384 := HOD.out.2.2.2.1
 by_cases hw : n < N0 + 11
 ·have hwi : (n : Int) < 7 + (N0 : Int) + 4 := by omega
  go_wp2_with fail
  go_ret
  exact ⟨0, vc, vq, ⟨c, S, k, p⟩, C, 0, ws, xs, rfl, H2.out.1, H2.out.2, HYS.out, CkLaw.wait (by unfold ckP; rw [if_neg (by have := HR.out.2.2; omega), if_neg (fun h => h (by rw [HQ.out.1, HQ.out.2]; exact HE.out)), if_neg HOD.out.1, if_pos (by rw [HN0.out]; have := HR.out.2.2; omega)])⟩
 have hwi : ¬ (n : Int) < 7 + (N0 : Int) + 4 := by omega
 have s7n : ∀ w, (Instr.slice 26 (.slice (some ⟨ga, oa, none⟩) n cp) (some (.int .i64 7)) (some (.int .i64 (7 + (N0 : Int)))) none).run Try.prog w = .ok (.slice (cutA (some ⟨ga, oa, none⟩) cp 7) N0 (cp - 7)) w := fun w => by
  have := run_cut (w := w) elB (some ⟨ga, oa, none⟩) n cp 7 (7 + N0) (by omega) (by omega)
  rw [Nat.add_sub_cancel_left, show ((7 + N0 : Nat) : Int) = 7 + (N0 : Int) by omega] at this; exact this
 have snw : ∀ w, (Instr.slice 26 (.slice (some ⟨ga, oa, none⟩) n cp) (some (.int .i64 (7 + (N0 : Int)))) (some (.int .i64 (7 + (N0 : Int) + 4))) none).run Try.prog w = .ok (.slice (cutA (some ⟨ga, oa, none⟩) cp (7 + N0)) 4 (cp - (7 + N0))) w := fun w => by
  have := run_cut (w := w) elB (some ⟨ga, oa, none⟩) n cp (7 + N0) (7 + N0 + 4) (by omega) (by omega)
  rw [Nat.add_sub_cancel_left, show ((7 + N0 : Nat) : Int) = 7 + (N0 : Int) by omega, show ((7 + N0 + 4 : Nat) : Int) = 7 + (N0 : Int) + 4 by omega] at this; exact this
 have HS7 := Hd.mk s7n
 have HSW := Hd.mk snw
 clear s7n snw
 go_upto_region 14 with fail
 clear hwi
 have s7n := HS7.out
 have hwp : IntKind.i64.wrap (7 + (N0 : Int)) = 7 + (N0 : Int) := by rw [IntKind.wrap_i64]; omega
 have HWP := Hd.mk hwp
 refine wp_region_held_drew (S := fun _ => True) (by kernel_rfl) trivial (fun hHeld => ?_)
 have H3 : Hd (RdS Z base w2.drew g vl vc vq L c S C k p 0 ws xs ∧ Chg (rdY g vc vq) w w2.drew) := ⟨H2.out.1.drew, H2.out.2.drew⟩
 obtain ⟨w3, hw3⟩ : ∃ U, w2.drew = U := ⟨_, rfl⟩
 rw [hw3] at H3 ⊢
 clear hw3
 refine wpAnyH_take (i := 0) (oi := ?oi701) (v := ?v701) ?hi701 (by kernel_rfl) (by kernel_rfl) (by kernel_rfl) ?hQ701 (Or.inl ⟨?hw701, ?hy701⟩) (by assumption) ?rest701
 case hi701 => simp only [List.getElem?_toArray, List.getElem?_cons_succ, List.getElem?_cons_zero]; rfl
 case hQ701 => exact fun _ _ _ h => h
 case hw701 => rfl
 case hy701 => (intro W hW; go_simp; all_goals rfl)
 simp only [Act.put, List.setIfInBounds_toArray, List.set_cons_zero, List.set_cons_succ]
 refine wpAnyH_take (i := 1) (oi := ?oi702) (v := ?v702) ?hi702 (by kernel_rfl) (by kernel_rfl) (by kernel_rfl) ?hQ702 (Or.inl ⟨?hw702, ?hy702⟩) (by assumption) ?rest702
 case hi702 => simp only [List.getElem?_toArray, List.getElem?_cons_succ, List.getElem?_cons_zero]; rfl
 case hQ702 => exact fun _ _ _ h => h
 case hw702 => rfl
 case hy702 => (intro W hW; go_simp; all_goals rfl)
 simp only [Act.put, List.setIfInBounds_toArray, List.set_cons_zero, List.set_cons_succ]
 refine wpAnyH_take (i := 2) (oi := ?oi703) (v := ?v703) ?hi703 (by kernel_rfl) (by kernel_rfl) (by kernel_rfl) ?hQ703 (Or.inl ⟨?hw703, ?hy703⟩) (by assumption) ?rest703
 case hi703 => simp only [List.getElem?_toArray, List.getElem?_cons_succ, List.getElem?_cons_zero]; rfl
 case hQ703 => exact fun _ _ _ h => h
 case hw703 => rfl
 case hy703 => (intro W hW; go_simp; all_goals rfl)
 simp only [Act.put, List.setIfInBounds_toArray, List.set_cons_zero, List.set_cons_succ]
 refine wpAnyH_take (i := 3) (oi := ?oi704) (v := ?v704) ?hi704 (by kernel_rfl) (by kernel_rfl) (by kernel_rfl) ?hQ704 (Or.inl ⟨?hw704, ?hy704⟩) (by assumption) ?rest704
 case hi704 => simp only [List.getElem?_toArray, List.getElem?_cons_succ, List.getElem?_cons_zero]; rfl
 case hQ704 => exact fun _ _ _ h => h
 case hw704 => rfl
 case hy704 => (intro W hW; go_simp; all_goals rfl)
 simp only [Act.put, List.setIfInBounds_toArray, List.set_cons_zero, List.set_cons_succ]
 refine wpAnyH_take (i := 4) (oi := ?oi705) (v := ?v705) ?hi705 (by kernel_rfl) (by kernel_rfl) (by kernel_rfl) ?hQ705 (Or.inl ⟨?hw705, ?hy705⟩) (by assumption) ?rest705
 case hi705 => simp only [List.getElem?_toArray, List.getElem?_cons_succ, List.getElem?_cons_zero]; rfl
 case hQ705 => exact fun _ _ _ h => h
 case hw705 => rfl
 case hy705 => (intro W hW; go_simp; all_goals rfl)
 simp only [Act.put, List.setIfInBounds_toArray, List.set_cons_zero, List.set_cons_succ]
 refine wpAnyH_take (i := 5) (oi := ?oi706) (v := ?v706) ?hi706 (by kernel_rfl) (by kernel_rfl) (by kernel_rfl) ?hQ706 (Or.inl ⟨?hw706, ?hy706⟩) (by assumption) ?rest706
 case hi706 => simp only [List.getElem?_toArray, List.getElem?_cons_succ, List.getElem?_cons_zero]; rfl
 case hQ706 => exact fun _ _ _ h => h
 case hw706 => rfl
 case hy706 => (intro W hW; go_simp; all_goals rfl)
 simp only [Act.put, List.setIfInBounds_toArray, List.set_cons_zero, List.set_cons_succ]
 refine wpAnyH_take (i := 6) (oi := ?oi707) (v := ?v707) ?hi707 (by kernel_rfl) (by kernel_rfl) (by kernel_rfl) ?hQ707 (Or.inl ⟨?hw707, ?hy707⟩) (by assumption) ?rest707
 case hi707 => simp only [List.getElem?_toArray, List.getElem?_cons_succ, List.getElem?_cons_zero]; rfl
 case hQ707 => exact fun _ _ _ h => h
 case hw707 => rfl
 case hy707 => (intro W hW; go_simp; all_goals rfl)
 simp only [Act.put, List.setIfInBounds_toArray, List.set_cons_zero, List.set_cons_succ]
 refine wpAnyH_ready (rs := [7]) (by kernel_rfl) (by simp) ?_
 refine AllReadyH.cons (i := 7) (o := ?o708) ?ho708 (fun Kq hK => ?step708) AllReadyH.nil
 case ho708 => simp only [List.getElem?_toArray, List.getElem?_cons_succ, List.getElem?_cons_zero]; rfl
 go_simp
 (go_at_call 91; refine (write_any w3 g 3 58 S C _ (cutA (some ⟨ga, oa, none⟩) cp 7) N0 (cp - 7) w3.heap.size (seg bs 7 N0) H3.out.1.strm (by have := rd_seg (l := 7) (h := 7 + N0) (HRW.out w3 H3.out.2) (by omega) (by omega) hn; rw [Nat.add_sub_cancel_left] at this; exact this) (Nat.le_refl _) (seg_lt HR.out.2.1 7 N0) (by omega)).mono ?_; rintro e w4 ⟨rfl, hs4, hg4⟩)
 have H4 : Hd (RdS Z base w4 g vl vc vq L c (Crc.more S (seg bs 7 N0)) ((C + N0) % 18446744073709551616) k p 0 ws xs ∧ Chg (rdY g vc vq) w w4) := ⟨H3.out.1.crc hs4 hg4, H3.out.2.trans ((Chg.of_grown hg4).mono (fun x hx _ => by rw [List.mem_singleton.1 hx]; exact mem_Y.2 (.inl rfl)))⟩
 clear hs4 hg4
 refine hK.out _ _ trivial (fun _ => ?_)
 clear hK Kq
 try simp only [Act.put, List.setIfInBounds_toArray, List.set_cons_zero, List.set_cons_succ]
 refine wpAnyH_done (by kernel_rfl) ?_ _
 clear hHeld s7n H3 hwp
 obtain ⟨S2, hS2⟩ : ∃ s, Crc.more S (seg bs 7 N0) = s := ⟨_, rfl⟩
 obtain ⟨C2, hC2⟩ : ∃ s, (C + N0) % 18446744073709551616 = s := ⟨_, rfl⟩
 have HS2 := Hd.mk hS2
 rw [hS2, hC2] at H4
 clear hS2 hC2
 obtain ⟨q4, hq4⟩ : ∃ q, le256 (seg bs (7 + N0) 4) = q := ⟨_, rfl⟩
 have HQ4 := Hd.mk hq4
 clear hq4
 go_upto_region 15 with fail
 have snw := HSW.out
 have hwp := HWP.out
 refine wp_region_held_drew (S := fun _ => True) (by kernel_rfl) trivial (fun hHeld => ?_)
 have H5 : Hd (RdS Z base w4.drew g vl vc vq L c S2 C2 k p 0 ws xs ∧ Chg (rdY g vc vq) w w4.drew) := ⟨H4.out.1.drew, H4.out.2.drew⟩
 obtain ⟨w5, hw5⟩ : ∃ U, w4.drew = U := ⟨_, rfl⟩
 rw [hw5] at H5 ⊢
 clear hw5 H4
 refine wpAnyH_take (i := 0) (oi := ?oi801) (v := ?v801) ?hi801 (by kernel_rfl) (by kernel_rfl) (by kernel_rfl) ?hQ801 (Or.inl ⟨?hw801, ?hy801⟩) (by assumption) ?rest801
 case hi801 => simp only [List.getElem?_toArray, List.getElem?_cons_succ, List.getElem?_cons_zero]; rfl
 case hQ801 => exact fun _ _ _ h => h
 case hw801 => rfl
 case hy801 => (intro W hW; go_simp; all_goals rfl)
 simp only [Act.put, List.setIfInBounds_toArray, List.set_cons_zero, List.set_cons_succ]
 refine wpAnyH_take (i := 1) (oi := ?oi802) (v := ?v802) ?hi802 (by kernel_rfl) (by kernel_rfl) (by kernel_rfl) ?hQ802 (Or.inl ⟨?hw802, ?hy802⟩) (by assumption) ?rest802
 case hi802 => simp only [List.getElem?_toArray, List.getElem?_cons_succ, List.getElem?_cons_zero]; rfl
 case hQ802 => exact fun _ _ _ h => h
 case hw802 => rfl
 case hy802 => (intro W hW; go_simp; all_goals rfl)
 simp only [Act.put, List.setIfInBounds_toArray, List.set_cons_zero, List.set_cons_succ]
 refine wpAnyH_take (i := 2) (oi := ?oi803) (v := ?v803) ?hi803 (by kernel_rfl) (by kernel_rfl) (by kernel_rfl) ?hQ803 (Or.inl ⟨?hw803, ?hy803⟩) (by assumption) ?rest803
 case hi803 => simp only [List.getElem?_toArray, List.getElem?_cons_succ, List.getElem?_cons_zero]; rfl
 case hQ803 => exact fun _ _ _ h => h
 case hw803 => rfl
 case hy803 => (intro W hW; go_simp; all_goals rfl)
 simp only [Act.put, List.setIfInBounds_toArray, List.set_cons_zero, List.set_cons_succ]
 refine wpAnyH_take (i := 4) (oi := ?oi804) (v := ?v804) ?hi804 (by kernel_rfl) (by kernel_rfl) (by kernel_rfl) ?hQ804 (Or.inl ⟨?hw804, ?hy804⟩) (by assumption) ?rest804
 case hi804 => simp only [List.getElem?_toArray, List.getElem?_cons_succ, List.getElem?_cons_zero]; rfl
 case hQ804 => exact fun _ _ _ h => h
 case hw804 => rfl
 case hy804 => (intro W hW; go_simp; all_goals rfl)
 simp only [Act.put, List.setIfInBounds_toArray, List.set_cons_zero, List.set_cons_succ]
 refine wpAnyH_take (i := 5) (oi := ?oi805) (v := ?v805) ?hi805 (by kernel_rfl) (by kernel_rfl) (by kernel_rfl) ?hQ805 (Or.inl ⟨?hw805, ?hy805⟩) (by assumption) ?rest805
 case hi805 => simp only [List.getElem?_toArray, List.getElem?_cons_succ, List.getElem?_cons_zero]; rfl
 case hQ805 => exact fun _ _ _ h => h
 case hw805 => rfl
 case hy805 => (intro W hW; go_simp; all_goals rfl)
 simp only [Act.put, List.setIfInBounds_toArray, List.set_cons_zero, List.set_cons_succ]
 refine wpAnyH_take (i := 6) (oi := ?oi806) (v := ?v806) ?hi806 (by kernel_rfl) (by kernel_rfl) (by kernel_rfl) ?hQ806 (Or.inl ⟨?hw806, ?hy806⟩) (by assumption) ?rest806
 case hi806 => simp only [List.getElem?_toArray, List.getElem?_cons_succ, List.getElem?_cons_zero]; rfl
 case hQ806 => exact fun _ _ _ h => h
 case hw806 => rfl
 case hy806 => (intro W hW; go_simp; all_goals rfl)
 simp only [Act.put, List.setIfInBounds_toArray, List.set_cons_zero, List.set_cons_succ]
 refine wpAnyH_take (i := 7) (oi := ?oi807) (v := ?v807) ?hi807 (by kernel_rfl) (by kernel_rfl) (by kernel_rfl) ?hQ807 (Or.inl ⟨?hw807, ?hy807⟩) (by assumption) ?rest807
 case hi807 => simp only [List.getElem?_toArray, List.getElem?_cons_succ, List.getElem?_cons_zero]; rfl
 case hQ807 => exact fun _ _ _ h => h
 case hw807 => rfl
 case hy807 => (intro W hW; go_simp; all_goals rfl)
 simp only [Act.put, List.setIfInBounds_toArray, List.set_cons_zero, List.set_cons_succ]
 refine wpAnyH_take (i := 8) (oi := ?oi808) (v := ?v808) ?hi808 (by kernel_rfl) (by kernel_rfl) (by kernel_rfl) ?hQ808 (Or.inl ⟨?hw808, ?hy808⟩) (by assumption) ?rest808
 case hi808 => simp only [List.getElem?_toArray, List.getElem?_cons_succ, List.getElem?_cons_zero]; rfl
 case hQ808 => exact fun _ _ _ h => h
 case hw808 => rfl
 case hy808 => (intro W hW; go_simp; all_goals rfl)
 simp only [Act.put, List.setIfInBounds_toArray, List.set_cons_zero, List.set_cons_succ]
 refine wpAnyH_ready (rs := [3]) (by kernel_rfl) (by simp) ?_
 refine AllReadyH.cons (i := 3) (o := ?o809) ?ho809 (fun Kq hK => ?step809) AllReadyH.nil
 case ho809 => simp only [List.getElem?_toArray, List.getElem?_cons_succ, List.getElem?_cons_zero]; rfl
 go_simp
 (go_at_call 94; refine (ssum_any w5 g 3 58 S2 C2 _ H5.out.1.strm).mono ?_; rintro e w6 ⟨rfl, hw6⟩; subst hw6)
 refine hK.out _ _ trivial (fun _ => ?_)
 clear hK Kq
 try simp only [Act.put, List.setIfInBounds_toArray, List.set_cons_zero, List.set_cons_succ]
 refine wpAnyH_ready (rs := [9]) (by kernel_rfl) (by simp) ?_
 refine AllReadyH.cons (i := 9) (o := ?o810) ?ho810 (fun Kq hK => ?step810) AllReadyH.nil
 case ho810 => simp only [List.getElem?_toArray, List.getElem?_cons_succ, List.getElem?_cons_zero]; rfl
 go_simp
 (go_at_call 101; refine (wnum_any w5 (cutA (some ⟨ga, oa, none⟩) cp (7 + N0)) 4 (cp - (7 + N0)) w5.heap.size (seg bs (7 + N0) 4) (by have := rd_seg (l := 7 + N0) (h := 7 + N0 + 4) (HRW.out w5 H5.out.2) (by omega) (by omega) hn; rw [Nat.add_sub_cancel_left] at this; exact this) (seg_lt HR.out.2.1 _ 4) (by omega)).mono ?_; rw [HQ4.out]; rintro e w6 ⟨rfl, hw6⟩; subst hw6)
 refine hK.out _ _ trivial (fun _ => ?_)
 clear hK Kq
 try simp only [Act.put, List.setIfInBounds_toArray, List.set_cons_zero, List.set_cons_succ]
 refine wpAnyH_take (i := 10) (oi := ?oi811) (v := ?v811) ?hi811 (by kernel_rfl) (by kernel_rfl) (by kernel_rfl) ?hQ811 (Or.inl ⟨?hw811, ?hy811⟩) (by assumption) ?rest811
 case hi811 => simp only [List.getElem?_toArray, List.getElem?_cons_succ, List.getElem?_cons_zero]; rfl
 case hQ811 => exact fun _ _ _ h => h
 case hw811 => rfl
 case hy811 => (intro W hW; go_simp; all_goals rfl)
 simp only [Act.put, List.setIfInBounds_toArray, List.set_cons_zero, List.set_cons_succ]
 refine wpAnyH_done (by kernel_rfl) ?_ _
 clear hHeld snw hwp
 by_cases e4 : S2 = q4
 case neg =>
  have e4b : ((S2 : Int) == (q4 : Int)) = false := beq_eq_false_iff_ne.2 (by omega)
  have d7 : w5.cell? ⟨g, 7, none⟩ = some (.int .i64 0) := H5.out.1.at_ 7 rfl
  have z7 := H5.out.1.z 7
  go_wp2_with fail
  go_ret
  exact ⟨0, vc, vq, ⟨c, S2, k, p⟩, _, 302, ws, xs, rfl, H5.out.1.put 7 (.int .i64 302) rfl, H5.out.2.setCell (mem_Y.2 (.inl rfl)) _, HYS.out, CkLaw.bad (by unfold ckP; rw [if_neg (by have := HR.out.2.2; omega), if_neg (fun h => h (by rw [HQ.out.1, HQ.out.2]; exact HE.out)), if_neg HOD.out.1, if_neg (by rw [HN0.out]; have := HR.out.2.2; omega), if_pos (by rw [HN0.out, HS2.out, HQ4.out]; exact e4)])⟩
 have e4b : ((S2 : Int) == (q4 : Int)) = true := by subst e4; simp
 have HCK : Hd (ckP S k bs = .ok true N0) := ⟨by unfold ckP; rw [if_neg (by have := HR.out.2.2; omega), if_neg (fun h => h (by rw [HQ.out.1, HQ.out.2]; exact HE.out)), if_neg HOD.out.1, if_neg (by rw [HN0.out]; have := HR.out.2.2; omega), if_neg (fun h => h (by rw [HN0.out, HS2.out, HQ4.out]; exact e4)), HN0.out, HBB.out, HOD.out.2.1]; rfl⟩
 clear e4
 go_upto_region 18 with fail
 clear e4b
 have s7n := HS7.out
 have hwp := HWP.out
 refine wp_region_held_drew (S := fun _ => True) (by kernel_rfl) trivial (fun hHeld => ?_)
 have H6 : Hd (RdS Z base w5.drew g vl vc vq L c S2 C2 k p 0 ws xs ∧ Chg (rdY g vc vq) w w5.drew) := ⟨H5.out.1.drew, H5.out.2.drew⟩
 obtain ⟨w6, hw6⟩ : ∃ U, w5.drew = U := ⟨_, rfl⟩
 rw [hw6] at H6 ⊢
 clear hw6 H5
 refine wpAnyH_take (i := 0) (oi := ?oi901) (v := ?v901) ?hi901 (by kernel_rfl) (by kernel_rfl) (by kernel_rfl) ?hQ901 (Or.inl ⟨?hw901, ?hy901⟩) (by assumption) ?rest901
 case hi901 => simp only [List.getElem?_toArray, List.getElem?_cons_succ, List.getElem?_cons_zero]; rfl
 case hQ901 => exact fun _ _ _ h => h
 case hw901 => rfl
 case hy901 => (intro W hW; go_simp; all_goals rfl)
 simp only [Act.put, List.setIfInBounds_toArray, List.set_cons_zero, List.set_cons_succ]
 refine wpAnyH_take (i := 1) (oi := ?oi902) (v := ?v902) ?hi902 (by kernel_rfl) (by kernel_rfl) (by kernel_rfl) ?hQ902 (Or.inl ⟨?hw902, ?hy902⟩) (by assumption) ?rest902
 case hi902 => simp only [List.getElem?_toArray, List.getElem?_cons_succ, List.getElem?_cons_zero]; rfl
 case hQ902 => exact fun _ _ _ h => h
 case hw902 => rfl
 case hy902 => (intro W hW; go_simp; all_goals rfl)
 simp only [Act.put, List.setIfInBounds_toArray, List.set_cons_zero, List.set_cons_succ]
 refine wpAnyH_take (i := 2) (oi := ?oi903) (v := ?v903) ?hi903 (by kernel_rfl) (by kernel_rfl) (by kernel_rfl) ?hQ903 (Or.inl ⟨?hw903, ?hy903⟩) (by assumption) ?rest903
 case hi903 => simp only [List.getElem?_toArray, List.getElem?_cons_succ, List.getElem?_cons_zero]; rfl
 case hQ903 => exact fun _ _ _ h => h
 case hw903 => rfl
 case hy903 => (intro W hW; go_simp; all_goals rfl)
 simp only [Act.put, List.setIfInBounds_toArray, List.set_cons_zero, List.set_cons_succ]
 refine wpAnyH_take (i := 3) (oi := ?oi904) (v := ?v904) ?hi904 (by kernel_rfl) (by kernel_rfl) (by kernel_rfl) ?hQ904 (Or.inl ⟨?hw904, ?hy904⟩) (by assumption) ?rest904
 case hi904 => simp only [List.getElem?_toArray, List.getElem?_cons_succ, List.getElem?_cons_zero]; rfl
 case hQ904 => exact fun _ _ _ h => h
 case hw904 => rfl
 case hy904 => (intro W hW; go_simp; all_goals rfl)
 simp only [Act.put, List.setIfInBounds_toArray, List.set_cons_zero, List.set_cons_succ]
 refine wpAnyH_take (i := 5) (oi := ?oi905) (v := ?v905) ?hi905 (by kernel_rfl) (by kernel_rfl) (by kernel_rfl) ?hQ905 (Or.inl ⟨?hw905, ?hy905⟩) (by assumption) ?rest905
 case hi905 => simp only [List.getElem?_toArray, List.getElem?_cons_succ, List.getElem?_cons_zero]; rfl
 case hQ905 => exact fun _ _ _ h => h
 case hw905 => rfl
 case hy905 => (intro W hW; go_simp; all_goals rfl)
 simp only [Act.put, List.setIfInBounds_toArray, List.set_cons_zero, List.set_cons_succ]
 refine wpAnyH_take (i := 6) (oi := ?oi906) (v := ?v906) ?hi906 (by kernel_rfl) (by kernel_rfl) (by kernel_rfl) ?hQ906 (Or.inl ⟨?hw906, ?hy906⟩) (by assumption) ?rest906
 case hi906 => simp only [List.getElem?_toArray, List.getElem?_cons_succ, List.getElem?_cons_zero]; rfl
 case hQ906 => exact fun _ _ _ h => h
 case hw906 => rfl
 case hy906 => (intro W hW; go_simp; all_goals rfl)
 simp only [Act.put, List.setIfInBounds_toArray, List.set_cons_zero, List.set_cons_succ]
 refine wpAnyH_take (i := 7) (oi := ?oi907) (v := ?v907) ?hi907 (by kernel_rfl) (by kernel_rfl) (by kernel_rfl) ?hQ907 (Or.inl ⟨?hw907, ?hy907⟩) (by assumption) ?rest907
 case hi907 => simp only [List.getElem?_toArray, List.getElem?_cons_succ, List.getElem?_cons_zero]; rfl
 case hQ907 => exact fun _ _ _ h => h
 case hw907 => rfl
 case hy907 => (intro W hW; go_simp; all_goals rfl)
 simp only [Act.put, List.setIfInBounds_toArray, List.set_cons_zero, List.set_cons_succ]
 refine wpAnyH_take (i := 8) (oi := ?oi908) (v := ?v908) ?hi908 (by kernel_rfl) (by kernel_rfl) (by kernel_rfl) ?hQ908 (Or.inl ⟨?hw908, ?hy908⟩) (by assumption) ?rest908
 case hi908 => simp only [List.getElem?_toArray, List.getElem?_cons_succ, List.getElem?_cons_zero]; rfl
 case hQ908 => exact fun _ _ _ h => h
 case hw908 => rfl
 case hy908 => (intro W hW; go_simp; all_goals rfl)
 simp only [Act.put, List.setIfInBounds_toArray, List.set_cons_zero, List.set_cons_succ]
 have hd2 : w6.cell? ⟨g, 2, none⟩ = some vc := H6.out.1.at_ 2 rfl
 refine wpAnyH_ready (rs := [4]) (by kernel_rfl) (by simp) ?_
 refine AllReadyH.cons (i := 4) (o := ?o4L) ?ho4L (fun Kq hK => ?step4L) AllReadyH.nil
 case ho4L => simp only [List.getElem?_toArray, List.getElem?_cons_succ, List.getElem?_cons_zero]; rfl
 go_simp
 refine hK.out _ _ trivial (fun _ => ?_)
 clear hK Kq hd2
 try simp only [Act.put, List.setIfInBounds_toArray, List.set_cons_zero, List.set_cons_succ]
 refine wpAnyH_ready (rs := [9]) (by kernel_rfl) (by simp) ?_
 refine AllReadyH.cons (i := 9) (o := ?o9L) ?ho9L (fun Kq hK => ?step9L) AllReadyH.nil
 case ho9L => simp only [List.getElem?_toArray, List.getElem?_cons_succ, List.getElem?_cons_zero]; rfl
 refine step_app elB rfl (.tmp 97) (.tmp 101) rfl base vc c.length (cb c) rfl H6.out.1.co w6.heap.size (cutA (some ⟨ga, oa, none⟩) cp 7) N0 (cp - 7) (cb (seg bs 7 N0)) rfl (by have := rd_seg (l := 7) (h := 7 + N0) (HRW.out w6 H6.out.2) (by omega) (by omega) hn; rw [Nat.add_sub_cancel_left] at this; exact this) (cb_one _) (by have := HKN.out.1; have := HOD.out.2.2.2.2; unfold maxLen; omega) (by have := HKN.out.1; have := HOD.out.2.2.2.2; omega) (Nat.le_trans H6.out.1.bg (Nat.le_of_lt H6.out.1.lt)) ?_
 intro v' w7 hO
 rw [← cb_append] at hO
 have hsl : (c ++ seg bs 7 N0).length = c.length + N0 := by rw [List.length_append, seg_len (by have := HR.out.2.2; omega)]
 have H7 : Hd (Onto w6 w7 base 5 vc v' (c ++ seg bs 7 N0).length (cb (c ++ seg bs 7 N0))) := ⟨by rw [hsl]; exact hO⟩
 have hlt6 := H6.out.1.lt
 have hc7 : w7.cell? ⟨g, 2, none⟩ = some vc := (World.cell?_of_block (a := ⟨g, 2, none⟩) (hO.2.1.block g hlt6 (fun e => H6.out.1.gc e.symm))).trans (H6.out.1.at_ 2 rfl)
 have hz7 : w7.frozen? ⟨g, 2, none⟩ = false := (World.frozen?_of_block (a := ⟨g, 2, none⟩) (hO.2.1.block g hlt6 (fun e => H6.out.1.gc e.symm))).trans (H6.out.1.z 2)
 have HCZ := Hd.mk (And.intro hc7 hz7)
 clear hO hsl hlt6 hc7 hz7
 refine hK.out _ _ trivial (fun _ => ?_)
 clear hK Kq
 try simp only [Act.put, List.setIfInBounds_toArray, List.set_cons_zero, List.set_cons_succ]
 refine wpAnyH_take (i := 10) (oi := ?oi1001) (v := ?v1001) ?hi1001 (by kernel_rfl) (by kernel_rfl) (by kernel_rfl) ?hQ1001 (Or.inl ⟨?hw1001, ?hy1001⟩) (by assumption) ?rest1001
 case hi1001 => simp only [List.getElem?_toArray, List.getElem?_cons_succ, List.getElem?_cons_zero]; rfl
 case hQ1001 => exact fun _ _ _ h => h
 case hw1001 => rfl
 case hy1001 => (intro W hW; go_simp; all_goals rfl)
 simp only [Act.put, List.setIfInBounds_toArray, List.set_cons_zero, List.set_cons_succ]
 refine wpAnyH_take (i := 11) (oi := ?oi1002) (v := ?v1002) ?hi1002 (by kernel_rfl) (by kernel_rfl) (by kernel_rfl) ?hQ1002 (Or.inl ⟨?hw1002, ?hy1002⟩) (by assumption) ?rest1002
 case hi1002 => simp only [List.getElem?_toArray, List.getElem?_cons_succ, List.getElem?_cons_zero]; rfl
 case hQ1002 => exact fun _ _ _ h => h
 case hw1002 => rfl
 case hy1002 => (intro W hW; go_simp; all_goals rfl)
 simp only [Act.put, List.setIfInBounds_toArray, List.set_cons_zero, List.set_cons_succ]
 refine wpAnyH_ready (rs := [12]) (by kernel_rfl) (by simp) ?_
 refine AllReadyH.cons (i := 12) (o := ?o12L) ?ho12L (fun Kq hK => ?step12L) AllReadyH.nil
 case ho12L => simp only [List.getElem?_toArray, List.getElem?_cons_succ, List.getElem?_cons_zero]; rfl
 obtain ⟨Av, cv, hv, hvc, _⟩ := own_form H7.out.1
 refine step_set rfl 26 (.tmp 104) (.tmp 102) rfl g 2 v' rfl rfl (by rw [hv]; rfl) (by rw [hv]; rfl) vc HCZ.out.1 HCZ.out.2 infoSlB ?_
 obtain ⟨w8, hw8⟩ : ∃ U, w7.setCell ⟨g, 2, none⟩ v' = U := ⟨_, rfl⟩
 rw [hw8]
 have H8 : Hd (RdS Z base w8 g vl v' vq L (c ++ seg bs 7 N0) S2 C2 k p 0 ws xs ∧ Chg (rdY g vc vq) w w8 ∧ (∀ x, v'.ownBlock = some x → vc.ownBlock = some x ∨ w6.heap.size ≤ x)) := ⟨by rw [← hw8]; exact H6.out.1.cont (Y := vc.ownBlock.toList) ⟨H7.out.2.1.os, H7.out.2.1.tape, H7.out.2.1.output, H7.out.2.1.size, fun x hx hm => H7.out.2.1.block x hx fun e => hm (by rw [Option.mem_toList]; exact e.symm)⟩ (fun x hx => by rwa [Option.mem_toList] at hx) H7.out.1 H7.out.2.2 (fun x hx => (List.mem_append.1 hx).elim (H6.out.1.cb_ x) (seg_lt HR.out.2.1 7 N0 x)), by rw [← hw8]; exact (H6.out.2.trans ⟨H7.out.2.1.os, H7.out.2.1.tape, H7.out.2.1.output, H7.out.2.1.size, fun x hx hm => H7.out.2.1.block x hx fun e => hm (mem_Y.2 (.inr (.inl e.symm)))⟩).setCell (mem_Y.2 (.inl rfl)) _, H7.out.2.2⟩
 clear hw8 hv hvc
 refine hK.out _ _ trivial (fun _ => ?_)
 clear hK Kq
 try simp only [Act.put, List.setIfInBounds_toArray, List.set_cons_zero, List.set_cons_succ]
 refine wpAnyH_done (by kernel_rfl) ?_ _
 clear hHeld HCZ s7n H7 hwp
 have d5 : w8.cell? ⟨g, 5, none⟩ = some (.int .i64 (k : Int)) := H8.out.1.at_ 5 rfl
 have z5 := H8.out.1.z 5
 have d6 : w8.cell? ⟨g, 6, none⟩ = some (.int .i64 (p : Int)) := H8.out.1.at_ 6 rfl
 have z6 := H8.out.1.z 6
 go_upto_region 21 with fail
 obtain ⟨w9, hw9⟩ : ∃ U, (w8.setCell ⟨g, 5, none⟩ (.int .i64 ((k : Int) + 1))).setCell ⟨g, 6, none⟩ (.int .i64 ((p : Int) + (7 + (N0 : Int) + 4))) = U := ⟨_, rfl⟩
 rw [hw9]
 rw [show ((k : Int) + 1) = ((k + 1 : Nat) : Int) by omega, show ((p : Int) + (7 + (N0 : Int) + 4)) = ((p + (N0 + 11) : Nat) : Int) by omega] at hw9
 have H9 : Hd (RdS Z base w9 g vl v' vq L (c ++ seg bs 7 N0) S2 C2 (k + 1) (p + (N0 + 11)) 0 ws xs ∧ Chg (rdY g vc vq) w w9) := ⟨by rw [← hw9]; exact (H8.out.1.put 5 (.int .i64 ((k + 1 : Nat) : Int)) (k' := k + 1) (p' := p) (fl' := 0) rfl).put 6 (.int .i64 ((p + (N0 + 11) : Nat) : Int)) (k' := k + 1) (p' := p + (N0 + 11)) (fl' := 0) rfl, by rw [← hw9]; exact (H8.out.2.1.setCell (mem_Y.2 (.inl rfl)) _).setCell (mem_Y.2 (.inl rfl)) _⟩
 have HVN := Hd.mk H8.out.2.2
 have HSZ : Hd (w.heap.size ≤ w6.heap.size) := ⟨H6.out.2.size⟩
 clear hw9 d5 z5 d6 z6 H8 H6
 have hc9 : w9.cell? ⟨ga, oa, none⟩ = some (.int .u8 2) := by rw [HB0.out w9 H9.out.2, HOD.out.2.1]; rfl
 have HNX : Hd ((⟨c, S, k, p⟩ : Mid).next bs N0 = ⟨(c ++ seg bs 7 N0), S2, k + 1, p + (N0 + 11)⟩) := ⟨by unfold Mid.next; simp only; rw [HS2.out]⟩
 have HY2 : Hd (∀ x ∈ rdY g v' vq, x ∈ rdY g vc vq ∨ w.heap.size ≤ x) := ⟨fun x hx => by
  rcases mem_Y.1 hx with h1 | h1 | h1
  ·exact .inl (mem_Y.2 (.inl h1))
  ·rcases HVN.out x h1 with h2 | h2
   ·exact .inl (mem_Y.2 (.inr (.inl h2)))
   ·exact .inr (Nat.le_trans HSZ.out h2)
  ·exact .inl (mem_Y.2 (.inr (.inr h1)))⟩
 go_wp2_with fail
 refine (HM.out w9 v' (c ++ seg bs 7 N0) S2 C2 (k + 1) (p + (N0 + 11)) H9.out.1 (by have := HKN.out.1; have := HOD.out.2.2.2.2; rw [List.length_append, seg_len (by have := HR.out.2.2; omega)]; omega)).mono ?_
 rintro e w10 ⟨vq2, fl2, ws2, xs2, rfl, hR2, hC2, hv2, hL2⟩
 have HF := Hd.mk (And.intro hR2 (And.intro hC2 (And.intro hv2 hL2)))
 clear hR2 hC2 hv2 hL2
 go_wp2_with fail
 go_ret
 have hch : Chg (rdY g vc vq) w w10 := H9.out.2.newer HF.out.2.1 HY2.out
 refine ⟨N0 + 11, .slice none 0 0, vq2, mid0, 0, fl2, ws2, xs2, ?_, HF.out.1, hch, fun x hx => ?_, ?_⟩
 ·first | rfl | (congr 2; omega) | go_num
 ·rcases mem_Y.1 hx with h1 | h1 | h1
  ·exact .inl (mem_Y.2 (.inl h1))
  ·cases h1
  ·rcases HF.out.2.2.1 x h1 with h2 | h2
   ·exact .inl (mem_Y.2 (.inr (.inr h2)))
   ·exact .inr (Nat.le_trans H9.out.2.size h2)
 ·unfold CkLaw; simp only; rw [HCK.out]; simp only; rw [HNX.out]
  refine ⟨trivial, trivial, HF.out.2.2.2.imp (fun ⟨x, W, a1, a2, a3, a4, a5⟩ => ⟨x, W, a1, a2, a3, a4, a5.lower H9.out.2.size⟩) id⟩
end Go.Proofs.Ytbcmjjcbjojakaa
