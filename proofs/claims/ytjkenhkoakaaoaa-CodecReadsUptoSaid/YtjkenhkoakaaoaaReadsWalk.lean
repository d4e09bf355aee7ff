/- The walk of CodecReads. (Printed by tools/readsgen.py.) -/
import Derived.Test.YtjkenhkoakaaoaaReadsS
namespace Go.Proofs.Ytjkenhkoakaaoaa
open Go.RowKit
set_option linter.unusedVariables false
theorem take_set_succ (l : List Nat) (k z : Nat) (h : k < l.length) : (l.set k z).take (k + 1) = l.take k ++ [z] := by
  rw [List.take_succ_eq_append_getElem (by simpa using h), List.take_set_of_le (Nat.le_refl _)]
  simp
theorem set_lt (l : List Nat) (k z : Nat) (h : ∀ x ∈ l, x < 256) (hz : z < 256) : ∀ x ∈ l.set k z, x < 256 := fun x hx => by
  rcases List.mem_or_eq_of_mem_set hx with h1 | h1
  · exact h x h1
  · rw [h1]; exact hz
theorem set_marks (l : List Nat) (k z n : Nat) (hl : l.length = n) (h : k < n) : (cb (l ++ marks)).set k (.int .u8 ((z : Nat) : Int)) = cb (l.set k z ++ marks) := by
  rw [cb_append, cb_append, List.set_append_left _ _ (by rw [cb_length, hl]; exact h)]; unfold cb; rw [List.map_set]; rfl
set_option maxRecDepth 20000 in
set_option maxHeartbeats 16000000 in
theorem reads_walk (Xa : Option Addr) (na ca : Nat) (za : List Int) (Xb : Option Addr) (nb kb : Nat) (zb : List Int) (s : Option Addr) (sn sc : Nat) (K : Nat → Int × Int × Int × Int) (w : World) (hra : IsRow .u8 w Xa na ca za) (hca : ca ≤ 1048576) (hrb : IsRow .u8 w Xb nb kb zb) (hcb : kb ≤ 1048576) (hq : Quads w s sn K) (hsc : sn ≤ sc) (hsn : sn ≤ 1048576) :
    Calls Try.prog 8 #[.slice Xa na ca, .slice Xb nb kb, .slice s sn sc] w fun e w' => e = .returned (.bool true) ∧ Below w.heap.size w w' := by
  obtain ⟨l1, hrd1, hlb1, hll1, hlc1⟩ := hra.bytes
  obtain ⟨l2, hrd2, hlb2, hll2, hlc2⟩ := hrb.bytes
  have H0 : Hd ((Rd w w.heap.size Xa na (cb (l1.take na)) ∧ (∀ x ∈ l1.take na, x < 256) ∧ na ≤ 1048576) ∧ (Rd w w.heap.size Xb nb (cb (l2.take nb)) ∧ (∀ x ∈ l2.take nb, x < 256) ∧ nb ≤ 1048576) ∧ Quads w s sn K) :=
    ⟨⟨by have := hrd1.take hlc1; unfold cb at this ⊢; rw [← List.map_take] at this; exact this, fun x hx => hlb1 x (List.mem_of_mem_take hx), by omega⟩,
     ⟨by have := hrd2.take hlc2; unfold cb at this ⊢; rw [← List.map_take] at this; exact this, fun x hx => hlb2 x (List.mem_of_mem_take hx), by omega⟩, hq⟩
  have hla : (l1.take na).length = na := by rw [List.length_take]; omega
  have hlb : (l2.take nb).length = nb := by rw [List.length_take]; omega
  obtain ⟨a, ha⟩ : ∃ a, l1.take na = a := ⟨_, rfl⟩
  obtain ⟨b, hb⟩ : ∃ b, l2.take nb = b := ⟨_, rfl⟩
  rw [ha] at H0 hla
  rw [hb] at H0 hlb
  have HL : Hd (a.length = na ∧ b.length = nb) := ⟨hla, hlb⟩
  clear hra hrb hrd1 hrd2 hlb1 hlb2 hll1 hll2 hlc1 hlc2 hq hca hcb hsc ha hb hla hlb
  go_enter Try.func8, Try.ntmps8
  go_wp2_with fail
  refine (lent_any w Xa na ca w.heap.size a H0.out.1.1 (by have := H0.out.1.2.2; omega) (Nat.le_refl _)).mono ?_
  rintro e w1 ⟨gl, cl, rfl, ho, hbl, h1, h2, h3⟩
  have K1 : Hd (w1.ownsRow w.heap.size 5 1 (.slice (some ⟨gl, 0, none⟩) (na + 64) cl) (na + 64) (cb (a ++ marks)) ∧ Below w.heap.size w w1 ∧ w.heap.size ≤ gl ∧ gl < w1.heap.size ∧ na + 64 ≤ cl) := ⟨ho, hbl, h1, h2, h3⟩
  clear ho hbl h1 h2 h3
  go_wp2_with fail
  refine (lent_any w1 Xb nb kb w.heap.size b (H0.out.2.1.1.below K1.out.2.1) (by have := H0.out.2.1.2.2; omega) K1.out.2.1.size).mono ?_
  rintro e w2 ⟨gm, cm, rfl, ho, hbl, h1, h2, h3⟩
  have K2 : Hd (w2.ownsRow w1.heap.size 5 1 (.slice (some ⟨gm, 0, none⟩) (nb + 64) cm) (nb + 64) (cb (b ++ marks)) ∧ Below w1.heap.size w1 w2 ∧ w1.heap.size ≤ gm ∧ gm < w2.heap.size ∧ nb + 64 ≤ cm) := ⟨ho, hbl, h1, h2, h3⟩
  have B2 : Hd (Below w.heap.size w w2) := ⟨K1.out.2.1.trans (hbl.mono K1.out.2.1.size)⟩
  clear ho hbl h1 h2 h3
  go_wp2_with fail
  refine (ropen_any w2 Xa na ca w.heap.size a (H0.out.1.1.below B2.out) B2.out.size (by have := H0.out.1.2.2; omega) H0.out.1.2.1).mono ?_
  rintro e w3 ⟨g1, A1, c1, rfl, hch, hr, hg, ha⟩
  have K3 : Hd (Chg [] w2 w3 ∧ Rr w3 g1 A1 na c1 0 0 a ∧ w2.heap.size ≤ g1 ∧ ∀ g off, A1 = some ⟨g, off, none⟩ → 0 < na → w2.heap.size ≤ g) := ⟨hch, hr, hg, ha⟩
  have B3 : Hd (Below w.heap.size w w3) := ⟨B2.out.trans (hch.below B2.out.size (by simp))⟩
  clear hch hr hg ha
  go_wp2_with fail
  refine (ropen_any w3 Xb nb kb w.heap.size b (H0.out.2.1.1.below B3.out) B3.out.size (by have := H0.out.2.1.2.2; omega) H0.out.2.1.2.1).mono ?_
  rintro e w4 ⟨g2, A2, c2, rfl, hch, hr, hg, ha⟩
  have K4 : Hd (Chg [] w3 w4 ∧ Rr w4 g2 A2 nb c2 0 0 b ∧ w3.heap.size ≤ g2 ∧ ∀ g off, A2 = some ⟨g, off, none⟩ → 0 < nb → w3.heap.size ≤ g) := ⟨hch, hr, hg, ha⟩
  have HO : Hd (w4.ownsRow w.heap.size 5 1 (.slice (some ⟨gl, 0, none⟩) (na + 64) cl) (na + 64) (cb (a ++ marks)) ∧ w4.ownsRow w.heap.size 5 1 (.slice (some ⟨gm, 0, none⟩) (nb + 64) cm) (nb + 64) (cb (b ++ marks))) :=
    ⟨hch.own (K3.out.1.own (own_lt K1.out.1 K2.out.2.1 (fun j hj => by have := K1.out.2.2.2.1; simp [Value.ownBlock] at hj; omega)) (by simp)) (by simp), hch.own (K3.out.1.own (own_base K2.out.1 K1.out.2.1.size) (by simp)) (by simp)⟩
  clear hch hr hg ha
  go_wp2_with fail
  have hrl : Rd w4 w4.heap.size (some ⟨gl, 0, none⟩) na (cb a) := by
    have h := (Rd.of_own HO.out.1).take (h := na) (by omega)
    rw [cb_append, List.take_left' (by rw [cb_length]; exact HL.out.1)] at h; exact h
  have hrm : Rd w4 w4.heap.size (some ⟨gm, 0, none⟩) nb (cb b) := by
    have h := (Rd.of_own HO.out.2).take (h := nb) (by omega)
    rw [cb_append, List.take_left' (by rw [cb_length]; exact HL.out.2)] at h; exact h
  refine (open_any w4 (some ⟨gl, 0, none⟩) na cl w4.heap.size a hrl (Nat.le_refl _) (by have := H0.out.1.2.2; omega) H0.out.1.2.1).mono ?_
  rintro e w5 ⟨g3, A3, c3, rfl, hch, hr, hg, ha⟩
  have K5 : Hd (Chg [] w4 w5 ∧ Rr w5 g3 A3 na c3 0 0 a ∧ w4.heap.size ≤ g3 ∧ ∀ g off, A3 = some ⟨g, off, none⟩ → 0 < na → w4.heap.size ≤ g) := ⟨hch, hr, hg, ha⟩
  have HM := Hd.mk (hch.rd hrm (Nat.le_refl _) (by simp))
  clear hch hr hg ha hrl hrm
  go_wp2_with fail
  refine (open_any w5 (some ⟨gm, 0, none⟩) nb cm w4.heap.size b HM.out K5.out.1.size (by have := H0.out.2.1.2.2; omega) H0.out.2.1.2.1).mono ?_
  rintro e w6 ⟨g4, A4, c4, rfl, hch, hr, hg, ha⟩
  have K6 : Hd (Chg [] w5 w6 ∧ Rr w6 g4 A4 nb c4 0 0 b ∧ w5.heap.size ≤ g4 ∧ ∀ g off, A4 = some ⟨g, off, none⟩ → 0 < nb → w5.heap.size ≤ g) := ⟨hch, hr, hg, ha⟩
  clear hch hr hg ha HM
  go_wp2_with fail
  refine (ropen_any w6 none 0 0 w6.heap.size [] Rd.nil (Nat.le_refl _) (by omega) (by simp)).mono ?_
  rintro e w7 ⟨g5, A5, c5, rfl, hch, hr, hg, ha⟩
  have K7 : Hd (Chg [] w6 w7 ∧ Rr w7 g5 A5 0 c5 0 0 [] ∧ w6.heap.size ≤ g5) := ⟨hch, hr, hg⟩
  clear hch hr hg ha
  go_wp2_with fail
  obtain ⟨w8, hw8⟩ : ∃ w8, w7.alloc (.cells #[.slice none 0 0, .int .i64 0, .int .i64 0] 68) = w8 := ⟨_, rfl⟩
  obtain ⟨g6, hg6⟩ : ∃ g6, w7.heap.size = g6 := ⟨_, rfl⟩
  have K8 : Hd (Chg [] w7 w8 ∧ Rr w8 g6 none 0 0 0 0 [] ∧ w7.heap.size = g6 ∧ g6 < w8.heap.size) := by
    rw [← hw8, ← hg6]
    exact ⟨(Chg.refl _ _).alloc _, ⟨by simp, by simp, by simp, by simp, by simp, Rd.nil, by omega, by simp, by simp⟩, rfl, by simp⟩
  rw [hw8, hg6]
  clear hw8 hg6
  obtain ⟨A6, hA6⟩ : ∃ A6 : Option Addr, none = A6 := ⟨_, rfl⟩
  obtain ⟨c6, hc6⟩ : ∃ c6 : Nat, 0 = c6 := ⟨_, rfl⟩
  have HG : Hd (Geo [gl, gm, g1, g2, g3, g4, g5, g6] g1 g2 g3 g4 g5 g6 A1 A2 A3 A4 A5 A6 na nb) := by
    have t1 := K1.out.2.2
    have t2 := K2.out.2.2
    have r1 := K3.out.2.1.lt
    have r2 := K4.out.2.1.lt
    have r3 := K5.out.2.1.lt
    have r4 := K6.out.2.1.lt
    have r5 := K7.out.2.1.lt
    have r6 := K8.out.2.2
    have q1 := K3.out.2.2.1
    have q2 := K4.out.2.2.1
    have q3 := K5.out.2.2.1
    have q4 := K6.out.2.2.1
    have q5 := K7.out.2.2
    refine ⟨⟨by omega, ?_, ?_, ?_, ?_, ?_, by simp, by simp, by simp, by simp, by simp, by simp⟩⟩
    · intro k hk; simp at hk; omega
    · intro k hk g off e hn
      obtain ⟨g', off', e', hlt, _⟩ := K3.out.2.1.rd.2 hn
      rw [e] at e'; injection e' with e'; injection e' with e'
      have := K3.out.2.2.2 g off e hn
      simp at hk; omega
    · intro k hk g off e hn
      obtain ⟨g', off', e', hlt, _⟩ := K4.out.2.1.rd.2 hn
      rw [e] at e'; injection e' with e'; injection e' with e'
      have := K4.out.2.2.2 g off e hn
      simp at hk; omega
    · intro k hk g off e hn
      obtain ⟨g', off', e', hlt, _⟩ := K5.out.2.1.rd.2 hn
      rw [e] at e'; injection e' with e'; injection e' with e'
      have := K5.out.2.2.2 g off e hn
      simp at hk; omega
    · intro k hk g off e hn
      obtain ⟨g', off', e', hlt, _⟩ := K6.out.2.1.rd.2 hn
      rw [e] at e'; injection e' with e'; injection e' with e'
      have := K6.out.2.2.2 g off e hn
      simp at hk; omega
  have C48 : Hd (Chg [] w4 w8 ∧ Below w.heap.size w w8) := by
    have h := (((K5.out.1.trans K6.out.1).trans K7.out.1).trans K8.out.1)
    have h4 := B3.out.trans (K4.out.1.below B3.out.size (by simp))
    exact ⟨h, h4.trans (h.below h4.size (by simp))⟩
  have HS : Hd (St w8 g1 g2 g3 g4 g5 g6 A1 A2 A3 A4 A5 A6 c1 c2 c3 c4 c5 c6 na nb a b 0 0 0 0 0 0 ∧ w8.ownsRow w.heap.size 5 1 (.slice (some ⟨gl, 0, none⟩) (na + 64) cl) (na + 64) (cb (a ++ marks)) ∧ w8.ownsRow w.heap.size 5 1 (.slice (some ⟨gm, 0, none⟩) (nb + 64) cm) (nb + 64) (cb (b ++ marks)) ∧ Below w.heap.size w w8 ∧ gl < g1 ∧ gm < g1 ∧ g1 < g6 ∧ g6 < w8.heap.size ∧ w.heap.size ≤ gl ∧ w.heap.size ≤ gm ∧ gl < gm) := by
    have t1 := K1.out.2.2
    have t2 := K2.out.2.2
    have q1 := K3.out.2.2.1
    have ss := B2.out.size
    have s1 := K1.out.2.1.size
    have hl := HG.out.lt
    refine ⟨⟨?_, C48.out.1.own HO.out.1 (by simp), C48.out.1.own HO.out.2 (by simp), C48.out.2, by omega, by omega, by omega, K8.out.2.2.2, t1.1, by omega, by omega⟩⟩
    rw [← hA6, ← hc6]
    exact ⟨(K3.out.2.1.keep' (K4.out.1.trans C48.out.1) (by simp)), (K4.out.2.1.keep' C48.out.1 (by simp)), K5.out.2.1.keep' ((K6.out.1.trans K7.out.1).trans K8.out.1) (by simp), K6.out.2.1.keep' (K7.out.1.trans K8.out.1) (by simp), K7.out.2.1.keep' K8.out.1 (by simp), K8.out.2.1, by omega, by omega, by omega⟩
  have HC : Hd (na + 64 ≤ cl ∧ nb + 64 ≤ cm) := ⟨K1.out.2.2.2.2, K2.out.2.2.2.2⟩
  clear K1 K2 K3 K4 K5 K6 K7 K8 B2 B3 HO C48 hA6 hc6
  refine (unmarked_any w8 w.heap.size gl na cl w.heap.size Xa ca a HS.out.2.1 (H0.out.1.1.below HS.out.2.2.2.1) (by have := H0.out.1.2.2; omega) HC.out.1).mono ?_
  rintro e z ⟨rfl, rfl⟩
  go_wp2_with fail
  refine (unmarked_any w8 w.heap.size gm nb cm w.heap.size Xb kb b HS.out.2.2.1 (H0.out.2.1.1.below HS.out.2.2.2.1) (by have := H0.out.2.1.2.2; omega) HC.out.2).mono ?_
  rintro e z ⟨rfl, rfl⟩
  go_wp2_with fail
  clear HL
  have HL : Hd (a.length = na ∧ b.length = nb) := ⟨by have := HS.out.1.r1.len; omega, by have := HS.out.1.r2.len; omega⟩
  go_loopw [15, 17] (fun v i wr => ∃ (k : Nat) (la : List Nat) (AO : Option Addr) (cO : Nat), k ≤ na ∧ i = .int .i64 k ∧ v = .slice AO k cO ∧ la.length = na ∧ (∀ x ∈ la, x < 256) ∧ wr.ownsRow w.heap.size 5 1 (.slice (some ⟨gl, 0, none⟩) (na + 64) cl) (na + 64) (cb (la ++ marks)) ∧ wr.ownsRow w.heap.size 5 1 (.slice (some ⟨gm, 0, none⟩) (nb + 64) cm) (nb + 64) (cb (b ++ marks)) ∧ wr.ownsRow (g6 + 1) 5 1 (.slice AO k cO) k (cb (la.take k)) ∧ St wr g1 g2 g3 g4 g5 g6 A1 A2 A3 A4 A5 A6 c1 c2 c3 c4 c5 c6 na nb a b 0 0 0 0 0 0 ∧ Below w.heap.size w wr ∧ g6 < wr.heap.size) (fun _ i _ => na - (intOf i).toNat)
  case atStart => exact ⟨0, a, none, 0, by omega, rfl, rfl, HL.out.1, H0.out.1.2.1, HS.out.2.1, HS.out.2.2.1, World.ownsRow_nil .., HS.out.1, HS.out.2.2.2.1, HS.out.2.2.2.2.2.2.2.1⟩
  case round =>
    obtain ⟨k, la, AO, cO, hk, rfl, rfl, hll, hlt8, ol, om, oo, hst, hbw, hg6⟩ := hrel
    have R : Hd (la.length = na ∧ (∀ x ∈ la, x < 256) ∧ wr.ownsRow w.heap.size 5 1 (.slice (some ⟨gl, 0, none⟩) (na + 64) cl) (na + 64) (cb (la ++ marks)) ∧ wr.ownsRow w.heap.size 5 1 (.slice (some ⟨gm, 0, none⟩) (nb + 64) cm) (nb + 64) (cb (b ++ marks)) ∧ wr.ownsRow (g6 + 1) 5 1 (.slice AO k cO) k (cb (la.take k)) ∧ St wr g1 g2 g3 g4 g5 g6 A1 A2 A3 A4 A5 A6 c1 c2 c3 c4 c5 c6 na nb a b 0 0 0 0 0 0 ∧ Below w.heap.size w wr ∧ g6 < wr.heap.size) := ⟨hll, hlt8, ol, om, oo, hst, hbw, hg6⟩
    clear hll hlt8 ol om oo hst hbw hg6
    have hnn := H0.out.1.2.2
    by_cases hlt : k < na
    · have hcc := R.out.2.2.1.cellAt k (by omega)
      rw [cb_append, List.getElem?_append_left (by rw [cb_length, R.out.1]; exact hlt), cb_get _ _ (by rw [R.out.1]; exact hlt)] at hcc
      have hz := R.out.2.2.1.frozenAt k
      have hx8 : la.getD k 0 < 256 := by rw [List.getD_eq_getElem?_getD, List.getElem?_eq_getElem (by rw [R.out.1]; exact hlt)]; exact R.out.2.1 _ (List.getElem_mem _)
      obtain ⟨z, hzz⟩ : ∃ z, (la.getD k 0 * 3 + 1) % 256 = z := ⟨_, rfl⟩
      have hzi : (((la.getD k 0 : Nat) : Int) * 3 + 1) % 256 = ((z : Nat) : Int) := by omega
      have hzl : z < 256 := by omega
      obtain ⟨X, hX⟩ : ∃ X : Int, ((la.getD k 0 : Nat) : Int) = X := ⟨_, rfl⟩
      rw [hX] at hcc hzi
      have hx0 : 0 ≤ X := by omega
      have hx1 : X ≤ 255 := by omega
      have HZ : Hd (((X * 3 + 1) % 256) = ((z : Nat) : Int) ∧ z < 256) := ⟨hzi, hzl⟩
      have h63 : Hd (k + 1 ≤ maxLen) := ⟨by unfold maxLen; omega⟩
      have hby : Hd ((k + 1) * 1 ≤ 140737488355328) := ⟨by omega⟩
      have hii : (k : Int) < (na : Int) := by omega
      have HT : Hd ((wr.setCell ⟨gl, k, none⟩ (.int .u8 ((X * 3 + 1) % 256))).ownsRow w.heap.size 5 1 (.slice (some ⟨gl, 0, none⟩) (na + 64) cl) (na + 64) (cb (la.set k z ++ marks)) ∧
          wr.grownBy (wr.setCell ⟨gl, k, none⟩ (.int .u8 ((X * 3 + 1) % 256))) (some gl) ∧ (wr.setCell ⟨gl, k, none⟩ (.int .u8 ((X * 3 + 1) % 256))).ownsRow (g6 + 1) 5 1 (.slice AO k cO) k (cb (la.take k)) ∧
          (g6 + 1) ≤ (wr.setCell ⟨gl, k, none⟩ (.int .u8 ((X * 3 + 1) % 256))).heap.size) := by
        rw [HZ.out.1]
        have hst := R.out.2.2.1.stored k (.int .u8 ((z : Nat) : Int))
        rw [set_marks la k z na R.out.1 hlt] at hst
        have hg := HS.out.2.2.2.2
        have hbh := HS.out.2.2.2.2.2.2.2.1
        exact ⟨hst.1, hst.2, own_grown R.out.2.2.2.2.1 hst.2 (fun g hg1 hg2 => by have := (R.out.2.2.2.2.1.lt g hg2).1; injection hg1 with hg1; omega), by have := hst.2.size; have := R.out.2.2.2.2.2.2.2; omega⟩
      clear hzi hX hx8 hzz hzl
      go_wp2_with (refine wpList_push elB rfl rfl (.tmp 71) (.tmp 75) 76 rfl rfl rfl (g6 + 1) (.slice AO k cO) k (cb (la.take k)) _ rfl rfl rfl rfl HT.out.2.2.1 h63.out hby.out HT.out.2.2.2 ?_; intro v2 w9 hO)
      obtain ⟨A9, c9, rfl, _, _⟩ := own_form hO.own
      have HR9 : Hd (w9.ownsRow w.heap.size 5 1 (.slice (some ⟨gl, 0, none⟩) (na + 64) cl) (na + 64) (cb ((la.set k z) ++ marks)) ∧ w9.ownsRow w.heap.size 5 1 (.slice (some ⟨gm, 0, none⟩) (nb + 64) cm) (nb + 64) (cb (b ++ marks)) ∧ w9.ownsRow (g6 + 1) 5 1 (.slice A9 (k + 1) c9) (k + 1) (cb ((la.set k z).take (k + 1))) ∧ St w9 g1 g2 g3 g4 g5 g6 A1 A2 A3 A4 A5 A6 c1 c2 c3 c4 c5 c6 na nb a b 0 0 0 0 0 0 ∧ Below w.heap.size w w9 ∧ g6 < w9.heap.size) := by
        have hg := HS.out.2.2.2.2
        have hgl := HG.out.lt
        have hbh := HS.out.2.2.2.2.2.2.2.1
        have hb9 := hO.below (B := (g6 + 1)) (fun g hg => (HT.out.2.2.1.lt g hg).1) HT.out.2.2.2
        have hch : Chg [gl] wr (wr.setCell ⟨gl, k, none⟩ (.int .u8 ((X * 3 + 1) % 256))) := (Chg.refl _ _).setCell (by simp) _
        refine ⟨own_lt HT.out.1 hb9 (fun j hj => by simp [Value.ownBlock] at hj; omega), own_lt (own_grown R.out.2.2.2.1 HT.out.2.1 (fun g h1 h2 => by simp [Value.ownBlock] at h2; injection h1 with h1; omega)) hb9 (fun j hj => by simp [Value.ownBlock] at hj; omega), ?_, (R.out.2.2.2.2.2.1.beside hch HG.out (by simp) (by omega)).below hb9 HG.out (by omega), ?_, ?_⟩
        · have := hO.own
          rw [take_set_succ la k z (by rw [R.out.1]; exact hlt), cb_append]
          rw [show cb [z] = [Value.int .u8 ((X * 3 + 1) % 256)] from by rw [HZ.out.1]; rfl]
          exact this
        · exact (R.out.2.2.2.2.2.2.1.trans (hch.below (by have := R.out.2.2.2.2.2.2.1.size; exact this) (by simp; omega))).trans (hb9.mono (by have := R.out.2.2.2.2.2.2.1.size; have := HT.out.2.1.size; omega))
        · have := hb9.size; have := HT.out.2.1.size; have := R.out.2.2.2.2.2.2.2; omega
      clear hO
      go_wp2_with fail
      go_roundw
      case rel => exact ⟨k + 1, la.set k z, A9, c9, by omega, by go_num, rfl, by rw [List.length_set]; exact R.out.1, set_lt la k z R.out.2.1 HZ.out.2, HR9.out⟩
      case measure => simp [intOf]; omega
    · have hkn : na = k := by omega
      subst hkn
      obtain ⟨wx, hwx⟩ : ∃ wx : World, wx = wr := ⟨_, rfl⟩
      subst hwx
      go_wp2_with fail
      clear hlt hk
      go_loopw [16, 18] (fun v i wr => ∃ (k : Nat) (lb : List Nat) (AU : Option Addr) (cU : Nat), k ≤ nb ∧ i = .int .i64 k ∧ v = .slice AU k cU ∧ lb.length = nb ∧ (∀ x ∈ lb, x < 256) ∧ wr.ownsRow w.heap.size 5 1 (.slice (some ⟨gm, 0, none⟩) (nb + 64) cm) (nb + 64) (cb (lb ++ marks)) ∧ (wr.ownsRow w.heap.size 5 1 (.slice (some ⟨gl, 0, none⟩) (na + 64) cl) (na + 64) (cb (la ++ marks)) ∧ wr.ownsRow (g6 + 1) 5 1 (.slice AO na cO) na (cb la) ∧ ∀ j, (Value.slice AO na cO).ownBlock = some j → j < wx.heap.size) ∧ wr.ownsRow wx.heap.size 5 1 (.slice AU k cU) k (cb (lb.take k)) ∧ St wr g1 g2 g3 g4 g5 g6 A1 A2 A3 A4 A5 A6 c1 c2 c3 c4 c5 c6 na nb a b 0 0 0 0 0 0 ∧ Below w.heap.size w wr ∧ wx.heap.size ≤ wr.heap.size) (fun _ i _ => nb - (intOf i).toNat)
      case atStart => exact ⟨0, b, none, 0, by omega, rfl, rfl, HL.out.2, H0.out.2.1.2.1, R.out.2.2.2.1, ⟨R.out.2.2.1, by have := R.out.2.2.2.2.1; rw [List.take_of_length_le (by rw [R.out.1]; exact Nat.le_refl _)] at this; exact this, fun j hj => (R.out.2.2.2.2.1.lt j hj).2⟩, World.ownsRow_nil .., R.out.2.2.2.2.2.1, R.out.2.2.2.2.2.2.1, Nat.le_refl _⟩
      case round =>
        obtain ⟨k, lb, AU, cU, hk, rfl, rfl, hll, hlt8, ol, om, oo, hst, hbw, hg6⟩ := hrel
        have R2 : Hd (lb.length = nb ∧ (∀ x ∈ lb, x < 256) ∧ wr.ownsRow w.heap.size 5 1 (.slice (some ⟨gm, 0, none⟩) (nb + 64) cm) (nb + 64) (cb (lb ++ marks)) ∧ (wr.ownsRow w.heap.size 5 1 (.slice (some ⟨gl, 0, none⟩) (na + 64) cl) (na + 64) (cb (la ++ marks)) ∧ wr.ownsRow (g6 + 1) 5 1 (.slice AO na cO) na (cb la) ∧ ∀ j, (Value.slice AO na cO).ownBlock = some j → j < wx.heap.size) ∧ wr.ownsRow wx.heap.size 5 1 (.slice AU k cU) k (cb (lb.take k)) ∧ St wr g1 g2 g3 g4 g5 g6 A1 A2 A3 A4 A5 A6 c1 c2 c3 c4 c5 c6 na nb a b 0 0 0 0 0 0 ∧ Below w.heap.size w wr ∧ wx.heap.size ≤ wr.heap.size) := ⟨hll, hlt8, ol, om, oo, hst, hbw, hg6⟩
        clear hll hlt8 ol om oo hst hbw hg6
        have hnn := H0.out.2.1.2.2
        by_cases hlt : k < nb
        · have hcc := R2.out.2.2.1.cellAt k (by omega)
          rw [cb_append, List.getElem?_append_left (by rw [cb_length, R2.out.1]; exact hlt), cb_get _ _ (by rw [R2.out.1]; exact hlt)] at hcc
          have hz := R2.out.2.2.1.frozenAt k
          have hx8 : lb.getD k 0 < 256 := by rw [List.getD_eq_getElem?_getD, List.getElem?_eq_getElem (by rw [R2.out.1]; exact hlt)]; exact R2.out.2.1 _ (List.getElem_mem _)
          obtain ⟨z, hzz⟩ : ∃ z, lb.getD k 0 ^^^ 90 = z := ⟨_, rfl⟩
          have hzi : bits .xor .u8 ((lb.getD k 0 : Nat) : Int) 90 = ((z : Nat) : Int) := by rw [← hzz]; exact u8_xor_nat (lb.getD k 0) 90 hx8 (by omega)
          have hzl : z < 256 := by rw [← hzz]; exact Nat.xor_lt_two_pow (n := 8) hx8 (by decide)
          obtain ⟨X, hX⟩ : ∃ X : Int, ((lb.getD k 0 : Nat) : Int) = X := ⟨_, rfl⟩
          rw [hX] at hcc hzi
          have hx0 : 0 ≤ X := by omega
          have hx1 : X ≤ 255 := by omega
          have HZ : Hd ((bits .xor .u8 X 90) = ((z : Nat) : Int) ∧ z < 256) := ⟨hzi, hzl⟩
          have h63 : Hd (k + 1 ≤ maxLen) := ⟨by unfold maxLen; omega⟩
          have hby : Hd ((k + 1) * 1 ≤ 140737488355328) := ⟨by omega⟩
          have hii : (k : Int) < (nb : Int) := by omega
          have HT : Hd ((wr.setCell ⟨gm, k, none⟩ (.int .u8 (bits .xor .u8 X 90))).ownsRow w.heap.size 5 1 (.slice (some ⟨gm, 0, none⟩) (nb + 64) cm) (nb + 64) (cb (lb.set k z ++ marks)) ∧
              wr.grownBy (wr.setCell ⟨gm, k, none⟩ (.int .u8 (bits .xor .u8 X 90))) (some gm) ∧ (wr.setCell ⟨gm, k, none⟩ (.int .u8 (bits .xor .u8 X 90))).ownsRow wx.heap.size 5 1 (.slice AU k cU) k (cb (lb.take k)) ∧
              wx.heap.size ≤ (wr.setCell ⟨gm, k, none⟩ (.int .u8 (bits .xor .u8 X 90))).heap.size) := by
            rw [HZ.out.1]
            have hst := R2.out.2.2.1.stored k (.int .u8 ((z : Nat) : Int))
            rw [set_marks lb k z nb R2.out.1 hlt] at hst
            have hg := HS.out.2.2.2.2
            have hbh := (show g6 < wx.heap.size from R.out.2.2.2.2.2.2.2)
            exact ⟨hst.1, hst.2, own_grown R2.out.2.2.2.2.1 hst.2 (fun g hg1 hg2 => by have := (R2.out.2.2.2.2.1.lt g hg2).1; injection hg1 with hg1; omega), by have := hst.2.size; have := R2.out.2.2.2.2.2.2.2; omega⟩
          clear hzi hX hx8 hzz hzl
          go_wp2_with (refine wpList_push elB rfl rfl (.tmp 92) (.tmp 96) 97 rfl rfl rfl wx.heap.size (.slice AU k cU) k (cb (lb.take k)) _ rfl rfl rfl rfl HT.out.2.2.1 h63.out hby.out HT.out.2.2.2 ?_; intro v2 w9 hO)
          obtain ⟨A9, c9, rfl, _, _⟩ := own_form hO.own
          have HR9 : Hd (w9.ownsRow w.heap.size 5 1 (.slice (some ⟨gm, 0, none⟩) (nb + 64) cm) (nb + 64) (cb ((lb.set k z) ++ marks)) ∧ (w9.ownsRow w.heap.size 5 1 (.slice (some ⟨gl, 0, none⟩) (na + 64) cl) (na + 64) (cb (la ++ marks)) ∧ w9.ownsRow (g6 + 1) 5 1 (.slice AO na cO) na (cb la) ∧ ∀ j, (Value.slice AO na cO).ownBlock = some j → j < wx.heap.size) ∧ w9.ownsRow wx.heap.size 5 1 (.slice A9 (k + 1) c9) (k + 1) (cb ((lb.set k z).take (k + 1))) ∧ St w9 g1 g2 g3 g4 g5 g6 A1 A2 A3 A4 A5 A6 c1 c2 c3 c4 c5 c6 na nb a b 0 0 0 0 0 0 ∧ Below w.heap.size w w9 ∧ wx.heap.size ≤ w9.heap.size) := by
            have hg := HS.out.2.2.2.2
            have hgl := HG.out.lt
            have hbh := (show g6 < wx.heap.size from R.out.2.2.2.2.2.2.2)
            have hb9 := hO.below (B := wx.heap.size) (fun g hg => (HT.out.2.2.1.lt g hg).1) HT.out.2.2.2
            have hch : Chg [gm] wr (wr.setCell ⟨gm, k, none⟩ (.int .u8 (bits .xor .u8 X 90))) := (Chg.refl _ _).setCell (by simp) _
            refine ⟨own_lt HT.out.1 hb9 (fun j hj => by simp [Value.ownBlock] at hj; omega), ⟨own_lt (own_grown R2.out.2.2.2.1.1 HT.out.2.1 (fun g h1 h2 => by simp [Value.ownBlock] at h2; injection h1 with h1; omega)) hb9 (fun j hj => by simp [Value.ownBlock] at hj; omega), own_lt (own_grown R2.out.2.2.2.1.2.1 HT.out.2.1 (fun g h1 h2 => by have := (R2.out.2.2.2.1.2.1.lt g h2).1; injection h1 with h1; omega)) hb9 R2.out.2.2.2.1.2.2, R2.out.2.2.2.1.2.2⟩, ?_, (R2.out.2.2.2.2.2.1.beside hch HG.out (by simp) (by omega)).below hb9 HG.out (by omega), ?_, ?_⟩
            · have := hO.own
              rw [take_set_succ lb k z (by rw [R2.out.1]; exact hlt), cb_append]
              rw [show cb [z] = [Value.int .u8 (bits .xor .u8 X 90)] from by rw [HZ.out.1]; rfl]
              exact this
            · exact (R2.out.2.2.2.2.2.2.1.trans (hch.below (by have := R2.out.2.2.2.2.2.2.1.size; exact this) (by simp; omega))).trans (hb9.mono (by have := R2.out.2.2.2.2.2.2.1.size; have := HT.out.2.1.size; omega))
            · have := hb9.size; have := HT.out.2.1.size; have := R2.out.2.2.2.2.2.2.2; omega
          clear hO
          go_wp2_with fail
          go_roundw
          case rel => exact ⟨k + 1, lb.set k z, A9, c9, by omega, by go_num, rfl, by rw [List.length_set]; exact R2.out.1, set_lt lb k z R2.out.2.1 HZ.out.2, HR9.out⟩
          case measure => simp [intOf]; omega
        · have hkn : nb = k := by omega
          subst hkn
          obtain ⟨wx, hwx⟩ : ∃ wx : World, wx = wr := ⟨_, rfl⟩
          subst hwx
          go_wp2_with fail
          clear hlt hk
          have HX : Hd (St wx g1 g2 g3 g4 g5 g6 A1 A2 A3 A4 A5 A6 c1 c2 c3 c4 c5 c6 na nb a b 0 0 0 0 0 0 ∧ Own4 wx wx.heap.size w.heap.size g1 g6 gl gm na nb cl cm (.slice AO na cO) (.slice AU nb cU) la lb ∧ Below w.heap.size w wx) := by
            have hg := HS.out.2.2.2.2
            have h1 := R.out.2.2.2.2.2.2.2
            have h2 := R2.out.2.2.2.2.2.2.2
            have hu := R2.out.2.2.2.2.1
            rw [List.take_of_length_le (by rw [R2.out.1]; exact Nat.le_refl _)] at hu
            exact ⟨R2.out.2.2.2.2.2.1, ⟨R2.out.2.2.2.1.1, R2.out.2.2.1, R2.out.2.2.2.1.2.1, own_base hu h1, fun j hj => Nat.lt_of_lt_of_le (R2.out.2.2.2.1.2.2 j hj) h2, fun j hj => (hu.lt j hj).2, by omega⟩, R2.out.2.2.2.2.2.2.1⟩
          have HLN : Hd (la.length = na ∧ lb.length = nb) := ⟨R.out.1, R2.out.1⟩
          clear R R2
          go_loopw [19] (fun i wr => ∃ (k p1 p2 p3 : Nat) (f1 f2 f3 : Int), k ≤ sn ∧ i = .int .i64 k ∧ St wr g1 g2 g3 g4 g5 g6 A1 A2 A3 A4 A5 A6 c1 c2 c3 c4 c5 c6 na nb a b p1 p2 p3 f1 f2 f3 ∧ Own4 wr wr.heap.size w.heap.size g1 g6 gl gm na nb cl cm (.slice AO na cO) (.slice AU nb cU) la lb ∧ Below w.heap.size w wr) (fun i _ => sn - (intOf i).toNat)
          case atStart => exact ⟨0, 0, 0, 0, 0, 0, 0, by omega, rfl, HX.out.1, HX.out.2.1, HX.out.2.2⟩
          case round =>
            obtain ⟨k, p1, p2, p3, f1, f2, f3, hk, rfl, hst, how, hbw⟩ := hrel
            have RR : Hd (St wr g1 g2 g3 g4 g5 g6 A1 A2 A3 A4 A5 A6 c1 c2 c3 c4 c5 c6 na nb a b p1 p2 p3 f1 f2 f3 ∧ Own4 wr wr.heap.size w.heap.size g1 g6 gl gm na nb cl cm (.slice AO na cO) (.slice AU nb cU) la lb ∧ Below w.heap.size w wr) := ⟨hst, how, hbw⟩
            clear hst how hbw HX
            by_cases hlt : k < sn
            · obtain ⟨g, off, rfl, hg, q0, q1, q2, q3, i0, i1, i2, i3⟩ := (H0.out.2.2.below RR.out.2.2) k hlt
              rcases hK : K k with ⟨who, kind, N, E⟩
              rw [hK] at q0 q1 q2 q3 i0 i1 i2 i3
              clear hK
              simp only at q0 q1 q2 q3 i0 i1 i2 i3
              have HI : Hd (I64 kind ∧ I64 N ∧ I64 E) := ⟨i1, i2, i3⟩
              have HIw := Hd.mk i0
              clear i0 i1 i2 i3
              go_wp2_with fail
              obtain ⟨W1, hW⟩ : ∃ W1, ((wr.alloc (.cells #[.int .i64 who, .int .i64 kind, .int .i64 N, .int .i64 E] 70)).alloc (.cells #[.int .u64 0, .slice none 0 0, .slice none 0 0] 72)).alloc (.cells #[.int .u64 0, .slice none 0 0, .slice none 0 0] 72) = W1 := ⟨_, rfl⟩
              have HW1 : Hd (W1.heap[wr.heap.size]? = some (.cells #[.int .i64 who, .int .i64 kind, .int .i64 N, .int .i64 E] 70 (0, 0)) ∧ W1.heap[wr.heap.size + 1]? = some (.cells #[.int .u64 0, .slice none 0 0, .slice none 0 0] 72 (0, 0)) ∧ W1.heap[wr.heap.size + 2]? = some (.cells #[.int .u64 0, .slice none 0 0, .slice none 0 0] 72 (0, 0)) ∧ Below wr.heap.size wr W1 ∧ W1.heap.size = wr.heap.size + 3) := by
                rw [← hW]
                refine ⟨⟨?_, ?_, ?_, (((Below.refl _ wr).alloc (Nat.le_refl _) _).alloc (by simp) _).alloc (by simp <;> omega) _, by simp⟩⟩
                · rw [Below.heap_alloc _ _ _ (by simp <;> omega), Below.heap_alloc _ _ _ (by simp)]; exact heap_alloc_new wr _
                · rw [Below.heap_alloc _ _ _ (by simp <;> omega)]
                  have := heap_alloc_new (wr.alloc (.cells #[.int .i64 who, .int .i64 kind, .int .i64 N, .int .i64 E] 70)) (.cells #[.int .u64 0, .slice none 0 0, .slice none 0 0] 72)
                  simpa using this
                · have := heap_alloc_new ((wr.alloc (.cells #[.int .i64 who, .int .i64 kind, .int .i64 N, .int .i64 E] 70)).alloc (.cells #[.int .u64 0, .slice none 0 0, .slice none 0 0] 72)) (.cells #[.int .u64 0, .slice none 0 0, .slice none 0 0] 72)
                  simpa using this
              rw [hW]
              clear hW q0 q1 q2 q3
              obtain ⟨s0, s1, s2, s3⟩ := step_cells HW1.out.1
              obtain ⟨kk, hkd, hkk⟩ : ∃ kk : Nat, kind % 13 = (kk : Int) ∧ kk < 13 := ⟨(kind % 13).toNat, by omega, by omega⟩
              have HKD := Hd.mk hkd
              clear hkd
              refine (pick_any W1 who 4 HIw.out (by omega) (by omega)).mono ?_
              have hcs : who % 4 = 0 ∨ who % 4 = 1 ∨ who % 4 = 2 ∨ who % 4 = 3 := by omega
              rcases hcs with hq | hq | hq | hq
              · rw [hq]
                rintro e z ⟨rfl, rfl⟩
                clear hq
                go_wp2_with fail
                have hI1 := HI.out
                have hfb := RR.out.1.b1
                obtain ⟨⟨⟨U, lB, lT⟩, pn, fn⟩, hans⟩ : ∃ r, askF a p1 f1 N E kk = r := ⟨_, rfl⟩
                have hfl := ask_fl (bs := a) (at_ := p1) (fl := f1) H0.out.1.2.1 (by have := RR.out.1.r1.len; have := RR.out.1.r1.le; omega) N E kk hkk hfb
                rw [hans] at hfl
                have HGL := HG.out.lt
                have HOG := RR.out.2.1.g
                have hb1 := HW1.out.2.2.2.1
                have hsz1 := HW1.out.2.2.2.2
                have hglw := HS.out.2.2.2.2.2.2.2.2
                have HF2 := Hd.mk hfl
                have HAN := Hd.mk hans
                have HRI : Hd (Rr W1 g1 A1 na c1 p1 f1 a) := ⟨(RR.out.1.r1).below hb1 (by omega)⟩
                have HGEO : Hd ((g1 < g2 ∧ g2 < g3 ∧ g3 < g4 ∧ g4 < g5 ∧ g5 < g6) ∧ (gl < g1 ∧ gm < g1 ∧ g1 < g6 ∧ g6 < wr.heap.size) ∧ W1.heap.size = wr.heap.size + 3 ∧ w.heap.size ≤ gl) := ⟨HGL, HOG, hsz1, hglw.1⟩
                clear hfl hans HGL HOG hb1 hsz1 hglw
                refine (want_all W1 g1 na c1 p1 f1 A1 a who kind N E kk hI1.1 hI1.2.1 hI1.2.2 HKD.out hkk hfb.1 hfb.2 HRI.out).mono ?_
                intro e w2 hT
                rw [HAN.out] at hT
                obtain ⟨AB1, cB1, AT1, cT1, rfl, hch1, hr1, hB1, hT1⟩ := tells_open hT
                clear hT
                have HB2 : Hd (w2.heap[wr.heap.size]? = some (.cells #[.int .i64 who, .int .i64 kind, .int .i64 N, .int .i64 E] 70 (0, 0)) ∧ w2.heap[wr.heap.size + 1]? = some (.cells #[.int .u64 0, .slice none 0 0, .slice none 0 0] 72 (0, 0)) ∧ w2.heap[wr.heap.size + 2]? = some (.cells #[.int .u64 0, .slice none 0 0, .slice none 0 0] 72 (0, 0))) := by
                  have hgg := HGEO.out
                  exact ⟨⟨(hch1.block _ (by omega) (by simp; omega)).trans HW1.out.1, (hch1.block _ (by omega) (by simp; omega)).trans HW1.out.2.1, (hch1.block _ (by omega) (by simp; omega)).trans HW1.out.2.2.1⟩⟩
                have H2 : Hd (Chg [g1] wr w2 ∧ Rr w2 g1 A1 na c1 pn fn a ∧ w2.ownsRow W1.heap.size 5 1 (.slice AB1 lB.length cB1) lB.length (cb lB) ∧ w2.ownsRow W1.heap.size 9 1 (.slice AT1 lT.length cT1) lT.length (cs (lT.map tx1)) ∧ Own4 w2 wr.heap.size w.heap.size g1 g6 gl gm na nb cl cm (.slice AO na cO) (.slice AU nb cU) la lb ∧ Below w.heap.size w w2 ∧ W1.heap.size ≤ w2.heap.size) := by
                  have hgg := HGEO.out
                  have hb1 := HW1.out.2.2.2.1
                  exact ⟨⟨((Chg.of_below (L := []) hb1).mono (by simp)).trans hch1, hr1, hB1, hT1, ((RR.out.2.1.below hb1 (Nat.le_refl _)).chg hch1 (by omega) (by omega)), (RR.out.2.2.trans (hb1.mono RR.out.2.2.size)).trans (hch1.below (by have := RR.out.2.2.size; omega) (by simp; omega)), hch1.size⟩⟩
                clear s0 s1 s2 s3 hch1 hr1 hB1 hT1 HRI
                obtain ⟨s0, s1, s2, s3⟩ := step_cells HB2.out.1
                obtain ⟨k0, k1, k2, k3⟩ := told_cells HB2.out.2.2
                obtain ⟨LB, hLB⟩ : ∃ LB, lB.length = LB := ⟨_, rfl⟩
                obtain ⟨LT, hLT⟩ : ∃ LT, lT.length = LT := ⟨_, rfl⟩
                rw [hLB, hLT] at H2 ⊢
                have HLL : Hd (lB.length = LB ∧ lT.length = LT) := ⟨hLB, hLT⟩
                clear hLB hLT
                go_wp2_with fail
                obtain ⟨w3, hw3, hS3, hch3⟩ := told_set HB2.out.2.2 (.int .u64 U) (.slice AB1 LB cB1) (.slice AT1 LT cT1)
                rw [hw3]
                have HB3 : Hd (w3.heap[wr.heap.size]? = some (.cells #[.int .i64 who, .int .i64 kind, .int .i64 N, .int .i64 E] 70 (0, 0)) ∧ w3.heap[wr.heap.size + 1]? = some (.cells #[.int .u64 0, .slice none 0 0, .slice none 0 0] 72 (0, 0)) ∧ w3.heap[wr.heap.size + 2]? = some (.cells #[.int .u64 U, .slice AB1 LB cB1, .slice AT1 LT cT1] 72 (0, 0))) :=
                  ⟨(hch3.block _ (lt_of_block HB2.out.1) (by simp)).trans HB2.out.1, (hch3.block _ (lt_of_block HB2.out.2.1) (by simp)).trans HB2.out.2.1, hS3⟩
                have H3 : Hd (Chg [g1] wr w3 ∧ Rr w3 g1 A1 na c1 pn fn a ∧ w3.ownsRow W1.heap.size 5 1 (.slice AB1 LB cB1) LB (cb lB) ∧ w3.ownsRow W1.heap.size 9 1 (.slice AT1 LT cT1) LT (cs (lT.map tx1)) ∧ Own4 w3 wr.heap.size w.heap.size g1 g6 gl gm na nb cl cm (.slice AO na cO) (.slice AU nb cU) la lb ∧ Below w.heap.size w w3 ∧ W1.heap.size ≤ w3.heap.size ∧ Rr w3 g3 A3 na c3 p1 f1 a) := by
                  have hgg := HGEO.out
                  have hz2 := H2.out.2.2.2.2.2.2
                  have hc := H2.out.1.onward hch3 (by simp)
                  have hbl := hch3.below (B := wr.heap.size) (by omega) (by simp)
                  exact ⟨⟨hc, H2.out.2.1.keep' hch3 (by simp; omega), hch3.own H2.out.2.2.1 (fun j hj => by have := (H2.out.2.2.1.lt j hj).1; simp; omega), hch3.own H2.out.2.2.2.1 (fun j hj => by have := (H2.out.2.2.2.1.lt j hj).1; simp; omega), H2.out.2.2.2.2.1.below hbl (Nat.le_refl _), H2.out.2.2.2.2.2.1.trans (hbl.mono (by omega)), Nat.le_trans hz2 hch3.size, (RR.out.1.r3).far hc (by omega) (HG.out.a3 _ HG.out.m1)⟩⟩
                clear s0 s1 s2 s3 k0 k1 k2 k3 hw3 hS3 hch3
                refine (ask_all w3 g3 na c3 p1 f1 A3 a who kind N E kk hI1.1 hI1.2.1 hI1.2.2 HKD.out hkk hfb.1 hfb.2 H3.out.2.2.2.2.2.2.2).mono ?_
                intro e w4 hT
                rw [HAN.out] at hT
                obtain ⟨AB2, cB2, AT2, cT2, rfl, hch2, hr2, hB2, hT2⟩ := tells_open hT
                clear hT
                rw [HLL.out.1] at hB2 ⊢
                rw [HLL.out.2] at hT2 ⊢
                have HB4 : Hd (w4.heap[wr.heap.size + 1]? = some (.cells #[.int .u64 0, .slice none 0 0, .slice none 0 0] 72 (0, 0)) ∧ w4.heap[wr.heap.size + 2]? = some (.cells #[.int .u64 U, .slice AB1 LB cB1, .slice AT1 LT cT1] 72 (0, 0))) := by
                  have hgg := HGEO.out
                  exact ⟨⟨(hch2.block _ (lt_of_block HB3.out.2.1) (by simp; omega)).trans HB3.out.2.1, (hch2.block _ (lt_of_block HB3.out.2.2) (by simp; omega)).trans HB3.out.2.2⟩⟩
                have H4 : Hd (St w4 g1 g2 g3 g4 g5 g6 A1 A2 A3 A4 A5 A6 c1 c2 c3 c4 c5 c6 na nb a b pn p2 p3 fn f2 f3 ∧ Own4 w4 wr.heap.size w.heap.size g1 g6 gl gm na nb cl cm (.slice AO na cO) (.slice AU nb cU) la lb ∧ Below w.heap.size w w4 ∧ w4.ownsRow W1.heap.size 5 1 (.slice AB1 LB cB1) LB (cb lB) ∧ w4.ownsRow W1.heap.size 9 1 (.slice AT1 LT cT1) LT (cs (lT.map tx1)) ∧
                    w4.ownsRow W1.heap.size 5 1 (.slice AB2 LB cB2) LB (cb lB) ∧ w4.ownsRow W1.heap.size 9 1 (.slice AT2 LT cT2) LT (cs (lT.map tx1)) ∧ W1.heap.size ≤ w4.heap.size) := by
                  have hgg := HGEO.out
                  exact ⟨⟨RR.out.1.one HG.out H3.out.1 H3.out.2.1 hch2 hr2 HF2.out, H3.out.2.2.2.2.1.chg hch2 (by omega) (by omega), H3.out.2.2.2.2.2.1.trans (hch2.below (by have := H3.out.2.2.2.2.2.1.size; omega) (by simp; omega)), hch2.own H3.out.2.2.1 (fun j hj => by have := (H3.out.2.2.1.lt j hj).1; simp; omega), hch2.own H3.out.2.2.2.1 (fun j hj => by have := (H3.out.2.2.2.1.lt j hj).1; simp; omega),
                    own_base hB2 H3.out.2.2.2.2.2.2.1, own_base hT2 H3.out.2.2.2.2.2.2.1, Nat.le_trans H3.out.2.2.2.2.2.2.1 hch2.size⟩⟩
                clear hch2 hr2 hB2 hT2
                obtain ⟨k0, k1, k2, k3⟩ := told_cells HB4.out.1
                obtain ⟨m0, m1, m2, m3⟩ := told_cells HB4.out.2
                go_wp2_with fail
                obtain ⟨w5, hw5, hI5, hch5⟩ := told_set HB4.out.1 (.int .u64 U) (.slice AB2 LB cB2) (.slice AT2 LT cT2)
                rw [hw5]
                have H5 : Hd (St w5 g1 g2 g3 g4 g5 g6 A1 A2 A3 A4 A5 A6 c1 c2 c3 c4 c5 c6 na nb a b pn p2 p3 fn f2 f3 ∧ Own4 w5 wr.heap.size w.heap.size g1 g6 gl gm na nb cl cm (.slice AO na cO) (.slice AU nb cU) la lb ∧ Below w.heap.size w w5 ∧ Rd w5 w5.heap.size AB1 LB (cb lB) ∧ Rd w5 w5.heap.size AT1 LT (cs (lT.map tx1)) ∧
                    w5.ownsRow W1.heap.size 5 1 (.slice AB2 LB cB2) LB (cb lB) ∧ w5.ownsRow W1.heap.size 9 1 (.slice AT2 LT cT2) LT (cs (lT.map tx1)) ∧ W1.heap.size ≤ w5.heap.size ∧ w5.heap[wr.heap.size + 1]? = some (.cells #[.int .u64 U, .slice AB2 LB cB2, .slice AT2 LT cT2] 72 (0, 0)) ∧ LT ≤ 4398046511104 ∧ LB ≤ 4398046511104) := by
                  have hgg := HGEO.out
                  have hz := H4.out.2.2.2.2.2.2.2
                  have hbl := hch5.below (B := wr.heap.size) (by omega) (by simp)
                  have hsmall := ask_small a p1 f1 N E kk H0.out.1.2.1 (by have := RR.out.1.r1.len; have := RR.out.1.r1.le; omega)
                  rw [HAN.out] at hsmall
                  simp only at hsmall
                  rw [HLL.out.1, HLL.out.2] at hsmall
                  have hbn : a.length ≤ 1048576 := by have := RR.out.1.r1.len; have := H0.out.1.2.2; omega
                  exact ⟨⟨H4.out.1.below hbl HG.out (by omega), H4.out.2.1.below hbl (Nat.le_refl _), H4.out.2.2.1.trans (hbl.mono (by have := H4.out.2.2.1.size; omega)), Rd.of_own (hch5.own H4.out.2.2.2.1 (fun j hj => by have := (H4.out.2.2.2.1.lt j hj).1; simp; omega)), Rd.of_own (hch5.own H4.out.2.2.2.2.1 (fun j hj => by have := (H4.out.2.2.2.2.1.lt j hj).1; simp; omega)),
                    hch5.own H4.out.2.2.2.2.2.1 (fun j hj => by have := (H4.out.2.2.2.2.2.1.lt j hj).1; simp; omega), hch5.own H4.out.2.2.2.2.2.2.1 (fun j hj => by have := (H4.out.2.2.2.2.2.2.1.lt j hj).1; simp; omega), Nat.le_trans hz hch5.size, hI5, by omega, by omega⟩⟩
                clear k0 k1 k2 k3 m0 m1 m2 m3 hw5 hI5 hch5
                refine (equal_any w5 w5.heap.size U AB2 AT2 AB1 AT1 LB cB2 cB1 LT cT2 cT1 lB (lT.map tx1) (Rd.of_own H5.out.2.2.2.2.2.1) H5.out.2.2.2.1 (Rd.of_own H5.out.2.2.2.2.2.2.1) H5.out.2.2.2.2.1 (Nat.le_refl _) H5.out.2.2.2.2.2.2.2.2.2.1).mono ?_
                rintro e w6 ⟨rfl, hb6⟩
                have HZ : Hd (St w6 g1 g2 g3 g4 g5 g6 A1 A2 A3 A4 A5 A6 c1 c2 c3 c4 c5 c6 na nb a b pn p2 p3 fn f2 f3 ∧ Own4 w6 wr.heap.size w.heap.size g1 g6 gl gm na nb cl cm (.slice AO na cO) (.slice AU nb cU) la lb ∧ Below w.heap.size w w6 ∧ w6.heap[wr.heap.size + 1]? = some (.cells #[.int .u64 U, .slice AB2 LB cB2, .slice AT2 LT cT2] 72 (0, 0)) ∧
                    w6.ownsRow (wr.heap.size + 3) 5 1 (.slice AB2 LB cB2) LB (cb lB) ∧ w6.ownsRow (wr.heap.size + 3) 9 1 (.slice AT2 LT cT2) LT (cs (lT.map tx1)) ∧ wr.heap.size + 3 ≤ w6.heap.size ∧ LB ≤ 4398046511104 ∧ LT ≤ 4398046511104) := by
                  have hgg := HGEO.out
                  have hz := H5.out.2.2.2.2.2.2.2.1
                  have h1 := own_below' H5.out.2.2.2.2.2.1 hb6
                  have h2 := own_below' H5.out.2.2.2.2.2.2.1 hb6
                  rw [hgg.2.2.1] at h1 h2 hz
                  exact ⟨⟨H5.out.1.below hb6 HG.out (by omega), H5.out.2.1.below hb6 (by omega), H5.out.2.2.1.trans (hb6.mono H5.out.2.2.1.size), (hb6.block _ (by omega)).trans H5.out.2.2.2.2.2.2.2.2.1, h1, h2, by have := hb6.size; omega, H5.out.2.2.2.2.2.2.2.2.2.2, H5.out.2.2.2.2.2.2.2.2.2.1⟩⟩
                clear hb6 H5 H4 H3 H2 HB2 HB3 HB4
                obtain ⟨wo, hwo⟩ : ∃ wo : World, wo = wr := ⟨_, rfl⟩
                subst hwo
                have hnB := HZ.out.2.2.2.2.2.2.2.1
                have hnT := HZ.out.2.2.2.2.2.2.2.2
                obtain ⟨k0, k1, k2, k3⟩ := told_cells HZ.out.2.2.2.1
                go_wp2_with fail
                clear k0 k1 k2 k3
                go_loopw [23] (fun i wq => ∃ (q : Nat) (xs : List Value), q ≤ LB ∧ i = .int .i64 q ∧ wq.heap[(wo.heap.size + 1)]? = some (.cells #[.int .u64 U, .slice AB2 LB cB2, .slice AT2 LT cT2] 72 (0, 0)) ∧ wq.ownsRow (wo.heap.size + 3) 5 1 (.slice AB2 LB cB2) LB xs ∧ wq.ownsRow (wo.heap.size + 3) 9 1 (.slice AT2 LT cT2) LT (cs (lT.map tx1)) ∧ Below wo.heap.size w6 wq ∧ wo.heap.size + 3 ≤ wq.heap.size) (fun i _ => LB - (intOf i).toNat)
                case atStart => exact ⟨0, _, by omega, rfl, HZ.out.2.2.2.1, HZ.out.2.2.2.2.1, HZ.out.2.2.2.2.2.1, Below.refl _ _, HZ.out.2.2.2.2.2.2.1⟩
                case round =>
                  obtain ⟨q, xs, hq, rfl, hI, oB, oT, hbq, hsz⟩ := hrel
                  have Q : Hd (wr.heap[(wo.heap.size + 1)]? = some (.cells #[.int .u64 U, .slice AB2 LB cB2, .slice AT2 LT cT2] 72 (0, 0)) ∧ wr.ownsRow (wo.heap.size + 3) 5 1 (.slice AB2 LB cB2) LB xs ∧ wr.ownsRow (wo.heap.size + 3) 9 1 (.slice AT2 LT cT2) LT (cs (lT.map tx1)) ∧ Below wo.heap.size w6 wr ∧ wo.heap.size + 3 ≤ wr.heap.size) := ⟨hI, oB, oT, hbq, hsz⟩
                  clear hI oB oT hbq hsz
                  by_cases hlq : q < LB
                  · obtain ⟨gb, cap, hv, hg1, hg2⟩ := own_pos Q.out.2.1 (by omega)
                    cases hv
                    obtain ⟨u, hu⟩ : ∃ u, xs[q]? = some u := ⟨_, List.getElem?_eq_getElem (by have := Q.out.2.1.1; omega)⟩
                    have hcc := Q.out.2.1.cellAt q (by omega)
                    rw [hu] at hcc
                    have hzq := Q.out.2.1.frozenAt q
                    obtain ⟨k0, k1, k2, k3⟩ := told_cells Q.out.1
                    have HST := Hd.mk (fun v => told_row (q := q) Q.out.1 Q.out.2.1 Q.out.2.2.1 (by decide) (by omega) Q.out.2.2.2.1 (Nat.le_add_right _ _) Q.out.2.2.2.2 v)
                    have hqi : (q : Int) < (LB : Int) := by omega
                    clear hu hg1 hg2
                    go_wp2_with fail
                    go_roundw
                    case rel => exact ⟨q + 1, _, by omega, by go_num, HST.out _⟩
                    case measure => simp [intOf]; omega
                  · have hqn : LB ≤ q := by omega
                    obtain ⟨wp, hwp⟩ : ∃ wp : World, wp = wr := ⟨_, rfl⟩
                    subst hwp
                    obtain ⟨k0, k1, k2, k3⟩ := told_cells Q.out.1
                    have hqe : LB = q := by omega
                    have hqi : ¬ ((q : Int) < (LB : Int)) := by omega
                    clear hqe
                    go_wp2_with fail
                    clear k0 k1 k2 k3
                    go_loopw [24] (fun i wq => ∃ (r : Nat) (ys : List Value), r ≤ LT ∧ i = .int .i64 r ∧ wq.heap[(wo.heap.size + 1)]? = some (.cells #[.int .u64 U, .slice AB2 LB cB2, .slice AT2 LT cT2] 72 (0, 0)) ∧ wq.ownsRow (wo.heap.size + 3) 5 1 (.slice AB2 LB cB2) LB xs ∧ wq.ownsRow (wo.heap.size + 3) 9 1 (.slice AT2 LT cT2) LT ys ∧ Below wo.heap.size w6 wq ∧ wo.heap.size + 3 ≤ wq.heap.size) (fun i _ => LT - (intOf i).toNat)
                    case atStart => exact ⟨0, _, by omega, rfl, Q.out⟩
                    case round =>
                      obtain ⟨r, ys, hr, rfl, hI, oB, oT, hbq, hsz⟩ := hrel
                      have Y : Hd (wr.heap[(wo.heap.size + 1)]? = some (.cells #[.int .u64 U, .slice AB2 LB cB2, .slice AT2 LT cT2] 72 (0, 0)) ∧ wr.ownsRow (wo.heap.size + 3) 5 1 (.slice AB2 LB cB2) LB xs ∧ wr.ownsRow (wo.heap.size + 3) 9 1 (.slice AT2 LT cT2) LT ys ∧ Below wo.heap.size w6 wr ∧ wo.heap.size + 3 ≤ wr.heap.size) := ⟨hI, oB, oT, hbq, hsz⟩
                      clear hI oB oT hbq hsz
                      by_cases hlr : r < LT
                      · obtain ⟨gb, cap, hv, hg1, hg2⟩ := own_pos Y.out.2.2.1 (by omega)
                        cases hv
                        obtain ⟨u, hu⟩ : ∃ u, ys[r]? = some u := ⟨_, List.getElem?_eq_getElem (by have := Y.out.2.2.1.1; omega)⟩
                        have hcc := Y.out.2.2.1.cellAt r (by omega)
                        rw [hu] at hcc
                        have hzq := Y.out.2.2.1.frozenAt r
                        obtain ⟨k0, k1, k2, k3⟩ := told_cells Y.out.1
                        have HST := Hd.mk (fun v => told_row (q := r) Y.out.1 Y.out.2.2.1 Y.out.2.1 (by decide) (by omega) Y.out.2.2.2.1 (Nat.le_add_right _ _) Y.out.2.2.2.2 v)
                        have hri : (r : Int) < (LT : Int) := by omega
                        clear hu hg1 hg2
                        go_wp2_with fail
                        go_roundw
                        case rel =>
                          have h := HST.out (.string ⟨#[109, 105, 110, 101]⟩)
                          exact ⟨r + 1, _, by omega, by go_num, h.1, h.2.2.1, h.2.1, h.2.2.2⟩
                        case measure => simp [intOf]; omega
                      · obtain ⟨k0, k1, k2, k3⟩ := told_cells Y.out.1
                        have hri : ¬ ((r : Int) < (LT : Int)) := by omega
                        have hks : (k : Int) ≤ 1048576 := by omega
                        go_wp2_with fail
                        clear k0 k1 k2 k3
                        refine (grown_any wr (wo.heap.size + 3) LB LT cB2 cT2 U _ AB2 AT2 xs ys Y.out.2.1 Y.out.2.2.1 hnB hnT Y.out.2.2.2.2).mono ?_
                        rintro e w9 ⟨⟨v9, rfl⟩, hb9⟩
                        have H9 : Hd (St w9 g1 g2 g3 g4 g5 g6 A1 A2 A3 A4 A5 A6 c1 c2 c3 c4 c5 c6 na nb a b pn p2 p3 fn f2 f3 ∧ Own4 w9 w9.heap.size w.heap.size g1 g6 gl gm na nb cl cm (.slice AO na cO) (.slice AU nb cU) la lb ∧ Below w.heap.size w w9) := by
                          have hgg := HGEO.out
                          have hb := Y.out.2.2.2.1.trans (hb9.mono (Nat.le_add_right _ 3))
                          have hz := Y.out.2.2.2.2
                          have hz9 := hb9.size
                          have hww := RR.out.2.2.size
                          exact ⟨⟨HZ.out.1.below hb HG.out (by omega), (HZ.out.2.1.below hb (Nat.le_refl _)).more (by omega), HZ.out.2.2.1.trans (hb.mono hww)⟩⟩
                        clear hb9
                        go_wp2_with fail
                        go_roundw
                        case rel => exact ⟨k + 1, pn, p2, p3, fn, f2, f3, by omega, by go_num, H9.out⟩
                        case measure => simp [intOf]; omega
              · rw [hq]
                rintro e z ⟨rfl, rfl⟩
                clear hq
                go_wp2_with fail
                have hI1 := HI.out
                have hfb := RR.out.1.b2
                obtain ⟨⟨⟨U, lB, lT⟩, pn, fn⟩, hans⟩ : ∃ r, askF b p2 f2 N E kk = r := ⟨_, rfl⟩
                have hfl := ask_fl (bs := b) (at_ := p2) (fl := f2) H0.out.2.1.2.1 (by have := RR.out.1.r2.len; have := RR.out.1.r2.le; omega) N E kk hkk hfb
                rw [hans] at hfl
                have HGL := HG.out.lt
                have HOG := RR.out.2.1.g
                have hb1 := HW1.out.2.2.2.1
                have hsz1 := HW1.out.2.2.2.2
                have hglw := HS.out.2.2.2.2.2.2.2.2
                have HF2 := Hd.mk hfl
                have HAN := Hd.mk hans
                have HRI : Hd (Rr W1 g2 A2 nb c2 p2 f2 b) := ⟨(RR.out.1.r2).below hb1 (by omega)⟩
                have HGEO : Hd ((g1 < g2 ∧ g2 < g3 ∧ g3 < g4 ∧ g4 < g5 ∧ g5 < g6) ∧ (gl < g1 ∧ gm < g1 ∧ g1 < g6 ∧ g6 < wr.heap.size) ∧ W1.heap.size = wr.heap.size + 3 ∧ w.heap.size ≤ gl) := ⟨HGL, HOG, hsz1, hglw.1⟩
                clear hfl hans HGL HOG hb1 hsz1 hglw
                refine (want_all W1 g2 nb c2 p2 f2 A2 b who kind N E kk hI1.1 hI1.2.1 hI1.2.2 HKD.out hkk hfb.1 hfb.2 HRI.out).mono ?_
                intro e w2 hT
                rw [HAN.out] at hT
                obtain ⟨AB1, cB1, AT1, cT1, rfl, hch1, hr1, hB1, hT1⟩ := tells_open hT
                clear hT
                have HB2 : Hd (w2.heap[wr.heap.size]? = some (.cells #[.int .i64 who, .int .i64 kind, .int .i64 N, .int .i64 E] 70 (0, 0)) ∧ w2.heap[wr.heap.size + 1]? = some (.cells #[.int .u64 0, .slice none 0 0, .slice none 0 0] 72 (0, 0)) ∧ w2.heap[wr.heap.size + 2]? = some (.cells #[.int .u64 0, .slice none 0 0, .slice none 0 0] 72 (0, 0))) := by
                  have hgg := HGEO.out
                  exact ⟨⟨(hch1.block _ (by omega) (by simp; omega)).trans HW1.out.1, (hch1.block _ (by omega) (by simp; omega)).trans HW1.out.2.1, (hch1.block _ (by omega) (by simp; omega)).trans HW1.out.2.2.1⟩⟩
                have H2 : Hd (Chg [g2] wr w2 ∧ Rr w2 g2 A2 nb c2 pn fn b ∧ w2.ownsRow W1.heap.size 5 1 (.slice AB1 lB.length cB1) lB.length (cb lB) ∧ w2.ownsRow W1.heap.size 9 1 (.slice AT1 lT.length cT1) lT.length (cs (lT.map tx1)) ∧ Own4 w2 wr.heap.size w.heap.size g1 g6 gl gm na nb cl cm (.slice AO na cO) (.slice AU nb cU) la lb ∧ Below w.heap.size w w2 ∧ W1.heap.size ≤ w2.heap.size) := by
                  have hgg := HGEO.out
                  have hb1 := HW1.out.2.2.2.1
                  exact ⟨⟨((Chg.of_below (L := []) hb1).mono (by simp)).trans hch1, hr1, hB1, hT1, ((RR.out.2.1.below hb1 (Nat.le_refl _)).chg hch1 (by omega) (by omega)), (RR.out.2.2.trans (hb1.mono RR.out.2.2.size)).trans (hch1.below (by have := RR.out.2.2.size; omega) (by simp; omega)), hch1.size⟩⟩
                clear s0 s1 s2 s3 hch1 hr1 hB1 hT1 HRI
                obtain ⟨s0, s1, s2, s3⟩ := step_cells HB2.out.1
                obtain ⟨k0, k1, k2, k3⟩ := told_cells HB2.out.2.2
                obtain ⟨LB, hLB⟩ : ∃ LB, lB.length = LB := ⟨_, rfl⟩
                obtain ⟨LT, hLT⟩ : ∃ LT, lT.length = LT := ⟨_, rfl⟩
                rw [hLB, hLT] at H2 ⊢
                have HLL : Hd (lB.length = LB ∧ lT.length = LT) := ⟨hLB, hLT⟩
                clear hLB hLT
                go_wp2_with fail
                obtain ⟨w3, hw3, hS3, hch3⟩ := told_set HB2.out.2.2 (.int .u64 U) (.slice AB1 LB cB1) (.slice AT1 LT cT1)
                rw [hw3]
                have HB3 : Hd (w3.heap[wr.heap.size]? = some (.cells #[.int .i64 who, .int .i64 kind, .int .i64 N, .int .i64 E] 70 (0, 0)) ∧ w3.heap[wr.heap.size + 1]? = some (.cells #[.int .u64 0, .slice none 0 0, .slice none 0 0] 72 (0, 0)) ∧ w3.heap[wr.heap.size + 2]? = some (.cells #[.int .u64 U, .slice AB1 LB cB1, .slice AT1 LT cT1] 72 (0, 0))) :=
                  ⟨(hch3.block _ (lt_of_block HB2.out.1) (by simp)).trans HB2.out.1, (hch3.block _ (lt_of_block HB2.out.2.1) (by simp)).trans HB2.out.2.1, hS3⟩
                have H3 : Hd (Chg [g2] wr w3 ∧ Rr w3 g2 A2 nb c2 pn fn b ∧ w3.ownsRow W1.heap.size 5 1 (.slice AB1 LB cB1) LB (cb lB) ∧ w3.ownsRow W1.heap.size 9 1 (.slice AT1 LT cT1) LT (cs (lT.map tx1)) ∧ Own4 w3 wr.heap.size w.heap.size g1 g6 gl gm na nb cl cm (.slice AO na cO) (.slice AU nb cU) la lb ∧ Below w.heap.size w w3 ∧ W1.heap.size ≤ w3.heap.size ∧ Rr w3 g4 A4 nb c4 p2 f2 b) := by
                  have hgg := HGEO.out
                  have hz2 := H2.out.2.2.2.2.2.2
                  have hc := H2.out.1.onward hch3 (by simp)
                  have hbl := hch3.below (B := wr.heap.size) (by omega) (by simp)
                  exact ⟨⟨hc, H2.out.2.1.keep' hch3 (by simp; omega), hch3.own H2.out.2.2.1 (fun j hj => by have := (H2.out.2.2.1.lt j hj).1; simp; omega), hch3.own H2.out.2.2.2.1 (fun j hj => by have := (H2.out.2.2.2.1.lt j hj).1; simp; omega), H2.out.2.2.2.2.1.below hbl (Nat.le_refl _), H2.out.2.2.2.2.2.1.trans (hbl.mono (by omega)), Nat.le_trans hz2 hch3.size, (RR.out.1.r4).far hc (by omega) (HG.out.a4 _ HG.out.m2)⟩⟩
                clear s0 s1 s2 s3 k0 k1 k2 k3 hw3 hS3 hch3
                refine (ask_all w3 g4 nb c4 p2 f2 A4 b who kind N E kk hI1.1 hI1.2.1 hI1.2.2 HKD.out hkk hfb.1 hfb.2 H3.out.2.2.2.2.2.2.2).mono ?_
                intro e w4 hT
                rw [HAN.out] at hT
                obtain ⟨AB2, cB2, AT2, cT2, rfl, hch2, hr2, hB2, hT2⟩ := tells_open hT
                clear hT
                rw [HLL.out.1] at hB2 ⊢
                rw [HLL.out.2] at hT2 ⊢
                have HB4 : Hd (w4.heap[wr.heap.size + 1]? = some (.cells #[.int .u64 0, .slice none 0 0, .slice none 0 0] 72 (0, 0)) ∧ w4.heap[wr.heap.size + 2]? = some (.cells #[.int .u64 U, .slice AB1 LB cB1, .slice AT1 LT cT1] 72 (0, 0))) := by
                  have hgg := HGEO.out
                  exact ⟨⟨(hch2.block _ (lt_of_block HB3.out.2.1) (by simp; omega)).trans HB3.out.2.1, (hch2.block _ (lt_of_block HB3.out.2.2) (by simp; omega)).trans HB3.out.2.2⟩⟩
                have H4 : Hd (St w4 g1 g2 g3 g4 g5 g6 A1 A2 A3 A4 A5 A6 c1 c2 c3 c4 c5 c6 na nb a b p1 pn p3 f1 fn f3 ∧ Own4 w4 wr.heap.size w.heap.size g1 g6 gl gm na nb cl cm (.slice AO na cO) (.slice AU nb cU) la lb ∧ Below w.heap.size w w4 ∧ w4.ownsRow W1.heap.size 5 1 (.slice AB1 LB cB1) LB (cb lB) ∧ w4.ownsRow W1.heap.size 9 1 (.slice AT1 LT cT1) LT (cs (lT.map tx1)) ∧
                    w4.ownsRow W1.heap.size 5 1 (.slice AB2 LB cB2) LB (cb lB) ∧ w4.ownsRow W1.heap.size 9 1 (.slice AT2 LT cT2) LT (cs (lT.map tx1)) ∧ W1.heap.size ≤ w4.heap.size) := by
                  have hgg := HGEO.out
                  exact ⟨⟨RR.out.1.two HG.out H3.out.1 H3.out.2.1 hch2 hr2 HF2.out, H3.out.2.2.2.2.1.chg hch2 (by omega) (by omega), H3.out.2.2.2.2.2.1.trans (hch2.below (by have := H3.out.2.2.2.2.2.1.size; omega) (by simp; omega)), hch2.own H3.out.2.2.1 (fun j hj => by have := (H3.out.2.2.1.lt j hj).1; simp; omega), hch2.own H3.out.2.2.2.1 (fun j hj => by have := (H3.out.2.2.2.1.lt j hj).1; simp; omega),
                    own_base hB2 H3.out.2.2.2.2.2.2.1, own_base hT2 H3.out.2.2.2.2.2.2.1, Nat.le_trans H3.out.2.2.2.2.2.2.1 hch2.size⟩⟩
                clear hch2 hr2 hB2 hT2
                obtain ⟨k0, k1, k2, k3⟩ := told_cells HB4.out.1
                obtain ⟨m0, m1, m2, m3⟩ := told_cells HB4.out.2
                go_wp2_with fail
                obtain ⟨w5, hw5, hI5, hch5⟩ := told_set HB4.out.1 (.int .u64 U) (.slice AB2 LB cB2) (.slice AT2 LT cT2)
                rw [hw5]
                have H5 : Hd (St w5 g1 g2 g3 g4 g5 g6 A1 A2 A3 A4 A5 A6 c1 c2 c3 c4 c5 c6 na nb a b p1 pn p3 f1 fn f3 ∧ Own4 w5 wr.heap.size w.heap.size g1 g6 gl gm na nb cl cm (.slice AO na cO) (.slice AU nb cU) la lb ∧ Below w.heap.size w w5 ∧ Rd w5 w5.heap.size AB1 LB (cb lB) ∧ Rd w5 w5.heap.size AT1 LT (cs (lT.map tx1)) ∧
                    w5.ownsRow W1.heap.size 5 1 (.slice AB2 LB cB2) LB (cb lB) ∧ w5.ownsRow W1.heap.size 9 1 (.slice AT2 LT cT2) LT (cs (lT.map tx1)) ∧ W1.heap.size ≤ w5.heap.size ∧ w5.heap[wr.heap.size + 1]? = some (.cells #[.int .u64 U, .slice AB2 LB cB2, .slice AT2 LT cT2] 72 (0, 0)) ∧ LT ≤ 4398046511104 ∧ LB ≤ 4398046511104) := by
                  have hgg := HGEO.out
                  have hz := H4.out.2.2.2.2.2.2.2
                  have hbl := hch5.below (B := wr.heap.size) (by omega) (by simp)
                  have hsmall := ask_small b p2 f2 N E kk H0.out.2.1.2.1 (by have := RR.out.1.r2.len; have := RR.out.1.r2.le; omega)
                  rw [HAN.out] at hsmall
                  simp only at hsmall
                  rw [HLL.out.1, HLL.out.2] at hsmall
                  have hbn : b.length ≤ 1048576 := by have := RR.out.1.r2.len; have := H0.out.2.1.2.2; omega
                  exact ⟨⟨H4.out.1.below hbl HG.out (by omega), H4.out.2.1.below hbl (Nat.le_refl _), H4.out.2.2.1.trans (hbl.mono (by have := H4.out.2.2.1.size; omega)), Rd.of_own (hch5.own H4.out.2.2.2.1 (fun j hj => by have := (H4.out.2.2.2.1.lt j hj).1; simp; omega)), Rd.of_own (hch5.own H4.out.2.2.2.2.1 (fun j hj => by have := (H4.out.2.2.2.2.1.lt j hj).1; simp; omega)),
                    hch5.own H4.out.2.2.2.2.2.1 (fun j hj => by have := (H4.out.2.2.2.2.2.1.lt j hj).1; simp; omega), hch5.own H4.out.2.2.2.2.2.2.1 (fun j hj => by have := (H4.out.2.2.2.2.2.2.1.lt j hj).1; simp; omega), Nat.le_trans hz hch5.size, hI5, by omega, by omega⟩⟩
                clear k0 k1 k2 k3 m0 m1 m2 m3 hw5 hI5 hch5
                refine (equal_any w5 w5.heap.size U AB2 AT2 AB1 AT1 LB cB2 cB1 LT cT2 cT1 lB (lT.map tx1) (Rd.of_own H5.out.2.2.2.2.2.1) H5.out.2.2.2.1 (Rd.of_own H5.out.2.2.2.2.2.2.1) H5.out.2.2.2.2.1 (Nat.le_refl _) H5.out.2.2.2.2.2.2.2.2.2.1).mono ?_
                rintro e w6 ⟨rfl, hb6⟩
                have HZ : Hd (St w6 g1 g2 g3 g4 g5 g6 A1 A2 A3 A4 A5 A6 c1 c2 c3 c4 c5 c6 na nb a b p1 pn p3 f1 fn f3 ∧ Own4 w6 wr.heap.size w.heap.size g1 g6 gl gm na nb cl cm (.slice AO na cO) (.slice AU nb cU) la lb ∧ Below w.heap.size w w6 ∧ w6.heap[wr.heap.size + 1]? = some (.cells #[.int .u64 U, .slice AB2 LB cB2, .slice AT2 LT cT2] 72 (0, 0)) ∧
                    w6.ownsRow (wr.heap.size + 3) 5 1 (.slice AB2 LB cB2) LB (cb lB) ∧ w6.ownsRow (wr.heap.size + 3) 9 1 (.slice AT2 LT cT2) LT (cs (lT.map tx1)) ∧ wr.heap.size + 3 ≤ w6.heap.size ∧ LB ≤ 4398046511104 ∧ LT ≤ 4398046511104) := by
                  have hgg := HGEO.out
                  have hz := H5.out.2.2.2.2.2.2.2.1
                  have h1 := own_below' H5.out.2.2.2.2.2.1 hb6
                  have h2 := own_below' H5.out.2.2.2.2.2.2.1 hb6
                  rw [hgg.2.2.1] at h1 h2 hz
                  exact ⟨⟨H5.out.1.below hb6 HG.out (by omega), H5.out.2.1.below hb6 (by omega), H5.out.2.2.1.trans (hb6.mono H5.out.2.2.1.size), (hb6.block _ (by omega)).trans H5.out.2.2.2.2.2.2.2.2.1, h1, h2, by have := hb6.size; omega, H5.out.2.2.2.2.2.2.2.2.2.2, H5.out.2.2.2.2.2.2.2.2.2.1⟩⟩
                clear hb6 H5 H4 H3 H2 HB2 HB3 HB4
                obtain ⟨wo, hwo⟩ : ∃ wo : World, wo = wr := ⟨_, rfl⟩
                subst hwo
                have hnB := HZ.out.2.2.2.2.2.2.2.1
                have hnT := HZ.out.2.2.2.2.2.2.2.2
                obtain ⟨k0, k1, k2, k3⟩ := told_cells HZ.out.2.2.2.1
                go_wp2_with fail
                clear k0 k1 k2 k3
                go_loopw [23] (fun i wq => ∃ (q : Nat) (xs : List Value), q ≤ LB ∧ i = .int .i64 q ∧ wq.heap[(wo.heap.size + 1)]? = some (.cells #[.int .u64 U, .slice AB2 LB cB2, .slice AT2 LT cT2] 72 (0, 0)) ∧ wq.ownsRow (wo.heap.size + 3) 5 1 (.slice AB2 LB cB2) LB xs ∧ wq.ownsRow (wo.heap.size + 3) 9 1 (.slice AT2 LT cT2) LT (cs (lT.map tx1)) ∧ Below wo.heap.size w6 wq ∧ wo.heap.size + 3 ≤ wq.heap.size) (fun i _ => LB - (intOf i).toNat)
                case atStart => exact ⟨0, _, by omega, rfl, HZ.out.2.2.2.1, HZ.out.2.2.2.2.1, HZ.out.2.2.2.2.2.1, Below.refl _ _, HZ.out.2.2.2.2.2.2.1⟩
                case round =>
                  obtain ⟨q, xs, hq, rfl, hI, oB, oT, hbq, hsz⟩ := hrel
                  have Q : Hd (wr.heap[(wo.heap.size + 1)]? = some (.cells #[.int .u64 U, .slice AB2 LB cB2, .slice AT2 LT cT2] 72 (0, 0)) ∧ wr.ownsRow (wo.heap.size + 3) 5 1 (.slice AB2 LB cB2) LB xs ∧ wr.ownsRow (wo.heap.size + 3) 9 1 (.slice AT2 LT cT2) LT (cs (lT.map tx1)) ∧ Below wo.heap.size w6 wr ∧ wo.heap.size + 3 ≤ wr.heap.size) := ⟨hI, oB, oT, hbq, hsz⟩
                  clear hI oB oT hbq hsz
                  by_cases hlq : q < LB
                  · obtain ⟨gb, cap, hv, hg1, hg2⟩ := own_pos Q.out.2.1 (by omega)
                    cases hv
                    obtain ⟨u, hu⟩ : ∃ u, xs[q]? = some u := ⟨_, List.getElem?_eq_getElem (by have := Q.out.2.1.1; omega)⟩
                    have hcc := Q.out.2.1.cellAt q (by omega)
                    rw [hu] at hcc
                    have hzq := Q.out.2.1.frozenAt q
                    obtain ⟨k0, k1, k2, k3⟩ := told_cells Q.out.1
                    have HST := Hd.mk (fun v => told_row (q := q) Q.out.1 Q.out.2.1 Q.out.2.2.1 (by decide) (by omega) Q.out.2.2.2.1 (Nat.le_add_right _ _) Q.out.2.2.2.2 v)
                    have hqi : (q : Int) < (LB : Int) := by omega
                    clear hu hg1 hg2
                    go_wp2_with fail
                    go_roundw
                    case rel => exact ⟨q + 1, _, by omega, by go_num, HST.out _⟩
                    case measure => simp [intOf]; omega
                  · have hqn : LB ≤ q := by omega
                    obtain ⟨wp, hwp⟩ : ∃ wp : World, wp = wr := ⟨_, rfl⟩
                    subst hwp
                    obtain ⟨k0, k1, k2, k3⟩ := told_cells Q.out.1
                    have hqe : LB = q := by omega
                    have hqi : ¬ ((q : Int) < (LB : Int)) := by omega
                    clear hqe
                    go_wp2_with fail
                    clear k0 k1 k2 k3
                    go_loopw [24] (fun i wq => ∃ (r : Nat) (ys : List Value), r ≤ LT ∧ i = .int .i64 r ∧ wq.heap[(wo.heap.size + 1)]? = some (.cells #[.int .u64 U, .slice AB2 LB cB2, .slice AT2 LT cT2] 72 (0, 0)) ∧ wq.ownsRow (wo.heap.size + 3) 5 1 (.slice AB2 LB cB2) LB xs ∧ wq.ownsRow (wo.heap.size + 3) 9 1 (.slice AT2 LT cT2) LT ys ∧ Below wo.heap.size w6 wq ∧ wo.heap.size + 3 ≤ wq.heap.size) (fun i _ => LT - (intOf i).toNat)
                    case atStart => exact ⟨0, _, by omega, rfl, Q.out⟩
                    case round =>
                      obtain ⟨r, ys, hr, rfl, hI, oB, oT, hbq, hsz⟩ := hrel
                      have Y : Hd (wr.heap[(wo.heap.size + 1)]? = some (.cells #[.int .u64 U, .slice AB2 LB cB2, .slice AT2 LT cT2] 72 (0, 0)) ∧ wr.ownsRow (wo.heap.size + 3) 5 1 (.slice AB2 LB cB2) LB xs ∧ wr.ownsRow (wo.heap.size + 3) 9 1 (.slice AT2 LT cT2) LT ys ∧ Below wo.heap.size w6 wr ∧ wo.heap.size + 3 ≤ wr.heap.size) := ⟨hI, oB, oT, hbq, hsz⟩
                      clear hI oB oT hbq hsz
                      by_cases hlr : r < LT
                      · obtain ⟨gb, cap, hv, hg1, hg2⟩ := own_pos Y.out.2.2.1 (by omega)
                        cases hv
                        obtain ⟨u, hu⟩ : ∃ u, ys[r]? = some u := ⟨_, List.getElem?_eq_getElem (by have := Y.out.2.2.1.1; omega)⟩
                        have hcc := Y.out.2.2.1.cellAt r (by omega)
                        rw [hu] at hcc
                        have hzq := Y.out.2.2.1.frozenAt r
                        obtain ⟨k0, k1, k2, k3⟩ := told_cells Y.out.1
                        have HST := Hd.mk (fun v => told_row (q := r) Y.out.1 Y.out.2.2.1 Y.out.2.1 (by decide) (by omega) Y.out.2.2.2.1 (Nat.le_add_right _ _) Y.out.2.2.2.2 v)
                        have hri : (r : Int) < (LT : Int) := by omega
                        clear hu hg1 hg2
                        go_wp2_with fail
                        go_roundw
                        case rel =>
                          have h := HST.out (.string ⟨#[109, 105, 110, 101]⟩)
                          exact ⟨r + 1, _, by omega, by go_num, h.1, h.2.2.1, h.2.1, h.2.2.2⟩
                        case measure => simp [intOf]; omega
                      · obtain ⟨k0, k1, k2, k3⟩ := told_cells Y.out.1
                        have hri : ¬ ((r : Int) < (LT : Int)) := by omega
                        have hks : (k : Int) ≤ 1048576 := by omega
                        go_wp2_with fail
                        clear k0 k1 k2 k3
                        refine (grown_any wr (wo.heap.size + 3) LB LT cB2 cT2 U _ AB2 AT2 xs ys Y.out.2.1 Y.out.2.2.1 hnB hnT Y.out.2.2.2.2).mono ?_
                        rintro e w9 ⟨⟨v9, rfl⟩, hb9⟩
                        have H9 : Hd (St w9 g1 g2 g3 g4 g5 g6 A1 A2 A3 A4 A5 A6 c1 c2 c3 c4 c5 c6 na nb a b p1 pn p3 f1 fn f3 ∧ Own4 w9 w9.heap.size w.heap.size g1 g6 gl gm na nb cl cm (.slice AO na cO) (.slice AU nb cU) la lb ∧ Below w.heap.size w w9) := by
                          have hgg := HGEO.out
                          have hb := Y.out.2.2.2.1.trans (hb9.mono (Nat.le_add_right _ 3))
                          have hz := Y.out.2.2.2.2
                          have hz9 := hb9.size
                          have hww := RR.out.2.2.size
                          exact ⟨⟨HZ.out.1.below hb HG.out (by omega), (HZ.out.2.1.below hb (Nat.le_refl _)).more (by omega), HZ.out.2.2.1.trans (hb.mono hww)⟩⟩
                        clear hb9
                        go_wp2_with fail
                        go_roundw
                        case rel => exact ⟨k + 1, p1, pn, p3, f1, fn, f3, by omega, by go_num, H9.out⟩
                        case measure => simp [intOf]; omega
              · rw [hq]
                rintro e z ⟨rfl, rfl⟩
                clear hq
                go_wp2_with fail
                have hI1 := HI.out
                have HGEO : Hd ((g1 < g2 ∧ g2 < g3 ∧ g3 < g4 ∧ g4 < g5 ∧ g5 < g6) ∧ (gl < g1 ∧ gm < g1 ∧ g1 < g6 ∧ g6 < wr.heap.size) ∧ W1.heap.size = wr.heap.size + 3 ∧ w.heap.size ≤ gl) := ⟨HG.out.lt, RR.out.2.1.g, HW1.out.2.2.2.2, HS.out.2.2.2.2.2.2.2.2.1⟩
                refine (none_any W1 who kind N E kk hI1.1 HKD.out hkk).mono ?_
                obtain ⟨U, hU⟩ : ∃ U, (noneF kk).U = U := ⟨_, rfl⟩
                have HU := Hd.mk hU
                rw [hU]
                clear hU
                rintro e w2 ⟨rfl, hch1⟩
                have HB2 : Hd (w2.heap[wr.heap.size]? = some (.cells #[.int .i64 who, .int .i64 kind, .int .i64 N, .int .i64 E] 70 (0, 0)) ∧ w2.heap[wr.heap.size + 1]? = some (.cells #[.int .u64 0, .slice none 0 0, .slice none 0 0] 72 (0, 0)) ∧ w2.heap[wr.heap.size + 2]? = some (.cells #[.int .u64 0, .slice none 0 0, .slice none 0 0] 72 (0, 0))) := by
                  have hgg := HGEO.out
                  exact ⟨⟨(hch1.block _ (by omega) (by simp)).trans HW1.out.1, (hch1.block _ (by omega) (by simp)).trans HW1.out.2.1, (hch1.block _ (by omega) (by simp)).trans HW1.out.2.2.1⟩⟩
                have H2 : Hd (Chg [] wr w2 ∧ W1.heap.size ≤ w2.heap.size) := ⟨(Chg.of_below (L := []) HW1.out.2.2.2.1).trans hch1, hch1.size⟩
                clear s0 s1 s2 s3 hch1
                obtain ⟨s0, s1, s2, s3⟩ := step_cells HB2.out.1
                obtain ⟨k0, k1, k2, k3⟩ := told_cells HB2.out.2.2
                go_wp2_with fail
                obtain ⟨w3, hw3, hS3, hch3⟩ := told_set HB2.out.2.2 (.int .u64 U) (.slice none 0 0) (.slice none 0 0)
                rw [hw3]
                have HB3 : Hd (w3.heap[wr.heap.size + 1]? = some (.cells #[.int .u64 0, .slice none 0 0, .slice none 0 0] 72 (0, 0)) ∧ w3.heap[wr.heap.size + 2]? = some (.cells #[.int .u64 U, .slice none 0 0, .slice none 0 0] 72 (0, 0))) :=
                  ⟨(hch3.block _ (lt_of_block HB2.out.2.1) (by simp)).trans HB2.out.2.1, hS3⟩
                have H3 : Hd (Chg [] wr w3 ∧ W1.heap.size ≤ w3.heap.size) := ⟨H2.out.1.onward hch3 (by simp), Nat.le_trans H2.out.2 hch3.size⟩
                clear s0 s1 s2 s3 k0 k1 k2 k3 hw3 hS3 hch3
                refine (asknil_any w3 who kind N E kk hI1.1 HKD.out hkk).mono ?_
                rw [HU.out]
                rintro e w4 ⟨rfl, hch2⟩
                have HB4 : Hd (w4.heap[wr.heap.size + 1]? = some (.cells #[.int .u64 0, .slice none 0 0, .slice none 0 0] 72 (0, 0)) ∧ w4.heap[wr.heap.size + 2]? = some (.cells #[.int .u64 U, .slice none 0 0, .slice none 0 0] 72 (0, 0))) :=
                  ⟨(hch2.block _ (lt_of_block HB3.out.1) (by simp)).trans HB3.out.1, (hch2.block _ (lt_of_block HB3.out.2) (by simp)).trans HB3.out.2⟩
                have H4 : Hd (Chg [] wr w4 ∧ W1.heap.size ≤ w4.heap.size) := ⟨H3.out.1.trans hch2, Nat.le_trans H3.out.2 hch2.size⟩
                clear hch2
                obtain ⟨k0, k1, k2, k3⟩ := told_cells HB4.out.1
                obtain ⟨m0, m1, m2, m3⟩ := told_cells HB4.out.2
                go_wp2_with fail
                obtain ⟨w5, hw5, hI5, hch5⟩ := told_set HB4.out.1 (.int .u64 U) (.slice none 0 0) (.slice none 0 0)
                rw [hw5]
                have H5 : Hd (Chg [] wr w5 ∧ W1.heap.size ≤ w5.heap.size ∧ w5.heap[wr.heap.size + 1]? = some (.cells #[.int .u64 U, .slice none 0 0, .slice none 0 0] 72 (0, 0))) := ⟨H4.out.1.onward hch5 (by simp), Nat.le_trans H4.out.2 hch5.size, hI5⟩
                clear k0 k1 k2 k3 m0 m1 m2 m3 hw5 hI5 hch5
                refine (equal_any w5 w5.heap.size U none none none none 0 0 0 0 0 0 [] [] Rd.nil Rd.nil Rd.nil Rd.nil (Nat.le_refl _) (by omega)).mono ?_
                rintro e w6 ⟨rfl, hb6⟩
                obtain ⟨LB, hLB⟩ : ∃ LB : Nat, 0 = LB := ⟨_, rfl⟩
                obtain ⟨LT, hLT⟩ : ∃ LT : Nat, 0 = LT := ⟨_, rfl⟩
                have HZ : Hd (St w6 g1 g2 g3 g4 g5 g6 A1 A2 A3 A4 A5 A6 c1 c2 c3 c4 c5 c6 na nb a b p1 p2 p3 f1 f2 f3 ∧ Own4 w6 wr.heap.size w.heap.size g1 g6 gl gm na nb cl cm (.slice AO na cO) (.slice AU nb cU) la lb ∧ Below w.heap.size w w6 ∧ w6.heap[wr.heap.size + 1]? = some (.cells #[.int .u64 U, .slice none 0 0, .slice none 0 0] 72 (0, 0)) ∧
                    w6.ownsRow (wr.heap.size + 3) 5 1 (.slice none 0 0) 0 (cb []) ∧ w6.ownsRow (wr.heap.size + 3) 9 1 (.slice none 0 0) 0 (cs []) ∧ wr.heap.size + 3 ≤ w6.heap.size ∧ 0 ≤ 4398046511104 ∧ 0 ≤ 4398046511104) := by
                  have hgg := HGEO.out
                  have hz := H5.out.2.1
                  have hw := RR.out.2.2.size
                  have hb : Below wr.heap.size wr w6 := (H5.out.1.below (Nat.le_refl _) (by simp)).trans (hb6.mono (by omega))
                  exact ⟨⟨RR.out.1.below hb HG.out (by omega), RR.out.2.1.below hb (Nat.le_refl _), RR.out.2.2.trans (hb.mono hw), (hb6.block _ (by omega)).trans H5.out.2.2, World.ownsRow_nil .., World.ownsRow_nil .., by have := hb6.size; omega, by omega, by omega⟩⟩
                clear hb6 H5 H4 H3 H2 HB2 HB3 HB4 hLB hLT
                obtain ⟨k0, k1, k2, k3⟩ := told_cells HZ.out.2.2.2.1
                obtain ⟨wo, hwo⟩ : ∃ wo : World, wo = wr := ⟨_, rfl⟩
                subst hwo
                go_wp2_with fail
                clear k0 k1 k2 k3
                go_loopw [23] (fun i wq => i = .int .i64 0 ∧ wq = w6) (fun i _ => 0)
                case atStart => exact ⟨rfl, rfl⟩
                case round =>
                  obtain ⟨rfl, hwq⟩ := hrel
                  subst hwq
                  obtain ⟨wp, hwp⟩ : ∃ wp : World, wp = wr := ⟨_, rfl⟩
                  subst hwp
                  obtain ⟨k0, k1, k2, k3⟩ := told_cells HZ.out.2.2.2.1
                  go_wp2_with fail
                  clear k0 k1 k2 k3
                  go_loopw [24] (fun i wq => i = .int .i64 0 ∧ wq = wp) (fun i _ => 0)
                  case atStart => exact ⟨rfl, rfl⟩
                  case round =>
                    obtain ⟨rfl, hwq⟩ := hrel
                    subst hwq
                    obtain ⟨k0, k1, k2, k3⟩ := told_cells HZ.out.2.2.2.1
                    have hks : (k : Int) ≤ 1048576 := by omega
                    go_wp2_with fail
                    clear k0 k1 k2 k3
                    refine (grown_any wr (wo.heap.size + 3) 0 0 0 0 U _ none none (cb []) (cs []) HZ.out.2.2.2.2.1 HZ.out.2.2.2.2.2.1 (by omega) (by omega) HZ.out.2.2.2.2.2.2.1).mono ?_
                    rintro e w9 ⟨⟨v9, rfl⟩, hb9⟩
                    have H9 : Hd (St w9 g1 g2 g3 g4 g5 g6 A1 A2 A3 A4 A5 A6 c1 c2 c3 c4 c5 c6 na nb a b p1 p2 p3 f1 f2 f3 ∧ Own4 w9 w9.heap.size w.heap.size g1 g6 gl gm na nb cl cm (.slice AO na cO) (.slice AU nb cU) la lb ∧ Below w.heap.size w w9) := by
                      have hgg := HGEO.out
                      have hb := (hb9.mono (Nat.le_add_right wo.heap.size 3))
                      have hz := HZ.out.2.2.2.2.2.2.1
                      have hz9 := hb9.size
                      have hww := RR.out.2.2.size
                      exact ⟨⟨HZ.out.1.below hb HG.out (by omega), (HZ.out.2.1.below hb (Nat.le_refl _)).more (by omega), HZ.out.2.2.1.trans (hb.mono hww)⟩⟩
                    clear hb9
                    go_wp2_with fail
                    go_roundw
                    case rel => exact ⟨k + 1, p1, p2, p3, f1, f2, f3, by omega, by go_num, H9.out⟩
                    case measure => simp [intOf]; omega
              · rw [hq]
                rintro e z ⟨rfl, rfl⟩
                clear hq
                go_wp2_with fail
                have hI1 := HI.out
                have hfb := RR.out.1.b3
                obtain ⟨⟨⟨U, lB, lT⟩, pn, fn⟩, hans⟩ : ∃ r, askF ([] : List Nat) p3 f3 N E kk = r := ⟨_, rfl⟩
                have hfl := ask_fl (bs := ([] : List Nat)) (at_ := p3) (fl := f3) (by simp) (by have := RR.out.1.r5.len; have := RR.out.1.r5.le; omega) N E kk hkk hfb
                rw [hans] at hfl
                have HGL := HG.out.lt
                have HOG := RR.out.2.1.g
                have hb1 := HW1.out.2.2.2.1
                have hsz1 := HW1.out.2.2.2.2
                have hglw := HS.out.2.2.2.2.2.2.2.2
                have HF2 := Hd.mk hfl
                have HAN := Hd.mk hans
                have HRI : Hd (Rr W1 g5 A5 0 c5 p3 f3 ([] : List Nat)) := ⟨(RR.out.1.r5).below hb1 (by omega)⟩
                have HGEO : Hd ((g1 < g2 ∧ g2 < g3 ∧ g3 < g4 ∧ g4 < g5 ∧ g5 < g6) ∧ (gl < g1 ∧ gm < g1 ∧ g1 < g6 ∧ g6 < wr.heap.size) ∧ W1.heap.size = wr.heap.size + 3 ∧ w.heap.size ≤ gl) := ⟨HGL, HOG, hsz1, hglw.1⟩
                clear hfl hans HGL HOG hb1 hsz1 hglw
                refine (want_all W1 g5 0 c5 p3 f3 A5 ([] : List Nat) who kind N E kk hI1.1 hI1.2.1 hI1.2.2 HKD.out hkk hfb.1 hfb.2 HRI.out).mono ?_
                intro e w2 hT
                rw [HAN.out] at hT
                obtain ⟨AB1, cB1, AT1, cT1, rfl, hch1, hr1, hB1, hT1⟩ := tells_open hT
                clear hT
                have HB2 : Hd (w2.heap[wr.heap.size]? = some (.cells #[.int .i64 who, .int .i64 kind, .int .i64 N, .int .i64 E] 70 (0, 0)) ∧ w2.heap[wr.heap.size + 1]? = some (.cells #[.int .u64 0, .slice none 0 0, .slice none 0 0] 72 (0, 0)) ∧ w2.heap[wr.heap.size + 2]? = some (.cells #[.int .u64 0, .slice none 0 0, .slice none 0 0] 72 (0, 0))) := by
                  have hgg := HGEO.out
                  exact ⟨⟨(hch1.block _ (by omega) (by simp; omega)).trans HW1.out.1, (hch1.block _ (by omega) (by simp; omega)).trans HW1.out.2.1, (hch1.block _ (by omega) (by simp; omega)).trans HW1.out.2.2.1⟩⟩
                have H2 : Hd (Chg [g5] wr w2 ∧ Rr w2 g5 A5 0 c5 pn fn ([] : List Nat) ∧ w2.ownsRow W1.heap.size 5 1 (.slice AB1 lB.length cB1) lB.length (cb lB) ∧ w2.ownsRow W1.heap.size 9 1 (.slice AT1 lT.length cT1) lT.length (cs (lT.map tx1)) ∧ Own4 w2 wr.heap.size w.heap.size g1 g6 gl gm na nb cl cm (.slice AO na cO) (.slice AU nb cU) la lb ∧ Below w.heap.size w w2 ∧ W1.heap.size ≤ w2.heap.size) := by
                  have hgg := HGEO.out
                  have hb1 := HW1.out.2.2.2.1
                  exact ⟨⟨((Chg.of_below (L := []) hb1).mono (by simp)).trans hch1, hr1, hB1, hT1, ((RR.out.2.1.below hb1 (Nat.le_refl _)).chg hch1 (by omega) (by omega)), (RR.out.2.2.trans (hb1.mono RR.out.2.2.size)).trans (hch1.below (by have := RR.out.2.2.size; omega) (by simp; omega)), hch1.size⟩⟩
                clear s0 s1 s2 s3 hch1 hr1 hB1 hT1 HRI
                obtain ⟨s0, s1, s2, s3⟩ := step_cells HB2.out.1
                obtain ⟨k0, k1, k2, k3⟩ := told_cells HB2.out.2.2
                obtain ⟨LB, hLB⟩ : ∃ LB, lB.length = LB := ⟨_, rfl⟩
                obtain ⟨LT, hLT⟩ : ∃ LT, lT.length = LT := ⟨_, rfl⟩
                rw [hLB, hLT] at H2 ⊢
                have HLL : Hd (lB.length = LB ∧ lT.length = LT) := ⟨hLB, hLT⟩
                clear hLB hLT
                go_wp2_with fail
                obtain ⟨w3, hw3, hS3, hch3⟩ := told_set HB2.out.2.2 (.int .u64 U) (.slice AB1 LB cB1) (.slice AT1 LT cT1)
                rw [hw3]
                have HB3 : Hd (w3.heap[wr.heap.size]? = some (.cells #[.int .i64 who, .int .i64 kind, .int .i64 N, .int .i64 E] 70 (0, 0)) ∧ w3.heap[wr.heap.size + 1]? = some (.cells #[.int .u64 0, .slice none 0 0, .slice none 0 0] 72 (0, 0)) ∧ w3.heap[wr.heap.size + 2]? = some (.cells #[.int .u64 U, .slice AB1 LB cB1, .slice AT1 LT cT1] 72 (0, 0))) :=
                  ⟨(hch3.block _ (lt_of_block HB2.out.1) (by simp)).trans HB2.out.1, (hch3.block _ (lt_of_block HB2.out.2.1) (by simp)).trans HB2.out.2.1, hS3⟩
                have H3 : Hd (Chg [g5] wr w3 ∧ Rr w3 g5 A5 0 c5 pn fn ([] : List Nat) ∧ w3.ownsRow W1.heap.size 5 1 (.slice AB1 LB cB1) LB (cb lB) ∧ w3.ownsRow W1.heap.size 9 1 (.slice AT1 LT cT1) LT (cs (lT.map tx1)) ∧ Own4 w3 wr.heap.size w.heap.size g1 g6 gl gm na nb cl cm (.slice AO na cO) (.slice AU nb cU) la lb ∧ Below w.heap.size w w3 ∧ W1.heap.size ≤ w3.heap.size ∧ Rr w3 g6 A6 0 c6 p3 f3 ([] : List Nat)) := by
                  have hgg := HGEO.out
                  have hz2 := H2.out.2.2.2.2.2.2
                  have hc := H2.out.1.onward hch3 (by simp)
                  have hbl := hch3.below (B := wr.heap.size) (by omega) (by simp)
                  exact ⟨⟨hc, H2.out.2.1.keep' hch3 (by simp; omega), hch3.own H2.out.2.2.1 (fun j hj => by have := (H2.out.2.2.1.lt j hj).1; simp; omega), hch3.own H2.out.2.2.2.1 (fun j hj => by have := (H2.out.2.2.2.1.lt j hj).1; simp; omega), H2.out.2.2.2.2.1.below hbl (Nat.le_refl _), H2.out.2.2.2.2.2.1.trans (hbl.mono (by omega)), Nat.le_trans hz2 hch3.size, (RR.out.1.r6).far hc (by omega) (fun _ _ _ h => absurd h (by omega))⟩⟩
                clear s0 s1 s2 s3 k0 k1 k2 k3 hw3 hS3 hch3
                refine (ask_all w3 g6 0 c6 p3 f3 A6 ([] : List Nat) who kind N E kk hI1.1 hI1.2.1 hI1.2.2 HKD.out hkk hfb.1 hfb.2 H3.out.2.2.2.2.2.2.2).mono ?_
                intro e w4 hT
                rw [HAN.out] at hT
                obtain ⟨AB2, cB2, AT2, cT2, rfl, hch2, hr2, hB2, hT2⟩ := tells_open hT
                clear hT
                rw [HLL.out.1] at hB2 ⊢
                rw [HLL.out.2] at hT2 ⊢
                have HB4 : Hd (w4.heap[wr.heap.size + 1]? = some (.cells #[.int .u64 0, .slice none 0 0, .slice none 0 0] 72 (0, 0)) ∧ w4.heap[wr.heap.size + 2]? = some (.cells #[.int .u64 U, .slice AB1 LB cB1, .slice AT1 LT cT1] 72 (0, 0))) := by
                  have hgg := HGEO.out
                  exact ⟨⟨(hch2.block _ (lt_of_block HB3.out.2.1) (by simp; omega)).trans HB3.out.2.1, (hch2.block _ (lt_of_block HB3.out.2.2) (by simp; omega)).trans HB3.out.2.2⟩⟩
                have H4 : Hd (St w4 g1 g2 g3 g4 g5 g6 A1 A2 A3 A4 A5 A6 c1 c2 c3 c4 c5 c6 na nb a b p1 p2 pn f1 f2 fn ∧ Own4 w4 wr.heap.size w.heap.size g1 g6 gl gm na nb cl cm (.slice AO na cO) (.slice AU nb cU) la lb ∧ Below w.heap.size w w4 ∧ w4.ownsRow W1.heap.size 5 1 (.slice AB1 LB cB1) LB (cb lB) ∧ w4.ownsRow W1.heap.size 9 1 (.slice AT1 LT cT1) LT (cs (lT.map tx1)) ∧
                    w4.ownsRow W1.heap.size 5 1 (.slice AB2 LB cB2) LB (cb lB) ∧ w4.ownsRow W1.heap.size 9 1 (.slice AT2 LT cT2) LT (cs (lT.map tx1)) ∧ W1.heap.size ≤ w4.heap.size) := by
                  have hgg := HGEO.out
                  exact ⟨⟨RR.out.1.three HG.out H3.out.1 H3.out.2.1 hch2 hr2 HF2.out, H3.out.2.2.2.2.1.chg hch2 (by omega) (by omega), H3.out.2.2.2.2.2.1.trans (hch2.below (by have := H3.out.2.2.2.2.2.1.size; omega) (by simp; omega)), hch2.own H3.out.2.2.1 (fun j hj => by have := (H3.out.2.2.1.lt j hj).1; simp; omega), hch2.own H3.out.2.2.2.1 (fun j hj => by have := (H3.out.2.2.2.1.lt j hj).1; simp; omega),
                    own_base hB2 H3.out.2.2.2.2.2.2.1, own_base hT2 H3.out.2.2.2.2.2.2.1, Nat.le_trans H3.out.2.2.2.2.2.2.1 hch2.size⟩⟩
                clear hch2 hr2 hB2 hT2
                obtain ⟨k0, k1, k2, k3⟩ := told_cells HB4.out.1
                obtain ⟨m0, m1, m2, m3⟩ := told_cells HB4.out.2
                go_wp2_with fail
                obtain ⟨w5, hw5, hI5, hch5⟩ := told_set HB4.out.1 (.int .u64 U) (.slice AB2 LB cB2) (.slice AT2 LT cT2)
                rw [hw5]
                have H5 : Hd (St w5 g1 g2 g3 g4 g5 g6 A1 A2 A3 A4 A5 A6 c1 c2 c3 c4 c5 c6 na nb a b p1 p2 pn f1 f2 fn ∧ Own4 w5 wr.heap.size w.heap.size g1 g6 gl gm na nb cl cm (.slice AO na cO) (.slice AU nb cU) la lb ∧ Below w.heap.size w w5 ∧ Rd w5 w5.heap.size AB1 LB (cb lB) ∧ Rd w5 w5.heap.size AT1 LT (cs (lT.map tx1)) ∧
                    w5.ownsRow W1.heap.size 5 1 (.slice AB2 LB cB2) LB (cb lB) ∧ w5.ownsRow W1.heap.size 9 1 (.slice AT2 LT cT2) LT (cs (lT.map tx1)) ∧ W1.heap.size ≤ w5.heap.size ∧ w5.heap[wr.heap.size + 1]? = some (.cells #[.int .u64 U, .slice AB2 LB cB2, .slice AT2 LT cT2] 72 (0, 0)) ∧ LT ≤ 4398046511104 ∧ LB ≤ 4398046511104) := by
                  have hgg := HGEO.out
                  have hz := H4.out.2.2.2.2.2.2.2
                  have hbl := hch5.below (B := wr.heap.size) (by omega) (by simp)
                  have hsmall := ask_small ([] : List Nat) p3 f3 N E kk (by simp) (by have := RR.out.1.r5.len; have := RR.out.1.r5.le; omega)
                  rw [HAN.out] at hsmall
                  simp only at hsmall
                  rw [HLL.out.1, HLL.out.2] at hsmall
                  have hbn : ([] : List Nat).length ≤ 1048576 := by simp
                  exact ⟨⟨H4.out.1.below hbl HG.out (by omega), H4.out.2.1.below hbl (Nat.le_refl _), H4.out.2.2.1.trans (hbl.mono (by have := H4.out.2.2.1.size; omega)), Rd.of_own (hch5.own H4.out.2.2.2.1 (fun j hj => by have := (H4.out.2.2.2.1.lt j hj).1; simp; omega)), Rd.of_own (hch5.own H4.out.2.2.2.2.1 (fun j hj => by have := (H4.out.2.2.2.2.1.lt j hj).1; simp; omega)),
                    hch5.own H4.out.2.2.2.2.2.1 (fun j hj => by have := (H4.out.2.2.2.2.2.1.lt j hj).1; simp; omega), hch5.own H4.out.2.2.2.2.2.2.1 (fun j hj => by have := (H4.out.2.2.2.2.2.2.1.lt j hj).1; simp; omega), Nat.le_trans hz hch5.size, hI5, by omega, by omega⟩⟩
                clear k0 k1 k2 k3 m0 m1 m2 m3 hw5 hI5 hch5
                refine (equal_any w5 w5.heap.size U AB2 AT2 AB1 AT1 LB cB2 cB1 LT cT2 cT1 lB (lT.map tx1) (Rd.of_own H5.out.2.2.2.2.2.1) H5.out.2.2.2.1 (Rd.of_own H5.out.2.2.2.2.2.2.1) H5.out.2.2.2.2.1 (Nat.le_refl _) H5.out.2.2.2.2.2.2.2.2.2.1).mono ?_
                rintro e w6 ⟨rfl, hb6⟩
                have HZ : Hd (St w6 g1 g2 g3 g4 g5 g6 A1 A2 A3 A4 A5 A6 c1 c2 c3 c4 c5 c6 na nb a b p1 p2 pn f1 f2 fn ∧ Own4 w6 wr.heap.size w.heap.size g1 g6 gl gm na nb cl cm (.slice AO na cO) (.slice AU nb cU) la lb ∧ Below w.heap.size w w6 ∧ w6.heap[wr.heap.size + 1]? = some (.cells #[.int .u64 U, .slice AB2 LB cB2, .slice AT2 LT cT2] 72 (0, 0)) ∧
                    w6.ownsRow (wr.heap.size + 3) 5 1 (.slice AB2 LB cB2) LB (cb lB) ∧ w6.ownsRow (wr.heap.size + 3) 9 1 (.slice AT2 LT cT2) LT (cs (lT.map tx1)) ∧ wr.heap.size + 3 ≤ w6.heap.size ∧ LB ≤ 4398046511104 ∧ LT ≤ 4398046511104) := by
                  have hgg := HGEO.out
                  have hz := H5.out.2.2.2.2.2.2.2.1
                  have h1 := own_below' H5.out.2.2.2.2.2.1 hb6
                  have h2 := own_below' H5.out.2.2.2.2.2.2.1 hb6
                  rw [hgg.2.2.1] at h1 h2 hz
                  exact ⟨⟨H5.out.1.below hb6 HG.out (by omega), H5.out.2.1.below hb6 (by omega), H5.out.2.2.1.trans (hb6.mono H5.out.2.2.1.size), (hb6.block _ (by omega)).trans H5.out.2.2.2.2.2.2.2.2.1, h1, h2, by have := hb6.size; omega, H5.out.2.2.2.2.2.2.2.2.2.2, H5.out.2.2.2.2.2.2.2.2.2.1⟩⟩
                clear hb6 H5 H4 H3 H2 HB2 HB3 HB4
                obtain ⟨wo, hwo⟩ : ∃ wo : World, wo = wr := ⟨_, rfl⟩
                subst hwo
                have hnB := HZ.out.2.2.2.2.2.2.2.1
                have hnT := HZ.out.2.2.2.2.2.2.2.2
                obtain ⟨k0, k1, k2, k3⟩ := told_cells HZ.out.2.2.2.1
                go_wp2_with fail
                clear k0 k1 k2 k3
                go_loopw [23] (fun i wq => ∃ (q : Nat) (xs : List Value), q ≤ LB ∧ i = .int .i64 q ∧ wq.heap[(wo.heap.size + 1)]? = some (.cells #[.int .u64 U, .slice AB2 LB cB2, .slice AT2 LT cT2] 72 (0, 0)) ∧ wq.ownsRow (wo.heap.size + 3) 5 1 (.slice AB2 LB cB2) LB xs ∧ wq.ownsRow (wo.heap.size + 3) 9 1 (.slice AT2 LT cT2) LT (cs (lT.map tx1)) ∧ Below wo.heap.size w6 wq ∧ wo.heap.size + 3 ≤ wq.heap.size) (fun i _ => LB - (intOf i).toNat)
                case atStart => exact ⟨0, _, by omega, rfl, HZ.out.2.2.2.1, HZ.out.2.2.2.2.1, HZ.out.2.2.2.2.2.1, Below.refl _ _, HZ.out.2.2.2.2.2.2.1⟩
                case round =>
                  obtain ⟨q, xs, hq, rfl, hI, oB, oT, hbq, hsz⟩ := hrel
                  have Q : Hd (wr.heap[(wo.heap.size + 1)]? = some (.cells #[.int .u64 U, .slice AB2 LB cB2, .slice AT2 LT cT2] 72 (0, 0)) ∧ wr.ownsRow (wo.heap.size + 3) 5 1 (.slice AB2 LB cB2) LB xs ∧ wr.ownsRow (wo.heap.size + 3) 9 1 (.slice AT2 LT cT2) LT (cs (lT.map tx1)) ∧ Below wo.heap.size w6 wr ∧ wo.heap.size + 3 ≤ wr.heap.size) := ⟨hI, oB, oT, hbq, hsz⟩
                  clear hI oB oT hbq hsz
                  by_cases hlq : q < LB
                  · obtain ⟨gb, cap, hv, hg1, hg2⟩ := own_pos Q.out.2.1 (by omega)
                    cases hv
                    obtain ⟨u, hu⟩ : ∃ u, xs[q]? = some u := ⟨_, List.getElem?_eq_getElem (by have := Q.out.2.1.1; omega)⟩
                    have hcc := Q.out.2.1.cellAt q (by omega)
                    rw [hu] at hcc
                    have hzq := Q.out.2.1.frozenAt q
                    obtain ⟨k0, k1, k2, k3⟩ := told_cells Q.out.1
                    have HST := Hd.mk (fun v => told_row (q := q) Q.out.1 Q.out.2.1 Q.out.2.2.1 (by decide) (by omega) Q.out.2.2.2.1 (Nat.le_add_right _ _) Q.out.2.2.2.2 v)
                    have hqi : (q : Int) < (LB : Int) := by omega
                    clear hu hg1 hg2
                    go_wp2_with fail
                    go_roundw
                    case rel => exact ⟨q + 1, _, by omega, by go_num, HST.out _⟩
                    case measure => simp [intOf]; omega
                  · have hqn : LB ≤ q := by omega
                    obtain ⟨wp, hwp⟩ : ∃ wp : World, wp = wr := ⟨_, rfl⟩
                    subst hwp
                    obtain ⟨k0, k1, k2, k3⟩ := told_cells Q.out.1
                    have hqe : LB = q := by omega
                    have hqi : ¬ ((q : Int) < (LB : Int)) := by omega
                    clear hqe
                    go_wp2_with fail
                    clear k0 k1 k2 k3
                    go_loopw [24] (fun i wq => ∃ (r : Nat) (ys : List Value), r ≤ LT ∧ i = .int .i64 r ∧ wq.heap[(wo.heap.size + 1)]? = some (.cells #[.int .u64 U, .slice AB2 LB cB2, .slice AT2 LT cT2] 72 (0, 0)) ∧ wq.ownsRow (wo.heap.size + 3) 5 1 (.slice AB2 LB cB2) LB xs ∧ wq.ownsRow (wo.heap.size + 3) 9 1 (.slice AT2 LT cT2) LT ys ∧ Below wo.heap.size w6 wq ∧ wo.heap.size + 3 ≤ wq.heap.size) (fun i _ => LT - (intOf i).toNat)
                    case atStart => exact ⟨0, _, by omega, rfl, Q.out⟩
                    case round =>
                      obtain ⟨r, ys, hr, rfl, hI, oB, oT, hbq, hsz⟩ := hrel
                      have Y : Hd (wr.heap[(wo.heap.size + 1)]? = some (.cells #[.int .u64 U, .slice AB2 LB cB2, .slice AT2 LT cT2] 72 (0, 0)) ∧ wr.ownsRow (wo.heap.size + 3) 5 1 (.slice AB2 LB cB2) LB xs ∧ wr.ownsRow (wo.heap.size + 3) 9 1 (.slice AT2 LT cT2) LT ys ∧ Below wo.heap.size w6 wr ∧ wo.heap.size + 3 ≤ wr.heap.size) := ⟨hI, oB, oT, hbq, hsz⟩
                      clear hI oB oT hbq hsz
                      by_cases hlr : r < LT
                      · obtain ⟨gb, cap, hv, hg1, hg2⟩ := own_pos Y.out.2.2.1 (by omega)
                        cases hv
                        obtain ⟨u, hu⟩ : ∃ u, ys[r]? = some u := ⟨_, List.getElem?_eq_getElem (by have := Y.out.2.2.1.1; omega)⟩
                        have hcc := Y.out.2.2.1.cellAt r (by omega)
                        rw [hu] at hcc
                        have hzq := Y.out.2.2.1.frozenAt r
                        obtain ⟨k0, k1, k2, k3⟩ := told_cells Y.out.1
                        have HST := Hd.mk (fun v => told_row (q := r) Y.out.1 Y.out.2.2.1 Y.out.2.1 (by decide) (by omega) Y.out.2.2.2.1 (Nat.le_add_right _ _) Y.out.2.2.2.2 v)
                        have hri : (r : Int) < (LT : Int) := by omega
                        clear hu hg1 hg2
                        go_wp2_with fail
                        go_roundw
                        case rel =>
                          have h := HST.out (.string ⟨#[109, 105, 110, 101]⟩)
                          exact ⟨r + 1, _, by omega, by go_num, h.1, h.2.2.1, h.2.1, h.2.2.2⟩
                        case measure => simp [intOf]; omega
                      · obtain ⟨k0, k1, k2, k3⟩ := told_cells Y.out.1
                        have hri : ¬ ((r : Int) < (LT : Int)) := by omega
                        have hks : (k : Int) ≤ 1048576 := by omega
                        go_wp2_with fail
                        clear k0 k1 k2 k3
                        refine (grown_any wr (wo.heap.size + 3) LB LT cB2 cT2 U _ AB2 AT2 xs ys Y.out.2.1 Y.out.2.2.1 hnB hnT Y.out.2.2.2.2).mono ?_
                        rintro e w9 ⟨⟨v9, rfl⟩, hb9⟩
                        have H9 : Hd (St w9 g1 g2 g3 g4 g5 g6 A1 A2 A3 A4 A5 A6 c1 c2 c3 c4 c5 c6 na nb a b p1 p2 pn f1 f2 fn ∧ Own4 w9 w9.heap.size w.heap.size g1 g6 gl gm na nb cl cm (.slice AO na cO) (.slice AU nb cU) la lb ∧ Below w.heap.size w w9) := by
                          have hgg := HGEO.out
                          have hb := Y.out.2.2.2.1.trans (hb9.mono (Nat.le_add_right _ 3))
                          have hz := Y.out.2.2.2.2
                          have hz9 := hb9.size
                          have hww := RR.out.2.2.size
                          exact ⟨⟨HZ.out.1.below hb HG.out (by omega), (HZ.out.2.1.below hb (Nat.le_refl _)).more (by omega), HZ.out.2.2.1.trans (hb.mono hww)⟩⟩
                        clear hb9
                        go_wp2_with fail
                        go_roundw
                        case rel => exact ⟨k + 1, p1, p2, pn, f1, f2, fn, by omega, by go_num, H9.out⟩
                        case measure => simp [intOf]; omega
            · have hkn : sn = k := by omega
              have hu1 := RR.out.2.1
              go_wp2_with fail
              refine (unmarked_any wr w.heap.size gl na cl wr.heap.size AO cO la hu1.l (Rd.of_own hu1.o) (by have := H0.out.1.2.2; omega) HC.out.1).mono ?_
              rintro e z ⟨rfl, rfl⟩
              go_wp2_with fail
              refine (unmarked_any wr w.heap.size gm nb cm wr.heap.size AU cU lb hu1.m (Rd.of_own hu1.u) (by have := H0.out.2.1.2.2; omega) HC.out.2).mono ?_
              rintro e z ⟨rfl, rfl⟩
              go_wp2_with fail
              go_ret
              exact ⟨by simp, RR.out.2.2⟩

end Go.Proofs.Ytjkenhkoakaaoaa
