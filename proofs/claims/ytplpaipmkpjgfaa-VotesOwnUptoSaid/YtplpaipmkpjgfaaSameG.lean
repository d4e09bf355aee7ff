/- Contract of sameGroups, of two lists that are the same. -/
import Derived.Test.YtplpaipmkpjgfaaJudgesWalk
namespace Go.Proofs.Ytplpaipmkpjgfaa
open Go.RowKit
set_option linter.unusedVariables false
set_option linter.unusedSimpArgs false
theorem keepG {w5 W W' : World} {g g2 i0 i1 i2 i3 j0 j1 j2 j3 : Nat} {a0 a1 a2 a3 b0 b1 b2 b3 : Value} (hg : g < w5.heap.size) (hg2 : g2 < w5.heap.size)
    (h : Below w5.heap.size w5 W ∧ W.cell? ⟨g, i0, none⟩ = some a0 ∧ W.cell? ⟨g, i1, none⟩ = some a1 ∧ W.cell? ⟨g, i2, none⟩ = some a2 ∧ W.cell? ⟨g, i3, none⟩ = some a3 ∧ W.cell? ⟨g2, j0, none⟩ = some b0 ∧ W.cell? ⟨g2, j1, none⟩ = some b1 ∧ W.cell? ⟨g2, j2, none⟩ = some b2 ∧ W.cell? ⟨g2, j3, none⟩ = some b3) (hb : Below W.heap.size W W') :
    Below w5.heap.size w5 W' ∧ W'.cell? ⟨g, i0, none⟩ = some a0 ∧ W'.cell? ⟨g, i1, none⟩ = some a1 ∧ W'.cell? ⟨g, i2, none⟩ = some a2 ∧ W'.cell? ⟨g, i3, none⟩ = some a3 ∧ W'.cell? ⟨g2, j0, none⟩ = some b0 ∧ W'.cell? ⟨g2, j1, none⟩ = some b1 ∧ W'.cell? ⟨g2, j2, none⟩ = some b2 ∧ W'.cell? ⟨g2, j3, none⟩ = some b3 := by
  obtain ⟨h0, h1, h2, h3, h4, h5, h6, h7, h8⟩ := h
  have k : ∀ {q i : Nat} {u : Value}, q < w5.heap.size → W.cell? ⟨q, i, none⟩ = some u → W'.cell? ⟨q, i, none⟩ = some u := fun {q i u} hq hc => (hb.cell (p := ⟨q, i, none⟩) (Nat.lt_of_lt_of_le hq h0.size)).trans hc
  exact ⟨h0.trans (hb.mono h0.size), k hg h1, k hg h2, k hg h3, k hg h4, k hg2 h5, k hg2 h6, k hg2 h7, k hg2 h8⟩
set_option maxRecDepth 20000 in
set_option maxHeartbeats 20000000 in
theorem samegroups_any (w : World) (B1 B2 n c1 c2 : Nat) (A1 A2 : Option Addr) (S : Nat → Sn) (f1 f2 : Wr → Value) (L : List Wr) (h1 : GL B1 w S n f1 (.slice A1 L.length c1) L) (h2 : GLT 77 B2 w S n f2 (.slice A2 L.length c2) L) (hL : L.length ≤ n) (hn : n * 120 ≤ 140737488351232) :
    Calls Try.prog 22 #[.slice A1 L.length c1, .slice A2 L.length c2] w fun e w' => e = .returned (.bool true) ∧ Below w.heap.size w w' := by
  have HH := Hd.mk (And.intro h1 h2)
  clear h1 h2
  go_enter Try.func22, Try.ntmps22
  go_wp2_with fail
  go_loopw [5] (fun i wr => ∃ j : Nat, j ≤ L.length ∧ i = .int .i64 (j : Int) ∧ Below w.heap.size w wr) (fun i _ => L.length - (intOf i).toNat)
  case atStart => exact ⟨0, by omega, rfl, Below.refl _ _⟩
  case round =>
    obtain ⟨j, hj, rfl, hb⟩ := hrel
    have HB := Hd.mk hb
    clear hb
    by_cases hlt : j < L.length
    · have hji : (j : Int) < (L.length : Int) := by omega
      obtain ⟨x, hx⟩ : ∃ x, L.getD j (0, 0, 0) = x := ⟨_, rfl⟩
      have HXM : Hd (x ∈ L) := ⟨hx ▸ getD_mem hlt⟩
      obtain ⟨g, c1', hv, _, hg, hr⟩ := (HH.out.1.keep HB.out).at_ hlt
      rw [hx] at hr
      injection hv with hv1 hv2 hv3
      subst hv1 hv3
      obtain ⟨g2, c2', hv, _, hg2, hr2⟩ := (HH.out.2.keep HB.out).at_ hlt
      rw [hx] at hr2
      injection hv with hv1 hv2 hv3
      subst hv1 hv3
      obtain ⟨D1, d1, hf1, _, _⟩ := own_form (HH.out.1.rows x HXM.out)
      obtain ⟨D2, d2, hf2, _, _⟩ := own_form (HH.out.2.rows x HXM.out)
      have hR1 := own_belowS (HH.out.1.rows x HXM.out) HB.out
      have hR2 := own_belowS (HH.out.2.rows x HXM.out) HB.out
      rw [hf1] at hR1
      rw [hf2] at hR2
      obtain ⟨ek, ck, sk⟩ := x
      have HF : Hd (encG f1 (ek, ck, sk) = [.int .i64 ek, .int .i64 ck, .int .i64 sk, .slice D1 (plc S (ek, ck, sk) n).length d1] ∧ encG f2 (ek, ck, sk) = [.int .i64 ek, .int .i64 ck, .int .i64 sk, .slice D2 (plc S (ek, ck, sk) n).length d2]) := ⟨by unfold encG; rw [hf1], by unfold encG; rw [hf2]⟩
      rw [HF.out.1] at hr
      rw [HF.out.2] at hr2
      have HR := Hd.mk (And.intro (Rd.of_own hR1) (Rd.of_own hR2))
      have hmn : (plc S (ek, ck, sk) n).length ≤ n := plc_le _ _ _
      obtain ⟨pl, hpl⟩ : ∃ pl, plc S (ek, ck, sk) n = pl := ⟨_, rfl⟩
      rw [hpl] at HR hr hr2 hmn
      obtain ⟨mm, hmm⟩ : ∃ mm, pl.length = mm := ⟨_, rfl⟩
      rw [hmm] at HR hr hr2 hmn
      have HC := Hd.mk (And.intro hr hr2)
      have HG := Hd.mk (And.intro hg hg2)
      clear hr hr2 hpl hmm hR1 hR2 hf1 hf2 HF hx HXM hg hg2
      have x0 : wr.cell? ⟨g, j * 4, none⟩ = some (.int .i64 ek) := HC.out.1 0 _ rfl
      have x1 : wr.cell? ⟨g, j * 4 + 1, none⟩ = some (.int .i64 ck) := HC.out.1 1 _ rfl
      have x2 : wr.cell? ⟨g, j * 4 + 2, none⟩ = some (.int .i64 sk) := HC.out.1 2 _ rfl
      have x3 : wr.cell? ⟨g, j * 4 + 3, none⟩ = some (.slice D1 mm d1) := HC.out.1 3 _ rfl
      have y0 : wr.cell? ⟨g2, j * 4, none⟩ = some (.int .i64 ek) := HC.out.2 0 _ rfl
      have y1 : wr.cell? ⟨g2, j * 4 + 1, none⟩ = some (.int .i64 ck) := HC.out.2 1 _ rfl
      have y2 : wr.cell? ⟨g2, j * 4 + 2, none⟩ = some (.int .i64 sk) := HC.out.2 2 _ rfl
      have y3 : wr.cell? ⟨g2, j * 4 + 3, none⟩ = some (.slice D2 mm d2) := HC.out.2 3 _ rfl
      have HX := Hd.mk (And.intro x0 (And.intro x1 (And.intro x2 (And.intro x3 (And.intro y0 (And.intro y1 (And.intro y2 y3)))))))
      have HS : Hd (∀ W, Below wr.heap.size wr W → Calls Try.prog 13 #[.slice D1 mm d1, .slice D2 mm d2] W fun e w' => e = .returned (.bool true) ∧ Below W.heap.size W w') := ⟨fun W hW => sameInts_any W wr.heap.size mm d1 d2 D1 D2 pl (HR.out.1.below hW) (HR.out.2.below hW) hW.size (by omega)⟩
      have hq1 : (ek != ek) = false := by simp
      have hq2 : (ck != ck) = false := by simp
      have hq3 : (sk != sk) = false := by simp
      clear x0 x1 x2 x3 y0 y1 y2 y3
      go_wp2_with fail
      go_region_held3 (fun W => Below wr.heap.size wr W ∧ W.cell? ⟨g, j * 4, none⟩ = some (.int .i64 ek) ∧ W.cell? ⟨g, j * 4 + 1, none⟩ = some (.int .i64 ck) ∧ W.cell? ⟨g, j * 4 + 2, none⟩ = some (.int .i64 sk) ∧ W.cell? ⟨g, j * 4 + 3, none⟩ = some (.slice D1 mm d1) ∧ W.cell? ⟨g2, j * 4, none⟩ = some (.int .i64 ek) ∧ W.cell? ⟨g2, j * 4 + 1, none⟩ = some (.int .i64 ck) ∧ W.cell? ⟨g2, j * 4 + 2, none⟩ = some (.int .i64 sk) ∧ W.cell? ⟨g2, j * 4 + 3, none⟩ = some (.slice D2 mm d2))
        (first | (exact keepG HG.out.1 HG.out.2 (by assumption) hb) | (exact ⟨(Below.refl _ _).drew, HX.out.1, HX.out.2.1, HX.out.2.2.1, HX.out.2.2.2.1, HX.out.2.2.2.2.1, HX.out.2.2.2.2.2.1, HX.out.2.2.2.2.2.2.1, HX.out.2.2.2.2.2.2.2⟩))
        (first | (go_at_call 13; refine (HS.out _ (by first | assumption | exact And.left (by assumption))).mono ?_; rintro e w' ⟨rfl, hb⟩))
      have H9 : Hd (Below wr.heap.size wr w') := ⟨And.left (by assumption)⟩
      go_wp2_with fail
      go_roundw
      case rel => exact ⟨j + 1, by omega, by go_num, HB.out.trans (H9.out.mono HB.out.size)⟩
      case measure => simp [intOf]; omega
    · have hjn : j = L.length := by omega
      subst hjn
      go_wp2_with fail
      go_ret
      exact ⟨rfl, HB.out⟩
end Go.Proofs.Ytplpaipmkpjgfaa
