/- Contract of the law's lists: two lists of groups in memory of their own. -/
import Derived.Test.YtplpaipmkpjgfaaOwnG
import Derived.Test.YtplpaipmkpjgfaaSnap
import Derived.Test.YtplpaipmkpjgfaaApartP
namespace Go.Proofs.Ytplpaipmkpjgfaa
open Go.RowKit
set_option linter.unusedVariables false
set_option linter.unusedSimpArgs false
theorem flat_sz (f : Wr → Value) : ∀ (L : List Wr) (r : Nat), r < L.length → (L.flatMap (encG f))[r * 4 + 2]? = some (.int .i64 (L.getD r (0, 0, 0)).2.2)
  | [], r, h => by simp at h
  | x :: l, 0, _ => rfl
  | x :: l, r + 1, h => by
    rw [List.flatMap_cons, List.getElem?_append_right (by show 4 ≤ _; omega)]
    have ih := flat_sz f l r (by simpa using h)
    rw [show (r + 1) * 4 + 2 - (encG f x).length = r * 4 + 2 by show (r + 1) * 4 + 2 - 4 = _; omega, ih]
    rfl
/-- The sizes of a list of groups, from i on. -/
def Sz (w : World) (g : Nat) (L : List Wr) (i : Nat) : Prop := (∃ cur, w.heap[g]? = some (.cells cur 62 (0, 0))) ∧ ∀ r, i ≤ r → r < L.length → w.cell? ⟨g, r * 4 + 2, none⟩ = some (.int .i64 (L.getD r (0, 0, 0)).2.2)
theorem Sz.block {w w' : World} {g i : Nat} {L : List Wr} (h : Sz w g L i) (hb : w'.heap[g]? = w.heap[g]?) : Sz w' g L i := ⟨by rw [hb]; exact h.1, fun r h1 h2 => (World.cell?_of_block (a := ⟨g, _, none⟩) hb).trans (h.2 r h1 h2)⟩
theorem ownN_pos {w : World} {base e size n : Nat} {v : Value} {xs : List Value} (h : w.ownsRow base e size v n xs) (hn : 0 < n) : ∃ g cap cur, v = .slice (some ⟨g, 0, none⟩) n cap ∧ base ≤ g ∧ w.heap[g]? = some (.cells cur e (0, 0)) ∧ ∀ (j : Nat) u, xs[j]? = some u → w.cell? ⟨g, j, none⟩ = some u := by
  have h0 := h
  rcases h.2 with ⟨hv, h0⟩ | ⟨g, cap, cur, hv, hb, hg, hnc, hm, hcs, htake⟩
  · omega
  · subst hv
    refine ⟨g, cap, cur, rfl, hb, hg, fun j u hu => ?_⟩
    have := World.ownsRow.cells h0 (g := g) rfl j u hu
    rwa [show (⟨g, 0, none⟩ : Addr).add j = ⟨g, j, none⟩ by unfold Addr.add; split <;> simp_all] at this
theorem Sz.own {w : World} {base g m : Nat} {f : Wr → Value} {L : List Wr} {v : Value} {ys : List Value} (h : w.ownsRow base 62 4 v m (L.flatMap (encG f) ++ ys)) (hv : v.ownBlock = some g) (hm : 0 < m) : Sz w g L 0 := by
  obtain ⟨g', cap, cur, e, _, hg, hc⟩ := ownN_pos h hm
  subst e
  injection hv with hv
  subst hv
  exact ⟨⟨cur, hg⟩, fun r _ hr => hc _ _ (by
    have h1 := flat_sz f L r hr
    rw [List.getElem?_append_left (List.getElem?_eq_some_iff.1 h1).1]
    exact h1)⟩
theorem Chg.of_grown {L : List Nat} {w w' : World} {row : Option Nat} (h : w.grownBy w' row) (hr : ∀ k, row = some k → k ∈ L) : Chg L w w' :=
  ⟨h.os, h.tape, h.output, h.size, fun k hk hn => h.block k hk fun e => hn (hr k e.symm)⟩
set_option maxRecDepth 20000 in
set_option maxHeartbeats 8000000 in
theorem lists_any (w : World) (b1 b2 n c1 c2 : Nat) (A1 A2 : Option Addr) (S : Nat → Sn) (f1 f2 : Wr → Value) (L : List Wr) (h1 : GL b1 w S n f1 (.slice A1 L.length c1) L) (h2 : GL b2 w S n f2 (.slice A2 L.length c2) L) (hap : Apart (.slice A1 L.length c1) (.slice A2 L.length c2))
    (hb1 : b1 ≤ w.heap.size) (hb2 : b2 ≤ w.heap.size) (hL : L.length ≤ n) (hn : n * 120 ≤ 140737488351232) :
    Calls Try.prog 31 #[.slice A1 L.length c1, .slice A2 L.length c2] w fun e w' => e = .returned (.bool true) ∧ Chg (blk [.slice A1 L.length c1, .slice A2 L.length c2]) w w' := by
  have HH := Hd.mk (And.intro h1.out (And.intro h2.out hap))
  clear h1 h2 hap
  have h63 : Hd (L.length + 1 ≤ maxLen) := ⟨by unfold maxLen; omega⟩
  have hby : Hd ((L.length + 1) * 48 ≤ 140737488355328) := ⟨by omega⟩
  go_enter Try.func31, Try.ntmps31
  go_wp2_with (at_builtin; first
    | (refine pushSN_at0 elG rfl (.tmp 14) (.tmp 16) rfl b1 (.slice A1 L.length c1) L.length (L.flatMap (encG f1)) [.int .i64 0, .int .i64 0, .int .i64 1, .slice none 0 0] rfl w.heap.size rfl rfl rfl (cells4_one _ _ _ _ _ _) HH.out.1 h63.out hby.out hb1 ?_; intro vo w1 hO1
       have HO1 := Hd.mk hO1
       have HP1 : Hd (w1.ownsRow b2 62 4 (.slice A2 L.length c2) L.length (L.flatMap (encG f2)) ∧ b2 ≤ w1.heap.size) := ⟨(HH.out.2.1.alloc _).kept hO1.2.1 (apart_off HH.out.2.2), by have := hO1.2.1.size; simp at this; omega⟩
       obtain ⟨go, co, curo, hvo, _, _, _⟩ := ownN_pos hO1.1 (by omega)
       subst hvo
       clear hO1)
    | (refine pushSN_at0 elG rfl (.tmp 18) (.tmp 20) rfl b2 (.slice A2 L.length c2) L.length (L.flatMap (encG f2)) [.int .i64 0, .int .i64 0, .int .i64 2, .slice none 0 0] rfl w1.heap.size rfl rfl rfl (cells4_one _ _ _ _ _ _) HP1.out.1 h63.out hby.out HP1.out.2 ?_; intro vt w2 hO2
       have HO2 := Hd.mk hO2
       obtain ⟨gt, ct, curt, hvt, _, _, hct⟩ := ownN_pos hO2.1 (by omega)
       subst hvt
       have d2 : w2.cell? ⟨gt, L.length * 4 + 2, none⟩ = some (.int .i64 2) := hct _ _ (by rw [List.getElem?_append_right (by rw [encG_len]; omega), encG_len, show L.length * 4 + 2 - L.length * 4 = 2 by omega]; rfl)
       have hao : Apart (.slice (some ⟨go, 0, none⟩) (L.length + 1) co) (.slice A2 L.length c2) := fun k hk hk2 => by
         rcases HO1.out.2.2 with e | ⟨e, _⟩
         · rw [e] at hk; exact HH.out.2.2 k hk hk2
         · rw [e] at hk; have hk : w.heap.size + 1 = k := (by simpa using hk); have := (HH.out.2.1.lt k hk2).2; omega
       have ho2 := (HO1.out.1.alloc (.cells #[.int .i64 0, .int .i64 0, .int .i64 2, .slice none 0 0] 62)).kept hO2.2.1 (by
         cases hv : Value.ownBlock (.slice (some ⟨go, 0, none⟩) (L.length + 1) co) with
         | none => exact .inl rfl
         | some z => exact .inr (fun e => hao z hv e.symm))
       obtain ⟨go', co', curo', hvo, _, _, hco⟩ := ownN_pos ho2 (by omega)
       have hgo : go' = go := by injection hvo with h; injection h with h; injection h with h; exact h.symm
       subst hgo
       have d1 : w2.cell? ⟨go', L.length * 4 + 2, none⟩ = some (.int .i64 1) := hco _ _ (by rw [List.getElem?_append_right (by rw [encG_len]; omega), encG_len, show L.length * 4 + 2 - L.length * 4 = 2 by omega]; rfl)
       clear hO2 hct hco hvo hao ho2))
  have m1 : ∀ k, (Value.slice A1 L.length c1).ownBlock = some k → k ∈ (blk [.slice A1 L.length c1, .slice A2 L.length c2]) := fun k hk => blk_mem (i := 0) rfl hk
  have m2 : ∀ k, (Value.slice A2 L.length c2).ownBlock = some k → k ∈ (blk [.slice A1 L.length c1, .slice A2 L.length c2]) := fun k hk => blk_mem (i := 1) rfl hk
  have HB : Hd (Chg (blk [.slice A1 L.length c1, .slice A2 L.length c2]) w w2) := ⟨by
    have e1 : Chg (blk [.slice A1 L.length c1, .slice A2 L.length c2]) w w1 := ((Chg.refl _ _).alloc _).trans (Chg.of_grown HO1.out.2.1 m1)
    have e2 : Chg (blk [.slice A1 L.length c1, .slice A2 L.length c2]) w1 w2 := ((Chg.refl _ _).alloc _).trans (Chg.of_grown HO2.out.2.1 m2)
    exact e1.trans e2⟩
  have HM := Hd.mk (And.intro m1 m2)
  clear m1 m2
  have H0 : Hd (0 < L.length → ∃ g1 g2, A1 = some ⟨g1, 0, none⟩ ∧ A2 = some ⟨g2, 0, none⟩ ∧ g1 ≠ g2 ∧ g1 ∈ (blk [.slice A1 L.length c1, .slice A2 L.length c2]) ∧ Sz w2 g1 L 0 ∧ Sz w2 g2 L 0) := ⟨fun hp => by
    obtain ⟨g1, q1, u1, e1, hg1, hh1, hc1⟩ := ownN_pos HH.out.1 hp
    obtain ⟨g2, q2, u2, e2, hg2, hh2, hc2⟩ := ownN_pos HH.out.2.1 hp
    injection e1 with e1
    injection e2 with e2
    subst e1 e2
    have hne : g1 ≠ g2 := fun e => HH.out.2.2 g1 rfl (by rw [e]; rfl)
    have hl1 : g1 < w.heap.size := (Array.getElem?_eq_some_iff.1 hh1).1
    have hl2 : g2 < w.heap.size := (Array.getElem?_eq_some_iff.1 hh2).1
    refine ⟨g1, g2, rfl, rfl, hne, HM.out.1 g1 rfl, ?_, ?_⟩
    · have s1 : Sz w1 g1 L 0 := by
        rcases HO1.out.2.2 with e | ⟨e, hall⟩
        · exact Sz.own HO1.out.1 e (by omega)
        · have s0 : Sz w g1 L 0 := Sz.own (ys := []) (by rw [List.append_nil]; exact HH.out.1) rfl hp
          exact s0.block (by rw [hall g1 (by simp; omega), Go.Deep.blk_alloc_lt _ _ _ hl1])
      have hl : g1 < w1.heap.size := (Array.getElem?_eq_some_iff.1 s1.1.choose_spec).1
      refine s1.block ?_
      rw [HO2.out.2.1.block g1 (by simp; omega) (fun e => hne (by injection e)), Go.Deep.blk_alloc_lt _ _ _ hl]
    · have hl : g2 < w1.heap.size := (HP1.out.1.lt g2 rfl).2
      rcases HO2.out.2.2 with e | ⟨e, hall⟩
      · exact Sz.own HO2.out.1 e (by omega)
      · have s0 : Sz w1 g2 L 0 := Sz.own (ys := []) (by rw [List.append_nil]; exact HP1.out.1) rfl hp
        exact s0.block (by rw [hall g2 (by simp; omega), Go.Deep.blk_alloc_lt _ _ _ hl])⟩
  clear d1 d2 HO1 HO2 HP1 h63 hby HM
  go_loopw [7, 8] (fun iv av wr => ∃ j : Nat, j ≤ L.length ∧ iv = .int .i64 (j : Int) ∧ Chg (blk [.slice A1 L.length c1, .slice A2 L.length c2]) w wr ∧ (0 < L.length → ∃ g1 g2, A1 = some ⟨g1, 0, none⟩ ∧ A2 = some ⟨g2, 0, none⟩ ∧ g1 ≠ g2 ∧ g1 ∈ (blk [.slice A1 L.length c1, .slice A2 L.length c2]) ∧ Sz wr g1 L j ∧ Sz wr g2 L 0)) (fun iv _ _ => L.length - (intOf iv).toNat)
  case atStart => exact ⟨0, by omega, rfl, HB.out, H0.out⟩
  case round =>
    clear HB H0
    obtain ⟨j, hj, rfl, hb, h0⟩ := hrel
    by_cases hlt : j < L.length
    · have hji : (j : Int) < (L.length : Int) := by omega
      obtain ⟨g1, g2, rfl, rfl, hne, hBg, s1, s2⟩ := h0 (by omega)
      have z1 := s1.2 j (Nat.le_refl _) hlt
      have z2 := s2.2 j (by omega) hlt
      obtain ⟨cur, hcur⟩ := s1.1
      have f1 : wr.frozen? ⟨g1, j * 4 + 2, none⟩ = false := by simp [World.frozen?, hcur]
      obtain ⟨sz, hsz⟩ : ∃ z, (L.getD j (0, 0, 0)).2.2 = z := ⟨_, rfl⟩
      rw [hsz] at z1 z2
      have z3 : ∀ u, (wr.setCell ⟨g1, j * 4 + 2, none⟩ u).cell? ⟨g2, j * 4 + 2, none⟩ = some (.int .i64 sz) := fun u => (World.cell?_setCell_other _ _ _ _ (fun e => hne (by have := congrArg Addr.block e; simpa using this))).trans z2
      have HK := Hd.mk (And.intro hb (And.intro hne (And.intro hBg (And.intro s1 (And.intro s2 hcur)))))
      have HS : Hd (∀ u, Chg (blk [.slice (some ⟨g1, 0, none⟩) L.length c1, .slice (some ⟨g2, 0, none⟩) L.length c2]) w (wr.setCell ⟨g1, j * 4 + 2, none⟩ u) ∧ Sz (wr.setCell ⟨g1, j * 4 + 2, none⟩ u) g1 L (j + 1) ∧ Sz (wr.setCell ⟨g1, j * 4 + 2, none⟩ u) g2 L 0) := ⟨fun u => ⟨hb.setCell (show g1 ∈ (blk [.slice (some ⟨g1, 0, none⟩) L.length c1, .slice (some ⟨g2, 0, none⟩) L.length c2]) from hBg) u, ⟨⟨_, cell_put hcur⟩, fun r h1 h2 => (World.cell?_setCell_other _ _ _ _ (fun e => by have := congrArg Addr.off e; simp at this; omega)).trans (s1.2 r (by omega) h2)⟩, s2.block (by simp [World.setCell, Array.getElem?_modify]; exact fun e => absurd e hne)⟩⟩
      clear hb h0 s1 s2 hcur hsz hne
      go_wp2_with fail
      go_roundw
      case rel => exact ⟨j + 1, by omega, by go_num, (HS.out _).1, fun _ => ⟨g1, g2, rfl, rfl, HK.out.2.1, HK.out.2.2.1, (HS.out _).2⟩⟩
      case measure => simp [intOf]; omega
    · have hjn : j = L.length := by omega
      subst hjn
      clear h0
      have HBB := Hd.mk hb
      clear hb
      go_wp2_with fail
      go_ret
      exact ⟨rfl, HBB.out⟩
end Go.Proofs.Ytplpaipmkpjgfaa
