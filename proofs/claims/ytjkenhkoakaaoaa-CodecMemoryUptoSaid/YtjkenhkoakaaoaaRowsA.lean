/- Contract of the law's rows: copies of rows, each in memory of its own. -/
import Derived.Test.YtjkenhkoakaaoaaOfOwn
import Derived.Test.YtjkenhkoakaaoaaMemS0
import Derived.Test.YtjkenhkoakaaoaaApartG
namespace Go.Proofs.Ytjkenhkoakaaoaa
open Go.RowKit
set_option linter.unusedVariables false
/-- A list of rows, each in memory of its own, the list itself too. -/
structure OwV (base : Nat) (w : World) (v : Value) (l : List Slc) (ps : List (List Nat)) : Prop where
  out : w.ownsRow base 45 1 v l.length (l.map slv)
  bag : Bag w base (l.map slr) v.ownBlock.toList
  ps : l.map (fun x => x.2.2.2) = ps
  lt : ∀ x ∈ l, ∀ y ∈ x.2.2.2, y < 256
section
variable {base : Nat} {w w' : World} {v : Value} {l : List Slc} {ps : List (List Nat)}
theorem OwV.nil (base : Nat) (w : World) : OwV base w (.slice none 0 0) [] [] := ⟨World.ownsRow_nil _ _ _ _, Bag.start _ _ _ (fun k h => by cases h), rfl, fun x h => absurd h List.not_mem_nil⟩
theorem OwV.below (h : OwV base w v l ps) (b : Below w.heap.size w w') : OwV base w' v l ps := ⟨own_stay h.out (fun k _ hk => b.block k hk), h.bag.keep b, h.ps, h.lt⟩
theorem OwV.push (h : OwV base w v l ps) (hb : base ≤ w.heap.size) {w1 : World} {x : Slc} (b : Below w.heap.size w w1) (ox : w1.ownsRow w.heap.size 5 1 (slv x) x.2.1 (cb x.2.2.2)) (hx : x.2.2.2.length = x.2.1) (hl : ∀ y ∈ x.2.2.2, y < 256) {v' : Value} (O : Onto w1 w' base 45 v v' (l.length + 1) (l.map slv ++ [slv x])) : OwV base w' v' (l ++ [x]) (ps ++ [x.2.2.2]) := by
  have B1 := h.bag.push hb (by rw [cb_length]; exact hx) b ox
  have c : Chg v.ownBlock.toList w1 w' := ⟨O.2.1.os, O.2.1.tape, O.2.1.output, O.2.1.size, fun k hk hm => O.2.1.block k hk fun e => hm (by rw [Option.mem_toList]; exact e.symm)⟩
  have hX : ∀ k ∈ v'.ownBlock.toList, k < w'.heap.size ∧ (k ∈ v.ownBlock.toList ∨ w1.heap.size ≤ k) := fun k hk => by
    rw [Option.mem_toList] at hk
    exact ⟨(O.own.lt k hk).2, (O.2.2 k hk).imp (fun e => by rw [Option.mem_toList]; exact e) id⟩
  refine ⟨?_, ?_, by rw [List.map_append, h.ps]; rfl, fun y hy => ?_⟩
  · rw [List.length_append, List.map_append]; exact O.own
  · rw [List.map_append]; exact Bag.turn0 B1 c (fun _ h => h) hX
  · rcases List.mem_append.1 hy with h1 | h1
    · exact h.lt y h1
    · rw [List.mem_singleton.1 h1]; exact hl
end
set_option maxRecDepth 20000 in
set_option maxHeartbeats 4000000 in
theorem rows_any (w : World) (A : Option Addr) (n c : Nat) (ps : List (List Nat)) (hr : Rws w A n ps) (hn : n ≤ 100) (hl : ∀ p ∈ ps, p.length ≤ 140737488355000) :
    Calls Try.prog 44 #[.slice A n c] w fun e w' => ∃ v l, e = .returned v ∧ OwV w.heap.size w' v l ps ∧ Below w.heap.size w w' := by
  have HR : Hd (Rws w A n ps ∧ ∀ p ∈ ps, p.length ≤ 140737488355000) := ⟨hr, hl⟩
  clear hr hl
  go_enter Try.func44, Try.ntmps44
  go_wp2_with fail
  go_loopw [3, 4] (fun u3 u4 wr => ∃ (i : Nat) (l : List Slc), u4 = .int .i64 (i : Int) ∧ i ≤ n ∧ l.length = i ∧ OwV w.heap.size wr u3 l (ps.take i) ∧ Below w.heap.size w wr) (fun _ u4 _ => n - (intOf u4).toNat)
  case atStart => exact ⟨0, [], rfl, Nat.zero_le _, rfl, OwV.nil _ _, Below.refl _ _⟩
  case round =>
    obtain ⟨i, l, rfl, hi, hll, hO, hbe⟩ := hrel
    have H1 := Hd.mk (And.intro hO (And.intro hbe hll))
    clear hO hbe hll
    by_cases hlt : i < n
    · have hii : (i : Int) < (n : Int) := by omega
      obtain ⟨gv, ov, Ai, ci, hA, hgv, hcv, hrd, hbb⟩ := HR.out.1.2 i (by have := HR.out.1.1; omega)
      obtain ⟨p, hp⟩ : ∃ p, ps.getD i [] = p := ⟨_, rfl⟩
      rw [hp] at hcv hrd hbb
      have hps : ps[i]? = some p := by
        rw [← hp, List.getD_eq_getElem?_getD, List.getElem?_eq_getElem (by have := HR.out.1.1; omega)]; rfl
      subst hA
      have hpl := HR.out.2 p (List.mem_of_getElem? hps)
      have hcv2 : wr.cell? ⟨gv, ov + i, none⟩ = some (.slice Ai p.length ci) := (H1.out.2.1.cell (p := ⟨gv, ov + i, none⟩) hgv).trans hcv
      have HP : Hd (Rd wr wr.heap.size Ai p.length (cb p) ∧ (∀ y ∈ p, y < 256) ∧ ps[i]? = some p) := ⟨(hrd.below H1.out.2.1).more H1.out.2.1.size, hbb, hps⟩
      obtain ⟨A3, c3, hv3, _⟩ := own_form H1.out.1.out
      rw [H1.out.2.2] at hv3
      subst hv3
      have h63 : Hd (0 + p.length ≤ maxLen ∧ i + 1 ≤ maxLen) := ⟨by unfold maxLen; omega, by unfold maxLen; omega⟩
      have hby : Hd ((0 + p.length) * 1 ≤ 140737488355328 ∧ (i + 1) * 24 ≤ 140737488355328) := ⟨by omega, by omega⟩
      clear hcv hrd hbb hps hp
      go_wp2_with (first | (at_builtin; refine wpList_app elB rfl (.const (.slice none 0 0)) (.tmp 15) rfl wr.heap.size (.slice none 0 0) 0 [] rfl (World.ownsRow_nil ..) wr.heap.size Ai p.length ci (cb p) rfl HP.out.1 (cb_one _) h63.out.1 hby.out.1 (Nat.le_refl _) ?_; intro v1 w1 hO1; obtain ⟨A1, c1, hv1, _⟩ := own_form hO1.own; subst hv1; have H2 : Hd (w1.ownsRow wr.heap.size 5 1 (.slice A1 (0 + p.length) c1) (0 + p.length) ([] ++ cb p) ∧ Below wr.heap.size wr w1) := ⟨hO1.own, hO1.below (fun k hk => by cases hk) (Nat.le_refl _)⟩; clear hO1; have ho3 : Hd (w1.ownsRow w.heap.size 45 1 (.slice A3 i c3) i (l.map slv) ∧ w.heap.size ≤ w1.heap.size) := ⟨by have := own_stay (w' := w1) H1.out.1.out (fun k _ hk => H2.out.2.block k hk); rw [H1.out.2.2] at this; exact this, Nat.le_trans H1.out.2.1.size H2.out.2.size⟩) | (refine at_buildSlice ?_; refine wpList_push elBBG rfl rfl (.tmp 11) (.tmp 16) 17 rfl rfl rfl w.heap.size (.slice A3 i c3) i (l.map slv) (.slice A1 (0 + p.length) c1) rfl rfl rfl rfl ho3.out.1 h63.out.2 hby.out.2 ho3.out.2 ?_; intro v2 w2 hO2; have H3 := Hd.mk hO2; clear hO2))
      go_roundw
      case rel =>
        refine ⟨i + 1, l ++ [(A1, 0 + p.length, c1, p)], by go_num, by omega, by rw [List.length_append, H1.out.2.2]; rfl, ?_, ?_⟩
        · have := H1.out.1.push H1.out.2.1.size (x := (A1, 0 + p.length, c1, p)) H2.out.2 H2.out.1 (by show p.length = 0 + p.length; omega) HP.out.2.1 (by rw [H1.out.2.2]; exact H3.out)
          rw [show ps.take (i + 1) = ps.take i ++ [p] from List.take_succ_of_get HP.out.2.2]
          exact this
        · exact (H1.out.2.1.trans (H2.out.2.mono H1.out.2.1.size)).trans (H3.out.below (fun k hk => (ho3.out.1.lt k hk).1) ho3.out.2)
      case measure => simp [intOf]; omega
    · have hin : i = n := by omega
      subst hin
      go_wp2_with fail
      go_ret
      exact ⟨_, l, rfl, by have := H1.out.1; rwa [List.take_of_length_le (by have := HR.out.1.1; omega)] at this, H1.out.2.1⟩
end Go.Proofs.Ytjkenhkoakaaoaa
