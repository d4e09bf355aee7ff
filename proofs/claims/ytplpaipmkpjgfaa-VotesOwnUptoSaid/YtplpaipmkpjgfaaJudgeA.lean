/- Contracts of the program's fits and hidden. -/
import Derived.Test.YtplpaipmkpjgfaaJudgeP
namespace Go.Proofs.Ytplpaipmkpjgfaa
open Go.RowKit
set_option linter.unusedVariables false
set_option linter.unusedSimpArgs false
/-- A value laid into a box that has just been made: the world behind it, by name. -/
theorem wpList_boxed {P : Program} {ops : Array Oper} {rest : List Oper} {o : Oper} {a : Act} {wr : World} {z : Array Value} {t : TypeId} {Q : Exit → Act → World → Prop} (hgd : o.guard = none) (ty : TypeId) (x y : Operand) (ho : o.op = .store ty x y)
    (N : Nat) (hN : wr.heap.size = N) (cells : Array Value) (hx : a.eval x = .pointer (some ⟨N, 0, none⟩)) (hy : a.eval y = .agg cells) (hi : (P.info? ty).map (·.size) = some cells.size) (hold : z.size = cells.size) (h1 : cells.all (·.oneCell') = true)
    (h : ∀ w2, Hd (w2.heap[N]? = some (.cells cells t (0, 0)) ∧ Below N wr w2 ∧ w2.heap.size = N + 1) → wpList P ops Q rest (a.put o.dst undef) w2) :
    wpList P ops Q (o :: rest) a (wr.alloc (.cells z t)) := by
  subst hN
  refine wpList_store_row hgd ty x y ho wr.heap.size cells hx hy t z (heap_alloc_new _ _) hi hold h1 (h _ ⟨setRow_heap _ _ _ _ _ _ (heap_alloc_new _ _), below_setRow ((Below.refl _ _).alloc (Nat.le_refl _) _) (Nat.le_refl _) _, by simp⟩)
/-- A value laid into a box: the world behind it, by name. -/
theorem wpList_stored {P : Program} {ops : Array Oper} {rest : List Oper} {o : Oper} {a : Act} {w : World} {Q : Exit → Act → World → Prop} (hgd : o.guard = none) (ty : TypeId) (x y : Operand) (ho : o.op = .store ty x y)
    (g : Nat) (cells : Array Value) (hx : a.eval x = .pointer (some ⟨g, 0, none⟩)) (hy : a.eval y = .agg cells) (t : TypeId) (old : Array Value) (hg : w.heap[g]? = some (.cells old t (0, 0))) (hi : (P.info? ty).map (·.size) = some cells.size)
    (hold : old.size = cells.size) (h1 : cells.all (·.oneCell') = true)
    (h : ∀ w2, Hd (w2.heap[g]? = some (.cells cells t (0, 0)) ∧ w.grownBy w2 (some g) ∧ w2.heap.size = w.heap.size) → wpList P ops Q rest (a.put o.dst undef) w2) :
    wpList P ops Q (o :: rest) a w :=
  wpList_store_row hgd ty x y ho g cells hx hy t old hg hi hold h1 (h _ ⟨setRow_heap _ _ _ _ _ _ hg, ⟨rfl, rfl, rfl, by simp [World.setRow], fun k _ hk => setRow_other w g k cells (fun e => hk (by rw [e]))⟩, by simp [World.setRow]⟩)
theorem results_cell1 {P : Program} {fn : Func} {p : Tmp} {ty : TypeId} (h : fn.results = #[.cell p ty]) (tmps : Array Value) (w : World) (g : Nat) (t : TypeId) (cs : Array Value) (fr : Nat × Nat) (d : TypeDesc)
    (hp : tmps.getD p undef = .pointer (some ⟨g, 0, none⟩)) (hg : w.heap[g]? = some (.cells cs t fr))
    (hu : P.underlying ty = some d) (hd : (match d with | .struct _ | .array _ _ => true | _ => false) = true) (hi : (P.info? ty).map (·.size) = some cs.size) :
    (results fn tmps).run P w = .ok (.agg cs) w := by
  have hp' : tmps[p]?.getD undef = .pointer (some ⟨g, 0, none⟩) := by simpa using hp
  simp [results, h, hp', asAddr, run_loadVar_row w g t ty cs fr d hg hu hd hi]
theorem infoV2 : (Try.prog.info? 27).map (·.size) = some 5 := by kernel_rfl
theorem infoSh : (Try.prog.info? 34).map (·.size) = some 3 := by kernel_rfl
set_option maxRecDepth 20000 in
set_option maxHeartbeats 4000000 in
theorem fits_any (w : World) (k m b n : Int) :
    Calls Try.prog 35 #[.agg #[.int .i64 k, .int .i64 m, .int .i64 b], .int .i64 n] w fun e w' => e = .returned (.bool (fitsB k m b n)) ∧ Below w.heap.size w w' := by
  have HF : Hd (∀ r, r = fitsB k m b n → Ending.returned (Value.bool r) = .returned (.bool (fitsB k m b n))) := ⟨fun r h => by rw [h]⟩
  have HB : Hd (Below w.heap.size w (w.alloc (.cells #[.int .i64 k, .int .i64 m, .int .i64 b] 34))) := ⟨(Below.refl _ _).alloc (Nat.le_refl _) _⟩
  have HD : Hd (∀ r : Bool, (r = true ↔ (1 ≤ m ∧ m ≤ k ∧ k ≤ 255 ∧ k + m ≤ 255 ∧ 1 ≤ b ∧ b ≤ 65536 ∧ n = k + m)) → r = fitsB k m b n) := ⟨fun r h => by
    have : fitsB k m b n = true ↔ (1 ≤ m ∧ m ≤ k ∧ k ≤ 255 ∧ k + m ≤ 255 ∧ 1 ≤ b ∧ b ≤ 65536 ∧ n = k + m) := by
      unfold fitsB fitsR; simp [and_assoc]
    exact Bool.eq_iff_iff.2 (h.trans this.symm)⟩
  go_enter Try.func35, Try.ntmps35
  by_cases h1 : 1 ≤ m
  · by_cases h2 : m ≤ k
    · by_cases h3 : k ≤ 255
      · by_cases h4 : 1 ≤ b
        · by_cases h5 : b ≤ 65536
          · by_cases h6 : k + m ≤ 255
            · by_cases h7 : n = k + m
              · subst h7
                go_wp2
                go_ret
                exact ⟨HF.out _ (HD.out _ (by simp; omega)), HB.out⟩
              · have hq : (n == k + m) = false := by simpa using h7
                go_wp2
                go_ret
                exact ⟨HF.out _ (HD.out _ (by simp; omega)), HB.out⟩
            · go_wp2
              go_ret
              exact ⟨HF.out _ (HD.out _ (by simp; omega)), HB.out⟩
          · go_wp2
            go_ret
            exact ⟨HF.out _ (HD.out _ (by simp; omega)), HB.out⟩
        · go_wp2
          go_ret
          exact ⟨HF.out _ (HD.out _ (by simp; omega)), HB.out⟩
      · go_wp2
        go_ret
        exact ⟨HF.out _ (HD.out _ (by simp; omega)), HB.out⟩
    · go_wp2
      go_ret
      exact ⟨HF.out _ (HD.out _ (by simp; omega)), HB.out⟩
  · go_wp2
    go_ret
    exact ⟨HF.out _ (HD.out _ (by simp; omega)), HB.out⟩
end Go.Proofs.Ytplpaipmkpjgfaa
