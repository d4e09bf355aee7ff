/- The map from writings to slices, as a function into values: look-up, entry and store. -/
import Derived.Test.YtplpaipmkpjgfaaGrpS
import Derived.Maps.GroupsBeside
import Derived.WideKeyEntry
import Derived.DeepKeys5
namespace Go.Proofs.Ytplpaipmkpjgfaa
open Go.RowKit Go.WideElems Go.ChangeMaps
set_option linter.unusedVariables false
def keyV (x : Wr) : Value := .agg #[.int .i64 x.1, .int .i64 x.2.1, .int .i64 x.2.2]
theorem keyV_inj {x y : Wr} (h : keyV x = keyV y) : x = y := by
  obtain ⟨a, b, c⟩ := x
  obtain ⟨d, e, f⟩ := y
  simp [keyV] at h
  simp [h]
def WrOk (x : Wr) : Prop := J64 x.1 ∧ J64 x.2.1 ∧ J64 x.2.2
theorem wf64_mk {z : Int} (h : J64 z) : (Lit.int .i64 z).wf = true := by
  unfold J64 at h
  simp [Lit.wf, IntKind.min, IntKind.max, IntKind.signed, IntKind.bits]; exact h
theorem lawW : WideMaps.KeyLaw Try.prog 73 := deep_law_gate (by kernel_rfl) (of_decide_eq_true (by kernel_rfl)) (of_decide_eq_true (by kernel_rfl)) (by kernel_rfl) (by kernel_rfl)
theorem keyW_lits (d : Nat) (a b c : Int) (ha : J64 a) (hb : J64 b) (hc : J64 c) : Try.prog.keyLits (d + 3) 73 [.int .i64 a, .int .i64 b, .int .i64 c] = some [.int .i64 a, .int .i64 b, .int .i64 c] := by
  have wa := wf64_mk ha
  have wb := wf64_mk hb
  have wc := wf64_mk hc
  have c73 : Try.prog.cellsOf 73 = 3 := by kernel_rfl
  simp [Program.keyLits, Try.underlying73, Try.underlying24, Try.underlying3, c73, cells_gen, cells_int, wa, wb, wc]
  rw [if_pos (fun i hi => by
    rcases i with _ | _ | i
    · show ¬ "Epoch" = "_"; decide
    · show ¬ "Count" = "_"; decide
    · omega)]
  rfl
theorem keyW_of (x : Wr) (h : WrOk x) : ∃ kl, keyOf Try.prog 73 (keyV x) = some kl := by
  have h1 : Try.prog.keyType 73 = true := by kernel_rfl
  have c73 : Try.prog.cellsOf 73 = 3 := by kernel_rfl
  refine ⟨.string (keyBytes [.int .i64 x.1, .int .i64 x.2.1, .int .i64 x.2.2]), ?_⟩
  have hl := keyW_lits (Try.prog.types.size - 2) x.1 x.2.1 x.2.2 h.1 h.2.1 h.2.2
  have hd : Try.prog.types.size - 2 + 3 = Try.prog.types.size + 1 := of_decide_eq_true (by kernel_rfl)
  rw [hd] at hl
  simp only [keyOf, Try.underlying73, h1, keyV, Value.formed, Value.cells, c73, hl]
  rfl

/-- How a value is told. -/
def hold (v : Value) : Option (DataW Value × List MemPlace) := some (.held v, [])
/-- Block b is a map of at most n entries that answers as f says. -/
def MapIs (w : World) (b n : Nat) (f : Wr → Value) : Prop :=
  ∃ es clock, w.heap[b]? = some (.map es clock) ∧ Fit Try.prog 73 hold es clock ∧ es.size ≤ n ∧
    ∀ x kl, keyOf Try.prog 73 (keyV x) = some kl → (DataW.map ((es.toList.map (rg Try.prog 73 hold)).foldr DataW.insert [])).atKey kl (.held (.slice none 0 0)) = .held (f x)
theorem MapIs.made (w : World) : MapIs (w.alloc (.map #[] 0)) w.heap.size 0 fun _ => .slice none 0 0 :=
  ⟨#[], 0, (MapKept.heap_alloc w _).1, ⟨by simp, MapKept.stamped_empty 0, by simp⟩, Nat.le_refl _, fun x kl h => rfl⟩
theorem MapIs.keep {w w' : World} {b n : Nat} {f : Wr → Value} (h : MapIs w b n f) (hb : w'.heap[b]? = w.heap[b]?) : MapIs w' b n f := by
  obtain ⟨es, clock, h1, h2⟩ := h
  exact ⟨es, clock, hb.trans h1, h2⟩
theorem MapIs.lt {w : World} {b n : Nat} {f : Wr → Value} (h : MapIs w b n f) : b < w.heap.size := by
  obtain ⟨es, clock, h1, h2⟩ := h
  exact (Array.getElem?_eq_some_iff.1 h1).1
theorem zeroL (w : World) : (zeroValue 25).run Try.prog w = .ok (.slice none 0 0) w := by
  have h : (Try.prog.info? 25).map (·.zero) = some (some (.slice none 0 0)) := by kernel_rfl
  obtain ⟨i, hi, hz⟩ := Option.map_eq_some_iff.1 h
  simp [zeroValue, typeInfo, hi, hz]
theorem MapIs.look {w : World} {b n : Nat} {f : Wr → Value} (h : MapIs w b n f) (x : Wr) (hx : WrOk x) : (Instr.lookup 82 (.map (some b)) (keyV x) false).run Try.prog w = .ok (f x) w := by
  obtain ⟨es, clock, hb, F, hn, hf⟩ := h
  obtain ⟨kl, hkl⟩ := keyW_of x hx
  have e := hf x kl hkl
  rcases Maps.fit_look false (Maps.Keyed.of_law lawW) Try.underlying82 (zeroL w) hb F hkl with ⟨hrun, _, hat⟩ | ⟨e0, y, _, _, hrun, hR, hat, _⟩
  · have e := (hat _).symm.trans e
    exact (DataW.held.inj e) ▸ hrun
  · have e := (hat _).symm.trans e
    have hR := Option.some.inj hR
    subst hR
    exact (DataW.held.inj e) ▸ hrun
/-- 'm[x] = append(m[x], ..)': the entry is opened, and stored into. -/
theorem MapIs.entry {w : World} {b n : Nat} {f : Wr → Value} (h : MapIs w b n f) (hn : n < maxLen) (x : Wr) (hx : WrOk x) :
    ∃ st w1, (Instr.mapEntry 82 (.map (some b)) (keyV x)).run Try.prog w = .ok (.tuple #[f x, goInt st]) w1 ∧ w.grownBy w1 (some b) ∧ w1.heap.size = w.heap.size ∧
      ∀ (w2 : World) (v : Value), w2.heap[b]? = w1.heap[b]? → ∃ w3, (Instr.entryStore 82 (.map (some b)) (goInt st) v).run Try.prog w2 = .ok () w3 ∧ w2.grownBy w3 (some b) ∧ w3.heap.size = w2.heap.size ∧ MapIs w3 b (n + 1) fun y => if y = x then v else f y := by
  obtain ⟨es, clock, hb, F, hsz, hf⟩ := h
  obtain ⟨kl, hkl⟩ := keyW_of x hx
  have e := hf x kl hkl
  obtain ⟨v0, st, es1, clock1, hE, hcase, hS⟩ := entry_then_store (w := w) lawW Try.underlying82 zeroL hb F hkl
  have hv0 : v0 = f x := by
    rcases hcase with ⟨e0, hm0, hk0, rfl⟩ | ⟨hno, rfl⟩
    · rw [atKey_some lawW F hkl hm0 hk0 (rfl : hold e0.val = some _)] at e
      injection e
    · rw [atKey_none lawW F hkl hno] at e
      injection e
  subst hv0
  have hg : ∀ (u : World) (o o' : Obj), u.heap[b]? = some o → u.grownBy (setBlock u b o') (some b) ∧ (setBlock u b o').heap.size = u.heap.size := fun u o o' hu =>
    ⟨⟨rfl, rfl, rfl, by simp [setBlock], fun i _ hi => by
      simp only [setBlock, Array.getElem?_setIfInBounds]
      rw [if_neg (fun e1 => hi (by rw [e1]))]⟩, by simp [setBlock]⟩
  refine ⟨st, _, hE, (hg _ _ _ hb).1, (hg _ _ _ hb).2, fun w2 v h2 => ?_⟩
  have h2' : w2.heap[b]? = some (.map es1 clock1) := h2.trans (heap_setBlock_same hb _)
  obtain ⟨es', clock', hrun, hup⟩ := hS w2 v h2'
  obtain ⟨es2, clock2, hup2, F2, hput, _, _, hwho⟩ := Maps.fit_store (R' := hold) (val := v) (Maps.Keyed.of_law lawW) Try.underlying82 hb F (Nat.lt_of_le_of_lt hsz hn) (fun _ _ _ _ h => h) hkl rfl
  have heq : es' = es2 ∧ clock' = clock2 := by
    rw [hup] at hup2
    have : setBlock w b (.map es' clock') = setBlock w b (.map es2 clock2) := by simpa using hup2
    have h5 := congrArg (fun u : World => u.heap[b]?) this
    simp only [heap_setBlock_same hb] at h5
    simpa using h5
  obtain ⟨rfl, rfl⟩ := heq
  refine ⟨_, hrun, (hg _ _ _ h2').1, (hg _ _ _ h2').2, es', clock', heap_setBlock_same h2' _, F2, ?_, fun y ky hy => ?_⟩
  · have e1 : es'.size = ((es'.toList.map (rg Try.prog 73 hold)).foldr DataW.insert []).length := by rw [length_sorted]; simp
    rw [e1, hput]
    unfold putKey
    rw [length_insert]
    have e2 := List.length_filter_le (notKey kl) ((es.toList.map (rg Try.prog 73 hold)).foldr DataW.insert [])
    rw [length_sorted] at e2
    simp at e2
    omega
  · rw [hput, ← DataW.put_eq]
    show _ = DataW.held (if y = x then v else f y)
    by_cases hyx : y = x
    · subst hyx
      have hy := Option.some.inj (hkl.symm.trans hy)
      subst hy
      exact (Maps.atKey_put_same ⟨_, rfl⟩ ((Maps.Keyed.of_law lawW).key hkl) _ _).trans (congrArg DataW.held (if_pos rfl).symm)
    · rw [if_neg hyx, Maps.atKey_put_other (fun e1 : ky = kl => hyx (keyV_inj (lawW.inj hy (e1.symm ▸ hkl))))]
      exact hf y ky hy
end Go.Proofs.Ytplpaipmkpjgfaa
