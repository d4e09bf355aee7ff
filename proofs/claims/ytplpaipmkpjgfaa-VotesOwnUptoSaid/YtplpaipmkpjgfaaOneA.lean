/- A head is equal to itself; contract of the laws' one. -/
import Derived.Test.YtplpaipmkpjgfaaStaleA
import Derived.Deep.MidRow
namespace Go.Proofs.Ytplpaipmkpjgfaa
open Go.RowKit
set_option linter.unusedVariables false
set_option linter.unusedSimpArgs false
theorem eq_bytes_self {P : Program} (w : World) (d : Nat) (t e : TypeId) (n : Nat) (ht : P.underlying t = some (.array n e)) (he : P.underlying e = some (.int .u8)) (hsz : ∀ w, (sizeOf e).run P w = .ok 1 w)
    (xs : Array Value) (hx : ∀ i, i < n → ∃ z, xs[i]? = some (.int .u8 z)) : (Op.equalIn (d + 2) t (.agg xs) (.agg xs)).run P w = .ok true w := by
  rw [Op.equalIn]
  simp only [Sem.run_bind, run_underlying ht, Result.andThen_ok, hsz, Std.Legacy.Range.forIn_eq_forIn_range', Std.Legacy.Range.size, Nat.sub_zero, Nat.add_sub_cancel, Nat.div_one]
  have hl : ∀ i ∈ List.range' 0 n 1, i < n := fun i hi => by simpa using (List.mem_range'_1.1 hi).2
  generalize List.range' 0 n 1 = l at hl ⊢
  induction l with
  | nil => simp
  | cons i l ih =>
    obtain ⟨z, hz⟩ := hx i (hl i (by simp))
    have px : (part e xs (i * 1)).run P w = .ok (.int .u8 z) w := by
      simp [part, isAgg, run_underlying he, hz]
    have pe : (Op.equalIn (d + 1) e (.int .u8 z) (.int .u8 z)).run P w = .ok true w := by
      rw [run_equalIn_int w d e .u8 .u8 _ _ he]; simp
    simp only [List.forIn_cons, Sem.run_bind, px, pe, Result.andThen_ok]
    simp only [Bool.not_true, Bool.false_eq_true, if_false, Sem.run_pure, Result.andThen_ok]
    exact ih fun j hj => hl j (by simp [hj])
theorem infoH : (Try.prog.info? 52).map (·.size) = some 16 := by kernel_rfl
theorem size_u8 (w : World) : (sizeOf 5).run Try.prog w = .ok 1 w := by
  obtain ⟨i, hi, h⟩ := Option.map_eq_some_iff.1 (show (Try.prog.info? 5).map (·.size) = some 1 by kernel_rfl)
  simp [sizeOf, typeInfo, hi, h]
theorem eq_struct_self {P : Program} (w : World) (d : Nat) (t : TypeId) (fs : Array Field) (xs : Array Value) (ht : P.underlying t = some (.struct fs)) (hp : P.stoodInHeld t = false)
    (hf : ∀ f ∈ fs.toList, ∃ v, (part f.type xs f.offset).run P w = .ok v w ∧ (Op.equalIn d f.type v v).run P w = .ok true w) : (Op.equalIn (d + 1) t (.agg xs) (.agg xs)).run P w = .ok true w := by
  have hfs : P.fieldsOf t = fs := by unfold Program.fieldsOf; rw [ht]
  rw [run_equalIn_agg w d t xs xs (by rw [hfs]; exact ht) hp, hfs]
  generalize fs.toList = l at hf
  induction l with
  | nil => simp [Op.eqFields]
  | cons f l ih =>
    obtain ⟨v, h1, h2⟩ := hf f (by simp)
    have h3 := ih fun g hg => hf g (by simp [hg])
    unfold Op.eqFields
    simp only [Sem.run_ite, Sem.run_bind, h1, h2, Result.andThen_ok, Bool.not_true, Bool.false_eq_true, if_false, h3, ite_self]
theorem part_cell {w : World} (t : TypeId) (xs : Array Value) (o : Nat) (v : Value) (h : (isAgg t).run Try.prog w = .ok false w) (hx : xs[o]? = some v) : (part t xs o).run Try.prog w = .ok v w := by
  simp [part, Sem.run_bind, h, hx]
theorem part_agg {w : World} (t : TypeId) (xs : Array Value) (o n : Nat) (h : (isAgg t).run Try.prog w = .ok true w) (hs : (sizeOf t).run Try.prog w = .ok n w) : (part t xs o).run Try.prog w = .ok (.agg (xs.extract o (o + n))) w := by
  simp [part, Sem.run_bind, h, hs]
theorem eq_int_self (w : World) (d : Nat) (t : TypeId) (k : IntKind) (z : Int) (h : Try.prog.underlying t = some (.int k)) : (Op.equalIn (d + 1) t (.int k z) (.int k z)).run Try.prog w = .ok true w := by
  rw [run_equalIn_int w d t k k z z h]; simp
theorem head_eq (w : World) (h : Hdr) (d : Nat) : (Op.equalIn (d + 4) 52 (.agg h.cells.toArray) (.agg h.cells.toArray)).run Try.prog w = .ok true w := by
  refine eq_struct_self w (d + 3) _ _ _ Try.underlying52 (by kernel_rfl) fun f hf => ?_
  simp only [List.mem_cons, List.not_mem_nil, or_false] at hf
  rcases hf with rfl | rfl | rfl | rfl | rfl | rfl
  · exact ⟨_, part_agg _ _ _ 8 (Try.isAgg50 w) (Try.sizeOf50 w), eq_bytes_self w _ _ 5 8 Try.underlying50 Try.underlying5 size_u8 _ (fun i hi => by
      rcases (by omega : i = 0 ∨ i = 1 ∨ i = 2 ∨ i = 3 ∨ i = 4 ∨ i = 5 ∨ i = 6 ∨ i = 7) with rfl | rfl | rfl | rfl | rfl | rfl | rfl | rfl <;> exact ⟨_, rfl⟩)⟩
  · refine ⟨_, part_agg _ _ _ 3 (Try.isAgg34 w) (Try.sizeOf34 w), ?_⟩
    refine eq_struct_self w (d + 2) _ _ _ Try.underlying34 (by kernel_rfl) fun f hf => ?_
    simp only [List.mem_cons, List.not_mem_nil, or_false] at hf
    rcases hf with rfl | rfl | rfl <;> exact ⟨_, part_cell _ _ _ _ (Try.isAgg3 w) rfl, eq_int_self w _ _ .i64 _ Try.underlying3⟩
  · exact ⟨.string h.key, part_cell _ _ _ _ (Try.isAgg9 w) rfl, (run_equalIn_string w _ _ _ _ Try.underlying9).trans (by simp)⟩
  · exact ⟨_, part_cell _ _ _ _ (Try.isAgg3 w) rfl, eq_int_self w _ _ .i64 _ Try.underlying3⟩
  · exact ⟨_, part_cell _ _ _ _ (Try.isAgg3 w) rfl, eq_int_self w _ _ .i64 _ Try.underlying3⟩
  · refine ⟨_, part_agg _ _ _ 2 (Try.isAgg24 w) (Try.sizeOf24 w), ?_⟩
    refine eq_struct_self w (d + 2) _ _ _ Try.underlying24 (by kernel_rfl) fun f hf => ?_
    simp only [List.mem_cons, List.not_mem_nil, or_false] at hf
    rcases hf with rfl | rfl <;> exact ⟨_, part_cell _ _ _ _ (Try.isAgg3 w) rfl, eq_int_self w _ _ .i64 _ Try.underlying3⟩
theorem head_neq (h : Hdr) (w : World) : (binOp .neq 52 (.agg h.cells.toArray) (.agg h.cells.toArray)).run Try.prog w = .ok (.bool false) w := by
  rw [run_neq_struct, show (10000 : Nat) = 9996 + 4 from rfl, head_eq w h 9996]; rfl
theorem head_guard (op : BinOp) (x y : Operand) (h : Hdr) (w : World) : (eqGuard op 52 x y (.agg h.cells.toArray) (.agg h.cells.toArray)).run Try.prog w = .ok () w := run_eqGuard_agg w op _ x y _ _ (by kernel_rfl)
theorem infoStr : Try.prog.underlying 9 = some .string := by rw [Try.underlying9]
theorem conv_bytes {w : World} {B n c : Nat} {A : Option Addr} {bs : List Nat} (h : Rd w B A n (cb bs)) : (convert 71 9 (.slice A n c)).run Try.prog w = .ok (.string (bstr bs)) w := by
  rw [cb_ints] at h
  exact run_conv_str _ _ 5 Try.underlying71 Try.underlying5 infoStr c h
theorem infoS' : (Try.prog.info? 58).map (·.size) = some 19 := by kernel_rfl
/-- The boxes of the two places, and their blocks, in whatever world. -/
def Bx (w0 : World) (x y : Sn) (Bs : List (List Nat)) (W : World) : Prop :=
  Below w0.heap.size w0 W ∧ W.heap[w0.heap.size]? = some (.cells x.cells.toArray 58 (0, 0)) ∧ W.heap[w0.heap.size + 1]? = some (.cells y.cells.toArray 58 (0, 0)) ∧ Blk W w0.heap.size x.bl Bs ∧ Blk W w0.heap.size y.bl Bs
set_option maxRecDepth 20000 in
set_option maxHeartbeats 4000000 in
theorem one_any (w : World) (x y : Sn) (Bs : List (List Nat)) (hk : y.kind = x.kind) (he : y.err = x.err) (hh : y.hd = x.hd) (hx : Blk w w.heap.size x.bl Bs) (hy : Blk w w.heap.size y.bl Bs) (hB : Bs.length * 24 ≤ 140737488351232) :
    Calls Try.prog 33 #[.agg x.cells.toArray, .agg y.cells.toArray] w fun e w' => e = .returned (.bool true) ∧ Below w.heap.size w w' := by
  obtain ⟨ky, ey, hdy, by'⟩ := y
  dsimp only at hk he hh hy
  subst hk he hh
  obtain ⟨Ax, cx, ebx, hbx⟩ := id hx
  obtain ⟨Ay, cy, eby, hby⟩ := id hy
  have H0 : Hd (Bx w x ⟨x.kind, x.err, x.hd, by'⟩ Bs ((w.alloc (.cells x.cells.toArray 58)).alloc (.cells (Sn.cells ⟨x.kind, x.err, x.hd, by'⟩).toArray 58))) := ⟨by
    have hb : Below w.heap.size w ((w.alloc (.cells x.cells.toArray 58)).alloc (.cells (Sn.cells ⟨x.kind, x.err, x.hd, by'⟩).toArray 58)) := ((Below.refl _ _).alloc (Nat.le_refl _) _).alloc (by simp) _
    refine ⟨hb, by rw [Go.Deep.blk_alloc_lt _ _ _ (by simp)]; exact heap_alloc_new _ _, ?_, hx.below hb, hy.below hb⟩
    have := heap_alloc_new (w.alloc (.cells x.cells.toArray 58)) (.cells (Sn.cells ⟨x.kind, x.err, x.hd, by'⟩).toArray 58)
    rw [World.size_alloc] at this
    exact this⟩
  have HBL := Hd.mk (And.intro ebx eby)
  have hn : Bs.length ≤ 140737488351232 := by omega
  clear hx hy hbx hby ebx eby hB
  obtain ⟨w1, hw1⟩ : ∃ w1, (w.alloc (.cells x.cells.toArray 58)).alloc (.cells (Sn.cells ⟨x.kind, x.err, x.hd, by'⟩).toArray 58) = w1 := ⟨_, rfl⟩
  rw [hw1] at H0
  have d0 : w1.cell? ⟨w.heap.size, 0, none⟩ = some (.int .i64 x.kind) := by rw [cell_of_row _ _ _ _ _ _ H0.out.2.1]; rfl
  have d1 : w1.cell? ⟨w.heap.size, 1, none⟩ = some (.int .u8 x.hd.s0) := by rw [cell_of_row _ _ _ _ _ _ H0.out.2.1]; rfl
  have d2 : w1.cell? ⟨w.heap.size, 2, none⟩ = some (.int .u8 x.hd.s1) := by rw [cell_of_row _ _ _ _ _ _ H0.out.2.1]; rfl
  have d3 : w1.cell? ⟨w.heap.size, 3, none⟩ = some (.int .u8 x.hd.s2) := by rw [cell_of_row _ _ _ _ _ _ H0.out.2.1]; rfl
  have d4 : w1.cell? ⟨w.heap.size, 4, none⟩ = some (.int .u8 x.hd.s3) := by rw [cell_of_row _ _ _ _ _ _ H0.out.2.1]; rfl
  have d5 : w1.cell? ⟨w.heap.size, 5, none⟩ = some (.int .u8 x.hd.s4) := by rw [cell_of_row _ _ _ _ _ _ H0.out.2.1]; rfl
  have d6 : w1.cell? ⟨w.heap.size, 6, none⟩ = some (.int .u8 x.hd.s5) := by rw [cell_of_row _ _ _ _ _ _ H0.out.2.1]; rfl
  have d7 : w1.cell? ⟨w.heap.size, 7, none⟩ = some (.int .u8 x.hd.s6) := by rw [cell_of_row _ _ _ _ _ _ H0.out.2.1]; rfl
  have d8 : w1.cell? ⟨w.heap.size, 8, none⟩ = some (.int .u8 x.hd.s7) := by rw [cell_of_row _ _ _ _ _ _ H0.out.2.1]; rfl
  have d9 : w1.cell? ⟨w.heap.size, 9, none⟩ = some (.int .i64 x.hd.k) := by rw [cell_of_row _ _ _ _ _ _ H0.out.2.1]; rfl
  have d10 : w1.cell? ⟨w.heap.size, 10, none⟩ = some (.int .i64 x.hd.m) := by rw [cell_of_row _ _ _ _ _ _ H0.out.2.1]; rfl
  have d11 : w1.cell? ⟨w.heap.size, 11, none⟩ = some (.int .i64 x.hd.b) := by rw [cell_of_row _ _ _ _ _ _ H0.out.2.1]; rfl
  have d12 : w1.cell? ⟨w.heap.size, 12, none⟩ = some (.string x.hd.key) := by rw [cell_of_row _ _ _ _ _ _ H0.out.2.1]; rfl
  have d13 : w1.cell? ⟨w.heap.size, 13, none⟩ = some (.int .i64 x.hd.size) := by rw [cell_of_row _ _ _ _ _ _ H0.out.2.1]; rfl
  have d14 : w1.cell? ⟨w.heap.size, 14, none⟩ = some (.int .i64 x.hd.index) := by rw [cell_of_row _ _ _ _ _ _ H0.out.2.1]; rfl
  have d15 : w1.cell? ⟨w.heap.size, 15, none⟩ = some (.int .i64 x.hd.epoch) := by rw [cell_of_row _ _ _ _ _ _ H0.out.2.1]; rfl
  have d16 : w1.cell? ⟨w.heap.size, 16, none⟩ = some (.int .i64 x.hd.count) := by rw [cell_of_row _ _ _ _ _ _ H0.out.2.1]; rfl
  have d17 : w1.cell? ⟨w.heap.size, 17, none⟩ = some (.slice Ax Bs.length cx) := by rw [cell_of_row _ _ _ _ _ _ H0.out.2.1, ← HBL.out.1]; rfl
  have d18 : w1.cell? ⟨w.heap.size, 18, none⟩ = some (.int .i64 x.err) := by rw [cell_of_row _ _ _ _ _ _ H0.out.2.1]; rfl
  have e0 : w1.cell? ⟨w.heap.size + 1, 0, none⟩ = some (.int .i64 x.kind) := by rw [cell_of_row _ _ _ _ _ _ H0.out.2.2.1]; rfl
  have e1 : w1.cell? ⟨w.heap.size + 1, 1, none⟩ = some (.int .u8 x.hd.s0) := by rw [cell_of_row _ _ _ _ _ _ H0.out.2.2.1]; rfl
  have e2 : w1.cell? ⟨w.heap.size + 1, 2, none⟩ = some (.int .u8 x.hd.s1) := by rw [cell_of_row _ _ _ _ _ _ H0.out.2.2.1]; rfl
  have e3 : w1.cell? ⟨w.heap.size + 1, 3, none⟩ = some (.int .u8 x.hd.s2) := by rw [cell_of_row _ _ _ _ _ _ H0.out.2.2.1]; rfl
  have e4 : w1.cell? ⟨w.heap.size + 1, 4, none⟩ = some (.int .u8 x.hd.s3) := by rw [cell_of_row _ _ _ _ _ _ H0.out.2.2.1]; rfl
  have e5 : w1.cell? ⟨w.heap.size + 1, 5, none⟩ = some (.int .u8 x.hd.s4) := by rw [cell_of_row _ _ _ _ _ _ H0.out.2.2.1]; rfl
  have e6 : w1.cell? ⟨w.heap.size + 1, 6, none⟩ = some (.int .u8 x.hd.s5) := by rw [cell_of_row _ _ _ _ _ _ H0.out.2.2.1]; rfl
  have e7 : w1.cell? ⟨w.heap.size + 1, 7, none⟩ = some (.int .u8 x.hd.s6) := by rw [cell_of_row _ _ _ _ _ _ H0.out.2.2.1]; rfl
  have e8 : w1.cell? ⟨w.heap.size + 1, 8, none⟩ = some (.int .u8 x.hd.s7) := by rw [cell_of_row _ _ _ _ _ _ H0.out.2.2.1]; rfl
  have e9 : w1.cell? ⟨w.heap.size + 1, 9, none⟩ = some (.int .i64 x.hd.k) := by rw [cell_of_row _ _ _ _ _ _ H0.out.2.2.1]; rfl
  have e10 : w1.cell? ⟨w.heap.size + 1, 10, none⟩ = some (.int .i64 x.hd.m) := by rw [cell_of_row _ _ _ _ _ _ H0.out.2.2.1]; rfl
  have e11 : w1.cell? ⟨w.heap.size + 1, 11, none⟩ = some (.int .i64 x.hd.b) := by rw [cell_of_row _ _ _ _ _ _ H0.out.2.2.1]; rfl
  have e12 : w1.cell? ⟨w.heap.size + 1, 12, none⟩ = some (.string x.hd.key) := by rw [cell_of_row _ _ _ _ _ _ H0.out.2.2.1]; rfl
  have e13 : w1.cell? ⟨w.heap.size + 1, 13, none⟩ = some (.int .i64 x.hd.size) := by rw [cell_of_row _ _ _ _ _ _ H0.out.2.2.1]; rfl
  have e14 : w1.cell? ⟨w.heap.size + 1, 14, none⟩ = some (.int .i64 x.hd.index) := by rw [cell_of_row _ _ _ _ _ _ H0.out.2.2.1]; rfl
  have e15 : w1.cell? ⟨w.heap.size + 1, 15, none⟩ = some (.int .i64 x.hd.epoch) := by rw [cell_of_row _ _ _ _ _ _ H0.out.2.2.1]; rfl
  have e16 : w1.cell? ⟨w.heap.size + 1, 16, none⟩ = some (.int .i64 x.hd.count) := by rw [cell_of_row _ _ _ _ _ _ H0.out.2.2.1]; rfl
  have e17 : w1.cell? ⟨w.heap.size + 1, 17, none⟩ = some (.slice Ay Bs.length cy) := by rw [cell_of_row _ _ _ _ _ _ H0.out.2.2.1, ← HBL.out.2]; rfl
  have e18 : w1.cell? ⟨w.heap.size + 1, 18, none⟩ = some (.int .i64 x.err) := by rw [cell_of_row _ _ _ _ _ _ H0.out.2.2.1]; rfl
  have hN : ∀ W, (binOp .neq 52 (.agg #[.int .u8 x.hd.s0, .int .u8 x.hd.s1, .int .u8 x.hd.s2, .int .u8 x.hd.s3, .int .u8 x.hd.s4, .int .u8 x.hd.s5, .int .u8 x.hd.s6, .int .u8 x.hd.s7, .int .i64 x.hd.k, .int .i64 x.hd.m, .int .i64 x.hd.b, .string x.hd.key, .int .i64 x.hd.size, .int .i64 x.hd.index, .int .i64 x.hd.epoch, .int .i64 x.hd.count]) (.agg #[.int .u8 x.hd.s0, .int .u8 x.hd.s1, .int .u8 x.hd.s2, .int .u8 x.hd.s3, .int .u8 x.hd.s4, .int .u8 x.hd.s5, .int .u8 x.hd.s6, .int .u8 x.hd.s7, .int .i64 x.hd.k, .int .i64 x.hd.m, .int .i64 x.hd.b, .string x.hd.key, .int .i64 x.hd.size, .int .i64 x.hd.index, .int .i64 x.hd.epoch, .int .i64 x.hd.count])).run Try.prog W = .ok (.bool false) W := fun W => head_neq x.hd W
  have hG : ∀ op a b W, (eqGuard op 52 a b (.agg #[.int .u8 x.hd.s0, .int .u8 x.hd.s1, .int .u8 x.hd.s2, .int .u8 x.hd.s3, .int .u8 x.hd.s4, .int .u8 x.hd.s5, .int .u8 x.hd.s6, .int .u8 x.hd.s7, .int .i64 x.hd.k, .int .i64 x.hd.m, .int .i64 x.hd.b, .string x.hd.key, .int .i64 x.hd.size, .int .i64 x.hd.index, .int .i64 x.hd.epoch, .int .i64 x.hd.count]) (.agg #[.int .u8 x.hd.s0, .int .u8 x.hd.s1, .int .u8 x.hd.s2, .int .u8 x.hd.s3, .int .u8 x.hd.s4, .int .u8 x.hd.s5, .int .u8 x.hd.s6, .int .u8 x.hd.s7, .int .i64 x.hd.k, .int .i64 x.hd.m, .int .i64 x.hd.b, .string x.hd.key, .int .i64 x.hd.size, .int .i64 x.hd.index, .int .i64 x.hd.epoch, .int .i64 x.hd.count])).run Try.prog W = .ok () W := fun op a b W => head_guard op a b x.hd W
  have hS : ∀ d W, (Op.equalIn (d + 2) 50 (.agg #[.int .u8 x.hd.s0, .int .u8 x.hd.s1, .int .u8 x.hd.s2, .int .u8 x.hd.s3, .int .u8 x.hd.s4, .int .u8 x.hd.s5, .int .u8 x.hd.s6, .int .u8 x.hd.s7]) (.agg #[.int .u8 x.hd.s0, .int .u8 x.hd.s1, .int .u8 x.hd.s2, .int .u8 x.hd.s3, .int .u8 x.hd.s4, .int .u8 x.hd.s5, .int .u8 x.hd.s6, .int .u8 x.hd.s7])).run Try.prog W = .ok true W := fun d W => eq_bytes_self W d _ 5 8 Try.underlying50 Try.underlying5 size_u8 _ (fun i hi => by rcases (by omega : i = 0 ∨ i = 1 ∨ i = 2 ∨ i = 3 ∨ i = 4 ∨ i = 5 ∨ i = 6 ∨ i = 7) with rfl | rfl | rfl | rfl | rfl | rfl | rfl | rfl <;> exact ⟨_, rfl⟩)
  generalize x.hd.s0 = h_s0 at d0 d1 d2 d3 d4 d5 d6 d7 d8 d9 d10 d11 d12 d13 d14 d15 d16 e1 e2 e3 e4 e5 e6 e7 e8 e9 e10 e11 e12 e13 e14 e15 e16 hN hG hS
  generalize x.hd.s1 = h_s1 at d0 d1 d2 d3 d4 d5 d6 d7 d8 d9 d10 d11 d12 d13 d14 d15 d16 e1 e2 e3 e4 e5 e6 e7 e8 e9 e10 e11 e12 e13 e14 e15 e16 hN hG hS
  generalize x.hd.s2 = h_s2 at d0 d1 d2 d3 d4 d5 d6 d7 d8 d9 d10 d11 d12 d13 d14 d15 d16 e1 e2 e3 e4 e5 e6 e7 e8 e9 e10 e11 e12 e13 e14 e15 e16 hN hG hS
  generalize x.hd.s3 = h_s3 at d0 d1 d2 d3 d4 d5 d6 d7 d8 d9 d10 d11 d12 d13 d14 d15 d16 e1 e2 e3 e4 e5 e6 e7 e8 e9 e10 e11 e12 e13 e14 e15 e16 hN hG hS
  generalize x.hd.s4 = h_s4 at d0 d1 d2 d3 d4 d5 d6 d7 d8 d9 d10 d11 d12 d13 d14 d15 d16 e1 e2 e3 e4 e5 e6 e7 e8 e9 e10 e11 e12 e13 e14 e15 e16 hN hG hS
  generalize x.hd.s5 = h_s5 at d0 d1 d2 d3 d4 d5 d6 d7 d8 d9 d10 d11 d12 d13 d14 d15 d16 e1 e2 e3 e4 e5 e6 e7 e8 e9 e10 e11 e12 e13 e14 e15 e16 hN hG hS
  generalize x.hd.s6 = h_s6 at d0 d1 d2 d3 d4 d5 d6 d7 d8 d9 d10 d11 d12 d13 d14 d15 d16 e1 e2 e3 e4 e5 e6 e7 e8 e9 e10 e11 e12 e13 e14 e15 e16 hN hG hS
  generalize x.hd.s7 = h_s7 at d0 d1 d2 d3 d4 d5 d6 d7 d8 d9 d10 d11 d12 d13 d14 d15 d16 e1 e2 e3 e4 e5 e6 e7 e8 e9 e10 e11 e12 e13 e14 e15 e16 hN hG hS
  generalize x.hd.k = h_k at d0 d1 d2 d3 d4 d5 d6 d7 d8 d9 d10 d11 d12 d13 d14 d15 d16 e1 e2 e3 e4 e5 e6 e7 e8 e9 e10 e11 e12 e13 e14 e15 e16 hN hG hS
  generalize x.hd.m = h_m at d0 d1 d2 d3 d4 d5 d6 d7 d8 d9 d10 d11 d12 d13 d14 d15 d16 e1 e2 e3 e4 e5 e6 e7 e8 e9 e10 e11 e12 e13 e14 e15 e16 hN hG hS
  generalize x.hd.b = h_b at d0 d1 d2 d3 d4 d5 d6 d7 d8 d9 d10 d11 d12 d13 d14 d15 d16 e1 e2 e3 e4 e5 e6 e7 e8 e9 e10 e11 e12 e13 e14 e15 e16 hN hG hS
  generalize x.hd.key = h_key at d0 d1 d2 d3 d4 d5 d6 d7 d8 d9 d10 d11 d12 d13 d14 d15 d16 e1 e2 e3 e4 e5 e6 e7 e8 e9 e10 e11 e12 e13 e14 e15 e16 hN hG hS
  generalize x.hd.size = h_size at d0 d1 d2 d3 d4 d5 d6 d7 d8 d9 d10 d11 d12 d13 d14 d15 d16 e1 e2 e3 e4 e5 e6 e7 e8 e9 e10 e11 e12 e13 e14 e15 e16 hN hG hS
  generalize x.hd.index = h_index at d0 d1 d2 d3 d4 d5 d6 d7 d8 d9 d10 d11 d12 d13 d14 d15 d16 e1 e2 e3 e4 e5 e6 e7 e8 e9 e10 e11 e12 e13 e14 e15 e16 hN hG hS
  generalize x.hd.epoch = h_epoch at d0 d1 d2 d3 d4 d5 d6 d7 d8 d9 d10 d11 d12 d13 d14 d15 d16 e1 e2 e3 e4 e5 e6 e7 e8 e9 e10 e11 e12 e13 e14 e15 e16 hN hG hS
  generalize x.hd.count = h_count at d0 d1 d2 d3 d4 d5 d6 d7 d8 d9 d10 d11 d12 d13 d14 d15 d16 e1 e2 e3 e4 e5 e6 e7 e8 e9 e10 e11 e12 e13 e14 e15 e16 hN hG hS
  go_enter Try.func33, Try.ntmps33
  go_wp2_with fail
  clear d0 d1 d2 d3 d4 d5 d6 d7 d8 d9 d10 d11 d12 d13 d14 d15 d16 d18 e0 e1 e2 e3 e4 e5 e6 e7 e8 e9 e10 e11 e12 e13 e14 e15 e16 e18 hN hG hS hw1
  have H1 : Hd (w1.cell? ⟨w.heap.size, 17, none⟩ = some (.slice Ax Bs.length cx) ∧ w1.cell? ⟨w.heap.size + 1, 17, none⟩ = some (.slice Ay Bs.length cy) ∧ w.heap.size + 1 < w1.heap.size) := ⟨d17, e17, (Array.getElem?_eq_some_iff.1 H0.out.2.2.1).1⟩
  clear d17 e17
  obtain ⟨n, hnn⟩ : ∃ n, Bs.length = n := ⟨_, rfl⟩
  have HNN := Hd.mk hnn
  rw [hnn] at H1 hn ⊢
  clear hnn
  go_loopw [5] (fun i wr => ∃ k : Nat, k ≤ n ∧ i = .int .i64 (k : Int) ∧ Below w1.heap.size w1 wr) (fun i _ => n - (intOf i).toNat)
  case atStart => exact ⟨0, by omega, rfl, Below.refl _ _⟩
  case round =>
    obtain ⟨k, hk, rfl, hb⟩ := hrel
    have HB := Hd.mk hb
    have d17 := (hb.cell (p := ⟨w.heap.size, 17, none⟩) (by have := H1.out.2.2; show w.heap.size < _; omega)).trans H1.out.1
    clear hb
    by_cases hlt : k < n
    · have hki : (k : Int) < (n : Int) := by omega
      obtain ⟨Ax', cx', ex, hbx⟩ := H0.out.2.2.2.1
      obtain ⟨Ay', cy', ey, hby⟩ := H0.out.2.2.2.2
      obtain ⟨gx, ox, Arx, Crx, eAx, hgx, hcx, hrx, _⟩ := hbx k (by rw [HNN.out]; exact hlt)
      obtain ⟨gy, oy, Ary, Cry, eAy, hgy, hcy, hry, _⟩ := hby k (by rw [HNN.out]; exact hlt)
      have eA1 : Ax = some ⟨gx, ox, none⟩ := by have := HBL.out.1.symm.trans ex; injection this with h1; rw [h1, eAx]
      have eA2 : Ay = some ⟨gy, oy, none⟩ := by have := HBL.out.2.symm.trans ey; injection this with h1; rw [h1, eAy]
      have hbw : Below w.heap.size w1 wr := HB.out.mono (by have := H1.out.2.2; omega)
      obtain ⟨bs, hbs⟩ : ∃ bs, Bs.getD k [] = bs := ⟨_, rfl⟩
      rw [hbs] at hcx hcy hrx hry
      obtain ⟨S, hS⟩ : ∃ S, bstr bs = S := ⟨_, rfl⟩
      have HS := Hd.mk hS
      have HW : Hd (wr.cell? ⟨w.heap.size, 17, none⟩ = some (.slice Ax n cx) ∧ wr.cell? ⟨w.heap.size + 1, 17, none⟩ = some (.slice Ay n cy) ∧ wr.cell? ⟨gx, ox + k, none⟩ = some (.slice Arx bs.length Crx) ∧ wr.cell? ⟨gy, oy + k, none⟩ = some (.slice Ary bs.length Cry) ∧ Rd wr w.heap.size Arx bs.length (cb bs) ∧ Rd wr w.heap.size Ary bs.length (cb bs)) :=
        ⟨d17, (HB.out.cell (p := ⟨w.heap.size + 1, 17, none⟩) (by have := H1.out.2.2; show w.heap.size + 1 < _; omega)).trans H1.out.2.1, (hbw.cell (p := ⟨gx, _, none⟩) hgx).trans hcx, (hbw.cell (p := ⟨gy, _, none⟩) hgy).trans hcy, hrx.below hbw, hry.below hbw⟩
      subst eA1 eA2
      clear ex ey hbx hby eAx eAy hgx hgy hcx hcy hrx hry hbw hbs hS
      go_wp2_with fail
      refine wp_region_held_drew (S := fun wr => wr.cell? ⟨w.heap.size, 17, none⟩ = some (.slice (some ⟨gx, ox, none⟩) n cx) ∧ wr.cell? ⟨w.heap.size + 1, 17, none⟩ = some (.slice (some ⟨gy, oy, none⟩) n cy) ∧ wr.cell? ⟨gx, ox + k, none⟩ = some (.slice Arx bs.length Crx) ∧ wr.cell? ⟨gy, oy + k, none⟩ = some (.slice Ary bs.length Cry) ∧ Rd wr w.heap.size Arx bs.length (cb bs) ∧ Rd wr w.heap.size Ary bs.length (cb bs)) (by kernel_rfl) (by exact HW.out) (fun hHeld => ?_)
      refine wpAnyH_take (i := 0) (oi := ?oi1) (v := ?v1) ?hi1 (by kernel_rfl) (by kernel_rfl) (by kernel_rfl) ?hQ1 (Or.inl ⟨?hw1, ?hy1⟩) (by assumption) ?rest1
      case hi1 => simp only [List.getElem?_toArray, List.getElem?_cons_succ, List.getElem?_cons_zero]; rfl
      case hQ1 => exact fun _ _ _ h => h
      case hw1 => rfl
      case hy1 => (rintro W ⟨c1, c2, c3, c4, r1, r2⟩; have g1 := conv_bytes (c := Crx) r1; have g2 := conv_bytes (c := Cry) r2; rw [HS.out] at g1 g2; go_simp; all_goals rfl)
      simp only [Act.put, List.setIfInBounds_toArray, List.set_cons_zero, List.set_cons_succ]
      refine wpAnyH_take (i := 1) (oi := ?oi2) (v := ?v2) ?hi2 (by kernel_rfl) (by kernel_rfl) (by kernel_rfl) ?hQ2 (Or.inl ⟨?hw2, ?hy2⟩) (by assumption) ?rest2
      case hi2 => simp only [List.getElem?_toArray, List.getElem?_cons_succ, List.getElem?_cons_zero]; rfl
      case hQ2 => exact fun _ _ _ h => h
      case hw2 => rfl
      case hy2 => (rintro W ⟨c1, c2, c3, c4, r1, r2⟩; have g1 := conv_bytes (c := Crx) r1; have g2 := conv_bytes (c := Cry) r2; rw [HS.out] at g1 g2; go_simp; all_goals rfl)
      simp only [Act.put, List.setIfInBounds_toArray, List.set_cons_zero, List.set_cons_succ]
      refine wpAnyH_take (i := 2) (oi := ?oi3) (v := ?v3) ?hi3 (by kernel_rfl) (by kernel_rfl) (by kernel_rfl) ?hQ3 (Or.inl ⟨?hw3, ?hy3⟩) (by assumption) ?rest3
      case hi3 => simp only [List.getElem?_toArray, List.getElem?_cons_succ, List.getElem?_cons_zero]; rfl
      case hQ3 => exact fun _ _ _ h => h
      case hw3 => rfl
      case hy3 => (rintro W ⟨c1, c2, c3, c4, r1, r2⟩; have g1 := conv_bytes (c := Crx) r1; have g2 := conv_bytes (c := Cry) r2; rw [HS.out] at g1 g2; go_simp; all_goals rfl)
      simp only [Act.put, List.setIfInBounds_toArray, List.set_cons_zero, List.set_cons_succ]
      refine wpAnyH_take (i := 3) (oi := ?oi4) (v := ?v4) ?hi4 (by kernel_rfl) (by kernel_rfl) (by kernel_rfl) ?hQ4 (Or.inl ⟨?hw4, ?hy4⟩) (by assumption) ?rest4
      case hi4 => simp only [List.getElem?_toArray, List.getElem?_cons_succ, List.getElem?_cons_zero]; rfl
      case hQ4 => exact fun _ _ _ h => h
      case hw4 => rfl
      case hy4 => (rintro W ⟨c1, c2, c3, c4, r1, r2⟩; have g1 := conv_bytes (c := Crx) r1; have g2 := conv_bytes (c := Cry) r2; rw [HS.out] at g1 g2; go_simp; all_goals rfl)
      simp only [Act.put, List.setIfInBounds_toArray, List.set_cons_zero, List.set_cons_succ]
      refine wpAnyH_take (i := 4) (oi := ?oi5) (v := ?v5) ?hi5 (by kernel_rfl) (by kernel_rfl) (by kernel_rfl) ?hQ5 (Or.inl ⟨?hw5, ?hy5⟩) (by assumption) ?rest5
      case hi5 => simp only [List.getElem?_toArray, List.getElem?_cons_succ, List.getElem?_cons_zero]; rfl
      case hQ5 => exact fun _ _ _ h => h
      case hw5 => rfl
      case hy5 => (rintro W ⟨c1, c2, c3, c4, r1, r2⟩; have g1 := conv_bytes (c := Crx) r1; have g2 := conv_bytes (c := Cry) r2; rw [HS.out] at g1 g2; go_simp; all_goals rfl)
      simp only [Act.put, List.setIfInBounds_toArray, List.set_cons_zero, List.set_cons_succ]
      refine wpAnyH_take (i := 5) (oi := ?oi6) (v := ?v6) ?hi6 (by kernel_rfl) (by kernel_rfl) (by kernel_rfl) ?hQ6 (Or.inl ⟨?hw6, ?hy6⟩) (by assumption) ?rest6
      case hi6 => simp only [List.getElem?_toArray, List.getElem?_cons_succ, List.getElem?_cons_zero]; rfl
      case hQ6 => exact fun _ _ _ h => h
      case hw6 => rfl
      case hy6 => (rintro W ⟨c1, c2, c3, c4, r1, r2⟩; have g1 := conv_bytes (c := Crx) r1; have g2 := conv_bytes (c := Cry) r2; rw [HS.out] at g1 g2; go_simp; all_goals rfl)
      simp only [Act.put, List.setIfInBounds_toArray, List.set_cons_zero, List.set_cons_succ]
      refine wpAnyH_take (i := 6) (oi := ?oi7) (v := ?v7) ?hi7 (by kernel_rfl) (by kernel_rfl) (by kernel_rfl) ?hQ7 (Or.inl ⟨?hw7, ?hy7⟩) (by assumption) ?rest7
      case hi7 => simp only [List.getElem?_toArray, List.getElem?_cons_succ, List.getElem?_cons_zero]; rfl
      case hQ7 => exact fun _ _ _ h => h
      case hw7 => rfl
      case hy7 => (rintro W ⟨c1, c2, c3, c4, r1, r2⟩; have g1 := conv_bytes (c := Crx) r1; have g2 := conv_bytes (c := Cry) r2; rw [HS.out] at g1 g2; go_simp; all_goals rfl)
      simp only [Act.put, List.setIfInBounds_toArray, List.set_cons_zero, List.set_cons_succ]
      refine wpAnyH_take (i := 7) (oi := ?oi8) (v := ?v8) ?hi8 (by kernel_rfl) (by kernel_rfl) (by kernel_rfl) ?hQ8 (Or.inl ⟨?hw8, ?hy8⟩) (by assumption) ?rest8
      case hi8 => simp only [List.getElem?_toArray, List.getElem?_cons_succ, List.getElem?_cons_zero]; rfl
      case hQ8 => exact fun _ _ _ h => h
      case hw8 => rfl
      case hy8 => (rintro W ⟨c1, c2, c3, c4, r1, r2⟩; have g1 := conv_bytes (c := Crx) r1; have g2 := conv_bytes (c := Cry) r2; rw [HS.out] at g1 g2; go_simp; all_goals rfl)
      simp only [Act.put, List.setIfInBounds_toArray, List.set_cons_zero, List.set_cons_succ]
      refine wpAnyH_take (i := 8) (oi := ?oi9) (v := ?v9) ?hi9 (by kernel_rfl) (by kernel_rfl) (by kernel_rfl) ?hQ9 (Or.inl ⟨?hw9, ?hy9⟩) (by assumption) ?rest9
      case hi9 => simp only [List.getElem?_toArray, List.getElem?_cons_succ, List.getElem?_cons_zero]; rfl
      case hQ9 => exact fun _ _ _ h => h
      case hw9 => rfl
      case hy9 => (rintro W ⟨c1, c2, c3, c4, r1, r2⟩; have g1 := conv_bytes (c := Crx) r1; have g2 := conv_bytes (c := Cry) r2; rw [HS.out] at g1 g2; go_simp; all_goals rfl)
      simp only [Act.put, List.setIfInBounds_toArray, List.set_cons_zero, List.set_cons_succ]
      refine wpAnyH_take (i := 9) (oi := ?oi10) (v := ?v10) ?hi10 (by kernel_rfl) (by kernel_rfl) (by kernel_rfl) ?hQ10 (Or.inl ⟨?hw10, ?hy10⟩) (by assumption) ?rest10
      case hi10 => simp only [List.getElem?_toArray, List.getElem?_cons_succ, List.getElem?_cons_zero]; rfl
      case hQ10 => exact fun _ _ _ h => h
      case hw10 => rfl
      case hy10 => (rintro W ⟨c1, c2, c3, c4, r1, r2⟩; have g1 := conv_bytes (c := Crx) r1; have g2 := conv_bytes (c := Cry) r2; rw [HS.out] at g1 g2; go_simp; all_goals rfl)
      simp only [Act.put, List.setIfInBounds_toArray, List.set_cons_zero, List.set_cons_succ]
      refine wpAnyH_take (i := 10) (oi := ?oi11) (v := ?v11) ?hi11 (by kernel_rfl) (by kernel_rfl) (by kernel_rfl) ?hQ11 (Or.inl ⟨?hw11, ?hy11⟩) (by assumption) ?rest11
      case hi11 => simp only [List.getElem?_toArray, List.getElem?_cons_succ, List.getElem?_cons_zero]; rfl
      case hQ11 => exact fun _ _ _ h => h
      case hw11 => rfl
      case hy11 => (rintro W ⟨c1, c2, c3, c4, r1, r2⟩; have g1 := conv_bytes (c := Crx) r1; have g2 := conv_bytes (c := Cry) r2; rw [HS.out] at g1 g2; go_simp; all_goals rfl)
      simp only [Act.put, List.setIfInBounds_toArray, List.set_cons_zero, List.set_cons_succ]
      refine wpAnyH_take (i := 11) (oi := ?oi12) (v := ?v12) ?hi12 (by kernel_rfl) (by kernel_rfl) (by kernel_rfl) ?hQ12 (Or.inl ⟨?hw12, ?hy12⟩) (by assumption) ?rest12
      case hi12 => simp only [List.getElem?_toArray, List.getElem?_cons_succ, List.getElem?_cons_zero]; rfl
      case hQ12 => exact fun _ _ _ h => h
      case hw12 => rfl
      case hy12 => (rintro W ⟨c1, c2, c3, c4, r1, r2⟩; have g1 := conv_bytes (c := Crx) r1; have g2 := conv_bytes (c := Cry) r2; rw [HS.out] at g1 g2; go_simp; all_goals rfl)
      simp only [Act.put, List.setIfInBounds_toArray, List.set_cons_zero, List.set_cons_succ]
      refine wpAnyH_take (i := 12) (oi := ?oi13) (v := ?v13) ?hi13 (by kernel_rfl) (by kernel_rfl) (by kernel_rfl) ?hQ13 (Or.inl ⟨?hw13, ?hy13⟩) (by assumption) ?rest13
      case hi13 => simp only [List.getElem?_toArray, List.getElem?_cons_succ, List.getElem?_cons_zero]; rfl
      case hQ13 => exact fun _ _ _ h => h
      case hw13 => rfl
      case hy13 => (rintro W ⟨c1, c2, c3, c4, r1, r2⟩; have g1 := conv_bytes (c := Crx) r1; have g2 := conv_bytes (c := Cry) r2; rw [HS.out] at g1 g2; go_simp; all_goals rfl)
      simp only [Act.put, List.setIfInBounds_toArray, List.set_cons_zero, List.set_cons_succ]
      refine wpAnyH_take (i := 13) (oi := ?oi14) (v := ?v14) ?hi14 (by kernel_rfl) (by kernel_rfl) (by kernel_rfl) ?hQ14 (Or.inl ⟨?hw14, ?hy14⟩) (by assumption) ?rest14
      case hi14 => simp only [List.getElem?_toArray, List.getElem?_cons_succ, List.getElem?_cons_zero]; rfl
      case hQ14 => exact fun _ _ _ h => h
      case hw14 => rfl
      case hy14 => (rintro W ⟨c1, c2, c3, c4, r1, r2⟩; have g1 := conv_bytes (c := Crx) r1; have g2 := conv_bytes (c := Cry) r2; rw [HS.out] at g1 g2; go_simp; all_goals rfl)
      simp only [Act.put, List.setIfInBounds_toArray, List.set_cons_zero, List.set_cons_succ]
      refine wpAnyH_take (i := 14) (oi := ?oi15) (v := ?v15) ?hi15 (by kernel_rfl) (by kernel_rfl) (by kernel_rfl) ?hQ15 (Or.inl ⟨?hw15, ?hy15⟩) (by assumption) ?rest15
      case hi15 => simp only [List.getElem?_toArray, List.getElem?_cons_succ, List.getElem?_cons_zero]; rfl
      case hQ15 => exact fun _ _ _ h => h
      case hw15 => rfl
      case hy15 => (rintro W ⟨c1, c2, c3, c4, r1, r2⟩; have g1 := conv_bytes (c := Crx) r1; have g2 := conv_bytes (c := Cry) r2; rw [HS.out] at g1 g2; go_simp; all_goals rfl)
      simp only [Act.put, List.setIfInBounds_toArray, List.set_cons_zero, List.set_cons_succ]
      refine wpAnyH_done (by kernel_rfl) ?_ _
      have HB2 := Hd.mk HB.out.drew
      clear HW HB hHeld
      go_wp2_with fail
      go_roundw
      case rel => exact ⟨k + 1, by omega, by go_num, HB2.out⟩
      case measure => simp [intOf]; omega
    · have hkn : k = n := by omega
      subst hkn
      go_wp2_with fail
      go_ret
      exact ⟨rfl, H0.out.1.trans (HB.out.mono (by have := H1.out.2.2; omega))⟩
end Go.Proofs.Ytplpaipmkpjgfaa
