/- Contracts of the reference's at, four and Load. -/
import Derived.Test.YtknpcbekaodlkaaLoadS
namespace Go.Proofs.Ytknpcbekaodlkaa
open Go.RowKit
set_option linter.unusedVariables false
theorem or_at (x y k : Nat) (hx : x < 2 ^ k) (h : x + y * 2 ^ k < 4294967296) : bits .or .u32 (x : Int) ((y : Int) * ((2 ^ k : Nat) : Int)) = ((x + y * 2 ^ k : Nat) : Int) := by
  have h1 := u32_or_nat x (y * 2 ^ k) (by omega) (by omega)
  rw [show ((y : Int) * ((2 ^ k : Nat) : Int)) = ((y * 2 ^ k : Nat) : Int) by rw [Int.natCast_mul], h1]
  congr 1
  rw [Nat.or_comm, ← Nat.shiftLeft_eq, ← Nat.shiftLeft_add_eq_or_of_lt hx, Nat.add_comm]
set_option maxRecDepth 20000 in
set_option maxHeartbeats 1000000 in
theorem refat_any (w : World) (B n c : Nat) (A : Option Addr) (bs : List Nat) (hr : Rd w B A n (cb bs)) (hb : ∀ y ∈ bs, y < 256) (hn : 4 ≤ n) :
    Calls Try.prog 54 #[.slice A n c] w fun e w' => e = .returned (.float .f32 (takeP bs)) ∧ ∃ k, w' = w.drewN k := by
  obtain ⟨g, off, rfl, _, hc⟩ := hr.2 (by omega)
  have hl : n = bs.length := by have := hr.1; rw [cb_length] at this; exact this.symm
  have hcc : ∀ i, i < n → w.cell? ⟨g, off + i, none⟩ = some (.int .u8 ((bs.getD i 0 : Nat) : Int)) := fun i hi => by
    rw [hc i hi]; exact cb_get bs i (by omega)
  have c0 := hcc 0 (by omega)
  have c1 := hcc 1 (by omega)
  have c2 := hcc 2 (by omega)
  have c3 := hcc 3 (by omega)
  rw [Nat.add_zero] at c0
  have x0 := getD_lt hb 0
  have x1 := getD_lt hb 1
  have x2 := getD_lt hb 2
  have x3 := getD_lt hb 3
  have HT : Hd (takeP bs = bs.getD 0 0 + bs.getD 1 0 * 256 + bs.getD 2 0 * 65536 + bs.getD 3 0 * 16777216) := ⟨by unfold takeP; omega⟩
  rw [HT.out]
  clear HT hc hcc hr hb hl
  generalize bs.getD 0 0 = a0 at *
  generalize bs.getD 1 0 = a1 at *
  generalize bs.getD 2 0 = a2 at *
  generalize bs.getD 3 0 = a3 at *
  have e1 : bits .or .u32 (a0 : Int) ((a1 : Int) * 256) = ((a0 + a1 * 256 : Nat) : Int) := or_at a0 a1 8 (by omega) (by omega)
  have e2 : bits .or .u32 ((a0 + a1 * 256 : Nat) : Int) ((a2 : Int) * 65536) = ((a0 + a1 * 256 + a2 * 65536 : Nat) : Int) := or_at _ a2 16 (by omega) (by omega)
  have e3 : bits .or .u32 ((a0 + a1 * 256 + a2 * 65536 : Nat) : Int) ((a3 : Int) * 16777216) = ((a0 + a1 * 256 + a2 * 65536 + a3 * 16777216 : Nat) : Int) := or_at _ a3 24 (by omega) (by omega)
  have hf := fun w => run_f32from (a0 + a1 * 256 + a2 * 65536 + a3 * 16777216) w
  obtain ⟨T, hT⟩ : ∃ T : Nat, a0 + a1 * 256 + a2 * 65536 + a3 * 16777216 = T := ⟨_, rfl⟩
  obtain ⟨U, hU⟩ : ∃ U : Nat, a0 + a1 * 256 + a2 * 65536 = U := ⟨_, rfl⟩
  obtain ⟨V, hV⟩ : ∃ V : Nat, a0 + a1 * 256 = V := ⟨_, rfl⟩
  have hb1 : T ≤ 4294967295 := by omega
  have hb2 : U ≤ 16777215 := by omega
  have hb3 : V ≤ 65535 := by omega
  rw [hT] at hf ⊢
  rw [hT, hU] at e3
  rw [hU, hV] at e2
  rw [hV] at e1
  clear hT hU hV
  have w1 : IntKind.u32.wrap ((a1 : Int) * 256) = (a1 : Int) * 256 := by exact IntWalk.u32_in _ (by omega)
  have w2 : IntKind.u32.wrap ((a2 : Int) * 65536) = (a2 : Int) * 65536 := by exact IntWalk.u32_in _ (by omega)
  have w3 : IntKind.u32.wrap ((a3 : Int) * 16777216) = (a3 : Int) * 16777216 := by exact IntWalk.u32_in _ (by omega)
  have hnn : (0 : Int) < n ∧ (1 : Int) < n ∧ (2 : Int) < n ∧ (3 : Int) < n := by omega
  go_enter Try.func54, Try.ntmps54
  go_wp2_with fail
  go_quiet (fail)
  go_wp2_with fail
  go_ret
  exact ⟨rfl, _, rfl⟩
theorem keep_no0 {K : Nat} (h1 : (FloatKind.f32.format.order K 0 == some .gt) = false) : keepOk K = false := by
  rcases h : keepOk K
  · rfl
  · unfold keepOk at h
    rw [Bool.and_eq_true, decide_eq_true_iff, decide_eq_true_iff] at h
    have := ord32 (Nat.lt_trans h.2 one_inf32) (b := 0) (by decide)
    rw [if_neg (by omega), if_neg (by omega)] at this
    rw [show FloatKind.f32.format.order K 0 = some .gt from this] at h1
    exact absurd h1 (by decide)
theorem keep_no1 {K : Nat} (h2 : (FloatKind.f32.format.order K 1065353216 == some .lt) = false) : keepOk K = false := by
  rcases h : keepOk K
  · rfl
  · unfold keepOk at h
    rw [Bool.and_eq_true, decide_eq_true_iff, decide_eq_true_iff] at h
    have := ord32 (Nat.lt_trans h.2 one_inf32) one_inf32
    rw [if_pos h.2] at this
    rw [show FloatKind.f32.format.order K 1065353216 = some .lt from this] at h2
    exact absurd h2 (by decide)
theorem keep_yes {K : Nat} (hK : K < 2 ^ 32) (h1 : (FloatKind.f32.format.order K 0 == some .gt) = true) (h2 : (FloatKind.f32.format.order K 1065353216 == some .lt) = true) : keepOk K = true := by
  have hb := between32 hK h1 h2
  unfold keepOk; rw [decide_eq_true hb.1, decide_eq_true hb.2]; rfl
/-- What the reference's Load answers of the bytes. -/
def RLoaded (w : World) (bs : List Nat) (e : Ending) (w' : World) : Prop :=
  Below w.heap.size w w' ∧ ((loadP bs = none ∧ e = .returned (.tuple #[.agg #[.float .f32 0, .slice none 0 0], .int .i64 2])) ∨
    ∃ K ss h cap, loadP bs = some (K, ss) ∧ e = .returned (.tuple #[.agg #[.float .f32 K, .slice (some ⟨h, 0, none⟩) ss.length cap], .int .i64 0]) ∧ w'.ownsRow w.heap.size 58 1 (.slice (some ⟨h, 0, none⟩) ss.length cap) ss.length (ff ss))
theorem infoBd : (Try.prog.info? 64).map (·.size) = some 2 := by kernel_rfl
theorem results_cell_slot {P : Program} {fn : Func} {p q : Tmp} {ty : TypeId} (h : fn.results = #[.cell p ty, .tmp q]) (tmps : Array Value) (w : World) (g : Nat) (t : TypeId) (cs : Array Value) (fr : Nat × Nat) (d : TypeDesc)
    (hp : tmps.getD p undef = .pointer (some ⟨g, 0, none⟩)) (hg : w.heap[g]? = some (.cells cs t fr))
    (hu : P.underlying ty = some d) (hd : (match d with | .struct _ | .array _ _ => true | _ => false) = true) (hi : (P.info? ty).map (·.size) = some cs.size) (v : Value) (hq : tmps.getD q undef = v) :
    (results fn tmps).run P w = .ok (.tuple #[.agg cs, v]) w := by
  subst hq
  have hp' : tmps[p]?.getD undef = .pointer (some ⟨g, 0, none⟩) := by simpa using hp
  simp [results, h, hp', asAddr, run_loadVar_row w g t ty cs fr d hg hu hd hi]
def zB : Array Value := #[.float .f32 0, .slice none 0 0]
theorem zB_one : zB.all (·.oneCell') = true := by simp [zB, Value.oneCell']
theorem bd_one (K : Nat) (A : Option Addr) (n c : Nat) : (#[Value.float .f32 K, .slice A n c]).all (·.oneCell') = true := by simp [Value.oneCell']
theorem RLoaded.none {w w' : World} {bs : List Nat} (hb : Below w.heap.size w w') (h : loadP bs = none) : RLoaded w bs (.returned (.tuple #[.agg zB, .int .i64 2])) w' := ⟨hb, .inl ⟨h, rfl⟩⟩
set_option maxRecDepth 20000 in
set_option maxHeartbeats 2000000 in
theorem refload_no (w : World) (B n c : Nat) (A : Option Addr) (bs : List Nat) (hr : Rd w B A n (cb bs)) (hb : ∀ y ∈ bs, y < 256) (hB : B ≤ w.heap.size) (hc : n ≤ c) (hs : shapeP bs = false) :
    Calls Try.prog 34 #[.slice A n c] w (RLoaded w bs) := by
  have hl : bs.length = n := by have := hr.1; rwa [cb_length] at this
  have HN : Hd (loadP bs = none) := ⟨loadP_shape hs⟩
  by_cases hn9 : n < 9
  · clear hr hb hl hs
    go_enter Try.func34, Try.ntmps34
    go_wp2_with (refine wpList_store_row rfl 64 (.tmp 2) (.tmp 21) rfl w.heap.size zB rfl rfl 64 zB (heap_alloc_new _ _) infoBd rfl zB_one ?_)
    (try simp only [Exit.inBlock, Exit.then])
    refine bodyPost_ret (v := .tuple #[.agg zB, .int .i64 2]) ?_ ?_ ?_
    · exact results_cell_slot rfl _ _ w.heap.size 64 zB (0, 0) _ rfl (setRow_heap _ _ _ _ _ _ (heap_alloc_new _ _)) Try.underlying64 rfl infoBd _ rfl
    · rfl
    · exact RLoaded.none (below_setRow ((Below.refl _ _).alloc (Nat.le_refl _) _) (Nat.le_refl _) _) HN.out
  · obtain ⟨g, off, rfl, hg, hcc⟩ := hr.2 (by omega)
    have c0 : w.cell? ⟨g, off, none⟩ = some (.int .u8 ((bs.getD 0 0 : Nat) : Int)) := by
      have := hcc 0 (by omega)
      rw [Nat.add_zero] at this
      rw [this]; exact cb_get bs 0 (by omega)
    have x1 := getD_lt hb 0
    have hs2 : n ≠ 5 + 4 * bs.getD 0 0 := by
      unfold shapeP at hs
      rw [hl] at hs
      intro he
      rw [decide_eq_true (by omega), decide_eq_true (by omega), decide_eq_true he] at hs
      cases hs
    generalize bs.getD 0 0 = m at *
    have hne : ((n : Int) != 5 + 4 * (m : Int)) = true := by simp; omega
    have c1 : (w.alloc (.cells #[.float .f32 0, .slice none 0 0] 64)).cell? ⟨g, off, none⟩ = some (.int .u8 (m : Int)) := by rw [World.cell?_alloc_lt _ _ _ (show g < w.heap.size by omega)]; exact c0
    clear hs2 hs hr hb hl hcc
    go_enter Try.func34, Try.ntmps34
    go_wp2_with (refine wpList_store_row rfl 64 (.tmp 2) (.tmp 21) rfl w.heap.size zB rfl rfl 64 zB (heap_alloc_new _ _) infoBd rfl zB_one ?_)
    (try simp only [Exit.inBlock, Exit.then])
    refine bodyPost_ret (v := .tuple #[.agg zB, .int .i64 2]) ?_ ?_ ?_
    · exact results_cell_slot rfl _ _ w.heap.size 64 zB (0, 0) _ rfl (setRow_heap _ _ _ _ _ _ (heap_alloc_new _ _)) Try.underlying64 rfl infoBd _ rfl
    · rfl
    · exact RLoaded.none (below_setRow ((Below.refl _ _).alloc (Nat.le_refl _) _) (Nat.le_refl _) _) HN.out
set_option maxRecDepth 20000 in
set_option maxHeartbeats 4000000 in
theorem refload_ok (w : World) (B n c : Nat) (A : Option Addr) (bs : List Nat) (hr : Rd w B A n (cb bs)) (hb : ∀ y ∈ bs, y < 256) (hB : B ≤ w.heap.size) (hc : n ≤ c) (hs1 : shapeP bs = true) :
    Calls Try.prog 34 #[.slice A n c] w (RLoaded w bs) := by
  have HR0 := Hd.mk hr
  have hl : bs.length = n := by have := hr.1; rwa [cb_length] at this
  have hn0 : ¬ n = 0 := by
    intro h
    unfold shapeP at hs1
    rw [hl, h] at hs1
    cases hs1
  obtain ⟨g, off, rfl, hg, hcc⟩ := hr.2 (by omega)
  obtain ⟨w1, hw1⟩ : ∃ w1, w.alloc (.cells zB 64) = w1 := ⟨_, rfl⟩
  have H1 : Hd (w1.heap[w.heap.size]? = some (.cells zB 64) ∧ Below w.heap.size w w1 ∧ w1.heap.size = w.heap.size + 1 ∧ Rd w1 B (some ⟨g, off, none⟩) n (cb bs)) := ⟨by subst hw1; exact heap_alloc_new _ _, by subst hw1; exact (Below.refl _ _).alloc (Nat.le_refl _) _, by subst hw1; simp, by subst hw1; exact hr.alloc hB _⟩
  have c0 : w1.cell? ⟨g, off, none⟩ = some (.int .u8 ((bs.getD 0 0 : Nat) : Int)) := by
    have := (hr.alloc hB (.cells zB 64) |> fun h => (h.at_ (k := 0) (by omega)))
    obtain ⟨g', off', u, e1, _, e2, e3⟩ := this
    injection e1 with e1
    injection e1 with e1 e4
    subst e1 e4
    rw [Nat.add_zero, hw1] at e3
    rw [e3, ← e2]; exact cb_get bs 0 (by omega)
  have x1 := getD_lt hb 0
  obtain ⟨m, hm⟩ : ∃ m, bs.getD 0 0 = m := ⟨_, rfl⟩
  rw [hm] at c0 x1
  have HM : Hd (bs.getD 0 0 = m ∧ bs.length = n ∧ (∀ y ∈ bs, y < 256)) := ⟨hm, hl, hb⟩
  have hs2 : 1 ≤ m ∧ n = 5 + 4 * m := by
    have h := hs1
    unfold shapeP at h
    rw [hm, hl, Bool.and_eq_true, Bool.and_eq_true, decide_eq_true_iff, decide_eq_true_iff, decide_eq_true_iff] at h
    omega
  obtain ⟨hm1, hnm⟩ := hs2
  have hnq : ((n : Int) != 5 + 4 * (m : Int)) = false := by simp; omega
  have hn5 : 9 ≤ n := by omega
  obtain ⟨K, hK⟩ : ∃ K, takeP (bs.drop 1) = K := ⟨_, rfl⟩
  have HK : Hd (takeP (bs.drop 1) = K ∧ K < 2 ^ 32 ∧ shapeP bs = true) := ⟨hK, by rw [← hK]; exact take_lt (fun y hy => hb y (List.mem_of_mem_drop hy)), hs1⟩
  have HN := Hd.mk hnm
  have hgw : g < w.heap.size := by omega
  rw [← hw1] at c0
  unfold zB at c0
  clear hs1 hm hl hb hr hcc hK hn0 hnm
  go_enter Try.func34, Try.ntmps34
  have ht := refat_any (w.alloc (.cells #[.float .f32 0, .slice none 0 0] 64)) B (n - 1) (c - 1) _ (bs.drop 1) (by have := H1.out.2.2.2.from_ (l := 1) (by omega) hc; rw [← hw1] at this; exact this) (fun y hy => HM.out.2.2 y (List.mem_of_mem_drop hy)) (by omega)
  rw [HK.out.1, cutA_some (by omega) (by omega)] at ht
  have HT := Hd.mk ht
  clear ht
  go_wp2_with fail
  refine HT.out.mono ?_
  rintro e w2 ⟨rfl, kq, hw2⟩
  have H2 : Hd (w2.heap[w.heap.size]? = some (.cells zB 64) ∧ Below w.heap.size w w2 ∧ Rd w2 B (some ⟨g, off, none⟩) n (cb bs)) := ⟨by
    rw [hw2]; exact heap_alloc_new _ _, by rw [hw2]; exact below_drewN (by have := H1.out.2.1; rw [← hw1] at this; exact this) _, by rw [hw2]; exact (by have := H1.out.2.2.2; rw [← hw1] at this; exact this : Rd (w.alloc (.cells zB 64)) B (some ⟨g, off, none⟩) n (cb bs)).keep fun _ _ => rfl⟩
  have hz2 : w2.heap.size = w.heap.size + 1 := by rw [hw2]; show (w.alloc _).heap.size = _; simp
  clear hw2 HT H1 c0 hw1
  have hs2 : (w2.alloc (.cells zB 64)).heap[(w.heap.size + 1)]? = some (.cells zB 64) := by rw [← hz2]; exact heap_alloc_new _ _
  have d0 : ((w2.alloc (.cells #[.float .f32 0, .slice none 0 0] 64)).setRow (w.heap.size + 1) #[.float .f32 K, .slice none 0 0]).cell? ⟨(w.heap.size + 1), 0, none⟩ = some (.float .f32 K) := by
    exact (cell_setRow_same _ _ _ _ _ _ _ hs2).trans rfl
  have HS2 := Hd.mk hs2
  have HR2 : Hd (((w2.alloc (.cells #[.float .f32 0, .slice none 0 0] 64)).setRow (w.heap.size + 1) #[.float .f32 K, .slice none 0 0]).heap[w.heap.size]? = some (.cells zB 64) ∧ Below w.heap.size w ((w2.alloc (.cells #[.float .f32 0, .slice none 0 0] 64)).setRow (w.heap.size + 1) #[.float .f32 K, .slice none 0 0])) :=
    ⟨by rw [setRow_other _ _ _ _ (by omega), Go.Deep.blk_alloc_lt _ _ _ (by omega)]; exact H2.out.1, below_setRow (H2.out.2.1.alloc (by omega) _) (by omega) _⟩
  clear hs2
  rcases h1 : (FloatKind.f32.format.order K 0 == some .gt) with _ | _
  · have HZ : Hd (loadP bs = none) := ⟨loadP_keep (by rw [HK.out.1]; exact keep_no0 h1)⟩
    go_wp2_with (first
      | (refine wpList_store_row rfl 64 (.tmp 4) (.tmp 25) rfl (w.heap.size + 1) #[.float .f32 K, .slice none 0 0] rfl rfl 64 zB HS2.out infoBd rfl (bd_one ..) ?_)
      | (refine wpList_store_row rfl 64 (.tmp 2) (.tmp 35) rfl w.heap.size zB rfl rfl 64 zB HR2.out.1 infoBd rfl zB_one ?_))
    (try simp only [Exit.inBlock, Exit.then])
    refine bodyPost_ret (v := .tuple #[.agg zB, .int .i64 2]) ?_ ?_ ?_
    · exact results_cell_slot rfl _ _ w.heap.size 64 zB (0, 0) _ rfl (setRow_heap _ _ _ _ _ _ HR2.out.1) Try.underlying64 rfl infoBd _ rfl
    · rfl
    · exact RLoaded.none (below_setRow (HR2.out.2) (Nat.le_refl _) _) HZ.out
  · rcases h2 : (FloatKind.f32.format.order K 1065353216 == some .lt) with _ | _
    · have HZ : Hd (loadP bs = none) := ⟨loadP_keep (by rw [HK.out.1]; exact keep_no1 h2)⟩
      go_wp2_with (first
        | (refine wpList_store_row rfl 64 (.tmp 4) (.tmp 25) rfl (w.heap.size + 1) #[.float .f32 K, .slice none 0 0] rfl rfl 64 zB HS2.out infoBd rfl (bd_one ..) ?_)
        | (refine wpList_store_row rfl 64 (.tmp 2) (.tmp 35) rfl w.heap.size zB rfl rfl 64 zB HR2.out.1 infoBd rfl zB_one ?_))
      (try simp only [Exit.inBlock, Exit.then])
      refine bodyPost_ret (v := .tuple #[.agg zB, .int .i64 2]) ?_ ?_ ?_
      · exact results_cell_slot rfl _ _ w.heap.size 64 zB (0, 0) _ rfl (setRow_heap _ _ _ _ _ _ HR2.out.1) Try.underlying64 rfl infoBd _ rfl
      · rfl
      · exact RLoaded.none (below_setRow (HR2.out.2) (Nat.le_refl _) _) HZ.out
    · have HY := Hd.mk (keep_yes HK.out.2.1 h1 h2)
      have HR3 : Hd (Rd ((w2.alloc (.cells #[.float .f32 0, .slice none 0 0] 64)).setRow (w.heap.size + 1) #[.float .f32 K, .slice none 0 0]) B (some ⟨g, off, none⟩) n (cb bs) ∧ ((w2.alloc (.cells #[.float .f32 0, .slice none 0 0] 64)).setRow (w.heap.size + 1) #[.float .f32 K, .slice none 0 0]).heap[w.heap.size + 1]? = some (.cells #[.float .f32 K, .slice none 0 0] 64) ∧ w.heap.size + 1 < ((w2.alloc (.cells #[.float .f32 0, .slice none 0 0] 64)).setRow (w.heap.size + 1) #[.float .f32 K, .slice none 0 0]).heap.size) :=
        ⟨(by
          have hB2 : B ≤ w2.heap.size := by omega
          exact (H2.out.2.2.alloc hB2 _).keep fun p hp => cell_setRow_other _ _ _ _ (by omega)), setRow_heap _ _ _ _ _ _ HS2.out, by rw [setRow_size]; simp; omega⟩
      go_wp2_with (first
        | (refine wpList_store_row rfl 64 (.tmp 4) (.tmp 25) rfl (w.heap.size + 1) #[.float .f32 K, .slice none 0 0] rfl rfl 64 zB HS2.out infoBd rfl (bd_one ..) ?_))
      obtain ⟨w3, hw3⟩ : ∃ w3, ((w2.alloc (.cells #[.float .f32 0, .slice none 0 0] 64)).setRow (w.heap.size + 1) #[.float .f32 K, .slice none 0 0]) = w3 := ⟨_, rfl⟩
      rw [hw3] at HR2 HR3 ⊢
      clear hw3 d0 HS2 H2 hz2
      go_loopw [5, 6] (fun i _ wr => ∃ (k : Nat) (s : Value), k ≤ m ∧ i = .int .i64 ((5 + 4 * k : Nat) : Int) ∧ (∀ q, q < k → scoreP bs q ≤ one32) ∧
          wr.ownsRow (w.heap.size + 2) 58 1 s k (ff (scoresP bs k)) ∧ wr.heap[w.heap.size + 1]? = some (.cells #[.float .f32 K, s] 64 (0, 0)) ∧ wr.heap[w.heap.size]? = some (.cells zB 64) ∧ Below w.heap.size w wr) (fun i _ _ => n - (match i with | .int _ j => j | _ => 0).toNat)
      case atStart =>
        exact ⟨0, .slice none 0 0, by omega, rfl, fun q hq => by omega, World.ownsRow_nil _ _ _ _, HR3.out.2.1, HR2.out.1, HR2.out.2⟩
      case round =>
        obtain ⟨k, s, hk, rfl, hqs, hown, hblk, hz, hbl⟩ := hrel
        have HL := Hd.mk (And.intro hqs (And.intro hown (And.intro hblk (And.intro hz hbl))))
        have hsz := hbl.size
        have hbn : w.heap.size + 1 < wr.heap.size := (Array.getElem?_eq_some_iff.1 hblk).1
        have d1 : wr.cell? ⟨w.heap.size + 1, 1, none⟩ = some s := by rw [cell_of_row _ _ _ _ _ _ hblk]; rfl
        have hrd : Rd wr B (some ⟨g, off, none⟩) n (cb bs) := (HR0.out.below (hbl.mono hB))
        have HRD := Hd.mk hrd
        obtain ⟨q, hq⟩ : ∃ q, 5 + 4 * k = q := ⟨_, rfl⟩
        rw [hq]
        have hnq2 := HN.out
        clear hown hblk hz hbl hrd hnq HR3 HR2 hqs
        have HQ := Hd.mk hq
        by_cases hlt : k < m
        · have hqn : q < n := by omega
          have hq9 : q + 4 ≤ n := by omega
          have hq0 : 0 < q := by omega
          have hqb : q ≤ 2000 := by omega
          have hx := refat_any wr B (n - q) (c - q) _ (bs.drop q) (HRD.out.from_ (l := q) (by omega) hc) (fun y hy => HM.out.2.2 y (List.mem_of_mem_drop hy)) (by omega)
          have hxl : scoreP bs k < 2 ^ 32 := take_lt (fun y hy => HM.out.2.2 y (List.mem_of_mem_drop hy))
          have sC := fun W => run_cut_from (P := Try.prog) (w := W) elB (some ⟨g, off, none⟩) n c q (by omega)
          have hcA : cutA (some ⟨g, off, none⟩) c q = some ⟨g, off + q, none⟩ := cutA_some (by omega) (by omega)
          rw [hcA] at hx
          simp only [hcA] at sC
          have e3 : ((q : Int) + 3).toNat = q + 3 := by omega
          have hx3 : scoreP bs k = takeP (bs.drop q) := by rw [← hq]; rfl
          have cq : ∀ W : World, W.cell? ⟨g, off + (q + 3), none⟩ = wr.cell? ⟨g, off + (q + 3), none⟩ → W.cell? ⟨g, off + (q + 3), none⟩ = some (.int .u8 ((bs.getD (q + 3) 0 : Nat) : Int)) := fun W hW => by
            rw [hW]
            obtain ⟨g', off', hA, _, hcc⟩ := HRD.out.2 (by omega)
            injection hA with hA
            injection hA with h1 h2
            subst h1 h2
            rw [hcc (q + 3) (by omega)]; exact cb_get bs (q + 3) (by have := HM.out.2.1; omega)
          have b3 := getD_lt HM.out.2.2 (q + 3)
          have hT3 : takeP (bs.drop q) / 16777216 = bs.getD (q + 3) 0 := by
            have g0 := getD_lt HM.out.2.2 q
            have g1 := getD_lt HM.out.2.2 (q + 1)
            have g2 := getD_lt HM.out.2.2 (q + 2)
            have gg : ∀ j, (bs.drop q).getD j 0 = bs.getD (q + j) 0 := fun j => by simp [List.getD_eq_getElem?_getD, List.getElem?_drop]
            unfold takeP
            rw [gg, gg, gg, gg, Nat.add_zero]
            omega
          have HX : Hd (∀ x, scoreP bs k = x → Calls Try.prog 54 #[.slice (some ⟨g, off + q, none⟩) (n - q) (c - q)] wr fun e w' => e = .returned (.float .f32 x) ∧ ∃ k, w' = wr.drewN k) := ⟨fun x h => by rw [← h, hx3]; exact hx⟩
          clear hx
          obtain ⟨x, hxe⟩ : ∃ x, scoreP bs k = x := ⟨_, rfl⟩
          rw [hxe] at hxl hx3
          rw [← hx3] at hT3
          have HE := Hd.mk (And.intro hxe hxl)
          have HX2 := Hd.mk (HX.out x hxe)
          clear hxe hxl HX hx3 hcA
          generalize bs.getD (q + 3) 0 = b at *
          have HCQ := Hd.mk cq
          have HT3 := Hd.mk hT3
          clear cq hT3 hq hnq2
          go_wp2_with fail
          refine HX2.out.mono ?_
          rintro e w4 ⟨rfl, kq, hw4⟩
          have H4 : Hd ((∀ q, q < k → scoreP bs q ≤ one32) ∧ w4.ownsRow (w.heap.size + 2) 58 1 s k (ff (scoresP bs k)) ∧ w4.heap[w.heap.size + 1]? = some (.cells #[.float .f32 K, s] 64 (0, 0)) ∧ w4.heap[w.heap.size]? = some (.cells zB 64) ∧ Below w.heap.size w w4) := ⟨by
            subst hw4; exact ⟨HL.out.1, HL.out.2.1, HL.out.2.2.1, HL.out.2.2.2.1, below_drewN HL.out.2.2.2.2 _⟩⟩
          have c3 := HCQ.out w4 (by rw [hw4]; rfl)
          have d4 : w4.cell? ⟨w.heap.size + 1, 1, none⟩ = some s := by rw [hw4]; exact d1
          have hz4 : w4.heap.size = wr.heap.size := by rw [hw4]; rfl
          clear hw4 HL d1 HX2 HCQ HRD
          have HL := H4
          clear H4
          have hno : ¬ x ≤ one32 → loadP bs = none := fun h => loadP_score k (by rw [HM.out.1]; exact hlt) (by rw [HE.out.1]; exact h)
          have HNO := Hd.mk hno
          clear hno
          rcases h1 : (FloatKind.f32.format.order x 0 == some .gt || FloatKind.f32.format.order x 0 == some .eq) with _ | _
          · have HZ : Hd (loadP bs = none) := ⟨HNO.out (by intro h; have := ge32 h; rw [show FloatKind.f32.format = Ieee.single from rfl] at h1; rw [h1] at this; cases this)⟩
            go_wp2_with (refine wpList_store_row rfl 64 (.tmp 2) (.tmp 65) rfl w.heap.size zB rfl rfl 64 zB HL.out.2.2.2.1 infoBd rfl zB_one ?_)
            (try simp only [Exit.inBlock, Exit.then])
            refine bodyPost_ret (v := .tuple #[.agg zB, .int .i64 2]) ?_ ?_ ?_
            · exact results_cell_slot rfl _ _ w.heap.size 64 zB (0, 0) _ rfl (setRow_heap _ _ _ _ _ _ HL.out.2.2.2.1) Try.underlying64 rfl infoBd _ rfl
            · rfl
            · exact RLoaded.none (below_setRow (HL.out.2.2.2.2) (Nat.le_refl _) _) HZ.out
          · rcases h2 : (FloatKind.f32.format.order x 1065353216 == some .lt || FloatKind.f32.format.order x 1065353216 == some .eq) with _ | _
            · have HZ : Hd (loadP bs = none) := ⟨HNO.out (by intro h; have := le32 h; rw [show FloatKind.f32.format = Ieee.single from rfl] at h2; rw [show Ieee.single.order x one32 = Ieee.single.order x 1065353216 from rfl, h2] at this; cases this)⟩
              go_wp2_with (refine wpList_store_row rfl 64 (.tmp 2) (.tmp 65) rfl w.heap.size zB rfl rfl 64 zB HL.out.2.2.2.1 infoBd rfl zB_one ?_)
              (try simp only [Exit.inBlock, Exit.then])
              refine bodyPost_ret (v := .tuple #[.agg zB, .int .i64 2]) ?_ ?_ ?_
              · exact results_cell_slot rfl _ _ w.heap.size 64 zB (0, 0) _ rfl (setRow_heap _ _ _ _ _ _ HL.out.2.2.2.1) Try.underlying64 rfl infoBd _ rfl
              · rfl
              · exact RLoaded.none (below_setRow (HL.out.2.2.2.2) (Nat.le_refl _) _) HZ.out
            · have hfit : (x ≤ one32 ∧ (FloatKind.f32.format.order x 0 == some .eq) = true ∧ b = 0) ∨ (x ≤ one32 ∧ (FloatKind.f32.format.order x 0 == some .eq) = false ∧ (FloatKind.f32.format.order x 0 == some .gt) = true) ∨ (¬ x ≤ one32 ∧ (FloatKind.f32.format.order x 0 == some .eq) = true ∧ b ≠ 0) := by
                have hb24 := HT3.out
                rcases good32 HE.out.2 h1 h2 with hx | hx
                · by_cases h0 : x = 0
                  · subst h0
                    exact .inl ⟨hx, by rw [show FloatKind.f32.format = Ieee.single from rfl, order32 (by decide) (by decide)]; rfl, by omega⟩
                  · have h9 : FloatKind.f32.format.order x 0 = some .gt := by
                      rw [show FloatKind.f32.format = Ieee.single from rfl, order32 (Nat.lt_of_le_of_lt hx one_inf32) (by decide), if_neg (by omega), if_neg h0]
                    exact .inr (.inl ⟨hx, by rw [h9]; rfl, by rw [h9]; rfl⟩)
                · subst hx
                  refine .inr (.inr ⟨by decide, ?_, by unfold ms32 at hb24; omega⟩)
                  rw [show FloatKind.f32.format = Ieee.single from rfl, order_fin ms32_fin (fin32 (by decide)), fb32_eq]
                  simp only [svs, if_true, sv_zero, Bool.false_eq_true, if_false]
                  decide
              have HT3' := HT3
              clear HT3
              rcases hfit with ⟨hx, h3, hb0⟩ | ⟨hx, h3, h4⟩ | ⟨hx, h3, hb0⟩
              · have HX3 := Hd.mk hx
                have h63 : Hd (k + 1 ≤ maxLen) := ⟨by unfold maxLen; omega⟩
                have hby : Hd ((k + 1) * 4 ≤ 140737488355328) := ⟨by omega⟩
                have hbs : Hd (w.heap.size + 2 ≤ w4.heap.size) := ⟨by omega⟩
                clear hx
                subst hb0
                go_wp2_with (refine wpList_push elF32 rfl rfl (.tmp 67) (.tmp 68) 69 rfl rfl rfl (w.heap.size + 2) s k (ff (scoresP bs k)) _ rfl rfl rfl rfl HL.out.2.1 h63.out hby.out hbs.out ?_; intro v2 w5 hO2
                             obtain ⟨A2, c2, rfl, hc2, _⟩ := own_form hO2.own
                             have hb5 := hO2.below (B := w.heap.size + 2) (fun q hq => (HL.out.2.1.lt q hq).1) hbs.out
                             have hb4 : w5.heap[w.heap.size + 1]? = some (.cells #[.float .f32 K, s] 64 (0, 0)) := by rw [hb5.block _ (by omega)]; exact HL.out.2.2.1
                             have q1 : w5.cell? ⟨w.heap.size + 1, 1, none⟩ = some s := by rw [cell_of_row _ _ _ _ _ _ hb4]; rfl
                             have q2 : w5.frozen? ⟨w.heap.size + 1, 1, none⟩ = false := by simp [World.frozen?, hb4]
                             have H5 := Hd.mk (And.intro hO2 (And.intro hb4 hb5)); clear hO2 hb4 hb5)
                go_roundw
                case rel =>
                  have hown5 := H5.out.1.own
                  refine ⟨k + 1, .slice A2 (k + 1) c2, by omega, by congr 1; have := HQ.out; omega, ?_, ?_, ?_, ?_, ?_⟩
                  · intro q' hq'
                    rcases Nat.lt_or_ge q' k with h | h
                    · exact HL.out.1 q' h
                    · rw [show q' = k by omega, HE.out.1]; exact HX3.out
                  · rw [scoresP_next, ff_append, HE.out.1]
                    refine hown5.kept (grown_set w5 ⟨w.heap.size + 1, 1, none⟩ _) (.inr ?_)
                    intro h
                    have := (hown5.lt (w.heap.size + 1) h).1
                    omega
                  · simp [World.setCell, Array.getElem?_modify, H5.out.2.1]
                  · rw [Go.Deep.blk_setCell_other _ _ _ _ (by show w.heap.size ≠ w.heap.size + 1; omega), H5.out.2.2.block _ (by omega)]; exact HL.out.2.2.2.1
                  · exact ((HL.out.2.2.2.2.trans (H5.out.2.2.mono (by omega)))).setCell (by show w.heap.size ≤ w.heap.size + 1; omega) _
                case measure => simp; omega

              · have HX3 := Hd.mk hx
                have h63 : Hd (k + 1 ≤ maxLen) := ⟨by unfold maxLen; omega⟩
                have hby : Hd ((k + 1) * 4 ≤ 140737488355328) := ⟨by omega⟩
                have hbs : Hd (w.heap.size + 2 ≤ w4.heap.size) := ⟨by omega⟩
                clear hx
                go_wp2_with (refine wpList_push elF32 rfl rfl (.tmp 67) (.tmp 68) 69 rfl rfl rfl (w.heap.size + 2) s k (ff (scoresP bs k)) _ rfl rfl rfl rfl HL.out.2.1 h63.out hby.out hbs.out ?_; intro v2 w5 hO2
                             obtain ⟨A2, c2, rfl, hc2, _⟩ := own_form hO2.own
                             have hb5 := hO2.below (B := w.heap.size + 2) (fun q hq => (HL.out.2.1.lt q hq).1) hbs.out
                             have hb4 : w5.heap[w.heap.size + 1]? = some (.cells #[.float .f32 K, s] 64 (0, 0)) := by rw [hb5.block _ (by omega)]; exact HL.out.2.2.1
                             have q1 : w5.cell? ⟨w.heap.size + 1, 1, none⟩ = some s := by rw [cell_of_row _ _ _ _ _ _ hb4]; rfl
                             have q2 : w5.frozen? ⟨w.heap.size + 1, 1, none⟩ = false := by simp [World.frozen?, hb4]
                             have H5 := Hd.mk (And.intro hO2 (And.intro hb4 hb5)); clear hO2 hb4 hb5)
                go_roundw
                case rel =>
                  have hown5 := H5.out.1.own
                  refine ⟨k + 1, .slice A2 (k + 1) c2, by omega, by congr 1; have := HQ.out; omega, ?_, ?_, ?_, ?_, ?_⟩
                  · intro q' hq'
                    rcases Nat.lt_or_ge q' k with h | h
                    · exact HL.out.1 q' h
                    · rw [show q' = k by omega, HE.out.1]; exact HX3.out
                  · rw [scoresP_next, ff_append, HE.out.1]
                    refine hown5.kept (grown_set w5 ⟨w.heap.size + 1, 1, none⟩ _) (.inr ?_)
                    intro h
                    have := (hown5.lt (w.heap.size + 1) h).1
                    omega
                  · simp [World.setCell, Array.getElem?_modify, H5.out.2.1]
                  · rw [Go.Deep.blk_setCell_other _ _ _ _ (by show w.heap.size ≠ w.heap.size + 1; omega), H5.out.2.2.block _ (by omega)]; exact HL.out.2.2.2.1
                  · exact ((HL.out.2.2.2.2.trans (H5.out.2.2.mono (by omega)))).setCell (by show w.heap.size ≤ w.heap.size + 1; omega) _
                case measure => simp; omega

              · have HZ := Hd.mk (HNO.out hx)
                have hbn : ((b : Int) != 0) = true := by simp; omega
                clear hx hb0
                go_wp2_with (refine wpList_store_row rfl 64 (.tmp 2) (.tmp 65) rfl w.heap.size zB rfl rfl 64 zB HL.out.2.2.2.1 infoBd rfl zB_one ?_)
                (try simp only [Exit.inBlock, Exit.then])
                refine bodyPost_ret (v := .tuple #[.agg zB, .int .i64 2]) ?_ ?_ ?_
                · exact results_cell_slot rfl _ _ w.heap.size 64 zB (0, 0) _ rfl (setRow_heap _ _ _ _ _ _ HL.out.2.2.2.1) Try.underlying64 rfl infoBd _ rfl
                · rfl
                · exact RLoaded.none (below_setRow (HL.out.2.2.2.2) (Nat.le_refl _) _) HZ.out
        · have hkm : k = m := by omega
          subst hkm
          have hqn : q = n := by omega
          subst hqn
          obtain ⟨h, cap, rfl, hh1, hh2⟩ := own_pos HL.out.2.1 (by omega)
          clear HRD hnq2 hq d1
          go_wp2_with (first
            | (refine wpList_load_row rfl 64 (.tmp 4) rfl (w.heap.size + 1) rfl 64 #[.float .f32 K, .slice (some ⟨h, 0, none⟩) k cap] (0, 0) _ HL.out.2.2.1 Try.underlying64 rfl infoBd ?_)
            | (refine wpList_store_row rfl 64 (.tmp 2) (.tmp 72) rfl w.heap.size #[.float .f32 K, .slice (some ⟨h, 0, none⟩) k cap] rfl rfl 64 zB HL.out.2.2.2.1 infoBd rfl (bd_one ..) ?_))
          (try simp only [Exit.inBlock, Exit.then])
          refine bodyPost_ret (v := .tuple #[.agg #[.float .f32 K, .slice (some ⟨h, 0, none⟩) k cap], .int .i64 0]) ?_ ?_ ?_
          · exact results_cell_slot rfl _ _ w.heap.size 64 #[.float .f32 K, .slice (some ⟨h, 0, none⟩) k cap] (0, 0) _ rfl (setRow_heap _ _ _ _ _ _ HL.out.2.2.2.1) Try.underlying64 rfl infoBd _ rfl
          · rfl
          · refine ⟨below_setRow HL.out.2.2.2.2 (Nat.le_refl _) _, .inr ⟨K, scoresP bs k, h, cap, ?_, ?_, ?_⟩⟩
            · have := loadP_all HK.out.2.2 (by rw [HM.out.1]; exact HL.out.1) (by rw [HK.out.1]; exact HY.out)
              rw [this, HK.out.1, HM.out.1]
            · rw [scoresP_len]
            · rw [scoresP_len]
              have hg : wr.grownBy (wr.setRow w.heap.size #[.float .f32 K, .slice (some ⟨h, 0, none⟩) k cap]) (some w.heap.size) := ⟨rfl, rfl, rfl, by simp, fun j _ hj => setRow_other _ _ _ _ (fun e => hj (by rw [e]))⟩
              exact own_more (HL.out.2.1.kept hg (.inr (fun e => by have := (HL.out.2.1.lt _ e).1; omega))) (by omega)
theorem refload_any (w : World) (B n c : Nat) (A : Option Addr) (bs : List Nat) (hr : Rd w B A n (cb bs)) (hb : ∀ y ∈ bs, y < 256) (hB : B ≤ w.heap.size) (hc : n ≤ c) :
    Calls Try.prog 34 #[.slice A n c] w (RLoaded w bs) := by
  rcases h : shapeP bs with _ | _
  · exact refload_no w B n c A bs hr hb hB hc h
  · exact refload_ok w B n c A bs hr hb hB hc h
end Go.Proofs.Ytknpcbekaodlkaa
