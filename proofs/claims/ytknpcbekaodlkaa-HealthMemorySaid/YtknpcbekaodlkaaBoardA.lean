/- A board in memory; contracts of fault, lawful, Score, Tell, and of the library's comparison of floats. -/
import Derived.Test.YtknpcbekaodlkaaTellP
import Derived.Test.YtknpcbekaodlkaaRefChance
import Derived.Laws.Externs
import Derived.Laws.OwnMore
import Derived.BigQuiet
import Derived.StillTailTactics
namespace Go.Proofs.Ytknpcbekaodlkaa
open Go.RowKit
set_option linter.unusedVariables false
theorem infoF32 : (Try.prog.info? 58).map (fun i => (i.zero, i.size, i.bytes)) = some (some (.float .f32 0), 1, 4) := by kernel_rfl
theorem elF32 : El Try.prog 59 58 4 (.float .f32 0) := ⟨Try.underlying59, info_parts infoF32, rfl⟩
theorem infoI : (Try.prog.info? 3).map (fun i => (i.zero, i.size, i.bytes)) = some (some (.int .i64 0), 1, 8) := by kernel_rfl
theorem elI : El Try.prog 49 3 8 (.int .i64 0) := ⟨Try.underlying49, info_parts infoI, rfl⟩
theorem infoU8 : (Try.prog.info? 5).map (fun i => (i.zero, i.size, i.bytes)) = some (some (.int .u8 0), 1, 1) := by kernel_rfl
theorem elB : El Try.prog 45 5 1 (.int .u8 0) := ⟨Try.underlying45, info_parts infoU8, rfl⟩
/-- The cells of floats of 32 bits. -/
def ff (l : List Nat) : List Value := l.map (Value.float .f32)
theorem ff_len (l : List Nat) : (ff l).length = l.length := List.length_map _
theorem ff_append (a b : List Nat) : ff (a ++ b) = ff a ++ ff b := List.map_append
theorem ff_one (l : List Nat) : ∀ u ∈ ff l, u.oneCell' = true := by
  intro u hu; obtain ⟨x, _, rfl⟩ := List.mem_map.1 hu; rfl
theorem ff_get (l : List Nat) (k : Nat) (h : k < l.length) : (ff l)[k]? = some (.float .f32 (l.getD k 0)) := by
  unfold ff; rw [List.getElem?_map, List.getElem?_eq_getElem h, List.getD_eq_getElem?_getD, List.getElem?_eq_getElem h]; rfl
theorem ff_set (l : List Nat) (i v : Nat) : (ff l).set i (.float .f32 v) = ff (l.set i v) := by unfold ff; rw [List.map_set]
theorem own_belowH {w w' : World} {base e n : Nat} {v : Value} {xs : List Value} (h : w.ownsRow base e 1 v n xs) (b : Below w.heap.size w w') : w'.ownsRow base e 1 v n xs :=
  ⟨h.1, h.2.imp id fun ⟨g, cap, cur, hv, hg, hh, r⟩ => ⟨g, cap, cur, hv, hg, by rw [b.block g (Array.getElem?_eq_some_iff.1 hh).1]; exact hh, r⟩⟩
/-- Block b, from B on, is a board with the keep K and the scores ss, which lie in block h. -/
structure Brd (w : World) (B b h cap K : Nat) (ss : List Nat) : Prop where
  hB : B ≤ b
  ne : b ≠ h
  blk : w.heap[b]? = some (.cells #[.float .f32 K, .slice (some ⟨h, 0, none⟩) ss.length cap] 61 (0, 0))
  row : w.ownsRow B 58 1 (.slice (some ⟨h, 0, none⟩) ss.length cap) ss.length (ff ss)
/-- The keep is between 0 and 1, the scores from 0 to 1. -/
structure Law (K : Nat) (ss : List Nat) : Prop where
  k0 : 0 < K
  k1 : K < one32
  sc : ∀ s ∈ ss, s ≤ one32
section
variable {w w' : World} {B b h cap K : Nat} {ss : List Nat}
theorem Brd.c0 (H : Brd w B b h cap K ss) : w.cell? ⟨b, 0, none⟩ = some (.float .f32 K) := by rw [cell_of_row _ _ _ _ _ _ H.blk]; rfl
theorem Brd.c1 (H : Brd w B b h cap K ss) : w.cell? ⟨b, 1, none⟩ = some (.slice (some ⟨h, 0, none⟩) ss.length cap) := by rw [cell_of_row _ _ _ _ _ _ H.blk]; rfl
theorem Brd.cs (H : Brd w B b h cap K ss) {i : Nat} (hi : i < ss.length) : w.cell? ⟨h, i, none⟩ = some (.float .f32 (ss.getD i 0)) := by
  rw [H.row.cellAt i (by omega), ff_get ss i hi]
theorem Brd.fz (H : Brd w B b h cap K ss) (i : Nat) : w.frozen? ⟨h, i, none⟩ = false := H.row.frozenAt i
theorem Brd.lt (H : Brd w B b h cap K ss) : b < w.heap.size ∧ h < w.heap.size ∧ B ≤ h := ⟨(Array.getElem?_eq_some_iff.1 H.blk).1, (H.row.lt h rfl).2, (H.row.lt h rfl).1⟩
theorem Brd.keep (H : Brd w B b h cap K ss) (hb : Below w.heap.size w w') : Brd w' B b h cap K ss :=
  ⟨H.hB, H.ne, by rw [hb.block b H.lt.1]; exact H.blk, own_belowH H.row hb⟩
theorem Brd.other {k : Nat} (H : Brd w B b h cap K ss) (hg : w.grownBy w' (some k)) (h1 : k ≠ b) (h2 : k ≠ h) : Brd w' B b h cap K ss :=
  ⟨H.hB, H.ne, by rw [hg.block b H.lt.1 (by simpa using fun e => h1 e.symm)]; exact H.blk, H.row.kept hg (.inr (by simpa [Value.ownBlock] using fun e => h2 e.symm))⟩
theorem Brd.drew (H : Brd w B b h cap K ss) (n : Nat) : Brd (w.drewN n) B b h cap K ss := ⟨H.hB, H.ne, H.blk, H.row⟩
theorem Brd.told (H : Brd w B b h cap K ss) (i v : Nat) : Brd (w.setCell ⟨h, i, none⟩ (.float .f32 v)) B b h cap K (ss.set i v) ∧ w.grownBy (w.setCell ⟨h, i, none⟩ (.float .f32 v)) (some h) := by
  have hs := H.row.stored i (.float .f32 v)
  rw [ff_set] at hs
  refine ⟨⟨H.hB, H.ne, ?_, by rw [List.length_set]; exact hs.1⟩, hs.2⟩
  rw [hs.2.block b H.lt.1 (by simpa using H.ne), H.blk, List.length_set]
theorem grown_drewN {row : Option Nat} (hg : w.grownBy w' row) (n : Nat) : w.grownBy (w'.drewN n) row := ⟨hg.os, hg.tape, hg.output, hg.size, hg.block⟩
end
theorem st_float32 {P : Program} (w : World) (g i v : Nat) (old : Value) (hc : w.cell? ⟨g, i, none⟩ = some old) (hf : w.frozen? ⟨g, i, none⟩ = false) :
    (store ⟨g, i, none⟩ (.float .f32 v)).run P w = .ok () (w.setCell ⟨g, i, none⟩ (.float .f32 v)) := by
  rw [run_store _ _ _ _ _ rfl, hc]; simp [hf]
theorem law_get {K : Nat} {ss : List Nat} (L : Law K ss) (i : Nat) : ss.getD i 0 ≤ one32 := by
  rw [List.getD_eq_getElem?_getD]
  by_cases hk : i < ss.length
  · rw [List.getElem?_eq_getElem hk]; exact L.sc _ (List.getElem_mem _)
  · rw [List.getElem?_eq_none (by omega)]; exact Nat.zero_le _
theorem one_inf32 : one32 < inf32 := by decide
/-! fault -/
set_option maxHeartbeats 400000 in
theorem fault_in (w : World) (B b h cap K : Nat) (ss : List Nat) (H : Brd w B b h cap K ss) (i : Nat) (hi : i < ss.length) :
    Calls Try.prog 45 #[.pointer (some ⟨b, 0, none⟩), .int .i64 (i : Int)] w fun e w' => e = .returned (.int .i64 0) ∧ w = w' := by
  have c1 := H.c1
  have h0 : ¬ (i : Int) < 0 := by omega
  have h1 : ¬ (ss.length : Int) ≤ (i : Int) := by omega
  generalize ss.length = n at *
  clear H hi
  go_enter Try.func45, Try.ntmps45
  go_wp2
  go_ret
  exact ⟨rfl, rfl⟩
set_option maxHeartbeats 400000 in
theorem fault_out (w : World) (B b h cap K : Nat) (ss : List Nat) (H : Brd w B b h cap K ss) (i : Int) (hi : i < 0 ∨ (ss.length : Int) ≤ i) :
    Calls Try.prog 45 #[.pointer (some ⟨b, 0, none⟩), .int .i64 i] w fun e w' => e = .returned (.int .i64 2) ∧ w = w' := by
  have c1 := H.c1
  generalize ss.length = n at *
  clear H
  by_cases h0 : i < 0
  · clear hi
    go_enter Try.func45, Try.ntmps45
    go_wp2
    go_ret
    exact ⟨rfl, rfl⟩
  · have h1 : (n : Int) ≤ i := by omega
    clear hi
    go_enter Try.func45, Try.ntmps45
    go_wp2
    go_ret
    exact ⟨rfl, rfl⟩
/-! Score -/
set_option maxHeartbeats 400000 in
theorem score_in (w : World) (B b h cap K : Nat) (ss : List Nat) (H : Brd w B b h cap K ss) (L : Law K ss) (i : Nat) (hi : i < ss.length) :
    Calls Try.prog 32 #[.pointer (some ⟨b, 0, none⟩), .int .i64 (i : Int)] w fun e w' => e = .returned (.tuple #[.float .f64 (up (ss.getD i 0)), .int .i64 0]) ∧ w = w' := by
  have c1 := H.c1
  have cs := H.cs hi
  have h1 : (i : Int) < (ss.length : Int) := by omega
  have e1 := fun w => run_widen (P := Try.prog) w 58 24 (by rw [Try.underlying58]; rfl) Try.underlying24 (Nat.lt_of_le_of_lt (law_get L i) one_inf32)
  have hf := fault_in w B b h cap K ss H i hi
  have HF := Hd.mk hf
  clear hf H L hi
  generalize ss.getD i 0 = s at *
  generalize up s = u at *
  generalize hn : ss.length = n at *
  clear hn
  go_enter Try.func32, Try.ntmps32
  go_wp2_with fail
  refine HF.out.mono ?_
  rintro e w1 ⟨rfl, rfl⟩
  go_wp2
  go_ret2
  exact ⟨rfl, rfl⟩
set_option maxHeartbeats 400000 in
theorem score_out (w : World) (B b h cap K : Nat) (ss : List Nat) (H : Brd w B b h cap K ss) (i : Int) (hi : i < 0 ∨ (ss.length : Int) ≤ i) :
    Calls Try.prog 32 #[.pointer (some ⟨b, 0, none⟩), .int .i64 i] w fun e w' => e = .returned (.tuple #[.float .f64 0, .int .i64 2]) ∧ w = w' := by
  have HF := Hd.mk (fault_out w B b h cap K ss H i hi)
  clear H hi
  go_enter Try.func32, Try.ntmps32
  go_wp2_with fail
  refine HF.out.mono ?_
  rintro e w1 ⟨rfl, rfl⟩
  go_wp2
  go_ret2
  exact ⟨rfl, rfl⟩
/-! Tell -/
set_option maxHeartbeats 1000000 in
theorem tell_in (w : World) (B b h cap K : Nat) (ss : List Nat) (H : Brd w B b h cap K ss) (L : Law K ss) (i : Nat) (hi : i < ss.length) (good : Bool) :
    Calls Try.prog 25 #[.pointer (some ⟨b, 0, none⟩), .int .i64 (i : Int), .bool good] w fun e w' => e = .returned (.int .i64 0) ∧
      Brd w' B b h cap K (ss.set i (tellT K (ss.getD i 0) good)) ∧ w.grownBy w' (some h) := by
  have c0 := H.c0
  have c1 := H.c1
  have cs := H.cs hi
  have h1 : (i : Int) < (ss.length : Int) := by omega
  have hK := Nat.le_of_lt L.k1
  have hS := law_get L i
  have f32 : (Try.prog.underlying 58).isSome = true := by rw [Try.underlying58]; rfl
  have f64 : (Try.prog.underlying 24).isSome = true := by rw [Try.underlying24]; rfl
  have e1 := fun w => run_widen (P := Try.prog) w 58 24 f32 Try.underlying24 (Nat.lt_of_le_of_lt hS one_inf32)
  have e2 := fun w => run_widen (P := Try.prog) w 58 24 f32 Try.underlying24 (Nat.lt_of_le_of_lt hK one_inf32)
  have uS := up_inf (Nat.lt_of_le_of_lt hS one_inf32)
  have uK := up_inf (Nat.lt_of_le_of_lt hK one_inf32)
  have e3 := fun w => run_fmul (P := Try.prog) w 24 uK uS
  have e4 := fun w => run_f1m (P := Try.prog) w 24 (good_up hK)
  have hm : fmul (up K) (up (ss.getD i 0)) < inf64 := Nat.lt_of_le_of_lt (fmul_le (up_le_one hS)) uK
  have e5 := fun w => run_fadd (P := Try.prog) w 24 hm (.inl (Nat.lt_of_le_of_lt (f1m_le (up K)) (show one64 < inf64 by decide)))
  have e6 := fun w => run_narrow (P := Try.prog) w 24 58 f64 Try.underlying58 (sumT_inf hK hS good) (Nat.lt_of_le_of_lt (tellT_one hK hS good) one_inf32)
  have hf := fault_in w B b h cap K ss H i hi
  have hst := fun n => st_float32 (P := Try.prog) (w.drewN n) h i (tellT K (ss.getD i 0) good) _ cs (H.fz i)
  have HF := Hd.mk (And.intro hf H)
  have HT : Hd (dn (sumT K (ss.getD i 0) good) = tellT K (ss.getD i 0) good) := ⟨rfl⟩
  rw [show dn (sumT K (ss.getD i 0) good) = tellT K (ss.getD i 0) good from rfl] at e6
  obtain ⟨T, hT⟩ : ∃ T, tellT K (ss.getD i 0) good = T := ⟨_, rfl⟩
  rw [hT] at hst e6 ⊢
  have hsum : sumT K (ss.getD i 0) good = if good then fadd (fmul (up K) (up (ss.getD i 0))) (f1m (up K)) else fmul (up K) (up (ss.getD i 0)) := rfl
  rw [hsum] at e6
  clear hf H L hi hm uS uK hsum HT hT hK hS f32 f64
  generalize ss.getD i 0 = s at *
  generalize hn : ss.length = n at *
  clear hn
  cases good
  all_goals
    simp only [Bool.false_eq_true, if_false, if_true] at e6
    go_enter Try.func25, Try.ntmps25
    go_wp2_with fail
    refine HF.out.1.mono ?_
    rintro e w1 ⟨rfl, rfl⟩
    go_wp2_with fail
    go_quiet (fail)
    go_wp2
    go_ret
    exact ⟨rfl, ((HF.out.2.drew _).told i T).1, grown_drewN (HF.out.2.told i T).2 _⟩
end Go.Proofs.Ytknpcbekaodlkaa
