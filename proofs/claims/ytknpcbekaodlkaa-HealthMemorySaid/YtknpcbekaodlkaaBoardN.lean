/- Contracts of the library's Repeat at one float, of New, and of the law's kept and board. -/
import Derived.Test.YtknpcbekaodlkaaBoardO
import Derived.Laws.CopyOwn
import Derived.Deep.RegionLaw
namespace Go.Proofs.Ytknpcbekaodlkaa
open Go.RowKit
set_option linter.unusedVariables false
theorem mul_one_any (w : World) (n : Nat) (hn : n ≤ 255) : Calls Try.prog 67 #[.int .u64 1, .int .u64 (n : Int)] w fun e w' => e = .returned (.tuple #[.int .u64 0, .int .u64 (n : Int)]) ∧ w' = w := by
  have h := Any.bits_Mul Try.lays212 1 n (by omega) (by omega) w
  rw [Nat.one_mul, Nat.div_eq_of_lt (by omega), Nat.mod_eq_of_lt (by omega)] at h
  exact h
/-- A row of n cells, m of them one. -/
def rowR (m n : Nat) : List Value := List.replicate m (.float .f32 one32) ++ List.replicate (n - m) (.float .f32 0)
theorem rowR_len (m n : Nat) (h : m ≤ n) : (rowR m n).length = n := by unfold rowR; rw [List.length_append, List.length_replicate, List.length_replicate]; omega
theorem rowR_get (m n j : Nat) (h : j < m) : (rowR m n)[j]? = some (.float .f32 one32) := by
  unfold rowR; rw [List.getElem?_append_left (by simpa using h), List.getElem?_replicate, if_pos h]
theorem rowR_more (m n q : Nat) (h : m + q ≤ n) : splice (rowR m n) m (List.replicate q (.float .f32 one32)) = rowR (m + q) n := by
  unfold splice rowR
  rw [List.take_left' (List.length_replicate), List.length_replicate, ← List.append_assoc, List.replicate_append_replicate, List.drop_append, List.length_replicate, List.drop_of_length_le (by rw [List.length_replicate]; omega), List.nil_append, List.drop_replicate]
  congr 2
  omega
theorem rowR_all (n : Nat) : rowR n n = ff (List.replicate n one32) := by
  unfold rowR ff; rw [Nat.sub_self, List.replicate_zero, List.append_nil, List.map_replicate]
theorem madeR (n : Nat) : madeCells #[Value.float .f32 0] n = (rowR 0 n).toArray := by
  apply Array.ext_getElem?
  intro j
  unfold rowR
  rw [List.replicate_zero, List.nil_append, Nat.sub_zero]
  by_cases h : j < n
  · simp [madeCells, h, Nat.mod_one]
  · simp [madeCells, h]
set_option maxRecDepth 20000 in
set_option maxHeartbeats 1000000 in
theorem repeat_any (w : World) (g n : Nat) (h1 : 1 ≤ n) (h2 : n ≤ 255) (hg : w.cell? ⟨g, 0, none⟩ = some (.float .f32 one32)) :
    Calls Try.prog 58 #[.slice (some ⟨g, 0, none⟩) 1 1, .int .i64 (n : Int)] w fun e w' => e = .returned (.slice (some ⟨w.heap.size, 0, none⟩) n n) ∧
      w'.heap[w.heap.size]? = some (.cells (rowR n n).toArray 58 (0, 0)) ∧ Below w.heap.size w w' := by
  have hmk := fun W => run_make_row' (P := Try.prog) 59 58 (.float .f32 0) 4 Try.underlying59 infoF32 rfl .i64 .i64 n (by omega) (by omega) W
  rw [madeR] at hmk
  have hd1 : decide ((n : Int) < 0) = false := by simp
  have hd2 : decide (9223372036854775807 < (n : Int)) = false := by simp; omega
  go_enter Try.func58, Try.ntmps58
  go_wp2_with fail
  refine (mul_one_any _ n h2).mono ?_
  rintro e w1 ⟨rfl, rfl⟩
  have HG := Hd.mk hg
  have HB0 : Hd (Below w1.heap.size w1 (w1.alloc (.cells (rowR 0 n).toArray 58))) := ⟨(Below.refl _ _).alloc (Nat.le_refl _) _⟩
  have hlt := World.block_lt_of_cell? w1 _ hg
  have HC : Hd ((w1.alloc (.cells (rowR 0 n).toArray 58)).cell? ⟨g, 0, none⟩ = some (.float .f32 one32)) := ⟨by rw [World.cell?_alloc_lt w1 _ _ (by exact hlt)]; exact hg⟩
  have hm : [Value.float .f32 one32].length = Nat.min 1 n := by show 1 = min 1 n; omega
  clear hg hlt
  go_wp2_with (refine wpList_copy_splice rfl (.tmp 31) (.tmp 32) 59 59 rfl 58 Try.underlying59 (by kernel_rfl) _ _ _ _ _ _ rfl rfl w1.heap.size 0 (rowR 0 n) 58 (Go.Deep.blk_alloc_new w1 _) [.float .f32 one32] hm (fun _ => ⟨rfl, _, rfl, fun j v hj => by cases j with | zero => (simp at hj; subst hj; exact HC.out) | succ j => simp at hj⟩) (by rw [rowR_len 0 n (by omega)]; simp; omega) (by simp [Value.oneCell']) w1.heap.size w1 HB0.out (Nat.le_refl _) ?_; intro w2 hh2 hb2)
  have H2 : Hd (w2.heap[w1.heap.size]? = some (.cells (rowR 1 n).toArray 58 (0, 0)) ∧ Below w1.heap.size w1 w2) := ⟨by have := hh2; rw [show splice (rowR 0 n) 0 [Value.float .f32 one32] = rowR 1 n from rowR_more 0 n 1 (by omega)] at this; exact this, hb2⟩
  clear hh2 hb2
  obtain ⟨G, hG⟩ : ∃ G, w1.heap.size = G := ⟨_, rfl⟩
  rw [hG] at H2 ⊢
  have HGG := Hd.mk hG
  clear hG
  go_wp2_with fail
  go_loopw [8] (fun q wr => ∃ m : Nat, 1 ≤ m ∧ m ≤ n ∧ q = .int .i64 (m : Int) ∧ wr.heap[G]? = some (.cells (rowR m n).toArray 58 (0, 0)) ∧ Below G w1 wr) (fun q _ => n - (intOf q).toNat)
  case atStart => exact ⟨1, by omega, by omega, rfl, H2.out.1, H2.out.2⟩
  case round =>
    obtain ⟨m, hm1, hm2, rfl, hh, hb⟩ := hrel
    have H3 := Hd.mk (And.intro hh hb)
    clear hh hb
    by_cases hmn : m < n
    · have hmi : (m : Int) < (n : Int) := by omega
      have s1 := fun W => run_cut_from (P := Try.prog) (w := W) elF32 (some ⟨G, 0, none⟩) n n m hm2
      have ec : cutA (some ⟨G, 0, none⟩) n m = some ⟨G, m, none⟩ := by
        unfold cutA; rw [if_neg (by omega)]; simp only [Option.map_some, Addr.add]
        rw [if_neg (by omega)]; simp
      rw [ec] at s1
      have s2 := fun W => run_cut_to (P := Try.prog) (w := W) elF32 (some ⟨G, 0, none⟩) n n m hm2
      obtain ⟨q, hq⟩ : ∃ q, Nat.min m (n - m) = q := ⟨_, rfl⟩
      have hq3 : q ≤ m ∧ m + q ≤ n ∧ 0 < q := by
        have h5 : q = min m (n - m) := hq.symm
        omega
      have HN : Hd ((List.replicate q (Value.float .f32 one32)).length = Nat.min m (n - m)) := ⟨by rw [List.length_replicate, hq]⟩
      clear hq
      obtain ⟨hq1, hq2, hq0⟩ := hq3
      have hwr : IntKind.i64.wrap ((m : Int) + (q : Int)) = (m : Int) + (q : Int) := Go.IntWalk.i64_in _ (by omega)
      have HS : Hd (∀ j v, (List.replicate q (Value.float .f32 one32))[j]? = some v → wr.cell? ((⟨G, 0, none⟩ : Addr).add j) = some v) := ⟨fun j v hj => by
        rw [List.getElem?_replicate] at hj
        split at hj
        · rename_i hjm
          injection hj with hj
          subst hj
          have ea : (⟨G, 0, none⟩ : Addr).add j = ⟨G, j, none⟩ := by unfold Addr.add; split <;> simp_all
          rw [ea, cell_of_row _ _ _ _ _ _ H3.out.1, List.getElem?_toArray, rowR_get m n j (by omega)]
        · cases hj⟩
      have HF : Hd (m + (List.replicate q (Value.float .f32 one32)).length ≤ (rowR m n).length) := ⟨by rw [rowR_len m n hm2, List.length_replicate]; omega⟩
      have HO : Hd (∀ v ∈ List.replicate q (Value.float .f32 one32), v.oneCell' = true) := ⟨fun v hv => by rw [List.eq_of_mem_replicate hv]; rfl⟩
      clear ec
      go_wp2_with fail
      go_region_law (refine step_copy_splice rfl (.tmp 41) (.tmp 44) 59 59 rfl 58 Try.underlying59 (by kernel_rfl) (some ⟨G, m, none⟩) (some ⟨G, 0, none⟩) (n - m) (n - m) m n (by simp [Act.eval, Act.put]) (by simp [Act.eval, Act.put]) G m (rowR m n) 58 H3.out.1 _ HN.out (fun _ => ⟨rfl, _, rfl, HS.out⟩) HF.out HO.out G w1 H3.out.2.drew (Nat.le_refl G) ?_; intro w3 hh3 hb3)
      have hsp := rowR_more m n q hq2
      have H4 : Hd (w3.heap[G]? = some (.cells (rowR (m + q) n).toArray 58 (0, 0)) ∧ Below G w1 w3) := ⟨by have := hh3; rw [hsp] at this; exact this, hb3⟩
      clear hh3 hb3 hsp
      go_simp
      go_roundw
      case rel =>
        (repeat apply Exists.intro)
        exact ⟨⟨m + q, by omega, hq2, by go_num, H4.out.1, H4.out.2⟩, rfl⟩
      case measure => simp [intOf]; omega
    · have hmn2 : m = n := by omega
      subst hmn2
      go_wp2_with fail
      go_ret
      exact ⟨by rw [HGG.out]; rfl, by rw [HGG.out]; exact H3.out.1, by rw [HGG.out]; exact H3.out.2⟩
end Go.Proofs.Ytknpcbekaodlkaa
