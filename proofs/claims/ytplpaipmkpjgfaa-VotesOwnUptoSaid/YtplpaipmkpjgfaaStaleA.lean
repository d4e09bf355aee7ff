/- Contracts of SameInts (of equal numbers), the reference's Stale, the program's of and Stale. -/
import Derived.Test.YtplpaipmkpjgfaaSeenArg
import Derived.Deep.RegionWith
import Derived.Laws.StructEq
import Derived.Laws.NewFold
import Derived.BigQuiet
import Derived.Deep.QuietTactic
import Derived.Deep.RegionHeld3
import Derived.StillTailTactics
import Derived.Deep.OwnRows
namespace Go.Proofs.Ytplpaipmkpjgfaa
open Go.RowKit
set_option linter.unusedVariables false
set_option linter.unusedSimpArgs false
def iz (l : List Int) : List Value := l.map (Value.int .i64)
theorem iz_len (l : List Int) : (iz l).length = l.length := List.length_map _
theorem iz_append (a b : List Int) : iz (a ++ b) = iz a ++ iz b := List.map_append
theorem iz_one (l : List Int) : ∀ u ∈ iz l, u.oneCell' = true := by
  intro u hu; obtain ⟨i, _, rfl⟩ := List.mem_map.1 hu; rfl
theorem iz_get (l : List Int) (k : Nat) (h : k < l.length) : (iz l)[k]? = some (.int .i64 (l.getD k 0)) := by
  unfold iz; rw [List.getElem?_map, List.getD_eq_getElem?_getD, List.getElem?_eq_getElem h]; rfl
theorem infoI : (Try.prog.info? 3).map (fun i => (i.zero, i.size, i.bytes)) = some (some (.int .i64 0), 1, 8) := by kernel_rfl
theorem elI : El Try.prog 25 3 8 (.int .i64 0) := ⟨Try.underlying25, info_parts infoI, rfl⟩
theorem below_drewN {B : Nat} {w w' : World} (h : Below B w w') (n : Nat) : Below B w (w'.drewN n) := ⟨h.os, h.tape, h.output, h.size, h.block⟩
theorem below_undrewN {B n : Nat} {w w' : World} (h : Below B (w.drewN n) w') : Below B w w' := ⟨h.os, h.tape, h.output, h.size, h.block⟩
set_option maxHeartbeats 1000000 in
theorem sameInts_any (w : World) (B n c1 c2 : Nat) (A1 A2 : Option Addr) (l : List Int) (h1 : Rd w B A1 n (iz l)) (h2 : Rd w B A2 n (iz l)) (hB : B ≤ w.heap.size) (hn : n ≤ 140737488355328) :
    Calls Try.prog 13 #[.slice A1 n c1, .slice A2 n c2] w fun e w' => e = .returned (.bool true) ∧ Below w.heap.size w w' := by
  have hl : l.length = n := by have := h1.1; rwa [iz_len] at this
  have HH : Hd (Rd w B A1 n (iz l) ∧ Rd w B A2 n (iz l) ∧ B ≤ w.heap.size ∧ l.length = n) := ⟨h1, h2, hB, hl⟩
  clear h1 h2 hB hl
  go_enter Try.func13, Try.ntmps13
  go_wp2_with fail
  go_loopw [5] (fun i wr => ∃ k : Nat, k ≤ n ∧ i = .int .i64 (k : Int) ∧ Below w.heap.size w wr) (fun i _ => n - (intOf i).toNat)
  case atStart => exact ⟨0, by omega, rfl, Below.refl _ _⟩
  case round =>
    obtain ⟨k, hk, rfl, hb⟩ := hrel
    have HB := Hd.mk hb
    clear hb
    by_cases hlt : k < n
    · have hki : (k : Int) < (n : Int) := by omega
      obtain ⟨g, off, u, hA, _, hx, hc⟩ := (HH.out.1.below (HB.out.mono HH.out.2.2.1)).at_ hlt
      obtain ⟨g2, off2, u2, hA2, _, hx2, hc2⟩ := (HH.out.2.1.below (HB.out.mono HH.out.2.2.1)).at_ hlt
      rw [iz_get _ _ (by rw [HH.out.2.2.2]; exact hlt)] at hx hx2
      injection hx with hx
      injection hx2 with hx2
      subst hx hx2 hA hA2
      generalize (l.getD k 0 : Int) = x at hc hc2
      have hq : (x != x) = false := by simp
      go_wp2_with fail
      go_quiet (fail)
      go_wp2_with fail
      go_roundw
      case rel => exact ⟨k + 1, by omega, by go_num, below_drewN HB.out _⟩
      case measure => simp [intOf]; omega
    · have hkn : k = n := by omega
      subst hkn
      go_wp2_with fail
      go_ret
      exact ⟨rfl, HB.out⟩
/-- 'append(s, x)' where '[]T{x}' lies built: from the world ahead of it (whatever was drawn). -/
theorem push_at {P : Program} {t e bytes : Nat} {z : Value} {ops : Array Oper} {rest : List Oper} {o : Oper} {a : Act} {w0 : World} {nq : Nat} {Q : Exit → Act → World → Prop} (E : El P t e bytes z) (hgd : o.guard = none) (s x : Operand) (ho : o.op = .call { callee := .builtin .append, args := #[s, x], argTypes := #[t, t] })
    (base : Nat) (v : Value) (n : Nat) (xs : List Value) (u : Value) (hs : a.eval s = v) (hx : a.eval x = .slice (some ⟨w0.heap.size, 0, none⟩) 1 1) (h1 : u.oneCell' = true) (hown : w0.ownsRow base e 1 v n xs)
    (h63 : n + 1 ≤ maxLen) (hby : (n + 1) * bytes ≤ 140737488355328) (hbase : base ≤ w0.heap.size)
    (h : ∀ v' w', Onto w0 w' base e v v' (n + 1) (xs ++ [u]) → wpList P ops Q rest (a.put o.dst v') w') :
    wpList P ops Q (o :: rest) a ((w0.drewN nq).alloc (.cells #[u] e)) := by
  have hO : (w0.drewN nq).ownsRow base e 1 v n xs := hown
  refine wpList_app E hgd s x ho base v n xs hs (hO.alloc _) (w0.heap.size + 1) (some ⟨w0.heap.size, 0, none⟩) 1 1 [u] hx ?_ (by simpa using h1) h63 hby (by simp; exact Nat.le_succ_of_le hbase) fun v' w' g1 => ?_
  · exact rd_lit (w := w0.drewN nq) (e := e) [u]
  · refine h v' w' ⟨g1.1, ?_, fun k hk => ?_⟩
    · have := (World.grownBy_alloc (w0.drewN nq) (.cells #[u] e) v.ownBlock).trans g1.2.1
      exact ⟨this.os, this.tape, this.output, this.size, this.block⟩
    · rcases g1.2.2 k hk with h1 | h1
      · exact .inl h1
      · simp at h1; exact .inr (by omega)
theorem push_at0 {P : Program} {t e bytes : Nat} {z : Value} {ops : Array Oper} {rest : List Oper} {o : Oper} {a : Act} {w0 : World} {Q : Exit → Act → World → Prop} (E : El P t e bytes z) (hgd : o.guard = none) (s x : Operand) (ho : o.op = .call { callee := .builtin .append, args := #[s, x], argTypes := #[t, t] })
    (base : Nat) (v : Value) (n : Nat) (xs : List Value) (u : Value) (hs : a.eval s = v) (N : Nat) (hN : w0.heap.size = N) (hx : a.eval x = .slice (some ⟨N, 0, none⟩) 1 1) (h1 : u.oneCell' = true) (hown : w0.ownsRow base e 1 v n xs)
    (h63 : n + 1 ≤ maxLen) (hby : (n + 1) * bytes ≤ 140737488355328) (hbase : base ≤ w0.heap.size)
    (h : ∀ v' w', Onto w0 w' base e v v' (n + 1) (xs ++ [u]) → wpList P ops Q rest (a.put o.dst v') w') :
    wpList P ops Q (o :: rest) a (w0.alloc (.cells #[u] e)) :=
  push_at (w0 := w0) (nq := 0) E hgd s x ho base v n xs u hs (by rw [hx, hN]) h1 hown h63 hby hbase h
/-- Does the place show the writing? -/
def showsP (x : Sn) (ep ct sz : Int) : Bool := (x.kind == 2) && ((x.hd.epoch == ep) && (x.hd.count == ct)) && (x.hd.size == sz)
/-- Is the place stale? -/
def staleB (vk ep ct sz : Int) (x : Sn) : Bool := (vk == 1) && !showsP x ep ct sz || (vk == 2) && (x.kind != 1)
def staleP (S : Nat → Sn) (vk ep ct sz : Int) (n : Nat) : List Int := ((List.range n).filter fun i => staleB vk ep ct sz (S i)).map Int.ofNat
theorem staleP_next (S : Nat → Sn) (vk ep ct sz : Int) (n : Nat) : staleP S vk ep ct sz (n + 1) = if staleB vk ep ct sz (S n) = true then staleP S vk ep ct sz n ++ [(n : Int)] else staleP S vk ep ct sz n := by
  unfold staleP
  rw [List.range_succ, List.filter_append, List.map_append]
  cases h : staleB vk ep ct sz (S n) <;> simp [h]
theorem staleP_le (S : Nat → Sn) (vk ep ct sz : Int) (n : Nat) : (staleP S vk ep ct sz n).length ≤ n := by
  unfold staleP; rw [List.length_map]; exact Nat.le_trans (List.length_filter_le _ _) (by simp)
/-- The cells of a place that are looked at. -/
theorem View.at_ {w : World} {Q n : Nat} {A : Option Addr} {S : Nat → Sn} (h : View w Q A n S) {r : Nat} (hr : r < n) : ∃ g off, A = some ⟨g, off, none⟩ ∧ g < Q ∧ w.cell? ⟨g, off + r * 19, none⟩ = some (.int .i64 (S r).kind) ∧ w.cell? ⟨g, off + r * 19 + 13, none⟩ = some (.int .i64 (S r).hd.size) ∧
    w.cell? ⟨g, off + r * 19 + 15, none⟩ = some (.int .i64 (S r).hd.epoch) ∧ w.cell? ⟨g, off + r * 19 + 16, none⟩ = some (.int .i64 (S r).hd.count) ∧ w.cell? ⟨g, off + r * 19 + 17, none⟩ = some (S r).bl ∧ w.rangeAt g (off + r * 19) (S r).cells ∧ SnOk (S r) := by
  obtain ⟨g, off, e, hg, hc, hok⟩ := h r hr
  exact ⟨g, off, e, hg, hc 0 _ rfl, hc 13 _ rfl, hc 15 _ rfl, hc 16 _ rfl, hc 17 _ rfl, hc, hok⟩
end Go.Proofs.Ytplpaipmkpjgfaa
