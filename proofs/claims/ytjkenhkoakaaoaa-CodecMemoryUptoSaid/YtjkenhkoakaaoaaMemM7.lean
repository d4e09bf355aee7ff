/- CodecMemory: an argument of Puts, and the calls in the walk's words. -/
import Derived.Test.YtjkenhkoakaaoaaMemL7
import Derived.Test.YtjkenhkoakaaoaaArgPuts
namespace Go.Proofs.Ytjkenhkoakaaoaa
open Go.RowKit
set_option linter.unusedVariables false
/-- A Puts that came in. -/
structure Pu where
  Ab : Option Addr
  nb : Nat
  cb' : Nat
  v : Nat
  zn : Nat
  sv : Int
  Ap : Option Addr
  np : Nat
  cp : Nat
  At : Option Addr
  k : Nat
  ct : Nat
  bs : List Nat
  ps : List Nat
  ts : List ByteArray
structure Pu.Ok (w : World) (p : Pu) : Prop where
  rb : Rd w w.heap.size p.Ab p.nb (cb p.bs)
  rp : Rd w w.heap.size p.Ap p.np (cb p.ps)
  rt : Rd w w.heap.size p.At p.k (cs p.ts)
  lb : ∀ x ∈ p.bs, x < 256
  lp : ∀ x ∈ p.ps, x < 256
  hv : p.v < 2 ^ 64
  hz : p.zn < 2 ^ 64
  s1 : -9223372036854775808 ≤ p.sv
  s2 : p.sv ≤ 9223372036854775807
  hzn : zig p.sv = (p.zn : Int)
  nb : p.nb ≤ 1048576
  np : p.np ≤ 1048576
  k : p.k ≤ 1048576
  ss : ssum p.ts ≤ 1048576
/-- What the nine Puts write of it. -/
def Pu.wants (p : Pu) : List (List Nat) := Go.Proofs.Ytjkenhkoakaaoaa.wants p.bs p.v p.zn p.np p.ps p.k p.ts
theorem ssum_memM : ∀ (ts : List ByteArray) (t : ByteArray), t ∈ ts → t.size ≤ ssum ts
  | [], t, h => by cases h
  | a :: r, t, h => by
    have e2 : ssum (a :: r) = a.size + ssum r := by unfold ssum; rw [List.map_cons, List.sum_cons]
    rw [e2]
    rcases List.mem_cons.1 h with rfl | h
    · omega
    · have := ssum_memM r t h; omega
theorem tx_ssum : ∀ ts : List ByteArray, (∀ t ∈ ts, t.size < 2 ^ 64) → (tx ts).length ≤ ssum ts + 10 * ts.length
  | [], _ => by simp [tx, ssum]
  | a :: r, h => by
    have e2 : ssum (a :: r) = a.size + ssum r := by unfold ssum; rw [List.map_cons, List.sum_cons]
    have h1 := tx_ssum r fun t ht => h t (List.mem_cons_of_mem _ ht)
    have h2 := (uv_len a.size).2
    have e3 : (tx (a :: r)).length = (uv a.size).length + a.size + (tx r).length := by unfold tx; rw [List.flatMap_cons, List.length_append, List.length_append, sb_len]
    rw [e2, e3, List.length_cons]; omega
theorem Pu.wants_le {w : World} {p : Pu} (h : p.Ok w) : ∀ q ∈ p.wants, q.length ≤ 67108864 := by
  have hlt : ∀ t ∈ p.ts, t.size < 2 ^ 64 := fun t ht => by have := ssum_memM _ t ht; have := h.ss; omega
  have htl : p.ts.length = p.k := by have := h.rt.1; rwa [cs_len] at this
  have htx := tx_ssum p.ts hlt
  have hbl : p.bs.length = p.nb := by have := h.rb.1; rwa [cb_length] at this
  have hpl : p.ps.length = p.np := by have := h.rp.1; rwa [cb_length] at this
  have u1 := (uv_len p.v).2
  have u2 := (uv_len p.zn).2
  have u3 := (uv_len p.np).2
  have u4 := (uv_len p.k).2
  have k1 := h.nb; have k2 := h.np; have k3 := h.k; have k4 := h.ss
  intro q hq
  unfold Pu.wants Go.Proofs.Ytjkenhkoakaaoaa.wants at hq
  simp only [List.mem_cons, List.not_mem_nil, or_false] at hq
  rcases hq with rfl | rfl | rfl | rfl | rfl | rfl | rfl | rfl | rfl <;> simp only [List.length_append, fx_len] <;> omega
theorem puts_m {w W : World} (p : Pu) (h : p.Ok w) (b : Below w.heap.size w W) :
    Calls Try.prog 31 #[.slice p.Ab p.nb p.cb', .agg #[.slice p.Ab p.nb p.cb', .int .u64 (p.v : Int), .int .i64 p.sv, .slice p.Ap p.np p.cp, .slice p.At p.k p.ct], .slice p.Ap p.np p.cp, .slice p.At p.k p.ct] W fun e w' =>
      ∃ g x1 x2 x3 x4 x5 x6 x7 x8 x9, e = .returned (.slice (some ⟨g, 0, none⟩) 9 9) ∧ OwV W.heap.size w' (.slice (some ⟨g, 0, none⟩) 9 9) [x1, x2, x3, x4, x5, x6, x7, x8, x9] p.wants ∧ Below W.heap.size W w' := by
  have hlt : ∀ t ∈ p.ts, t.size < 2 ^ 64 := fun t ht => by have := ssum_memM _ t ht; have := h.ss; omega
  have htl : p.ts.length = p.k := by have := h.rt.1; rwa [cs_len] at this
  have htx := tx_ssum p.ts hlt
  refine (putsOf_own W p.Ab p.Ap p.At p.nb p.cb' p.np p.cp p.k p.ct W.heap.size p.v p.zn p.sv _ _ _ p.bs p.ps p.ts ((h.rb.below b).more b.size) ((h.rp.below b).more b.size) ((h.rt.below b).more b.size) (Nat.le_refl _) h.lb h.lp hlt h.hv h.hz h.s1 h.s2 h.hzn (by have := h.nb; have := h.np; have := h.k; have := h.ss; omega) (by have := h.k; omega)).mono ?_
  rintro e w' ⟨g, rfl, l, ho, hb⟩
  have hl : l.length = 9 := by have := congrArg List.length ho.ps; simpa [wants] using this
  obtain ⟨x1, x2, x3, x4, x5, x6, x7, x8, x9, rfl⟩ := nine l hl
  exact ⟨g, x1, x2, x3, x4, x5, x6, x7, x8, x9, rfl, ho.toV, hb⟩
end Go.Proofs.Ytjkenhkoakaaoaa
