/- Contract of wire.empty. -/
import Derived.Test.YtbcmjjcbjojakaaTellP
import Derived.Test.YtbcmjjcbjojakaaSameRq
namespace Go.Proofs.Ytbcmjjcbjojakaa
open Go.RowKit
set_option linter.unusedVariables false
/-- An answer's value. -/
def anV (kind code : Int) (tag : Nat) (A A2 A3 : Option Addr) (n c n2 c2 n3 c3 : Nat) (next : ByteArray) (more : Bool) (ge gc size h1 h2 h3 h4 : Int) : Value :=
  .agg #[.int .i64 kind, .int .u64 (tag : Int), .int .i64 code, .slice A n c, .slice A2 n2 c2, .slice A3 n3 c3, .string next, .bool more, .int .i64 ge, .int .i64 gc, .int .i64 size, .int .i64 h1, .int .i64 h2, .int .i64 h3, .int .i64 h4]
def emptyP (b g k p h : Bool) (n n2 n3 : Nat) (next : ByteArray) (more : Bool) (ge gc size h1 h2 h3 h4 : Int) : Prop :=
  (b = false → n = 0) ∧ (g = false → ge = 0 ∧ gc = 0 ∧ size = 0) ∧ (k = false → n2 = 0) ∧ (p = false → n3 = 0 ∧ next = emS ∧ more = false) ∧ (h = false → h1 = 0 ∧ h2 = 0 ∧ h3 = 0 ∧ h4 = 0)
set_option maxHeartbeats 4000000 in
theorem empty_any (w : World) (kind code : Int) (tag : Nat) (A A2 A3 : Option Addr) (n c n2 c2 n3 c3 : Nat) (next : ByteArray) (more : Bool) (ge gc size h1 h2 h3 h4 : Int) (b g k p h : Bool) :
    Calls Try.prog 98 #[anV kind code tag A A2 A3 n c n2 c2 n3 c3 next more ge gc size h1 h2 h3 h4, .bool b, .bool g, .bool k, .bool p, .bool h] w fun e w' => (∃ r : Bool, e = .returned (.bool r) ∧ Hd (r = true ↔ emptyP b g k p h n n2 n3 next more ge gc size h1 h2 h3 h4)) ∧ Below w.heap.size w w' := by
  have HA : Hd (∀ o, Below w.heap.size w (w.alloc o)) := ⟨fun o => (Below.refl _ w).alloc (Nat.le_refl _) _⟩
  unfold anV
  go_enter Try.func98, Try.ntmps98
  by_cases hn : next = emS
  · subst hn
    have e1 : (emS.toList == (⟨#[]⟩ : ByteArray).toList) = true := by decide +kernel
    unfold emS at e1 ⊢
    go_wp2_with fail
    all_goals (go_ret; refine ⟨⟨_, rfl, ⟨?_⟩⟩, HA.out _⟩; unfold emptyP emS; simp_all; try omega)
  · have e1 : (next.toList == (⟨#[]⟩ : ByteArray).toList) = false := by
      rw [Bool.eq_false_iff]; intro h0; exact hn (str_inj (beq_iff_eq.1 h0))
    go_wp2_with fail
    all_goals (go_ret; refine ⟨⟨_, rfl, ⟨?_⟩⟩, HA.out _⟩; unfold emptyP; simp_all; try omega)
end Go.Proofs.Ytbcmjjcbjojakaa
