/- What is of bulk at most 1048576 weighs little. -/
import Derived.Test.YtplpaipmkpjgfaaArgs
import Derived.Test.YtplpaipmkpjgfaaProg
import Derived.KernelRfl
namespace Go.Proofs.Ytplpaipmkpjgfaa
open Go.ChangeShapes Go.WideShapes Go.ChangeAt Go.RowKit
set_option linter.unusedVariables false
/-- From a type of the table only types of the table are reached, and none is greater than K bytes. -/
def stepOk (P : Program) (K : Nat) (t : TypeId) : Bool :=
  match P.underlying t with
  | some (.pointer e) => decide (e < P.types.size)
  | some (.slice e) => decide (e < P.types.size) && decide (P.bytesOf e ≤ K)
  | some (.struct fs) => fs.all fun f => decide (f.type < P.types.size)
  | some (.array _ e) => decide (e < P.types.size)
  | some (.map k e) => decide (e < P.types.size) && decide (P.bytesOf k + P.bytesOf e ≤ 2 * K)
  | _ => true
section
variable {H : Type} {P : Program} {K : Nat}
theorem bulk_lenE : ∀ (l : List (Lit × DataW H)), l.length ≤ Rows.uptoBulkEntries l
  | [] => by simp [Rows.uptoBulkEntries]
  | x :: r => by
    have h := bulk_lenE r
    have hp : 1 ≤ Rows.uptoBulkEntry x := by
      obtain ⟨k, d⟩ := x
      cases k <;> simp [Rows.uptoBulkEntry]
    simp only [Rows.uptoBulkEntries, List.length_cons]; omega
mutual
theorem weigh (hK : ∀ t, t < P.types.size → stepOk P K t = true) : ∀ (d : DataW H) (t : TypeId) (m : Nat), t < P.types.size → m ∈ d.weights P t → m ≤ Rows.uptoBulk d * (2 * K + 1)
  | .lit (.string bytes), t, m, ht, h => by
    simp only [DataW.weights, List.mem_singleton] at h
    simp only [Rows.uptoBulk]
    subst h
    rw [Nat.mul_add, Nat.mul_one]; omega
  | .lit (.bool _), t, m, ht, h => by simp [DataW.weights] at h
  | .lit (.int _ _), t, m, ht, h => by simp [DataW.weights] at h
  | .lit (.float _ _), t, m, ht, h => by simp [DataW.weights] at h
  | .nil, t, m, ht, h => by simp [DataW.weights] at h
  | .held _, t, m, ht, h => by simp [DataW.weights] at h
  | .iface _ _, t, m, ht, h => by simp [DataW.weights] at h
  | .ptr d, t, m, ht, h => by
    simp only [DataW.weights] at h
    split at h
    · rename_i e he
      have hs := hK t ht
      unfold stepOk at hs
      rw [he] at hs
      have := weigh hK d _ m (of_decide_eq_true hs) h
      simp only [Rows.uptoBulk]
      exact Nat.le_trans this (Nat.mul_le_mul_right _ (Nat.le_succ _))
    · simp at h
  | .slice elems spare, t, m, ht, h => by
    simp only [DataW.weights] at h
    simp only [Rows.uptoBulk]
    split at h
    · rename_i e he
      have hs := hK t ht
      unfold stepOk at hs
      rw [he] at hs
      simp only [Bool.and_eq_true, decide_eq_true_eq] at hs
      rcases List.mem_cons.1 h with h1 | h1
      · have l1 := bulk_len elems
        have l2 := bulk_len spare
        subst h1
        have a : (elems.length + spare.length) * P.bytesOf e ≤ (elems.length + spare.length) * (2 * K + 1) := Nat.mul_le_mul_left _ (by have := hs.2; omega)
        exact Nat.le_trans a (Nat.mul_le_mul_right _ (by omega))
      · rcases List.mem_append.1 h1 with h2 | h2
        · exact Nat.le_trans (weighAll hK elems _ m hs.1 h2) (Nat.mul_le_mul_right _ (by omega))
        · exact Nat.le_trans (weighAll hK spare _ m hs.1 h2) (Nat.mul_le_mul_right _ (by omega))
    · simp at h
  | .agg parts, t, m, ht, h => by
    simp only [DataW.weights] at h
    simp only [Rows.uptoBulk]
    split at h
    · rename_i fs he
      have hs := hK t ht
      unfold stepOk at hs
      rw [he] at hs
      refine Nat.le_trans (weighEach hK parts _ m (fun u hu => ?_) h) (Nat.mul_le_mul_right _ (by omega))
      obtain ⟨f, hf, rfl⟩ := List.mem_map.1 hu
      exact of_decide_eq_true (Array.all_eq_true'.1 hs f (by simpa using hf))
    · rename_i e he
      have hs := hK t ht
      unfold stepOk at hs
      rw [he] at hs
      exact Nat.le_trans (weighAll hK parts _ m (of_decide_eq_true hs) h) (Nat.mul_le_mul_right _ (by omega))
    · simp at h
  | .map entries, t, m, ht, h => by
    simp only [DataW.weights] at h
    simp only [Rows.uptoBulk]
    split at h
    · rename_i k e he
      have hs := hK t ht
      unfold stepOk at hs
      rw [he] at hs
      simp only [Bool.and_eq_true, decide_eq_true_eq] at hs
      rcases List.mem_cons.1 h with h1 | h1
      · have l1 := bulk_lenE entries
        subst h1
        have a : entries.length * (P.bytesOf k + P.bytesOf e) ≤ entries.length * (2 * K + 1) := Nat.mul_le_mul_left _ (by have := hs.2; omega)
        exact Nat.le_trans a (Nat.mul_le_mul_right _ (by omega))
      · exact Nat.le_trans (weighEntries hK entries _ m hs.1 h1) (Nat.mul_le_mul_right _ (by omega))
    · simp at h
theorem weighAll (hK : ∀ t, t < P.types.size → stepOk P K t = true) : ∀ (l : List (DataW H)) (e : TypeId) (m : Nat), e < P.types.size → m ∈ DataW.weightsAll P e l → m ≤ Rows.uptoBulkAll l * (2 * K + 1)
  | [], e, m, ht, h => by simp [DataW.weightsAll] at h
  | d :: r, e, m, ht, h => by
    simp only [DataW.weightsAll, List.mem_append] at h
    simp only [Rows.uptoBulkAll]
    rcases h with h1 | h1
    · exact Nat.le_trans (weigh hK d e m ht h1) (Nat.mul_le_mul_right _ (by omega))
    · exact Nat.le_trans (weighAll hK r e m ht h1) (Nat.mul_le_mul_right _ (by omega))
theorem weighEach (hK : ∀ t, t < P.types.size → stepOk P K t = true) : ∀ (l : List (DataW H)) (ts : List TypeId) (m : Nat), (∀ t ∈ ts, t < P.types.size) → m ∈ DataW.weightsEach P ts l → m ≤ Rows.uptoBulkAll l * (2 * K + 1)
  | [], ts, m, ht, h => by cases ts <;> simp [DataW.weightsEach] at h
  | d :: r, [], m, ht, h => by simp [DataW.weightsEach] at h
  | d :: r, t :: ts, m, ht, h => by
    simp only [DataW.weightsEach, List.mem_append] at h
    simp only [Rows.uptoBulkAll]
    rcases h with h1 | h1
    · exact Nat.le_trans (weigh hK d t m (ht t (List.mem_cons_self ..)) h1) (Nat.mul_le_mul_right _ (by omega))
    · exact Nat.le_trans (weighEach hK r ts m (fun u hu => ht u (List.mem_cons_of_mem _ hu)) h1) (Nat.mul_le_mul_right _ (by omega))
theorem weighEntries (hK : ∀ t, t < P.types.size → stepOk P K t = true) : ∀ (l : List (Lit × DataW H)) (e : TypeId) (m : Nat), e < P.types.size → m ∈ DataW.weightsEntries P e l → m ≤ Rows.uptoBulkEntries l * (2 * K + 1)
  | [], e, m, ht, h => by simp [DataW.weightsEntries] at h
  | x :: r, e, m, ht, h => by
    simp only [DataW.weightsEntries, List.mem_append] at h
    simp only [Rows.uptoBulkEntries]
    rcases h with h1 | h1
    · exact Nat.le_trans (weighEntry hK x e m ht h1) (Nat.mul_le_mul_right _ (by omega))
    · exact Nat.le_trans (weighEntries hK r e m ht h1) (Nat.mul_le_mul_right _ (by omega))
theorem weighEntry (hK : ∀ t, t < P.types.size → stepOk P K t = true) : ∀ (x : Lit × DataW H) (e : TypeId) (m : Nat), e < P.types.size → m ∈ DataW.weightsEntry P e x → m ≤ Rows.uptoBulkEntry x * (2 * K + 1)
  | (.string bytes, d), e, m, ht, h => by
    simp only [DataW.weightsEntry, List.mem_cons] at h
    simp only [Rows.uptoBulkEntry]
    rcases h with h1 | h1
    · subst h1
      refine Nat.le_trans ?_ (Nat.mul_le_mul_right (2 * K + 1) (show bytes.length ≤ bytes.length + Rows.uptoBulk d + 1 by omega))
      exact Nat.le_mul_of_pos_right _ (by omega)
    · exact Nat.le_trans (weigh hK d e m ht h1) (Nat.mul_le_mul_right _ (by omega))
  | (.bool _, d), e, m, ht, h => by
    simp only [DataW.weightsEntry] at h
    simp only [Rows.uptoBulkEntry]
    exact Nat.le_trans (weigh hK d e m ht h) (Nat.mul_le_mul_right _ (by omega))
  | (.int _ _, d), e, m, ht, h => by
    simp only [DataW.weightsEntry] at h
    simp only [Rows.uptoBulkEntry]
    exact Nat.le_trans (weigh hK d e m ht h) (Nat.mul_le_mul_right _ (by omega))
  | (.nil, d), e, m, ht, h => by
    simp only [DataW.weightsEntry] at h
    simp only [Rows.uptoBulkEntry]
    exact Nat.le_trans (weigh hK d e m ht h) (Nat.mul_le_mul_right _ (by omega))
  | (.float _ _, d), e, m, ht, h => by
    simp only [DataW.weightsEntry] at h
    simp only [Rows.uptoBulkEntry]
    exact Nat.le_trans (weigh hK d e m ht h) (Nat.mul_le_mul_right _ (by omega))
end
end
set_option maxRecDepth 100000 in
theorem steps_all : (List.range Try.prog.types.size).all (fun t => stepOk Try.prog 1024 t) = true := by kernel_rfl
theorem steps_ok (t : TypeId) (h : t < Try.prog.types.size) : stepOk Try.prog 1024 t = true := List.all_eq_true.1 steps_all t (List.mem_range.2 h)
/-- What weighs at the second form. -/
theorem weigh_upto {H : Type} {ds : List (DataW H)} {i : Nat} {d : DataW H} {t : TypeId} (ht : t < Try.prog.types.size) (hk : Rows.uptoSmall H ds = true) (hd : ds[i]? = some d) : ∀ m ∈ d.weights Try.prog t, m ≤ 140737488351232 := fun m hm => by
  have hb : Rows.uptoBulkAll ds ≤ 1048576 := of_decide_eq_true hk
  have h1 := bulk_part hd
  have h2 := weigh steps_ok d t m ht hm
  have h3 : Rows.uptoBulk d * (2 * 1024 + 1) ≤ 1048576 * (2 * 1024 + 1) := Nat.mul_le_mul_right _ (by omega)
  omega
end Go.Proofs.Ytplpaipmkpjgfaa
