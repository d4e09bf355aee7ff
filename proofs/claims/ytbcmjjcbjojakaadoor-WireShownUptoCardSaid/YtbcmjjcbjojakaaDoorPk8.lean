/- Put together of: StrmP MsgA. -/
import Derived.Test.YtbcmjjcbjojakaaDoorPk2
import Derived.Test.YtbcmjjcbjojakaaDoorPk4
import Derived.Test.YtbcmjjcbjojakaaDoorPk6
import Derived.Test.YtbcmjjcbjojakaaDoorPk7
section
namespace Go.Proofs.YtbcmjjcbjojakaaDoor
open Go.RowKit
set_option linter.unusedVariables false
/-- What the head of some bytes says. -/
inductive Ck where
  | wait
  | bad (e : Int)
  | ok (last : Bool) (n : Nat)
def seg (b : List Nat) (i n : Nat) : List Nat := (b.drop i).take n
/-- How many bytes the chunk has. -/
def ckN (b : List Nat) : Nat := b.getD 1 0 + 256 * b.getD 2 0
/-- Is the chunk's head odd? -/
def ckOdd (k : Nat) (b : List Nat) : Prop := (b.getD 0 0 ≠ 1 ∧ b.getD 0 0 ≠ 2) ∨ ckN b = 0 ∨ 16384 < ckN b ∨ (b.getD 0 0 = 1 ∧ (ckN b ≠ 16384 ∨ k = 2047))
instance (k : Nat) (b : List Nat) : Decidable (ckOdd k b) := by unfold ckOdd; infer_instance
def ckP (s k : Nat) (b : List Nat) : Ck :=
  if b.length < 7 then .wait
  else if Crc.more 0 (b.take 3) ≠ le256 (seg b 3 4) then .bad 302
  else if ckOdd k b then .bad 301
  else if b.length < ckN b + 11 then .wait
  else if Crc.more s (seg b 7 (ckN b)) ≠ le256 (seg b (7 + ckN b) 4) then .bad 302
  else .ok (decide (b.getD 0 0 = 2)) (ckN b)
theorem seg_app {a : List Nat} {i n : Nat} (b : List Nat) (h : i + n ≤ a.length) : seg (a ++ b) i n = seg a i n := by
  unfold seg; rw [List.drop_append_of_le_length (by omega), List.take_append_of_le_length (by rw [List.length_drop]; omega)]
theorem getD_app {a : List Nat} {i : Nat} (b : List Nat) (h : i < a.length) : (a ++ b).getD i 0 = a.getD i 0 := by
  rw [List.getD_eq_getElem?_getD, List.getD_eq_getElem?_getD, List.getElem?_append_left h]
theorem ckN_app {a : List Nat} (b : List Nat) (h : 7 ≤ a.length) : ckN (a ++ b) = ckN a := by
  unfold ckN; rw [getD_app b (by omega), getD_app b (by omega)]
theorem ckOdd_app {a : List Nat} (k : Nat) (b : List Nat) (h : 7 ≤ a.length) : ckOdd k (a ++ b) ↔ ckOdd k a := by
  unfold ckOdd; rw [ckN_app b h, getD_app b (by omega)]
/-- What was decided stays decided. -/
theorem ckP_app {s k : Nat} {a : List Nat} (b : List Nat) (h : ckP s k a ≠ .wait) : ckP s k (a ++ b) = ckP s k a := by
  unfold ckP at h ⊢
  by_cases h7 : a.length < 7
  · rw [if_pos h7] at h; exact absurd rfl h
  rw [if_neg h7] at h ⊢
  rw [if_neg (by rw [List.length_append]; omega), List.take_append_of_le_length (by omega), seg_app b (by omega), ckN_app b (by omega), getD_app b (by omega)]
  simp only [ckOdd_app k b (show 7 ≤ a.length by omega)]
  split
  · rfl
  rename_i h1
  rw [if_neg h1] at h
  split
  · rfl
  rename_i h2
  rw [if_neg h2] at h
  by_cases h3 : a.length < ckN a + 11
  · rw [if_pos h3] at h; exact absurd rfl h
  rw [if_neg h3, if_neg (by rw [List.length_append]; omega), seg_app b (by omega), seg_app b (by omega)]
theorem ckP_ok {s k : Nat} {a : List Nat} {l : Bool} {n : Nat} (h : ckP s k a = .ok l n) : n + 11 ≤ a.length ∧ 0 < n ∧ n ≤ 16384 ∧ n = ckN a ∧ ckOdd k a = False ∧ l = decide (a.getD 0 0 = 2) ∧
    Crc.more 0 (a.take 3) = le256 (seg a 3 4) ∧ Crc.more s (seg a 7 n) = le256 (seg a (7 + n) 4) ∧ (l = false → a.getD 0 0 = 1 ∧ n = 16384 ∧ k ≠ 2047) := by
  unfold ckP at h
  split at h
  · cases h
  split at h
  · cases h
  rename_i h1
  split at h
  · cases h
  rename_i h2
  split at h
  · cases h
  rename_i h3
  split at h
  · cases h
  rename_i h4
  injection h with e1 e2
  subst e2
  have h5 := h2
  unfold ckOdd at h5
  refine ⟨by omega, by omega, by omega, rfl, eq_false h2, e1.symm, by omega, by omega, fun hl => ?_⟩
  subst hl
  have := of_decide_eq_false e1
  omega
/-- A message under way: its content, the sum, its chunks, how many bytes. -/
structure Mid where
  c : List Nat
  s : Nat
  k : Nat
  p : Nat
def mid0 : Mid := ⟨[], 0, 0, 0⟩
def Mid.next (m : Mid) (b : List Nat) (n : Nat) : Mid := ⟨m.c ++ seg b 7 n, Crc.more m.s (seg b 7 n), m.k + 1, m.p + (n + 11)⟩
structure Out (M : Type) where
  ms : List M
  fl : Int
  mid : Mid
  rest : List Nat
def Out.pre {M : Type} (x : M) (o : Out M) : Out M := ⟨x :: o.ms, o.fl, o.mid, o.rest⟩
def goF {M : Type} (rd : List Nat → Option M) : Nat → Mid → List Nat → Out M
  | 0, m, b => ⟨[], 0, m, b⟩
  | f + 1, m, b =>
    match ckP m.s m.k b with
    | .wait => ⟨[], 0, m, b⟩
    | .bad e => ⟨[], e, m, b⟩
    | .ok false n => goF rd f (m.next b n) (b.drop (n + 11))
    | .ok true n =>
      match rd (m.next b n).c with
      | none => ⟨[], 300, mid0, b.drop (n + 11)⟩
      | some x => (goF rd f mid0 (b.drop (n + 11))).pre x
/-- The bytes gone through. -/
def go {M : Type} (rd : List Nat → Option M) (m : Mid) (b : List Nat) : Out M := goF rd b.length m b
section
variable {M : Type} {rd : List Nat → Option M}
theorem ckP_nil (s k : Nat) : ckP s k [] = .wait := by unfold ckP; rw [if_pos (by simp)]
theorem goF_len : ∀ (f g : Nat) (m : Mid) (b : List Nat), b.length ≤ f → b.length ≤ g → goF rd f m b = goF rd g m b
  | 0, 0, m, b, _, _ => rfl
  | 0, g + 1, m, b, h1, h2 => by
    have : b = [] := List.eq_nil_of_length_eq_zero (by omega)
    subst this
    unfold goF; rw [ckP_nil]
  | f + 1, 0, m, b, h1, h2 => by
    have : b = [] := List.eq_nil_of_length_eq_zero (by omega)
    subst this
    unfold goF; rw [ckP_nil]
  | f + 1, g + 1, m, b, h1, h2 => by
    unfold goF
    split
    · rfl
    · rfl
    · rename_i n hc
      have := (ckP_ok hc).1
      exact goF_len f g _ _ (by rw [List.length_drop]; omega) (by rw [List.length_drop]; omega)
    · rename_i n hc
      have := (ckP_ok hc).1
      split
      · rfl
      · rw [goF_len f g _ _ (by rw [List.length_drop]; omega) (by rw [List.length_drop]; omega)]
theorem go_wait {m : Mid} {b : List Nat} (h : ckP m.s m.k b = .wait) : go rd m b = ⟨[], 0, m, b⟩ := by
  unfold go
  cases hb : b.length with
  | zero => rfl
  | succ f => unfold goF; rw [h]
theorem len_pos {m : Mid} {b : List Nat} (h : ckP m.s m.k b ≠ .wait) : ∃ f, b.length = f + 1 := by
  cases hb : b.length with
  | zero => have : b = [] := List.eq_nil_of_length_eq_zero hb; subst this; exact absurd (ckP_nil _ _) h
  | succ f => exact ⟨f, rfl⟩
theorem go_bad {m : Mid} {b : List Nat} {e : Int} (h : ckP m.s m.k b = .bad e) : go rd m b = ⟨[], e, m, b⟩ := by
  obtain ⟨f, hf⟩ := len_pos (m := m) (b := b) (by rw [h]; exact fun h => by cases h)
  unfold go; rw [hf]; unfold goF; rw [h]
theorem go_more {m : Mid} {b : List Nat} {n : Nat} (h : ckP m.s m.k b = .ok false n) : go rd m b = go rd (m.next b n) (b.drop (n + 11)) := by
  obtain ⟨f, hf⟩ := len_pos (m := m) (b := b) (by rw [h]; exact fun h => by cases h)
  have := (ckP_ok h).1
  unfold go; rw [hf]; conv => lhs; unfold goF
  rw [h]
  exact goF_len _ _ _ _ (by rw [List.length_drop]; omega) (by rw [List.length_drop]; omega)
theorem go_none {m : Mid} {b : List Nat} {n : Nat} (h : ckP m.s m.k b = .ok true n) (hr : rd (m.next b n).c = none) : go rd m b = ⟨[], 300, mid0, b.drop (n + 11)⟩ := by
  obtain ⟨f, hf⟩ := len_pos (m := m) (b := b) (by rw [h]; exact fun h => by cases h)
  unfold go; rw [hf]; unfold goF; rw [h]; simp only; rw [hr]
theorem go_some {m : Mid} {b : List Nat} {n : Nat} {x : M} (h : ckP m.s m.k b = .ok true n) (hr : rd (m.next b n).c = some x) : go rd m b = (go rd mid0 (b.drop (n + 11))).pre x := by
  obtain ⟨f, hf⟩ := len_pos (m := m) (b := b) (by rw [h]; exact fun h => by cases h)
  have := (ckP_ok h).1
  unfold go; rw [hf]; conv => lhs; unfold goF
  rw [h]; simp only; rw [hr]; simp only
  rw [goF_len f (b.drop (n + 11)).length _ _ (by rw [List.length_drop]; omega) (Nat.le_refl _)]
theorem ckP_bad {s k : Nat} {a : List Nat} {e : Int} (h : ckP s k a = .bad e) : e = 302 ∨ e = 301 := by
  unfold ckP at h
  split at h
  · cases h
  split at h
  · injection h with h; exact .inl h.symm
  split at h
  · injection h with h; exact .inr h.symm
  split at h
  · cases h
  split at h
  · injection h with h; exact .inl h.symm
  · cases h
/-- How a walk over the bytes goes. -/
theorem go_ind {P : Mid → List Nat → Prop}
    (wait : ∀ m b, ckP m.s m.k b = .wait → P m b) (bad : ∀ m b e, ckP m.s m.k b = .bad e → P m b)
    (more : ∀ m b n, ckP m.s m.k b = .ok false n → P (m.next b n) (b.drop (n + 11)) → P m b)
    (none_ : ∀ m b n, ckP m.s m.k b = .ok true n → rd (m.next b n).c = none → P m b)
    (some_ : ∀ m b n x, ckP m.s m.k b = .ok true n → rd (m.next b n).c = some x → P mid0 (b.drop (n + 11)) → P m b) : ∀ m b, P m b := by
  have : ∀ (f : Nat) (m : Mid) (b : List Nat), b.length ≤ f → P m b := by
    intro f
    induction f with
    | zero =>
      intro m b hb
      have : b = [] := List.eq_nil_of_length_eq_zero (by omega)
      subst this
      exact wait m [] (ckP_nil _ _)
    | succ f ih =>
      intro m b hb
      cases h : ckP m.s m.k b with
      | wait => exact wait m b h
      | bad e => exact bad m b e h
      | ok l n =>
        have h11 := (ckP_ok h).1
        cases l with
        | false => exact more m b n h (ih _ _ (by rw [List.length_drop]; omega))
        | true =>
          cases hr : rd (m.next b n).c with
          | none => exact none_ m b n h hr
          | some x => exact some_ m b n x h hr (ih _ _ (by rw [List.length_drop]; omega))
  exact fun m b => this b.length m b (Nat.le_refl _)
theorem next_app {m : Mid} {a : List Nat} {n : Nat} (b : List Nat) (h : n + 11 ≤ a.length) : m.next (a ++ b) n = m.next a n := by
  unfold Mid.next; rw [seg_app b (by omega)]
/-- Bytes that come in two pieces. -/
theorem go_app (b : List Nat) : ∀ (m : Mid) (a : List Nat),
    ((go rd m a).fl = 0 → go rd m (a ++ b) = ⟨(go rd m a).ms ++ (go rd (go rd m a).mid ((go rd m a).rest ++ b)).ms, (go rd (go rd m a).mid ((go rd m a).rest ++ b)).fl, (go rd (go rd m a).mid ((go rd m a).rest ++ b)).mid, (go rd (go rd m a).mid ((go rd m a).rest ++ b)).rest⟩) ∧
    ((go rd m a).fl ≠ 0 → (go rd m (a ++ b)).ms = (go rd m a).ms ∧ (go rd m (a ++ b)).fl = (go rd m a).fl) := by
  refine go_ind (rd := rd) ?_ ?_ ?_ ?_ ?_
  · intro m a h
    rw [go_wait h]
    exact ⟨fun _ => by simp, fun h0 => absurd rfl h0⟩
  · intro m a e h
    have he := ckP_bad h
    rw [go_bad h, go_bad (b := a ++ b) (e := e) (by rw [ckP_app b (by rw [h]; exact fun h => by cases h), h])]
    exact ⟨fun h0 => absurd h0 (by simp only; omega), fun _ => ⟨rfl, rfl⟩⟩
  · intro m a n h ih
    have h1 : ckP m.s m.k (a ++ b) = .ok false n := by rw [ckP_app b (by rw [h]; exact fun h => by cases h), h]
    have h2 := (ckP_ok h).1
    rw [go_more h, go_more h1, next_app b h2, List.drop_append_of_le_length h2]
    exact ih
  · intro m a n h hr
    have h1 : ckP m.s m.k (a ++ b) = .ok true n := by rw [ckP_app b (by rw [h]; exact fun h => by cases h), h]
    have h2 := (ckP_ok h).1
    rw [go_none h hr, go_none h1 (by rw [next_app b h2]; exact hr)]
    exact ⟨fun h0 => absurd h0 (by simp only; omega), fun _ => ⟨rfl, rfl⟩⟩
  · intro m a n x h hr ih
    have h1 : ckP m.s m.k (a ++ b) = .ok true n := by rw [ckP_app b (by rw [h]; exact fun h => by cases h), h]
    have h2 := (ckP_ok h).1
    rw [go_some h hr, go_some h1 (by rw [next_app b h2]; exact hr), List.drop_append_of_le_length h2]
    unfold Out.pre
    simp only
    refine ⟨fun h0 => ?_, fun h0 => ?_⟩
    · rw [ih.1 h0]; rfl
    · exact ⟨by rw [(ih.2 h0).1], (ih.2 h0).2⟩
/-- Each message took twenty bytes at least, and what is not gone through is short. -/
theorem go_len : ∀ (m : Mid) (b : List Nat), (go rd m b).ms.length * 12 + (go rd m b).rest.length ≤ b.length := by
  refine go_ind (rd := rd) ?_ ?_ ?_ ?_ ?_
  · intro m b h; rw [go_wait h]; simp
  · intro m b e h; rw [go_bad h]; simp
  · intro m b n h ih
    rw [go_more h]
    have := (ckP_ok h).1
    rw [List.length_drop] at ih; omega
  · intro m b n h hr
    rw [go_none h hr]
    have := (ckP_ok h).1
    simp only [List.length_drop, List.length_nil]; omega
  · intro m b n x h hr ih
    rw [go_some h hr]
    have := (ckP_ok h).1
    have := (ckP_ok h).2.1
    unfold Out.pre
    simp only [List.length_cons]
    rw [List.length_drop] at ih; omega
/-- How many bytes are held. -/
def Out.held (o : Out M) : Nat := if o.fl = 0 then o.mid.p + o.rest.length else 0
end
end Go.Proofs.YtbcmjjcbjojakaaDoor
end
section
namespace Go.Proofs.YtbcmjjcbjojakaaDoor
open Go.RowKit
set_option linter.unusedVariables false
theorem if_four {b : Bool} {p q x y : List Nat} : (if b = true then p ++ q ++ x ++ y else []) = (if b = true then p else []) ++ ((if b = true then q else []) ++ ((if b = true then x else []) ++ (if b = true then y else []))) := by cases b <;> simp
theorem if_three {b : Bool} {p q x : List Nat} : (if b = true then p ++ q ++ x else []) = (if b = true then p else []) ++ ((if b = true then q else []) ++ (if b = true then x else [])) := by cases b <;> simp
theorem ut_txts (l : List ByteArray) : ut l = txts (l.map sb) := by
  unfold ut txts rws tx
  rw [List.length_map, List.flatMap_map]
  congr 2
  funext t
  unfold blk; rw [sb_len]
/-- An answer's content, part by part. -/
theorem anC_flat (a : An) : anC a = fx 1 a.kind.toNat ++ (fx 8 a.tag ++ (uv a.code.toNat ++ ((if decide (a.kind = 8) = true then uz a.h1 else []) ++ ((if decide (a.kind = 8) = true then uz a.h2 else []) ++ ((if decide (a.kind = 8) = true then uz a.h3 else []) ++ ((if decide (a.kind = 8) = true then uz a.h4 else []) ++
    ((if qBody a.kind a.code = true then blk a.body else []) ++ ((if qGen a.kind a.code = true then uz a.ge else []) ++ ((if qGen a.kind a.code = true then uz a.gc else []) ++ ((if qGen a.kind a.code = true then uz a.size else []) ++ ((if qKeys a.kind a.code = true then txts (a.keys.map sb) else []) ++
    ((if qPage a.kind a.code = true then txts (a.groups.map sb) else []) ++ ((if qPage a.kind a.code = true then blk (sb a.next) else []) ++ (if qPage a.kind a.code = true then fx 1 (if a.more = true then 1 else 0) else [])))))))))))))) := by
  have e0 : (if a.kind = 8 then uz a.h1 ++ uz a.h2 ++ uz a.h3 ++ uz a.h4 else []) = (if decide (a.kind = 8) = true then uz a.h1 ++ uz a.h2 ++ uz a.h3 ++ uz a.h4 else []) := by simp only [decide_eq_true_iff]
  have hp : ∀ (p : Prop) [Decidable p] (b : Bool) (l : List Nat), (b = true ↔ p) → (if p then l else []) = (if b = true then l else []) := fun p _ b l h => by
    by_cases hq : p
    · rw [if_pos hq, if_pos (h.2 hq)]
    · rw [if_neg hq, if_neg (fun g => hq (h.1 g))]
  have q1 : qBody a.kind a.code = true ↔ tBody a := by unfold qBody tBody; exact decide_eq_true_iff
  have q2 : qGen a.kind a.code = true ↔ tGen a := by unfold qGen tGen; exact decide_eq_true_iff
  have q3 : qKeys a.kind a.code = true ↔ tKeys a := by unfold qKeys tKeys; exact decide_eq_true_iff
  have q4 : qPage a.kind a.code = true ↔ tPage a := by unfold qPage tPage; exact decide_eq_true_iff
  unfold anC
  rw [e0, if_four, @hp (tBody a) (Classical.propDecidable _) _ _ q1, @hp (tGen a) (Classical.propDecidable _) _ _ q2, if_three, @hp (tKeys a) (Classical.propDecidable _) _ _ q3, @hp (tPage a) (Classical.propDecidable _) _ _ q4, if_three]
  simp only [List.append_assoc, ut_txts, us_blk]
  have m1 : [if a.more = true then 1 else 0] = fx 1 (if a.more = true then 1 else 0) := by cases a.more <;> rfl
  rw [m1]
  rfl
theorem map_bstr_sb (l : List ByteArray) : (l.map sb).map bstr = l := by
  rw [List.map_map]
  conv => rhs; rw [← List.map_id l]
  exact List.map_congr_left fun t _ => bstr_sb t
theorem rdAn_put (a : An) (hok : anOk a) (hfit : anFit a) (hb : AnB a) : rdAn (anC a) = some a := by
  obtain ⟨bs, hbs⟩ : ∃ bs, anC a = bs := ⟨_, rfl⟩
  have hk : ((a.kind.toNat : Nat) : Int) = a.kind := by have := hok.1; omega
  have hcd : ((a.code.toNat : Nat) : Int) = a.code := by have := hok.2.2.1; omega
  obtain ⟨k1, k8, c0, cm, d1, d2, d3, d4, d5⟩ := hok
  obtain ⟨f1, f2, f3, f4⟩ := hfit
  have hz : ∀ {v : Int} {s : Nat × Int} {r : List Nat}, (v = a.ge ∨ v = a.gc ∨ v = a.size ∨ v = a.h1 ∨ v = a.h2 ∨ v = a.h3 ∨ v = a.h4) → At bs s (uz v ++ r) → ∃ s', rNum bs s = ((zig v).toNat, s') ∧ At bs s' r := fun hv h => At.num h (zig_nat _ (hb.n _ hv).1 (hb.n _ hv).2).2
  have h0 : At bs (0, 0) (anC a) := ⟨[], by rw [hbs]; rfl, rfl⟩
  rw [anC_flat] at h0
  rw [hbs]
  obtain ⟨s1, e1, h1⟩ := h0.fix (k := 1) (by omega)
  obtain ⟨s2, e2, h2⟩ := h1.fix (k := 8) (by have := hb.tag; omega)
  obtain ⟨s3, e3, h3⟩ := h2.num (by omega)
  obtain ⟨s4, e4, h4⟩ := h3.opt (z := 0) (f := rNum bs) fun _ h => hz (by simp) h
  obtain ⟨s5, e5, h5⟩ := h4.opt (z := 0) (f := rNum bs) fun _ h => hz (by simp) h
  obtain ⟨s6, e6, h6⟩ := h5.opt (z := 0) (f := rNum bs) fun _ h => hz (by simp) h
  obtain ⟨s7, e7, h7⟩ := h6.opt (z := 0) (f := rNum bs) fun _ h => hz (by simp) h
  obtain ⟨s8, e8, h8⟩ := h7.opt (z := []) (f := rBlk bs 1048576) fun _ h => h.blk (most := 1048576) f1 (by omega)
  obtain ⟨s9, e9, h9⟩ := h8.opt (z := 0) (f := rNum bs) fun _ h => hz (by simp) h
  obtain ⟨s10, e10, h10⟩ := h9.opt (z := 0) (f := rNum bs) fun _ h => hz (by simp) h
  obtain ⟨s11, e11, h11⟩ := h10.opt (z := 0) (f := rNum bs) fun _ h => hz (by simp) h
  obtain ⟨s12, e12, h12⟩ := h11.opt (z := []) (f := rTxt bs (qMost a.kind) 255) fun _ h => h.txt (by
      rw [List.length_map]; have := f2.1; unfold qMost; split at this <;> rename_i h6
      · rw [if_pos h6]; omega
      · rw [if_neg h6]; omega) (by unfold qMost; split <;> omega) (fun t ht => by obtain ⟨x, hx, rfl⟩ := List.mem_map.1 ht; rw [sb_len]; exact f2.2 x hx) (by rw [List.length_map]; have := f2.1; split at this <;> omega)
  obtain ⟨s13, e13, h13⟩ := h12.opt (z := []) (f := rTxt bs 1000 255) fun _ h => h.txt (by rw [List.length_map]; have := f3.1; omega) (by omega) (fun t ht => by obtain ⟨x, hx, rfl⟩ := List.mem_map.1 ht; rw [sb_len]; exact f3.2 x hx) (by rw [List.length_map]; have := f3.1; omega)
  obtain ⟨s14, e14, h14⟩ := h13.opt (z := []) (f := rBlk bs 255) fun _ h => h.blk (most := 255) (by rw [sb_len]; exact f4) (by rw [sb_len]; omega)
  rw [← List.append_nil (if qPage a.kind a.code = true then fx 1 (if a.more = true then 1 else 0) else [])] at h14
  obtain ⟨s15, e15, h15⟩ := h14.opt (z := 0) (f := rFix bs 1) fun _ h => h.fix (k := 1) (by split <;> omega)
  obtain ⟨pre, hp, rfl⟩ := h15
  rw [List.append_nil] at hp
  subst hp
  unfold rdAn
  simp only [e1, e2, e3, hk, hcd, e4, e5, e6, e7, e8, e9, e10, e11, e12, e13, e14, e15]
  have z0 : unz ((0 : Nat) : Int) = 0 := by decide
  have un : ∀ v, (v = a.ge ∨ v = a.gc ∨ v = a.size ∨ v = a.h1 ∨ v = a.h2 ∨ v = a.h3 ∨ v = a.h4) → unz (((zig v).toNat : Nat) : Int) = v := fun v hv => unz_put v (hb.n v hv).1 (hb.n v hv).2
  have q1 : ¬ qBody a.kind a.code = true → a.body = [] := fun h => d1 fun t => h (by unfold qBody; exact decide_eq_true t)
  have q2 : ¬ qGen a.kind a.code = true → a.ge = 0 ∧ a.gc = 0 ∧ a.size = 0 := fun h => d2 fun t => h (by unfold qGen; exact decide_eq_true t)
  have q3 : ¬ qKeys a.kind a.code = true → a.keys = [] := fun h => d3 fun t => h (by unfold qKeys; exact decide_eq_true t)
  have q4 : ¬ qPage a.kind a.code = true → a.groups = [] ∧ a.next = emS ∧ a.more = false := fun h => d4 fun t => h (by unfold qPage; exact decide_eq_true t)
  have q5 : ¬ decide (a.kind = 8) = true → a.h1 = 0 ∧ a.h2 = 0 ∧ a.h3 = 0 ∧ a.h4 = 0 := fun h => d5 fun t => h (decide_eq_true t)
  rw [if_pos ⟨k1, k8, cm, by (repeat' split) <;> omega, endF_0 _⟩]
  have m0 : (if qBody a.kind a.code = true then a.body else []) = a.body := by split; rfl; rename_i h; rw [q1 h]
  have m1 : (if qKeys a.kind a.code = true then a.keys.map sb else []).map bstr = a.keys := by split; exact map_bstr_sb _; rename_i h; rw [q3 h]; rfl
  have m2 : (if qPage a.kind a.code = true then a.groups.map sb else []).map bstr = a.groups := by split; exact map_bstr_sb _; rename_i h; rw [(q4 h).1]; rfl
  have m3 : bstr (if qPage a.kind a.code = true then sb a.next else []) = a.next := by split; exact bstr_sb _; rename_i h; rw [(q4 h).2.1]; rfl
  have m4 : decide ((if qPage a.kind a.code = true then (if a.more = true then 1 else 0) else 0) = 1) = a.more := by
    split
    · cases a.more <;> rfl
    · rename_i h; rw [(q4 h).2.2]; rfl
  have m5 : ∀ (b : Bool) (v : Int), (v = a.ge ∨ v = a.gc ∨ v = a.size ∨ v = a.h1 ∨ v = a.h2 ∨ v = a.h3 ∨ v = a.h4) → (¬ b = true → v = 0) → unz (((if b = true then (zig v).toNat else 0 : Nat) : Nat) : Int) = v := fun b v hv h => by
    split
    · exact un v hv
    · rename_i hn; rw [h hn]; exact z0
  rw [m0, m1, m2, m3, m4, m5 _ a.ge (by simp) (fun h => (q2 h).1), m5 _ a.gc (by simp) (fun h => (q2 h).2.1), m5 _ a.size (by simp) (fun h => (q2 h).2.2), m5 _ a.h1 (by simp) (fun h => (q5 h).1), m5 _ a.h2 (by simp) (fun h => (q5 h).2.1), m5 _ a.h3 (by simp) (fun h => (q5 h).2.2.1), m5 _ a.h4 (by simp) (fun h => (q5 h).2.2.2)]
theorem map_sb_bstr (l : List (List Nat)) (h : ∀ t ∈ l, ∀ x ∈ t, x < 256) : (l.map bstr).map sb = l := by
  rw [List.map_map]
  conv => rhs; rw [← List.map_id l]
  exact List.map_congr_left fun t ht => sb_bstr t (h t ht)
theorem rdAn_form (bs : List Nat) (a : An) (hb : ∀ y ∈ bs, y < 256) (h : rdAn bs = some a) : bs = anC a ∧ anOk a ∧ anFit a ∧ AnB a := by
  unfold rdAn at h
  simp only at h
  obtain ⟨v1, s1, h1⟩ : ∃ v s, rFix bs 1 (0, 0) = (v, s) := ⟨_, _, rfl⟩
  rw [h1] at h; simp only at h
  have p1 : s1.1 ≤ bs.length := by have := rFix_le (s := (0, 0)) (bs := bs) 1 (Nat.zero_le _); rwa [h1] at this
  obtain ⟨v2, s2, h2⟩ : ∃ v s, rFix bs 8 s1 = (v, s) := ⟨_, _, rfl⟩
  rw [h2] at h; simp only at h
  have p2 : s2.1 ≤ bs.length := by have := rFix_le (s := s1) (bs := bs) 8 p1; rwa [h2] at this
  obtain ⟨v3, s3, h3⟩ : ∃ v s, rNum bs s2 = (v, s) := ⟨_, _, rfl⟩
  rw [h3] at h; simp only at h
  have p3 : s3.1 ≤ bs.length := by have := rNum_le (s := s2) (bs := bs) hb p2; rwa [h3] at this
  obtain ⟨w0, hw0⟩ : ∃ b, decide ((v1 : Int) = 8) = b := ⟨_, rfl⟩
  obtain ⟨w1, hw1⟩ : ∃ b, qBody (v1 : Int) (v3 : Int) = b := ⟨_, rfl⟩
  obtain ⟨w2, hw2⟩ : ∃ b, qGen (v1 : Int) (v3 : Int) = b := ⟨_, rfl⟩
  obtain ⟨w3, hw3⟩ : ∃ b, qKeys (v1 : Int) (v3 : Int) = b := ⟨_, rfl⟩
  obtain ⟨w4, hw4⟩ : ∃ b, qPage (v1 : Int) (v3 : Int) = b := ⟨_, rfl⟩
  rw [hw0, hw1, hw2, hw3, hw4] at h
  obtain ⟨v4, s4, h4⟩ : ∃ v s, opt w0 0 (rNum bs) s3 = (v, s) := ⟨_, _, rfl⟩
  rw [h4] at h; simp only at h
  have p4 : s4.1 ≤ bs.length := by have := opt_le (bs := bs) w0 0 (f := rNum bs) (rNum_le hb p3) p3; rwa [h4] at this
  obtain ⟨v5, s5, h5⟩ : ∃ v s, opt w0 0 (rNum bs) s4 = (v, s) := ⟨_, _, rfl⟩
  rw [h5] at h; simp only at h
  have p5 : s5.1 ≤ bs.length := by have := opt_le (bs := bs) w0 0 (f := rNum bs) (rNum_le hb p4) p4; rwa [h5] at this
  obtain ⟨v6, s6, h6⟩ : ∃ v s, opt w0 0 (rNum bs) s5 = (v, s) := ⟨_, _, rfl⟩
  rw [h6] at h; simp only at h
  have p6 : s6.1 ≤ bs.length := by have := opt_le (bs := bs) w0 0 (f := rNum bs) (rNum_le hb p5) p5; rwa [h6] at this
  obtain ⟨v7, s7, h7⟩ : ∃ v s, opt w0 0 (rNum bs) s6 = (v, s) := ⟨_, _, rfl⟩
  rw [h7] at h; simp only at h
  have p7 : s7.1 ≤ bs.length := by have := opt_le (bs := bs) w0 0 (f := rNum bs) (rNum_le hb p6) p6; rwa [h7] at this
  obtain ⟨v8, s8, h8⟩ : ∃ v s, opt w1 [] (rBlk bs 1048576) s7 = (v, s) := ⟨_, _, rfl⟩
  rw [h8] at h; simp only at h
  have p8 : s8.1 ≤ bs.length := by have := opt_le (bs := bs) w1 [] (f := rBlk bs 1048576) (rBlk_le 1048576 hb p7) p7; rwa [h8] at this
  obtain ⟨v9, s9, h9⟩ : ∃ v s, opt w2 0 (rNum bs) s8 = (v, s) := ⟨_, _, rfl⟩
  rw [h9] at h; simp only at h
  have p9 : s9.1 ≤ bs.length := by have := opt_le (bs := bs) w2 0 (f := rNum bs) (rNum_le hb p8) p8; rwa [h9] at this
  obtain ⟨v10, s10, h10⟩ : ∃ v s, opt w2 0 (rNum bs) s9 = (v, s) := ⟨_, _, rfl⟩
  rw [h10] at h; simp only at h
  have p10 : s10.1 ≤ bs.length := by have := opt_le (bs := bs) w2 0 (f := rNum bs) (rNum_le hb p9) p9; rwa [h10] at this
  obtain ⟨v11, s11, h11⟩ : ∃ v s, opt w2 0 (rNum bs) s10 = (v, s) := ⟨_, _, rfl⟩
  rw [h11] at h; simp only at h
  have p11 : s11.1 ≤ bs.length := by have := opt_le (bs := bs) w2 0 (f := rNum bs) (rNum_le hb p10) p10; rwa [h11] at this
  obtain ⟨v12, s12, h12⟩ : ∃ v s, opt w3 [] (rTxt bs (qMost (v1 : Int)) 255) s11 = (v, s) := ⟨_, _, rfl⟩
  rw [h12] at h; simp only at h
  have p12 : s12.1 ≤ bs.length := by have := opt_le (bs := bs) w3 [] (f := rTxt bs (qMost (v1 : Int)) 255) (rTxt_le _ _ hb p11) p11; rwa [h12] at this
  obtain ⟨v13, s13, h13⟩ : ∃ v s, opt w4 [] (rTxt bs 1000 255) s12 = (v, s) := ⟨_, _, rfl⟩
  rw [h13] at h; simp only at h
  have p13 : s13.1 ≤ bs.length := by have := opt_le (bs := bs) w4 [] (f := rTxt bs 1000 255) (rTxt_le _ _ hb p12) p12; rwa [h13] at this
  obtain ⟨v14, s14, h14⟩ : ∃ v s, opt w4 [] (rBlk bs 255) s13 = (v, s) := ⟨_, _, rfl⟩
  rw [h14] at h; simp only at h
  have p14 : s14.1 ≤ bs.length := by have := opt_le (bs := bs) w4 [] (f := rBlk bs 255) (rBlk_le 255 hb p13) p13; rwa [h14] at this
  obtain ⟨v15, s15, h15⟩ : ∃ v s, opt w4 0 (rFix bs 1) s14 = (v, s) := ⟨_, _, rfl⟩
  rw [h15] at h; simp only at h
  have p15 : s15.1 ≤ bs.length := by have := opt_le (bs := bs) w4 0 (f := rFix bs 1) (rFix_le 1 p14) p14; rwa [h15] at this
  split at h
  case isFalse => cases h
  rename_i hc
  obtain ⟨k1, k8, c31, hm1, he⟩ := hc
  injection h with h
  subst h
  obtain ⟨f15, e15⟩ := endF_ok he
  obtain ⟨M, hM, hMi⟩ : ∃ M : Nat, qMost (v1 : Int) = (M : Int) ∧ M = if (v1 : Int) = 6 then 65536 else 1000 := by unfold qMost; split; exact ⟨65536, rfl, rfl⟩; exact ⟨1000, rfl, rfl⟩
  rw [hM] at h12
  have q15 := opt_form h15 (fun _ g => (rFix_form p14 g f15 hb).1) f15
  have q14 := opt_form h14 (fun _ g => (rBlk_form (most := 255) p13 g q15.1.f hb).1) q15.1.f
  have q13 := opt_form h13 (fun _ g => (rTxt_form (most := 1000) (each := 255) p12 g q14.1.f hb).1) q14.1.f
  have q12 := opt_form h12 (fun _ g => (rTxt_form (most := M) (each := 255) p11 g q13.1.f hb).1) q13.1.f
  have q11 := opt_form h11 (fun _ g => (rNum_form p10 g q12.1.f hb).1) q12.1.f
  have q10 := opt_form h10 (fun _ g => (rNum_form p9 g q11.1.f hb).1) q11.1.f
  have q9 := opt_form h9 (fun _ g => (rNum_form p8 g q10.1.f hb).1) q10.1.f
  have q8 := opt_form h8 (fun _ g => (rBlk_form (most := 1048576) p7 g q9.1.f hb).1) q9.1.f
  have q7 := opt_form h7 (fun _ g => (rNum_form p6 g q8.1.f hb).1) q8.1.f
  have q6 := opt_form h6 (fun _ g => (rNum_form p5 g q7.1.f hb).1) q7.1.f
  have q5 := opt_form h5 (fun _ g => (rNum_form p4 g q6.1.f hb).1) q6.1.f
  have q4 := opt_form h4 (fun _ g => (rNum_form p3 g q5.1.f hb).1) q5.1.f
  have q3 := rNum_form p2 h3 q4.1.f hb
  have q2 := rFix_form p1 h2 q3.1.f hb
  have q1 := rFix_form (s := (0, 0)) (Nat.zero_le _) h1 q2.1.f hb
  have t4 := opt_lt h4 (P := fun v => v < 2 ^ 64) (by omega) (fun _ g => (rNum_form p3 g q5.1.f hb).2)
  have t5 := opt_lt h5 (P := fun v => v < 2 ^ 64) (by omega) (fun _ g => (rNum_form p4 g q6.1.f hb).2)
  have t6 := opt_lt h6 (P := fun v => v < 2 ^ 64) (by omega) (fun _ g => (rNum_form p5 g q7.1.f hb).2)
  have t7 := opt_lt h7 (P := fun v => v < 2 ^ 64) (by omega) (fun _ g => (rNum_form p6 g q8.1.f hb).2)
  have t8 := opt_lt h8 (P := fun l => l.length ≤ 1048576 ∧ ∀ x ∈ l, x < 256) ⟨by simp, by simp⟩ (fun _ g => (rBlk_form (most := 1048576) p7 g q9.1.f hb).2)
  have t9 := opt_lt h9 (P := fun v => v < 2 ^ 64) (by omega) (fun _ g => (rNum_form p8 g q10.1.f hb).2)
  have t10 := opt_lt h10 (P := fun v => v < 2 ^ 64) (by omega) (fun _ g => (rNum_form p9 g q11.1.f hb).2)
  have t11 := opt_lt h11 (P := fun v => v < 2 ^ 64) (by omega) (fun _ g => (rNum_form p10 g q12.1.f hb).2)
  have t12 := opt_lt h12 (P := fun l => l.length ≤ M ∧ ∀ t ∈ l, t.length ≤ 255 ∧ ∀ x ∈ t, x < 256) ⟨by simp, by simp⟩ (fun _ g => (rTxt_form (most := M) (each := 255) p11 g q13.1.f hb).2)
  have t13 := opt_lt h13 (P := fun l => l.length ≤ 1000 ∧ ∀ t ∈ l, t.length ≤ 255 ∧ ∀ x ∈ t, x < 256) ⟨by simp, by simp⟩ (fun _ g => (rTxt_form (most := 1000) (each := 255) p12 g q14.1.f hb).2)
  have t14 := opt_lt h14 (P := fun l => l.length ≤ 255 ∧ ∀ x ∈ l, x < 256) ⟨by simp, by simp⟩ (fun _ g => (rBlk_form (most := 255) p13 g q15.1.f hb).2)
  have z0 : unz ((0 : Nat) : Int) = 0 := by decide
  have sz : ∀ (l : List (List Nat)), (∀ t ∈ l, t.length ≤ 255 ∧ ∀ x ∈ t, x < 256) → ∀ t ∈ l.map bstr, t.size ≤ 255 := fun l hl t ht => by
    obtain ⟨x, hx, rfl⟩ := List.mem_map.1 ht
    rw [bstr_size]; exact (hl x hx).1
  refine ⟨?_, ⟨k1, k8, by simp only; omega, c31, fun hh => q8.2 ?_, fun hh => ?_, fun hh => ?_, fun hh => ?_, fun hh => ?_⟩, ⟨t8.1, ⟨by simp only [List.length_map]; rw [← hMi]; exact t12.1, sz _ t12.2⟩, ⟨by simp only [List.length_map]; exact t13.1, sz _ t13.2⟩, by simp only [bstr_size]; exact t14.1⟩, ⟨by have := q2.2; simp only; omega, t8.2, fun v hv => ?_⟩⟩
  · rw [anC_flat]
    simp only [Int.toNat_natCast, hw0, hw1, hw2, hw3, hw4]
    rw [map_sb_bstr _ fun t ht => (t12.2 t ht).2, map_sb_bstr _ fun t ht => (t13.2 t ht).2, sb_bstr _ t14.2]
    simp only [uz_unz]
    have m : (if decide (v15 = 1) = true then 1 else 0) = v15 := by
      by_cases h : v15 = 1
      · simp [h]
      · simp [h]; omega
    rw [m]
    have c := q15.1.cut
    rw [List.take_of_length_le e15, q14.1.cut, q13.1.cut, q12.1.cut, q11.1.cut, q10.1.cut, q9.1.cut, q8.1.cut, q7.1.cut, q6.1.cut, q5.1.cut, q4.1.cut, q3.1.cut, q2.1.cut, q1.1.cut] at c
    simpa [List.append_assoc] using c
  · rw [← hw1]; unfold qBody; exact decide_eq_false hh
  · have hf : w2 = false := by rw [← hw2]; unfold qGen; exact decide_eq_false hh
    simp only
    rw [q9.2 hf, q10.2 hf, q11.2 hf, z0]; exact ⟨rfl, rfl, rfl⟩
  · have hf : w3 = false := by rw [← hw3]; unfold qKeys; exact decide_eq_false hh
    simp only
    rw [q12.2 hf]; rfl
  · have hf : w4 = false := by rw [← hw4]; unfold qPage; exact decide_eq_false hh
    simp only
    rw [q13.2 hf, q14.2 hf, q15.2 hf]; exact ⟨rfl, rfl, rfl⟩
  · have hf : w0 = false := by rw [← hw0]; exact decide_eq_false hh
    simp only
    rw [q4.2 hf, q5.2 hf, q6.2 hf, q7.2 hf, z0]; exact ⟨rfl, rfl, rfl, rfl⟩
  · simp only at hv
    rcases hv with rfl | rfl | rfl | rfl | rfl | rfl | rfl
    · exact u64i t9
    · exact u64i t10
    · exact u64i t11
    · exact u64i t4
    · exact u64i t5
    · exact u64i t6
    · exact u64i t7
end Go.Proofs.YtbcmjjcbjojakaaDoor
end
