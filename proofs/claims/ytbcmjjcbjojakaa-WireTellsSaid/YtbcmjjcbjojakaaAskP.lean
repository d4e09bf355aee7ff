/- Plain: what a request is asked as. -/
import Derived.Test.YtbcmjjcbjojakaaFormR
import Derived.Test.YtbcmjjcbjojakaaZig
import Derived.Test.YtbcmjjcbjojakaaBoxes
namespace Go.Proofs.Ytbcmjjcbjojakaa
open Go.RowKit
set_option linter.unusedVariables false
/-- A request. -/
structure Rq where
  kind : Int
  tag : Nat
  key : ByteArray
  after : ByteArray
  off : Int
  num : Int
  delim : Int
  body : List Nat
def emS : ByteArray := ⟨#[]⟩
def rqV (R : Rq) (A : Option Addr) (n c : Nat) : Value := .agg #[.int .i64 R.kind, .int .u64 (R.tag : Int), .string R.key, .string R.after, .int .i64 R.off, .int .i64 R.num, .int .i64 R.delim, .slice A n c]
def cKey (k : Int) : Bool := decide (1 ≤ k ∧ k ≤ 7)
def cBody (k : Int) : Bool := decide (k = 1)
def cAfter (k : Int) : Bool := decide (k = 7)
def cOff (k : Int) : Bool := decide (k = 3)
def cNum (k : Int) : Bool := decide (k = 3 ∨ k = 7)
def cDelim (k : Int) : Bool := decide (k = 7)
/-- May the request be? -/
def rqOk (R : Rq) : Prop := 1 ≤ R.kind ∧ R.kind ≤ 8 ∧ (cKey R.kind = false → R.key = emS) ∧ (cBody R.kind = false → R.body = []) ∧ (cAfter R.kind = false → R.after = emS) ∧
  (cOff R.kind = false → R.off = 0) ∧ (cNum R.kind = false → R.num = 0) ∧ (cDelim R.kind = false → R.delim = 0)
def rqFit (R : Rq) : Prop := R.key.size ≤ 1024 ∧ R.after.size ≤ 1024 ∧ R.body.length ≤ 1048576
instance (R : Rq) : Decidable (rqFit R) := by unfold rqFit; infer_instance
/-- What a number with a sign is written as. -/
def uz (v : Int) : List Nat := uv (zig v).toNat
/-- What a text is written as. -/
def us (s : ByteArray) : List Nat := uv s.size ++ sb s
def ub (l : List Nat) : List Nat := uv l.length ++ l
/-- The content. -/
def rqC (R : Rq) : List Nat :=
  fx 1 R.kind.toNat ++ fx 8 R.tag ++ (if cKey R.kind = true then us R.key else []) ++ (if cBody R.kind = true then ub R.body else []) ++
  (if cAfter R.kind = true then us R.after else []) ++ (if cOff R.kind = true then uz R.off else []) ++ (if cDelim R.kind = true then uz R.delim else []) ++ (if cNum R.kind = true then uz R.num else [])
open Classical in
/-- The answer to a request: bytes and number. -/
noncomputable def askP (R : Rq) : List Nat × Int := if rqOk R then (if rqFit R then (formP (rqC R), 0) else ([], 3)) else ([], 2)
theorem uvf_lt : ∀ k v, v < 2 ^ (7 * k + 1) → ∀ x ∈ uvf k v, x < 256
  | 0, v, h => fun x hx => by simp only [uvf, List.mem_singleton] at hx; simp at h; omega
  | k + 1, v, h => fun x hx => by
    unfold uvf at hx
    split at hx
    · simp only [List.mem_singleton] at hx; omega
    · rcases List.mem_cons.1 hx with h1 | h1
      · omega
      · exact uvf_lt k _ (pow_step k v h) x h1
theorem uv_lt (v : Nat) (h : v < 2 ^ 64) : ∀ x ∈ uv v, x < 256 := uvf_lt 9 v h
theorem us_lt (s : ByteArray) (h : s.size < 2 ^ 64) : ∀ x ∈ us s, x < 256 := fun x hx => (List.mem_append.1 hx).elim (uv_lt _ h x) (sb_lt s x)
theorem ub_lt (l : List Nat) (h : l.length < 2 ^ 64) (hl : ∀ x ∈ l, x < 256) : ∀ x ∈ ub l, x < 256 := fun x hx => (List.mem_append.1 hx).elim (uv_lt _ h x) (hl x)
theorem zig_nat (v : Int) (h1 : -9223372036854775808 ≤ v) (h2 : v ≤ 9223372036854775807) : zig v = ((zig v).toNat : Int) ∧ (zig v).toNat < 2 ^ 64 := by
  have := zig_bd v h1 h2; omega
theorem uz_lt (v : Int) (h1 : -9223372036854775808 ≤ v) (h2 : v ≤ 9223372036854775807) : ∀ x ∈ uz v, x < 256 := uv_lt _ (zig_nat v h1 h2).2
theorem uz_len (v : Int) : (uz v).length ≤ 10 := (uv_len _).2
/-- PutVarint. -/
theorem putVar_any (w : World) (A : Option Addr) (n c B : Nat) (v : Int) (bs : List Nat) (hr : Rd w B A n (cb bs)) (h1 : -9223372036854775808 ≤ v) (h2 : v ≤ 9223372036854775807) (hn : n + 10 ≤ 140737488355328) (hB : B ≤ w.heap.size) :
    Calls Try.prog 59 #[.slice A n c, .int .i64 v] w fun e w' => ∃ v', e = .returned v' ∧ Onto w w' w.heap.size 5 (.slice none 0 0) v' (n + (uz v).length) (cb (bs ++ uz v)) :=
  putVarint_any w A n c B _ v bs hr h1 h2 hn hB (zig_nat v h1 h2).1 (zig_nat v h1 h2).2
/-- The reference's number. -/
theorem refNum_any (w : World) (A : Option Addr) (n c B : Nat) (v : Int) (bs : List Nat) (hr : Rd w B A n (cb bs)) (h1 : -9223372036854775808 ≤ v) (h2 : v ≤ 9223372036854775807) (hn : n + 10 ≤ 140737488355328) (hB : B ≤ w.heap.size) :
    Calls Try.prog 85 #[.slice A n c, .int .i64 v] w fun e w' => ∃ v', e = .returned v' ∧ Onto w w' w.heap.size 5 (.slice none 0 0) v' (n + (uz v).length) (cb (bs ++ uz v)) := by
  have HH : Hd (Rd w B A n (cb bs) ∧ B ≤ w.heap.size) := ⟨hr, hB⟩
  obtain ⟨zn, hz, hz2⟩ : ∃ zn : Nat, zig v = (zn : Int) ∧ zn < 2 ^ 64 := ⟨_, zig_nat v h1 h2⟩
  have hu : uz v = uv zn := by unfold uz; rw [hz]; rfl
  rw [hu]
  have HZ : Hd (zig v = (zn : Int) ∧ zn < 2 ^ 64) := ⟨hz, hz2⟩
  clear hr hB hz hz2 hu
  go_enter Try.func85, Try.ntmps85
  go_wp2_with fail
  refine (fold_any w v h1 h2).mono ?_
  rw [HZ.out.1]
  rintro e z ⟨rfl, rfl⟩
  go_wp2_with fail
  refine (refPutUvarint_any w A n c B _ bs HH.out.1 HZ.out.2 hn HH.out.2).mono ?_
  rintro e w1 ⟨v1, rfl, hO⟩
  have HO := Hd.mk hO
  clear hO
  go_wp2_with fail
  go_ret
  exact ⟨v1, rfl, HO.out⟩
theorem infoC : (Try.prog.info? 114).map (·.size) = some 6 := by kernel_rfl
/-- What counts in a request of a kind. -/
def ctsV (k b a o n d : Bool) : Value := .agg #[.bool k, .bool b, .bool a, .bool o, .bool n, .bool d]
theorem counts_any (w : World) (k : Int) : Calls Try.prog 55 #[.int .i64 k] w fun e w' => e = .returned (.tuple #[ctsV (cKey k) (cBody k) (cAfter k) (cOff k) (cNum k) (cDelim k), .bool (decide (1 ≤ k ∧ k ≤ 8))]) ∧ Below w.heap.size w w' := by
  have HJ : Hd (∀ (a b c d f g h : Bool), a = cKey k → b = cBody k → c = cAfter k → d = cOff k → f = cNum k → g = cDelim k → h = decide (1 ≤ k ∧ k ≤ 8) → (Ending.returned (.tuple #[ctsV a b c d f g, .bool h]) = .returned (.tuple #[ctsV (cKey k) (cBody k) (cAfter k) (cOff k) (cNum k) (cDelim k), .bool (decide (1 ≤ k ∧ k ≤ 8))]))) := ⟨by intros; subst_vars; rfl⟩
  have HA : Hd (∀ o, Below w.heap.size w (w.alloc o)) := ⟨fun o => (Below.refl _ w).alloc (Nat.le_refl _) _⟩
  go_enter Try.func55, Try.ntmps55
  by_cases k1 : k = 1
  · subst k1; go_wp2_with fail; (try simp only [Exit.inBlock, Exit.then]); refine bodyPost_ret (results_cell_tmp rfl _ _ w.heap.size 114 _ (0, 0) _ rfl (heap_alloc_new _ _) Try.underlying114 rfl infoC) rfl ?_; exact ⟨HJ.out _ _ _ _ _ _ _ (by decide) (by decide) (by decide) (by decide) (by decide) (by decide) (by decide), HA.out _⟩
  by_cases k2 : k = 2
  · subst k2; go_wp2_with fail; (try simp only [Exit.inBlock, Exit.then]); refine bodyPost_ret (results_cell_tmp rfl _ _ w.heap.size 114 _ (0, 0) _ rfl (heap_alloc_new _ _) Try.underlying114 rfl infoC) rfl ?_; exact ⟨HJ.out _ _ _ _ _ _ _ (by decide) (by decide) (by decide) (by decide) (by decide) (by decide) (by decide), HA.out _⟩
  by_cases k4 : k = 4
  · subst k4; go_wp2_with fail; (try simp only [Exit.inBlock, Exit.then]); refine bodyPost_ret (results_cell_tmp rfl _ _ w.heap.size 114 _ (0, 0) _ rfl (heap_alloc_new _ _) Try.underlying114 rfl infoC) rfl ?_; exact ⟨HJ.out _ _ _ _ _ _ _ (by decide) (by decide) (by decide) (by decide) (by decide) (by decide) (by decide), HA.out _⟩
  by_cases k5 : k = 5
  · subst k5; go_wp2_with fail; (try simp only [Exit.inBlock, Exit.then]); refine bodyPost_ret (results_cell_tmp rfl _ _ w.heap.size 114 _ (0, 0) _ rfl (heap_alloc_new _ _) Try.underlying114 rfl infoC) rfl ?_; exact ⟨HJ.out _ _ _ _ _ _ _ (by decide) (by decide) (by decide) (by decide) (by decide) (by decide) (by decide), HA.out _⟩
  by_cases k6 : k = 6
  · subst k6; go_wp2_with fail; (try simp only [Exit.inBlock, Exit.then]); refine bodyPost_ret (results_cell_tmp rfl _ _ w.heap.size 114 _ (0, 0) _ rfl (heap_alloc_new _ _) Try.underlying114 rfl infoC) rfl ?_; exact ⟨HJ.out _ _ _ _ _ _ _ (by decide) (by decide) (by decide) (by decide) (by decide) (by decide) (by decide), HA.out _⟩
  by_cases k3 : k = 3
  · subst k3; go_wp2_with fail; (try simp only [Exit.inBlock, Exit.then]); refine bodyPost_ret (results_cell_tmp rfl _ _ w.heap.size 114 _ (0, 0) _ rfl (heap_alloc_new _ _) Try.underlying114 rfl infoC) rfl ?_; exact ⟨HJ.out _ _ _ _ _ _ _ (by decide) (by decide) (by decide) (by decide) (by decide) (by decide) (by decide), HA.out _⟩
  by_cases k7 : k = 7
  · subst k7; go_wp2_with fail; (try simp only [Exit.inBlock, Exit.then]); refine bodyPost_ret (results_cell_tmp rfl _ _ w.heap.size 114 _ (0, 0) _ rfl (heap_alloc_new _ _) Try.underlying114 rfl infoC) rfl ?_; exact ⟨HJ.out _ _ _ _ _ _ _ (by decide) (by decide) (by decide) (by decide) (by decide) (by decide) (by decide), HA.out _⟩
  by_cases k8 : k = 8
  · subst k8; go_wp2_with fail; (try simp only [Exit.inBlock, Exit.then]); refine bodyPost_ret (results_cell_tmp rfl _ _ w.heap.size 114 _ (0, 0) _ rfl (heap_alloc_new _ _) Try.underlying114 rfl infoC) rfl ?_; exact ⟨HJ.out _ _ _ _ _ _ _ (by decide) (by decide) (by decide) (by decide) (by decide) (by decide) (by decide), HA.out _⟩
  go_wp2_with fail
  (try simp only [Exit.inBlock, Exit.then])
  refine bodyPost_ret (results_cell_tmp rfl _ _ w.heap.size 114 _ (0, 0) _ rfl (heap_alloc_new _ _) Try.underlying114 rfl infoC) rfl ?_
  refine ⟨HJ.out _ _ _ _ _ _ _ ?_ ?_ ?_ ?_ ?_ ?_ ?_, HA.out _⟩ <;> (try simp only [cKey, cBody, cAfter, cOff, cNum, cDelim]) <;> refine (decide_eq_false ?_).symm <;> omega
/-- What both answer. -/
def AskPost (R : Rq) (w : World) (e : Ending) (w' : World) : Prop := ∃ v', e = .returned (.tuple #[v', .int .i64 (askP R).2]) ∧ Onto w w' w.heap.size 5 (.slice none 0 0) v' (askP R).1.length (cb (askP R).1)
theorem onto_none {w w' : World} (b : Below w.heap.size w w') : Onto w w' w.heap.size 5 (.slice none 0 0) (.slice none 0 0) 0 (cb []) :=
  ⟨World.ownsRow_nil _ _ _ _, ⟨b.os, b.tape, b.output, b.size, fun k hk _ => b.block k hk⟩, fun _ h => .inl h⟩
section
variable {R : Rq} {w w1 w' : World} {v : Value}
theorem AskPost.bad (h : ¬ rqOk R) (b : Below w.heap.size w w') : AskPost R w (.returned (.tuple #[.slice none 0 0, .int .i64 2])) w' := by
  have : askP R = ([], 2) := by unfold askP; rw [if_neg h]
  unfold AskPost; rw [this]; exact ⟨_, rfl, onto_none b⟩
theorem AskPost.big (h : rqOk R) (h2 : ¬ rqFit R) (b : Below w.heap.size w w') : AskPost R w (.returned (.tuple #[.slice none 0 0, .int .i64 3])) w' := by
  have : askP R = ([], 3) := by unfold askP; rw [if_pos h, if_neg h2]
  unfold AskPost; rw [this]; exact ⟨_, rfl, onto_none b⟩
theorem AskPost.good (h : rqOk R) (h2 : rqFit R) {Z : List Nat} (hZ : rqC R = Z) (b : Below w.heap.size w w1) (hO : Onto w1 w' w1.heap.size 5 (.slice none 0 0) v (formP Z).length (cb (formP Z))) :
    AskPost R w (.returned (.tuple #[v, .int .i64 0])) w' := by
  have : askP R = (formP Z, 0) := by unfold askP; rw [if_pos h, if_pos h2, hZ]
  unfold AskPost; rw [this]; exact ⟨_, rfl, onto_fresh w b hO⟩
end
/-- The numbers of a request are of 64 bits. -/
structure RqB (R : Rq) : Prop where
  tag : R.tag < 18446744073709551616
  o1 : -9223372036854775808 ≤ R.off
  o2 : R.off ≤ 9223372036854775807
  n1 : -9223372036854775808 ≤ R.num
  n2 : R.num ≤ 9223372036854775807
  d1 : -9223372036854775808 ≤ R.delim
  d2 : R.delim ≤ 9223372036854775807
  b : ∀ x ∈ R.body, x < 256
theorem rqC_lt {R : Rq} (h : rqFit R) (hb : RqB R) : ∀ x ∈ rqC R, x < 256 := by
  obtain ⟨h1, h2, h3⟩ := h
  have gi : ∀ (p : Prop) [Decidable p] (l : List Nat), (∀ x ∈ l, x < 256) → ∀ x ∈ (if p then l else []), x < 256 := fun p _ l hl x hx => by
    split at hx
    · exact hl x hx
    · simp at hx
  intro x hx
  unfold rqC at hx
  simp only [List.mem_append] at hx
  rcases hx with ((((((h | h) | h) | h) | h) | h) | h) | h
  · exact fx_lt _ _ x h
  · exact fx_lt _ _ x h
  · exact gi _ _ (us_lt _ (by omega)) x h
  · exact gi _ _ (ub_lt _ (by omega) hb.b) x h
  · exact gi _ _ (us_lt _ (by omega)) x h
  · exact gi _ _ (uz_lt _ hb.o1 hb.o2) x h
  · exact gi _ _ (uz_lt _ hb.d1 hb.d2) x h
  · exact gi _ _ (uz_lt _ hb.n1 hb.n2) x h
theorem rqC_len {R : Rq} (h : rqFit R) : (rqC R).length ≤ 2097152 := by
  obtain ⟨h1, h2, h3⟩ := h
  have gi : ∀ (p : Prop) [Decidable p] (l : List Nat) (m : Nat), l.length ≤ m → (if p then l else []).length ≤ m := fun p _ l m hl => by
    split
    · exact hl
    · simp
  have gu : ∀ s : ByteArray, s.size ≤ 1024 → (us s).length ≤ 1034 := fun s hs => by unfold us; rw [List.length_append, sb_len]; have := uv_len s.size; omega
  have gb : (ub R.body).length ≤ 1048586 := by unfold ub; rw [List.length_append]; have := uv_len R.body.length; omega
  unfold rqC
  simp only [List.length_append, fx_len]
  have a1 := gi (cKey R.kind = true) _ _ (gu R.key h1)
  have a2 := gi (cBody R.kind = true) _ _ gb
  have a3 := gi (cAfter R.kind = true) _ _ (gu R.after h2)
  have a4 := gi (cOff R.kind = true) _ _ (uz_len R.off)
  have a5 := gi (cDelim R.kind = true) _ _ (uz_len R.delim)
  have a6 := gi (cNum R.kind = true) _ _ (uz_len R.num)
  omega
/-- Where the program's Ask stands. -/
structure AS (w w' : World) (g g1 : Nat) (xs ys : Array Value) : Prop where
  rq : w'.heap[g]? = some (.cells xs 28)
  ct : w'.heap[g1]? = some (.cells ys 114)
  bel : Below w.heap.size w w'
section
variable {w w1 w2 : World} {g g1 : Nat} {xs ys : Array Value}
theorem AS.step (h : AS w w1 g g1 xs ys) (b : Below w1.heap.size w1 w2) : AS w w2 g g1 xs ys :=
  ⟨by rw [b.block g (Array.getElem?_eq_some_iff.1 h.rq).1]; exact h.rq, by rw [b.block g1 (Array.getElem?_eq_some_iff.1 h.ct).1]; exact h.ct, h.bel.trans (b.mono h.bel.size)⟩
theorem AS.c (h : AS w w1 g g1 xs ys) (i : Nat) {v : Value} (hv : xs[i]? = some v) : w1.cell? ⟨g, i, none⟩ = some v := by rw [cell_of_row w1 g i _ _ (0, 0) h.rq]; exact hv
theorem AS.d (h : AS w w1 g g1 xs ys) (i : Nat) {v : Value} (hv : ys[i]? = some v) : w1.cell? ⟨g1, i, none⟩ = some v := by rw [cell_of_row w1 g1 i _ _ (0, 0) h.ct]; exact hv
end
/-- Where Ask stands while the content is put: v reads as L. -/
structure AB (w w' : World) (g g1 : Nat) (xs ys : Array Value) (v : Value) (L : List Nat) : Prop where
  sta : AS w w' g g1 xs ys
  rd : ∃ A c, v = .slice A L.length c ∧ L.length ≤ c ∧ Rd w' w'.heap.size A L.length (cb L)
section
variable {w w1 w2 : World} {g g1 : Nat} {xs ys : Array Value} {v v' : Value} {L X : List Nat}
theorem AB.put (h : AS w w1 g g1 xs ys) {m : Nat} (hm : m = L.length) (hO : Onto w1 w2 w1.heap.size 5 (.slice none 0 0) v' m (cb L)) : AB w w2 g g1 xs ys v' L := by
  subst hm
  obtain ⟨A, c, rfl, hc, _⟩ := own_form hO.own
  exact ⟨h.step (hO.below (fun k h => by cases h) (Nat.le_refl _)), A, c, rfl, hc, Rd.of_own hO.own⟩
theorem AB.nil (h : AB w w1 g g1 xs ys v L) (hX : X = []) : AB w w1 g g1 xs ys v (L ++ X) := by subst hX; rw [List.append_nil]; exact h
/-- A text is put. -/
theorem putStr_any (W : World) (t : ByteArray) (G : Nat) (A : Option Addr) (n c : Nat) (bs : List Nat) (h : AB w W g g1 xs ys (.slice A n c) bs) (hn : n ≤ 2097152) (ht : t.size ≤ 2097152) :
    Calls Try.prog 58 #[.slice A n c, .slice (some ⟨W.heap.size, 0, none⟩) t.size G] (W.alloc (.cells (bytesRow t G) 5 ((bytesRow t G).size, (bytesRow t G).size + 1))).drew fun e w' => ∃ v', e = .returned v' ∧ AB w w' g g1 xs ys v' (bs ++ us t) := by
  obtain ⟨A', c', e, hc, hr⟩ := h.rd
  injection e with e1 e2 e3
  subst e1 e2 e3
  have hA := h.sta.step (((Below.refl _ W).alloc (Nat.le_refl _) (.cells (bytesRow t G) 5 ((bytesRow t G).size, (bytesRow t G).size + 1))).drew)
  refine (putBytes_any (W.alloc (.cells (bytesRow t G) 5 ((bytesRow t G).size, (bytesRow t G).size + 1))).drew A (some ⟨W.heap.size, 0, none⟩) bs.length c t.size G (W.heap.size + 1) bs (sb t)
    (((hr.alloc (Nat.le_refl _) (.cells (bytesRow t G) 5 ((bytesRow t G).size, (bytesRow t G).size + 1))).more (Nat.le_succ _)).keep (fun _ _ => rfl)) ((rd_bytes (w := W) (e := 5) (cap := G) t ((bytesRow t G).size, (bytesRow t G).size + 1)).keep (fun _ _ => rfl)) (by omega) (by show W.heap.size + 1 ≤ (W.alloc _).heap.size; simp)).mono ?_
  rintro e w2 ⟨v2, rfl, hO2⟩
  refine ⟨v2, rfl, AB.put hA ?_ (by rw [List.append_assoc] at hO2; exact hO2)⟩
  simp only [List.length_append, us, sb_len]; omega
/-- Bytes are put. -/
theorem putLst_any (W : World) (A A2 : Option Addr) (n c m c2 : Nat) (bs ps : List Nat) (h : AB w W g g1 xs ys (.slice A n c) bs) (hp : Rd W W.heap.size A2 m (cb ps)) (hn : n ≤ 2097152) (hm : m ≤ 2097152) :
    Calls Try.prog 58 #[.slice A n c, .slice A2 m c2] W fun e w' => ∃ v', e = .returned v' ∧ AB w w' g g1 xs ys v' (bs ++ ub ps) := by
  have hl : ps.length = m := by have := hp.1; rwa [cb_length] at this
  subst hl
  obtain ⟨A', c', e, hc, hr⟩ := h.rd
  injection e with e1 e2 e3
  subst e1 e2 e3
  refine (putBytes_any W A A2 bs.length c ps.length c2 W.heap.size bs ps hr hp (by omega) (Nat.le_refl _)).mono ?_
  rintro e w2 ⟨v2, rfl, hO2⟩
  refine ⟨v2, rfl, AB.put h.sta ?_ (by rw [List.append_assoc] at hO2; exact hO2)⟩
  simp only [List.length_append, ub]; omega
/-- A number with a sign is put. -/
theorem putNum_any (W : World) (A : Option Addr) (n c : Nat) (v : Int) (bs : List Nat) (h : AB w W g g1 xs ys (.slice A n c) bs) (h1 : -9223372036854775808 ≤ v) (h2 : v ≤ 9223372036854775807) (hn : n ≤ 2097152) :
    Calls Try.prog 59 #[.slice A n c, .int .i64 v] W fun e w' => ∃ v', e = .returned v' ∧ AB w w' g g1 xs ys v' (bs ++ uz v) := by
  obtain ⟨A', c', e, hc, hr⟩ := h.rd
  injection e with e1 e2 e3
  subst e1 e2 e3
  refine (putVar_any W A bs.length c W.heap.size v bs hr h1 h2 (by omega) (Nat.le_refl _)).mono ?_
  rintro e w2 ⟨v2, rfl, hO2⟩
  exact ⟨v2, rfl, AB.put h.sta (by rw [List.length_append]) hO2⟩
end
end Go.Proofs.Ytbcmjjcbjojakaa
