/- Put together of: StrmB MsgA Que AnW RdM. -/
import Derived.Test.YtbcmjjcbjojakaaPk7
import Derived.Test.YtbcmjjcbjojakaaPk6
import Derived.Test.YtbcmjjcbjojakaaPk3
import Derived.Test.YtbcmjjcbjojakaaRqW
section
namespace Go.Proofs.Ytbcmjjcbjojakaa
open Go.RowKit
set_option linter.unusedVariables false
theorem seg_mid {p q r : List Nat} {i n : Nat} (hi : p.length = i) (hn : q.length = n) : seg (p ++ (q ++ r)) i n = q := by
 unfold seg
 rw [List.drop_left' hi, List.take_left' hn]
theorem le_fx4 {v : Nat} (h : v < 4294967296) : le256 (fx 4 v) = v := by rw [le256_fx]; exact Nat.mod_eq_of_lt h
/-- A chunk that was put stands. -/
theorem ck_put (s k : Nat) (c r : List Nat) (h0 : 0 < c.length) (hk : 16384 < c.length → k ≠ 2047) : ckP s k (chk s c ++ r) = .ok (decide (c.length ≤ 16384)) (min c.length 16384) := by
 obtain ⟨n, hn⟩ : ∃ n, min c.length 16384 = n := ⟨_, rfl⟩
 obtain ⟨kd, hkd⟩ : ∃ q, (if c.length ≤ 16384 then 2 else 1 : Nat) = q := ⟨_, rfl⟩
 have hkd2 : kd = 2 ∧ c.length ≤ 16384 ∨ kd = 1 ∧ 16384 < c.length := by
  by_cases h : c.length ≤ 16384
  ·rw [if_pos h] at hkd; exact .inl ⟨hkd.symm, h⟩
  ·rw [if_neg h] at hkd; exact .inr ⟨hkd.symm, by omega⟩
 have hn1 : 0 < n ∧ n ≤ 16384 ∧ n ≤ c.length := by omega
 have hd : hd3 c = fx 1 kd ++ fx 2 n := by unfold hd3; rw [hkd, hn]
 have hdl : (hd3 c).length = 3 := by rw [hd, List.length_append, fx_len, fx_len]
 obtain ⟨q1, hq1⟩ : ∃ q, Crc.more 0 (hd3 c) = q := ⟨_, rfl⟩
 obtain ⟨q2, hq2⟩ : ∃ q, Crc.more s (c.take n) = q := ⟨_, rfl⟩
 have b1 : q1 < 4294967296 := by rw [← hq1]; exact Crc.more_lt _ _
 have b2 : q2 < 4294967296 := by rw [← hq2]; exact Crc.more_lt _ _
 have hct : (c.take n).length = n := by rw [List.length_take]; omega
 have hX : chk s c ++ r = hd3 c ++ (fx 4 q1 ++ (c.take n ++ (fx 4 q2 ++ r))) := by
  unfold chk; rw [hn, hq1, hq2]; simp only [List.append_assoc]
 have hlen : (chk s c ++ r).length = n + 11 + r.length := by rw [List.length_append, chk_len, hn]
 have t3 : (chk s c ++ r).take 3 = hd3 c := by rw [hX, List.take_left' hdl]
 have s3 : seg (chk s c ++ r) 3 4 = fx 4 q1 := by rw [hX]; exact seg_mid hdl (fx_len 4 q1)
 have s7 : seg (chk s c ++ r) 7 n = c.take n := by
  rw [hX, ← List.append_assoc]; exact seg_mid (by rw [List.length_append, hdl, fx_len]) hct
 have s8 : seg (chk s c ++ r) (7 + n) 4 = fx 4 q2 := by
  rw [hX, ← List.append_assoc, ← List.append_assoc]; exact seg_mid (by rw [List.length_append, List.length_append, hdl, fx_len, hct]) (fx_len 4 q2)
 have g0 : (chk s c ++ r).getD 0 0 = kd := by
  have e : (chk s c ++ r).getD 0 0 = (hd3 c).getD 0 0 := by rw [hX, getD_app _ (by omega)]
  rw [e, hd, getD_app _ (by rw [fx_len]; omega)]
  rcases hkd2 with ⟨rfl, _⟩ | ⟨rfl, _⟩ <;> rfl
 have gN : ckN (chk s c ++ r) = n := by
  have h1 := le_two (b := chk s c ++ r) (by omega)
  rw [← h1]
  have : seg (chk s c ++ r) 1 2 = fx 2 n := by
   rw [hX, hd, List.append_assoc]; exact seg_mid (fx_len 1 kd) (fx_len 2 n)
  rw [this, le256_fx]
  exact Nat.mod_eq_of_lt (by omega)
 unfold ckP
 rw [if_neg (by omega), t3, s3, hq1, le_fx4 b1, if_neg (by simp), gN, s7, s8, hq2, le_fx4 b2, g0]
 rw [if_neg (by unfold ckOdd; rw [gN, g0]; rcases hkd2 with ⟨rfl, h⟩ | ⟨rfl, h⟩ <;> omega), if_neg (by omega), if_neg (by simp)]
 rw [hn]
 congr 1
 rcases hkd2 with ⟨rfl, h⟩ | ⟨rfl, h⟩
 ·simp [h]
 ·have : ¬ c.length ≤ 16384 := by omega
  simp [this]
section
variable {M : Type} {rd : List Nat → Option M}
theorem chks_num {k l n M : Nat} (h : n < l) (h3 : k * n + l ≤ M) : (k + 1) * n + (l - n) ≤ M := by rw [Nat.succ_mul]; omega
theorem go_chks (r : List Nat) (x : M) : ∀ (f : Nat) (m : Mid) (c : List Nat), c.length ≤ f → 0 < c.length → m.k * 16384 + c.length ≤ 33554432 → rd (m.c ++ c) = some x → go rd m (fmF f m.s c ++ r) = (go rd mid0 r).pre x := by
 intro f
 induction f with
 | zero => intro m c h1 h2 _ _; omega
 | succ f ih =>
  intro m c h1 h2 h3 h4
  rw [fmF_step f m.s c h2, List.append_assoc]
  obtain ⟨n, hn⟩ : ∃ n, min c.length 16384 = n := ⟨_, rfl⟩
  have hck := ck_put m.s m.k c (fmF f (Crc.more m.s (c.take (min c.length 16384))) (c.drop (min c.length 16384)) ++ r) h2 (fun h e => by omega)
  rw [hn] at hck ⊢
  have hl : (chk m.s c).length = n + 11 := by rw [chk_len, hn]
  have hs7 : ∀ r', seg (chk m.s c ++ r') 7 n = c.take n := fun r' => by
   have hX : chk m.s c ++ r' = (hd3 c ++ fx 4 (Crc.more 0 (hd3 c))) ++ (c.take n ++ (fx 4 (Crc.more m.s (c.take n)) ++ r')) := by unfold chk; rw [hn]; simp only [List.append_assoc]
   rw [hX]
   exact seg_mid (by unfold hd3; simp only [List.length_append, fx_len]) (by rw [List.length_take]; omega)
  by_cases hle : c.length ≤ 16384
  ·rw [show decide (c.length ≤ 16384) = true from decide_eq_true hle] at hck
   have hnc : n = c.length := by omega
   have hnx : (m.next (chk m.s c ++ (fmF f (Crc.more m.s (c.take n)) (c.drop n) ++ r)) n).c = m.c ++ c := by
    unfold Mid.next; simp only; rw [hs7, hnc, List.take_length]
   rw [go_some (x := x) hck (by rw [hnx]; exact h4), List.drop_left' hl, hnc, List.drop_length, fmF_nil, List.nil_append]
  ·rw [show decide (c.length ≤ 16384) = false from decide_eq_false hle] at hck
   rw [go_more hck, List.drop_left' hl]
   have hnx : m.next (chk m.s c ++ (fmF f (Crc.more m.s (c.take n)) (c.drop n) ++ r)) n = ⟨m.c ++ c.take n, Crc.more m.s (c.take n), m.k + 1, m.p + (n + 11)⟩ := by
    unfold Mid.next; rw [hs7]
   have hk3 : (m.k + 1) * 16384 + (c.drop n).length ≤ 33554432 := by
    have hn16 : n = 16384 := by omega
    rw [List.length_drop, hn16]
    exact chks_num (by omega) h3
   rw [hnx]
   exact ih ⟨m.c ++ c.take n, Crc.more m.s (c.take n), m.k + 1, m.p + (n + 11)⟩ (c.drop n) (by rw [List.length_drop]; omega) (by rw [List.length_drop]; omega) hk3 (by show rd ((m.c ++ c.take n) ++ c.drop n) = some x; rw [List.append_assoc, List.take_append_drop]; exact h4)
/-- A form, ahead of any bytes, is one message. -/
theorem go_put (c r : List Nat) (x : M) (h0 : 0 < c.length) (h1 : c.length ≤ 33554432) (hx : rd c = some x) : go rd mid0 (formP c ++ r) = (go rd mid0 r).pre x :=
 go_chks r x c.length mid0 c (Nat.le_refl _) h0 (by show 0 * 16384 + c.length ≤ 33554432; omega) hx
end
end Go.Proofs.Ytbcmjjcbjojakaa
end
section
namespace Go.Proofs.Ytbcmjjcbjojakaa
open Go.RowKit
set_option linter.unusedVariables false
theorem if_four {b : Bool} {p q x y : List Nat} : (if b = true then p ++ q ++ x ++ y else []) = (if b = true then p else []) ++ ((if b = true then q else []) ++ ((if b = true then x else []) ++ (if b = true then y else []))) := by cases b <;> simp
theorem if_three {b : Bool} {p q x : List Nat} : (if b = true then p ++ q ++ x else []) = (if b = true then p else []) ++ ((if b = true then q else []) ++ (if b = true then x else [])) := by cases b <;> simp
theorem ut_txts (l : List ByteArray) : ut l = txts (l.map sb) := by
 unfold ut txts rws tx
 rw [List.length_map, List.flatMap_map]
 congr 2
 funext t
 unfold blk; rw [sb_len]
/-- An answer's content, part by part. -/
theorem anC_flat (a : An) : anC a = fx 1 a.kind.toNat ++ (fx 8 a.tag ++ (uv a.code.toNat ++ ((if decide (a.kind = 8) = true then uz a.h1 else []) ++ ((if decide (a.kind = 8) = true then uz a.h2 else []) ++ ((if decide (a.kind = 8) = true then uz a.h3 else []) ++ ((if decide (a.kind = 8) = true then uz a.h4 else []) ++
  ((if qBody a.kind a.code = true then blk a.body else []) ++ ((if qGen a.kind a.code = true then uz a.ge else []) ++ ((if qGen a.kind a.code = true then uz a.gc else []) ++ ((if qGen a.kind a.code = true then uz a.size else []) ++ ((if qKeys a.kind a.code = true then txts (a.keys.map sb) else []) ++
  ((if qPage a.kind a.code = true then txts (a.groups.map sb) else []) ++ ((if qPage a.kind a.code = true then blk (sb a.next) else []) ++ (if qPage a.kind a.code = true then fx 1 (if a.more = true then 1 else 0) else [])))))))))))))) := by
 have e0 : (if a.kind = 8 then uz a.h1 ++ uz a.h2 ++ uz a.h3 ++ uz a.h4 else []) = (if decide (a.kind = 8) = true then uz a.h1 ++ uz a.h2 ++ uz a.h3 ++ uz a.h4 else []) := by simp only [decide_eq_true_iff]
 have hp : ∀ (p : Prop) [Decidable p] (b : Bool) (l : List Nat), (b = true ↔ p) → (if p then l else []) = (if b = true then l else []) := fun p _ b l h => by
  by_cases hq : p
  ·rw [if_pos hq, if_pos (h.2 hq)]
  ·rw [if_neg hq, if_neg (fun g => hq (h.1 g))]
 have q1 : qBody a.kind a.code = true ↔ tBody a := by unfold qBody tBody; exact decide_eq_true_iff
 have q2 : qGen a.kind a.code = true ↔ tGen a := by unfold qGen tGen; exact decide_eq_true_iff
 have q3 : qKeys a.kind a.code = true ↔ tKeys a := by unfold qKeys tKeys; exact decide_eq_true_iff
 have q4 : qPage a.kind a.code = true ↔ tPage a := by unfold qPage tPage; exact decide_eq_true_iff
 unfold anC
 rw [e0, if_four, @hp (tBody a) (Classical.propDecidable _) _ _ q1, @hp (tGen a) (Classical.propDecidable _) _ _ q2, if_three, @hp (tKeys a) (Classical.propDecidable _) _ _ q3, @hp (tPage a) (Classical.propDecidable _) _ _ q4, if_three]
 simp only [List.append_assoc, ut_txts, us_blk]
 have m1 : [if a.more = true then 1 else 0] = fx 1 (if a.more = true then 1 else 0) := by cases a.more <;> rfl
 rw [m1]
 rfl
theorem map_bstr_sb (l : List ByteArray) : (l.map sb).map bstr = l := by
 rw [List.map_map]
 conv => rhs; rw [← List.map_id l]
 exact List.map_congr_left fun t _ => bstr_sb t
theorem rdAn_put (a : An) (hok : anOk a) (hfit : anFit a) (hb : AnB a) : rdAn (anC a) = some a := by
 obtain ⟨bs, hbs⟩ : ∃ bs, anC a = bs := ⟨_, rfl⟩
 have hk : ((a.kind.toNat : Nat) : Int) = a.kind := by have := hok.1; omega
 have hcd : ((a.code.toNat : Nat) : Int) = a.code := by have := hok.2.2.1; omega
 obtain ⟨k1, k8, c0, cm, d1, d2, d3, d4, d5⟩ := hok
 obtain ⟨f1, f2, f3, f4⟩ := hfit
 have hz : ∀ {v : Int} {s : Nat × Int} {r : List Nat}, (v = a.ge ∨ v = a.gc ∨ v = a.size ∨ v = a.h1 ∨ v = a.h2 ∨ v = a.h3 ∨ v = a.h4) → At bs s (uz v ++ r) → ∃ s', rNum bs s = ((zig v).toNat, s') ∧ At bs s' r := fun hv h => At.num h (zig_nat _ (hb.n _ hv).1 (hb.n _ hv).2).2
 have h0 : At bs (0, 0) (anC a) := ⟨[], by rw [hbs]; rfl, rfl⟩
 rw [anC_flat] at h0
 rw [hbs]
 obtain ⟨s1, e1, h1⟩ := h0.fix (k := 1) (by omega)
 obtain ⟨s2, e2, h2⟩ := h1.fix (k := 8) (by have := hb.tag; omega)
 obtain ⟨s3, e3, h3⟩ := h2.num (by omega)
 obtain ⟨s4, e4, h4⟩ := h3.opt (z := 0) (f := rNum bs) fun _ h => hz (by simp) h
 obtain ⟨s5, e5, h5⟩ := h4.opt (z := 0) (f := rNum bs) fun _ h => hz (by simp) h
 obtain ⟨s6, e6, h6⟩ := h5.opt (z := 0) (f := rNum bs) fun _ h => hz (by simp) h
 obtain ⟨s7, e7, h7⟩ := h6.opt (z := 0) (f := rNum bs) fun _ h => hz (by simp) h
 obtain ⟨s8, e8, h8⟩ := h7.opt (z := []) (f := rBlk bs 1048576) fun _ h => h.blk (most := 1048576) f1 (by omega)
 obtain ⟨s9, e9, h9⟩ := h8.opt (z := 0) (f := rNum bs) fun _ h => hz (by simp) h
 obtain ⟨s10, e10, h10⟩ := h9.opt (z := 0) (f := rNum bs) fun _ h => hz (by simp) h
 obtain ⟨s11, e11, h11⟩ := h10.opt (z := 0) (f := rNum bs) fun _ h => hz (by simp) h
 obtain ⟨s12, e12, h12⟩ := h11.opt (z := []) (f := rTxt bs (qMost a.kind) 255) fun _ h => h.txt (by
   rw [List.length_map]; have := f2.1; unfold qMost; split at this <;> rename_i h6
   ·rw [if_pos h6]; omega
   ·rw [if_neg h6]; omega) (by unfold qMost; split <;> omega) (fun t ht => by obtain ⟨x, hx, rfl⟩ := List.mem_map.1 ht; rw [sb_len]; exact f2.2 x hx) (by rw [List.length_map]; have := f2.1; split at this <;> omega)
 obtain ⟨s13, e13, h13⟩ := h12.opt (z := []) (f := rTxt bs 1000 255) fun _ h => h.txt (by rw [List.length_map]; have := f3.1; omega) (by omega) (fun t ht => by obtain ⟨x, hx, rfl⟩ := List.mem_map.1 ht; rw [sb_len]; exact f3.2 x hx) (by rw [List.length_map]; have := f3.1; omega)
 obtain ⟨s14, e14, h14⟩ := h13.opt (z := []) (f := rBlk bs 255) fun _ h => h.blk (most := 255) (by rw [sb_len]; exact f4) (by rw [sb_len]; omega)
 rw [← List.append_nil (if qPage a.kind a.code = true then fx 1 (if a.more = true then 1 else 0) else [])] at h14
 obtain ⟨s15, e15, h15⟩ := h14.opt (z := 0) (f := rFix bs 1) fun _ h => h.fix (k := 1) (by split <;> omega)
 obtain ⟨pre, hp, rfl⟩ := h15
 rw [List.append_nil] at hp
 subst hp
 unfold rdAn
 simp only [e1, e2, e3, hk, hcd, e4, e5, e6, e7, e8, e9, e10, e11, e12, e13, e14, e15]
 have z0 : unz ((0 : Nat) : Int) = 0 := by decide
 have un : ∀ v, (v = a.ge ∨ v = a.gc ∨ v = a.size ∨ v = a.h1 ∨ v = a.h2 ∨ v = a.h3 ∨ v = a.h4) → unz (((zig v).toNat : Nat) : Int) = v := fun v hv => unz_put v (hb.n v hv).1 (hb.n v hv).2
 have q1 : ¬ qBody a.kind a.code = true → a.body = [] := fun h => d1 fun t => h (by unfold qBody; exact decide_eq_true t)
 have q2 : ¬ qGen a.kind a.code = true → a.ge = 0 ∧ a.gc = 0 ∧ a.size = 0 := fun h => d2 fun t => h (by unfold qGen; exact decide_eq_true t)
 have q3 : ¬ qKeys a.kind a.code = true → a.keys = [] := fun h => d3 fun t => h (by unfold qKeys; exact decide_eq_true t)
 have q4 : ¬ qPage a.kind a.code = true → a.groups = [] ∧ a.next = emS ∧ a.more = false := fun h => d4 fun t => h (by unfold qPage; exact decide_eq_true t)
 have q5 : ¬ decide (a.kind = 8) = true → a.h1 = 0 ∧ a.h2 = 0 ∧ a.h3 = 0 ∧ a.h4 = 0 := fun h => d5 fun t => h (decide_eq_true t)
 rw [if_pos ⟨k1, k8, cm, by (repeat' split) <;> omega, endF_0 _⟩]
 have m0 : (if qBody a.kind a.code = true then a.body else []) = a.body := by split; rfl; rename_i h; rw [q1 h]
 have m1 : (if qKeys a.kind a.code = true then a.keys.map sb else []).map bstr = a.keys := by split; exact map_bstr_sb _; rename_i h; rw [q3 h]; rfl
 have m2 : (if qPage a.kind a.code = true then a.groups.map sb else []).map bstr = a.groups := by split; exact map_bstr_sb _; rename_i h; rw [(q4 h).1]; rfl
 have m3 : bstr (if qPage a.kind a.code = true then sb a.next else []) = a.next := by split; exact bstr_sb _; rename_i h; rw [(q4 h).2.1]; rfl
 have m4 : decide ((if qPage a.kind a.code = true then (if a.more = true then 1 else 0) else 0) = 1) = a.more := by
  split
  ·cases a.more <;> rfl
  ·rename_i h; rw [(q4 h).2.2]; rfl
 have m5 : ∀ (b : Bool) (v : Int), (v = a.ge ∨ v = a.gc ∨ v = a.size ∨ v = a.h1 ∨ v = a.h2 ∨ v = a.h3 ∨ v = a.h4) → (¬ b = true → v = 0) → unz (((if b = true then (zig v).toNat else 0 : Nat) : Nat) : Int) = v := fun b v hv h => by
  split
  ·exact un v hv
  ·rename_i hn; rw [h hn]; exact z0
 rw [m0, m1, m2, m3, m4, m5 _ a.ge (by simp) (fun h => (q2 h).1), m5 _ a.gc (by simp) (fun h => (q2 h).2.1), m5 _ a.size (by simp) (fun h => (q2 h).2.2), m5 _ a.h1 (by simp) (fun h => (q5 h).1), m5 _ a.h2 (by simp) (fun h => (q5 h).2.1), m5 _ a.h3 (by simp) (fun h => (q5 h).2.2.1), m5 _ a.h4 (by simp) (fun h => (q5 h).2.2.2)]
end Go.Proofs.Ytbcmjjcbjojakaa
end
section
namespace Go.Proofs.Ytbcmjjcbjojakaa
open Go.RowKit
set_option linter.unusedVariables false
def Wms (ws : List Wm) : List Value := ws.flatMap Wm.cells
/-- The slice v is a queue of these messages. -/
def Que (w : World) (base e size : Nat) (v : Value) (ws : List Wm) : Prop :=
 (∀ W ∈ ws, W.cells.length = size ∧ ∀ u ∈ W.cells, u.oneCell' = true) ∧
 ((v = .slice none 0 0 ∧ ws = []) ∨
 ∃ (g off cap : Nat) (cur : Array Value), v = .slice (some ⟨g, off, none⟩) ws.length cap ∧ base ≤ g ∧ w.heap[g]? = some (.cells cur e (0, 0)) ∧ ws.length ≤ cap ∧ cap ≤ maxLen ∧ off + cap * size ≤ cur.size ∧ (cur.toList.drop off).take (ws.length * size) = Wms ws)
theorem Wms_len {ws : List Wm} {size : Nat} (h : ∀ W ∈ ws, W.cells.length = size ∧ ∀ u ∈ W.cells, u.oneCell' = true) : (Wms ws).length = ws.length * size := by
 induction ws with
 | nil => simp [Wms]
 | cons W ws ih =>
  have h1 := (h W (by simp)).1
  have h2 := ih fun x hx => h x (by simp [hx])
  unfold Wms at h2 ⊢
  rw [List.flatMap_cons, List.length_append, h1, h2, List.length_cons, Nat.add_mul]; omega
section
variable {w w' : World} {base e size : Nat} {v v' : Value} {ws : List Wm} {W : Wm}
theorem Que.nil (w : World) (base e size : Nat) : Que w base e size (.slice none 0 0) [] := ⟨fun _ h => absurd h List.not_mem_nil, .inl ⟨rfl, rfl⟩⟩
theorem Que.form (h : Que w base e size v ws) : ∃ A c, v = .slice A ws.length c ∧ ws.length ≤ c := by
 rcases h.2 with ⟨rfl, rfl⟩ | ⟨g, off, cap, cur, rfl, _, _, hn, _⟩
 ·exact ⟨none, 0, rfl, Nat.le_refl _⟩
 ·exact ⟨_, cap, rfl, hn⟩
theorem Que.lt (h : Que w base e size v ws) {k : Nat} (hk : v.ownBlock = some k) : base ≤ k ∧ k < w.heap.size := by
 rcases h.2 with ⟨rfl, rfl⟩ | ⟨g, off, cap, cur, rfl, hb, hg, _⟩
 ·cases hk
 ·simp only [Value.ownBlock, Option.some.injEq] at hk
  subst hk
  exact ⟨hb, (Array.getElem?_eq_some_iff.1 hg).1⟩
theorem Que.block (h : Que w base e size v ws) (hb : ∀ k, v.ownBlock = some k → w'.heap[k]? = w.heap[k]?) : Que w' base e size v ws := by
 refine ⟨h.1, ?_⟩
 rcases h.2 with ⟨rfl, rfl⟩ | ⟨g, off, cap, cur, rfl, h1, hg, h2⟩
 ·exact .inl ⟨rfl, rfl⟩
 ·exact .inr ⟨g, off, cap, cur, rfl, h1, by rw [hb g (by simp [Value.ownBlock])]; exact hg, h2⟩
theorem Que.chg {X : List Nat} (h : Que w base e size v ws) (c : Chg X w w') (hX : ∀ k, v.ownBlock = some k → k ∉ X) : Que w' base e size v ws :=
 h.block fun k hk => c.block k (h.lt hk).2 (hX k hk)
/-- The first message lies at the slice's beginning. -/
theorem Que.first (h : Que w base e size v (W :: ws)) (hs : 0 < size) : ∃ g off cap, v = .slice (some ⟨g, off, none⟩) (ws.length + 1) cap ∧ base ≤ g ∧ g < w.heap.size ∧ w.rangeAt g off W.cells := by
 rcases h.2 with ⟨_, h0⟩ | ⟨g, off, cap, cur, rfl, hb, hg, h1, h2, h3, h4⟩
 ·cases h0
 ·refine ⟨g, off, cap, rfl, hb, (Array.getElem?_eq_some_iff.1 hg).1, fun j u hj => ?_⟩
  have hl := (h.1 W (by simp)).1
  have hjl := (List.getElem?_eq_some_iff.1 hj).1
  rw [cell_of_row w g (off + j) cur e (0, 0) hg]
  have e1 : (Wms (W :: ws))[j]? = some u := by unfold Wms; rw [List.flatMap_cons, List.getElem?_append_left hjl]; exact hj
  rw [← h4, List.getElem?_take, if_pos (by simp only [List.length_cons, Nat.add_mul, Nat.one_mul]; omega), List.getElem?_drop] at e1
  simpa using e1
theorem run_cut_fromN {P : Program} {w : World} {t e size bytes : Nat} (E : ElN P t e size bytes) (A : Option Addr) (n c l : Nat) (hl : l ≤ n) :
  (Instr.slice t (.slice A n c) (some (.int .i64 (l : Int))) none none).run P w = .ok (.slice (if c = l then A else A.map (·.add (l * size))) (n - l) (c - l)) w := by
 obtain ⟨i, z, hi, hz, hs, hb, hzs⟩ := E.hi
 simp [Instr.slice, run_underlying E.ht, Instr.sliceBounds, run_sliceBound, sizeOf, typeInfo, hi, hs, hl, Int.ofNat_le]
/-- Cut from the front. -/
theorem Que.pop (h : Que w base e size v (W :: ws)) {P : Program} {t bytes : Nat} (E : ElN P t e size bytes) : ∃ v', (Instr.slice t v (some (.int .i64 1)) none none).run P w = .ok v' w ∧ Que w base e size v' ws ∧ v'.ownBlock = v.ownBlock := by
 obtain ⟨i, z, hi, hz, hs, hb, hzs⟩ := E.hi
 rcases h.2 with ⟨_, h0⟩ | ⟨g, off, cap, cur, rfl, hb', hg, h1, h2, h3, h4⟩
 ·cases h0
 have hl := (h.1 W (by simp)).1
 simp only [List.length_cons] at h1 h4 ⊢
 have hrun := run_cut_fromN (w := w) E (some ⟨g, off, none⟩) (ws.length + 1) cap 1 (by omega)
 refine ⟨_, hrun, ⟨fun x hx => h.1 x (by simp [hx]), ?_⟩, ?_⟩
 ·by_cases hc : cap = 1
  ·have : ws = [] := List.eq_nil_of_length_eq_zero (by omega)
   subst this hc
   exact .inr ⟨g, off, 0, cur, by simp, hb', hg, by simp, by omega, by omega, by simp [Wms]⟩
  ·refine .inr ⟨g, off + size, cap - 1, cur, ?_, hb', hg, by omega, by omega, ?_, ?_⟩
   ·rw [if_neg hc]; simp only [Option.map_some, Nat.one_mul, Nat.add_sub_cancel]
    congr 2
    unfold Addr.add; split
    ·rename_i h0; subst h0; rfl
    ·rfl
   ·have : cap = (cap - 1) + 1 := by omega
    rw [this, Nat.add_mul, Nat.one_mul] at h3; omega
   ·have e1 : Wms (W :: ws) = W.cells ++ Wms ws := by unfold Wms; rw [List.flatMap_cons]
    rw [e1] at h4
    have e2 := congrArg (List.drop size) h4
    rw [List.drop_left' hl, List.drop_take, List.drop_drop] at e2
    rw [← e2]
    congr 1
    rw [Nat.add_mul, Nat.one_mul]; omega
 ·by_cases hc : cap = 1
  ·rw [if_pos hc]; rfl
  ·rw [if_neg hc]
   simp only [Option.map_some, Value.ownBlock]
   unfold Addr.add; split <;> rfl
/-- 'append' behind an offset, where there is room. -/
theorem run_append_roomO {P : Program} (w : World) (t ty e : TypeId) (i : TypeInfo) (ht : P.underlying t = some (.slice e)) (hi : P.info? e = some i)
  (g off sLen sCap : Nat) (cur : Array Value) (hg : w.heap[g]? = some (.cells cur e (0, 0)))
  (a : Addr) (m c : Nat) (news : List Value) (hl : news.length = m * i.size) (hnews : ∀ j u, news[j]? = some u → w.cell? (a.add j) = some u) (h1 : ∀ u ∈ news, u.oneCell' = true)
  (hroom : sLen + m ≤ sCap) (hfit : off + sLen * i.size + news.length ≤ cur.size) :
  (Builtin.append_ #[t, t] ty #[.slice (some ⟨g, off, none⟩) sLen sCap, .slice (some a) m c]).run P w =
   .ok (.slice (some ⟨g, off, none⟩) (sLen + m) sCap) (w.setRow g (cur.toList.take (off + sLen * i.size) ++ news ++ cur.toList.drop (off + sLen * i.size + news.length)).toArray) := by
 have hf := run_firstCells_some (P := P) w i.size m a m c news hl hnews
 have hst := run_storeCells_at P g (off + sLen * i.size) e news 0 cur w hg (by simpa using hfit) h1
 simp only [Nat.add_zero] at hst
 have ha : (⟨g, off, none⟩ : Addr).add (sLen * i.size) = ⟨g, off + sLen * i.size, none⟩ := by unfold Addr.add; split <;> simp_all
 simp [Builtin.append_, run_underlying ht, sizeOf, typeInfo, hi, Builtin.lenOf, hroom, hf, ha, hst]
/-- A message more. -/
theorem Que.push (h : Que w base e size v ws) {P : Program} {t ty bytes : Nat} (E : ElN P t e size bytes) (hW : W.cells.length = size ∧ ∀ u ∈ W.cells, u.oneCell' = true)
  (a : Addr) (c : Nat) (ha : ∀ j u, W.cells[j]? = some u → w.cell? (a.add j) = some u) (h63 : ws.length + 1 ≤ 1000000000000) (hbytes : (ws.length + 1) * bytes ≤ 140737488355328) (hbase : base ≤ w.heap.size) :
  ∃ v' w', (Builtin.append_ #[t, t] ty #[v, .slice (some a) 1 c]).run P w = .ok v' w' ∧ Que w' base e size v' (ws ++ [W]) ∧ w.grownBy w' v.ownBlock ∧ (v'.ownBlock = v.ownBlock ∨ v'.ownBlock = some w.heap.size) := by
 obtain ⟨i, z, hi, hz, hs, hb, hzs⟩ := E.hi
 have hall : ∀ x ∈ ws ++ [W], x.cells.length = size ∧ ∀ u ∈ x.cells, u.oneCell' = true := fun x hx => by
  rcases List.mem_append.1 hx with h1 | h1
  ·exact h.1 x h1
  ·rw [List.mem_singleton.1 h1]; exact hW
 have e1 : Wms (ws ++ [W]) = Wms ws ++ W.cells := by unfold Wms; rw [List.flatMap_append]; simp
 have hwl := Wms_len h.1
 rcases h.2 with ⟨rfl, rfl⟩ | ⟨g, off, cap, cur, rfl, hb', hg, h1, h2, h3, h4⟩
 ·obtain ⟨v', w', hr, h2, h3, _, h5⟩ := run_append_own_at (P := P) w base t ty e i z size bytes E.ht hi hz hs hb hzs E.hs.1 (.slice none 0 0) 0 [] (World.ownsRow_nil ..) a 1 c W.cells (by rw [hW.1]; omega) ha hW.2 (by unfold maxLen; omega) (by simpa using hbytes) hbase
  refine ⟨v', w', hr, ⟨hall, ?_⟩, h3, h5⟩
  rcases h2.2 with ⟨_, h0⟩ | ⟨g, cap, cur, rfl, hb', hg, hn, hm, hcs, ht⟩
  ·omega
  ·exact .inr ⟨g, 0, cap, cur, by simp, hb', hg, by simpa using hn, hm, by omega, by simpa [Wms] using ht⟩
 ·by_cases hroom : ws.length + 1 ≤ cap
  ·have hfit : off + ws.length * i.size + W.cells.length ≤ cur.size := by
    rw [hs, hW.1]
    have : (ws.length + 1) * size ≤ cap * size := Nat.mul_le_mul_right _ hroom
    rw [Nat.add_mul, Nat.one_mul] at this; omega
   have hr := run_append_roomO (P := P) w t ty e i E.ht hi g off ws.length cap cur hg a 1 c W.cells (by rw [hW.1, hs]; omega) ha hW.2 hroom hfit
   refine ⟨_, _, hr, ⟨hall, .inr ⟨g, off, cap, _, by simp, hb', setRow_heap w g cur _ e _ hg, by simpa using hroom, h2, ?_, ?_⟩⟩, ⟨rfl, rfl, rfl, by simp [World.setRow], fun k _ hk => setRow_other w g k _ (fun e => hk (by simp [Value.ownBlock, e]))⟩, .inl rfl⟩
   ·simp only [List.size_toArray, List.length_append, List.length_take, List.length_drop, Array.length_toList]; omega
   ·rw [e1, ← h4, hs]
    simp only [List.length_append, List.length_cons, List.length_nil]
    have hlo : (cur.toList.take (off + ws.length * size)).length = off + ws.length * size := by rw [List.length_take, Array.length_toList]; have hf2 := hfit; rw [hs] at hf2; exact Nat.min_eq_left (Nat.le_trans (Nat.le_add_right _ _) hf2)
    rw [List.append_assoc, List.drop_append_of_le_length (by rw [hlo]; omega), List.drop_take, show off + ws.length * size - off = ws.length * size by omega]
    rw [Nat.add_mul, Nat.one_mul]
    have hlx : ((cur.toList.drop off).take (ws.length * size)).length = ws.length * size := by rw [h4]; exact hwl
    rw [← List.append_assoc, List.take_append_of_le_length (by rw [List.length_append, hlx, hW.1]; simp), List.take_of_length_le (by rw [List.length_append, hlx, hW.1]; simp)]
  ·have hcell : ∀ j u, (Wms ws)[j]? = some u → w.cell? ((⟨g, off, none⟩ : Addr).add j) = some u := fun j u hj => by
    have hjl := (List.getElem?_eq_some_iff.1 hj).1
    rw [hwl] at hjl
    rw [show (⟨g, off, none⟩ : Addr).add j = ⟨g, off + j, none⟩ by unfold Addr.add; split <;> simp_all, cell_of_row w g (off + j) cur e (0, 0) hg]
    rw [← h4, List.getElem?_take, if_pos hjl, List.getElem?_drop] at hj
    simpa using hj
   have hr := run_append_grow (P := P) w t ty e i z E.ht hi hz ⟨g, off, none⟩ ws.length cap (Wms ws) (by rw [hs]; exact hwl) hcell a 1 c W.cells (by rw [hs, hW.1]; omega) ha (by omega) (by omega) (growslice_fits (by omega) (by rw [hb]; exact hbytes))
   have hge := grownCap_ge w (ws.length + 1) cap e
   have hcm : grownCap w (ws.length + 1) cap e ≤ maxLen := grownCap_le_maxLen w (ws.length + 1) cap e (by unfold maxLen; omega)
   refine ⟨_, _, hr, ⟨hall, .inr ⟨w.heap.size, 0, _, _, by simp, hbase, heap_alloc_new w.drew _, by simpa using hge, hcm, ?_, ?_⟩⟩, ⟨rfl, rfl, rfl, by simp, fun k hk _ => heap_alloc_old w.drew _ hk⟩, .inr rfl⟩
   ·simp only [Array.size_append, List.size_toArray, size_zeroCells, hzs, hwl, hW.1, Nat.zero_add]
    obtain ⟨q, hq⟩ : ∃ q, grownCap w (ws.length + 1) cap e = ws.length + 1 + q := ⟨grownCap w (ws.length + 1) cap e - (ws.length + 1), by omega⟩
    rw [hq, Nat.add_sub_cancel_left, Nat.add_mul, Nat.add_mul, Nat.one_mul]; omega
   ·rw [e1]
    simp only [Array.toList_append, List.drop_zero, List.length_append, List.length_cons, List.length_nil]
    rw [List.take_append_of_le_length (by simp only [List.length_append, hwl, hW.1]; rw [Nat.add_mul]; omega), List.take_of_length_le (by simp only [List.length_append, hwl, hW.1]; rw [Nat.add_mul]; omega)]
end
end Go.Proofs.Ytbcmjjcbjojakaa
end
section
namespace Go.Proofs.Ytbcmjjcbjojakaa
open Go.RowKit
set_option linter.unusedVariables false
set_option linter.unusedSimpArgs false
def an0 : Array Value := #[.int .i64 0, .int .u64 0, .int .i64 0, .slice none 0 0, .slice none 0 0, .slice none 0 0, .string emS, .bool false, .int .i64 0, .int .i64 0, .int .i64 0, .int .i64 0, .int .i64 0, .int .i64 0, .int .i64 0]
def anX (k tag code : Nat) (b : List Nat) (ks gs : List (List Nat)) (nx : List Nat) (mo : Bool) (g1 g2 g3 h1 h2 h3 h4 : Nat) : An :=
 ⟨(k : Int), tag, (code : Int), b, ks.map bstr, gs.map bstr, bstr nx, mo, unz (g1 : Int), unz (g2 : Int), unz (g3 : Int), unz (h1 : Int), unz (h2 : Int), unz (h3 : Int), unz (h4 : Int)⟩
theorem opt_t {α : Type} (z : α) (f : Nat × Int → α × Nat × Int) (s : Nat × Int) : opt true z f s = f s := rfl
theorem opt_f {α : Type} (z : α) (f : Nat × Int → α × Nat × Int) (s : Nat × Int) : opt false z f s = (z, s) := rfl
section
variable {w : World} {base k tag code k' tag' code' : Nat} {b : List Nat} {ks gs : List (List Nat)} {nx nx' : List Nat} {mo mo' : Bool} {g1 g2 g3 h1 h2 h3 h4 g1' g2' g3' h1' h2' h3' h4' : Nat} {va vk vg : Value}
theorem an_ok (h1_ : w.ownsRow base 5 1 va b.length (cb b)) (h2_ : w.ownsRow base 9 1 vk ks.length (cs (ks.map bstr))) (h3_ : w.ownsRow base 9 1 vg gs.length (cs (gs.map bstr))) : (anW (anX k tag code b ks gs nx mo g1 g2 g3 h1 h2 h3 h4) va vk vg).ok w base := fun r hr => by
 simp only [anW, List.mem_cons, List.not_mem_nil, or_false] at hr
 rcases hr with rfl | rfl | rfl
 ·simp only [cb_length]; exact h1_
 ·simp only [anX, cs_len, List.length_map]; exact h2_
 ·simp only [anX, cs_len, List.length_map]; exact h3_
theorem an_own (h : (anW (anX k tag code b ks gs nx mo g1 g2 g3 h1 h2 h3 h4) va vk vg).ok w base) : w.ownsRow base 5 1 va b.length (cb b) ∧ w.ownsRow base 9 1 vk ks.length (cs (ks.map bstr)) ∧ w.ownsRow base 9 1 vg gs.length (cs (gs.map bstr)) := by
 refine ⟨?_, ?_, ?_⟩
 ·have := h _ (List.mem_cons_self ..); simp only [cb_length] at this; exact this
 ·have := h _ (List.mem_cons_of_mem _ (List.mem_cons_self ..)); simp only [anX, cs_len, List.length_map] at this; exact this
 ·have := h _ (List.mem_cons_of_mem _ (List.mem_cons_of_mem _ (List.mem_cons_self ..))); simp only [anX, cs_len, List.length_map] at this; exact this
theorem an_re (h : (anW (anX k tag code b ks gs nx mo g1 g2 g3 h1 h2 h3 h4) va vk vg).ok w base) : (anW (anX k' tag' code' b ks gs nx' mo' g1' g2' g3' h1' h2' h3' h4') va vk vg).ok w base := let ⟨a1, a2, a3⟩ := an_own h; an_ok a1 a2 a3
end
/-- What is read of a healing, number by number. -/
def hsF (bs : List Nat) (s : Nat × Int) : Nat → List Nat × Nat × Int
 | 0 => ([], s)
 | k + 1 => ((hsF bs s k).1 ++ [(rNum bs (hsF bs s k).2).1], (rNum bs (hsF bs s k).2).2)
theorem hsF_len (bs : List Nat) (s : Nat × Int) : ∀ k, (hsF bs s k).1.length = k
 | 0 => rfl
 | k + 1 => by simp [hsF, hsF_len bs s k]
theorem len2 {l : List Nat} (h : l.length = 2) : ∃ a b, l = [a, b] := by match l, h with | [a, b], _ => exact ⟨a, b, rfl⟩
theorem len3 {l : List Nat} (h : l.length = 3) : ∃ a b c, l = [a, b, c] := by match l, h with | [a, b, c], _ => exact ⟨a, b, c, rfl⟩
end Go.Proofs.Ytbcmjjcbjojakaa
end
section
namespace Go.Proofs.Ytbcmjjcbjojakaa
open Go.RowKit
set_option linter.unusedVariables false
/-- Element by element. -/
def Alike {α β : Type} (R : α → β → Prop) : List α → List β → Prop
 | [], [] => True
 | a :: l, b :: m => R a b ∧ Alike R l m
 | _, _ => False
theorem forall2_snoc {α β : Type} {R : α → β → Prop} : ∀ {l : List α} {m : List β} {a : α} {b : β}, Alike R l m → R a b → Alike R (l ++ [a]) (m ++ [b])
 | [], [], _, _, _, h => ⟨h, trivial⟩
 | [], _ :: _, _, _, h, _ => h.elim
 | _ :: _, [], _, _, h, _ => h.elim
 | _ :: _, _ :: _, _, _, h, h2 => ⟨h.1, forall2_snoc h.2 h2⟩
theorem Alike.len {α β : Type} {R : α → β → Prop} : ∀ {l : List α} {m : List β}, Alike R l m → l.length = m.length
 | [], [], _ => rfl
 | [], _ :: _, h => h.elim
 | _ :: _, [], h => h.elim
 | _ :: _, _ :: _, h => by simp only [List.length_cons]; rw [Alike.len h.2]
/-- A kind of messages. -/
structure Kd (T : Type) where
 ans : Bool
 rd : List Nat → Option T
 is : Wm → T → Prop
 e : Nat
 sl : Nat
 m : Nat
 by_ : Nat
def askK : Kd Rq := ⟨false, rdRq, rqIs, 28, 55, 8, 96⟩
def telK : Kd An := ⟨true, rdAn, anIs, 43, 56, 15, 176⟩
theorem infoRqF : (Try.prog.info? 28).map (fun i => (i.zero.map (·.cells.size), i.size, i.bytes)) = some (some 8, 8, 96) := by kernel_rfl
theorem infoAnF : (Try.prog.info? 43).map (fun i => (i.zero.map (·.cells.size), i.size, i.bytes)) = some (some 15, 15, 176) := by kernel_rfl
theorem info_partsN {P : Program} {e m by_ : Nat} (h : (P.info? e).map (fun i => (i.zero.map (·.cells.size), i.size, i.bytes)) = some (some m, m, by_)) : ∃ i z, P.info? e = some i ∧ i.zero = some z ∧ i.size = m ∧ i.bytes = by_ ∧ z.cells.size = m := by
 cases hi : P.info? e with
 | none => rw [hi] at h; cases h
 | some i =>
  rw [hi] at h
  simp only [Option.map_some, Option.some.injEq, Prod.mk.injEq] at h
  obtain ⟨h1, h2, h3⟩ := h
  cases hz : i.zero with
  | none => rw [hz] at h1; cases h1
  | some z => rw [hz] at h1; simp only [Option.map_some, Option.some.injEq] at h1; exact ⟨i, z, rfl, hz, h2, h3, h1⟩
theorem elRq : ElN Try.prog 55 28 8 96 := ⟨Try.underlying55, info_partsN infoRqF, by omega⟩
theorem elAn : ElN Try.prog 56 43 15 176 := ⟨Try.underlying56, info_partsN infoAnF, by omega⟩
/-- The cells of a reader. -/
def rdC (ans : Bool) (vl vc : Value) (S C k p : Nat) (fl : Int) (vq : Value) : Array Value :=
 #[.bool ans, vl, vc, .int .u32 (S : Int), .int .u64 (C : Int), .int .i64 (k : Int), .int .i64 (p : Int), .int .i64 fl, (if ans then .slice none 0 0 else vq), (if ans then vq else .slice none 0 0)]
/-- The blocks that a reader writes beside its loose bytes' one. -/
def rdY (g : Nat) (vc vq : Value) : List Nat := g :: (vc.ownBlock.toList ++ vq.ownBlock.toList)
def rdX (g : Nat) (vl vc vq : Value) : List Nat := vl.ownBlock.toList ++ rdY g vc vq
theorem mem_Y {g k : Nat} {vc vq : Value} : k ∈ rdY g vc vq ↔ k = g ∨ vc.ownBlock = some k ∨ vq.ownBlock = some k := by
 unfold rdY; simp only [List.mem_cons, List.mem_append, Option.mem_toList]
theorem mem_X {g k : Nat} {vl vc vq : Value} : k ∈ rdX g vl vc vq ↔ vl.ownBlock = some k ∨ k = g ∨ vc.ownBlock = some k ∨ vq.ownBlock = some k := by
 unfold rdX; rw [List.mem_append, mem_Y, Option.mem_toList]
/-- A reader in memory. -/
structure RdS {T : Type} (Z : Kd T) (base : Nat) (w : World) (g : Nat) (vl vc vq : Value) (L c : List Nat) (S C k p : Nat) (fl : Int) (ws : List Wm) (xs : List T) : Prop where
 box : w.heap[g]? = some (.cells (rdC Z.ans vl vc S C k p fl vq) 58)
 lo : w.ownsRow base 5 1 vl L.length (cb L)
 co : w.ownsRow base 5 1 vc c.length (cb c)
 qu : Que w base Z.e Z.m vq ws
 alc : Apart vl vc
 alq : Apart vl vq
 acq : Apart vc vq
 gl : vl.ownBlock ≠ some g
 gc : vc.ownBlock ≠ some g
 gq : vq.ownBlock ≠ some g
 bg : base ≤ g
 ok : ∀ W ∈ ws, W.ok w base
 off : ∀ W ∈ ws, W.off (rdX g vl vc vq)
 is : Alike Z.is ws xs
 s : S < 4294967296
 c64 : C < 18446744073709551616
 lb : ∀ x ∈ L, x < 256
 cb_ : ∀ x ∈ c, x < 256
section
variable {T : Type} {Z : Kd T} {base : Nat} {w w' : World} {g : Nat} {vl vc vq : Value} {L c : List Nat} {S C k p : Nat} {fl : Int} {ws : List Wm} {xs : List T}
theorem RdS.lt (h : RdS Z base w g vl vc vq L c S C k p fl ws xs) : g < w.heap.size := (Array.getElem?_eq_some_iff.1 h.box).1
theorem RdS.ltX (h : RdS Z base w g vl vc vq L c S C k p fl ws xs) {x : Nat} (hx : x ∈ rdX g vl vc vq) : base ≤ x ∧ x < w.heap.size := by
 rcases mem_X.1 hx with h1 | rfl | h1 | h1
 ·exact h.lo.lt x h1
 ·exact ⟨h.bg, h.lt⟩
 ·exact h.co.lt x h1
 ·exact h.qu.lt h1
theorem RdS.at_ (h : RdS Z base w g vl vc vq L c S C k p fl ws xs) (i : Nat) {v : Value} (hv : (rdC Z.ans vl vc S C k p fl vq)[i]? = some v) : w.cell? ⟨g, i, none⟩ = some v := by
 rw [cell_of_row w g i _ _ (0, 0) h.box]; exact hv
theorem RdS.z (h : RdS Z base w g vl vc vq L c S C k p fl ws xs) (i : Nat) : w.frozen? ⟨g, i, none⟩ = false := by simp [World.frozen?, h.box]
theorem RdS.strm (h : RdS Z base w g vl vc vq L c S C k p fl ws xs) : Strm w g 3 (rdC Z.ans vl vc S C k p fl vq) 58 S C := ⟨h.box, rfl, rfl, h.s, h.c64⟩
/-- What leaves the reader's blocks and its messages' ones alone. -/
theorem RdS.keep {Y : List Nat} (h : RdS Z base w g vl vc vq L c S C k p fl ws xs) (b : Chg Y w w') (hX : ∀ x ∈ rdX g vl vc vq, x ∉ Y) (hm : ∀ W ∈ ws, W.off Y) : RdS Z base w' g vl vc vq L c S C k p fl ws xs where
 box := by rw [b.block g h.lt (hX g (mem_X.2 (.inr (.inl rfl))))]; exact h.box
 lo := b.own h.lo fun x hx => hX x (mem_X.2 (.inl hx))
 co := b.own h.co fun x hx => hX x (mem_X.2 (.inr (.inr (.inl hx))))
 qu := h.qu.chg b fun x hx => hX x (mem_X.2 (.inr (.inr (.inr hx))))
 alc := h.alc
 alq := h.alq
 acq := h.acq
 gl := h.gl
 gc := h.gc
 gq := h.gq
 bg := h.bg
 ok := fun W hW => (h.ok W hW).chg b (hm W hW)
 off := h.off
 is := h.is
 s := h.s
 c64 := h.c64
 lb := h.lb
 cb_ := h.cb_
theorem RdS.new (h : RdS Z base w g vl vc vq L c S C k p fl ws xs) (b : Chg [] w w') : RdS Z base w' g vl vc vq L c S C k p fl ws xs :=
 h.keep b (fun x _ => List.not_mem_nil) fun W _ r _ k _ hm => absurd hm List.not_mem_nil
theorem RdS.below (h : RdS Z base w g vl vc vq L c S C k p fl ws xs) (b : Below w.heap.size w w') : RdS Z base w' g vl vc vq L c S C k p fl ws xs := h.new (Chg.of_below b)
theorem RdS.drew (h : RdS Z base w g vl vc vq L c S C k p fl ws xs) : RdS Z base w.drew g vl vc vq L c S C k p fl ws xs := h.new (Chg.refl [] w).drew
/-- The box alone has been written: numbers have turned. -/
theorem RdS.turn (h : RdS Z base w g vl vc vq L c S C k p fl ws xs) {S' C' k' p' : Nat} {fl' : Int} (hb : w'.heap[g]? = some (.cells (rdC Z.ans vl vc S' C' k' p' fl' vq) 58)) (b : Chg [g] w w') (hS : S' < 4294967296) (hC : C' < 18446744073709551616) : RdS Z base w' g vl vc vq L c S' C' k' p' fl' ws xs where
 box := hb
 lo := b.own h.lo fun x hx he => h.gl (by rw [hx, List.mem_singleton.1 he])
 co := b.own h.co fun x hx he => h.gc (by rw [hx, List.mem_singleton.1 he])
 qu := h.qu.chg b fun x hx he => h.gq (by rw [hx, List.mem_singleton.1 he])
 alc := h.alc
 alq := h.alq
 acq := h.acq
 gl := h.gl
 gc := h.gc
 gq := h.gq
 bg := h.bg
 ok := fun W hW => (h.ok W hW).chg b ((h.off W hW).mono fun x hx => by rw [List.mem_singleton.1 hx]; exact mem_X.2 (.inr (.inl rfl)))
 off := h.off
 is := h.is
 s := hS
 c64 := hC
 lb := h.lb
 cb_ := h.cb_
theorem RdS.put (h : RdS Z base w g vl vc vq L c S C k p fl ws xs) (i : Nat) (u : Value) {k' p' : Nat} {fl' : Int} (hb : (rdC Z.ans vl vc S C k p fl vq).setIfInBounds i u = rdC Z.ans vl vc S C k' p' fl' vq) : RdS Z base (w.setCell ⟨g, i, none⟩ u) g vl vc vq L c S C k' p' fl' ws xs :=
 h.turn (by rw [heap_set w g i u _ _ h.box, hb]) ((Chg.refl [g] w).setCell (by simp) u) h.s h.c64
theorem RdS.crc (h : RdS Z base w g vl vc vq L c S C k p fl ws xs) {S' C' : Nat} (hs : Strm w' g 3 (put2 (rdC Z.ans vl vc S C k p fl vq) 3 S' C') 58 S' C') (hg : w.grownBy w' (some g)) : RdS Z base w' g vl vc vq L c S' C' k p fl ws xs :=
 h.turn (by rw [hs.heap]; rfl) ⟨hg.os, hg.tape, hg.output, hg.size, fun x hx hm => hg.block x hx (by simpa using hm)⟩ hs.s hs.c
/-- The content's row has been put anew. -/
theorem RdS.cont (h : RdS Z base w g vl vc vq L c S C k p fl ws xs) {w1 : World} {vc' : Value} {c' : List Nat} {Y : List Nat} (b : Chg Y w w1) (hY : ∀ x ∈ Y, vc.ownBlock = some x) (o : w1.ownsRow base 5 1 vc' c'.length (cb c'))
  (hn : ∀ x, vc'.ownBlock = some x → vc.ownBlock = some x ∨ w.heap.size ≤ x) (hc : ∀ x ∈ c', x < 256) : RdS Z base (w1.setCell ⟨g, 2, none⟩ vc') g vl vc' vq L c' S C k p fl ws xs := by
 have hg : g ∉ Y := fun hm => h.gc (hY g hm)
 have b2 : Chg (g :: Y) w (w1.setCell ⟨g, 2, none⟩ vc') := (b.mono (fun x hx _ => List.mem_cons_of_mem _ hx)).setCell (by simp) vc'
 have hnew : ∀ {x : Nat}, x < w.heap.size → vc'.ownBlock = some x → vc.ownBlock = some x := fun hx hv => (hn _ hv).resolve_right (by omega)
 have gc' : vc'.ownBlock ≠ some g := fun e => h.gc (hnew h.lt e)
 refine ⟨?_, ?_, ?_, ?_, ?_, h.alq, ?_, h.gl, gc', h.gq, h.bg, fun W hW => ?_, fun W hW => ?_, h.is, h.s, h.c64, h.lb, hc⟩
 ·rw [heap_set w1 g 2 vc' _ _ (by rw [b.block g h.lt hg]; exact h.box)]; rfl
 ·refine b2.own h.lo fun x hx hm => ?_
  rcases List.mem_cons.1 hm with rfl | hm
  ·exact h.gl hx
  ·exact h.alc x hx (hY x hm)
 ·exact (Chg.setCell (L := [g]) (Chg.refl _ w1) (p := ⟨g, 2, none⟩) (by simp) vc').own o fun x hx hm => gc' (by rw [hx, List.mem_singleton.1 hm])
 ·refine h.qu.chg b2 fun x hx hm => ?_
  rcases List.mem_cons.1 hm with rfl | hm
  ·exact h.gq hx
  ·exact h.acq x (hY x hm) hx
 ·exact fun x hx hv => h.alc x hx (hnew (h.lo.lt x hx).2 hv)
 ·exact fun x hv hx => h.acq x (hnew (h.qu.lt hx).2 hv) hx
 ·refine (h.ok W hW).chg b2 ((h.off W hW).mono fun x hx => ?_)
  rcases List.mem_cons.1 hx with rfl | hx
  ·exact mem_X.2 (.inr (.inl rfl))
  ·exact mem_X.2 (.inr (.inr (.inl (hY x hx))))
 ·refine (h.off W hW).new (h.ok W hW) fun x hx => ?_
  rcases mem_X.1 hx with h1 | h1 | h1 | h1
  ·exact .inl (mem_X.2 (.inl h1))
  ·exact .inl (mem_X.2 (.inr (.inl h1)))
  ·rcases hn x h1 with h2 | h2
   ·exact .inl (mem_X.2 (.inr (.inr (.inl h2))))
   ·exact .inr h2
  ·exact .inl (mem_X.2 (.inr (.inr (.inr h1))))
/-- The loose bytes' row has been put anew. -/
theorem RdS.loose (h : RdS Z base w g vl vc vq L c S C k p fl ws xs) {w1 : World} {vl' : Value} {L' : List Nat} {Y : List Nat} (b : Chg Y w w1) (hY : ∀ x ∈ Y, vl.ownBlock = some x) (o : w1.ownsRow base 5 1 vl' L'.length (cb L'))
  (hn : ∀ x, vl'.ownBlock = some x → vl.ownBlock = some x ∨ w.heap.size ≤ x) (hl : ∀ x ∈ L', x < 256) : RdS Z base (w1.setCell ⟨g, 1, none⟩ vl') g vl' vc vq L' c S C k p fl ws xs := by
 have hg : g ∉ Y := fun hm => h.gl (hY g hm)
 have b2 : Chg (g :: Y) w (w1.setCell ⟨g, 1, none⟩ vl') := (b.mono (fun x hx _ => List.mem_cons_of_mem _ hx)).setCell (by simp) vl'
 have hnew : ∀ {x : Nat}, x < w.heap.size → vl'.ownBlock = some x → vl.ownBlock = some x := fun hx hv => (hn _ hv).resolve_right (by omega)
 have gl' : vl'.ownBlock ≠ some g := fun e => h.gl (hnew h.lt e)
 refine ⟨?_, ?_, ?_, ?_, ?_, ?_, h.acq, gl', h.gc, h.gq, h.bg, fun W hW => ?_, fun W hW => ?_, h.is, h.s, h.c64, hl, h.cb_⟩
 ·rw [heap_set w1 g 1 vl' _ _ (by rw [b.block g h.lt hg]; exact h.box)]; rfl
 ·exact (Chg.setCell (L := [g]) (Chg.refl _ w1) (p := ⟨g, 1, none⟩) (by simp) vl').own o fun x hx hm => gl' (by rw [hx, List.mem_singleton.1 hm])
 ·refine b2.own h.co fun x hx hm => ?_
  rcases List.mem_cons.1 hm with rfl | hm
  ·exact h.gc hx
  ·exact h.alc x (hY x hm) hx
 ·refine h.qu.chg b2 fun x hx hm => ?_
  rcases List.mem_cons.1 hm with rfl | hm
  ·exact h.gq hx
  ·exact h.alq x (hY x hm) hx
 ·exact fun x hv hx => h.alc x (hnew (h.co.lt x hx).2 hv) hx
 ·exact fun x hv hx => h.alq x (hnew (h.qu.lt hx).2 hv) hx
 ·refine (h.ok W hW).chg b2 ((h.off W hW).mono fun x hx => ?_)
  rcases List.mem_cons.1 hx with rfl | hx
  ·exact mem_X.2 (.inr (.inl rfl))
  ·exact mem_X.2 (.inl (hY x hx))
 ·refine (h.off W hW).new (h.ok W hW) fun x hx => ?_
  rcases mem_X.1 hx with h1 | h1 | h1 | h1
  ·rcases hn x h1 with h2 | h2
   ·exact .inl (mem_X.2 (.inl h2))
   ·exact .inr h2
  ·exact .inl (mem_X.2 (.inr (.inl h1)))
  ·exact .inl (mem_X.2 (.inr (.inr (.inl h1))))
  ·exact .inl (mem_X.2 (.inr (.inr (.inr h1))))
/-- A message more in the queue. -/
theorem RdS.more (h : RdS Z base w g vl vc vq L c S C k p fl ws xs) {w1 : World} {vq' : Value} {W : Wm} {x0 : T} {N : Nat} (b : Chg [] w w1) {w2 : World} (hq : Que w2 base Z.e Z.m vq' (ws ++ [W])) (hgr : w1.grownBy w2 vq.ownBlock)
  (hn : vq'.ownBlock = vq.ownBlock ∨ ∃ x, vq'.ownBlock = some x ∧ w.heap.size ≤ x) (hW : W.ok w1 N) (hX : ∀ x ∈ rdX g vl vc vq, x < N) (hbN : base ≤ N) (hWq : ∀ r ∈ W.rows, ∀ x, r.2.1.ownBlock = some x → vq'.ownBlock ≠ some x) (hI : Z.is W x0) :
  RdS Z base (w2.setCell ⟨g, (if Z.ans then 9 else 8), none⟩ vq') g vl vc vq' L c S C k p fl (ws ++ [W]) (xs ++ [x0]) := by
 have hc : Chg vq.ownBlock.toList w w2 := (b.mono (fun x hx _ => absurd hx List.not_mem_nil)).trans ⟨hgr.os, hgr.tape, hgr.output, hgr.size, fun x hx hm => hgr.block x hx fun e => hm (by rw [Option.mem_toList]; exact e.symm)⟩
 have hg : g ∉ vq.ownBlock.toList := fun hm => h.gq (by rwa [Option.mem_toList] at hm)
 have b2 : Chg (g :: vq.ownBlock.toList) w (w2.setCell ⟨g, (if Z.ans then 9 else 8), none⟩ vq') := (hc.mono (fun x hx _ => List.mem_cons_of_mem _ hx)).setCell (by simp) vq'
 have hnew : ∀ {x : Nat}, x < w.heap.size → vq'.ownBlock = some x → vq.ownBlock = some x := fun {x} hx hv => by
  rcases hn with e | ⟨y, e, hy⟩
  ·rw [← e]; exact hv
  ·rw [e] at hv; injection hv; omega
 have gq' : vq'.ownBlock ≠ some g := fun e => h.gq (hnew h.lt e)
 have own2 : ∀ {e n : Nat} {v : Value} {ys : List Value}, w.ownsRow base e 1 v n ys → v.ownBlock ≠ some g → Apart v vq → (w2.setCell ⟨g, (if Z.ans then 9 else 8), none⟩ vq').ownsRow base e 1 v n ys := fun o ho ha => b2.own o fun x hx hm => by
  rcases List.mem_cons.1 hm with rfl | hm
  ·exact ho hx
  ·exact ha x hx (by rwa [Option.mem_toList] at hm)
 have hset : Chg [g] w2 (w2.setCell ⟨g, (if Z.ans then 9 else 8), none⟩ vq') := (Chg.refl _ w2).setCell (by simp) vq'
 have hWo : W.off (rdX g vl vc vq') := fun r hr x hx hm => by
  have h1 := (hW.lt hr hx).1
  rcases mem_X.1 hm with h2 | h2 | h2 | h2
  ·have := hX x (mem_X.2 (.inl h2)); omega
  ·have := hX x (mem_X.2 (.inr (.inl h2))); omega
  ·have := hX x (mem_X.2 (.inr (.inr (.inl h2)))); omega
  ·exact hWq r hr x hx h2
 have hWo' : ∀ r ∈ W.rows, ∀ x, r.2.1.ownBlock = some x → some x ≠ vq.ownBlock := fun r hr x hx e => by
  have h1 := (hW.lt hr hx).1
  have := hX x (mem_X.2 (.inr (.inr (.inr e.symm)))); omega
 refine ⟨?_, own2 h.lo h.gl h.alq, own2 h.co h.gc h.acq, ?_, h.alc, ?_, ?_, h.gl, h.gc, gq', h.bg, fun V hV => ?_, fun V hV => ?_, ?_, h.s, h.c64, h.lb, h.cb_⟩
 ·rw [heap_set w2 g _ vq' _ _ (by rw [hc.block g h.lt hg]; exact h.box)]
  congr 2
  unfold rdC
  cases Z.ans <;> rfl
 ·exact hq.chg hset fun x hx hm => gq' (by rw [hx, List.mem_singleton.1 hm])
 ·exact fun x hx hv => h.alq x hx (hnew (h.lo.lt x hx).2 hv)
 ·exact fun x hx hv => h.acq x hx (hnew (h.co.lt x hx).2 hv)
 ·rcases List.mem_append.1 hV with h1 | h1
  ·refine (h.ok V h1).chg b2 ((h.off V h1).mono fun x hx => ?_)
   rcases List.mem_cons.1 hx with rfl | hx
   ·exact mem_X.2 (.inr (.inl rfl))
   ·exact mem_X.2 (.inr (.inr (.inr (by rwa [Option.mem_toList] at hx))))
  ·rw [List.mem_singleton.1 h1]
   have h3 : W.ok w2 N := fun r hr => (hW r hr).kept hgr (by
    cases hv : r.2.1.ownBlock with
    | none => exact .inl rfl
    | some x => exact .inr (hWo' r hr x hv))
   refine (h3.chg hset fun r hr x hx hm => ?_).lower hbN
   have := (hW.lt hr hx).1; have := hX g (mem_X.2 (.inr (.inl rfl))); rw [List.mem_singleton.1 hm] at *; omega
 ·rcases List.mem_append.1 hV with h1 | h1
  ·refine (h.off V h1).new (h.ok V h1) fun x hx => ?_
   rcases mem_X.1 hx with h2 | h2 | h2 | h2
   ·exact .inl (mem_X.2 (.inl h2))
   ·exact .inl (mem_X.2 (.inr (.inl h2)))
   ·exact .inl (mem_X.2 (.inr (.inr (.inl h2))))
   ·by_cases hx : x < w.heap.size
    ·exact .inl (mem_X.2 (.inr (.inr (.inr (hnew hx h2)))))
    ·exact .inr (by omega)
  ·rw [List.mem_singleton.1 h1]; exact hWo
 ·exact forall2_snoc h.is hI
end
end Go.Proofs.Ytbcmjjcbjojakaa
end
