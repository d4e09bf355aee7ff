/- Put together of: ThruQ ThrL RefR RefU RefB. -/
import Derived.Test.YtbcmjjcbjojakaaPk9
import Derived.Test.YtbcmjjcbjojakaaChunkW
import Derived.Test.YtbcmjjcbjojakaaPk6
import Derived.Test.YtbcmjjcbjojakaaPk1
import Derived.Test.YtbcmjjcbjojakaaPk5
import Derived.Deep.RegionHeld3
section
namespace Go.Proofs.Ytbcmjjcbjojakaa
open Go.RowKit
set_option linter.unusedVariables false
/-- Four bytes are the word's form or not. -/
theorem word_ne {q : Nat} {l : List Nat} (hq : q < 4294967296) (hl : l.length = 4) (hb : ∀ x ∈ l, x < 256) : ((bstr (fx 4 q)).toList != (bstr l).toList) = decide (q ≠ le256 l) := by
 have h : ((bstr (fx 4 q)).toList == (bstr l).toList) = decide (fx 4 q = l) := bstr_beq _ _ (fx_lt 4 q) hb
 unfold bne
 rw [h]
 by_cases e : q = le256 l
 ·have : fx 4 q = l := by rw [e, ← hl]; exact fx_le256 l hb
  simp [e, ← hl, fx_le256 l hb]
 ·have : fx 4 q ≠ l := fun h => e (by rw [← h, le_fx4 hq])
  simp [e, this]
section
variable {s k : Nat} {b : List Nat}
theorem ck_short (h : b.length < 7) : ckP s k b = .wait := by unfold ckP; rw [if_pos h]
theorem ck_torn (h : 7 ≤ b.length) (h1 : Crc.more 0 (b.take 3) ≠ le256 (seg b 3 4)) : ckP s k b = .bad 302 := by unfold ckP; rw [if_neg (by omega), if_pos h1]
theorem ck_odd (h : 7 ≤ b.length) (h1 : Crc.more 0 (b.take 3) = le256 (seg b 3 4)) (h2 : ckOdd k b) : ckP s k b = .bad 301 := by unfold ckP; rw [if_neg (by omega), if_neg (by omega), if_pos h2]
theorem ck_part' (h : 7 ≤ b.length) (h1 : Crc.more 0 (b.take 3) = le256 (seg b 3 4)) (h2 : ¬ ckOdd k b) (h3 : b.length < ckN b + 11) : ckP s k b = .wait := by unfold ckP; rw [if_neg (by omega), if_neg (by omega), if_neg h2, if_pos h3]
theorem ck_torn2 (h1 : Crc.more 0 (b.take 3) = le256 (seg b 3 4)) (h2 : ¬ ckOdd k b) (h3 : ckN b + 11 ≤ b.length) (h4 : Crc.more s (seg b 7 (ckN b)) ≠ le256 (seg b (7 + ckN b) 4)) : ckP s k b = .bad 302 := by unfold ckP; rw [if_neg (by omega), if_neg (by omega), if_neg h2, if_neg (by omega), if_pos h4]
theorem ck_ok (h1 : Crc.more 0 (b.take 3) = le256 (seg b 3 4)) (h2 : ¬ ckOdd k b) (h3 : ckN b + 11 ≤ b.length) (h4 : Crc.more s (seg b 7 (ckN b)) = le256 (seg b (7 + ckN b) 4)) : ckP s k b = .ok (decide (b.getD 0 0 = 2)) (ckN b) := by unfold ckP; rw [if_neg (by omega), if_neg (by omega), if_neg h2, if_neg (by omega), if_neg (by omega)]
end
end Go.Proofs.Ytbcmjjcbjojakaa
end
section
namespace Go.Proofs.Ytbcmjjcbjojakaa
open Go.RowKit
set_option linter.unusedVariables false
structure ThL {T : Type} (Z : Kd T) (w : World) (N g1 g2 g3 : Nat) (RC : Array Value) (wr : World) (vc vq : Value) (c : List Nat) (ws : List Wm) (xs : List T) : Prop where
 b1 : wr.heap[g1]? = some (.cells RC 65)
 b2 : wr.heap[g2]? = some (.cells #[.slice none 0 0, .slice none 0 0, .int .i64 0, .int .i64 0] 63)
 b3 : wr.heap[g3]? = some (.cells (thR Z.ans vq 0 0).toArray 63)
 co : wr.ownsRow N 5 1 vc c.length (cb c)
 lb : ∀ x ∈ c, x < 256
 qu : Que wr N Z.e Z.m vq ws
 acq : Apart vc vq
 ok : ∀ W ∈ ws, W.ok wr N
 off : ∀ W ∈ ws, W.off (vc.ownBlock.toList ++ vq.ownBlock.toList)
 is : Alike Z.is ws xs
 lo : w.heap.size ≤ g1 ∧ g1 < g2 ∧ g2 < g3 ∧ g3 < N
 nn : N ≤ wr.heap.size
 ch : Chg [] w wr
section
variable {T : Type} {Z : Kd T} {w wr w' : World} {N g1 g2 g3 : Nat} {RC : Array Value} {vc vq : Value} {c : List Nat} {ws : List Wm} {xs : List T}
theorem ThL.lt1 (h : ThL Z w N g1 g2 g3 RC wr vc vq c ws xs) : g1 < wr.heap.size := (Array.getElem?_eq_some_iff.1 h.b1).1
theorem ThL.lt2 (h : ThL Z w N g1 g2 g3 RC wr vc vq c ws xs) : g2 < wr.heap.size := (Array.getElem?_eq_some_iff.1 h.b2).1
theorem ThL.lt3 (h : ThL Z w N g1 g2 g3 RC wr vc vq c ws xs) : g3 < wr.heap.size := (Array.getElem?_eq_some_iff.1 h.b3).1
/-- What leaves its blocks alone. -/
theorem ThL.keep {Y : List Nat} (h : ThL Z w N g1 g2 g3 RC wr vc vq c ws xs) (b : Chg Y wr w') (hN : ∀ y ∈ Y, N ≤ y) (hc : ∀ x, vc.ownBlock = some x → x ∉ Y) (hq : ∀ x, vq.ownBlock = some x → x ∉ Y) (hm : ∀ W ∈ ws, W.off Y) : ThL Z w N g1 g2 g3 RC w' vc vq c ws xs where
 b1 := by rw [b.block g1 h.lt1 fun hm => by have := hN _ hm; have := h.lo; omega]; exact h.b1
 b2 := by rw [b.block g2 h.lt2 fun hm => by have := hN _ hm; have := h.lo; omega]; exact h.b2
 b3 := by rw [b.block g3 h.lt3 fun hm => by have := hN _ hm; have := h.lo; omega]; exact h.b3
 co := b.own h.co hc
 lb := h.lb
 qu := h.qu.chg b hq
 acq := h.acq
 ok := fun W hW => (h.ok W hW).chg b (hm W hW)
 off := h.off
 is := h.is
 lo := h.lo
 nn := Nat.le_trans h.nn b.size
 ch := h.ch.newer b fun y hy => .inr (by have := hN y hy; have := h.lo; omega)
theorem ThL.new (h : ThL Z w N g1 g2 g3 RC wr vc vq c ws xs) (b : Chg [] wr w') : ThL Z w N g1 g2 g3 RC w' vc vq c ws xs :=
 h.keep b (fun _ hy => absurd hy List.not_mem_nil) (fun _ _ => List.not_mem_nil) (fun _ _ => List.not_mem_nil) fun W _ r _ k _ hm => absurd hm List.not_mem_nil
/-- The content is begun anew. -/
theorem ThL.drop (h : ThL Z w N g1 g2 g3 RC wr vc vq c ws xs) : ThL Z w N g1 g2 g3 RC wr (.slice none 0 0) vq [] ws xs :=
 { h with co := World.ownsRow_nil _ _ _ _, lb := fun _ h => absurd h List.not_mem_nil, acq := Apart.nil _, off := fun W hW => (h.off W hW).mono fun k hk => by simpa [Value.ownBlock] using Or.inr (by simpa [Value.ownBlock] using hk) }
/-- The content's row has been put anew. -/
theorem ThL.cont (h : ThL Z w N g1 g2 g3 RC wr vc vq c ws xs) {vc' : Value} {c' : List Nat} {Y : List Nat} (b : Chg Y wr w') (hY : ∀ x ∈ Y, vc.ownBlock = some x) (o : w'.ownsRow N 5 1 vc' c'.length (cb c'))
  (hn : ∀ x, vc'.ownBlock = some x → vc.ownBlock = some x ∨ wr.heap.size ≤ x) (hc : ∀ x ∈ c', x < 256) : ThL Z w N g1 g2 g3 RC w' vc' vq c' ws xs := by
 have h2 := h.drop.keep b (fun y hy => (h.co.lt y (hY y hy)).1) (fun x hx => by cases hx) (fun x hx hm => h.acq x (hY x hm) hx) fun W hW => (h.off W hW).mono fun k hk => List.mem_append_left _ (by rw [Option.mem_toList]; exact hY k hk)
 exact { h2 with
  co := o
  lb := hc
  acq := fun k hk hq => (hn k hk).elim (fun e => h.acq k e hq) fun e => by have := (h.qu.lt hq).2; omega
  off := fun W hW r hr k hk hm => by
   rcases List.mem_append.1 hm with h1 | h1
   ·rcases hn k (by rwa [Option.mem_toList] at h1) with e | e
    ·exact h.off W hW r hr k hk (List.mem_append_left _ (by rw [Option.mem_toList]; exact e))
    ·have := ((h.ok W hW).lt hr hk).2; omega
   ·exact h.off W hW r hr k hk (List.mem_append_right _ h1) }
/-- A message more. -/
theorem ThL.more (h : ThL Z w N g1 g2 g3 RC wr vc vq c ws xs) {w1 w2 : World} {vq' : Value} {W : Wm} {x0 : T} {M0 n0 : Nat} (b : Chg [] wr w1) (hq : Que w2 N Z.e Z.m vq' (ws ++ [W])) (hgr : w1.grownBy w2 vq.ownBlock)
  (hn : vq'.ownBlock = vq.ownBlock ∨ vq'.ownBlock = some n0) (hn0 : w1.heap.size ≤ n0) (hW : W.ok w1 M0) (hM : wr.heap.size ≤ M0) (hI : Z.is W x0) :
  ThL Z w N g1 g2 g3 RC (w2.setCell ⟨g3, (if Z.ans then 1 else 0), none⟩ vq') vc vq' c (ws ++ [W]) (xs ++ [x0]) := by
 have h1 := h.new b
 have hc : Chg vq.ownBlock.toList w1 w2 := ⟨hgr.os, hgr.tape, hgr.output, hgr.size, fun x hx hm => hgr.block x hx fun e => hm (by rw [Option.mem_toList]; exact e.symm)⟩
 have hNq : ∀ y ∈ vq.ownBlock.toList, N ≤ y := fun y hy => (h.qu.lt (by rwa [Option.mem_toList] at hy)).1
 have hlo := h.lo
 have hN := h.nn
 have hs1 := b.size
 have hg3 : w2.heap[g3]? = some (.cells (thR Z.ans vq 0 0).toArray 63) := by rw [hc.block g3 h1.lt3 fun hm => by have := hNq _ hm; omega]; exact h1.b3
 have b2 : Chg (g3 :: vq.ownBlock.toList) w1 (w2.setCell ⟨g3, (if Z.ans then 1 else 0), none⟩ vq') := (hc.mono (fun x hx _ => List.mem_cons_of_mem _ hx)).setCell (by simp) vq'
 have hY : ∀ y ∈ g3 :: vq.ownBlock.toList, y = g3 ∨ vq.ownBlock = some y := fun y hy => by simpa using hy
 have hW0 : ∀ r ∈ W.rows, ∀ k, r.2.1.ownBlock = some k → M0 ≤ k ∧ k < w1.heap.size := fun r hr k hk => hW.lt hr hk
 exact {
  b1 := by rw [b2.block g1 h1.lt1 fun hm => (hY _ hm).elim (fun e => by omega) fun e => by have := (h.qu.lt e).1; omega]; exact h1.b1
  b2 := by rw [b2.block g2 h1.lt2 fun hm => (hY _ hm).elim (fun e => by omega) fun e => by have := (h.qu.lt e).1; omega]; exact h1.b2
  b3 := by rw [heap_set w2 g3 _ vq' _ _ hg3]; unfold thR; cases Z.ans <;> rfl
  co := b2.own h1.co fun x hx hm => (hY _ hm).elim (fun e => by have := (h.co.lt x hx).1; omega) fun e => h.acq x hx e
  lb := h.lb
  qu := hq.block fun k hk => Below.heap_setCell _ _ _ _ (by show k ≠ g3; have := (hq.lt hk).1; omega)
  acq := fun k hk hv => hn.elim (fun e => h.acq k hk (by rw [← e]; exact hv)) fun e => by rw [hv] at e; injection e with e; have := (h1.co.lt k hk).2; omega
  ok := fun V hV => by
   rcases List.mem_append.1 hV with h2 | h2
   ·exact (h1.ok V h2).chg b2 fun r hr k hk hm => (hY _ hm).elim (fun e => by have := ((h1.ok V h2).lt hr hk).1; omega) fun e => h.off V h2 r hr k hk (List.mem_append_right _ (by rw [Option.mem_toList]; exact e))
   ·rw [List.mem_singleton.1 h2]
    exact (hW.lower (Nat.le_trans hN hM)).chg b2 fun r hr k hk hm => (hY _ hm).elim (fun e => by have := (hW0 r hr k hk).1; omega) fun e => by have := (hW0 r hr k hk).1; have := (h.qu.lt e).2; omega
  off := fun V hV r hr k hk hm => by
   rcases List.mem_append.1 hV with h2 | h2
   ·rcases List.mem_append.1 hm with h3 | h3
    ·exact h.off V h2 r hr k hk (List.mem_append_left _ h3)
    ·rw [Option.mem_toList] at h3
     rcases hn with e | e
     ·exact h.off V h2 r hr k hk (List.mem_append_right _ (by rw [Option.mem_toList, ← e]; exact h3))
     ·have h3' : vq'.ownBlock = some k := h3
      rw [e] at h3'; injection h3' with e2; have := ((h1.ok V h2).lt hr hk).2; omega
   ·rw [List.mem_singleton.1 h2] at hr
    have := hW0 r hr k hk
    rcases List.mem_append.1 hm with h3 | h3
    ·rw [Option.mem_toList] at h3; have := (h.co.lt k h3).2; omega
    ·rw [Option.mem_toList] at h3
     have h3' : vq'.ownBlock = some k := h3
     rcases hn with e | e
     ·rw [e] at h3'; have := (h.qu.lt h3').2; omega
     ·rw [e] at h3'; injection h3' with e2; omega
  is := forall2_snoc h.is hI
  lo := h.lo
  nn := by have := b2.size; omega
  ch := h1.ch.newer b2 fun y hy => .inr ((hY y hy).elim (fun e => by omega) fun e => by have := (h.qu.lt e).1; omega) }
theorem ThL.start (Z : Kd T) (w : World) (RC : Array Value) : ThL Z w (w.heap.size + 1 + 1 + 1) w.heap.size (w.heap.size + 1) (w.heap.size + 1 + 1) RC
  (((w.alloc (.cells RC 65)).alloc (.cells #[.slice none 0 0, .slice none 0 0, .int .i64 0, .int .i64 0] 63)).alloc (.cells #[.slice none 0 0, .slice none 0 0, .int .i64 0, .int .i64 0] 63)) (.slice none 0 0) (.slice none 0 0) [] [] [] where
 b1 := by rw [heap_alloc_old _ _ (by simp; omega), heap_alloc_old _ _ (by simp)]; exact heap_alloc_new w _
 b2 := by rw [heap_alloc_old _ _ (by simp)]; have := heap_alloc_new (w.alloc (.cells RC 65)) (.cells #[.slice none 0 0, .slice none 0 0, .int .i64 0, .int .i64 0] 63); simpa using this
 b3 := by
  have := heap_alloc_new ((w.alloc (.cells RC 65)).alloc (.cells #[.slice none 0 0, .slice none 0 0, .int .i64 0, .int .i64 0] 63)) (.cells #[.slice none 0 0, .slice none 0 0, .int .i64 0, .int .i64 0] 63)
  have e : (thR Z.ans (.slice none 0 0) 0 0).toArray = #[.slice none 0 0, .slice none 0 0, .int .i64 0, .int .i64 0] := by unfold thR; cases Z.ans <;> rfl
  rw [e]; simpa using this
 co := World.ownsRow_nil _ _ _ _
 lb := fun _ h => absurd h List.not_mem_nil
 qu := Que.nil _ _ _ _
 acq := Apart.nil _
 ok := fun _ h => absurd h List.not_mem_nil
 off := fun _ h => absurd h List.not_mem_nil
 is := trivial
 lo := by omega
 nn := by simp
 ch := (((Chg.refl [] w).alloc _).alloc _).alloc _
end
end Go.Proofs.Ytbcmjjcbjojakaa
end
section
namespace Go.Proofs.Ytbcmjjcbjojakaa
open Go.RowKit
set_option linter.unusedVariables false
set_option maxRecDepth 20000
theorem refused_any (w : World) (gr n c at_ from_ : Nat) (fl e : Int) (A : Option Addr) (bs : List Nat) (R : Rr w gr A n c at_ fl bs) (hf : from_ ≤ n) :
  Calls Try.prog 134 #[.pointer (some ⟨gr, 0, none⟩), .int .i64 (from_ : Int), .int .i64 e] w fun r w' => r = .returned (.tuple #[]) ∧ Chg [gr] w w' ∧ Rr w' gr A n c from_ e bs := by
 have HR := Hd.mk R
 have g1 := R.c1
 have g2 := R.c2
 have z1 := R.z1
 have z2 := R.z2
 have HF := Hd.mk hf
 obtain ⟨F, hF⟩ : ∃ F : Int, (from_ : Int) = F := ⟨_, rfl⟩
 have HF2 := Hd.mk hF
 rw [hF]
 clear R hf hF
 go_enter Try.func134, Try.ntmps134
 go_wp2_with fail
 go_end0
 refine ⟨rfl, ((Chg.refl [gr] w).setCell (by simp) _).setCell (by simp) _, ?_⟩
 rw [← HF2.out]
 exact (HR.out.move from_ HF.out).fail e
theorem rend_any (w : World) (gr n c at_ : Nat) (fl : Int) (A : Option Addr) (bs : List Nat) (R : Rr w gr A n c at_ fl bs) :
  Calls Try.prog 125 #[.pointer (some ⟨gr, 0, none⟩)] w fun e w' => e = .returned (.int .i64 (endF n at_ fl)) ∧ Chg [] w w' := by
 have g0 := R.c0
 have g1 := R.c1
 have g2 := R.c2
 obtain ⟨l1, l2, l3⟩ := R.le
 obtain ⟨AT, hAT⟩ : ∃ AT : Int, (at_ : Int) = AT := ⟨_, rfl⟩
 obtain ⟨N, hN⟩ : ∃ N : Int, (n : Int) = N := ⟨_, rfl⟩
 have HA : Hd ((at_ : Int) = AT ∧ (n : Int) = N ∧ at_ ≤ n) := ⟨hAT, hN, l1⟩
 rw [hAT] at g1
 have b1 : AT ≤ N := by omega
 clear R l1 l2 l3 hAT
 by_cases h0 : fl = 0
 ·subst h0
  by_cases hz : AT < N
  ·go_enter Try.func125, Try.ntmps125
   go_wp2_with fail
   go_quiet (fail)
   go_wp2_with fail
   go_ret
   exact ⟨by unfold endF; rw [if_neg (by simp), if_neg (by have := HA.out; omega)]; rfl, (Chg.refl _ _).drewN _⟩
  ·have hz' : AT = N := by omega
   have HZ := Hd.mk hz'
   have hd : decide (AT < N) = false := by simp; omega
   clear hz'
   go_enter Try.func125, Try.ntmps125
   go_wp2_with fail
   go_quiet (fail)
   go_wp2_with fail
   go_ret
   exact ⟨by unfold endF; rw [if_neg (by simp), if_pos (by have := HA.out; have := HZ.out; omega)]; rfl, (Chg.refl _ _).drewN _⟩
 ·have h0' : (fl == 0) = false := by simp [h0]
  have HZ := Hd.mk h0
  clear h0
  go_enter Try.func125, Try.ntmps125
  go_wp2_with fail
  go_quiet (fail)
  go_wp2_with fail
  go_ret
  exact ⟨by unfold endF; rw [if_pos HZ.out]; rfl, (Chg.refl _ _).drewN _⟩
theorem le256_cons_step (l : List Nat) (k : Nat) (hk : k < l.length) (h8 : l.length ≤ 8) (hb : ∀ x ∈ l, x < 256) :
  ((le256 (l.drop (k + 1)) : Nat) : Int) * 256 + ((l.getD k 0 : Nat) : Int) = ((le256 (l.drop k) : Nat) : Int) ∧ le256 (l.drop k) < 2 ^ 64 := by
 have e : l.drop k = l.getD k 0 :: l.drop (k + 1) := by
  rw [List.getD_eq_getElem?_getD, List.getElem?_eq_getElem hk]; exact List.drop_eq_getElem_cons hk
 have h1 := le256_lt (l.drop k) fun x hx => hb x (List.mem_of_mem_drop hx)
 refine ⟨by rw [e, le256]; push_cast; omega, Nat.lt_of_lt_of_le h1 ?_⟩
 rw [show (256 : Nat) = 2 ^ 8 by rfl, ← Nat.pow_mul]
 exact Nat.pow_le_pow_right (by omega) (by rw [List.length_drop]; omega)
set_option maxHeartbeats 2000000 in
theorem rfixed_any (w : World) (gr n c at_ k : Nat) (fl : Int) (A : Option Addr) (bs : List Nat) (hk1 : 1 ≤ k) (hk8 : k ≤ 8) (R : Rr w gr A n c at_ fl bs) :
  Calls Try.prog 120 #[.pointer (some ⟨gr, 0, none⟩), .int .i64 (k : Int)] w (Ans w gr n c A bs KNum (redo (fixF bs at_ k) 0 at_ fl)) := by
 have HR := Hd.mk R
 have g0 := R.c0
 have g1 := R.c1
 have g2 := R.c2
 have z1 := R.z1
 obtain ⟨l1, l2, l3⟩ := R.le
 by_cases h0 : fl = 0
 ·subst h0
  by_cases hlt : n - at_ < k
  ·have hd : decide (((n : Int) - (at_ : Int)) < (k : Int)) = true := by simp; omega
   have HL := Hd.mk hlt
   clear R
   go_enter Try.func120, Try.ntmps120
   go_wp2_with fail
   go_quiet (fail)
   go_wp2_with fail
   refine (refused_any _ gr n c at_ at_ 0 70 A bs (HR.out.drewN _) l1).mono ?_
   rintro e w2 ⟨rfl, hch, hr⟩
   have H2 : Hd (Chg [gr] w w2 ∧ Rr w2 gr A n c at_ 70 bs) := ⟨((Chg.refl _ w).drewN nq).trans hch, hr⟩
   clear hch hr
   go_wp2_with fail
   go_ret
   have e1 : redo (fixF bs at_ k) 0 at_ 0 = (0, at_, 70) := by
    unfold fixF takeF
    rw [if_neg (by rw [HR.out.len]; have := HL.out; omega)]; rfl
   rw [e1]
   exact ⟨_, rfl, H2.out.1, rfl, H2.out.2⟩
  ·have hd : decide (((n : Int) - (at_ : Int)) < (k : Int)) = false := by simp; omega
   have HL : Hd (k ≤ n - at_) := ⟨by omega⟩
   have hbl := HR.out.len
   obtain ⟨l, hl⟩ : ∃ l, (bs.drop at_).take k = l := ⟨_, rfl⟩
   have hll : l.length = k := by rw [← hl, List.length_take, List.length_drop]; omega
   have H1 : Hd ((bs.drop at_).take k = l ∧ l.length = k ∧ (∀ x ∈ l, x < 256) ∧ ∀ j, j < k → bs[at_ + j]? = some (l.getD j 0)) := ⟨hl, hll, fun x hx => HR.out.lb x (by rw [← hl] at hx; exact List.mem_of_mem_drop (List.mem_of_mem_take hx)), fun j hj => by
    rw [List.getD_eq_getElem?_getD, ← hl, List.getElem?_take, if_pos hj, List.getElem?_drop]
    rw [List.getElem?_eq_getElem (by omega)]; rfl⟩
   clear hl hll hbl R
   go_enter Try.func120, Try.ntmps120
   go_wp2_with fail
   go_quiet (fail)
   go_wp2_with fail
   clear g0 g1 g2 z1 hd hlt
   go_loopw [5, 6] (fun v i wr => ∃ (j : Nat), j ≤ k ∧ i = .int .i64 ((j : Int) - 1) ∧ v = .int .u64 ((le256 (l.drop j) : Nat) : Int) ∧ ∃ m, wr = w.drewN m) (fun _ i _ => (intOf i + 1).toNat)
   case atStart => exact ⟨k, Nat.le_refl _, rfl, by rw [List.drop_eq_nil_of_le (by rw [H1.out.2.1]; exact Nat.le_refl _)]; rfl, nq, rfl⟩
   case round =>
    obtain ⟨j, hj, rfl, rfl, hw⟩ := hrel
    have HW := Hd.mk hw
    clear hw
    have g0 : wr.cell? ⟨gr, 0, none⟩ = some (.slice A n c) := by obtain ⟨m, rfl⟩ := HW.out; exact HR.out.c0
    have g1 : wr.cell? ⟨gr, 1, none⟩ = some (.int .i64 (at_ : Int)) := by obtain ⟨m, rfl⟩ := HW.out; exact HR.out.c1
    have z1 : wr.frozen? ⟨gr, 1, none⟩ = false := by obtain ⟨m, rfl⟩ := HW.out; exact HR.out.z1
    rcases j with _ | q
    ·rw [show (((0 : Nat) : Int) - 1) = -1 from rfl, List.drop_zero]
     obtain ⟨X, hX⟩ : ∃ X : Int, ((le256 l : Nat) : Int) = X := ⟨_, rfl⟩
     have HX := Hd.mk hX
     rw [hX]
     clear hX
     go_wp2_with fail
     go_ret
     have e1 : redo (fixF bs at_ k) 0 at_ 0 = (le256 l, at_ + k, 0) := by
      unfold fixF takeF
      rw [if_pos (by rw [HR.out.len]; exact HL.out), H1.out.1]; rfl
     rw [e1]
     obtain ⟨m, rfl⟩ := HW.out
     have hmv := (HR.out.drewN m).move (at_ + k) (by have := HL.out; omega)
     refine ⟨_, rfl, ((Chg.refl [gr] w).drewN m).setCell (by simp) _, by rw [← HX.out]; rfl, ?_⟩
     simpa using hmv
    ·rw [show (((q + 1 : Nat) : Int) - 1) = (q : Int) from by omega]
     obtain ⟨g, off, u, rfl, hg, hu, hc⟩ := HR.out.rd.at_ (k := at_ + q) (by have := HL.out; omega)
     rw [cb, List.getElem?_map, H1.out.2.2.2 q (by omega)] at hu
     injection hu with hu
     subst hu
     have hstep := le256_cons_step l q (by rw [H1.out.2.1]; omega) (by rw [H1.out.2.1]; exact hk8) H1.out.2.2.1
     have hcl : l.getD q 0 < 256 := H1.out.2.2.1 _ (by rw [List.getD_eq_getElem?_getD, List.getElem?_eq_getElem (by rw [H1.out.2.1]; omega)]; exact List.getElem_mem _)
     have hcell : wr.cell? ⟨g, off + (at_ + q), none⟩ = some (.int .u8 ((l.getD q 0 : Nat) : Int)) := by obtain ⟨m, rfl⟩ := HW.out; exact hc
     obtain ⟨C, hC⟩ : ∃ C : Int, ((l.getD q 0 : Nat) : Int) = C := ⟨_, rfl⟩
     obtain ⟨V, hV⟩ : ∃ V : Int, ((le256 (l.drop (q + 1)) : Nat) : Int) = V := ⟨_, rfl⟩
     have C0 : 0 ≤ C := by omega
     have C1 : C ≤ 255 := by omega
     have HS : Hd (V * 256 + C = ((le256 (l.drop q) : Nat) : Int) ∧ le256 (l.drop q) < 2 ^ 64) := ⟨by rw [← hV, ← hC]; exact hstep.1, hstep.2⟩
     have V0 : 0 ≤ V := by omega
     have hw1 : IntKind.u64.wrap (V * 256) = V * 256 := by have := HS.out; rw [IntKind.wrap_u64]; omega
     have hw2 : IntKind.u64.wrap (V * 256 + C) = V * 256 + C := by have := HS.out; rw [IntKind.wrap_u64]; omega
     have e5 : ((at_ : Int) + (q : Int)).toNat = at_ + q := by omega
     have hib : (at_ : Int) + (q : Int) < (n : Int) := by have := HL.out; omega
     rw [hC] at hcell
     rw [hV]
     clear hC hV hstep hcl hc
     have i0 : IntKind.i64.wrap ((at_ : Int) + (q : Int)) = (at_ : Int) + (q : Int) := by rw [IntKind.wrap_i64]; omega
     go_wp2_with fail
     go_quiet (fail)
     go_wp2_with fail
     go_roundw
     case rel => exact ⟨q, by omega, rfl, by rw [← HS.out.1], by obtain ⟨m, rfl⟩ := HW.out; exact ⟨m + nq, by simp [World.drewN, Nat.add_assoc]⟩⟩
     case measure => first | (simp [intOf]; done) | (simp [intOf]; omega)
 ·have h0' : (fl != 0) = true := by simp [h0]
  have HZ := Hd.mk h0
  clear h0 R
  go_enter Try.func120, Try.ntmps120
  go_wp2_with fail
  go_ret
  have e1 : redo (fixF bs at_ k) 0 at_ fl = (0, at_, fl) := by unfold redo; rw [if_neg HZ.out]
  rw [e1]
  exact ⟨_, rfl, Chg.refl _ _, rfl, HR.out⟩
end Go.Proofs.Ytbcmjjcbjojakaa
end
section
namespace Go.Proofs.Ytbcmjjcbjojakaa
open Go.RowKit
set_option linter.unusedVariables false
set_option maxRecDepth 20000
set_option maxHeartbeats 4000000 in
theorem ruvarint_any (w : World) (gr n c at_ : Nat) (fl : Int) (A : Option Addr) (bs : List Nat) (R : Rr w gr A n c at_ fl bs) :
  Calls Try.prog 121 #[.pointer (some ⟨gr, 0, none⟩)] w (Ans w gr n c A bs KNum (redo (numF bs at_) 0 at_ fl)) := by
 have HR := Hd.mk R
 have g0 := R.c0
 have g1 := R.c1
 have g2 := R.c2
 have z1 := R.z1
 obtain ⟨l1, l2, l3⟩ := R.le
 by_cases h0 : fl = 0
 ·subst h0
  obtain ⟨o, ho⟩ : ∃ o, numF bs at_ = o := ⟨_, rfl⟩
  rw [ho]
  have HO := Hd.mk ho
  have hbl := HR.out.len
  have HL := Hd.mk hbl
  clear R ho hbl
  go_enter Try.func121, Try.ntmps121
  go_wp2_with fail
  clear g0 g1 g2 z1
  go_loopw [3, 4] (fun v i wr => ∃ (k x : Nat), k ≤ 9 ∧ x < 2 ^ (7 * k) ∧ i = .int .i64 (k : Int) ∧ v = .int .u64 (x : Int) ∧ (∃ m, wr = w.drewN m) ∧
   (match numR (bs.drop (at_ + k)) k x with | .ok (v, m) => Except.ok (v, at_ + m) | .error e => .error e) = o) (fun _ i _ => 10 - (intOf i).toNat)
  case atStart => exact ⟨0, 0, by omega, by omega, rfl, rfl, ⟨0, rfl⟩, HO.out⟩
  case round =>
   obtain ⟨k, x, hk, hx, rfl, rfl, hw, ho⟩ := hrel
   have HW : Hd ((∃ m, wr = w.drewN m) ∧ x < 2 ^ (7 * k)) := ⟨hw, hx⟩
   have HQ := Hd.mk ho
   clear hw hx ho
   have g0 : wr.cell? ⟨gr, 0, none⟩ = some (.slice A n c) := by obtain ⟨m, rfl⟩ := HW.out.1; exact HR.out.c0
   have g1 : wr.cell? ⟨gr, 1, none⟩ = some (.int .i64 (at_ : Int)) := by obtain ⟨m, rfl⟩ := HW.out.1; exact HR.out.c1
   have z1 : wr.frozen? ⟨gr, 1, none⟩ = false := by obtain ⟨m, rfl⟩ := HW.out.1; exact HR.out.z1
   have HRw : Hd (Chg [gr] w wr ∧ Rr wr gr A n c at_ 0 bs) := ⟨by obtain ⟨m, rfl⟩ := HW.out.1; exact (Chg.refl _ _).drewN m, by obtain ⟨m, rfl⟩ := HW.out.1; exact HR.out.drewN m⟩
   have w1 : IntKind.i64.wrap ((at_ : Int) + (k : Int)) = (at_ : Int) + (k : Int) := by rw [IntKind.wrap_i64]; omega
   by_cases hlt : at_ + k < n
   ·have hge : decide ((n : Int) ≤ (at_ : Int) + (k : Int)) = false := by simp; omega
    have hge' : decide (at_ + k ≥ n) = false := by simp; omega
    obtain ⟨g, off, u, rfl, hg, hu, hc⟩ := HR.out.rd.at_ hlt
    rw [cb_get bs _ (by rw [HL.out]; exact hlt)] at hu
    injection hu with hu
    subst hu
    have hcl : bs.getD (at_ + k) 0 < 256 := HR.out.lb _ (by rw [List.getD_eq_getElem?_getD, List.getElem?_eq_getElem (by rw [HL.out]; exact hlt)]; exact List.getElem_mem _)
    have hdr := drop_cons bs (at_ + k) (by rw [HL.out]; exact hlt)
    obtain ⟨C, hC⟩ : ∃ C, bs.getD (at_ + k) 0 = C := ⟨_, rfl⟩
    rw [hC] at hc hcl hdr
    have hcell : wr.cell? ⟨g, off + (at_ + k), none⟩ = some (.int .u8 (C : Int)) := by obtain ⟨m, rfl⟩ := HW.out.1; exact hc
    obtain ⟨X, hX⟩ : ∃ X : Int, (C : Int) = X := ⟨_, rfl⟩
    have HX : Hd ((C : Int) = X ∧ C < 256 ∧ bs.drop (at_ + k) = C :: bs.drop (at_ + k + 1)) := ⟨hX, hcl, hdr⟩
    have x0 : 0 ≤ X := by omega
    have x1 : X ≤ 255 := by omega
    rw [hX] at hcell
    have e5 : ((at_ : Int) + (k : Int)).toNat = at_ + k := by omega
    have hib : (at_ : Int) + (k : Int) < (n : Int) := by omega
    clear hC hcl hdr hX hc hlt
    go_wp2_with fail
    go_quiet (fail)
    go_wp2_with fail
    obtain ⟨wy, hwy⟩ : ∃ wy, wr.drewN nq = wy := ⟨_, rfl⟩
    rw [hwy]
    have HY : Hd ((∃ m, wy = w.drewN m) ∧ Chg [gr] w wy ∧ Rr wy gr (some ⟨g, off, none⟩) n c at_ 0 bs) := ⟨by
     obtain ⟨m, hm⟩ := HW.out.1
     have e : wy = w.drewN (m + nq) := by rw [← hwy, hm]; simp [World.drewN, Nat.add_assoc]
     exact ⟨⟨_, e⟩, by rw [e]; exact (Chg.refl _ _).drewN _, by rw [e]; exact HR.out.drewN _⟩⟩
    have g0y : wy.cell? ⟨gr, 0, none⟩ = some (.slice (some ⟨g, off, none⟩) n c) := by rw [← hwy]; exact g0
    have g1y : wy.cell? ⟨gr, 1, none⟩ = some (.int .i64 (at_ : Int)) := by rw [← hwy]; exact g1
    have z1y : wy.frozen? ⟨gr, 1, none⟩ = false := by rw [← hwy]; exact z1
    have hcelly : wy.cell? ⟨g, off + (at_ + k), none⟩ = some (.int .u8 X) := by rw [← hwy]; exact hcell
    clear g0 g1 z1 hcell hwy
    go_quiet (fail)
    have HZ : Hd (Chg [gr] w (wy.drewN nq) ∧ Rr (wy.drewN nq) gr (some ⟨g, off, none⟩) n c at_ 0 bs) := ⟨HY.out.2.1.drewN _, HY.out.2.2.drewN _⟩
    by_cases hbad : k = 9 ∧ 1 < X
    ·obtain ⟨rfl, hX1⟩ := hbad
     go_wp2_with fail
     refine (refused_any _ gr n c at_ at_ 0 71 _ bs HZ.out.2 l1).mono ?_
     rintro e w2 ⟨rfl, hch, hr⟩
     have H2 : Hd (Chg [gr] w w2 ∧ Rr w2 gr (some ⟨g, off, none⟩) n c at_ 71 bs) := ⟨HZ.out.1.trans hch, hr⟩
     clear hch hr
     go_wp2_with fail
     go_ret
     have e1 : redo o 0 at_ 0 = (0, at_, 71) := by
      rw [← HQ.out, HX.out.2.2, numR, if_pos (by have := HX.out; omega)]; rfl
     rw [e1]
     exact ⟨_, rfl, H2.out.1, rfl, H2.out.2⟩
    ·have HB := Hd.mk hbad
     have HSH := Hd.mk (or_step C k x HX.out.2.1 (by have := HX.out; omega) HW.out.2).2
     have HV : Hd (IntKind.u64.wrap ((x : Int) + IntKind.u64.wrap (X % 128 * 2 ^ (7 * k))) = ((x + C % 128 * 2 ^ (7 * k) : Nat) : Int)) := ⟨by
      have hs := HSH.out
      have hx := HX.out.1
      have e : X % 128 * 2 ^ (7 * k) = ((C % 128 * 2 ^ (7 * k) : Nat) : Int) := by rw [← hx]; push_cast; rfl
      rw [e]
      obtain ⟨y, hy⟩ : ∃ y, C % 128 * 2 ^ (7 * k) = y := ⟨_, rfl⟩
      rw [hy] at hs ⊢
      have h64 : (2 : Nat) ^ 64 = 18446744073709551616 := by decide
      rw [h64] at hs
      rw [IntKind.wrap_u64, IntKind.wrap_u64]; omega⟩
     by_cases hz : X = 0 ∧ 0 < k
     ·obtain ⟨hz0, hk0⟩ := hz
      have HE : Hd (redo o 0 at_ 0 = (0, at_, 71)) := ⟨by
       rw [← HQ.out, HX.out.2.2, numR, if_neg (by have := HX.out; omega), if_pos (by have := HX.out; omega), if_pos (by have := HX.out; omega)]; rfl⟩
      clear HV HSH
      obtain rfl := hz0
      have hkk : ((k : Int) == 9 && false) = false := by simp
      go_wp2_with fail
      all_goals
       refine (refused_any _ gr n c at_ at_ 0 71 _ bs HZ.out.2 l1).mono ?_
       rintro e w2 ⟨rfl, hch, hr⟩
       have H2 : Hd (Chg [gr] w w2 ∧ Rr w2 gr (some ⟨g, off, none⟩) n c at_ 71 bs) := ⟨HZ.out.1.trans hch, hr⟩
       clear hch hr
       go_wp2_with fail
       go_ret
       rw [HE.out]
       exact ⟨_, rfl, H2.out.1, rfl, H2.out.2⟩
     ·by_cases hs : X < 128
      ·have HE : Hd (redo o 0 at_ 0 = (x + C % 128 * 2 ^ (7 * k), at_ + k + 1, 0)) := ⟨by
        rw [← HQ.out, HX.out.2.2, numR, if_neg (by have := HX.out; have := HB.out; omega), if_pos (by have := HX.out; omega), if_neg (by have := HX.out; omega)]; rfl⟩
       by_cases hx0 : X = 0
       ·obtain rfl : k = 0 := by omega
        obtain rfl := hx0
        have h1' : ((0 : Int) ≤ 18446744073709551615) := by omega
        go_wp2_with fail
        go_ret
        rw [HE.out]
        refine ⟨_, rfl, HZ.out.1.setCell (by simp) _, ?_, ?_⟩
        ·show Value.int .u64 _ = Value.int .u64 _
         congr 1
         have hv := HV.out
         have h1 := HSH.out
         have h2 := HX.out.1
         have h3 := HB.out
         first | exact hv | (rw [IntKind.wrap_u64]; simp; omega) | (rw [IntKind.wrap_u64]; omega) | (simp; omega) | omega
        ·have hmv := (HZ.out.2.move (at_ + 0 + 1) (by omega))
         push_cast at hmv
         first | exact hmv | (simpa using hmv) | (simpa [Int.add_assoc] using hmv)
       ·have hx0' : (X == 0) = false := by simp [hx0]
        by_cases hk9 : k = 9
        ·subst hk9
         have hX1 : X = 1 := by have := HB.out; omega
         obtain rfl := hX1
         clear hx0 hz hs
         go_wp2_with fail
         go_ret
         rw [HE.out]
         refine ⟨_, rfl, HZ.out.1.setCell (by simp) _, ?_, ?_⟩
         ·show Value.int .u64 _ = Value.int .u64 _
          refine congrArg (Value.int .u64) ?_
          have hv := HV.out
          have h1 := HSH.out
          have h2 := HX.out.1
          have h3 := HB.out
          first | exact hv | (rw [IntKind.wrap_u64]; simp; omega) | (rw [IntKind.wrap_u64]; omega) | (simp; omega) | omega
         ·have hmv := (HZ.out.2.move (at_ + 9 + 1) (by omega))
          push_cast at hmv
          first | exact hmv | (simpa using hmv) | (simpa [Int.add_assoc] using hmv)
        ·have hk9' : ((k : Int) == 9) = false := by simp; omega
         clear hx0 hz hk9
         go_wp2_with fail
         go_ret
         rw [HE.out]
         refine ⟨_, rfl, HZ.out.1.setCell (by simp) _, ?_, ?_⟩
         ·show Value.int .u64 _ = Value.int .u64 _
          refine congrArg (Value.int .u64) ?_
          have hv := HV.out
          have h1 := HSH.out
          have h2 := HX.out.1
          have h3 := HB.out
          first | exact hv | (rw [IntKind.wrap_u64]; simp; omega) | (rw [IntKind.wrap_u64]; omega) | (simp; omega) | omega
         ·have hmv := (HZ.out.2.move (at_ + k + 1) (by omega))
          push_cast at hmv
          first | exact hmv | (simpa using hmv) | (simpa [Int.add_assoc] using hmv)
      ·have hk8 : k ≤ 8 := by have := HB.out; omega
       have hk9' : ((k : Int) == 9) = false := by simp; omega
       have HB2 : Hd (¬ (9 ≤ k ∧ 1 < C)) := ⟨by omega⟩
       go_wp2_with fail
       go_roundw
       case rel =>
        refine ⟨k + 1, x + C % 128 * 2 ^ (7 * k), by omega, ?_, by go_num, ?_, ?_, ?_⟩
        ·have := HW.out.2
         rw [show 7 * (k + 1) = 7 * k + 7 by omega, Nat.pow_add]
         have : C % 128 * 2 ^ (7 * k) ≤ 127 * 2 ^ (7 * k) := Nat.mul_le_mul_right _ (by omega)
         omega
        ·rw [HV.out]
        ·obtain ⟨m, hm⟩ := HY.out.1
         exact ⟨m + nq, by rw [hm]; simp [World.drewN, Nat.add_assoc]⟩
        ·rw [← HQ.out, HX.out.2.2, numR, if_neg HB2.out, if_neg (by have := HX.out; omega)]
         rfl
       case measure => simp [intOf] <;> omega
   ·have hge : decide ((n : Int) ≤ (at_ : Int) + (k : Int)) = true := by simp; omega
    go_wp2_with fail
    go_quiet (fail)
    go_wp2_with fail
    refine (refused_any _ gr n c at_ at_ 0 70 A bs (HRw.out.2.drewN _) l1).mono ?_
    rintro e w2 ⟨rfl, hch, hr⟩
    have H2 : Hd (Chg [gr] w w2 ∧ Rr w2 gr A n c at_ 70 bs) := ⟨(HRw.out.1.drewN nq).trans hch, hr⟩
    clear hch hr
    go_wp2_with fail
    go_ret
    have e1 : redo o 0 at_ 0 = (0, at_, 70) := by
     rw [← HQ.out, List.drop_eq_nil_of_le (by rw [HL.out]; omega)]; rfl
    rw [e1]
    exact ⟨_, rfl, H2.out.1, rfl, H2.out.2⟩
 ·have h0' : (fl != 0) = true := by simp [h0]
  have HZ := Hd.mk h0
  clear h0 R
  go_enter Try.func121, Try.ntmps121
  go_wp2_with fail
  go_ret
  have e1 : redo (numF bs at_) 0 at_ fl = (0, at_, fl) := by unfold redo; rw [if_neg HZ.out]
  rw [e1]
  exact ⟨_, rfl, Chg.refl _ _, rfl, HR.out⟩
theorem num_bd' (bs : List Nat) (at_ : Nat) (fl : Int) (hb : ∀ x ∈ bs, x < 256) : (redo (numF bs at_) 0 at_ fl).1 < 18446744073709551616 := by
 unfold redo
 split
 ·rcases h : numF bs at_ with e | ⟨x, a⟩
  ·exact (by omega : (0 : Nat) < 18446744073709551616)
  ·exact (numF_hi bs at_ x a hb h).1
 ·exact (by omega : (0 : Nat) < 18446744073709551616)
end Go.Proofs.Ytbcmjjcbjojakaa
end
section
namespace Go.Proofs.Ytbcmjjcbjojakaa
open Go.RowKit
set_option linter.unusedVariables false
set_option maxRecDepth 20000
theorem rvarint_any (w : World) (gr n c at_ : Nat) (fl : Int) (A : Option Addr) (bs : List Nat) (R : Rr w gr A n c at_ fl bs) :
  Calls Try.prog 122 #[.pointer (some ⟨gr, 0, none⟩)] w (Ans w gr n c A bs KZag (redo (numF bs at_) 0 at_ fl)) := by
 have HR := Hd.mk R
 clear R
 go_enter Try.func122, Try.ntmps122
 go_wp2_with fail
 refine (ruvarint_any w gr n c at_ fl A bs HR.out).mono ?_
 rintro e w1 ⟨v, rfl, hch, hk, hr⟩
 unfold KNum at hk
 subst hk
 have hb := num_bd' bs at_ fl HR.out.lb
 have H1 : Hd (Chg [gr] w w1 ∧ Rr w1 gr A n c (redo (numF bs at_) 0 at_ fl).2.1 (redo (numF bs at_) 0 at_ fl).2.2 bs) := ⟨hch, hr⟩
 clear hch hr
 obtain ⟨X, hX⟩ : ∃ X : Int, ((redo (numF bs at_) 0 at_ fl).1 : Int) = X := ⟨_, rfl⟩
 have HX := Hd.mk hX
 rw [hX]
 have x0 : 0 ≤ X := by omega
 have x1 : X ≤ 18446744073709551615 := by omega
 clear hX hb
 go_wp2_with fail
 refine (unfold_any w1 X x0 x1).mono ?_
 rintro e z ⟨rfl, rfl⟩
 go_wp2_with fail
 go_ret
 exact ⟨_, rfl, H1.out.1, by rw [← HX.out]; rfl, H1.out.2⟩
theorem ropen_any (w : World) (A : Option Addr) (n c B : Nat) (bs : List Nat) (hr : Rd w B A n (cb bs)) (hB : B ≤ w.heap.size) (hn : n ≤ 4398046511104) (hb : ∀ x ∈ bs, x < 256) :
  Calls Try.prog 119 #[.slice A n c] w fun e w' => ∃ gr A' c', e = .returned (.pointer (some ⟨gr, 0, none⟩)) ∧ Chg [] w w' ∧ Rr w' gr A' n c' 0 0 bs ∧ w.heap.size ≤ gr ∧ (∀ g off, A' = some ⟨g, off, none⟩ → 0 < n → w.heap.size ≤ g) := by
 have HR : Hd (Rd w B A n (cb bs) ∧ B ≤ w.heap.size ∧ n ≤ 4398046511104 ∧ ∀ x ∈ bs, x < 256) := ⟨hr, hB, hn, hb⟩
 clear hr hB hn hb
 go_enter Try.func119, Try.ntmps119
 go_wp2_with fail
 refine (joined_any w none A 0 0 n c B [] bs Rd.nil HR.out.1 (by have := HR.out.2.2.1; omega) HR.out.2.1).mono ?_
 rintro e w1 ⟨v1, rfl, hO⟩
 rw [Nat.zero_add, List.nil_append] at hO
 obtain ⟨A1, c1, rfl, hc1, hm1⟩ := own_form hO.own
 have H1 : Hd (Onto w w1 w.heap.size 5 (.slice none 0 0) (.slice A1 n c1) n (cb bs) ∧ n ≤ c1) := ⟨hO, hc1⟩
 clear hO hc1 hm1
 go_wp2_with fail
 go_ret
 have hbl := H1.out.1.below (B := w.heap.size) (fun k h => by cases h) (Nat.le_refl _)
 refine ⟨w1.heap.size, A1, c1, rfl, (Chg.of_below hbl).alloc _, ?_, hbl.size, ?_⟩
 ·refine ⟨by simp, by simp, by simp, by simp, by simp, ?_, ⟨Nat.zero_le _, H1.out.2, HR.out.2.2.1⟩, by simp, HR.out.2.2.2⟩
  exact (Rd.of_own H1.out.1.own).alloc (Nat.le_refl _) _
 ·intro g off he hn
  subst he
  obtain ⟨g', cap, hv, hg1, _⟩ := own_pos H1.out.1.own hn
  injection hv with hv
  injection hv with hv
  injection hv with hv
  omega
set_option maxHeartbeats 2000000 in
theorem rbytes_any (w : World) (gr n c at_ : Nat) (fl : Int) (A : Option Addr) (bs : List Nat) (x : Int) (hx : -9223372036854775808 ≤ x ∧ x ≤ 9223372036854775807) (R : Rr w gr A n c at_ fl bs) :
  Calls Try.prog 136 #[.pointer (some ⟨gr, 0, none⟩), .int .i64 x] w (Ans w gr n c A bs (KOwn w.heap.size) (redo (bytesF bs at_ x) [] at_ fl)) := by
 have HR := Hd.mk R
 have g0 := R.c0
 have g1 := R.c1
 have g2 := R.c2
 have z1 := R.z1
 obtain ⟨l1, l2, l3⟩ := R.le
 obtain ⟨x1, x2⟩ := hx
 by_cases h0 : fl = 0
 ·subst h0
  by_cases hneg : x < 0
  ·have HN := Hd.mk hneg
   clear R
   go_enter Try.func136, Try.ntmps136
   go_wp2_with fail
   refine (refused_any _ gr n c at_ at_ 0 2 A bs HR.out l1).mono ?_
   rintro e w2 ⟨rfl, hch, hr⟩
   have H2 : Hd (Chg [gr] w w2 ∧ Rr w2 gr A n c at_ 2 bs) := ⟨hch, hr⟩
   clear hch hr
   go_wp2_with fail
   go_ret
   have e1 : redo (bytesF bs at_ x) [] at_ 0 = ([], at_, 2) := by unfold bytesF; rw [if_pos HN.out]; rfl
   rw [e1]
   exact ⟨_, rfl, H2.out.1, KOwn.nil _ _, H2.out.2⟩
  ·obtain ⟨k, rfl⟩ := Int.eq_ofNat_of_zero_le (show 0 ≤ x by omega)
   by_cases hlt : n - at_ < k
   ·have hd : decide (((n : Int) - (at_ : Int)) < (k : Int)) = true := by simp; omega
    have HL := Hd.mk hlt
    clear R
    go_enter Try.func136, Try.ntmps136
    go_wp2_with fail
    go_quiet (fail)
    go_wp2_with fail
    refine (refused_any _ gr n c at_ at_ 0 70 A bs (HR.out.drewN _) l1).mono ?_
    rintro e w2 ⟨rfl, hch, hr⟩
    have H2 : Hd (Chg [gr] w w2 ∧ Rr w2 gr A n c at_ 70 bs) := ⟨((Chg.refl _ w).drewN nq).trans hch, hr⟩
    clear hch hr
    go_wp2_with fail
    go_ret
    have e1 : redo (bytesF bs at_ (k : Int)) [] at_ 0 = ([], at_, 70) := by
     unfold bytesF takeF
     rw [if_neg (by omega), Int.toNat_natCast, if_neg (by rw [HR.out.len]; have := HL.out; omega)]; rfl
    rw [e1]
    exact ⟨_, rfl, H2.out.1, KOwn.nil _ _, H2.out.2⟩
   ·have hd : decide (((n : Int) - (at_ : Int)) < (k : Int)) = false := by simp; omega
    have HL : Hd (k ≤ n - at_) := ⟨by omega⟩
    have hk' : (at_ : Int) + (k : Int) ≤ 4398046511104 := by omega
    clear R hlt
    go_enter Try.func136, Try.ntmps136
    go_wp2_with fail
    go_quiet (fail)
    go_wp2_with fail
    obtain ⟨wy, hwy⟩ : ∃ wy, w.drewN nq = wy := ⟨_, rfl⟩
    rw [hwy]
    have HY : Hd (Chg [gr] w wy ∧ Rr wy gr A n c at_ 0 bs ∧ w.heap.size = wy.heap.size) := ⟨by rw [← hwy]; exact (Chg.refl _ _).drewN _, by rw [← hwy]; exact HR.out.drewN _, by rw [← hwy]; rfl⟩
    have g0y := HY.out.2.1.c0
    have g1y := HY.out.2.1.c1
    have hcut : ∀ w, (Instr.slice 26 (.slice A n c) (some (.int .i64 (at_ : Int))) (some (.int .i64 ((at_ : Int) + (k : Int)))) none).run Try.prog w = .ok (.slice (cutA A c at_) k (c - at_)) w := by
     intro w
     have := run_cut (w := w) elB A n c at_ (at_ + k) (by omega) (by have := HL.out; omega)
     rw [show at_ + k - at_ = k from by omega] at this
     push_cast at this
     exact this
    have i0 : IntKind.i64.wrap ((at_ : Int) + (k : Int)) = (at_ : Int) + (k : Int) := by rw [IntKind.wrap_i64]; omega
    have hrd : Hd (Rd wy.drew gr (cutA A c at_) k (cb ((bs.drop at_).take k))) := by
     have := HY.out.2.1.rd.cut (c := c) (l := at_) (h := at_ + k) (by omega) (by have := HL.out; omega) l2
     rw [show at_ + k - at_ = k from by omega] at this
     unfold cb at this ⊢
     rw [← List.map_drop, ← List.map_take] at this
     exact ⟨this⟩
    have hcall : Calls Try.prog 103 #[.slice none 0 0, .slice (cutA A c at_) k (c - at_)] wy.drew fun e w3 => ∃ v3, e = .returned v3 ∧ w3.cell? ⟨gr, 0, none⟩ = some (.slice A n c) ∧ w3.cell? ⟨gr, 1, none⟩ = some (.int .i64 (at_ : Int)) ∧
      Hd (w3.ownsRow wy.heap.size 5 1 v3 k (cb ((bs.drop at_).take k)) ∧ Chg [gr] w w3 ∧ Rr w3 gr A n c at_ 0 bs) := by
     refine (joined_any wy.drew none (cutA A c at_) 0 0 k (c - at_) gr [] ((bs.drop at_).take k) Rd.nil hrd.out (by have := HL.out; omega) (Nat.le_of_lt HY.out.2.1.lt)).mono ?_
     rintro e w3 ⟨v3, rfl, hO⟩
     rw [Nat.zero_add, List.nil_append] at hO
     have hbw := hO.below (B := wy.heap.size) (fun k h => by cases h) (Nat.le_refl _)
     exact ⟨v3, rfl, (hbw.cell (p := ⟨gr, 0, none⟩) HY.out.2.1.lt).trans g0y, (hbw.cell (p := ⟨gr, 1, none⟩) HY.out.2.1.lt).trans g1y,
      ⟨hO.own, HY.out.1.trans (Chg.of_drew ((Chg.of_below (L := []) (w := wy.drew) hbw).mono (by simp))), HY.out.2.1.drew.below hbw HY.out.2.1.lt⟩⟩
    have HCALL := Hd.mk hcall
    clear g0 g1 g2 z1 hwy hcall
    go_region_held3 (fun w' => w'.cell? ⟨gr, 0, none⟩ = some (.slice A n c) ∧ w'.cell? ⟨gr, 1, none⟩ = some (.int .i64 (at_ : Int)))
     (first | (exact ⟨hc0, hc1⟩) | (exact ⟨g0y, g1y⟩) | go_keep)
     (
     (go_at_call 103
      refine HCALL.out.mono ?_
      rintro e w3 ⟨v3, rfl, hc0, hc1, H3⟩))
    have z1y := H3.out.2.2.z1
    clear g0y g1y
    go_wp2_with fail
    go_ret
    have hl : ((bs.drop at_).take k).length = k := by rw [List.length_take, List.length_drop, HR.out.len]; have := HL.out; omega
    have e1 : redo (bytesF bs at_ (k : Int)) [] at_ 0 = ((bs.drop at_).take k, at_ + k, 0) := by
     unfold bytesF takeF
     rw [if_neg (by omega), Int.toNat_natCast, if_pos (by rw [HR.out.len]; exact HL.out)]; rfl
    rw [e1]
    have hmv := H3.out.2.2.move (at_ + k) (by have := HL.out; omega)
    refine ⟨_, rfl, H3.out.2.1.setCell (by simp) _, ?_, ?_⟩
    ·unfold KOwn
     rw [hl, HY.out.2.2]
     exact ownsRow_setCell_below H3.out.1 (a := ⟨gr, 1, none⟩) HY.out.2.1.lt _
    ·push_cast at hmv
     first | exact hmv | (simpa using hmv)
 ·have h0' : (fl != 0) = true := by simp [h0]
  have HZ := Hd.mk h0
  clear h0 R
  go_enter Try.func136, Try.ntmps136
  go_wp2_with fail
  go_ret
  have e1 : redo (bytesF bs at_ x) [] at_ fl = ([], at_, fl) := by unfold redo; rw [if_neg HZ.out]
  rw [e1]
  exact ⟨_, rfl, Chg.refl _ _, KOwn.nil _ _, HR.out⟩
end Go.Proofs.Ytbcmjjcbjojakaa
end
