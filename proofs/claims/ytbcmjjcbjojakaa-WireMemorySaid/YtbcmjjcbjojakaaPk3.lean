/- Put together of: FormA FormR Boxes AskP TellP. -/
import Derived.Test.YtbcmjjcbjojakaaPk2
import Derived.Test.YtbcmjjcbjojakaaPk1
import Derived.Deep.MidRow
import Derived.Laws.CopyOwn
import Derived.KernelRfl
section
namespace Go.Proofs.Ytbcmjjcbjojakaa
open Go.RowKit
set_option linter.unusedVariables false
/-- Where the program's form stands. -/
structure FS (w w' : World) (gs : Nat) (u : Value) (ys : List Nat) (S : Nat) : Prop where
 own : w'.ownsRow (gs + 1) 5 1 u ys.length (cb ys)
 st : ∃ xs C, Strm w' gs 0 xs 54 S C
 bel : Below gs w w'
section
variable {w w1 w2 : World} {gs S : Nat} {u v : Value} {ys zs : List Nat}
theorem FS.lt (h : FS w w1 gs u ys S) : gs < w1.heap.size := let ⟨_, _, h⟩ := h.st; h.lt
theorem FS.step (h : FS w w1 gs u ys S) (b : Below w1.heap.size w1 w2) : FS w w2 gs u ys S :=
 ⟨own_below' h.own b, let ⟨xs, C, hs⟩ := h.st; ⟨xs, C, hs.below b h.lt⟩, h.bel.trans (b.mono (Nat.le_of_lt h.lt))⟩
theorem FS.own_ne (h : FS w w1 gs u ys S) : u.ownBlock ≠ some gs := fun e => by have := (h.own.lt gs e).1; omega
theorem FS.write (h : FS w w1 gs u ys S) (hg : w1.grownBy w2 (some gs)) {xs : Array Value} {S' C' : Nat} (hs : Strm w2 gs 0 xs 54 S' C') : FS w w2 gs u ys S' :=
 ⟨own_keepBlock h.own hg h.own_ne, ⟨xs, C', hs⟩, h.bel.grown hg (Nat.le_of_lt h.lt) (fun k e => by injection e with e; omega)⟩
theorem FS.push (h : FS w w1 gs u ys S) (hO : Onto w1 w2 (gs + 1) 5 u v (ys.length + zs.length) (cb ys ++ cb zs)) : FS w w2 gs v (ys ++ zs) S := by
 have hb : Below (gs + 1) w1 w2 := hO.below (fun k hk => (h.own.lt k hk).1) h.lt
 refine ⟨by rw [List.length_append, cb_append]; exact hO.own, let ⟨xs, C, hs⟩ := h.st; ⟨xs, C, hs.below hb (Nat.lt_succ_self _)⟩, h.bel.trans (hb.mono (Nat.le_succ _))⟩
/-- What the next round stands on. -/
theorem form_lens (M p n m : Nat) (h : M + 12 * m ≤ 12 * n) (hn : n ≤ 67108864) (hp : p ≤ 16384) : M + 7 ≤ maxLen ∧ (M + 7) * 1 ≤ 140737488355328 ∧ M + 7 + p ≤ maxLen ∧ (M + 7 + p) * 1 ≤ 140737488355328 ∧ M + 7 + p + 4 ≤ maxLen ∧ (M + 7 + p + 4) * 1 ≤ 140737488355328 := by
 unfold maxLen; omega
theorem form_rel {w w9 : World} {gs n f m c1 M p r S S2 q k : Nat} {A1 : Option Addr} {rest ys z1 F : List Nat} {v9 : Value} (hk : k = if m ≤ 16384 then 2 else 1) (hp : min m 16384 = p) (hrp : r = m - p) (hm : 0 < m) (hM : ys.length = M)
  (HI : Rd w gs A1 m (cb rest) ∧ m ≤ c1 ∧ ys ++ fmF f S rest = F ∧ m ≤ f ∧ (∀ x ∈ rest, x < 256) ∧ rest.length = m ∧ ys.length + 12 * m ≤ 12 * n ∧ S < 4294967296)
  (hq : Crc.more 0 (fx 1 k ++ fx 2 p) = q) (hz : fx 1 k ++ fx 2 p ++ fx 4 q = z1) (hS2 : Crc.more S (rest.take p) = S2) (hl2 : S2 < 4294967296)
  (h9 : FS w w9 gs v9 (ys ++ z1 ++ rest.take p ++ fx 4 S2) S2) :
  ∃ (A : Option Addr) (m' c : Nat) (rest' ys' : List Nat) (S' f' : Nat), Value.slice (cutA A1 c1 p) r (c1 - p) = .slice A m' c ∧ Rd w gs A m' (cb rest') ∧ m' ≤ c ∧ FS w w9 gs v9 ys' S' ∧ ys' ++ fmF f' S' rest' = F ∧ m' ≤ f' ∧ (∀ x ∈ rest', x < 256) ∧ rest'.length = m' ∧ ys'.length + 12 * m' ≤ 12 * n ∧ S' < 4294967296 := by
 obtain ⟨h1, h2, e4, h5, h6, h7, h8, h9'⟩ := HI
 subst hrp
 obtain ⟨f', rfl⟩ : ∃ f', f = f' + 1 := ⟨f - 1, by omega⟩
 have hpl : p ≤ m := by omega
 have hp0 : 0 < p := by omega
 have hch : chk S rest = z1 ++ rest.take p ++ fx 4 S2 := by unfold chk hd3; rw [h7, ← hk, hp, hq, hz, hS2]
 rw [fmF_step _ _ _ (by omega), hch, h7, hp, hS2] at e4
 refine ⟨_, _, _, rest.drop p, _, S2, f', rfl, rd_from h1 hpl h2, by omega, h9, by rw [← e4]; simp only [List.append_assoc], by omega, fun x hx => h6 x (List.mem_of_mem_drop hx), by rw [List.length_drop, h7], ?_, hl2⟩
 have hz7 : z1.length = 7 := by rw [← hz]; simp [fx_len]
 simp only [List.length_append, hM, hz7, fx_len, List.length_take, h7]; omega
end
set_option maxRecDepth 20000 in
set_option maxHeartbeats 4000000 in
theorem form_any (w : World) (A : Option Addr) (n c : Nat) (bs : List Nat) (hr : Rd w w.heap.size A n (cb bs)) (hc : n ≤ c) (hb : ∀ x ∈ bs, x < 256) (hn : n ≤ 67108864) :
  Calls Try.prog 60 #[.slice A n c] w fun e w' => ∃ v', e = .returned v' ∧ Onto w w' w.heap.size 5 (.slice none 0 0) v' (formP bs).length (cb (formP bs)) := by
 have hbl : bs.length = n := by have := hr.1; rw [cb_length] at this; exact this
 obtain ⟨gs, hgs⟩ : ∃ gs, w.heap.size = gs := ⟨_, rfl⟩
 have HG := Hd.mk hgs
 have H0 : Hd (FS w (w.alloc (.cells #[.int .u32 0, .int .u64 0] 54)) gs (.slice none 0 0) [] 0) :=
  ⟨by subst hgs; exact ⟨World.ownsRow_nil _ _ _ _, ⟨_, 0, ⟨heap_alloc_new w _, rfl, rfl, by omega, by omega⟩⟩, (Below.refl _ w).alloc (Nat.le_refl _) _⟩⟩
 have HR : Hd (Rd w gs A n (cb bs) ∧ n ≤ c ∧ (∀ x ∈ bs, x < 256) ∧ bs.length = n ∧ n ≤ 67108864) := ⟨by rw [← hgs]; exact hr, hc, hb, hbl, hn⟩
 clear hr hc hb hbl hn
 go_enter Try.func60, Try.ntmps60
 go_wp2_with fail
 obtain ⟨w0, hw0⟩ : ∃ w0, w.alloc (.cells #[.int .u32 0, .int .u64 0] 54) = w0 := ⟨_, rfl⟩
 rw [hw0] at H0 ⊢
 clear hw0 hgs
 go_loopw [0, 3] (fun u0 u3 wr => ∃ (A : Option Addr) (m c : Nat) (rest ys : List Nat) (S f : Nat), u0 = .slice A m c ∧ Rd w gs A m (cb rest) ∧ m ≤ c ∧ FS w wr gs u3 ys S ∧ ys ++ fmF f S rest = formP bs ∧ m ≤ f ∧ (∀ x ∈ rest, x < 256) ∧ rest.length = m ∧ ys.length + 12 * m ≤ 12 * n ∧ S < 4294967296) (fun u0 _ _ => sliceLen u0)
 case atStart => exact ⟨A, n, c, bs, [], 0, n, rfl, HR.out.1, HR.out.2.1, H0.out, by rw [List.nil_append]; unfold formP; rw [HR.out.2.2.2.1], Nat.le_refl _, HR.out.2.2.1, HR.out.2.2.2.1, by simp, by omega⟩
 case round =>
  obtain ⟨A1, m, c1, rest, ys, S, f, rfl, h1, h2, h3, h4, h5, h6, h7, h8, h9⟩ := hrel
  have hn := HR.out.2.2.2.2
  have HI : Hd (Rd w gs A1 m (cb rest) ∧ m ≤ c1 ∧ ys ++ fmF f S rest = formP bs ∧ m ≤ f ∧ (∀ x ∈ rest, x < 256) ∧ rest.length = m ∧ ys.length + 12 * m ≤ 12 * n ∧ S < 4294967296) := ⟨h1, h2, h4, h5, h6, h7, h8, h9⟩
  have HF := Hd.mk h3
  obtain ⟨M, hM⟩ : ∃ M, ys.length = M := ⟨_, rfl⟩
  rw [hM] at h8
  clear h1 h2 h3 h4 h5 h6 h7 h9
  have hm67 : m ≤ 67108864 := by omega
  by_cases hm : 0 < m
  ·have hmi : (0 : Int) < (m : Int) := by omega
   by_cases hl : m ≤ 16384
   ·have hpe : True := trivial
    have hlt : ¬ (m : Int) < (m : Int) := by omega
    have hp1 : m ≤ 16384 := by omega
    have hpm : m ≤ m := by omega
    have hp0 : 0 < m := by omega
    have HPE : Hd (min m 16384 = m) := ⟨by omega⟩
    clear hpe
    have hps := fun w => run_cut_to (P := Try.prog) (w := w) elB A1 m c1 (m) (by have := HI.out.2.1; omega)
    have hpf := fun w => run_cut_from (P := Try.prog) (w := w) elB A1 m c1 (m) (by omega)
    (try simp only [Nat.cast_ofNat] at hps hpf)
    have HC : Hd (hd3 rest = fx 1 2 ++ fx 2 m ∧ chk S rest = fx 1 2 ++ fx 2 m ++ fx 4 (Crc.more 0 (fx 1 2 ++ fx 2 m)) ++ rest.take m ++ fx 4 (Crc.more S (rest.take m)) ∧ (∀ x ∈ fx 1 2 ++ fx 2 m, x < 256)) := ⟨by
     unfold hd3; rw [HI.out.2.2.2.2.2.1, if_pos hl, HPE.out], by
     unfold chk hd3; rw [HI.out.2.2.2.2.2.1, if_pos hl, HPE.out], fun x hx => (List.mem_append.1 hx).elim (fx_lt _ _ x) (fx_lt _ _ x)⟩
    have HT : Hd (Rd w gs A1 m (cb (rest.take m)) ∧ (∀ x ∈ rest.take m, x < 256) ∧ (rest.take m).length = m) := ⟨by rw [← cb_take]; exact HI.out.1.take (by omega), fun x hx => HI.out.2.2.2.2.1 x (List.mem_of_mem_take hx), by rw [List.length_take, HI.out.2.2.2.2.2.1]; omega⟩
    go_wp2_with fail
    refine (put_uint8 wr none 0 0 wr.heap.size 2 [] Rd.nil (by omega) (by omega) (Nat.le_refl _)).mono ?_
    rintro e w1 ⟨v1, rfl, hO⟩
    rw [List.nil_append] at hO
    obtain ⟨Aa, ca, rfl, _, _⟩ := own_form hO.own
    have H1 : Hd (FS w w1 gs u3 ys S ∧ Rd w1 w1.heap.size Aa 1 (cb (fx 1 2))) := ⟨HF.out.step (hO.below (fun k h => by cases h) (Nat.le_refl _)), Rd.of_own hO.own⟩
    clear hO
    go_wp2_with fail
    refine (put_uint16 w1 Aa 1 ca w1.heap.size (m) (fx 1 2) H1.out.2 (by omega) (by omega) (Nat.le_refl _)).mono ?_
    rintro e w2 ⟨v2, rfl, hO⟩
    have H2 : Hd (FS w w2 gs u3 ys S ∧ w2.ownsRow (gs + 1) 5 1 v2 3 (cb (fx 1 2 ++ fx 2 m))) := ⟨H1.out.1.step (hO.below (fun k h => by cases h) (Nat.le_refl _)), own_base hO.own H1.out.1.lt⟩
    clear hO H1
    go_wp2_with fail
    obtain ⟨xs2, C2, hs2⟩ := H2.out.1.st
    refine (write_any w2 gs 0 54 S C2 xs2 A1 (m) c1 gs (rest.take (m)) hs2 (HT.out.1.below H2.out.1.bel) (Nat.le_of_lt H2.out.1.lt) HT.out.2.1 (by omega)).mono ?_
    rintro e w3 ⟨rfl, hs3, hg3⟩
    have H3 : Hd (FS w w3 gs u3 ys (Crc.more S (rest.take (m))) ∧ w3.ownsRow (gs + 1) 5 1 v2 3 (cb (fx 1 2 ++ fx 2 m))) := ⟨H2.out.1.write hg3 hs3, own_keepBlock H2.out.2 hg3 (fun e => by have := (H2.out.2.lt gs e).1; omega)⟩
    clear hs3 hg3 hs2 H2
    obtain ⟨Ab, cb2, rfl, _, _⟩ := own_form H3.out.2
    go_wp2_with fail
    refine (sum_any w3 Ab 3 cb2 w3.heap.size (fx 1 2 ++ fx 2 m) (Rd.of_own H3.out.2) (Nat.le_refl _) HC.out.2.2 (by omega)).mono ?_
    obtain ⟨q, hq⟩ : ∃ q, Crc.more 0 (fx 1 2 ++ fx 2 m) = q := ⟨_, rfl⟩
    have HQ : Hd (Crc.more 0 (fx 1 2 ++ fx 2 m) = q ∧ q < 4294967296) := ⟨hq, by rw [← hq]; exact Crc.more_lt _ _⟩
    rw [hq]; clear hq
    rintro e w4 ⟨rfl, hb4⟩
    have H4 : Hd (FS w w4 gs u3 ys (Crc.more S (rest.take (m))) ∧ w4.ownsRow (gs + 1) 5 1 (.slice Ab 3 cb2) 3 (cb (fx 1 2 ++ fx 2 m))) := ⟨H3.out.1.step hb4, own_below' H3.out.2 hb4⟩
    clear hb4 H3
    go_wp2_with fail
    refine (put_uint32 w4 Ab 3 cb2 w4.heap.size q (fx 1 2 ++ fx 2 m) (Rd.of_own H4.out.2) HQ.out.2 (by omega) (Nat.le_refl _)).mono ?_
    rintro e w5 ⟨v5, rfl, hO⟩
    obtain ⟨Ac, cc, rfl, _, _⟩ := own_form hO.own
    have H5 : Hd (FS w w5 gs u3 ys (Crc.more S (rest.take (m))) ∧ Rd w5 w5.heap.size Ac 7 (cb (fx 1 2 ++ fx 2 m ++ fx 4 q))) := ⟨H4.out.1.step (hO.below (fun k h => by cases h) (Nat.le_refl _)), Rd.of_own hO.own⟩
    clear hO H4
    obtain ⟨z1, hz1⟩ : ∃ z1, fx 1 2 ++ fx 2 m ++ fx 4 q = z1 := ⟨_, rfl⟩
    have HZ1 : Hd (fx 1 2 ++ fx 2 m ++ fx 4 q = z1 ∧ z1.length = 7) := ⟨hz1, by rw [← hz1]; simp [fx_len]⟩
    rw [hz1] at H5; clear hz1
    have l1 : Hd (M + 7 ≤ maxLen ∧ (M + 7) * 1 ≤ 140737488355328 ∧ M + 7 + m ≤ maxLen ∧ (M + 7 + m) * 1 ≤ 140737488355328 ∧ M + 7 + m + 4 ≤ maxLen ∧ (M + 7 + m + 4) * 1 ≤ 140737488355328) := ⟨form_lens M m n m h8 hn hp1⟩
    have HM : Hd (ys.length = M) := ⟨hM⟩
    go_wp2_with (at_builtin; first
     | (
      refine wpList_app elB rfl (.tmp 27) (.tmp 31) rfl (gs + 1) u3 M (cb ys) rfl (by rw [← HM.out]; exact H5.out.1.own) w5.heap.size Ac 7 cc (cb z1) rfl H5.out.2 (cb_one z1) l1.out.1 l1.out.2.1 H5.out.1.lt ?_
      intro v6 w6 hO
      have H6 : Hd (FS w w6 gs v6 (ys ++ z1) (Crc.more S (rest.take (m))) ∧ (ys ++ z1).length = M + 7) := ⟨H5.out.1.push (by rw [HM.out, HZ1.out.2]; exact hO), by rw [List.length_append, HM.out, HZ1.out.2]⟩
      clear hO H5)
     | (
      refine wpList_app elB rfl (.tmp 33) (.tmp 36) rfl (gs + 1) v6 (M + 7) (cb (ys ++ z1)) rfl (by rw [← H6.out.2]; exact H6.out.1.own) gs A1 (m) c1 (cb (rest.take (m))) rfl (HT.out.1.below H6.out.1.bel) (cb_one _) l1.out.2.2.1 l1.out.2.2.2.1 H6.out.1.lt ?_
      intro v7 w7 hO
      have H7 : Hd (FS w w7 gs v7 (ys ++ z1 ++ rest.take (m)) (Crc.more S (rest.take (m))) ∧ (ys ++ z1 ++ rest.take (m)).length = M + 7 + m) := ⟨H6.out.1.push (by rw [H6.out.2, HT.out.2.2]; exact hO), by rw [List.length_append, H6.out.2, HT.out.2.2]⟩
      clear hO H6))
    obtain ⟨xs7, C7, hs7⟩ := H7.out.1.st
    refine (ssum_any w7 gs 0 54 _ C7 xs7 hs7).mono ?_
    obtain ⟨S2, hS2⟩ : ∃ S2, Crc.more S (rest.take (m)) = S2 := ⟨_, rfl⟩
    have HS2 : Hd (Crc.more S (rest.take (m)) = S2 ∧ S2 < 4294967296) := ⟨hS2, by rw [← hS2]; exact Crc.more_lt _ _⟩
    rw [hS2] at H7 ⊢; clear hS2 hs7
    rintro e w8 ⟨rfl, rfl⟩
    go_wp2_with fail
    refine (put_uint32 w7 none 0 0 w7.heap.size S2 [] Rd.nil HS2.out.2 (by omega) (Nat.le_refl _)).mono ?_
    rintro e w8 ⟨v8, rfl, hO⟩
    rw [List.nil_append] at hO
    obtain ⟨Ad, cd, rfl, _, _⟩ := own_form hO.own
    have H8 : Hd (FS w w8 gs v7 (ys ++ z1 ++ rest.take (m)) S2 ∧ Rd w8 w8.heap.size Ad 4 (cb (fx 4 S2)) ∧ (ys ++ z1 ++ rest.take (m)).length = M + 7 + m) := ⟨H7.out.1.step (hO.below (fun k h => by cases h) (Nat.le_refl _)), Rd.of_own hO.own, H7.out.2⟩
    clear hO H7
    go_wp2_with (
     refine wpList_app elB rfl (.tmp 38) (.tmp 40) rfl (gs + 1) v7 (M + 7 + m) (cb (ys ++ z1 ++ rest.take (m))) rfl (by rw [← H8.out.2.2]; exact H8.out.1.own) w8.heap.size Ad 4 cd (cb (fx 4 S2)) rfl H8.out.2.1 (cb_one _) l1.out.2.2.2.2.1 l1.out.2.2.2.2.2 H8.out.1.lt ?_
     intro v9 w9 hO
     have H9 : Hd (FS w w9 gs v9 (ys ++ z1 ++ rest.take (m) ++ fx 4 S2) S2) := ⟨H8.out.1.push (by rw [H8.out.2.2, fx_len]; exact hO)⟩
     clear hO H8)
    go_roundw
    case rel =>
     exact form_rel (p := m) (k := 2) (by rw [if_pos hl]) HPE.out (Nat.sub_self m).symm hm HM.out HI.out HQ.out.1 HZ1.out.1 HS2.out.1 HS2.out.2 H9.out
    case measure => exact hm
   ·have hpe : True := trivial
    have hlt : (16384 : Int) < (m : Int) := by omega
    have hcc : 16384 ≤ c1 := by have := HI.out.2.1; omega
    have hcd : (16384 : Int) ≤ (c1 : Int) := by omega
    have hcm : 16384 ≤ m := by omega
    have hp1 : 16384 ≤ 16384 := by omega
    have hpm : 16384 ≤ m := by omega
    have hp0 : 0 < 16384 := by omega
    have HPE : Hd (min m 16384 = 16384) := ⟨by omega⟩
    clear hpe
    have hps := fun w => run_cut_to (P := Try.prog) (w := w) elB A1 m c1 (16384) (by have := HI.out.2.1; omega)
    have hpf := fun w => run_cut_from (P := Try.prog) (w := w) elB A1 m c1 (16384) (by omega)
    (try simp only [Nat.cast_ofNat] at hps hpf)
    have HC : Hd (hd3 rest = fx 1 1 ++ fx 2 16384 ∧ chk S rest = fx 1 1 ++ fx 2 16384 ++ fx 4 (Crc.more 0 (fx 1 1 ++ fx 2 16384)) ++ rest.take 16384 ++ fx 4 (Crc.more S (rest.take 16384)) ∧ (∀ x ∈ fx 1 1 ++ fx 2 16384, x < 256)) := ⟨by
     unfold hd3; rw [HI.out.2.2.2.2.2.1, if_neg hl, HPE.out], by
     unfold chk hd3; rw [HI.out.2.2.2.2.2.1, if_neg hl, HPE.out], fun x hx => (List.mem_append.1 hx).elim (fx_lt _ _ x) (fx_lt _ _ x)⟩
    have HT : Hd (Rd w gs A1 16384 (cb (rest.take 16384)) ∧ (∀ x ∈ rest.take 16384, x < 256) ∧ (rest.take 16384).length = 16384) := ⟨by rw [← cb_take]; exact HI.out.1.take (by omega), fun x hx => HI.out.2.2.2.2.1 x (List.mem_of_mem_take hx), by rw [List.length_take, HI.out.2.2.2.2.2.1]; omega⟩
    go_wp2_with fail
    refine (put_uint8 wr none 0 0 wr.heap.size 1 [] Rd.nil (by omega) (by omega) (Nat.le_refl _)).mono ?_
    rintro e w1 ⟨v1, rfl, hO⟩
    rw [List.nil_append] at hO
    obtain ⟨Aa, ca, rfl, _, _⟩ := own_form hO.own
    have H1 : Hd (FS w w1 gs u3 ys S ∧ Rd w1 w1.heap.size Aa 1 (cb (fx 1 1))) := ⟨HF.out.step (hO.below (fun k h => by cases h) (Nat.le_refl _)), Rd.of_own hO.own⟩
    clear hO
    go_wp2_with fail
    refine (put_uint16 w1 Aa 1 ca w1.heap.size (16384) (fx 1 1) H1.out.2 (by omega) (by omega) (Nat.le_refl _)).mono ?_
    rintro e w2 ⟨v2, rfl, hO⟩
    have H2 : Hd (FS w w2 gs u3 ys S ∧ w2.ownsRow (gs + 1) 5 1 v2 3 (cb (fx 1 1 ++ fx 2 16384))) := ⟨H1.out.1.step (hO.below (fun k h => by cases h) (Nat.le_refl _)), own_base hO.own H1.out.1.lt⟩
    clear hO H1
    go_wp2_with fail
    obtain ⟨xs2, C2, hs2⟩ := H2.out.1.st
    refine (write_any w2 gs 0 54 S C2 xs2 A1 (16384) c1 gs (rest.take (16384)) hs2 (HT.out.1.below H2.out.1.bel) (Nat.le_of_lt H2.out.1.lt) HT.out.2.1 (by omega)).mono ?_
    rintro e w3 ⟨rfl, hs3, hg3⟩
    have H3 : Hd (FS w w3 gs u3 ys (Crc.more S (rest.take (16384))) ∧ w3.ownsRow (gs + 1) 5 1 v2 3 (cb (fx 1 1 ++ fx 2 16384))) := ⟨H2.out.1.write hg3 hs3, own_keepBlock H2.out.2 hg3 (fun e => by have := (H2.out.2.lt gs e).1; omega)⟩
    clear hs3 hg3 hs2 H2
    obtain ⟨Ab, cb2, rfl, _, _⟩ := own_form H3.out.2
    go_wp2_with fail
    refine (sum_any w3 Ab 3 cb2 w3.heap.size (fx 1 1 ++ fx 2 16384) (Rd.of_own H3.out.2) (Nat.le_refl _) HC.out.2.2 (by omega)).mono ?_
    obtain ⟨q, hq⟩ : ∃ q, Crc.more 0 (fx 1 1 ++ fx 2 16384) = q := ⟨_, rfl⟩
    have HQ : Hd (Crc.more 0 (fx 1 1 ++ fx 2 16384) = q ∧ q < 4294967296) := ⟨hq, by rw [← hq]; exact Crc.more_lt _ _⟩
    rw [hq]; clear hq
    rintro e w4 ⟨rfl, hb4⟩
    have H4 : Hd (FS w w4 gs u3 ys (Crc.more S (rest.take (16384))) ∧ w4.ownsRow (gs + 1) 5 1 (.slice Ab 3 cb2) 3 (cb (fx 1 1 ++ fx 2 16384))) := ⟨H3.out.1.step hb4, own_below' H3.out.2 hb4⟩
    clear hb4 H3
    go_wp2_with fail
    refine (put_uint32 w4 Ab 3 cb2 w4.heap.size q (fx 1 1 ++ fx 2 16384) (Rd.of_own H4.out.2) HQ.out.2 (by omega) (Nat.le_refl _)).mono ?_
    rintro e w5 ⟨v5, rfl, hO⟩
    obtain ⟨Ac, cc, rfl, _, _⟩ := own_form hO.own
    have H5 : Hd (FS w w5 gs u3 ys (Crc.more S (rest.take (16384))) ∧ Rd w5 w5.heap.size Ac 7 (cb (fx 1 1 ++ fx 2 16384 ++ fx 4 q))) := ⟨H4.out.1.step (hO.below (fun k h => by cases h) (Nat.le_refl _)), Rd.of_own hO.own⟩
    clear hO H4
    obtain ⟨z1, hz1⟩ : ∃ z1, fx 1 1 ++ fx 2 16384 ++ fx 4 q = z1 := ⟨_, rfl⟩
    have HZ1 : Hd (fx 1 1 ++ fx 2 16384 ++ fx 4 q = z1 ∧ z1.length = 7) := ⟨hz1, by rw [← hz1]; simp [fx_len]⟩
    rw [hz1] at H5; clear hz1
    have l1 : Hd (M + 7 ≤ maxLen ∧ (M + 7) * 1 ≤ 140737488355328 ∧ M + 7 + 16384 ≤ maxLen ∧ (M + 7 + 16384) * 1 ≤ 140737488355328 ∧ M + 7 + 16384 + 4 ≤ maxLen ∧ (M + 7 + 16384 + 4) * 1 ≤ 140737488355328) := ⟨form_lens M 16384 n m h8 hn hp1⟩
    have HM : Hd (ys.length = M) := ⟨hM⟩
    go_wp2_with (at_builtin; first
     | (
      refine wpList_app elB rfl (.tmp 27) (.tmp 31) rfl (gs + 1) u3 M (cb ys) rfl (by rw [← HM.out]; exact H5.out.1.own) w5.heap.size Ac 7 cc (cb z1) rfl H5.out.2 (cb_one z1) l1.out.1 l1.out.2.1 H5.out.1.lt ?_
      intro v6 w6 hO
      have H6 : Hd (FS w w6 gs v6 (ys ++ z1) (Crc.more S (rest.take (16384))) ∧ (ys ++ z1).length = M + 7) := ⟨H5.out.1.push (by rw [HM.out, HZ1.out.2]; exact hO), by rw [List.length_append, HM.out, HZ1.out.2]⟩
      clear hO H5)
     | (
      refine wpList_app elB rfl (.tmp 33) (.tmp 36) rfl (gs + 1) v6 (M + 7) (cb (ys ++ z1)) rfl (by rw [← H6.out.2]; exact H6.out.1.own) gs A1 (16384) c1 (cb (rest.take (16384))) rfl (HT.out.1.below H6.out.1.bel) (cb_one _) l1.out.2.2.1 l1.out.2.2.2.1 H6.out.1.lt ?_
      intro v7 w7 hO
      have H7 : Hd (FS w w7 gs v7 (ys ++ z1 ++ rest.take (16384)) (Crc.more S (rest.take (16384))) ∧ (ys ++ z1 ++ rest.take (16384)).length = M + 7 + 16384) := ⟨H6.out.1.push (by rw [H6.out.2, HT.out.2.2]; exact hO), by rw [List.length_append, H6.out.2, HT.out.2.2]⟩
      clear hO H6))
    obtain ⟨xs7, C7, hs7⟩ := H7.out.1.st
    refine (ssum_any w7 gs 0 54 _ C7 xs7 hs7).mono ?_
    obtain ⟨S2, hS2⟩ : ∃ S2, Crc.more S (rest.take (16384)) = S2 := ⟨_, rfl⟩
    have HS2 : Hd (Crc.more S (rest.take (16384)) = S2 ∧ S2 < 4294967296) := ⟨hS2, by rw [← hS2]; exact Crc.more_lt _ _⟩
    rw [hS2] at H7 ⊢; clear hS2 hs7
    rintro e w8 ⟨rfl, rfl⟩
    go_wp2_with fail
    refine (put_uint32 w7 none 0 0 w7.heap.size S2 [] Rd.nil HS2.out.2 (by omega) (Nat.le_refl _)).mono ?_
    rintro e w8 ⟨v8, rfl, hO⟩
    rw [List.nil_append] at hO
    obtain ⟨Ad, cd, rfl, _, _⟩ := own_form hO.own
    have H8 : Hd (FS w w8 gs v7 (ys ++ z1 ++ rest.take (16384)) S2 ∧ Rd w8 w8.heap.size Ad 4 (cb (fx 4 S2)) ∧ (ys ++ z1 ++ rest.take (16384)).length = M + 7 + 16384) := ⟨H7.out.1.step (hO.below (fun k h => by cases h) (Nat.le_refl _)), Rd.of_own hO.own, H7.out.2⟩
    clear hO H7
    go_wp2_with (
     refine wpList_app elB rfl (.tmp 38) (.tmp 40) rfl (gs + 1) v7 (M + 7 + 16384) (cb (ys ++ z1 ++ rest.take (16384))) rfl (by rw [← H8.out.2.2]; exact H8.out.1.own) w8.heap.size Ad 4 cd (cb (fx 4 S2)) rfl H8.out.2.1 (cb_one _) l1.out.2.2.2.2.1 l1.out.2.2.2.2.2 H8.out.1.lt ?_
     intro v9 w9 hO
     have H9 : Hd (FS w w9 gs v9 (ys ++ z1 ++ rest.take (16384) ++ fx 4 S2) S2) := ⟨H8.out.1.push (by rw [H8.out.2.2, fx_len]; exact hO)⟩
     clear hO H8)
    go_roundw
    case rel =>
     exact form_rel (p := 16384) (k := 1) (by rw [if_neg hl]) HPE.out rfl hm HM.out HI.out HQ.out.1 HZ1.out.1 HS2.out.1 HS2.out.2 H9.out
    case measure => exact Nat.sub_lt hm hp0
  ·have hm0 : m = 0 := by omega
   subst hm0
   go_wp2_with fail
   go_ret
   have hr0 : rest = [] := List.eq_nil_of_length_eq_zero HI.out.2.2.2.2.2.1
   have e4 := HI.out.2.2.1
   rw [hr0, fmF_nil, List.append_nil] at e4
   rw [← e4, HG.out]
   have hF := HF.out
   refine ⟨u3, rfl, own_base hF.own (Nat.le_succ _), ⟨hF.bel.os, hF.bel.tape, hF.bel.output, hF.bel.size, fun k hk _ => hF.bel.block k (by have := HG.out; omega)⟩, fun k hk => .inr ?_⟩
   have := (hF.own.lt k hk).1
   have := HG.out
   omega
end Go.Proofs.Ytbcmjjcbjojakaa
end
section
namespace Go.Proofs.Ytbcmjjcbjojakaa
open Go.RowKit
set_option linter.unusedVariables false
/-- Where the reference's form stands. -/
structure GS (w w' : World) (u : Value) (ys : List Nat) : Prop where
 own : w'.ownsRow w.heap.size 5 1 u ys.length (cb ys)
 bel : Below w.heap.size w w'
section
variable {w w1 w2 : World} {u v : Value} {ys zs : List Nat}
end
end Go.Proofs.Ytbcmjjcbjojakaa
end
section
namespace Go.Proofs.Ytbcmjjcbjojakaa
open Go.RowKit
set_option linter.unusedVariables false
section
variable {P : Program} {ops : Array Oper} {rest : List Oper} {a : Act} {w : World} {Q : Exit → Act → World → Prop} {d : Option Tmp} {ty t : TypeId} {pos : String} {af : Array Edge} {gd : Option (Nat × Bool)} {x y z : Operand}
/-! Guards for arms: each fits where the operation is of its kind, and changes nothing. -/
theorem at_store (h : wpList P ops Q (⟨d, .store t x y, ty, pos, af, gd⟩ :: rest) a w) : wpList P ops Q (⟨d, .store t x y, ty, pos, af, gd⟩ :: rest) a w := h
theorem at_load (h : wpList P ops Q (⟨d, .load t x, ty, pos, af, gd⟩ :: rest) a w) : wpList P ops Q (⟨d, .load t x, ty, pos, af, gd⟩ :: rest) a w := h
theorem at_buildSlice {n : Nat} {ps : Array (Nat × Operand)} (h : wpList P ops Q (⟨d, .buildSlice t n ps, ty, pos, af, gd⟩ :: rest) a w) : wpList P ops Q (⟨d, .buildSlice t n ps, ty, pos, af, gd⟩ :: rest) a w := h
end
/-- A value laid into a box that has just been made: the world behind it, by name. -/
theorem wpList_boxed {P : Program} {ops : Array Oper} {rest : List Oper} {o : Oper} {a : Act} {wr : World} {z : Array Value} {t : TypeId} {Q : Exit → Act → World → Prop} (hgd : o.guard = none) (ty : TypeId) (x y : Operand) (ho : o.op = .store ty x y)
  (N : Nat) (hN : wr.heap.size = N) (cells : Array Value) (hx : a.eval x = .pointer (some ⟨N, 0, none⟩)) (hy : a.eval y = .agg cells) (hi : (P.info? ty).map (·.size) = some cells.size) (hold : z.size = cells.size) (h1 : cells.all (·.oneCell') = true)
  (h : ∀ w2, Hd (w2.heap[N]? = some (.cells cells t (0, 0)) ∧ Below N wr w2 ∧ w2.heap.size = N + 1) → wpList P ops Q rest (a.put o.dst undef) w2) :
  wpList P ops Q (o :: rest) a (wr.alloc (.cells z t)) := by
 subst hN
 refine wpList_store_row hgd ty x y ho wr.heap.size cells hx hy t z (heap_alloc_new _ _) hi hold h1 (h _ ⟨setRow_heap _ _ _ _ _ _ (heap_alloc_new _ _), below_setRow ((Below.refl _ _).alloc (Nat.le_refl _) _) (Nat.le_refl _) _, by simp⟩)
/-- A value laid into a box: the world behind it, by name. -/
theorem wpList_stored {P : Program} {ops : Array Oper} {rest : List Oper} {o : Oper} {a : Act} {w : World} {Q : Exit → Act → World → Prop} (hgd : o.guard = none) (ty : TypeId) (x y : Operand) (ho : o.op = .store ty x y)
  (g : Nat) (cells : Array Value) (hx : a.eval x = .pointer (some ⟨g, 0, none⟩)) (hy : a.eval y = .agg cells) (t : TypeId) (old : Array Value) (hg : w.heap[g]? = some (.cells old t (0, 0))) (hi : (P.info? ty).map (·.size) = some cells.size)
  (hold : old.size = cells.size) (h1 : cells.all (·.oneCell') = true)
  (h : ∀ w2, Hd (w2.heap[g]? = some (.cells cells t (0, 0)) ∧ w.grownBy w2 (some g) ∧ w2.heap.size = w.heap.size) → wpList P ops Q rest (a.put o.dst undef) w2) :
  wpList P ops Q (o :: rest) a w :=
 wpList_store_row hgd ty x y ho g cells hx hy t old hg hi hold h1 (h _ ⟨setRow_heap _ _ _ _ _ _ hg, ⟨rfl, rfl, rfl, by simp [World.setRow], fun k _ hk => setRow_other w g k cells (fun e => hk (by rw [e]))⟩, by simp [World.setRow]⟩)
theorem results_cell1 {P : Program} {fn : Func} {p : Tmp} {ty : TypeId} (h : fn.results = #[.cell p ty]) (tmps : Array Value) (w : World) (g : Nat) (t : TypeId) (cs : Array Value) (fr : Nat × Nat) (d : TypeDesc)
  (hp : tmps.getD p undef = .pointer (some ⟨g, 0, none⟩)) (hg : w.heap[g]? = some (.cells cs t fr))
  (hu : P.underlying ty = some d) (hd : (match d with | .struct _ | .array _ _ => true | _ => false) = true) (hi : (P.info? ty).map (·.size) = some cs.size) :
  (results fn tmps).run P w = .ok (.agg cs) w := by
 have hp' : tmps[p]?.getD undef = .pointer (some ⟨g, 0, none⟩) := by simpa using hp
 simp [results, h, hp', asAddr, run_loadVar_row w g t ty cs fr d hg hu hd hi]
theorem results_cell_tmp {P : Program} {fn : Func} {p u : Tmp} {ty : TypeId} (h : fn.results = #[.cell p ty, .tmp u]) (tmps : Array Value) (w : World) (g : Nat) (t : TypeId) (cs : Array Value) (fr : Nat × Nat) (d : TypeDesc)
  (hp : tmps.getD p undef = .pointer (some ⟨g, 0, none⟩)) (hg : w.heap[g]? = some (.cells cs t fr))
  (hu : P.underlying ty = some d) (hd : (match d with | .struct _ | .array _ _ => true | _ => false) = true) (hi : (P.info? ty).map (·.size) = some cs.size) :
  (results fn tmps).run P w = .ok (.tuple #[.agg cs, tmps.getD u undef]) w := by
 have hp' : tmps[p]?.getD undef = .pointer (some ⟨g, 0, none⟩) := by simpa using hp
 simp [results, h, hp', asAddr, run_loadVar_row w g t ty cs fr d hg hu hd hi]
end Go.Proofs.Ytbcmjjcbjojakaa
end
section
namespace Go.Proofs.Ytbcmjjcbjojakaa
open Go.RowKit
set_option linter.unusedVariables false
/-- A request. -/
structure Rq where
 kind : Int
 tag : Nat
 key : ByteArray
 after : ByteArray
 off : Int
 num : Int
 delim : Int
 body : List Nat
def emS : ByteArray := ⟨#[]⟩
def rqV (R : Rq) (A : Option Addr) (n c : Nat) : Value := .agg #[.int .i64 R.kind, .int .u64 (R.tag : Int), .string R.key, .string R.after, .int .i64 R.off, .int .i64 R.num, .int .i64 R.delim, .slice A n c]
def cKey (k : Int) : Bool := decide (1 ≤ k ∧ k ≤ 7)
def cBody (k : Int) : Bool := decide (k = 1)
def cAfter (k : Int) : Bool := decide (k = 7)
def cOff (k : Int) : Bool := decide (k = 3)
def cNum (k : Int) : Bool := decide (k = 3 ∨ k = 7)
def cDelim (k : Int) : Bool := decide (k = 7)
/-- May the request be? -/
def rqOk (R : Rq) : Prop := 1 ≤ R.kind ∧ R.kind ≤ 8 ∧ (cKey R.kind = false → R.key = emS) ∧ (cBody R.kind = false → R.body = []) ∧ (cAfter R.kind = false → R.after = emS) ∧
 (cOff R.kind = false → R.off = 0) ∧ (cNum R.kind = false → R.num = 0) ∧ (cDelim R.kind = false → R.delim = 0)
def rqFit (R : Rq) : Prop := R.key.size ≤ 1024 ∧ R.after.size ≤ 1024 ∧ R.body.length ≤ 1048576
instance (R : Rq) : Decidable (rqFit R) := by unfold rqFit; infer_instance
/-- What a number with a sign is written as. -/
def uz (v : Int) : List Nat := uv (zig v).toNat
/-- What a text is written as. -/
def us (s : ByteArray) : List Nat := uv s.size ++ sb s
def ub (l : List Nat) : List Nat := uv l.length ++ l
/-- The content. -/
def rqC (R : Rq) : List Nat :=
 fx 1 R.kind.toNat ++ fx 8 R.tag ++ (if cKey R.kind = true then us R.key else []) ++ (if cBody R.kind = true then ub R.body else []) ++
 (if cAfter R.kind = true then us R.after else []) ++ (if cOff R.kind = true then uz R.off else []) ++ (if cDelim R.kind = true then uz R.delim else []) ++ (if cNum R.kind = true then uz R.num else [])
open Classical in
/-- The answer to a request: bytes and number. -/
noncomputable def askP (R : Rq) : List Nat × Int := if rqOk R then (if rqFit R then (formP (rqC R), 0) else ([], 3)) else ([], 2)
theorem uvf_lt : ∀ k v, v < 2 ^ (7 * k + 1) → ∀ x ∈ uvf k v, x < 256
 | 0, v, h => fun x hx => by simp only [uvf, List.mem_singleton] at hx; simp at h; omega
 | k + 1, v, h => fun x hx => by
  unfold uvf at hx
  split at hx
  ·simp only [List.mem_singleton] at hx; omega
  ·rcases List.mem_cons.1 hx with h1 | h1
   ·omega
   ·exact uvf_lt k _ (pow_step k v h) x h1
theorem uv_lt (v : Nat) (h : v < 2 ^ 64) : ∀ x ∈ uv v, x < 256 := uvf_lt 9 v h
theorem us_lt (s : ByteArray) (h : s.size < 2 ^ 64) : ∀ x ∈ us s, x < 256 := fun x hx => (List.mem_append.1 hx).elim (uv_lt _ h x) (sb_lt s x)
theorem ub_lt (l : List Nat) (h : l.length < 2 ^ 64) (hl : ∀ x ∈ l, x < 256) : ∀ x ∈ ub l, x < 256 := fun x hx => (List.mem_append.1 hx).elim (uv_lt _ h x) (hl x)
theorem zig_nat (v : Int) (h1 : -9223372036854775808 ≤ v) (h2 : v ≤ 9223372036854775807) : zig v = ((zig v).toNat : Int) ∧ (zig v).toNat < 2 ^ 64 := by
 have := zig_bd v h1 h2; omega
theorem uz_lt (v : Int) (h1 : -9223372036854775808 ≤ v) (h2 : v ≤ 9223372036854775807) : ∀ x ∈ uz v, x < 256 := uv_lt _ (zig_nat v h1 h2).2
theorem uz_len (v : Int) : (uz v).length ≤ 10 := (uv_len _).2
/-- PutVarint. -/
theorem putVar_any (w : World) (A : Option Addr) (n c B : Nat) (v : Int) (bs : List Nat) (hr : Rd w B A n (cb bs)) (h1 : -9223372036854775808 ≤ v) (h2 : v ≤ 9223372036854775807) (hn : n + 10 ≤ 140737488355328) (hB : B ≤ w.heap.size) :
  Calls Try.prog 59 #[.slice A n c, .int .i64 v] w fun e w' => ∃ v', e = .returned v' ∧ Onto w w' w.heap.size 5 (.slice none 0 0) v' (n + (uz v).length) (cb (bs ++ uz v)) :=
 putVarint_any w A n c B _ v bs hr h1 h2 hn hB (zig_nat v h1 h2).1 (zig_nat v h1 h2).2
theorem infoC : (Try.prog.info? 114).map (·.size) = some 6 := by kernel_rfl
/-- What counts in a request of a kind. -/
def ctsV (k b a o n d : Bool) : Value := .agg #[.bool k, .bool b, .bool a, .bool o, .bool n, .bool d]
theorem counts_any (w : World) (k : Int) : Calls Try.prog 55 #[.int .i64 k] w fun e w' => e = .returned (.tuple #[ctsV (cKey k) (cBody k) (cAfter k) (cOff k) (cNum k) (cDelim k), .bool (decide (1 ≤ k ∧ k ≤ 8))]) ∧ Below w.heap.size w w' := by
 have HJ : Hd (∀ (a b c d f g h : Bool), a = cKey k → b = cBody k → c = cAfter k → d = cOff k → f = cNum k → g = cDelim k → h = decide (1 ≤ k ∧ k ≤ 8) → (Ending.returned (.tuple #[ctsV a b c d f g, .bool h]) = .returned (.tuple #[ctsV (cKey k) (cBody k) (cAfter k) (cOff k) (cNum k) (cDelim k), .bool (decide (1 ≤ k ∧ k ≤ 8))]))) := ⟨by intros; subst_vars; rfl⟩
 have HA : Hd (∀ o, Below w.heap.size w (w.alloc o)) := ⟨fun o => (Below.refl _ w).alloc (Nat.le_refl _) _⟩
 go_enter Try.func55, Try.ntmps55
 by_cases k1 : k = 1
 ·subst k1; go_wp2_with fail; (try simp only [Exit.inBlock, Exit.then]); refine bodyPost_ret (results_cell_tmp rfl _ _ w.heap.size 114 _ (0, 0) _ rfl (heap_alloc_new _ _) Try.underlying114 rfl infoC) rfl ?_; exact ⟨HJ.out _ _ _ _ _ _ _ (by decide) (by decide) (by decide) (by decide) (by decide) (by decide) (by decide), HA.out _⟩
 by_cases k2 : k = 2
 ·subst k2; go_wp2_with fail; (try simp only [Exit.inBlock, Exit.then]); refine bodyPost_ret (results_cell_tmp rfl _ _ w.heap.size 114 _ (0, 0) _ rfl (heap_alloc_new _ _) Try.underlying114 rfl infoC) rfl ?_; exact ⟨HJ.out _ _ _ _ _ _ _ (by decide) (by decide) (by decide) (by decide) (by decide) (by decide) (by decide), HA.out _⟩
 by_cases k4 : k = 4
 ·subst k4; go_wp2_with fail; (try simp only [Exit.inBlock, Exit.then]); refine bodyPost_ret (results_cell_tmp rfl _ _ w.heap.size 114 _ (0, 0) _ rfl (heap_alloc_new _ _) Try.underlying114 rfl infoC) rfl ?_; exact ⟨HJ.out _ _ _ _ _ _ _ (by decide) (by decide) (by decide) (by decide) (by decide) (by decide) (by decide), HA.out _⟩
 by_cases k5 : k = 5
 ·subst k5; go_wp2_with fail; (try simp only [Exit.inBlock, Exit.then]); refine bodyPost_ret (results_cell_tmp rfl _ _ w.heap.size 114 _ (0, 0) _ rfl (heap_alloc_new _ _) Try.underlying114 rfl infoC) rfl ?_; exact ⟨HJ.out _ _ _ _ _ _ _ (by decide) (by decide) (by decide) (by decide) (by decide) (by decide) (by decide), HA.out _⟩
 by_cases k6 : k = 6
 ·subst k6; go_wp2_with fail; (try simp only [Exit.inBlock, Exit.then]); refine bodyPost_ret (results_cell_tmp rfl _ _ w.heap.size 114 _ (0, 0) _ rfl (heap_alloc_new _ _) Try.underlying114 rfl infoC) rfl ?_; exact ⟨HJ.out _ _ _ _ _ _ _ (by decide) (by decide) (by decide) (by decide) (by decide) (by decide) (by decide), HA.out _⟩
 by_cases k3 : k = 3
 ·subst k3; go_wp2_with fail; (try simp only [Exit.inBlock, Exit.then]); refine bodyPost_ret (results_cell_tmp rfl _ _ w.heap.size 114 _ (0, 0) _ rfl (heap_alloc_new _ _) Try.underlying114 rfl infoC) rfl ?_; exact ⟨HJ.out _ _ _ _ _ _ _ (by decide) (by decide) (by decide) (by decide) (by decide) (by decide) (by decide), HA.out _⟩
 by_cases k7 : k = 7
 ·subst k7; go_wp2_with fail; (try simp only [Exit.inBlock, Exit.then]); refine bodyPost_ret (results_cell_tmp rfl _ _ w.heap.size 114 _ (0, 0) _ rfl (heap_alloc_new _ _) Try.underlying114 rfl infoC) rfl ?_; exact ⟨HJ.out _ _ _ _ _ _ _ (by decide) (by decide) (by decide) (by decide) (by decide) (by decide) (by decide), HA.out _⟩
 by_cases k8 : k = 8
 ·subst k8; go_wp2_with fail; (try simp only [Exit.inBlock, Exit.then]); refine bodyPost_ret (results_cell_tmp rfl _ _ w.heap.size 114 _ (0, 0) _ rfl (heap_alloc_new _ _) Try.underlying114 rfl infoC) rfl ?_; exact ⟨HJ.out _ _ _ _ _ _ _ (by decide) (by decide) (by decide) (by decide) (by decide) (by decide) (by decide), HA.out _⟩
 go_wp2_with fail
 (try simp only [Exit.inBlock, Exit.then])
 refine bodyPost_ret (results_cell_tmp rfl _ _ w.heap.size 114 _ (0, 0) _ rfl (heap_alloc_new _ _) Try.underlying114 rfl infoC) rfl ?_
 refine ⟨HJ.out _ _ _ _ _ _ _ ?_ ?_ ?_ ?_ ?_ ?_ ?_, HA.out _⟩ <;> (try simp only [cKey, cBody, cAfter, cOff, cNum, cDelim]) <;> refine (decide_eq_false ?_).symm <;> omega
/-- What both answer. -/
def AskPost (R : Rq) (w : World) (e : Ending) (w' : World) : Prop := ∃ v', e = .returned (.tuple #[v', .int .i64 (askP R).2]) ∧ Onto w w' w.heap.size 5 (.slice none 0 0) v' (askP R).1.length (cb (askP R).1)
theorem onto_none {w w' : World} (b : Below w.heap.size w w') : Onto w w' w.heap.size 5 (.slice none 0 0) (.slice none 0 0) 0 (cb []) :=
 ⟨World.ownsRow_nil _ _ _ _, ⟨b.os, b.tape, b.output, b.size, fun k hk _ => b.block k hk⟩, fun _ h => .inl h⟩
section
variable {R : Rq} {w w1 w' : World} {v : Value}
theorem AskPost.bad (h : ¬ rqOk R) (b : Below w.heap.size w w') : AskPost R w (.returned (.tuple #[.slice none 0 0, .int .i64 2])) w' := by
 have : askP R = ([], 2) := by unfold askP; rw [if_neg h]
 unfold AskPost; rw [this]; exact ⟨_, rfl, onto_none b⟩
theorem AskPost.big (h : rqOk R) (h2 : ¬ rqFit R) (b : Below w.heap.size w w') : AskPost R w (.returned (.tuple #[.slice none 0 0, .int .i64 3])) w' := by
 have : askP R = ([], 3) := by unfold askP; rw [if_pos h, if_neg h2]
 unfold AskPost; rw [this]; exact ⟨_, rfl, onto_none b⟩
theorem AskPost.good (h : rqOk R) (h2 : rqFit R) {Z : List Nat} (hZ : rqC R = Z) (b : Below w.heap.size w w1) (hO : Onto w1 w' w1.heap.size 5 (.slice none 0 0) v (formP Z).length (cb (formP Z))) :
  AskPost R w (.returned (.tuple #[v, .int .i64 0])) w' := by
 have : askP R = (formP Z, 0) := by unfold askP; rw [if_pos h, if_pos h2, hZ]
 unfold AskPost; rw [this]; exact ⟨_, rfl, onto_fresh w b hO⟩
end
/-- The numbers of a request are of 64 bits. -/
structure RqB (R : Rq) : Prop where
 tag : R.tag < 18446744073709551616
 o1 : -9223372036854775808 ≤ R.off
 o2 : R.off ≤ 9223372036854775807
 n1 : -9223372036854775808 ≤ R.num
 n2 : R.num ≤ 9223372036854775807
 d1 : -9223372036854775808 ≤ R.delim
 d2 : R.delim ≤ 9223372036854775807
 b : ∀ x ∈ R.body, x < 256
theorem rqC_lt {R : Rq} (h : rqFit R) (hb : RqB R) : ∀ x ∈ rqC R, x < 256 := by
 obtain ⟨h1, h2, h3⟩ := h
 have gi : ∀ (p : Prop) [Decidable p] (l : List Nat), (∀ x ∈ l, x < 256) → ∀ x ∈ (if p then l else []), x < 256 := fun p _ l hl x hx => by
  split at hx
  ·exact hl x hx
  ·simp at hx
 intro x hx
 unfold rqC at hx
 simp only [List.mem_append] at hx
 rcases hx with ((((((h | h) | h) | h) | h) | h) | h) | h
 ·exact fx_lt _ _ x h
 ·exact fx_lt _ _ x h
 ·exact gi _ _ (us_lt _ (by omega)) x h
 ·exact gi _ _ (ub_lt _ (by omega) hb.b) x h
 ·exact gi _ _ (us_lt _ (by omega)) x h
 ·exact gi _ _ (uz_lt _ hb.o1 hb.o2) x h
 ·exact gi _ _ (uz_lt _ hb.d1 hb.d2) x h
 ·exact gi _ _ (uz_lt _ hb.n1 hb.n2) x h
theorem rqC_len {R : Rq} (h : rqFit R) : (rqC R).length ≤ 2097152 := by
 obtain ⟨h1, h2, h3⟩ := h
 have gi : ∀ (p : Prop) [Decidable p] (l : List Nat) (m : Nat), l.length ≤ m → (if p then l else []).length ≤ m := fun p _ l m hl => by
  split
  ·exact hl
  ·simp
 have gu : ∀ s : ByteArray, s.size ≤ 1024 → (us s).length ≤ 1034 := fun s hs => by unfold us; rw [List.length_append, sb_len]; have := uv_len s.size; omega
 have gb : (ub R.body).length ≤ 1048586 := by unfold ub; rw [List.length_append]; have := uv_len R.body.length; omega
 unfold rqC
 simp only [List.length_append, fx_len]
 have a1 := gi (cKey R.kind = true) _ _ (gu R.key h1)
 have a2 := gi (cBody R.kind = true) _ _ gb
 have a3 := gi (cAfter R.kind = true) _ _ (gu R.after h2)
 have a4 := gi (cOff R.kind = true) _ _ (uz_len R.off)
 have a5 := gi (cDelim R.kind = true) _ _ (uz_len R.delim)
 have a6 := gi (cNum R.kind = true) _ _ (uz_len R.num)
 omega
/-- Where the program's Ask stands. -/
structure AS (w w' : World) (g g1 : Nat) (xs ys : Array Value) : Prop where
 rq : w'.heap[g]? = some (.cells xs 28)
 ct : w'.heap[g1]? = some (.cells ys 114)
 bel : Below w.heap.size w w'
section
variable {w w1 w2 : World} {g g1 : Nat} {xs ys : Array Value}
theorem AS.step (h : AS w w1 g g1 xs ys) (b : Below w1.heap.size w1 w2) : AS w w2 g g1 xs ys :=
 ⟨by rw [b.block g (Array.getElem?_eq_some_iff.1 h.rq).1]; exact h.rq, by rw [b.block g1 (Array.getElem?_eq_some_iff.1 h.ct).1]; exact h.ct, h.bel.trans (b.mono h.bel.size)⟩
theorem AS.c (h : AS w w1 g g1 xs ys) (i : Nat) {v : Value} (hv : xs[i]? = some v) : w1.cell? ⟨g, i, none⟩ = some v := by rw [cell_of_row w1 g i _ _ (0, 0) h.rq]; exact hv
theorem AS.d (h : AS w w1 g g1 xs ys) (i : Nat) {v : Value} (hv : ys[i]? = some v) : w1.cell? ⟨g1, i, none⟩ = some v := by rw [cell_of_row w1 g1 i _ _ (0, 0) h.ct]; exact hv
end
/-- Where Ask stands while the content is put: v reads as L. -/
structure AB (w w' : World) (g g1 : Nat) (xs ys : Array Value) (v : Value) (L : List Nat) : Prop where
 sta : AS w w' g g1 xs ys
 rd : ∃ A c, v = .slice A L.length c ∧ L.length ≤ c ∧ Rd w' w'.heap.size A L.length (cb L)
section
variable {w w1 w2 : World} {g g1 : Nat} {xs ys : Array Value} {v v' : Value} {L X : List Nat}
theorem AB.put (h : AS w w1 g g1 xs ys) {m : Nat} (hm : m = L.length) (hO : Onto w1 w2 w1.heap.size 5 (.slice none 0 0) v' m (cb L)) : AB w w2 g g1 xs ys v' L := by
 subst hm
 obtain ⟨A, c, rfl, hc, _⟩ := own_form hO.own
 exact ⟨h.step (hO.below (fun k h => by cases h) (Nat.le_refl _)), A, c, rfl, hc, Rd.of_own hO.own⟩
theorem AB.nil (h : AB w w1 g g1 xs ys v L) (hX : X = []) : AB w w1 g g1 xs ys v (L ++ X) := by subst hX; rw [List.append_nil]; exact h
/-- A text is put. -/
theorem putStr_any (W : World) (t : ByteArray) (G : Nat) (A : Option Addr) (n c : Nat) (bs : List Nat) (h : AB w W g g1 xs ys (.slice A n c) bs) (hn : n ≤ 2097152) (ht : t.size ≤ 2097152) :
  Calls Try.prog 58 #[.slice A n c, .slice (some ⟨W.heap.size, 0, none⟩) t.size G] (W.alloc (.cells (bytesRow t G) 5 ((bytesRow t G).size, (bytesRow t G).size + 1))).drew fun e w' => ∃ v', e = .returned v' ∧ AB w w' g g1 xs ys v' (bs ++ us t) := by
 obtain ⟨A', c', e, hc, hr⟩ := h.rd
 injection e with e1 e2 e3
 subst e1 e2 e3
 have hA := h.sta.step (((Below.refl _ W).alloc (Nat.le_refl _) (.cells (bytesRow t G) 5 ((bytesRow t G).size, (bytesRow t G).size + 1))).drew)
 refine (putBytes_any (W.alloc (.cells (bytesRow t G) 5 ((bytesRow t G).size, (bytesRow t G).size + 1))).drew A (some ⟨W.heap.size, 0, none⟩) bs.length c t.size G (W.heap.size + 1) bs (sb t)
  (((hr.alloc (Nat.le_refl _) (.cells (bytesRow t G) 5 ((bytesRow t G).size, (bytesRow t G).size + 1))).more (Nat.le_succ _)).keep (fun _ _ => rfl)) ((rd_bytes (w := W) (e := 5) (cap := G) t ((bytesRow t G).size, (bytesRow t G).size + 1)).keep (fun _ _ => rfl)) (by omega) (by show W.heap.size + 1 ≤ (W.alloc _).heap.size; simp)).mono ?_
 rintro e w2 ⟨v2, rfl, hO2⟩
 refine ⟨v2, rfl, AB.put hA ?_ (by rw [List.append_assoc] at hO2; exact hO2)⟩
 simp only [List.length_append, us, sb_len]; omega
/-- Bytes are put. -/
theorem putLst_any (W : World) (A A2 : Option Addr) (n c m c2 : Nat) (bs ps : List Nat) (h : AB w W g g1 xs ys (.slice A n c) bs) (hp : Rd W W.heap.size A2 m (cb ps)) (hn : n ≤ 2097152) (hm : m ≤ 2097152) :
  Calls Try.prog 58 #[.slice A n c, .slice A2 m c2] W fun e w' => ∃ v', e = .returned v' ∧ AB w w' g g1 xs ys v' (bs ++ ub ps) := by
 have hl : ps.length = m := by have := hp.1; rwa [cb_length] at this
 subst hl
 obtain ⟨A', c', e, hc, hr⟩ := h.rd
 injection e with e1 e2 e3
 subst e1 e2 e3
 refine (putBytes_any W A A2 bs.length c ps.length c2 W.heap.size bs ps hr hp (by omega) (Nat.le_refl _)).mono ?_
 rintro e w2 ⟨v2, rfl, hO2⟩
 refine ⟨v2, rfl, AB.put h.sta ?_ (by rw [List.append_assoc] at hO2; exact hO2)⟩
 simp only [List.length_append, ub]; omega
/-- A number with a sign is put. -/
theorem putNum_any (W : World) (A : Option Addr) (n c : Nat) (v : Int) (bs : List Nat) (h : AB w W g g1 xs ys (.slice A n c) bs) (h1 : -9223372036854775808 ≤ v) (h2 : v ≤ 9223372036854775807) (hn : n ≤ 2097152) :
  Calls Try.prog 59 #[.slice A n c, .int .i64 v] W fun e w' => ∃ v', e = .returned v' ∧ AB w w' g g1 xs ys v' (bs ++ uz v) := by
 obtain ⟨A', c', e, hc, hr⟩ := h.rd
 injection e with e1 e2 e3
 subst e1 e2 e3
 refine (putVar_any W A bs.length c W.heap.size v bs hr h1 h2 (by omega) (Nat.le_refl _)).mono ?_
 rintro e w2 ⟨v2, rfl, hO2⟩
 exact ⟨v2, rfl, AB.put h.sta (by rw [List.length_append]) hO2⟩
end
end Go.Proofs.Ytbcmjjcbjojakaa
end
section
namespace Go.Proofs.Ytbcmjjcbjojakaa
open Go.RowKit
set_option linter.unusedVariables false
/-- An answer. -/
structure An where
 kind : Int
 tag : Nat
 code : Int
 body : List Nat
 keys : List ByteArray
 groups : List ByteArray
 next : ByteArray
 more : Bool
 ge : Int
 gc : Int
 size : Int
 h1 : Int
 h2 : Int
 h3 : Int
 h4 : Int
def fine (a : An) : Prop := a.code = 0
def tBody (a : An) : Prop := a.code = 0 ∧ (a.kind = 2 ∨ a.kind = 3)
def tGen (a : An) : Prop := a.code = 0 ∧ a.kind = 4
def tKeys (a : An) : Prop := a.code = 0 ∧ (a.kind = 6 ∨ a.kind = 7)
def tPage (a : An) : Prop := a.code = 0 ∧ a.kind = 7
/-- May the answer be? -/
def anOk (a : An) : Prop := 1 ≤ a.kind ∧ a.kind ≤ 8 ∧ 0 ≤ a.code ∧ a.code ≤ 2147483647 ∧ (¬ tBody a → a.body = []) ∧ (¬ tGen a → a.ge = 0 ∧ a.gc = 0 ∧ a.size = 0) ∧ (¬ tKeys a → a.keys = []) ∧
 (¬ tPage a → a.groups = [] ∧ a.next = emS ∧ a.more = false) ∧ (a.kind ≠ 8 → a.h1 = 0 ∧ a.h2 = 0 ∧ a.h3 = 0 ∧ a.h4 = 0)
def shortL (l : List ByteArray) (m : Nat) : Prop := l.length ≤ m ∧ ∀ t ∈ l, t.size ≤ 255
def anFit (a : An) : Prop := a.body.length ≤ 1048576 ∧ shortL a.keys (if a.kind = 6 then 65536 else 1000) ∧ shortL a.groups 1000 ∧ a.next.size ≤ 255
/-- What texts are written as, counted. -/
def ut (l : List ByteArray) : List Nat := uv l.length ++ tx l
open Classical in
/-- The content. -/
noncomputable def anC (a : An) : List Nat :=
 fx 1 a.kind.toNat ++ fx 8 a.tag ++ uv a.code.toNat ++ (if a.kind = 8 then uz a.h1 ++ uz a.h2 ++ uz a.h3 ++ uz a.h4 else []) ++ (if tBody a then ub a.body else []) ++
 (if tGen a then uz a.ge ++ uz a.gc ++ uz a.size else []) ++ (if tKeys a then ut a.keys else []) ++ (if tPage a then ut a.groups ++ us a.next ++ [if a.more = true then 1 else 0] else [])
open Classical in
noncomputable def tellP (a : An) : List Nat × Int := if anOk a then (if anFit a then (formP (anC a), 0) else ([], 3)) else ([], 2)
theorem shortL_at {l : List ByteArray} {m k : Nat} (h : shortL l m) (hk : k < l.length) : (l.getD k ByteArray.empty).size ≤ 255 := by
 rw [List.getD_eq_getElem?_getD, List.getElem?_eq_getElem hk]; exact h.2 _ (List.getElem_mem hk)
open Classical in
theorem within_any (w : World) (A : Option Addr) (n c B m : Nat) (ts : List ByteArray) (hr : Rd w B A n (cs ts)) (hn : n ≤ 8796093022000) :
  Calls Try.prog 66 #[.slice A n c, .int .i64 (m : Int)] w fun e w' => e = .returned (.bool (decide (shortL ts m))) ∧ w' = w := by
 have hl : ts.length = n := by have := hr.1; rwa [cs_len] at this
 have HH := Hd.mk hr
 clear hr
 have HF : Hd (∀ k, k < n → 255 < (ts.getD k ByteArray.empty).size → Ending.returned (.bool false) = .returned (.bool (decide (shortL ts m)))) := ⟨fun k hk h => by
  rw [decide_eq_false]; intro hs; have := shortL_at hs (by rw [hl]; exact hk); omega⟩
 have HT : Hd ((∀ k, k < n → (ts.getD k ByteArray.empty).size ≤ 255) → Ending.returned (.bool (decide (n ≤ m))) = .returned (.bool (decide (shortL ts m)))) := ⟨fun h => by
  congr 2
  have : ∀ t ∈ ts, t.size ≤ 255 := fun t ht => by
   obtain ⟨k, hk, rfl⟩ := List.getElem_of_mem ht
   have := h k (by rw [← hl]; exact hk)
   rwa [List.getD_eq_getElem?_getD, List.getElem?_eq_getElem hk] at this
  rw [decide_eq_decide]; unfold shortL; rw [hl]; exact ⟨fun h => ⟨h, this⟩, fun h => h.1⟩⟩
 go_enter Try.func66, Try.ntmps66
 go_wp2_with fail
 go_loop [9] (fun i => ∃ k : Nat, k ≤ n ∧ i = .int .i64 k ∧ Hd (∀ j, j < k → (ts.getD j ByteArray.empty).size ≤ 255)) (fun i => n - (intOf i).toNat)
 case atStart => exact ⟨0, by omega, rfl, ⟨fun j hj => by omega⟩⟩
 case round =>
  obtain ⟨k, hk, rfl, HP⟩ := hrel
  by_cases hlt : k < n
  ·obtain ⟨g, off, u, hA, _, hx, hc⟩ := HH.out.at_ hlt
   rw [cs_get _ _ (by rw [hl]; exact hlt)] at hx
   injection hx with hx
   subst hx hA
   have HFk := Hd.mk (HF.out k hlt)
   have HPk : Hd ((ts.getD k ByteArray.empty).size ≤ 255 → ∀ j, j < k + 1 → (ts.getD j ByteArray.empty).size ≤ 255) := ⟨fun h j hj => by
    by_cases e : j = k
    ·subst e; exact h
    ·exact HP.out j (by omega)⟩
   obtain ⟨t, ht⟩ : ∃ t, ts.getD k ByteArray.empty = t := ⟨_, rfl⟩
   rw [ht] at hc HFk HPk
   by_cases h5 : t.size ≤ 255
   ·go_wp2_with fail
    go_round
    case rel => first
     | exact ⟨k + 1, by omega, by go_num, ⟨HPk.out h5⟩⟩
     | exact ⟨_, _, ⟨k + 1, by omega, rfl, ⟨HPk.out h5⟩⟩, rfl, by go_num⟩
    case measure => simp [intOf]; omega
   ·go_wp2_with fail
    go_ret
    exact ⟨HFk.out (by omega), rfl⟩
  ·have hkn : k = n := by omega
   subst hkn
   go_wp2_with fail
   go_ret
   exact ⟨by rw [← HT.out HP.out]; simp, rfl⟩
end Go.Proofs.Ytbcmjjcbjojakaa
end
