/- Contract of the program's form. -/
import Derived.Test.YtbcmjjcbjojakaaFormP
namespace Go.Proofs.Ytbcmjjcbjojakaa
open Go.RowKit
set_option linter.unusedVariables false
/-- Where the program's form stands. -/
structure FS (w w' : World) (gs : Nat) (u : Value) (ys : List Nat) (S : Nat) : Prop where
  own : w'.ownsRow (gs + 1) 5 1 u ys.length (cb ys)
  st : ∃ xs C, Strm w' gs 0 xs 54 S C
  bel : Below gs w w'
section
variable {w w1 w2 : World} {gs S : Nat} {u v : Value} {ys zs : List Nat}
theorem FS.lt (h : FS w w1 gs u ys S) : gs < w1.heap.size := let ⟨_, _, h⟩ := h.st; h.lt
theorem FS.step (h : FS w w1 gs u ys S) (b : Below w1.heap.size w1 w2) : FS w w2 gs u ys S :=
  ⟨own_below' h.own b, let ⟨xs, C, hs⟩ := h.st; ⟨xs, C, hs.below b h.lt⟩, h.bel.trans (b.mono (Nat.le_of_lt h.lt))⟩
theorem FS.own_ne (h : FS w w1 gs u ys S) : u.ownBlock ≠ some gs := fun e => by have := (h.own.lt gs e).1; omega
theorem FS.write (h : FS w w1 gs u ys S) (hg : w1.grownBy w2 (some gs)) {xs : Array Value} {S' C' : Nat} (hs : Strm w2 gs 0 xs 54 S' C') : FS w w2 gs u ys S' :=
  ⟨own_keepBlock h.own hg h.own_ne, ⟨xs, C', hs⟩, h.bel.grown hg (Nat.le_of_lt h.lt) (fun k e => by injection e with e; omega)⟩
theorem FS.push (h : FS w w1 gs u ys S) (hO : Onto w1 w2 (gs + 1) 5 u v (ys.length + zs.length) (cb ys ++ cb zs)) : FS w w2 gs v (ys ++ zs) S := by
  have hb : Below (gs + 1) w1 w2 := hO.below (fun k hk => (h.own.lt k hk).1) h.lt
  refine ⟨by rw [List.length_append, cb_append]; exact hO.own, let ⟨xs, C, hs⟩ := h.st; ⟨xs, C, hs.below hb (Nat.lt_succ_self _)⟩, h.bel.trans (hb.mono (Nat.le_succ _))⟩
/-- What the next round stands on. -/
theorem form_lens (M p n m : Nat) (h : M + 12 * m ≤ 12 * n) (hn : n ≤ 67108864) (hp : p ≤ 16384) : M + 7 ≤ maxLen ∧ (M + 7) * 1 ≤ 140737488355328 ∧ M + 7 + p ≤ maxLen ∧ (M + 7 + p) * 1 ≤ 140737488355328 ∧ M + 7 + p + 4 ≤ maxLen ∧ (M + 7 + p + 4) * 1 ≤ 140737488355328 := by
  unfold maxLen; omega
theorem form_rel {w w9 : World} {gs n f m c1 M p r S S2 q k : Nat} {A1 : Option Addr} {rest ys z1 F : List Nat} {v9 : Value} (hk : k = if m ≤ 16384 then 2 else 1) (hp : min m 16384 = p) (hrp : r = m - p) (hm : 0 < m) (hM : ys.length = M)
    (HI : Rd w gs A1 m (cb rest) ∧ m ≤ c1 ∧ ys ++ fmF f S rest = F ∧ m ≤ f ∧ (∀ x ∈ rest, x < 256) ∧ rest.length = m ∧ ys.length + 12 * m ≤ 12 * n ∧ S < 4294967296)
    (hq : Crc.more 0 (fx 1 k ++ fx 2 p) = q) (hz : fx 1 k ++ fx 2 p ++ fx 4 q = z1) (hS2 : Crc.more S (rest.take p) = S2) (hl2 : S2 < 4294967296)
    (h9 : FS w w9 gs v9 (ys ++ z1 ++ rest.take p ++ fx 4 S2) S2) :
    ∃ (A : Option Addr) (m' c : Nat) (rest' ys' : List Nat) (S' f' : Nat), Value.slice (cutA A1 c1 p) r (c1 - p) = .slice A m' c ∧ Rd w gs A m' (cb rest') ∧ m' ≤ c ∧ FS w w9 gs v9 ys' S' ∧ ys' ++ fmF f' S' rest' = F ∧ m' ≤ f' ∧ (∀ x ∈ rest', x < 256) ∧ rest'.length = m' ∧ ys'.length + 12 * m' ≤ 12 * n ∧ S' < 4294967296 := by
  obtain ⟨h1, h2, e4, h5, h6, h7, h8, h9'⟩ := HI
  subst hrp
  obtain ⟨f', rfl⟩ : ∃ f', f = f' + 1 := ⟨f - 1, by omega⟩
  have hpl : p ≤ m := by omega
  have hp0 : 0 < p := by omega
  have hch : chk S rest = z1 ++ rest.take p ++ fx 4 S2 := by unfold chk hd3; rw [h7, ← hk, hp, hq, hz, hS2]
  rw [fmF_step _ _ _ (by omega), hch, h7, hp, hS2] at e4
  refine ⟨_, _, _, rest.drop p, _, S2, f', rfl, rd_from h1 hpl h2, by omega, h9, by rw [← e4]; simp only [List.append_assoc], by omega, fun x hx => h6 x (List.mem_of_mem_drop hx), by rw [List.length_drop, h7], ?_, hl2⟩
  have hz7 : z1.length = 7 := by rw [← hz]; simp [fx_len]
  simp only [List.length_append, hM, hz7, fx_len, List.length_take, h7]; omega
end
set_option maxRecDepth 20000 in
set_option maxHeartbeats 4000000 in
theorem form_any (w : World) (A : Option Addr) (n c : Nat) (bs : List Nat) (hr : Rd w w.heap.size A n (cb bs)) (hc : n ≤ c) (hb : ∀ x ∈ bs, x < 256) (hn : n ≤ 67108864) :
    Calls Try.prog 60 #[.slice A n c] w fun e w' => ∃ v', e = .returned v' ∧ Onto w w' w.heap.size 5 (.slice none 0 0) v' (formP bs).length (cb (formP bs)) := by
  have hbl : bs.length = n := by have := hr.1; rw [cb_length] at this; exact this
  obtain ⟨gs, hgs⟩ : ∃ gs, w.heap.size = gs := ⟨_, rfl⟩
  have HG := Hd.mk hgs
  have H0 : Hd (FS w (w.alloc (.cells #[.int .u32 0, .int .u64 0] 54)) gs (.slice none 0 0) [] 0) :=
    ⟨by subst hgs; exact ⟨World.ownsRow_nil _ _ _ _, ⟨_, 0, ⟨heap_alloc_new w _, rfl, rfl, by omega, by omega⟩⟩, (Below.refl _ w).alloc (Nat.le_refl _) _⟩⟩
  have HR : Hd (Rd w gs A n (cb bs) ∧ n ≤ c ∧ (∀ x ∈ bs, x < 256) ∧ bs.length = n ∧ n ≤ 67108864) := ⟨by rw [← hgs]; exact hr, hc, hb, hbl, hn⟩
  clear hr hc hb hbl hn
  go_enter Try.func60, Try.ntmps60
  go_wp2_with fail
  obtain ⟨w0, hw0⟩ : ∃ w0, w.alloc (.cells #[.int .u32 0, .int .u64 0] 54) = w0 := ⟨_, rfl⟩
  rw [hw0] at H0 ⊢
  clear hw0 hgs
  go_loopw [0, 3] (fun u0 u3 wr => ∃ (A : Option Addr) (m c : Nat) (rest ys : List Nat) (S f : Nat), u0 = .slice A m c ∧ Rd w gs A m (cb rest) ∧ m ≤ c ∧ FS w wr gs u3 ys S ∧ ys ++ fmF f S rest = formP bs ∧ m ≤ f ∧ (∀ x ∈ rest, x < 256) ∧ rest.length = m ∧ ys.length + 12 * m ≤ 12 * n ∧ S < 4294967296) (fun u0 _ _ => sliceLen u0)
  case atStart => exact ⟨A, n, c, bs, [], 0, n, rfl, HR.out.1, HR.out.2.1, H0.out, by rw [List.nil_append]; unfold formP; rw [HR.out.2.2.2.1], Nat.le_refl _, HR.out.2.2.1, HR.out.2.2.2.1, by simp, by omega⟩
  case round =>
    obtain ⟨A1, m, c1, rest, ys, S, f, rfl, h1, h2, h3, h4, h5, h6, h7, h8, h9⟩ := hrel
    have hn := HR.out.2.2.2.2
    have HI : Hd (Rd w gs A1 m (cb rest) ∧ m ≤ c1 ∧ ys ++ fmF f S rest = formP bs ∧ m ≤ f ∧ (∀ x ∈ rest, x < 256) ∧ rest.length = m ∧ ys.length + 12 * m ≤ 12 * n ∧ S < 4294967296) := ⟨h1, h2, h4, h5, h6, h7, h8, h9⟩
    have HF := Hd.mk h3
    obtain ⟨M, hM⟩ : ∃ M, ys.length = M := ⟨_, rfl⟩
    rw [hM] at h8
    clear h1 h2 h3 h4 h5 h6 h7 h9
    have hm67 : m ≤ 67108864 := by omega
    by_cases hm : 0 < m
    · have hmi : (0 : Int) < (m : Int) := by omega
      by_cases hl : m ≤ 16384
      · have hpe : True := trivial
        have hlt : ¬ (m : Int) < (m : Int) := by omega
        have hp1 : m ≤ 16384 := by omega
        have hpm : m ≤ m := by omega
        have hp0 : 0 < m := by omega
        have HPE : Hd (min m 16384 = m) := ⟨by omega⟩
        clear hpe
        have hps := fun w => run_cut_to (P := Try.prog) (w := w) elB A1 m c1 (m) (by have := HI.out.2.1; omega)
        have hpf := fun w => run_cut_from (P := Try.prog) (w := w) elB A1 m c1 (m) (by omega)
        (try simp only [Nat.cast_ofNat] at hps hpf)
        have HC : Hd (hd3 rest = fx 1 2 ++ fx 2 m ∧ chk S rest = fx 1 2 ++ fx 2 m ++ fx 4 (Crc.more 0 (fx 1 2 ++ fx 2 m)) ++ rest.take m ++ fx 4 (Crc.more S (rest.take m)) ∧ (∀ x ∈ fx 1 2 ++ fx 2 m, x < 256)) := ⟨by
          unfold hd3; rw [HI.out.2.2.2.2.2.1, if_pos hl, HPE.out], by
          unfold chk hd3; rw [HI.out.2.2.2.2.2.1, if_pos hl, HPE.out], fun x hx => (List.mem_append.1 hx).elim (fx_lt _ _ x) (fx_lt _ _ x)⟩
        have HT : Hd (Rd w gs A1 m (cb (rest.take m)) ∧ (∀ x ∈ rest.take m, x < 256) ∧ (rest.take m).length = m) := ⟨by rw [← cb_take]; exact HI.out.1.take (by omega), fun x hx => HI.out.2.2.2.2.1 x (List.mem_of_mem_take hx), by rw [List.length_take, HI.out.2.2.2.2.2.1]; omega⟩
        go_wp2_with fail
        refine (put_uint8 wr none 0 0 wr.heap.size 2 [] Rd.nil (by omega) (by omega) (Nat.le_refl _)).mono ?_
        rintro e w1 ⟨v1, rfl, hO⟩
        rw [List.nil_append] at hO
        obtain ⟨Aa, ca, rfl, _, _⟩ := own_form hO.own
        have H1 : Hd (FS w w1 gs u3 ys S ∧ Rd w1 w1.heap.size Aa 1 (cb (fx 1 2))) := ⟨HF.out.step (hO.below (fun k h => by cases h) (Nat.le_refl _)), Rd.of_own hO.own⟩
        clear hO
        go_wp2_with fail
        refine (put_uint16 w1 Aa 1 ca w1.heap.size (m) (fx 1 2) H1.out.2 (by omega) (by omega) (Nat.le_refl _)).mono ?_
        rintro e w2 ⟨v2, rfl, hO⟩
        have H2 : Hd (FS w w2 gs u3 ys S ∧ w2.ownsRow (gs + 1) 5 1 v2 3 (cb (fx 1 2 ++ fx 2 m))) := ⟨H1.out.1.step (hO.below (fun k h => by cases h) (Nat.le_refl _)), own_base hO.own H1.out.1.lt⟩
        clear hO H1
        go_wp2_with fail
        obtain ⟨xs2, C2, hs2⟩ := H2.out.1.st
        refine (write_any w2 gs 0 54 S C2 xs2 A1 (m) c1 gs (rest.take (m)) hs2 (HT.out.1.below H2.out.1.bel) (Nat.le_of_lt H2.out.1.lt) HT.out.2.1 (by omega)).mono ?_
        rintro e w3 ⟨rfl, hs3, hg3⟩
        have H3 : Hd (FS w w3 gs u3 ys (Crc.more S (rest.take (m))) ∧ w3.ownsRow (gs + 1) 5 1 v2 3 (cb (fx 1 2 ++ fx 2 m))) := ⟨H2.out.1.write hg3 hs3, own_keepBlock H2.out.2 hg3 (fun e => by have := (H2.out.2.lt gs e).1; omega)⟩
        clear hs3 hg3 hs2 H2
        obtain ⟨Ab, cb2, rfl, _, _⟩ := own_form H3.out.2
        go_wp2_with fail
        refine (sum_any w3 Ab 3 cb2 w3.heap.size (fx 1 2 ++ fx 2 m) (Rd.of_own H3.out.2) (Nat.le_refl _) HC.out.2.2 (by omega)).mono ?_
        obtain ⟨q, hq⟩ : ∃ q, Crc.more 0 (fx 1 2 ++ fx 2 m) = q := ⟨_, rfl⟩
        have HQ : Hd (Crc.more 0 (fx 1 2 ++ fx 2 m) = q ∧ q < 4294967296) := ⟨hq, by rw [← hq]; exact Crc.more_lt _ _⟩
        rw [hq]; clear hq
        rintro e w4 ⟨rfl, hb4⟩
        have H4 : Hd (FS w w4 gs u3 ys (Crc.more S (rest.take (m))) ∧ w4.ownsRow (gs + 1) 5 1 (.slice Ab 3 cb2) 3 (cb (fx 1 2 ++ fx 2 m))) := ⟨H3.out.1.step hb4, own_below' H3.out.2 hb4⟩
        clear hb4 H3
        go_wp2_with fail
        refine (put_uint32 w4 Ab 3 cb2 w4.heap.size q (fx 1 2 ++ fx 2 m) (Rd.of_own H4.out.2) HQ.out.2 (by omega) (Nat.le_refl _)).mono ?_
        rintro e w5 ⟨v5, rfl, hO⟩
        obtain ⟨Ac, cc, rfl, _, _⟩ := own_form hO.own
        have H5 : Hd (FS w w5 gs u3 ys (Crc.more S (rest.take (m))) ∧ Rd w5 w5.heap.size Ac 7 (cb (fx 1 2 ++ fx 2 m ++ fx 4 q))) := ⟨H4.out.1.step (hO.below (fun k h => by cases h) (Nat.le_refl _)), Rd.of_own hO.own⟩
        clear hO H4
        obtain ⟨z1, hz1⟩ : ∃ z1, fx 1 2 ++ fx 2 m ++ fx 4 q = z1 := ⟨_, rfl⟩
        have HZ1 : Hd (fx 1 2 ++ fx 2 m ++ fx 4 q = z1 ∧ z1.length = 7) := ⟨hz1, by rw [← hz1]; simp [fx_len]⟩
        rw [hz1] at H5; clear hz1
        have l1 : Hd (M + 7 ≤ maxLen ∧ (M + 7) * 1 ≤ 140737488355328 ∧ M + 7 + m ≤ maxLen ∧ (M + 7 + m) * 1 ≤ 140737488355328 ∧ M + 7 + m + 4 ≤ maxLen ∧ (M + 7 + m + 4) * 1 ≤ 140737488355328) := ⟨form_lens M m n m h8 hn hp1⟩
        have HM : Hd (ys.length = M) := ⟨hM⟩
        go_wp2_with (at_builtin; first
          | (
            refine wpList_app elB rfl (.tmp 27) (.tmp 31) rfl (gs + 1) u3 M (cb ys) rfl (by rw [← HM.out]; exact H5.out.1.own) w5.heap.size Ac 7 cc (cb z1) rfl H5.out.2 (cb_one z1) l1.out.1 l1.out.2.1 H5.out.1.lt ?_
            intro v6 w6 hO
            have H6 : Hd (FS w w6 gs v6 (ys ++ z1) (Crc.more S (rest.take (m))) ∧ (ys ++ z1).length = M + 7) := ⟨H5.out.1.push (by rw [HM.out, HZ1.out.2]; exact hO), by rw [List.length_append, HM.out, HZ1.out.2]⟩
            clear hO H5)
          | (
            refine wpList_app elB rfl (.tmp 33) (.tmp 36) rfl (gs + 1) v6 (M + 7) (cb (ys ++ z1)) rfl (by rw [← H6.out.2]; exact H6.out.1.own) gs A1 (m) c1 (cb (rest.take (m))) rfl (HT.out.1.below H6.out.1.bel) (cb_one _) l1.out.2.2.1 l1.out.2.2.2.1 H6.out.1.lt ?_
            intro v7 w7 hO
            have H7 : Hd (FS w w7 gs v7 (ys ++ z1 ++ rest.take (m)) (Crc.more S (rest.take (m))) ∧ (ys ++ z1 ++ rest.take (m)).length = M + 7 + m) := ⟨H6.out.1.push (by rw [H6.out.2, HT.out.2.2]; exact hO), by rw [List.length_append, H6.out.2, HT.out.2.2]⟩
            clear hO H6))
        obtain ⟨xs7, C7, hs7⟩ := H7.out.1.st
        refine (ssum_any w7 gs 0 54 _ C7 xs7 hs7).mono ?_
        obtain ⟨S2, hS2⟩ : ∃ S2, Crc.more S (rest.take (m)) = S2 := ⟨_, rfl⟩
        have HS2 : Hd (Crc.more S (rest.take (m)) = S2 ∧ S2 < 4294967296) := ⟨hS2, by rw [← hS2]; exact Crc.more_lt _ _⟩
        rw [hS2] at H7 ⊢; clear hS2 hs7
        rintro e w8 ⟨rfl, rfl⟩
        go_wp2_with fail
        refine (put_uint32 w7 none 0 0 w7.heap.size S2 [] Rd.nil HS2.out.2 (by omega) (Nat.le_refl _)).mono ?_
        rintro e w8 ⟨v8, rfl, hO⟩
        rw [List.nil_append] at hO
        obtain ⟨Ad, cd, rfl, _, _⟩ := own_form hO.own
        have H8 : Hd (FS w w8 gs v7 (ys ++ z1 ++ rest.take (m)) S2 ∧ Rd w8 w8.heap.size Ad 4 (cb (fx 4 S2)) ∧ (ys ++ z1 ++ rest.take (m)).length = M + 7 + m) := ⟨H7.out.1.step (hO.below (fun k h => by cases h) (Nat.le_refl _)), Rd.of_own hO.own, H7.out.2⟩
        clear hO H7
        go_wp2_with (
          refine wpList_app elB rfl (.tmp 38) (.tmp 40) rfl (gs + 1) v7 (M + 7 + m) (cb (ys ++ z1 ++ rest.take (m))) rfl (by rw [← H8.out.2.2]; exact H8.out.1.own) w8.heap.size Ad 4 cd (cb (fx 4 S2)) rfl H8.out.2.1 (cb_one _) l1.out.2.2.2.2.1 l1.out.2.2.2.2.2 H8.out.1.lt ?_
          intro v9 w9 hO
          have H9 : Hd (FS w w9 gs v9 (ys ++ z1 ++ rest.take (m) ++ fx 4 S2) S2) := ⟨H8.out.1.push (by rw [H8.out.2.2, fx_len]; exact hO)⟩
          clear hO H8)
        go_roundw
        case rel =>
          exact form_rel (p := m) (k := 2) (by rw [if_pos hl]) HPE.out (Nat.sub_self m).symm hm HM.out HI.out HQ.out.1 HZ1.out.1 HS2.out.1 HS2.out.2 H9.out
        case measure => exact hm
      · have hpe : True := trivial
        have hlt : (16384 : Int) < (m : Int) := by omega
        have hcc : 16384 ≤ c1 := by have := HI.out.2.1; omega
        have hcd : (16384 : Int) ≤ (c1 : Int) := by omega
        have hcm : 16384 ≤ m := by omega
        have hp1 : 16384 ≤ 16384 := by omega
        have hpm : 16384 ≤ m := by omega
        have hp0 : 0 < 16384 := by omega
        have HPE : Hd (min m 16384 = 16384) := ⟨by omega⟩
        clear hpe
        have hps := fun w => run_cut_to (P := Try.prog) (w := w) elB A1 m c1 (16384) (by have := HI.out.2.1; omega)
        have hpf := fun w => run_cut_from (P := Try.prog) (w := w) elB A1 m c1 (16384) (by omega)
        (try simp only [Nat.cast_ofNat] at hps hpf)
        have HC : Hd (hd3 rest = fx 1 1 ++ fx 2 16384 ∧ chk S rest = fx 1 1 ++ fx 2 16384 ++ fx 4 (Crc.more 0 (fx 1 1 ++ fx 2 16384)) ++ rest.take 16384 ++ fx 4 (Crc.more S (rest.take 16384)) ∧ (∀ x ∈ fx 1 1 ++ fx 2 16384, x < 256)) := ⟨by
          unfold hd3; rw [HI.out.2.2.2.2.2.1, if_neg hl, HPE.out], by
          unfold chk hd3; rw [HI.out.2.2.2.2.2.1, if_neg hl, HPE.out], fun x hx => (List.mem_append.1 hx).elim (fx_lt _ _ x) (fx_lt _ _ x)⟩
        have HT : Hd (Rd w gs A1 16384 (cb (rest.take 16384)) ∧ (∀ x ∈ rest.take 16384, x < 256) ∧ (rest.take 16384).length = 16384) := ⟨by rw [← cb_take]; exact HI.out.1.take (by omega), fun x hx => HI.out.2.2.2.2.1 x (List.mem_of_mem_take hx), by rw [List.length_take, HI.out.2.2.2.2.2.1]; omega⟩
        go_wp2_with fail
        refine (put_uint8 wr none 0 0 wr.heap.size 1 [] Rd.nil (by omega) (by omega) (Nat.le_refl _)).mono ?_
        rintro e w1 ⟨v1, rfl, hO⟩
        rw [List.nil_append] at hO
        obtain ⟨Aa, ca, rfl, _, _⟩ := own_form hO.own
        have H1 : Hd (FS w w1 gs u3 ys S ∧ Rd w1 w1.heap.size Aa 1 (cb (fx 1 1))) := ⟨HF.out.step (hO.below (fun k h => by cases h) (Nat.le_refl _)), Rd.of_own hO.own⟩
        clear hO
        go_wp2_with fail
        refine (put_uint16 w1 Aa 1 ca w1.heap.size (16384) (fx 1 1) H1.out.2 (by omega) (by omega) (Nat.le_refl _)).mono ?_
        rintro e w2 ⟨v2, rfl, hO⟩
        have H2 : Hd (FS w w2 gs u3 ys S ∧ w2.ownsRow (gs + 1) 5 1 v2 3 (cb (fx 1 1 ++ fx 2 16384))) := ⟨H1.out.1.step (hO.below (fun k h => by cases h) (Nat.le_refl _)), own_base hO.own H1.out.1.lt⟩
        clear hO H1
        go_wp2_with fail
        obtain ⟨xs2, C2, hs2⟩ := H2.out.1.st
        refine (write_any w2 gs 0 54 S C2 xs2 A1 (16384) c1 gs (rest.take (16384)) hs2 (HT.out.1.below H2.out.1.bel) (Nat.le_of_lt H2.out.1.lt) HT.out.2.1 (by omega)).mono ?_
        rintro e w3 ⟨rfl, hs3, hg3⟩
        have H3 : Hd (FS w w3 gs u3 ys (Crc.more S (rest.take (16384))) ∧ w3.ownsRow (gs + 1) 5 1 v2 3 (cb (fx 1 1 ++ fx 2 16384))) := ⟨H2.out.1.write hg3 hs3, own_keepBlock H2.out.2 hg3 (fun e => by have := (H2.out.2.lt gs e).1; omega)⟩
        clear hs3 hg3 hs2 H2
        obtain ⟨Ab, cb2, rfl, _, _⟩ := own_form H3.out.2
        go_wp2_with fail
        refine (sum_any w3 Ab 3 cb2 w3.heap.size (fx 1 1 ++ fx 2 16384) (Rd.of_own H3.out.2) (Nat.le_refl _) HC.out.2.2 (by omega)).mono ?_
        obtain ⟨q, hq⟩ : ∃ q, Crc.more 0 (fx 1 1 ++ fx 2 16384) = q := ⟨_, rfl⟩
        have HQ : Hd (Crc.more 0 (fx 1 1 ++ fx 2 16384) = q ∧ q < 4294967296) := ⟨hq, by rw [← hq]; exact Crc.more_lt _ _⟩
        rw [hq]; clear hq
        rintro e w4 ⟨rfl, hb4⟩
        have H4 : Hd (FS w w4 gs u3 ys (Crc.more S (rest.take (16384))) ∧ w4.ownsRow (gs + 1) 5 1 (.slice Ab 3 cb2) 3 (cb (fx 1 1 ++ fx 2 16384))) := ⟨H3.out.1.step hb4, own_below' H3.out.2 hb4⟩
        clear hb4 H3
        go_wp2_with fail
        refine (put_uint32 w4 Ab 3 cb2 w4.heap.size q (fx 1 1 ++ fx 2 16384) (Rd.of_own H4.out.2) HQ.out.2 (by omega) (Nat.le_refl _)).mono ?_
        rintro e w5 ⟨v5, rfl, hO⟩
        obtain ⟨Ac, cc, rfl, _, _⟩ := own_form hO.own
        have H5 : Hd (FS w w5 gs u3 ys (Crc.more S (rest.take (16384))) ∧ Rd w5 w5.heap.size Ac 7 (cb (fx 1 1 ++ fx 2 16384 ++ fx 4 q))) := ⟨H4.out.1.step (hO.below (fun k h => by cases h) (Nat.le_refl _)), Rd.of_own hO.own⟩
        clear hO H4
        obtain ⟨z1, hz1⟩ : ∃ z1, fx 1 1 ++ fx 2 16384 ++ fx 4 q = z1 := ⟨_, rfl⟩
        have HZ1 : Hd (fx 1 1 ++ fx 2 16384 ++ fx 4 q = z1 ∧ z1.length = 7) := ⟨hz1, by rw [← hz1]; simp [fx_len]⟩
        rw [hz1] at H5; clear hz1
        have l1 : Hd (M + 7 ≤ maxLen ∧ (M + 7) * 1 ≤ 140737488355328 ∧ M + 7 + 16384 ≤ maxLen ∧ (M + 7 + 16384) * 1 ≤ 140737488355328 ∧ M + 7 + 16384 + 4 ≤ maxLen ∧ (M + 7 + 16384 + 4) * 1 ≤ 140737488355328) := ⟨form_lens M 16384 n m h8 hn hp1⟩
        have HM : Hd (ys.length = M) := ⟨hM⟩
        go_wp2_with (at_builtin; first
          | (
            refine wpList_app elB rfl (.tmp 27) (.tmp 31) rfl (gs + 1) u3 M (cb ys) rfl (by rw [← HM.out]; exact H5.out.1.own) w5.heap.size Ac 7 cc (cb z1) rfl H5.out.2 (cb_one z1) l1.out.1 l1.out.2.1 H5.out.1.lt ?_
            intro v6 w6 hO
            have H6 : Hd (FS w w6 gs v6 (ys ++ z1) (Crc.more S (rest.take (16384))) ∧ (ys ++ z1).length = M + 7) := ⟨H5.out.1.push (by rw [HM.out, HZ1.out.2]; exact hO), by rw [List.length_append, HM.out, HZ1.out.2]⟩
            clear hO H5)
          | (
            refine wpList_app elB rfl (.tmp 33) (.tmp 36) rfl (gs + 1) v6 (M + 7) (cb (ys ++ z1)) rfl (by rw [← H6.out.2]; exact H6.out.1.own) gs A1 (16384) c1 (cb (rest.take (16384))) rfl (HT.out.1.below H6.out.1.bel) (cb_one _) l1.out.2.2.1 l1.out.2.2.2.1 H6.out.1.lt ?_
            intro v7 w7 hO
            have H7 : Hd (FS w w7 gs v7 (ys ++ z1 ++ rest.take (16384)) (Crc.more S (rest.take (16384))) ∧ (ys ++ z1 ++ rest.take (16384)).length = M + 7 + 16384) := ⟨H6.out.1.push (by rw [H6.out.2, HT.out.2.2]; exact hO), by rw [List.length_append, H6.out.2, HT.out.2.2]⟩
            clear hO H6))
        obtain ⟨xs7, C7, hs7⟩ := H7.out.1.st
        refine (ssum_any w7 gs 0 54 _ C7 xs7 hs7).mono ?_
        obtain ⟨S2, hS2⟩ : ∃ S2, Crc.more S (rest.take (16384)) = S2 := ⟨_, rfl⟩
        have HS2 : Hd (Crc.more S (rest.take (16384)) = S2 ∧ S2 < 4294967296) := ⟨hS2, by rw [← hS2]; exact Crc.more_lt _ _⟩
        rw [hS2] at H7 ⊢; clear hS2 hs7
        rintro e w8 ⟨rfl, rfl⟩
        go_wp2_with fail
        refine (put_uint32 w7 none 0 0 w7.heap.size S2 [] Rd.nil HS2.out.2 (by omega) (Nat.le_refl _)).mono ?_
        rintro e w8 ⟨v8, rfl, hO⟩
        rw [List.nil_append] at hO
        obtain ⟨Ad, cd, rfl, _, _⟩ := own_form hO.own
        have H8 : Hd (FS w w8 gs v7 (ys ++ z1 ++ rest.take (16384)) S2 ∧ Rd w8 w8.heap.size Ad 4 (cb (fx 4 S2)) ∧ (ys ++ z1 ++ rest.take (16384)).length = M + 7 + 16384) := ⟨H7.out.1.step (hO.below (fun k h => by cases h) (Nat.le_refl _)), Rd.of_own hO.own, H7.out.2⟩
        clear hO H7
        go_wp2_with (
          refine wpList_app elB rfl (.tmp 38) (.tmp 40) rfl (gs + 1) v7 (M + 7 + 16384) (cb (ys ++ z1 ++ rest.take (16384))) rfl (by rw [← H8.out.2.2]; exact H8.out.1.own) w8.heap.size Ad 4 cd (cb (fx 4 S2)) rfl H8.out.2.1 (cb_one _) l1.out.2.2.2.2.1 l1.out.2.2.2.2.2 H8.out.1.lt ?_
          intro v9 w9 hO
          have H9 : Hd (FS w w9 gs v9 (ys ++ z1 ++ rest.take (16384) ++ fx 4 S2) S2) := ⟨H8.out.1.push (by rw [H8.out.2.2, fx_len]; exact hO)⟩
          clear hO H8)
        go_roundw
        case rel =>
          exact form_rel (p := 16384) (k := 1) (by rw [if_neg hl]) HPE.out rfl hm HM.out HI.out HQ.out.1 HZ1.out.1 HS2.out.1 HS2.out.2 H9.out
        case measure => exact Nat.sub_lt hm hp0
    · have hm0 : m = 0 := by omega
      subst hm0
      go_wp2_with fail
      go_ret
      have hr0 : rest = [] := List.eq_nil_of_length_eq_zero HI.out.2.2.2.2.2.1
      have e4 := HI.out.2.2.1
      rw [hr0, fmF_nil, List.append_nil] at e4
      rw [← e4, HG.out]
      have hF := HF.out
      refine ⟨u3, rfl, own_base hF.own (Nat.le_succ _), ⟨hF.bel.os, hF.bel.tape, hF.bel.output, hF.bel.size, fun k hk _ => hF.bel.block k (by have := HG.out; omega)⟩, fun k hk => .inr ?_⟩
      have := (hF.own.lt k hk).1
      have := HG.out
      omega
end Go.Proofs.Ytbcmjjcbjojakaa
