/- Put together of: MsgP MsgF RdrT RdrY SameRq TellA TellB HeldBy. -/
import Derived.Test.YtbcmjjcbjojakaaPk3
import Derived.Test.YtbcmjjcbjojakaaPk5
import Derived.Deep.CutRange
import Derived.Deep.Light
import Derived.Deep.RegionHeld3
section
namespace Go.Proofs.Ytbcmjjcbjojakaa
open Go.RowKit
set_option linter.unusedVariables false
/-! The steps of a reading: where it stands, and the fault. -/
def rFix (bs : List Nat) (k : Nat) (s : Nat × Int) : Nat × Nat × Int := redo (fixF bs s.1 k) 0 s.1 s.2
def rNum (bs : List Nat) (s : Nat × Int) : Nat × Nat × Int := redo (numF bs s.1) 0 s.1 s.2
def rBlk (bs : List Nat) (most : Int) (s : Nat × Int) : List Nat × Nat × Int := redo (blkF bs s.1 most) [] s.1 s.2
def rTxt (bs : List Nat) (most each : Int) (s : Nat × Int) : List (List Nat) × Nat × Int := redo (textsF bs s.1 most each) [] s.1 s.2
/-- A step that is made or not. -/
def opt {α : Type} (b : Bool) (z : α) (f : Nat × Int → α × Nat × Int) (s : Nat × Int) : α × Nat × Int := if b = true then f s else (z, s)
/-- The request that a content says. -/
def rdRq (bs : List Nat) : Option Rq :=
 let r1 := rFix bs 1 (0, 0)
 let r2 := rFix bs 8 r1.2
 let k : Int := (r1.1 : Int)
 let r3 := opt (cKey k) [] (rBlk bs 1024) r2.2
 let r4 := opt (cBody k) [] (rBlk bs 1048576) r3.2
 let r5 := opt (cAfter k) [] (rBlk bs 1024) r4.2
 let r6 := opt (cOff k) 0 (rNum bs) r5.2
 let r7 := opt (cDelim k) 0 (rNum bs) r6.2
 let r8 := opt (cNum k) 0 (rNum bs) r7.2
 if 1 ≤ k ∧ k ≤ 8 ∧ endF bs.length r8.2.1 r8.2.2 = 0 then some ⟨k, r2.1, bstr r3.1, bstr r5.1, unz (r6.1 : Int), unz (r8.1 : Int), unz (r7.1 : Int), r4.1⟩ else none
def qBody (k c : Int) : Bool := decide (c = 0 ∧ (k = 2 ∨ k = 3))
def qGen (k c : Int) : Bool := decide (c = 0 ∧ k = 4)
def qKeys (k c : Int) : Bool := decide (c = 0 ∧ (k = 6 ∨ k = 7))
def qPage (k c : Int) : Bool := decide (c = 0 ∧ k = 7)
def qMost (k : Int) : Int := if k = 6 then 65536 else 1000
/-- The answer that a content says. -/
def rdAn (bs : List Nat) : Option An :=
 let r1 := rFix bs 1 (0, 0)
 let r2 := rFix bs 8 r1.2
 let r3 := rNum bs r2.2
 let k : Int := (r1.1 : Int)
 let c : Int := (r3.1 : Int)
 let h1 := opt (decide (k = 8)) 0 (rNum bs) r3.2
 let h2 := opt (decide (k = 8)) 0 (rNum bs) h1.2
 let h3 := opt (decide (k = 8)) 0 (rNum bs) h2.2
 let h4 := opt (decide (k = 8)) 0 (rNum bs) h3.2
 let b := opt (qBody k c) [] (rBlk bs 1048576) h4.2
 let g1 := opt (qGen k c) 0 (rNum bs) b.2
 let g2 := opt (qGen k c) 0 (rNum bs) g1.2
 let g3 := opt (qGen k c) 0 (rNum bs) g2.2
 let ks := opt (qKeys k c) [] (rTxt bs (qMost k) 255) g3.2
 let gs := opt (qPage k c) [] (rTxt bs 1000 255) ks.2
 let nx := opt (qPage k c) [] (rBlk bs 255) gs.2
 let mo := opt (qPage k c) 0 (rFix bs 1) nx.2
 if 1 ≤ k ∧ k ≤ 8 ∧ c ≤ 2147483647 ∧ mo.1 ≤ 1 ∧ endF bs.length mo.2.1 mo.2.2 = 0 then
  some ⟨k, r2.1, c, b.1, ks.1.map bstr, gs.1.map bstr, bstr nx.1, decide (mo.1 = 1), unz (g1.1 : Int), unz (g2.1 : Int), unz (g3.1 : Int), unz (h1.1 : Int), unz (h2.1 : Int), unz (h3.1 : Int), unz (h4.1 : Int)⟩
 else none
theorem bstr_sb (s : ByteArray) : bstr (sb s) = s := by
 have h : (bstr (sb s)).data.toList = s.data.toList := by
  rw [bstr_data]; unfold sb; rw [List.map_map]
  conv => rhs; rw [← List.map_id s.data.toList]
  exact List.map_congr_left fun x _ => by simp [Function.comp]
 have h2 := Array.toList_inj.1 h
 obtain ⟨t, ht⟩ : ∃ t, bstr (sb s) = t := ⟨_, rfl⟩
 rw [ht] at h2 ⊢
 cases s
 cases t
 simp only at h2
 rw [h2]
theorem bstr_nil : bstr [] = emS := rfl
theorem us_blk (s : ByteArray) : us s = blk (sb s) := by unfold us blk; rw [sb_len]
/-! What is put is read. -/
section
variable (pre r : List Nat)
theorem rFix_put (k v : Nat) (hv : v < 256 ^ k) : rFix (pre ++ fx k v ++ r) k (pre.length, 0) = (v, (pre ++ fx k v).length, 0) := by
 unfold rFix redo; simp only; rw [fixF_put pre r k v hv, List.length_append]; rfl
theorem rNum_put (v : Nat) (hv : v < 2 ^ 64) : rNum (pre ++ uv v ++ r) (pre.length, 0) = (v, (pre ++ uv v).length, 0) := by
 unfold rNum redo; simp only; rw [numF_put pre r v hv, List.length_append]; rfl
theorem rBlk_put (p : List Nat) (most : Nat) (hp : p.length ≤ most) (h64 : p.length < 2 ^ 64) : rBlk (pre ++ blk p ++ r) (most : Int) (pre.length, 0) = (p, (pre ++ blk p).length, 0) := by
 have e : blkF (pre ++ blk p ++ r) pre.length (most : Int) = blockF (pre ++ blk p ++ r) pre.length most := by unfold blkF; rw [if_neg (by omega), Int.toNat_natCast]
 unfold rBlk redo; simp only; rw [e, blockF_put pre r p most hp h64, List.length_append]; rfl
theorem rTxt_put (ts : List (List Nat)) (most : Int) (h0 : ts.length ≤ most.toNat) (hm : 0 ≤ most) (h : ∀ t ∈ ts, t.length ≤ 255) (h64 : ts.length < 2 ^ 64) : rTxt (pre ++ txts ts ++ r) most 255 (pre.length, 0) = (ts, (pre ++ txts ts).length, 0) := by
 unfold rTxt redo; simp only
 rw [textsF_put pre r ts most 255 h0 hm (by omega) (fun t ht => ⟨h t ht, by have := h t ht; omega⟩) h64, List.length_append]; rfl
end
theorem unz_put (v : Int) (h1 : -9223372036854775808 ≤ v) (h2 : v ≤ 9223372036854775807) : unz (((zig v).toNat : Nat) : Int) = v := by rw [← (zig_nat v h1 h2).1, unz_zig]
theorem endF_0 (n : Nat) : endF n n 0 = 0 := by unfold endF; simp
/-- A reading stands ahead of 'rest'. -/
def At (bs : List Nat) (s : Nat × Int) (rest : List Nat) : Prop := ∃ pre, bs = pre ++ rest ∧ s = (pre.length, 0)
section
variable {bs r : List Nat} {s : Nat × Int}
theorem At.fix {k v : Nat} (h : At bs s (fx k v ++ r)) (hv : v < 256 ^ k) : ∃ s', rFix bs k s = (v, s') ∧ At bs s' r := by
 obtain ⟨pre, hb, rfl⟩ := h
 rw [← List.append_assoc] at hb
 exact ⟨_, by rw [hb]; exact rFix_put pre r k v hv, pre ++ fx k v, hb, rfl⟩
theorem At.num {v : Nat} (h : At bs s (uv v ++ r)) (hv : v < 2 ^ 64) : ∃ s', rNum bs s = (v, s') ∧ At bs s' r := by
 obtain ⟨pre, hb, rfl⟩ := h
 rw [← List.append_assoc] at hb
 exact ⟨_, by rw [hb]; exact rNum_put pre r v hv, pre ++ uv v, hb, rfl⟩
theorem At.blk {p : List Nat} {most : Nat} (h : At bs s (blk p ++ r)) (hp : p.length ≤ most) (h64 : p.length < 2 ^ 64) : ∃ s', rBlk bs (most : Int) s = (p, s') ∧ At bs s' r := by
 obtain ⟨pre, hb, rfl⟩ := h
 rw [← List.append_assoc] at hb
 exact ⟨_, by rw [hb]; exact rBlk_put pre r p most hp h64, pre ++ Go.Proofs.Ytbcmjjcbjojakaa.blk p, hb, rfl⟩
theorem At.txt {ts : List (List Nat)} {most : Int} (h : At bs s (txts ts ++ r)) (h0 : ts.length ≤ most.toNat) (hm : 0 ≤ most) (h1 : ∀ t ∈ ts, t.length ≤ 255) (h64 : ts.length < 2 ^ 64) : ∃ s', rTxt bs most 255 s = (ts, s') ∧ At bs s' r := by
 obtain ⟨pre, hb, rfl⟩ := h
 rw [← List.append_assoc] at hb
 exact ⟨_, by rw [hb]; exact rTxt_put pre r ts most h0 hm h1 h64, pre ++ txts ts, hb, rfl⟩
theorem At.opt {α : Type} {b : Bool} {z v : α} {f : Nat × Int → α × Nat × Int} {enc : List Nat} (h : At bs s ((if b = true then enc else []) ++ r)) (hf : b = true → At bs s (enc ++ r) → ∃ s', f s = (v, s') ∧ At bs s' r) : ∃ s', opt b z f s = (if b = true then v else z, s') ∧ At bs s' r := by
 unfold Go.Proofs.Ytbcmjjcbjojakaa.opt
 cases b
 ·exact ⟨s, by simp, by simpa using h⟩
 ·simp only [if_true] at h ⊢; exact hf rfl h
end
theorem At.z {bs r : List Nat} {s : Nat × Int} {v : Int} (h : At bs s (uz v ++ r)) (h1 : -9223372036854775808 ≤ v) (h2 : v ≤ 9223372036854775807) : ∃ s', rNum bs s = ((zig v).toNat, s') ∧ At bs s' r := At.num h (zig_nat v h1 h2).2
theorem rqC_flat (R : Rq) : rqC R = fx 1 R.kind.toNat ++ (fx 8 R.tag ++ ((if cKey R.kind = true then blk (sb R.key) else []) ++ ((if cBody R.kind = true then blk R.body else []) ++ ((if cAfter R.kind = true then blk (sb R.after) else []) ++ ((if cOff R.kind = true then uz R.off else []) ++ ((if cDelim R.kind = true then uz R.delim else []) ++ (if cNum R.kind = true then uz R.num else []))))))) := by
 unfold rqC
 simp only [List.append_assoc, us_blk]
 rfl
/-- A request's content is read as it was. -/
theorem rdRq_put (R : Rq) (hok : rqOk R) (hfit : rqFit R) (hb : RqB R) : rdRq (rqC R) = some R := by
 obtain ⟨bs, hbs⟩ : ∃ bs, rqC R = bs := ⟨_, rfl⟩
 have hk : ((R.kind.toNat : Nat) : Int) = R.kind := by have := hok.1; omega
 obtain ⟨k1, k8, d1, d2, d3, d4, d5, d6⟩ := hok
 obtain ⟨f1, f2, f3⟩ := hfit
 have h0 : At bs (0, 0) (rqC R) := ⟨[], by rw [hbs]; rfl, rfl⟩
 rw [rqC_flat] at h0
 rw [hbs]
 obtain ⟨s1, e1, h1⟩ := h0.fix (k := 1) (by omega)
 obtain ⟨s2, e2, h2⟩ := h1.fix (k := 8) (by have := hb.tag; omega)
 obtain ⟨s3, e3, h3⟩ := h2.opt (z := []) (f := rBlk bs 1024) fun _ h => h.blk (most := 1024) (by rw [sb_len]; exact f1) (by rw [sb_len]; omega)
 obtain ⟨s4, e4, h4⟩ := h3.opt (z := []) (f := rBlk bs 1048576) fun _ h => h.blk (most := 1048576) f3 (by omega)
 obtain ⟨s5, e5, h5⟩ := h4.opt (z := []) (f := rBlk bs 1024) fun _ h => h.blk (most := 1024) (by rw [sb_len]; exact f2) (by rw [sb_len]; omega)
 obtain ⟨s6, e6, h6⟩ := h5.opt (z := 0) (f := rNum bs) fun _ h => h.z hb.o1 hb.o2
 obtain ⟨s7, e7, h7⟩ := h6.opt (z := 0) (f := rNum bs) fun _ h => h.z hb.d1 hb.d2
 rw [← List.append_nil (if cNum R.kind = true then uz R.num else [])] at h7
 obtain ⟨s8, e8, h8⟩ := h7.opt (z := 0) (f := rNum bs) fun _ h => h.z hb.n1 hb.n2
 obtain ⟨pre, hp, rfl⟩ := h8
 rw [List.append_nil] at hp
 subst hp
 unfold rdRq
 simp only [e1, e2, hk, e3, e4, e5, e6, e7, e8]
 rw [if_pos ⟨k1, k8, endF_0 _⟩]
 have z0 : unz ((0 : Nat) : Int) = 0 := by decide
 have m1 : bstr (if cKey R.kind = true then sb R.key else []) = R.key := by
  split
  ·exact bstr_sb _
  ·rename_i h; rw [bstr_nil, d1 (by simpa using h)]
 have m2 : bstr (if cAfter R.kind = true then sb R.after else []) = R.after := by
  split
  ·exact bstr_sb _
  ·rename_i h; rw [bstr_nil, d3 (by simpa using h)]
 have m3 : unz (((if cOff R.kind = true then (zig R.off).toNat else 0 : Nat) : Nat) : Int) = R.off := by
  split
  ·exact unz_put R.off hb.o1 hb.o2
  ·rename_i h; rw [d4 (by simpa using h)]; exact z0
 have m4 : unz (((if cDelim R.kind = true then (zig R.delim).toNat else 0 : Nat) : Nat) : Int) = R.delim := by
  split
  ·exact unz_put R.delim hb.d1 hb.d2
  ·rename_i h; rw [d6 (by simpa using h)]; exact z0
 have m5 : unz (((if cNum R.kind = true then (zig R.num).toNat else 0 : Nat) : Nat) : Int) = R.num := by
  split
  ·exact unz_put R.num hb.n1 hb.n2
  ·rename_i h; rw [d5 (by simpa using h)]; exact z0
 have m6 : (if cBody R.kind = true then R.body else []) = R.body := by
  split
  ·rfl
  ·rename_i h; rw [d2 (by simpa using h)]
 rw [m1, m2, m3, m4, m5, m6]
end Go.Proofs.Ytbcmjjcbjojakaa
end
section
namespace Go.Proofs.Ytbcmjjcbjojakaa
open Go.RowKit
set_option linter.unusedVariables false
section
variable {bs : List Nat}
/-- A step of a reading that went well: what stands there is 'enc'. -/
structure Step (bs : List Nat) (s s' : Nat × Int) (enc : List Nat) : Prop where
 f : s.2 = 0
 le : s.1 ≤ bs.length → s'.1 ≤ bs.length
 cut : bs.take s'.1 = bs.take s.1 ++ enc
variable (hb : ∀ y ∈ bs, y < 256)
end
/-! A reading stays within the bytes. -/
section
variable {bs : List Nat} {s : Nat × Int}
end
end Go.Proofs.Ytbcmjjcbjojakaa
end
section
namespace Go.Proofs.Ytbcmjjcbjojakaa
open Go.RowKit
set_option linter.unusedVariables false
set_option maxRecDepth 20000
def KT (k : IntKind) (v : Value) (a : Nat) (_ : World) : Prop := v = .int k (a : Int)
theorem take_len_eq {bs l : List Nat} {at_ k a : Nat} (h : takeF bs at_ k = .ok (l, a)) : l.length = k := by
  unfold takeF at h
  split at h
  · cases h; rw [List.length_take, List.length_drop]; omega
  · cases h
theorem take_lb {bs l : List Nat} {at_ k a : Nat} (hb : ∀ x ∈ bs, x < 256) (h : takeF bs at_ k = .ok (l, a)) : ∀ x ∈ l, x < 256 := by
  unfold takeF at h
  split at h
  · cases h; intro x hx; exact hb x (List.mem_of_mem_drop (List.mem_of_mem_take hx))
  · cases h
theorem le_step (l : List Nat) (k : Nat) (hk : k < l.length) (h8 : k < 8) (hb : ∀ x ∈ l, x < 256) :
    bits .or .u64 ((le256 (l.take k) : Nat) : Int) (IntKind.u64.wrap (((l.getD k 0 : Nat) : Int) * 2 ^ (8 * k))) = ((le256 (l.take (k + 1)) : Nat) : Int) ∧ 0 ≤ ((l.getD k 0 : Nat) : Int) ∧ ((l.getD k 0 : Nat) : Int) ≤ 255 := by
  have hx : l.getD k 0 < 256 := by rw [List.getD_eq_getElem?_getD, List.getElem?_eq_getElem hk]; exact hb _ (List.getElem_mem hk)
  have hl : (l.take k).length = k := by rw [List.length_take]; omega
  have h1 := le256_lt (l.take k) fun y hy => hb y (List.mem_of_mem_take hy)
  rw [hl] at h1
  have hp : (256 : Nat) ^ k = 2 ^ (8 * k) := by rw [Nat.pow_mul]
  have e0 : l.take (k + 1) = l.take k ++ [l.getD k 0] := by rw [List.take_succ_eq_append_getElem hk, List.getD_eq_getElem?_getD, List.getElem?_eq_getElem hk]; rfl
  rw [e0, le256_snoc, hl]
  obtain ⟨x, hxe⟩ : ∃ x, l.getD k 0 = x := ⟨_, rfl⟩
  obtain ⟨v, hve⟩ : ∃ v, le256 (l.take k) = v := ⟨_, rfl⟩
  rw [hxe] at hx ⊢
  rw [hve] at h1 ⊢
  rw [hp] at h1 ⊢
  refine ⟨?_, by omega, by omega⟩
  have e2 : (x : Int) * 2 ^ (8 * k) = ((x * 2 ^ (8 * k) : Nat) : Int) := by push_cast; rfl
  have h56 : 2 ^ (8 * k) * 256 ≤ 18446744073709551616 := by
    rw [show (256 : Nat) = 2 ^ 8 by rfl, ← Nat.pow_add, show (18446744073709551616 : Nat) = 2 ^ 64 by rfl]
    exact Nat.pow_le_pow_right (by omega) (by omega)
  have h2 : x * 2 ^ (8 * k) ≤ 255 * 2 ^ (8 * k) := Nat.mul_le_mul_right _ (by omega)
  obtain ⟨y, hy⟩ : ∃ y, x * 2 ^ (8 * k) = y := ⟨_, rfl⟩
  rw [hy] at h2
  have e3 : IntKind.u64.wrap (y : Int) = (y : Int) := by rw [IntKind.wrap_u64]; omega
  rw [e2, hy, e3, u64_or_nat v y (by omega) (by omega)]
  rw [← hy, Nat.or_comm, ← Nat.shiftLeft_eq, ← Nat.shiftLeft_add_eq_or_of_lt h1, Nat.add_comm]
set_option maxHeartbeats 2000000 in
theorem takeC_uint8 (w : World) (gr pr pv n c at_ : Nat) (A : Option Addr) (bs : List Nat) (R : Rr w gr A n c at_ 0 bs) (C : Caps w gr pr pv) :
    Calls Try.prog 138 #[.pointer (some ⟨pr, 0, none⟩), .pointer (some ⟨pv, 0, none⟩)] w (Clo w gr pv n c A bs (KT .u8) (fixF bs at_ 1)) := by
  have HR : Hd (Rr w gr A n c at_ 0 bs ∧ Caps w gr pr pv) := ⟨R, C⟩
  have k1 := C.hr
  clear R C
  go_enter Try.func138, Try.ntmps138
  have WK : Hd (IntKind.u64.wrap 1 = 1) := ⟨by rw [IntKind.wrap_u64]; rfl⟩
  go_upto_region 1 with fail
  go_cut [2, 8, 9, 10] from 2 to 24 (fun t2 t8 t9 t10 wx => t2 = .int .u64 0 ∧ t9 = .int .i64 1 ∧ t10 = .int .i64 0 ∧ ∃ l a1, takeF bs at_ 1 = .ok (l, a1) ∧ ∃ A1 c1, t8 = .slice A1 1 c1 ∧ Chg [gr] w wx ∧ Rr wx gr A n c a1 0 bs ∧ Rd wx gr A1 1 (cb l))
  case first =>
    go_region_with (first
      | (go_at_call 88; refine (width_uint8 _).mono ?_; rintro e z ⟨rfl, rfl⟩)
      | (go_at_call 139; rw [WK.out]; refine (take_any _ gr n c at_ 1 1 A 0 bs HR.out.1.drew rfl).mono ?_; rintro e w1 ⟨hch, hy, hn⟩
         rcases hnum : takeF bs at_ 1 with ec | ⟨l, a1⟩
         · obtain ⟨he, at', hr⟩ := hn _ hnum
           unfold giveUp at he
           subst he
           exact ⟨rfl, Clo.no (by unfold fixF; rw [hnum]) hch.of_drew hr⟩
         obtain ⟨v, rfl, ⟨A1, c1, rfl, hrd, hc1⟩, hr⟩ := hy _ _ hnum
         rw [take_len_eq hnum] at hrd ⊢))
    all_goals
      go_wp2_with fail
      go_meet
      exact ⟨rfl, rfl, rfl, l, a1, hnum, A1, c1, rfl, hch.of_drew, hr, hrd⟩
  case rest =>
    obtain ⟨rfl, rfl, rfl, l, a1, hnum, A1, c1, rfl, hch, hr, hrd⟩ := hcut
    have H1 : Hd (Chg [gr] w wc ∧ Rr wc gr A n c a1 0 bs ∧ Caps wc gr pr pv ∧ fixF bs at_ 1 = .ok (le256 l, a1) ∧ Rd wc gr A1 1 (cb l) ∧ (∀ x ∈ l, x < 256) ∧ l.length = 1) :=
      ⟨hch, hr, HR.out.2.keep hch, by unfold fixF; rw [hnum], hrd, take_lb HR.out.1.lb hnum, take_len_eq hnum⟩
    clear hch hnum hr hrd
    go_wp2_with fail
    go_loopw [2, 10] (fun u i wr => ∃ k : Nat, k ≤ 1 ∧ i = .int .i64 k ∧ u = .int .u64 ((le256 (l.take k) : Nat) : Int) ∧ wr = wc) (fun _ i _ => 1 - (intOf i).toNat)
    case atStart => exact ⟨0, by omega, rfl, rfl, rfl⟩
    case round =>
      obtain ⟨k, hk, rfl, rfl, rfl⟩ := hrel
      by_cases hlt : k < 1
      · obtain ⟨g, off, u, hA, hg, hxx, hcell⟩ := H1.out.2.2.2.2.1.at_ hlt
        subst hA
        rw [cb_get l k (by rw [H1.out.2.2.2.2.2.2]; exact hlt)] at hxx
        injection hxx with hxx
        rw [← hxx] at hcell
        have HS := Hd.mk (le_step l k (by rw [H1.out.2.2.2.2.2.2]; exact hlt) (by omega) H1.out.2.2.2.2.2.1)
        obtain ⟨X, hX⟩ : ∃ X : Int, ((l.getD k 0 : Nat) : Int) = X := ⟨_, rfl⟩
        obtain ⟨V, hV⟩ : ∃ V : Int, ((le256 (l.take k) : Nat) : Int) = V := ⟨_, rfl⟩
        rw [hX, hV] at HS
        have x1 : 0 ≤ X := HS.out.2.1
        have x2 : X ≤ 255 := HS.out.2.2
        rw [hX] at hcell
        rw [hV]
        clear hX hV hxx
        go_wp2_with fail
        go_roundw
        case rel => exact ⟨k + 1, by omega, by go_num, by rw [← HS.out.1], by first | rfl | trivial⟩
        case measure => simp [intOf]; omega
      · have hk1 : k = 1 := by omega
        subst hk1
        have ht : l.take 1 = l := List.take_of_length_le (by rw [H1.out.2.2.2.2.2.2]; omega)
        rw [ht]
        have hb := le256_lt l H1.out.2.2.2.2.2.1
        rw [H1.out.2.2.2.2.2.2] at hb
        obtain ⟨V, hV⟩ : ∃ V : Int, ((le256 l : Nat) : Int) = V := ⟨_, rfl⟩
        have x1 : 0 ≤ V := by omega
        have x2 : V ≤ 255 := by omega
        have HV := Hd.mk hV
        rw [hV]
        clear hV hb ht
        obtain ⟨u, d1⟩ := H1.out.2.2.1.hv
        have d2 := H1.out.2.2.1.zv
        go_wp2_with fail
        go_end0
        refine Clo.yes (a := le256 l) (at' := a1) H1.out.2.2.2.1 ((H1.out.1.mono (by simp)).setCell (by simp) _) (H1.out.2.1.keep' ((Chg.refl [pv] _).setCell (by simp) _) (by have := HR.out.2.lt; simp; omega)) (World.cell?_setCell_same _ _ _ d1) (by rw [World.frozen?_setCell]; exact d2) (by rw [← HV.out]; rfl)
set_option maxHeartbeats 1000000 in
theorem take_uint8_any (w : World) (gr n c at_ : Nat) (fl : Int) (A : Option Addr) (bs : List Nat) (R : Rr w gr A n c at_ fl bs) :
    Calls Try.prog 126 #[.pointer (some ⟨gr, 0, none⟩)] w (Ans w gr n c A bs (KT .u8) (redo (fixF bs at_ 1) 0 at_ fl)) := by
  have hmf : ∀ (fn : Fn) (first cap : Array Value) (w : World), (Instr.makeFunc fn first cap).run Try.prog w = .ok (.func fn first cap) w := fun _ _ _ _ => rfl
  have HR := Hd.mk R
  clear R
  go_enter Try.func126, Try.ntmps126
  go_wp2_with fail
  have hch : Chg [] w ((w.alloc (.cells #[.pointer (some ⟨gr, 0, none⟩)] 154)).alloc (.cells #[.int .u8 0] 5)) := (((Chg.refl _ _).alloc _).alloc _)
  obtain ⟨W1, hW⟩ : ∃ W1, ((w.alloc (.cells #[.pointer (some ⟨gr, 0, none⟩)] 154)).alloc (.cells #[.int .u8 0] 5)) = W1 := ⟨_, rfl⟩
  have k1 : W1.cell? ⟨(w.heap.size + 1), 0, none⟩ = some (.int .u8 0) := by rw [← hW]; exact cell_new _ _ (by simp)
  have k2 : W1.cell? ⟨w.heap.size, 0, none⟩ = some (.pointer (some ⟨gr, 0, none⟩)) := by rw [← hW, World.cell?_alloc_lt _ _ _ (by simp; try omega)]; exact cell_new _ _ (by simp)
  have k3 : W1.heap.size = w.heap.size + 2 := by rw [← hW]; simp
  have k4 : W1.frozen? ⟨(w.heap.size + 1), 0, none⟩ = false := by rw [← hW]; exact frozen_new _ _ (by simp)
  rw [hW] at hch ⊢
  have HC : Hd (Caps W1 gr w.heap.size (w.heap.size + 1)) := ⟨⟨k2, ⟨_, k1⟩, k4, by have := HR.out.lt; omega⟩⟩
  have H1 : Hd (Chg [] w W1 ∧ Rr W1 gr A n c at_ fl bs ∧ W1.heap.size = w.heap.size + 2) := ⟨hch, HR.out.keep' hch (by simp), k3⟩
  clear hch hW
  refine (reading_all W1 gr (w.heap.size + 1) n c at_ fl A bs H1.out.2.1 (.int .u8 0) k1 k4 (by have := HR.out.lt; omega) (by omega) 138 (fun _ _ => rfl) _ (KT .u8) (fixF bs at_ 1) 0 (fun _ => rfl) ?_).mono ?_
  · intro h0 w2 h2
    have hR := H1.out.2.1.keep' h2 (by simp)
    rw [h0] at hR
    exact takeC_uint8 w2 gr w.heap.size (w.heap.size + 1) n c at_ A bs hR (HC.out.keep (h2.mono (by simp)))
  rintro e w2 ⟨rfl, ha⟩
  have HA := Hd.mk ha
  obtain ⟨v, c1, hk⟩ := ha.cell
  have c2 := ha.froz
  unfold KT at hk
  subst hk
  obtain ⟨X, hX⟩ : ∃ X : Int, ((redo (fixF bs at_ 1) 0 at_ fl).1 : Int) = X := ⟨_, rfl⟩
  have HX := Hd.mk hX
  rw [hX] at c1
  clear ha k1 k2 k3 k4
  clear hX
  go_wp2_with fail
  go_ret
  refine ⟨_, rfl, ?_, ?_, ?_⟩
  · exact Chg.pop (L := [gr]) ((H1.out.1.mono (by simp)).trans HA.out.ch) (by omega)
  · rw [← HX.out]; rfl
  · exact HA.out.rr
set_option maxHeartbeats 2000000 in
theorem takeC_uint64 (w : World) (gr pr pv n c at_ : Nat) (A : Option Addr) (bs : List Nat) (R : Rr w gr A n c at_ 0 bs) (C : Caps w gr pr pv) :
    Calls Try.prog 140 #[.pointer (some ⟨pr, 0, none⟩), .pointer (some ⟨pv, 0, none⟩)] w (Clo w gr pv n c A bs (KT .u64) (fixF bs at_ 8)) := by
  have HR : Hd (Rr w gr A n c at_ 0 bs ∧ Caps w gr pr pv) := ⟨R, C⟩
  have k1 := C.hr
  clear R C
  go_enter Try.func140, Try.ntmps140
  have WK : Hd (IntKind.u64.wrap 8 = 8) := ⟨by rw [IntKind.wrap_u64]; rfl⟩
  go_upto_region 1 with fail
  go_cut [2, 8, 9, 10] from 2 to 23 (fun t2 t8 t9 t10 wx => t2 = .int .u64 0 ∧ t9 = .int .i64 8 ∧ t10 = .int .i64 0 ∧ ∃ l a1, takeF bs at_ 8 = .ok (l, a1) ∧ ∃ A1 c1, t8 = .slice A1 8 c1 ∧ Chg [gr] w wx ∧ Rr wx gr A n c a1 0 bs ∧ Rd wx gr A1 8 (cb l))
  case first =>
    go_region_with (first
      | (go_at_call 87; refine (width_uint64 _).mono ?_; rintro e z ⟨rfl, rfl⟩)
      | (go_at_call 139; rw [WK.out]; refine (take_any _ gr n c at_ 8 8 A 0 bs HR.out.1.drew rfl).mono ?_; rintro e w1 ⟨hch, hy, hn⟩
         rcases hnum : takeF bs at_ 8 with ec | ⟨l, a1⟩
         · obtain ⟨he, at', hr⟩ := hn _ hnum
           unfold giveUp at he
           subst he
           exact ⟨rfl, Clo.no (by unfold fixF; rw [hnum]) hch.of_drew hr⟩
         obtain ⟨v, rfl, ⟨A1, c1, rfl, hrd, hc1⟩, hr⟩ := hy _ _ hnum
         rw [take_len_eq hnum] at hrd ⊢))
    all_goals
      go_wp2_with fail
      go_meet
      exact ⟨rfl, rfl, rfl, l, a1, hnum, A1, c1, rfl, hch.of_drew, hr, hrd⟩
  case rest =>
    obtain ⟨rfl, rfl, rfl, l, a1, hnum, A1, c1, rfl, hch, hr, hrd⟩ := hcut
    have H1 : Hd (Chg [gr] w wc ∧ Rr wc gr A n c a1 0 bs ∧ Caps wc gr pr pv ∧ fixF bs at_ 8 = .ok (le256 l, a1) ∧ Rd wc gr A1 8 (cb l) ∧ (∀ x ∈ l, x < 256) ∧ l.length = 8) :=
      ⟨hch, hr, HR.out.2.keep hch, by unfold fixF; rw [hnum], hrd, take_lb HR.out.1.lb hnum, take_len_eq hnum⟩
    clear hch hnum hr hrd
    go_wp2_with fail
    go_loopw [2, 10] (fun u i wr => ∃ k : Nat, k ≤ 8 ∧ i = .int .i64 k ∧ u = .int .u64 ((le256 (l.take k) : Nat) : Int) ∧ wr = wc) (fun _ i _ => 8 - (intOf i).toNat)
    case atStart => exact ⟨0, by omega, rfl, rfl, rfl⟩
    case round =>
      obtain ⟨k, hk, rfl, rfl, rfl⟩ := hrel
      by_cases hlt : k < 8
      · obtain ⟨g, off, u, hA, hg, hxx, hcell⟩ := H1.out.2.2.2.2.1.at_ hlt
        subst hA
        rw [cb_get l k (by rw [H1.out.2.2.2.2.2.2]; exact hlt)] at hxx
        injection hxx with hxx
        rw [← hxx] at hcell
        have HS := Hd.mk (le_step l k (by rw [H1.out.2.2.2.2.2.2]; exact hlt) (by omega) H1.out.2.2.2.2.2.1)
        obtain ⟨X, hX⟩ : ∃ X : Int, ((l.getD k 0 : Nat) : Int) = X := ⟨_, rfl⟩
        obtain ⟨V, hV⟩ : ∃ V : Int, ((le256 (l.take k) : Nat) : Int) = V := ⟨_, rfl⟩
        rw [hX, hV] at HS
        have x1 : 0 ≤ X := HS.out.2.1
        have x2 : X ≤ 255 := HS.out.2.2
        rw [hX] at hcell
        rw [hV]
        clear hX hV hxx
        go_wp2_with fail
        go_roundw
        case rel => exact ⟨k + 1, by omega, by go_num, by rw [← HS.out.1], by first | rfl | trivial⟩
        case measure => simp [intOf]; omega
      · have hk1 : k = 8 := by omega
        subst hk1
        have ht : l.take 8 = l := List.take_of_length_le (by rw [H1.out.2.2.2.2.2.2]; omega)
        rw [ht]
        have hb := le256_lt l H1.out.2.2.2.2.2.1
        rw [H1.out.2.2.2.2.2.2] at hb
        obtain ⟨V, hV⟩ : ∃ V : Int, ((le256 l : Nat) : Int) = V := ⟨_, rfl⟩
        have x1 : 0 ≤ V := by omega
        have x2 : V ≤ 18446744073709551615 := by omega
        have HV := Hd.mk hV
        rw [hV]
        clear hV hb ht
        obtain ⟨u, d1⟩ := H1.out.2.2.1.hv
        have d2 := H1.out.2.2.1.zv
        go_wp2_with fail
        go_end0
        refine Clo.yes (a := le256 l) (at' := a1) H1.out.2.2.2.1 ((H1.out.1.mono (by simp)).setCell (by simp) _) (H1.out.2.1.keep' ((Chg.refl [pv] _).setCell (by simp) _) (by have := HR.out.2.lt; simp; omega)) (World.cell?_setCell_same _ _ _ d1) (by rw [World.frozen?_setCell]; exact d2) (by rw [← HV.out]; rfl)
set_option maxHeartbeats 1000000 in
theorem take_uint64_any (w : World) (gr n c at_ : Nat) (fl : Int) (A : Option Addr) (bs : List Nat) (R : Rr w gr A n c at_ fl bs) :
    Calls Try.prog 127 #[.pointer (some ⟨gr, 0, none⟩)] w (Ans w gr n c A bs (KT .u64) (redo (fixF bs at_ 8) 0 at_ fl)) := by
  have hmf : ∀ (fn : Fn) (first cap : Array Value) (w : World), (Instr.makeFunc fn first cap).run Try.prog w = .ok (.func fn first cap) w := fun _ _ _ _ => rfl
  have HR := Hd.mk R
  clear R
  go_enter Try.func127, Try.ntmps127
  go_wp2_with fail
  have hch : Chg [] w ((w.alloc (.cells #[.pointer (some ⟨gr, 0, none⟩)] 154)).alloc (.cells #[.int .u64 0] 25)) := (((Chg.refl _ _).alloc _).alloc _)
  obtain ⟨W1, hW⟩ : ∃ W1, ((w.alloc (.cells #[.pointer (some ⟨gr, 0, none⟩)] 154)).alloc (.cells #[.int .u64 0] 25)) = W1 := ⟨_, rfl⟩
  have k1 : W1.cell? ⟨(w.heap.size + 1), 0, none⟩ = some (.int .u64 0) := by rw [← hW]; exact cell_new _ _ (by simp)
  have k2 : W1.cell? ⟨w.heap.size, 0, none⟩ = some (.pointer (some ⟨gr, 0, none⟩)) := by rw [← hW, World.cell?_alloc_lt _ _ _ (by simp; try omega)]; exact cell_new _ _ (by simp)
  have k3 : W1.heap.size = w.heap.size + 2 := by rw [← hW]; simp
  have k4 : W1.frozen? ⟨(w.heap.size + 1), 0, none⟩ = false := by rw [← hW]; exact frozen_new _ _ (by simp)
  rw [hW] at hch ⊢
  have HC : Hd (Caps W1 gr w.heap.size (w.heap.size + 1)) := ⟨⟨k2, ⟨_, k1⟩, k4, by have := HR.out.lt; omega⟩⟩
  have H1 : Hd (Chg [] w W1 ∧ Rr W1 gr A n c at_ fl bs ∧ W1.heap.size = w.heap.size + 2) := ⟨hch, HR.out.keep' hch (by simp), k3⟩
  clear hch hW
  refine (reading_all W1 gr (w.heap.size + 1) n c at_ fl A bs H1.out.2.1 (.int .u64 0) k1 k4 (by have := HR.out.lt; omega) (by omega) 140 (fun _ _ => rfl) _ (KT .u64) (fixF bs at_ 8) 0 (fun _ => rfl) ?_).mono ?_
  · intro h0 w2 h2
    have hR := H1.out.2.1.keep' h2 (by simp)
    rw [h0] at hR
    exact takeC_uint64 w2 gr w.heap.size (w.heap.size + 1) n c at_ A bs hR (HC.out.keep (h2.mono (by simp)))
  rintro e w2 ⟨rfl, ha⟩
  have HA := Hd.mk ha
  obtain ⟨v, c1, hk⟩ := ha.cell
  have c2 := ha.froz
  unfold KT at hk
  subst hk
  obtain ⟨X, hX⟩ : ∃ X : Int, ((redo (fixF bs at_ 8) 0 at_ fl).1 : Int) = X := ⟨_, rfl⟩
  have HX := Hd.mk hX
  rw [hX] at c1
  clear ha k1 k2 k3 k4
  clear hX
  go_wp2_with fail
  go_ret
  refine ⟨_, rfl, ?_, ?_, ?_⟩
  · exact Chg.pop (L := [gr]) ((H1.out.1.mono (by simp)).trans HA.out.ch) (by omega)
  · rw [← HX.out]; rfl
  · exact HA.out.rr
end Go.Proofs.Ytbcmjjcbjojakaa
end
section
namespace Go.Proofs.Ytbcmjjcbjojakaa
open Go.RowKit
set_option linter.unusedVariables false
set_option maxRecDepth 20000
set_option maxHeartbeats 1000000 in
theorem texts_any (w : World) (gr n c at_ : Nat) (fl : Int) (A : Option Addr) (bs : List Nat) (x : Int) (y : Int) (hx : -9223372036854775808 ≤ x ∧ x ≤ 9223372036854775807) (hy : -9223372036854775808 ≤ y ∧ y ≤ 9223372036854775807) (R : Rr w gr A n c at_ fl bs) :
  Calls Try.prog 132 #[.pointer (some ⟨gr, 0, none⟩), .int .i64 x, .int .i64 y] w (Ans w gr n c A bs (KTxt w.heap.size) (redo (textsF bs at_ x y) [] at_ fl)) := by
 have hmf : ∀ (fn : Fn) (first cap : Array Value) (w : World), (Instr.makeFunc fn first cap).run Try.prog w = .ok (.func fn first cap) w := fun _ _ _ _ => rfl
 have HR := Hd.mk R
 clear R
 go_enter Try.func132, Try.ntmps132
 go_wp2_with fail
 have hch : Chg [] w ((((w.alloc (.cells #[.pointer (some ⟨gr, 0, none⟩)] 154)).alloc (.cells #[.int .i64 x] 3)).alloc (.cells #[.int .i64 y] 3)).alloc (.cells #[.slice none 0 0] 37)) := (((((Chg.refl _ _).alloc _).alloc _).alloc _).alloc _)
 obtain ⟨W1, hW⟩ : ∃ W1, ((((w.alloc (.cells #[.pointer (some ⟨gr, 0, none⟩)] 154)).alloc (.cells #[.int .i64 x] 3)).alloc (.cells #[.int .i64 y] 3)).alloc (.cells #[.slice none 0 0] 37)) = W1 := ⟨_, rfl⟩
 have k1 : W1.cell? ⟨(w.heap.size + 3), 0, none⟩ = some (.slice none 0 0) := by rw [← hW]; exact cell_new _ _ (by simp)
 have k2 : W1.cell? ⟨w.heap.size, 0, none⟩ = some (.pointer (some ⟨gr, 0, none⟩)) := by rw [← hW, World.cell?_alloc_lt _ _ _ (by simp; try omega), World.cell?_alloc_lt _ _ _ (by simp; try omega), World.cell?_alloc_lt _ _ _ (by simp; try omega)]; exact cell_new _ _ (by simp)
 have k3 : W1.heap.size = w.heap.size + 4 := by rw [← hW]; simp
 have k4 : W1.frozen? ⟨(w.heap.size + 3), 0, none⟩ = false := by rw [← hW]; exact frozen_new _ _ (by simp)
 have i0 : W1.cell? ⟨w.heap.size + 1, 0, none⟩ = some (.int .i64 x) := by rw [← hW, World.cell?_alloc_lt _ _ _ (by simp; try omega), World.cell?_alloc_lt _ _ _ (by simp; try omega)]; exact cell_new _ _ (by simp)
 have i1 : W1.cell? ⟨w.heap.size + 2, 0, none⟩ = some (.int .i64 y) := by rw [← hW, World.cell?_alloc_lt _ _ _ (by simp; try omega)]; exact cell_new _ _ (by simp)
 rw [hW] at hch ⊢
 have HC : Hd (Caps W1 gr w.heap.size (w.heap.size + 3)) := ⟨⟨k2, ⟨_, k1⟩, k4, by have := HR.out.lt; omega⟩⟩
 have H1 : Hd (Chg [] w W1 ∧ Rr W1 gr A n c at_ fl bs ∧ W1.heap.size = w.heap.size + 4) := ⟨hch, HR.out.keep' hch (by simp), k3⟩
 clear hch hW
 refine (reading_all W1 gr (w.heap.size + 3) n c at_ fl A bs H1.out.2.1 (.slice none 0 0) k1 k4 (by have := HR.out.lt; omega) (by omega) 150 (fun _ _ => rfl) _ (KTxt (w.heap.size + 3 + 1)) (textsF bs at_ x y) [] (fun _ => KTxt.nil _ _) ?_).mono ?_
 ·intro h0 w2 h2
  have hR := H1.out.2.1.keep' h2 (by simp)
  rw [h0] at hR
  exact textsC_any w2 gr w.heap.size (w.heap.size + 3) (w.heap.size + 1) (w.heap.size + 2) n c at_ A bs x y hx hy hR (HC.out.keep (h2.mono (by simp))) ((h2.cell (p := ⟨w.heap.size + 1, 0, none⟩) (by show w.heap.size + 1 < _; omega) (by simp)).trans i0) (by have := HR.out.lt; have := h2.size; omega) ((h2.cell (p := ⟨w.heap.size + 2, 0, none⟩) (by show w.heap.size + 2 < _; omega) (by simp)).trans i1) (by have := HR.out.lt; have := h2.size; omega)
 rintro e w2 ⟨rfl, ha⟩
 have HA := Hd.mk ha
 obtain ⟨v, c1, hk⟩ := ha.cell
 have c2 := ha.froz
 unfold KTxt at hk
 obtain ⟨A2, c3, rfl, _, _⟩ := own_form hk
 have HK := Hd.mk hk
 obtain ⟨L, hL⟩ : ∃ L, (redo (textsF bs at_ x y) [] at_ fl).1.length = L := ⟨_, rfl⟩
 have HL := Hd.mk hL
 rw [hL] at c1
 clear ha k1 k2 k3 k4 i0 i1
 clear hL hk
 go_wp2_with fail
 have c4 := World.cell?_setCell_same (v := .slice A2 L c3) w2 ⟨w.heap.size + 3, 0, none⟩ c1
 refine bodyPost_ret (v := .slice A2 L c3) (by simp [results, Try.results132, go_sem, c4]) rfl ?_
 refine ⟨_, rfl, ?_, ?_, ?_⟩
 ·exact Chg.pop (L := [gr]) (((H1.out.1.mono (by simp)).trans HA.out.ch).setCell (by simp) _) (by omega)
 ·have := HK.out; rw [HL.out] at this; unfold KTxt; rw [HL.out]; exact own_base (ownsRow_setCell_below this (a := ⟨w.heap.size + 3, 0, none⟩) (Nat.lt_succ_self _) _) (by omega)
 ·exact HA.out.rr.keep' ((Chg.refl [w.heap.size + 3] w2).setCell (by simp) _) (by have := HR.out.lt; simp; omega)
end Go.Proofs.Ytbcmjjcbjojakaa
end
section
namespace Go.Proofs.Ytbcmjjcbjojakaa
open Go.RowKit
set_option linter.unusedVariables false
set_option linter.unusedSimpArgs false
theorem str_inj {a b : ByteArray} (h : a.toList = b.toList) : a = b := by
 rw [ByteArray.toList_eq, ByteArray.toList_eq] at h
 have : a.data = b.data := Array.toList_inj.1 h
 cases a; cases b; simp only at this; rw [this]
/-- Are two requests the same? -/
noncomputable def sameB (a b : Rq) : Bool := @decide (a = b) (Classical.propDecidable _)
theorem conv_any {w : World} {B n c : Nat} {A : Option Addr} {bs : List Nat} (h : Rd w B A n (cb bs)) : (convert 26 9 (.slice A n c)).run Try.prog w = .ok (.string (bstr bs)) w := by
 rw [cb_ints] at h
 exact run_conv_str _ _ 5 Try.underlying26 Try.underlying5 infoStr c h
/-- The request with its counting fields alone. -/
def onlyP (R : Rq) : Rq :=
 ⟨R.kind, R.tag, if cKey R.kind = true then R.key else emS, if cAfter R.kind = true then R.after else emS, if cOff R.kind = true then R.off else 0, if cNum R.kind = true then R.num else 0, if cDelim R.kind = true then R.delim else 0, if cBody R.kind = true then R.body else []⟩
/-- What only answers. -/
def OnlyPost (w : World) (k : Int) (tag : Nat) (key after : ByteArray) (off num delim : Int) (A : Option Addr) (n c : Nat) (e : Ending) (w' : World) : Prop :=
 ∃ (key' after' : ByteArray) (off' num' delim' : Int) (A' : Option Addr) (n' c' : Nat), e = .returned (.agg #[.int .i64 k, .int .u64 (tag : Int), .string key', .string after', .int .i64 off', .int .i64 num', .int .i64 delim', .slice A' n' c']) ∧
  key' = (if cKey k = true then key else emS) ∧ after' = (if cAfter k = true then after else emS) ∧ off' = (if cOff k = true then off else 0) ∧ num' = (if cNum k = true then num else 0) ∧ delim' = (if cDelim k = true then delim else 0) ∧
  ((cBody k = true ∧ A' = A ∧ n' = n ∧ c' = c) ∨ (cBody k = false ∧ n' = 0)) ∧ Below w.heap.size w w'
end Go.Proofs.Ytbcmjjcbjojakaa
end
section
namespace Go.Proofs.Ytbcmjjcbjojakaa
open Go.RowKit
set_option linter.unusedVariables false
/-- An answer's value. -/
def anV (kind code : Int) (tag : Nat) (A A2 A3 : Option Addr) (n c n2 c2 n3 c3 : Nat) (next : ByteArray) (more : Bool) (ge gc size h1 h2 h3 h4 : Int) : Value :=
 .agg #[.int .i64 kind, .int .u64 (tag : Int), .int .i64 code, .slice A n c, .slice A2 n2 c2, .slice A3 n3 c3, .string next, .bool more, .int .i64 ge, .int .i64 gc, .int .i64 size, .int .i64 h1, .int .i64 h2, .int .i64 h3, .int .i64 h4]
def emptyP (b g k p h : Bool) (n n2 n3 : Nat) (next : ByteArray) (more : Bool) (ge gc size h1 h2 h3 h4 : Int) : Prop :=
 (b = false → n = 0) ∧ (g = false → ge = 0 ∧ gc = 0 ∧ size = 0) ∧ (k = false → n2 = 0) ∧ (p = false → n3 = 0 ∧ next = emS ∧ more = false) ∧ (h = false → h1 = 0 ∧ h2 = 0 ∧ h3 = 0 ∧ h4 = 0)
set_option maxHeartbeats 4000000 in
theorem empty_any (w : World) (kind code : Int) (tag : Nat) (A A2 A3 : Option Addr) (n c n2 c2 n3 c3 : Nat) (next : ByteArray) (more : Bool) (ge gc size h1 h2 h3 h4 : Int) (b g k p h : Bool) :
  Calls Try.prog 98 #[anV kind code tag A A2 A3 n c n2 c2 n3 c3 next more ge gc size h1 h2 h3 h4, .bool b, .bool g, .bool k, .bool p, .bool h] w fun e w' => (∃ r : Bool, e = .returned (.bool r) ∧ Hd (r = true ↔ emptyP b g k p h n n2 n3 next more ge gc size h1 h2 h3 h4)) ∧ Below w.heap.size w w' := by
 have HA : Hd (∀ o, Below w.heap.size w (w.alloc o)) := ⟨fun o => (Below.refl _ w).alloc (Nat.le_refl _) _⟩
 unfold anV
 go_enter Try.func98, Try.ntmps98
 by_cases hn : next = emS
 ·subst hn
  have e1 : (emS.toList == (⟨#[]⟩ : ByteArray).toList) = true := by decide +kernel
  unfold emS at e1 ⊢
  go_wp2_with fail
  all_goals (go_ret; refine ⟨⟨_, rfl, ⟨?_⟩⟩, HA.out _⟩; unfold emptyP emS; simp_all; try omega)
 ·have e1 : (next.toList == (⟨#[]⟩ : ByteArray).toList) = false := by
   rw [Bool.eq_false_iff]; intro h0; exact hn (str_inj (beq_iff_eq.1 h0))
  go_wp2_with fail
  all_goals (go_ret; refine ⟨⟨_, rfl, ⟨?_⟩⟩, HA.out _⟩; unfold emptyP; simp_all; try omega)
end Go.Proofs.Ytbcmjjcbjojakaa
end
section
namespace Go.Proofs.Ytbcmjjcbjojakaa
open Go.RowKit
set_option linter.unusedVariables false
theorem anOk_of (kind code : Int) (tag : Nat) (body : List Nat) (keys groups : List ByteArray) (next : ByteArray) (more : Bool) (ge gc size h1 h2 h3 h4 : Int) (b g k p h : Bool)
  (hk : 1 ≤ kind ∧ kind ≤ 8) (hc : 0 ≤ code ∧ code ≤ 2147483647) (eb : b = true ↔ code = 0 ∧ (kind = 2 ∨ kind = 3)) (eg : g = true ↔ code = 0 ∧ kind = 4) (ek : k = true ↔ code = 0 ∧ (kind = 6 ∨ kind = 7)) (ep : p = true ↔ code = 0 ∧ kind = 7) (eh : h = true ↔ kind = 8) :
  emptyP b g k p h body.length keys.length groups.length next more ge gc size h1 h2 h3 h4 ↔ anOk ⟨kind, tag, code, body, keys, groups, next, more, ge, gc, size, h1, h2, h3, h4⟩ := by
 have nb : b = false ↔ ¬ (code = 0 ∧ (kind = 2 ∨ kind = 3)) := by rw [← eb]; simp
 have ng : g = false ↔ ¬ (code = 0 ∧ kind = 4) := by rw [← eg]; simp
 have nk : k = false ↔ ¬ (code = 0 ∧ (kind = 6 ∨ kind = 7)) := by rw [← ek]; simp
 have np : p = false ↔ ¬ (code = 0 ∧ kind = 7) := by rw [← ep]; simp
 have nh : h = false ↔ kind ≠ 8 := by rw [show (kind ≠ 8) = ¬ (kind = 8) from rfl, ← eh]; simp
 unfold emptyP anOk tBody tGen tKeys tPage
 rw [nb, ng, nk, np, nh]
 simp only [List.length_eq_zero_iff]
 exact ⟨fun ⟨a1, a2, a3, a4, a5⟩ => ⟨hk.1, hk.2, hc.1, hc.2, a1, a2, a3, a4, a5⟩, fun ⟨_, _, _, _, a1, a2, a3, a4, a5⟩ => ⟨a1, a2, a3, a4, a5⟩⟩
/-- A truth is answered. -/
def BoolPost (p : Prop) (w : World) (e : Ending) (w' : World) : Prop := ∃ r : Bool, e = .returned (.bool r) ∧ (r = true ↔ p) ∧ Below w.heap.size w w'
theorem BoolPost.mk {p : Prop} {w w' : World} {r : Bool} (h : r = true ↔ p) (b : Below w.heap.size w w') : BoolPost p w (.returned (.bool r)) w' := ⟨r, rfl, h, b⟩
set_option maxHeartbeats 4000000 in
theorem mayTell_any (w : World) (kind code : Int) (tag : Nat) (A A2 A3 : Option Addr) (n c n2 c2 n3 c3 : Nat) (body : List Nat) (keys groups : List ByteArray) (next : ByteArray) (more : Bool) (ge gc size h1 h2 h3 h4 : Int) (l1 : body.length = n) (l2 : keys.length = n2) (l3 : groups.length = n3) :
  Calls Try.prog 65 #[anV kind code tag A A2 A3 n c n2 c2 n3 c3 next more ge gc size h1 h2 h3 h4] w (BoolPost (anOk ⟨kind, tag, code, body, keys, groups, next, more, ge, gc, size, h1, h2, h3, h4⟩) w) := by
 have HA : Hd (∀ o, Below w.heap.size w (w.alloc o)) := ⟨fun o => (Below.refl _ w).alloc (Nat.le_refl _) _⟩
 have HO : Hd (∀ (b g k p h : Bool), 1 ≤ kind ∧ kind ≤ 8 → 0 ≤ code ∧ code ≤ 2147483647 → (b = true ↔ code = 0 ∧ (kind = 2 ∨ kind = 3)) → (g = true ↔ code = 0 ∧ kind = 4) → (k = true ↔ code = 0 ∧ (kind = 6 ∨ kind = 7)) → (p = true ↔ code = 0 ∧ kind = 7) → (h = true ↔ kind = 8) → ∀ W,
   Calls Try.prog 98 #[anV kind code tag A A2 A3 n c n2 c2 n3 c3 next more ge gc size h1 h2 h3 h4, .bool b, .bool g, .bool k, .bool p, .bool h] W fun e w' => ∃ r : Bool, e = .returned (.bool r) ∧ Hd ((r = true ↔ anOk ⟨kind, tag, code, body, keys, groups, next, more, ge, gc, size, h1, h2, h3, h4⟩) ∧ Below W.heap.size W w')) := ⟨fun b g k p h a1 a2 a3 a4 a5 a6 a7 W => (empty_any W kind code tag A A2 A3 n c n2 c2 n3 c3 next more ge gc size h1 h2 h3 h4 b g k p h).mono fun e w' ⟨⟨r, he, hr⟩, hb⟩ => ⟨r, he, ⟨by have := anOk_of kind code tag body keys groups next more ge gc size h1 h2 h3 h4 b g k p h a1 a2 a3 a4 a5 a6 a7; rw [l1, l2, l3] at this; exact hr.out.trans this, hb⟩⟩⟩
 have HN : Hd (¬ (1 ≤ kind ∧ kind ≤ 8 ∧ 0 ≤ code ∧ code ≤ 2147483647) → (false = true ↔ anOk ⟨kind, tag, code, body, keys, groups, next, more, ge, gc, size, h1, h2, h3, h4⟩)) := ⟨fun h => ⟨fun e => (by cases e), fun e => absurd ⟨e.1, e.2.1, e.2.2.1, e.2.2.2.1⟩ h⟩⟩
 clear l1 l2 l3
 unfold anV at HO ⊢
 go_enter Try.func65, Try.ntmps65
 by_cases q : 1 ≤ kind ∧ kind ≤ 8 ∧ 0 ≤ code ∧ code ≤ 2147483647
 ·obtain ⟨k1, k2, k3, k4⟩ := q
  clear HN
  have HK := Hd.mk (And.intro (And.intro k1 k2) (And.intro k3 k4))
  by_cases c0 : code = 0
  ·subst c0
   have hn : ∀ j : Int, kind ≠ j → (kind == j) = false := fun j h => beq_eq_false_iff_ne.2 h
   by_cases q2 : kind = 2
   ·subst q2
    clear hn
    go_wp2_with fail
    refine (HO.out _ _ _ _ _ HK.out.1 HK.out.2 (by simp) (by simp) (by simp) (by simp) (by simp) _).mono ?_
    rintro e w2 ⟨r, rfl, H2⟩
    go_wp2_with fail
    go_ret
    exact BoolPost.mk H2.out.1 ((HA.out _).trans (H2.out.2.mono (by simp)))
   by_cases q3 : kind = 3
   ·subst q3
    clear hn
    go_wp2_with fail
    refine (HO.out _ _ _ _ _ HK.out.1 HK.out.2 (by simp) (by simp) (by simp) (by simp) (by simp) _).mono ?_
    rintro e w2 ⟨r, rfl, H2⟩
    go_wp2_with fail
    go_ret
    exact BoolPost.mk H2.out.1 ((HA.out _).trans (H2.out.2.mono (by simp)))
   by_cases q4 : kind = 4
   ·subst q4
    clear hn
    go_wp2_with fail
    refine (HO.out _ _ _ _ _ HK.out.1 HK.out.2 (by simp) (by simp) (by simp) (by simp) (by simp) _).mono ?_
    rintro e w2 ⟨r, rfl, H2⟩
    go_wp2_with fail
    go_ret
    exact BoolPost.mk H2.out.1 ((HA.out _).trans (H2.out.2.mono (by simp)))
   by_cases q6 : kind = 6
   ·subst q6
    clear hn
    go_wp2_with fail
    refine (HO.out _ _ _ _ _ HK.out.1 HK.out.2 (by simp) (by simp) (by simp) (by simp) (by simp) _).mono ?_
    rintro e w2 ⟨r, rfl, H2⟩
    go_wp2_with fail
    go_ret
    exact BoolPost.mk H2.out.1 ((HA.out _).trans (H2.out.2.mono (by simp)))
   by_cases q7 : kind = 7
   ·subst q7
    clear hn
    go_wp2_with fail
    refine (HO.out _ _ _ _ _ HK.out.1 HK.out.2 (by simp) (by simp) (by simp) (by simp) (by simp) _).mono ?_
    rintro e w2 ⟨r, rfl, H2⟩
    go_wp2_with fail
    go_ret
    exact BoolPost.mk H2.out.1 ((HA.out _).trans (H2.out.2.mono (by simp)))
   have b2 := hn 2 q2
   have b3 := hn 3 q3
   have b4 := hn 4 q4
   have b6 := hn 6 q6
   have b7 := hn 7 q7
   have HQ := Hd.mk (And.intro q2 (And.intro q3 (And.intro q4 (And.intro q6 q7))))
   clear hn q2 q3 q4 q6 q7
   go_wp2_with fail
   refine (HO.out _ _ _ _ _ HK.out.1 HK.out.2 (by have := HQ.out; simp; omega) (by have := HQ.out; simp; omega) (by have := HQ.out; simp; omega) (by have := HQ.out; simp; omega) (by simp) _).mono ?_
   rintro e w2 ⟨r, rfl, H2⟩
   go_wp2_with fail
   go_ret
   exact BoolPost.mk H2.out.1 ((HA.out _).trans (H2.out.2.mono (by simp)))
  ·have c1 : (code == 0) = false := beq_eq_false_iff_ne.2 c0
   have HC := Hd.mk c0
   clear c0
   go_wp2_with fail
   refine (HO.out _ _ _ _ _ HK.out.1 HK.out.2 (by have := HC.out; simp [this]) (by have := HC.out; simp [this]) (by have := HC.out; simp [this]) (by have := HC.out; simp [this]) (by simp) _).mono ?_
   rintro e w2 ⟨r, rfl, H2⟩
   go_wp2_with fail
   go_ret
   exact BoolPost.mk H2.out.1 ((HA.out _).trans (H2.out.2.mono (by simp)))
 ·have HF := Hd.mk (HN.out q)
  clear HO HN
  by_cases k1 : kind < 1
  ·go_wp2_with fail; go_ret; exact BoolPost.mk HF.out (HA.out _)
  by_cases k2 : 8 < kind
  ·go_wp2_with fail; go_ret; exact BoolPost.mk HF.out (HA.out _)
  by_cases k3 : code < 0
  ·go_wp2_with fail; go_ret; exact BoolPost.mk HF.out (HA.out _)
  have k4 : 2147483647 < code := by omega
  go_wp2_with fail; go_ret; exact BoolPost.mk HF.out (HA.out _)
end Go.Proofs.Ytbcmjjcbjojakaa
end
section
namespace Go.Proofs.Ytbcmjjcbjojakaa
section
variable {P : Program} {ops : Array Oper} {Q : Exit → Act → World → Prop} {md : Region.Mode} {S T : World → Prop}
end
end Go.Proofs.Ytbcmjjcbjojakaa
end
