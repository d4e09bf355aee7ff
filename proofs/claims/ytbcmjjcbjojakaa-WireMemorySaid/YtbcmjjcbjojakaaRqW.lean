/- Contract of wire.request. (tools/rqwgen.py prints it.) -/
import Derived.Test.YtbcmjjcbjojakaaPk7
import Derived.Test.YtbcmjjcbjojakaaAskW
import Derived.Deep.Cut
import Derived.Deep.Light
namespace Go.Proofs.Ytbcmjjcbjojakaa
open Go.RowKit
set_option linter.unusedVariables false
set_option linter.unusedSimpArgs false
def rq0 : Array Value := #[.int .i64 0, .int .u64 0, .string emS, .string emS, .int .i64 0, .int .i64 0, .int .i64 0, .slice none 0 0]
def rqX (k tag : Nat) (l3 l5 : List Nat) (v6 v8 v7 : Nat) (l4 : List Nat) : Rq := ⟨(k : Int), tag, bstr l3, bstr l5, unz (v6 : Int), unz (v8 : Int), unz (v7 : Int), l4⟩
theorem nil_ok (w : World) (base : Nat) (k tag : Nat) (l3 l5 : List Nat) (v6 v8 v7 : Nat) : (rqW (rqX k tag l3 l5 v6 v8 v7 []) (.slice none 0 0)).ok w base := fun r hr => by
 rw [List.mem_singleton.1 hr]; exact World.ownsRow_nil _ _ _ _
theorem bod_ok {w : World} {base : Nat} {k tag : Nat} {l3 l5 : List Nat} {v6 v8 v7 : Nat} {vb : Value} {l : List Nat} (h : w.ownsRow base 5 1 vb l.length (cb l)) : (rqW (rqX k tag l3 l5 v6 v8 v7 l) vb).ok w base := fun r hr => by
 rw [List.mem_singleton.1 hr]; simp only [cb_length]; exact h
set_option maxRecDepth 20000 in
set_option maxHeartbeats 8000000 in
theorem request_any (w : World) (gr n c : Nat) (A : Option Addr) (bs : List Nat) (R : Rr w gr A n c 0 0 bs) :
  Calls Try.prog 115 #[.pointer (some ⟨gr, 0, none⟩)] w (MsgPost Rq rdRq rqIs 8 w gr bs) := by
 have HR := Hd.mk R
 have hlt := R.lt
 obtain ⟨gx, hgx⟩ : ∃ gx, w.heap.size = gx := ⟨_, rfl⟩
 obtain ⟨w0, hw0⟩ : ∃ W, w.alloc (.cells #[.int .i64 0, .int .u64 0, .string emS, .string emS, .int .i64 0, .int .i64 0, .int .i64 0, .slice none 0 0] 28) = W := ⟨_, rfl⟩
 have H0 : Hd (Rr w0 gr A n c (0, 0).1 (0, 0).2 bs ∧ w0.heap[gx]? = some (.cells rq0 28) ∧ Chg [gr] w w0 ∧ gr < gx ∧ gx < w0.heap.size) := ⟨by rw [← hw0]; exact R.keep ((Chg.refl [] w).alloc _) (by simp) (by simp), by rw [← hw0, ← hgx]; exact heap_alloc_new w _, by rw [← hw0]; exact (Chg.refl _ w).alloc _, by omega, by rw [← hw0]; simp; omega⟩
 have HG := Hd.mk hgx
 clear R hlt hgx
 go_enter Try.func115, Try.ntmps115
 go_upto_region 1 with fail
 have hz : (⟨#[]⟩ : ByteArray) = emS := rfl
 try rw [hz]
 rw [hw0, HG.out]
 clear hw0 hz
 go_wp2_with fail
 refine (cFix1 (s := (0, 0)) H0.out.1).mono ?_
 rintro e w1 ⟨v1, s1, e1, rfl, hv1, hc, hR⟩
 have H1 : Hd (Rr w1 gr A n c s1.1 s1.2 bs ∧ w1.heap[gx]? = some (.cells rq0 28) ∧ Chg [gr] w w1 ∧ gr < gx ∧ gx < w1.heap.size) := ⟨hR, by rw [hc.block gx H0.out.2.2.2.2 (by have := H0.out.2.2.2.1; simp; omega)]; exact H0.out.2.1, H0.out.2.2.1.trans hc, H0.out.2.2.2.1, Nat.lt_of_lt_of_le H0.out.2.2.2.2 hc.size⟩
 have E1 := Hd.mk e1
 clear hc hR e1 H0
 go_wp2_with fail
 refine (cFix8 (s := s1) H1.out.1).mono ?_
 rintro e w2 ⟨v2, s2, e2, rfl, hv2, hc, hR⟩
 have H2 : Hd (Rr w2 gr A n c s2.1 s2.2 bs ∧ w2.heap[gx]? = some (.cells rq0 28) ∧ Chg [gr] w w2 ∧ gr < gx ∧ gx < w2.heap.size) := ⟨hR, by rw [hc.block gx H1.out.2.2.2.2 (by have := H1.out.2.2.2.1; simp; omega)]; exact H1.out.2.1, H1.out.2.2.1.trans hc, H1.out.2.2.2.1, Nat.lt_of_lt_of_le H1.out.2.2.2.2 hc.size⟩
 have E2 := Hd.mk e2
 clear hc hR e2 H1
 go_upto_region 2 with (refine at_store (x := .tmp 4) ?_; refine wpList_boxed rfl 28 (.tmp 4) (.tmp 12) rfl w2.heap.size rfl (rqW (rqX v1 v2 [] [] 0 0 0 []) (.slice none 0 0)).cells.toArray rfl rfl infoRq8 rfl (by simp [rqW, rqX, Value.oneCell']) ?_; intro w3 hB3)
 obtain ⟨gq, hgq⟩ : ∃ gq, w2.heap.size = gq := ⟨_, rfl⟩
 rw [hgq] at hB3 ⊢
 have hc3 : Chg [gr] w2 w3 := ⟨hB3.out.2.1.os, hB3.out.2.1.tape, hB3.out.2.1.output, hB3.out.2.1.size, fun k hk _ => hB3.out.2.1.block k (by omega)⟩
 have H3 : Hd (QS w w3 28 gx gq gr A n c s2 bs rq0 (rqW (rqX v1 v2 [] [] 0 0 0 []) (.slice none 0 0))) := ⟨hB3.out.1, by rw [hc3.block gx H2.out.2.2.2.2 (by have := H2.out.2.2.2.1; simp; omega)]; exact H2.out.2.1, H2.out.1.keep (L := []) ⟨hc3.os, hc3.tape, hc3.output, hc3.size, fun k hk _ => hB3.out.2.1.block k (by omega)⟩ (by simp) (by simp), H2.out.2.2.1.trans hc3, nil_ok _ _ _ _ _ _ _ _ _, by have := HG.out; have := H2.out.2.2.2.1; omega, by have := HG.out; omega, by have := H2.out.2.2.2.2; omega⟩
 clear hB3 hc3 hgq H2
 have c0 := H3.out.at_ 0 rfl
 go_wp2_with fail
 clear c0
 obtain ⟨b1, h1⟩ : ∃ b, cKey (v1 : Int) = b := ⟨_, rfl⟩
 obtain ⟨b2, h2⟩ : ∃ b, cBody (v1 : Int) = b := ⟨_, rfl⟩
 obtain ⟨b3, h3⟩ : ∃ b, cAfter (v1 : Int) = b := ⟨_, rfl⟩
 obtain ⟨b4, h4⟩ : ∃ b, cOff (v1 : Int) = b := ⟨_, rfl⟩
 obtain ⟨b5, h5⟩ : ∃ b, cNum (v1 : Int) = b := ⟨_, rfl⟩
 obtain ⟨b6, h6⟩ : ∃ b, cDelim (v1 : Int) = b := ⟨_, rfl⟩
 obtain ⟨b7, h7⟩ : ∃ b, decide (1 ≤ (v1 : Int) ∧ (v1 : Int) ≤ 8) = b := ⟨_, rfl⟩
 have HK : Hd (cKey (v1 : Int) = b1 ∧ cBody (v1 : Int) = b2 ∧ cAfter (v1 : Int) = b3 ∧ cOff (v1 : Int) = b4 ∧ cNum (v1 : Int) = b5 ∧ cDelim (v1 : Int) = b6 ∧ decide (1 ≤ (v1 : Int) ∧ (v1 : Int) ≤ 8) = b7) := ⟨h1, h2, h3, h4, h5, h6, h7⟩
 clear h1 h2 h3 h4 h5 h6 h7
 refine (counts_to _ (v1 : Int) 0 b1 b2 b3 b4 b5 b6 b7 HK.out).mono ?_
 rintro e w4 ⟨rfl, hb⟩
 have H4 := Hd.mk (H3.out.below ⟨hb.os, hb.tape, hb.output, hb.size, fun k hk _ => hb.block k hk⟩)
 clear hb H3
 go_upto_region 3 with (refine at_store (x := .tmp 5) ?_; refine wpList_boxed rfl 114 (.tmp 5) (.tmp 17) rfl w4.heap.size rfl #[.bool b1, .bool b2, .bool b3, .bool b4, .bool b5, .bool b6] rfl rfl infoC rfl (by simp [Value.oneCell']) ?_; intro w5 hB5)
 obtain ⟨gc, hgc⟩ : ∃ gc, w4.heap.size = gc := ⟨_, rfl⟩
 rw [hgc] at hB5 ⊢
 have H5 : Hd (QS w w5 28 gx gq gr A n c s2 bs rq0 (rqW (rqX v1 v2 [] [] 0 0 0 []) (.slice none 0 0)) ∧ w5.heap[gc]? = some (.cells #[.bool b1, .bool b2, .bool b3, .bool b4, .bool b5, .bool b6] 114) ∧ gq < gc) := ⟨H4.out.below ⟨hB5.out.2.1.os, hB5.out.2.1.tape, hB5.out.2.1.output, hB5.out.2.1.size, fun k hk _ => hB5.out.2.1.block k (by omega)⟩, hB5.out.1, by have := H4.out.lt; omega⟩
 clear hB5 hgc H4
 rcases hb7 : b7 with _ | _
 ·subst hb7
  have HNO : Hd (rdRq bs = none) := ⟨by
   have hk : ¬ (1 ≤ (v1 : Int) ∧ (v1 : Int) ≤ 8) := of_decide_eq_false HK.out.2.2.2.2.2.2
   unfold rdRq
   simp only [E1.out, E2.out]
   rw [if_neg (fun h => hk ⟨h.1, h.2.1⟩)]⟩
  clear HK
  have hrow := H5.out.1.res
  have hch := Hd.mk H5.out.1.ch
  clear H5
  go_wp2_with (refine at_store (x := .tmp 2) ?_; refine wpList_stored rfl 28 (.tmp 2) (.tmp 21) rfl gx rq0 rfl rfl 28 rq0 hrow infoRq8 rfl (by simp [rq0, Value.oneCell']) ?_; intro w6 hB6)
  (try simp only [Exit.inBlock, Exit.then])
  refine bodyPost_ret (results_cell_tmp rfl _ _ gx 28 rq0 (0, 0) _ rfl hB6.out.1 Try.underlying28 rfl infoRq8) rfl ?_
  exact ⟨⟨rq0.toList, []⟩, false, rfl, ⟨hB6.out.2.1.os.trans hch.out.os, hB6.out.2.1.tape.trans hch.out.tape, hB6.out.2.1.output.trans hch.out.output, Nat.le_trans hch.out.size hB6.out.2.1.size, fun k hk hm => (hB6.out.2.1.block k (Nat.lt_of_lt_of_le hk hch.out.size) (by have := HG.out; intro h; injection h; omega)).trans (hch.out.block k hk hm)⟩, rfl, by simp [rq0, Value.oneCell'], .inr ⟨rfl, HNO.out⟩⟩
 subst hb7
 have HYES : Hd (1 ≤ (v1 : Int) ∧ (v1 : Int) ≤ 8) := ⟨of_decide_eq_true HK.out.2.2.2.2.2.2⟩
 have ct0 : ∀ W : World, W.heap[gc]? = some (.cells #[.bool b1, .bool b2, .bool b3, .bool b4, .bool b5, .bool b6] 114) → ∀ i, W.cell? ⟨gc, i, none⟩ = (#[.bool b1, .bool b2, .bool b3, .bool b4, .bool b5, .bool b6] : Array Value)[i]? := fun W h i => cell_of_row W gc i _ _ (0, 0) h
 have HCT := Hd.mk ct0
 clear ct0
 have e0 : w5.cell? ⟨gc, 0, none⟩ = some (.bool b1) := (HCT.out w5 H5.out.2.1 0).trans rfl
 go_upto_if 23 with fail
 go_cut [] from 22 (fun wx => ∃ (l3' : List Nat) (s' : Nat × Int), opt b1 [] (rBlk bs 1024) s2 = (l3', s') ∧ QS w wx 28 gx gq gr A n c s' bs rq0 (rqW (rqX v1 v2 l3' [] 0 0 0 []) (.slice none 0 0)) ∧ wx.heap[gc]? = some (.cells #[.bool b1, .bool b2, .bool b3, .bool b4, .bool b5, .bool b6] 114) ∧ gq < gc)
 case first =>
  clear HYES HK
  rcases hb : b1 with _ | _
  ·subst hb
   go_wp2_with fail
   go_meet
   case rel => exact ⟨[], s2, rfl, H5.out⟩
  ·subst hb
   clear e0
   go_wp2_with fail
   refine (cBlk (s := s2) 1024 (by omega) H5.out.1.rdr).mono ?_
   rintro e wz ⟨lz, sz, vz, cz, ez, rfl, hoz, hc, hR⟩
   have HZ : Hd (QS w wz 28 gx gq gr A n c sz bs rq0 (rqW (rqX v1 v2 [] [] 0 0 0 []) (.slice none 0 0)) ∧ wz.heap[gc]? = some (.cells #[.bool true, .bool b2, .bool b3, .bool b4, .bool b5, .bool b6] 114) ∧ gq < gc) := ⟨H5.out.1.call hc hR, by rw [hc.block gc (Array.getElem?_eq_some_iff.1 H5.out.2.1).1 (by have := H5.out.1.l1; have := H5.out.1.l2; have := H5.out.1.l3; have := H5.out.2.2; simp; omega)]; exact H5.out.2.1, H5.out.2.2⟩
   have EZ := Hd.mk ez
   have hcv : (convert 26 9 (.slice vz lz.length cz)).run Try.prog wz = .ok (.string (bstr lz)) wz := conv_any (Rd.of_own hoz)
   generalize hS : bstr lz = S at hcv
   have HS := Hd.mk hS
   clear hS hoz hc hR ez
   have d0 : wz.cell? ⟨gq, 2, none⟩ = some (.string emS) := HZ.out.1.at_ 2 rfl
   have d1 := HZ.out.1.z 2
   go_wp2_with fail
   go_meet
   case rel =>
    rw [← HS.out]
    exact ⟨lz, sz, EZ.out, HZ.out.1.set (M' := (rqW (rqX v1 v2 lz [] 0 0 0 []) (.slice none 0 0))) 2 (.string (bstr lz)) rfl (fun r hr => HZ.out.1.ok r hr), by rw [Below.heap_setCell _ _ _ _ (by show gc ≠ gq; have := HZ.out.2.2; omega)]; exact HZ.out.2.1, HZ.out.2.2⟩
 case rest =>
  obtain ⟨l3, s3, e3, hQ⟩ := hcut
  have E3 := Hd.mk e3
  have HB3 := Hd.mk hQ
  clear hQ e3 H5 e0
  obtain ⟨W3, hW3⟩ : ∃ W : World, wc = W := ⟨_, rfl⟩
  subst hW3
  have e0 : wc.cell? ⟨gc, 1, none⟩ = some (.bool b2) := (HCT.out wc HB3.out.2.1 1).trans rfl
  go_upto_if 29 with fail
  go_cut [] from 28 (fun wx => ∃ (l4' : List Nat) (s' : Nat × Int) (vb' : Value), opt b2 [] (rBlk bs 1048576) s3 = (l4', s') ∧ QS w wx 28 gx gq gr A n c s' bs rq0 (rqW (rqX v1 v2 l3 [] 0 0 0 l4') vb') ∧ wx.heap[gc]? = some (.cells #[.bool b1, .bool b2, .bool b3, .bool b4, .bool b5, .bool b6] 114) ∧ gq < gc)
  case first =>
   clear HYES HK
   rcases hb : b2 with _ | _
   ·subst hb
    go_wp2_with fail
    go_meet
    case rel => exact ⟨[], s3, (.slice none 0 0), rfl, HB3.out⟩
   ·subst hb
    clear e0
    go_wp2_with fail
    refine (cBlk (s := s3) 1048576 (by omega) HB3.out.1.rdr).mono ?_
    rintro e wz ⟨lz, sz, vz, cz, ez, rfl, hoz, hc, hR⟩
    have HZ : Hd (QS w wz 28 gx gq gr A n c sz bs rq0 (rqW (rqX v1 v2 l3 [] 0 0 0 []) (.slice none 0 0)) ∧ wz.heap[gc]? = some (.cells #[.bool b1, .bool true, .bool b3, .bool b4, .bool b5, .bool b6] 114) ∧ gq < gc) := ⟨HB3.out.1.call hc hR, by rw [hc.block gc (Array.getElem?_eq_some_iff.1 HB3.out.2.1).1 (by have := HB3.out.1.l1; have := HB3.out.1.l2; have := HB3.out.1.l3; have := HB3.out.2.2; simp; omega)]; exact HB3.out.2.1, HB3.out.2.2⟩
    have EZ := Hd.mk ez
    have HOZ := Hd.mk (own_base hoz (base' := gq + 1) HB3.out.1.lt)
    clear hoz hc hR ez
    have d0 : wz.cell? ⟨gq, 7, none⟩ = some (.slice none 0 0) := HZ.out.1.at_ 7 rfl
    have d1 := HZ.out.1.z 7
    go_wp2_with fail
    go_meet
    case rel =>
     exact ⟨lz, sz, _, EZ.out, HZ.out.1.set (M' := (rqW (rqX v1 v2 l3 [] 0 0 0 lz) (.slice vz lz.length cz))) 7 (.slice vz lz.length cz) rfl (bod_ok HOZ.out), by rw [Below.heap_setCell _ _ _ _ (by show gc ≠ gq; have := HZ.out.2.2; omega)]; exact HZ.out.2.1, HZ.out.2.2⟩
  case rest =>
   obtain ⟨l4, s4, vb, e4, hQ⟩ := hcut
   have E4 := Hd.mk e4
   have HB4 := Hd.mk hQ
   clear hQ e4 HB3 e0
   obtain ⟨W4, hW4⟩ : ∃ W : World, wc = W := ⟨_, rfl⟩
   subst hW4
   have e0 : wc.cell? ⟨gc, 2, none⟩ = some (.bool b3) := (HCT.out wc HB4.out.2.1 2).trans rfl
   go_upto_if 34 with fail
   go_cut [] from 33 (fun wx => ∃ (l5' : List Nat) (s' : Nat × Int), opt b3 [] (rBlk bs 1024) s4 = (l5', s') ∧ QS w wx 28 gx gq gr A n c s' bs rq0 (rqW (rqX v1 v2 l3 l5' 0 0 0 l4) vb) ∧ wx.heap[gc]? = some (.cells #[.bool b1, .bool b2, .bool b3, .bool b4, .bool b5, .bool b6] 114) ∧ gq < gc)
   case first =>
    clear HYES HK
    rcases hb : b3 with _ | _
    ·subst hb
     go_wp2_with fail
     go_meet
     case rel => exact ⟨[], s4, rfl, HB4.out⟩
    ·subst hb
     clear e0
     go_wp2_with fail
     refine (cBlk (s := s4) 1024 (by omega) HB4.out.1.rdr).mono ?_
     rintro e wz ⟨lz, sz, vz, cz, ez, rfl, hoz, hc, hR⟩
     have HZ : Hd (QS w wz 28 gx gq gr A n c sz bs rq0 (rqW (rqX v1 v2 l3 [] 0 0 0 l4) vb) ∧ wz.heap[gc]? = some (.cells #[.bool b1, .bool b2, .bool true, .bool b4, .bool b5, .bool b6] 114) ∧ gq < gc) := ⟨HB4.out.1.call hc hR, by rw [hc.block gc (Array.getElem?_eq_some_iff.1 HB4.out.2.1).1 (by have := HB4.out.1.l1; have := HB4.out.1.l2; have := HB4.out.1.l3; have := HB4.out.2.2; simp; omega)]; exact HB4.out.2.1, HB4.out.2.2⟩
     have EZ := Hd.mk ez
     have hcv : (convert 26 9 (.slice vz lz.length cz)).run Try.prog wz = .ok (.string (bstr lz)) wz := conv_any (Rd.of_own hoz)
     generalize hS : bstr lz = S at hcv
     have HS := Hd.mk hS
     clear hS hoz hc hR ez
     have d0 : wz.cell? ⟨gq, 3, none⟩ = some (.string emS) := HZ.out.1.at_ 3 rfl
     have d1 := HZ.out.1.z 3
     go_wp2_with fail
     go_meet
     case rel =>
      rw [← HS.out]
      exact ⟨lz, sz, EZ.out, HZ.out.1.set (M' := (rqW (rqX v1 v2 l3 lz 0 0 0 l4) vb)) 3 (.string (bstr lz)) rfl (fun r hr => HZ.out.1.ok r hr), by rw [Below.heap_setCell _ _ _ _ (by show gc ≠ gq; have := HZ.out.2.2; omega)]; exact HZ.out.2.1, HZ.out.2.2⟩
   case rest =>
    obtain ⟨l5, s5, e5, hQ⟩ := hcut
    have E5 := Hd.mk e5
    have HB5 := Hd.mk hQ
    clear hQ e5 HB4 e0
    obtain ⟨W5, hW5⟩ : ∃ W : World, wc = W := ⟨_, rfl⟩
    subst hW5
    have e0 : wc.cell? ⟨gc, 3, none⟩ = some (.bool b4) := (HCT.out wc HB5.out.2.1 3).trans rfl
    go_upto_if 40 with fail
    go_cut [] from 39 (fun wx => ∃ (v6' : Nat) (s' : Nat × Int), opt b4 0 (rNum bs) s5 = (v6', s') ∧ QS w wx 28 gx gq gr A n c s' bs rq0 (rqW (rqX v1 v2 l3 l5 v6' 0 0 l4) vb) ∧ wx.heap[gc]? = some (.cells #[.bool b1, .bool b2, .bool b3, .bool b4, .bool b5, .bool b6] 114) ∧ gq < gc)
    case first =>
     clear HYES HK
     rcases hb : b4 with _ | _
     ·subst hb
      go_wp2_with fail
      go_meet
      case rel => exact ⟨0, s5, rfl, HB5.out⟩
     ·subst hb
      clear e0
      go_wp2_with fail
      refine (cNumV (s := s5) HB5.out.1.rdr).mono ?_
      rintro e wz ⟨vz, sz, ez, rfl, hzb, hc, hR⟩
      have HZ : Hd (QS w wz 28 gx gq gr A n c sz bs rq0 (rqW (rqX v1 v2 l3 l5 0 0 0 l4) vb) ∧ wz.heap[gc]? = some (.cells #[.bool b1, .bool b2, .bool b3, .bool true, .bool b5, .bool b6] 114) ∧ gq < gc) := ⟨HB5.out.1.call hc hR, by rw [hc.block gc (Array.getElem?_eq_some_iff.1 HB5.out.2.1).1 (by have := HB5.out.1.l1; have := HB5.out.1.l2; have := HB5.out.1.l3; have := HB5.out.2.2; simp; omega)]; exact HB5.out.2.1, HB5.out.2.2⟩
      have EZ := Hd.mk ez
      obtain ⟨u, hu⟩ : ∃ u, unz (vz : Int) = u := ⟨_, rfl⟩
      rw [hu] at hzb ⊢
      have HU := Hd.mk hu
      clear hu hc hR ez
      have d0 : wz.cell? ⟨gq, 4, none⟩ = some (.int .i64 0) := HZ.out.1.at_ 4 rfl
      have d1 := HZ.out.1.z 4
      go_wp2_with fail
      go_meet
      case rel =>
       rw [← HU.out]
       exact ⟨vz, sz, EZ.out, HZ.out.1.set (M' := (rqW (rqX v1 v2 l3 l5 vz 0 0 l4) vb)) 4 (.int .i64 (unz (vz : Int))) rfl (fun r hr => HZ.out.1.ok r hr), by rw [Below.heap_setCell _ _ _ _ (by show gc ≠ gq; have := HZ.out.2.2; omega)]; exact HZ.out.2.1, HZ.out.2.2⟩
    case rest =>
     obtain ⟨v6, s6, e6, hQ⟩ := hcut
     have E6 := Hd.mk e6
     have HB6 := Hd.mk hQ
     clear hQ e6 HB5 e0
     obtain ⟨W6, hW6⟩ : ∃ W : World, wc = W := ⟨_, rfl⟩
     subst hW6
     have e0 : wc.cell? ⟨gc, 5, none⟩ = some (.bool b6) := (HCT.out wc HB6.out.2.1 5).trans rfl
     go_upto_if 45 with fail
     go_cut [] from 44 (fun wx => ∃ (v7' : Nat) (s' : Nat × Int), opt b6 0 (rNum bs) s6 = (v7', s') ∧ QS w wx 28 gx gq gr A n c s' bs rq0 (rqW (rqX v1 v2 l3 l5 v6 0 v7' l4) vb) ∧ wx.heap[gc]? = some (.cells #[.bool b1, .bool b2, .bool b3, .bool b4, .bool b5, .bool b6] 114) ∧ gq < gc)
     case first =>
      clear HYES HK
      rcases hb : b6 with _ | _
      ·subst hb
       go_wp2_with fail
       go_meet
       case rel => exact ⟨0, s6, rfl, HB6.out⟩
      ·subst hb
       clear e0
       go_wp2_with fail
       refine (cNumV (s := s6) HB6.out.1.rdr).mono ?_
       rintro e wz ⟨vz, sz, ez, rfl, hzb, hc, hR⟩
       have HZ : Hd (QS w wz 28 gx gq gr A n c sz bs rq0 (rqW (rqX v1 v2 l3 l5 v6 0 0 l4) vb) ∧ wz.heap[gc]? = some (.cells #[.bool b1, .bool b2, .bool b3, .bool b4, .bool b5, .bool true] 114) ∧ gq < gc) := ⟨HB6.out.1.call hc hR, by rw [hc.block gc (Array.getElem?_eq_some_iff.1 HB6.out.2.1).1 (by have := HB6.out.1.l1; have := HB6.out.1.l2; have := HB6.out.1.l3; have := HB6.out.2.2; simp; omega)]; exact HB6.out.2.1, HB6.out.2.2⟩
       have EZ := Hd.mk ez
       obtain ⟨u, hu⟩ : ∃ u, unz (vz : Int) = u := ⟨_, rfl⟩
       rw [hu] at hzb ⊢
       have HU := Hd.mk hu
       clear hu hc hR ez
       have d0 : wz.cell? ⟨gq, 6, none⟩ = some (.int .i64 0) := HZ.out.1.at_ 6 rfl
       have d1 := HZ.out.1.z 6
       go_wp2_with fail
       go_meet
       case rel =>
        rw [← HU.out]
        exact ⟨vz, sz, EZ.out, HZ.out.1.set (M' := (rqW (rqX v1 v2 l3 l5 v6 0 vz l4) vb)) 6 (.int .i64 (unz (vz : Int))) rfl (fun r hr => HZ.out.1.ok r hr), by rw [Below.heap_setCell _ _ _ _ (by show gc ≠ gq; have := HZ.out.2.2; omega)]; exact HZ.out.2.1, HZ.out.2.2⟩
     case rest =>
      obtain ⟨v7, s7, e7, hQ⟩ := hcut
      have E7 := Hd.mk e7
      have HB7 := Hd.mk hQ
      clear hQ e7 HB6 e0
      obtain ⟨W7, hW7⟩ : ∃ W : World, wc = W := ⟨_, rfl⟩
      subst hW7
      have e0 : wc.cell? ⟨gc, 4, none⟩ = some (.bool b5) := (HCT.out wc HB7.out.2.1 4).trans rfl
      go_upto_if 50 with fail
      go_cut [] from 49 (fun wx => ∃ (v8' : Nat) (s' : Nat × Int), opt b5 0 (rNum bs) s7 = (v8', s') ∧ QS w wx 28 gx gq gr A n c s' bs rq0 (rqW (rqX v1 v2 l3 l5 v6 v8' v7 l4) vb) ∧ wx.heap[gc]? = some (.cells #[.bool b1, .bool b2, .bool b3, .bool b4, .bool b5, .bool b6] 114) ∧ gq < gc)
      case first =>
       clear HYES HK
       rcases hb : b5 with _ | _
       ·subst hb
        go_wp2_with fail
        go_meet
        case rel => exact ⟨0, s7, rfl, HB7.out⟩
       ·subst hb
        clear e0
        go_wp2_with fail
        refine (cNumV (s := s7) HB7.out.1.rdr).mono ?_
        rintro e wz ⟨vz, sz, ez, rfl, hzb, hc, hR⟩
        have HZ : Hd (QS w wz 28 gx gq gr A n c sz bs rq0 (rqW (rqX v1 v2 l3 l5 v6 0 v7 l4) vb) ∧ wz.heap[gc]? = some (.cells #[.bool b1, .bool b2, .bool b3, .bool b4, .bool true, .bool b6] 114) ∧ gq < gc) := ⟨HB7.out.1.call hc hR, by rw [hc.block gc (Array.getElem?_eq_some_iff.1 HB7.out.2.1).1 (by have := HB7.out.1.l1; have := HB7.out.1.l2; have := HB7.out.1.l3; have := HB7.out.2.2; simp; omega)]; exact HB7.out.2.1, HB7.out.2.2⟩
        have EZ := Hd.mk ez
        obtain ⟨u, hu⟩ : ∃ u, unz (vz : Int) = u := ⟨_, rfl⟩
        rw [hu] at hzb ⊢
        have HU := Hd.mk hu
        clear hu hc hR ez
        have d0 : wz.cell? ⟨gq, 5, none⟩ = some (.int .i64 0) := HZ.out.1.at_ 5 rfl
        have d1 := HZ.out.1.z 5
        go_wp2_with fail
        go_meet
        case rel =>
         rw [← HU.out]
         exact ⟨vz, sz, EZ.out, HZ.out.1.set (M' := (rqW (rqX v1 v2 l3 l5 v6 vz v7 l4) vb)) 5 (.int .i64 (unz (vz : Int))) rfl (fun r hr => HZ.out.1.ok r hr), by rw [Below.heap_setCell _ _ _ _ (by show gc ≠ gq; have := HZ.out.2.2; omega)]; exact HZ.out.2.1, HZ.out.2.2⟩
      case rest =>
       obtain ⟨v8, s8, e8, hQ⟩ := hcut
       have E8 := Hd.mk e8
       have HB8 := Hd.mk hQ
       clear hQ e8 HB7 e0
       obtain ⟨W8, hW8⟩ : ∃ W : World, wc = W := ⟨_, rfl⟩
       subst hW8
       go_upto_region 17 with fail
       have HW := Hd.mk HB8.out.1
       clear HB8
       obtain ⟨M, hM⟩ : ∃ M, (rqW (rqX v1 v2 l3 l5 v6 v8 v7 l4) vb) = M := ⟨_, rfl⟩
       have HM1 : Hd (M.cells.length = 8 ∧ M.cells.toArray.all (·.oneCell') = true) := ⟨by rw [← hM]; exact rqW_one HW.out.ok⟩
       have HMI : Hd (rqIs M (rqX v1 v2 l3 l5 v6 v8 v7 l4)) := ⟨vb, hM.symm⟩
       rw [hM] at HW
       clear hM
       obtain ⟨fe, hfe⟩ : ∃ f, endF n s8.1 s8.2 = f := ⟨_, rfl⟩
       have HFE := Hd.mk hfe
       have hn : bs.length = n := HW.out.rdr.len
       have HRD : Hd (rdRq bs = if fe = 0 then some (rqX v1 v2 l3 l5 v6 v8 v7 l4) else none) := ⟨by
        unfold rdRq
        simp only [E1.out, E2.out, HK.out.1, HK.out.2.1, HK.out.2.2.1, HK.out.2.2.2.1, HK.out.2.2.2.2.1, HK.out.2.2.2.2.2.1, E3.out, E4.out, E5.out, E6.out, E7.out, E8.out]
        rw [hn, hfe]
        by_cases h0 : fe = 0
        ·rw [if_pos h0, if_pos ⟨HYES.out.1, HYES.out.2, h0⟩]; rfl
        ·rw [if_neg h0, if_neg (fun h => h0 h.2.2)]⟩
       clear hn HK E1 E2 E3 E4 E5 E6 E7 E8 hfe
       refine wp_region_held_drew (S := fun W => ∃ zs : Array Value, zs.size = 8 ∧ QS w W 28 gx gq gr A n c s8 bs zs M) (by kernel_rfl) ⟨rq0, rfl, HW.out.below (Chg.refl _ _).drew⟩ (fun hHeld => ?_)
       refine wpAnyH_take (i := 0) (oi := ?oiR1) (v := .agg M.cells.toArray) ?hiR1 (by kernel_rfl) (by kernel_rfl) (by kernel_rfl) ?hQR1 ?hyR1 (by assumption) ?restR1
       case hiR1 => simp only [List.getElem?_toArray, List.getElem?_cons_succ, List.getElem?_cons_zero]; rfl
       case hQR1 => exact fun _ _ _ h => h
       case hyR1 => exact yieldsIf_load_mid rfl 28 (.tmp 4) rfl gq 0 rfl M.cells _ (fun W hW => let ⟨_, _, h⟩ := hW; h.range) Try.underlying28 rfl (by rw [infoRq8, HM1.out.1])
       simp only [Act.put, List.setIfInBounds_toArray, List.set_cons_zero, List.set_cons_succ]
       refine wpAnyH_take (i := 1) (oi := ?oi101) (v := ?v101) ?hi101 (by kernel_rfl) (by kernel_rfl) (by kernel_rfl) ?hQ101 (Or.inl ⟨?hw101, ?hy101⟩) (by assumption) ?rest101
       case hi101 => simp only [List.getElem?_toArray, List.getElem?_cons_succ, List.getElem?_cons_zero]; rfl
       case hQ101 => exact fun _ _ _ h => h
       case hw101 => rfl
       case hy101 => (intro W hW; skip; go_simp; all_goals rfl)
       simp only [Act.put, List.setIfInBounds_toArray, List.set_cons_zero, List.set_cons_succ]
       refine wpAnyH_ready (rs := [2]) (by kernel_rfl) (by simp) ?_
       refine AllReadyH.cons (i := 2) (o := ?o102) ?ho102 (fun Kq hK => ?step102) AllReadyH.nil
       case ho102 => simp only [List.getElem?_toArray, List.getElem?_cons_succ, List.getElem?_cons_zero]; rfl
       go_simp
       (obtain ⟨zs, hz8, hQ⟩ := hHeld; go_at_call 130; refine (end_any _ gr n c s8.1 s8.2 A bs hQ.rdr).mono ?_; rw [HFE.out]; rintro e w7 ⟨rfl, hc7⟩)
       have hF : ∃ zs : Array Value, zs.size = 8 ∧ QS w w7 28 gx gq gr A n c s8 bs zs M := ⟨zs, hz8, hQ.below hc7⟩
       refine hK.out _ _ hF (fun _ => ?_)
       clear hK Kq hQ hz8 hc7
       have hHeld := hF
       clear hF
       try simp only [Act.put, List.setIfInBounds_toArray, List.set_cons_zero, List.set_cons_succ]
       refine wpAnyH_take (i := 3) (oi := ?oi103) (v := ?v103) ?hi103 (by kernel_rfl) (by kernel_rfl) (by kernel_rfl) ?hQ103 (Or.inl ⟨?hw103, ?hy103⟩) (by assumption) ?rest103
       case hi103 => simp only [List.getElem?_toArray, List.getElem?_cons_succ, List.getElem?_cons_zero]; rfl
       case hQ103 => exact fun _ _ _ h => h
       case hw103 => rfl
       case hy103 => (intro W hW; skip; go_simp; all_goals rfl)
       simp only [Act.put, List.setIfInBounds_toArray, List.set_cons_zero, List.set_cons_succ]
       refine wpAnyH_ready (rs := [4]) (by kernel_rfl) (by simp) ?_
       refine AllReadyH.cons (i := 4) (o := ?oS) ?hoS (fun Kq hK => ?stepS) AllReadyH.nil
       case hoS => simp only [List.getElem?_toArray, List.getElem?_cons_succ, List.getElem?_cons_zero]; rfl
       obtain ⟨zs, hz8, hQ⟩ := hHeld
       refine step_store rfl 28 (.tmp 2) (.tmp 54) rfl gx M.cells.toArray rfl rfl 28 zs hQ.res (by rw [infoRq8]; simp [HM1.out.1]) (by rw [hz8]; simp [HM1.out.1]) HM1.out.2 ?_
       intro w8 hs8 hg8
       have hF : ∃ zs : Array Value, zs.size = 8 ∧ QS w w8 28 gx gq gr A n c s8 bs zs M := ⟨M.cells.toArray, by simp [HM1.out.1], hQ.stored hs8 hg8⟩
       have HRES : Hd (w8.heap[gx]? = some (.cells M.cells.toArray 28) ∧ QS w w8 28 gx gq gr A n c s8 bs M.cells.toArray M) := ⟨hs8, hQ.stored hs8 hg8⟩
       refine hK.out _ _ hF (fun _ => ?_)
       clear hK Kq hQ hz8 hs8 hg8
       have hHeld := hF
       clear hF
       try simp only [Act.put, List.setIfInBounds_toArray, List.set_cons_zero, List.set_cons_succ]
       refine wpAnyH_take (i := 5) (oi := ?oi201) (v := ?v201) ?hi201 (by kernel_rfl) (by kernel_rfl) (by kernel_rfl) ?hQ201 (Or.inl ⟨?hw201, ?hy201⟩) (by assumption) ?rest201
       case hi201 => simp only [List.getElem?_toArray, List.getElem?_cons_succ, List.getElem?_cons_zero]; rfl
       case hQ201 => exact fun _ _ _ h => h
       case hw201 => rfl
       case hy201 => (intro W hW; skip; go_simp; all_goals rfl)
       simp only [Act.put, List.setIfInBounds_toArray, List.set_cons_zero, List.set_cons_succ]
       refine wpAnyH_done (by kernel_rfl) ?_ _
       clear hHeld
       go_wp2_with fail
       (try simp only [Exit.inBlock, Exit.then])
       refine bodyPost_ret (results_cell_tmp rfl _ _ gx 28 M.cells.toArray (0, 0) _ rfl HRES.out.1 Try.underlying28 rfl (by rw [infoRq8]; simp [HM1.out.1])) rfl ?_
       refine ⟨M, decide (fe = 0), by (first | rfl | (simp [Act.put]; rfl) | skip), HRES.out.2.ch, HM1.out.1, HM1.out.2, ?_⟩
       rw [HRD.out]
       by_cases h0 : fe = 0
       ·exact .inl ⟨_, decide_eq_true h0, if_pos h0, HMI.out, HRES.out.2.ok.lower (by have := HRES.out.2.l2; have := HRES.out.2.l3; omega)⟩
       ·exact .inr ⟨decide_eq_false h0, if_neg h0⟩
end Go.Proofs.Ytbcmjjcbjojakaa
