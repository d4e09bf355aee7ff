/- The walk of WireMemory: it returns true. (tools/memgen.py prints it.) -/
import Derived.Test.YtbcmjjcbjojakaaMemTail
import Derived.Deep.Cut
import Derived.Deep.CutRange
namespace Go.Proofs.Ytbcmjjcbjojakaa
open Go.RowKit
set_option linter.unusedVariables false
set_option linter.unusedSimpArgs false
set_option maxRecDepth 20000 in
set_option maxHeartbeats 64000000 in
theorem memory_walk (hfl : FitLaw) (w : World) (k : Int) (tag : Nat) (key after : ByteArray) (off num delim : Int) (body : List Nat) (A : Option Addr) (n c : Nat) (hr : Rd w w.heap.size A n (cb body)) (hnc : n ≤ c) (hb : RqB (⟨1, tag, key, after, off, num, delim, body⟩ : Rq)) (hk1 : key.size ≤ maxLen) (hk2 : after.size ≤ maxLen)
  (kind code : Int) (atag : Nat) (bod : List Nat) (keys groups : List ByteArray) (next : ByteArray) (more : Bool) (ge gc size h1 h2 h3 h4 : Int) (A1 A2 A3 : Option Addr) (n1 c1 n2 c2 n3 c3 : Nat) (hr1 : Rd w w.heap.size A1 n1 (cb bod)) (hr2 : Rd w w.heap.size A2 n2 (cs keys)) (hr3 : Rd w w.heap.size A3 n3 (cs groups)) (hnc1 : n1 ≤ c1) (hn2 : n2 ≤ 8796093022000) (hn3 : n3 ≤ 8796093022000)
  (hab : ∀ gr, AnB (⟨7, atag, 0, bod, keys, gr, next, more, ge, gc, size, h1, h2, h3, h4⟩ : An)) (hx : next.size ≤ maxLen) (hs2 : ∀ t ∈ keys, t.size ≤ maxLen) (hs3 : ∀ t ∈ groups, t.size ≤ maxLen) :
  Calls Try.prog 9 #[.agg #[.int .i64 k, .int .u64 (tag : Int), .string key, .string after, .int .i64 off, .int .i64 num, .int .i64 delim, .slice A n c], .agg #[.int .i64 kind, .int .u64 (atag : Int), .int .i64 code, .slice A1 n1 c1, .slice A2 n2 c2, .slice A3 n3 c3, .string next, .bool more, .int .i64 ge, .int .i64 gc, .int .i64 size, .int .i64 h1, .int .i64 h2, .int .i64 h3, .int .i64 h4]] w fun e w' => e = .returned (.bool true) ∧ Below w.heap.size w w' := by
 have HR : Hd (Rd w w.heap.size A n (cb body) ∧ n ≤ c ∧ RqB (⟨1, tag, key, after, off, num, delim, body⟩ : Rq) ∧ key.size ≤ maxLen ∧ after.size ≤ maxLen) := ⟨hr, hnc, hb, hk1, hk2⟩
 have HA : Hd (Rd w w.heap.size A1 n1 (cb bod) ∧ Rd w w.heap.size A2 n2 (cs keys) ∧ Rd w w.heap.size A3 n3 (cs groups) ∧ n1 ≤ c1 ∧ n2 ≤ 8796093022000 ∧ n3 ≤ 8796093022000 ∧ (∀ gr, AnB (⟨7, atag, 0, bod, keys, gr, next, more, ge, gc, size, h1, h2, h3, h4⟩ : An)) ∧ next.size ≤ maxLen ∧ (∀ t ∈ keys, t.size ≤ maxLen) ∧ ∀ t ∈ groups, t.size ≤ maxLen) := ⟨hr1, hr2, hr3, hnc1, hn2, hn3, hab, hx, hs2, hs3⟩
 have HFL := Hd.mk hfl
 clear hfl hr hnc hb hk1 hk2 hr1 hr2 hr3 hnc1 hn2 hn3 hab hx hs2 hs3
 obtain ⟨b2, hb2⟩ : ∃ q, w.heap.size = q := ⟨_, rfl⟩
 obtain ⟨b3, hb3⟩ : ∃ q, b2 + 1 = q := ⟨_, rfl⟩
 obtain ⟨w1, hw1⟩ : ∃ U, (w.alloc (.cells #[.int .i64 k, .int .u64 (tag : Int), .string key, .string after, .int .i64 off, .int .i64 num, .int .i64 delim, .slice A n c] 28)).alloc (.cells #[.int .i64 kind, .int .u64 (atag : Int), .int .i64 code, .slice A1 n1 c1, .slice A2 n2 c2, .slice A3 n3 c3, .string next, .bool more, .int .i64 ge, .int .i64 gc, .int .i64 size, .int .i64 h1, .int .i64 h2, .int .i64 h3, .int .i64 h4] 43) = U := ⟨_, rfl⟩
 have H1 : Hd (Ms w w1 [] ([] ++ [b2] ++ [b3]) ([] ++ [(b2, #[.int .i64 k, .int .u64 (tag : Int), .string key, .string after, .int .i64 off, .int .i64 num, .int .i64 delim, .slice A n c], 28)] ++ [(b3, #[.int .i64 kind, .int .u64 (atag : Int), .int .i64 code, .slice A1 n1 c1, .slice A2 n2 c2, .slice A3 n3 c3, .string next, .bool more, .int .i64 ge, .int .i64 gc, .int .i64 size, .int .i64 h1, .int .i64 h2, .int .i64 h3, .int .i64 h4], 43)])) := ⟨by
  rw [← hw1, ← hb3, ← hb2]
  have s1 := (Ms.start w).box (w' := w.alloc (.cells #[.int .i64 k, .int .u64 (tag : Int), .string key, .string after, .int .i64 off, .int .i64 num, .int .i64 delim, .slice A n c] 28)) ((Below.refl _ _).alloc (Nat.le_refl _) _) (Nat.le_refl _) (heap_alloc_new _ _)
  have s2 := s1.box (w' := (w.alloc (.cells #[.int .i64 k, .int .u64 (tag : Int), .string key, .string after, .int .i64 off, .int .i64 num, .int .i64 delim, .slice A n c] 28)).alloc (.cells #[.int .i64 kind, .int .u64 (atag : Int), .int .i64 code, .slice A1 n1 c1, .slice A2 n2 c2, .slice A3 n3 c3, .string next, .bool more, .int .i64 ge, .int .i64 gc, .int .i64 size, .int .i64 h1, .int .i64 h2, .int .i64 h3, .int .i64 h4] 43)) ((Below.refl _ _).alloc (Nat.le_refl _) _) (Nat.le_refl _) (heap_alloc_new _ _)
  have e : (w.alloc (.cells #[.int .i64 k, .int .u64 (tag : Int), .string key, .string after, .int .i64 off, .int .i64 num, .int .i64 delim, .slice A n c] 28)).heap.size = w.heap.size + 1 := by simp
  rw [e] at s2
  exact s2⟩
 have HB : Hd (b2 < b3 ∧ w.heap.size = b2) := ⟨by omega, hb2⟩
 go_enter Try.func9, Try.ntmps9
 go_upto_region 1 with fail
 try rw [hw1]
 try rw [hb2]
 try rw [hb3]
 clear hw1 hb2 hb3
 go_wp2_with fail
 refine (awake_any w1).mono ?_
 rintro e w2 ⟨rfl, hbe⟩
 have H2 := Hd.mk (H1.out.below hbe)
 clear hbe H1
 have c20 : w2.cell? ⟨b2, 0, none⟩ = some (.int .i64 k) := H2.out.at_ 0 rfl 0 rfl
 have z20 : w2.frozen? ⟨b2, 0, none⟩ = false := H2.out.z 0 rfl 0
 have S1 : Hd (Ms w (w2.setCell ⟨b2, 0, none⟩ (.int .i64 1)) [] ([] ++ [b2] ++ [b3]) [(b2, #[.int .i64 1, .int .u64 (tag : Int), .string key, .string after, .int .i64 off, .int .i64 num, .int .i64 delim, .slice A n c], 28), (b3, #[.int .i64 kind, .int .u64 (atag : Int), .int .i64 code, .slice A1 n1 c1, .slice A2 n2 c2, .slice A3 n3 c3, .string next, .bool more, .int .i64 ge, .int .i64 gc, .int .i64 size, .int .i64 h1, .int .i64 h2, .int .i64 h3, .int .i64 h4], 43)]) := ⟨H2.out.cell 0 rfl 0 (.int .i64 1) (fun p hp => (List.mem_cons.1 hp).elim (fun e => by rw [e]; exact .inl rfl) (fun h => by rw [List.mem_singleton.1 h]; exact .inr ⟨List.mem_of_getElem? (i := 1) rfl, by have := HB.out; show b3 ≠ b2; omega⟩))⟩
 have S2 : Hd (Ms w ((w2.setCell ⟨b2, 0, none⟩ (.int .i64 1)).setCell ⟨b3, 0, none⟩ (.int .i64 7)) [] ([] ++ [b2] ++ [b3]) [(b2, #[.int .i64 1, .int .u64 (tag : Int), .string key, .string after, .int .i64 off, .int .i64 num, .int .i64 delim, .slice A n c], 28), (b3, #[.int .i64 7, .int .u64 (atag : Int), .int .i64 code, .slice A1 n1 c1, .slice A2 n2 c2, .slice A3 n3 c3, .string next, .bool more, .int .i64 ge, .int .i64 gc, .int .i64 size, .int .i64 h1, .int .i64 h2, .int .i64 h3, .int .i64 h4], 43)]) := ⟨S1.out.cell 1 rfl 0 (.int .i64 7) (fun p hp => (List.mem_cons.1 hp).elim (fun e => by rw [e]; exact .inr ⟨List.mem_of_getElem? (i := 0) rfl, by have := HB.out; show b2 ≠ b3; omega⟩) (fun h => by rw [List.mem_singleton.1 h]; exact .inl rfl))⟩
 have c30 : (w2.setCell ⟨b2, 0, none⟩ (.int .i64 1)).cell? ⟨b3, 0, none⟩ = some (.int .i64 kind) := S1.out.at_ 1 rfl 0 rfl
 have z30 : (w2.setCell ⟨b2, 0, none⟩ (.int .i64 1)).frozen? ⟨b3, 0, none⟩ = false := S1.out.z 1 rfl 0
 have c32 : ((w2.setCell ⟨b2, 0, none⟩ (.int .i64 1)).setCell ⟨b3, 0, none⟩ (.int .i64 7)).cell? ⟨b3, 2, none⟩ = some (.int .i64 code) := S2.out.at_ 1 rfl 2 rfl
 have z32 : ((w2.setCell ⟨b2, 0, none⟩ (.int .i64 1)).setCell ⟨b3, 0, none⟩ (.int .i64 7)).frozen? ⟨b3, 2, none⟩ = false := S2.out.z 1 rfl 2
 go_upto_region 4 with fail
 obtain ⟨w3, hw3⟩ : ∃ U, ((w2.setCell ⟨b2, 0, none⟩ (.int .i64 1)).setCell ⟨b3, 0, none⟩ (.int .i64 7)).setCell ⟨b3, 2, none⟩ (.int .i64 0) = U := ⟨_, rfl⟩
 rw [hw3]
 have H3 : Hd (Ms w w3 [] ([] ++ [b2] ++ [b3]) [(b2, #[.int .i64 1, .int .u64 (tag : Int), .string key, .string after, .int .i64 off, .int .i64 num, .int .i64 delim, .slice A n c], 28), (b3, #[.int .i64 7, .int .u64 (atag : Int), .int .i64 0, .slice A1 n1 c1, .slice A2 n2 c2, .slice A3 n3 c3, .string next, .bool more, .int .i64 ge, .int .i64 gc, .int .i64 size, .int .i64 h1, .int .i64 h2, .int .i64 h3, .int .i64 h4], 43)]) := ⟨by
  rw [← hw3]
  exact S2.out.cell 1 rfl 2 (.int .i64 0) (fun p hp => (List.mem_cons.1 hp).elim (fun e => by rw [e]; exact .inr ⟨List.mem_of_getElem? (i := 0) rfl, by have := HB.out; show b2 ≠ b3; omega⟩) (fun h => by rw [List.mem_singleton.1 h]; exact .inl rfl))⟩
 clear hw3 c20 z20 c30 z30 c32 z32 H2 S1 S2
 have c21 : w3.cell? ⟨b2, 1, none⟩ = some (.int .u64 (tag : Int)) := H3.out.at_ 0 rfl 1 rfl
 go_upto_if 49 with fail
 go_cut [] from 43 (fun wx => ∃ (B3 : Option Addr) (m3 d3 : Nat) (gr : List ByteArray), Ms w wx [] ([] ++ [b2] ++ [b3]) [(b2, #[.int .i64 1, .int .u64 (tag : Int), .string key, .string after, .int .i64 off, .int .i64 num, .int .i64 delim, .slice A n c], 28), (b3, #[.int .i64 7, .int .u64 (atag : Int), .int .i64 0, .slice A1 n1 c1, .slice A2 n2 c2, .slice B3 m3 d3, .string next, .bool more, .int .i64 ge, .int .i64 gc, .int .i64 size, .int .i64 h1, .int .i64 h2, .int .i64 h3, .int .i64 h4], 43)] ∧ Rd w w.heap.size B3 m3 (cs gr) ∧ m3 ≤ 8796093022000 ∧ ∀ t ∈ gr, t.size ≤ maxLen)
 case first =>
  by_cases he : (tag : Int) % 2 = 0
  ·have c34 : w3.cell? ⟨b3, 4, none⟩ = some (.slice A2 n2 c2) := H3.out.at_ 1 rfl 4 rfl
   have c35 : w3.cell? ⟨b3, 5, none⟩ = some (.slice A3 n3 c3) := H3.out.at_ 1 rfl 5 rfl
   have z35 : w3.frozen? ⟨b3, 5, none⟩ = false := H3.out.z 1 rfl 5
   go_wp2_with fail
   go_meet
   case rel => exact ⟨A2, n2, c2, keys, H3.out.cell 1 rfl 5 (.slice A2 n2 c2) (fun p hp => (List.mem_cons.1 hp).elim (fun e => by rw [e]; exact .inr ⟨List.mem_of_getElem? (i := 0) rfl, by have := HB.out; show b2 ≠ b3; omega⟩) (fun h => by rw [List.mem_singleton.1 h]; exact .inl rfl)), HA.out.2.1, HA.out.2.2.2.2.1, HA.out.2.2.2.2.2.2.2.2.1⟩
  ·go_wp2_with fail
   go_meet
   case rel => exact ⟨A3, n3, c3, groups, H3.out, HA.out.2.2.1, HA.out.2.2.2.2.2.1, HA.out.2.2.2.2.2.2.2.2.2⟩
 obtain ⟨B3, m3, d3, gr, hM, hgr, hm3, hgl⟩ := hcut
 obtain ⟨w4, hw4⟩ : ∃ U : World, U = wc := ⟨_, rfl⟩
 subst hw4
 have H4 := Hd.mk hM
 have HG : Hd (Rd w w.heap.size B3 m3 (cs gr) ∧ m3 ≤ 8796093022000 ∧ ∀ t ∈ gr, t.size ≤ maxLen) := ⟨hgr, hm3, hgl⟩
 clear hM hgr hm3 hgl H3 c21
 as_aux_lemma =>
  go_wp2_with (refine at_load (x := .tmp 2) ?_; refine wpList_load_row rfl 28 (.tmp 2) rfl b2 rfl 28 #[.int .i64 1, .int .u64 (tag : Int), .string key, .string after, .int .i64 off, .int .i64 num, .int .i64 delim, .slice A n c] (0, 0) _ (H4.out.box_ 0 rfl) Try.underlying28 rfl infoRq8 ?_)
  refine (fit_m (R := (⟨1, tag, key, after, off, num, delim, body⟩ : Rq)) ((HR.out.1.below H4.out.be).more H4.out.be.size) HR.out.2.1 (show I64 1 from ⟨by decide, by decide⟩) HR.out.2.2.2.1 HR.out.2.2.2.2).mono ?_
  obtain ⟨P, hP⟩ : ∃ P, fitP (⟨1, tag, key, after, off, num, delim, body⟩ : Rq) = P := ⟨_, rfl⟩
  obtain ⟨F1, hF1⟩ : ∃ F, PRq P F := ⟨_, by rw [← hP]; exact PRq.of _ HR.out.2.2.1⟩
  have HP := Hd.mk hF1
  rw [hP]
  rintro e w5 ⟨AR, cR, rfl, hok, hlc, hbe⟩
  have H5 := Hd.mk (H4.out.rows hbe hok (List.pairwise_singleton _ _))
  have HLR := Hd.mk hlc
  clear hok hlc hbe H4 hP hF1
  go_upto_region 7 with (refine at_store (x := .tmp 2) ?_; refine wpList_stored rfl 28 (.tmp 2) (.tmp 54) rfl b2 #[.int .i64 P.kind, .int .u64 (P.tag : Int), .string P.key, .string P.after, .int .i64 P.off, .int .i64 P.num, .int .i64 P.delim, .slice AR P.body.length cR] rfl rfl 28 #[.int .i64 1, .int .u64 (tag : Int), .string key, .string after, .int .i64 off, .int .i64 num, .int .i64 delim, .slice A n c] (H5.out.box_ 0 rfl) infoRq8 rfl (by simp [Value.oneCell']) ?_; intro w6 hB6)
  have H6 : Hd (Ms w w6 [(5, .slice AR P.body.length cR, cb P.body)] ([] ++ [b2] ++ [b3]) [(b2, #[.int .i64 P.kind, .int .u64 (P.tag : Int), .string P.key, .string P.after, .int .i64 P.off, .int .i64 P.num, .int .i64 P.delim, .slice AR P.body.length cR], 28), (b3, #[.int .i64 7, .int .u64 (atag : Int), .int .i64 0, .slice A1 n1 c1, .slice A2 n2 c2, .slice B3 m3 d3, .string next, .bool more, .int .i64 ge, .int .i64 gc, .int .i64 size, .int .i64 h1, .int .i64 h2, .int .i64 h3, .int .i64 h4], 43)]) := ⟨H5.out.set (List.mem_of_getElem? (i := 0) rfl) (Chg.of_grown hB6.out.2.1) hB6.out.1 (fun p hp => (List.mem_cons.1 hp).elim (fun e => by rw [e]; exact .inl rfl) (fun h => by rw [List.mem_singleton.1 h]; exact .inr ⟨List.mem_of_getElem? (i := 1) rfl, by have := HB.out; show b3 ≠ b2; omega⟩))⟩
  clear hB6 H5
  go_wp2_with (refine at_load (x := .tmp 3) ?_; refine wpList_load_row rfl 43 (.tmp 3) rfl b3 rfl 43 #[.int .i64 7, .int .u64 (atag : Int), .int .i64 0, .slice A1 n1 c1, .slice A2 n2 c2, .slice B3 m3 d3, .string next, .bool more, .int .i64 ge, .int .i64 gc, .int .i64 size, .int .i64 h1, .int .i64 h2, .int .i64 h3, .int .i64 h4] (0, 0) _ (H6.out.box_ 1 rfl) Try.underlying43 rfl infoAn15 ?_)
  refine (fitAn_m HFL.out (a := (⟨7, atag, 0, bod, keys, gr, next, more, ge, gc, size, h1, h2, h3, h4⟩ : An)) ((HA.out.1.below H6.out.be).more H6.out.be.size) ((HA.out.2.1.below H6.out.be).more H6.out.be.size) ((HG.out.1.below H6.out.be).more H6.out.be.size) HA.out.2.2.2.1 HA.out.2.2.2.2.1 HG.out.2.1 (show I64 7 from ⟨by decide, by decide⟩) (show I64 0 from ⟨by decide, by decide⟩) HA.out.2.2.2.2.2.2.2.1 HA.out.2.2.2.2.2.2.2.2.1 HG.out.2.2).mono ?_
  obtain ⟨Q, hQ⟩ : ∃ Q, fitAnP (⟨7, atag, 0, bod, keys, gr, next, more, ge, gc, size, h1, h2, h3, h4⟩ : An) = Q := ⟨_, rfl⟩
  obtain ⟨T1, hT1⟩ : ∃ T, PAn Q T := ⟨_, by rw [← hQ]; exact PAn.of _ (HA.out.2.2.2.2.2.2.1 gr) (fitAnP_idem _ rfl rfl)⟩
  have HQ := Hd.mk hT1
  rw [hQ]
  rintro e w7 ⟨AB, dB, AK, dK, AG, dG, rfl, hok, hap, hlc, hbe⟩
  have H7 := Hd.mk (H6.out.rows hbe hok hap)
  have HLA := Hd.mk hlc
  clear hok hap hlc hbe H6 hQ hT1
  go_upto_region 8 with (refine at_store (x := .tmp 3) ?_; refine wpList_stored rfl 43 (.tmp 3) (.tmp 56) rfl b3 #[.int .i64 Q.kind, .int .u64 (Q.tag : Int), .int .i64 Q.code, .slice AB Q.body.length dB, .slice AK Q.keys.length dK, .slice AG Q.groups.length dG, .string Q.next, .bool Q.more, .int .i64 Q.ge, .int .i64 Q.gc, .int .i64 Q.size, .int .i64 Q.h1, .int .i64 Q.h2, .int .i64 Q.h3, .int .i64 Q.h4] rfl rfl 43 #[.int .i64 7, .int .u64 (atag : Int), .int .i64 0, .slice A1 n1 c1, .slice A2 n2 c2, .slice B3 m3 d3, .string next, .bool more, .int .i64 ge, .int .i64 gc, .int .i64 size, .int .i64 h1, .int .i64 h2, .int .i64 h3, .int .i64 h4] (H7.out.box_ 1 rfl) infoAn15 rfl (by simp [Value.oneCell']) ?_; intro w8 hB8)
  have H8 : Hd (Ms w w8 [(5, .slice AR P.body.length cR, cb P.body), (5, .slice AB Q.body.length dB, cb Q.body), (9, .slice AK Q.keys.length dK, cs Q.keys), (9, .slice AG Q.groups.length dG, cs Q.groups)] ([] ++ [b2] ++ [b3]) [(b2, #[.int .i64 P.kind, .int .u64 (P.tag : Int), .string P.key, .string P.after, .int .i64 P.off, .int .i64 P.num, .int .i64 P.delim, .slice AR P.body.length cR], 28), (b3, #[.int .i64 Q.kind, .int .u64 (Q.tag : Int), .int .i64 Q.code, .slice AB Q.body.length dB, .slice AK Q.keys.length dK, .slice AG Q.groups.length dG, .string Q.next, .bool Q.more, .int .i64 Q.ge, .int .i64 Q.gc, .int .i64 Q.size, .int .i64 Q.h1, .int .i64 Q.h2, .int .i64 Q.h3, .int .i64 Q.h4], 43)]) := ⟨H7.out.set (List.mem_of_getElem? (i := 1) rfl) (Chg.of_grown hB8.out.2.1) hB8.out.1 (fun p hp => (List.mem_cons.1 hp).elim (fun e => by rw [e]; exact .inr ⟨List.mem_of_getElem? (i := 0) rfl, by have := HB.out; show b2 ≠ b3; omega⟩) (fun h => by rw [List.mem_singleton.1 h]; exact .inl rfl))⟩
  clear hB8 H7 HG
  as_aux_lemma =>
   have f27 : w8.cell? ⟨b2, 7, none⟩ = some (.slice AR P.body.length cR) := H8.out.at_ 0 rfl 7 rfl
   go_wp2_with fail
   refine (copied_any w8 AR P.body.length cR w8.heap.size P.body (H8.out.rd 0 rfl) (by have := HP.out.fit.2.2; omega)).mono ?_
   rintro e w9 ⟨A5, d5, rfl, ho, hlc, hbe⟩
   have H9 := Hd.mk (H8.out.row (cb_length _) hbe ho)
   have HL5 := Hd.mk hlc
   have hB9 : Hd (w8.heap.size ≤ w9.heap.size) := ⟨hbe.size⟩
   clear ho hlc hbe f27
   go_upto_region 9 with (refine at_store (x := .tmp 5) ?_; refine wpList_boxed rfl 43 (.tmp 5) (.tmp 60) rfl w9.heap.size rfl #[.int .i64 2, .int .u64 3, .int .i64 0, .slice A5 P.body.length d5, .slice none 0 0, .slice none 0 0, .string emS, .bool false, .int .i64 0, .int .i64 0, .int .i64 0, .int .i64 0, .int .i64 0, .int .i64 0, .int .i64 0] rfl rfl infoAn15 rfl (by simp [Value.oneCell']) ?_; intro w10 hB)
   obtain ⟨g5, hg⟩ : ∃ q, w9.heap.size = q := ⟨_, rfl⟩
   obtain ⟨G, hG⟩ : ∃ G, gAn P.body = G := ⟨_, rfl⟩
   obtain ⟨U1, hU1⟩ : ∃ T, PAn G T := ⟨_, by
    have e := fit_g HP.out.fit.2.2
    have h1 : AnB (gAn P.body) := ⟨by show (3 : Nat) < _; omega, HP.out.b.b, fun v hv => by
     have : v = 0 := by rcases hv with h | h | h | h | h | h | h <;> exact h
     omega⟩
    have h2 := PAn.of (gAn P.body) h1 (by rw [e, e])
    rw [e, hG] at h2
    exact h2⟩
   have HGB : Hd (PAn G U1 ∧ G.body = P.body ∧ G.keys = [] ∧ G.groups = [] ∧ b3 < g5 ∧ P.body.length ≤ d5) := ⟨hU1, by rw [← hG]; rfl, by rw [← hG]; rfl, by rw [← hG]; rfl, by rw [← hg]; exact Nat.lt_of_lt_of_le (Array.getElem?_eq_some_iff.1 (H8.out.box_ 1 rfl)).1 (by have := H9.out.be; have := H8.out.be; exact hB9.out), HL5.out⟩
   have H10 : Hd (Ms w w10 ([(5, .slice AR P.body.length cR, cb P.body), (5, .slice AB Q.body.length dB, cb Q.body), (9, .slice AK Q.keys.length dK, cs Q.keys), (9, .slice AG Q.groups.length dG, cs Q.groups)] ++ [(5, .slice A5 P.body.length d5, cb P.body)]) (([] ++ [b2] ++ [b3]) ++ [g5]) ([(b2, #[.int .i64 P.kind, .int .u64 (P.tag : Int), .string P.key, .string P.after, .int .i64 P.off, .int .i64 P.num, .int .i64 P.delim, .slice AR P.body.length cR], 28), (b3, #[.int .i64 Q.kind, .int .u64 (Q.tag : Int), .int .i64 Q.code, .slice AB Q.body.length dB, .slice AK Q.keys.length dK, .slice AG Q.groups.length dG, .string Q.next, .bool Q.more, .int .i64 Q.ge, .int .i64 Q.gc, .int .i64 Q.size, .int .i64 Q.h1, .int .i64 Q.h2, .int .i64 Q.h3, .int .i64 Q.h4], 43)] ++ [(g5, #[.int .i64 G.kind, .int .u64 (G.tag : Int), .int .i64 G.code, .slice A5 P.body.length d5, .slice none 0 0, .slice none 0 0, .string G.next, .bool G.more, .int .i64 G.ge, .int .i64 G.gc, .int .i64 G.size, .int .i64 G.h1, .int .i64 G.h2, .int .i64 G.h3, .int .i64 G.h4], 43)])) := ⟨H9.out.box (g := g5) (by rw [hg] at hB ⊢; exact hB.out.2.1) (by omega) (by rw [hg] at hB; rw [← hG]; exact hB.out.1)⟩
   try rw [hg]
   clear hB hG hU1 HL5 hg H8 H9 hB9
   as_aux_lemma =>
    go_wp2_with (refine at_load (x := .tmp 2) ?_; refine wpList_load_row rfl 28 (.tmp 2) rfl b2 rfl 28 #[.int .i64 P.kind, .int .u64 (P.tag : Int), .string P.key, .string P.after, .int .i64 P.off, .int .i64 P.num, .int .i64 P.delim, .slice AR P.body.length cR] (0, 0) _ (H10.out.box_ 0 rfl) Try.underlying28 rfl infoRq8 ?_)
    refine (ask_m HP.out (H10.out.rd 0 rfl) HLR.out).mono ?_
    rintro e w11 ⟨Af1, cf1, rfl, ho, hbe⟩
    have H11 := Hd.mk (H10.out.row (cb_length _) hbe ho)
    clear ho hbe H10
    go_wp2_with (refine at_load (x := .tmp 2) ?_; refine wpList_load_row rfl 28 (.tmp 2) rfl b2 rfl 28 #[.int .i64 P.kind, .int .u64 (P.tag : Int), .string P.key, .string P.after, .int .i64 P.off, .int .i64 P.num, .int .i64 P.delim, .slice AR P.body.length cR] (0, 0) _ (H11.out.box_ 0 rfl) Try.underlying28 rfl infoRq8 ?_)
    refine (ask_m HP.out (H11.out.rd 0 rfl) HLR.out).mono ?_
    rintro e w12 ⟨Af2, cf2, rfl, ho, hbe⟩
    have H12 := Hd.mk (H11.out.row (cb_length _) hbe ho)
    clear ho hbe H11
    go_wp2_with (refine at_load (x := .tmp 3) ?_; refine wpList_load_row rfl 43 (.tmp 3) rfl b3 rfl 43 #[.int .i64 Q.kind, .int .u64 (Q.tag : Int), .int .i64 Q.code, .slice AB Q.body.length dB, .slice AK Q.keys.length dK, .slice AG Q.groups.length dG, .string Q.next, .bool Q.more, .int .i64 Q.ge, .int .i64 Q.gc, .int .i64 Q.size, .int .i64 Q.h1, .int .i64 Q.h2, .int .i64 Q.h3, .int .i64 Q.h4] (0, 0) _ (H12.out.box_ 1 rfl) Try.underlying43 rfl infoAn15 ?_)
    refine (tell_m HQ.out (H12.out.rd 1 rfl) (H12.out.rd 2 rfl) (H12.out.rd 3 rfl)).mono ?_
    rintro e w13 ⟨At1, ct1, rfl, ho, hbe⟩
    have H13 := Hd.mk (H12.out.row (cb_length _) hbe ho)
    clear ho hbe H12
    go_wp2_with (refine at_load (x := .tmp 3) ?_; refine wpList_load_row rfl 43 (.tmp 3) rfl b3 rfl 43 #[.int .i64 Q.kind, .int .u64 (Q.tag : Int), .int .i64 Q.code, .slice AB Q.body.length dB, .slice AK Q.keys.length dK, .slice AG Q.groups.length dG, .string Q.next, .bool Q.more, .int .i64 Q.ge, .int .i64 Q.gc, .int .i64 Q.size, .int .i64 Q.h1, .int .i64 Q.h2, .int .i64 Q.h3, .int .i64 Q.h4] (0, 0) _ (H13.out.box_ 1 rfl) Try.underlying43 rfl infoAn15 ?_)
    refine (tell_m HQ.out (H13.out.rd 1 rfl) (H13.out.rd 2 rfl) (H13.out.rd 3 rfl)).mono ?_
    rintro e w14 ⟨At2, ct2, rfl, ho, hbe⟩
    have H14 := Hd.mk (H13.out.row (cb_length _) hbe ho)
    clear ho hbe H13
    go_wp2_with (refine at_load (x := .tmp 5) ?_; refine wpList_load_row rfl 43 (.tmp 5) rfl g5 rfl 43 #[.int .i64 G.kind, .int .u64 (G.tag : Int), .int .i64 G.code, .slice A5 P.body.length d5, .slice none 0 0, .slice none 0 0, .string G.next, .bool G.more, .int .i64 G.ge, .int .i64 G.gc, .int .i64 G.size, .int .i64 G.h1, .int .i64 G.h2, .int .i64 G.h3, .int .i64 G.h4] (0, 0) _ (H14.out.box_ 2 rfl) Try.underlying43 rfl infoAn15 ?_)
    refine (tell_m HGB.out.1 (by rw [HGB.out.2.1]; exact H14.out.rd 4 rfl) (by rw [HGB.out.2.2.1]; exact Rd.nil) (by rw [HGB.out.2.2.2.1]; exact Rd.nil)).mono ?_
    rintro e w15 ⟨Au1, cu1, rfl, ho, hbe⟩
    have H15 := Hd.mk (H14.out.row (cb_length _) hbe ho)
    clear ho hbe H14
    as_aux_lemma =>
     obtain ⟨w16, hw1⟩ : ∃ U, w15.alloc (.cells #[.int .u8 1, .int .u8 2, .int .u8 3] 5) = U := ⟨_, rfl⟩
     obtain ⟨gl, hgl⟩ : ∃ q, w15.heap.size = q := ⟨_, rfl⟩
     have HL : Hd (Below w15.heap.size w15 w16 ∧ Rd w16 w16.heap.size (some ⟨gl, 0, none⟩) 3 (cb [1, 2, 3])) := ⟨by
      rw [← hw1, ← hgl]
      refine ⟨(Below.refl _ _).alloc (Nat.le_refl _) _, ?_⟩
      have := rd_litF (w := w15) (e := 5) (cb [1, 2, 3]) (0, 0)
      have e : (w15.alloc (.cells #[.int .u8 1, .int .u8 2, .int .u8 3] 5)).heap.size = w15.heap.size + 1 := by simp
      rw [e]
      exact this⟩
     go_wp2_with fail
     try rw [hw1]
     try rw [hgl]
     refine (fit_m (R := (⟨1, 0, emS, emS, 0, 0, 0, [1, 2, 3]⟩ : Rq)) HL.out.2 (by decide) (show I64 1 from ⟨by decide, by decide⟩) (by decide) (by decide)).mono ?_
     obtain ⟨P3, hP3⟩ : ∃ P, fitP (⟨1, 0, emS, emS, 0, 0, 0, [1, 2, 3]⟩ : Rq) = P := ⟨_, rfl⟩
     obtain ⟨F3, hF3⟩ : ∃ F, PRq P3 F := ⟨_, by rw [← hP3]; exact PRq.of _ ⟨by decide, by decide, by decide, by decide, by decide, by decide, by decide, by decide⟩⟩
     rw [hP3]
     rintro e w17 ⟨A3r, c3r, rfl, hok, hlc, hbe⟩
     have H3r : Hd (PRq P3 F3 ∧ Rd w17 w17.heap.size A3r P3.body.length (cb P3.body) ∧ P3.body.length ≤ c3r) := ⟨hF3, Rd.of_own (by have := hok _ (List.mem_singleton.2 rfl); simpa only [cb_length] using this), hlc⟩
     have H18q := Hd.mk ((H15.out.below HL.out.1).below hbe)
     clear hok hlc hbe hP3 hF3 hw1 hgl HL H15
     go_wp2_with fail
     refine (ask_m H3r.out.1 H3r.out.2.1 H3r.out.2.2).mono ?_
     rintro e w18 ⟨Af3, cf3, rfl, ho, hbe⟩
     have H18 := Hd.mk (H18q.out.row (cb_length _) hbe ho)
     clear ho hbe H18q
     as_aux_lemma =>
      obtain ⟨S1, hS1⟩ : ∃ S, bstr F1 = S := ⟨_, rfl⟩
      obtain ⟨S2, hS2⟩ : ∃ S, bstr T1 = S := ⟨_, rfl⟩
      have q1 : (convert 26 9 (.slice Af1 F1.length cf1)).run Try.prog w18 = .ok (.string S1) w18 := by rw [← hS1]; exact conv_any (H18.out.rd 5 rfl)
      have q2 : (convert 26 9 (.slice Af2 F1.length cf2)).run Try.prog w18 = .ok (.string S1) w18 := by rw [← hS1]; exact conv_any (H18.out.rd 6 rfl)
      have q3 : (convert 26 9 (.slice At1 T1.length ct1)).run Try.prog w18 = .ok (.string S2) w18 := by rw [← hS2]; exact conv_any (H18.out.rd 7 rfl)
      have q4 : (convert 26 9 (.slice At2 T1.length ct2)).run Try.prog w18 = .ok (.string S2) w18 := by rw [← hS2]; exact conv_any (H18.out.rd 8 rfl)
      have e1 : (S1.toList != S1.toList) = false := by simp
      have e2 : (S2.toList != S2.toList) = false := by simp
      clear hS1 hS2
      go_upto_if 128 with fail
      go_cut [] from 43 (fun wx => wx = w18)
      case first =>
       go_wp2_with fail
       go_meet
       case rel => rfl
      rw [hcut]
      clear hcut q1 q2 q3 q4 e1 e2
      go_wp2_with fail
      obtain ⟨ga, hga⟩ : ∃ q, w18.heap.size = q := ⟨_, rfl⟩
      have hcall := asks_m w18
      rw [hga] at hcall
      refine hcall.mono ?_
      rintro e w19 ⟨rfl, hra, hbe⟩
      have hbe2 : Below w18.heap.size w18 w19 := by rw [hga]; exact hbe
      have H19 := Hd.mk (H18.out.more (X' := [ga]) hbe2 (fun x hx => by rw [List.mem_singleton.1 hx]; exact ⟨(hra.lt hra.mem).2, by omega⟩))
      have HRA := Hd.mk hra
      have HGA : Hd (g5 < ga ∧ b3 < g5 ∧ b2 < b3) := ⟨by rw [← hga]; exact (Array.getElem?_eq_some_iff.1 (H18.out.box_ 2 rfl)).1, HGB.out.2.2.2.2.1, HB.out.1⟩
      clear hra hbe hbe2 hcall hga H18
      go_wp2_with fail
      obtain ⟨gt, hgt⟩ : ∃ q, w19.heap.size = q := ⟨_, rfl⟩
      have hcall := tells_m w19
      rw [hgt] at hcall
      refine hcall.mono ?_
      rintro e w20 ⟨rfl, hra, hbe⟩
      have hbe2 : Below w19.heap.size w19 w20 := by rw [hgt]; exact hbe
      have H20 : Hd (Mp w w20 _ (([] ++ [b2] ++ [b3]) ++ [g5]) ([(b2, #[.int .i64 P.kind, .int .u64 (P.tag : Int), .string P.key, .string P.after, .int .i64 P.off, .int .i64 P.num, .int .i64 P.delim, .slice AR P.body.length cR], 28), (b3, #[.int .i64 Q.kind, .int .u64 (Q.tag : Int), .int .i64 Q.code, .slice AB Q.body.length dB, .slice AK Q.keys.length dK, .slice AG Q.groups.length dG, .string Q.next, .bool Q.more, .int .i64 Q.ge, .int .i64 Q.gc, .int .i64 Q.size, .int .i64 Q.h1, .int .i64 Q.h2, .int .i64 Q.h3, .int .i64 Q.h4], 43)] ++ [(g5, #[.int .i64 G.kind, .int .u64 (G.tag : Int), .int .i64 G.code, .slice A5 P.body.length d5, .slice none 0 0, .slice none 0 0, .string G.next, .bool G.more, .int .i64 G.ge, .int .i64 G.gc, .int .i64 G.size, .int .i64 G.h1, .int .i64 G.h2, .int .i64 G.h3, .int .i64 G.h4], 43)]) ga gt [ga] [] []) := ⟨⟨H19.out.more (X' := [gt]) hbe2 (fun x hx => by rw [List.mem_singleton.1 hx]; exact ⟨(hra.lt hra.mem).2, by omega⟩), HRA.out.below hbe2, hra, boxes_in rfl (fun x hx => by
       have k1 := HGA.out
       simp only [List.mem_append, List.mem_cons, List.not_mem_nil, or_false, false_or] at hx
       omega), ⟨by rw [← hgt]; exact (HRA.out.lt HRA.out.mem).2, (hra.lt hra.mem).2⟩, fun x hx => by rw [List.mem_singleton.1 hx]; have := (HRA.out.lt HRA.out.mem).2; omega, fun W hW => absurd hW List.not_mem_nil⟩⟩
      clear hra hbe hbe2 hcall hgt H19 HRA HGA
      as_aux_lemma =>
       go_wp2_with fail
       refine (copied_any w20 Af1 F1.length cf1 w20.heap.size F1 (H20.out.ms.rd 5 rfl) (by have := HP.out.len; omega)).mono ?_
       rintro e w21 ⟨Ac, cc, rfl, ho, hlc, hbe⟩
       have HO : Hd (w21.ownsRow w20.heap.size 5 1 (.slice Ac F1.length cc) F1.length (cb F1) ∧ Below w20.heap.size w20 w21) := ⟨ho, hbe⟩
       clear ho hbe hlc
       go_wp2_with (first | (at_builtin; refine wpList_app elB rfl (.tmp 139) (.tmp 140) rfl w20.heap.size (.slice Ac F1.length cc) (F1.length) (cb F1) rfl HO.out.1 w21.heap.size Af1 (F1.length) cf1 (cb F1) rfl ((H20.out.below HO.out.2).ms.rd 5 rfl) (cb_one _) (by have := HP.out.len; unfold maxLen; omega) (by have := HP.out.len; omega) HO.out.2.size ?_; intro v1 w22 hO; obtain ⟨Ad, cd, hv1, -⟩ := own_form hO.own; subst hv1; have HO2 : Hd (w22.ownsRow w20.heap.size 5 1 (.slice Ad (F1.length + F1.length) cd) (F1.length + F1.length) (cb F1 ++ cb F1) ∧ Below w20.heap.size w20 w22) := ⟨hO.own, HO.out.2.trans (hO.below (fun k hk => (HO.out.1.lt k hk).1) HO.out.2.size)⟩; clear hO) | (at_builtin; refine wpList_app elB rfl (.tmp 141) (.tmp 142) rfl w20.heap.size (.slice Ad (F1.length + F1.length) cd) (F1.length + F1.length) (cb F1 ++ cb F1) rfl HO2.out.1 w22.heap.size Af1 (F1.length) cf1 (cb F1) rfl ((H20.out.below HO2.out.2).ms.rd 5 rfl) (cb_one _) (by have := HP.out.len; unfold maxLen; omega) (by have := HP.out.len; omega) HO2.out.2.size ?_; intro v1 w23 hO; obtain ⟨Ae, ce, hv1, -⟩ := own_form hO.own; subst hv1; have HO3 : Hd (w23.ownsRow w20.heap.size 5 1 (.slice Ae (F1.length + F1.length + F1.length) ce) (F1.length + F1.length + F1.length) (cb ((F1 ++ F1) ++ F1)) ∧ Below w20.heap.size w20 w23) := ⟨by rw [cb_append, cb_append]; exact hO.own, HO2.out.2.trans (hO.below (fun k hk => (HO2.out.1.lt k hk).1) HO2.out.2.size)⟩; clear hO))
       clear HO HO2
       refine ((H20.out.below HO3.out.2).push (bs := (F1 ++ F1) ++ F1) (P := P) (Rd.of_own HO3.out.1) (fun x hx => (List.mem_append.1 hx).elim (fun h => (List.mem_append.1 h).elim (HP.out.lt x) (HP.out.lt x)) (HP.out.lt x)) (by have := HP.out.len; omega) HP.out.go3).mono ?_
       rintro e w24 ⟨rfl, XA, Ba, ea, Bb, eb, Bc, ec, hM⟩
       have H24 := Hd.mk hM
       clear hM HO3 H20
       as_aux_lemma =>
        go_wp2_with fail
        refine (copied_any w24 At1 T1.length ct1 w24.heap.size T1 (H24.out.ms.rd 7 rfl) (by have := HQ.out.len; have := HGB.out.1.len; omega)).mono ?_
        rintro e w25 ⟨Ac, cc, rfl, ho, hlc, hbe⟩
        have HO : Hd (w25.ownsRow w24.heap.size 5 1 (.slice Ac T1.length cc) T1.length (cb T1) ∧ Below w24.heap.size w24 w25) := ⟨ho, hbe⟩
        clear ho hbe hlc
        go_wp2_with (at_builtin; refine wpList_app elB rfl (.tmp 147) (.tmp 148) rfl w24.heap.size (.slice Ac T1.length cc) (T1.length) (cb T1) rfl HO.out.1 w25.heap.size Au1 (U1.length) cu1 (cb U1) rfl ((H24.out.below HO.out.2).ms.rd 9 rfl) (cb_one _) (by have := HQ.out.len; have := HGB.out.1.len; unfold maxLen; omega) (by have := HQ.out.len; have := HGB.out.1.len; omega) HO.out.2.size ?_; intro v1 w26 hO; obtain ⟨Ad, cd, hv1, -⟩ := own_form hO.own; subst hv1; have HO2 : Hd (w26.ownsRow w24.heap.size 5 1 (.slice Ad (T1.length + U1.length) cd) (T1.length + U1.length) (cb T1 ++ cb U1) ∧ Below w24.heap.size w24 w26) := ⟨hO.own, HO.out.2.trans (hO.below (fun k hk => (HO.out.1.lt k hk).1) HO.out.2.size)⟩; clear hO)
        refine (copied_any w26 At1 T1.length ct1 w26.heap.size T1 ((H24.out.below HO2.out.2).ms.rd 7 rfl) (by have := HQ.out.len; have := HGB.out.1.len; omega)).mono ?_
        rintro e w27 ⟨Ae, ce, rfl, ho, hlc, hbe⟩
        have HO3 : Hd (w27.ownsRow w26.heap.size 5 1 (.slice Ae T1.length ce) T1.length (cb T1) ∧ Below w24.heap.size w24 w27 ∧ w26.heap.size ≤ w27.heap.size) := ⟨ho, HO2.out.2.trans (hbe.mono HO2.out.2.size), hbe.size⟩
        have HO2b : Hd (w27.ownsRow w24.heap.size 5 1 (.slice Ad (T1.length + U1.length) cd) (T1.length + U1.length) (cb T1 ++ cb U1) ∧ ∀ k, (Value.slice Ad (T1.length + U1.length) cd).ownBlock = some k → k < w26.heap.size) := ⟨own_below' HO2.out.1 hbe, fun k hk => (HO2.out.1.lt k hk).2⟩
        have HSZ4 : Hd (w24.heap.size ≤ w26.heap.size) := ⟨HO2.out.2.size⟩
        clear ho hbe hlc HO HO2
        go_wp2_with (first | (at_builtin; refine wpList_app elB rfl (.tmp 151) (.tmp 152) rfl w26.heap.size (.slice Ae T1.length ce) (T1.length) (cb T1) rfl HO3.out.1 w27.heap.size Au1 (U1.length) cu1 (cb U1) rfl ((H24.out.below HO3.out.2.1).ms.rd 9 rfl) (cb_one _) (by have := HQ.out.len; have := HGB.out.1.len; unfold maxLen; omega) (by have := HQ.out.len; have := HGB.out.1.len; omega) HO3.out.2.2 ?_; intro v1 w28 hO; obtain ⟨Af, cf, hv1, -⟩ := own_form hO.own; subst hv1; have HO4 : Hd (Rd w28 w28.heap.size Af (T1.length + U1.length) (cb T1 ++ cb U1) ∧ Below w24.heap.size w24 w28 ∧ w28.ownsRow w24.heap.size 5 1 (.slice Ad (T1.length + U1.length) cd) (T1.length + U1.length) (cb T1 ++ cb U1)) := ⟨Rd.of_own hO.own, HO3.out.2.1.trans ((hO.below (fun k hk => (HO3.out.1.lt k hk).1) HO3.out.2.2).mono HSZ4.out), hO.keep HO2b.out.1 (fun k h1 h2 => by have := (HO3.out.1.lt k h1).1; have := HO2b.out.2 k h2; omega)⟩; clear hO) | (at_builtin; refine wpList_app elB rfl (.tmp 149) (.tmp 153) rfl w24.heap.size (.slice Ad (T1.length + U1.length) cd) (T1.length + U1.length) (cb T1 ++ cb U1) rfl HO4.out.2.2 w28.heap.size Af (T1.length + U1.length) cf (cb T1 ++ cb U1) rfl HO4.out.1 (fun u hu => (List.mem_append.1 hu).elim (cb_one _ u) (cb_one _ u)) (by have := HQ.out.len; have := HGB.out.1.len; unfold maxLen; omega) (by have := HQ.out.len; have := HGB.out.1.len; omega) HO4.out.2.1.size ?_; intro v1 w29 hO; obtain ⟨Ag, cg, hv1, -⟩ := own_form hO.own; subst hv1; have HO5 : Hd (w29.ownsRow w24.heap.size 5 1 (.slice Ag (T1.length + U1.length + (T1.length + U1.length)) cg) (T1.length + U1.length + (T1.length + U1.length)) (cb ((T1 ++ U1) ++ (T1 ++ U1))) ∧ Below w24.heap.size w24 w29) := ⟨by rw [cb_append, cb_append]; exact hO.own, HO4.out.2.1.trans (hO.below (fun k hk => (HO4.out.2.2.lt k hk).1) HO4.out.2.1.size)⟩; clear hO))
        clear HO3 HO2b HO4 HSZ4
        refine ((H24.out.below HO5.out.2).pushT HGB.out.2.2.1 HGB.out.2.2.2.1 (bs := (T1 ++ U1) ++ (T1 ++ U1)) (a := Q) (g := G) (Rd.of_own HO5.out.1) (fun x hx => (List.mem_append.1 hx).elim (fun h => (List.mem_append.1 h).elim (HQ.out.lt x) (HGB.out.1.lt x)) (fun h => (List.mem_append.1 h).elim (HQ.out.lt x) (HGB.out.1.lt x))) (by have := HQ.out.len; have := HGB.out.1.len; omega) (go4_m HQ.out HGB.out.1)).mono ?_
        rintro e w30 ⟨rfl, XT, Va, va, Vb, vb, Vc, vc, Wa, xa, Wb, xb, Wc, xc, Ya, ya, Yb, yb, Yc, yc, Za, za, Zb, zb, Zc, zc, hM⟩
        have H30 := Hd.mk hM
        clear hM HO5 H24
        as_aux_lemma =>
         have H30b := Hd.mk (H30.out.re (RL2 := ((5, .slice AR P.body.length cR, cb P.body) :: (5, .slice AB Q.body.length dB, cb Q.body) :: (9, .slice AK Q.keys.length dK, cs Q.keys) :: (9, .slice AG Q.groups.length dG, cs Q.groups) :: (5, .slice A5 P.body.length d5, cb P.body) :: (5, .slice Af1 F1.length cf1, cb F1) :: (5, .slice Af2 F1.length cf2, cb F1) :: (5, .slice At1 T1.length ct1, cb T1) :: (5, .slice At2 T1.length ct2, cb T1) :: (5, .slice Au1 U1.length cu1, cb U1) :: (5, .slice Af3 F3.length cf3, cb F3) :: (5, .slice Ba P.body.length ea, cb P.body) :: (5, .slice Bb P.body.length eb, cb P.body) :: (5, .slice Bc P.body.length ec, cb P.body) :: (5, .slice Va Q.body.length va, cb Q.body) :: (9, .slice Vb Q.keys.length vb, cs Q.keys) :: (9, .slice Vc Q.groups.length vc, cs Q.groups) :: (5, .slice Wa G.body.length xa, cb G.body) :: (9, .slice Wb 0 xb, cs G.keys) :: (9, .slice Wc 0 xc, cs G.groups) :: (5, .slice Ya Q.body.length ya, cb Q.body) :: (9, .slice Yb Q.keys.length yb, cs Q.keys) :: (9, .slice Yc Q.groups.length yc, cs Q.groups) :: (5, .slice Za G.body.length za, cb G.body) :: (9, .slice Zb 0 zb, cs G.keys) :: (9, .slice Zc 0 zc, cs G.groups) :: [] : List Row)) (by kernel_rfl))
         clear H30
         have H30 := H30b
         clear H30b
         go_wp2_with fail
         refine (H30.out.pop).mono ?_
         rintro e w31 ⟨rfl, hM⟩
         have H31 := Hd.mk hM
         clear hM H30
         go_upto_region 24 with (refine at_store (x := .tmp 20) ?_; refine wpList_boxed rfl 28 (.tmp 20) (.tmp 159) rfl w31.heap.size rfl #[.int .i64 P.kind, .int .u64 (P.tag : Int), .string P.key, .string P.after, .int .i64 P.off, .int .i64 P.num, .int .i64 P.delim, .slice Ba P.body.length ea] rfl rfl infoRq8 rfl (by simp [Value.oneCell']) ?_; intro w32 hB)
         obtain ⟨g20, hg⟩ : ∃ q, w31.heap.size = q := ⟨_, rfl⟩
         have hbe : Below w31.heap.size w31 w32 := hB.out.2.1
         rw [hg] at hB
         have H32 := Hd.mk (H31.out.box hbe hg hB.out.1)
         try rw [hg]
         clear hB hbe hg H31
         go_wp2_with fail
         refine (H32.out.pop).mono ?_
         rintro e w33 ⟨rfl, hM⟩
         have H33 := Hd.mk hM
         clear hM H32
         go_upto_region 25 with (refine at_store (x := .tmp 22) ?_; refine wpList_boxed rfl 28 (.tmp 22) (.tmp 164) rfl w33.heap.size rfl #[.int .i64 P.kind, .int .u64 (P.tag : Int), .string P.key, .string P.after, .int .i64 P.off, .int .i64 P.num, .int .i64 P.delim, .slice Bb P.body.length eb] rfl rfl infoRq8 rfl (by simp [Value.oneCell']) ?_; intro w34 hB)
         obtain ⟨g22, hg⟩ : ∃ q, w33.heap.size = q := ⟨_, rfl⟩
         have hbe : Below w33.heap.size w33 w34 := hB.out.2.1
         rw [hg] at hB
         have H34 := Hd.mk (H33.out.box hbe hg hB.out.1)
         try rw [hg]
         clear hB hbe hg H33
         go_wp2_with fail
         refine (H34.out.popA).mono ?_
         rintro e w35 ⟨rfl, hM⟩
         have H35 := Hd.mk hM
         clear hM H34
         go_upto_region 26 with (refine at_store (x := .tmp 24) ?_; refine wpList_boxed rfl 43 (.tmp 24) (.tmp 169) rfl w35.heap.size rfl #[.int .i64 Q.kind, .int .u64 (Q.tag : Int), .int .i64 Q.code, .slice Va Q.body.length va, .slice Vb Q.keys.length vb, .slice Vc Q.groups.length vc, .string Q.next, .bool Q.more, .int .i64 Q.ge, .int .i64 Q.gc, .int .i64 Q.size, .int .i64 Q.h1, .int .i64 Q.h2, .int .i64 Q.h3, .int .i64 Q.h4] rfl rfl infoAn15 rfl (by simp [Value.oneCell']) ?_; intro w36 hB)
         obtain ⟨g24, hg⟩ : ∃ q, w35.heap.size = q := ⟨_, rfl⟩
         have hbe : Below w35.heap.size w35 w36 := hB.out.2.1
         rw [hg] at hB
         have H36 := Hd.mk (H35.out.box hbe hg hB.out.1)
         try rw [hg]
         clear hB hbe hg H35
         go_wp2_with fail
         refine (H36.out.popA).mono ?_
         rintro e w37 ⟨rfl, hM⟩
         have H37 := Hd.mk hM
         clear hM H36
         go_upto_region 27 with (refine at_store (x := .tmp 26) ?_; refine wpList_boxed rfl 43 (.tmp 26) (.tmp 174) rfl w37.heap.size rfl #[.int .i64 G.kind, .int .u64 (G.tag : Int), .int .i64 G.code, .slice Wa G.body.length xa, .slice Wb 0 xb, .slice Wc 0 xc, .string G.next, .bool G.more, .int .i64 G.ge, .int .i64 G.gc, .int .i64 G.size, .int .i64 G.h1, .int .i64 G.h2, .int .i64 G.h3, .int .i64 G.h4] rfl rfl infoAn15 rfl (by simp [Value.oneCell']) ?_; intro w38 hB)
         obtain ⟨g26, hg⟩ : ∃ q, w37.heap.size = q := ⟨_, rfl⟩
         have hbe : Below w37.heap.size w37 w38 := hB.out.2.1
         rw [hg] at hB
         have H38 := Hd.mk (H37.out.box hbe hg hB.out.1)
         try rw [hg]
         clear hB hbe hg H37
         as_aux_lemma =>
          go_wp2_with (first | (refine at_load (x := .tmp 20) ?_; refine wpList_load_row rfl 28 (.tmp 20) rfl g20 rfl 28 #[.int .i64 P.kind, .int .u64 (P.tag : Int), .string P.key, .string P.after, .int .i64 P.off, .int .i64 P.num, .int .i64 P.delim, .slice Ba P.body.length ea] (0, 0) _ (H38.out.ms.box_ 3 rfl) Try.underlying28 rfl infoRq8 ?_) | (refine at_load (x := .tmp 2) ?_; refine wpList_load_row rfl 28 (.tmp 2) rfl b2 rfl 28 #[.int .i64 P.kind, .int .u64 (P.tag : Int), .string P.key, .string P.after, .int .i64 P.off, .int .i64 P.num, .int .i64 P.delim, .slice AR P.body.length cR] (0, 0) _ (H38.out.ms.box_ 0 rfl) Try.underlying28 rfl infoRq8 ?_))
          refine (equal_any w38 P.kind P.tag P.key P.after P.off P.num P.delim P.body Ba AR _ _ ea cR w38.heap.size (H38.out.ms.rd 11 rfl) (H38.out.ms.rd 0 rfl) (Nat.le_refl _)).mono ?_
          rintro e w39 ⟨rfl, hbe⟩
          have H39 := Hd.mk (H38.out.below hbe)
          clear hbe H38
          have p0 : w39.cell? ⟨g22, 0, none⟩ = some (.int .i64 P.kind) := H39.out.ms.at_ 4 rfl 0 rfl
          have p1 : w39.cell? ⟨g22, 1, none⟩ = some (.int .u64 (P.tag : Int)) := H39.out.ms.at_ 4 rfl 1 rfl
          have p2 : w39.cell? ⟨g22, 2, none⟩ = some (.string P.key) := H39.out.ms.at_ 4 rfl 2 rfl
          have p3 : w39.cell? ⟨g22, 3, none⟩ = some (.string P.after) := H39.out.ms.at_ 4 rfl 3 rfl
          have p4 : w39.cell? ⟨g22, 4, none⟩ = some (.int .i64 P.off) := H39.out.ms.at_ 4 rfl 4 rfl
          have p5 : w39.cell? ⟨g22, 5, none⟩ = some (.int .i64 P.num) := H39.out.ms.at_ 4 rfl 5 rfl
          have p6 : w39.cell? ⟨g22, 6, none⟩ = some (.int .i64 P.delim) := H39.out.ms.at_ 4 rfl 6 rfl
          have p7 : w39.cell? ⟨g22, 7, none⟩ = some (.slice Bb P.body.length eb) := H39.out.ms.at_ 4 rfl 7 rfl
          have s0 : w39.cell? ⟨b2, 0, none⟩ = some (.int .i64 P.kind) := H39.out.ms.at_ 0 rfl 0 rfl
          have s1 : w39.cell? ⟨b2, 1, none⟩ = some (.int .u64 (P.tag : Int)) := H39.out.ms.at_ 0 rfl 1 rfl
          have s2 : w39.cell? ⟨b2, 2, none⟩ = some (.string P.key) := H39.out.ms.at_ 0 rfl 2 rfl
          have s3 : w39.cell? ⟨b2, 3, none⟩ = some (.string P.after) := H39.out.ms.at_ 0 rfl 3 rfl
          have s4 : w39.cell? ⟨b2, 4, none⟩ = some (.int .i64 P.off) := H39.out.ms.at_ 0 rfl 4 rfl
          have s5 : w39.cell? ⟨b2, 5, none⟩ = some (.int .i64 P.num) := H39.out.ms.at_ 0 rfl 5 rfl
          have s6 : w39.cell? ⟨b2, 6, none⟩ = some (.int .i64 P.delim) := H39.out.ms.at_ 0 rfl 6 rfl
          have s7 : w39.cell? ⟨b2, 7, none⟩ = some (.slice AR P.body.length cR) := H39.out.ms.at_ 0 rfl 7 rfl
          go_wp2_with fail
          refine (equal_any w39 P.kind P.tag P.key P.after P.off P.num P.delim P.body Bb AR _ _ eb cR w39.heap.size (H39.out.ms.rd 12 rfl) (H39.out.ms.rd 0 rfl) (Nat.le_refl _)).mono ?_
          rintro e w40 ⟨rfl, hbe⟩
          have H40 := Hd.mk (H39.out.below hbe)
          clear p0 s0 p1 s1 p2 s2 p3 s3 p4 s4 p5 s5 p6 s6 p7 s7
          clear hbe H39
          have p0 : w40.cell? ⟨g24, 0, none⟩ = some (.int .i64 Q.kind) := H40.out.ms.at_ 5 rfl 0 rfl
          have p1 : w40.cell? ⟨g24, 1, none⟩ = some (.int .u64 (Q.tag : Int)) := H40.out.ms.at_ 5 rfl 1 rfl
          have p2 : w40.cell? ⟨g24, 2, none⟩ = some (.int .i64 Q.code) := H40.out.ms.at_ 5 rfl 2 rfl
          have p3 : w40.cell? ⟨g24, 3, none⟩ = some (.slice Va Q.body.length va) := H40.out.ms.at_ 5 rfl 3 rfl
          have p4 : w40.cell? ⟨g24, 4, none⟩ = some (.slice Vb Q.keys.length vb) := H40.out.ms.at_ 5 rfl 4 rfl
          have p5 : w40.cell? ⟨g24, 5, none⟩ = some (.slice Vc Q.groups.length vc) := H40.out.ms.at_ 5 rfl 5 rfl
          have p6 : w40.cell? ⟨g24, 6, none⟩ = some (.string Q.next) := H40.out.ms.at_ 5 rfl 6 rfl
          have p7 : w40.cell? ⟨g24, 7, none⟩ = some (.bool Q.more) := H40.out.ms.at_ 5 rfl 7 rfl
          have p8 : w40.cell? ⟨g24, 8, none⟩ = some (.int .i64 Q.ge) := H40.out.ms.at_ 5 rfl 8 rfl
          have p9 : w40.cell? ⟨g24, 9, none⟩ = some (.int .i64 Q.gc) := H40.out.ms.at_ 5 rfl 9 rfl
          have p10 : w40.cell? ⟨g24, 10, none⟩ = some (.int .i64 Q.size) := H40.out.ms.at_ 5 rfl 10 rfl
          have p11 : w40.cell? ⟨g24, 11, none⟩ = some (.int .i64 Q.h1) := H40.out.ms.at_ 5 rfl 11 rfl
          have p12 : w40.cell? ⟨g24, 12, none⟩ = some (.int .i64 Q.h2) := H40.out.ms.at_ 5 rfl 12 rfl
          have p13 : w40.cell? ⟨g24, 13, none⟩ = some (.int .i64 Q.h3) := H40.out.ms.at_ 5 rfl 13 rfl
          have p14 : w40.cell? ⟨g24, 14, none⟩ = some (.int .i64 Q.h4) := H40.out.ms.at_ 5 rfl 14 rfl
          have s0 : w40.cell? ⟨b3, 0, none⟩ = some (.int .i64 Q.kind) := H40.out.ms.at_ 1 rfl 0 rfl
          have s1 : w40.cell? ⟨b3, 1, none⟩ = some (.int .u64 (Q.tag : Int)) := H40.out.ms.at_ 1 rfl 1 rfl
          have s2 : w40.cell? ⟨b3, 2, none⟩ = some (.int .i64 Q.code) := H40.out.ms.at_ 1 rfl 2 rfl
          have s3 : w40.cell? ⟨b3, 3, none⟩ = some (.slice AB Q.body.length dB) := H40.out.ms.at_ 1 rfl 3 rfl
          have s4 : w40.cell? ⟨b3, 4, none⟩ = some (.slice AK Q.keys.length dK) := H40.out.ms.at_ 1 rfl 4 rfl
          have s5 : w40.cell? ⟨b3, 5, none⟩ = some (.slice AG Q.groups.length dG) := H40.out.ms.at_ 1 rfl 5 rfl
          have s6 : w40.cell? ⟨b3, 6, none⟩ = some (.string Q.next) := H40.out.ms.at_ 1 rfl 6 rfl
          have s7 : w40.cell? ⟨b3, 7, none⟩ = some (.bool Q.more) := H40.out.ms.at_ 1 rfl 7 rfl
          have s8 : w40.cell? ⟨b3, 8, none⟩ = some (.int .i64 Q.ge) := H40.out.ms.at_ 1 rfl 8 rfl
          have s9 : w40.cell? ⟨b3, 9, none⟩ = some (.int .i64 Q.gc) := H40.out.ms.at_ 1 rfl 9 rfl
          have s10 : w40.cell? ⟨b3, 10, none⟩ = some (.int .i64 Q.size) := H40.out.ms.at_ 1 rfl 10 rfl
          have s11 : w40.cell? ⟨b3, 11, none⟩ = some (.int .i64 Q.h1) := H40.out.ms.at_ 1 rfl 11 rfl
          have s12 : w40.cell? ⟨b3, 12, none⟩ = some (.int .i64 Q.h2) := H40.out.ms.at_ 1 rfl 12 rfl
          have s13 : w40.cell? ⟨b3, 13, none⟩ = some (.int .i64 Q.h3) := H40.out.ms.at_ 1 rfl 13 rfl
          have s14 : w40.cell? ⟨b3, 14, none⟩ = some (.int .i64 Q.h4) := H40.out.ms.at_ 1 rfl 14 rfl
          go_wp2_with fail
          refine (equalAn_any w40 Q.kind Q.tag Q.code Q.next Q.more Q.ge Q.gc Q.size Q.h1 Q.h2 Q.h3 Q.h4 Q.body Q.keys Q.groups Va AB Vb AK Vc AG _ _ va dB _ vb dK _ vc dG w40.heap.size (H40.out.ms.rd 14 rfl) (H40.out.ms.rd 1 rfl) (H40.out.ms.rd 15 rfl) (H40.out.ms.rd 2 rfl) (H40.out.ms.rd 16 rfl) (H40.out.ms.rd 3 rfl) (Nat.le_refl _) (by have := HQ.out.fit.2.1.1; split at this <;> omega) (by have := HQ.out.fit.2.2.1.1; omega)).mono ?_
          rintro e w41 ⟨rfl, hbe⟩
          have H41 := Hd.mk (H40.out.below hbe)
          clear p0 s0 p1 s1 p2 s2 p3 s3 p4 s4 p5 s5 p6 s6 p7 s7 p8 s8 p9 s9 p10 s10 p11 s11 p12 s12 p13 s13 p14 s14
          clear hbe H40
          have p0 : w41.cell? ⟨g26, 0, none⟩ = some (.int .i64 G.kind) := H41.out.ms.at_ 6 rfl 0 rfl
          have p1 : w41.cell? ⟨g26, 1, none⟩ = some (.int .u64 (G.tag : Int)) := H41.out.ms.at_ 6 rfl 1 rfl
          have p2 : w41.cell? ⟨g26, 2, none⟩ = some (.int .i64 G.code) := H41.out.ms.at_ 6 rfl 2 rfl
          have p3 : w41.cell? ⟨g26, 3, none⟩ = some (.slice Wa G.body.length xa) := H41.out.ms.at_ 6 rfl 3 rfl
          have p4 : w41.cell? ⟨g26, 4, none⟩ = some (.slice Wb 0 xb) := H41.out.ms.at_ 6 rfl 4 rfl
          have p5 : w41.cell? ⟨g26, 5, none⟩ = some (.slice Wc 0 xc) := H41.out.ms.at_ 6 rfl 5 rfl
          have p6 : w41.cell? ⟨g26, 6, none⟩ = some (.string G.next) := H41.out.ms.at_ 6 rfl 6 rfl
          have p7 : w41.cell? ⟨g26, 7, none⟩ = some (.bool G.more) := H41.out.ms.at_ 6 rfl 7 rfl
          have p8 : w41.cell? ⟨g26, 8, none⟩ = some (.int .i64 G.ge) := H41.out.ms.at_ 6 rfl 8 rfl
          have p9 : w41.cell? ⟨g26, 9, none⟩ = some (.int .i64 G.gc) := H41.out.ms.at_ 6 rfl 9 rfl
          have p10 : w41.cell? ⟨g26, 10, none⟩ = some (.int .i64 G.size) := H41.out.ms.at_ 6 rfl 10 rfl
          have p11 : w41.cell? ⟨g26, 11, none⟩ = some (.int .i64 G.h1) := H41.out.ms.at_ 6 rfl 11 rfl
          have p12 : w41.cell? ⟨g26, 12, none⟩ = some (.int .i64 G.h2) := H41.out.ms.at_ 6 rfl 12 rfl
          have p13 : w41.cell? ⟨g26, 13, none⟩ = some (.int .i64 G.h3) := H41.out.ms.at_ 6 rfl 13 rfl
          have p14 : w41.cell? ⟨g26, 14, none⟩ = some (.int .i64 G.h4) := H41.out.ms.at_ 6 rfl 14 rfl
          have s0 : w41.cell? ⟨g5, 0, none⟩ = some (.int .i64 G.kind) := H41.out.ms.at_ 2 rfl 0 rfl
          have s1 : w41.cell? ⟨g5, 1, none⟩ = some (.int .u64 (G.tag : Int)) := H41.out.ms.at_ 2 rfl 1 rfl
          have s2 : w41.cell? ⟨g5, 2, none⟩ = some (.int .i64 G.code) := H41.out.ms.at_ 2 rfl 2 rfl
          have s3 : w41.cell? ⟨g5, 3, none⟩ = some (.slice A5 P.body.length d5) := H41.out.ms.at_ 2 rfl 3 rfl
          have s4 : w41.cell? ⟨g5, 4, none⟩ = some (.slice none 0 0) := H41.out.ms.at_ 2 rfl 4 rfl
          have s5 : w41.cell? ⟨g5, 5, none⟩ = some (.slice none 0 0) := H41.out.ms.at_ 2 rfl 5 rfl
          have s6 : w41.cell? ⟨g5, 6, none⟩ = some (.string G.next) := H41.out.ms.at_ 2 rfl 6 rfl
          have s7 : w41.cell? ⟨g5, 7, none⟩ = some (.bool G.more) := H41.out.ms.at_ 2 rfl 7 rfl
          have s8 : w41.cell? ⟨g5, 8, none⟩ = some (.int .i64 G.ge) := H41.out.ms.at_ 2 rfl 8 rfl
          have s9 : w41.cell? ⟨g5, 9, none⟩ = some (.int .i64 G.gc) := H41.out.ms.at_ 2 rfl 9 rfl
          have s10 : w41.cell? ⟨g5, 10, none⟩ = some (.int .i64 G.size) := H41.out.ms.at_ 2 rfl 10 rfl
          have s11 : w41.cell? ⟨g5, 11, none⟩ = some (.int .i64 G.h1) := H41.out.ms.at_ 2 rfl 11 rfl
          have s12 : w41.cell? ⟨g5, 12, none⟩ = some (.int .i64 G.h2) := H41.out.ms.at_ 2 rfl 12 rfl
          have s13 : w41.cell? ⟨g5, 13, none⟩ = some (.int .i64 G.h3) := H41.out.ms.at_ 2 rfl 13 rfl
          have s14 : w41.cell? ⟨g5, 14, none⟩ = some (.int .i64 G.h4) := H41.out.ms.at_ 2 rfl 14 rfl
          go_wp2_with fail
          refine (equalAn_any w41 G.kind G.tag G.code G.next G.more G.ge G.gc G.size G.h1 G.h2 G.h3 G.h4 G.body G.keys G.groups Wa A5 Wb none Wc none _ _ xa d5 _ xb 0 _ xc 0 w41.heap.size (H41.out.ms.rd 17 rfl) (by rw [HGB.out.2.1]; exact H41.out.ms.rd 4 rfl) (H41.out.ms.rd 18 rfl) (by rw [HGB.out.2.2.1]; exact Rd.nil) (H41.out.ms.rd 19 rfl) (by rw [HGB.out.2.2.2.1]; exact Rd.nil) (Nat.le_refl _) (by omega) (by omega)).mono ?_
          rintro e w42 ⟨rfl, hbe⟩
          have H42 := Hd.mk (H41.out.below hbe)
          clear p0 s0 p1 s1 p2 s2 p3 s3 p4 s4 p5 s5 p6 s6 p7 s7 p8 s8 p9 s9 p10 s10 p11 s11 p12 s12 p13 s13 p14 s14
          clear hbe H41
          go_upto_if 197 with fail
          go_cut [] from 43 (fun wx => wx = w42)
          case first =>
           go_wp2_with fail
           go_meet
           case rel => rfl
          rw [hcut]
          clear hcut
          as_aux_lemma =>
           go_wp2_with (refine at_load (x := .tmp 2) ?_; refine wpList_load_row rfl 28 (.tmp 2) rfl b2 rfl 28 #[.int .i64 P.kind, .int .u64 (P.tag : Int), .string P.key, .string P.after, .int .i64 P.off, .int .i64 P.num, .int .i64 P.delim, .slice AR P.body.length cR] (0, 0) _ (H42.out.ms.box_ 0 rfl) Try.underlying28 rfl infoRq8 ?_)
           refine (fit_s HP.out (H42.out.ms.rd 0 rfl) HLR.out).mono ?_
           rintro e w43 ⟨Iqa, Iqd, rfl, hok, hlc, hbe⟩
           have H43 := Hd.mk (H42.out.rows hbe hok (List.pairwise_singleton _ _))
           have HLW := Hd.mk hlc
           clear hok hlc hbe H42
           go_upto_region 30 with (refine at_store (x := .tmp 28) ?_; refine wpList_boxed rfl 28 (.tmp 28) (.tmp 199) rfl w43.heap.size rfl #[.int .i64 P.kind, .int .u64 (P.tag : Int), .string P.key, .string P.after, .int .i64 P.off, .int .i64 P.num, .int .i64 P.delim, .slice Iqa P.body.length Iqd] rfl rfl infoRq8 rfl (by simp [Value.oneCell']) ?_; intro w44 hB)
           obtain ⟨g28, hg⟩ : ∃ q, w43.heap.size = q := ⟨_, rfl⟩
           have hbe : Below w43.heap.size w43 w44 := hB.out.2.1
           rw [hg] at hB
           have H44 := Hd.mk (H43.out.box hbe hg hB.out.1)
           try rw [hg]
           clear hB hbe hg H43
           as_aux_lemma =>
            go_wp2_with (refine at_load (x := .tmp 3) ?_; refine wpList_load_row rfl 43 (.tmp 3) rfl b3 rfl 43 #[.int .i64 Q.kind, .int .u64 (Q.tag : Int), .int .i64 Q.code, .slice AB Q.body.length dB, .slice AK Q.keys.length dK, .slice AG Q.groups.length dG, .string Q.next, .bool Q.more, .int .i64 Q.ge, .int .i64 Q.gc, .int .i64 Q.size, .int .i64 Q.h1, .int .i64 Q.h2, .int .i64 Q.h3, .int .i64 Q.h4] (0, 0) _ (H44.out.ms.box_ 1 rfl) Try.underlying43 rfl infoAn15 ?_)
            refine (fitAn_s HFL.out HQ.out (H44.out.ms.rd 1 rfl) (H44.out.ms.rd 2 rfl) (H44.out.ms.rd 3 rfl) HLA.out).mono ?_
            rintro e w45 ⟨Jqa, Jqd, Jqb, Jqe, Jqc, Jqf, rfl, hok, hap, hlc, hbe⟩
            have H45 := Hd.mk (H44.out.rows hbe hok hap)
            clear hok hap hlc hbe H44
            go_upto_region 31 with (refine at_store (x := .tmp 29) ?_; refine wpList_boxed rfl 43 (.tmp 29) (.tmp 201) rfl w45.heap.size rfl #[.int .i64 Q.kind, .int .u64 (Q.tag : Int), .int .i64 Q.code, .slice Jqa Q.body.length Jqd, .slice Jqb Q.keys.length Jqe, .slice Jqc Q.groups.length Jqf, .string Q.next, .bool Q.more, .int .i64 Q.ge, .int .i64 Q.gc, .int .i64 Q.size, .int .i64 Q.h1, .int .i64 Q.h2, .int .i64 Q.h3, .int .i64 Q.h4] rfl rfl infoAn15 rfl (by simp [Value.oneCell']) ?_; intro w46 hB)
            obtain ⟨g29, hg⟩ : ∃ q, w45.heap.size = q := ⟨_, rfl⟩
            have hbe : Below w45.heap.size w45 w46 := hB.out.2.1
            rw [hg] at hB
            have H46 := Hd.mk (H45.out.box hbe hg hB.out.1)
            try rw [hg]
            clear hB hbe hg H45
            as_aux_lemma =>
             go_wp2_with (refine at_load (x := .tmp 5) ?_; refine wpList_load_row rfl 43 (.tmp 5) rfl g5 rfl 43 #[.int .i64 G.kind, .int .u64 (G.tag : Int), .int .i64 G.code, .slice A5 P.body.length d5, .slice none 0 0, .slice none 0 0, .string G.next, .bool G.more, .int .i64 G.ge, .int .i64 G.gc, .int .i64 G.size, .int .i64 G.h1, .int .i64 G.h2, .int .i64 G.h3, .int .i64 G.h4] (0, 0) _ (H46.out.ms.box_ 2 rfl) Try.underlying43 rfl infoAn15 ?_)
             refine (fitAn_g HFL.out HGB.out.1 HGB.out.2.2.1 HGB.out.2.2.2.1 (by rw [HGB.out.2.1]; exact H46.out.ms.rd 4 rfl) HGB.out.2.2.2.2.2).mono ?_
             rintro e w47 ⟨Kqa, Kqd, Kqb, Kqe, Kqc, Kqf, rfl, hok, hap, hlc, hbe⟩
             have H47 := Hd.mk (H46.out.rows hbe hok hap)
             clear hok hap hlc hbe H46
             go_upto_region 32 with (refine at_store (x := .tmp 30) ?_; refine wpList_boxed rfl 43 (.tmp 30) (.tmp 203) rfl w47.heap.size rfl #[.int .i64 G.kind, .int .u64 (G.tag : Int), .int .i64 G.code, .slice Kqa G.body.length Kqd, .slice Kqb 0 Kqe, .slice Kqc 0 Kqf, .string G.next, .bool G.more, .int .i64 G.ge, .int .i64 G.gc, .int .i64 G.size, .int .i64 G.h1, .int .i64 G.h2, .int .i64 G.h3, .int .i64 G.h4] rfl rfl infoAn15 rfl (by simp [Value.oneCell']) ?_; intro w48 hB)
             obtain ⟨g30, hg⟩ : ∃ q, w47.heap.size = q := ⟨_, rfl⟩
             have hbe : Below w47.heap.size w47 w48 := hB.out.2.1
             rw [hg] at hB
             have H48 := Hd.mk (H47.out.box hbe hg hB.out.1)
             try rw [hg]
             clear hB hbe hg H47
             have H48b := Hd.mk (H48.out.re (RL2 := ((5, .slice AR P.body.length cR, cb P.body) :: (5, .slice AB Q.body.length dB, cb Q.body) :: (9, .slice AK Q.keys.length dK, cs Q.keys) :: (9, .slice AG Q.groups.length dG, cs Q.groups) :: (5, .slice A5 P.body.length d5, cb P.body) :: (5, .slice Af1 F1.length cf1, cb F1) :: (5, .slice Af2 F1.length cf2, cb F1) :: (5, .slice At1 T1.length ct1, cb T1) :: (5, .slice At2 T1.length ct2, cb T1) :: (5, .slice Au1 U1.length cu1, cb U1) :: (5, .slice Af3 F3.length cf3, cb F3) :: (5, .slice Ba P.body.length ea, cb P.body) :: (5, .slice Bb P.body.length eb, cb P.body) :: (5, .slice Bc P.body.length ec, cb P.body) :: (5, .slice Va Q.body.length va, cb Q.body) :: (9, .slice Vb Q.keys.length vb, cs Q.keys) :: (9, .slice Vc Q.groups.length vc, cs Q.groups) :: (5, .slice Wa G.body.length xa, cb G.body) :: (9, .slice Wb 0 xb, cs G.keys) :: (9, .slice Wc 0 xc, cs G.groups) :: (5, .slice Ya Q.body.length ya, cb Q.body) :: (9, .slice Yb Q.keys.length yb, cs Q.keys) :: (9, .slice Yc Q.groups.length yc, cs Q.groups) :: (5, .slice Za G.body.length za, cb G.body) :: (9, .slice Zb 0 zb, cs G.keys) :: (9, .slice Zc 0 zc, cs G.groups) :: (5, .slice Iqa P.body.length Iqd, cb P.body) :: (5, .slice Jqa Q.body.length Jqd, cb Q.body) :: (9, .slice Jqb Q.keys.length Jqe, cs Q.keys) :: (9, .slice Jqc Q.groups.length Jqf, cs Q.groups) :: (5, .slice Kqa G.body.length Kqd, cb G.body) :: (9, .slice Kqb 0 Kqe, cs G.keys) :: (9, .slice Kqc 0 Kqf, cs G.groups) :: [] : List Row)) (by kernel_rfl))
             clear H48
             have H48 := H48b
             clear H48b
             try simp only [Act.put]
             rename_i KB hkB KA hkA
             exact memory_tail HP HQ HGB H3r HLR HLA HLW HB H48 KB KA _ _ _ (by kernel_rfl) hkB hkA
end Go.Proofs.Ytbcmjjcbjojakaa
