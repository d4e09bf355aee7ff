/- Contract of the law's fitAnswer: the three lists of its answer lie apart. (tools/fitxgen.py prints it.) -/
import Derived.Test.YtbcmjjcbjojakaaPk15
import Derived.Test.YtbcmjjcbjojakaaAnX
namespace Go.Proofs.Ytbcmjjcbjojakaa
open Go.RowKit
set_option linter.unusedVariables false
set_option linter.unusedSimpArgs false
set_option maxRecDepth 20000 in
set_option maxHeartbeats 8000000 in
theorem fitAn_ap (w : World) (a : An) (kind code ge gc size h1 h2 h3 h4 : Int) (tag : Nat) (body : List Nat) (keys groups : List ByteArray) (next : ByteArray) (more : Bool) (ha : a = ⟨kind, tag, code, body, keys, groups, next, more, ge, gc, size, h1, h2, h3, h4⟩) (A A2 A3 : Option Addr) (n c n2 c2 n3 c3 : Nat)
  (hr : Rd w w.heap.size A n (cb body)) (hr2 : Rd w w.heap.size A2 n2 (cs keys)) (hr3 : Rd w w.heap.size A3 n3 (cs groups)) (hnc : n ≤ c) (hn2 : n2 ≤ 8796093022000) (hn3 : n3 ≤ 8796093022000) (hk : I64 kind) (hc : I64 code) (hx : next.size ≤ maxLen) (hs2 : ∀ t ∈ keys, t.size ≤ maxLen) (hs3 : ∀ t ∈ groups, t.size ≤ maxLen) :
  Calls Try.prog 34 #[.agg #[.int .i64 kind, .int .u64 (tag : Int), .int .i64 code, .slice A n c, .slice A2 n2 c2, .slice A3 n3 c3, .string next, .bool more, .int .i64 ge, .int .i64 gc, .int .i64 size, .int .i64 h1, .int .i64 h2, .int .i64 h3, .int .i64 h4]] w fun e w' => ∃ v1 v2 v3, e = .returned (.agg (anW (fitAnP a) v1 v2 v3).cells.toArray) ∧ (anW (fitAnP a) v1 v2 v3).ok w' w.heap.size ∧ RAp (anW (fitAnP a) v1 v2 v3) ∧ Below w.heap.size w w' := by
 obtain ⟨c1, hc1⟩ : ∃ c1 : List Value, c1 = [.int .i64 kind, .int .u64 (tag : Int), .int .i64 code, .slice A n c, .slice A2 n2 c2, .slice A3 n3 c3, .string next, .bool more, .int .i64 ge, .int .i64 gc, .int .i64 size, .int .i64 h1, .int .i64 h2, .int .i64 h3, .int .i64 h4] := ⟨_, rfl⟩
 obtain ⟨w0, hw0⟩ : ∃ U, (w.alloc (.cells #[.int .i64 kind, .int .u64 (tag : Int), .int .i64 code, .slice A n c, .slice A2 n2 c2, .slice A3 n3 c3, .string next, .bool more, .int .i64 ge, .int .i64 gc, .int .i64 size, .int .i64 h1, .int .i64 h2, .int .i64 h3, .int .i64 h4] 43)).alloc (.cells #[.int .i64 0, .int .u64 0, .int .i64 0, .slice none 0 0, .slice none 0 0, .slice none 0 0, .string emS, .bool false, .int .i64 0, .int .i64 0, .int .i64 0, .int .i64 0, .int .i64 0, .int .i64 0, .int .i64 0] 43) = U := ⟨_, rfl⟩
 obtain ⟨g1, hg1⟩ : ∃ q, w.heap.size = q := ⟨_, rfl⟩
 obtain ⟨gx, hgx⟩ : ∃ q, g1 + 1 = q := ⟨_, rfl⟩
 have H0 : Hd (Fa w w0 43 g1 gx c1 anZ) := ⟨by rw [← hw0, ← hgx, ← hg1, hc1]; exact Fa.start w _ _ _⟩
 have HH : Hd (Rd w w.heap.size A n (cb body) ∧ n ≤ c ∧ I64 kind ∧ I64 code ∧ next.size ≤ maxLen ∧ Rd w w.heap.size A2 n2 (cs keys) ∧ Rd w w.heap.size A3 n3 (cs groups) ∧ n2 ≤ 8796093022000 ∧ n3 ≤ 8796093022000 ∧ (∀ t ∈ keys, t.size ≤ maxLen) ∧ (∀ t ∈ groups, t.size ≤ maxLen) ∧ c1 = [.int .i64 kind, .int .u64 (tag : Int), .int .i64 code, .slice A n c, .slice A2 n2 c2, .slice A3 n3 c3, .string next, .bool more, .int .i64 ge, .int .i64 gc, .int .i64 size, .int .i64 h1, .int .i64 h2, .int .i64 h3, .int .i64 h4]) := ⟨hr, hnc, hk, hc, hx, hr2, hr3, hn2, hn3, hs2, hs3, hc1⟩
 have HR := Hd.mk ha
 clear hr hnc hk hc hx hr2 hr3 hn2 hn3 hs2 hs3 hc1 ha
 go_enter Try.func34, Try.ntmps34
 go_upto_region 1 with fail
 have hz : (⟨#[]⟩ : ByteArray) = emS := rfl
 try rw [hz]
 rw [hw0]
 try rw [hg1]
 try rw [hgx]
 clear hw0 hz hg1 hgx
 have c0 : w0.cell? ⟨g1, 0, none⟩ = some (.int .i64 kind) := H0.out.at1 0 (by rw [HH.out.2.2.2.2.2.2.2.2.2.2.2]; rfl)
 obtain ⟨b0, hb0⟩ : ∃ b, decide (kind < 1 ∨ 8 < kind) = b := ⟨_, rfl⟩
 have HB0 := Hd.mk hb0
 clear hb0
 go_cut [11] from 4 (fun r wx => r = .bool b0 ∧ wx = w0)
 case first =>
  by_cases q1 : kind < 1
  ·have e1 : b0 = true := by rw [← HB0.out]; exact decide_eq_true (.inl q1)
   subst e1
   go_wp2_with fail
   go_meet
   case rel => exact ⟨rfl, rfl⟩
  ·by_cases q2 : 8 < kind
   ·have e1 : b0 = true := by rw [← HB0.out]; exact decide_eq_true (.inr q2)
    subst e1
    go_wp2_with fail
    go_meet
    case rel => exact ⟨rfl, rfl⟩
   ·have e1 : b0 = false := by rw [← HB0.out]; exact decide_eq_false (fun h => h.elim q1 q2)
    subst e1
    go_wp2_with fail
    go_meet
    case rel => exact ⟨rfl, rfl⟩
 case rest =>
  obtain ⟨hr11, hwc⟩ := hcut
  subst hr11
  rw [hwc]
  clear hwc
  go_upto_if 11 with fail
  go_cut [] from 12 (fun wx => Fa w wx 43 g1 gx (c1.set 0 (.int .i64 (fitK kind))) anZ)
  case first =>
   rcases hbb : b0 with _ | _
   ·subst hbb
    go_wp2_with fail
    go_meet
    case rel =>
     have hs : c1.set 0 (.int .i64 (fitK kind)) = c1 := by rw [fitK_in (of_decide_eq_false HB0.out), HH.out.2.2.2.2.2.2.2.2.2.2.2]; rfl
     rw [hs]; exact H0.out
   ·subst hbb
    go_wp2_with fail
    refine (pick_any w0 kind 8 HH.out.2.2.1 (by omega) (by omega)).mono ?_
    rintro e wz ⟨rfl, hw9⟩
    subst hw9
    have h88 := And.intro (Int.emod_nonneg kind (b := 8) (by omega)) (Int.emod_lt_of_pos kind (b := 8) (by omega))
    obtain ⟨m, hm⟩ : ∃ m, kind % 8 = m := ⟨_, rfl⟩
    rw [hm] at h88 ⊢
    have hwr : IntKind.i64.wrap (1 + m) = 1 + m := by rw [IntKind.wrap_i64]; omega
    have z0 := H0.out.z1 0
    go_upto_region 3 with fail
    go_meet
    case rel =>
     rw [fitK_out (of_decide_eq_true HB0.out), hm]
     (first | exact H0.out.set 0 _ | (simp only [hwr]; exact H0.out.set 0 _))
  case rest =>
   have HF := Hd.mk hcut
   clear hcut H0 c0 HB0
   obtain ⟨wK, hw1⟩ : ∃ U : World, U = wc := ⟨_, rfl⟩
   subst hw1
   obtain ⟨K, hK⟩ : ∃ K, fitK kind = K := ⟨_, rfl⟩
   have HK := Hd.mk hK
   have hKl := fitK_le kind
   rw [hK] at hKl HF
   have HKL := Hd.mk hKl
   clear hK hKl
   obtain ⟨c2_, hc2_⟩ : ∃ c2, c1.set 0 (.int .i64 K) = c2 := ⟨_, rfl⟩
   rw [hc2_] at HF
   have HC2 : Hd (c2_ = [.int .i64 K, .int .u64 (tag : Int), .int .i64 code, .slice A n c, .slice A2 n2 c2, .slice A3 n3 c3, .string next, .bool more, .int .i64 ge, .int .i64 gc, .int .i64 size, .int .i64 h1, .int .i64 h2, .int .i64 h3, .int .i64 h4]) := ⟨by rw [← hc2_, HH.out.2.2.2.2.2.2.2.2.2.2.2]; rfl⟩
   clear hc2_
   have c2c : wK.cell? ⟨g1, 2, none⟩ = some (.int .i64 code) := HF.out.at1 2 (by rw [HC2.out]; rfl)
   obtain ⟨b1, hb1⟩ : ∃ b, decide (code < 0 ∨ 2147483647 < code) = b := ⟨_, rfl⟩
   have HB1 := Hd.mk hb1
   clear hb1
   go_upto_region 3 with fail
   go_cut [24] from 4 (fun r wx => r = .bool b1 ∧ wx = wK)
   case first =>
    by_cases q1 : code < 0
    ·have e1 : b1 = true := by rw [← HB1.out]; exact decide_eq_true (.inl q1)
     subst e1
     go_wp2_with fail
     go_meet
     case rel => exact ⟨rfl, rfl⟩
    ·by_cases q2 : 2147483647 < code
     ·have e1 : b1 = true := by rw [← HB1.out]; exact decide_eq_true (.inr q2)
      subst e1
      go_wp2_with fail
      go_meet
      case rel => exact ⟨rfl, rfl⟩
     ·have e1 : b1 = false := by rw [← HB1.out]; exact decide_eq_false (fun h => h.elim q1 q2)
      subst e1
      go_wp2_with fail
      go_meet
      case rel => exact ⟨rfl, rfl⟩
   case rest =>
    obtain ⟨hr24, hwc⟩ := hcut
    subst hr24
    rw [hwc]
    clear hwc
    go_upto_if 24 with fail
    go_cut [] from 25 (fun wx => Fa w wx 43 g1 gx (c2_.set 2 (.int .i64 (fitC code))) anZ)
    case first =>
     rcases hbb : b1 with _ | _
     ·subst hbb
      go_wp2_with fail
      go_meet
      case rel =>
       have hs : c2_.set 2 (.int .i64 (fitC code)) = c2_ := by rw [fitC_in (of_decide_eq_false HB1.out), HC2.out]; rfl
       rw [hs]; exact HF.out
     ·subst hbb
      go_wp2_with fail
      refine (pick_any _ code 2147483648 HH.out.2.2.2.1 (by omega) (by omega)).mono ?_
      rintro e wz ⟨rfl, hw9⟩
      subst hw9
      have h88 := And.intro (Int.emod_nonneg code (b := 2147483648) (by omega)) (Int.emod_lt_of_pos code (b := 2147483648) (by omega))
      obtain ⟨m, hm⟩ : ∃ m, code % 2147483648 = m := ⟨_, rfl⟩
      rw [hm] at h88 ⊢
      have z0 := HF.out.z1 2
      go_upto_region 5 with fail
      go_meet
      case rel =>
       rw [fitC_out (of_decide_eq_true HB1.out), hm]
       exact HF.out.set 2 _
    case rest =>
     have HG := Hd.mk hcut
     clear hcut HF c2c HB1
     obtain ⟨C, hC⟩ : ∃ C, fitC code = C := ⟨_, rfl⟩
     have HC := Hd.mk hC
     rw [hC] at HG
     clear hC
     obtain ⟨cK, hcK⟩ : ∃ c2, c2_.set 2 (.int .i64 C) = c2 := ⟨_, rfl⟩
     rw [hcK] at HG
     have HCK : Hd (cK = [.int .i64 K, .int .u64 (tag : Int), .int .i64 C, .slice A n c, .slice A2 n2 c2, .slice A3 n3 c3, .string next, .bool more, .int .i64 ge, .int .i64 gc, .int .i64 size, .int .i64 h1, .int .i64 h2, .int .i64 h3, .int .i64 h4]) := ⟨by rw [← hcK, HC2.out]; rfl⟩
     clear hcK HC2
     obtain ⟨wf, hwf⟩ : ∃ U : World, U = wc := ⟨_, rfl⟩
     subst hwf
     have c0 : wf.cell? ⟨g1, 0, none⟩ = some (.int .i64 K) := HG.out.at1 0 (by rw [HCK.out]; rfl)
     have c1_ : wf.cell? ⟨g1, 1, none⟩ = some (.int .u64 (tag : Int)) := HG.out.at1 1 (by rw [HCK.out]; rfl)
     have c2_ : wf.cell? ⟨g1, 2, none⟩ = some (.int .i64 C) := HG.out.at1 2 (by rw [HCK.out]; rfl)
     go_upto_region 6 with (refine at_store (x := .tmp 3) ?_; refine wpList_boxed rfl 43 (.tmp 3) (.tmp 35) rfl wf.heap.size rfl (anW (⟨K, tag, C, [], [], [], emS, false, 0, 0, 0, 0, 0, 0, 0⟩ : An) (.slice none 0 0) (.slice none 0 0) (.slice none 0 0)).cells.toArray rfl rfl infoAn15 rfl (by simp [anW, Value.oneCell']) ?_; intro w3 hB3)
     have HS := Hd.mk (HG.out.boxed (M := anW (⟨K, tag, C, [], [], [], emS, false, 0, 0, 0, 0, 0, 0, 0⟩ : An) (.slice none 0 0) (.slice none 0 0) (.slice none 0 0)) hB3.out (fun b => anW_ok0 _ _ rfl rfl rfl b))
     obtain ⟨gq, hgq⟩ : ∃ q, wf.heap.size = q := ⟨_, rfl⟩
     rw [hgq] at HS ⊢
     clear hB3 hgq HG c0 c1_ c2_
     have hcase : K = 1 ∨ K = 2 ∨ K = 3 ∨ K = 4 ∨ K = 5 ∨ K = 6 ∨ K = 7 ∨ K = 8 := by have := HKL.out; omega
     clear HKL
     rcases hcase with rfl | rfl | rfl | rfl | rfl | rfl | rfl | rfl
     ·skip
      by_cases hC0 : C = 0
      ·have HNZ := Hd.mk hC0
       subst hC0
       have f0 : w3.cell? ⟨g1, 0, none⟩ = some (.int .i64 1) := HS.out.at1 0 (by rw [HCK.out]; rfl)
       have f2 : w3.cell? ⟨g1, 2, none⟩ = some (.int .i64 0) := HS.out.at1 2 (by rw [HCK.out]; rfl)
       go_upto_region 22 with fail
       have hbx := HS.out.box
       have hrs := HS.out.res
       go_wp2_with (first | (refine at_load (x := .tmp 3) ?_; refine wpList_load_row rfl 43 (.tmp 3) rfl gq rfl 43 (anW (⟨1, tag, 0, [], [], [], emS, false, 0, 0, 0, 0, 0, 0, 0⟩ : An) (.slice none 0 0) (.slice none 0 0) (.slice none 0 0)).cells.toArray (0, 0) _ hbx Try.underlying43 rfl infoAn15 ?_) | (refine at_store (x := .tmp 2) ?_; refine wpList_stored rfl 43 (.tmp 2) (.tmp 97) rfl gx (anW (⟨1, tag, 0, [], [], [], emS, false, 0, 0, 0, 0, 0, 0, 0⟩ : An) (.slice none 0 0) (.slice none 0 0) (.slice none 0 0)).cells.toArray rfl rfl 43 anZ hrs infoAn15 rfl (by simp [anW, Value.oneCell']) ?_; intro wy hBy))
       (try simp only [Exit.inBlock, Exit.then])
       refine bodyPost_ret (results_cell1 rfl _ _ gx 43 (anW (⟨1, tag, 0, [], [], [], emS, false, 0, 0, 0, 0, 0, 0, 0⟩ : An) (.slice none 0 0) (.slice none 0 0) (.slice none 0 0)).cells.toArray (0, 0) _ rfl hBy.out.1 Try.underlying43 rfl infoAn15) rfl ?_
       have hRR : fitAnP a = (⟨1, tag, 0, [], [], [], emS, false, 0, 0, 0, 0, 0, 0, 0⟩ : An) := by rw [HR.out]; unfold fitAnP; simp only [HK.out, HC.out]; simp
       rw [hRR]
       exact ⟨(.slice none 0 0), (.slice none 0 0), (.slice none 0 0), rfl, (HS.out.done hBy.out.2.1).1, an_ap (by first | exact Apart.nil _ | exact (Apart.nil _).symm | exact HAP.out) (by first | exact Apart.nil _ | exact (Apart.nil _).symm | exact HAP.out) (by first | exact Apart.nil _ | exact (Apart.nil _).symm | exact HAP.out), (HS.out.done hBy.out.2.1).2⟩
      ·have HNZ := Hd.mk hC0
       have f0 : w3.cell? ⟨g1, 0, none⟩ = some (.int .i64 1) := HS.out.at1 0 (by rw [HCK.out]; rfl)
       have f2 : w3.cell? ⟨g1, 2, none⟩ = some (.int .i64 C) := HS.out.at1 2 (by rw [HCK.out]; rfl)
       go_upto_region 9 with fail
       have hbx := HS.out.box
       have hrs := HS.out.res
       go_wp2_with (first | (refine at_load (x := .tmp 3) ?_; refine wpList_load_row rfl 43 (.tmp 3) rfl gq rfl 43 (anW (⟨1, tag, C, [], [], [], emS, false, 0, 0, 0, 0, 0, 0, 0⟩ : An) (.slice none 0 0) (.slice none 0 0) (.slice none 0 0)).cells.toArray (0, 0) _ hbx Try.underlying43 rfl infoAn15 ?_) | (refine at_store (x := .tmp 2) ?_; refine wpList_stored rfl 43 (.tmp 2) (.tmp 45) rfl gx (anW (⟨1, tag, C, [], [], [], emS, false, 0, 0, 0, 0, 0, 0, 0⟩ : An) (.slice none 0 0) (.slice none 0 0) (.slice none 0 0)).cells.toArray rfl rfl 43 anZ hrs infoAn15 rfl (by simp [anW, Value.oneCell']) ?_; intro wy hBy))
       (try simp only [Exit.inBlock, Exit.then])
       refine bodyPost_ret (results_cell1 rfl _ _ gx 43 (anW (⟨1, tag, C, [], [], [], emS, false, 0, 0, 0, 0, 0, 0, 0⟩ : An) (.slice none 0 0) (.slice none 0 0) (.slice none 0 0)).cells.toArray (0, 0) _ rfl hBy.out.1 Try.underlying43 rfl infoAn15) rfl ?_
       have hRR : fitAnP a = (⟨1, tag, C, [], [], [], emS, false, 0, 0, 0, 0, 0, 0, 0⟩ : An) := by rw [HR.out]; unfold fitAnP; simp only [HK.out, HC.out]; simp [HNZ.out]
       rw [hRR]
       exact ⟨(.slice none 0 0), (.slice none 0 0), (.slice none 0 0), rfl, (HS.out.done hBy.out.2.1).1, an_ap (by first | exact Apart.nil _ | exact (Apart.nil _).symm | exact HAP.out) (by first | exact Apart.nil _ | exact (Apart.nil _).symm | exact HAP.out) (by first | exact Apart.nil _ | exact (Apart.nil _).symm | exact HAP.out), (HS.out.done hBy.out.2.1).2⟩
     ·skip
      by_cases hC0 : C = 0
      ·have HNZ := Hd.mk hC0
       subst hC0
       have f0 : w3.cell? ⟨g1, 0, none⟩ = some (.int .i64 2) := HS.out.at1 0 (by rw [HCK.out]; rfl)
       have f2 : w3.cell? ⟨g1, 2, none⟩ = some (.int .i64 0) := HS.out.at1 2 (by rw [HCK.out]; rfl)
       have f3 : w3.cell? ⟨g1, 3, none⟩ = some (.slice A n c) := HS.out.at1 3 (by rw [HCK.out]; rfl)
       obtain ⟨hcut, hrc⟩ := cut_run A n c 1048576 body ((HH.out.1.below HS.out.be)) HH.out.2.1
       have HRC := Hd.mk hrc
       clear hrc
       by_cases hle : n ≤ 1048576
       ·skip
        have hmn : min n 1048576 = n := by omega
        rw [hmn] at hcut HRC
        clear hmn
        have HLE := Hd.mk hle
        have hle2 : (n : Int) ≤ 1048576 := by omega
        clear hle
        go_wp2_with fail
        refine (copyB_any w3 A n c w.heap.size _ HRC.out (by have := HLE.out; omega)).mono ?_
        rintro e wz ⟨A3', c3', rfl, ho3, hn3, hb3⟩
        have HZ := Hd.mk (HS.out.below hb3)
        have HO3 : Hd (wz.ownsRow (gq + 1) 5 1 (.slice A3' n c3') (body.take 1048576).length (cb (body.take 1048576))) := ⟨by have hl := HRC.out.1; rw [cb_length] at hl; rw [hl]; exact own_base ho3 HS.out.lt⟩
        clear ho3 hn3 hb3 hcut HS f0 f2 f3
        have f0 : wz.cell? ⟨g1, 0, none⟩ = some (.int .i64 2) := HZ.out.at1 0 (by rw [HCK.out]; rfl)
        have f2 : wz.cell? ⟨g1, 2, none⟩ = some (.int .i64 0) := HZ.out.at1 2 (by rw [HCK.out]; rfl)
        have z9 := HZ.out.z3 3
        have d9 : wz.cell? ⟨gq, 3, none⟩ = some (.slice none 0 0) := HZ.out.at3 3 rfl
        go_upto_region 12 with fail
        obtain ⟨u1, hu1⟩ : ∃ U, wz.setCell ⟨gq, 3, none⟩ (.slice A3' n c3') = U := ⟨_, rfl⟩
        rw [hu1]
        have HU1 : Hd (Ft w u1 43 g1 gx gq cK anZ (anW (⟨2, tag, 0, (body.take 1048576), [], [], emS, false, 0, 0, 0, 0, 0, 0, 0⟩ : An) (.slice A3' n c3') (.slice none 0 0) (.slice none 0 0))) := ⟨by rw [← hu1]; exact HZ.out.set (M' := (anW (⟨2, tag, 0, (body.take 1048576), [], [], emS, false, 0, 0, 0, 0, 0, 0, 0⟩ : An) (.slice A3' n c3') (.slice none 0 0) (.slice none 0 0))) 3 _ rfl (anW_ok HO3.out (anW_r HZ.out.ok).2.1 (anW_r HZ.out.ok).2.2)⟩
        clear hu1 z9 d9 HZ f0 f2
        have f0 : u1.cell? ⟨g1, 0, none⟩ = some (.int .i64 2) := HU1.out.at1 0 (by rw [HCK.out]; rfl)
        have f2 : u1.cell? ⟨g1, 2, none⟩ = some (.int .i64 0) := HU1.out.at1 2 (by rw [HCK.out]; rfl)
        go_upto_region 22 with fail
        have hbx := HU1.out.box
        have hrs := HU1.out.res
        go_wp2_with (first | (refine at_load (x := .tmp 3) ?_; refine wpList_load_row rfl 43 (.tmp 3) rfl gq rfl 43 (anW (⟨2, tag, 0, (body.take 1048576), [], [], emS, false, 0, 0, 0, 0, 0, 0, 0⟩ : An) (.slice A3' n c3') (.slice none 0 0) (.slice none 0 0)).cells.toArray (0, 0) _ hbx Try.underlying43 rfl infoAn15 ?_) | (refine at_store (x := .tmp 2) ?_; refine wpList_stored rfl 43 (.tmp 2) (.tmp 97) rfl gx (anW (⟨2, tag, 0, (body.take 1048576), [], [], emS, false, 0, 0, 0, 0, 0, 0, 0⟩ : An) (.slice A3' n c3') (.slice none 0 0) (.slice none 0 0)).cells.toArray rfl rfl 43 anZ hrs infoAn15 rfl (by simp [anW, Value.oneCell']) ?_; intro wy hBy))
        (try simp only [Exit.inBlock, Exit.then])
        refine bodyPost_ret (results_cell1 rfl _ _ gx 43 (anW (⟨2, tag, 0, (body.take 1048576), [], [], emS, false, 0, 0, 0, 0, 0, 0, 0⟩ : An) (.slice A3' n c3') (.slice none 0 0) (.slice none 0 0)).cells.toArray (0, 0) _ rfl hBy.out.1 Try.underlying43 rfl infoAn15) rfl ?_
        have hRR : fitAnP a = (⟨2, tag, 0, (body.take 1048576), [], [], emS, false, 0, 0, 0, 0, 0, 0, 0⟩ : An) := by rw [HR.out]; unfold fitAnP; simp only [HK.out, HC.out]; simp
        rw [hRR]
        exact ⟨(.slice A3' n c3'), (.slice none 0 0), (.slice none 0 0), rfl, (HU1.out.done hBy.out.2.1).1, an_ap (by first | exact Apart.nil _ | exact (Apart.nil _).symm | exact HAP.out) (by first | exact Apart.nil _ | exact (Apart.nil _).symm | exact HAP.out) (by first | exact Apart.nil _ | exact (Apart.nil _).symm | exact HAP.out), (HU1.out.done hBy.out.2.1).2⟩
       ·skip
        have hmn : min n 1048576 = 1048576 := by omega
        rw [hmn] at hcut HRC
        clear hmn
        have hcut2 : (Instr.slice 26 (.slice A n c) none (some (.int .i64 1048576)) none).run Try.prog w3 = .ok (.slice A 1048576 c) w3 := hcut
        have HLE := Hd.mk hle
        have hle2 : ¬ ((n : Int) ≤ 1048576) := by omega
        have hle3 : ¬ ((n : Int) < 1048576) := by omega
        clear hle
        go_wp2_with fail
        refine (copyB_any w3 A 1048576 c w.heap.size _ HRC.out (by have := HLE.out; omega)).mono ?_
        rintro e wz ⟨A3', c3', rfl, ho3, hn3, hb3⟩
        have HZ := Hd.mk (HS.out.below hb3)
        have HO3 : Hd (wz.ownsRow (gq + 1) 5 1 (.slice A3' 1048576 c3') (body.take 1048576).length (cb (body.take 1048576))) := ⟨by have hl := HRC.out.1; rw [cb_length] at hl; rw [hl]; exact own_base ho3 HS.out.lt⟩
        clear ho3 hn3 hb3 hcut HS f0 f2 f3
        have f0 : wz.cell? ⟨g1, 0, none⟩ = some (.int .i64 2) := HZ.out.at1 0 (by rw [HCK.out]; rfl)
        have f2 : wz.cell? ⟨g1, 2, none⟩ = some (.int .i64 0) := HZ.out.at1 2 (by rw [HCK.out]; rfl)
        have z9 := HZ.out.z3 3
        have d9 : wz.cell? ⟨gq, 3, none⟩ = some (.slice none 0 0) := HZ.out.at3 3 rfl
        go_upto_region 12 with fail
        obtain ⟨u1, hu1⟩ : ∃ U, wz.setCell ⟨gq, 3, none⟩ (.slice A3' 1048576 c3') = U := ⟨_, rfl⟩
        rw [hu1]
        have HU1 : Hd (Ft w u1 43 g1 gx gq cK anZ (anW (⟨2, tag, 0, (body.take 1048576), [], [], emS, false, 0, 0, 0, 0, 0, 0, 0⟩ : An) (.slice A3' 1048576 c3') (.slice none 0 0) (.slice none 0 0))) := ⟨by rw [← hu1]; exact HZ.out.set (M' := (anW (⟨2, tag, 0, (body.take 1048576), [], [], emS, false, 0, 0, 0, 0, 0, 0, 0⟩ : An) (.slice A3' 1048576 c3') (.slice none 0 0) (.slice none 0 0))) 3 _ rfl (anW_ok HO3.out (anW_r HZ.out.ok).2.1 (anW_r HZ.out.ok).2.2)⟩
        clear hu1 z9 d9 HZ f0 f2
        have f0 : u1.cell? ⟨g1, 0, none⟩ = some (.int .i64 2) := HU1.out.at1 0 (by rw [HCK.out]; rfl)
        have f2 : u1.cell? ⟨g1, 2, none⟩ = some (.int .i64 0) := HU1.out.at1 2 (by rw [HCK.out]; rfl)
        go_upto_region 22 with fail
        have hbx := HU1.out.box
        have hrs := HU1.out.res
        go_wp2_with (first | (refine at_load (x := .tmp 3) ?_; refine wpList_load_row rfl 43 (.tmp 3) rfl gq rfl 43 (anW (⟨2, tag, 0, (body.take 1048576), [], [], emS, false, 0, 0, 0, 0, 0, 0, 0⟩ : An) (.slice A3' 1048576 c3') (.slice none 0 0) (.slice none 0 0)).cells.toArray (0, 0) _ hbx Try.underlying43 rfl infoAn15 ?_) | (refine at_store (x := .tmp 2) ?_; refine wpList_stored rfl 43 (.tmp 2) (.tmp 97) rfl gx (anW (⟨2, tag, 0, (body.take 1048576), [], [], emS, false, 0, 0, 0, 0, 0, 0, 0⟩ : An) (.slice A3' 1048576 c3') (.slice none 0 0) (.slice none 0 0)).cells.toArray rfl rfl 43 anZ hrs infoAn15 rfl (by simp [anW, Value.oneCell']) ?_; intro wy hBy))
        (try simp only [Exit.inBlock, Exit.then])
        refine bodyPost_ret (results_cell1 rfl _ _ gx 43 (anW (⟨2, tag, 0, (body.take 1048576), [], [], emS, false, 0, 0, 0, 0, 0, 0, 0⟩ : An) (.slice A3' 1048576 c3') (.slice none 0 0) (.slice none 0 0)).cells.toArray (0, 0) _ rfl hBy.out.1 Try.underlying43 rfl infoAn15) rfl ?_
        have hRR : fitAnP a = (⟨2, tag, 0, (body.take 1048576), [], [], emS, false, 0, 0, 0, 0, 0, 0, 0⟩ : An) := by rw [HR.out]; unfold fitAnP; simp only [HK.out, HC.out]; simp
        rw [hRR]
        exact ⟨(.slice A3' 1048576 c3'), (.slice none 0 0), (.slice none 0 0), rfl, (HU1.out.done hBy.out.2.1).1, an_ap (by first | exact Apart.nil _ | exact (Apart.nil _).symm | exact HAP.out) (by first | exact Apart.nil _ | exact (Apart.nil _).symm | exact HAP.out) (by first | exact Apart.nil _ | exact (Apart.nil _).symm | exact HAP.out), (HU1.out.done hBy.out.2.1).2⟩
      ·have HNZ := Hd.mk hC0
       have f0 : w3.cell? ⟨g1, 0, none⟩ = some (.int .i64 2) := HS.out.at1 0 (by rw [HCK.out]; rfl)
       have f2 : w3.cell? ⟨g1, 2, none⟩ = some (.int .i64 C) := HS.out.at1 2 (by rw [HCK.out]; rfl)
       go_upto_region 9 with fail
       have hbx := HS.out.box
       have hrs := HS.out.res
       go_wp2_with (first | (refine at_load (x := .tmp 3) ?_; refine wpList_load_row rfl 43 (.tmp 3) rfl gq rfl 43 (anW (⟨2, tag, C, [], [], [], emS, false, 0, 0, 0, 0, 0, 0, 0⟩ : An) (.slice none 0 0) (.slice none 0 0) (.slice none 0 0)).cells.toArray (0, 0) _ hbx Try.underlying43 rfl infoAn15 ?_) | (refine at_store (x := .tmp 2) ?_; refine wpList_stored rfl 43 (.tmp 2) (.tmp 45) rfl gx (anW (⟨2, tag, C, [], [], [], emS, false, 0, 0, 0, 0, 0, 0, 0⟩ : An) (.slice none 0 0) (.slice none 0 0) (.slice none 0 0)).cells.toArray rfl rfl 43 anZ hrs infoAn15 rfl (by simp [anW, Value.oneCell']) ?_; intro wy hBy))
       (try simp only [Exit.inBlock, Exit.then])
       refine bodyPost_ret (results_cell1 rfl _ _ gx 43 (anW (⟨2, tag, C, [], [], [], emS, false, 0, 0, 0, 0, 0, 0, 0⟩ : An) (.slice none 0 0) (.slice none 0 0) (.slice none 0 0)).cells.toArray (0, 0) _ rfl hBy.out.1 Try.underlying43 rfl infoAn15) rfl ?_
       have hRR : fitAnP a = (⟨2, tag, C, [], [], [], emS, false, 0, 0, 0, 0, 0, 0, 0⟩ : An) := by rw [HR.out]; unfold fitAnP; simp only [HK.out, HC.out]; simp [HNZ.out]
       rw [hRR]
       exact ⟨(.slice none 0 0), (.slice none 0 0), (.slice none 0 0), rfl, (HS.out.done hBy.out.2.1).1, an_ap (by first | exact Apart.nil _ | exact (Apart.nil _).symm | exact HAP.out) (by first | exact Apart.nil _ | exact (Apart.nil _).symm | exact HAP.out) (by first | exact Apart.nil _ | exact (Apart.nil _).symm | exact HAP.out), (HS.out.done hBy.out.2.1).2⟩
     ·skip
      by_cases hC0 : C = 0
      ·have HNZ := Hd.mk hC0
       subst hC0
       have f0 : w3.cell? ⟨g1, 0, none⟩ = some (.int .i64 3) := HS.out.at1 0 (by rw [HCK.out]; rfl)
       have f2 : w3.cell? ⟨g1, 2, none⟩ = some (.int .i64 0) := HS.out.at1 2 (by rw [HCK.out]; rfl)
       have f3 : w3.cell? ⟨g1, 3, none⟩ = some (.slice A n c) := HS.out.at1 3 (by rw [HCK.out]; rfl)
       obtain ⟨hcut, hrc⟩ := cut_run A n c 1048576 body ((HH.out.1.below HS.out.be)) HH.out.2.1
       have HRC := Hd.mk hrc
       clear hrc
       by_cases hle : n ≤ 1048576
       ·skip
        have hmn : min n 1048576 = n := by omega
        rw [hmn] at hcut HRC
        clear hmn
        have HLE := Hd.mk hle
        have hle2 : (n : Int) ≤ 1048576 := by omega
        clear hle
        go_wp2_with fail
        refine (copyB_any w3 A n c w.heap.size _ HRC.out (by have := HLE.out; omega)).mono ?_
        rintro e wz ⟨A3', c3', rfl, ho3, hn3, hb3⟩
        have HZ := Hd.mk (HS.out.below hb3)
        have HO3 : Hd (wz.ownsRow (gq + 1) 5 1 (.slice A3' n c3') (body.take 1048576).length (cb (body.take 1048576))) := ⟨by have hl := HRC.out.1; rw [cb_length] at hl; rw [hl]; exact own_base ho3 HS.out.lt⟩
        clear ho3 hn3 hb3 hcut HS f0 f2 f3
        have f0 : wz.cell? ⟨g1, 0, none⟩ = some (.int .i64 3) := HZ.out.at1 0 (by rw [HCK.out]; rfl)
        have f2 : wz.cell? ⟨g1, 2, none⟩ = some (.int .i64 0) := HZ.out.at1 2 (by rw [HCK.out]; rfl)
        have z9 := HZ.out.z3 3
        have d9 : wz.cell? ⟨gq, 3, none⟩ = some (.slice none 0 0) := HZ.out.at3 3 rfl
        go_upto_region 12 with fail
        obtain ⟨u1, hu1⟩ : ∃ U, wz.setCell ⟨gq, 3, none⟩ (.slice A3' n c3') = U := ⟨_, rfl⟩
        rw [hu1]
        have HU1 : Hd (Ft w u1 43 g1 gx gq cK anZ (anW (⟨3, tag, 0, (body.take 1048576), [], [], emS, false, 0, 0, 0, 0, 0, 0, 0⟩ : An) (.slice A3' n c3') (.slice none 0 0) (.slice none 0 0))) := ⟨by rw [← hu1]; exact HZ.out.set (M' := (anW (⟨3, tag, 0, (body.take 1048576), [], [], emS, false, 0, 0, 0, 0, 0, 0, 0⟩ : An) (.slice A3' n c3') (.slice none 0 0) (.slice none 0 0))) 3 _ rfl (anW_ok HO3.out (anW_r HZ.out.ok).2.1 (anW_r HZ.out.ok).2.2)⟩
        clear hu1 z9 d9 HZ f0 f2
        have f0 : u1.cell? ⟨g1, 0, none⟩ = some (.int .i64 3) := HU1.out.at1 0 (by rw [HCK.out]; rfl)
        have f2 : u1.cell? ⟨g1, 2, none⟩ = some (.int .i64 0) := HU1.out.at1 2 (by rw [HCK.out]; rfl)
        go_upto_region 22 with fail
        have hbx := HU1.out.box
        have hrs := HU1.out.res
        go_wp2_with (first | (refine at_load (x := .tmp 3) ?_; refine wpList_load_row rfl 43 (.tmp 3) rfl gq rfl 43 (anW (⟨3, tag, 0, (body.take 1048576), [], [], emS, false, 0, 0, 0, 0, 0, 0, 0⟩ : An) (.slice A3' n c3') (.slice none 0 0) (.slice none 0 0)).cells.toArray (0, 0) _ hbx Try.underlying43 rfl infoAn15 ?_) | (refine at_store (x := .tmp 2) ?_; refine wpList_stored rfl 43 (.tmp 2) (.tmp 97) rfl gx (anW (⟨3, tag, 0, (body.take 1048576), [], [], emS, false, 0, 0, 0, 0, 0, 0, 0⟩ : An) (.slice A3' n c3') (.slice none 0 0) (.slice none 0 0)).cells.toArray rfl rfl 43 anZ hrs infoAn15 rfl (by simp [anW, Value.oneCell']) ?_; intro wy hBy))
        (try simp only [Exit.inBlock, Exit.then])
        refine bodyPost_ret (results_cell1 rfl _ _ gx 43 (anW (⟨3, tag, 0, (body.take 1048576), [], [], emS, false, 0, 0, 0, 0, 0, 0, 0⟩ : An) (.slice A3' n c3') (.slice none 0 0) (.slice none 0 0)).cells.toArray (0, 0) _ rfl hBy.out.1 Try.underlying43 rfl infoAn15) rfl ?_
        have hRR : fitAnP a = (⟨3, tag, 0, (body.take 1048576), [], [], emS, false, 0, 0, 0, 0, 0, 0, 0⟩ : An) := by rw [HR.out]; unfold fitAnP; simp only [HK.out, HC.out]; simp
        rw [hRR]
        exact ⟨(.slice A3' n c3'), (.slice none 0 0), (.slice none 0 0), rfl, (HU1.out.done hBy.out.2.1).1, an_ap (by first | exact Apart.nil _ | exact (Apart.nil _).symm | exact HAP.out) (by first | exact Apart.nil _ | exact (Apart.nil _).symm | exact HAP.out) (by first | exact Apart.nil _ | exact (Apart.nil _).symm | exact HAP.out), (HU1.out.done hBy.out.2.1).2⟩
       ·skip
        have hmn : min n 1048576 = 1048576 := by omega
        rw [hmn] at hcut HRC
        clear hmn
        have hcut2 : (Instr.slice 26 (.slice A n c) none (some (.int .i64 1048576)) none).run Try.prog w3 = .ok (.slice A 1048576 c) w3 := hcut
        have HLE := Hd.mk hle
        have hle2 : ¬ ((n : Int) ≤ 1048576) := by omega
        have hle3 : ¬ ((n : Int) < 1048576) := by omega
        clear hle
        go_wp2_with fail
        refine (copyB_any w3 A 1048576 c w.heap.size _ HRC.out (by have := HLE.out; omega)).mono ?_
        rintro e wz ⟨A3', c3', rfl, ho3, hn3, hb3⟩
        have HZ := Hd.mk (HS.out.below hb3)
        have HO3 : Hd (wz.ownsRow (gq + 1) 5 1 (.slice A3' 1048576 c3') (body.take 1048576).length (cb (body.take 1048576))) := ⟨by have hl := HRC.out.1; rw [cb_length] at hl; rw [hl]; exact own_base ho3 HS.out.lt⟩
        clear ho3 hn3 hb3 hcut HS f0 f2 f3
        have f0 : wz.cell? ⟨g1, 0, none⟩ = some (.int .i64 3) := HZ.out.at1 0 (by rw [HCK.out]; rfl)
        have f2 : wz.cell? ⟨g1, 2, none⟩ = some (.int .i64 0) := HZ.out.at1 2 (by rw [HCK.out]; rfl)
        have z9 := HZ.out.z3 3
        have d9 : wz.cell? ⟨gq, 3, none⟩ = some (.slice none 0 0) := HZ.out.at3 3 rfl
        go_upto_region 12 with fail
        obtain ⟨u1, hu1⟩ : ∃ U, wz.setCell ⟨gq, 3, none⟩ (.slice A3' 1048576 c3') = U := ⟨_, rfl⟩
        rw [hu1]
        have HU1 : Hd (Ft w u1 43 g1 gx gq cK anZ (anW (⟨3, tag, 0, (body.take 1048576), [], [], emS, false, 0, 0, 0, 0, 0, 0, 0⟩ : An) (.slice A3' 1048576 c3') (.slice none 0 0) (.slice none 0 0))) := ⟨by rw [← hu1]; exact HZ.out.set (M' := (anW (⟨3, tag, 0, (body.take 1048576), [], [], emS, false, 0, 0, 0, 0, 0, 0, 0⟩ : An) (.slice A3' 1048576 c3') (.slice none 0 0) (.slice none 0 0))) 3 _ rfl (anW_ok HO3.out (anW_r HZ.out.ok).2.1 (anW_r HZ.out.ok).2.2)⟩
        clear hu1 z9 d9 HZ f0 f2
        have f0 : u1.cell? ⟨g1, 0, none⟩ = some (.int .i64 3) := HU1.out.at1 0 (by rw [HCK.out]; rfl)
        have f2 : u1.cell? ⟨g1, 2, none⟩ = some (.int .i64 0) := HU1.out.at1 2 (by rw [HCK.out]; rfl)
        go_upto_region 22 with fail
        have hbx := HU1.out.box
        have hrs := HU1.out.res
        go_wp2_with (first | (refine at_load (x := .tmp 3) ?_; refine wpList_load_row rfl 43 (.tmp 3) rfl gq rfl 43 (anW (⟨3, tag, 0, (body.take 1048576), [], [], emS, false, 0, 0, 0, 0, 0, 0, 0⟩ : An) (.slice A3' 1048576 c3') (.slice none 0 0) (.slice none 0 0)).cells.toArray (0, 0) _ hbx Try.underlying43 rfl infoAn15 ?_) | (refine at_store (x := .tmp 2) ?_; refine wpList_stored rfl 43 (.tmp 2) (.tmp 97) rfl gx (anW (⟨3, tag, 0, (body.take 1048576), [], [], emS, false, 0, 0, 0, 0, 0, 0, 0⟩ : An) (.slice A3' 1048576 c3') (.slice none 0 0) (.slice none 0 0)).cells.toArray rfl rfl 43 anZ hrs infoAn15 rfl (by simp [anW, Value.oneCell']) ?_; intro wy hBy))
        (try simp only [Exit.inBlock, Exit.then])
        refine bodyPost_ret (results_cell1 rfl _ _ gx 43 (anW (⟨3, tag, 0, (body.take 1048576), [], [], emS, false, 0, 0, 0, 0, 0, 0, 0⟩ : An) (.slice A3' 1048576 c3') (.slice none 0 0) (.slice none 0 0)).cells.toArray (0, 0) _ rfl hBy.out.1 Try.underlying43 rfl infoAn15) rfl ?_
        have hRR : fitAnP a = (⟨3, tag, 0, (body.take 1048576), [], [], emS, false, 0, 0, 0, 0, 0, 0, 0⟩ : An) := by rw [HR.out]; unfold fitAnP; simp only [HK.out, HC.out]; simp
        rw [hRR]
        exact ⟨(.slice A3' 1048576 c3'), (.slice none 0 0), (.slice none 0 0), rfl, (HU1.out.done hBy.out.2.1).1, an_ap (by first | exact Apart.nil _ | exact (Apart.nil _).symm | exact HAP.out) (by first | exact Apart.nil _ | exact (Apart.nil _).symm | exact HAP.out) (by first | exact Apart.nil _ | exact (Apart.nil _).symm | exact HAP.out), (HU1.out.done hBy.out.2.1).2⟩
      ·have HNZ := Hd.mk hC0
       have f0 : w3.cell? ⟨g1, 0, none⟩ = some (.int .i64 3) := HS.out.at1 0 (by rw [HCK.out]; rfl)
       have f2 : w3.cell? ⟨g1, 2, none⟩ = some (.int .i64 C) := HS.out.at1 2 (by rw [HCK.out]; rfl)
       go_upto_region 9 with fail
       have hbx := HS.out.box
       have hrs := HS.out.res
       go_wp2_with (first | (refine at_load (x := .tmp 3) ?_; refine wpList_load_row rfl 43 (.tmp 3) rfl gq rfl 43 (anW (⟨3, tag, C, [], [], [], emS, false, 0, 0, 0, 0, 0, 0, 0⟩ : An) (.slice none 0 0) (.slice none 0 0) (.slice none 0 0)).cells.toArray (0, 0) _ hbx Try.underlying43 rfl infoAn15 ?_) | (refine at_store (x := .tmp 2) ?_; refine wpList_stored rfl 43 (.tmp 2) (.tmp 45) rfl gx (anW (⟨3, tag, C, [], [], [], emS, false, 0, 0, 0, 0, 0, 0, 0⟩ : An) (.slice none 0 0) (.slice none 0 0) (.slice none 0 0)).cells.toArray rfl rfl 43 anZ hrs infoAn15 rfl (by simp [anW, Value.oneCell']) ?_; intro wy hBy))
       (try simp only [Exit.inBlock, Exit.then])
       refine bodyPost_ret (results_cell1 rfl _ _ gx 43 (anW (⟨3, tag, C, [], [], [], emS, false, 0, 0, 0, 0, 0, 0, 0⟩ : An) (.slice none 0 0) (.slice none 0 0) (.slice none 0 0)).cells.toArray (0, 0) _ rfl hBy.out.1 Try.underlying43 rfl infoAn15) rfl ?_
       have hRR : fitAnP a = (⟨3, tag, C, [], [], [], emS, false, 0, 0, 0, 0, 0, 0, 0⟩ : An) := by rw [HR.out]; unfold fitAnP; simp only [HK.out, HC.out]; simp [HNZ.out]
       rw [hRR]
       exact ⟨(.slice none 0 0), (.slice none 0 0), (.slice none 0 0), rfl, (HS.out.done hBy.out.2.1).1, an_ap (by first | exact Apart.nil _ | exact (Apart.nil _).symm | exact HAP.out) (by first | exact Apart.nil _ | exact (Apart.nil _).symm | exact HAP.out) (by first | exact Apart.nil _ | exact (Apart.nil _).symm | exact HAP.out), (HS.out.done hBy.out.2.1).2⟩
     ·skip
      by_cases hC0 : C = 0
      ·have HNZ := Hd.mk hC0
       subst hC0
       have f0 : w3.cell? ⟨g1, 0, none⟩ = some (.int .i64 4) := HS.out.at1 0 (by rw [HCK.out]; rfl)
       have f2 : w3.cell? ⟨g1, 2, none⟩ = some (.int .i64 0) := HS.out.at1 2 (by rw [HCK.out]; rfl)
       have hrg : w3.rangeAt g1 8 [.int .i64 ge, .int .i64 gc] := HS.out.range1o 8 2 (by rw [HCK.out]; rfl)
       have zz0 := HS.out.z3 8
       have dd0 : w3.cell? ⟨gq, 8, none⟩ = some (.int .i64 0) := HS.out.at3 8 rfl
       have zz1 := HS.out.z3 9
       have dd1 : w3.cell? ⟨gq, 9, none⟩ = some (.int .i64 0) := HS.out.at3 9 rfl
       go_upto_region 14 with (refine at_load (x := .tmp 66) ?_; refine wpList_load_mid rfl 39 (.tmp 66) rfl g1 8 rfl [.int .i64 ge, .int .i64 gc] _ hrg Try.underlying39 rfl infoGen2 ?_)
       obtain ⟨u1, hu1⟩ : ∃ U, ((w3.setCell ⟨gq, 8, none⟩ (.int .i64 ge)).setCell ⟨gq, 9, none⟩ (.int .i64 gc)) = U := ⟨_, rfl⟩
       rw [hu1]
       have HU1 : Hd (Ft w u1 43 g1 gx gq cK anZ (anW (⟨4, tag, 0, [], [], [], emS, false, ge, gc, 0, 0, 0, 0, 0⟩ : An) (.slice none 0 0) (.slice none 0 0) (.slice none 0 0))) := ⟨by rw [← hu1]; exact HS.out.sets 8 [.int .i64 ge, .int .i64 gc] (M' := (anW (⟨4, tag, 0, [], [], [], emS, false, ge, gc, 0, 0, 0, 0, 0⟩ : An) (.slice none 0 0) (.slice none 0 0) (.slice none 0 0))) rfl⟩
       clear hu1 hrg zz0 dd0 zz1 dd1 HS f0 f2
       have f0 : u1.cell? ⟨g1, 0, none⟩ = some (.int .i64 4) := HU1.out.at1 0 (by rw [HCK.out]; rfl)
       have f2 : u1.cell? ⟨g1, 2, none⟩ = some (.int .i64 0) := HU1.out.at1 2 (by rw [HCK.out]; rfl)
       have f10 : u1.cell? ⟨g1, 10, none⟩ = some (.int .i64 size) := HU1.out.at1 10 (by rw [HCK.out]; rfl)
       have z9 := HU1.out.z3 10
       have d9 : u1.cell? ⟨gq, 10, none⟩ = some (.int .i64 0) := HU1.out.at3 10 rfl
       go_upto_region 15 with fail
       obtain ⟨u2, hu2⟩ : ∃ U, u1.setCell ⟨gq, 10, none⟩ (.int .i64 size) = U := ⟨_, rfl⟩
       rw [hu2]
       have HU2 : Hd (Ft w u2 43 g1 gx gq cK anZ (anW (⟨4, tag, 0, [], [], [], emS, false, ge, gc, size, 0, 0, 0, 0⟩ : An) (.slice none 0 0) (.slice none 0 0) (.slice none 0 0))) := ⟨by rw [← hu2]; exact HU1.out.set (M' := (anW (⟨4, tag, 0, [], [], [], emS, false, ge, gc, size, 0, 0, 0, 0⟩ : An) (.slice none 0 0) (.slice none 0 0) (.slice none 0 0))) 10 _ rfl (fun r hr => HU1.out.ok r hr)⟩
       clear hu2 z9 d9 HU1 f0 f2 f10
       have f0 : u2.cell? ⟨g1, 0, none⟩ = some (.int .i64 4) := HU2.out.at1 0 (by rw [HCK.out]; rfl)
       have f2 : u2.cell? ⟨g1, 2, none⟩ = some (.int .i64 0) := HU2.out.at1 2 (by rw [HCK.out]; rfl)
       go_upto_region 22 with fail
       have hbx := HU2.out.box
       have hrs := HU2.out.res
       go_wp2_with (first | (refine at_load (x := .tmp 3) ?_; refine wpList_load_row rfl 43 (.tmp 3) rfl gq rfl 43 (anW (⟨4, tag, 0, [], [], [], emS, false, ge, gc, size, 0, 0, 0, 0⟩ : An) (.slice none 0 0) (.slice none 0 0) (.slice none 0 0)).cells.toArray (0, 0) _ hbx Try.underlying43 rfl infoAn15 ?_) | (refine at_store (x := .tmp 2) ?_; refine wpList_stored rfl 43 (.tmp 2) (.tmp 97) rfl gx (anW (⟨4, tag, 0, [], [], [], emS, false, ge, gc, size, 0, 0, 0, 0⟩ : An) (.slice none 0 0) (.slice none 0 0) (.slice none 0 0)).cells.toArray rfl rfl 43 anZ hrs infoAn15 rfl (by simp [anW, Value.oneCell']) ?_; intro wy hBy))
       (try simp only [Exit.inBlock, Exit.then])
       refine bodyPost_ret (results_cell1 rfl _ _ gx 43 (anW (⟨4, tag, 0, [], [], [], emS, false, ge, gc, size, 0, 0, 0, 0⟩ : An) (.slice none 0 0) (.slice none 0 0) (.slice none 0 0)).cells.toArray (0, 0) _ rfl hBy.out.1 Try.underlying43 rfl infoAn15) rfl ?_
       have hRR : fitAnP a = (⟨4, tag, 0, [], [], [], emS, false, ge, gc, size, 0, 0, 0, 0⟩ : An) := by rw [HR.out]; unfold fitAnP; simp only [HK.out, HC.out]; simp
       rw [hRR]
       exact ⟨(.slice none 0 0), (.slice none 0 0), (.slice none 0 0), rfl, (HU2.out.done hBy.out.2.1).1, an_ap (by first | exact Apart.nil _ | exact (Apart.nil _).symm | exact HAP.out) (by first | exact Apart.nil _ | exact (Apart.nil _).symm | exact HAP.out) (by first | exact Apart.nil _ | exact (Apart.nil _).symm | exact HAP.out), (HU2.out.done hBy.out.2.1).2⟩
      ·have HNZ := Hd.mk hC0
       have f0 : w3.cell? ⟨g1, 0, none⟩ = some (.int .i64 4) := HS.out.at1 0 (by rw [HCK.out]; rfl)
       have f2 : w3.cell? ⟨g1, 2, none⟩ = some (.int .i64 C) := HS.out.at1 2 (by rw [HCK.out]; rfl)
       go_upto_region 9 with fail
       have hbx := HS.out.box
       have hrs := HS.out.res
       go_wp2_with (first | (refine at_load (x := .tmp 3) ?_; refine wpList_load_row rfl 43 (.tmp 3) rfl gq rfl 43 (anW (⟨4, tag, C, [], [], [], emS, false, 0, 0, 0, 0, 0, 0, 0⟩ : An) (.slice none 0 0) (.slice none 0 0) (.slice none 0 0)).cells.toArray (0, 0) _ hbx Try.underlying43 rfl infoAn15 ?_) | (refine at_store (x := .tmp 2) ?_; refine wpList_stored rfl 43 (.tmp 2) (.tmp 45) rfl gx (anW (⟨4, tag, C, [], [], [], emS, false, 0, 0, 0, 0, 0, 0, 0⟩ : An) (.slice none 0 0) (.slice none 0 0) (.slice none 0 0)).cells.toArray rfl rfl 43 anZ hrs infoAn15 rfl (by simp [anW, Value.oneCell']) ?_; intro wy hBy))
       (try simp only [Exit.inBlock, Exit.then])
       refine bodyPost_ret (results_cell1 rfl _ _ gx 43 (anW (⟨4, tag, C, [], [], [], emS, false, 0, 0, 0, 0, 0, 0, 0⟩ : An) (.slice none 0 0) (.slice none 0 0) (.slice none 0 0)).cells.toArray (0, 0) _ rfl hBy.out.1 Try.underlying43 rfl infoAn15) rfl ?_
       have hRR : fitAnP a = (⟨4, tag, C, [], [], [], emS, false, 0, 0, 0, 0, 0, 0, 0⟩ : An) := by rw [HR.out]; unfold fitAnP; simp only [HK.out, HC.out]; simp [HNZ.out]
       rw [hRR]
       exact ⟨(.slice none 0 0), (.slice none 0 0), (.slice none 0 0), rfl, (HS.out.done hBy.out.2.1).1, an_ap (by first | exact Apart.nil _ | exact (Apart.nil _).symm | exact HAP.out) (by first | exact Apart.nil _ | exact (Apart.nil _).symm | exact HAP.out) (by first | exact Apart.nil _ | exact (Apart.nil _).symm | exact HAP.out), (HS.out.done hBy.out.2.1).2⟩
     ·skip
      by_cases hC0 : C = 0
      ·have HNZ := Hd.mk hC0
       subst hC0
       have f0 : w3.cell? ⟨g1, 0, none⟩ = some (.int .i64 5) := HS.out.at1 0 (by rw [HCK.out]; rfl)
       have f2 : w3.cell? ⟨g1, 2, none⟩ = some (.int .i64 0) := HS.out.at1 2 (by rw [HCK.out]; rfl)
       go_upto_region 22 with fail
       have hbx := HS.out.box
       have hrs := HS.out.res
       go_wp2_with (first | (refine at_load (x := .tmp 3) ?_; refine wpList_load_row rfl 43 (.tmp 3) rfl gq rfl 43 (anW (⟨5, tag, 0, [], [], [], emS, false, 0, 0, 0, 0, 0, 0, 0⟩ : An) (.slice none 0 0) (.slice none 0 0) (.slice none 0 0)).cells.toArray (0, 0) _ hbx Try.underlying43 rfl infoAn15 ?_) | (refine at_store (x := .tmp 2) ?_; refine wpList_stored rfl 43 (.tmp 2) (.tmp 97) rfl gx (anW (⟨5, tag, 0, [], [], [], emS, false, 0, 0, 0, 0, 0, 0, 0⟩ : An) (.slice none 0 0) (.slice none 0 0) (.slice none 0 0)).cells.toArray rfl rfl 43 anZ hrs infoAn15 rfl (by simp [anW, Value.oneCell']) ?_; intro wy hBy))
       (try simp only [Exit.inBlock, Exit.then])
       refine bodyPost_ret (results_cell1 rfl _ _ gx 43 (anW (⟨5, tag, 0, [], [], [], emS, false, 0, 0, 0, 0, 0, 0, 0⟩ : An) (.slice none 0 0) (.slice none 0 0) (.slice none 0 0)).cells.toArray (0, 0) _ rfl hBy.out.1 Try.underlying43 rfl infoAn15) rfl ?_
       have hRR : fitAnP a = (⟨5, tag, 0, [], [], [], emS, false, 0, 0, 0, 0, 0, 0, 0⟩ : An) := by rw [HR.out]; unfold fitAnP; simp only [HK.out, HC.out]; simp
       rw [hRR]
       exact ⟨(.slice none 0 0), (.slice none 0 0), (.slice none 0 0), rfl, (HS.out.done hBy.out.2.1).1, an_ap (by first | exact Apart.nil _ | exact (Apart.nil _).symm | exact HAP.out) (by first | exact Apart.nil _ | exact (Apart.nil _).symm | exact HAP.out) (by first | exact Apart.nil _ | exact (Apart.nil _).symm | exact HAP.out), (HS.out.done hBy.out.2.1).2⟩
      ·have HNZ := Hd.mk hC0
       have f0 : w3.cell? ⟨g1, 0, none⟩ = some (.int .i64 5) := HS.out.at1 0 (by rw [HCK.out]; rfl)
       have f2 : w3.cell? ⟨g1, 2, none⟩ = some (.int .i64 C) := HS.out.at1 2 (by rw [HCK.out]; rfl)
       go_upto_region 9 with fail
       have hbx := HS.out.box
       have hrs := HS.out.res
       go_wp2_with (first | (refine at_load (x := .tmp 3) ?_; refine wpList_load_row rfl 43 (.tmp 3) rfl gq rfl 43 (anW (⟨5, tag, C, [], [], [], emS, false, 0, 0, 0, 0, 0, 0, 0⟩ : An) (.slice none 0 0) (.slice none 0 0) (.slice none 0 0)).cells.toArray (0, 0) _ hbx Try.underlying43 rfl infoAn15 ?_) | (refine at_store (x := .tmp 2) ?_; refine wpList_stored rfl 43 (.tmp 2) (.tmp 45) rfl gx (anW (⟨5, tag, C, [], [], [], emS, false, 0, 0, 0, 0, 0, 0, 0⟩ : An) (.slice none 0 0) (.slice none 0 0) (.slice none 0 0)).cells.toArray rfl rfl 43 anZ hrs infoAn15 rfl (by simp [anW, Value.oneCell']) ?_; intro wy hBy))
       (try simp only [Exit.inBlock, Exit.then])
       refine bodyPost_ret (results_cell1 rfl _ _ gx 43 (anW (⟨5, tag, C, [], [], [], emS, false, 0, 0, 0, 0, 0, 0, 0⟩ : An) (.slice none 0 0) (.slice none 0 0) (.slice none 0 0)).cells.toArray (0, 0) _ rfl hBy.out.1 Try.underlying43 rfl infoAn15) rfl ?_
       have hRR : fitAnP a = (⟨5, tag, C, [], [], [], emS, false, 0, 0, 0, 0, 0, 0, 0⟩ : An) := by rw [HR.out]; unfold fitAnP; simp only [HK.out, HC.out]; simp [HNZ.out]
       rw [hRR]
       exact ⟨(.slice none 0 0), (.slice none 0 0), (.slice none 0 0), rfl, (HS.out.done hBy.out.2.1).1, an_ap (by first | exact Apart.nil _ | exact (Apart.nil _).symm | exact HAP.out) (by first | exact Apart.nil _ | exact (Apart.nil _).symm | exact HAP.out) (by first | exact Apart.nil _ | exact (Apart.nil _).symm | exact HAP.out), (HS.out.done hBy.out.2.1).2⟩
     ·skip
      by_cases hC0 : C = 0
      ·have HNZ := Hd.mk hC0
       subst hC0
       have f0 : w3.cell? ⟨g1, 0, none⟩ = some (.int .i64 6) := HS.out.at1 0 (by rw [HCK.out]; rfl)
       have f2 : w3.cell? ⟨g1, 2, none⟩ = some (.int .i64 0) := HS.out.at1 2 (by rw [HCK.out]; rfl)
       have f4 : w3.cell? ⟨g1, 4, none⟩ = some (.slice A2 n2 c2) := HS.out.at1 4 (by rw [HCK.out]; rfl)
       go_wp2_with fail
       refine (cutTexts_any w3 A2 n2 c2 w.heap.size keys (HH.out.2.2.2.2.2.1.below HS.out.be) HH.out.2.2.2.2.2.2.2.1 HS.out.be.size 65536 (by omega) HH.out.2.2.2.2.2.2.2.2.2.1).mono ?_
       rintro e y1 ⟨vt, rfl, hot, hbt⟩
       obtain ⟨At1, ct1, hvt, _⟩ := own_form hot
       obtain ⟨lt1, hlt1⟩ : ∃ l, (textsP keys 65536).length = l := ⟨_, rfl⟩
       rw [hlt1] at hvt
       subst hvt
       have HOy1 : Hd (y1.ownsRow (gq + 1) 9 1 (.slice At1 lt1 ct1) (textsP keys 65536).length (cs (textsP keys 65536))) := ⟨own_base hot HS.out.lt⟩
       have Hy1 := Hd.mk (HS.out.below hbt)
       clear hot hbt HS hlt1 f0 f2 f4
       have f0 : y1.cell? ⟨g1, 0, none⟩ = some (.int .i64 6) := Hy1.out.at1 0 (by rw [HCK.out]; rfl)
       have f2 : y1.cell? ⟨g1, 2, none⟩ = some (.int .i64 0) := Hy1.out.at1 2 (by rw [HCK.out]; rfl)
       have z9 := Hy1.out.z3 4
       have d9 : y1.cell? ⟨gq, 4, none⟩ = some (.slice none 0 0) := Hy1.out.at3 4 rfl
       go_upto_region 17 with fail
       obtain ⟨u2, hu2⟩ : ∃ U, y1.setCell ⟨gq, 4, none⟩ (.slice At1 lt1 ct1) = U := ⟨_, rfl⟩
       rw [hu2]
       have HU2 : Hd (Ft w u2 43 g1 gx gq cK anZ (anW (⟨6, tag, 0, [], (textsP keys 65536), [], emS, false, 0, 0, 0, 0, 0, 0, 0⟩ : An) (.slice none 0 0) (.slice At1 lt1 ct1) (.slice none 0 0))) := ⟨by rw [← hu2]; exact Hy1.out.set (M' := (anW (⟨6, tag, 0, [], (textsP keys 65536), [], emS, false, 0, 0, 0, 0, 0, 0, 0⟩ : An) (.slice none 0 0) (.slice At1 lt1 ct1) (.slice none 0 0))) 4 _ rfl (anW_ok (anW_r Hy1.out.ok).1 HOy1.out (anW_r Hy1.out.ok).2.2)⟩
       clear hu2 z9 d9 Hy1 f0 f2
       have f0 : u2.cell? ⟨g1, 0, none⟩ = some (.int .i64 6) := HU2.out.at1 0 (by rw [HCK.out]; rfl)
       have f2 : u2.cell? ⟨g1, 2, none⟩ = some (.int .i64 0) := HU2.out.at1 2 (by rw [HCK.out]; rfl)
       go_upto_region 22 with fail
       have hbx := HU2.out.box
       have hrs := HU2.out.res
       go_wp2_with (first | (refine at_load (x := .tmp 3) ?_; refine wpList_load_row rfl 43 (.tmp 3) rfl gq rfl 43 (anW (⟨6, tag, 0, [], (textsP keys 65536), [], emS, false, 0, 0, 0, 0, 0, 0, 0⟩ : An) (.slice none 0 0) (.slice At1 lt1 ct1) (.slice none 0 0)).cells.toArray (0, 0) _ hbx Try.underlying43 rfl infoAn15 ?_) | (refine at_store (x := .tmp 2) ?_; refine wpList_stored rfl 43 (.tmp 2) (.tmp 97) rfl gx (anW (⟨6, tag, 0, [], (textsP keys 65536), [], emS, false, 0, 0, 0, 0, 0, 0, 0⟩ : An) (.slice none 0 0) (.slice At1 lt1 ct1) (.slice none 0 0)).cells.toArray rfl rfl 43 anZ hrs infoAn15 rfl (by simp [anW, Value.oneCell']) ?_; intro wy hBy))
       (try simp only [Exit.inBlock, Exit.then])
       refine bodyPost_ret (results_cell1 rfl _ _ gx 43 (anW (⟨6, tag, 0, [], (textsP keys 65536), [], emS, false, 0, 0, 0, 0, 0, 0, 0⟩ : An) (.slice none 0 0) (.slice At1 lt1 ct1) (.slice none 0 0)).cells.toArray (0, 0) _ rfl hBy.out.1 Try.underlying43 rfl infoAn15) rfl ?_
       have hRR : fitAnP a = (⟨6, tag, 0, [], (textsP keys 65536), [], emS, false, 0, 0, 0, 0, 0, 0, 0⟩ : An) := by rw [HR.out]; unfold fitAnP; simp only [HK.out, HC.out]; simp
       rw [hRR]
       exact ⟨(.slice none 0 0), (.slice At1 lt1 ct1), (.slice none 0 0), rfl, (HU2.out.done hBy.out.2.1).1, an_ap (by first | exact Apart.nil _ | exact (Apart.nil _).symm | exact HAP.out) (by first | exact Apart.nil _ | exact (Apart.nil _).symm | exact HAP.out) (by first | exact Apart.nil _ | exact (Apart.nil _).symm | exact HAP.out), (HU2.out.done hBy.out.2.1).2⟩
      ·have HNZ := Hd.mk hC0
       have f0 : w3.cell? ⟨g1, 0, none⟩ = some (.int .i64 6) := HS.out.at1 0 (by rw [HCK.out]; rfl)
       have f2 : w3.cell? ⟨g1, 2, none⟩ = some (.int .i64 C) := HS.out.at1 2 (by rw [HCK.out]; rfl)
       go_upto_region 9 with fail
       have hbx := HS.out.box
       have hrs := HS.out.res
       go_wp2_with (first | (refine at_load (x := .tmp 3) ?_; refine wpList_load_row rfl 43 (.tmp 3) rfl gq rfl 43 (anW (⟨6, tag, C, [], [], [], emS, false, 0, 0, 0, 0, 0, 0, 0⟩ : An) (.slice none 0 0) (.slice none 0 0) (.slice none 0 0)).cells.toArray (0, 0) _ hbx Try.underlying43 rfl infoAn15 ?_) | (refine at_store (x := .tmp 2) ?_; refine wpList_stored rfl 43 (.tmp 2) (.tmp 45) rfl gx (anW (⟨6, tag, C, [], [], [], emS, false, 0, 0, 0, 0, 0, 0, 0⟩ : An) (.slice none 0 0) (.slice none 0 0) (.slice none 0 0)).cells.toArray rfl rfl 43 anZ hrs infoAn15 rfl (by simp [anW, Value.oneCell']) ?_; intro wy hBy))
       (try simp only [Exit.inBlock, Exit.then])
       refine bodyPost_ret (results_cell1 rfl _ _ gx 43 (anW (⟨6, tag, C, [], [], [], emS, false, 0, 0, 0, 0, 0, 0, 0⟩ : An) (.slice none 0 0) (.slice none 0 0) (.slice none 0 0)).cells.toArray (0, 0) _ rfl hBy.out.1 Try.underlying43 rfl infoAn15) rfl ?_
       have hRR : fitAnP a = (⟨6, tag, C, [], [], [], emS, false, 0, 0, 0, 0, 0, 0, 0⟩ : An) := by rw [HR.out]; unfold fitAnP; simp only [HK.out, HC.out]; simp [HNZ.out]
       rw [hRR]
       exact ⟨(.slice none 0 0), (.slice none 0 0), (.slice none 0 0), rfl, (HS.out.done hBy.out.2.1).1, an_ap (by first | exact Apart.nil _ | exact (Apart.nil _).symm | exact HAP.out) (by first | exact Apart.nil _ | exact (Apart.nil _).symm | exact HAP.out) (by first | exact Apart.nil _ | exact (Apart.nil _).symm | exact HAP.out), (HS.out.done hBy.out.2.1).2⟩
     ·skip
      by_cases hC0 : C = 0
      ·have HNZ := Hd.mk hC0
       subst hC0
       have f0 : w3.cell? ⟨g1, 0, none⟩ = some (.int .i64 7) := HS.out.at1 0 (by rw [HCK.out]; rfl)
       have f2 : w3.cell? ⟨g1, 2, none⟩ = some (.int .i64 0) := HS.out.at1 2 (by rw [HCK.out]; rfl)
       have f4 : w3.cell? ⟨g1, 4, none⟩ = some (.slice A2 n2 c2) := HS.out.at1 4 (by rw [HCK.out]; rfl)
       go_wp2_with fail
       refine (cutTexts_any w3 A2 n2 c2 w.heap.size keys (HH.out.2.2.2.2.2.1.below HS.out.be) HH.out.2.2.2.2.2.2.2.1 HS.out.be.size 1000 (by omega) HH.out.2.2.2.2.2.2.2.2.2.1).mono ?_
       rintro e y1 ⟨vt, rfl, hot, hbt⟩
       obtain ⟨At1, ct1, hvt, _⟩ := own_form hot
       obtain ⟨lt1, hlt1⟩ : ∃ l, (textsP keys 1000).length = l := ⟨_, rfl⟩
       rw [hlt1] at hvt
       subst hvt
       have HOy1 : Hd (y1.ownsRow (gq + 1) 9 1 (.slice At1 lt1 ct1) (textsP keys 1000).length (cs (textsP keys 1000))) := ⟨own_base hot HS.out.lt⟩
       have Hy1 := Hd.mk (HS.out.below hbt)
       clear hot hbt HS hlt1 f0 f2 f4
       have f0 : y1.cell? ⟨g1, 0, none⟩ = some (.int .i64 7) := Hy1.out.at1 0 (by rw [HCK.out]; rfl)
       have f2 : y1.cell? ⟨g1, 2, none⟩ = some (.int .i64 0) := Hy1.out.at1 2 (by rw [HCK.out]; rfl)
       have z9 := Hy1.out.z3 4
       have d9 : y1.cell? ⟨gq, 4, none⟩ = some (.slice none 0 0) := Hy1.out.at3 4 rfl
       go_upto_region 19 with fail
       obtain ⟨u2, hu2⟩ : ∃ U, y1.setCell ⟨gq, 4, none⟩ (.slice At1 lt1 ct1) = U := ⟨_, rfl⟩
       rw [hu2]
       have HU2 : Hd (Ft w u2 43 g1 gx gq cK anZ (anW (⟨7, tag, 0, [], (textsP keys 1000), [], emS, false, 0, 0, 0, 0, 0, 0, 0⟩ : An) (.slice none 0 0) (.slice At1 lt1 ct1) (.slice none 0 0))) := ⟨by rw [← hu2]; exact Hy1.out.set (M' := (anW (⟨7, tag, 0, [], (textsP keys 1000), [], emS, false, 0, 0, 0, 0, 0, 0, 0⟩ : An) (.slice none 0 0) (.slice At1 lt1 ct1) (.slice none 0 0))) 4 _ rfl (anW_ok (anW_r Hy1.out.ok).1 HOy1.out (anW_r Hy1.out.ok).2.2)⟩
       clear hu2 z9 d9 Hy1 f0 f2
       have f0 : u2.cell? ⟨g1, 0, none⟩ = some (.int .i64 7) := HU2.out.at1 0 (by rw [HCK.out]; rfl)
       have f2 : u2.cell? ⟨g1, 2, none⟩ = some (.int .i64 0) := HU2.out.at1 2 (by rw [HCK.out]; rfl)
       have f5 : u2.cell? ⟨g1, 5, none⟩ = some (.slice A3 n3 c3) := HU2.out.at1 5 (by rw [HCK.out]; rfl)
       go_wp2_with fail
       refine (cutTexts_any u2 A3 n3 c3 w.heap.size groups (HH.out.2.2.2.2.2.2.1.below HU2.out.be) HH.out.2.2.2.2.2.2.2.2.1 HU2.out.be.size 1000 (by omega) HH.out.2.2.2.2.2.2.2.2.2.2.1).mono ?_
       rintro e y3 ⟨vt, rfl, hot, hbt⟩
       obtain ⟨At2, ct2, hvt, _⟩ := own_form hot
       obtain ⟨lt2, hlt2⟩ : ∃ l, (textsP groups 1000).length = l := ⟨_, rfl⟩
       rw [hlt2] at hvt
       subst hvt
       have HAP : Hd (Apart (.slice At1 lt1 ct1) (.slice At2 lt2 ct2)) := ⟨apart_new (anW_r HU2.out.ok).2.1 hot⟩
       have HOy3 : Hd (y3.ownsRow (gq + 1) 9 1 (.slice At2 lt2 ct2) (textsP groups 1000).length (cs (textsP groups 1000))) := ⟨own_base hot HU2.out.lt⟩
       have Hy3 := Hd.mk (HU2.out.below hbt)
       clear hot hbt HU2 hlt2 f0 f2 f5
       have f0 : y3.cell? ⟨g1, 0, none⟩ = some (.int .i64 7) := Hy3.out.at1 0 (by rw [HCK.out]; rfl)
       have f2 : y3.cell? ⟨g1, 2, none⟩ = some (.int .i64 0) := Hy3.out.at1 2 (by rw [HCK.out]; rfl)
       have z9 := Hy3.out.z3 5
       have d9 : y3.cell? ⟨gq, 5, none⟩ = some (.slice none 0 0) := Hy3.out.at3 5 rfl
       go_upto_region 20 with fail
       obtain ⟨u4, hu4⟩ : ∃ U, y3.setCell ⟨gq, 5, none⟩ (.slice At2 lt2 ct2) = U := ⟨_, rfl⟩
       rw [hu4]
       have HU4 : Hd (Ft w u4 43 g1 gx gq cK anZ (anW (⟨7, tag, 0, [], (textsP keys 1000), (textsP groups 1000), emS, false, 0, 0, 0, 0, 0, 0, 0⟩ : An) (.slice none 0 0) (.slice At1 lt1 ct1) (.slice At2 lt2 ct2))) := ⟨by rw [← hu4]; exact Hy3.out.set (M' := (anW (⟨7, tag, 0, [], (textsP keys 1000), (textsP groups 1000), emS, false, 0, 0, 0, 0, 0, 0, 0⟩ : An) (.slice none 0 0) (.slice At1 lt1 ct1) (.slice At2 lt2 ct2))) 5 _ rfl (anW_ok (anW_r Hy3.out.ok).1 (anW_r Hy3.out.ok).2.1 HOy3.out)⟩
       clear hu4 z9 d9 Hy3 f0 f2
       have f0 : u4.cell? ⟨g1, 0, none⟩ = some (.int .i64 7) := HU4.out.at1 0 (by rw [HCK.out]; rfl)
       have f2 : u4.cell? ⟨g1, 2, none⟩ = some (.int .i64 0) := HU4.out.at1 2 (by rw [HCK.out]; rfl)
       have f6 : u4.cell? ⟨g1, 6, none⟩ = some (.string next) := HU4.out.at1 6 (by rw [HCK.out]; rfl)
       go_wp2_with fail
       refine (cut_any u4 next 255 HH.out.2.2.2.2.1 (by omega)).mono ?_
       rintro e zn ⟨rfl, hzn⟩
       subst hzn
       have z9 := HU4.out.z3 6
       have d9 : u4.cell? ⟨gq, 6, none⟩ = some (.string emS) := HU4.out.at3 6 rfl
       go_upto_region 21 with fail
       obtain ⟨u5, hu5⟩ : ∃ U, u4.setCell ⟨gq, 6, none⟩ (.string (cutP next 255)) = U := ⟨_, rfl⟩
       rw [hu5]
       have HU5 : Hd (Ft w u5 43 g1 gx gq cK anZ (anW (⟨7, tag, 0, [], (textsP keys 1000), (textsP groups 1000), (cutP next 255), false, 0, 0, 0, 0, 0, 0, 0⟩ : An) (.slice none 0 0) (.slice At1 lt1 ct1) (.slice At2 lt2 ct2))) := ⟨by rw [← hu5]; exact HU4.out.set (M' := (anW (⟨7, tag, 0, [], (textsP keys 1000), (textsP groups 1000), (cutP next 255), false, 0, 0, 0, 0, 0, 0, 0⟩ : An) (.slice none 0 0) (.slice At1 lt1 ct1) (.slice At2 lt2 ct2))) 6 _ rfl (fun r hr => HU4.out.ok r hr)⟩
       clear hu5 z9 d9 HU4 f0 f2 f6
       have f0 : u5.cell? ⟨g1, 0, none⟩ = some (.int .i64 7) := HU5.out.at1 0 (by rw [HCK.out]; rfl)
       have f2 : u5.cell? ⟨g1, 2, none⟩ = some (.int .i64 0) := HU5.out.at1 2 (by rw [HCK.out]; rfl)
       have f7 : u5.cell? ⟨g1, 7, none⟩ = some (.bool more) := HU5.out.at1 7 (by rw [HCK.out]; rfl)
       have z9 := HU5.out.z3 7
       have d9 : u5.cell? ⟨gq, 7, none⟩ = some (.bool false) := HU5.out.at3 7 rfl
       go_upto_region 22 with fail
       obtain ⟨u6, hu6⟩ : ∃ U, u5.setCell ⟨gq, 7, none⟩ (.bool more) = U := ⟨_, rfl⟩
       rw [hu6]
       have HU6 : Hd (Ft w u6 43 g1 gx gq cK anZ (anW (⟨7, tag, 0, [], (textsP keys 1000), (textsP groups 1000), (cutP next 255), more, 0, 0, 0, 0, 0, 0, 0⟩ : An) (.slice none 0 0) (.slice At1 lt1 ct1) (.slice At2 lt2 ct2))) := ⟨by rw [← hu6]; exact HU5.out.set (M' := (anW (⟨7, tag, 0, [], (textsP keys 1000), (textsP groups 1000), (cutP next 255), more, 0, 0, 0, 0, 0, 0, 0⟩ : An) (.slice none 0 0) (.slice At1 lt1 ct1) (.slice At2 lt2 ct2))) 7 _ rfl (fun r hr => HU5.out.ok r hr)⟩
       clear hu6 z9 d9 HU5 f0 f2 f7
       have f0 : u6.cell? ⟨g1, 0, none⟩ = some (.int .i64 7) := HU6.out.at1 0 (by rw [HCK.out]; rfl)
       have f2 : u6.cell? ⟨g1, 2, none⟩ = some (.int .i64 0) := HU6.out.at1 2 (by rw [HCK.out]; rfl)
       go_upto_region 22 with fail
       have hbx := HU6.out.box
       have hrs := HU6.out.res
       go_wp2_with (first | (refine at_load (x := .tmp 3) ?_; refine wpList_load_row rfl 43 (.tmp 3) rfl gq rfl 43 (anW (⟨7, tag, 0, [], (textsP keys 1000), (textsP groups 1000), (cutP next 255), more, 0, 0, 0, 0, 0, 0, 0⟩ : An) (.slice none 0 0) (.slice At1 lt1 ct1) (.slice At2 lt2 ct2)).cells.toArray (0, 0) _ hbx Try.underlying43 rfl infoAn15 ?_) | (refine at_store (x := .tmp 2) ?_; refine wpList_stored rfl 43 (.tmp 2) (.tmp 97) rfl gx (anW (⟨7, tag, 0, [], (textsP keys 1000), (textsP groups 1000), (cutP next 255), more, 0, 0, 0, 0, 0, 0, 0⟩ : An) (.slice none 0 0) (.slice At1 lt1 ct1) (.slice At2 lt2 ct2)).cells.toArray rfl rfl 43 anZ hrs infoAn15 rfl (by simp [anW, Value.oneCell']) ?_; intro wy hBy))
       (try simp only [Exit.inBlock, Exit.then])
       refine bodyPost_ret (results_cell1 rfl _ _ gx 43 (anW (⟨7, tag, 0, [], (textsP keys 1000), (textsP groups 1000), (cutP next 255), more, 0, 0, 0, 0, 0, 0, 0⟩ : An) (.slice none 0 0) (.slice At1 lt1 ct1) (.slice At2 lt2 ct2)).cells.toArray (0, 0) _ rfl hBy.out.1 Try.underlying43 rfl infoAn15) rfl ?_
       have hRR : fitAnP a = (⟨7, tag, 0, [], (textsP keys 1000), (textsP groups 1000), (cutP next 255), more, 0, 0, 0, 0, 0, 0, 0⟩ : An) := by rw [HR.out]; unfold fitAnP; simp only [HK.out, HC.out]; simp
       rw [hRR]
       exact ⟨(.slice none 0 0), (.slice At1 lt1 ct1), (.slice At2 lt2 ct2), rfl, (HU6.out.done hBy.out.2.1).1, an_ap (by first | exact Apart.nil _ | exact (Apart.nil _).symm | exact HAP.out) (by first | exact Apart.nil _ | exact (Apart.nil _).symm | exact HAP.out) (by first | exact Apart.nil _ | exact (Apart.nil _).symm | exact HAP.out), (HU6.out.done hBy.out.2.1).2⟩
      ·have HNZ := Hd.mk hC0
       have f0 : w3.cell? ⟨g1, 0, none⟩ = some (.int .i64 7) := HS.out.at1 0 (by rw [HCK.out]; rfl)
       have f2 : w3.cell? ⟨g1, 2, none⟩ = some (.int .i64 C) := HS.out.at1 2 (by rw [HCK.out]; rfl)
       go_upto_region 9 with fail
       have hbx := HS.out.box
       have hrs := HS.out.res
       go_wp2_with (first | (refine at_load (x := .tmp 3) ?_; refine wpList_load_row rfl 43 (.tmp 3) rfl gq rfl 43 (anW (⟨7, tag, C, [], [], [], emS, false, 0, 0, 0, 0, 0, 0, 0⟩ : An) (.slice none 0 0) (.slice none 0 0) (.slice none 0 0)).cells.toArray (0, 0) _ hbx Try.underlying43 rfl infoAn15 ?_) | (refine at_store (x := .tmp 2) ?_; refine wpList_stored rfl 43 (.tmp 2) (.tmp 45) rfl gx (anW (⟨7, tag, C, [], [], [], emS, false, 0, 0, 0, 0, 0, 0, 0⟩ : An) (.slice none 0 0) (.slice none 0 0) (.slice none 0 0)).cells.toArray rfl rfl 43 anZ hrs infoAn15 rfl (by simp [anW, Value.oneCell']) ?_; intro wy hBy))
       (try simp only [Exit.inBlock, Exit.then])
       refine bodyPost_ret (results_cell1 rfl _ _ gx 43 (anW (⟨7, tag, C, [], [], [], emS, false, 0, 0, 0, 0, 0, 0, 0⟩ : An) (.slice none 0 0) (.slice none 0 0) (.slice none 0 0)).cells.toArray (0, 0) _ rfl hBy.out.1 Try.underlying43 rfl infoAn15) rfl ?_
       have hRR : fitAnP a = (⟨7, tag, C, [], [], [], emS, false, 0, 0, 0, 0, 0, 0, 0⟩ : An) := by rw [HR.out]; unfold fitAnP; simp only [HK.out, HC.out]; simp [HNZ.out]
       rw [hRR]
       exact ⟨(.slice none 0 0), (.slice none 0 0), (.slice none 0 0), rfl, (HS.out.done hBy.out.2.1).1, an_ap (by first | exact Apart.nil _ | exact (Apart.nil _).symm | exact HAP.out) (by first | exact Apart.nil _ | exact (Apart.nil _).symm | exact HAP.out) (by first | exact Apart.nil _ | exact (Apart.nil _).symm | exact HAP.out), (HS.out.done hBy.out.2.1).2⟩
     ·skip
      have f0 : w3.cell? ⟨g1, 0, none⟩ = some (.int .i64 8) := HS.out.at1 0 (by rw [HCK.out]; rfl)
      have f2 : w3.cell? ⟨g1, 2, none⟩ = some (.int .i64 C) := HS.out.at1 2 (by rw [HCK.out]; rfl)
      have hrg : w3.rangeAt g1 11 [.int .i64 h1, .int .i64 h2, .int .i64 h3, .int .i64 h4] := HS.out.range1o 11 4 (by rw [HCK.out]; rfl)
      have zz0 := HS.out.z3 11
      have dd0 : w3.cell? ⟨gq, 11, none⟩ = some (.int .i64 0) := HS.out.at3 11 rfl
      have zz1 := HS.out.z3 12
      have dd1 : w3.cell? ⟨gq, 12, none⟩ = some (.int .i64 0) := HS.out.at3 12 rfl
      have zz2 := HS.out.z3 13
      have dd2 : w3.cell? ⟨gq, 13, none⟩ = some (.int .i64 0) := HS.out.at3 13 rfl
      have zz3 := HS.out.z3 14
      have dd3 : w3.cell? ⟨gq, 14, none⟩ = some (.int .i64 0) := HS.out.at3 14 rfl
      go_upto_region 8 with (refine at_load (x := .tmp 39) ?_; refine wpList_load_mid rfl 41 (.tmp 39) rfl g1 11 rfl [.int .i64 h1, .int .i64 h2, .int .i64 h3, .int .i64 h4] _ hrg Try.underlying41 rfl infoHealed4 ?_)
      obtain ⟨u1, hu1⟩ : ∃ U, ((((w3.setCell ⟨gq, 11, none⟩ (.int .i64 h1)).setCell ⟨gq, 12, none⟩ (.int .i64 h2)).setCell ⟨gq, 13, none⟩ (.int .i64 h3)).setCell ⟨gq, 14, none⟩ (.int .i64 h4)) = U := ⟨_, rfl⟩
      rw [hu1]
      have HU1 : Hd (Ft w u1 43 g1 gx gq cK anZ (anW (⟨8, tag, C, [], [], [], emS, false, 0, 0, 0, h1, h2, h3, h4⟩ : An) (.slice none 0 0) (.slice none 0 0) (.slice none 0 0))) := ⟨by rw [← hu1]; exact HS.out.sets 11 [.int .i64 h1, .int .i64 h2, .int .i64 h3, .int .i64 h4] (M' := (anW (⟨8, tag, C, [], [], [], emS, false, 0, 0, 0, h1, h2, h3, h4⟩ : An) (.slice none 0 0) (.slice none 0 0) (.slice none 0 0))) rfl⟩
      clear hu1 hrg zz0 dd0 zz1 dd1 zz2 dd2 zz3 dd3 HS f0 f2
      by_cases hC0 : C = 0
      ·have HNZ := Hd.mk hC0
       subst hC0
       have f0 : u1.cell? ⟨g1, 0, none⟩ = some (.int .i64 8) := HU1.out.at1 0 (by rw [HCK.out]; rfl)
       have f2 : u1.cell? ⟨g1, 2, none⟩ = some (.int .i64 0) := HU1.out.at1 2 (by rw [HCK.out]; rfl)
       go_upto_region 22 with fail
       have hbx := HU1.out.box
       have hrs := HU1.out.res
       go_wp2_with (first | (refine at_load (x := .tmp 3) ?_; refine wpList_load_row rfl 43 (.tmp 3) rfl gq rfl 43 (anW (⟨8, tag, 0, [], [], [], emS, false, 0, 0, 0, h1, h2, h3, h4⟩ : An) (.slice none 0 0) (.slice none 0 0) (.slice none 0 0)).cells.toArray (0, 0) _ hbx Try.underlying43 rfl infoAn15 ?_) | (refine at_store (x := .tmp 2) ?_; refine wpList_stored rfl 43 (.tmp 2) (.tmp 97) rfl gx (anW (⟨8, tag, 0, [], [], [], emS, false, 0, 0, 0, h1, h2, h3, h4⟩ : An) (.slice none 0 0) (.slice none 0 0) (.slice none 0 0)).cells.toArray rfl rfl 43 anZ hrs infoAn15 rfl (by simp [anW, Value.oneCell']) ?_; intro wy hBy))
       (try simp only [Exit.inBlock, Exit.then])
       refine bodyPost_ret (results_cell1 rfl _ _ gx 43 (anW (⟨8, tag, 0, [], [], [], emS, false, 0, 0, 0, h1, h2, h3, h4⟩ : An) (.slice none 0 0) (.slice none 0 0) (.slice none 0 0)).cells.toArray (0, 0) _ rfl hBy.out.1 Try.underlying43 rfl infoAn15) rfl ?_
       have hRR : fitAnP a = (⟨8, tag, 0, [], [], [], emS, false, 0, 0, 0, h1, h2, h3, h4⟩ : An) := by rw [HR.out]; unfold fitAnP; simp only [HK.out, HC.out]; simp
       rw [hRR]
       exact ⟨(.slice none 0 0), (.slice none 0 0), (.slice none 0 0), rfl, (HU1.out.done hBy.out.2.1).1, an_ap (by first | exact Apart.nil _ | exact (Apart.nil _).symm | exact HAP.out) (by first | exact Apart.nil _ | exact (Apart.nil _).symm | exact HAP.out) (by first | exact Apart.nil _ | exact (Apart.nil _).symm | exact HAP.out), (HU1.out.done hBy.out.2.1).2⟩
      ·have HNZ := Hd.mk hC0
       have f0 : u1.cell? ⟨g1, 0, none⟩ = some (.int .i64 8) := HU1.out.at1 0 (by rw [HCK.out]; rfl)
       have f2 : u1.cell? ⟨g1, 2, none⟩ = some (.int .i64 C) := HU1.out.at1 2 (by rw [HCK.out]; rfl)
       go_upto_region 9 with fail
       have hbx := HU1.out.box
       have hrs := HU1.out.res
       go_wp2_with (first | (refine at_load (x := .tmp 3) ?_; refine wpList_load_row rfl 43 (.tmp 3) rfl gq rfl 43 (anW (⟨8, tag, C, [], [], [], emS, false, 0, 0, 0, h1, h2, h3, h4⟩ : An) (.slice none 0 0) (.slice none 0 0) (.slice none 0 0)).cells.toArray (0, 0) _ hbx Try.underlying43 rfl infoAn15 ?_) | (refine at_store (x := .tmp 2) ?_; refine wpList_stored rfl 43 (.tmp 2) (.tmp 45) rfl gx (anW (⟨8, tag, C, [], [], [], emS, false, 0, 0, 0, h1, h2, h3, h4⟩ : An) (.slice none 0 0) (.slice none 0 0) (.slice none 0 0)).cells.toArray rfl rfl 43 anZ hrs infoAn15 rfl (by simp [anW, Value.oneCell']) ?_; intro wy hBy))
       (try simp only [Exit.inBlock, Exit.then])
       refine bodyPost_ret (results_cell1 rfl _ _ gx 43 (anW (⟨8, tag, C, [], [], [], emS, false, 0, 0, 0, h1, h2, h3, h4⟩ : An) (.slice none 0 0) (.slice none 0 0) (.slice none 0 0)).cells.toArray (0, 0) _ rfl hBy.out.1 Try.underlying43 rfl infoAn15) rfl ?_
       have hRR : fitAnP a = (⟨8, tag, C, [], [], [], emS, false, 0, 0, 0, h1, h2, h3, h4⟩ : An) := by rw [HR.out]; unfold fitAnP; simp only [HK.out, HC.out]; simp [HNZ.out]
       rw [hRR]
       exact ⟨(.slice none 0 0), (.slice none 0 0), (.slice none 0 0), rfl, (HU1.out.done hBy.out.2.1).1, an_ap (by first | exact Apart.nil _ | exact (Apart.nil _).symm | exact HAP.out) (by first | exact Apart.nil _ | exact (Apart.nil _).symm | exact HAP.out) (by first | exact Apart.nil _ | exact (Apart.nil _).symm | exact HAP.out), (HU1.out.done hBy.out.2.1).2⟩
end Go.Proofs.Ytbcmjjcbjojakaa
