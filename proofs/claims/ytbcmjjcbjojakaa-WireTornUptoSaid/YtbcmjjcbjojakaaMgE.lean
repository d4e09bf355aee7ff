/- Put together of: FitV SaidW FirstW TalkP. -/
import Derived.Test.YtbcmjjcbjojakaaMgD
import Derived.Test.YtbcmjjcbjojakaaMgA
import Derived.Test.YtbcmjjcbjojakaaMgC
import Derived.Test.YtbcmjjcbjojakaaTellC
import Derived.Deep.Cut
import Derived.Test.YtbcmjjcbjojakaaBits
section
/- Contracts of the laws' fit and fitAnswer: out of any message one that may be. (tools/fitgen.py prints it.) -/
namespace Go.Proofs.Ytbcmjjcbjojakaa
open Go.RowKit
set_option linter.unusedVariables false
def anZ : Array Value := #[.int .i64 0, .int .u64 0, .int .i64 0, .slice none 0 0, .slice none 0 0, .slice none 0 0, .string emS, .bool false, .int .i64 0, .int .i64 0, .int .i64 0, .int .i64 0, .int .i64 0, .int .i64 0, .int .i64 0]
theorem infoGen2 : (Try.prog.info? 39).map (·.size) = some 2 := by kernel_rfl
theorem infoHealed4 : (Try.prog.info? 41).map (·.size) = some 4 := by kernel_rfl
theorem fitC_in {k : Int} (h : ¬ (k < 0 ∨ 2147483647 < k)) : fitC k = k := if_neg h
theorem fitC_out {k : Int} (h : k < 0 ∨ 2147483647 < k) : fitC k = k % 2147483648 := if_pos h
theorem anW_r {a : An} {w : World} {b : Nat} {v1 v2 v3 : Value} (h : (anW a v1 v2 v3).ok w b) : w.ownsRow b 5 1 v1 a.body.length (cb a.body) ∧ w.ownsRow b 9 1 v2 a.keys.length (cs a.keys) ∧ w.ownsRow b 9 1 v3 a.groups.length (cs a.groups) := by
  have q1 := h (5, v1, cb a.body) (by simp [anW])
  have q2 := h (9, v2, cs a.keys) (by simp [anW])
  have q3 := h (9, v3, cs a.groups) (by simp [anW])
  simp only [cb_length, cs_len] at q1 q2 q3
  exact ⟨q1, q2, q3⟩
theorem Ft.there {w W : World} {t g1 gx gq : Nat} {c1 : List Value} {zs : Array Value} {M : Wm} (h : Ft w W t g1 gx gq c1 zs M) (o k : Nat) (hk : o + k ≤ M.cells.length) : W.there gq o k := fun j hj => by
  have : (W.cell? ⟨gq, o + j, none⟩).isSome = true := by
    rw [h.at3 (o + j) (List.getElem?_eq_getElem (by omega))]; rfl
  refine ⟨?_, ?_⟩
  · first | exact this | (simp [World.frozen?, h.box])
  · first | exact this | (simp [World.frozen?, h.box])
def setL : List Value → Nat → List Value → List Value
  | l, _, [] => l
  | l, o, v :: r => setL (l.set o v) (o + 1) r
theorem Ft.sets0 {w : World} {t g1 gx gq : Nat} {c1 : List Value} {zs : Array Value} : ∀ (l : List Value) (o : Nat) (W : World) (M : Wm), Ft w W t g1 gx gq c1 zs M → Ft w (W.setCells gq o l) t g1 gx gq c1 zs ⟨setL M.cells o l, M.rows⟩
  | [], o, W, M, h => h
  | v :: r, o, W, M, h => by
    have h1 := h.set (M' := ⟨M.cells.set o v, M.rows⟩) o v rfl (fun q hq => h.ok q hq)
    exact Ft.sets0 r (o + 1) _ _ h1
theorem Ft.sets {w W : World} {t g1 gx gq : Nat} {c1 : List Value} {zs : Array Value} {M M' : Wm} (h : Ft w W t g1 gx gq c1 zs M) (o : Nat) (l : List Value) (hM : M' = ⟨setL M.cells o l, M.rows⟩) : Ft w (W.setCells gq o l) t g1 gx gq c1 zs M' := by
  rw [hM]; exact Ft.sets0 l o W M h
theorem Ft.range1o {w W : World} {t g1 gx gq : Nat} {c1 : List Value} {zs : Array Value} {M : Wm} (h : Ft w W t g1 gx gq c1 zs M) (o k : Nat) {l : List Value} (hl : (c1.drop o).take k = l) : W.rangeAt g1 o l := fun j v hj => by
  subst hl
  rw [List.getElem?_take] at hj
  split at hj
  · rw [List.getElem?_drop] at hj; exact h.at1 (o + j) hj
  · cases hj
set_option maxRecDepth 20000 in
set_option maxHeartbeats 8000000 in
theorem fitAn_any0 (w : World) (a : An) (kind code ge gc size h1 h2 h3 h4 : Int) (tag : Nat) (body : List Nat) (keys groups : List ByteArray) (next : ByteArray) (more : Bool) (ha : a = ⟨kind, tag, code, body, keys, groups, next, more, ge, gc, size, h1, h2, h3, h4⟩) (A A2 A3 : Option Addr) (n c n2 c2 n3 c3 : Nat)
    (hr : Rd w w.heap.size A n (cb body)) (hr2 : Rd w w.heap.size A2 n2 (cs keys)) (hr3 : Rd w w.heap.size A3 n3 (cs groups)) (hnc : n ≤ c) (hn2 : n2 ≤ 8796093022000) (hn3 : n3 ≤ 8796093022000) (hk : I64 kind) (hc : I64 code) (hx : next.size ≤ maxLen) (hs2 : ∀ t ∈ keys, t.size ≤ maxLen) (hs3 : ∀ t ∈ groups, t.size ≤ maxLen) :
    Calls Try.prog 34 #[.agg #[.int .i64 kind, .int .u64 (tag : Int), .int .i64 code, .slice A n c, .slice A2 n2 c2, .slice A3 n3 c3, .string next, .bool more, .int .i64 ge, .int .i64 gc, .int .i64 size, .int .i64 h1, .int .i64 h2, .int .i64 h3, .int .i64 h4]] w fun e w' => ∃ v1 v2 v3, e = .returned (.agg (anW (fitAnP a) v1 v2 v3).cells.toArray) ∧ (anW (fitAnP a) v1 v2 v3).ok w' w.heap.size ∧ Below w.heap.size w w' := by
  obtain ⟨c1, hc1⟩ : ∃ c1 : List Value, c1 = [.int .i64 kind, .int .u64 (tag : Int), .int .i64 code, .slice A n c, .slice A2 n2 c2, .slice A3 n3 c3, .string next, .bool more, .int .i64 ge, .int .i64 gc, .int .i64 size, .int .i64 h1, .int .i64 h2, .int .i64 h3, .int .i64 h4] := ⟨_, rfl⟩
  obtain ⟨w0, hw0⟩ : ∃ U, (w.alloc (.cells #[.int .i64 kind, .int .u64 (tag : Int), .int .i64 code, .slice A n c, .slice A2 n2 c2, .slice A3 n3 c3, .string next, .bool more, .int .i64 ge, .int .i64 gc, .int .i64 size, .int .i64 h1, .int .i64 h2, .int .i64 h3, .int .i64 h4] 43)).alloc (.cells #[.int .i64 0, .int .u64 0, .int .i64 0, .slice none 0 0, .slice none 0 0, .slice none 0 0, .string emS, .bool false, .int .i64 0, .int .i64 0, .int .i64 0, .int .i64 0, .int .i64 0, .int .i64 0, .int .i64 0] 43) = U := ⟨_, rfl⟩
  obtain ⟨g1, hg1⟩ : ∃ q, w.heap.size = q := ⟨_, rfl⟩
  obtain ⟨gx, hgx⟩ : ∃ q, g1 + 1 = q := ⟨_, rfl⟩
  have H0 : Hd (Fa w w0 43 g1 gx c1 anZ) := ⟨by rw [← hw0, ← hgx, ← hg1, hc1]; exact Fa.start w _ _ _⟩
  have HH : Hd (Rd w w.heap.size A n (cb body) ∧ n ≤ c ∧ I64 kind ∧ I64 code ∧ next.size ≤ maxLen ∧ Rd w w.heap.size A2 n2 (cs keys) ∧ Rd w w.heap.size A3 n3 (cs groups) ∧ n2 ≤ 8796093022000 ∧ n3 ≤ 8796093022000 ∧ (∀ t ∈ keys, t.size ≤ maxLen) ∧ (∀ t ∈ groups, t.size ≤ maxLen) ∧ c1 = [.int .i64 kind, .int .u64 (tag : Int), .int .i64 code, .slice A n c, .slice A2 n2 c2, .slice A3 n3 c3, .string next, .bool more, .int .i64 ge, .int .i64 gc, .int .i64 size, .int .i64 h1, .int .i64 h2, .int .i64 h3, .int .i64 h4]) := ⟨hr, hnc, hk, hc, hx, hr2, hr3, hn2, hn3, hs2, hs3, hc1⟩
  have HR := Hd.mk ha
  clear hr hnc hk hc hx hr2 hr3 hn2 hn3 hs2 hs3 hc1 ha
  go_enter Try.func34, Try.ntmps34
  go_upto_region 1 with fail
  have hz : (⟨#[]⟩ : ByteArray) = emS := rfl
  try rw [hz]
  rw [hw0]
  try rw [hg1]
  try rw [hgx]
  clear hw0 hz hg1 hgx
  have c0 : w0.cell? ⟨g1, 0, none⟩ = some (.int .i64 kind) := H0.out.at1 0 (by rw [HH.out.2.2.2.2.2.2.2.2.2.2.2]; rfl)
  obtain ⟨b0, hb0⟩ : ∃ b, decide (kind < 1 ∨ 8 < kind) = b := ⟨_, rfl⟩
  have HB0 := Hd.mk hb0
  clear hb0
  go_cut [11] from 4 (fun r wx => r = .bool b0 ∧ wx = w0)
  case first =>
    by_cases q1 : kind < 1
    · have e1 : b0 = true := by rw [← HB0.out]; exact decide_eq_true (.inl q1)
      subst e1
      go_wp2_with fail
      go_meet
      case rel => exact ⟨rfl, rfl⟩
    · by_cases q2 : 8 < kind
      · have e1 : b0 = true := by rw [← HB0.out]; exact decide_eq_true (.inr q2)
        subst e1
        go_wp2_with fail
        go_meet
        case rel => exact ⟨rfl, rfl⟩
      · have e1 : b0 = false := by rw [← HB0.out]; exact decide_eq_false (fun h => h.elim q1 q2)
        subst e1
        go_wp2_with fail
        go_meet
        case rel => exact ⟨rfl, rfl⟩
  case rest =>
    obtain ⟨hr11, hwc⟩ := hcut
    subst hr11
    rw [hwc]
    clear hwc
    go_upto_if 11 with fail
    go_cut [] from 12 (fun wx => Fa w wx 43 g1 gx (c1.set 0 (.int .i64 (fitK kind))) anZ)
    case first =>
      rcases hbb : b0 with _ | _
      · subst hbb
        go_wp2_with fail
        go_meet
        case rel =>
          have hs : c1.set 0 (.int .i64 (fitK kind)) = c1 := by rw [fitK_in (of_decide_eq_false HB0.out), HH.out.2.2.2.2.2.2.2.2.2.2.2]; rfl
          rw [hs]; exact H0.out
      · subst hbb
        go_wp2_with fail
        refine (pick_any w0 kind 8 HH.out.2.2.1 (by omega) (by omega)).mono ?_
        rintro e wz ⟨rfl, hw9⟩
        subst hw9
        have h88 := And.intro (Int.emod_nonneg kind (b := 8) (by omega)) (Int.emod_lt_of_pos kind (b := 8) (by omega))
        obtain ⟨m, hm⟩ : ∃ m, kind % 8 = m := ⟨_, rfl⟩
        rw [hm] at h88 ⊢
        have hwr : IntKind.i64.wrap (1 + m) = 1 + m := by rw [IntKind.wrap_i64]; omega
        have z0 := H0.out.z1 0
        go_upto_region 3 with fail
        go_meet
        case rel =>
          rw [fitK_out (of_decide_eq_true HB0.out), hm]
          (first | exact H0.out.set 0 _ | (simp only [hwr]; exact H0.out.set 0 _))
    case rest =>
      have HF := Hd.mk hcut
      clear hcut H0 c0 HB0
      obtain ⟨wK, hw1⟩ : ∃ U : World, U = wc := ⟨_, rfl⟩
      subst hw1
      obtain ⟨K, hK⟩ : ∃ K, fitK kind = K := ⟨_, rfl⟩
      have HK := Hd.mk hK
      have hKl := fitK_le kind
      rw [hK] at hKl HF
      have HKL := Hd.mk hKl
      clear hK hKl
      obtain ⟨c2_, hc2_⟩ : ∃ c2, c1.set 0 (.int .i64 K) = c2 := ⟨_, rfl⟩
      rw [hc2_] at HF
      have HC2 : Hd (c2_ = [.int .i64 K, .int .u64 (tag : Int), .int .i64 code, .slice A n c, .slice A2 n2 c2, .slice A3 n3 c3, .string next, .bool more, .int .i64 ge, .int .i64 gc, .int .i64 size, .int .i64 h1, .int .i64 h2, .int .i64 h3, .int .i64 h4]) := ⟨by rw [← hc2_, HH.out.2.2.2.2.2.2.2.2.2.2.2]; rfl⟩
      clear hc2_
      have c2c : wK.cell? ⟨g1, 2, none⟩ = some (.int .i64 code) := HF.out.at1 2 (by rw [HC2.out]; rfl)
      obtain ⟨b1, hb1⟩ : ∃ b, decide (code < 0 ∨ 2147483647 < code) = b := ⟨_, rfl⟩
      have HB1 := Hd.mk hb1
      clear hb1
      go_upto_region 3 with fail
      go_cut [24] from 4 (fun r wx => r = .bool b1 ∧ wx = wK)
      case first =>
        by_cases q1 : code < 0
        · have e1 : b1 = true := by rw [← HB1.out]; exact decide_eq_true (.inl q1)
          subst e1
          go_wp2_with fail
          go_meet
          case rel => exact ⟨rfl, rfl⟩
        · by_cases q2 : 2147483647 < code
          · have e1 : b1 = true := by rw [← HB1.out]; exact decide_eq_true (.inr q2)
            subst e1
            go_wp2_with fail
            go_meet
            case rel => exact ⟨rfl, rfl⟩
          · have e1 : b1 = false := by rw [← HB1.out]; exact decide_eq_false (fun h => h.elim q1 q2)
            subst e1
            go_wp2_with fail
            go_meet
            case rel => exact ⟨rfl, rfl⟩
      case rest =>
        obtain ⟨hr24, hwc⟩ := hcut
        subst hr24
        rw [hwc]
        clear hwc
        go_upto_if 24 with fail
        go_cut [] from 25 (fun wx => Fa w wx 43 g1 gx (c2_.set 2 (.int .i64 (fitC code))) anZ)
        case first =>
          rcases hbb : b1 with _ | _
          · subst hbb
            go_wp2_with fail
            go_meet
            case rel =>
              have hs : c2_.set 2 (.int .i64 (fitC code)) = c2_ := by rw [fitC_in (of_decide_eq_false HB1.out), HC2.out]; rfl
              rw [hs]; exact HF.out
          · subst hbb
            go_wp2_with fail
            refine (pick_any _ code 2147483648 HH.out.2.2.2.1 (by omega) (by omega)).mono ?_
            rintro e wz ⟨rfl, hw9⟩
            subst hw9
            have h88 := And.intro (Int.emod_nonneg code (b := 2147483648) (by omega)) (Int.emod_lt_of_pos code (b := 2147483648) (by omega))
            obtain ⟨m, hm⟩ : ∃ m, code % 2147483648 = m := ⟨_, rfl⟩
            rw [hm] at h88 ⊢
            have z0 := HF.out.z1 2
            go_upto_region 5 with fail
            go_meet
            case rel =>
              rw [fitC_out (of_decide_eq_true HB1.out), hm]
              exact HF.out.set 2 _
        case rest =>
          have HG := Hd.mk hcut
          clear hcut HF c2c HB1
          obtain ⟨C, hC⟩ : ∃ C, fitC code = C := ⟨_, rfl⟩
          have HC := Hd.mk hC
          rw [hC] at HG
          clear hC
          obtain ⟨cK, hcK⟩ : ∃ c2, c2_.set 2 (.int .i64 C) = c2 := ⟨_, rfl⟩
          rw [hcK] at HG
          have HCK : Hd (cK = [.int .i64 K, .int .u64 (tag : Int), .int .i64 C, .slice A n c, .slice A2 n2 c2, .slice A3 n3 c3, .string next, .bool more, .int .i64 ge, .int .i64 gc, .int .i64 size, .int .i64 h1, .int .i64 h2, .int .i64 h3, .int .i64 h4]) := ⟨by rw [← hcK, HC2.out]; rfl⟩
          clear hcK HC2
          obtain ⟨wf, hwf⟩ : ∃ U : World, U = wc := ⟨_, rfl⟩
          subst hwf
          have c0 : wf.cell? ⟨g1, 0, none⟩ = some (.int .i64 K) := HG.out.at1 0 (by rw [HCK.out]; rfl)
          have c1_ : wf.cell? ⟨g1, 1, none⟩ = some (.int .u64 (tag : Int)) := HG.out.at1 1 (by rw [HCK.out]; rfl)
          have c2_ : wf.cell? ⟨g1, 2, none⟩ = some (.int .i64 C) := HG.out.at1 2 (by rw [HCK.out]; rfl)
          go_upto_region 6 with (refine at_store (x := .tmp 3) ?_; refine wpList_boxed rfl 43 (.tmp 3) (.tmp 35) rfl wf.heap.size rfl (anW (⟨K, tag, C, [], [], [], emS, false, 0, 0, 0, 0, 0, 0, 0⟩ : An) (.slice none 0 0) (.slice none 0 0) (.slice none 0 0)).cells.toArray rfl rfl infoAn15 rfl (by simp [anW, Value.oneCell']) ?_; intro w3 hB3)
          have HS := Hd.mk (HG.out.boxed (M := anW (⟨K, tag, C, [], [], [], emS, false, 0, 0, 0, 0, 0, 0, 0⟩ : An) (.slice none 0 0) (.slice none 0 0) (.slice none 0 0)) hB3.out (fun b => anW_ok0 _ _ rfl rfl rfl b))
          obtain ⟨gq, hgq⟩ : ∃ q, wf.heap.size = q := ⟨_, rfl⟩
          rw [hgq] at HS ⊢
          clear hB3 hgq HG c0 c1_ c2_
          have hcase : K = 1 ∨ K = 2 ∨ K = 3 ∨ K = 4 ∨ K = 5 ∨ K = 6 ∨ K = 7 ∨ K = 8 := by have := HKL.out; omega
          clear HKL
          rcases hcase with rfl | rfl | rfl | rfl | rfl | rfl | rfl | rfl
          · skip
            by_cases hC0 : C = 0
            · have HNZ := Hd.mk hC0
              subst hC0
              have f0 : w3.cell? ⟨g1, 0, none⟩ = some (.int .i64 1) := HS.out.at1 0 (by rw [HCK.out]; rfl)
              have f2 : w3.cell? ⟨g1, 2, none⟩ = some (.int .i64 0) := HS.out.at1 2 (by rw [HCK.out]; rfl)
              go_upto_region 22 with fail
              have hbx := HS.out.box
              have hrs := HS.out.res
              go_wp2_with (first | (refine at_load (x := .tmp 3) ?_; refine wpList_load_row rfl 43 (.tmp 3) rfl gq rfl 43 (anW (⟨1, tag, 0, [], [], [], emS, false, 0, 0, 0, 0, 0, 0, 0⟩ : An) (.slice none 0 0) (.slice none 0 0) (.slice none 0 0)).cells.toArray (0, 0) _ hbx Try.underlying43 rfl infoAn15 ?_) | (refine at_store (x := .tmp 2) ?_; refine wpList_stored rfl 43 (.tmp 2) (.tmp 97) rfl gx (anW (⟨1, tag, 0, [], [], [], emS, false, 0, 0, 0, 0, 0, 0, 0⟩ : An) (.slice none 0 0) (.slice none 0 0) (.slice none 0 0)).cells.toArray rfl rfl 43 anZ hrs infoAn15 rfl (by simp [anW, Value.oneCell']) ?_; intro wy hBy))
              (try simp only [Exit.inBlock, Exit.then])
              refine bodyPost_ret (results_cell1 rfl _ _ gx 43 (anW (⟨1, tag, 0, [], [], [], emS, false, 0, 0, 0, 0, 0, 0, 0⟩ : An) (.slice none 0 0) (.slice none 0 0) (.slice none 0 0)).cells.toArray (0, 0) _ rfl hBy.out.1 Try.underlying43 rfl infoAn15) rfl ?_
              have hRR : fitAnP a = (⟨1, tag, 0, [], [], [], emS, false, 0, 0, 0, 0, 0, 0, 0⟩ : An) := by rw [HR.out]; unfold fitAnP; simp only [HK.out, HC.out]; simp
              rw [hRR]
              exact ⟨(.slice none 0 0), (.slice none 0 0), (.slice none 0 0), rfl, HS.out.done hBy.out.2.1⟩
            · have HNZ := Hd.mk hC0
              have f0 : w3.cell? ⟨g1, 0, none⟩ = some (.int .i64 1) := HS.out.at1 0 (by rw [HCK.out]; rfl)
              have f2 : w3.cell? ⟨g1, 2, none⟩ = some (.int .i64 C) := HS.out.at1 2 (by rw [HCK.out]; rfl)
              go_upto_region 9 with fail
              have hbx := HS.out.box
              have hrs := HS.out.res
              go_wp2_with (first | (refine at_load (x := .tmp 3) ?_; refine wpList_load_row rfl 43 (.tmp 3) rfl gq rfl 43 (anW (⟨1, tag, C, [], [], [], emS, false, 0, 0, 0, 0, 0, 0, 0⟩ : An) (.slice none 0 0) (.slice none 0 0) (.slice none 0 0)).cells.toArray (0, 0) _ hbx Try.underlying43 rfl infoAn15 ?_) | (refine at_store (x := .tmp 2) ?_; refine wpList_stored rfl 43 (.tmp 2) (.tmp 45) rfl gx (anW (⟨1, tag, C, [], [], [], emS, false, 0, 0, 0, 0, 0, 0, 0⟩ : An) (.slice none 0 0) (.slice none 0 0) (.slice none 0 0)).cells.toArray rfl rfl 43 anZ hrs infoAn15 rfl (by simp [anW, Value.oneCell']) ?_; intro wy hBy))
              (try simp only [Exit.inBlock, Exit.then])
              refine bodyPost_ret (results_cell1 rfl _ _ gx 43 (anW (⟨1, tag, C, [], [], [], emS, false, 0, 0, 0, 0, 0, 0, 0⟩ : An) (.slice none 0 0) (.slice none 0 0) (.slice none 0 0)).cells.toArray (0, 0) _ rfl hBy.out.1 Try.underlying43 rfl infoAn15) rfl ?_
              have hRR : fitAnP a = (⟨1, tag, C, [], [], [], emS, false, 0, 0, 0, 0, 0, 0, 0⟩ : An) := by rw [HR.out]; unfold fitAnP; simp only [HK.out, HC.out]; simp [HNZ.out]
              rw [hRR]
              exact ⟨(.slice none 0 0), (.slice none 0 0), (.slice none 0 0), rfl, HS.out.done hBy.out.2.1⟩
          · skip
            by_cases hC0 : C = 0
            · have HNZ := Hd.mk hC0
              subst hC0
              have f0 : w3.cell? ⟨g1, 0, none⟩ = some (.int .i64 2) := HS.out.at1 0 (by rw [HCK.out]; rfl)
              have f2 : w3.cell? ⟨g1, 2, none⟩ = some (.int .i64 0) := HS.out.at1 2 (by rw [HCK.out]; rfl)
              have f3 : w3.cell? ⟨g1, 3, none⟩ = some (.slice A n c) := HS.out.at1 3 (by rw [HCK.out]; rfl)
              obtain ⟨hcut, hrc⟩ := cut_run A n c 1048576 body ((HH.out.1.below HS.out.be)) HH.out.2.1
              have HRC := Hd.mk hrc
              clear hrc
              by_cases hle : n ≤ 1048576
              · skip
                have hmn : min n 1048576 = n := by omega
                rw [hmn] at hcut HRC
                clear hmn
                have HLE := Hd.mk hle
                have hle2 : (n : Int) ≤ 1048576 := by omega
                clear hle
                go_wp2_with fail
                refine (copyB_any w3 A n c w.heap.size _ HRC.out (by have := HLE.out; omega)).mono ?_
                rintro e wz ⟨A3', c3', rfl, ho3, hn3, hb3⟩
                have HZ := Hd.mk (HS.out.below hb3)
                have HO3 : Hd (wz.ownsRow (gq + 1) 5 1 (.slice A3' n c3') (body.take 1048576).length (cb (body.take 1048576))) := ⟨by have hl := HRC.out.1; rw [cb_length] at hl; rw [hl]; exact own_base ho3 HS.out.lt⟩
                clear ho3 hn3 hb3 hcut HS f0 f2 f3
                have f0 : wz.cell? ⟨g1, 0, none⟩ = some (.int .i64 2) := HZ.out.at1 0 (by rw [HCK.out]; rfl)
                have f2 : wz.cell? ⟨g1, 2, none⟩ = some (.int .i64 0) := HZ.out.at1 2 (by rw [HCK.out]; rfl)
                have z9 := HZ.out.z3 3
                have d9 : wz.cell? ⟨gq, 3, none⟩ = some (.slice none 0 0) := HZ.out.at3 3 rfl
                go_upto_region 12 with fail
                obtain ⟨u1, hu1⟩ : ∃ U, wz.setCell ⟨gq, 3, none⟩ (.slice A3' n c3') = U := ⟨_, rfl⟩
                rw [hu1]
                have HU1 : Hd (Ft w u1 43 g1 gx gq cK anZ (anW (⟨2, tag, 0, (body.take 1048576), [], [], emS, false, 0, 0, 0, 0, 0, 0, 0⟩ : An) (.slice A3' n c3') (.slice none 0 0) (.slice none 0 0))) := ⟨by rw [← hu1]; exact HZ.out.set (M' := (anW (⟨2, tag, 0, (body.take 1048576), [], [], emS, false, 0, 0, 0, 0, 0, 0, 0⟩ : An) (.slice A3' n c3') (.slice none 0 0) (.slice none 0 0))) 3 _ rfl (anW_ok HO3.out (anW_r HZ.out.ok).2.1 (anW_r HZ.out.ok).2.2)⟩
                clear hu1 z9 d9 HZ f0 f2
                have f0 : u1.cell? ⟨g1, 0, none⟩ = some (.int .i64 2) := HU1.out.at1 0 (by rw [HCK.out]; rfl)
                have f2 : u1.cell? ⟨g1, 2, none⟩ = some (.int .i64 0) := HU1.out.at1 2 (by rw [HCK.out]; rfl)
                go_upto_region 22 with fail
                have hbx := HU1.out.box
                have hrs := HU1.out.res
                go_wp2_with (first | (refine at_load (x := .tmp 3) ?_; refine wpList_load_row rfl 43 (.tmp 3) rfl gq rfl 43 (anW (⟨2, tag, 0, (body.take 1048576), [], [], emS, false, 0, 0, 0, 0, 0, 0, 0⟩ : An) (.slice A3' n c3') (.slice none 0 0) (.slice none 0 0)).cells.toArray (0, 0) _ hbx Try.underlying43 rfl infoAn15 ?_) | (refine at_store (x := .tmp 2) ?_; refine wpList_stored rfl 43 (.tmp 2) (.tmp 97) rfl gx (anW (⟨2, tag, 0, (body.take 1048576), [], [], emS, false, 0, 0, 0, 0, 0, 0, 0⟩ : An) (.slice A3' n c3') (.slice none 0 0) (.slice none 0 0)).cells.toArray rfl rfl 43 anZ hrs infoAn15 rfl (by simp [anW, Value.oneCell']) ?_; intro wy hBy))
                (try simp only [Exit.inBlock, Exit.then])
                refine bodyPost_ret (results_cell1 rfl _ _ gx 43 (anW (⟨2, tag, 0, (body.take 1048576), [], [], emS, false, 0, 0, 0, 0, 0, 0, 0⟩ : An) (.slice A3' n c3') (.slice none 0 0) (.slice none 0 0)).cells.toArray (0, 0) _ rfl hBy.out.1 Try.underlying43 rfl infoAn15) rfl ?_
                have hRR : fitAnP a = (⟨2, tag, 0, (body.take 1048576), [], [], emS, false, 0, 0, 0, 0, 0, 0, 0⟩ : An) := by rw [HR.out]; unfold fitAnP; simp only [HK.out, HC.out]; simp
                rw [hRR]
                exact ⟨(.slice A3' n c3'), (.slice none 0 0), (.slice none 0 0), rfl, HU1.out.done hBy.out.2.1⟩
              · skip
                have hmn : min n 1048576 = 1048576 := by omega
                rw [hmn] at hcut HRC
                clear hmn
                have hcut2 : (Instr.slice 26 (.slice A n c) none (some (.int .i64 1048576)) none).run Try.prog w3 = .ok (.slice A 1048576 c) w3 := hcut
                have HLE := Hd.mk hle
                have hle2 : ¬ ((n : Int) ≤ 1048576) := by omega
                have hle3 : ¬ ((n : Int) < 1048576) := by omega
                clear hle
                go_wp2_with fail
                refine (copyB_any w3 A 1048576 c w.heap.size _ HRC.out (by have := HLE.out; omega)).mono ?_
                rintro e wz ⟨A3', c3', rfl, ho3, hn3, hb3⟩
                have HZ := Hd.mk (HS.out.below hb3)
                have HO3 : Hd (wz.ownsRow (gq + 1) 5 1 (.slice A3' 1048576 c3') (body.take 1048576).length (cb (body.take 1048576))) := ⟨by have hl := HRC.out.1; rw [cb_length] at hl; rw [hl]; exact own_base ho3 HS.out.lt⟩
                clear ho3 hn3 hb3 hcut HS f0 f2 f3
                have f0 : wz.cell? ⟨g1, 0, none⟩ = some (.int .i64 2) := HZ.out.at1 0 (by rw [HCK.out]; rfl)
                have f2 : wz.cell? ⟨g1, 2, none⟩ = some (.int .i64 0) := HZ.out.at1 2 (by rw [HCK.out]; rfl)
                have z9 := HZ.out.z3 3
                have d9 : wz.cell? ⟨gq, 3, none⟩ = some (.slice none 0 0) := HZ.out.at3 3 rfl
                go_upto_region 12 with fail
                obtain ⟨u1, hu1⟩ : ∃ U, wz.setCell ⟨gq, 3, none⟩ (.slice A3' 1048576 c3') = U := ⟨_, rfl⟩
                rw [hu1]
                have HU1 : Hd (Ft w u1 43 g1 gx gq cK anZ (anW (⟨2, tag, 0, (body.take 1048576), [], [], emS, false, 0, 0, 0, 0, 0, 0, 0⟩ : An) (.slice A3' 1048576 c3') (.slice none 0 0) (.slice none 0 0))) := ⟨by rw [← hu1]; exact HZ.out.set (M' := (anW (⟨2, tag, 0, (body.take 1048576), [], [], emS, false, 0, 0, 0, 0, 0, 0, 0⟩ : An) (.slice A3' 1048576 c3') (.slice none 0 0) (.slice none 0 0))) 3 _ rfl (anW_ok HO3.out (anW_r HZ.out.ok).2.1 (anW_r HZ.out.ok).2.2)⟩
                clear hu1 z9 d9 HZ f0 f2
                have f0 : u1.cell? ⟨g1, 0, none⟩ = some (.int .i64 2) := HU1.out.at1 0 (by rw [HCK.out]; rfl)
                have f2 : u1.cell? ⟨g1, 2, none⟩ = some (.int .i64 0) := HU1.out.at1 2 (by rw [HCK.out]; rfl)
                go_upto_region 22 with fail
                have hbx := HU1.out.box
                have hrs := HU1.out.res
                go_wp2_with (first | (refine at_load (x := .tmp 3) ?_; refine wpList_load_row rfl 43 (.tmp 3) rfl gq rfl 43 (anW (⟨2, tag, 0, (body.take 1048576), [], [], emS, false, 0, 0, 0, 0, 0, 0, 0⟩ : An) (.slice A3' 1048576 c3') (.slice none 0 0) (.slice none 0 0)).cells.toArray (0, 0) _ hbx Try.underlying43 rfl infoAn15 ?_) | (refine at_store (x := .tmp 2) ?_; refine wpList_stored rfl 43 (.tmp 2) (.tmp 97) rfl gx (anW (⟨2, tag, 0, (body.take 1048576), [], [], emS, false, 0, 0, 0, 0, 0, 0, 0⟩ : An) (.slice A3' 1048576 c3') (.slice none 0 0) (.slice none 0 0)).cells.toArray rfl rfl 43 anZ hrs infoAn15 rfl (by simp [anW, Value.oneCell']) ?_; intro wy hBy))
                (try simp only [Exit.inBlock, Exit.then])
                refine bodyPost_ret (results_cell1 rfl _ _ gx 43 (anW (⟨2, tag, 0, (body.take 1048576), [], [], emS, false, 0, 0, 0, 0, 0, 0, 0⟩ : An) (.slice A3' 1048576 c3') (.slice none 0 0) (.slice none 0 0)).cells.toArray (0, 0) _ rfl hBy.out.1 Try.underlying43 rfl infoAn15) rfl ?_
                have hRR : fitAnP a = (⟨2, tag, 0, (body.take 1048576), [], [], emS, false, 0, 0, 0, 0, 0, 0, 0⟩ : An) := by rw [HR.out]; unfold fitAnP; simp only [HK.out, HC.out]; simp
                rw [hRR]
                exact ⟨(.slice A3' 1048576 c3'), (.slice none 0 0), (.slice none 0 0), rfl, HU1.out.done hBy.out.2.1⟩
            · have HNZ := Hd.mk hC0
              have f0 : w3.cell? ⟨g1, 0, none⟩ = some (.int .i64 2) := HS.out.at1 0 (by rw [HCK.out]; rfl)
              have f2 : w3.cell? ⟨g1, 2, none⟩ = some (.int .i64 C) := HS.out.at1 2 (by rw [HCK.out]; rfl)
              go_upto_region 9 with fail
              have hbx := HS.out.box
              have hrs := HS.out.res
              go_wp2_with (first | (refine at_load (x := .tmp 3) ?_; refine wpList_load_row rfl 43 (.tmp 3) rfl gq rfl 43 (anW (⟨2, tag, C, [], [], [], emS, false, 0, 0, 0, 0, 0, 0, 0⟩ : An) (.slice none 0 0) (.slice none 0 0) (.slice none 0 0)).cells.toArray (0, 0) _ hbx Try.underlying43 rfl infoAn15 ?_) | (refine at_store (x := .tmp 2) ?_; refine wpList_stored rfl 43 (.tmp 2) (.tmp 45) rfl gx (anW (⟨2, tag, C, [], [], [], emS, false, 0, 0, 0, 0, 0, 0, 0⟩ : An) (.slice none 0 0) (.slice none 0 0) (.slice none 0 0)).cells.toArray rfl rfl 43 anZ hrs infoAn15 rfl (by simp [anW, Value.oneCell']) ?_; intro wy hBy))
              (try simp only [Exit.inBlock, Exit.then])
              refine bodyPost_ret (results_cell1 rfl _ _ gx 43 (anW (⟨2, tag, C, [], [], [], emS, false, 0, 0, 0, 0, 0, 0, 0⟩ : An) (.slice none 0 0) (.slice none 0 0) (.slice none 0 0)).cells.toArray (0, 0) _ rfl hBy.out.1 Try.underlying43 rfl infoAn15) rfl ?_
              have hRR : fitAnP a = (⟨2, tag, C, [], [], [], emS, false, 0, 0, 0, 0, 0, 0, 0⟩ : An) := by rw [HR.out]; unfold fitAnP; simp only [HK.out, HC.out]; simp [HNZ.out]
              rw [hRR]
              exact ⟨(.slice none 0 0), (.slice none 0 0), (.slice none 0 0), rfl, HS.out.done hBy.out.2.1⟩
          · skip
            by_cases hC0 : C = 0
            · have HNZ := Hd.mk hC0
              subst hC0
              have f0 : w3.cell? ⟨g1, 0, none⟩ = some (.int .i64 3) := HS.out.at1 0 (by rw [HCK.out]; rfl)
              have f2 : w3.cell? ⟨g1, 2, none⟩ = some (.int .i64 0) := HS.out.at1 2 (by rw [HCK.out]; rfl)
              have f3 : w3.cell? ⟨g1, 3, none⟩ = some (.slice A n c) := HS.out.at1 3 (by rw [HCK.out]; rfl)
              obtain ⟨hcut, hrc⟩ := cut_run A n c 1048576 body ((HH.out.1.below HS.out.be)) HH.out.2.1
              have HRC := Hd.mk hrc
              clear hrc
              by_cases hle : n ≤ 1048576
              · skip
                have hmn : min n 1048576 = n := by omega
                rw [hmn] at hcut HRC
                clear hmn
                have HLE := Hd.mk hle
                have hle2 : (n : Int) ≤ 1048576 := by omega
                clear hle
                go_wp2_with fail
                refine (copyB_any w3 A n c w.heap.size _ HRC.out (by have := HLE.out; omega)).mono ?_
                rintro e wz ⟨A3', c3', rfl, ho3, hn3, hb3⟩
                have HZ := Hd.mk (HS.out.below hb3)
                have HO3 : Hd (wz.ownsRow (gq + 1) 5 1 (.slice A3' n c3') (body.take 1048576).length (cb (body.take 1048576))) := ⟨by have hl := HRC.out.1; rw [cb_length] at hl; rw [hl]; exact own_base ho3 HS.out.lt⟩
                clear ho3 hn3 hb3 hcut HS f0 f2 f3
                have f0 : wz.cell? ⟨g1, 0, none⟩ = some (.int .i64 3) := HZ.out.at1 0 (by rw [HCK.out]; rfl)
                have f2 : wz.cell? ⟨g1, 2, none⟩ = some (.int .i64 0) := HZ.out.at1 2 (by rw [HCK.out]; rfl)
                have z9 := HZ.out.z3 3
                have d9 : wz.cell? ⟨gq, 3, none⟩ = some (.slice none 0 0) := HZ.out.at3 3 rfl
                go_upto_region 12 with fail
                obtain ⟨u1, hu1⟩ : ∃ U, wz.setCell ⟨gq, 3, none⟩ (.slice A3' n c3') = U := ⟨_, rfl⟩
                rw [hu1]
                have HU1 : Hd (Ft w u1 43 g1 gx gq cK anZ (anW (⟨3, tag, 0, (body.take 1048576), [], [], emS, false, 0, 0, 0, 0, 0, 0, 0⟩ : An) (.slice A3' n c3') (.slice none 0 0) (.slice none 0 0))) := ⟨by rw [← hu1]; exact HZ.out.set (M' := (anW (⟨3, tag, 0, (body.take 1048576), [], [], emS, false, 0, 0, 0, 0, 0, 0, 0⟩ : An) (.slice A3' n c3') (.slice none 0 0) (.slice none 0 0))) 3 _ rfl (anW_ok HO3.out (anW_r HZ.out.ok).2.1 (anW_r HZ.out.ok).2.2)⟩
                clear hu1 z9 d9 HZ f0 f2
                have f0 : u1.cell? ⟨g1, 0, none⟩ = some (.int .i64 3) := HU1.out.at1 0 (by rw [HCK.out]; rfl)
                have f2 : u1.cell? ⟨g1, 2, none⟩ = some (.int .i64 0) := HU1.out.at1 2 (by rw [HCK.out]; rfl)
                go_upto_region 22 with fail
                have hbx := HU1.out.box
                have hrs := HU1.out.res
                go_wp2_with (first | (refine at_load (x := .tmp 3) ?_; refine wpList_load_row rfl 43 (.tmp 3) rfl gq rfl 43 (anW (⟨3, tag, 0, (body.take 1048576), [], [], emS, false, 0, 0, 0, 0, 0, 0, 0⟩ : An) (.slice A3' n c3') (.slice none 0 0) (.slice none 0 0)).cells.toArray (0, 0) _ hbx Try.underlying43 rfl infoAn15 ?_) | (refine at_store (x := .tmp 2) ?_; refine wpList_stored rfl 43 (.tmp 2) (.tmp 97) rfl gx (anW (⟨3, tag, 0, (body.take 1048576), [], [], emS, false, 0, 0, 0, 0, 0, 0, 0⟩ : An) (.slice A3' n c3') (.slice none 0 0) (.slice none 0 0)).cells.toArray rfl rfl 43 anZ hrs infoAn15 rfl (by simp [anW, Value.oneCell']) ?_; intro wy hBy))
                (try simp only [Exit.inBlock, Exit.then])
                refine bodyPost_ret (results_cell1 rfl _ _ gx 43 (anW (⟨3, tag, 0, (body.take 1048576), [], [], emS, false, 0, 0, 0, 0, 0, 0, 0⟩ : An) (.slice A3' n c3') (.slice none 0 0) (.slice none 0 0)).cells.toArray (0, 0) _ rfl hBy.out.1 Try.underlying43 rfl infoAn15) rfl ?_
                have hRR : fitAnP a = (⟨3, tag, 0, (body.take 1048576), [], [], emS, false, 0, 0, 0, 0, 0, 0, 0⟩ : An) := by rw [HR.out]; unfold fitAnP; simp only [HK.out, HC.out]; simp
                rw [hRR]
                exact ⟨(.slice A3' n c3'), (.slice none 0 0), (.slice none 0 0), rfl, HU1.out.done hBy.out.2.1⟩
              · skip
                have hmn : min n 1048576 = 1048576 := by omega
                rw [hmn] at hcut HRC
                clear hmn
                have hcut2 : (Instr.slice 26 (.slice A n c) none (some (.int .i64 1048576)) none).run Try.prog w3 = .ok (.slice A 1048576 c) w3 := hcut
                have HLE := Hd.mk hle
                have hle2 : ¬ ((n : Int) ≤ 1048576) := by omega
                have hle3 : ¬ ((n : Int) < 1048576) := by omega
                clear hle
                go_wp2_with fail
                refine (copyB_any w3 A 1048576 c w.heap.size _ HRC.out (by have := HLE.out; omega)).mono ?_
                rintro e wz ⟨A3', c3', rfl, ho3, hn3, hb3⟩
                have HZ := Hd.mk (HS.out.below hb3)
                have HO3 : Hd (wz.ownsRow (gq + 1) 5 1 (.slice A3' 1048576 c3') (body.take 1048576).length (cb (body.take 1048576))) := ⟨by have hl := HRC.out.1; rw [cb_length] at hl; rw [hl]; exact own_base ho3 HS.out.lt⟩
                clear ho3 hn3 hb3 hcut HS f0 f2 f3
                have f0 : wz.cell? ⟨g1, 0, none⟩ = some (.int .i64 3) := HZ.out.at1 0 (by rw [HCK.out]; rfl)
                have f2 : wz.cell? ⟨g1, 2, none⟩ = some (.int .i64 0) := HZ.out.at1 2 (by rw [HCK.out]; rfl)
                have z9 := HZ.out.z3 3
                have d9 : wz.cell? ⟨gq, 3, none⟩ = some (.slice none 0 0) := HZ.out.at3 3 rfl
                go_upto_region 12 with fail
                obtain ⟨u1, hu1⟩ : ∃ U, wz.setCell ⟨gq, 3, none⟩ (.slice A3' 1048576 c3') = U := ⟨_, rfl⟩
                rw [hu1]
                have HU1 : Hd (Ft w u1 43 g1 gx gq cK anZ (anW (⟨3, tag, 0, (body.take 1048576), [], [], emS, false, 0, 0, 0, 0, 0, 0, 0⟩ : An) (.slice A3' 1048576 c3') (.slice none 0 0) (.slice none 0 0))) := ⟨by rw [← hu1]; exact HZ.out.set (M' := (anW (⟨3, tag, 0, (body.take 1048576), [], [], emS, false, 0, 0, 0, 0, 0, 0, 0⟩ : An) (.slice A3' 1048576 c3') (.slice none 0 0) (.slice none 0 0))) 3 _ rfl (anW_ok HO3.out (anW_r HZ.out.ok).2.1 (anW_r HZ.out.ok).2.2)⟩
                clear hu1 z9 d9 HZ f0 f2
                have f0 : u1.cell? ⟨g1, 0, none⟩ = some (.int .i64 3) := HU1.out.at1 0 (by rw [HCK.out]; rfl)
                have f2 : u1.cell? ⟨g1, 2, none⟩ = some (.int .i64 0) := HU1.out.at1 2 (by rw [HCK.out]; rfl)
                go_upto_region 22 with fail
                have hbx := HU1.out.box
                have hrs := HU1.out.res
                go_wp2_with (first | (refine at_load (x := .tmp 3) ?_; refine wpList_load_row rfl 43 (.tmp 3) rfl gq rfl 43 (anW (⟨3, tag, 0, (body.take 1048576), [], [], emS, false, 0, 0, 0, 0, 0, 0, 0⟩ : An) (.slice A3' 1048576 c3') (.slice none 0 0) (.slice none 0 0)).cells.toArray (0, 0) _ hbx Try.underlying43 rfl infoAn15 ?_) | (refine at_store (x := .tmp 2) ?_; refine wpList_stored rfl 43 (.tmp 2) (.tmp 97) rfl gx (anW (⟨3, tag, 0, (body.take 1048576), [], [], emS, false, 0, 0, 0, 0, 0, 0, 0⟩ : An) (.slice A3' 1048576 c3') (.slice none 0 0) (.slice none 0 0)).cells.toArray rfl rfl 43 anZ hrs infoAn15 rfl (by simp [anW, Value.oneCell']) ?_; intro wy hBy))
                (try simp only [Exit.inBlock, Exit.then])
                refine bodyPost_ret (results_cell1 rfl _ _ gx 43 (anW (⟨3, tag, 0, (body.take 1048576), [], [], emS, false, 0, 0, 0, 0, 0, 0, 0⟩ : An) (.slice A3' 1048576 c3') (.slice none 0 0) (.slice none 0 0)).cells.toArray (0, 0) _ rfl hBy.out.1 Try.underlying43 rfl infoAn15) rfl ?_
                have hRR : fitAnP a = (⟨3, tag, 0, (body.take 1048576), [], [], emS, false, 0, 0, 0, 0, 0, 0, 0⟩ : An) := by rw [HR.out]; unfold fitAnP; simp only [HK.out, HC.out]; simp
                rw [hRR]
                exact ⟨(.slice A3' 1048576 c3'), (.slice none 0 0), (.slice none 0 0), rfl, HU1.out.done hBy.out.2.1⟩
            · have HNZ := Hd.mk hC0
              have f0 : w3.cell? ⟨g1, 0, none⟩ = some (.int .i64 3) := HS.out.at1 0 (by rw [HCK.out]; rfl)
              have f2 : w3.cell? ⟨g1, 2, none⟩ = some (.int .i64 C) := HS.out.at1 2 (by rw [HCK.out]; rfl)
              go_upto_region 9 with fail
              have hbx := HS.out.box
              have hrs := HS.out.res
              go_wp2_with (first | (refine at_load (x := .tmp 3) ?_; refine wpList_load_row rfl 43 (.tmp 3) rfl gq rfl 43 (anW (⟨3, tag, C, [], [], [], emS, false, 0, 0, 0, 0, 0, 0, 0⟩ : An) (.slice none 0 0) (.slice none 0 0) (.slice none 0 0)).cells.toArray (0, 0) _ hbx Try.underlying43 rfl infoAn15 ?_) | (refine at_store (x := .tmp 2) ?_; refine wpList_stored rfl 43 (.tmp 2) (.tmp 45) rfl gx (anW (⟨3, tag, C, [], [], [], emS, false, 0, 0, 0, 0, 0, 0, 0⟩ : An) (.slice none 0 0) (.slice none 0 0) (.slice none 0 0)).cells.toArray rfl rfl 43 anZ hrs infoAn15 rfl (by simp [anW, Value.oneCell']) ?_; intro wy hBy))
              (try simp only [Exit.inBlock, Exit.then])
              refine bodyPost_ret (results_cell1 rfl _ _ gx 43 (anW (⟨3, tag, C, [], [], [], emS, false, 0, 0, 0, 0, 0, 0, 0⟩ : An) (.slice none 0 0) (.slice none 0 0) (.slice none 0 0)).cells.toArray (0, 0) _ rfl hBy.out.1 Try.underlying43 rfl infoAn15) rfl ?_
              have hRR : fitAnP a = (⟨3, tag, C, [], [], [], emS, false, 0, 0, 0, 0, 0, 0, 0⟩ : An) := by rw [HR.out]; unfold fitAnP; simp only [HK.out, HC.out]; simp [HNZ.out]
              rw [hRR]
              exact ⟨(.slice none 0 0), (.slice none 0 0), (.slice none 0 0), rfl, HS.out.done hBy.out.2.1⟩
          · skip
            by_cases hC0 : C = 0
            · have HNZ := Hd.mk hC0
              subst hC0
              have f0 : w3.cell? ⟨g1, 0, none⟩ = some (.int .i64 4) := HS.out.at1 0 (by rw [HCK.out]; rfl)
              have f2 : w3.cell? ⟨g1, 2, none⟩ = some (.int .i64 0) := HS.out.at1 2 (by rw [HCK.out]; rfl)
              have hrg : w3.rangeAt g1 8 [.int .i64 ge, .int .i64 gc] := HS.out.range1o 8 2 (by rw [HCK.out]; rfl)
              have zz0 := HS.out.z3 8
              have dd0 : w3.cell? ⟨gq, 8, none⟩ = some (.int .i64 0) := HS.out.at3 8 rfl
              have zz1 := HS.out.z3 9
              have dd1 : w3.cell? ⟨gq, 9, none⟩ = some (.int .i64 0) := HS.out.at3 9 rfl
              go_upto_region 14 with (refine at_load (x := .tmp 66) ?_; refine wpList_load_mid rfl 39 (.tmp 66) rfl g1 8 rfl [.int .i64 ge, .int .i64 gc] _ hrg Try.underlying39 rfl infoGen2 ?_)
              obtain ⟨u1, hu1⟩ : ∃ U, ((w3.setCell ⟨gq, 8, none⟩ (.int .i64 ge)).setCell ⟨gq, 9, none⟩ (.int .i64 gc)) = U := ⟨_, rfl⟩
              rw [hu1]
              have HU1 : Hd (Ft w u1 43 g1 gx gq cK anZ (anW (⟨4, tag, 0, [], [], [], emS, false, ge, gc, 0, 0, 0, 0, 0⟩ : An) (.slice none 0 0) (.slice none 0 0) (.slice none 0 0))) := ⟨by rw [← hu1]; exact HS.out.sets 8 [.int .i64 ge, .int .i64 gc] (M' := (anW (⟨4, tag, 0, [], [], [], emS, false, ge, gc, 0, 0, 0, 0, 0⟩ : An) (.slice none 0 0) (.slice none 0 0) (.slice none 0 0))) rfl⟩
              clear hu1 hrg zz0 dd0 zz1 dd1 HS f0 f2
              have f0 : u1.cell? ⟨g1, 0, none⟩ = some (.int .i64 4) := HU1.out.at1 0 (by rw [HCK.out]; rfl)
              have f2 : u1.cell? ⟨g1, 2, none⟩ = some (.int .i64 0) := HU1.out.at1 2 (by rw [HCK.out]; rfl)
              have f10 : u1.cell? ⟨g1, 10, none⟩ = some (.int .i64 size) := HU1.out.at1 10 (by rw [HCK.out]; rfl)
              have z9 := HU1.out.z3 10
              have d9 : u1.cell? ⟨gq, 10, none⟩ = some (.int .i64 0) := HU1.out.at3 10 rfl
              go_upto_region 15 with fail
              obtain ⟨u2, hu2⟩ : ∃ U, u1.setCell ⟨gq, 10, none⟩ (.int .i64 size) = U := ⟨_, rfl⟩
              rw [hu2]
              have HU2 : Hd (Ft w u2 43 g1 gx gq cK anZ (anW (⟨4, tag, 0, [], [], [], emS, false, ge, gc, size, 0, 0, 0, 0⟩ : An) (.slice none 0 0) (.slice none 0 0) (.slice none 0 0))) := ⟨by rw [← hu2]; exact HU1.out.set (M' := (anW (⟨4, tag, 0, [], [], [], emS, false, ge, gc, size, 0, 0, 0, 0⟩ : An) (.slice none 0 0) (.slice none 0 0) (.slice none 0 0))) 10 _ rfl (fun r hr => HU1.out.ok r hr)⟩
              clear hu2 z9 d9 HU1 f0 f2 f10
              have f0 : u2.cell? ⟨g1, 0, none⟩ = some (.int .i64 4) := HU2.out.at1 0 (by rw [HCK.out]; rfl)
              have f2 : u2.cell? ⟨g1, 2, none⟩ = some (.int .i64 0) := HU2.out.at1 2 (by rw [HCK.out]; rfl)
              go_upto_region 22 with fail
              have hbx := HU2.out.box
              have hrs := HU2.out.res
              go_wp2_with (first | (refine at_load (x := .tmp 3) ?_; refine wpList_load_row rfl 43 (.tmp 3) rfl gq rfl 43 (anW (⟨4, tag, 0, [], [], [], emS, false, ge, gc, size, 0, 0, 0, 0⟩ : An) (.slice none 0 0) (.slice none 0 0) (.slice none 0 0)).cells.toArray (0, 0) _ hbx Try.underlying43 rfl infoAn15 ?_) | (refine at_store (x := .tmp 2) ?_; refine wpList_stored rfl 43 (.tmp 2) (.tmp 97) rfl gx (anW (⟨4, tag, 0, [], [], [], emS, false, ge, gc, size, 0, 0, 0, 0⟩ : An) (.slice none 0 0) (.slice none 0 0) (.slice none 0 0)).cells.toArray rfl rfl 43 anZ hrs infoAn15 rfl (by simp [anW, Value.oneCell']) ?_; intro wy hBy))
              (try simp only [Exit.inBlock, Exit.then])
              refine bodyPost_ret (results_cell1 rfl _ _ gx 43 (anW (⟨4, tag, 0, [], [], [], emS, false, ge, gc, size, 0, 0, 0, 0⟩ : An) (.slice none 0 0) (.slice none 0 0) (.slice none 0 0)).cells.toArray (0, 0) _ rfl hBy.out.1 Try.underlying43 rfl infoAn15) rfl ?_
              have hRR : fitAnP a = (⟨4, tag, 0, [], [], [], emS, false, ge, gc, size, 0, 0, 0, 0⟩ : An) := by rw [HR.out]; unfold fitAnP; simp only [HK.out, HC.out]; simp
              rw [hRR]
              exact ⟨(.slice none 0 0), (.slice none 0 0), (.slice none 0 0), rfl, HU2.out.done hBy.out.2.1⟩
            · have HNZ := Hd.mk hC0
              have f0 : w3.cell? ⟨g1, 0, none⟩ = some (.int .i64 4) := HS.out.at1 0 (by rw [HCK.out]; rfl)
              have f2 : w3.cell? ⟨g1, 2, none⟩ = some (.int .i64 C) := HS.out.at1 2 (by rw [HCK.out]; rfl)
              go_upto_region 9 with fail
              have hbx := HS.out.box
              have hrs := HS.out.res
              go_wp2_with (first | (refine at_load (x := .tmp 3) ?_; refine wpList_load_row rfl 43 (.tmp 3) rfl gq rfl 43 (anW (⟨4, tag, C, [], [], [], emS, false, 0, 0, 0, 0, 0, 0, 0⟩ : An) (.slice none 0 0) (.slice none 0 0) (.slice none 0 0)).cells.toArray (0, 0) _ hbx Try.underlying43 rfl infoAn15 ?_) | (refine at_store (x := .tmp 2) ?_; refine wpList_stored rfl 43 (.tmp 2) (.tmp 45) rfl gx (anW (⟨4, tag, C, [], [], [], emS, false, 0, 0, 0, 0, 0, 0, 0⟩ : An) (.slice none 0 0) (.slice none 0 0) (.slice none 0 0)).cells.toArray rfl rfl 43 anZ hrs infoAn15 rfl (by simp [anW, Value.oneCell']) ?_; intro wy hBy))
              (try simp only [Exit.inBlock, Exit.then])
              refine bodyPost_ret (results_cell1 rfl _ _ gx 43 (anW (⟨4, tag, C, [], [], [], emS, false, 0, 0, 0, 0, 0, 0, 0⟩ : An) (.slice none 0 0) (.slice none 0 0) (.slice none 0 0)).cells.toArray (0, 0) _ rfl hBy.out.1 Try.underlying43 rfl infoAn15) rfl ?_
              have hRR : fitAnP a = (⟨4, tag, C, [], [], [], emS, false, 0, 0, 0, 0, 0, 0, 0⟩ : An) := by rw [HR.out]; unfold fitAnP; simp only [HK.out, HC.out]; simp [HNZ.out]
              rw [hRR]
              exact ⟨(.slice none 0 0), (.slice none 0 0), (.slice none 0 0), rfl, HS.out.done hBy.out.2.1⟩
          · skip
            by_cases hC0 : C = 0
            · have HNZ := Hd.mk hC0
              subst hC0
              have f0 : w3.cell? ⟨g1, 0, none⟩ = some (.int .i64 5) := HS.out.at1 0 (by rw [HCK.out]; rfl)
              have f2 : w3.cell? ⟨g1, 2, none⟩ = some (.int .i64 0) := HS.out.at1 2 (by rw [HCK.out]; rfl)
              go_upto_region 22 with fail
              have hbx := HS.out.box
              have hrs := HS.out.res
              go_wp2_with (first | (refine at_load (x := .tmp 3) ?_; refine wpList_load_row rfl 43 (.tmp 3) rfl gq rfl 43 (anW (⟨5, tag, 0, [], [], [], emS, false, 0, 0, 0, 0, 0, 0, 0⟩ : An) (.slice none 0 0) (.slice none 0 0) (.slice none 0 0)).cells.toArray (0, 0) _ hbx Try.underlying43 rfl infoAn15 ?_) | (refine at_store (x := .tmp 2) ?_; refine wpList_stored rfl 43 (.tmp 2) (.tmp 97) rfl gx (anW (⟨5, tag, 0, [], [], [], emS, false, 0, 0, 0, 0, 0, 0, 0⟩ : An) (.slice none 0 0) (.slice none 0 0) (.slice none 0 0)).cells.toArray rfl rfl 43 anZ hrs infoAn15 rfl (by simp [anW, Value.oneCell']) ?_; intro wy hBy))
              (try simp only [Exit.inBlock, Exit.then])
              refine bodyPost_ret (results_cell1 rfl _ _ gx 43 (anW (⟨5, tag, 0, [], [], [], emS, false, 0, 0, 0, 0, 0, 0, 0⟩ : An) (.slice none 0 0) (.slice none 0 0) (.slice none 0 0)).cells.toArray (0, 0) _ rfl hBy.out.1 Try.underlying43 rfl infoAn15) rfl ?_
              have hRR : fitAnP a = (⟨5, tag, 0, [], [], [], emS, false, 0, 0, 0, 0, 0, 0, 0⟩ : An) := by rw [HR.out]; unfold fitAnP; simp only [HK.out, HC.out]; simp
              rw [hRR]
              exact ⟨(.slice none 0 0), (.slice none 0 0), (.slice none 0 0), rfl, HS.out.done hBy.out.2.1⟩
            · have HNZ := Hd.mk hC0
              have f0 : w3.cell? ⟨g1, 0, none⟩ = some (.int .i64 5) := HS.out.at1 0 (by rw [HCK.out]; rfl)
              have f2 : w3.cell? ⟨g1, 2, none⟩ = some (.int .i64 C) := HS.out.at1 2 (by rw [HCK.out]; rfl)
              go_upto_region 9 with fail
              have hbx := HS.out.box
              have hrs := HS.out.res
              go_wp2_with (first | (refine at_load (x := .tmp 3) ?_; refine wpList_load_row rfl 43 (.tmp 3) rfl gq rfl 43 (anW (⟨5, tag, C, [], [], [], emS, false, 0, 0, 0, 0, 0, 0, 0⟩ : An) (.slice none 0 0) (.slice none 0 0) (.slice none 0 0)).cells.toArray (0, 0) _ hbx Try.underlying43 rfl infoAn15 ?_) | (refine at_store (x := .tmp 2) ?_; refine wpList_stored rfl 43 (.tmp 2) (.tmp 45) rfl gx (anW (⟨5, tag, C, [], [], [], emS, false, 0, 0, 0, 0, 0, 0, 0⟩ : An) (.slice none 0 0) (.slice none 0 0) (.slice none 0 0)).cells.toArray rfl rfl 43 anZ hrs infoAn15 rfl (by simp [anW, Value.oneCell']) ?_; intro wy hBy))
              (try simp only [Exit.inBlock, Exit.then])
              refine bodyPost_ret (results_cell1 rfl _ _ gx 43 (anW (⟨5, tag, C, [], [], [], emS, false, 0, 0, 0, 0, 0, 0, 0⟩ : An) (.slice none 0 0) (.slice none 0 0) (.slice none 0 0)).cells.toArray (0, 0) _ rfl hBy.out.1 Try.underlying43 rfl infoAn15) rfl ?_
              have hRR : fitAnP a = (⟨5, tag, C, [], [], [], emS, false, 0, 0, 0, 0, 0, 0, 0⟩ : An) := by rw [HR.out]; unfold fitAnP; simp only [HK.out, HC.out]; simp [HNZ.out]
              rw [hRR]
              exact ⟨(.slice none 0 0), (.slice none 0 0), (.slice none 0 0), rfl, HS.out.done hBy.out.2.1⟩
          · skip
            by_cases hC0 : C = 0
            · have HNZ := Hd.mk hC0
              subst hC0
              have f0 : w3.cell? ⟨g1, 0, none⟩ = some (.int .i64 6) := HS.out.at1 0 (by rw [HCK.out]; rfl)
              have f2 : w3.cell? ⟨g1, 2, none⟩ = some (.int .i64 0) := HS.out.at1 2 (by rw [HCK.out]; rfl)
              have f4 : w3.cell? ⟨g1, 4, none⟩ = some (.slice A2 n2 c2) := HS.out.at1 4 (by rw [HCK.out]; rfl)
              go_wp2_with fail
              refine (cutTexts_any w3 A2 n2 c2 w.heap.size keys (HH.out.2.2.2.2.2.1.below HS.out.be) HH.out.2.2.2.2.2.2.2.1 HS.out.be.size 65536 (by omega) HH.out.2.2.2.2.2.2.2.2.2.1).mono ?_
              rintro e y1 ⟨vt, rfl, hot, hbt⟩
              obtain ⟨At1, ct1, hvt, _⟩ := own_form hot
              obtain ⟨lt1, hlt1⟩ : ∃ l, (textsP keys 65536).length = l := ⟨_, rfl⟩
              rw [hlt1] at hvt
              subst hvt
              have HOy1 : Hd (y1.ownsRow (gq + 1) 9 1 (.slice At1 lt1 ct1) (textsP keys 65536).length (cs (textsP keys 65536))) := ⟨own_base hot HS.out.lt⟩
              have Hy1 := Hd.mk (HS.out.below hbt)
              clear hot hbt HS hlt1 f0 f2 f4
              have f0 : y1.cell? ⟨g1, 0, none⟩ = some (.int .i64 6) := Hy1.out.at1 0 (by rw [HCK.out]; rfl)
              have f2 : y1.cell? ⟨g1, 2, none⟩ = some (.int .i64 0) := Hy1.out.at1 2 (by rw [HCK.out]; rfl)
              have z9 := Hy1.out.z3 4
              have d9 : y1.cell? ⟨gq, 4, none⟩ = some (.slice none 0 0) := Hy1.out.at3 4 rfl
              go_upto_region 17 with fail
              obtain ⟨u2, hu2⟩ : ∃ U, y1.setCell ⟨gq, 4, none⟩ (.slice At1 lt1 ct1) = U := ⟨_, rfl⟩
              rw [hu2]
              have HU2 : Hd (Ft w u2 43 g1 gx gq cK anZ (anW (⟨6, tag, 0, [], (textsP keys 65536), [], emS, false, 0, 0, 0, 0, 0, 0, 0⟩ : An) (.slice none 0 0) (.slice At1 lt1 ct1) (.slice none 0 0))) := ⟨by rw [← hu2]; exact Hy1.out.set (M' := (anW (⟨6, tag, 0, [], (textsP keys 65536), [], emS, false, 0, 0, 0, 0, 0, 0, 0⟩ : An) (.slice none 0 0) (.slice At1 lt1 ct1) (.slice none 0 0))) 4 _ rfl (anW_ok (anW_r Hy1.out.ok).1 HOy1.out (anW_r Hy1.out.ok).2.2)⟩
              clear hu2 z9 d9 Hy1 f0 f2
              have f0 : u2.cell? ⟨g1, 0, none⟩ = some (.int .i64 6) := HU2.out.at1 0 (by rw [HCK.out]; rfl)
              have f2 : u2.cell? ⟨g1, 2, none⟩ = some (.int .i64 0) := HU2.out.at1 2 (by rw [HCK.out]; rfl)
              go_upto_region 22 with fail
              have hbx := HU2.out.box
              have hrs := HU2.out.res
              go_wp2_with (first | (refine at_load (x := .tmp 3) ?_; refine wpList_load_row rfl 43 (.tmp 3) rfl gq rfl 43 (anW (⟨6, tag, 0, [], (textsP keys 65536), [], emS, false, 0, 0, 0, 0, 0, 0, 0⟩ : An) (.slice none 0 0) (.slice At1 lt1 ct1) (.slice none 0 0)).cells.toArray (0, 0) _ hbx Try.underlying43 rfl infoAn15 ?_) | (refine at_store (x := .tmp 2) ?_; refine wpList_stored rfl 43 (.tmp 2) (.tmp 97) rfl gx (anW (⟨6, tag, 0, [], (textsP keys 65536), [], emS, false, 0, 0, 0, 0, 0, 0, 0⟩ : An) (.slice none 0 0) (.slice At1 lt1 ct1) (.slice none 0 0)).cells.toArray rfl rfl 43 anZ hrs infoAn15 rfl (by simp [anW, Value.oneCell']) ?_; intro wy hBy))
              (try simp only [Exit.inBlock, Exit.then])
              refine bodyPost_ret (results_cell1 rfl _ _ gx 43 (anW (⟨6, tag, 0, [], (textsP keys 65536), [], emS, false, 0, 0, 0, 0, 0, 0, 0⟩ : An) (.slice none 0 0) (.slice At1 lt1 ct1) (.slice none 0 0)).cells.toArray (0, 0) _ rfl hBy.out.1 Try.underlying43 rfl infoAn15) rfl ?_
              have hRR : fitAnP a = (⟨6, tag, 0, [], (textsP keys 65536), [], emS, false, 0, 0, 0, 0, 0, 0, 0⟩ : An) := by rw [HR.out]; unfold fitAnP; simp only [HK.out, HC.out]; simp
              rw [hRR]
              exact ⟨(.slice none 0 0), (.slice At1 lt1 ct1), (.slice none 0 0), rfl, HU2.out.done hBy.out.2.1⟩
            · have HNZ := Hd.mk hC0
              have f0 : w3.cell? ⟨g1, 0, none⟩ = some (.int .i64 6) := HS.out.at1 0 (by rw [HCK.out]; rfl)
              have f2 : w3.cell? ⟨g1, 2, none⟩ = some (.int .i64 C) := HS.out.at1 2 (by rw [HCK.out]; rfl)
              go_upto_region 9 with fail
              have hbx := HS.out.box
              have hrs := HS.out.res
              go_wp2_with (first | (refine at_load (x := .tmp 3) ?_; refine wpList_load_row rfl 43 (.tmp 3) rfl gq rfl 43 (anW (⟨6, tag, C, [], [], [], emS, false, 0, 0, 0, 0, 0, 0, 0⟩ : An) (.slice none 0 0) (.slice none 0 0) (.slice none 0 0)).cells.toArray (0, 0) _ hbx Try.underlying43 rfl infoAn15 ?_) | (refine at_store (x := .tmp 2) ?_; refine wpList_stored rfl 43 (.tmp 2) (.tmp 45) rfl gx (anW (⟨6, tag, C, [], [], [], emS, false, 0, 0, 0, 0, 0, 0, 0⟩ : An) (.slice none 0 0) (.slice none 0 0) (.slice none 0 0)).cells.toArray rfl rfl 43 anZ hrs infoAn15 rfl (by simp [anW, Value.oneCell']) ?_; intro wy hBy))
              (try simp only [Exit.inBlock, Exit.then])
              refine bodyPost_ret (results_cell1 rfl _ _ gx 43 (anW (⟨6, tag, C, [], [], [], emS, false, 0, 0, 0, 0, 0, 0, 0⟩ : An) (.slice none 0 0) (.slice none 0 0) (.slice none 0 0)).cells.toArray (0, 0) _ rfl hBy.out.1 Try.underlying43 rfl infoAn15) rfl ?_
              have hRR : fitAnP a = (⟨6, tag, C, [], [], [], emS, false, 0, 0, 0, 0, 0, 0, 0⟩ : An) := by rw [HR.out]; unfold fitAnP; simp only [HK.out, HC.out]; simp [HNZ.out]
              rw [hRR]
              exact ⟨(.slice none 0 0), (.slice none 0 0), (.slice none 0 0), rfl, HS.out.done hBy.out.2.1⟩
          · skip
            by_cases hC0 : C = 0
            · have HNZ := Hd.mk hC0
              subst hC0
              have f0 : w3.cell? ⟨g1, 0, none⟩ = some (.int .i64 7) := HS.out.at1 0 (by rw [HCK.out]; rfl)
              have f2 : w3.cell? ⟨g1, 2, none⟩ = some (.int .i64 0) := HS.out.at1 2 (by rw [HCK.out]; rfl)
              have f4 : w3.cell? ⟨g1, 4, none⟩ = some (.slice A2 n2 c2) := HS.out.at1 4 (by rw [HCK.out]; rfl)
              go_wp2_with fail
              refine (cutTexts_any w3 A2 n2 c2 w.heap.size keys (HH.out.2.2.2.2.2.1.below HS.out.be) HH.out.2.2.2.2.2.2.2.1 HS.out.be.size 1000 (by omega) HH.out.2.2.2.2.2.2.2.2.2.1).mono ?_
              rintro e y1 ⟨vt, rfl, hot, hbt⟩
              obtain ⟨At1, ct1, hvt, _⟩ := own_form hot
              obtain ⟨lt1, hlt1⟩ : ∃ l, (textsP keys 1000).length = l := ⟨_, rfl⟩
              rw [hlt1] at hvt
              subst hvt
              have HOy1 : Hd (y1.ownsRow (gq + 1) 9 1 (.slice At1 lt1 ct1) (textsP keys 1000).length (cs (textsP keys 1000))) := ⟨own_base hot HS.out.lt⟩
              have Hy1 := Hd.mk (HS.out.below hbt)
              clear hot hbt HS hlt1 f0 f2 f4
              have f0 : y1.cell? ⟨g1, 0, none⟩ = some (.int .i64 7) := Hy1.out.at1 0 (by rw [HCK.out]; rfl)
              have f2 : y1.cell? ⟨g1, 2, none⟩ = some (.int .i64 0) := Hy1.out.at1 2 (by rw [HCK.out]; rfl)
              have z9 := Hy1.out.z3 4
              have d9 : y1.cell? ⟨gq, 4, none⟩ = some (.slice none 0 0) := Hy1.out.at3 4 rfl
              go_upto_region 19 with fail
              obtain ⟨u2, hu2⟩ : ∃ U, y1.setCell ⟨gq, 4, none⟩ (.slice At1 lt1 ct1) = U := ⟨_, rfl⟩
              rw [hu2]
              have HU2 : Hd (Ft w u2 43 g1 gx gq cK anZ (anW (⟨7, tag, 0, [], (textsP keys 1000), [], emS, false, 0, 0, 0, 0, 0, 0, 0⟩ : An) (.slice none 0 0) (.slice At1 lt1 ct1) (.slice none 0 0))) := ⟨by rw [← hu2]; exact Hy1.out.set (M' := (anW (⟨7, tag, 0, [], (textsP keys 1000), [], emS, false, 0, 0, 0, 0, 0, 0, 0⟩ : An) (.slice none 0 0) (.slice At1 lt1 ct1) (.slice none 0 0))) 4 _ rfl (anW_ok (anW_r Hy1.out.ok).1 HOy1.out (anW_r Hy1.out.ok).2.2)⟩
              clear hu2 z9 d9 Hy1 f0 f2
              have f0 : u2.cell? ⟨g1, 0, none⟩ = some (.int .i64 7) := HU2.out.at1 0 (by rw [HCK.out]; rfl)
              have f2 : u2.cell? ⟨g1, 2, none⟩ = some (.int .i64 0) := HU2.out.at1 2 (by rw [HCK.out]; rfl)
              have f5 : u2.cell? ⟨g1, 5, none⟩ = some (.slice A3 n3 c3) := HU2.out.at1 5 (by rw [HCK.out]; rfl)
              go_wp2_with fail
              refine (cutTexts_any u2 A3 n3 c3 w.heap.size groups (HH.out.2.2.2.2.2.2.1.below HU2.out.be) HH.out.2.2.2.2.2.2.2.2.1 HU2.out.be.size 1000 (by omega) HH.out.2.2.2.2.2.2.2.2.2.2.1).mono ?_
              rintro e y3 ⟨vt, rfl, hot, hbt⟩
              obtain ⟨At2, ct2, hvt, _⟩ := own_form hot
              obtain ⟨lt2, hlt2⟩ : ∃ l, (textsP groups 1000).length = l := ⟨_, rfl⟩
              rw [hlt2] at hvt
              subst hvt
              have HOy3 : Hd (y3.ownsRow (gq + 1) 9 1 (.slice At2 lt2 ct2) (textsP groups 1000).length (cs (textsP groups 1000))) := ⟨own_base hot HU2.out.lt⟩
              have Hy3 := Hd.mk (HU2.out.below hbt)
              clear hot hbt HU2 hlt2 f0 f2 f5
              have f0 : y3.cell? ⟨g1, 0, none⟩ = some (.int .i64 7) := Hy3.out.at1 0 (by rw [HCK.out]; rfl)
              have f2 : y3.cell? ⟨g1, 2, none⟩ = some (.int .i64 0) := Hy3.out.at1 2 (by rw [HCK.out]; rfl)
              have z9 := Hy3.out.z3 5
              have d9 : y3.cell? ⟨gq, 5, none⟩ = some (.slice none 0 0) := Hy3.out.at3 5 rfl
              go_upto_region 20 with fail
              obtain ⟨u4, hu4⟩ : ∃ U, y3.setCell ⟨gq, 5, none⟩ (.slice At2 lt2 ct2) = U := ⟨_, rfl⟩
              rw [hu4]
              have HU4 : Hd (Ft w u4 43 g1 gx gq cK anZ (anW (⟨7, tag, 0, [], (textsP keys 1000), (textsP groups 1000), emS, false, 0, 0, 0, 0, 0, 0, 0⟩ : An) (.slice none 0 0) (.slice At1 lt1 ct1) (.slice At2 lt2 ct2))) := ⟨by rw [← hu4]; exact Hy3.out.set (M' := (anW (⟨7, tag, 0, [], (textsP keys 1000), (textsP groups 1000), emS, false, 0, 0, 0, 0, 0, 0, 0⟩ : An) (.slice none 0 0) (.slice At1 lt1 ct1) (.slice At2 lt2 ct2))) 5 _ rfl (anW_ok (anW_r Hy3.out.ok).1 (anW_r Hy3.out.ok).2.1 HOy3.out)⟩
              clear hu4 z9 d9 Hy3 f0 f2
              have f0 : u4.cell? ⟨g1, 0, none⟩ = some (.int .i64 7) := HU4.out.at1 0 (by rw [HCK.out]; rfl)
              have f2 : u4.cell? ⟨g1, 2, none⟩ = some (.int .i64 0) := HU4.out.at1 2 (by rw [HCK.out]; rfl)
              have f6 : u4.cell? ⟨g1, 6, none⟩ = some (.string next) := HU4.out.at1 6 (by rw [HCK.out]; rfl)
              go_wp2_with fail
              refine (cut_any u4 next 255 HH.out.2.2.2.2.1 (by omega)).mono ?_
              rintro e zn ⟨rfl, hzn⟩
              subst hzn
              have z9 := HU4.out.z3 6
              have d9 : u4.cell? ⟨gq, 6, none⟩ = some (.string emS) := HU4.out.at3 6 rfl
              go_upto_region 21 with fail
              obtain ⟨u5, hu5⟩ : ∃ U, u4.setCell ⟨gq, 6, none⟩ (.string (cutP next 255)) = U := ⟨_, rfl⟩
              rw [hu5]
              have HU5 : Hd (Ft w u5 43 g1 gx gq cK anZ (anW (⟨7, tag, 0, [], (textsP keys 1000), (textsP groups 1000), (cutP next 255), false, 0, 0, 0, 0, 0, 0, 0⟩ : An) (.slice none 0 0) (.slice At1 lt1 ct1) (.slice At2 lt2 ct2))) := ⟨by rw [← hu5]; exact HU4.out.set (M' := (anW (⟨7, tag, 0, [], (textsP keys 1000), (textsP groups 1000), (cutP next 255), false, 0, 0, 0, 0, 0, 0, 0⟩ : An) (.slice none 0 0) (.slice At1 lt1 ct1) (.slice At2 lt2 ct2))) 6 _ rfl (fun r hr => HU4.out.ok r hr)⟩
              clear hu5 z9 d9 HU4 f0 f2 f6
              have f0 : u5.cell? ⟨g1, 0, none⟩ = some (.int .i64 7) := HU5.out.at1 0 (by rw [HCK.out]; rfl)
              have f2 : u5.cell? ⟨g1, 2, none⟩ = some (.int .i64 0) := HU5.out.at1 2 (by rw [HCK.out]; rfl)
              have f7 : u5.cell? ⟨g1, 7, none⟩ = some (.bool more) := HU5.out.at1 7 (by rw [HCK.out]; rfl)
              have z9 := HU5.out.z3 7
              have d9 : u5.cell? ⟨gq, 7, none⟩ = some (.bool false) := HU5.out.at3 7 rfl
              go_upto_region 22 with fail
              obtain ⟨u6, hu6⟩ : ∃ U, u5.setCell ⟨gq, 7, none⟩ (.bool more) = U := ⟨_, rfl⟩
              rw [hu6]
              have HU6 : Hd (Ft w u6 43 g1 gx gq cK anZ (anW (⟨7, tag, 0, [], (textsP keys 1000), (textsP groups 1000), (cutP next 255), more, 0, 0, 0, 0, 0, 0, 0⟩ : An) (.slice none 0 0) (.slice At1 lt1 ct1) (.slice At2 lt2 ct2))) := ⟨by rw [← hu6]; exact HU5.out.set (M' := (anW (⟨7, tag, 0, [], (textsP keys 1000), (textsP groups 1000), (cutP next 255), more, 0, 0, 0, 0, 0, 0, 0⟩ : An) (.slice none 0 0) (.slice At1 lt1 ct1) (.slice At2 lt2 ct2))) 7 _ rfl (fun r hr => HU5.out.ok r hr)⟩
              clear hu6 z9 d9 HU5 f0 f2 f7
              have f0 : u6.cell? ⟨g1, 0, none⟩ = some (.int .i64 7) := HU6.out.at1 0 (by rw [HCK.out]; rfl)
              have f2 : u6.cell? ⟨g1, 2, none⟩ = some (.int .i64 0) := HU6.out.at1 2 (by rw [HCK.out]; rfl)
              go_upto_region 22 with fail
              have hbx := HU6.out.box
              have hrs := HU6.out.res
              go_wp2_with (first | (refine at_load (x := .tmp 3) ?_; refine wpList_load_row rfl 43 (.tmp 3) rfl gq rfl 43 (anW (⟨7, tag, 0, [], (textsP keys 1000), (textsP groups 1000), (cutP next 255), more, 0, 0, 0, 0, 0, 0, 0⟩ : An) (.slice none 0 0) (.slice At1 lt1 ct1) (.slice At2 lt2 ct2)).cells.toArray (0, 0) _ hbx Try.underlying43 rfl infoAn15 ?_) | (refine at_store (x := .tmp 2) ?_; refine wpList_stored rfl 43 (.tmp 2) (.tmp 97) rfl gx (anW (⟨7, tag, 0, [], (textsP keys 1000), (textsP groups 1000), (cutP next 255), more, 0, 0, 0, 0, 0, 0, 0⟩ : An) (.slice none 0 0) (.slice At1 lt1 ct1) (.slice At2 lt2 ct2)).cells.toArray rfl rfl 43 anZ hrs infoAn15 rfl (by simp [anW, Value.oneCell']) ?_; intro wy hBy))
              (try simp only [Exit.inBlock, Exit.then])
              refine bodyPost_ret (results_cell1 rfl _ _ gx 43 (anW (⟨7, tag, 0, [], (textsP keys 1000), (textsP groups 1000), (cutP next 255), more, 0, 0, 0, 0, 0, 0, 0⟩ : An) (.slice none 0 0) (.slice At1 lt1 ct1) (.slice At2 lt2 ct2)).cells.toArray (0, 0) _ rfl hBy.out.1 Try.underlying43 rfl infoAn15) rfl ?_
              have hRR : fitAnP a = (⟨7, tag, 0, [], (textsP keys 1000), (textsP groups 1000), (cutP next 255), more, 0, 0, 0, 0, 0, 0, 0⟩ : An) := by rw [HR.out]; unfold fitAnP; simp only [HK.out, HC.out]; simp
              rw [hRR]
              exact ⟨(.slice none 0 0), (.slice At1 lt1 ct1), (.slice At2 lt2 ct2), rfl, HU6.out.done hBy.out.2.1⟩
            · have HNZ := Hd.mk hC0
              have f0 : w3.cell? ⟨g1, 0, none⟩ = some (.int .i64 7) := HS.out.at1 0 (by rw [HCK.out]; rfl)
              have f2 : w3.cell? ⟨g1, 2, none⟩ = some (.int .i64 C) := HS.out.at1 2 (by rw [HCK.out]; rfl)
              go_upto_region 9 with fail
              have hbx := HS.out.box
              have hrs := HS.out.res
              go_wp2_with (first | (refine at_load (x := .tmp 3) ?_; refine wpList_load_row rfl 43 (.tmp 3) rfl gq rfl 43 (anW (⟨7, tag, C, [], [], [], emS, false, 0, 0, 0, 0, 0, 0, 0⟩ : An) (.slice none 0 0) (.slice none 0 0) (.slice none 0 0)).cells.toArray (0, 0) _ hbx Try.underlying43 rfl infoAn15 ?_) | (refine at_store (x := .tmp 2) ?_; refine wpList_stored rfl 43 (.tmp 2) (.tmp 45) rfl gx (anW (⟨7, tag, C, [], [], [], emS, false, 0, 0, 0, 0, 0, 0, 0⟩ : An) (.slice none 0 0) (.slice none 0 0) (.slice none 0 0)).cells.toArray rfl rfl 43 anZ hrs infoAn15 rfl (by simp [anW, Value.oneCell']) ?_; intro wy hBy))
              (try simp only [Exit.inBlock, Exit.then])
              refine bodyPost_ret (results_cell1 rfl _ _ gx 43 (anW (⟨7, tag, C, [], [], [], emS, false, 0, 0, 0, 0, 0, 0, 0⟩ : An) (.slice none 0 0) (.slice none 0 0) (.slice none 0 0)).cells.toArray (0, 0) _ rfl hBy.out.1 Try.underlying43 rfl infoAn15) rfl ?_
              have hRR : fitAnP a = (⟨7, tag, C, [], [], [], emS, false, 0, 0, 0, 0, 0, 0, 0⟩ : An) := by rw [HR.out]; unfold fitAnP; simp only [HK.out, HC.out]; simp [HNZ.out]
              rw [hRR]
              exact ⟨(.slice none 0 0), (.slice none 0 0), (.slice none 0 0), rfl, HS.out.done hBy.out.2.1⟩
          · skip
            have f0 : w3.cell? ⟨g1, 0, none⟩ = some (.int .i64 8) := HS.out.at1 0 (by rw [HCK.out]; rfl)
            have f2 : w3.cell? ⟨g1, 2, none⟩ = some (.int .i64 C) := HS.out.at1 2 (by rw [HCK.out]; rfl)
            have hrg : w3.rangeAt g1 11 [.int .i64 h1, .int .i64 h2, .int .i64 h3, .int .i64 h4] := HS.out.range1o 11 4 (by rw [HCK.out]; rfl)
            have zz0 := HS.out.z3 11
            have dd0 : w3.cell? ⟨gq, 11, none⟩ = some (.int .i64 0) := HS.out.at3 11 rfl
            have zz1 := HS.out.z3 12
            have dd1 : w3.cell? ⟨gq, 12, none⟩ = some (.int .i64 0) := HS.out.at3 12 rfl
            have zz2 := HS.out.z3 13
            have dd2 : w3.cell? ⟨gq, 13, none⟩ = some (.int .i64 0) := HS.out.at3 13 rfl
            have zz3 := HS.out.z3 14
            have dd3 : w3.cell? ⟨gq, 14, none⟩ = some (.int .i64 0) := HS.out.at3 14 rfl
            go_upto_region 8 with (refine at_load (x := .tmp 39) ?_; refine wpList_load_mid rfl 41 (.tmp 39) rfl g1 11 rfl [.int .i64 h1, .int .i64 h2, .int .i64 h3, .int .i64 h4] _ hrg Try.underlying41 rfl infoHealed4 ?_)
            obtain ⟨u1, hu1⟩ : ∃ U, ((((w3.setCell ⟨gq, 11, none⟩ (.int .i64 h1)).setCell ⟨gq, 12, none⟩ (.int .i64 h2)).setCell ⟨gq, 13, none⟩ (.int .i64 h3)).setCell ⟨gq, 14, none⟩ (.int .i64 h4)) = U := ⟨_, rfl⟩
            rw [hu1]
            have HU1 : Hd (Ft w u1 43 g1 gx gq cK anZ (anW (⟨8, tag, C, [], [], [], emS, false, 0, 0, 0, h1, h2, h3, h4⟩ : An) (.slice none 0 0) (.slice none 0 0) (.slice none 0 0))) := ⟨by rw [← hu1]; exact HS.out.sets 11 [.int .i64 h1, .int .i64 h2, .int .i64 h3, .int .i64 h4] (M' := (anW (⟨8, tag, C, [], [], [], emS, false, 0, 0, 0, h1, h2, h3, h4⟩ : An) (.slice none 0 0) (.slice none 0 0) (.slice none 0 0))) rfl⟩
            clear hu1 hrg zz0 dd0 zz1 dd1 zz2 dd2 zz3 dd3 HS f0 f2
            by_cases hC0 : C = 0
            · have HNZ := Hd.mk hC0
              subst hC0
              have f0 : u1.cell? ⟨g1, 0, none⟩ = some (.int .i64 8) := HU1.out.at1 0 (by rw [HCK.out]; rfl)
              have f2 : u1.cell? ⟨g1, 2, none⟩ = some (.int .i64 0) := HU1.out.at1 2 (by rw [HCK.out]; rfl)
              go_upto_region 22 with fail
              have hbx := HU1.out.box
              have hrs := HU1.out.res
              go_wp2_with (first | (refine at_load (x := .tmp 3) ?_; refine wpList_load_row rfl 43 (.tmp 3) rfl gq rfl 43 (anW (⟨8, tag, 0, [], [], [], emS, false, 0, 0, 0, h1, h2, h3, h4⟩ : An) (.slice none 0 0) (.slice none 0 0) (.slice none 0 0)).cells.toArray (0, 0) _ hbx Try.underlying43 rfl infoAn15 ?_) | (refine at_store (x := .tmp 2) ?_; refine wpList_stored rfl 43 (.tmp 2) (.tmp 97) rfl gx (anW (⟨8, tag, 0, [], [], [], emS, false, 0, 0, 0, h1, h2, h3, h4⟩ : An) (.slice none 0 0) (.slice none 0 0) (.slice none 0 0)).cells.toArray rfl rfl 43 anZ hrs infoAn15 rfl (by simp [anW, Value.oneCell']) ?_; intro wy hBy))
              (try simp only [Exit.inBlock, Exit.then])
              refine bodyPost_ret (results_cell1 rfl _ _ gx 43 (anW (⟨8, tag, 0, [], [], [], emS, false, 0, 0, 0, h1, h2, h3, h4⟩ : An) (.slice none 0 0) (.slice none 0 0) (.slice none 0 0)).cells.toArray (0, 0) _ rfl hBy.out.1 Try.underlying43 rfl infoAn15) rfl ?_
              have hRR : fitAnP a = (⟨8, tag, 0, [], [], [], emS, false, 0, 0, 0, h1, h2, h3, h4⟩ : An) := by rw [HR.out]; unfold fitAnP; simp only [HK.out, HC.out]; simp
              rw [hRR]
              exact ⟨(.slice none 0 0), (.slice none 0 0), (.slice none 0 0), rfl, HU1.out.done hBy.out.2.1⟩
            · have HNZ := Hd.mk hC0
              have f0 : u1.cell? ⟨g1, 0, none⟩ = some (.int .i64 8) := HU1.out.at1 0 (by rw [HCK.out]; rfl)
              have f2 : u1.cell? ⟨g1, 2, none⟩ = some (.int .i64 C) := HU1.out.at1 2 (by rw [HCK.out]; rfl)
              go_upto_region 9 with fail
              have hbx := HU1.out.box
              have hrs := HU1.out.res
              go_wp2_with (first | (refine at_load (x := .tmp 3) ?_; refine wpList_load_row rfl 43 (.tmp 3) rfl gq rfl 43 (anW (⟨8, tag, C, [], [], [], emS, false, 0, 0, 0, h1, h2, h3, h4⟩ : An) (.slice none 0 0) (.slice none 0 0) (.slice none 0 0)).cells.toArray (0, 0) _ hbx Try.underlying43 rfl infoAn15 ?_) | (refine at_store (x := .tmp 2) ?_; refine wpList_stored rfl 43 (.tmp 2) (.tmp 45) rfl gx (anW (⟨8, tag, C, [], [], [], emS, false, 0, 0, 0, h1, h2, h3, h4⟩ : An) (.slice none 0 0) (.slice none 0 0) (.slice none 0 0)).cells.toArray rfl rfl 43 anZ hrs infoAn15 rfl (by simp [anW, Value.oneCell']) ?_; intro wy hBy))
              (try simp only [Exit.inBlock, Exit.then])
              refine bodyPost_ret (results_cell1 rfl _ _ gx 43 (anW (⟨8, tag, C, [], [], [], emS, false, 0, 0, 0, h1, h2, h3, h4⟩ : An) (.slice none 0 0) (.slice none 0 0) (.slice none 0 0)).cells.toArray (0, 0) _ rfl hBy.out.1 Try.underlying43 rfl infoAn15) rfl ?_
              have hRR : fitAnP a = (⟨8, tag, C, [], [], [], emS, false, 0, 0, 0, h1, h2, h3, h4⟩ : An) := by rw [HR.out]; unfold fitAnP; simp only [HK.out, HC.out]; simp [HNZ.out]
              rw [hRR]
              exact ⟨(.slice none 0 0), (.slice none 0 0), (.slice none 0 0), rfl, HU1.out.done hBy.out.2.1⟩
end Go.Proofs.Ytbcmjjcbjojakaa
end
section
/- Contract of the laws' said: the messages' forms one behind the other, and where each ends. (tools/saidgen.py prints it.) -/
namespace Go.Proofs.Ytbcmjjcbjojakaa
open Go.RowKit
set_option linter.unusedVariables false
set_option linter.unusedSimpArgs false
theorem max_small {n : Nat} (h : n ≤ 140737488351232) : n ≤ maxLen := by unfold maxLen; omega
/-- fit, of a request that came in. -/
theorem fitRq_w {w W : World} {l : List Value} {R : Rq} (hq : RqA w w.heap.size l R) (be : Below w.heap.size w W) :
    Calls Try.prog 33 #[.agg l.toArray] W fun e w' => ∃ A c, e = .returned (.agg (rqW (fitP R) (.slice A (cb (fitP R).body).length c)).cells.toArray) ∧ (rqW (fitP R) (.slice A (cb (fitP R).body).length c)).ok w' W.heap.size ∧ (cb (fitP R).body).length ≤ c ∧ RqB (fitP R) ∧ Below W.heap.size W w' := by
  obtain ⟨A, n, c, rfl, hr, hnc, hb, hk, h1, h2, hn⟩ := hq
  refine (fit_any0 W R R.kind R.off R.num R.delim R.tag R.key R.after R.body rfl A n c ((hr.below be).more be.size) hnc hk (max_small h1) (max_small h2)).mono ?_
  rintro e w' ⟨vb, rfl, hok, hbe⟩
  obtain ⟨A', c', hv, hc', _⟩ := own_form (hok _ (List.mem_singleton.2 rfl))
  simp only at hv
  subst hv
  exact ⟨A', c', rfl, hok, hc', fitP_b R hb, hbe⟩
/-- fitAnswer, of an answer that came in. -/
theorem fitAn_w {w W : World} {l : List Value} {a : An} (hq : AnA w w.heap.size l a) (be : Below w.heap.size w W) :
    Calls Try.prog 34 #[.agg l.toArray] W fun e w' => ∃ A1 c1 A2 c2 A3 c3, e = .returned (.agg (anW (fitAnP a) (.slice A1 (cb (fitAnP a).body).length c1) (.slice A2 (cs (fitAnP a).keys).length c2) (.slice A3 (cs (fitAnP a).groups).length c3)).cells.toArray) ∧ (anW (fitAnP a) (.slice A1 (cb (fitAnP a).body).length c1) (.slice A2 (cs (fitAnP a).keys).length c2) (.slice A3 (cs (fitAnP a).groups).length c3)).ok w' W.heap.size ∧ AnB (fitAnP a) ∧ Below W.heap.size W w' := by
  obtain ⟨A, n, c, A2, n2, c2, A3, n3, c3, rfl, hr, hr2, hr3, hnc, hn, _, hn2, _, hn3, hb, hk, hc, hx, hs2, hs3⟩ := hq
  refine (fitAn_any0 W a a.kind a.code a.ge a.gc a.size a.h1 a.h2 a.h3 a.h4 a.tag a.body a.keys a.groups a.next a.more rfl A A2 A3 n c n2 c2 n3 c3 ((hr.below be).more be.size) ((hr2.below be).more be.size) ((hr3.below be).more be.size) hnc hn2 hn3 hk hc (max_small hx) (fun t ht => max_small (hs2 t ht)) (fun t ht => max_small (hs3 t ht))).mono ?_
  rintro e w' ⟨v1, v2, v3, rfl, hok, hbe⟩
  obtain ⟨q1, q2, q3⟩ := anW_r hok
  obtain ⟨B1, d1, rfl, _⟩ := own_form q1
  obtain ⟨B2, d2, rfl, _⟩ := own_form q2
  obtain ⟨B3, d3, rfl, _⟩ := own_form q3
  refine ⟨B1, d1, B2, d2, B3, d3, ?_, ?_, fitAnP_b a hb, hbe⟩
  · simp only [cb_length, cs_len]
  · simp only [cb_length, cs_len]; exact hok
theorem Va.grow {w W W' : World} {g1 : Nat} {l : Array Value} (h : Va w W g1 l) (b : Below (g1 + 1) W W') : Va w W' g1 l := ⟨by rw [b.block g1 (Nat.lt_succ_self _)]; exact h.b1, h.be.trans (b.mono (by have := h.l1; omega)), h.l1⟩
set_option maxRecDepth 20000 in
set_option maxHeartbeats 8000000 in
theorem said_ask (w : World) (A1 A2 A3 : Option Addr) (n1 c1 n2 c2 n3 c3 : Nat) (ds : List Rq) (ms : List Rq) (hms : ds.map fitP = ms) (hl : Lst RqA w w.heap.size 8 A1 n1 ds) (hn1 : n1 ≤ 1466015503701) (hpl : (preF rqC ms ms.length).length ≤ 34359738368) :
    Calls Try.prog 42 #[.agg #[.bool false, .slice A1 n1 c1, .slice A2 n2 c2, .slice A3 n3 c3]] w (SaidDone rqC ms w) := by
  obtain ⟨l, hl0⟩ : ∃ l : Array Value, l = #[.bool false, .slice A1 n1 c1, .slice A2 n2 c2, .slice A3 n3 c3] := ⟨_, rfl⟩
  obtain ⟨w0, hw0⟩ : ∃ U, w.alloc (.cells #[.bool false, .slice A1 n1 c1, .slice A2 n2 c2, .slice A3 n3 c3] 95) = U := ⟨_, rfl⟩
  obtain ⟨g1, hg1⟩ : ∃ q, w.heap.size = q := ⟨_, rfl⟩
  have H0 : Hd (Va w w0 g1 l) := ⟨by rw [← hw0, ← hg1, hl0]; exact ⟨heap_alloc_new w _, (Below.refl _ w).alloc (Nat.le_refl _) _, Nat.le_refl _⟩⟩
  have H0s : Hd (g1 + 1 ≤ w0.heap.size ∧ g1 = w.heap.size) := ⟨by rw [← hw0, ← hg1]; simp, hg1.symm⟩
  have hml : ms.length = n1 := by rw [← hms, List.length_map]; exact hl.1
  have HH : Hd (Lst RqA w w.heap.size 8 A1 n1 ds ∧ l = #[.bool false, .slice A1 n1 c1, .slice A2 n2 c2, .slice A3 n3 c3] ∧ ds.map fitP = ms ∧ ms.length = n1 ∧ (preF rqC ms ms.length).length ≤ 34359738368) := ⟨hl, hl0, hms, hml, hpl⟩
  clear hl hl0 hms hml hpl
  go_enter Try.func42, Try.ntmps42
  go_upto_region 1 with fail
  try rw [hw0]
  try rw [hg1]
  clear hw0 hg1
  have d0 : w0.cell? ⟨g1, 0, none⟩ = some (.bool false) := H0.out.at_ 0 (by rw [HH.out.2.1]; rfl)
  have d1 : w0.cell? ⟨g1, 1, none⟩ = some (.slice A1 n1 c1) := H0.out.at_ 1 (by rw [HH.out.2.1]; rfl)
  have d2 : w0.cell? ⟨g1, 2, none⟩ = some (.slice A2 n2 c2) := H0.out.at_ 2 (by rw [HH.out.2.1]; rfl)
  go_wp2_with fail
  clear d0 d1 d2
  go_loopw [5, 6, 8] (fun u5 u6 u8 wr => ∃ i : Nat, u8 = .int .i64 (i : Int) ∧ i ≤ n1 ∧ Va w wr g1 l ∧ g1 + 1 ≤ wr.heap.size ∧ wr.ownsRow (g1 + 1) 5 1 u5 (preF rqC ms i).length (cb (preF rqC ms i)) ∧ wr.ownsRow (g1 + 1) 3 1 u6 i (endsC rqC ms i) ∧ Apart u5 u6) (fun _ _ u8 _ => n1 - (intOf u8).toNat)
  case atStart => exact ⟨0, rfl, Nat.zero_le _, H0.out, H0s.out.1, World.ownsRow_nil .., World.ownsRow_nil .., Apart.nil _⟩
  case round =>
    obtain ⟨i, rfl, hi, hS, hsz, ho5, ho6, hap⟩ := hrel
    obtain ⟨AO, cO, hvO, _⟩ := own_form ho5
    obtain ⟨AE, cE, hvE, _⟩ := own_form ho6
    obtain ⟨lO, hlO⟩ : ∃ l, (preF rqC ms i).length = l := ⟨_, rfl⟩
    rw [hlO] at hvO ho5
    have HLO := Hd.mk hlO
    subst hvO hvE
    have HS := Hd.mk (And.intro hS (And.intro hsz (And.intro ho5 (And.intro ho6 hap))))
    clear hS hsz ho5 ho6 hap hlO H0
    by_cases hlt : i < n1
    · have hki : (i : Int) < (n1 : Int) := by omega
      have HLT := Hd.mk hlt
      have d0 : wr.cell? ⟨g1, 0, none⟩ = some (.bool false) := HS.out.1.at_ 0 (by rw [HH.out.2.1]; rfl)
      have d1 : wr.cell? ⟨g1, 1, none⟩ = some (.slice A1 n1 c1) := HS.out.1.at_ 1 (by rw [HH.out.2.1]; rfl)
      obtain ⟨x, hx⟩ : ∃ x, ds[i]? = some x := ⟨_, List.getElem?_eq_getElem (by have := HH.out.1.1; omega)⟩
      obtain ⟨q7, o7, cx, hq7, hl7, hr7, hc7, hx7⟩ := HH.out.1.2 i x hx
      have hmx : ms[i]? = some (fitP x) := by rw [← HH.out.2.2.1, List.getElem?_map, hx]; rfl
      subst hq7
      have HRG : Hd (wr.rangeAt q7 (o7 + i * 8) cx ∧ cx.length = 8 ∧ RqA w w.heap.size cx x ∧ ms[i]? = some (fitP x)) := ⟨fun j v hv => (HS.out.1.be.cell (p := ⟨q7, _, none⟩) hl7).trans (hr7 j v hv), hc7, hx7, hmx⟩
      clear hx hl7 hr7 hc7 hx7 hlt hmx
      go_wp2_with (refine at_load (x := .tmp 40) ?_; refine wpList_load_mid rfl 28 (.tmp 40) rfl q7 (o7 + i * 8) rfl cx _ HRG.out.1 Try.underlying28 rfl (by rw [infoRq8, HRG.out.2.1]) ?_)
      refine (fitRq_w HRG.out.2.2.1 HS.out.1.be).mono ?_
      rintro e w2 ⟨Ab, cb1, rfl, hok, hnb, hrb, hbe⟩
      have ho1 := hok _ (List.mem_singleton.2 rfl)
      have H2 : Hd (Below wr.heap.size wr w2 ∧ Rd w2 w2.heap.size Ab (cb (fitP x).body).length (cb (fitP x).body) ∧ RqB (fitP x) ∧ (cb (fitP x).body).length ≤ cb1) := ⟨hbe, Rd.of_own ho1, hrb, hnb⟩
      clear hok hnb hrb hbe ho1
      clear d0 d1
      go_wp2_with fail
      refine (ask_any w2 (fitP x) Ab _ cb1 H2.out.2.1 H2.out.2.2.1 H2.out.2.2.2).mono ?_
      rintro e w3 ⟨v4, rfl, hO⟩
      rw [fitP_ask x] at hO ⊢
      simp only at hO
      obtain ⟨A4, c4, hv4, _⟩ := own_form hO.own
      subst hv4
      obtain ⟨l4, hl4⟩ : ∃ l, (formP (rqC (fitP x))).length = l := ⟨_, rfl⟩
      have hOb := hO.below (fun k h => by cases h) (Nat.le_refl w2.heap.size)
      have hbw : Below wr.heap.size wr w3 := H2.out.1.trans (hOb.mono H2.out.1.size)
      have H3 : Hd (Va w w3 g1 l ∧ g1 + 1 ≤ w3.heap.size ∧ w3.ownsRow (g1 + 1) 5 1 (.slice AO lO cO) lO (cb (preF rqC ms i)) ∧ w3.ownsRow (g1 + 1) 3 1 (.slice AE i cE) i (endsC rqC ms i) ∧ Rd w3 w3.heap.size A4 l4 (cb (formP (rqC (fitP x)))) ∧ Apart (.slice AO lO cO) (.slice AE i cE)) := ⟨HS.out.1.below hbw, Nat.le_trans HS.out.2.1 hbw.size, own_below' HS.out.2.2.1 hbw, own_below' HS.out.2.2.2.1 hbw, by rw [← hl4]; exact Rd.of_own hO.own, HS.out.2.2.2.2⟩
      have hnx : (preF rqC ms (i + 1)).length = lO + l4 := by rw [preF_next HRG.out.2.2.2, List.length_append, HLO.out, hl4]
      have hsum : lO + l4 ≤ 34359738368 := by
        have h1 := preF_len rqC ms (i + 1)
        have h2 := HH.out.2.2.2.2
        omega
      have HNX := Hd.mk (And.intro hnx hl4)
      rw [hl4] at *
      clear hO hOb hbw hl4 hnx H2
      go_upto_region 17 with (at_builtin; refine wpList_app elB rfl (.tmp 48) (.tmp 49) rfl (g1 + 1) (.slice AO lO cO) lO (cb (preF rqC ms i)) rfl H3.out.2.2.1 w3.heap.size A4 l4 c4 (cb (formP (rqC (fitP x)))) rfl H3.out.2.2.2.2.1 (cb_one _) (by unfold maxLen; omega) (by omega) H3.out.2.1 ?_; intro v5 w5 hO5; have H5 := Hd.mk hO5; clear hO5)
      obtain ⟨A5, c5, hv5, _⟩ := own_form H5.out.own
      subst hv5
      obtain ⟨l5, hl5⟩ : ∃ q, lO + l4 = q := ⟨_, rfl⟩
      have H6 : Hd (Va w w5 g1 l ∧ g1 + 1 ≤ w5.heap.size ∧ w5.ownsRow (g1 + 1) 5 1 (.slice A5 l5 c5) l5 (cb (preF rqC ms (i + 1))) ∧ w5.ownsRow (g1 + 1) 3 1 (.slice AE i cE) i (endsC rqC ms i) ∧ Apart (.slice A5 l5 c5) (.slice AE i cE) ∧ (preF rqC ms (i + 1)).length = l5) := by
        have b5 : Below (g1 + 1) w3 w5 := H5.out.below (fun k hk => (H3.out.2.2.1.lt k hk).1) H3.out.2.1
        have e5 : cb (preF rqC ms (i + 1)) = cb (preF rqC ms i) ++ cb (formP (rqC (fitP x))) := by rw [preF_next HRG.out.2.2.2]; unfold cb; rw [List.map_append]
        refine ⟨H3.out.1.grow b5, Nat.le_trans H3.out.2.1 b5.size, by rw [e5, ← hl5]; exact H5.out.own, H5.out.keep H3.out.2.2.2.1 H3.out.2.2.2.2.2, by rw [← hl5]; exact H5.out.apart H3.out.2.2.2.1 H3.out.2.2.2.2.2, by rw [HNX.out.1, hl5]⟩
      rw [hl5] at *
      clear hl5 H3 H5
      go_wp2_with (refine at_buildSlice ?_; refine wpList_push elI rfl rfl (.tmp 51) (.tmp 53) 54 rfl rfl rfl (g1 + 1) (.slice AE i cE) i (endsC rqC ms i) (.int .i64 (l5 : Int)) rfl rfl rfl rfl H6.out.2.2.2.1 (by unfold maxLen; omega) (by omega) H6.out.2.1 ?_; intro v7 w7 hO7; have H7 := Hd.mk hO7; clear hO7)
      go_roundw
      case rel =>
        have b7 : Below (g1 + 1) w5 w7 := H7.out.below (fun k hk => (H6.out.2.2.2.1.lt k hk).1) H6.out.2.1
        have ap7 := H6.out.2.2.2.2.1.symm
        refine ⟨i + 1, by go_num, HLT.out, H6.out.1.grow b7, Nat.le_trans H6.out.2.1 b7.size, ?_, ?_, (H7.out.apart H6.out.2.2.1 ap7).symm⟩
        · rw [H6.out.2.2.2.2.2]; exact H7.out.keep H6.out.2.2.1 ap7
        · rw [endsC_next, H6.out.2.2.2.2.2]; exact H7.out.own
      case measure => simp [intOf]; have := HLT.out; omega
    · have hki : ¬ (i : Int) < (n1 : Int) := by omega
      have him : i = ms.length := by have := HH.out.2.2.2.1; omega
      have HIM := Hd.mk him
      clear hlt him
      go_wp2_with fail
      (try simp only [Exit.inBlock, Exit.then])
      first | go_ret3 | go_ret
      have h1 := H0s.out.2
      refine ⟨_, _, rfl, ?_, ?_, HS.out.2.2.2.2, HS.out.1.be⟩
      · rw [← HIM.out, HLO.out]; exact own_base HS.out.2.2.1 (by omega)
      · rw [← HIM.out]; exact own_base HS.out.2.2.2.1 (by omega)
set_option maxRecDepth 20000 in
set_option maxHeartbeats 8000000 in
theorem said_tel (w : World) (A1 A2 A3 : Option Addr) (n1 c1 n2 c2 n3 c3 : Nat) (ds : List An) (ms : List An) (hms : ds.map fitAnP = ms) (hl : Lst AnA w w.heap.size 15 A2 n2 ds) (hn1 : n2 ≤ 1466015503701) (hpl : (preF anC ms ms.length).length ≤ 34359738368) :
    Calls Try.prog 42 #[.agg #[.bool true, .slice A1 n1 c1, .slice A2 n2 c2, .slice A3 n3 c3]] w (SaidDone anC ms w) := by
  obtain ⟨l, hl0⟩ : ∃ l : Array Value, l = #[.bool true, .slice A1 n1 c1, .slice A2 n2 c2, .slice A3 n3 c3] := ⟨_, rfl⟩
  obtain ⟨w0, hw0⟩ : ∃ U, w.alloc (.cells #[.bool true, .slice A1 n1 c1, .slice A2 n2 c2, .slice A3 n3 c3] 95) = U := ⟨_, rfl⟩
  obtain ⟨g1, hg1⟩ : ∃ q, w.heap.size = q := ⟨_, rfl⟩
  have H0 : Hd (Va w w0 g1 l) := ⟨by rw [← hw0, ← hg1, hl0]; exact ⟨heap_alloc_new w _, (Below.refl _ w).alloc (Nat.le_refl _) _, Nat.le_refl _⟩⟩
  have H0s : Hd (g1 + 1 ≤ w0.heap.size ∧ g1 = w.heap.size) := ⟨by rw [← hw0, ← hg1]; simp, hg1.symm⟩
  have hml : ms.length = n2 := by rw [← hms, List.length_map]; exact hl.1
  have HH : Hd (Lst AnA w w.heap.size 15 A2 n2 ds ∧ l = #[.bool true, .slice A1 n1 c1, .slice A2 n2 c2, .slice A3 n3 c3] ∧ ds.map fitAnP = ms ∧ ms.length = n2 ∧ (preF anC ms ms.length).length ≤ 34359738368) := ⟨hl, hl0, hms, hml, hpl⟩
  clear hl hl0 hms hml hpl
  go_enter Try.func42, Try.ntmps42
  go_upto_region 1 with fail
  try rw [hw0]
  try rw [hg1]
  clear hw0 hg1
  have d0 : w0.cell? ⟨g1, 0, none⟩ = some (.bool true) := H0.out.at_ 0 (by rw [HH.out.2.1]; rfl)
  have d1 : w0.cell? ⟨g1, 1, none⟩ = some (.slice A1 n1 c1) := H0.out.at_ 1 (by rw [HH.out.2.1]; rfl)
  have d2 : w0.cell? ⟨g1, 2, none⟩ = some (.slice A2 n2 c2) := H0.out.at_ 2 (by rw [HH.out.2.1]; rfl)
  go_wp2_with fail
  clear d0 d1 d2
  go_loopw [5, 6, 8] (fun u5 u6 u8 wr => ∃ i : Nat, u8 = .int .i64 (i : Int) ∧ i ≤ n2 ∧ Va w wr g1 l ∧ g1 + 1 ≤ wr.heap.size ∧ wr.ownsRow (g1 + 1) 5 1 u5 (preF anC ms i).length (cb (preF anC ms i)) ∧ wr.ownsRow (g1 + 1) 3 1 u6 i (endsC anC ms i) ∧ Apart u5 u6) (fun _ _ u8 _ => n2 - (intOf u8).toNat)
  case atStart => exact ⟨0, rfl, Nat.zero_le _, H0.out, H0s.out.1, World.ownsRow_nil .., World.ownsRow_nil .., Apart.nil _⟩
  case round =>
    obtain ⟨i, rfl, hi, hS, hsz, ho5, ho6, hap⟩ := hrel
    obtain ⟨AO, cO, hvO, _⟩ := own_form ho5
    obtain ⟨AE, cE, hvE, _⟩ := own_form ho6
    obtain ⟨lO, hlO⟩ : ∃ l, (preF anC ms i).length = l := ⟨_, rfl⟩
    rw [hlO] at hvO ho5
    have HLO := Hd.mk hlO
    subst hvO hvE
    have HS := Hd.mk (And.intro hS (And.intro hsz (And.intro ho5 (And.intro ho6 hap))))
    clear hS hsz ho5 ho6 hap hlO H0
    by_cases hlt : i < n2
    · have hki : (i : Int) < (n2 : Int) := by omega
      have HLT := Hd.mk hlt
      have d0 : wr.cell? ⟨g1, 0, none⟩ = some (.bool true) := HS.out.1.at_ 0 (by rw [HH.out.2.1]; rfl)
      have d1 : wr.cell? ⟨g1, 2, none⟩ = some (.slice A2 n2 c2) := HS.out.1.at_ 2 (by rw [HH.out.2.1]; rfl)
      obtain ⟨x, hx⟩ : ∃ x, ds[i]? = some x := ⟨_, List.getElem?_eq_getElem (by have := HH.out.1.1; omega)⟩
      obtain ⟨q7, o7, cx, hq7, hl7, hr7, hc7, hx7⟩ := HH.out.1.2 i x hx
      have hmx : ms[i]? = some (fitAnP x) := by rw [← HH.out.2.2.1, List.getElem?_map, hx]; rfl
      subst hq7
      have HRG : Hd (wr.rangeAt q7 (o7 + i * 15) cx ∧ cx.length = 15 ∧ AnA w w.heap.size cx x ∧ ms[i]? = some (fitAnP x)) := ⟨fun j v hv => (HS.out.1.be.cell (p := ⟨q7, _, none⟩) hl7).trans (hr7 j v hv), hc7, hx7, hmx⟩
      clear hx hl7 hr7 hc7 hx7 hlt hmx
      go_wp2_with (refine at_load (x := .tmp 30) ?_; refine wpList_load_mid rfl 43 (.tmp 30) rfl q7 (o7 + i * 15) rfl cx _ HRG.out.1 Try.underlying43 rfl (by rw [infoAn15, HRG.out.2.1]) ?_)
      refine (fitAn_w HRG.out.2.2.1 HS.out.1.be).mono ?_
      rintro e w2 ⟨B1, d1', B2, d2', B3, d3', rfl, hok, hab, hbe⟩
      obtain ⟨ho1, ho2, ho3⟩ := anW_r hok
      have hft := fitAnP_fit x
      have hkn : (cs (fitAnP x).keys).length ≤ 8796093022000 := by rw [cs_len]; have := hft.2.1.1; split at this <;> omega
      have hgn : (cs (fitAnP x).groups).length ≤ 8796093022000 := by rw [cs_len]; have := hft.2.2.1.1; omega
      have hk8 := fitK_le x.kind
      have hc8 := fitC_le x.code
      have hq1 : -9223372036854775808 ≤ (fitAnP x).kind ∧ (fitAnP x).kind ≤ 9223372036854775807 := ⟨by show _ ≤ fitK x.kind; omega, by show fitK x.kind ≤ _; omega⟩
      have hq2 : -9223372036854775808 ≤ (fitAnP x).code ∧ (fitAnP x).code ≤ 9223372036854775807 := ⟨by show _ ≤ fitC x.code; omega, by show fitC x.code ≤ _; omega⟩
      have H2 : Hd (Below wr.heap.size wr w2 ∧ Rd w2 w2.heap.size B1 (cb (fitAnP x).body).length (cb (fitAnP x).body) ∧ Rd w2 w2.heap.size B2 (cs (fitAnP x).keys).length (cs (fitAnP x).keys) ∧ Rd w2 w2.heap.size B3 (cs (fitAnP x).groups).length (cs (fitAnP x).groups) ∧ AnB (fitAnP x) ∧ (cs (fitAnP x).keys).length ≤ 8796093022000 ∧ (cs (fitAnP x).groups).length ≤ 8796093022000 ∧ (-9223372036854775808 ≤ (fitAnP x).kind ∧ (fitAnP x).kind ≤ 9223372036854775807) ∧ (-9223372036854775808 ≤ (fitAnP x).code ∧ (fitAnP x).code ≤ 9223372036854775807)) :=
        ⟨hbe, by simp only [cb_length] at ho1 ⊢; exact Rd.of_own ho1, by simp only [cs_len] at ho2 ⊢; exact Rd.of_own ho2, by simp only [cs_len] at ho3 ⊢; exact Rd.of_own ho3, hab, hkn, hgn, hq1, hq2⟩
      clear hok hab hbe ho1 ho2 ho3 hft hkn hgn hk8 hc8 hq1 hq2
      clear d0 d1
      go_wp2_with fail
      refine (tell_any w2 (fitAnP x) B1 B2 B3 _ d1' _ d2' _ d3' H2.out.2.1 H2.out.2.2.1 H2.out.2.2.2.1 H2.out.2.2.2.2.1 H2.out.2.2.2.2.2.1 H2.out.2.2.2.2.2.2.1 H2.out.2.2.2.2.2.2.2.1 H2.out.2.2.2.2.2.2.2.2).mono ?_
      rintro e w3 ⟨v4, rfl, hO⟩
      rw [fitAnP_tell x] at hO ⊢
      simp only at hO
      obtain ⟨A4, c4, hv4, _⟩ := own_form hO.own
      subst hv4
      obtain ⟨l4, hl4⟩ : ∃ l, (formP (anC (fitAnP x))).length = l := ⟨_, rfl⟩
      have hOb := hO.below (fun k h => by cases h) (Nat.le_refl w2.heap.size)
      have hbw : Below wr.heap.size wr w3 := H2.out.1.trans (hOb.mono H2.out.1.size)
      have H3 : Hd (Va w w3 g1 l ∧ g1 + 1 ≤ w3.heap.size ∧ w3.ownsRow (g1 + 1) 5 1 (.slice AO lO cO) lO (cb (preF anC ms i)) ∧ w3.ownsRow (g1 + 1) 3 1 (.slice AE i cE) i (endsC anC ms i) ∧ Rd w3 w3.heap.size A4 l4 (cb (formP (anC (fitAnP x)))) ∧ Apart (.slice AO lO cO) (.slice AE i cE)) := ⟨HS.out.1.below hbw, Nat.le_trans HS.out.2.1 hbw.size, own_below' HS.out.2.2.1 hbw, own_below' HS.out.2.2.2.1 hbw, by rw [← hl4]; exact Rd.of_own hO.own, HS.out.2.2.2.2⟩
      have hnx : (preF anC ms (i + 1)).length = lO + l4 := by rw [preF_next HRG.out.2.2.2, List.length_append, HLO.out, hl4]
      have hsum : lO + l4 ≤ 34359738368 := by
        have h1 := preF_len anC ms (i + 1)
        have h2 := HH.out.2.2.2.2
        omega
      have HNX := Hd.mk (And.intro hnx hl4)
      rw [hl4] at *
      clear hO hOb hbw hl4 hnx H2
      go_upto_region 17 with (at_builtin; refine wpList_app elB rfl (.tmp 48) (.tmp 49) rfl (g1 + 1) (.slice AO lO cO) lO (cb (preF anC ms i)) rfl H3.out.2.2.1 w3.heap.size A4 l4 c4 (cb (formP (anC (fitAnP x)))) rfl H3.out.2.2.2.2.1 (cb_one _) (by unfold maxLen; omega) (by omega) H3.out.2.1 ?_; intro v5 w5 hO5; have H5 := Hd.mk hO5; clear hO5)
      obtain ⟨A5, c5, hv5, _⟩ := own_form H5.out.own
      subst hv5
      obtain ⟨l5, hl5⟩ : ∃ q, lO + l4 = q := ⟨_, rfl⟩
      have H6 : Hd (Va w w5 g1 l ∧ g1 + 1 ≤ w5.heap.size ∧ w5.ownsRow (g1 + 1) 5 1 (.slice A5 l5 c5) l5 (cb (preF anC ms (i + 1))) ∧ w5.ownsRow (g1 + 1) 3 1 (.slice AE i cE) i (endsC anC ms i) ∧ Apart (.slice A5 l5 c5) (.slice AE i cE) ∧ (preF anC ms (i + 1)).length = l5) := by
        have b5 : Below (g1 + 1) w3 w5 := H5.out.below (fun k hk => (H3.out.2.2.1.lt k hk).1) H3.out.2.1
        have e5 : cb (preF anC ms (i + 1)) = cb (preF anC ms i) ++ cb (formP (anC (fitAnP x))) := by rw [preF_next HRG.out.2.2.2]; unfold cb; rw [List.map_append]
        refine ⟨H3.out.1.grow b5, Nat.le_trans H3.out.2.1 b5.size, by rw [e5, ← hl5]; exact H5.out.own, H5.out.keep H3.out.2.2.2.1 H3.out.2.2.2.2.2, by rw [← hl5]; exact H5.out.apart H3.out.2.2.2.1 H3.out.2.2.2.2.2, by rw [HNX.out.1, hl5]⟩
      rw [hl5] at *
      clear hl5 H3 H5
      go_wp2_with (refine at_buildSlice ?_; refine wpList_push elI rfl rfl (.tmp 51) (.tmp 53) 54 rfl rfl rfl (g1 + 1) (.slice AE i cE) i (endsC anC ms i) (.int .i64 (l5 : Int)) rfl rfl rfl rfl H6.out.2.2.2.1 (by unfold maxLen; omega) (by omega) H6.out.2.1 ?_; intro v7 w7 hO7; have H7 := Hd.mk hO7; clear hO7)
      go_roundw
      case rel =>
        have b7 : Below (g1 + 1) w5 w7 := H7.out.below (fun k hk => (H6.out.2.2.2.1.lt k hk).1) H6.out.2.1
        have ap7 := H6.out.2.2.2.2.1.symm
        refine ⟨i + 1, by go_num, HLT.out, H6.out.1.grow b7, Nat.le_trans H6.out.2.1 b7.size, ?_, ?_, (H7.out.apart H6.out.2.2.1 ap7).symm⟩
        · rw [H6.out.2.2.2.2.2]; exact H7.out.keep H6.out.2.2.1 ap7
        · rw [endsC_next, H6.out.2.2.2.2.2]; exact H7.out.own
      case measure => simp [intOf]; have := HLT.out; omega
    · have hki : ¬ (i : Int) < (n2 : Int) := by omega
      have him : i = ms.length := by have := HH.out.2.2.2.1; omega
      have HIM := Hd.mk him
      clear hlt him
      go_wp2_with fail
      (try simp only [Exit.inBlock, Exit.then])
      first | go_ret3 | go_ret
      have h1 := H0s.out.2
      refine ⟨_, _, rfl, ?_, ?_, HS.out.2.2.2.2, HS.out.1.be⟩
      · rw [← HIM.out, HLO.out]; exact own_base HS.out.2.2.1 (by omega)
      · rw [← HIM.out]; exact own_base HS.out.2.2.2.1 (by omega)
end Go.Proofs.Ytbcmjjcbjojakaa
end
section
/- Contract of the laws' first: are the messages that were told the first so many? (tools/firstgen.py prints it.) -/
namespace Go.Proofs.Ytbcmjjcbjojakaa
open Go.RowKit
set_option linter.unusedVariables false
set_option linter.unusedSimpArgs false
set_option maxRecDepth 20000 in
set_option maxHeartbeats 8000000 in
theorem first_ask (w w00 : World) (A1 A2 A3 : Option Addr) (n1 c1 n2 c2 n3 c3 : Nat) (ds : List Rq) (hl : Lst RqA w00 w00.heap.size 8 A1 n1 ds) (hbw : Below w00.heap.size w00 w) (hn1 : n1 ≤ 1466015503701) (Q7 : Option Addr) (n k7 : Nat) (fl hd : Int) (hs : List Wm) (hq : Que w w00.heap.size (askK).e (askK).m (.slice Q7 n k7) hs) (hok : ∀ V ∈ hs, V.ok w w00.heap.size) (hal : Alike (askK).is hs ((ds.map fitP).take n)) (hn : n ≤ ds.length) :
    Calls Try.prog 43 #[.agg #[.bool false, .slice A1 n1 c1, .slice A2 n2 c2, .slice A3 n3 c3], .agg #[.slice Q7 n k7, .slice none 0 0, .int .i64 fl, .int .i64 hd], .int .i64 (n : Int)] w fun e w' => e = .returned (.bool true) ∧ Below w.heap.size w w' := by
  have hnl : n ≤ n1 := by have := hl.1; omega
  obtain ⟨w5, hw5⟩ : ∃ U, (w.alloc (.cells #[.bool false, .slice A1 n1 c1, .slice A2 n2 c2, .slice A3 n3 c3] 95)).alloc (.cells #[.slice Q7 n k7, .slice none 0 0, .int .i64 fl, .int .i64 hd] 75) = U := ⟨_, rfl⟩
  obtain ⟨g3, hg3⟩ : ∃ q, w.heap.size = q := ⟨_, rfl⟩
  obtain ⟨g4, hg4⟩ : ∃ q, g3 + 1 = q := ⟨_, rfl⟩
  have H5 : Hd (w5.heap[g3]? = some (.cells #[.bool false, .slice A1 n1 c1, .slice A2 n2 c2, .slice A3 n3 c3] 95) ∧ w5.heap[g4]? = some (.cells #[.slice Q7 n k7, .slice none 0 0, .int .i64 fl, .int .i64 hd] 75) ∧ Below w.heap.size w w5) := by
    refine ⟨?_, ?_, ?_⟩
    · have b := (Below.refl _ (w.alloc (.cells #[.bool false, .slice A1 n1 c1, .slice A2 n2 c2, .slice A3 n3 c3] 95))).alloc (Nat.le_refl _) (.cells #[.slice Q7 n k7, .slice none 0 0, .int .i64 fl, .int .i64 hd] 75)
      rw [← hw5, ← hg3, b.block w.heap.size (by simp)]; exact heap_alloc_new w _
    · rw [← hw5, ← hg4, ← hg3]
      have := heap_alloc_new (w.alloc (.cells #[.bool false, .slice A1 n1 c1, .slice A2 n2 c2, .slice A3 n3 c3] 95)) (.cells #[.slice Q7 n k7, .slice none 0 0, .int .i64 fl, .int .i64 hd] 75)
      simpa using this
    · rw [← hw5]; exact ((Below.refl _ w).alloc (Nat.le_refl _) _).alloc (by simp) _
  have hcc : ∀ W, Below w5.heap.size w5 W → W.cell? ⟨g3, 0, none⟩ = some (.bool false) ∧ W.cell? ⟨g3, 1, none⟩ = some (.slice A1 n1 c1) ∧ W.cell? ⟨g4, 0, none⟩ = some (.slice Q7 n k7) ∧ W.cell? ⟨g4, 1, none⟩ = some (.slice none 0 0) := fun W hW => by
    have e3 : W.heap[g3]? = _ := (hW.block g3 (Array.getElem?_eq_some_iff.1 H5.out.1).1).trans H5.out.1
    have e4 : W.heap[g4]? = _ := (hW.block g4 (Array.getElem?_eq_some_iff.1 H5.out.2.1).1).trans H5.out.2.1
    exact ⟨cell_of_row W g3 0 _ _ (0, 0) e3, cell_of_row W g3 1 _ _ (0, 0) e3, cell_of_row W g4 0 _ _ (0, 0) e4, cell_of_row W g4 1 _ _ (0, 0) e4⟩
  have HCC := Hd.mk hcc
  have HH : Hd (Lst RqA w00 w00.heap.size 8 A1 n1 ds ∧ Below w00.heap.size w00 w5 ∧ Que w5 w00.heap.size (askK).e (askK).m (.slice Q7 n k7) hs ∧ (∀ V ∈ hs, V.ok w5 w00.heap.size) ∧ Alike (askK).is hs ((ds.map fitP).take n) ∧ n ≤ ds.length) :=
    ⟨hl, hbw.trans (H5.out.2.2.mono hbw.size), hq.chg (Chg.of_below (L := []) H5.out.2.2) (by simp), fun V hV => (hok V hV).below H5.out.2.2, hal, hn⟩
  clear hl hbw hq hok hal hcc
  go_enter Try.func43, Try.ntmps43
  go_upto_region 1 with fail
  try rw [hw5]
  try rw [hg3]
  try rw [hg4]
  clear hw5 hg3 hg4
  obtain ⟨d0, d1, d2, d3⟩ := HCC.out w5 (Below.refl _ w5)
  go_wp2_with fail
  clear d0 d1 d2 d3
  go_loopw [8] (fun u wr => ∃ i : Nat, u = .int .i64 (i : Int) ∧ i ≤ n ∧ Below w5.heap.size w5 wr) (fun u _ => n - (intOf u).toNat)
  case atStart => exact ⟨0, rfl, Nat.zero_le _, Below.refl _ w5⟩
  case round =>
    obtain ⟨i, rfl, hi, hbl⟩ := hrel
    have HB := Hd.mk hbl
    clear hbl
    by_cases hlt : i < n
    · have hki : (i : Int) < (n : Int) := by omega
      have hki2 : (i : Int) < (n1 : Int) := by omega
      have HLT := Hd.mk hlt
      go_upto_region 15 with fail
      obtain ⟨x, hx⟩ : ∃ x, ds[i]? = some x := ⟨_, List.getElem?_eq_getElem (by have := HH.out.2.2.2.2.2; omega)⟩
      have hmx : ((ds.map fitP).take n)[i]? = some (fitP x) := by rw [List.getElem?_take, if_pos hlt, List.getElem?_map, hx]; rfl
      obtain ⟨V1, hV1⟩ : ∃ V, hs[i]? = some V := ⟨_, List.getElem?_eq_getElem (by rw [HH.out.2.2.2.2.1.len, List.length_take, List.length_map]; have := HH.out.2.2.2.2.2; omega)⟩
      obtain ⟨x1, hx1, hi1⟩ := HH.out.2.2.2.2.1.nth hV1
      obtain rfl : x1 = fitP x := Option.some.inj (hx1.symm.trans hmx)
      obtain ⟨q7, o7, k7', hq7, _, hl7, hr7⟩ := HH.out.2.2.1.nth hV1
      have hok1 := HH.out.2.2.2.1 V1 (List.mem_of_getElem? hV1)
      injection hq7 with hq7 hj1 hj2
      clear hj1 hj2
      obtain ⟨q9, o9, cx, hq9, hl9, hr9, hc9, hx9⟩ := HH.out.1.2 i x hx
      subst hq7 hq9
      obtain ⟨vb1, hv1⟩ : ∃ vb, V1 = rqW (fitP x) vb := hi1
      subst hv1
      obtain ⟨Ab1, cb1, hf1, _⟩ := own_form (hok1 _ (List.mem_singleton.2 rfl))
      simp only at hf1
      subst hf1
      have HRL : Hd (∀ W, Below w5.heap.size w5 W → W.rangeAt q7 (o7 + i * 8) (rqW (fitP x) (.slice Ab1 (cb (fitP x).body).length cb1)).cells ∧ W.rangeAt q9 (o9 + i * 8) cx) := ⟨fun W hW => ⟨fun j v hv => (hW.cell (p := ⟨q7, _, none⟩) hl7).trans (hr7 j v hv), fun j v hv => ((HH.out.2.1.trans (hW.mono HH.out.2.1.size)).cell (p := ⟨q9, _, none⟩) hl9).trans (hr9 j v hv)⟩⟩
      have HOK := Hd.mk (And.intro hok1 (And.intro hx9 hc9))
      clear hr7 hr9 hok1 hx hx1 hV1 hl7 hl9 hx9 hc9 hmx hlt
      refine wp_region_held_drew (S := fun W => Below w5.heap.size w5 W) (by kernel_rfl) (HB.out.drew) (fun hHeld => ?_)
      refine wpAnyH_take (i := 0) (oi := ?oi1) (v := ?v1) ?hi1 (by kernel_rfl) (by kernel_rfl) (by kernel_rfl) ?hQ1 (Or.inl ⟨?hw1, ?hy1⟩) (by assumption) ?rest1
      case hi1 => simp only [List.getElem?_toArray, List.getElem?_cons_succ, List.getElem?_cons_zero]; rfl
      case hQ1 => exact fun _ _ _ h => h
      case hw1 => rfl
      case hy1 => (intro W hW; obtain ⟨d0, d1, d2, d3⟩ := HCC.out W hW; go_simp; all_goals rfl)
      simp only [Act.put, List.setIfInBounds_toArray, List.set_cons_zero, List.set_cons_succ]
      refine wpAnyH_take (i := 1) (oi := ?oi2) (v := ?v2) ?hi2 (by kernel_rfl) (by kernel_rfl) (by kernel_rfl) ?hQ2 (Or.inl ⟨?hw2, ?hy2⟩) (by assumption) ?rest2
      case hi2 => simp only [List.getElem?_toArray, List.getElem?_cons_succ, List.getElem?_cons_zero]; rfl
      case hQ2 => exact fun _ _ _ h => h
      case hw2 => rfl
      case hy2 => (intro W hW; obtain ⟨d0, d1, d2, d3⟩ := HCC.out W hW; go_simp; all_goals rfl)
      simp only [Act.put, List.setIfInBounds_toArray, List.set_cons_zero, List.set_cons_succ]
      refine wpAnyH_take (i := 2) (oi := ?oi3) (v := ?v3) ?hi3 (by kernel_rfl) (by kernel_rfl) (by kernel_rfl) ?hQ3 (Or.inl ⟨?hw3, ?hy3⟩) (by assumption) ?rest3
      case hi3 => simp only [List.getElem?_toArray, List.getElem?_cons_succ, List.getElem?_cons_zero]; rfl
      case hQ3 => exact fun _ _ _ h => h
      case hw3 => rfl
      case hy3 => (intro W hW; obtain ⟨d0, d1, d2, d3⟩ := HCC.out W hW; go_simp; all_goals rfl)
      simp only [Act.put, List.setIfInBounds_toArray, List.set_cons_zero, List.set_cons_succ]
      refine wpAnyH_take (i := 3) (oi := ?oi4) (v := ?v4) ?hi4 (by kernel_rfl) (by kernel_rfl) (by kernel_rfl) ?hQ4 (Or.inl ⟨?hw4, ?hy4⟩) (by assumption) ?rest4
      case hi4 => simp only [List.getElem?_toArray, List.getElem?_cons_succ, List.getElem?_cons_zero]; rfl
      case hQ4 => exact fun _ _ _ h => h
      case hw4 => rfl
      case hy4 => (intro W hW; obtain ⟨d0, d1, d2, d3⟩ := HCC.out W hW; go_simp; all_goals rfl)
      simp only [Act.put, List.setIfInBounds_toArray, List.set_cons_zero, List.set_cons_succ]
      refine wpAnyH_take (i := 4) (oi := ?oiA) (v := .agg ((rqW (fitP x) (.slice Ab1 (cb (fitP x).body).length cb1)).cells).toArray) ?hiA (by kernel_rfl) (by kernel_rfl) (by kernel_rfl) ?hQA ?hyA (by assumption) ?restA
      case hiA => simp only [List.getElem?_toArray, List.getElem?_cons_succ, List.getElem?_cons_zero]; rfl
      case hQA => exact fun _ _ _ h => h
      case hyA => exact yieldsIf_load_mid rfl 28 (.tmp 59) rfl q7 (o7 + i * 8) rfl ((rqW (fitP x) (.slice Ab1 (cb (fitP x).body).length cb1)).cells) _ (fun W hW => (HRL.out W hW).1) Try.underlying28 rfl infoRq8
      simp only [Act.put, List.setIfInBounds_toArray, List.set_cons_zero, List.set_cons_succ]
      refine wpAnyH_take (i := 5) (oi := ?oi5) (v := ?v5) ?hi5 (by kernel_rfl) (by kernel_rfl) (by kernel_rfl) ?hQ5 (Or.inl ⟨?hw5, ?hy5⟩) (by assumption) ?rest5
      case hi5 => simp only [List.getElem?_toArray, List.getElem?_cons_succ, List.getElem?_cons_zero]; rfl
      case hQ5 => exact fun _ _ _ h => h
      case hw5 => rfl
      case hy5 => (intro W hW; obtain ⟨d0, d1, d2, d3⟩ := HCC.out W hW; go_simp; all_goals rfl)
      simp only [Act.put, List.setIfInBounds_toArray, List.set_cons_zero, List.set_cons_succ]
      refine wpAnyH_take (i := 6) (oi := ?oi6) (v := ?v6) ?hi6 (by kernel_rfl) (by kernel_rfl) (by kernel_rfl) ?hQ6 (Or.inl ⟨?hw6, ?hy6⟩) (by assumption) ?rest6
      case hi6 => simp only [List.getElem?_toArray, List.getElem?_cons_succ, List.getElem?_cons_zero]; rfl
      case hQ6 => exact fun _ _ _ h => h
      case hw6 => rfl
      case hy6 => (intro W hW; obtain ⟨d0, d1, d2, d3⟩ := HCC.out W hW; go_simp; all_goals rfl)
      simp only [Act.put, List.setIfInBounds_toArray, List.set_cons_zero, List.set_cons_succ]
      refine wpAnyH_take (i := 7) (oi := ?oi7) (v := ?v7) ?hi7 (by kernel_rfl) (by kernel_rfl) (by kernel_rfl) ?hQ7 (Or.inl ⟨?hw7, ?hy7⟩) (by assumption) ?rest7
      case hi7 => simp only [List.getElem?_toArray, List.getElem?_cons_succ, List.getElem?_cons_zero]; rfl
      case hQ7 => exact fun _ _ _ h => h
      case hw7 => rfl
      case hy7 => (intro W hW; obtain ⟨d0, d1, d2, d3⟩ := HCC.out W hW; go_simp; all_goals rfl)
      simp only [Act.put, List.setIfInBounds_toArray, List.set_cons_zero, List.set_cons_succ]
      refine wpAnyH_take (i := 8) (oi := ?oi8) (v := ?v8) ?hi8 (by kernel_rfl) (by kernel_rfl) (by kernel_rfl) ?hQ8 (Or.inl ⟨?hw8, ?hy8⟩) (by assumption) ?rest8
      case hi8 => simp only [List.getElem?_toArray, List.getElem?_cons_succ, List.getElem?_cons_zero]; rfl
      case hQ8 => exact fun _ _ _ h => h
      case hw8 => rfl
      case hy8 => (intro W hW; obtain ⟨d0, d1, d2, d3⟩ := HCC.out W hW; go_simp; all_goals rfl)
      simp only [Act.put, List.setIfInBounds_toArray, List.set_cons_zero, List.set_cons_succ]
      refine wpAnyH_take (i := 9) (oi := ?oiB) (v := .agg (cx).toArray) ?hiB (by kernel_rfl) (by kernel_rfl) (by kernel_rfl) ?hQB ?hyB (by assumption) ?restB
      case hiB => simp only [List.getElem?_toArray, List.getElem?_cons_succ, List.getElem?_cons_zero]; rfl
      case hQB => exact fun _ _ _ h => h
      case hyB => exact yieldsIf_load_mid rfl 28 (.tmp 64) rfl q9 (o9 + i * 8) rfl (cx) _ (fun W hW => (HRL.out W hW).2) Try.underlying28 rfl (by rw [infoRq8, HOK.out.2.2])
      simp only [Act.put, List.setIfInBounds_toArray, List.set_cons_zero, List.set_cons_succ]
      refine wpAnyH_ready (rs := [10]) (by kernel_rfl) (by simp) ?_
      refine AllReadyH.cons (i := 10) (o := ?o9) ?ho9 (fun K hK => ?step9) AllReadyH.nil
      case ho9 => simp only [List.getElem?_toArray, List.getElem?_cons_succ, List.getElem?_cons_zero]; rfl
      go_simp
      (refine (fitRq_w HOK.out.2.1 (HH.out.2.1.trans (hHeld.mono HH.out.2.1.size))).mono ?_; rintro e w6 ⟨Ab2, cb2, rfl, hok6, hnb6, hrb6, hb6⟩)
      have hF : Below w5.heap.size w5 w6 := hHeld.trans (hb6.mono hHeld.size)
      have H6 : Hd ((rqW (fitP x) (.slice Ab2 (cb (fitP x).body).length cb2)).ok w6 _) := ⟨hok6⟩
      clear hok6 hb6
      clear hnb6 hrb6
      refine hK.out _ _ hF (fun _ => ?_)
      clear hK
      try simp only [Act.put, List.setIfInBounds_toArray, List.set_cons_zero, List.set_cons_succ]
      refine wpAnyH_ready (rs := [11]) (by kernel_rfl) (by simp) ?_
      refine AllReadyH.cons (i := 11) (o := ?o10) ?ho10 (fun K hK => ?step10) AllReadyH.nil
      case ho10 => simp only [List.getElem?_toArray, List.getElem?_cons_succ, List.getElem?_cons_zero]; rfl
      go_simp
      (refine (equal_any w6 (fitP x).kind (fitP x).tag (fitP x).key (fitP x).after (fitP x).off (fitP x).num (fitP x).delim (fitP x).body Ab1 Ab2 _ _ cb1 cb2 w6.heap.size (((Rd.of_own (HOK.out.1 _ (List.mem_singleton.2 rfl))).below hF).more hF.size) (Rd.of_own (H6.out _ (List.mem_singleton.2 rfl))) (Nat.le_refl _)).mono ?_; rintro e w7 ⟨rfl, hb7⟩)
      have hF2 : Below w5.heap.size w5 w7 := hF.trans (hb7.mono hF.size)
      refine hK.out _ _ hF2 (fun _ => ?_)
      clear hK
      try simp only [Act.put, List.setIfInBounds_toArray, List.set_cons_zero, List.set_cons_succ]
      refine wpAnyH_take (i := 12) (oi := ?oi11) (v := ?v11) ?hi11 (by kernel_rfl) (by kernel_rfl) (by kernel_rfl) ?hQ11 (Or.inl ⟨?hw11, ?hy11⟩) (by assumption) ?rest11
      case hi11 => simp only [List.getElem?_toArray, List.getElem?_cons_succ, List.getElem?_cons_zero]; rfl
      case hQ11 => exact fun _ _ _ h => h
      case hw11 => rfl
      case hy11 => (intro W hW; obtain ⟨d0, d1, d2, d3⟩ := HCC.out W hW; go_simp; all_goals rfl)
      simp only [Act.put, List.setIfInBounds_toArray, List.set_cons_zero, List.set_cons_succ]
      refine wpAnyH_done (by kernel_rfl) ?_ _
      have HB2 : Hd (Below w5.heap.size w5 w7) := ⟨hF2⟩
      clear hF hF2 HB HOK HRL
      go_wp2_with fail
      go_roundw
      case rel => exact ⟨i + 1, by go_num, Nat.succ_le_of_lt HLT.out, HB2.out⟩
      case measure => simp [intOf]; have := HLT.out; omega
    · have hki : ¬ (i : Int) < (n : Int) := by omega
      go_wp2_with fail
      go_ret
      exact ⟨rfl, H5.out.2.2.trans (HB.out.mono H5.out.2.2.size)⟩
set_option maxRecDepth 20000 in
set_option maxHeartbeats 8000000 in
theorem first_tel (w w00 : World) (A1 A2 A3 : Option Addr) (n1 c1 n2 c2 n3 c3 : Nat) (ds : List An) (hl : Lst AnA w00 w00.heap.size 15 A2 n2 ds) (hbw : Below w00.heap.size w00 w) (hn1 : n2 ≤ 1466015503701) (Q7 : Option Addr) (n k7 : Nat) (fl hd : Int) (hs : List Wm) (hq : Que w w00.heap.size (telK).e (telK).m (.slice Q7 n k7) hs) (hok : ∀ V ∈ hs, V.ok w w00.heap.size) (hal : Alike (telK).is hs ((ds.map fitAnP).take n)) (hn : n ≤ ds.length) :
    Calls Try.prog 43 #[.agg #[.bool true, .slice A1 n1 c1, .slice A2 n2 c2, .slice A3 n3 c3], .agg #[.slice none 0 0, .slice Q7 n k7, .int .i64 fl, .int .i64 hd], .int .i64 (n : Int)] w fun e w' => e = .returned (.bool true) ∧ Below w.heap.size w w' := by
  have hnl : n ≤ n2 := by have := hl.1; omega
  obtain ⟨w5, hw5⟩ : ∃ U, (w.alloc (.cells #[.bool true, .slice A1 n1 c1, .slice A2 n2 c2, .slice A3 n3 c3] 95)).alloc (.cells #[.slice none 0 0, .slice Q7 n k7, .int .i64 fl, .int .i64 hd] 75) = U := ⟨_, rfl⟩
  obtain ⟨g3, hg3⟩ : ∃ q, w.heap.size = q := ⟨_, rfl⟩
  obtain ⟨g4, hg4⟩ : ∃ q, g3 + 1 = q := ⟨_, rfl⟩
  have H5 : Hd (w5.heap[g3]? = some (.cells #[.bool true, .slice A1 n1 c1, .slice A2 n2 c2, .slice A3 n3 c3] 95) ∧ w5.heap[g4]? = some (.cells #[.slice none 0 0, .slice Q7 n k7, .int .i64 fl, .int .i64 hd] 75) ∧ Below w.heap.size w w5) := by
    refine ⟨?_, ?_, ?_⟩
    · have b := (Below.refl _ (w.alloc (.cells #[.bool true, .slice A1 n1 c1, .slice A2 n2 c2, .slice A3 n3 c3] 95))).alloc (Nat.le_refl _) (.cells #[.slice none 0 0, .slice Q7 n k7, .int .i64 fl, .int .i64 hd] 75)
      rw [← hw5, ← hg3, b.block w.heap.size (by simp)]; exact heap_alloc_new w _
    · rw [← hw5, ← hg4, ← hg3]
      have := heap_alloc_new (w.alloc (.cells #[.bool true, .slice A1 n1 c1, .slice A2 n2 c2, .slice A3 n3 c3] 95)) (.cells #[.slice none 0 0, .slice Q7 n k7, .int .i64 fl, .int .i64 hd] 75)
      simpa using this
    · rw [← hw5]; exact ((Below.refl _ w).alloc (Nat.le_refl _) _).alloc (by simp) _
  have hcc : ∀ W, Below w5.heap.size w5 W → W.cell? ⟨g3, 0, none⟩ = some (.bool true) ∧ W.cell? ⟨g3, 2, none⟩ = some (.slice A2 n2 c2) ∧ W.cell? ⟨g4, 0, none⟩ = some (.slice none 0 0) ∧ W.cell? ⟨g4, 1, none⟩ = some (.slice Q7 n k7) := fun W hW => by
    have e3 : W.heap[g3]? = _ := (hW.block g3 (Array.getElem?_eq_some_iff.1 H5.out.1).1).trans H5.out.1
    have e4 : W.heap[g4]? = _ := (hW.block g4 (Array.getElem?_eq_some_iff.1 H5.out.2.1).1).trans H5.out.2.1
    exact ⟨cell_of_row W g3 0 _ _ (0, 0) e3, cell_of_row W g3 2 _ _ (0, 0) e3, cell_of_row W g4 0 _ _ (0, 0) e4, cell_of_row W g4 1 _ _ (0, 0) e4⟩
  have HCC := Hd.mk hcc
  have HH : Hd (Lst AnA w00 w00.heap.size 15 A2 n2 ds ∧ Below w00.heap.size w00 w5 ∧ Que w5 w00.heap.size (telK).e (telK).m (.slice Q7 n k7) hs ∧ (∀ V ∈ hs, V.ok w5 w00.heap.size) ∧ Alike (telK).is hs ((ds.map fitAnP).take n) ∧ n ≤ ds.length) :=
    ⟨hl, hbw.trans (H5.out.2.2.mono hbw.size), hq.chg (Chg.of_below (L := []) H5.out.2.2) (by simp), fun V hV => (hok V hV).below H5.out.2.2, hal, hn⟩
  clear hl hbw hq hok hal hcc
  go_enter Try.func43, Try.ntmps43
  go_upto_region 1 with fail
  try rw [hw5]
  try rw [hg3]
  try rw [hg4]
  clear hw5 hg3 hg4
  obtain ⟨d0, d1, d2, d3⟩ := HCC.out w5 (Below.refl _ w5)
  go_wp2_with fail
  clear d0 d1 d2 d3
  go_loopw [7] (fun u wr => ∃ i : Nat, u = .int .i64 (i : Int) ∧ i ≤ n ∧ Below w5.heap.size w5 wr) (fun u _ => n - (intOf u).toNat)
  case atStart => exact ⟨0, rfl, Nat.zero_le _, Below.refl _ w5⟩
  case round =>
    obtain ⟨i, rfl, hi, hbl⟩ := hrel
    have HB := Hd.mk hbl
    clear hbl
    by_cases hlt : i < n
    · have hki : (i : Int) < (n : Int) := by omega
      have hki2 : (i : Int) < (n2 : Int) := by omega
      have HLT := Hd.mk hlt
      go_upto_region 7 with fail
      obtain ⟨x, hx⟩ : ∃ x, ds[i]? = some x := ⟨_, List.getElem?_eq_getElem (by have := HH.out.2.2.2.2.2; omega)⟩
      have hmx : ((ds.map fitAnP).take n)[i]? = some (fitAnP x) := by rw [List.getElem?_take, if_pos hlt, List.getElem?_map, hx]; rfl
      obtain ⟨V1, hV1⟩ : ∃ V, hs[i]? = some V := ⟨_, List.getElem?_eq_getElem (by rw [HH.out.2.2.2.2.1.len, List.length_take, List.length_map]; have := HH.out.2.2.2.2.2; omega)⟩
      obtain ⟨x1, hx1, hi1⟩ := HH.out.2.2.2.2.1.nth hV1
      obtain rfl : x1 = fitAnP x := Option.some.inj (hx1.symm.trans hmx)
      obtain ⟨q7, o7, k7', hq7, _, hl7, hr7⟩ := HH.out.2.2.1.nth hV1
      have hok1 := HH.out.2.2.2.1 V1 (List.mem_of_getElem? hV1)
      injection hq7 with hq7 hj1 hj2
      clear hj1 hj2
      obtain ⟨q9, o9, cx, hq9, hl9, hr9, hc9, hx9⟩ := HH.out.1.2 i x hx
      subst hq7 hq9
      obtain ⟨va1, va2, va3, hv1⟩ : ∃ v1 v2 v3, V1 = anW (fitAnP x) v1 v2 v3 := hi1
      subst hv1
      obtain ⟨P1, e1', hf1, _⟩ := own_form (anW_r hok1).1
      obtain ⟨P2, e2', hf2, _⟩ := own_form (anW_r hok1).2.1
      obtain ⟨P3, e3', hf3, _⟩ := own_form (anW_r hok1).2.2
      subst hf1 hf2 hf3
      have hft := fitAnP_fit x
      have hkn : (cs (fitAnP x).keys).length ≤ 8796093022000 := by rw [cs_len]; have := hft.2.1.1; split at this <;> omega
      have hgn : (cs (fitAnP x).groups).length ≤ 8796093022000 := by rw [cs_len]; have := hft.2.2.1.1; omega
      have HKG := Hd.mk (And.intro hkn hgn)
      clear hft hkn hgn
      have e01 : (fitAnP x).body.length = (cb (fitAnP x).body).length := (cb_length _).symm
      have e02 : (fitAnP x).keys.length = (cs (fitAnP x).keys).length := (cs_len _).symm
      have e03 : (fitAnP x).groups.length = (cs (fitAnP x).groups).length := (cs_len _).symm
      rw [e01, e02, e03] at hok1 hr7
      clear e01 e02 e03
      have HRL : Hd (∀ W, Below w5.heap.size w5 W → W.rangeAt q7 (o7 + i * 15) (anW (fitAnP x) (.slice P1 (cb (fitAnP x).body).length e1') (.slice P2 (cs (fitAnP x).keys).length e2') (.slice P3 (cs (fitAnP x).groups).length e3')).cells ∧ W.rangeAt q9 (o9 + i * 15) cx) := ⟨fun W hW => ⟨fun j v hv => (hW.cell (p := ⟨q7, _, none⟩) hl7).trans (hr7 j v hv), fun j v hv => ((HH.out.2.1.trans (hW.mono HH.out.2.1.size)).cell (p := ⟨q9, _, none⟩) hl9).trans (hr9 j v hv)⟩⟩
      have HOK := Hd.mk (And.intro hok1 (And.intro hx9 hc9))
      clear hr7 hr9 hok1 hx hx1 hV1 hl7 hl9 hx9 hc9 hmx hlt
      refine wp_region_held_drew (S := fun W => Below w5.heap.size w5 W) (by kernel_rfl) (HB.out.drew) (fun hHeld => ?_)
      refine wpAnyH_take (i := 0) (oi := ?oi1) (v := ?v1) ?hi1 (by kernel_rfl) (by kernel_rfl) (by kernel_rfl) ?hQ1 (Or.inl ⟨?hw1, ?hy1⟩) (by assumption) ?rest1
      case hi1 => simp only [List.getElem?_toArray, List.getElem?_cons_succ, List.getElem?_cons_zero]; rfl
      case hQ1 => exact fun _ _ _ h => h
      case hw1 => rfl
      case hy1 => (intro W hW; obtain ⟨d0, d1, d2, d3⟩ := HCC.out W hW; go_simp; all_goals rfl)
      simp only [Act.put, List.setIfInBounds_toArray, List.set_cons_zero, List.set_cons_succ]
      refine wpAnyH_take (i := 1) (oi := ?oi2) (v := ?v2) ?hi2 (by kernel_rfl) (by kernel_rfl) (by kernel_rfl) ?hQ2 (Or.inl ⟨?hw2, ?hy2⟩) (by assumption) ?rest2
      case hi2 => simp only [List.getElem?_toArray, List.getElem?_cons_succ, List.getElem?_cons_zero]; rfl
      case hQ2 => exact fun _ _ _ h => h
      case hw2 => rfl
      case hy2 => (intro W hW; obtain ⟨d0, d1, d2, d3⟩ := HCC.out W hW; go_simp; all_goals rfl)
      simp only [Act.put, List.setIfInBounds_toArray, List.set_cons_zero, List.set_cons_succ]
      refine wpAnyH_take (i := 2) (oi := ?oi3) (v := ?v3) ?hi3 (by kernel_rfl) (by kernel_rfl) (by kernel_rfl) ?hQ3 (Or.inl ⟨?hw3, ?hy3⟩) (by assumption) ?rest3
      case hi3 => simp only [List.getElem?_toArray, List.getElem?_cons_succ, List.getElem?_cons_zero]; rfl
      case hQ3 => exact fun _ _ _ h => h
      case hw3 => rfl
      case hy3 => (intro W hW; obtain ⟨d0, d1, d2, d3⟩ := HCC.out W hW; go_simp; all_goals rfl)
      simp only [Act.put, List.setIfInBounds_toArray, List.set_cons_zero, List.set_cons_succ]
      refine wpAnyH_take (i := 3) (oi := ?oi4) (v := ?v4) ?hi4 (by kernel_rfl) (by kernel_rfl) (by kernel_rfl) ?hQ4 (Or.inl ⟨?hw4, ?hy4⟩) (by assumption) ?rest4
      case hi4 => simp only [List.getElem?_toArray, List.getElem?_cons_succ, List.getElem?_cons_zero]; rfl
      case hQ4 => exact fun _ _ _ h => h
      case hw4 => rfl
      case hy4 => (intro W hW; obtain ⟨d0, d1, d2, d3⟩ := HCC.out W hW; go_simp; all_goals rfl)
      simp only [Act.put, List.setIfInBounds_toArray, List.set_cons_zero, List.set_cons_succ]
      refine wpAnyH_take (i := 4) (oi := ?oiA) (v := .agg ((anW (fitAnP x) (.slice P1 (cb (fitAnP x).body).length e1') (.slice P2 (cs (fitAnP x).keys).length e2') (.slice P3 (cs (fitAnP x).groups).length e3')).cells).toArray) ?hiA (by kernel_rfl) (by kernel_rfl) (by kernel_rfl) ?hQA ?hyA (by assumption) ?restA
      case hiA => simp only [List.getElem?_toArray, List.getElem?_cons_succ, List.getElem?_cons_zero]; rfl
      case hQA => exact fun _ _ _ h => h
      case hyA => exact yieldsIf_load_mid rfl 43 (.tmp 30) rfl q7 (o7 + i * 15) rfl ((anW (fitAnP x) (.slice P1 (cb (fitAnP x).body).length e1') (.slice P2 (cs (fitAnP x).keys).length e2') (.slice P3 (cs (fitAnP x).groups).length e3')).cells) _ (fun W hW => (HRL.out W hW).1) Try.underlying43 rfl infoAn15
      simp only [Act.put, List.setIfInBounds_toArray, List.set_cons_zero, List.set_cons_succ]
      refine wpAnyH_take (i := 5) (oi := ?oi5) (v := ?v5) ?hi5 (by kernel_rfl) (by kernel_rfl) (by kernel_rfl) ?hQ5 (Or.inl ⟨?hw5, ?hy5⟩) (by assumption) ?rest5
      case hi5 => simp only [List.getElem?_toArray, List.getElem?_cons_succ, List.getElem?_cons_zero]; rfl
      case hQ5 => exact fun _ _ _ h => h
      case hw5 => rfl
      case hy5 => (intro W hW; obtain ⟨d0, d1, d2, d3⟩ := HCC.out W hW; go_simp; all_goals rfl)
      simp only [Act.put, List.setIfInBounds_toArray, List.set_cons_zero, List.set_cons_succ]
      refine wpAnyH_take (i := 6) (oi := ?oi6) (v := ?v6) ?hi6 (by kernel_rfl) (by kernel_rfl) (by kernel_rfl) ?hQ6 (Or.inl ⟨?hw6, ?hy6⟩) (by assumption) ?rest6
      case hi6 => simp only [List.getElem?_toArray, List.getElem?_cons_succ, List.getElem?_cons_zero]; rfl
      case hQ6 => exact fun _ _ _ h => h
      case hw6 => rfl
      case hy6 => (intro W hW; obtain ⟨d0, d1, d2, d3⟩ := HCC.out W hW; go_simp; all_goals rfl)
      simp only [Act.put, List.setIfInBounds_toArray, List.set_cons_zero, List.set_cons_succ]
      refine wpAnyH_take (i := 7) (oi := ?oi7) (v := ?v7) ?hi7 (by kernel_rfl) (by kernel_rfl) (by kernel_rfl) ?hQ7 (Or.inl ⟨?hw7, ?hy7⟩) (by assumption) ?rest7
      case hi7 => simp only [List.getElem?_toArray, List.getElem?_cons_succ, List.getElem?_cons_zero]; rfl
      case hQ7 => exact fun _ _ _ h => h
      case hw7 => rfl
      case hy7 => (intro W hW; obtain ⟨d0, d1, d2, d3⟩ := HCC.out W hW; go_simp; all_goals rfl)
      simp only [Act.put, List.setIfInBounds_toArray, List.set_cons_zero, List.set_cons_succ]
      refine wpAnyH_take (i := 8) (oi := ?oi8) (v := ?v8) ?hi8 (by kernel_rfl) (by kernel_rfl) (by kernel_rfl) ?hQ8 (Or.inl ⟨?hw8, ?hy8⟩) (by assumption) ?rest8
      case hi8 => simp only [List.getElem?_toArray, List.getElem?_cons_succ, List.getElem?_cons_zero]; rfl
      case hQ8 => exact fun _ _ _ h => h
      case hw8 => rfl
      case hy8 => (intro W hW; obtain ⟨d0, d1, d2, d3⟩ := HCC.out W hW; go_simp; all_goals rfl)
      simp only [Act.put, List.setIfInBounds_toArray, List.set_cons_zero, List.set_cons_succ]
      refine wpAnyH_take (i := 9) (oi := ?oiB) (v := .agg (cx).toArray) ?hiB (by kernel_rfl) (by kernel_rfl) (by kernel_rfl) ?hQB ?hyB (by assumption) ?restB
      case hiB => simp only [List.getElem?_toArray, List.getElem?_cons_succ, List.getElem?_cons_zero]; rfl
      case hQB => exact fun _ _ _ h => h
      case hyB => exact yieldsIf_load_mid rfl 43 (.tmp 35) rfl q9 (o9 + i * 15) rfl (cx) _ (fun W hW => (HRL.out W hW).2) Try.underlying43 rfl (by rw [infoAn15, HOK.out.2.2])
      simp only [Act.put, List.setIfInBounds_toArray, List.set_cons_zero, List.set_cons_succ]
      refine wpAnyH_ready (rs := [10]) (by kernel_rfl) (by simp) ?_
      refine AllReadyH.cons (i := 10) (o := ?o9) ?ho9 (fun K hK => ?step9) AllReadyH.nil
      case ho9 => simp only [List.getElem?_toArray, List.getElem?_cons_succ, List.getElem?_cons_zero]; rfl
      go_simp
      (refine (fitAn_w HOK.out.2.1 (HH.out.2.1.trans (hHeld.mono HH.out.2.1.size))).mono ?_; rintro e w6 ⟨R1, r1, R2, r2, R3, r3, rfl, hok6, hab6, hb6⟩)
      have hF : Below w5.heap.size w5 w6 := hHeld.trans (hb6.mono hHeld.size)
      have H6 : Hd ((anW (fitAnP x) (.slice R1 (cb (fitAnP x).body).length r1) (.slice R2 (cs (fitAnP x).keys).length r2) (.slice R3 (cs (fitAnP x).groups).length r3)).ok w6 _) := ⟨hok6⟩
      clear hok6 hb6
      clear hab6
      refine hK.out _ _ hF (fun _ => ?_)
      clear hK
      try simp only [Act.put, List.setIfInBounds_toArray, List.set_cons_zero, List.set_cons_succ]
      refine wpAnyH_ready (rs := [11]) (by kernel_rfl) (by simp) ?_
      refine AllReadyH.cons (i := 11) (o := ?o10) ?ho10 (fun K hK => ?step10) AllReadyH.nil
      case ho10 => simp only [List.getElem?_toArray, List.getElem?_cons_succ, List.getElem?_cons_zero]; rfl
      go_simp
      (refine (equalAn_any w6 (fitAnP x).kind (fitAnP x).tag (fitAnP x).code (fitAnP x).next (fitAnP x).more (fitAnP x).ge (fitAnP x).gc (fitAnP x).size (fitAnP x).h1 (fitAnP x).h2 (fitAnP x).h3 (fitAnP x).h4 (fitAnP x).body (fitAnP x).keys (fitAnP x).groups P1 R1 P2 R2 P3 R3 _ _ e1' r1 _ e2' r2 _ e3' r3 w6.heap.size (((Rd.of_own (HOK.out.1 _ (show _ ∈ (anW (fitAnP x) _ _ _).rows from List.mem_cons_self))).below hF).more hF.size) (Rd.of_own (H6.out _ (show _ ∈ (anW (fitAnP x) _ _ _).rows from List.mem_cons_self))) (((Rd.of_own (HOK.out.1 _ (show _ ∈ (anW (fitAnP x) _ _ _).rows from (List.mem_cons_of_mem _ List.mem_cons_self)))).below hF).more hF.size) (Rd.of_own (H6.out _ (show _ ∈ (anW (fitAnP x) _ _ _).rows from (List.mem_cons_of_mem _ List.mem_cons_self)))) (((Rd.of_own (HOK.out.1 _ (show _ ∈ (anW (fitAnP x) _ _ _).rows from (List.mem_cons_of_mem _ (List.mem_cons_of_mem _ List.mem_cons_self))))).below hF).more hF.size) (Rd.of_own (H6.out _ (show _ ∈ (anW (fitAnP x) _ _ _).rows from (List.mem_cons_of_mem _ (List.mem_cons_of_mem _ List.mem_cons_self))))) (Nat.le_refl _) HKG.out.1 HKG.out.2).mono ?_; rintro e w7 ⟨rfl, hb7⟩)
      have hF2 : Below w5.heap.size w5 w7 := hF.trans (hb7.mono hF.size)
      refine hK.out _ _ hF2 (fun _ => ?_)
      clear hK
      try simp only [Act.put, List.setIfInBounds_toArray, List.set_cons_zero, List.set_cons_succ]
      refine wpAnyH_take (i := 12) (oi := ?oi11) (v := ?v11) ?hi11 (by kernel_rfl) (by kernel_rfl) (by kernel_rfl) ?hQ11 (Or.inl ⟨?hw11, ?hy11⟩) (by assumption) ?rest11
      case hi11 => simp only [List.getElem?_toArray, List.getElem?_cons_succ, List.getElem?_cons_zero]; rfl
      case hQ11 => exact fun _ _ _ h => h
      case hw11 => rfl
      case hy11 => (intro W hW; obtain ⟨d0, d1, d2, d3⟩ := HCC.out W hW; go_simp; all_goals rfl)
      simp only [Act.put, List.setIfInBounds_toArray, List.set_cons_zero, List.set_cons_succ]
      refine wpAnyH_done (by kernel_rfl) ?_ _
      have HB2 : Hd (Below w5.heap.size w5 w7) := ⟨hF2⟩
      clear hF hF2 HB HOK HRL
      go_wp2_with fail
      go_roundw
      case rel => exact ⟨i + 1, by go_num, Nat.succ_le_of_lt HLT.out, HB2.out⟩
      case measure => simp [intOf]; have := HLT.out; omega
    · have hki : ¬ (i : Int) < (n : Int) := by omega
      go_wp2_with fail
      go_ret
      exact ⟨rfl, H5.out.2.2.trans (HB.out.mono H5.out.2.2.size)⟩
end Go.Proofs.Ytbcmjjcbjojakaa
end
section
/- What a walk over a Talk is told: the laws of its messages' kind, for both kinds. -/
namespace Go.Proofs.Ytbcmjjcbjojakaa
open Go.RowKit
set_option linter.unusedVariables false
theorem RqA.more {w : World} {B B' : Nat} {l : List Value} {R : Rq} (h : RqA w B l R) (hB : B ≤ B') : RqA w B' l R := by
  obtain ⟨A, n, c, e, hr, h⟩ := h; exact ⟨A, n, c, e, hr.more hB, h⟩
theorem AnA.more {w : World} {B B' : Nat} {l : List Value} {a : An} (h : AnA w B l a) (hB : B ≤ B') : AnA w B' l a := by
  obtain ⟨A, n, c, A2, n2, c2, A3, n3, c3, e, h1, h2, h3, h⟩ := h; exact ⟨A, n, c, A2, n2, c2, A3, n3, c3, e, h1.more hB, h2.more hB, h3.more hB, h⟩
theorem Lst.up {M : Type} {Q : World → Nat → List Value → M → Prop} {w W : World} {size n : Nat} {A : Option Addr} {ms : List M} (h : Lst Q w w.heap.size size A n ms) (hQ : ∀ l x, Q w w.heap.size l x → Q W W.heap.size l x) (b : Below w.heap.size w W) : Lst Q W W.heap.size size A n ms :=
  ⟨h.1, fun i x hx => by
    obtain ⟨g, off, l, e, hg, hr, hl, hq⟩ := h.2 i x hx
    exact ⟨g, off, l, e, Nat.lt_of_lt_of_le hg b.size, fun j v hv => (b.cell (p := ⟨g, _, none⟩) hg).trans (hr j v hv), hl, hQ l x hq⟩⟩
theorem Lst.upR {w W : World} {n : Nat} {A : Option Addr} {ms : List Rq} (h : Lst RqA w w.heap.size 8 A n ms) (b : Below w.heap.size w W) : Lst RqA W W.heap.size 8 A n ms := h.up (fun l x q => (q.below b).more b.size) b
theorem Lst.upA {w W : World} {n : Nat} {A : Option Addr} {ms : List An} (h : Lst AnA w w.heap.size 15 A n ms) (b : Below w.heap.size w W) : Lst AnA W W.heap.size 15 A n ms := h.up (fun l x q => (q.below b).more b.size) b
theorem Lst.mem {M : Type} {Q : World → Nat → List Value → M → Prop} {w : World} {B size n : Nat} {A : Option Addr} {ms : List M} {x : M} (h : Lst Q w B size A n ms) (hx : x ∈ ms) : ∃ l, Q w B l x := by
  obtain ⟨i, hi⟩ := List.getElem?_of_mem hx
  obtain ⟨_, _, l, _, _, _, _, hq⟩ := h.2 i x hi
  exact ⟨l, hq⟩
theorem RqA.b {w : World} {B : Nat} {l : List Value} {R : Rq} (h : RqA w B l R) : RqB R := by obtain ⟨A, n, c, e, hr, hnc, hb, _⟩ := h; exact hb
theorem AnA.b {w : World} {B : Nat} {l : List Value} {a : An} (h : AnA w B l a) : AnB a := by obtain ⟨A, n, c, A2, n2, c2, A3, n3, c3, e, h1, h2, h3, _, _, _, _, _, _, hb, _⟩ := h; exact hb
/-- The laws of a talk. -/
structure TL {T : Type} (Z : Kd T) (cont : T → List Nat) (ms : List T) (w : World) (arg : Array Value) : Prop where
  ok : ∀ x ∈ ms, 0 < (cont x).length ∧ (cont x).length ≤ 33554432 ∧ Z.rd (cont x) = some x
  lt : ∀ y ∈ preF cont ms ms.length, y < 256
  vast : ∀ W, Below w.heap.size w W → Calls Try.prog 41 #[.agg arg] W fun e w' => ∃ b, e = .returned (.bool b) ∧ Below W.heap.size W w' ∧ (b = false → (preF cont ms ms.length).length ≤ 34359738368)
  said : (preF cont ms ms.length).length ≤ 34359738368 → ∀ W, Below w.heap.size w W → Calls Try.prog 42 #[.agg arg] W (SaidDone cont ms W)
  first : ∀ W, Below w.heap.size w W → ∀ (x0 x1 : Value) (Q7 : Option Addr) (n k7 : Nat) (fl hd : Int) (hs : List Wm), hdC Z.ans (.slice Q7 n k7) fl hd = #[x0, x1, .int .i64 fl, .int .i64 hd] → Que W w.heap.size Z.e Z.m (.slice Q7 n k7) hs → (∀ V ∈ hs, V.ok W w.heap.size) → Alike Z.is hs (ms.take n) → n ≤ ms.length →
    Calls Try.prog 43 #[.agg arg, .agg #[x0, x1, .int .i64 fl, .int .i64 hd], .int .i64 (n : Int)] W fun e w' => e = .returned (.bool true) ∧ Below W.heap.size W w'
  hear : MsgLaw Z ∧ DrainLaw Z ∧ ReaderLaw Z ∧ Nine Z
  len : ms.length ≤ 1466015503701
theorem tx_lt' : ∀ (l : List ByteArray), (∀ t ∈ l, t.size ≤ 255) → ∀ y ∈ tx l, y < 256
  | [], _, y, hy => by cases hy
  | t :: l, h, y, hy => by
    unfold tx at hy
    rw [List.flatMap_cons] at hy
    rcases List.mem_append.1 hy with h1 | h1
    · rcases List.mem_append.1 h1 with h2 | h2
      · exact uv_lt _ (by have := h t (List.mem_cons_self ..); omega) y h2
      · exact sb_lt t y h2
    · exact tx_lt' l (fun x hx => h x (List.mem_cons_of_mem _ hx)) y h1
open Classical in
theorem anC_lt {a : An} (hok : anOk a) (h : anFit a) (hb : AnB a) : ∀ y ∈ anC a, y < 256 := by
  obtain ⟨f1, f2, f3, f4⟩ := h
  have hc := hok.2.2.1
  have hc2 := hok.2.2.2.1
  have gi : ∀ (p : Prop) [Decidable p] (l : List Nat), (∀ y ∈ l, y < 256) → ∀ y ∈ (if p then l else []), y < 256 := fun p _ l hl y hy => by
    split at hy
    · exact hl y hy
    · cases hy
  have ap : ∀ (l m : List Nat), (∀ y ∈ l, y < 256) → (∀ y ∈ m, y < 256) → ∀ y ∈ l ++ m, y < 256 := fun l m h1 h2 y hy => (List.mem_append.1 hy).elim (h1 y) (h2 y)
  have gz : ∀ v, (v = a.ge ∨ v = a.gc ∨ v = a.size ∨ v = a.h1 ∨ v = a.h2 ∨ v = a.h3 ∨ v = a.h4) → ∀ y ∈ uz v, y < 256 := fun v hv => uz_lt v (hb.n v hv).1 (hb.n v hv).2
  have hk : a.keys.length < 2 ^ 64 := by have := f2.1; split at this <;> omega
  have hg : a.groups.length < 2 ^ 64 := by have := f3.1; omega
  have gt : ∀ l : List ByteArray, l.length < 2 ^ 64 → (∀ t ∈ l, t.size ≤ 255) → ∀ y ∈ ut l, y < 256 := fun l h1 h2 => ap _ _ (uv_lt _ h1) (tx_lt' l h2)
  unfold anC
  refine ap _ _ (ap _ _ (ap _ _ (ap _ _ (ap _ _ (ap _ _ (ap _ _ (fun y hy => fx_lt _ _ y hy) (fun y hy => fx_lt _ _ y hy)) (uv_lt _ (by omega))) (gi _ _ (ap _ _ (ap _ _ (ap _ _ (gz _ (by simp)) (gz _ (by simp))) (gz _ (by simp))) (gz _ (by simp))))) (gi _ _ (ub_lt _ (by omega) hb.b))) (gi _ _ (ap _ _ (ap _ _ (gz _ (by simp)) (gz _ (by simp))) (gz _ (by simp))))) (gi _ _ (gt _ hk f2.2))) (gi _ _ (ap _ _ (ap _ _ (gt _ hg f3.2) (us_lt _ (by omega))) ?_))
  intro y hy
  rw [List.mem_singleton] at hy
  subst hy
  split <;> omega
theorem fmF_lt : ∀ (f s : Nat) (c : List Nat), (∀ y ∈ c, y < 256) → ∀ y ∈ fmF f s c, y < 256
  | 0, s, c, h => fun y hy => by cases hy
  | f + 1, s, c, h => fun y hy => by
    by_cases h0 : 0 < c.length
    · rw [fmF_step f s c h0] at hy
      rcases List.mem_append.1 hy with h1 | h1
      · unfold chk hd3 at h1
        simp only [List.mem_append] at h1
        have hfx : ∀ k v, ∀ y ∈ fx k v, y < 256 := fun k v y hy => fx_lt k v y hy
        rcases h1 with ((h2 | h2) | h2) | h2
        · first | (rcases h2 with h2 | h2 <;> exact hfx _ _ y h2) | exact hfx _ _ y h2
        · exact hfx _ _ y h2
        · exact h y (List.mem_of_mem_take h2)
        · exact hfx _ _ y h2
      · exact fmF_lt f _ _ (fun z hz => h z (List.mem_of_mem_drop hz)) y h1
    · have : c = [] := List.eq_nil_of_length_eq_zero (by omega)
      subst this; rw [fmF_nil] at hy; cases hy
theorem preF_lt {M : Type} {cont : M → List Nat} {ms : List M} (h : ∀ x ∈ ms, ∀ y ∈ cont x, y < 256) (k : Nat) : ∀ y ∈ preF cont ms k, y < 256 := fun y hy => by
  unfold preF at hy
  obtain ⟨x, hx, hy⟩ := List.mem_flatMap.1 hy
  exact fmF_lt _ _ _ (h x (List.mem_of_mem_take hx)) y hy
theorem tl_ask {w : World} {A1 A2 A3 : Option Addr} {n1 c1 n2 c2 n3 c3 : Nat} {rs : List Rq} {ys : List An} (h1 : Lst RqA w w.heap.size 8 A1 n1 rs) (h2 : Lst AnA w w.heap.size 15 A2 n2 ys) (hn1 : n1 ≤ 1466015503701) (hn2 : n2 ≤ 1466015503701) :
    TL askK rqC (rs.map fitP) w #[.bool false, .slice A1 n1 c1, .slice A2 n2 c2, .slice A3 n3 c3] where
  ok := fun x hx => by
    obtain ⟨R, hR, rfl⟩ := List.mem_map.1 hx
    obtain ⟨l, hq⟩ := h1.mem hR
    exact ⟨rqC_pos _, Nat.le_trans (rqC_len (fitP_fit R)) (by omega), fitP_rd R hq.b⟩
  lt := preF_lt (fun x hx => by
    obtain ⟨R, hR, rfl⟩ := List.mem_map.1 hx
    obtain ⟨l, hq⟩ := h1.mem hR
    exact rqC_lt (fitP_fit R) (fitP_b R hq.b)) _
  vast := fun W hW => (vast_any W false A1 A2 A3 n1 c1 n2 c2 n3 c3 rs ys (h1.upR hW) (h2.upA hW) (by omega) (by omega)).mono fun e w' ⟨b, he, hb, hs⟩ => ⟨b, he, hb, fun h0 => by
    have h3 := pre_sum fitP rqC rqSz 3 rs fun x _ => fitRq_le x
    have := hs h0
    omega⟩
  said := fun hp W hW => said_ask W A1 A2 A3 n1 c1 n2 c2 n3 c3 rs (rs.map fitP) rfl (h1.upR hW) hn1 hp
  first := fun W hW x0 x1 Q7 n k7 fl hd hs he hq hok hal hn => by
    rw [← he]
    exact first_ask W w A1 A2 A3 n1 c1 n2 c2 n3 c3 rs h1 hW hn1 Q7 n k7 fl hd hs hq hok hal (by rwa [List.length_map] at hn)
  hear := ⟨msgLaw_ask, drainLaw_ask, readerLaw_ask, nine_ask⟩
  len := by rw [List.length_map, h1.1]; exact hn1
theorem tl_tel {w : World} {A1 A2 A3 : Option Addr} {n1 c1 n2 c2 n3 c3 : Nat} {rs : List Rq} {ys : List An} (h1 : Lst RqA w w.heap.size 8 A1 n1 rs) (h2 : Lst AnA w w.heap.size 15 A2 n2 ys) (hn1 : n1 ≤ 1466015503701) (hn2 : n2 ≤ 1466015503701) :
    TL telK anC (ys.map fitAnP) w #[.bool true, .slice A1 n1 c1, .slice A2 n2 c2, .slice A3 n3 c3] where
  ok := fun x hx => by
    obtain ⟨R, hR, rfl⟩ := List.mem_map.1 hx
    obtain ⟨l, hq⟩ := h2.mem hR
    exact ⟨anC_pos _, anC_len (fitAnP_fit R), fitAnP_rd R hq.b⟩
  lt := preF_lt (fun x hx => by
    obtain ⟨R, hR, rfl⟩ := List.mem_map.1 hx
    obtain ⟨l, hq⟩ := h2.mem hR
    exact anC_lt (fitAnP_ok R) (fitAnP_fit R) (fitAnP_b R hq.b)) _
  vast := fun W hW => (vast_any W true A1 A2 A3 n1 c1 n2 c2 n3 c3 rs ys (h1.upR hW) (h2.upA hW) (by omega) (by omega)).mono fun e w' ⟨b, he, hb, hs⟩ => ⟨b, he, hb, fun h0 => by
    have h3 := pre_sum fitAnP anC anSz 7 ys fun x _ => fitAn_le x
    have := hs h0
    omega⟩
  said := fun hp W hW => said_tel W A1 A2 A3 n1 c1 n2 c2 n3 c3 ys (ys.map fitAnP) rfl (h2.upA hW) hn2 hp
  first := fun W hW x0 x1 Q7 n k7 fl hd hs he hq hok hal hn => by
    rw [← he]
    exact first_tel W w A1 A2 A3 n1 c1 n2 c2 n3 c3 ys h2 hW hn2 Q7 n k7 fl hd hs hq hok hal (by rwa [List.length_map] at hn)
  hear := ⟨msgLaw_tel, drainLaw_tel, readerLaw_tel, nine_tel⟩
  len := by rw [List.length_map, h2.1]; exact hn2
theorem Que.lower {w : World} {base base' e size : Nat} {v : Value} {ws : List Wm} (h : Que w base e size v ws) (hb : base' ≤ base) : Que w base' e size v ws := by
  refine ⟨h.1, ?_⟩
  rcases h.2 with h0 | ⟨g, off, cap, cur, hv, h1, h2⟩
  · exact .inl h0
  · exact .inr ⟨g, off, cap, cur, hv, by omega, h2⟩
end Go.Proofs.Ytbcmjjcbjojakaa
end
