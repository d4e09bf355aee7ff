/- Contract of the reference's Ask. (tools/askrgen.py prints it.) -/
import Derived.Test.YtbcmjjcbjojakaaContR
import Derived.Test.YtbcmjjcbjojakaaSameRq
import Derived.Test.YtbcmjjcbjojakaaAskW
namespace Go.Proofs.Ytbcmjjcbjojakaa
open Go.RowKit
set_option linter.unusedVariables false
set_option linter.unusedSimpArgs false
theorem content_anyK (w : World) (R : Rq) (k : Int) (tag : Nat) (key after : ByteArray) (off num delim : Int) (body : List Nat) (hR : R = ⟨k, tag, key, after, off, num, delim, body⟩) (A : Option Addr) (n c : Nat) (hr : Rd w w.heap.size A n (cb body)) (hb : RqB R) (hF : rqFit R) (hk1 : 1 ≤ k) (hk8 : k ≤ 8) :
    Calls Try.prog 54 #[.agg #[.int .i64 k, .int .u64 (tag : Int), .string key, .string after, .int .i64 off, .int .i64 num, .int .i64 delim, .slice A n c]] w fun e w' => ∃ v, e = .returned v ∧ w'.ownsRow w.heap.size 5 1 v (rqC R).length (cb (rqC R)) ∧ Below w.heap.size w w' := by
  obtain ⟨kn, rfl⟩ : ∃ kn : Nat, k = (kn : Int) := ⟨k.toNat, by omega⟩
  exact content_any0 w R kn tag key after off num delim body hR A n c hr hb hF (by omega) (by omega)
theorem CS.range {w W : World} {g : Nat} {xs : Array Value} (h : CS w W g xs) {cs : List Value} (hx : xs = cs.toArray) : W.rangeAt g 0 cs := fun j v hj => by
  rw [Nat.zero_add]
  exact h.c j (by rw [hx]; simpa using hj)
set_option maxRecDepth 20000 in
set_option maxHeartbeats 4000000 in
theorem refAsk_any0 (w : World) (R : Rq) (k : Int) (tag : Nat) (key after : ByteArray) (off num delim : Int) (body : List Nat) (hR : R = ⟨k, tag, key, after, off, num, delim, body⟩) (A : Option Addr) (n c : Nat) (hr : Rd w w.heap.size A n (cb body)) (hb : RqB R) (hc : n ≤ c) :
    Calls Try.prog 18 #[.agg #[.int .i64 k, .int .u64 (tag : Int), .string key, .string after, .int .i64 off, .int .i64 num, .int .i64 delim, .slice A n c]] w (AskPost R w) := by
  have HR := Hd.mk hR
  have hbl : body.length = n := by have := hr.1; rw [cb_length] at this; exact this
  have HH : Hd (Rd w w.heap.size A n (cb body) ∧ RqB R ∧ n ≤ c ∧ body.length = n) := ⟨hr, hb, hc, hbl⟩
  obtain ⟨cs, hcs⟩ : ∃ cs : Array Value, cs = #[.int .i64 k, .int .u64 (tag : Int), .string key, .string after, .int .i64 off, .int .i64 num, .int .i64 delim, .slice A n c] := ⟨_, rfl⟩
  obtain ⟨g, hg⟩ : ∃ g, w.heap.size = g := ⟨_, rfl⟩
  have H0 : Hd (CS w (w.alloc (.cells #[.int .i64 k, .int .u64 (tag : Int), .string key, .string after, .int .i64 off, .int .i64 num, .int .i64 delim, .slice A n c] 28)) g cs) := ⟨by rw [← hg, hcs]; exact heap_alloc_new w _, (Below.refl _ w).alloc (Nat.le_refl _) _⟩
  have HCS := Hd.mk hcs
  have HG := Hd.mk hg
  clear hr hb hc hbl hR hcs hg
  go_enter Try.func18, Try.ntmps18
  go_upto_region 1 with fail
  obtain ⟨w0, hw0⟩ : ∃ w0, w.alloc (.cells #[.int .i64 k, .int .u64 (tag : Int), .string key, .string after, .int .i64 off, .int .i64 num, .int .i64 delim, .slice A n c] 28) = w0 := ⟨_, rfl⟩
  rw [hw0] at H0 ⊢
  rw [HG.out]
  clear hw0
  by_cases hk1 : k < 1
  · refine wp_region_held_drew (S := fun W => CS w W g cs) (by kernel_rfl) (H0.out.step (Below.refl _ _).drew) (fun hHeld => ?_)
    refine wpAnyH_take (i := 0) (oi := ?oi101) (v := ?v101) ?hi101 (by kernel_rfl) (by kernel_rfl) (by kernel_rfl) ?hQ101 (Or.inl ⟨?hw101, ?hy101⟩) (by assumption) ?rest101
    case hi101 => simp only [List.getElem?_toArray, List.getElem?_cons_succ, List.getElem?_cons_zero]; rfl
    case hQ101 => exact fun _ _ _ h => h
    case hw101 => rfl
    case hy101 => (intro W hW; have c0 := hW.c 0 (by rw [HCS.out]; rfl); go_simp; all_goals rfl)
    simp only [Act.put, List.setIfInBounds_toArray, List.set_cons_zero, List.set_cons_succ]
    refine wpAnyH_take (i := 1) (oi := ?oi102) (v := ?v102) ?hi102 (by kernel_rfl) (by kernel_rfl) (by kernel_rfl) ?hQ102 (Or.inl ⟨?hw102, ?hy102⟩) (by assumption) ?rest102
    case hi102 => simp only [List.getElem?_toArray, List.getElem?_cons_succ, List.getElem?_cons_zero]; rfl
    case hQ102 => exact fun _ _ _ h => h
    case hw102 => rfl
    case hy102 => (intro W hW; have c0 := hW.c 0 (by rw [HCS.out]; rfl); go_simp; all_goals rfl)
    simp only [Act.put, List.setIfInBounds_toArray, List.set_cons_zero, List.set_cons_succ]
    refine wpAnyH_take (i := 2) (oi := ?oi103) (v := ?v103) ?hi103 (by kernel_rfl) (by kernel_rfl) (by kernel_rfl) ?hQ103 (Or.inl ⟨?hw103, ?hy103⟩) (by assumption) ?rest103
    case hi103 => simp only [List.getElem?_toArray, List.getElem?_cons_succ, List.getElem?_cons_zero]; rfl
    case hQ103 => exact fun _ _ _ h => h
    case hw103 => rfl
    case hy103 => (intro W hW; have c0 := hW.c 0 (by rw [HCS.out]; rfl); go_simp; all_goals rfl)
    simp only [Act.put, List.setIfInBounds_toArray, List.set_cons_zero, List.set_cons_succ]
    refine wpAnyH_take (i := 3) (oi := ?oi104) (v := ?v104) ?hi104 (by kernel_rfl) (by kernel_rfl) (by kernel_rfl) ?hQ104 (Or.inl ⟨?hw104, ?hy104⟩) (by assumption) ?rest104
    case hi104 => simp only [List.getElem?_toArray, List.getElem?_cons_succ, List.getElem?_cons_zero]; rfl
    case hQ104 => exact fun _ _ _ h => h
    case hw104 => rfl
    case hy104 => (intro W hW; have c0 := hW.c 0 (by rw [HCS.out]; rfl); go_simp; all_goals rfl)
    simp only [Act.put, List.setIfInBounds_toArray, List.set_cons_zero, List.set_cons_succ]
    refine wpAnyH_take (i := 4) (oi := ?oi105) (v := ?v105) ?hi105 (by kernel_rfl) (by kernel_rfl) (by kernel_rfl) ?hQ105 (Or.inr ⟨?hw105, ?hv105⟩) (by assumption) ?rest105
    case hi105 => simp only [List.getElem?_toArray, List.getElem?_cons_succ, List.getElem?_cons_zero]; rfl
    case hQ105 => exact fun _ _ _ h => h
    case hw105 => rfl
    case hv105 => rfl
    simp only [Act.put, List.setIfInBounds_toArray, List.set_cons_zero, List.set_cons_succ]
    refine wpAnyH_take (i := 5) (oi := ?oi106) (v := ?v106) ?hi106 (by kernel_rfl) (by kernel_rfl) (by kernel_rfl) ?hQ106 (Or.inr ⟨?hw106, ?hv106⟩) (by assumption) ?rest106
    case hi106 => simp only [List.getElem?_toArray, List.getElem?_cons_succ, List.getElem?_cons_zero]; rfl
    case hQ106 => exact fun _ _ _ h => h
    case hw106 => rfl
    case hv106 => rfl
    simp only [Act.put, List.setIfInBounds_toArray, List.set_cons_zero, List.set_cons_succ]
    refine wpAnyH_take (i := 6) (oi := ?oi107) (v := ?v107) ?hi107 (by kernel_rfl) (by kernel_rfl) (by kernel_rfl) ?hQ107 (Or.inr ⟨?hw107, ?hv107⟩) (by assumption) ?rest107
    case hi107 => simp only [List.getElem?_toArray, List.getElem?_cons_succ, List.getElem?_cons_zero]; rfl
    case hQ107 => exact fun _ _ _ h => h
    case hw107 => rfl
    case hv107 => rfl
    simp only [Act.put, List.setIfInBounds_toArray, List.set_cons_zero, List.set_cons_succ]
    refine wpAnyH_take (i := 7) (oi := ?oi108) (v := ?v108) ?hi108 (by kernel_rfl) (by kernel_rfl) (by kernel_rfl) ?hQ108 (Or.inl ⟨?hw108, ?hy108⟩) (by assumption) ?rest108
    case hi108 => simp only [List.getElem?_toArray, List.getElem?_cons_succ, List.getElem?_cons_zero]; rfl
    case hQ108 => exact fun _ _ _ h => h
    case hw108 => rfl
    case hy108 => (intro W hW; have c0 := hW.c 0 (by rw [HCS.out]; rfl); go_simp; all_goals rfl)
    simp only [Act.put, List.setIfInBounds_toArray, List.set_cons_zero, List.set_cons_succ]
    refine wpAnyH_take (i := 8) (oi := ?oi109) (v := ?v109) ?hi109 (by kernel_rfl) (by kernel_rfl) (by kernel_rfl) ?hQ109 (Or.inl ⟨?hw109, ?hy109⟩) (by assumption) ?rest109
    case hi109 => simp only [List.getElem?_toArray, List.getElem?_cons_succ, List.getElem?_cons_zero]; rfl
    case hQ109 => exact fun _ _ _ h => h
    case hw109 => rfl
    case hy109 => (intro W hW; have c0 := hW.c 0 (by rw [HCS.out]; rfl); go_simp; all_goals rfl)
    simp only [Act.put, List.setIfInBounds_toArray, List.set_cons_zero, List.set_cons_succ]
    refine wpAnyH_take (i := 9) (oi := ?oi110) (v := ?v110) ?hi110 (by kernel_rfl) (by kernel_rfl) (by kernel_rfl) ?hQ110 (Or.inr ⟨?hw110, ?hv110⟩) (by assumption) ?rest110
    case hi110 => simp only [List.getElem?_toArray, List.getElem?_cons_succ, List.getElem?_cons_zero]; rfl
    case hQ110 => exact fun _ _ _ h => h
    case hw110 => rfl
    case hv110 => rfl
    simp only [Act.put, List.setIfInBounds_toArray, List.set_cons_zero, List.set_cons_succ]
    refine wpAnyH_take (i := 10) (oi := ?oi111) (v := ?v111) ?hi111 (by kernel_rfl) (by kernel_rfl) (by kernel_rfl) ?hQ111 (Or.inr ⟨?hw111, ?hv111⟩) (by assumption) ?rest111
    case hi111 => simp only [List.getElem?_toArray, List.getElem?_cons_succ, List.getElem?_cons_zero]; rfl
    case hQ111 => exact fun _ _ _ h => h
    case hw111 => rfl
    case hv111 => rfl
    simp only [Act.put, List.setIfInBounds_toArray, List.set_cons_zero, List.set_cons_succ]
    refine wpAnyH_take (i := 11) (oi := ?oi112) (v := ?v112) ?hi112 (by kernel_rfl) (by kernel_rfl) (by kernel_rfl) ?hQ112 (Or.inr ⟨?hw112, ?hv112⟩) (by assumption) ?rest112
    case hi112 => simp only [List.getElem?_toArray, List.getElem?_cons_succ, List.getElem?_cons_zero]; rfl
    case hQ112 => exact fun _ _ _ h => h
    case hw112 => rfl
    case hv112 => rfl
    simp only [Act.put, List.setIfInBounds_toArray, List.set_cons_zero, List.set_cons_succ]
    refine wpAnyH_take (i := 12) (oi := ?oi113) (v := ?v113) ?hi113 (by kernel_rfl) (by kernel_rfl) (by kernel_rfl) ?hQ113 (Or.inr ⟨?hw113, ?hv113⟩) (by assumption) ?rest113
    case hi113 => simp only [List.getElem?_toArray, List.getElem?_cons_succ, List.getElem?_cons_zero]; rfl
    case hQ113 => exact fun _ _ _ h => h
    case hw113 => rfl
    case hv113 => rfl
    simp only [Act.put, List.setIfInBounds_toArray, List.set_cons_zero, List.set_cons_succ]
    refine wpAnyH_take (i := 13) (oi := ?oi114) (v := ?v114) ?hi114 (by kernel_rfl) (by kernel_rfl) (by kernel_rfl) ?hQ114 (Or.inr ⟨?hw114, ?hv114⟩) (by assumption) ?rest114
    case hi114 => simp only [List.getElem?_toArray, List.getElem?_cons_succ, List.getElem?_cons_zero]; rfl
    case hQ114 => exact fun _ _ _ h => h
    case hw114 => rfl
    case hv114 => rfl
    simp only [Act.put, List.setIfInBounds_toArray, List.set_cons_zero, List.set_cons_succ]
    refine wpAnyH_take (i := 14) (oi := ?oi115) (v := ?v115) ?hi115 (by kernel_rfl) (by kernel_rfl) (by kernel_rfl) ?hQ115 (Or.inl ⟨?hw115, ?hy115⟩) (by assumption) ?rest115
    case hi115 => simp only [List.getElem?_toArray, List.getElem?_cons_succ, List.getElem?_cons_zero]; rfl
    case hQ115 => exact fun _ _ _ h => h
    case hw115 => rfl
    case hy115 => (intro W hW; have c0 := hW.c 0 (by rw [HCS.out]; rfl); go_simp; all_goals rfl)
    simp only [Act.put, List.setIfInBounds_toArray, List.set_cons_zero, List.set_cons_succ]
    refine wpAnyH_done (by kernel_rfl) ?_ _
    have HB := Hd.mk hHeld.bel
    clear hHeld
    go_wp2_with fail
    go_ret2
    exact AskPost.bad (fun h => by rw [HR.out] at h; have h1 := h.1; have h2 := h.2.1; simp only at h1 h2; omega) HB.out
  by_cases hk8 : 8 < k
  · refine wp_region_held_drew (S := fun W => CS w W g cs) (by kernel_rfl) (H0.out.step (Below.refl _ _).drew) (fun hHeld => ?_)
    refine wpAnyH_take (i := 0) (oi := ?oi201) (v := ?v201) ?hi201 (by kernel_rfl) (by kernel_rfl) (by kernel_rfl) ?hQ201 (Or.inl ⟨?hw201, ?hy201⟩) (by assumption) ?rest201
    case hi201 => simp only [List.getElem?_toArray, List.getElem?_cons_succ, List.getElem?_cons_zero]; rfl
    case hQ201 => exact fun _ _ _ h => h
    case hw201 => rfl
    case hy201 => (intro W hW; have c0 := hW.c 0 (by rw [HCS.out]; rfl); go_simp; all_goals rfl)
    simp only [Act.put, List.setIfInBounds_toArray, List.set_cons_zero, List.set_cons_succ]
    refine wpAnyH_take (i := 1) (oi := ?oi202) (v := ?v202) ?hi202 (by kernel_rfl) (by kernel_rfl) (by kernel_rfl) ?hQ202 (Or.inl ⟨?hw202, ?hy202⟩) (by assumption) ?rest202
    case hi202 => simp only [List.getElem?_toArray, List.getElem?_cons_succ, List.getElem?_cons_zero]; rfl
    case hQ202 => exact fun _ _ _ h => h
    case hw202 => rfl
    case hy202 => (intro W hW; have c0 := hW.c 0 (by rw [HCS.out]; rfl); go_simp; all_goals rfl)
    simp only [Act.put, List.setIfInBounds_toArray, List.set_cons_zero, List.set_cons_succ]
    refine wpAnyH_take (i := 2) (oi := ?oi203) (v := ?v203) ?hi203 (by kernel_rfl) (by kernel_rfl) (by kernel_rfl) ?hQ203 (Or.inl ⟨?hw203, ?hy203⟩) (by assumption) ?rest203
    case hi203 => simp only [List.getElem?_toArray, List.getElem?_cons_succ, List.getElem?_cons_zero]; rfl
    case hQ203 => exact fun _ _ _ h => h
    case hw203 => rfl
    case hy203 => (intro W hW; have c0 := hW.c 0 (by rw [HCS.out]; rfl); go_simp; all_goals rfl)
    simp only [Act.put, List.setIfInBounds_toArray, List.set_cons_zero, List.set_cons_succ]
    refine wpAnyH_take (i := 3) (oi := ?oi204) (v := ?v204) ?hi204 (by kernel_rfl) (by kernel_rfl) (by kernel_rfl) ?hQ204 (Or.inl ⟨?hw204, ?hy204⟩) (by assumption) ?rest204
    case hi204 => simp only [List.getElem?_toArray, List.getElem?_cons_succ, List.getElem?_cons_zero]; rfl
    case hQ204 => exact fun _ _ _ h => h
    case hw204 => rfl
    case hy204 => (intro W hW; have c0 := hW.c 0 (by rw [HCS.out]; rfl); go_simp; all_goals rfl)
    simp only [Act.put, List.setIfInBounds_toArray, List.set_cons_zero, List.set_cons_succ]
    refine wpAnyH_take (i := 4) (oi := ?oi205) (v := ?v205) ?hi205 (by kernel_rfl) (by kernel_rfl) (by kernel_rfl) ?hQ205 (Or.inl ⟨?hw205, ?hy205⟩) (by assumption) ?rest205
    case hi205 => simp only [List.getElem?_toArray, List.getElem?_cons_succ, List.getElem?_cons_zero]; rfl
    case hQ205 => exact fun _ _ _ h => h
    case hw205 => rfl
    case hy205 => (intro W hW; have c0 := hW.c 0 (by rw [HCS.out]; rfl); go_simp; all_goals rfl)
    simp only [Act.put, List.setIfInBounds_toArray, List.set_cons_zero, List.set_cons_succ]
    refine wpAnyH_take (i := 5) (oi := ?oi206) (v := ?v206) ?hi206 (by kernel_rfl) (by kernel_rfl) (by kernel_rfl) ?hQ206 (Or.inl ⟨?hw206, ?hy206⟩) (by assumption) ?rest206
    case hi206 => simp only [List.getElem?_toArray, List.getElem?_cons_succ, List.getElem?_cons_zero]; rfl
    case hQ206 => exact fun _ _ _ h => h
    case hw206 => rfl
    case hy206 => (intro W hW; have c0 := hW.c 0 (by rw [HCS.out]; rfl); go_simp; all_goals rfl)
    simp only [Act.put, List.setIfInBounds_toArray, List.set_cons_zero, List.set_cons_succ]
    refine wpAnyH_take (i := 6) (oi := ?oi207) (v := ?v207) ?hi207 (by kernel_rfl) (by kernel_rfl) (by kernel_rfl) ?hQ207 (Or.inl ⟨?hw207, ?hy207⟩) (by assumption) ?rest207
    case hi207 => simp only [List.getElem?_toArray, List.getElem?_cons_succ, List.getElem?_cons_zero]; rfl
    case hQ207 => exact fun _ _ _ h => h
    case hw207 => rfl
    case hy207 => (intro W hW; have c0 := hW.c 0 (by rw [HCS.out]; rfl); go_simp; all_goals rfl)
    simp only [Act.put, List.setIfInBounds_toArray, List.set_cons_zero, List.set_cons_succ]
    refine wpAnyH_take (i := 7) (oi := ?oi208) (v := ?v208) ?hi208 (by kernel_rfl) (by kernel_rfl) (by kernel_rfl) ?hQ208 (Or.inl ⟨?hw208, ?hy208⟩) (by assumption) ?rest208
    case hi208 => simp only [List.getElem?_toArray, List.getElem?_cons_succ, List.getElem?_cons_zero]; rfl
    case hQ208 => exact fun _ _ _ h => h
    case hw208 => rfl
    case hy208 => (intro W hW; have c0 := hW.c 0 (by rw [HCS.out]; rfl); go_simp; all_goals rfl)
    simp only [Act.put, List.setIfInBounds_toArray, List.set_cons_zero, List.set_cons_succ]
    refine wpAnyH_take (i := 8) (oi := ?oi209) (v := ?v209) ?hi209 (by kernel_rfl) (by kernel_rfl) (by kernel_rfl) ?hQ209 (Or.inl ⟨?hw209, ?hy209⟩) (by assumption) ?rest209
    case hi209 => simp only [List.getElem?_toArray, List.getElem?_cons_succ, List.getElem?_cons_zero]; rfl
    case hQ209 => exact fun _ _ _ h => h
    case hw209 => rfl
    case hy209 => (intro W hW; have c0 := hW.c 0 (by rw [HCS.out]; rfl); go_simp; all_goals rfl)
    simp only [Act.put, List.setIfInBounds_toArray, List.set_cons_zero, List.set_cons_succ]
    refine wpAnyH_take (i := 9) (oi := ?oi210) (v := ?v210) ?hi210 (by kernel_rfl) (by kernel_rfl) (by kernel_rfl) ?hQ210 (Or.inr ⟨?hw210, ?hv210⟩) (by assumption) ?rest210
    case hi210 => simp only [List.getElem?_toArray, List.getElem?_cons_succ, List.getElem?_cons_zero]; rfl
    case hQ210 => exact fun _ _ _ h => h
    case hw210 => rfl
    case hv210 => rfl
    simp only [Act.put, List.setIfInBounds_toArray, List.set_cons_zero, List.set_cons_succ]
    refine wpAnyH_take (i := 10) (oi := ?oi211) (v := ?v211) ?hi211 (by kernel_rfl) (by kernel_rfl) (by kernel_rfl) ?hQ211 (Or.inr ⟨?hw211, ?hv211⟩) (by assumption) ?rest211
    case hi211 => simp only [List.getElem?_toArray, List.getElem?_cons_succ, List.getElem?_cons_zero]; rfl
    case hQ211 => exact fun _ _ _ h => h
    case hw211 => rfl
    case hv211 => rfl
    simp only [Act.put, List.setIfInBounds_toArray, List.set_cons_zero, List.set_cons_succ]
    refine wpAnyH_take (i := 11) (oi := ?oi212) (v := ?v212) ?hi212 (by kernel_rfl) (by kernel_rfl) (by kernel_rfl) ?hQ212 (Or.inr ⟨?hw212, ?hv212⟩) (by assumption) ?rest212
    case hi212 => simp only [List.getElem?_toArray, List.getElem?_cons_succ, List.getElem?_cons_zero]; rfl
    case hQ212 => exact fun _ _ _ h => h
    case hw212 => rfl
    case hv212 => rfl
    simp only [Act.put, List.setIfInBounds_toArray, List.set_cons_zero, List.set_cons_succ]
    refine wpAnyH_take (i := 12) (oi := ?oi213) (v := ?v213) ?hi213 (by kernel_rfl) (by kernel_rfl) (by kernel_rfl) ?hQ213 (Or.inr ⟨?hw213, ?hv213⟩) (by assumption) ?rest213
    case hi213 => simp only [List.getElem?_toArray, List.getElem?_cons_succ, List.getElem?_cons_zero]; rfl
    case hQ213 => exact fun _ _ _ h => h
    case hw213 => rfl
    case hv213 => rfl
    simp only [Act.put, List.setIfInBounds_toArray, List.set_cons_zero, List.set_cons_succ]
    refine wpAnyH_take (i := 13) (oi := ?oi214) (v := ?v214) ?hi214 (by kernel_rfl) (by kernel_rfl) (by kernel_rfl) ?hQ214 (Or.inr ⟨?hw214, ?hv214⟩) (by assumption) ?rest214
    case hi214 => simp only [List.getElem?_toArray, List.getElem?_cons_succ, List.getElem?_cons_zero]; rfl
    case hQ214 => exact fun _ _ _ h => h
    case hw214 => rfl
    case hv214 => rfl
    simp only [Act.put, List.setIfInBounds_toArray, List.set_cons_zero, List.set_cons_succ]
    refine wpAnyH_take (i := 14) (oi := ?oi215) (v := ?v215) ?hi215 (by kernel_rfl) (by kernel_rfl) (by kernel_rfl) ?hQ215 (Or.inl ⟨?hw215, ?hy215⟩) (by assumption) ?rest215
    case hi215 => simp only [List.getElem?_toArray, List.getElem?_cons_succ, List.getElem?_cons_zero]; rfl
    case hQ215 => exact fun _ _ _ h => h
    case hw215 => rfl
    case hy215 => (intro W hW; have c0 := hW.c 0 (by rw [HCS.out]; rfl); go_simp; all_goals rfl)
    simp only [Act.put, List.setIfInBounds_toArray, List.set_cons_zero, List.set_cons_succ]
    refine wpAnyH_done (by kernel_rfl) ?_ _
    have HB := Hd.mk hHeld.bel
    clear hHeld
    go_wp2_with fail
    go_ret2
    exact AskPost.bad (fun h => by rw [HR.out] at h; have h1 := h.1; have h2 := h.2.1; simp only at h1 h2; omega) HB.out
  have hka : 1 ≤ k := by omega
  have hkb : k ≤ 8 := by omega
  refine wp_region_held_drew (S := fun W => CS w W g cs) (by kernel_rfl) (H0.out.step (Below.refl _ _).drew) (fun hHeld => ?_)
  refine wpAnyH_take (i := 0) (oi := ?oi301) (v := ?v301) ?hi301 (by kernel_rfl) (by kernel_rfl) (by kernel_rfl) ?hQ301 (Or.inl ⟨?hw301, ?hy301⟩) (by assumption) ?rest301
  case hi301 => simp only [List.getElem?_toArray, List.getElem?_cons_succ, List.getElem?_cons_zero]; rfl
  case hQ301 => exact fun _ _ _ h => h
  case hw301 => rfl
  case hy301 => (intro W hW; have c0 := hW.c 0 (by rw [HCS.out]; rfl); go_simp; all_goals rfl)
  simp only [Act.put, List.setIfInBounds_toArray, List.set_cons_zero, List.set_cons_succ]
  refine wpAnyH_take (i := 1) (oi := ?oi302) (v := ?v302) ?hi302 (by kernel_rfl) (by kernel_rfl) (by kernel_rfl) ?hQ302 (Or.inl ⟨?hw302, ?hy302⟩) (by assumption) ?rest302
  case hi302 => simp only [List.getElem?_toArray, List.getElem?_cons_succ, List.getElem?_cons_zero]; rfl
  case hQ302 => exact fun _ _ _ h => h
  case hw302 => rfl
  case hy302 => (intro W hW; have c0 := hW.c 0 (by rw [HCS.out]; rfl); go_simp; all_goals rfl)
  simp only [Act.put, List.setIfInBounds_toArray, List.set_cons_zero, List.set_cons_succ]
  refine wpAnyH_take (i := 2) (oi := ?oi303) (v := ?v303) ?hi303 (by kernel_rfl) (by kernel_rfl) (by kernel_rfl) ?hQ303 (Or.inl ⟨?hw303, ?hy303⟩) (by assumption) ?rest303
  case hi303 => simp only [List.getElem?_toArray, List.getElem?_cons_succ, List.getElem?_cons_zero]; rfl
  case hQ303 => exact fun _ _ _ h => h
  case hw303 => rfl
  case hy303 => (intro W hW; have c0 := hW.c 0 (by rw [HCS.out]; rfl); go_simp; all_goals rfl)
  simp only [Act.put, List.setIfInBounds_toArray, List.set_cons_zero, List.set_cons_succ]
  refine wpAnyH_take (i := 3) (oi := ?oi304) (v := ?v304) ?hi304 (by kernel_rfl) (by kernel_rfl) (by kernel_rfl) ?hQ304 (Or.inl ⟨?hw304, ?hy304⟩) (by assumption) ?rest304
  case hi304 => simp only [List.getElem?_toArray, List.getElem?_cons_succ, List.getElem?_cons_zero]; rfl
  case hQ304 => exact fun _ _ _ h => h
  case hw304 => rfl
  case hy304 => (intro W hW; have c0 := hW.c 0 (by rw [HCS.out]; rfl); go_simp; all_goals rfl)
  simp only [Act.put, List.setIfInBounds_toArray, List.set_cons_zero, List.set_cons_succ]
  refine wpAnyH_take (i := 4) (oi := ?oi305) (v := ?v305) ?hi305 (by kernel_rfl) (by kernel_rfl) (by kernel_rfl) ?hQ305 (Or.inl ⟨?hw305, ?hy305⟩) (by assumption) ?rest305
  case hi305 => simp only [List.getElem?_toArray, List.getElem?_cons_succ, List.getElem?_cons_zero]; rfl
  case hQ305 => exact fun _ _ _ h => h
  case hw305 => rfl
  case hy305 => (intro W hW; have c0 := hW.c 0 (by rw [HCS.out]; rfl); go_simp; all_goals rfl)
  simp only [Act.put, List.setIfInBounds_toArray, List.set_cons_zero, List.set_cons_succ]
  refine wpAnyH_take (i := 5) (oi := ?oi306) (v := ?v306) ?hi306 (by kernel_rfl) (by kernel_rfl) (by kernel_rfl) ?hQ306 (Or.inl ⟨?hw306, ?hy306⟩) (by assumption) ?rest306
  case hi306 => simp only [List.getElem?_toArray, List.getElem?_cons_succ, List.getElem?_cons_zero]; rfl
  case hQ306 => exact fun _ _ _ h => h
  case hw306 => rfl
  case hy306 => (intro W hW; have c0 := hW.c 0 (by rw [HCS.out]; rfl); go_simp; all_goals rfl)
  simp only [Act.put, List.setIfInBounds_toArray, List.set_cons_zero, List.set_cons_succ]
  refine wpAnyH_take (i := 6) (oi := ?oi307) (v := ?v307) ?hi307 (by kernel_rfl) (by kernel_rfl) (by kernel_rfl) ?hQ307 (Or.inl ⟨?hw307, ?hy307⟩) (by assumption) ?rest307
  case hi307 => simp only [List.getElem?_toArray, List.getElem?_cons_succ, List.getElem?_cons_zero]; rfl
  case hQ307 => exact fun _ _ _ h => h
  case hw307 => rfl
  case hy307 => (intro W hW; have c0 := hW.c 0 (by rw [HCS.out]; rfl); go_simp; all_goals rfl)
  simp only [Act.put, List.setIfInBounds_toArray, List.set_cons_zero, List.set_cons_succ]
  refine wpAnyH_take (i := 7) (oi := ?oi308) (v := ?v308) ?hi308 (by kernel_rfl) (by kernel_rfl) (by kernel_rfl) ?hQ308 (Or.inl ⟨?hw308, ?hy308⟩) (by assumption) ?rest308
  case hi308 => simp only [List.getElem?_toArray, List.getElem?_cons_succ, List.getElem?_cons_zero]; rfl
  case hQ308 => exact fun _ _ _ h => h
  case hw308 => rfl
  case hy308 => (intro W hW; have c0 := hW.c 0 (by rw [HCS.out]; rfl); go_simp; all_goals rfl)
  simp only [Act.put, List.setIfInBounds_toArray, List.set_cons_zero, List.set_cons_succ]
  refine wpAnyH_take (i := 8) (oi := ?oi309) (v := ?v309) ?hi309 (by kernel_rfl) (by kernel_rfl) (by kernel_rfl) ?hQ309 (Or.inl ⟨?hw309, ?hy309⟩) (by assumption) ?rest309
  case hi309 => simp only [List.getElem?_toArray, List.getElem?_cons_succ, List.getElem?_cons_zero]; rfl
  case hQ309 => exact fun _ _ _ h => h
  case hw309 => rfl
  case hy309 => (intro W hW; have c0 := hW.c 0 (by rw [HCS.out]; rfl); go_simp; all_goals rfl)
  simp only [Act.put, List.setIfInBounds_toArray, List.set_cons_zero, List.set_cons_succ]
  refine wpAnyH_take (i := 9) (oi := ?oiR1) (v := .agg #[.int .i64 k, .int .u64 (tag : Int), .string key, .string after, .int .i64 off, .int .i64 num, .int .i64 delim, .slice A n c]) ?hiR1 (by kernel_rfl) (by kernel_rfl) (by kernel_rfl) ?hQR1 ?hyR1 (by assumption) ?restR1
  case hiR1 => simp only [List.getElem?_toArray, List.getElem?_cons_succ, List.getElem?_cons_zero]; rfl
  case hQR1 => exact fun _ _ _ h => h
  case hyR1 => exact yieldsIf_load_mid rfl 28 (.tmp 1) rfl g 0 rfl [.int .i64 k, .int .u64 (tag : Int), .string key, .string after, .int .i64 off, .int .i64 num, .int .i64 delim, .slice A n c] _ (fun W hW => hW.range HCS.out) Try.underlying28 rfl infoRq
  simp only [Act.put, List.setIfInBounds_toArray, List.set_cons_zero, List.set_cons_succ]
  refine wpAnyH_take (i := 10) (oi := ?oiR2) (v := .agg #[.int .i64 k, .int .u64 (tag : Int), .string key, .string after, .int .i64 off, .int .i64 num, .int .i64 delim, .slice A n c]) ?hiR2 (by kernel_rfl) (by kernel_rfl) (by kernel_rfl) ?hQR2 ?hyR2 (by assumption) ?restR2
  case hiR2 => simp only [List.getElem?_toArray, List.getElem?_cons_succ, List.getElem?_cons_zero]; rfl
  case hQR2 => exact fun _ _ _ h => h
  case hyR2 => exact yieldsIf_load_mid rfl 28 (.tmp 1) rfl g 0 rfl [.int .i64 k, .int .u64 (tag : Int), .string key, .string after, .int .i64 off, .int .i64 num, .int .i64 delim, .slice A n c] _ (fun W hW => hW.range HCS.out) Try.underlying28 rfl infoRq
  simp only [Act.put, List.setIfInBounds_toArray, List.set_cons_zero, List.set_cons_succ]
  refine wpAnyH_ready (rs := [11]) (by kernel_rfl) (by simp) ?_
  refine AllReadyH.cons (i := 11) (o := ?o401) ?ho401 (fun Kq hK => ?step401) AllReadyH.nil
  case ho401 => simp only [List.getElem?_toArray, List.getElem?_cons_succ, List.getElem?_cons_zero]; rfl
  go_simp
  (go_at_call 52; refine (only_any _ k tag key after off num delim A n c hka hkb).mono ?_; rintro e wa ⟨key', after', off', num', delim', A', n', c', rfl, o1, o2, o3, o4, o5, o6, hb⟩)
  have HO := Hd.mk (And.intro o1 (And.intro o2 (And.intro o3 (And.intro o4 (And.intro o5 o6)))))
  have hF := hHeld.step hb
  refine hK.out _ _ hF (fun _ => ?_)
  clear hK Kq hHeld hb o1 o2 o3 o4 o5 o6
  have hHeld := hF
  clear hF
  try simp only [Act.put, List.setIfInBounds_toArray, List.set_cons_zero, List.set_cons_succ]
  have hr1 := ((HH.out.1.below hHeld.bel).more hHeld.bel.size)
  have HRO : Hd (onlyP R = ⟨k, tag, key', after', off', num', delim', if cBody k = true then body else []⟩ ∧ Rd wa wa.heap.size A' n' (cb (if cBody k = true then body else []))) := ⟨by rw [HR.out, HO.out.1, HO.out.2.1, HO.out.2.2.1, HO.out.2.2.2.1, HO.out.2.2.2.2.1]; rfl, by rcases HO.out.2.2.2.2.2 with ⟨h1, rfl, rfl, rfl⟩ | ⟨h1, rfl⟩; rw [if_pos h1]; exact hr1; rw [if_neg (by rw [h1]; simp)]; exact Rd.nil⟩
  have HR1 := Hd.mk hr1
  clear hr1
  refine wpAnyH_ready (rs := [12]) (by kernel_rfl) (by simp) ?_
  refine AllReadyH.cons (i := 12) (o := ?o402) ?ho402 (fun Kq hK => ?step402) AllReadyH.nil
  case ho402 => simp only [List.getElem?_toArray, List.getElem?_cons_succ, List.getElem?_cons_zero]; rfl
  go_simp
  (go_at_call 51; refine (sameRq_any wa wa.heap.size R (onlyP R) k k tag tag key key' after after' off off' num num' delim delim' body (if cBody k = true then body else []) HR.out HRO.out.1 A A' n n' c c' HR1.out HRO.out.2 (Nat.le_refl _) (by have := HH.out.2.1.b; rw [HR.out] at this; exact this) (by have := HH.out.2.1.b; rw [HR.out] at this; intro x hx; split at hx; exact this x hx; simp at hx)).mono ?_; rintro e wb ⟨rfl, hb⟩)
  have hF := hHeld.step hb
  refine hK.out _ _ hF (fun _ => ?_)
  clear hK Kq hHeld hb HR1 HRO HO
  have hHeld := hF
  clear hF
  try simp only [Act.put, List.setIfInBounds_toArray, List.set_cons_zero, List.set_cons_succ]
  refine wpAnyH_take (i := 13) (oi := ?oi403) (v := ?v403) ?hi403 (by kernel_rfl) (by kernel_rfl) (by kernel_rfl) ?hQ403 (Or.inl ⟨?hw403, ?hy403⟩) (by assumption) ?rest403
  case hi403 => simp only [List.getElem?_toArray, List.getElem?_cons_succ, List.getElem?_cons_zero]; rfl
  case hQ403 => exact fun _ _ _ h => h
  case hw403 => rfl
  case hy403 => (intro W hW; have c0 := hW.c 0 (by rw [HCS.out]; rfl); go_simp; all_goals rfl)
  simp only [Act.put, List.setIfInBounds_toArray, List.set_cons_zero, List.set_cons_succ]
  refine wpAnyH_take (i := 14) (oi := ?oi404) (v := ?v404) ?hi404 (by kernel_rfl) (by kernel_rfl) (by kernel_rfl) ?hQ404 (Or.inl ⟨?hw404, ?hy404⟩) (by assumption) ?rest404
  case hi404 => simp only [List.getElem?_toArray, List.getElem?_cons_succ, List.getElem?_cons_zero]; rfl
  case hQ404 => exact fun _ _ _ h => h
  case hw404 => rfl
  case hy404 => (intro W hW; have c0 := hW.c 0 (by rw [HCS.out]; rfl); go_simp; all_goals rfl)
  simp only [Act.put, List.setIfInBounds_toArray, List.set_cons_zero, List.set_cons_succ]
  refine wpAnyH_done (by kernel_rfl) ?_ _
  have HC := Hd.mk hHeld
  clear hHeld
  obtain ⟨sb2, hsb⟩ : ∃ b, sameB R (onlyP R) = b := ⟨_, rfl⟩
  have HSB := Hd.mk hsb
  rw [hsb]
  clear hsb
  rcases hB : sb2 with _ | _
  · subst hB
    have hok : ¬ rqOk R := fun h => by
      have := HSB.out
      unfold sameB at this
      rw [@decide_eq_false_iff_not _ (Classical.propDecidable _)] at this
      exact this ((rqOk_iff R).1 h).2
    have HOK := Hd.mk hok
    clear hok
    go_wp2_with fail
    go_ret2
    exact AskPost.bad HOK.out HC.out.bel
  · subst hB
    have hok : rqOk R := by
      have := HSB.out
      unfold sameB at this
      rw [@decide_eq_true_iff _ (Classical.propDecidable _)] at this
      exact (rqOk_iff R).2 ⟨by rw [HR.out]; exact ⟨hka, hkb⟩, this⟩
    have HOK := Hd.mk hok
    clear hok
    have c2 : wb.cell? ⟨g, 2, none⟩ = some (.string key) := HC.out.c 2 (by rw [HCS.out]; rfl)
    have c3 : wb.cell? ⟨g, 3, none⟩ = some (.string after) := HC.out.c 3 (by rw [HCS.out]; rfl)
    have c7 : wb.cell? ⟨g, 7, none⟩ = some (.slice A n c) := HC.out.c 7 (by rw [HCS.out]; rfl)
    by_cases l1 : key.size ≤ 1024
    · by_cases l2 : after.size ≤ 1024
      · by_cases l3 : n ≤ 1048576
        · have HF : Hd (rqFit R) := ⟨by rw [HR.out]; exact ⟨l1, l2, by rw [HH.out.2.2.2]; exact l3⟩⟩
          have m1 : ¬ (1024 : Int) < (key.size : Int) := by omega
          have m2 : ¬ (1024 : Int) < (after.size : Int) := by omega
          have m3 : ¬ (1048576 : Int) < (n : Int) := by omega
          go_wp2_with (refine at_load ?_; refine wpList_load_row rfl 28 (.tmp 1) rfl g rfl 28 #[.int .i64 k, .int .u64 (tag : Int), .string key, .string after, .int .i64 off, .int .i64 num, .int .i64 delim, .slice A n c] (0, 0) _ (by have := HC.out.rq; rw [HCS.out] at this; exact this) Try.underlying28 rfl infoRq ?_)
          refine (content_anyK wb R k tag key after off num delim body HR.out A n c ((HH.out.1.below HC.out.bel).more HC.out.bel.size) HH.out.2.1 HF.out hka hkb).mono ?_
          rintro e wd ⟨v, rfl, ho, hb⟩
          obtain ⟨Av, cv, hv, hvc, _⟩ := own_form ho
          subst hv
          have HO := Hd.mk (And.intro ho (And.intro hb hvc))
          clear ho hb hvc
          obtain ⟨lv, hlv⟩ : ∃ lv, (rqC R).length = lv := ⟨_, rfl⟩
          have hl2 : lv ≤ 2097152 := by rw [← hlv]; exact rqC_len HF.out
          rw [hlv] at HO ⊢
          clear hlv
          go_wp2_with fail
          refine (refForm_any wd Av lv cv (rqC R) (Rd.of_own HO.out.1) HO.out.2.2 (rqC_lt HF.out HH.out.2.1) (by omega)).mono ?_
          rintro e wf ⟨vf, rfl, hO⟩
          have HOF := Hd.mk hO
          clear hO
          go_wp2_with fail
          go_ret2
          exact AskPost.good HOK.out HF.out rfl (HC.out.bel.trans (HO.out.2.1.mono HC.out.bel.size)) HOF.out
        · have m1 : ¬ (1024 : Int) < (key.size : Int) := by omega
          have m2 : ¬ (1024 : Int) < (after.size : Int) := by omega
          have m3 : (1048576 : Int) < (n : Int) := by omega
          go_wp2_with fail
          go_ret2
          exact AskPost.big HOK.out (fun h => by rw [HR.out] at h; have := h.2.2; rw [HH.out.2.2.2] at this; omega) HC.out.bel
      · have m1 : ¬ (1024 : Int) < (key.size : Int) := by omega
        have m2 : (1024 : Int) < (after.size : Int) := by omega
        go_wp2_with fail
        go_ret2
        exact AskPost.big HOK.out (fun h => by rw [HR.out] at h; exact l2 h.2.1) HC.out.bel
    · have m1 : (1024 : Int) < (key.size : Int) := by omega
      go_wp2_with fail
      go_ret2
      exact AskPost.big HOK.out (fun h => by rw [HR.out] at h; exact l1 h.1) HC.out.bel
theorem refAsk_any (w : World) (R : Rq) (A : Option Addr) (n c : Nat) (hr : Rd w w.heap.size A n (cb R.body)) (hb : RqB R) (hc : n ≤ c) : Calls Try.prog 18 #[rqV R A n c] w (AskPost R w) :=
  refAsk_any0 w R R.kind R.tag R.key R.after R.off R.num R.delim R.body rfl A n c hr hb hc
end Go.Proofs.Ytbcmjjcbjojakaa
