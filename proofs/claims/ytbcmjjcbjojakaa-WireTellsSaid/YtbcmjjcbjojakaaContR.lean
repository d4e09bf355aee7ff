/- Contract of the reference's content. (tools/contgen.py prints it.) -/
import Derived.Test.YtbcmjjcbjojakaaAskP
import Derived.Test.YtbcmjjcbjojakaaHeldBy
import Derived.Deep.Cut
namespace Go.Proofs.Ytbcmjjcbjojakaa
open Go.RowKit
set_option linter.unusedVariables false
set_option linter.unusedSimpArgs false
/-- Where content stands. -/
structure CS (w w' : World) (g : Nat) (xs : Array Value) : Prop where
  rq : w'.heap[g]? = some (.cells xs 28)
  bel : Below w.heap.size w w'
structure CB (w w' : World) (g : Nat) (xs : Array Value) (v : Value) (L : List Nat) : Prop where
  sta : CS w w' g xs
  rd : ∃ A c, v = .slice A L.length c ∧ L.length ≤ c ∧ Rd w' w'.heap.size A L.length (cb L)
  own : w'.ownsRow w.heap.size 5 1 v L.length (cb L)
section
variable {w w1 w2 : World} {g : Nat} {xs : Array Value} {v v' : Value} {L X : List Nat}
theorem CS.step (h : CS w w1 g xs) (b : Below w1.heap.size w1 w2) : CS w w2 g xs :=
  ⟨by rw [b.block g (Array.getElem?_eq_some_iff.1 h.rq).1]; exact h.rq, h.bel.trans (b.mono h.bel.size)⟩
theorem CS.c (h : CS w w1 g xs) (i : Nat) {v : Value} (hv : xs[i]? = some v) : w1.cell? ⟨g, i, none⟩ = some v := by rw [cell_of_row w1 g i _ _ (0, 0) h.rq]; exact hv
theorem CB.put (h : CS w w1 g xs) {m : Nat} (hm : m = L.length) (hO : Onto w1 w2 w1.heap.size 5 (.slice none 0 0) v' m (cb L)) : CB w w2 g xs v' L := by
  subst hm
  obtain ⟨A, c, e, hc, _⟩ := own_form hO.own
  refine ⟨h.step (hO.below (fun k h => by cases h) (Nat.le_refl _)), ⟨A, c, e, hc, ?_⟩, own_base hO.own h.bel.size⟩
  subst e
  exact Rd.of_own hO.own
theorem rputStr_any (W : World) (t : ByteArray) (G : Nat) (A : Option Addr) (n c : Nat) (bs : List Nat) (h : CB w W g xs (.slice A n c) bs) (hn : n ≤ 2097152) (ht : t.size ≤ 2097152) :
    Calls Try.prog 84 #[.slice A n c, .slice (some ⟨W.heap.size, 0, none⟩) t.size G] (W.alloc (.cells (bytesRow t G) 5 ((bytesRow t G).size, (bytesRow t G).size + 1))).drew fun e w' => ∃ v', e = .returned v' ∧ CB w w' g xs v' (bs ++ us t) := by
  obtain ⟨A', c', e, hc, hr⟩ := h.rd
  injection e with e1 e2 e3
  subst e1 e2 e3
  have hA := h.sta.step (((Below.refl _ W).alloc (Nat.le_refl _) (.cells (bytesRow t G) 5 ((bytesRow t G).size, (bytesRow t G).size + 1))).drew)
  refine (refPutBytes_any (W.alloc (.cells (bytesRow t G) 5 ((bytesRow t G).size, (bytesRow t G).size + 1))).drew A (some ⟨W.heap.size, 0, none⟩) bs.length c t.size G (W.heap.size + 1) bs (sb t)
    (((hr.alloc (Nat.le_refl _) (.cells (bytesRow t G) 5 ((bytesRow t G).size, (bytesRow t G).size + 1))).more (Nat.le_succ _)).keep (fun _ _ => rfl)) ((rd_bytes (w := W) (e := 5) (cap := G) t ((bytesRow t G).size, (bytesRow t G).size + 1)).keep (fun _ _ => rfl)) (by omega) (by show W.heap.size + 1 ≤ (W.alloc _).heap.size; simp)).mono ?_
  rintro e w2 ⟨v2, rfl, hO2⟩
  refine ⟨v2, rfl, CB.put hA ?_ (by rw [List.append_assoc] at hO2; exact hO2)⟩
  simp only [List.length_append, us, sb_len]; omega
theorem rputLst_any (W : World) (A A2 : Option Addr) (n c m c2 : Nat) (bs ps : List Nat) (h : CB w W g xs (.slice A n c) bs) (hp : Rd W W.heap.size A2 m (cb ps)) (hn : n ≤ 2097152) (hm : m ≤ 2097152) :
    Calls Try.prog 84 #[.slice A n c, .slice A2 m c2] W fun e w' => ∃ v', e = .returned v' ∧ CB w w' g xs v' (bs ++ ub ps) := by
  have hl : ps.length = m := by have := hp.1; rwa [cb_length] at this
  subst hl
  obtain ⟨A', c', e, hc, hr⟩ := h.rd
  injection e with e1 e2 e3
  subst e1 e2 e3
  refine (refPutBytes_any W A A2 bs.length c ps.length c2 W.heap.size bs ps hr hp (by omega) (Nat.le_refl _)).mono ?_
  rintro e w2 ⟨v2, rfl, hO2⟩
  refine ⟨v2, rfl, CB.put h.sta ?_ (by rw [List.append_assoc] at hO2; exact hO2)⟩
  simp only [List.length_append, ub]; omega
theorem rputNum_any (W : World) (A : Option Addr) (n c : Nat) (v : Int) (bs : List Nat) (h : CB w W g xs (.slice A n c) bs) (h1 : -9223372036854775808 ≤ v) (h2 : v ≤ 9223372036854775807) (hn : n ≤ 2097152) :
    Calls Try.prog 85 #[.slice A n c, .int .i64 v] W fun e w' => ∃ v', e = .returned v' ∧ CB w w' g xs v' (bs ++ uz v) := by
  obtain ⟨A', c', e, hc, hr⟩ := h.rd
  injection e with e1 e2 e3
  subst e1 e2 e3
  refine (refNum_any W A bs.length c W.heap.size v bs hr h1 h2 (by omega) (Nat.le_refl _)).mono ?_
  rintro e w2 ⟨v2, rfl, hO2⟩
  exact ⟨v2, rfl, CB.put h.sta (by rw [List.length_append]) hO2⟩
theorem rputFix_any (W : World) (A : Option Addr) (n c v k : Nat) (bs : List Nat) (h : CB w W g xs (.slice A n c) bs) (hv : v < 18446744073709551616) (hk : k ≤ 8) (hn : n ≤ 2097152) :
    Calls Try.prog 81 #[.slice A n c, .int .u64 (v : Int), .int .i64 (k : Int)] W fun e w' => ∃ v', e = .returned v' ∧ CB w w' g xs v' (bs ++ fx k v) := by
  obtain ⟨A', c', e, hc, hr⟩ := h.rd
  injection e with e1 e2 e3
  subst e1 e2 e3
  refine (refFixed_any W A bs.length c W.heap.size v k bs hr hv (by omega) hk (Nat.le_refl _)).mono ?_
  rintro e w2 ⟨v2, rfl, hO2⟩
  exact ⟨v2, rfl, CB.put h.sta (by rw [List.length_append, fx_len]) hO2⟩
end
set_option maxRecDepth 20000 in
set_option maxHeartbeats 4000000 in
theorem content_any0 (w : World) (R : Rq) (kn : Nat) (tag : Nat) (key after : ByteArray) (off num delim : Int) (body : List Nat) (hR : R = ⟨(kn : Int), tag, key, after, off, num, delim, body⟩) (A : Option Addr) (n c : Nat) (hr : Rd w w.heap.size A n (cb body)) (hb : RqB R) (hF : rqFit R) (hk1 : 1 ≤ kn) (hk8 : kn ≤ 8) :
    Calls Try.prog 54 #[.agg #[.int .i64 (kn : Int), .int .u64 (tag : Int), .string key, .string after, .int .i64 off, .int .i64 num, .int .i64 delim, .slice A n c]] w fun e w' => ∃ v, e = .returned v ∧ w'.ownsRow w.heap.size 5 1 v (rqC R).length (cb (rqC R)) ∧ Below w.heap.size w w' := by
  have hbl : body.length = n := by have := hr.1; rwa [cb_length] at this
  have HH : Hd (Rd w w.heap.size A n (cb body) ∧ RqB R ∧ body.length = n ∧ rqFit R) := ⟨hr, hb, hbl, hF⟩
  have HR := Hd.mk hR
  have l1 : key.size ≤ 1024 := by have := hF.1; rw [hR] at this; exact this
  have l2 : after.size ≤ 1024 := by have := hF.2.1; rw [hR] at this; exact this
  have l3 : n ≤ 1048576 := by have := hF.2.2; rw [hR] at this; rw [← hbl]; exact this
  have HT : Hd (tag < 18446744073709551616) := ⟨by have := hb.tag; rw [hR] at this; exact this⟩
  have HQ : Hd (-9223372036854775808 ≤ off ∧ off ≤ 9223372036854775807 ∧ -9223372036854775808 ≤ num ∧ num ≤ 9223372036854775807 ∧ -9223372036854775808 ≤ delim ∧ delim ≤ 9223372036854775807) := ⟨by have h := hb; rw [hR] at h; exact ⟨h.o1, h.o2, h.n1, h.n2, h.d1, h.d2⟩⟩
  obtain ⟨cs, hcs⟩ : ∃ cs : Array Value, cs = #[.int .i64 (kn : Int), .int .u64 (tag : Int), .string key, .string after, .int .i64 off, .int .i64 num, .int .i64 delim, .slice A n c] := ⟨_, rfl⟩
  obtain ⟨g, hg⟩ : ∃ g, w.heap.size = g := ⟨_, rfl⟩
  have H0 : Hd (CS w (w.alloc (.cells #[.int .i64 (kn : Int), .int .u64 (tag : Int), .string key, .string after, .int .i64 off, .int .i64 num, .int .i64 delim, .slice A n c] 28)) g cs) := ⟨by rw [← hg, hcs]; exact heap_alloc_new w _, (Below.refl _ w).alloc (Nat.le_refl _) _⟩
  have HCS := Hd.mk hcs
  have ek : (kn : Int) % 18446744073709551616 = (kn : Int) := by omega
  have hki1 : (1 : Int) ≤ (kn : Int) := by omega
  have hki8 : (kn : Int) ≤ 8 := by omega
  have hzero : (0 : Int) ≤ (kn : Int) := by omega
  have HG := Hd.mk hg
  clear hr hb hbl hF hR hcs hg
  go_enter Try.func54, Try.ntmps54
  go_upto_region 1 with fail
  obtain ⟨w0, hw0⟩ : ∃ w0, w.alloc (.cells #[.int .i64 (kn : Int), .int .u64 (tag : Int), .string key, .string after, .int .i64 off, .int .i64 num, .int .i64 delim, .slice A n c] 28) = w0 := ⟨_, rfl⟩
  rw [hw0] at H0 ⊢
  rw [HG.out]
  have c0 : w0.cell? ⟨g, 0, none⟩ = some (.int .i64 (kn : Int)) := H0.out.c 0 (by rw [HCS.out]; rfl)
  clear hw0
  go_wp2_with fail
  refine (refFixed_any w0 none 0 0 w0.heap.size kn 1 [] Rd.nil (by omega) (by omega) (by omega) (Nat.le_refl _)).mono ?_
  rintro e w1 ⟨v1, rfl, hO⟩
  have H1 : Hd (CB w w1 g cs v1 (fx 1 kn)) := ⟨CB.put (m := 0 + 1) (L := fx 1 kn) H0.out (by simp [fx_len]) (by rw [List.nil_append] at hO; exact hO)⟩
  clear hO c0 ek
  obtain ⟨A1, a1, e1, _, _⟩ := H1.out.rd
  rw [fx_len] at e1
  subst e1
  have c0 : w1.cell? ⟨g, 0, none⟩ = some (.int .i64 (kn : Int)) := H1.out.sta.c 0 (by rw [HCS.out]; rfl)
  have c1 : w1.cell? ⟨g, 1, none⟩ = some (.int .u64 (tag : Int)) := H1.out.sta.c 1 (by rw [HCS.out]; rfl)
  go_wp2_with fail
  refine (rputFix_any w1 A1 1 a1 tag 8 (fx 1 kn) H1.out HT.out (by omega) (by omega)).mono ?_
  rintro e w2 ⟨v2, rfl, hB⟩
  have H2 := Hd.mk hB
  clear hB c0 c1 H1
  obtain ⟨L0, hL0⟩ : ∃ L, fx 1 kn ++ fx 8 tag = L := ⟨_, rfl⟩
  have HL0 : Hd (fx 1 kn ++ fx 8 tag = L0 ∧ L0.length = 9) := ⟨hL0, by rw [← hL0]; simp [fx_len]⟩
  rw [hL0] at H2
  clear hL0
  by_cases k1 : kn = 1
  · subst k1
    obtain ⟨Aa, ca, ea, _, _⟩ := H2.out.rd
    obtain ⟨lv, hlv⟩ : ∃ lv, (L0).length = lv := ⟨_, rfl⟩
    have hl2 : lv ≤ 2097152 := by rw [← hlv]; have := HL0.out.2; have u1 := uv_len key.size; have u2 := uv_len after.size; have u3 := uv_len body.length; have u4 := HH.out.2.2.1; have u5 := uz_len off; have u6 := uz_len delim; (try simp only [List.length_append, us, ub, sb_len]); omega
    rw [hlv] at ea
    subst ea
    clear hlv
    have c0 : w2.cell? ⟨g, 0, none⟩ = some (.int .i64 1) := H2.out.sta.c 0 (by rw [HCS.out]; rfl)
    have c2 : w2.cell? ⟨g, 2, none⟩ = some (.string key) := H2.out.sta.c 2 (by rw [HCS.out]; rfl)
    have hcv := fun w => run_bytes_of_string (P := Try.prog) w 9 26 5 key infoStr Try.underlying26 Try.underlying5
    generalize hcap : grownCap = GC at hcv
    go_wp2_with fail
    refine (rputStr_any w2 key _ Aa lv ca (L0) H2.out hl2 (by omega)).mono ?_
    rintro e w3 ⟨v3, rfl, hB⟩
    have H3 := Hd.mk hB
    clear hB c0 c2 H2
    clear hcv hcap
    obtain ⟨Aa, ca, ea, _, _⟩ := H3.out.rd
    obtain ⟨lv, hlv⟩ : ∃ lv, (L0 ++ us key).length = lv := ⟨_, rfl⟩
    have hl2 : lv ≤ 2097152 := by rw [← hlv]; have := HL0.out.2; have u1 := uv_len key.size; have u2 := uv_len after.size; have u3 := uv_len body.length; have u4 := HH.out.2.2.1; have u5 := uz_len off; have u6 := uz_len delim; (try simp only [List.length_append, us, ub, sb_len]); omega
    rw [hlv] at ea
    subst ea
    clear hlv
    have c0 : w3.cell? ⟨g, 0, none⟩ = some (.int .i64 1) := H3.out.sta.c 0 (by rw [HCS.out]; rfl)
    have c7 : w3.cell? ⟨g, 7, none⟩ = some (.slice A n c) := H3.out.sta.c 7 (by rw [HCS.out]; rfl)
    go_wp2_with fail
    refine (rputLst_any w3 Aa A lv ca n c (L0 ++ us key) body H3.out ((HH.out.1.below H3.out.sta.bel).more H3.out.sta.bel.size) hl2 (by omega)).mono ?_
    rintro e w4 ⟨v4, rfl, hB⟩
    have H4 := Hd.mk hB
    clear hB c0 c7 H3
    have c0 : w4.cell? ⟨g, 0, none⟩ = some (.int .i64 1) := H4.out.sta.c 0 (by rw [HCS.out]; rfl)
    go_wp2_with fail
    go_ret
    have hz : rqC R = L0 ++ us key ++ ub body := by rw [HR.out, ← HL0.out.1]; simp [rqC, cKey, cBody, cAfter, cOff, cDelim, cNum]
    rw [hz]
    exact ⟨_, rfl, H4.out.own, H4.out.sta.bel⟩
  by_cases k3 : kn = 3
  · subst k3
    obtain ⟨Aa, ca, ea, _, _⟩ := H2.out.rd
    obtain ⟨lv, hlv⟩ : ∃ lv, (L0).length = lv := ⟨_, rfl⟩
    have hl2 : lv ≤ 2097152 := by rw [← hlv]; have := HL0.out.2; have u1 := uv_len key.size; have u2 := uv_len after.size; have u3 := uv_len body.length; have u4 := HH.out.2.2.1; have u5 := uz_len off; have u6 := uz_len delim; (try simp only [List.length_append, us, ub, sb_len]); omega
    rw [hlv] at ea
    subst ea
    clear hlv
    have c0 : w2.cell? ⟨g, 0, none⟩ = some (.int .i64 3) := H2.out.sta.c 0 (by rw [HCS.out]; rfl)
    have c2 : w2.cell? ⟨g, 2, none⟩ = some (.string key) := H2.out.sta.c 2 (by rw [HCS.out]; rfl)
    have hcv := fun w => run_bytes_of_string (P := Try.prog) w 9 26 5 key infoStr Try.underlying26 Try.underlying5
    generalize hcap : grownCap = GC at hcv
    go_wp2_with fail
    refine (rputStr_any w2 key _ Aa lv ca (L0) H2.out hl2 (by omega)).mono ?_
    rintro e w3 ⟨v3, rfl, hB⟩
    have H3 := Hd.mk hB
    clear hB c0 c2 H2
    clear hcv hcap
    obtain ⟨Aa, ca, ea, _, _⟩ := H3.out.rd
    obtain ⟨lv, hlv⟩ : ∃ lv, (L0 ++ us key).length = lv := ⟨_, rfl⟩
    have hl2 : lv ≤ 2097152 := by rw [← hlv]; have := HL0.out.2; have u1 := uv_len key.size; have u2 := uv_len after.size; have u3 := uv_len body.length; have u4 := HH.out.2.2.1; have u5 := uz_len off; have u6 := uz_len delim; (try simp only [List.length_append, us, ub, sb_len]); omega
    rw [hlv] at ea
    subst ea
    clear hlv
    have c0 : w3.cell? ⟨g, 0, none⟩ = some (.int .i64 3) := H3.out.sta.c 0 (by rw [HCS.out]; rfl)
    go_upto_region 8 with fail
    refine wp_region_held_drew (S := fun W => CS w W g cs) (by kernel_rfl) (H3.out.sta.step (Below.refl _ _).drew) (fun hHeld => ?_)
    have HD : Hd (CB w w3.drew g cs (.slice Aa lv ca) (L0 ++ us key)) := ⟨⟨hHeld, let ⟨A', c', e, hc, hr⟩ := H3.out.rd; ⟨A', c', e, hc, hr.keep (fun _ _ => rfl)⟩, H3.out.own⟩⟩
    refine wpAnyH_take (i := 0) (oi := ?oi101) (v := ?v101) ?hi101 (by kernel_rfl) (by kernel_rfl) (by kernel_rfl) ?hQ101 (Or.inl ⟨?hw101, ?hy101⟩) (by assumption) ?rest101
    case hi101 => simp only [List.getElem?_toArray, List.getElem?_cons_succ, List.getElem?_cons_zero]; rfl
    case hQ101 => exact fun _ _ _ h => h
    case hw101 => rfl
    case hy101 => (intro W hW; have c4 := hW.c 4 (by rw [HCS.out]; rfl); have c5 := hW.c 5 (by rw [HCS.out]; rfl); go_simp; all_goals rfl)
    simp only [Act.put, List.setIfInBounds_toArray, List.set_cons_zero, List.set_cons_succ]
    refine wpAnyH_take (i := 1) (oi := ?oi102) (v := ?v102) ?hi102 (by kernel_rfl) (by kernel_rfl) (by kernel_rfl) ?hQ102 (Or.inl ⟨?hw102, ?hy102⟩) (by assumption) ?rest102
    case hi102 => simp only [List.getElem?_toArray, List.getElem?_cons_succ, List.getElem?_cons_zero]; rfl
    case hQ102 => exact fun _ _ _ h => h
    case hw102 => rfl
    case hy102 => (intro W hW; have c4 := hW.c 4 (by rw [HCS.out]; rfl); have c5 := hW.c 5 (by rw [HCS.out]; rfl); go_simp; all_goals rfl)
    simp only [Act.put, List.setIfInBounds_toArray, List.set_cons_zero, List.set_cons_succ]
    refine wpAnyH_take (i := 2) (oi := ?oi103) (v := ?v103) ?hi103 (by kernel_rfl) (by kernel_rfl) (by kernel_rfl) ?hQ103 (Or.inl ⟨?hw103, ?hy103⟩) (by assumption) ?rest103
    case hi103 => simp only [List.getElem?_toArray, List.getElem?_cons_succ, List.getElem?_cons_zero]; rfl
    case hQ103 => exact fun _ _ _ h => h
    case hw103 => rfl
    case hy103 => (intro W hW; have c4 := hW.c 4 (by rw [HCS.out]; rfl); have c5 := hW.c 5 (by rw [HCS.out]; rfl); go_simp; all_goals rfl)
    simp only [Act.put, List.setIfInBounds_toArray, List.set_cons_zero, List.set_cons_succ]
    refine wpAnyH_take (i := 4) (oi := ?oi104) (v := ?v104) ?hi104 (by kernel_rfl) (by kernel_rfl) (by kernel_rfl) ?hQ104 (Or.inl ⟨?hw104, ?hy104⟩) (by assumption) ?rest104
    case hi104 => simp only [List.getElem?_toArray, List.getElem?_cons_succ, List.getElem?_cons_zero]; rfl
    case hQ104 => exact fun _ _ _ h => h
    case hw104 => rfl
    case hy104 => (intro W hW; have c4 := hW.c 4 (by rw [HCS.out]; rfl); have c5 := hW.c 5 (by rw [HCS.out]; rfl); go_simp; all_goals rfl)
    simp only [Act.put, List.setIfInBounds_toArray, List.set_cons_zero, List.set_cons_succ]
    refine wpAnyH_take (i := 5) (oi := ?oi105) (v := ?v105) ?hi105 (by kernel_rfl) (by kernel_rfl) (by kernel_rfl) ?hQ105 (Or.inl ⟨?hw105, ?hy105⟩) (by assumption) ?rest105
    case hi105 => simp only [List.getElem?_toArray, List.getElem?_cons_succ, List.getElem?_cons_zero]; rfl
    case hQ105 => exact fun _ _ _ h => h
    case hw105 => rfl
    case hy105 => (intro W hW; have c4 := hW.c 4 (by rw [HCS.out]; rfl); have c5 := hW.c 5 (by rw [HCS.out]; rfl); go_simp; all_goals rfl)
    simp only [Act.put, List.setIfInBounds_toArray, List.set_cons_zero, List.set_cons_succ]
    refine wpAnyH_ready (rs := [3]) (by kernel_rfl) (by simp) ?_
    refine AllReadyH.cons (i := 3) (o := ?o106) ?ho106 (fun Kq hK => ?step106) AllReadyH.nil
    case ho106 => simp only [List.getElem?_toArray, List.getElem?_cons_succ, List.getElem?_cons_zero]; rfl
    go_simp
    (go_at_call 85; refine (rputNum_any _ Aa lv ca off (L0 ++ us key) HD.out HQ.out.1 HQ.out.2.1 hl2).mono ?_; rintro e wa ⟨va, rfl, hB⟩)
    have HA := Hd.mk hB
    have hF := hB.sta
    refine hK.out _ _ hF (fun _ => ?_)
    clear hK Kq hHeld hB
    have hHeld := hF
    clear hF
    try simp only [Act.put, List.setIfInBounds_toArray, List.set_cons_zero, List.set_cons_succ]
    obtain ⟨Ab, cb', eb, _, _⟩ := HA.out.rd
    obtain ⟨lw, hlw⟩ : ∃ lw, (L0 ++ us key ++ uz off).length = lw := ⟨_, rfl⟩
    have hl3 : lw ≤ 2097152 := by rw [← hlw]; have := HL0.out.2; have u1 := uv_len key.size; have u2 := uv_len after.size; have u5 := uz_len off; have u6 := uz_len delim; simp only [List.length_append, us, ub, sb_len]; omega
    rw [hlw] at eb
    subst eb
    clear hlw
    refine wpAnyH_ready (rs := [6]) (by kernel_rfl) (by simp) ?_
    refine AllReadyH.cons (i := 6) (o := ?o107) ?ho107 (fun Kq hK => ?step107) AllReadyH.nil
    case ho107 => simp only [List.getElem?_toArray, List.getElem?_cons_succ, List.getElem?_cons_zero]; rfl
    go_simp
    (go_at_call 85; refine (rputNum_any wa Ab lw cb' num (L0 ++ us key ++ uz off) HA.out HQ.out.2.2.1 HQ.out.2.2.2.1 hl3).mono ?_; rintro e wb ⟨vb, rfl, hB⟩)
    have HB := Hd.mk hB
    have hF := hB.sta
    refine hK.out _ _ hF (fun _ => ?_)
    clear hK Kq hHeld hB
    have hHeld := hF
    clear hF
    try simp only [Act.put, List.setIfInBounds_toArray, List.set_cons_zero, List.set_cons_succ]
    refine wpAnyH_take (i := 7) (oi := ?oi108) (v := ?v108) ?hi108 (by kernel_rfl) (by kernel_rfl) (by kernel_rfl) ?hQ108 (Or.inl ⟨?hw108, ?hy108⟩) (by assumption) ?rest108
    case hi108 => simp only [List.getElem?_toArray, List.getElem?_cons_succ, List.getElem?_cons_zero]; rfl
    case hQ108 => exact fun _ _ _ h => h
    case hw108 => rfl
    case hy108 => (intro W hW; have c4 := hW.c 4 (by rw [HCS.out]; rfl); have c5 := hW.c 5 (by rw [HCS.out]; rfl); go_simp; all_goals rfl)
    simp only [Act.put, List.setIfInBounds_toArray, List.set_cons_zero, List.set_cons_succ]
    refine wpAnyH_done (by kernel_rfl) ?_ _
    clear hHeld HA HD H3 c0
    have c0 : wb.cell? ⟨g, 0, none⟩ = some (.int .i64 3) := HB.out.sta.c 0 (by rw [HCS.out]; rfl)
    go_wp2_with fail
    go_ret
    have hz : rqC R = L0 ++ us key ++ uz off ++ uz num := by rw [HR.out, ← HL0.out.1]; simp [rqC, cKey, cBody, cAfter, cOff, cDelim, cNum]
    rw [hz]
    exact ⟨_, rfl, HB.out.own, HB.out.sta.bel⟩
  by_cases k7 : kn = 7
  · subst k7
    obtain ⟨Aa, ca, ea, _, _⟩ := H2.out.rd
    obtain ⟨lv, hlv⟩ : ∃ lv, (L0).length = lv := ⟨_, rfl⟩
    have hl2 : lv ≤ 2097152 := by rw [← hlv]; have := HL0.out.2; have u1 := uv_len key.size; have u2 := uv_len after.size; have u3 := uv_len body.length; have u4 := HH.out.2.2.1; have u5 := uz_len off; have u6 := uz_len delim; (try simp only [List.length_append, us, ub, sb_len]); omega
    rw [hlv] at ea
    subst ea
    clear hlv
    have c0 : w2.cell? ⟨g, 0, none⟩ = some (.int .i64 7) := H2.out.sta.c 0 (by rw [HCS.out]; rfl)
    have c2 : w2.cell? ⟨g, 2, none⟩ = some (.string key) := H2.out.sta.c 2 (by rw [HCS.out]; rfl)
    have hcv := fun w => run_bytes_of_string (P := Try.prog) w 9 26 5 key infoStr Try.underlying26 Try.underlying5
    generalize hcap : grownCap = GC at hcv
    go_wp2_with fail
    refine (rputStr_any w2 key _ Aa lv ca (L0) H2.out hl2 (by omega)).mono ?_
    rintro e w3 ⟨v3, rfl, hB⟩
    have H3 := Hd.mk hB
    clear hB c0 c2 H2
    clear hcv hcap
    obtain ⟨Aa, ca, ea, _, _⟩ := H3.out.rd
    obtain ⟨lv, hlv⟩ : ∃ lv, (L0 ++ us key).length = lv := ⟨_, rfl⟩
    have hl2 : lv ≤ 2097152 := by rw [← hlv]; have := HL0.out.2; have u1 := uv_len key.size; have u2 := uv_len after.size; have u3 := uv_len body.length; have u4 := HH.out.2.2.1; have u5 := uz_len off; have u6 := uz_len delim; (try simp only [List.length_append, us, ub, sb_len]); omega
    rw [hlv] at ea
    subst ea
    clear hlv
    have c0 : w3.cell? ⟨g, 0, none⟩ = some (.int .i64 7) := H3.out.sta.c 0 (by rw [HCS.out]; rfl)
    have c3 : w3.cell? ⟨g, 3, none⟩ = some (.string after) := H3.out.sta.c 3 (by rw [HCS.out]; rfl)
    have hcv := fun w => run_bytes_of_string (P := Try.prog) w 9 26 5 after infoStr Try.underlying26 Try.underlying5
    generalize hcap : grownCap = GC at hcv
    go_wp2_with fail
    refine (rputStr_any w3 after _ Aa lv ca (L0 ++ us key) H3.out hl2 (by omega)).mono ?_
    rintro e w4 ⟨v4, rfl, hB⟩
    have H4 := Hd.mk hB
    clear hB c0 c3 H3
    clear hcv hcap
    obtain ⟨Aa, ca, ea, _, _⟩ := H4.out.rd
    obtain ⟨lv, hlv⟩ : ∃ lv, (L0 ++ us key ++ us after).length = lv := ⟨_, rfl⟩
    have hl2 : lv ≤ 2097152 := by rw [← hlv]; have := HL0.out.2; have u1 := uv_len key.size; have u2 := uv_len after.size; have u3 := uv_len body.length; have u4 := HH.out.2.2.1; have u5 := uz_len off; have u6 := uz_len delim; (try simp only [List.length_append, us, ub, sb_len]); omega
    rw [hlv] at ea
    subst ea
    clear hlv
    have c0 : w4.cell? ⟨g, 0, none⟩ = some (.int .i64 7) := H4.out.sta.c 0 (by rw [HCS.out]; rfl)
    go_upto_region 11 with fail
    refine wp_region_held_drew (S := fun W => CS w W g cs) (by kernel_rfl) (H4.out.sta.step (Below.refl _ _).drew) (fun hHeld => ?_)
    have HD : Hd (CB w w4.drew g cs (.slice Aa lv ca) (L0 ++ us key ++ us after)) := ⟨⟨hHeld, let ⟨A', c', e, hc, hr⟩ := H4.out.rd; ⟨A', c', e, hc, hr.keep (fun _ _ => rfl)⟩, H4.out.own⟩⟩
    refine wpAnyH_take (i := 0) (oi := ?oi201) (v := ?v201) ?hi201 (by kernel_rfl) (by kernel_rfl) (by kernel_rfl) ?hQ201 (Or.inl ⟨?hw201, ?hy201⟩) (by assumption) ?rest201
    case hi201 => simp only [List.getElem?_toArray, List.getElem?_cons_succ, List.getElem?_cons_zero]; rfl
    case hQ201 => exact fun _ _ _ h => h
    case hw201 => rfl
    case hy201 => (intro W hW; have c6 := hW.c 6 (by rw [HCS.out]; rfl); have c5 := hW.c 5 (by rw [HCS.out]; rfl); go_simp; all_goals rfl)
    simp only [Act.put, List.setIfInBounds_toArray, List.set_cons_zero, List.set_cons_succ]
    refine wpAnyH_take (i := 1) (oi := ?oi202) (v := ?v202) ?hi202 (by kernel_rfl) (by kernel_rfl) (by kernel_rfl) ?hQ202 (Or.inl ⟨?hw202, ?hy202⟩) (by assumption) ?rest202
    case hi202 => simp only [List.getElem?_toArray, List.getElem?_cons_succ, List.getElem?_cons_zero]; rfl
    case hQ202 => exact fun _ _ _ h => h
    case hw202 => rfl
    case hy202 => (intro W hW; have c6 := hW.c 6 (by rw [HCS.out]; rfl); have c5 := hW.c 5 (by rw [HCS.out]; rfl); go_simp; all_goals rfl)
    simp only [Act.put, List.setIfInBounds_toArray, List.set_cons_zero, List.set_cons_succ]
    refine wpAnyH_take (i := 2) (oi := ?oi203) (v := ?v203) ?hi203 (by kernel_rfl) (by kernel_rfl) (by kernel_rfl) ?hQ203 (Or.inl ⟨?hw203, ?hy203⟩) (by assumption) ?rest203
    case hi203 => simp only [List.getElem?_toArray, List.getElem?_cons_succ, List.getElem?_cons_zero]; rfl
    case hQ203 => exact fun _ _ _ h => h
    case hw203 => rfl
    case hy203 => (intro W hW; have c6 := hW.c 6 (by rw [HCS.out]; rfl); have c5 := hW.c 5 (by rw [HCS.out]; rfl); go_simp; all_goals rfl)
    simp only [Act.put, List.setIfInBounds_toArray, List.set_cons_zero, List.set_cons_succ]
    refine wpAnyH_take (i := 4) (oi := ?oi204) (v := ?v204) ?hi204 (by kernel_rfl) (by kernel_rfl) (by kernel_rfl) ?hQ204 (Or.inl ⟨?hw204, ?hy204⟩) (by assumption) ?rest204
    case hi204 => simp only [List.getElem?_toArray, List.getElem?_cons_succ, List.getElem?_cons_zero]; rfl
    case hQ204 => exact fun _ _ _ h => h
    case hw204 => rfl
    case hy204 => (intro W hW; have c6 := hW.c 6 (by rw [HCS.out]; rfl); have c5 := hW.c 5 (by rw [HCS.out]; rfl); go_simp; all_goals rfl)
    simp only [Act.put, List.setIfInBounds_toArray, List.set_cons_zero, List.set_cons_succ]
    refine wpAnyH_take (i := 5) (oi := ?oi205) (v := ?v205) ?hi205 (by kernel_rfl) (by kernel_rfl) (by kernel_rfl) ?hQ205 (Or.inl ⟨?hw205, ?hy205⟩) (by assumption) ?rest205
    case hi205 => simp only [List.getElem?_toArray, List.getElem?_cons_succ, List.getElem?_cons_zero]; rfl
    case hQ205 => exact fun _ _ _ h => h
    case hw205 => rfl
    case hy205 => (intro W hW; have c6 := hW.c 6 (by rw [HCS.out]; rfl); have c5 := hW.c 5 (by rw [HCS.out]; rfl); go_simp; all_goals rfl)
    simp only [Act.put, List.setIfInBounds_toArray, List.set_cons_zero, List.set_cons_succ]
    refine wpAnyH_ready (rs := [3]) (by kernel_rfl) (by simp) ?_
    refine AllReadyH.cons (i := 3) (o := ?o206) ?ho206 (fun Kq hK => ?step206) AllReadyH.nil
    case ho206 => simp only [List.getElem?_toArray, List.getElem?_cons_succ, List.getElem?_cons_zero]; rfl
    go_simp
    (go_at_call 85; refine (rputNum_any _ Aa lv ca delim (L0 ++ us key ++ us after) HD.out HQ.out.2.2.2.2.1 HQ.out.2.2.2.2.2 hl2).mono ?_; rintro e wa ⟨va, rfl, hB⟩)
    have HA := Hd.mk hB
    have hF := hB.sta
    refine hK.out _ _ hF (fun _ => ?_)
    clear hK Kq hHeld hB
    have hHeld := hF
    clear hF
    try simp only [Act.put, List.setIfInBounds_toArray, List.set_cons_zero, List.set_cons_succ]
    obtain ⟨Ab, cb', eb, _, _⟩ := HA.out.rd
    obtain ⟨lw, hlw⟩ : ∃ lw, (L0 ++ us key ++ us after ++ uz delim).length = lw := ⟨_, rfl⟩
    have hl3 : lw ≤ 2097152 := by rw [← hlw]; have := HL0.out.2; have u1 := uv_len key.size; have u2 := uv_len after.size; have u5 := uz_len off; have u6 := uz_len delim; simp only [List.length_append, us, ub, sb_len]; omega
    rw [hlw] at eb
    subst eb
    clear hlw
    refine wpAnyH_ready (rs := [6]) (by kernel_rfl) (by simp) ?_
    refine AllReadyH.cons (i := 6) (o := ?o207) ?ho207 (fun Kq hK => ?step207) AllReadyH.nil
    case ho207 => simp only [List.getElem?_toArray, List.getElem?_cons_succ, List.getElem?_cons_zero]; rfl
    go_simp
    (go_at_call 85; refine (rputNum_any wa Ab lw cb' num (L0 ++ us key ++ us after ++ uz delim) HA.out HQ.out.2.2.1 HQ.out.2.2.2.1 hl3).mono ?_; rintro e wb ⟨vb, rfl, hB⟩)
    have HB := Hd.mk hB
    have hF := hB.sta
    refine hK.out _ _ hF (fun _ => ?_)
    clear hK Kq hHeld hB
    have hHeld := hF
    clear hF
    try simp only [Act.put, List.setIfInBounds_toArray, List.set_cons_zero, List.set_cons_succ]
    refine wpAnyH_take (i := 7) (oi := ?oi208) (v := ?v208) ?hi208 (by kernel_rfl) (by kernel_rfl) (by kernel_rfl) ?hQ208 (Or.inl ⟨?hw208, ?hy208⟩) (by assumption) ?rest208
    case hi208 => simp only [List.getElem?_toArray, List.getElem?_cons_succ, List.getElem?_cons_zero]; rfl
    case hQ208 => exact fun _ _ _ h => h
    case hw208 => rfl
    case hy208 => (intro W hW; have c6 := hW.c 6 (by rw [HCS.out]; rfl); have c5 := hW.c 5 (by rw [HCS.out]; rfl); go_simp; all_goals rfl)
    simp only [Act.put, List.setIfInBounds_toArray, List.set_cons_zero, List.set_cons_succ]
    refine wpAnyH_done (by kernel_rfl) ?_ _
    clear hHeld HA HD H4 c0
    have c0 : wb.cell? ⟨g, 0, none⟩ = some (.int .i64 7) := HB.out.sta.c 0 (by rw [HCS.out]; rfl)
    go_wp2_with fail
    go_ret
    have hz : rqC R = L0 ++ us key ++ us after ++ uz delim ++ uz num := by rw [HR.out, ← HL0.out.1]; simp [rqC, cKey, cBody, cAfter, cOff, cDelim, cNum]
    rw [hz]
    exact ⟨_, rfl, HB.out.own, HB.out.sta.bel⟩
  by_cases k8 : kn = 8
  · subst k8
    have c0 : w2.cell? ⟨g, 0, none⟩ = some (.int .i64 8) := H2.out.sta.c 0 (by rw [HCS.out]; rfl)
    go_wp2_with fail
    go_ret
    have hz : rqC R = L0 := by rw [HR.out, ← HL0.out.1]; simp [rqC, cKey, cBody, cAfter, cOff, cDelim, cNum]
    rw [hz]
    exact ⟨_, rfl, H2.out.own, H2.out.sta.bel⟩
  have hk : kn = 2 ∨ kn = 4 ∨ kn = 5 ∨ kn = 6 := by omega
  have HK := Hd.mk hk
  have n1 : ((kn : Int) == 1) = false := by rw [beq_eq_false_iff_ne]; omega
  have n3 : ((kn : Int) == 3) = false := by rw [beq_eq_false_iff_ne]; omega
  have n7 : ((kn : Int) == 7) = false := by rw [beq_eq_false_iff_ne]; omega
  have n8 : ((kn : Int) != 8) = true := by rw [bne_iff_ne]; omega
  clear hk
  obtain ⟨Aa, ca, ea, _, _⟩ := H2.out.rd
  obtain ⟨lv, hlv⟩ : ∃ lv, (L0).length = lv := ⟨_, rfl⟩
  have hl2 : lv ≤ 2097152 := by rw [← hlv]; have := HL0.out.2; have u1 := uv_len key.size; have u2 := uv_len after.size; have u3 := uv_len body.length; have u4 := HH.out.2.2.1; have u5 := uz_len off; have u6 := uz_len delim; (try simp only [List.length_append, us, ub, sb_len]); omega
  rw [hlv] at ea
  subst ea
  clear hlv
  have c0 : w2.cell? ⟨g, 0, none⟩ = some (.int .i64 (kn : Int)) := H2.out.sta.c 0 (by rw [HCS.out]; rfl)
  have c2 : w2.cell? ⟨g, 2, none⟩ = some (.string key) := H2.out.sta.c 2 (by rw [HCS.out]; rfl)
  have hcv := fun w => run_bytes_of_string (P := Try.prog) w 9 26 5 key infoStr Try.underlying26 Try.underlying5
  generalize hcap : grownCap = GC at hcv
  go_wp2_with fail
  refine (rputStr_any w2 key _ Aa lv ca (L0) H2.out hl2 (by omega)).mono ?_
  rintro e w3 ⟨v3, rfl, hB⟩
  have H3 := Hd.mk hB
  clear hB c0 c2 H2
  clear hcv hcap
  have c0 : w3.cell? ⟨g, 0, none⟩ = some (.int .i64 (kn : Int)) := H3.out.sta.c 0 (by rw [HCS.out]; rfl)
  go_wp2_with fail
  go_ret
  have hz : rqC R = L0 ++ us key := by rw [HR.out, ← HL0.out.1]; rcases HK.out with rfl | rfl | rfl | rfl <;> simp [rqC, cKey, cBody, cAfter, cOff, cDelim, cNum]
  rw [hz]
  exact ⟨_, rfl, H3.out.own, H3.out.sta.bel⟩
end Go.Proofs.Ytbcmjjcbjojakaa
