
/- Contracts of the document's and of the program's Unshow; the walk of WireUnshows. (tools/unsgen3.py prints it.) -/
import Derived.Test.YtbcmjjcbjojakaaDoorUnsR
import Derived.Test.YtbcmjjcbjojakaaDoorUnsE
import Derived.Deep.CutRange
import Derived.Deep.Cut
namespace Go.Proofs.YtbcmjjcbjojakaaDoor
open Go.RowKit
set_option linter.unusedVariables false
set_option linter.unusedSimpArgs false
theorem Chg.newerU {L Y : List Nat} {w w1 w2 : World} (h : Chg L w w1) (b : Chg Y w1 w2) (hY : ∀ y ∈ Y, y ∈ L ∨ w.heap.size ≤ y) : Chg L w w2 :=
  ⟨b.os.trans h.os, b.tape.trans h.tape, b.output.trans h.output, Nat.le_trans h.size b.size, fun k hk hm => (b.block k (Nat.lt_of_lt_of_le hk h.size) fun hy => (hY k hy).elim hm (by omega)).trans (h.block k hk hm)⟩
def UnsEnd (o : Option ByteArray) (e : Ending) : Prop := (∃ k, o = some k ∧ e = .returned (.tuple #[.string k, .bool true])) ∨ (o = none ∧ e = .returned (.tuple #[.string ⟨#[]⟩, .bool false]))
theorem str_beqU (a b : ByteArray) : (a.toList == b.toList) = decide (a = b) := str_beq a b
theorem refUnshow_any (w : World) (t : ByteArray) (ht : t.size ≤ 8796093022208) : Calls Tryd.prog 9 #[.string t] w fun e w' => UnsEnd (unshowR t) e ∧ Below w.heap.size w w' := by
  go_enter Tryd.func9, Tryd.ntmps9
  go_wp2_with fail
  refine (rplain_any w t (by omega)).mono ?_
  rintro e w1 ⟨hb, ⟨k, hk, hkl, rfl⟩ | ⟨hk, rfl⟩⟩
  · have HK := Hd.mk (And.intro hk hb)
    clear hk hb
    go_wp2_with fail
    refine (refShow_any w1 (bstr k) (by rw [bstr_size]; omega)).mono ?_
    rintro e w2 ⟨rfl, hb2⟩
    have HB : Hd (Below w.heap.size w w2) := ⟨HK.out.2.trans (hb2.mono HK.out.2.size)⟩
    clear hb2
    obtain ⟨S, hS⟩ : ∃ S, bstr (showP (bstr k)) = S := ⟨_, rfl⟩
    rw [hS]
    by_cases hSt : S = t
    · have hEQ : Hd (unshowR t = some (bstr k)) := ⟨by unfold unshowR; rw [HK.out.1]; simp only; rw [hS, if_pos hSt]⟩
      have hq : (S.toList == t.toList) = true := by rw [str_beqU]; exact decide_eq_true hSt
      clear hS hSt
      go_wp2_with fail
      go_ret2
      exact ⟨.inl ⟨_, hEQ.out, rfl⟩, HB.out⟩
    · have hEQ : Hd (unshowR t = none) := ⟨by unfold unshowR; rw [HK.out.1]; simp only; rw [hS, if_neg hSt]⟩
      have hq : (S.toList == t.toList) = false := by rw [str_beqU]; exact decide_eq_false hSt
      clear hS hSt
      go_wp2_with fail
      go_ret2
      exact ⟨.inr ⟨hEQ.out, rfl⟩, HB.out⟩
  · have HK : Hd (unshowR t = none ∧ Below w.heap.size w w1) := ⟨by unfold unshowR; rw [hk], hb⟩
    clear hk hb
    go_wp2_with fail
    go_ret2
    exact ⟨.inr ⟨HK.out.1, rfl⟩, HK.out.2⟩
theorem runesFrom_rns (s : ByteArray) : ∀ (f i : Nat) (acc : Array Value), Conv.runesFrom s f i acc = acc ++ (ri (rns f ((sb s).drop i))).toArray
  | 0, i, acc => by simp [Conv.runesFrom, rns, ri]
  | f + 1, i, acc => by
    unfold Conv.runesFrom rns
    by_cases h : i < s.size
    · have hne : (sb s).drop i ≠ [] := by
        intro h0; have := congrArg List.length h0; rw [List.length_drop, sb_len] at this; simp at this; omega
      rw [if_pos h, if_neg hne]
      have hd := decode_dcd s i h
      simp only
      rw [runesFrom_rns s f, hd, List.drop_drop]
      simp [ri]
    · have hz : (sb s).drop i = [] := List.drop_eq_nil_of_le (by rw [sb_len]; omega)
      rw [if_neg h, if_pos hz]
      simp [ri]
theorem rns_len : ∀ (f : Nat) (l : List Nat), (rns f l).length ≤ f
  | 0, l => by simp [rns]
  | f + 1, l => by
    unfold rns
    split
    · simp
    · rw [List.length_cons]; have := rns_len f (l.drop (dcd l).2); omega
theorem rns_small : ∀ (f : Nat) (l : List Nat), ∀ x ∈ rns f l, x ≤ 1114111
  | 0, l => by simp [rns]
  | f + 1, l => by
    intro x hx
    unfold rns at hx
    split at hx
    · cases hx
    · rcases List.mem_cons.1 hx with h | h
      · subst h
        unfold dcd
        rcases Lib.decodeN_shape l.length (l.getD 0 0) (l.getD 1 0) (l.getD 2 0) (l.getD 3 0) with ⟨c, e⟩ | ⟨c1, c2, c3, cv, e⟩ | ⟨c1, c2, c3, c4, cv, cs, e⟩ | ⟨c1, c2, c3, c4, c5, cv, cw, e⟩ | e
        all_goals (rw [e])
        all_goals (try (dsimp only))
        all_goals omega
      · exact rns_small f _ x h
theorem runeCells_enc (x : Nat) : Lib.runeCells (x : Int) = cb (encN x) := by
  rw [← Lib.byteCells_encodeRune]
  unfold Lib.byteCells cb encN
  rw [List.map_map]; rfl
theorem encN_len (x : Nat) : (encN x).length ≤ 4 := by
  unfold encN Lib.encodeRune
  rw [List.length_map, List.length_map]
  unfold Lib.encodeRuneZ
  repeat' split
  all_goals simp
theorem own_formG {w : World} {base e n : Nat} {v : Value} {xs : List Value} (h : w.ownsRowF base e 1 v n xs) : ∃ A c, v = .slice A n c ∧ n ≤ c := by
  rcases h.2 with ⟨rfl, rfl⟩ | ⟨g, cap, cur, fz, rfl, _, _, _, hc, _⟩
  · exact ⟨none, 0, rfl, Nat.le_refl _⟩
  · exact ⟨_, _, rfl, hc⟩
theorem rd_ownF {w : World} {base e n c : Nat} {A : Option Addr} {xs : List Value} (h : w.ownsRowF base e 1 (.slice A n c) n xs) : Rd w w.heap.size A n xs := by
  refine ⟨by rw [h.1]; omega, fun hp => ?_⟩
  rcases h.2 with ⟨he, _⟩ | ⟨g, cap, cur, fz, hv, _, hg, _, _, _, _, _⟩
  · injection he with _ e2; omega
  · injection hv with e1
    subst e1
    refine ⟨g, 0, rfl, (Array.getElem?_eq_some_iff.1 hg).1, fun i hi => ?_⟩
    have hx : i < xs.length := by rw [h.1]; omega
    have := h.cells (g := g) rfl i _ (List.getElem?_eq_getElem hx)
    rw [show ((⟨g, 0, none⟩ : Addr).add i) = ⟨g, 0 + i, none⟩ by unfold Addr.add; split <;> simp_all] at this
    rw [this, List.getElem?_eq_getElem hx]
theorem infoI32 : (Tryd.prog.info? 21).map (fun i => (i.zero, i.size, i.bytes)) = some (some (.int .i32 0), 1, 4) := by kernel_rfl
theorem elR : El Tryd.prog 45 21 4 (.int .i32 0) := ⟨Tryd.underlying45, info_parts infoI32, rfl⟩
theorem conv_k {w : World} {n c : Nat} {A : Option Addr} {bs : List Nat} (h : Rd w w.heap.size A n (cb bs)) : (convert 28 9 (.slice A n c)).run Tryd.prog w = .ok (.string (bstr bs)) w := by
  rw [cb_ints] at h
  exact run_conv_str _ _ 5 Tryd.underlying28 Tryd.underlying5 Tryd.underlying9 c h
theorem ri_get (rs : List Nat) (i : Nat) : (ri rs)[i]? = (rs[i]?).map fun x => Value.int .i32 ((x : Nat) : Int) := by unfold ri; rw [List.getElem?_map]
set_option maxRecDepth 20000 in
set_option maxHeartbeats 8000000 in
theorem unshow_any (w : World) (t : ByteArray) (ht : t.size ≤ 8796093022208) (hT : Lib.Utf8Tabs (Tryd.lays196_ren.g 3) (Tryd.lays196_ren.g 4) w) : Calls Tryd.prog 7 #[.string t] w fun e w' => UnsEnd (unshowP t) e ∧ Below w.heap.size w w' := by
  have hV := Tryd.utf8_ValidString t w (by omega) hT
  clear hT
  obtain ⟨V, hVe⟩ : ∃ V, Lib.validD t.data.toList = V := ⟨_, rfl⟩
  rw [hVe] at hV
  have HVV := Hd.mk hVe
  clear hVe
  go_enter Tryd.func7, Tryd.ntmps7
  go_wp2_with fail
  refine hV.mono ?_
  rintro e w1 ⟨rfl, hb1⟩
  have HB1 := Hd.mk hb1
  clear hb1 hV
  rcases V with _ | _
  · have HN : Hd (unshowP t = none) := ⟨by unfold unshowP; rw [HVV.out]; rfl⟩
    go_wp2_with fail
    go_ret2
    exact ⟨.inr ⟨HN.out, rfl⟩, HB1.out⟩
  obtain ⟨rs, hrs⟩ : ∃ rs, runesP t = rs := ⟨_, rfl⟩
  obtain ⟨n, hn⟩ : ∃ n, rs.length = n := ⟨_, rfl⟩
  have hnt : n ≤ t.size := by rw [← hn, ← hrs]; exact rns_len _ _
  have HRS : Hd (runesP t = rs ∧ rs.length = n ∧ ∀ x ∈ rs, x ≤ 1114111) := ⟨hrs, hn, by rw [← hrs]; exact rns_small _ _⟩
  have hRF : Conv.runesFrom t t.size 0 #[] = (ri rs).toArray := by rw [runesFrom_rns]; simp [← hrs, runesP]
  have hRZ : (ri rs).toArray.size = n := by simp [ri, hn]
  go_upto_region 4 with fail
  obtain ⟨gk, hgk⟩ : ∃ q, w1.heap.size = q := ⟨_, rfl⟩
  obtain ⟨wk, hwk⟩ : ∃ U, w1.alloc (.cells #[.slice none 0 0] 28) = U := ⟨_, rfl⟩
  have hcv := run_runes_of_string (P := Tryd.prog) wk 9 45 21 t Tryd.underlying9 Tryd.underlying45 Tryd.underlying21 (by rw [hRF, hRZ]; omega)
  rw [hRF, hRZ] at hcv
  obtain ⟨gr, hgr⟩ : ∃ q, wk.heap.size = q := ⟨_, rfl⟩
  obtain ⟨cp, hcp⟩ : ∃ q, grownCap wk n 0 21 = q := ⟨_, rfl⟩
  obtain ⟨w2, hw2⟩ : ∃ U, wk.drew.alloc (.cells ((ri rs).toArray ++ Array.replicate (cp - n) (.int .i32 0)) 21) = U := ⟨_, rfl⟩
  have hcpn : n ≤ cp := by rw [← hcp]; exact grownCap_ge wk n 0 21
  rw [hgr, hcp, hw2] at hcv
  obtain ⟨base, hbase⟩ : ∃ q, gr + 1 = q := ⟨_, rfl⟩
  have H2 : Hd (w2.heap[gk]? = some (.cells #[.slice none 0 0] 28 (0, 0)) ∧ w2.heap.size = base ∧ gk + 1 = gr ∧ Below w.heap.size w w2 ∧ w.heap.size ≤ gk ∧ Rd w2 base (some ⟨gr, 0, none⟩) n (ri rs)) := ⟨by
    have k1 : gr = gk + 1 := by rw [← hgr, ← hwk, ← hgk]; simp
    have hg : w2.heap[gr]? = some (.cells ((ri rs).toArray ++ Array.replicate (cp - n) (.int .i32 0)) 21 (0, 0)) := by rw [← hw2, ← hgr]; exact heap_alloc_new wk.drew _
    refine ⟨?_, by rw [← hw2, ← hbase, ← hgr]; simp, k1.symm, ?_, by rw [← hgk]; exact HB1.out.size, by unfold ri; rw [List.length_map]; exact hn, fun hp => ⟨gr, 0, rfl, by omega, fun i hi => ?_⟩⟩
    · rw [← hw2, heap_alloc_old _ _ (by show gk < wk.heap.size; omega)]
      show wk.heap[gk]? = _
      rw [← hwk, ← hgk]; exact heap_alloc_new w1 _
    · rw [← hw2]
      refine Below.alloc (Below.drew ?_) ?_ _
      · rw [← hwk]; exact HB1.out.alloc HB1.out.size _
      · show w.heap.size ≤ wk.heap.size
        have := HB1.out.size; rw [← hwk]; simp; omega
    · rw [cell_of_row w2 gr (0 + i) _ _ (0, 0) hg]
      have hl : i < (ri rs).length := by simpa [ri, hn] using hi
      rw [Nat.zero_add, Array.getElem?_append_left (by simpa using hl)]
      simp⟩
  rw [hwk]
  try rw [hgk]
  clear hwk hgk hw2 hgr hcp hRF hRZ hrs hn
  go_wp2_with fail
  clear hcv
  have HBS : Hd (gk < base ∧ base ≤ w2.heap.size) := ⟨by have := H2.out; omega, by have := H2.out; omega⟩
  go_loopw [6] (fun u6 wr => ∃ (pos : Nat) (acc : List Nat) (vk : Value), u6 = .int .i64 (pos : Int) ∧ pos ≤ n ∧ wr.heap[gk]? = some (.cells #[vk] 28 (0, 0)) ∧ wr.ownsRowF base 5 1 vk acc.length (cb acc) ∧ Chg [gk] w2 wr ∧ Hd ((unsL encN (rs.drop pos)).map (acc ++ ·) = unsL encN rs) ∧ acc.length ≤ 4 * pos) (fun u6 _ => n - (intOf u6).toNat)
  case atStart => exact ⟨0, [], _, rfl, Nat.zero_le _, H2.out.1, World.ownsRowF_nil _ _ _ _, Chg.refl _ _, ⟨by simp⟩, by simp⟩
  case round =>
    obtain ⟨pos, acc, vk, rfl, hp, hky, hok, hch, HS, hac⟩ := hrel
    obtain ⟨lk, hlk⟩ : ∃ q, acc.length = q := ⟨_, rfl⟩
    rw [hlk] at hok hac
    have HLK := Hd.mk hlk
    have HKY := Hd.mk (And.intro hky (And.intro hok hch))
    have HCH := Hd.mk hch
    have HKL : Hd (gk < wr.heap.size) := ⟨(Array.getElem?_eq_some_iff.1 hky).1⟩
    have hnew : ∀ {v : Value} {m : Nat} {xs : List Value} {W : World}, W.ownsRowF base 5 1 v m xs → ∀ y ∈ gk :: v.ownBlock.toList, y ∈ [gk] ∨ w2.heap.size ≤ y := fun ho y hy => by
      rcases List.mem_cons.1 hy with h1 | h1
      · exact .inl (by simp [h1])
      · rw [Option.mem_toList] at h1; have := (ho.lt y h1).1; have := H2.out; exact .inr (by omega)
    clear hky hok hch hlk
    have HRW : Hd (∀ W, Chg (gk :: vk.ownBlock.toList) wr W → Rd W base (some ⟨gr, 0, none⟩) n (ri rs)) := ⟨fun W b => by
      have h1 := HCH.out.newerU b (hnew HKY.out.2.1)
      have hr := H2.out.2.2.2.2.2
      refine ⟨hr.1, fun hp0 => ?_⟩
      obtain ⟨g', o', e1, e2, e3⟩ := hr.2 hp0
      injection e1 with e1; injection e1 with e4 e5
      subst e4 e5
      exact ⟨gr, 0, rfl, e2, fun i hi => (h1.cell (p := ⟨gr, 0 + i, none⟩) (by have := H2.out; show gr < _; omega) (by have := H2.out; simp; omega)).trans (e3 i hi)⟩⟩
    by_cases hlt : pos < n
    · have hlti : (pos : Int) < (n : Int) := by omega
      obtain ⟨x, hx⟩ : ∃ x, rs[pos]? = some x := ⟨_, List.getElem?_eq_getElem (by have := HRS.out.2.1; omega)⟩
      have hx1 : x ≤ 1114111 := HRS.out.2.2 x (List.mem_of_getElem? hx)
      have hdr : rs.drop pos = x :: rs.drop (pos + 1) := by
        have hl : pos < rs.length := (List.getElem?_eq_some_iff.1 hx).1
        rw [List.drop_eq_getElem_cons hl]
        rw [List.getElem?_eq_getElem hl] at hx
        injection hx with hx
        rw [hx]
      have HCL : Hd (∀ W, Chg (gk :: vk.ownBlock.toList) wr W → W.cell? ⟨gr, 0 + pos, none⟩ = some (.int .i32 (x : Int))) := ⟨fun W b => by
        obtain ⟨g', o', h1, _, h2⟩ := (HRW.out W b).2 (by omega)
        injection h1 with h1; injection h1 with h3 h4
        subst h3 h4
        rw [h2 pos hlt, ri_get, hx]; rfl⟩
      have c0 : wr.cell? ⟨gr, pos, none⟩ = some (.int .i32 (x : Int)) := by have := HCL.out wr (Chg.refl _ _); rwa [Nat.zero_add] at this
      by_cases h92 : x = 92
      · subst h92
        have e1 : IntKind.i64.wrap ((pos : Int) + 1) = ((pos + 1 : Nat) : Int) := by rw [IntKind.wrap_i64]; omega
        have s1 := run_cut_from (P := Tryd.prog) (w := wr) elR (some ⟨gr, 0, none⟩) n cp (pos + 1) (by omega)
        obtain ⟨A3, hA3⟩ : ∃ q, cutA (some ⟨gr, 0, none⟩) cp (pos + 1) = q := ⟨_, rfl⟩
        obtain ⟨n3, hn3⟩ : ∃ q, n - (pos + 1) = q := ⟨_, rfl⟩
        obtain ⟨d3, hd3⟩ : ∃ q, cp - (pos + 1) = q := ⟨_, rfl⟩
        have HR3 : Hd (Rd wr base A3 n3 (ri (rs.drop (pos + 1))) ∧ ∀ g o, A3 = some ⟨g, o, none⟩ → g ≠ gk) := ⟨by
          have h1 := (HRW.out wr (Chg.refl _ _)).cut (c := cp) (l := pos + 1) (h := n) (by omega) (Nat.le_refl _) hcpn
          rw [hA3, hn3] at h1
          refine ⟨?_, fun g o hg => ?_⟩
          · have e : ((ri rs).drop (pos + 1)).take n3 = ri (rs.drop (pos + 1)) := by
              unfold ri
              rw [← List.map_drop, List.take_of_length_le]
              rw [List.length_map, List.length_drop, HRS.out.2.1]; omega
            rwa [e] at h1
          · rw [← hA3] at hg
            unfold cutA at hg
            split at hg
            · injection hg with hg; injection hg with hg; have := H2.out; omega
            · simp only [Option.map_some, Addr.add] at hg
              injection hg with hg; injection hg with hg; have := H2.out; omega⟩
        rw [hA3, hn3, hd3] at s1
        have HDR := Hd.mk hdr
        obtain ⟨p1, hp1e⟩ : ∃ q, pos + 1 = q := ⟨_, rfl⟩
        rw [hp1e] at e1 s1 HR3 HDR
        have HP1 := Hd.mk (And.intro hp1e (And.intro hn3 hd3))
        clear hdr hx hA3 hp1e hn3 hd3
        go_wp2_with fail
        clear e1 s1 c0
        refine (escape_any wr gk base vk acc A3 n3 d3 (rs.drop p1) HR3.out.1 (fun y hy => HRS.out.2.2 y (List.mem_of_mem_drop hy)) (by have := HP1.out; omega) HR3.out.2 HKY.out.1 (by rw [HLK.out]; exact HKY.out.2.1) (by have := HBS.out; omega) (by have := HBS.out; have := HCH.out.size; omega) (by rw [HLK.out]; omega)).mono ?_
        rintro e w3 (⟨he, rfl, hc3⟩ | ⟨b, k, he, rfl, v3, hk3, ho3, hc3⟩)
        · have HN : Hd (unshowP t = none ∧ Below w.heap.size w w3) := ⟨by
            have h1 : unsL encN rs = none := by rw [← HS.out, HDR.out, unsL_esc, he]; rfl
            unfold unshowP; rw [HVV.out, HRS.out.1, h1]; rfl, by
            have h2 : Chg [gk] w2 w3 := HCH.out.newerU hc3 (by simp)
            exact H2.out.2.2.2.1.trans (h2.below (by have := H2.out; omega) (by have := H2.out; simp; omega))⟩
          clear he hc3
          go_wp2_with fail
          go_ret2
          exact ⟨.inr ⟨HN.out.1, rfl⟩, HN.out.2⟩
        · obtain ⟨hk13, hkl, hb8⟩ := escF_n he
          have hkn : p1 + k ≤ n := by rw [List.length_drop, HRS.out.2.1] at hkl; omega
          have HG : Hd ((unsL encN (rs.drop (p1 + k))).map ((acc ++ [b]) ++ ·) = unsL encN rs) := ⟨by rw [← HS.out, HDR.out, unsL_esc, he]; simp only; rw [map_map_cons, List.drop_drop]⟩
          have H3 := Hd.mk (And.intro hk3 (And.intro ho3 hc3))
          have hk0 : ((k : Int) == 0) = false := beq_eq_false_iff_ne.2 (by omega)
          have ek : IntKind.i64.wrap ((pos : Int) + (k : Int)) = ((pos + k : Nat) : Int) := by rw [IntKind.wrap_i64]; omega
          have ek1 : IntKind.i64.wrap (((pos + k : Nat) : Int) + 1) = ((p1 + k : Nat) : Int) := by rw [IntKind.wrap_i64]; have := HP1.out; omega
          obtain ⟨pk, hpk⟩ : ∃ q, pos + k = q := ⟨_, rfl⟩
          rw [hpk] at ek ek1
          clear he hk3 ho3 hc3
          go_wp2_with fail
          go_roundw
          case rel => exact ⟨p1 + k, acc ++ [b], v3, by first | rfl | go_num, hkn, H3.out.1, H3.out.2.1, HCH.out.newerU H3.out.2.2 (hnew HKY.out.2.1), HG, by rw [List.length_append, HLK.out]; simp; have := HP1.out; omega⟩
          case measure => simp [intOf]; have := HP1.out; omega
      · have hxb : ((x : Int) == 92) = false := beq_eq_false_iff_ne.2 (by omega)
        have HGO : Hd (Hd ((unsL encN (rs.drop (pos + 1))).map ((acc ++ encN x) ++ ·) = unsL encN rs) ∧ lk + (encN x).length ≤ 4 * (pos + 1)) := ⟨⟨by rw [← HS.out, hdr, unsL_plain _ _ _ h92, map_map_app]⟩, by have := encN_len x; omega⟩
        clear hdr hx h92 HS
        go_upto_region 9 with fail
        clear hxb c0
        refine wp_region_held_drew (S := fun W => Chg (gk :: vk.ownBlock.toList) wr W) (by kernel_rfl) (Chg.refl _ wr).drew (fun hHeld => ?_)
        obtain ⟨wd, hwd⟩ : ∃ U, wr.drew = U := ⟨_, rfl⟩
        have HWD : Hd (Chg (gk :: vk.ownBlock.toList) wr wd ∧ wd.heap[gk]? = some (.cells #[vk] 28 (0, 0)) ∧ wd.ownsRowF base 5 1 vk lk (cb acc) ∧ wr.heap.size = wd.heap.size) := ⟨by rw [← hwd]; exact ⟨(Chg.refl _ wr).drew, HKY.out.1, HKY.out.2.1, rfl⟩⟩
        rw [hwd] at hHeld ⊢
        clear hwd
        have cg : wd.cell? ⟨gk, 0, none⟩ = some vk := by rw [cell_of_row wd gk 0 _ _ (0, 0) HWD.out.2.1]; rfl
        refine wpAnyH_take (i := 1) (oi := ?oi101) (v := ?v101) ?hi101 (by kernel_rfl) (by kernel_rfl) (by kernel_rfl) ?hQ101 (Or.inl ⟨?hw101, ?hy101⟩) (by assumption) ?rest101
        case hi101 => simp only [List.getElem?_toArray, List.getElem?_cons_succ, List.getElem?_cons_zero]; rfl
        case hQ101 => exact fun _ _ _ h => h
        case hw101 => rfl
        case hy101 => (intro W hW; go_simp; all_goals rfl)
        simp only [Act.put, List.setIfInBounds_toArray, List.set_cons_zero, List.set_cons_succ]
        refine wpAnyH_take (i := 2) (oi := ?oi102) (v := ?v102) ?hi102 (by kernel_rfl) (by kernel_rfl) (by kernel_rfl) ?hQ102 (Or.inl ⟨?hw102, ?hy102⟩) (by assumption) ?rest102
        case hi102 => simp only [List.getElem?_toArray, List.getElem?_cons_succ, List.getElem?_cons_zero]; rfl
        case hQ102 => exact fun _ _ _ h => h
        case hw102 => rfl
        case hy102 => (intro W hW; go_simp; all_goals rfl)
        simp only [Act.put, List.setIfInBounds_toArray, List.set_cons_zero, List.set_cons_succ]
        refine wpAnyH_take (i := 3) (oi := ?oi103) (v := ?v103) ?hi103 (by kernel_rfl) (by kernel_rfl) (by kernel_rfl) ?hQ103 (Or.inl ⟨?hw103, ?hy103⟩) (by assumption) ?rest103
        case hi103 => simp only [List.getElem?_toArray, List.getElem?_cons_succ, List.getElem?_cons_zero]; rfl
        case hQ103 => exact fun _ _ _ h => h
        case hw103 => rfl
        case hy103 => (intro W hW; go_simp; all_goals rfl)
        simp only [Act.put, List.setIfInBounds_toArray, List.set_cons_zero, List.set_cons_succ]
        refine wpAnyH_take (i := 4) (oi := ?oi104) (v := ?v104) ?hi104 (by kernel_rfl) (by kernel_rfl) (by kernel_rfl) ?hQ104 (Or.inl ⟨?hw104, ?hy104⟩) (by assumption) ?rest104
        case hi104 => simp only [List.getElem?_toArray, List.getElem?_cons_succ, List.getElem?_cons_zero]; rfl
        case hQ104 => exact fun _ _ _ h => h
        case hw104 => rfl
        case hy104 => (intro W hW; have f1 := HCL.out W hW; simp only [Nat.zero_add] at f1; go_simp; all_goals rfl)
        simp only [Act.put, List.setIfInBounds_toArray, List.set_cons_zero, List.set_cons_succ]
        refine wpAnyH_ready (rs := [0]) (by kernel_rfl) (by simp) ?_
        refine AllReadyH.cons (i := 0) (o := ?oR3_0) ?hoR3_0 (fun Kq hK => ?stR3_0) (AllReadyH.nil)
        case hoR3_0 => simp only [List.getElem?_toArray, List.getElem?_cons_succ, List.getElem?_cons_zero]; rfl
        case stR3_0 =>
          go_simp
          refine hK.out _ _ (HWD.out.1) (fun _ => ?_)
          clear hK Kq
          try simp only [Act.put, List.setIfInBounds_toArray, List.set_cons_zero, List.set_cons_succ]
          refine wpAnyH_ready (rs := [5]) (by kernel_rfl) (by simp) ?_
          refine AllReadyH.cons (i := 5) (o := ?oR2_5) ?hoR2_5 (fun Kq hK => ?stR2_5) (AllReadyH.nil)
          case hoR2_5 => simp only [List.getElem?_toArray, List.getElem?_cons_succ, List.getElem?_cons_zero]; rfl
          case stR2_5 =>
            go_simp
            (go_at_call 18; refine (Tryd.utf8_AppendRune_row base vk lk (cb acc) (x : Int) (by omega) (by omega) wd HWD.out.2.2.1 (by omega) (by have := HWD.out.2.2.2; have := HBS.out.2; have := HCH.out.size; omega)).mono ?_; rintro e w6 ⟨v', rfl, ho6, o6, hg6⟩)
            have H6 : Hd (Chg (gk :: vk.ownBlock.toList) wr w6 ∧ w6.heap[gk]? = some (.cells #[vk] 28 (0, 0)) ∧ w6.ownsRowF base 5 1 v' (lk + (encN x).length) (cb (acc ++ encN x))) := ⟨by
              have k1 : Chg vk.ownBlock.toList wd w6 := ((Chg.refl _ wd).alloc o6).trans ⟨hg6.os, hg6.tape, hg6.output, hg6.size, fun y hy hm => hg6.block y hy fun e => hm (by rw [Option.mem_toList]; exact e.symm)⟩
              refine ⟨HWD.out.1.trans (k1.mono fun y hy _ => List.mem_cons_of_mem _ hy), (k1.block gk (by have := HWD.out.1.size; have := HKL.out; omega) fun hm => ?_).trans HWD.out.2.1, by rw [runeCells_enc, cb_length] at ho6; rw [cb_append]; exact ho6⟩
              rw [Option.mem_toList] at hm; have := (HWD.out.2.2.1.lt gk hm).1; have := HBS.out.1; omega⟩
            obtain ⟨A6, d6, hv6, hl6⟩ := own_formG H6.out.2.2
            obtain ⟨l6, hl6e⟩ : ∃ q, lk + (encN x).length = q := ⟨_, rfl⟩
            rw [hl6e] at hv6 H6
            subst hv6
            have HL6 : Hd ((acc ++ encN x).length = l6 ∧ lk + (encN x).length = l6) := ⟨by rw [List.length_append, HLK.out]; exact hl6e, hl6e⟩
            clear ho6 hg6 hl6 hl6e
            refine hK.out _ _ (H6.out.1) (fun _ => ?_)
            clear hK Kq
            try simp only [Act.put, List.setIfInBounds_toArray, List.set_cons_zero, List.set_cons_succ]
            have c6 : w6.cell? ⟨gk, 0, none⟩ = some vk := by rw [cell_of_row w6 gk 0 _ _ (0, 0) H6.out.2.1]; rfl
            have z6 : w6.frozen? ⟨gk, 0, none⟩ = false := by simp [World.frozen?, H6.out.2.1]
            refine wpAnyH_ready (rs := [6]) (by kernel_rfl) (by simp) ?_
            refine AllReadyH.cons (i := 6) (o := ?oR1_6) ?hoR1_6 (fun Kq hK => ?stR1_6) (AllReadyH.nil)
            case hoR1_6 => simp only [List.getElem?_toArray, List.getElem?_cons_succ, List.getElem?_cons_zero]; rfl
            case stR1_6 =>
              go_simp
              have hC7 : Chg (gk :: vk.ownBlock.toList) wr (w6.setCell ⟨gk, 0, none⟩ (.slice A6 l6 d6)) := H6.out.1.setCell (by simp) _
              refine hK.out _ _ (hC7) (fun _ => ?_)
              clear hK Kq c6 z6
              try simp only [Act.put, List.setIfInBounds_toArray, List.set_cons_zero, List.set_cons_succ]
              refine wpAnyH_done (by kernel_rfl) ?_ _
              obtain ⟨w7, hw7⟩ : ∃ U, w6.setCell ⟨gk, 0, none⟩ (.slice A6 l6 d6) = U := ⟨_, rfl⟩
              have HF : Hd (Chg (gk :: vk.ownBlock.toList) wr w7 ∧ w7.heap[gk]? = some (.cells #[.slice A6 l6 d6] 28 (0, 0)) ∧ w7.ownsRowF base 5 1 (.slice A6 l6 d6) (acc ++ encN x).length (cb (acc ++ encN x))) := ⟨by rw [← hw7]; exact ⟨hC7, by rw [heap_setE w6 gk 0 _ _ _ H6.out.2.1]; rfl, by rw [HL6.out.1]; exact own_setF H6.out.2.2 (fun k hk => by have := (H6.out.2.2.lt k hk).1; have := HBS.out.1; omega)⟩⟩
              try rw [hw7]
              clear hC7 hw7
              try clear hHeld
              go_wp2_with fail
              go_roundw
              case rel => exact ⟨pos + 1, acc ++ encN x, _, by go_num, by omega, HF.out.2.1, HF.out.2.2, HCH.out.newerU HF.out.1 (hnew HKY.out.2.1), HGO.out.1, by rw [HL6.out.1]; have := HGO.out.2; have := HL6.out.2; omega⟩
              case measure => simp [intOf]; omega
    · have hlti : ¬ (pos : Int) < (n : Int) := by omega
      have HA : Hd (unsL encN rs = some acc) := ⟨by
        have : rs.drop pos = [] := List.drop_eq_nil_of_le (by rw [HRS.out.2.1]; omega)
        rw [← HS.out, this]; simp [unsL_nil]⟩
      obtain ⟨AK, dk, hvk, hlkd⟩ := own_formG HKY.out.2.1
      subst hvk
      have cg : wr.cell? ⟨gk, 0, none⟩ = some (.slice AK lk dk) := by rw [cell_of_row wr gk 0 _ _ (0, 0) HKY.out.1]; rfl
      have f1 := conv_k (c := dk) (rd_ownF HKY.out.2.1)
      obtain ⟨SK, hSK⟩ : ∃ S, bstr acc = S := ⟨_, rfl⟩
      rw [hSK] at f1
      have HSZ : Hd (SK.size ≤ 35184372088832) := ⟨by rw [← hSK, bstr_size, HLK.out]; omega⟩
      clear HS
      go_wp2_with fail
      refine (show_any wr SK HSZ.out).mono ?_
      rintro e w4 ⟨rfl, hb4⟩
      have HB4 : Hd (Below w.heap.size w w4 ∧ Chg [] wr w4) := ⟨by
        exact H2.out.2.2.2.1.trans ((HCH.out.below (by have := H2.out; omega) (by have := H2.out; simp; omega)).trans (hb4.mono (by have := H2.out; have := HCH.out.size; omega))), Chg.of_below hb4⟩
      have cg4 : w4.cell? ⟨gk, 0, none⟩ = some (.slice AK lk dk) := by rw [cell_of_row w4 gk 0 _ _ (0, 0) ((HB4.out.2.block gk HKL.out List.not_mem_nil).trans HKY.out.1)]; rfl
      have f2 : (convert 28 9 (.slice AK lk dk)).run Tryd.prog w4 = .ok (.string SK) w4 := by
        rw [← hSK]
        exact conv_k (rd_ownF (own_blockF HKY.out.2.1 fun k hk => HB4.out.2.block k (HKY.out.2.1.lt k hk).2 List.not_mem_nil))
      obtain ⟨ST, hST⟩ : ∃ S, bstr (showP SK) = S := ⟨_, rfl⟩
      rw [hST]
      have HU : Hd (unshowP t = if ST = t then some SK else none) := ⟨by unfold unshowP; rw [HVV.out, HRS.out.1, HA.out]; simp only [if_true]; rw [hSK, hST]⟩
      clear hb4 cg f1 hSK hST
      by_cases hSt : ST = t
      · have hq : (ST.toList == t.toList) = true := by rw [str_beqU]; exact decide_eq_true hSt
        have HU2 : Hd (unshowP t = some SK) := ⟨by rw [HU.out, if_pos hSt]⟩
        clear hSt HU
        go_wp2_with fail
        go_ret2
        exact ⟨.inl ⟨_, HU2.out, rfl⟩, HB4.out.1⟩
      · have hq : (ST.toList == t.toList) = false := by rw [str_beqU]; exact decide_eq_false hSt
        have HU2 : Hd (unshowP t = none) := ⟨by rw [HU.out, if_neg hSt]⟩
        clear hSt HU
        go_wp2_with fail
        go_ret2
        exact ⟨.inr ⟨HU2.out, rfl⟩, HB4.out.1⟩
theorem unshows_walk (w : World) (t : ByteArray) (ht : t.size ≤ 8796093022208) (hT : Lib.Utf8Tabs (Tryd.lays196_ren.g 3) (Tryd.lays196_ren.g 4) w) : Calls Tryd.prog 4 #[.string t] w fun e w' => e = .returned (.bool true) ∧ Below w.heap.size w w' := by
  have HT := Hd.mk hT
  clear hT
  go_enter Tryd.func4, Tryd.ntmps4
  go_wp2_with fail
  refine (refUnshow_any w t ht).mono ?_
  rintro e w1 ⟨hE, hb1⟩
  have hP := unshow_any w1 t ht (Utf8Tabs_below HT.out hb1)
  rw [unshow_same] at hP
  have HB1 := Hd.mk hb1
  have HP := Hd.mk hP
  clear hb1 hP
  rcases hE with ⟨k, hk, rfl⟩ | ⟨hk, rfl⟩
  · have HK := Hd.mk hk
    clear hk
    go_wp2_with fail
    refine HP.out.mono ?_
    rintro e w2 ⟨hE2, hb2⟩
    rcases hE2 with ⟨k2, hk2, rfl⟩ | ⟨hk2, rfl⟩
    · have : k2 = k := by rw [HK.out] at hk2; injection hk2 with h; exact h.symm
      subst this
      have HB2 : Hd (Below w.heap.size w w2) := ⟨HB1.out.trans (hb2.mono HB1.out.size)⟩
      have hq : (k2.toList == k2.toList) = true := by rw [str_beqU]; exact decide_eq_true rfl
      clear hb2 hk2
      go_wp2_with fail
      go_ret
      exact ⟨rfl, HB2.out⟩
    · rw [HK.out] at hk2; cases hk2
  · have HK := Hd.mk hk
    clear hk
    go_wp2_with fail
    refine HP.out.mono ?_
    rintro e w2 ⟨hE2, hb2⟩
    rcases hE2 with ⟨k2, hk2, rfl⟩ | ⟨hk2, rfl⟩
    · rw [HK.out] at hk2; cases hk2
    · have HB2 : Hd (Below w.heap.size w w2) := ⟨HB1.out.trans (hb2.mono HB1.out.size)⟩
      clear hb2 hk2
      go_wp2_with fail
      go_ret
      exact ⟨rfl, HB2.out⟩
end Go.Proofs.YtbcmjjcbjojakaaDoor
