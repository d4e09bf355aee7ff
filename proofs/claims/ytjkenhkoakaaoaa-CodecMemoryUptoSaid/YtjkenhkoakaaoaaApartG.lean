/- Contract of the law's apart: rows of bytes are marked, grown place by place, what they were is looked at. -/
import Derived.Test.YtjkenhkoakaaoaaApartP
import Derived.Test.YtjkenhkoakaaoaaShort
import Derived.Test.YtjkenhkoakaaoaaBoxes
import Derived.Deep.Cut
import Derived.Deep.CutRange
namespace Go.Proofs.Ytjkenhkoakaaoaa
open Go.RowKit
set_option linter.unusedVariables false
set_option linter.unusedSimpArgs false
theorem own_atG {w : World} {base e g n cap : Nat} {xs : List Value} (h : w.ownsRow base e 1 (.slice (some ⟨g, 0, none⟩) n cap) n xs) {j : Nat} {u : Value} (hj : xs[j]? = some u) : w.cell? ⟨g, j, none⟩ = some u ∧ w.frozen? ⟨g, j, none⟩ = false := by
  have h1 := h.cells (g := g) rfl j u hj
  rw [show (⟨g, 0, none⟩ : Addr).add j = ⟨g, j, none⟩ by unfold Addr.add; split <;> simp_all] at h1
  refine ⟨h1, ?_⟩
  rcases h.2 with ⟨hv, _⟩ | ⟨g', cap', cur, hv, hb, hg, _⟩
  · cases hv
  · cases hv
    simp [World.frozen?, hg]
theorem elB1G : ElN Try.prog 45 5 1 1 := elB.toN
theorem infoBBG : (Try.prog.info? 45).map (fun i => (i.zero, i.size, i.bytes)) = some (some (.slice none 0 0), 1, 24) := by kernel_rfl
theorem elBBG : El Try.prog 54 45 24 (.slice none 0 0) := ⟨Try.underlying54, info_parts infoBBG, rfl⟩
theorem infoIG : (Try.prog.info? 3).map (fun i => (i.zero, i.size, i.bytes)) = some (some (.int .i64 0), 1, 8) := by kernel_rfl
theorem elIG : El Try.prog 121 3 8 (.int .i64 0) := ⟨Try.underlying121, info_parts infoIG, rfl⟩
def fbG (n : Nat → Nat) (i t : Nat) : Value := if t < n i then .int .u8 (10 + (i : Int)) else .int .u8 (100 + (i : Int))
/-- The lists themselves, what was grown, and whose it is. -/
def O3 (v : Value) (E : Nat) (us : List Value) (vl : Value) (E2 : Nat) (ls : List Value) (vh : Value) (E3 : Nat) (hs : List Value) : Outs
  | 0 => (v, E, us)
  | 1 => (vl, E2, ls)
  | 2 => (vh, E3, hs)
  | _ => (.slice none 0 0, 0, [])
theorem O3_one {v vl vl' vh : Value} {E E2 E3 : Nat} {us ls ls' hs : List Value} : ∀ r, r ≠ 1 → O3 v E us vl' E2 ls' vh E3 hs r = O3 v E us vl E2 ls vh E3 hs r
  | 0, _ => rfl
  | 1, h => absurd rfl h
  | 2, _ => rfl
  | _ + 3, _ => rfl
theorem O3_two {v vl vh vh' : Value} {E E2 E3 : Nat} {us ls hs hs' : List Value} : ∀ r, r ≠ 2 → O3 v E us vl E2 ls vh' E3 hs' r = O3 v E us vl E2 ls vh E3 hs r
  | 0, _ => rfl
  | 1, _ => rfl
  | 2, h => absurd rfl h
  | _ + 3, _ => rfl
theorem Gro.start3 {w0 w : World} {base E E2 E3 e : Nat} {v : Value} {us : List Value} {n : Nat → Nat} {F : Nat → Nat → Value} (H : Fil w base E e v us n F (fun k _ => k < us.length)) (c : Chg (ablk us) w0 w) : Gro w0 w base e (O3 v E us (.slice none 0 0) E2 [] (.slice none 0 0) E3 []) us n F 0 [] where
  out := fun q => match q with
    | 0 => H.out
    | 1 => World.ownsRow_nil _ _ _ _
    | 2 => World.ownsRow_nil _ _ _ _
    | _ + 3 => World.ownsRow_nil _ _ _ _
  oo := fun q q' h k h1 h2 => by
    match q, q', h with
    | 0, 0, h => exact h rfl
    | 0, 1, _ => cases h2
    | 0, 2, _ => cases h2
    | 0, _ + 3, _ => cases h2
    | 1, _, _ => cases h1
    | 2, _, _ => cases h1
    | _ + 3, _, _ => cases h1
  new := fun q h b hb => by
    match q, h with
    | 0, h => exact absurd rfl h
    | 1, _ => cases hb
    | 2, _ => cases hb
    | _ + 3, _ => cases hb
  rest := fun k u _ hu => by
    obtain ⟨xs, h1, h2⟩ := H.row k u hu
    have hk := (List.getElem?_eq_some_iff.1 hu).1
    rw [cellsF_ext (by simpa using h1.1) fun t ht => h2 t ht hk] at h1
    exact h1
  apart := fun k j u u' _ _ h1 h2 h => H.apart k j u u' h1 h2 h
  off := fun q k u _ hu => match q with
    | 0 => H.off k u hu
    | 1 => Apart.nil _
    | 2 => Apart.nil _
    | _ + 3 => Apart.nil _
  snap := fun x h => absurd h List.not_mem_nil
  chg := c
abbrev Ent := Value × Nat × Nat
/-- What was grown, and whose: the two lists' cells. -/
def lsE (E : List Ent) : List Value := E.map (·.1)
def hsE (E : List Ent) : List Value := E.map fun x => .int .i64 (x.2.1 : Int)
theorem lsE_len (E : List Ent) : (lsE E).length = E.length := List.length_map _
theorem lsE_snoc (E : List Ent) (x : Ent) : lsE (E ++ [x]) = lsE E ++ [x.1] := List.map_append
theorem hsE_snoc (E : List Ent) (x : Ent) : hsE (E ++ [x]) = hsE E ++ [.int .i64 (x.2.1 : Int)] := List.map_append
theorem hsE_len (E : List Ent) : (hsE E).length = E.length := List.length_map _
set_option maxRecDepth 20000 in
set_option maxHeartbeats 8000000 in
theorem apart_any07 (w : World) (base L c : Nat) (A : Option Addr) (us : List Value) (n : Nat → Nat) (hL : us.length = L) (H : Fil w base 45 5 (.slice A L c) us n (fbG n) (fun _ _ => False)) (hl : L ≤ 100) (hn : ∀ i, n i ≤ 140737488355000) (hbase : base ≤ w.heap.size) :
    Calls Try.prog 45 #[.slice A L c] w fun e w' => e = .returned (.bool true) ∧ Chg (ablk us) w w' := by
  have HH : Hd (Fil w base 45 5 (.slice A L c) us n (fbG n) (fun _ _ => False) ∧ us.length = L ∧ base ≤ w.heap.size ∧ (∀ i, n i ≤ 140737488355000)) := ⟨H, hL, hbase, hn⟩
  clear H hL hbase hn
  go_enter Try.func45, Try.ntmps45
  go_wp2_with fail
  go_loopw [3] (fun u3 wr => ∃ i : Nat, i ≤ L ∧ u3 = .int .i64 (i : Int) ∧ Fil wr base 45 5 (.slice A L c) us n (fbG n) (fun k _ => k < i) ∧ Chg (ablk us) w wr) (fun u3 _ => L - (intOf u3).toNat)
  case atStart => exact ⟨0, by omega, rfl, HH.out.1.imp fun k s _ h => absurd h (by omega), Chg.refl _ _⟩
  case round =>
    obtain ⟨i, hi, rfl, hF, hC⟩ := hrel
    have H1 := Hd.mk (And.intro hF hC)
    clear hF hC
    by_cases hlt : i < L
    · have hii : (i : Int) < (L : Int) := by omega
      obtain ⟨u, hu⟩ : ∃ u, us[i]? = some u := ⟨_, List.getElem?_eq_getElem (by rw [HH.out.2.1]; exact hlt)⟩
      have ho := H1.out.1.out
      rw [HH.out.2.1] at ho
      obtain ⟨gv, cv, e, _, hgv⟩ := own_pos ho (by omega)
      cases e
      obtain ⟨xs, hr, hd⟩ := H1.out.1.row i u hu
      obtain ⟨Ai, ci, hui, _, _⟩ := own_form hr
      subst hui
      obtain ⟨m, hm⟩ : ∃ m, n i = m := ⟨_, rfl⟩
      have hm2 := HH.out.2.2.2 i
      have HM := Hd.mk hm
      rw [hm] at hm2 hr
      have HU : Hd (us[i]? = some (.slice Ai m ci) ∧ True) := ⟨by rw [← hm]; exact hu, trivial⟩
      obtain ⟨wo, hwo⟩ : ∃ wo : World, wo = wr := ⟨_, rfl⟩
      subst hwo
      clear hr hd hu ho hm
      go_wp2_with fail
      go_loopw [4] (fun u4 wr => ∃ j : Nat, j ≤ m ∧ u4 = .int .i64 (j : Int) ∧ Fil wr base 45 5 (.slice (some ⟨gv, 0, none⟩) L c) us n (fbG n) (fun k s => k < i ∨ (k = i ∧ s < j)) ∧ Chg (ablk us) w wr) (fun u4 _ => m - (intOf u4).toNat)
      case atStart => exact ⟨0, by omega, rfl, H1.out.1.imp fun k s _ h => Or.elim h id (fun h => absurd h.2 (by omega)), H1.out.2⟩
      case round =>
        obtain ⟨j, hj, rfl, hF, hC⟩ := hrel
        have H2 := Hd.mk (And.intro hF hC)
        have ho := hF.out
        rw [HH.out.2.1] at ho
        obtain ⟨xs2, hr, hd⟩ := hF.row i _ HU.out.1
        have hcv := (own_atG ho (j := i) (u := .slice Ai m ci) HU.out.1).1
        clear hF hC ho hd
        by_cases hjl : j < m
        · have hji : (j : Int) < (m : Int) := by omega
          rw [HM.out] at hr
          obtain ⟨g, c2, e, _, hg⟩ := own_pos hr (by omega)
          cases e
          obtain ⟨old, hold⟩ : ∃ old, xs2[j]? = some old := ⟨_, List.getElem?_eq_getElem (by have := hr.1; omega)⟩
          obtain ⟨hc1, hc2⟩ := own_atG hr hold
          have HR := Hd.mk (And.intro hr hg)
          have hb1 : (10 + (i : Int)) % 256 = 10 + (i : Int) := by omega
          clear hr hold hg
          go_wp2_with fail
          go_roundw
          case rel =>
            refine ⟨j + 1, by omega, by go_num, ?_, H2.out.2.setCell (show g ∈ ablk us from blk_mem HU.out.1 rfl) _⟩
            have h := H2.out.1.set (i := i) (t := j) (g := g) (c := ci) (D' := fun k s => k < i ∨ (k = i ∧ s < j + 1)) (by rw [HM.out]; exact HU.out.1) (by rw [HM.out]; exact hjl) (fun k s h => by omega)
            rw [show fbG n i j = .int .u8 (10 + (i : Int)) by unfold fbG; rw [if_pos (by rw [HM.out]; exact hjl)]] at h
            exact h
          case measure => simp [intOf]; omega
        · have hjm : j = m := by omega
          subst hjm
          go_wp2_with fail
          go_roundw
          case rel => exact ⟨i + 1, by omega, by go_num, H2.out.1.imp fun k s hs h => by
            rcases Nat.lt_or_ge k i with h1 | h1
            · exact .inl h1
            · have : k = i := by omega
              subst this
              exact .inr ⟨rfl, by rw [← HM.out]; exact hs⟩, H2.out.2⟩
          case measure => simp [intOf]; omega
    · have hiL : i = L := by omega
      subst hiL
      have HG : Hd (Gro w wr base 5 (O3 (.slice A i c) 45 us (.slice none 0 0) 45 [] (.slice none 0 0) 3 []) us n (fbG n) 0 []) := ⟨Gro.start3 (by rw [HH.out.2.1]; exact H1.out.1) H1.out.2⟩
      clear H1
      obtain ⟨L, hL⟩ : ∃ L, L = i := ⟨_, rfl⟩
      subst hL
      go_wp2_with fail
      obtain ⟨wz, hwz⟩ : ∃ wz : World, wz = wr := ⟨_, rfl⟩
      subst hwz
      go_loopw [5, 6, 7] (fun u5 u6 u7 wr => ∃ (i : Nat) (E S : List Ent), i ≤ L ∧ u7 = .int .i64 (i : Int) ∧ E.length ≤ 64 * i ∧ Gro w wr base 5 (O3 (.slice A L c) 45 us u5 45 (lsE E) u6 3 (hsE E)) us n (fbG n) i S ∧ (∀ x ∈ E, x ∈ S ∧ x.2.1 < i ∧ x.2.2 ≤ n x.2.1 + 64) ∧ (∀ (k : Nat) (z : Value), k < i → us[k]? = some z → (z, k, n k) ∈ S)) (fun _ _ u7 _ => L - (intOf u7).toNat)
      case atStart => exact ⟨0, [], [], by omega, rfl, by simp, HG.out, fun x h => absurd h List.not_mem_nil, fun k z h => absurd h (by omega)⟩
      case round =>
        obtain ⟨i, E, S, hi, rfl, hll, hG, hs1, hs2⟩ := hrel
        have H1 := Hd.mk (And.intro hG (And.intro hll (And.intro hs1 hs2)))
        clear hG hll hs1 hs2
        by_cases hlt : i < L
        · have hii : (i : Int) < (L : Int) := by omega
          obtain ⟨u, hu⟩ : ∃ u, us[i]? = some u := ⟨_, List.getElem?_eq_getElem (by rw [HH.out.2.1]; exact hlt)⟩
          have HC := Hd.mk (H1.out.1.enter hu)
          have ho : wr.ownsRow base 45 1 (.slice A L c) us.length us := H1.out.1.out 0
          rw [HH.out.2.1] at ho
          obtain ⟨gv, cv, e, _, hgv⟩ := own_pos ho (by omega)
          cases e
          have hcv := (own_atG ho hu).1
          obtain ⟨Ai, ci, hui, _, _⟩ := own_form (H1.out.1.rest i u (Nat.le_refl _) hu)
          obtain ⟨m, hm⟩ : ∃ m, n i = m := ⟨_, rfl⟩
          have hm2 := HH.out.2.2.2 i
          have HM := Hd.mk hm
          rw [hm] at hm2 hui HC
          have HU := Hd.mk (And.intro hu hui)
          rw [hui] at hcv
          obtain ⟨wo, hwo⟩ : ∃ wo : World, wo = wr := ⟨_, rfl⟩
          subst hwo
          clear hu hui ho hm
          go_wp2_with fail
          go_loopw [5, 6, 8, 9] (fun u5 u6 u8 u9 wr => ∃ (k : Nat) (E2 M : List Ent), k ≤ 64 ∧ u9 = .int .i64 (k : Int) ∧ E2.length ≤ 64 * i + k ∧ Cur w wr base 5 (O3 (.slice (some ⟨gv, 0, none⟩) L c) 45 us u5 45 (lsE E2) u6 3 (hsE E2)) us n (fbG n) i S u8 (m + k) M ∧ (∀ x ∈ E2, x ∈ M ++ S ∧ x.2.1 < i + 1 ∧ x.2.2 ≤ n x.2.1 + 64) ∧ (u, i, m) ∈ M) (fun _ _ _ u9 _ => 64 - (intOf u9).toNat)
          case atStart => exact ⟨0, E, [(u, i, m)], by omega, rfl, by have := H1.out.2.1; omega, by rw [← HU.out.2]; exact HC.out, fun x hx => ⟨List.mem_append_right _ (H1.out.2.2.1 x hx).1, by have := (H1.out.2.2.1 x hx).2.1; omega, (H1.out.2.2.1 x hx).2.2⟩, List.mem_singleton.2 rfl⟩
          case round =>
            obtain ⟨k, E2, M, hk, rfl, hel, hc, he2, huM⟩ := hrel
            have H2 := Hd.mk hc
            have HE2 := Hd.mk (And.intro hel (And.intro he2 huM))
            have hws : base ≤ wr.heap.size := Nat.le_trans HH.out.2.2.1 hc.gro.chg.size
            clear hc hel he2 huM
            by_cases hkl : k < 64
            · have hb1 : (100 + (i : Int)) % 256 = 100 + (i : Int) := by omega
              have h63 : Hd (m + k + 1 ≤ maxLen) := ⟨by unfold maxLen; omega⟩
              have hby : Hd ((m + k + 1) * 1 ≤ 140737488355328) := ⟨by omega⟩
              have HWS := Hd.mk hws
              go_upto_region 18 with (at_builtin; refine pushSN_at0 elB1G rfl (.tmp 51) (.tmp 55) rfl base u8 (m + k) (cellsF (fbG n i) (m + k)) [.int .u8 (100 + (i : Int))] rfl wr.heap.size rfl rfl rfl (by simp [Value.oneCell']) H2.out.own h63.out hby.out hws ?_; intro v2 w2 hO2; have H3 := Hd.mk hO2; clear hO2)
              have HC2 : Hd (Cur w w2 base 5 (O3 (.slice (some ⟨gv, 0, none⟩) L c) 45 us u5 45 (lsE E2) u6 3 (hsE E2)) us n (fbG n) i S v2 (m + (k + 1)) M ∧ base ≤ w2.heap.size) := ⟨by
                have hap := H2.out.app1 (by unfold fbG; rw [if_neg (by rw [HM.out]; omega)]) H3.out
                exact ⟨hap, Nat.le_trans HH.out.2.2.1 hap.gro.chg.size⟩⟩
              clear H2 H3 hws h63 hby
              obtain ⟨bq, hbq⟩ : ∃ b : Bool, (decide (k < 16) || decide (k = 63)) = b := ⟨_, rfl⟩
              have HBQ := Hd.mk hbq
              clear hbq
              go_upto_region 18 with fail
              go_cut [62] from 57 to 62 (fun r wx => r = .bool bq ∧ wx = w2)
              case first =>
                by_cases h1 : k < 16
                · have h1i : (k : Int) < 16 := by omega
                  have e1 : bq = true := by rw [← HBQ.out]; simp [h1]
                  subst e1
                  go_wp2_with fail
                  go_meet
                  case rel => exact ⟨rfl, rfl⟩
                · have h1i : ¬ (k : Int) < 16 := by omega
                  by_cases h2 : k = 63
                  · subst h2
                    have e1 : bq = true := by rw [← HBQ.out]; rfl
                    subst e1
                    go_wp2_with fail
                    go_meet
                    case rel => exact ⟨rfl, rfl⟩
                  · have h2i : ¬ (k : Int) = 63 := by omega
                    have e1 : bq = false := by rw [← HBQ.out]; simp [h1, h2]
                    subst e1
                    go_wp2_with fail
                    go_meet
                    case rel => first | exact ⟨rfl, rfl⟩ | exact ⟨by simp [h2i], rfl⟩
              obtain ⟨hr62, hwc⟩ := hcut
              subst hr62
              rw [hwc]
              clear hwc
              go_upto_if 62 with fail
              rcases hbb : bq with _ | _
              · subst hbb
                go_wp2_with fail
                go_roundw
                case rel => exact ⟨k + 1, E2, M, by omega, by go_num, by have := HE2.out.1; omega, HC2.out.1, HE2.out.2.1, HE2.out.2.2⟩
                case measure => simp [intOf]; omega
              · subst hbb
                obtain ⟨Ag, cg, hv2, _⟩ := own_form HC2.out.1.own
                subst hv2
                have he := HE2.out.1
                have h63 : Hd (E2.length + 1 ≤ maxLen) := ⟨by unfold maxLen; omega⟩
                have hby : Hd ((E2.length + 1) * 24 ≤ 140737488355328) := ⟨by omega⟩
                have hby2 : Hd ((E2.length + 1) * 8 ≤ 140737488355328) := ⟨by omega⟩
                have ho5 : Hd (w2.ownsRow base 45 1 u5 E2.length (lsE E2)) := ⟨by have := HC2.out.1.gro.out 1; rw [← lsE_len]; exact this⟩
                clear he
                go_wp2_with (refine at_buildSlice ?_; first | (refine wpList_push elBBG rfl rfl (.tmp 63) (.tmp 64) 65 rfl rfl rfl base u5 E2.length (lsE E2) (.slice Ag (m + (k + 1)) cg) rfl rfl rfl rfl ho5.out h63.out hby.out HC2.out.2 ?_; intro v3 w3 hO2; have HC3 : Hd (Cur w w3 base 5 (O3 (.slice (some ⟨gv, 0, none⟩) L c) 45 us v3 45 (lsE E2 ++ [.slice Ag (m + (k + 1)) cg]) u6 3 (hsE E2)) us n (fbG n) i S (.slice Ag (m + (k + 1)) cg) (m + (k + 1)) ((.slice Ag (m + (k + 1)) cg, i, m + (k + 1)) :: M) ∧ base ≤ w3.heap.size) := ⟨by
                  have hp := HC2.out.1.push (q := 1) (O' := (O3 (.slice (some ⟨gv, 0, none⟩) L c) 45 us v3 45 (lsE E2 ++ [.slice Ag (m + (k + 1)) cg]) u6 3 (hsE E2))) (y := .slice Ag (m + (k + 1)) cg) (M' := (.slice Ag (m + (k + 1)) cg, i, m + (k + 1)) :: M) (by decide) rfl (by rw [lsE_len]; exact hO2) rfl O3_one (fun x hx => (List.mem_cons.1 hx).elim .inr .inl)
                  exact ⟨hp, Nat.le_trans HH.out.2.2.1 hp.gro.chg.size⟩⟩; have ho6 : Hd (w3.ownsRow base 3 1 u6 E2.length (hsE E2)) := ⟨by have := HC3.out.1.gro.out 2; rw [← hsE_len]; exact this⟩; clear hO2) | (refine wpList_push elIG rfl rfl (.tmp 67) (.tmp 68) 69 rfl rfl rfl base u6 E2.length (hsE E2) (.int .i64 (i : Int)) rfl rfl rfl rfl ho6.out h63.out hby2.out HC3.out.2 ?_; intro v4 w4 hO2; have HC4 : Hd (Cur w w4 base 5 (O3 (.slice (some ⟨gv, 0, none⟩) L c) 45 us v3 45 (lsE E2 ++ [.slice Ag (m + (k + 1)) cg]) v4 3 (hsE E2 ++ [.int .i64 (i : Int)])) us n (fbG n) i S (.slice Ag (m + (k + 1)) cg) (m + (k + 1)) ((.slice Ag (m + (k + 1)) cg, i, m + (k + 1)) :: M)) := ⟨HC3.out.1.push (q := 2) (O' := (O3 (.slice (some ⟨gv, 0, none⟩) L c) 45 us v3 45 (lsE E2 ++ [.slice Ag (m + (k + 1)) cg]) v4 3 (hsE E2 ++ [.int .i64 (i : Int)]))) (y := .int .i64 (i : Int)) (by decide) rfl (by rw [hsE_len]; exact hO2) rfl O3_two (fun x hx => .inl hx)⟩; clear hO2))
                go_roundw
                case rel =>
                  refine ⟨k + 1, E2 ++ [(.slice Ag (m + (k + 1)) cg, i, m + (k + 1))], (.slice Ag (m + (k + 1)) cg, i, m + (k + 1)) :: M, by omega, by go_num, by have := HE2.out.1; rw [List.length_append]; simp; omega, by rw [lsE_snoc, hsE_snoc]; exact HC4.out, fun x hx => ?_, List.mem_cons_of_mem _ HE2.out.2.2⟩
                  rcases List.mem_append.1 hx with h | h
                  · exact ⟨List.mem_append.2 ((List.mem_append.1 (HE2.out.2.1 x h).1).imp (fun h => List.mem_cons_of_mem _ h) id), (HE2.out.2.1 x h).2⟩
                  · rw [List.mem_singleton.1 h]; exact ⟨List.mem_append_left _ List.mem_cons_self, by show i < i + 1; omega, by show m + (k + 1) ≤ n i + 64; rw [HM.out]; omega⟩
                case measure => simp [intOf]; omega
            · have hk64 : k = 64 := by omega
              subst hk64
              go_wp2_with fail
              go_roundw
              case rel => exact ⟨i + 1, E2, M ++ S, by omega, by go_num, by have := HE2.out.1; omega, H2.out.leave, fun x hx => HE2.out.2.1 x hx, fun k z hk hz => by
                rcases Nat.lt_or_ge k i with h | h
                · exact List.mem_append_right _ (H1.out.2.2.2 k z h hz)
                · have hq2 : k = i := by omega
                  subst hq2
                  have : u = z := by have := HU.out.1; rw [hz] at this; injection this with this; exact this.symm
                  subst this
                  rw [HM.out]
                  exact List.mem_append_left _ HE2.out.2.2⟩
              case measure => simp [intOf]; omega
        · have hiL : i = L := by omega
          subst hiL
          have H4 : Hd ((∀ x ∈ E, SnapOf wr (fbG n) x) ∧ (∀ (k : Nat) (z : Value), us[k]? = some z → SnapOf wr (fbG n) (z, k, n k)) ∧ Chg (ablk us) w wr ∧ wr.ownsRow base 45 1 (.slice A i c) i us ∧ wr.ownsRow base 45 1 u5 E.length (lsE E) ∧ wr.ownsRow base 3 1 u6 E.length (hsE E) ∧ ∀ x ∈ E, x.2.1 < i ∧ x.2.2 ≤ n x.2.1 + 64) :=
            ⟨fun x h => (H1.out.1.snap _ (H1.out.2.2.1 x h).1).1, fun k z h => (H1.out.1.snap _ (H1.out.2.2.2 k z (by rw [← HH.out.2.1]; exact (List.getElem?_eq_some_iff.1 h).1) h)).1, H1.out.1.chg, by have := H1.out.1.out 0; rw [← HH.out.2.1] at this ⊢; exact this, by have := H1.out.1.out 1; rw [← lsE_len]; exact this, by have := H1.out.1.out 2; rw [← hsE_len]; exact this, fun x h => (H1.out.2.2.1 x h).2⟩
          have HL : Hd (us.length = i ∧ E.length ≤ 64 * i) := ⟨HH.out.2.1, H1.out.2.1⟩
          have hel : E.length ≤ 6400 := by have := H1.out.2.1; omega
          clear H1
          obtain ⟨L, hL⟩ : ∃ L, L = i := ⟨_, rfl⟩
          subst hL
          obtain ⟨N, hN⟩ : ∃ N, E.length = N := ⟨_, rfl⟩
          have HN := Hd.mk hN
          rw [hN] at H4 HL hel
          clear hN
          obtain ⟨A5, c5, hv5, _⟩ := own_form H4.out.2.2.2.2.1
          obtain ⟨A6, c6, hv6, _⟩ := own_form H4.out.2.2.2.2.2.1
          subst hv5 hv6
          obtain ⟨wy, hwy⟩ : ∃ wy : World, wy = wr := ⟨_, rfl⟩
          subst hwy
          go_wp2_with fail
          go_loopw [10] (fun u10 wr => ∃ (q : Nat), q ≤ N ∧ u10 = .int .i64 (q : Int) ∧ wr.heap = wy.heap ∧ Chg (ablk us) w wr) (fun u10 _ => N - (intOf u10).toNat)
          case atStart => exact ⟨0, by omega, rfl, rfl, H4.out.2.2.1⟩
          case round =>
            obtain ⟨q, hq, rfl, hh, hC⟩ := hrel
            have H5 := Hd.mk (And.intro hh hC)
            have hcell : ∀ p : Addr, wr.cell? p = wy.cell? p := fun p => by simp [World.cell?, hh]
            by_cases hlt : q < N
            · have hii : (q : Int) < (N : Int) := by omega
              obtain ⟨x, hx⟩ : ∃ x, E[q]? = some x := ⟨_, List.getElem?_eq_getElem (by rw [HN.out]; exact hlt)⟩
              obtain ⟨z, i, p⟩ := x
              have hxm := List.mem_of_getElem? hx
              have hb := H4.out.2.2.2.2.2.2 _ hxm
              simp only at hb
              have hiL := hb.1
              have hiI : (i : Int) < (L : Int) := by omega
              obtain ⟨u, hu⟩ : ∃ u, us[i]? = some u := ⟨_, List.getElem?_eq_getElem (by rw [HL.out.1]; exact hiL)⟩
              have hz : (lsE E)[q]? = some z := by unfold lsE; rw [List.getElem?_map, hx]; rfl
              have hw : (hsE E)[q]? = some (.int .i64 (i : Int)) := by unfold hsE; rw [List.getElem?_map, hx]; rfl
              have ho := H4.out.2.2.2.1
              obtain ⟨gv, cv, e, _, hgv⟩ := own_pos ho (by omega)
              cases e
              have ho5 := H4.out.2.2.2.2.1
              obtain ⟨gl, cl, e, _, hgl⟩ := own_pos ho5 (by omega)
              cases e
              have ho6 := H4.out.2.2.2.2.2.1
              obtain ⟨gh, chh, e, _, hgh⟩ := own_pos ho6 (by omega)
              cases e
              have hcv := (hcell _).trans (own_atG ho hu).1
              have hcl := (hcell _).trans (own_atG ho5 hz).1
              have hch := (hcell _).trans (own_atG ho6 hw).1
              have hsu := H4.out.2.1 i u hu
              have hsz := H4.out.1 _ hxm
              obtain ⟨Ai, ci, hui⟩ := hsu.form
              obtain ⟨Az, cz, hzi⟩ := hsz.form
              simp only at hui hzi
              obtain ⟨m, hm⟩ : ∃ m, n i = m := ⟨_, rfl⟩
              have hm2 := HH.out.2.2.2 i
              have hpb := hb.2
              have HM := Hd.mk hm
              rw [hm] at hm2 hui hsu hpb
              subst hui hzi
              have HS := Hd.mk (And.intro hsu hsz)
              obtain ⟨wo, hwo⟩ : ∃ wo : World, wo = wr := ⟨_, rfl⟩
              subst hwo
              clear hsu hsz hu hz hw ho ho5 ho6 hm hh hC hcell hb hx hxm
              have HCC := Hd.mk (And.intro hcv hcl)
              go_wp2_with fail
              go_loopw [12] (fun u12 wr => ∃ j : Nat, j ≤ p ∧ u12 = .int .i64 (j : Int) ∧ wr.heap = wy.heap ∧ Chg (ablk us) w wr) (fun u12 _ => p - (intOf u12).toNat)
              case atStart => exact ⟨0, by omega, rfl, H5.out⟩
              case round =>
                obtain ⟨j, hj, rfl, hh, hC⟩ := hrel
                have H6 := Hd.mk (And.intro hh hC)
                have hcell : ∀ p : Addr, wr.cell? p = wy.cell? p := fun p => by simp [World.cell?, hh]
                have hcv2 := (hcell ⟨gv, i, none⟩).trans ((World.cell?_of_block (a := ⟨gv, i, none⟩) (by rw [H5.out.1])).symm.trans hcv)
                have hcl2 := (hcell ⟨gl, q, none⟩).trans ((World.cell?_of_block (a := ⟨gl, q, none⟩) (by rw [H5.out.1])).symm.trans hcl)
                clear hcv hcl hch
                by_cases hjl : j < p
                · have hjt : (j : Int) < (p : Int) := by omega
                  obtain ⟨bz, _, ez, _, hz⟩ := HS.out.2.cell (t := j) hjl
                  cases ez
                  have hz2 := (hcell _).trans hz
                  by_cases hjm : j < m
                  · have hji : (j : Int) < (m : Int) := by omega
                    obtain ⟨bu, _, eu, _, hu⟩ := HS.out.1.cell (t := j) hjm
                    cases eu
                    have hu2 := (hcell _).trans hu
                    have hf : fbG n i j = .int .u8 (10 + (i : Int)) := by unfold fbG; rw [if_pos (by rw [HM.out]; exact hjm)]
                    simp only [hf] at hz2 hu2
                    clear hz hu hcell hh hC hf
                    have hb1 : (10 + (i : Int)) % 256 = 10 + (i : Int) := by omega
                    have e4 : (10 + (i : Int) != 10 + (i : Int)) = false := by simp
                    go_wp2_with fail
                    go_roundw
                    case rel => exact ⟨j + 1, by omega, by go_num, H6.out⟩
                    case measure => simp [intOf]; omega
                  · have hji : ¬ (j : Int) < (m : Int) := by omega
                    have hji2 : (m : Int) ≤ (j : Int) := by omega
                    have hf : fbG n i j = .int .u8 (100 + (i : Int)) := by unfold fbG; rw [if_neg (by rw [HM.out]; exact hjm)]
                    simp only [hf] at hz2
                    clear hz hcell hh hC hf
                    have hb1 : (100 + (i : Int)) % 256 = 100 + (i : Int) := by omega
                    have e4 : (100 + (i : Int) != 100 + (i : Int)) = false := by simp
                    go_wp2_with fail
                    go_roundw
                    case rel => exact ⟨j + 1, by omega, by go_num, H6.out⟩
                    case measure => simp [intOf]; omega
                · have hjm : j = p := by omega
                  subst hjm
                  clear hcell hh hC
                  go_wp2_with fail
                  go_roundw
                  case rel => exact ⟨q + 1, by omega, by go_num, H6.out⟩
                  case measure => simp [intOf]; omega
            · have hiL : N = q := by omega
              subst hiL
              clear hcell hh hC
              go_wp2_with fail
              go_ret
              exact ⟨rfl, H5.out.2⟩
end Go.Proofs.Ytjkenhkoakaaoaa
