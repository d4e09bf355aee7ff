
/- Contracts: the document's plain and Unshow. (tools/unsgen.py prints it.) -/
import Derived.Test.YtbcmjjcbjojakaaDoorPk12
import Derived.Test.YtbcmjjcbjojakaaDoorPk3
import Derived.Deep.RegionHeld
import Derived.Deep.MidRow
namespace Go.Proofs.YtbcmjjcbjojakaaDoor
open Go.RowKit
set_option linter.unusedVariables false
set_option linter.unusedSimpArgs false
def RpPost (t : ByteArray) (w : World) (e : Ending) (w' : World) : Prop :=
  Below w.heap.size w w' ∧ ((∃ k, unsL oneN (sb t) = some k ∧ k.length ≤ t.size ∧ e = .returned (.tuple #[.string (bstr k), .bool true])) ∨ (unsL oneN (sb t) = none ∧ e = .returned (.tuple #[.string ⟨#[]⟩, .bool false])))
theorem sb_cons (t : ByteArray) (pos : Nat) (h : pos < t.size) : (sb t).drop pos = (t[pos]'h).toNat :: (sb t).drop (pos + 1) := by
  have hl : pos < (sb t).length := by rw [sb_len]; exact h
  rw [List.drop_eq_getElem_cons hl]
  congr 1
  have := sb_get t pos h
  rw [List.getElem?_eq_getElem hl] at this
  injection this
theorem sb_getD (t : ByteArray) (pos k x : Nat) (h : pos + k < t.size) (hx : (t[pos + k]'h).toNat = x) : ((sb t).drop pos).getD k 0 = x := by
  rw [List.getD_eq_getElem?_getD, List.getElem?_drop, sb_get t _ h, hx]; rfl
theorem idx_run (t : ByteArray) (p x : Nat) (h : p < t.size) (hx : (t[p]'h).toNat = x) (W : World) : (Instr.index 9 (.string t) (.int .i64 (p : Int))).run Tryd.prog W = .ok (.int .u8 (x : Int)) W := by
  rw [run_index_string W 9 _ _ _ infoStr, dif_pos ⟨by omega, by omega⟩]
  simp only [Int.toNat_natCast, hx]
theorem sbAt_one (t : ByteArray) (p x : Nat) (h : p < t.size) (hx : (t[p]'h).toNat = x) : sbAt t p 1 = [x] := by
  unfold sbAt
  rw [sb_cons t p h, hx]; rfl
theorem map_map_app (o : Option (List Nat)) (a b : List Nat) : (o.map (b ++ ·)).map (a ++ ·) = o.map ((a ++ b) ++ ·) := by
  cases o with
  | none => rfl
  | some x => simp
theorem map_map_cons (o : Option (List Nat)) (a : List Nat) (b : Nat) : (o.map (b :: ·)).map (a ++ ·) = o.map ((a ++ [b]) ++ ·) := by
  cases o with
  | none => rfl
  | some x => simp
set_option maxRecDepth 20000 in
set_option maxHeartbeats 8000000 in
theorem rplain_any (w : World) (t : ByteArray) (ht : t.size ≤ 35184372088832) : Calls Tryd.prog 21 #[.string t] w (RpPost t w) := by
  have e0 : bstr [] = ⟨#[]⟩ := by decide +kernel
  go_enter Tryd.func21, Tryd.ntmps21
  go_wp2_with fail
  go_loopw [4, 5] (fun o i wr => ∃ (pos : Nat) (acc : List Nat), pos ≤ t.size ∧ i = .int .i64 (pos : Int) ∧ o = .string (bstr acc) ∧ acc.length ≤ pos ∧ Hd ((unsL oneN ((sb t).drop pos)).map (acc ++ ·) = unsL oneN (sb t)) ∧ Hd (Below w.heap.size w wr)) (fun _ i _ => t.size - (intOf i).toNat)
  case atStart => exact ⟨0, [], by omega, rfl, by rw [e0], by simp, ⟨by simp⟩, ⟨Below.refl _ _⟩⟩
  case round =>
    obtain ⟨pos, acc, hp1, rfl, rfl, hac, HS, HB⟩ := hrel
    clear e0
    have hkk : ((pos : Int)).toNat = pos := by omega
    by_cases hp : pos < t.size
    · obtain ⟨x, hx⟩ : ∃ x, (t[pos]'hp).toNat = x := ⟨_, rfl⟩
      have hx8 : x < 256 := by rw [← hx]; exact (t[pos]'hp).toNat_lt
      have hI := idx_run t pos x hp hx
      obtain ⟨p1, hp1e⟩ : ∃ q, pos + 1 = q := ⟨_, rfl⟩
      have hk1 : ((pos : Int) + 1).toNat = pos + 1 := by omega
      by_cases h92 : x = 92
      · have hxb : ((x : Int) == 92) = true := by simp [h92]
        have HD : Hd ((sb t).drop pos = 92 :: (sb t).drop p1) := ⟨by rw [← hp1e, sb_cons t pos hp, hx, h92]⟩
        have e1 : IntKind.i64.wrap ((pos : Int) + 1) = (p1 : Int) := by rw [IntKind.wrap_i64]; omega
        obtain ⟨p2, hp2e⟩ : ∃ q, p1 + 1 = q := ⟨_, rfl⟩
        obtain ⟨p3, hp3e⟩ : ∃ q, p2 + 1 = q := ⟨_, rfl⟩
        have e2 : IntKind.i64.wrap ((pos : Int) + 2) = (p2 : Int) := by rw [IntKind.wrap_i64]; omega
        have e3 : IntKind.i64.wrap ((pos : Int) + 3) = (p3 : Int) := by rw [IntKind.wrap_i64]; omega
        have e12 : IntKind.i64.wrap ((p1 : Int) + 1) = (p2 : Int) := by rw [IntKind.wrap_i64]; omega
        have e34 : IntKind.i64.wrap ((p3 : Int) + 1) = ((p3 + 1 : Nat) : Int) := by rw [IntKind.wrap_i64]; omega
        have HE := Hd.mk (And.intro e1 (And.intro e2 (And.intro e3 (And.intro e12 e34))))
        have HP : Hd (pos + 1 = p1 ∧ p1 + 1 = p2 ∧ p2 + 1 = p3) := ⟨hp1e, hp2e, hp3e⟩
        clear e2 e3 e12 e34 hx
        subst h92
        have HBAD : escF ((sb t).drop p1) = none → Hd (unsL oneN (sb t) = none) := fun h => ⟨by rw [← HS.out, HD.out, unsL_esc, h]; rfl⟩
        have HGOOD : ∀ b n, escF ((sb t).drop p1) = some (b, n) → Hd ((unsL oneN ((sb t).drop (p1 + n))).map ((acc ++ [b]) ++ ·) = unsL oneN (sb t)) := fun b n h => ⟨by rw [← HS.out, HD.out, unsL_esc, h]; simp only; rw [map_map_cons, List.drop_drop]⟩
        have HW := Hd.mk (And.intro HBAD HGOOD)
        clear HBAD HGOOD HS HD hk1
        by_cases hl1 : p1 < t.size
        · have hl1i : (p1 : Int) < (t.size : Int) := by omega
          obtain ⟨y, hy⟩ : ∃ y, (t[p1]'hl1).toNat = y := ⟨_, rfl⟩
          have hy8 : y < 256 := by rw [← hy]; exact (t[p1]'hl1).toNat_lt
          have hI1 := idx_run t p1 y hl1 hy
          have hg0 : ((sb t).drop p1).getD 0 0 = y := sb_getD t p1 0 y hl1 hy
          by_cases hq : y = 92 ∨ y = 34
          · have hE : escF ((sb t).drop p1) = some (y, 1) := by unfold escF; rw [hg0, if_pos hq]
            have HG := HW.out.2 y 1 hE
            have HC : Hd (bstr (sbAt t p1 1) = bstr [y]) := ⟨by rw [sbAt_one t p1 y hl1 hy]⟩
            have c1 := add_run acc (sbAt t p1 1) (by rw [sbAt_one t p1 y hl1 hy]; simp; omega)
            have hcut := cut_bstr t p1 1
            rw [hp2e] at hcut
            rw [← hcut] at c1
            obtain ⟨S0, h0⟩ : ∃ S0, bstr acc = S0 := ⟨_, rfl⟩
            obtain ⟨S2, h2⟩ : ∃ S2, bstr (acc ++ sbAt t p1 1) = S2 := ⟨_, rfl⟩
            rw [h0, h2] at c1
            rw [h0]
            have H2 : Hd (S2 = bstr (acc ++ [y])) := ⟨by rw [← h2, sbAt_one t p1 y hl1 hy]⟩
            have hk1 : ((p1 : Int)).toNat = p1 := by omega
            have hk2 : ((p2 : Int)).toNat = p2 := by omega
            have e2 := HE.out.2.1
            have e12 := HE.out.2.2.2.1
            have hle1 : (p1 : Int) ≤ (p2 : Int) := by omega
            have hle2 : (p2 : Int) ≤ (t.size : Int) := by omega
            clear h0 h2 hcut HC hE hg0 HW hy
            have hq2 : ((y : Int) == 92) = decide (y = 92) := by rw [Bool.eq_iff_iff]; simp; omega
            rcases hq with rfl | rfl
            · clear hq2
              go_wp2_with fail
              go_roundw
              case rel => exact ⟨p1 + 1, acc ++ [92], by omega, by go_num, by rw [H2.out], by simp; omega, HG, HB⟩
              case measure => simp [intOf]; omega
            · clear hq2
              go_wp2_with fail
              go_roundw
              case rel => exact ⟨p1 + 1, acc ++ [34], by omega, by go_num, by rw [H2.out], by simp; omega, HG, HB⟩
              case measure => simp [intOf]; omega
          · have hy1 : ((y : Int) == 92) = false := beq_eq_false_iff_ne.2 (by omega)
            have hy2 : ((y : Int) == 34) = false := beq_eq_false_iff_ne.2 (by omega)
            have e3 := HE.out.2.2.1
            by_cases hl3 : p3 < t.size
            · have hl3i : ¬ (t.size : Int) ≤ (p3 : Int) := by omega
              by_cases h120 : y = 120
              · have hy3 : ((y : Int) == 120) = true := by simp [h120]
                subst h120
                obtain ⟨a, ha⟩ : ∃ a, (t[p2]'(by omega)).toNat = a := ⟨_, rfl⟩
                obtain ⟨b, hb⟩ : ∃ b, (t[p3]'hl3).toNat = b := ⟨_, rfl⟩
                have ha8 : a < 256 := by rw [← ha]; exact (t[p2]'(by omega)).toNat_lt
                have hb8 : b < 256 := by rw [← hb]; exact (t[p3]'hl3).toNat_lt
                have hI2 := idx_run t p2 a (by omega) ha
                have hI3 := idx_run t p3 b hl3 hb
                have hg1 : ((sb t).drop p1).getD 1 0 = a := sb_getD t p1 1 a (by omega) (by simp only [hp2e]; exact ha)
                have hg2 : ((sb t).drop p1).getD 2 0 = b := sb_getD t p1 2 b (by omega) (by simp only [show p1 + 2 = p3 by omega]; exact hb)
                have hEs : escF ((sb t).drop p1) = (match dig a, dig b with | some p, some q => some (16 * p + q, 3) | _, _ => none) := by
                  unfold escF; rw [hg0, hg1, hg2, if_neg hq, if_pos rfl]
                  cases dig a <;> cases dig b <;> rfl
                clear hg0 hg1 hg2 hy ha hb hq
                have hDa : ∀ W, Calls Tryd.prog 33 #[.int .u8 (a : Int)] W fun e w' => e = .returned (.int .i64 (dgz a)) ∧ w' = W := fun W => rdigit_any W a ha8
                have hDb : ∀ W, Calls Tryd.prog 33 #[.int .u8 (b : Int)] W fun e w' => e = .returned (.int .i64 (dgz b)) ∧ w' = W := fun W => rdigit_any W b hb8
                have e2 := HE.out.2.1
                rcases hda : dig a with _ | p
                · have hz := dgz_none hda
                  rw [hz] at hDa
                  rw [hda] at hEs
                  have HN := HW.out.1 hEs
                  clear hEs hDb hz hda
                  go_wp2_with (refine (hDa _).mono ?_; rintro e z ⟨rfl, rfl⟩)
                  go_ret2
                  exact ⟨HB.out, .inr ⟨HN.out, rfl⟩⟩
                rcases hdb : dig b with _ | q
                · have hz := dgz_none hdb
                  obtain ⟨hwd, hp16⟩ := dgz_some hda
                  rw [hz] at hDb
                  rw [hwd] at hDa
                  rw [hda, hdb] at hEs
                  have HN := HW.out.1 hEs
                  have hpz : ¬ (p : Int) < 0 := by omega
                  clear hEs hz hwd hda hdb
                  go_wp2_with fail
                  refine (hDa _).mono ?_
                  rintro e z ⟨rfl, rfl⟩
                  go_wp2_with fail
                  refine (hDb _).mono ?_
                  rintro e z ⟨rfl, rfl⟩
                  go_wp2_with fail
                  go_ret2
                  exact ⟨HB.out, .inr ⟨HN.out, rfl⟩⟩
                obtain ⟨hz1, hp16⟩ := dgz_some hda
                obtain ⟨hwd, hq16⟩ := dgz_some hdb
                rw [hz1] at hDa
                rw [hwd] at hDb
                rw [hda, hdb] at hEs
                have HG := HW.out.2 _ _ hEs
                obtain ⟨v, hv⟩ : ∃ v, 16 * p + q = v := ⟨_, rfl⟩
                rw [hv] at HG
                have hv8 : v < 256 := by omega
                have HV : Hd (IntKind.i64.wrap (16 * (p : Int)) = 16 * (p : Int) ∧ IntKind.i64.wrap (16 * (p : Int) + (q : Int)) = (v : Int) ∧ IntKind.u8.wrap (v : Int) = (v : Int)) := ⟨by rw [IntKind.wrap_i64]; omega, by rw [IntKind.wrap_i64]; omega, by rw [IntKind.wrap_u8]; omega⟩
                have hpz : ¬ (p : Int) < 0 := by omega
                have hqz : ¬ (q : Int) < 0 := by omega
                clear hEs hz1 hwd hda hdb hv HW
                go_wp2_with fail
                refine (hDa _).mono ?_
                rintro e z ⟨rfl, hz⟩
                obtain rfl := hz.symm
                go_wp2_with fail
                refine (hDb _).mono ?_
                rintro e z ⟨rfl, hz⟩
                obtain rfl := hz.symm
                go_upto_region 12 with fail
                clear hI hI1 hxb hy1 hy2 hy3 hl1i hl3i hpz hqz
                have c1 := add_run acc [v] (by simp; omega)
                obtain ⟨S0, h0⟩ : ∃ S0, bstr acc = S0 := ⟨_, rfl⟩
                obtain ⟨S1, h1⟩ : ∃ S1, bstr [v] = S1 := ⟨_, rfl⟩
                obtain ⟨S2, h2⟩ : ∃ S2, bstr (acc ++ [v]) = S2 := ⟨_, rfl⟩
                rw [h0, h1, h2] at c1
                rw [h0]
                have H2 := Hd.mk h2
                have H1 := Hd.mk h1
                clear h0 h1 h2
                refine wp_region_held_drew (S := fun W => Below wr.heap.size wr W) (by kernel_rfl) (Below.refl wr.heap.size wr).drew (fun hHeld => ?_)
                obtain ⟨wd, hwd⟩ : ∃ U, wr.drew = U := ⟨_, rfl⟩
                have HWD := Hd.mk hHeld
                rw [hwd] at hHeld HWD ⊢
                clear hwd
                refine wpAnyH_take (i := 0) (oi := ?oi101) (v := ?v101) ?hi101 (by kernel_rfl) (by kernel_rfl) (by kernel_rfl) ?hQ101 (Or.inl ⟨?hw101, ?hy101⟩) (by assumption) ?rest101
                case hi101 => simp only [List.getElem?_toArray, List.getElem?_cons_succ, List.getElem?_cons_zero]; rfl
                case hQ101 => exact fun _ _ _ h => h
                case hw101 => rfl
                case hy101 => (intro W hW; have f1 := HV.out.1; have f2 := HV.out.2.1; have f3 := HV.out.2.2; go_simp; all_goals rfl)
                simp only [Act.put, List.setIfInBounds_toArray, List.set_cons_zero, List.set_cons_succ]
                refine wpAnyH_take (i := 1) (oi := ?oi102) (v := ?v102) ?hi102 (by kernel_rfl) (by kernel_rfl) (by kernel_rfl) ?hQ102 (Or.inl ⟨?hw102, ?hy102⟩) (by assumption) ?rest102
                case hi102 => simp only [List.getElem?_toArray, List.getElem?_cons_succ, List.getElem?_cons_zero]; rfl
                case hQ102 => exact fun _ _ _ h => h
                case hw102 => rfl
                case hy102 => (intro W hW; have f1 := HV.out.1; have f2 := HV.out.2.1; have f3 := HV.out.2.2; go_simp; all_goals rfl)
                simp only [Act.put, List.setIfInBounds_toArray, List.set_cons_zero, List.set_cons_succ]
                refine wpAnyH_take (i := 2) (oi := ?oi103) (v := ?v103) ?hi103 (by kernel_rfl) (by kernel_rfl) (by kernel_rfl) ?hQ103 (Or.inl ⟨?hw103, ?hy103⟩) (by assumption) ?rest103
                case hi103 => simp only [List.getElem?_toArray, List.getElem?_cons_succ, List.getElem?_cons_zero]; rfl
                case hQ103 => exact fun _ _ _ h => h
                case hw103 => rfl
                case hy103 => (intro W hW; have f1 := HV.out.1; have f2 := HV.out.2.1; have f3 := HV.out.2.2; go_simp; all_goals rfl)
                simp only [Act.put, List.setIfInBounds_toArray, List.set_cons_zero, List.set_cons_succ]
                refine wpAnyH_take (i := 3) (oi := ?oi104) (v := ?v104) ?hi104 (by kernel_rfl) (by kernel_rfl) (by kernel_rfl) ?hQ104 (Or.inl ⟨?hw104, ?hy104⟩) (by assumption) ?rest104
                case hi104 => simp only [List.getElem?_toArray, List.getElem?_cons_succ, List.getElem?_cons_zero]; rfl
                case hQ104 => exact fun _ _ _ h => h
                case hw104 => rfl
                case hy104 => (intro W hW; have f1 := HV.out.1; have f2 := HV.out.2.1; have f3 := HV.out.2.2; go_simp; all_goals rfl)
                simp only [Act.put, List.setIfInBounds_toArray, List.set_cons_zero, List.set_cons_succ]
                refine wpAnyH_take (i := 4) (oi := ?oi105) (v := ?v105) ?hi105 (by kernel_rfl) (by kernel_rfl) (by kernel_rfl) ?hQ105 (Or.inl ⟨?hw105, ?hy105⟩) (by assumption) ?rest105
                case hi105 => simp only [List.getElem?_toArray, List.getElem?_cons_succ, List.getElem?_cons_zero]; rfl
                case hQ105 => exact fun _ _ _ h => h
                case hw105 => rfl
                case hy105 => (intro W hW; have f1 := HV.out.1; have f2 := HV.out.2.1; have f3 := HV.out.2.2; go_simp; all_goals rfl)
                simp only [Act.put, List.setIfInBounds_toArray, List.set_cons_zero, List.set_cons_succ]
                refine wpAnyH_take (i := 7) (oi := ?oi106) (v := ?v106) ?hi106 (by kernel_rfl) (by kernel_rfl) (by kernel_rfl) ?hQ106 (Or.inl ⟨?hw106, ?hy106⟩) (by assumption) ?rest106
                case hi106 => simp only [List.getElem?_toArray, List.getElem?_cons_succ, List.getElem?_cons_zero]; rfl
                case hQ106 => exact fun _ _ _ h => h
                case hw106 => rfl
                case hy106 => (intro W hW; have f1 := HV.out.1; have f2 := HV.out.2.1; have f3 := HV.out.2.2; go_simp; all_goals rfl)
                simp only [Act.put, List.setIfInBounds_toArray, List.set_cons_zero, List.set_cons_succ]
                refine wpAnyH_take (i := 8) (oi := ?oi107) (v := ?v107) ?hi107 (by kernel_rfl) (by kernel_rfl) (by kernel_rfl) ?hQ107 (Or.inl ⟨?hw107, ?hy107⟩) (by assumption) ?rest107
                case hi107 => simp only [List.getElem?_toArray, List.getElem?_cons_succ, List.getElem?_cons_zero]; rfl
                case hQ107 => exact fun _ _ _ h => h
                case hw107 => rfl
                case hy107 => (intro W hW; have f1 := HV.out.1; have f2 := HV.out.2.1; have f3 := HV.out.2.2; go_simp; all_goals rfl)
                simp only [Act.put, List.setIfInBounds_toArray, List.set_cons_zero, List.set_cons_succ]
                refine wpAnyH_take (i := 9) (oi := ?oi108) (v := ?v108) ?hi108 (by kernel_rfl) (by kernel_rfl) (by kernel_rfl) ?hQ108 (Or.inl ⟨?hw108, ?hy108⟩) (by assumption) ?rest108
                case hi108 => simp only [List.getElem?_toArray, List.getElem?_cons_succ, List.getElem?_cons_zero]; rfl
                case hQ108 => exact fun _ _ _ h => h
                case hw108 => rfl
                case hy108 => (intro W hW; have f1 := HV.out.1; have f2 := HV.out.2.1; have f3 := HV.out.2.2; go_simp; all_goals rfl)
                simp only [Act.put, List.setIfInBounds_toArray, List.set_cons_zero, List.set_cons_succ]
                refine wpAnyH_take (i := 10) (oi := ?oi109) (v := ?v109) ?hi109 (by kernel_rfl) (by kernel_rfl) (by kernel_rfl) ?hQ109 (Or.inl ⟨?hw109, ?hy109⟩) (by assumption) ?rest109
                case hi109 => simp only [List.getElem?_toArray, List.getElem?_cons_succ, List.getElem?_cons_zero]; rfl
                case hQ109 => exact fun _ _ _ h => h
                case hw109 => rfl
                case hy109 => (intro W hW; have f1 := HV.out.1; have f2 := HV.out.2.1; have f3 := HV.out.2.2; go_simp; all_goals rfl)
                simp only [Act.put, List.setIfInBounds_toArray, List.set_cons_zero, List.set_cons_succ]
                refine wpAnyH_ready (rs := [5]) (by kernel_rfl) (by simp) ?_
                refine AllReadyH.cons (i := 5) (o := ?o110) ?ho110 (fun Kq hK => ?step110) AllReadyH.nil
                case ho110 => simp only [List.getElem?_toArray, List.getElem?_cons_succ, List.getElem?_cons_zero]; rfl
                go_simp
                (go_at_call 33; refine (hDa wd).mono ?_; rintro e z ⟨rfl, hz⟩; obtain rfl := hz.symm)
                refine hK.out _ _ HWD.out (fun _ => ?_)
                clear hK Kq
                try simp only [Act.put, List.setIfInBounds_toArray, List.set_cons_zero, List.set_cons_succ]
                refine wpAnyH_take (i := 6) (oi := ?oi111) (v := ?v111) ?hi111 (by kernel_rfl) (by kernel_rfl) (by kernel_rfl) ?hQ111 (Or.inl ⟨?hw111, ?hy111⟩) (by assumption) ?rest111
                case hi111 => simp only [List.getElem?_toArray, List.getElem?_cons_succ, List.getElem?_cons_zero]; rfl
                case hQ111 => exact fun _ _ _ h => h
                case hw111 => rfl
                case hy111 => (intro W hW; have f1 := HV.out.1; have f2 := HV.out.2.1; have f3 := HV.out.2.2; go_simp; all_goals rfl)
                simp only [Act.put, List.setIfInBounds_toArray, List.set_cons_zero, List.set_cons_succ]
                refine wpAnyH_ready (rs := [11]) (by kernel_rfl) (by simp) ?_
                refine AllReadyH.cons (i := 11) (o := ?o112) ?ho112 (fun Kq hK => ?step112) AllReadyH.nil
                case ho112 => simp only [List.getElem?_toArray, List.getElem?_cons_succ, List.getElem?_cons_zero]; rfl
                go_simp
                (go_at_call 33; refine (hDb wd).mono ?_; rintro e z ⟨rfl, hz⟩; obtain rfl := hz.symm)
                refine hK.out _ _ HWD.out (fun _ => ?_)
                clear hK Kq
                try simp only [Act.put, List.setIfInBounds_toArray, List.set_cons_zero, List.set_cons_succ]
                refine wpAnyH_take (i := 12) (oi := ?oi113) (v := ?v113) ?hi113 (by kernel_rfl) (by kernel_rfl) (by kernel_rfl) ?hQ113 (Or.inl ⟨?hw113, ?hy113⟩) (by assumption) ?rest113
                case hi113 => simp only [List.getElem?_toArray, List.getElem?_cons_succ, List.getElem?_cons_zero]; rfl
                case hQ113 => exact fun _ _ _ h => h
                case hw113 => rfl
                case hy113 => (intro W hW; have f1 := HV.out.1; have f2 := HV.out.2.1; have f3 := HV.out.2.2; go_simp; all_goals rfl)
                simp only [Act.put, List.setIfInBounds_toArray, List.set_cons_zero, List.set_cons_succ]
                refine wpAnyH_take (i := 13) (oi := ?oi114) (v := ?v114) ?hi114 (by kernel_rfl) (by kernel_rfl) (by kernel_rfl) ?hQ114 (Or.inl ⟨?hw114, ?hy114⟩) (by assumption) ?rest114
                case hi114 => simp only [List.getElem?_toArray, List.getElem?_cons_succ, List.getElem?_cons_zero]; rfl
                case hQ114 => exact fun _ _ _ h => h
                case hw114 => rfl
                case hy114 => (intro W hW; have f1 := HV.out.1; have f2 := HV.out.2.1; have f3 := HV.out.2.2; go_simp; all_goals rfl)
                simp only [Act.put, List.setIfInBounds_toArray, List.set_cons_zero, List.set_cons_succ]
                refine wpAnyH_ready (rs := [14]) (by kernel_rfl) (by simp) ?_
                refine AllReadyH.cons (i := 14) (o := ?o115) ?ho115 (fun Kq hK => ?step115) AllReadyH.nil
                case ho115 => simp only [List.getElem?_toArray, List.getElem?_cons_succ, List.getElem?_cons_zero]; rfl
                go_simp
                skip
                obtain ⟨wa, hwa⟩ : ∃ U, wd.alloc (.cells #[.int .u8 (v : Int)] 5) = U := ⟨_, rfl⟩
                have HWF : Hd (Below wr.heap.size wr wa ∧ wa.cell? ⟨wd.heap.size, 0, none⟩ = some (.int .u8 (v : Int))) := ⟨by rw [← hwa]; exact ⟨HWD.out.alloc HWD.out.size _, by rw [cell_of_row _ wd.heap.size 0 #[.int .u8 (v : Int)] _ (0, 0) (heap_alloc_new _ _)]; rfl⟩⟩
                try rw [hwa]
                refine hK.out _ _ HWF.out.1 (fun _ => ?_)
                clear hK Kq hwa
                try simp only [Act.put, List.setIfInBounds_toArray, List.set_cons_zero, List.set_cons_succ]
                have f15 : (convert 28 9 (.slice (some ⟨wd.heap.size, 0, none⟩) 1 1)).run Tryd.prog wa = .ok (.string S1) wa := by
                  rw [← H1.out]
                  have hr : Rd wa wa.heap.size (some ⟨wd.heap.size, 0, none⟩) 1 (cb [v]) := ⟨rfl, fun _ => ⟨_, 0, rfl, by have := World.block_lt_of_cell? wa _ HWF.out.2; exact this, fun i hi => by (have : i = 0 := by omega); subst this; exact HWF.out.2⟩⟩
                  rw [cb_ints] at hr
                  exact run_conv_str _ _ 5 Tryd.underlying28 Tryd.underlying5 Tryd.underlying9 1 hr
                refine wpAnyH_ready (rs := [15]) (by kernel_rfl) (by simp) ?_
                refine AllReadyH.cons (i := 15) (o := ?o116) ?ho116 (fun Kq hK => ?step116) AllReadyH.nil
                case ho116 => simp only [List.getElem?_toArray, List.getElem?_cons_succ, List.getElem?_cons_zero]; rfl
                go_simp
                skip
                refine hK.out _ _ HWF.out.1 (fun _ => ?_)
                clear hK Kq f15
                try simp only [Act.put, List.setIfInBounds_toArray, List.set_cons_zero, List.set_cons_succ]
                refine wpAnyH_take (i := 16) (oi := ?oi117) (v := ?v117) ?hi117 (by kernel_rfl) (by kernel_rfl) (by kernel_rfl) ?hQ117 (Or.inl ⟨?hw117, ?hy117⟩) (by assumption) ?rest117
                case hi117 => simp only [List.getElem?_toArray, List.getElem?_cons_succ, List.getElem?_cons_zero]; rfl
                case hQ117 => exact fun _ _ _ h => h
                case hw117 => rfl
                case hy117 => (intro W hW; have f1 := HV.out.1; have f2 := HV.out.2.1; have f3 := HV.out.2.2; go_simp; all_goals rfl)
                simp only [Act.put, List.setIfInBounds_toArray, List.set_cons_zero, List.set_cons_succ]
                refine wpAnyH_take (i := 17) (oi := ?oi118) (v := ?v118) ?hi118 (by kernel_rfl) (by kernel_rfl) (by kernel_rfl) ?hQ118 (Or.inl ⟨?hw118, ?hy118⟩) (by assumption) ?rest118
                case hi118 => simp only [List.getElem?_toArray, List.getElem?_cons_succ, List.getElem?_cons_zero]; rfl
                case hQ118 => exact fun _ _ _ h => h
                case hw118 => rfl
                case hy118 => (intro W hW; have f1 := HV.out.1; have f2 := HV.out.2.1; have f3 := HV.out.2.2; go_simp; all_goals rfl)
                simp only [Act.put, List.setIfInBounds_toArray, List.set_cons_zero, List.set_cons_succ]
                refine wpAnyH_done (by kernel_rfl) ?_ _
                have HWF := Hd.mk HWF.out.1
                clear hHeld
                go_wp2_with fail
                go_roundw
                case rel => exact ⟨p1 + 3, acc ++ [v], by omega, by have := HE.out.2.2.2.2; go_num, by rw [H2.out], by simp; omega, HG, ⟨HB.out.trans (HWF.out.mono HB.out.size)⟩⟩
                case measure => simp [intOf]; omega
              · have hy3 : ((y : Int) == 120) = false := beq_eq_false_iff_ne.2 (by omega)
                have hE : escF ((sb t).drop p1) = none := by unfold escF; rw [hg0, if_neg hq, if_neg h120]
                have HN := HW.out.1 hE
                clear hE hg0 HW hy hq
                go_wp2_with fail
                go_ret2
                exact ⟨HB.out, .inr ⟨HN.out, rfl⟩⟩
            · have hl3i : (t.size : Int) ≤ (p3 : Int) := by omega
              have hE : escF ((sb t).drop p1) = none := by
                have hg2 : ((sb t).drop p1).getD 2 0 = 0 := by rw [List.getD_eq_getElem?_getD, List.getElem?_eq_none (by rw [List.length_drop, sb_len]; omega)]; rfl
                have hd0 : dig 0 = none := by decide
                unfold escF; rw [hg0, if_neg hq, hg2, hd0]
                split
                · cases dig (((sb t).drop p1).getD 1 0) <;> rfl
                · rfl
              have HN := HW.out.1 hE
              clear hE hg0 HW hy hq
              go_wp2_with fail
              go_ret2
              exact ⟨HB.out, .inr ⟨HN.out, rfl⟩⟩
        · have hl1i : ¬ (p1 : Int) < (t.size : Int) := by omega
          have hl3i : (t.size : Int) ≤ (p3 : Int) := by omega
          have e3 := HE.out.2.2.1
          have hE : escF ((sb t).drop p1) = none := by
            have : (sb t).drop p1 = [] := List.drop_eq_nil_of_le (by rw [sb_len]; omega)
            rw [this]; decide
          have HN := HW.out.1 hE
          clear hE HW
          go_wp2_with fail
          go_ret2
          exact ⟨HB.out, .inr ⟨HN.out, rfl⟩⟩
      · have hxb : ((x : Int) == 92) = false := beq_eq_false_iff_ne.2 (by omega)
        have HG : Hd ((unsL oneN ((sb t).drop (pos + 1))).map ((acc ++ [x]) ++ ·) = unsL oneN (sb t)) := ⟨by
          rw [← HS.out, sb_cons t pos hp, hx, unsL_plain _ _ _ h92, map_map_app]; rfl⟩
        have c1 := add_run acc (sbAt t pos 1) (by rw [sbAt_one t pos x hp hx]; simp; omega)
        rw [← cut_bstr t pos 1] at c1
        obtain ⟨S0, h0⟩ : ∃ S0, bstr acc = S0 := ⟨_, rfl⟩
        obtain ⟨S2, h2⟩ : ∃ S2, bstr (acc ++ sbAt t pos 1) = S2 := ⟨_, rfl⟩
        rw [h0, h2] at c1
        rw [h0]
        have H2 : Hd (S2 = bstr (acc ++ [x])) := ⟨by rw [← h2, sbAt_one t pos x hp hx]⟩
        clear h0 h2 HS hx h92 hp1e
        go_wp2_with fail
        go_roundw
        case rel => exact ⟨pos + 1, acc ++ [x], by omega, by go_num, by rw [H2.out], by simp; omega, HG, HB⟩
        case measure => simp [intOf]; omega
    · have HN : Hd (unsL oneN (sb t) = some acc) := ⟨by
        have : (sb t).drop pos = [] := List.drop_eq_nil_of_le (by rw [sb_len]; omega)
        rw [← HS.out, this]; simp [unsL_nil]⟩
      clear HS
      go_wp2_with fail
      go_ret2
      exact ⟨HB.out, .inl ⟨acc, HN.out, by omega, rfl⟩⟩
end Go.Proofs.YtbcmjjcbjojakaaDoor
