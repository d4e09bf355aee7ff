/- The contract of the reference's Groups. -/
import Derived.Test.YtplpaipmkpjgfaaRefGP
import Derived.Maps.RangeWalk
namespace Go.Proofs.Ytplpaipmkpjgfaa
open Go.RowKit
set_option linter.unusedVariables false
set_option linter.unusedSimpArgs false
theorem infoHd : (Try.prog.info? 52).map (·.size) = some 16 := by kernel_rfl
theorem infoRG : (Try.prog.info? 77).map (fun i => (i.zero, i.size, i.bytes)) = some (some (.agg #[.int .i64 0, .int .i64 0, .int .i64 0, .slice none 0 0]), 4, 48) := by kernel_rfl
theorem elRG : ElN Try.prog 38 77 4 48 := by
  obtain ⟨i, hi, h⟩ := Option.map_eq_some_iff.1 infoRG
  simp only [Prod.mk.injEq] at h
  exact ⟨Try.underlying38, ⟨i, _, hi, h.1, h.2.1, h.2.2, rfl⟩, by omega⟩
theorem Hdr.one (h : Hdr) : h.cells.toArray.all (·.oneCell') = true := all_oneCell_toArray fun u hu => by
  unfold Hdr.cells at hu
  simp only [List.mem_cons, List.not_mem_nil, or_false] at hu
  rcases hu with rfl | rfl | rfl | rfl | rfl | rfl | rfl | rfl | rfl | rfl | rfl | rfl | rfl | rfl | rfl | rfl <;> rfl
theorem head_range {w : World} {g o : Nat} {x : Sn} (h : w.rangeAt g o x.cells) : w.rangeAt g (o + 1) x.hd.cells := fun j v hv => by
  have := h (j + 1) v (by
    unfold Sn.cells
    rw [List.getElem?_cons_succ, List.getElem?_append_left (List.getElem?_eq_some_iff.1 hv).1]
    exact hv)
  rwa [show o + 1 + j = o + (j + 1) by omega]
theorem stepN_at0 {P : Program} {t e size bytes : Nat} {ops : Array Oper} {o : Oper} {a : Act} {w0 : World} {Q : Exit → Act → World → Prop} {K : Act → World → Prop} {Z : Prop} (E : ElN P t e size bytes) (hgd : o.guard = none) (s x : Operand) (ho : o.op = .call { callee := .builtin .append, args := #[s, x], argTypes := #[t, t] })
    (base : Nat) (v : Value) (n : Nat) (xs us : List Value) (hs : a.eval s = v) (N : Nat) (hN : w0.heap.size = N) (hx : a.eval x = .slice (some ⟨N, 0, none⟩) 1 1) (hus : us.length = size) (h1 : ∀ u ∈ us, u.oneCell' = true) (hown : w0.ownsRow base e size v n xs)
    (h63 : n + 1 ≤ maxLen) (hby : (n + 1) * bytes ≤ 140737488355328) (hbase : base ≤ w0.heap.size)
    (h : ∀ v' w', OntoN w0 w' base e size v v' (n + 1) (xs ++ us) → K (a.put o.dst v') w') :
    if Region.wanted o (yielded ops a.tmps) = true then Oper.wp P o a (w0.alloc (.cells us.toArray e)) K Q else Z := by
  subst hN
  have hw : Region.wanted o (yielded ops a.tmps) = true := by simp [Region.wanted, hgd]
  rw [if_pos hw]
  have hr : RdN (w0.alloc (.cells us.toArray e)) (· < w0.heap.size + 1) size (some ⟨w0.heap.size, 0, none⟩) 1 us := by
    refine ⟨by omega, fun _ => ⟨w0.heap.size, 0, rfl, by omega, fun i hi => ?_⟩⟩
    simp
  obtain ⟨v', w', hrun, g1⟩ := run_appN E o.type base v n xs (hown.alloc (.cells us.toArray e)) _ _ 1 1 us hr h1 h63 hby (by simp; omega)
  unfold Oper.wp execOp
  simp only [ho, resolve, invoke, builtin, Sem.run_bind, Sem.run_pure, Result.andThen_ok, List.map_toArray, List.map_cons, List.map_nil, hs, hx, hrun]
  refine h v' w' ⟨g1.1, (World.grownBy_alloc w0 _ v.ownBlock).trans g1.2.1, fun k hk => ?_⟩
  rcases g1.2.2 k hk with h1 | h1
  · exact .inl h1
  · simp at h1; exact .inr (by omega)
theorem top_not_mem {S : Nat → Sn} {n j : Nat} (hj : j < (grpL S n).length) : (grpL S n).getD j (0, 0, 0) ∉ (grpL S n).take j := fun hm => by
  obtain ⟨t, ht, e⟩ := List.getElem_of_mem hm
  rw [List.length_take] at ht
  rw [List.getElem_take] at e
  have := grpL_desc (show t < j by omega) hj
  rw [← e, List.getD_eq_getElem?_getD, List.getElem?_eq_getElem (by omega)] at this
  exact olderW_irr _ this
theorem keep9 {w6 W W' : World} {g i1 i2 i3 B : Nat} {a b c d e f : Value} (hB : B < w6.heap.size) (hg : g < w6.heap.size)
    (h : Below w6.heap.size w6 W ∧ W.cell? ⟨B, 14, none⟩ = some a ∧ W.cell? ⟨B, 15, none⟩ = some b ∧ W.cell? ⟨B, 12, none⟩ = some c ∧ W.cell? ⟨g, i1, none⟩ = some d ∧ W.cell? ⟨g, i2, none⟩ = some e ∧ W.cell? ⟨g, i3, none⟩ = some f) (hb : Below W.heap.size W W') :
    Below w6.heap.size w6 W' ∧ W'.cell? ⟨B, 14, none⟩ = some a ∧ W'.cell? ⟨B, 15, none⟩ = some b ∧ W'.cell? ⟨B, 12, none⟩ = some c ∧ W'.cell? ⟨g, i1, none⟩ = some d ∧ W'.cell? ⟨g, i2, none⟩ = some e ∧ W'.cell? ⟨g, i3, none⟩ = some f := by
  have hB' : B < W.heap.size := Nat.lt_of_lt_of_le hB h.1.size
  have hg' : g < W.heap.size := Nat.lt_of_lt_of_le hg h.1.size
  exact ⟨h.1.trans (hb.mono h.1.size), (hb.cell (p := ⟨B, 14, none⟩) hB').trans h.2.1, (hb.cell (p := ⟨B, 15, none⟩) hB').trans h.2.2.1, (hb.cell (p := ⟨B, 12, none⟩) hB').trans h.2.2.2.1, (hb.cell (p := ⟨g, i1, none⟩) hg').trans h.2.2.2.2.1, (hb.cell (p := ⟨g, i2, none⟩) hg').trans h.2.2.2.2.2.1, (hb.cell (p := ⟨g, i3, none⟩) hg').trans h.2.2.2.2.2.2⟩
set_option maxRecDepth 20000 in
set_option maxHeartbeats 40000000 in
theorem refgroups_any (w : World) (Q n c : Nat) (A : Option Addr) (S : Nat → Sn) (hv : View w Q A n S) (hQ : Q ≤ w.heap.size) (hn : n * 120 ≤ 140737488351232) :
    Calls Try.prog 18 #[.slice A n c] w fun e w' => ∃ v, e = .returned v ∧ (∃ f, GLT 77 w.heap.size w' S n f v (grpL S n)) ∧ Below w.heap.size w w' := by
  have HH : Hd (View w Q A n S ∧ Q ≤ w.heap.size) := ⟨hv, hQ⟩
  clear hv hQ
  obtain ⟨L, hL⟩ : ∃ L, grpL S n = L := ⟨_, rfl⟩
  have hLn : L.length ≤ n := hL ▸ grpL_le S n
  have HL := Hd.mk hL
  rw [hL]
  clear hL
  go_enter Try.func18, Try.ntmps18
  go_wp2_with fail
  go_loopw [3] (fun v wr => ∃ j : Nat, j ≤ L.length ∧ (∃ A' c', v = .slice A' j c') ∧ ∃ f, GLT 77 w.heap.size wr S n f v (L.take j) ∧ Below w.heap.size w wr) (fun v _ => match v with | .slice _ m _ => L.length - m | _ => 0)
  case atStart => exact ⟨0, by omega, ⟨_, _, rfl⟩, fun _ => .slice none 0 0, GLT.none _ _ _ _ _ _, Below.refl _ _⟩
  case round =>
    obtain ⟨j, hj, ⟨A', c', rfl⟩, f, hG, hB⟩ := hrel
    have H1 := Hd.mk (And.intro hG hB)
    clear hG hB
    obtain ⟨wo, rfl⟩ : ∃ wo, wo = wr := ⟨_, rfl⟩
    go_wp2_with fail
    go_loopw [4, 5] (fun b i w2 => ∃ (k : Nat) (best : Int), k ≤ n ∧ i = .int .i64 (k : Int) ∧ b = .int .i64 best ∧ BestAt S L j k best ∧ Below wo.heap.size wo w2) (fun _ i _ => n - (intOf i).toNat)
    case atStart => exact ⟨0, -1, by omega, rfl, rfl, BestAt.start S L j, Below.refl _ _⟩
    case round =>
      obtain ⟨k, best, hk, rfl, rfl, hA, hB⟩ := hrel
      have H2 := Hd.mk (And.intro hA hB)
      clear hA hB
      by_cases hlt : k < n
      · have hki : (k : Int) < (n : Int) := by omega
        obtain ⟨g, off, hA, hg, d0, _, _, _, _, hrg, hok⟩ := (HH.out.1.below ((H1.out.2.trans (H2.out.2.mono H1.out.2.size)).mono HH.out.2)).at_ hlt
        subst hA
        have HR := Hd.mk (head_range hrg)
        clear hrg hok hg
        have hk2 : Hd ((S k).kind = 2 ∨ (S k).kind ≠ 2) := ⟨Decidable.em _⟩
        obtain ⟨kd, hkd⟩ : ∃ z, (S k).kind = z := ⟨_, rfl⟩
        rw [hkd] at d0
        have HKD := Hd.mk hkd
        clear hkd
        rcases q : (kd != 2) with _ | _
        · have HK : Hd ((S k).kind = 2) := ⟨by rw [HKD.out]; simpa using q⟩
          clear q
          obtain rfl : kd = 2 := by rw [← HKD.out]; exact HK.out
          obtain ⟨ek, hek⟩ : ∃ z, (S k).hd.epoch = z := ⟨_, rfl⟩
          obtain ⟨ck, hck⟩ : ∃ z, (S k).hd.count = z := ⟨_, rfl⟩
          obtain ⟨sk, hsk⟩ : ∃ z, (S k).hd.size = z := ⟨_, rfl⟩
          have HE : Hd (wrOf (S k) = (ek, ck, sk)) := ⟨by unfold wrOf; rw [hek, hck, hsk]⟩
          have HV : Hd ((S k).hd.epoch = ek ∧ (S k).hd.count = ck ∧ (S k).hd.size = sk) := ⟨hek, hck, hsk⟩
          clear hek hck hsk
          go_wp2_with (first
            | (refine at_load ?_; refine wpList_load_mid rfl 52 (.tmp 24) rfl g (off + k * 19 + 1) rfl (S k).hd.cells _ HR.out Try.underlying52 rfl infoHd ?_)
            | (refine at_store ?_; refine wpList_boxed rfl 52 (.tmp 6) (.tmp 25) rfl wr.heap.size rfl (S k).hd.cells.toArray rfl rfl infoHd rfl (Hdr.one _) ?_; intro w5 HW5
               have b0 : w5.cell? ⟨wr.heap.size, 14, none⟩ = some (.int .i64 ek) := by rw [cell_of_row _ _ _ _ _ _ HW5.out.1, ← HV.out.1]; rfl
               have b1 : w5.cell? ⟨wr.heap.size, 15, none⟩ = some (.int .i64 ck) := by rw [cell_of_row _ _ _ _ _ _ HW5.out.1, ← HV.out.2.1]; rfl
               have b2 : w5.cell? ⟨wr.heap.size, 12, none⟩ = some (.int .i64 sk) := by rw [cell_of_row _ _ _ _ _ _ HW5.out.1, ← HV.out.2.2]; rfl))
          rcases Nat.eq_zero_or_pos j with hjz | hjz
          · subst hjz
            have HO : Hd (okJ L 0 (ek, ck, sk)) := ⟨.inl rfl⟩
            go_frame
            go_quiet (fail)
            obtain ⟨w6, hw6⟩ : ∃ w6, w5.drewN nq = w6 := ⟨_, rfl⟩
            have H6 : Hd (w6.cell? ⟨wr.heap.size, 14, none⟩ = some (.int .i64 ek) ∧ w6.cell? ⟨wr.heap.size, 15, none⟩ = some (.int .i64 ck) ∧ w6.cell? ⟨wr.heap.size, 12, none⟩ = some (.int .i64 sk) ∧ Below wr.heap.size wr w6 ∧ wr.heap.size < w6.heap.size) := ⟨by subst hw6; exact ⟨b0, b1, b2, below_drewN HW5.out.2.1 _, by show _ < w5.heap.size; have := HW5.out.2.2; omega⟩⟩
            clear b0 b1 b2
            rw [hw6]
            clear hw6 HW5
            go_wp2_with fail
            rcases H2.out.1.form with hbf | ⟨b, hbf, hbk, hkb⟩
            · subst hbf
              have HN := Hd.mk (H2.out.1.first HK.out (HE.out.symm ▸ HO.out))
              go_quiet (fail)
              go_wp2_with fail
              go_roundw
              case rel => exact ⟨k + 1, k, by omega, by go_num, rfl, HN.out, H2.out.2.trans ((below_drewN H6.out.2.2.2.1 _).mono H2.out.2.size)⟩
              case measure => simp [intOf]; omega
            · subst hbf
              obtain ⟨g2, off2, hA2, hg2, _, x13, x15, x16, _, _, _⟩ := (HH.out.1.below ((H1.out.2.trans ((H2.out.2.trans (H6.out.2.2.2.1.mono H2.out.2.size)).mono H1.out.2.size)).mono HH.out.2)).at_ (r := b) (by omega)
              injection hA2 with hA2
              injection hA2 with hA2 hA3
              subst hA2 hA3
              have HG6 : Hd (g < w6.heap.size) := ⟨by have := H1.out.2.size; have := H2.out.2.size; have := H6.out.2.2.2.1.size; have := HH.out.2; omega⟩
              have HO9 : Hd (∀ r, r = olderW (wrOf (S b)) (wrOf (S k)) → r = olderW (wrOf (S b)) (ek, ck, sk)) := ⟨fun r h => by rw [h, HE.out]⟩
              obtain ⟨eb, heb⟩ : ∃ z, (S b).hd.epoch = z := ⟨_, rfl⟩
              obtain ⟨cb', hcb⟩ : ∃ z, (S b).hd.count = z := ⟨_, rfl⟩
              obtain ⟨sb, hsb⟩ : ∃ z, (S b).hd.size = z := ⟨_, rfl⟩
              have HEb : Hd (wrOf (S b) = (eb, cb', sb)) := ⟨by unfold wrOf; rw [heb, hcb, hsb]⟩
              rw [heb] at x15
              rw [hcb] at x16
              rw [hsb] at x13
              have HX := Hd.mk (And.intro x15 (And.intro x16 x13))
              clear heb hcb hsb x13 x15 x16 hg2
              have hb0 : ¬ ((b : Int) < 0) := by omega
              have hbn : (b : Int) < (n : Int) := by omega
              have hbn2 : b < n := by omega
              go_region_held3 (fun W => Below w6.heap.size w6 W ∧ W.cell? ⟨wr.heap.size, 14, none⟩ = some (.int .i64 ek) ∧ W.cell? ⟨wr.heap.size, 15, none⟩ = some (.int .i64 ck) ∧ W.cell? ⟨wr.heap.size, 12, none⟩ = some (.int .i64 sk) ∧ W.cell? ⟨g, off + b * 19 + 15, none⟩ = some (.int .i64 eb) ∧ W.cell? ⟨g, off + b * 19 + 16, none⟩ = some (.int .i64 cb') ∧ W.cell? ⟨g, off + b * 19 + 13, none⟩ = some (.int .i64 sb))
                (first | (exact keep9 H6.out.2.2.2.2 HG6.out (by assumption) hb) | (exact ⟨(Below.refl _ _).drew, H6.out.1, H6.out.2.1, H6.out.2.2.1, HX.out.1, HX.out.2.1, HX.out.2.2⟩))
                (first | (go_at_call 27; refine (older_any _ eb cb' sb ek ck sk).mono ?_; rintro e w' ⟨rfl, hb⟩))
              have H9 : Hd (Below w6.heap.size w6 w') := ⟨And.left (by assumption)⟩
              have HB9 : Hd (Below wo.heap.size wo w') := ⟨H2.out.2.trans ((H6.out.2.2.2.1.trans (H9.out.mono H6.out.2.2.2.1.size)).mono H2.out.2.size)⟩
              by_cases ho : olderW (eb, cb', sb) (ek, ck, sk)
              · have HN := Hd.mk (H2.out.1.better HK.out (HE.out.symm ▸ HO.out) (by rw [HEb.out, HE.out]; exact ho))
                have hd := decide_eq_true ho
                rw [hd]
                clear ho hd
                go_wp2_with fail
                go_roundw
                case rel => exact ⟨k + 1, k, by omega, by go_num, rfl, HN.out, HB9.out⟩
                case measure => simp [intOf]; omega
              · have HN := Hd.mk (H2.out.1.same (by rw [HEb.out, HE.out]; exact ho))
                have hd := decide_eq_false ho
                rw [hd]
                clear ho hd
                go_wp2_with fail
                go_roundw
                case rel => exact ⟨k + 1, b, by omega, by go_num, rfl, HN.out, HB9.out⟩
                case measure => simp [intOf]; omega
          · obtain ⟨i3, hi3⟩ : ∃ i3, j = i3 + 1 := ⟨j - 1, by omega⟩
            have h3j : i3 < j := by omega
            obtain ⟨gv, cv, hvv, _, hgv, hrv⟩ := H1.out.1.at_ (i := i3) (by rw [List.length_take]; omega)
            have hlt8 : (L.take j).length = j := by rw [List.length_take]; omega
            rw [hlt8] at hvv
            injection hvv with hv1 hv2 hv3
            subst hv1 hv3
            have hgd : (L.take j).getD i3 (0, 0, 0) = L.getD i3 (0, 0, 0) := by
              rw [List.getD_eq_getElem?_getD, List.getD_eq_getElem?_getD, List.getElem?_take, if_pos (by omega)]
            rw [hgd] at hrv
            obtain ⟨e3, c3, s3, hx3⟩ : ∃ a b c, L.getD i3 (0, 0, 0) = (a, b, c) := ⟨_, _, _, rfl⟩
            rw [hx3] at hrv
            have hok : Hd (okJ L j (ek, ck, sk) ↔ olderW (ek, ck, sk) (e3, c3, s3)) := ⟨by
              unfold okJ; rw [show j - 1 = i3 by omega, hx3]
              exact ⟨fun h => h.resolve_left (by omega), .inr⟩⟩
            have s1 : IntKind.i64.wrap (i3 : Int) = (i3 : Int) := IntWalk.i64_in _ (by omega)
            have s2 : (j : Int) - 1 = (i3 : Int) := by omega
            have hgw : gv < wr.heap.size := Nat.lt_of_lt_of_le hgv H2.out.2.size
            have hb5 : Below wo.heap.size wo w5 := H2.out.2.trans (HW5.out.2.1.mono H2.out.2.size)
            have x0 : w5.cell? ⟨gv, i3 * 4, none⟩ = some (.int .i64 e3) := (hb5.cell (p := ⟨gv, _, none⟩) hgv).trans (hrv 0 _ rfl)
            have x1 : w5.cell? ⟨gv, i3 * 4 + 1, none⟩ = some (.int .i64 c3) := (hb5.cell (p := ⟨gv, _, none⟩) hgv).trans (hrv 1 _ rfl)
            have x2 : w5.cell? ⟨gv, i3 * 4 + 2, none⟩ = some (.int .i64 s3) := (hb5.cell (p := ⟨gv, _, none⟩) hgv).trans (hrv 2 _ rfl)
            have HX5 := Hd.mk (And.intro b0 (And.intro b1 (And.intro b2 (And.intro x0 (And.intro x1 x2)))))
            have HS5 : Hd (wr.heap.size < w5.heap.size ∧ gv < w5.heap.size) := ⟨by have := HW5.out.2.2; omega⟩
            clear b0 b1 b2 x0 x1 x2 hb5 hrv hgd hgv hgw hlt8 hv2 hx3 hi3
            have hj0 : (0 : Int) < (j : Int) := by omega
            have hij : (i3 : Int) < (j : Int) := by omega
            go_frame
            go_region_held3 (fun W => Below w5.heap.size w5 W ∧ W.cell? ⟨wr.heap.size, 14, none⟩ = some (.int .i64 ek) ∧ W.cell? ⟨wr.heap.size, 15, none⟩ = some (.int .i64 ck) ∧ W.cell? ⟨wr.heap.size, 12, none⟩ = some (.int .i64 sk) ∧ W.cell? ⟨gv, i3 * 4, none⟩ = some (.int .i64 e3) ∧ W.cell? ⟨gv, i3 * 4 + 1, none⟩ = some (.int .i64 c3) ∧ W.cell? ⟨gv, i3 * 4 + 2, none⟩ = some (.int .i64 s3))
              (first | (exact keep9 HS5.out.1 HS5.out.2 (by assumption) hb) | (exact ⟨(Below.refl _ _).drew, HX5.out.1, HX5.out.2.1, HX5.out.2.2.1, HX5.out.2.2.2.1, HX5.out.2.2.2.2.1, HX5.out.2.2.2.2.2⟩))
              (first | (go_at_call 27; refine (older_any _ ek ck sk e3 c3 s3).mono ?_; rintro e w' ⟨rfl, hb⟩))
            obtain ⟨hb9, b0, b1, b2, _⟩ : _ ∧ _ ∧ _ ∧ _ ∧ _ := by assumption
            have HB8 := Hd.mk hb9
            clear hb9
            by_cases ho8 : olderW (ek, ck, sk) (e3, c3, s3)
            · have HO : Hd (okJ L j (ek, ck, sk)) := ⟨hok.out.2 ho8⟩
              have hd8 := decide_eq_true ho8
              rw [hd8]
              clear ho8 hd8 HX5
              obtain ⟨w6, hw6⟩ : ∃ w6, w' = w6 := ⟨_, rfl⟩
              have H6 : Hd (w6.cell? ⟨wr.heap.size, 14, none⟩ = some (.int .i64 ek) ∧ w6.cell? ⟨wr.heap.size, 15, none⟩ = some (.int .i64 ck) ∧ w6.cell? ⟨wr.heap.size, 12, none⟩ = some (.int .i64 sk) ∧ Below wr.heap.size wr w6 ∧ wr.heap.size < w6.heap.size) := ⟨by subst hw6; exact ⟨b0, b1, b2, HW5.out.2.1.trans (HB8.out.mono (by have := HW5.out.2.2; omega)), by have := HB8.out.size; have := HW5.out.2.2; omega⟩⟩
              clear b0 b1 b2
              rw [hw6]
              clear hw6 HW5
              go_wp2_with fail
              rcases H2.out.1.form with hbf | ⟨b, hbf, hbk, hkb⟩
              · subst hbf
                have HN := Hd.mk (H2.out.1.first HK.out (HE.out.symm ▸ HO.out))
                go_quiet (fail)
                go_wp2_with fail
                go_roundw
                case rel => exact ⟨k + 1, k, by omega, by go_num, rfl, HN.out, H2.out.2.trans ((below_drewN H6.out.2.2.2.1 _).mono H2.out.2.size)⟩
                case measure => simp [intOf]; omega
              · subst hbf
                obtain ⟨g2, off2, hA2, hg2, _, x13, x15, x16, _, _, _⟩ := (HH.out.1.below ((H1.out.2.trans ((H2.out.2.trans (H6.out.2.2.2.1.mono H2.out.2.size)).mono H1.out.2.size)).mono HH.out.2)).at_ (r := b) (by omega)
                injection hA2 with hA2
                injection hA2 with hA2 hA3
                subst hA2 hA3
                have HG6 : Hd (g < w6.heap.size) := ⟨by have := H1.out.2.size; have := H2.out.2.size; have := H6.out.2.2.2.1.size; have := HH.out.2; omega⟩
                have HO9 : Hd (∀ r, r = olderW (wrOf (S b)) (wrOf (S k)) → r = olderW (wrOf (S b)) (ek, ck, sk)) := ⟨fun r h => by rw [h, HE.out]⟩
                obtain ⟨eb, heb⟩ : ∃ z, (S b).hd.epoch = z := ⟨_, rfl⟩
                obtain ⟨cb', hcb⟩ : ∃ z, (S b).hd.count = z := ⟨_, rfl⟩
                obtain ⟨sb, hsb⟩ : ∃ z, (S b).hd.size = z := ⟨_, rfl⟩
                have HEb : Hd (wrOf (S b) = (eb, cb', sb)) := ⟨by unfold wrOf; rw [heb, hcb, hsb]⟩
                rw [heb] at x15
                rw [hcb] at x16
                rw [hsb] at x13
                have HX := Hd.mk (And.intro x15 (And.intro x16 x13))
                clear heb hcb hsb x13 x15 x16 hg2
                have hb0 : ¬ ((b : Int) < 0) := by omega
                have hbn : (b : Int) < (n : Int) := by omega
                have hbn2 : b < n := by omega
                go_region_held3 (fun W => Below w6.heap.size w6 W ∧ W.cell? ⟨wr.heap.size, 14, none⟩ = some (.int .i64 ek) ∧ W.cell? ⟨wr.heap.size, 15, none⟩ = some (.int .i64 ck) ∧ W.cell? ⟨wr.heap.size, 12, none⟩ = some (.int .i64 sk) ∧ W.cell? ⟨g, off + b * 19 + 15, none⟩ = some (.int .i64 eb) ∧ W.cell? ⟨g, off + b * 19 + 16, none⟩ = some (.int .i64 cb') ∧ W.cell? ⟨g, off + b * 19 + 13, none⟩ = some (.int .i64 sb))
                  (first | (exact keep9 H6.out.2.2.2.2 HG6.out (by assumption) hb) | (exact ⟨(Below.refl _ _).drew, H6.out.1, H6.out.2.1, H6.out.2.2.1, HX.out.1, HX.out.2.1, HX.out.2.2⟩))
                  (first | (go_at_call 27; refine (older_any _ eb cb' sb ek ck sk).mono ?_; rintro e w' ⟨rfl, hb⟩))
                have H9 : Hd (Below w6.heap.size w6 w') := ⟨And.left (by assumption)⟩
                have HB9 : Hd (Below wo.heap.size wo w') := ⟨H2.out.2.trans ((H6.out.2.2.2.1.trans (H9.out.mono H6.out.2.2.2.1.size)).mono H2.out.2.size)⟩
                by_cases ho : olderW (eb, cb', sb) (ek, ck, sk)
                · have HN := Hd.mk (H2.out.1.better HK.out (HE.out.symm ▸ HO.out) (by rw [HEb.out, HE.out]; exact ho))
                  have hd := decide_eq_true ho
                  rw [hd]
                  clear ho hd
                  go_wp2_with fail
                  go_roundw
                  case rel => exact ⟨k + 1, k, by omega, by go_num, rfl, HN.out, HB9.out⟩
                  case measure => simp [intOf]; omega
                · have HN := Hd.mk (H2.out.1.same (by rw [HEb.out, HE.out]; exact ho))
                  have hd := decide_eq_false ho
                  rw [hd]
                  clear ho hd
                  go_wp2_with fail
                  go_roundw
                  case rel => exact ⟨k + 1, b, by omega, by go_num, rfl, HN.out, HB9.out⟩
                  case measure => simp [intOf]; omega
            · have HO : Hd (¬ okJ L j (ek, ck, sk)) := ⟨fun h => ho8 (hok.out.1 h)⟩
              have hd8 := decide_eq_false ho8
              rw [hd8]
              clear ho8 hd8
              have HB9 : Hd (Below wo.heap.size wo w') := ⟨H2.out.2.trans ((HW5.out.2.1.trans (HB8.out.mono (by have := HW5.out.2.2; omega))).mono H2.out.2.size)⟩
              go_wp2_with fail
              go_roundw
              case rel => exact ⟨k + 1, best, by omega, by go_num, rfl, H2.out.1.skip (fun _ => by rw [HE.out]; exact HO.out), HB9.out⟩
              case measure => simp [intOf]; omega
        · have HK : Hd ((S k).kind ≠ 2) := ⟨by rw [HKD.out]; simpa using q⟩
          go_wp2_with fail
          go_roundw
          case rel => exact ⟨k + 1, best, by omega, by go_num, rfl, H2.out.1.skip (fun h => absurd h HK.out), H2.out.2⟩
          case measure => simp [intOf]; omega
      · have hkn : k = n := by omega
        subst hkn
        rcases H2.out.1.form with hbf | ⟨b, hbf, hbk, hkb⟩
        · subst hbf
          have HJ : Hd (j = L.length) := ⟨by have := H2.out.1; have h1 := HL.out; rw [← h1] at this hj ⊢; exact best_none hj this⟩
          go_wp2_with fail
          go_ret
          exact ⟨_, rfl, ⟨f, by have := H1.out.1.keep H2.out.2; rwa [HJ.out, List.take_length, ← HJ.out] at this⟩, H1.out.2.trans (H2.out.2.mono H1.out.2.size)⟩
        · subst hbf
          have hbs : b < k ∧ j < L.length ∧ wrOf (S b) = L.getD j (0, 0, 0) := by have := H2.out.1; have h1 := HL.out; rw [← h1] at this hj ⊢; exact best_some hj this
          obtain ⟨hbn, hjl, hbw⟩ := hbs
          have HBW := Hd.mk hbw
          clear hbw
          obtain ⟨g, off, hA, hg, _, _, _, _, _, hrg, hok⟩ := (HH.out.1.below ((H1.out.2.trans (H2.out.2.mono H1.out.2.size)).mono HH.out.2)).at_ hbn
          subst hA
          have HR := Hd.mk (head_range hrg)
          clear hrg hok hg
          obtain ⟨ek, hek⟩ : ∃ z, (S b).hd.epoch = z := ⟨_, rfl⟩
          obtain ⟨ck, hck⟩ : ∃ z, (S b).hd.count = z := ⟨_, rfl⟩
          obtain ⟨sk, hsk⟩ : ∃ z, (S b).hd.size = z := ⟨_, rfl⟩
          have HE : Hd (L.getD j (0, 0, 0) = (ek, ck, sk)) := ⟨by rw [← HBW.out]; unfold wrOf; rw [hek, hck, hsk]⟩
          have HV : Hd ((S b).hd.epoch = ek ∧ (S b).hd.count = ck ∧ (S b).hd.size = sk) := ⟨hek, hck, hsk⟩
          clear hek hck hsk
          have hb0 : ¬ ((b : Int) < 0) := by omega
          have hbi : (b : Int) < (k : Int) := by omega
          go_wp2_with (first
            | (refine at_load ?_; refine wpList_load_mid rfl 52 (.tmp 82) rfl g (off + b * 19 + 1) rfl (S b).hd.cells _ HR.out Try.underlying52 rfl infoHd ?_)
            | (refine at_store ?_; refine wpList_boxed rfl 52 (.tmp 7) (.tmp 83) rfl wr.heap.size rfl (S b).hd.cells.toArray rfl rfl infoHd rfl (Hdr.one _) ?_; intro w5 HW5
               have b0 : w5.cell? ⟨wr.heap.size, 14, none⟩ = some (.int .i64 ek) := by rw [cell_of_row _ _ _ _ _ _ HW5.out.1, ← HV.out.1]; rfl
               have b1 : w5.cell? ⟨wr.heap.size, 15, none⟩ = some (.int .i64 ck) := by rw [cell_of_row _ _ _ _ _ _ HW5.out.1, ← HV.out.2.1]; rfl
               have b2 : w5.cell? ⟨wr.heap.size, 12, none⟩ = some (.int .i64 sk) := by rw [cell_of_row _ _ _ _ _ _ HW5.out.1, ← HV.out.2.2]; rfl))
          (try go_frame)
          have HB5 : Hd (Below wo.heap.size wo w5 ∧ w.heap.size ≤ w5.heap.size) := ⟨H2.out.2.trans (HW5.out.2.1.mono H2.out.2.size), by have := H1.out.2.size; have := H2.out.2.size; have := HW5.out.2.2; omega⟩
          have HG5 := Hd.mk (H1.out.1.keep HB5.out.1)
          have HPL : Hd (∀ W, Below w5.heap.size w5 W → Calls Try.prog 37 #[.slice (some ⟨g, off, none⟩) k c, .agg #[.int .i64 ek, .int .i64 ck], .int .i64 sk] W fun e w' => ∃ v, e = .returned v ∧ w'.ownsRow W.heap.size 3 1 v (plc S (ek, ck, sk) k).length (iz (plc S (ek, ck, sk) k)) ∧ Below W.heap.size W w') := ⟨fun W hW => places_any W w.heap.size k c _ S (((HH.out.1.more HH.out.2).below (H1.out.2.trans (HB5.out.1.mono H1.out.2.size))).below (hW.mono HB5.out.2)) (Nat.le_trans HB5.out.2 hW.size) hn ek ck sk⟩
          clear b0 b1 b2
          have HNM : Hd ((ek, ck, sk) ∉ L.take j) := ⟨by rw [← HE.out, ← HL.out]; exact top_not_mem (by rw [HL.out]; exact hjl)⟩
          have HCC : Hd (∀ W : World, W.heap[wr.heap.size]? = some (.cells (S b).hd.cells.toArray 52 (0, 0)) → W.cell? ⟨wr.heap.size, 14, none⟩ = some (.int .i64 ek) ∧ W.cell? ⟨wr.heap.size, 15, none⟩ = some (.int .i64 ck) ∧ W.cell? ⟨wr.heap.size, 12, none⟩ = some (.int .i64 sk)) := ⟨fun W hW => by
            refine ⟨?_, ?_, ?_⟩ <;> rw [cell_of_row _ _ _ _ _ _ hW]
            · rw [← HV.out.1]; rfl
            · rw [← HV.out.2.1]; rfl
            · rw [← HV.out.2.2]; rfl⟩
          have HB6 : Hd (∀ W : World, Below w5.heap.size w5 W → wr.heap.size < W.heap.size) := ⟨fun W hW => by have := hW.size; have := HW5.out.2.2; omega⟩
          have HV5 : Hd ((Value.slice A' j c').ownBlock = none ∨ (Value.slice A' j c').ownBlock ≠ some wr.heap.size) := ⟨by
            cases hvb : (Value.slice A' j c').ownBlock with
            | none => exact .inl rfl
            | some g9 => exact .inr fun e => by have h1 := (H1.out.1.out.lt g9 hvb).2; have := H2.out.2.size; injection e with e; omega⟩
          refine wp_region_held_drew (S := fun W : World => W.heap[wr.heap.size]? = some (.cells (S b).hd.cells.toArray 52 (0, 0))) (by kernel_rfl) HW5.out.1 (fun hHeld => ?_)
          skip
          refine wpAnyH_take (i := 0) (oi := ?oi1) (v := ?v1) ?hi1 (by kernel_rfl) (by kernel_rfl) (by kernel_rfl) ?hQ1 (Or.inl ⟨?hw1, ?hy1⟩) (by assumption) ?rest1
          case hi1 => simp only [List.getElem?_toArray, List.getElem?_cons_succ, List.getElem?_cons_zero]; rfl
          case hQ1 => exact fun _ _ _ h => h
          case hw1 => rfl
          case hy1 => (intro W hW; have q0 := HCC.out W hW; obtain ⟨q0, q1, q2⟩ := q0; go_simp; all_goals rfl)
          simp only [Act.put, List.setIfInBounds_toArray, List.set_cons_zero, List.set_cons_succ]
          refine wpAnyH_take (i := 1) (oi := ?oi2) (v := ?v2) ?hi2 (by kernel_rfl) (by kernel_rfl) (by kernel_rfl) ?hQ2 (Or.inl ⟨?hw2, ?hy2⟩) (by assumption) ?rest2
          case hi2 => simp only [List.getElem?_toArray, List.getElem?_cons_succ, List.getElem?_cons_zero]; rfl
          case hQ2 => exact fun _ _ _ h => h
          case hw2 => rfl
          case hy2 => (intro W hW; have q0 := HCC.out W hW; obtain ⟨q0, q1, q2⟩ := q0; go_simp; all_goals rfl)
          simp only [Act.put, List.setIfInBounds_toArray, List.set_cons_zero, List.set_cons_succ]
          refine wpAnyH_take (i := 2) (oi := ?oi3) (v := ?v3) ?hi3 (by kernel_rfl) (by kernel_rfl) (by kernel_rfl) ?hQ3 (Or.inl ⟨?hw3, ?hy3⟩) (by assumption) ?rest3
          case hi3 => simp only [List.getElem?_toArray, List.getElem?_cons_succ, List.getElem?_cons_zero]; rfl
          case hQ3 => exact fun _ _ _ h => h
          case hw3 => rfl
          case hy3 => (intro W hW; have q0 := HCC.out W hW; obtain ⟨q0, q1, q2⟩ := q0; go_simp; all_goals rfl)
          simp only [Act.put, List.setIfInBounds_toArray, List.set_cons_zero, List.set_cons_succ]
          refine wpAnyH_take (i := 3) (oi := ?oi4) (v := ?v4) ?hi4 (by kernel_rfl) (by kernel_rfl) (by kernel_rfl) ?hQ4 (Or.inl ⟨?hw4, ?hy4⟩) (by assumption) ?rest4
          case hi4 => simp only [List.getElem?_toArray, List.getElem?_cons_succ, List.getElem?_cons_zero]; rfl
          case hQ4 => exact fun _ _ _ h => h
          case hw4 => rfl
          case hy4 => (intro W hW; have q0 := HCC.out W hW; obtain ⟨q0, q1, q2⟩ := q0; go_simp; all_goals rfl)
          simp only [Act.put, List.setIfInBounds_toArray, List.set_cons_zero, List.set_cons_succ]
          refine wpAnyH_take (i := 4) (oi := ?oi5) (v := ?v5) ?hi5 (by kernel_rfl) (by kernel_rfl) (by kernel_rfl) ?hQ5 (Or.inl ⟨?hw5, ?hy5⟩) (by assumption) ?rest5
          case hi5 => simp only [List.getElem?_toArray, List.getElem?_cons_succ, List.getElem?_cons_zero]; rfl
          case hQ5 => exact fun _ _ _ h => h
          case hw5 => rfl
          case hy5 => (intro W hW; have q0 := HCC.out W hW; obtain ⟨q0, q1, q2⟩ := q0; go_simp; all_goals rfl)
          simp only [Act.put, List.setIfInBounds_toArray, List.set_cons_zero, List.set_cons_succ]
          refine wpAnyH_take (i := 5) (oi := ?oi6) (v := ?v6) ?hi6 (by kernel_rfl) (by kernel_rfl) (by kernel_rfl) ?hQ6 (Or.inl ⟨?hw6, ?hy6⟩) (by assumption) ?rest6
          case hi6 => simp only [List.getElem?_toArray, List.getElem?_cons_succ, List.getElem?_cons_zero]; rfl
          case hQ6 => exact fun _ _ _ h => h
          case hw6 => rfl
          case hy6 => (intro W hW; have q0 := HCC.out W hW; obtain ⟨q0, q1, q2⟩ := q0; go_simp; all_goals rfl)
          simp only [Act.put, List.setIfInBounds_toArray, List.set_cons_zero, List.set_cons_succ]
          refine wpAnyH_take (i := 6) (oi := ?oi7) (v := ?v7) ?hi7 (by kernel_rfl) (by kernel_rfl) (by kernel_rfl) ?hQ7 (Or.inl ⟨?hw7, ?hy7⟩) (by assumption) ?rest7
          case hi7 => simp only [List.getElem?_toArray, List.getElem?_cons_succ, List.getElem?_cons_zero]; rfl
          case hQ7 => exact fun _ _ _ h => h
          case hw7 => rfl
          case hy7 => (intro W hW; have q0 := HCC.out W hW; obtain ⟨q0, q1, q2⟩ := q0; go_simp; all_goals rfl)
          simp only [Act.put, List.setIfInBounds_toArray, List.set_cons_zero, List.set_cons_succ]
          refine wpAnyH_take (i := 7) (oi := ?oi8) (v := ?v8) ?hi8 (by kernel_rfl) (by kernel_rfl) (by kernel_rfl) ?hQ8 (Or.inl ⟨?hw8, ?hy8⟩) (by assumption) ?rest8
          case hi8 => simp only [List.getElem?_toArray, List.getElem?_cons_succ, List.getElem?_cons_zero]; rfl
          case hQ8 => exact fun _ _ _ h => h
          case hw8 => rfl
          case hy8 => (intro W hW; have q0 := HCC.out W hW; obtain ⟨q0, q1, q2⟩ := q0; go_simp; all_goals rfl)
          simp only [Act.put, List.setIfInBounds_toArray, List.set_cons_zero, List.set_cons_succ]
          refine wpAnyH_take (i := 8) (oi := ?oi9) (v := ?v9) ?hi9 (by kernel_rfl) (by kernel_rfl) (by kernel_rfl) ?hQ9 (Or.inl ⟨?hw9, ?hy9⟩) (by assumption) ?rest9
          case hi9 => simp only [List.getElem?_toArray, List.getElem?_cons_succ, List.getElem?_cons_zero]; rfl
          case hQ9 => exact fun _ _ _ h => h
          case hw9 => rfl
          case hy9 => (intro W hW; have q0 := HCC.out W hW; obtain ⟨q0, q1, q2⟩ := q0; go_simp; all_goals rfl)
          simp only [Act.put, List.setIfInBounds_toArray, List.set_cons_zero, List.set_cons_succ]
          refine wpAnyH_take (i := 9) (oi := ?oi10) (v := ?v10) ?hi10 (by kernel_rfl) (by kernel_rfl) (by kernel_rfl) ?hQ10 (Or.inl ⟨?hw10, ?hy10⟩) (by assumption) ?rest10
          case hi10 => simp only [List.getElem?_toArray, List.getElem?_cons_succ, List.getElem?_cons_zero]; rfl
          case hQ10 => exact fun _ _ _ h => h
          case hw10 => rfl
          case hy10 => (intro W hW; have q0 := HCC.out W hW; obtain ⟨q0, q1, q2⟩ := q0; go_simp; all_goals rfl)
          simp only [Act.put, List.setIfInBounds_toArray, List.set_cons_zero, List.set_cons_succ]
          refine wpAnyH_ready (rs := [10]) (by kernel_rfl) (by simp) ?_
          refine AllReadyH.cons (i := 10) (o := ?o11) ?ho11 (fun Kq hK => ?step11) AllReadyH.nil
          case ho11 => simp only [List.getElem?_toArray, List.getElem?_cons_succ, List.getElem?_cons_zero]; rfl
          go_simp
          (go_at_call 37; refine (HPL.out _ (Below.refl _ _).drew).mono ?_; rintro e w6 ⟨P, rfl, hP, hb6⟩)
          have hS6 : w6.heap[wr.heap.size]? = some (.cells (S b).hd.cells.toArray 52 (0, 0)) := (hb6.block _ (by show _ < w5.heap.size; have := HW5.out.2.2; omega)).trans hHeld
          refine hK.out _ _ hS6 (fun _ => ?_)
          clear hK Kq
          try simp only [Act.put, List.setIfInBounds_toArray, List.set_cons_zero, List.set_cons_succ]
          have hb6 := ((Below.refl w5.heap.size w5).drew).trans hb6
          have HP6 := Hd.mk (And.intro hP (And.intro hb6 hS6))
          have HP1 : Hd (P.oneCell' = true) := ⟨own_one hP⟩
          have hP2 := own_form hP
          obtain ⟨A7, c7, hP3, _, _⟩ := hP2
          clear hP hb6
          subst hP3
          have hHeld6 := hS6
          refine wpAnyH_take (i := 11) (oi := ?oi12) (v := ?v12) ?hi12 (by kernel_rfl) (by kernel_rfl) (by kernel_rfl) ?hQ12 (Or.inl ⟨?hw12, ?hy12⟩) (by assumption) ?rest12
          case hi12 => simp only [List.getElem?_toArray, List.getElem?_cons_succ, List.getElem?_cons_zero]; rfl
          case hQ12 => exact fun _ _ _ h => h
          case hw12 => rfl
          case hy12 => (intro W hW; go_simp; all_goals rfl)
          simp only [Act.put, List.setIfInBounds_toArray, List.set_cons_zero, List.set_cons_succ]
          refine wpAnyH_ready (rs := [12]) (by kernel_rfl) (by simp) ?_
          refine AllReadyH.cons (i := 12) (o := ?o13) ?ho13 (fun Kq hK => ?step13) AllReadyH.nil
          case ho13 => simp only [List.getElem?_toArray, List.getElem?_cons_succ, List.getElem?_cons_zero]; rfl
          go_simp
          skip
          refine hK.out _ _ ((Go.Deep.blk_alloc_lt _ _ _ (HB6.out _ HP6.out.2.1)).trans hS6) (fun _ => ?_)
          clear hK Kq
          try simp only [Act.put, List.setIfInBounds_toArray, List.set_cons_zero, List.set_cons_succ]
          have HO7 : Hd (GLT 77 w.heap.size w6 S k f (.slice A' j c') (L.take j)) := ⟨HG5.out.keep HP6.out.2.1⟩
          have hlt7 : (L.take j).length = j := by rw [List.length_take]; omega
          have h64 : Hd ((L.take j).length + 1 ≤ maxLen) := ⟨by unfold maxLen; omega⟩
          have hbz : Hd (((L.take j).length + 1) * 48 ≤ 140737488355328) := ⟨by omega⟩
          have hbs : Hd (w.heap.size ≤ w6.heap.size) := ⟨Nat.le_trans HB5.out.2 HP6.out.2.1.size⟩
          clear hlt7
          refine wpAnyH_ready (rs := [13]) (by kernel_rfl) (by simp) ?_
          refine AllReadyH.cons (i := 13) (o := ?o99) ?ho99 (fun Kq hK => ?step99) AllReadyH.nil
          case ho99 => simp only [List.getElem?_toArray, List.getElem?_cons_succ, List.getElem?_cons_zero]; rfl
          refine stepN_at0 elRG rfl (.tmp 84) (.tmp 96) rfl w.heap.size (.slice A' j c') (L.take j).length ((L.take j).flatMap (encG f)) [.int .i64 ek, .int .i64 ck, .int .i64 sk, .slice A7 (plc S (ek, ck, sk) k).length c7] rfl w6.heap.size rfl rfl rfl (cells4_one _ _ _ _ _ _) HO7.out.out h64.out hbz.out hbs.out (fun v2 w7 hO2 => ?_)
          have H9 : Hd (GLT 77 w.heap.size w7 S k _ v2 (L.take j ++ [(ek, ck, sk)])) := ⟨HG5.out.more (x := (ek, ck, sk)) (HNM.out) HP6.out.2.1 HP6.out.1 HB5.out.2 hO2⟩
          have HB7 : Hd (Below w.heap.size w w7) := ⟨((H1.out.2.trans (HB5.out.1.mono H1.out.2.size)).trans (HP6.out.2.1.mono HB5.out.2)).grown hO2.2.1 (hbs.out) (fun i hi => (HO7.out.out.lt i hi).1)⟩
          obtain ⟨A8, c8, hv8, _, _⟩ := ownN_form hO2.1
          have hS7 := (hO2.block (HB6.out _ HP6.out.2.1) HV5.out).trans hHeld6
          refine hK.out _ _ hS7 (fun _ => ?_)
          clear hK Kq
          try simp only [Act.put, List.setIfInBounds_toArray, List.set_cons_zero, List.set_cons_succ]
          refine wpAnyH_take (i := 14) (oi := ?oi14) (v := ?v14) ?hi14 (by kernel_rfl) (by kernel_rfl) (by kernel_rfl) ?hQ14 (Or.inl ⟨?hw14, ?hy14⟩) (by assumption) ?rest14
          case hi14 => simp only [List.getElem?_toArray, List.getElem?_cons_succ, List.getElem?_cons_zero]; rfl
          case hQ14 => exact fun _ _ _ h => h
          case hw14 => rfl
          case hy14 => (intro W hW; go_simp; all_goals rfl)
          simp only [Act.put, List.setIfInBounds_toArray, List.set_cons_zero, List.set_cons_succ]
          refine wpAnyH_done (by kernel_rfl) ?_ _
          rw [hv8]
          rw [hv8] at H9
          clear hv8 hO2
          go_wp2_with fail
          go_roundw
          case rel =>
            have e : L.take (j + 1) = L.take j ++ [(ek, ck, sk)] := by
              rw [List.take_add_one, List.getElem?_eq_getElem hjl, ← HE.out, List.getD_eq_getElem?_getD, List.getElem?_eq_getElem hjl]; rfl
            have H10 := H9.out
            rw [← e, List.length_take, Nat.min_eq_left hj] at H10
            exact ⟨j + 1, by omega, ⟨A8, c8, rfl⟩, _, H10, HB7.out⟩
          case measure => simp; omega
end Go.Proofs.Ytplpaipmkpjgfaa
