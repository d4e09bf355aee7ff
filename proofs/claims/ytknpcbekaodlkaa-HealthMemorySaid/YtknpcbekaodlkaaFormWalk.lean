/- The walk of HealthForm: it returns true for every input. -/
import Derived.Test.YtknpcbekaodlkaaLoadS
import Derived.Test.YtknpcbekaodlkaaAwake
import Derived.Test.YtknpcbekaodlkaaHeldBy
namespace Go.Proofs.Ytknpcbekaodlkaa
open Go.RowKit
set_option linter.unusedVariables false
set_option linter.unusedSimpArgs false
theorem infoStr : Try.prog.underlying 9 = some .string := by rw [Try.underlying9]
theorem conv_bytes {w : World} {B n c : Nat} {A : Option Addr} {bs : List Nat} (h : Rd w B A n (cb bs)) : (convert 45 9 (.slice A n c)).run Try.prog w = .ok (.string (bstr bs)) w := by
  rw [cb_ints] at h
  exact run_conv_str _ _ 5 Try.underlying45 Try.underlying5 infoStr c h
/-- The bytes and the board, in whatever world. -/
def FS (w1 : World) (a : Option Addr) (len b h cp K : Nat) (bs ss : List Nat) (W : World) : Prop := Rd W w1.heap.size a len (cb bs) ∧ Brd W w1.heap.size b h cp K ss
theorem FS.keep {w1 W W' : World} {a : Option Addr} {len b h cp K : Nat} {bs ss : List Nat} (hb : Below W.heap.size W W') (H : FS w1 a len b h cp K bs ss W) : FS w1 a len b h cp K bs ss W' :=
  ⟨H.1.below (hb.mono (Nat.le_trans H.2.hB (Nat.le_of_lt H.2.lt.1))), H.2.keep hb⟩
set_option maxRecDepth 20000 in
set_option maxHeartbeats 2000000 in
theorem form_walk (a : Option Addr) (len cap : Nat) (z : List Int) (w : World) (wa : IsRow .u8 w a len cap z) (hcap : cap * 1 ≤ 140737488351232) :
    Calls Try.prog 15 #[.slice a len cap] w fun e w' => e = .returned (.bool true) ∧ Below w.heap.size w w' := by
  obtain ⟨l, hr, hl, hll, hlc⟩ := wa.bytes
  have hr2 := hr.take hlc
  have HH : Hd (Rd w w.heap.size a len (cb (l.take len)) ∧ (∀ x ∈ l.take len, x < 256)) := ⟨by rw [cb, List.map_take]; exact hr2, fun x hx => hl x (List.mem_of_mem_take hx)⟩
  clear hr hl hll hr2 wa
  generalize l.take len = bs at *
  go_enter Try.func15, Try.ntmps15
  go_wp2_with fail
  refine (awake_any w).mono ?_
  rintro e w1 ⟨rfl, hb1⟩
  have H1 := Hd.mk hb1
  clear hb1
  go_wp2_with fail
  refine (load_any w1 w.heap.size len cap a bs (HH.out.1.below H1.out) HH.out.2 H1.out.size hlc).mono ?_
  rintro e w2 ⟨hb2, ⟨hn, rfl⟩ | ⟨K, ss, b, h, cp, hs, rfl, hB⟩⟩
  · have H2 : Hd (Below w.heap.size w w2) := ⟨H1.out.trans (hb2.mono H1.out.size)⟩
    clear hb2 hn
    go_wp2_with fail
    go_quiet (fail)
    go_wp2_with fail
    go_ret
    exact ⟨rfl, below_drewN H2.out _⟩
  · have H2 : Hd (Below w.heap.size w w2 ∧ loadP bs = some (K, ss) ∧ Brd w2 w1.heap.size b h cp K ss) := ⟨H1.out.trans (hb2.mono H1.out.size), hs, hB⟩
    clear hb2 hs hB
    go_wp2_with fail
    obtain ⟨q1, q2, q3, q4, q5, q6⟩ := loadP_some H2.out.2.1
    have hsl := save_load HH.out.2 H2.out.2.1
    have h255 : ss.length ≤ 255 := by have := getD_lt HH.out.2 0; omega
    obtain ⟨S, hS⟩ : ∃ S, bstr bs = S := ⟨_, rfl⟩
    have HS : ∀ W, FS w1 a len b h cp K bs ss W → Calls Try.prog 26 #[.pointer (some ⟨b, 0, none⟩)] W fun e w' => ∃ A2 n2 c2, e = .returned (.slice A2 n2 c2) ∧ (convert 45 9 (.slice A2 n2 c2)).run Try.prog w' = .ok (.string S) w' ∧ Below W.heap.size W w' := fun W hW => (save_any W w1.heap.size b h cp K ss hW.2 q4 h255).mono fun e w' ⟨v, he, ho⟩ => by
      obtain ⟨A2, c2, rfl, _, _⟩ := own_form ho.own
      exact ⟨A2, _, c2, he, by rw [← hS, ← hsl]; exact conv_bytes (Rd.of_own ho.own), ho.below (fun k hk => by cases hk) (Nat.le_refl _)⟩
    have HSS := Hd.mk HS
    have g1 : ∀ W, FS w1 a len b h cp K bs ss W → (convert 45 9 (.slice a len cap)).run Try.prog W = .ok (.string S) W := fun W hW => by rw [← hS]; exact conv_bytes hW.1
    have HF : Hd (FS w1 a len b h cp K bs ss w2.drew) := ⟨((HH.out.1.below H2.out.1).more H1.out.size).below (Below.refl _ _).drew, H2.out.2.2.drew 1⟩
    clear q1 q2 q3 q4 q5 q6 hsl h255 HS hS
    refine wp_region_held_drew (S := FS w1 a len b h cp K bs ss) (by kernel_rfl) HF.out (fun hHeld => ?_)
    refine wpAnyH_take (i := 0) (oi := ?oi1) (v := ?v1) ?hi1 (by kernel_rfl) (by kernel_rfl) (by kernel_rfl) ?hQ1 (Or.inl ⟨?hw1, ?hy1⟩) (by assumption) ?rest1
    case hi1 => simp only [List.getElem?_toArray, List.getElem?_cons_succ, List.getElem?_cons_zero]; rfl
    case hQ1 => exact fun _ _ _ h => h
    case hw1 => rfl
    case hy1 => (intro W hW; go_simp; all_goals rfl)
    simp only [Act.put, List.setIfInBounds_toArray, List.set_cons_zero, List.set_cons_succ]
    refine wpAnyH_take (i := 1) (oi := ?oi2) (v := ?v2) ?hi2 (by kernel_rfl) (by kernel_rfl) (by kernel_rfl) ?hQ2 (Or.inl ⟨?hw2, ?hy2⟩) (by assumption) ?rest2
    case hi2 => simp only [List.getElem?_toArray, List.getElem?_cons_succ, List.getElem?_cons_zero]; rfl
    case hQ2 => exact fun _ _ _ h => h
    case hw2 => rfl
    case hy2 => (intro W hW; go_simp; all_goals rfl)
    simp only [Act.put, List.setIfInBounds_toArray, List.set_cons_zero, List.set_cons_succ]
    refine wpAnyH_take (i := 2) (oi := ?oi3) (v := ?v3) ?hi3 (by kernel_rfl) (by kernel_rfl) (by kernel_rfl) ?hQ3 (Or.inl ⟨?hw3, ?hy3⟩) (by assumption) ?rest3
    case hi3 => simp only [List.getElem?_toArray, List.getElem?_cons_succ, List.getElem?_cons_zero]; rfl
    case hQ3 => exact fun _ _ _ h => h
    case hw3 => rfl
    case hy3 => (intro W hW; go_simp; all_goals rfl)
    simp only [Act.put, List.setIfInBounds_toArray, List.set_cons_zero, List.set_cons_succ]
    refine wpAnyH_take (i := 3) (oi := ?oi4) (v := ?v4) ?hi4 (by kernel_rfl) (by kernel_rfl) (by kernel_rfl) ?hQ4 (Or.inr ⟨?hw4, ?hv4⟩) (by assumption) ?rest4
    case hi4 => simp only [List.getElem?_toArray, List.getElem?_cons_succ, List.getElem?_cons_zero]; rfl
    case hQ4 => exact fun _ _ _ h => h
    case hw4 => rfl
    case hv4 => rfl
    simp only [Act.put, List.setIfInBounds_toArray, List.set_cons_zero, List.set_cons_succ]
    refine wpAnyH_take (i := 4) (oi := ?oi5) (v := ?v5) ?hi5 (by kernel_rfl) (by kernel_rfl) (by kernel_rfl) ?hQ5 (Or.inr ⟨?hw5, ?hv5⟩) (by assumption) ?rest5
    case hi5 => simp only [List.getElem?_toArray, List.getElem?_cons_succ, List.getElem?_cons_zero]; rfl
    case hQ5 => exact fun _ _ _ h => h
    case hw5 => rfl
    case hv5 => rfl
    simp only [Act.put, List.setIfInBounds_toArray, List.set_cons_zero, List.set_cons_succ]
    refine wpAnyH_take (i := 5) (oi := ?oi6) (v := ?v6) ?hi6 (by kernel_rfl) (by kernel_rfl) (by kernel_rfl) ?hQ6 (Or.inl ⟨?hw6, ?hy6⟩) (by assumption) ?rest6
    case hi6 => simp only [List.getElem?_toArray, List.getElem?_cons_succ, List.getElem?_cons_zero]; rfl
    case hQ6 => exact fun _ _ _ h => h
    case hw6 => rfl
    case hy6 => (intro W hW; go_simp; all_goals rfl)
    simp only [Act.put, List.setIfInBounds_toArray, List.set_cons_zero, List.set_cons_succ]
    refine wpAnyH_take (i := 6) (oi := ?oi7) (v := ?v7) ?hi7 (by kernel_rfl) (by kernel_rfl) (by kernel_rfl) ?hQ7 (Or.inl ⟨?hw7, ?hy7⟩) (by assumption) ?rest7
    case hi7 => simp only [List.getElem?_toArray, List.getElem?_cons_succ, List.getElem?_cons_zero]; rfl
    case hQ7 => exact fun _ _ _ h => h
    case hw7 => rfl
    case hy7 => (intro W hW; go_simp; all_goals rfl)
    simp only [Act.put, List.setIfInBounds_toArray, List.set_cons_zero, List.set_cons_succ]
    refine wpAnyH_take (i := 7) (oi := ?oi8) (v := ?v8) ?hi8 (by kernel_rfl) (by kernel_rfl) (by kernel_rfl) ?hQ8 (Or.inl ⟨?hw8, ?hy8⟩) (by assumption) ?rest8
    case hi8 => simp only [List.getElem?_toArray, List.getElem?_cons_succ, List.getElem?_cons_zero]; rfl
    case hQ8 => exact fun _ _ _ h => h
    case hw8 => rfl
    case hy8 => (intro W hW; go_simp; all_goals rfl)
    simp only [Act.put, List.setIfInBounds_toArray, List.set_cons_zero, List.set_cons_succ]
    refine wpAnyH_take (i := 8) (oi := ?oi9) (v := ?v9) ?hi9 (by kernel_rfl) (by kernel_rfl) (by kernel_rfl) ?hQ9 (Or.inl ⟨?hw9, ?hy9⟩) (by assumption) ?rest9
    case hi9 => simp only [List.getElem?_toArray, List.getElem?_cons_succ, List.getElem?_cons_zero]; rfl
    case hQ9 => exact fun _ _ _ h => h
    case hw9 => rfl
    case hy9 => (intro W hW; go_simp; all_goals rfl)
    simp only [Act.put, List.setIfInBounds_toArray, List.set_cons_zero, List.set_cons_succ]
    refine wpAnyH_take (i := 9) (oi := ?oi10) (v := ?v10) ?hi10 (by kernel_rfl) (by kernel_rfl) (by kernel_rfl) ?hQ10 (Or.inl ⟨?hw10, ?hy10⟩) (by assumption) ?rest10
    case hi10 => simp only [List.getElem?_toArray, List.getElem?_cons_succ, List.getElem?_cons_zero]; rfl
    case hQ10 => exact fun _ _ _ h => h
    case hw10 => rfl
    case hy10 => (intro W hW; go_simp; all_goals rfl)
    simp only [Act.put, List.setIfInBounds_toArray, List.set_cons_zero, List.set_cons_succ]
    refine wpAnyH_take (i := 10) (oi := ?oi11) (v := ?v11) ?hi11 (by kernel_rfl) (by kernel_rfl) (by kernel_rfl) ?hQ11 (Or.inl ⟨?hw11, ?hy11⟩) (by assumption) ?rest11
    case hi11 => simp only [List.getElem?_toArray, List.getElem?_cons_succ, List.getElem?_cons_zero]; rfl
    case hQ11 => exact fun _ _ _ h => h
    case hw11 => rfl
    case hy11 => (intro W hW; go_simp; all_goals rfl)
    simp only [Act.put, List.setIfInBounds_toArray, List.set_cons_zero, List.set_cons_succ]
    refine wpAnyH_take (i := 11) (oi := ?oi12) (v := ?v12) ?hi12 (by kernel_rfl) (by kernel_rfl) (by kernel_rfl) ?hQ12 (Or.inl ⟨?hw12, ?hy12⟩) (by assumption) ?rest12
    case hi12 => simp only [List.getElem?_toArray, List.getElem?_cons_succ, List.getElem?_cons_zero]; rfl
    case hQ12 => exact fun _ _ _ h => h
    case hw12 => rfl
    case hy12 => (intro W hW; go_simp; all_goals rfl)
    simp only [Act.put, List.setIfInBounds_toArray, List.set_cons_zero, List.set_cons_succ]
    refine wpAnyH_take (i := 12) (oi := ?oi13) (v := ?v13) ?hi13 (by kernel_rfl) (by kernel_rfl) (by kernel_rfl) ?hQ13 (Or.inl ⟨?hw13, ?hy13⟩) (by assumption) ?rest13
    case hi13 => simp only [List.getElem?_toArray, List.getElem?_cons_succ, List.getElem?_cons_zero]; rfl
    case hQ13 => exact fun _ _ _ h => h
    case hw13 => rfl
    case hy13 => (intro W hW; go_simp; all_goals rfl)
    simp only [Act.put, List.setIfInBounds_toArray, List.set_cons_zero, List.set_cons_succ]
    refine wpAnyH_take (i := 13) (oi := ?oi14) (v := ?v14) ?hi14 (by kernel_rfl) (by kernel_rfl) (by kernel_rfl) ?hQ14 (Or.inl ⟨?hw14, ?hy14⟩) (by assumption) ?rest14
    case hi14 => simp only [List.getElem?_toArray, List.getElem?_cons_succ, List.getElem?_cons_zero]; rfl
    case hQ14 => exact fun _ _ _ h => h
    case hw14 => rfl
    case hy14 => (intro W hW; go_simp; all_goals rfl)
    simp only [Act.put, List.setIfInBounds_toArray, List.set_cons_zero, List.set_cons_succ]
    refine wpAnyH_take (i := 14) (oi := ?oi15) (v := ?v15) ?hi15 (by kernel_rfl) (by kernel_rfl) (by kernel_rfl) ?hQ15 (Or.inl ⟨?hw15, ?hy15⟩) (by assumption) ?rest15
    case hi15 => simp only [List.getElem?_toArray, List.getElem?_cons_succ, List.getElem?_cons_zero]; rfl
    case hQ15 => exact fun _ _ _ h => h
    case hw15 => rfl
    case hy15 => (intro W hW; go_simp; all_goals rfl)
    simp only [Act.put, List.setIfInBounds_toArray, List.set_cons_zero, List.set_cons_succ]
    refine wpAnyH_take (i := 17) (oi := ?oi16) (v := ?v16) ?hi16 (by kernel_rfl) (by kernel_rfl) (by kernel_rfl) ?hQ16 (Or.inl ⟨?hw16, ?hy16⟩) (by assumption) ?rest16
    case hi16 => simp only [List.getElem?_toArray, List.getElem?_cons_succ, List.getElem?_cons_zero]; rfl
    case hQ16 => exact fun _ _ _ h => h
    case hw16 => rfl
    case hy16 => (intro W hW; go_simp; all_goals rfl)
    simp only [Act.put, List.setIfInBounds_toArray, List.set_cons_zero, List.set_cons_succ]
    refine wpAnyH_take (i := 18) (oi := ?oi17) (v := ?v17) ?hi17 (by kernel_rfl) (by kernel_rfl) (by kernel_rfl) ?hQ17 (Or.inl ⟨?hw17, ?hy17⟩) (by assumption) ?rest17
    case hi17 => simp only [List.getElem?_toArray, List.getElem?_cons_succ, List.getElem?_cons_zero]; rfl
    case hQ17 => exact fun _ _ _ h => h
    case hw17 => rfl
    case hy17 => (intro W hW; go_simp; all_goals rfl)
    simp only [Act.put, List.setIfInBounds_toArray, List.set_cons_zero, List.set_cons_succ]
    refine wpAnyH_ready (rs := [15]) (by kernel_rfl) (by simp) ?_
    refine AllReadyH.cons (i := 15) (o := ?o18) ?ho18 (fun Kq hK => ?step18) AllReadyH.nil
    case ho18 => simp only [List.getElem?_toArray, List.getElem?_cons_succ, List.getElem?_cons_zero]; rfl
    go_simp
    (go_at_call 26; refine (HSS.out _ hHeld).mono ?_; rintro e w3 ⟨A2, n2, c2, rfl, hr3, hb3⟩)
    have hF3 := FS.keep hb3 hHeld
    refine hK.out _ _ hF3 (fun _ => ?_)
    clear hK Kq
    try simp only [Act.put, List.setIfInBounds_toArray, List.set_cons_zero, List.set_cons_succ]
    refine held_more (T := fun W => FS w1 a len b h cp K bs ss W ∧ (convert 45 9 (.slice A2 n2 c2)).run Try.prog W = .ok (.string S) W) (fun W hW => hW.1) _ _ _ _ ?_
    have hHeld2 : FS w1 a len b h cp K bs ss w3 ∧ (convert 45 9 (.slice A2 n2 c2)).run Try.prog w3 = .ok (.string S) w3 := ⟨hF3, hr3⟩
    refine wpAnyH_take (i := 16) (oi := ?oi19) (v := ?v19) ?hi19 (by kernel_rfl) (by kernel_rfl) (by kernel_rfl) ?hQ19 (Or.inl ⟨?hw19, ?hy19⟩) (by assumption) ?rest19
    case hi19 => simp only [List.getElem?_toArray, List.getElem?_cons_succ, List.getElem?_cons_zero]; rfl
    case hQ19 => exact fun _ _ _ h => h
    case hw19 => rfl
    case hy19 => (rintro W ⟨hW, hW2⟩; go_simp; all_goals rfl)
    simp only [Act.put, List.setIfInBounds_toArray, List.set_cons_zero, List.set_cons_succ]
    refine wpAnyH_take (i := 19) (oi := ?oi20) (v := ?v20) ?hi20 (by kernel_rfl) (by kernel_rfl) (by kernel_rfl) ?hQ20 (Or.inl ⟨?hw20, ?hy20⟩) (by assumption) ?rest20
    case hi20 => simp only [List.getElem?_toArray, List.getElem?_cons_succ, List.getElem?_cons_zero]; rfl
    case hQ20 => exact fun _ _ _ h => h
    case hw20 => rfl
    case hy20 => (rintro W ⟨hW, hW2⟩; go_simp; all_goals rfl)
    simp only [Act.put, List.setIfInBounds_toArray, List.set_cons_zero, List.set_cons_succ]
    refine wpAnyH_take (i := 20) (oi := ?oi21) (v := ?v21) ?hi21 (by kernel_rfl) (by kernel_rfl) (by kernel_rfl) ?hQ21 (Or.inl ⟨?hw21, ?hy21⟩) (by assumption) ?rest21
    case hi21 => simp only [List.getElem?_toArray, List.getElem?_cons_succ, List.getElem?_cons_zero]; rfl
    case hQ21 => exact fun _ _ _ h => h
    case hw21 => rfl
    case hy21 => (rintro W ⟨hW, hW2⟩; go_simp; all_goals rfl)
    simp only [Act.put, List.setIfInBounds_toArray, List.set_cons_zero, List.set_cons_succ]
    refine wpAnyH_take (i := 21) (oi := ?oi22) (v := ?v22) ?hi22 (by kernel_rfl) (by kernel_rfl) (by kernel_rfl) ?hQ22 (Or.inl ⟨?hw22, ?hy22⟩) (by assumption) ?rest22
    case hi22 => simp only [List.getElem?_toArray, List.getElem?_cons_succ, List.getElem?_cons_zero]; rfl
    case hQ22 => exact fun _ _ _ h => h
    case hw22 => rfl
    case hy22 => (rintro W ⟨hW, hW2⟩; go_simp; all_goals rfl)
    simp only [Act.put, List.setIfInBounds_toArray, List.set_cons_zero, List.set_cons_succ]
    refine wpAnyH_take (i := 22) (oi := ?oi23) (v := ?v23) ?hi23 (by kernel_rfl) (by kernel_rfl) (by kernel_rfl) ?hQ23 (Or.inl ⟨?hw23, ?hy23⟩) (by assumption) ?rest23
    case hi23 => simp only [List.getElem?_toArray, List.getElem?_cons_succ, List.getElem?_cons_zero]; rfl
    case hQ23 => exact fun _ _ _ h => h
    case hw23 => rfl
    case hy23 => (rintro W ⟨hW, hW2⟩; go_simp; all_goals rfl)
    simp only [Act.put, List.setIfInBounds_toArray, List.set_cons_zero, List.set_cons_succ]
    refine wpAnyH_done (by kernel_rfl) ?_ _
    go_wp2_with fail
    go_ret
    exact ⟨rfl, H2.out.1.drew.trans (hb3.mono H2.out.1.size)⟩
end Go.Proofs.Ytknpcbekaodlkaa
