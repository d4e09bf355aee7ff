/- Contract of the law's twice: Puts of numbers, asked twice, held, and asked again over other bytes. (tools/twicegen.py prints it.) -/
import Derived.Test.YtjkenhkoakaaoaaHeldW
import Derived.Test.YtjkenhkoakaaoaaPutsA
namespace Go.Proofs.Ytjkenhkoakaaoaa
open Go.RowKit
set_option linter.unusedVariables false
set_option linter.unusedSimpArgs false
theorem xor_80 : ∀ x : Nat, x < 256 → bits .xor .u8 (x : Int) 80 = ((x ^^^ 80 : Nat) : Int) ∧ x ^^^ 80 < 256 := by decide +kernel
section
variable {w0 w : World} {RL NR : List (Nat × Value × List Value)} {X : List Nat} {BL : List (Nat × Array Value × Nat)}
theorem Ms.left (H : Ms w0 w (RL ++ NR) X BL) : Ms w0 w RL X BL :=
  ⟨⟨fun x hx => H.bag.own x (List.mem_append_left _ hx), fun i j x y hx hy => H.bag.apart i j x y (by rw [List.getElem?_append_left (List.getElem?_eq_some_iff.1 hx).1]; exact hx) (by rw [List.getElem?_append_left (List.getElem?_eq_some_iff.1 hy).1]; exact hy), fun x hx => H.bag.off x (List.mem_append_left _ hx), H.bag.ltX⟩, H.bx, H.be, H.ge⟩
theorem Ms.write {e g n c j : Nat} {xs : List Value} {u : Value} (H : Ms w0 w [(e, .slice (some ⟨g, 0, none⟩) n c, xs)] X BL) (hl : xs.length = n) (hj : j < n) : Ms w0 (w.setCell ⟨g, j, none⟩ u) [(e, .slice (some ⟨g, 0, none⟩) n c, xs.set j u)] X BL := by
  have o := H.bag.own _ (List.mem_singleton.2 rfl)
  simp only at o
  rw [hl] at o
  have hg := o.lt g rfl
  have hoff := H.bag.off _ (List.mem_singleton.2 rfl)
  have cg : Chg [g] w (w.setCell ⟨g, j, none⟩ u) := (Chg.refl [g] w).setCell (by simp) u
  refine ⟨⟨fun x hx => ?_, fun i k x y hx hy hik => ?_, fun x hx => ?_, fun k hk => Nat.lt_of_lt_of_le (H.bag.ltX k hk) cg.size⟩, fun p hp => ⟨?_, (H.bx p hp).2⟩, H.be.trans (cg.below H.be.size fun k hk => by rw [List.mem_singleton.1 hk]; exact hg.1), H.ge⟩
  · rw [List.mem_singleton.1 hx]
    show World.ownsRow _ _ _ 1 _ (xs.set j u).length _
    rw [List.length_set, hl]
    exact own_set1 o hj
  · rcases i with _ | i
    · rcases k with _ | k
      · exact absurd rfl hik
      · simp at hy
    · simp at hx
  · rw [List.mem_singleton.1 hx]; exact hoff
  · exact (cg.block p.1 (H.box_lt hp) fun hm => hoff p.1 (H.bx p hp).2 (by rw [List.mem_singleton.1 hm]; rfl)).trans (H.bx p hp).1
end
theorem conv_any7 {w : World} {B n c : Nat} {A : Option Addr} {bs : List Nat} (h : Rd w B A n (cb bs)) : (convert 45 9 (.slice A n c)).run Try.prog w = .ok (.string (bstr bs)) w := by
  rw [cb_ints] at h
  exact run_conv_str _ _ 5 Try.underlying45 Try.underlying5 infoStr c h
theorem same_lit (w : World) (l1 l2 : List Slc) (h1 : ∀ x ∈ l1, Kp w x.1 x.2.1 x.2.2.2) (h2 : ∀ x ∈ l2, Kp w x.1 x.2.1 x.2.2.2) (he : l1.map (fun x => x.2.2.2) = l2.map (fun x => x.2.2.2)) (hl : l1.length ≤ 100) :
    Calls Try.prog 30 #[.slice (some ⟨w.heap.size, 0, none⟩) l1.length l1.length, .slice (some ⟨w.heap.size + 1, 0, none⟩) l2.length l2.length] ((w.alloc (.cells (l1.map slv).toArray 45)).alloc (.cells (l2.map slv).toArray 45)) fun e w' => e = .returned (.bool true) ∧ Below w.heap.size w w' := by
  have hll : l1.length = l2.length := by have := congrArg List.length he; simpa using this
  have b1 : Below w.heap.size w (w.alloc (.cells (l1.map slv).toArray 45)) := (Below.refl _ _).alloc (Nat.le_refl _) _
  have hs : (w.alloc (.cells (l1.map slv).toArray 45)).heap.size = w.heap.size + 1 := by simp
  have r1 := rws_of (w := w) (e := 45) l1 h1
  have r2 := rws_of (w := w.alloc (.cells (l1.map slv).toArray 45)) (e := 45) l2 (fun x hx => (h2 x hx).step b1)
  rw [← he, ← hll, hs] at r2
  have b2 : Below (w.alloc (.cells (l1.map slv).toArray 45)).heap.size (w.alloc (.cells (l1.map slv).toArray 45)) ((w.alloc (.cells (l1.map slv).toArray 45)).alloc (.cells (l2.map slv).toArray 45)) := (Below.refl _ _).alloc (Nat.le_refl _) _
  rw [← hll]
  refine (same_any _ _ _ l1.length _ _ (l1.map fun x => x.2.2.2) (r1.step7 b2) r2 (by omega)).mono ?_
  rintro e w' ⟨he, hb⟩
  exact ⟨he, (b1.trans (b2.mono b1.size)).trans (hb.mono (Nat.le_trans b1.size b2.size))⟩
set_option maxRecDepth 20000 in
set_option maxHeartbeats 8000000 in
theorem twice_any7 (w : World) (A : Option Addr) (n c : Nat) (bs : List Nat) (v : Nat) (sv pv tv : Value) (hr : Rd w w.heap.size A n (cb bs)) (hb : ∀ x ∈ bs, x < 256) (hv : v < 2 ^ 64) (hn : n ≤ 140737488350000) :
    Calls Try.prog 56 #[.agg #[.slice A n c, .int .u64 (v : Int), sv, pv, tv]] w fun e w' => e = .returned (.bool true) ∧ Below w.heap.size w w' := by
  have hbl : bs.length = n := by have := hr.1; rwa [cb_length] at this
  have HR : Hd (Rd w w.heap.size A n (cb bs) ∧ (∀ x ∈ bs, x < 256) ∧ bs.length = n) := ⟨hr, hb, hbl⟩
  have HV : Hd (v < 2 ^ 64 ∧ v % 65536 < 65536) := ⟨hv, Nat.mod_lt _ (by decide)⟩
  clear hr hb hbl hv
  obtain ⟨b1, hb1⟩ : ∃ q, w.heap.size = q := ⟨_, rfl⟩
  obtain ⟨w1, hw1⟩ : ∃ U, w.alloc (.cells #[.slice A n c, .int .u64 (v : Int), sv, pv, tv] 51) = U := ⟨_, rfl⟩
  have H1 : Hd (Ms w w1 [] [b1] [(b1, #[.slice A n c, .int .u64 (v : Int), sv, pv, tv], 51)]) := ⟨by
    rw [← hw1, ← hb1]
    exact (Ms.start w).box (w' := w.alloc (.cells #[.slice A n c, .int .u64 (v : Int), sv, pv, tv] 51)) ((Below.refl _ _).alloc (Nat.le_refl _) _) (Nat.le_refl _) (heap_alloc_new _ _)⟩
  go_enter Try.func56, Try.ntmps56
  go_upto_region 1 with fail
  try rw [hw1]
  try rw [hb1]
  clear hw1 hb1
  obtain ⟨vm, hvm⟩ : ∃ q, v % 65536 = q := ⟨_, rfl⟩
  have hcv : IntKind.u16.wrap (v : Int) = (vm : Int) := by rw [← hvm, IntKind.wrap_u16]; omega
  have hvm2 : vm < 65536 := by omega
  have HCV : Hd (IntKind.u16.wrap (v : Int) = (vm : Int) ∧ vm < 65536) := ⟨hcv, hvm2⟩
  clear hvm hcv hvm2
  have c0 : w1.cell? ⟨b1, 0, none⟩ = some (.slice A n c) := H1.out.at_ 0 rfl 0 rfl
  go_upto_region 2 with (at_builtin; refine wpList_app elB rfl (.const (.slice none 0 0)) (.tmp 17) rfl w1.heap.size (.slice none 0 0) 0 [] rfl (World.ownsRow_nil ..) w1.heap.size A n c (cb bs) rfl ((HR.out.1.below H1.out.be).more H1.out.be.size) (cb_one _) (by unfold maxLen; omega) (by omega) (Nat.le_refl _) ?_; intro v1 w2 hO; rw [Nat.zero_add, List.nil_append] at hO; obtain ⟨Ab, db, hv1, _⟩ := own_form hO.own; subst hv1; have H2 := Hd.mk (H1.out.row (by rw [cb_length]; exact HR.out.2.2) (hO.below (fun k hk => by cases hk) (Nat.le_refl _)) hO.own); clear hO)
  clear c0 H1
  have d1 : w2.cell? ⟨b1, 1, none⟩ = some (.int .u64 (v : Int)) := H2.out.at_ 0 rfl 1 rfl
  have hcv := HCV.out.1
  go_wp2_with fail
  refine (put_uint16 w2 Ab n db w2.heap.size vm bs (H2.out.rd 0 rfl) HCV.out.2 (by omega) (Nat.le_refl _)).mono ?_
  rintro e w3 ⟨v1, rfl, hO⟩
  obtain ⟨Ap, dp, hv1, _⟩ := own_form hO.own
  subst hv1
  have H3 := Hd.mk (H2.out.row (n := n + 2) (by have := hO.own.1; omega) (hO.below (fun k hk => by cases hk) (Nat.le_refl _)) hO.own)
  clear hO d1 H2 hcv
  have d1 : w3.cell? ⟨b1, 1, none⟩ = some (.int .u64 (v : Int)) := H3.out.at_ 0 rfl 1 rfl
  have hcv := HCV.out.1
  go_wp2_with fail
  refine (put_uint16 w3 Ab n db w3.heap.size vm bs (H3.out.rd 0 rfl) HCV.out.2 (by omega) (Nat.le_refl _)).mono ?_
  rintro e w4 ⟨v1, rfl, hO⟩
  obtain ⟨Aq, dq, hv1, _⟩ := own_form hO.own
  subst hv1
  have H4 := Hd.mk (H3.out.row (n := n + 2) (by have := hO.own.1; omega) (hO.below (fun k hk => by cases hk) (Nat.le_refl _)) hO.own)
  clear hO d1 H3 hcv
  have d1 : w4.cell? ⟨b1, 1, none⟩ = some (.int .u64 (v : Int)) := H4.out.at_ 0 rfl 1 rfl
  go_wp2_with fail
  refine (put_uint64 w4 Ab n db w4.heap.size v bs (H4.out.rd 0 rfl) HV.out.1 (by omega) (Nat.le_refl _)).mono ?_
  rintro e w5 ⟨v1, rfl, hO⟩
  obtain ⟨Ar, dr, hv1, _⟩ := own_form hO.own
  subst hv1
  have H5 := Hd.mk (H4.out.row (n := n + 8) (by have := hO.own.1; omega) (hO.below (fun k hk => by cases hk) (Nat.le_refl _)) hO.own)
  clear hO d1 H4
  have d1 : w5.cell? ⟨b1, 1, none⟩ = some (.int .u64 (v : Int)) := H5.out.at_ 0 rfl 1 rfl
  go_wp2_with fail
  refine (put_uint64 w5 Ab n db w5.heap.size v bs (H5.out.rd 0 rfl) HV.out.1 (by omega) (Nat.le_refl _)).mono ?_
  rintro e w6 ⟨v1, rfl, hO⟩
  obtain ⟨As, ds, hv1, _⟩ := own_form hO.own
  subst hv1
  have H6 := Hd.mk (H5.out.row (n := n + 8) (by have := hO.own.1; omega) (hO.below (fun k hk => by cases hk) (Nat.le_refl _)) hO.own)
  clear hO d1 H5
  have d1 : w6.cell? ⟨b1, 1, none⟩ = some (.int .u64 (v : Int)) := H6.out.at_ 0 rfl 1 rfl
  go_wp2_with fail
  refine (putUvarint_any w6 Ab n db w6.heap.size v bs (H6.out.rd 0 rfl) HV.out.1 (by omega) (Nat.le_refl _)).mono ?_
  rintro e w7 ⟨v1, rfl, hO⟩
  obtain ⟨At, dt, hv1, _⟩ := own_form hO.own
  subst hv1
  have H7 := Hd.mk (H6.out.row (n := n + (uv v).length) (by have := hO.own.1; omega) (hO.below (fun k hk => by cases hk) (Nat.le_refl _)) hO.own)
  clear hO d1 H6
  have d1 : w7.cell? ⟨b1, 1, none⟩ = some (.int .u64 (v : Int)) := H7.out.at_ 0 rfl 1 rfl
  go_wp2_with fail
  refine (putUvarint_any w7 Ab n db w7.heap.size v bs (H7.out.rd 0 rfl) HV.out.1 (by omega) (Nat.le_refl _)).mono ?_
  rintro e w8 ⟨v1, rfl, hO⟩
  obtain ⟨Au, du, hv1, _⟩ := own_form hO.own
  subst hv1
  have H8 := Hd.mk (H7.out.row (n := n + (uv v).length) (by have := hO.own.1; omega) (hO.below (fun k hk => by cases hk) (Nat.le_refl _)) hO.own)
  clear hO d1 H7
  have HLT : Hd ((∀ y ∈ bs ++ fx 2 vm, y < 256) ∧ (∀ y ∈ bs ++ fx 8 v, y < 256) ∧ (∀ y ∈ bs ++ uv v, y < 256) ∧ (bs ++ fx 2 vm).length = n + 2 ∧ (bs ++ fx 8 v).length = n + 8 ∧ (bs ++ uv v).length = n + (uv v).length ∧ (uv v).length ≤ 10) := ⟨app_lt HR.out.2.1 (fx_lt _ _), app_lt HR.out.2.1 (fx_lt _ _), app_lt HR.out.2.1 (uv_lt _ HV.out.1), by rw [List.length_append, HR.out.2.2]; rfl, by rw [List.length_append, HR.out.2.2]; rfl, by rw [List.length_append, HR.out.2.2], (uv_len _).2⟩
  have HKP : Hd ((∀ x ∈ ([(Ap, n + 2, dp, bs ++ fx 2 vm), (Ar, n + 8, dr, bs ++ fx 8 v), (At, n + (uv v).length, dt, bs ++ uv v)] : List Slc), Kp w8 x.1 x.2.1 x.2.2.2) ∧ ∀ x ∈ ([(Aq, n + 2, dq, bs ++ fx 2 vm), (As, n + 8, ds, bs ++ fx 8 v), (Au, n + (uv v).length, du, bs ++ uv v)] : List Slc), Kp w8 x.1 x.2.1 x.2.2.2) := ⟨by
    refine ⟨fun x hx => ?_, fun x hx => ?_⟩ <;> simp only [List.mem_cons, List.not_mem_nil, or_false] at hx <;> rcases hx with rfl | rfl | rfl
    · exact ⟨H8.out.rd 1 rfl, HLT.out.2.2.2.1, HLT.out.1⟩
    · exact ⟨H8.out.rd 3 rfl, HLT.out.2.2.2.2.1, HLT.out.2.1⟩
    · exact ⟨H8.out.rd 5 rfl, HLT.out.2.2.2.2.2.1, HLT.out.2.2.1⟩
    · exact ⟨H8.out.rd 2 rfl, HLT.out.2.2.2.1, HLT.out.1⟩
    · exact ⟨H8.out.rd 4 rfl, HLT.out.2.2.2.2.1, HLT.out.2.1⟩
    · exact ⟨H8.out.rd 6 rfl, HLT.out.2.2.2.2.2.1, HLT.out.2.2.1⟩⟩
  go_wp2_with fail
  refine (same_lit w8 [(Ap, n + 2, dp, bs ++ fx 2 vm), (Ar, n + 8, dr, bs ++ fx 8 v), (At, n + (uv v).length, dt, bs ++ uv v)] [(Aq, n + 2, dq, bs ++ fx 2 vm), (As, n + 8, ds, bs ++ fx 8 v), (Au, n + (uv v).length, du, bs ++ uv v)] HKP.out.1 HKP.out.2 rfl (by simp)).mono ?_
  rintro e w9 ⟨rfl, hbe⟩
  have H9 := Hd.mk (H8.out.below hbe)
  clear hbe H8 HKP
  go_wp2_with fail
  refine (H9.out.apart7 (us := [.slice Ap (n + 2) dp, .slice Aq (n + 2) dq, .slice Ar (n + 8) dr, .slice As (n + 8) ds, .slice At (n + (uv v).length) dt, .slice Au (n + (uv v).length) du]) (I := [1, 2, 3, 4, 5, 6]) (RL2 := [(5, .slice Ab n db, cb bs)]) [0] (by kernel_rfl) (by decide) (by kernel_rfl) (by kernel_rfl) (by simp) (by
    intro i hi x hx
    have e1 := HLT.out.2.2.2
    simp only [List.mem_cons, List.not_mem_nil, or_false] at hi
    rcases hi with rfl | rfl | rfl | rfl | rfl | rfl <;> (have e := Option.some.inj hx; rw [← e, cb_length]; omega)) (by decide) (by decide) (by kernel_rfl)).mono ?_
  rintro e w10 ⟨rfl, hM, _, _⟩
  have H10 := Hd.mk hM
  clear hM H9
  obtain ⟨S1, hS1⟩ : ∃ S, bstr bs = S := ⟨_, rfl⟩
  have d0 : w10.cell? ⟨b1, 0, none⟩ = some (.slice A n c) := H10.out.at_ 0 rfl 0 rfl
  have q1 : (convert 45 9 (.slice Ab n db)).run Try.prog w10 = .ok (.string S1) w10 := by rw [← hS1]; exact conv_any7 (H10.out.rd 0 rfl)
  have q2 : (convert 45 9 (.slice A n c)).run Try.prog w10 = .ok (.string S1) w10 := by rw [← hS1]; exact conv_any7 ((HR.out.1.below H10.out.be).more H10.out.be.size)
  have e1 : (S1.toList != S1.toList) = false := by simp
  clear hS1
  go_wp2_with fail
  clear d0 q1 q2 e1
  have HS := Hd.mk (And.intro HR.out.2.1 HR.out.2.2)
  go_loopw [10] (fun u10 wr => ∃ (t : Nat) (b2 : List Nat), t ≤ 2 ∧ u10 = .int .i64 (t : Int) ∧ b2.length = n ∧ (∀ x ∈ b2, x < 256) ∧ Ms w wr [(5, .slice Ab n db, cb b2)] [b1] [(b1, #[.slice A n c, .int .u64 (v : Int), sv, pv, tv], 51)]) (fun u10 _ => 2 - (intOf u10).toNat)
  case atStart => exact ⟨0, bs, by omega, rfl, HR.out.2.2, HR.out.2.1, H10.out⟩
  case round =>
    clear H10
    obtain ⟨t, b2, ht, rfl, hbl, hbb, hM⟩ := hrel
    have H1 := Hd.mk (And.intro hM (And.intro hbl hbb))
    clear hM hbl hbb
    by_cases htt : t < 2
    · have hti : (t : Int) < 2 := by omega
      have d1 : wr.cell? ⟨b1, 1, none⟩ = some (.int .u64 (v : Int)) := H1.out.1.at_ 0 rfl 1 rfl
      have hcv := HCV.out.1
      go_wp2_with fail
      refine (put_uint16 wr Ab n db wr.heap.size vm b2 (H1.out.1.rd 0 rfl) HCV.out.2 (by omega) (Nat.le_refl _)).mono ?_
      rintro e wq ⟨v1, rfl, hO⟩
      obtain ⟨n2, hn2⟩ : ∃ q, n + 2 = q := ⟨_, rfl⟩
      rw [hn2] at hO
      have HN2 := Hd.mk hn2
      clear hn2
      obtain ⟨Ay, dy, hv1, hdy, _⟩ := own_form hO.own
      subst hv1
      have H2 := Hd.mk (H1.out.1.row (n := n2) (by have := hO.own.1; omega) (hO.below (fun k hk => by cases hk) (Nat.le_refl _)) hO.own)
      clear hO d1 hcv
      have hw2 : IntKind.i64.wrap ((n : Int) + 2) = (n2 : Int) := by have := HN2.out; rw [IntKind.wrap_i64]; omega
      have e0 : ((n2 : Int) != (n2 : Int)) = false := by simp
      have hnd : n ≤ dy := by have := HN2.out; omega
      have hcut : ∀ W, (Instr.slice 45 (.slice Ay n2 dy) none (some (.int .i64 (n : Int))) none).run Try.prog W = .ok (.slice Ay n dy) W := fun W => run_cut_to elB Ay n2 dy n hnd
      have hrd : Rd wq wq.heap.size Ay n (cb b2) := by
        have h := (H2.out.rd 1 rfl).take (h := n) (by have := HN2.out; omega)
        rw [cb_append, List.take_left' (by rw [cb_length]; exact H1.out.2.1)] at h
        exact h
      have hrb : Rd wq wq.heap.size Ab n (cb b2) := H2.out.rd 0 rfl
      obtain ⟨S1, hS1⟩ : ∃ S, bstr b2 = S := ⟨_, rfl⟩
      have q1 : ∀ q, (convert 45 9 (.slice Ay n dy)).run Try.prog (wq.drewN q) = .ok (.string S1) (wq.drewN q) := fun q => by rw [← hS1]; exact conv_any7 (hrd.keep (w' := wq.drewN q) (fun p _ => by simp [World.cell?]))
      have q2 : ∀ q, (convert 45 9 (.slice Ab n db)).run Try.prog (wq.drewN q) = .ok (.string S1) (wq.drewN q) := fun q => by rw [← hS1]; exact conv_any7 (hrb.keep (w' := wq.drewN q) (fun p _ => by simp [World.cell?]))
      have e1 : (S1.toList != S1.toList) = false := by simp
      clear hS1 hrd hrb
      go_wp2_with fail
      go_quiet (fail)
      go_wp2_with fail
      go_loopw [12] (fun u12 wr => ∃ (i : Nat) (b3 : List Nat), i ≤ n ∧ u12 = .int .i64 (i : Int) ∧ b3.length = n ∧ (∀ x ∈ b3, x < 256) ∧ Ms w wr [(5, .slice Ab n db, cb b3)] [b1] [(b1, #[.slice A n c, .int .u64 (v : Int), sv, pv, tv], 51)]) (fun u12 _ => n - (intOf u12).toNat)
      case atStart => exact ⟨0, b2, by omega, rfl, H1.out.2.1, H1.out.2.2, (H2.out.below (below_drewN (Below.refl _ _) _)).left⟩
      case round =>
        clear H2
        obtain ⟨i, b3, hi, rfl, hbl, hbb, hM⟩ := hrel
        have H4 := Hd.mk (And.intro hM (And.intro hbl hbb))
        by_cases hlt : i < n
        · have hii : (i : Int) < (n : Int) := by omega
          have o := hM.bag.own _ (List.mem_singleton.2 rfl)
          simp only [cb_length] at o
          rw [hbl] at o
          obtain ⟨gb, cpb, e, _, _⟩ := own_pos o (by omega)
          cases e
          have hx : b3.getD i 0 < 256 := by
            rw [List.getD_eq_getElem?_getD, List.getElem?_eq_getElem (by omega)]; exact hbb _ (List.getElem_mem _)
          obtain ⟨hc1, hc2⟩ := own_atG o (j := i) (u := .int .u8 ((b3.getD i 0 : Nat) : Int)) (cb_get _ _ (by omega))
          obtain ⟨x, hxx⟩ : ∃ x, b3.getD i 0 = x := ⟨_, rfl⟩
          rw [hxx] at hx hc1
          skip
          clear hbl hbb hM hxx o
          go_wp2_with fail
          go_roundw
          case rel =>
            obtain ⟨z, hz⟩ : ∃ z, (x + 9) % 256 = z := ⟨_, rfl⟩
            have hzi : ((x : Int) + 9) % 256 = (z : Int) := by omega
            rw [hzi]
            refine ⟨i + 1, b3.set i z, by omega, by go_num, by rw [List.length_set]; exact H4.out.2.1, fun y hy => ?_, ?_⟩
            · rcases List.mem_or_eq_of_mem_set hy with h | h
              · exact H4.out.2.2 y h
              · omega
            · have hw := H4.out.1.write (u := .int .u8 (z : Int)) (by rw [cb_length]; exact H4.out.2.1) (j := i) (by omega)
              rw [show (cb b3).set i (.int .u8 (z : Int)) = cb (b3.set i z) by unfold cb; rw [List.map_set]; rfl] at hw
              exact hw
          case measure => simp [intOf]; omega
        · have hin : i = n := by omega
          subst hin
          clear hbl hbb hM
          go_wp2_with fail
          go_roundw
          case rel => exact ⟨t + 1, b3, by omega, by go_num, H4.out.2.1, H4.out.2.2, H4.out.1⟩
          case measure => simp [intOf]; omega
    · have htt2 : t = 2 := by omega
      subst htt2
      have d1 : wr.cell? ⟨b1, 1, none⟩ = some (.int .u64 (v : Int)) := H1.out.1.at_ 0 rfl 1 rfl
      go_wp2_with fail
      refine (put_uint64 wr Ab n db wr.heap.size v b2 (H1.out.1.rd 0 rfl) HV.out.1 (by omega) (Nat.le_refl _)).mono ?_
      rintro e wq ⟨v1, rfl, hO⟩
      obtain ⟨n8, hn8⟩ : ∃ q, n + 8 = q := ⟨_, rfl⟩
      rw [hn8] at hO
      have HN8 := Hd.mk hn8
      clear hn8
      obtain ⟨Ac, dc, hv1, hdc, _⟩ := own_form hO.own
      subst hv1
      have H2 := Hd.mk (H1.out.1.below (hO.below (fun k hk => by cases hk) (Nat.le_refl _)))
      clear hO d1
      go_wp2_with fail
      go_loopw [14] (fun u14 wr => ∃ (i : Nat) (b3 : List Nat), i ≤ n ∧ u14 = .int .i64 (i : Int) ∧ b3.length = n ∧ (∀ x ∈ b3, x < 256) ∧ Ms w wr [(5, .slice Ab n db, cb b3)] [b1] [(b1, #[.slice A n c, .int .u64 (v : Int), sv, pv, tv], 51)]) (fun u14 _ => n - (intOf u14).toNat)
      case atStart => exact ⟨0, b2, by omega, rfl, H1.out.2.1, H1.out.2.2, H2.out⟩
      case round =>
        clear H2
        obtain ⟨i, b3, hi, rfl, hbl, hbb, hM⟩ := hrel
        have H4 := Hd.mk (And.intro hM (And.intro hbl hbb))
        by_cases hlt : i < n
        · have hii : (i : Int) < (n : Int) := by omega
          have o := hM.bag.own _ (List.mem_singleton.2 rfl)
          simp only [cb_length] at o
          rw [hbl] at o
          obtain ⟨gb, cpb, e, _, _⟩ := own_pos o (by omega)
          cases e
          have hx : b3.getD i 0 < 256 := by
            rw [List.getD_eq_getElem?_getD, List.getElem?_eq_getElem (by omega)]; exact hbb _ (List.getElem_mem _)
          obtain ⟨hc1, hc2⟩ := own_atG o (j := i) (u := .int .u8 ((b3.getD i 0 : Nat) : Int)) (cb_get _ _ (by omega))
          obtain ⟨x, hxx⟩ : ∃ x, b3.getD i 0 = x := ⟨_, rfl⟩
          rw [hxx] at hx hc1
          have hxo := xor_80 x hx
          have hx1 := hxo.1
          have HXL := Hd.mk hxo.2
          clear hxo
          obtain ⟨z, hz⟩ : ∃ z, x ^^^ 80 = z := ⟨_, rfl⟩
          rw [hz] at hx1 HXL
          clear hbl hbb hM hxx o
          go_wp2_with fail
          go_roundw
          case rel =>
            skip
            refine ⟨i + 1, b3.set i z, by omega, by go_num, by rw [List.length_set]; exact H4.out.2.1, fun y hy => ?_, ?_⟩
            · rcases List.mem_or_eq_of_mem_set hy with h | h
              · exact H4.out.2.2 y h
              · rw [h]; exact HXL.out
            · have hw := H4.out.1.write (u := .int .u8 (z : Int)) (by rw [cb_length]; exact H4.out.2.1) (j := i) (by omega)
              rw [show (cb b3).set i (.int .u8 (z : Int)) = cb (b3.set i z) by unfold cb; rw [List.map_set]; rfl] at hw
              exact hw
          case measure => simp [intOf]; omega
        · have hin : i = n := by omega
          subst hin
          clear hbl hbb hM
          have d1 : wr.cell? ⟨b1, 1, none⟩ = some (.int .u64 (v : Int)) := H4.out.1.at_ 0 rfl 1 rfl
          go_wp2_with fail
          refine (put_uint64 wr Ab i db wr.heap.size v b3 (H4.out.1.rd 0 rfl) HV.out.1 (by omega) (Nat.le_refl _)).mono ?_
          rintro e ws ⟨v1, rfl, hO⟩
          rw [HN8.out] at hO
          obtain ⟨Ay, dy, hv1, hdy, _⟩ := own_form hO.own
          subst hv1
          have H5 := Hd.mk (H4.out.1.row (n := n8) (by have := hO.own.1; omega) (hO.below (fun k hk => by cases hk) (Nat.le_refl _)) hO.own)
          clear hO d1
          have hw2 : IntKind.i64.wrap ((i : Int) + 8) = (n8 : Int) := by have := HN8.out; rw [IntKind.wrap_i64]; omega
          have e0 : ((n8 : Int) == (n8 : Int)) = true := by simp
          have hnd : i ≤ dy := by have := HN8.out; omega
          have hcut : ∀ W, (Instr.slice 45 (.slice Ay n8 dy) none (some (.int .i64 (i : Int))) none).run Try.prog W = .ok (.slice Ay i dy) W := fun W => run_cut_to elB Ay n8 dy i hnd
          have hrd : Rd ws ws.heap.size Ay i (cb b3) := by
            have h := (H5.out.rd 1 rfl).take (h := i) (by have := HN8.out; omega)
            rw [cb_append, List.take_left' (by rw [cb_length]; exact H4.out.2.1)] at h
            exact h
          have hrb : Rd ws ws.heap.size Ab i (cb b3) := H5.out.rd 0 rfl
          obtain ⟨S1, hS1⟩ : ∃ S, bstr b3 = S := ⟨_, rfl⟩
          have q1 : ∀ q, (convert 45 9 (.slice Ay i dy)).run Try.prog (ws.drewN q) = .ok (.string S1) (ws.drewN q) := fun q => by rw [← hS1]; exact conv_any7 (hrd.keep (w' := ws.drewN q) (fun p _ => by simp [World.cell?]))
          have q2 : ∀ q, (convert 45 9 (.slice Ab i db)).run Try.prog (ws.drewN q) = .ok (.string S1) (ws.drewN q) := fun q => by rw [← hS1]; exact conv_any7 (hrb.keep (w' := ws.drewN q) (fun p _ => by simp [World.cell?]))
          have e1 : (S1.toList == S1.toList) = true := by simp
          clear hS1 hrd hrb
          go_wp2_with fail
          go_quiet (fail)
          go_wp2_with fail
          go_ret
          exact ⟨rfl, H5.out.be.trans (below_drewN (Below.refl _ _) _ |>.mono H5.out.be.size)⟩
end Go.Proofs.Ytjkenhkoakaaoaa
