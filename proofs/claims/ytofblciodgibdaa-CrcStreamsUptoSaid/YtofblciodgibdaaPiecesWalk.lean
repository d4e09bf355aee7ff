/- The walk of CrcPieces. -/
import Derived.Test.YtofblciodgibdaaKeptWalk
import Derived.Test.YtofblciodgibdaaZerosWalk
import Derived.Test.YtofblciodgibdaaArgRows
namespace Go.Proofs.Ytofblciodgibdaa
open Go.RowKit
set_option linter.unusedVariables false
namespace Crc
theorem more_more (s : Nat) (a b : List Nat) (hs : s ≤ 4294967295) (ha : ∀ x ∈ a, x < 256) : more (more s a) b = more s (a ++ b) := by
  have h := ov_lt a (4294967295 - s) (by omega) ha
  unfold more
  rw [show 4294967295 - (4294967295 - ov (4294967295 - s) a) = ov (4294967295 - s) a by omega, ov_append]
theorem more_join (a b : List Nat) (ha : ∀ x ∈ a, x < 256) (hb : ∀ x ∈ b, x < 256) : itT (8 * b.length) (more 0 a) ^^^ more 0 b = more 0 (a ++ b) := by
  have hab : ∀ x ∈ a ++ b, x < 256 := fun x hx => (List.mem_append.1 hx).elim (ha x) (hb x)
  rw [more0 (a ++ b) hab, more0 b hb, ov_append]
  have e : ov 4294967295 a = 4294967295 ^^^ more 0 a := by
    rw [more0 a ha, Nat.xor_comm (ov _ a), ← Nat.xor_assoc, Nat.xor_self, Nat.zero_xor]
  rw [e, ov_turn, ← Nat.xor_assoc, Nat.xor_comm (itT _ _)]
end Crc
theorem take_flat (ps : List (List Nat)) (k : Nat) (h : k < ps.length) : (ps.take (k + 1)).flatten = (ps.take k).flatten ++ ps.getD k [] := by
  rw [List.take_succ_eq_append_getElem h, List.flatten_append, List.getD_eq_getElem?_getD, List.getElem?_eq_getElem h]; simp
theorem drop_flat (ps : List (List Nat)) (k : Nat) (h : k < ps.length) : (ps.drop k).flatten = ps.getD k [] ++ (ps.drop (k + 1)).flatten := by
  rw [List.drop_eq_getElem_cons h, List.getD_eq_getElem?_getD, List.getElem?_eq_getElem h]; simp only [List.flatten_cons, Option.getD_some]
theorem take_flat_le (ps : List (List Nat)) (k : Nat) : (ps.take k).flatten.length ≤ ps.flatten.length := by
  conv => rhs; rw [← List.take_append_drop k ps, List.flatten_append, List.length_append]
  omega
theorem drop_flat_le (ps : List (List Nat)) (k : Nat) : (ps.drop k).flatten.length ≤ ps.flatten.length := by
  conv => rhs; rw [← List.take_append_drop k ps, List.flatten_append, List.length_append]
  omega
theorem flat_lt (qs ps : List (List Nat)) (hq : ∀ q ∈ qs, q ∈ ps) (h : ∀ p ∈ ps, ∀ x ∈ p, x < 256) : ∀ x ∈ qs.flatten, x < 256 := by
  intro x hx
  obtain ⟨q, h1, h2⟩ := List.mem_flatten.1 hx
  exact h q (hq q h1) x h2
theorem own_keepBlock {w w' : World} {base e n g : Nat} {v : Value} {xs : List Value} (h : w.ownsRow base e 1 v n xs) (hg : w.grownBy w' (some g)) (hne : v.ownBlock ≠ some g) : w'.ownsRow base e 1 v n xs :=
  h.kept hg (by
    cases hv : v.ownBlock with
    | none => exact .inl rfl
    | some k => exact .inr fun e => hne (by rw [hv, e]))
/-- Where the first loop stands. -/
structure PS (w w' : World) (gs : Nat) (all : Value) (F : List Nat) : Prop where
  own : w'.ownsRow w.heap.size 5 1 all F.length (cb F)
  st : ∃ xs, Strm w' gs 0 xs 43 (Crc.more 0 F) F.length
  bel : Below w.heap.size w w'
  ne : all.ownBlock ≠ some gs
  ge : w.heap.size ≤ gs
section
variable {w w1 w2 : World} {gs : Nat} {all all2 : Value} {F : List Nat}
theorem PS.lt (h : PS w w1 gs all F) : gs < w1.heap.size := let ⟨_, h⟩ := h.st; h.lt
theorem PS.step (h : PS w w1 gs all F) (b : Below w1.heap.size w1 w2) : PS w w2 gs all F :=
  ⟨own_below' h.own b, let ⟨xs, hs⟩ := h.st; ⟨xs, hs.below b h.lt⟩, h.bel.trans (b.mono h.bel.size), h.ne, h.ge⟩
end
set_option maxRecDepth 100000 in
set_option maxHeartbeats 4000000 in
theorem pieces_walk (A : Option Addr) (n cap : Nat) (ps : List (List Nat)) (w : World) (hp : Rws w A n ps) (hcap : n ≤ cap) (hT : ps.flatten.length ≤ 1048576) (hn : n ≤ 1048576) :
    Calls Try.prog 14 #[.slice A n cap] w fun e w' => e = .returned (.bool true) ∧ Below w.heap.size w w' := by
  have hall : ∀ p ∈ ps, ∀ x ∈ p, x < 256 := fun p hp1 => by
    obtain ⟨i, hi, rfl⟩ := List.getElem_of_mem hp1
    obtain ⟨_, _, _, _, _, _, _, _, h⟩ := hp.2 i (by rw [← hp.1]; exact hi)
    rw [List.getD_eq_getElem?_getD, List.getElem?_eq_getElem hi] at h
    exact h
  have HP : Hd (Rws w A n ps ∧ ps.flatten.length ≤ 1048576 ∧ (∀ k, ∀ x ∈ (ps.take k).flatten, x < 256) ∧ (∀ k, ∀ x ∈ (ps.drop k).flatten, x < 256) ∧ ps.length = n) :=
    ⟨hp, hT, fun k => flat_lt _ ps (fun q h => List.mem_of_mem_take h) hall, fun k => flat_lt _ ps (fun q h => List.mem_of_mem_drop h) hall, hp.1⟩
  clear hp hT hall
  go_enter Try.func14, Try.ntmps14
  go_wp2_with fail
  refine (sum_any _ none 0 0 0 [] Rd.nil (Nat.zero_le _) (by simp) (by omega)).mono ?_
  rintro e w1 ⟨rfl, hb1⟩
  obtain ⟨gs, hgs⟩ : ∃ gs, w.heap.size = gs := ⟨_, rfl⟩
  have h1 : PS w w1 gs (.slice none 0 0) [] := by
    have h0 : Below w.heap.size w (w.alloc (.cells #[.int .u32 0, .int .u64 0] 43)) := (Below.refl _ w).alloc (Nat.le_refl _) _
    refine ⟨World.ownsRow_nil .., ⟨#[.int .u32 0, .int .u64 0], ?_⟩, h0.trans (hb1.mono (by simp)), (by simp [Value.ownBlock]), by omega⟩
    rw [← hgs]
    exact Strm.below ⟨heap_alloc_new w _, rfl, rfl, by decide, by decide⟩ hb1 (by simp)
  have H1 := Hd.mk h1
  clear h1 hb1
  rw [hgs]
  clear hgs
  go_wp2_with fail
  refine (sum_any w1 none 0 0 0 [] Rd.nil (Nat.zero_le _) (by simp) (by omega)).mono ?_
  rintro e w2 ⟨rfl, hb⟩
  have H2 := Hd.mk (H1.out.step hb)
  clear hb H1
  go_wp2_with fail
  go_loopw [3, 5, 6, 7] (fun all um ul i wr => ∃ k : Nat, k ≤ n ∧ i = .int .i64 k ∧ um = .int .u32 ((Crc.more 0 (ps.take k).flatten : Nat) : Int) ∧ ul = .int .u32 ((Crc.more 0 (ps.take k).flatten : Nat) : Int) ∧ PS w wr gs all (ps.take k).flatten) (fun _ _ _ i _ => n - (intOf i).toNat)
  case atStart => exact ⟨0, by omega, rfl, rfl, rfl, H2.out⟩
  case round =>
    obtain ⟨k, hk, rfl, rfl, rfl, hS⟩ := hrel
    have S0 := Hd.mk hS
    clear hS
    by_cases hlt : k < n
    · obtain ⟨g, off, Ar, Cr, hA, hg, hcc0, hr0, hx⟩ := HP.out.1.2 k hlt
      have hcc : wr.cell? ⟨g, off + k, none⟩ = some (.slice Ar (ps.getD k []).length Cr) := (S0.out.bel.cell (p := ⟨g, off + k, none⟩) hg).trans hcc0
      have hF := take_flat ps k (by rw [HP.out.2.2.2.2]; exact hlt)
      have hle := take_flat_le ps (k + 1)
      have hFx := HP.out.2.2.1 k
      have hle2 : (ps.take k).flatten.length + (ps.getD k []).length ≤ 1048576 := by have := HP.out.2.1; rw [hF, List.length_append] at hle; omega
      have hjoin := Crc.more_join (ps.take k).flatten (ps.getD k []) hFx hx
      have hmm := Crc.more_more 0 (ps.take k).flatten (ps.getD k []) (by omega) hFx
      rw [← hF] at hjoin hmm
      have hml := Crc.more_lt 0 (ps.take k).flatten
      have hmp := Crc.more_lt 0 (ps.getD k [])
      have hmn := Crc.more_lt 0 (ps.take (k + 1)).flatten
      have HK : Hd ((ps.take (k + 1)).flatten = (ps.take k).flatten ++ ps.getD k [] ∧ (∀ x ∈ ps.getD k [], x < 256) ∧ Rd w w.heap.size Ar (ps.getD k []).length (cb (ps.getD k []))) := ⟨hF, hx, hr0⟩
      obtain ⟨F1, hF1⟩ : ∃ x, (ps.take (k + 1)).flatten = x := ⟨_, rfl⟩
      have HF1 := Hd.mk hF1
      rw [hF1] at hjoin hmm hmn HK hle hF
      clear hF1
      generalize (ps.take k).flatten = F at *
      generalize ps.getD k [] = p at *
      clear hF hle hFx hx hr0 hcc0
      have HX : Hd (Crc.itT (8 * p.length) (Crc.more 0 F) ^^^ Crc.more 0 p = Crc.more 0 F1 ∧ Crc.more (Crc.more 0 F) p = Crc.more 0 F1 ∧ F1.length = F.length + p.length) := ⟨hjoin, hmm, by rw [HK.out.1, List.length_append]⟩
      clear hjoin hmm
      have h63 : Hd (F.length + p.length ≤ maxLen) := ⟨by unfold maxLen; omega⟩
      have hby : Hd ((F.length + p.length) * 1 ≤ 140737488355328) := ⟨by omega⟩
      have HN : Hd (p.length ≤ 140737488355328 ∧ F.length + p.length < 18446744073709551616) := ⟨by omega, by omega⟩
      obtain ⟨m, hm⟩ : ∃ m, p.length = m := ⟨_, rfl⟩
      have HM := Hd.mk hm
      rw [hm] at hcc HK h63 hby HX HN hle2
      clear hm
      subst hA
      go_wp2_with (
        refine wpList_app elB rfl (.tmp 25) (.tmp 26) rfl w.heap.size u3 F.length (cb F) rfl S0.out.own w.heap.size Ar m Cr (cb p) rfl (HK.out.2.2.below S0.out.bel) (cb_one p) h63.out hby.out S0.out.bel.size ?_
        intro v1 w3 hO1
        have S1 : Hd (w3.ownsRow w.heap.size 5 1 v1 (F.length + m) (cb F ++ cb p) ∧ (∃ xs, Strm w3 gs 0 xs 43 (Crc.more 0 F) F.length) ∧ Below w.heap.size w w3 ∧ v1.ownBlock ≠ some gs ∧ w.heap.size ≤ gs ∧ gs < w3.heap.size) :=
          ⟨hO1.own, (let ⟨xs, hs⟩ := S0.out.st; ⟨xs, hs.grown hO1.2.1 S0.out.ne⟩), S0.out.bel.trans (hO1.below (fun k hk => (S0.out.own.lt k hk).1) S0.out.bel.size), fun e => (hO1.2.2 gs e).elim S0.out.ne (fun h => absurd S0.out.lt (by omega)), S0.out.ge, Nat.lt_of_lt_of_le S0.out.lt hO1.size⟩
        clear hO1)
      refine (more_any w3 Ar m Cr w.heap.size p ((Crc.more 0 F : Nat) : Int) (by omega) (by omega) (HK.out.2.2.below S1.out.2.2.1) S1.out.2.2.1.size HK.out.2.1 HN.out.1).mono ?_
      rw [Int.toNat_natCast, HX.out.2.1]
      rintro e w4 ⟨rfl, hb⟩
      have S2 : Hd (w4.ownsRow w.heap.size 5 1 v1 (F.length + m) (cb F ++ cb p) ∧ (∃ xs, Strm w4 gs 0 xs 43 (Crc.more 0 F) F.length) ∧ Below w.heap.size w w4 ∧ gs < w4.heap.size) :=
        ⟨own_below' S1.out.1 hb, (let ⟨xs, hs⟩ := S1.out.2.1; ⟨xs, hs.below hb S1.out.2.2.2.2.2⟩), S1.out.2.2.1.trans (hb.mono S1.out.2.2.1.size), Nat.lt_of_lt_of_le S1.out.2.2.2.2.2 hb.size⟩
      clear hb
      go_wp2_with fail
      refine (sum_any w4 Ar m Cr w.heap.size p (HK.out.2.2.below S2.out.2.2.1) S2.out.2.2.1.size HK.out.2.1 HN.out.1).mono ?_
      rintro e w5 ⟨rfl, hb⟩
      have S3 : Hd (w5.ownsRow w.heap.size 5 1 v1 (F.length + m) (cb F ++ cb p) ∧ (∃ xs, Strm w5 gs 0 xs 43 (Crc.more 0 F) F.length) ∧ Below w.heap.size w w5 ∧ gs < w5.heap.size) :=
        ⟨own_below' S2.out.1 hb, (let ⟨xs, hs⟩ := S2.out.2.1; ⟨xs, hs.below hb S2.out.2.2.2⟩), S2.out.2.2.1.trans (hb.mono S2.out.2.2.1.size), Nat.lt_of_lt_of_le S2.out.2.2.2 hb.size⟩
      clear hb S2
      go_wp2_with fail
      refine (join_any w5 (Crc.more 0 F) (Crc.more 0 p) (m : Int) (by omega) (by omega) (by omega) (by omega)).mono ?_
      rw [Int.toNat_natCast, HX.out.1]
      rintro e w6 ⟨rfl, hb⟩
      have S4 : Hd (w6.ownsRow w.heap.size 5 1 v1 (F.length + m) (cb F ++ cb p) ∧ (∃ xs, Strm w6 gs 0 xs 43 (Crc.more 0 F) F.length) ∧ Below w.heap.size w w6 ∧ gs < w6.heap.size) :=
        ⟨own_below' S3.out.1 hb, (let ⟨xs, hs⟩ := S3.out.2.1; ⟨xs, hs.below hb S3.out.2.2.2⟩), S3.out.2.2.1.trans (hb.mono S3.out.2.2.1.size), Nat.lt_of_lt_of_le S3.out.2.2.2 hb.size⟩
      clear hb S3
      go_wp2_with fail
      obtain ⟨ys, hys⟩ := S4.out.2.1
      refine (write_any w6 gs 0 43 _ _ ys Ar m Cr w.heap.size p hys (HK.out.2.2.below S4.out.2.2.1) S4.out.2.2.1.size HK.out.2.1 HN.out.1).mono ?_
      rw [HX.out.2.1, Nat.mod_eq_of_lt HN.out.2]
      rintro e w7 ⟨rfl, hs, hg⟩
      have S5 : Hd (PS w w7 gs v1 F1) := ⟨by rw [HX.out.2.2, HK.out.1, cb_append]; exact own_keepBlock S4.out.1 hg S1.out.2.2.2.1, by rw [HX.out.2.2]; exact ⟨_, hs⟩, S4.out.2.2.1.grown hg S4.out.2.2.1.size (fun k e => by injection e with e; have := S1.out.2.2.2.2.1; omega), S1.out.2.2.2.1, S1.out.2.2.2.2.1⟩
      clear hs hg hys S4
      go_wp2_with fail
      go_roundw
      case rel => exact ⟨k + 1, by omega, by go_num, by rw [HF1.out], by rw [HF1.out], by rw [HF1.out]; exact S5.out⟩
      case measure => simp [intOf]; omega
    · have hkn : n = k := by omega
      have HW : Hd ((ps.take n).flatten = ps.flatten) := ⟨by rw [List.take_of_length_le (by rw [HP.out.2.2.2.2]; exact Nat.le_refl _)]⟩
      subst hkn
      rw [HW.out] at S0 ⊢
      go_wp2_with fail
      refine (sum_any wr none 0 0 0 [] Rd.nil (Nat.zero_le _) (by simp) (by omega)).mono ?_
      rintro e w3 ⟨rfl, hb⟩
      have S1 := Hd.mk (S0.out.step hb)
      clear hb S0 H2
      go_wp2_with fail
      go_loopw [9, 10, 11] (fun ur un ui wr => ∃ k : Nat, k ≤ n ∧ ui = .int .i64 ((k : Int) - 1) ∧ ur = .int .u32 ((Crc.more 0 (ps.drop k).flatten : Nat) : Int) ∧ un = .int .i64 (((ps.drop k).flatten.length : Nat) : Int) ∧ Below w3.heap.size w3 wr) (fun _ _ ui _ => ((intOf ui) + 1).toNat)
      case atStart =>
        refine ⟨n, Nat.le_refl _, rfl, ?_, ?_, Below.refl _ _⟩
        · rw [List.drop_of_length_le (by rw [HP.out.2.2.2.2]; exact Nat.le_refl _)]; rfl
        · rw [List.drop_of_length_le (by rw [HP.out.2.2.2.2]; exact Nat.le_refl _)]; rfl
      case round =>
        obtain ⟨k, hk2, rfl, rfl, rfl, hbr⟩ := hrel
        have HB := Hd.mk hbr
        clear hbr
        by_cases hpos : 0 < k
        · obtain ⟨j, rfl⟩ : ∃ j, k = j + 1 := ⟨k - 1, by omega⟩
          obtain ⟨g, off, Ar, Cr, hA, hg, hcc0, hr0, hx⟩ := HP.out.1.2 j (by omega)
          have hBw : Below w.heap.size w wr := S1.out.bel.trans (HB.out.mono S1.out.bel.size)
          have hcc : wr.cell? ⟨g, off + j, none⟩ = some (.slice Ar (ps.getD j []).length Cr) := (hBw.cell (p := ⟨g, off + j, none⟩) hg).trans hcc0
          have hF := drop_flat ps j (by rw [HP.out.2.2.2.2]; omega)
          have hle := drop_flat_le ps j
          have hFx := HP.out.2.2.2.1 (j + 1)
          have hjoin := Crc.more_join (ps.getD j []) (ps.drop (j + 1)).flatten hx hFx
          rw [← hF] at hjoin
          have hlen : (ps.drop j).flatten.length = (ps.getD j []).length + (ps.drop (j + 1)).flatten.length := by rw [hF, List.length_append]
          have hTT := HP.out.2.1
          have hml := Crc.more_lt 0 (ps.getD j [])
          have hms := Crc.more_lt 0 (ps.drop (j + 1)).flatten
          have HW1 : Hd (Rd wr w.heap.size Ar (ps.getD j []).length (cb (ps.getD j [])) ∧ w.heap.size ≤ wr.heap.size ∧ (∀ x ∈ ps.getD j [], x < 256) ∧ Below w.heap.size w wr ∧ g < w.heap.size) := ⟨hr0.below hBw, hBw.size, hx, hBw, hg⟩
          clear hF hFx hcc0 hBw hr0 hx hg
          obtain ⟨F0, hF0⟩ : ∃ x, (ps.drop j).flatten = x := ⟨_, rfl⟩
          have HF0 := Hd.mk hF0
          rw [hF0] at hle hjoin hlen
          clear hF0
          generalize (ps.drop (j + 1)).flatten = F at *
          obtain ⟨p, hp⟩ : ∃ x, ps.getD j [] = x := ⟨_, rfl⟩
          rw [hp] at hcc hjoin hlen hml HW1
          clear hp
          have HJ : Hd (Crc.itT (8 * F.length) (Crc.more 0 p) ^^^ Crc.more 0 F = Crc.more 0 F0 ∧ F0.length = p.length + F.length) := ⟨hjoin, hlen⟩
          clear hjoin
          obtain ⟨m, hm⟩ : ∃ m, p.length = m := ⟨_, rfl⟩
          have HM := Hd.mk hm
          rw [hm] at hcc HW1 hlen
          clear hm
          obtain ⟨q, hq⟩ : ∃ q, F.length = q := ⟨_, rfl⟩
          have HQ := Hd.mk hq
          rw [hq] at HJ hlen ⊢
          clear hq
          have hqm : (q : Int) + (m : Int) ≤ 1048576 := by omega
          have e0 : ((j + 1 : Nat) : Int) - 1 = (j : Int) := by omega
          rw [e0]
          clear e0 hle hTT
          subst hA
          go_wp2_with fail
          refine (sum_any wr Ar m Cr w.heap.size p HW1.out.1 HW1.out.2.1 HW1.out.2.2.1 (by omega)).mono ?_
          rintro e w4 ⟨rfl, hb⟩
          have B1 := Hd.mk (HB.out.trans (hb.mono HB.out.size))
          clear hb
          go_wp2_with fail
          refine (join_any w4 (Crc.more 0 p) (Crc.more 0 F) (q : Int) (by omega) (by omega) (by omega) (by omega)).mono ?_
          rw [Int.toNat_natCast, HJ.out.1]
          rintro e w5 ⟨rfl, hb⟩
          have B2 := Hd.mk (B1.out.trans (hb.mono B1.out.size))
          clear hb
          have hcc2 : w5.cell? ⟨g, off + j, none⟩ = some (.slice Ar m Cr) := by
            have hgg : g < w3.heap.size := Nat.lt_of_lt_of_le HW1.out.2.2.2.2 S1.out.bel.size
            rw [B2.out.cell (p := ⟨g, off + j, none⟩) hgg, ← HB.out.cell (p := ⟨g, off + j, none⟩) hgg]; exact hcc
          clear hcc
          go_wp2_with fail
          go_roundw
          case rel => exact ⟨j, by omega, rfl, by rw [HF0.out], by rw [HF0.out]; congr 1; omega, B2.out⟩
          case measure => simp [intOf]
        · have hk0 : k = 0 := by omega
          subst hk0
          obtain ⟨V, cv, hV, hVc, _⟩ := own_form S1.out.own
          have S2 := Hd.mk (S1.out.step HB.out)
          have HR : Hd (Rd wr wr.heap.size V ps.flatten.length (cb ps.flatten)) := ⟨by have := Rd.of_own (c := cv) (A := V) (by rw [← hV]; exact S2.out.own); exact this⟩
          have HX : Hd (∀ x ∈ ps.flatten, x < 256) := ⟨HP.out.2.2.2.1 0⟩
          have HT := HP.out.2.1
          rw [show ((0 : Nat) : Int) - 1 = -1 by omega]
          rw [List.drop_zero]
          subst hV
          clear S1 HB
          generalize ps.flatten = F at *
          have f1 := Crc.more_lt 0 F
          obtain ⟨q, hq⟩ : ∃ q, F.length = q := ⟨_, rfl⟩
          have HQ := Hd.mk hq
          rw [hq] at HR HT hVc ⊢
          clear hq
          obtain ⟨SF, hSF⟩ : ∃ S : Int, ((Crc.more 0 F : Nat) : Int) = S := ⟨_, rfl⟩
          have HSF := Hd.mk hSF
          have e1 : (SF == SF) = true := by simp
          have e2 : ((q : Int) == (q : Int)) = true := by simp
          rw [hSF]
          clear hSF f1
          go_wp2_with fail
          refine (sum_any wr V q cv wr.heap.size F HR.out (Nat.le_refl _) HX.out (by omega)).mono ?_
          rw [HSF.out]
          rintro e w4 ⟨rfl, hb⟩
          have S3 := Hd.mk (S2.out.step hb)
          clear hb S2
          go_wp2_with fail
          refine (known_any w4).mono ?_
          rintro e w5 ⟨rfl, hb⟩
          have S4 := Hd.mk (S3.out.step hb)
          clear hb S3
          go_wp2_with fail
          obtain ⟨ys, hys⟩ := S4.out.st
          refine (ssum_any w5 gs 0 43 _ _ ys hys).mono ?_
          rw [HSF.out]
          rintro e z1 ⟨rfl, rfl⟩
          clear hys
          go_wp2_with fail
          obtain ⟨ys, hys⟩ := S4.out.st
          refine (slen_any w5 gs 0 43 _ _ ys hys).mono ?_
          rw [HQ.out]
          rintro e z2 ⟨rfl, rfl⟩
          clear hys
          go_wp2_with fail
          go_ret
          exact ⟨rfl, S4.out.bel⟩
end Go.Proofs.Ytofblciodgibdaa
