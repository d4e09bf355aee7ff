/- Contract of the reference's form. -/
import Derived.Test.YtbcmjjcbjojakaaFormA
namespace Go.Proofs.Ytbcmjjcbjojakaa
open Go.RowKit
set_option linter.unusedVariables false
/-- Where the reference's form stands. -/
structure GS (w w' : World) (u : Value) (ys : List Nat) : Prop where
  own : w'.ownsRow w.heap.size 5 1 u ys.length (cb ys)
  bel : Below w.heap.size w w'
section
variable {w w1 w2 : World} {u v : Value} {ys zs : List Nat}
theorem GS.step (h : GS w w1 u ys) (b : Below w1.heap.size w1 w2) : GS w w2 u ys := ⟨own_below' h.own b, h.bel.trans (b.mono h.bel.size)⟩
theorem GS.push (h : GS w w1 u ys) (hO : Onto w1 w2 w.heap.size 5 u v (ys.length + zs.length) (cb ys ++ cb zs)) : GS w w2 v (ys ++ zs) :=
  ⟨by rw [List.length_append, cb_append]; exact hO.own, h.bel.trans (hO.below (fun k hk => (h.own.lt k hk).1) h.bel.size)⟩
end
theorem fr_rel {w w9 : World} {n f a E M p S S2 q k : Nat} {bs ys z1 F : List Nat} {v9 : Value} (hk : k = if n - a ≤ 16384 then 2 else 1) (hE : a + 16384 = E) (hp : min (n - a) 16384 = p) (ha : a < n) (hM : ys.length = M) (hn : bs.length = n)
    (HI : ys ++ fmF f S (bs.drop a) = F ∧ n - a ≤ f ∧ M + 12 * (n - a) ≤ 12 * n ∧ S < 4294967296)
    (hq : Crc.more 0 (fx 1 k ++ fx 2 p) = q) (hz : fx 1 k ++ fx 2 p ++ fx 4 q = z1) (hS2 : Crc.more S ((bs.drop a).take p) = S2) (hl2 : S2 < 4294967296)
    (h9 : GS w w9 v9 (ys ++ z1 ++ (bs.drop a).take p ++ fx 4 S2)) :
    ∃ (ys' : List Nat) (f' : Nat), GS w w9 v9 ys' ∧ ys' ++ fmF f' S2 (bs.drop E) = F ∧ n - E ≤ f' ∧ ys'.length + 12 * (n - E) ≤ 12 * n := by
  obtain ⟨e4, h5, h8, h9'⟩ := HI
  obtain ⟨f', rfl⟩ : ∃ f', f = f' + 1 := ⟨f - 1, by omega⟩
  have hdl : (bs.drop a).length = n - a := by rw [List.length_drop, hn]
  have hch : chk S (bs.drop a) = z1 ++ (bs.drop a).take p ++ fx 4 S2 := by unfold chk hd3; rw [hdl, ← hk, hp, hq, hz, hS2]
  have hdd : (bs.drop a).drop p = bs.drop E := by
    rw [List.drop_drop]
    by_cases h : n ≤ a + 16384
    · rw [List.drop_of_length_le (by omega), List.drop_of_length_le (by omega)]
    · rw [show a + p = E by omega]
  rw [fmF_step _ _ _ (by omega), hch, hdl, hp, hS2, hdd] at e4
  have hz7 : z1.length = 7 := by rw [← hz]; simp [fx_len]
  refine ⟨_, f', h9, by rw [← e4]; simp only [List.append_assoc], by omega, ?_⟩
  simp only [List.length_append, hM, hz7, fx_len, List.length_take, hdl]; omega
set_option maxRecDepth 20000 in
set_option maxHeartbeats 4000000 in
theorem refForm_any (w : World) (A : Option Addr) (n c : Nat) (bs : List Nat) (hr : Rd w w.heap.size A n (cb bs)) (hc : n ≤ c) (hb : ∀ x ∈ bs, x < 256) (hn : n ≤ 67108864) :
    Calls Try.prog 53 #[.slice A n c] w fun e w' => ∃ v', e = .returned v' ∧ Onto w w' w.heap.size 5 (.slice none 0 0) v' (formP bs).length (cb (formP bs)) := by
  have hbl : bs.length = n := by have := hr.1; rw [cb_length] at this; exact this
  have HR : Hd (Rd w w.heap.size A n (cb bs) ∧ n ≤ c ∧ (∀ x ∈ bs, x < 256) ∧ bs.length = n) := ⟨hr, hc, hb, hbl⟩
  have H0 : Hd (GS w w (.slice none 0 0) []) := ⟨World.ownsRow_nil _ _ _ _, Below.refl _ _⟩
  clear hr hb hbl
  go_enter Try.func53, Try.ntmps53
  go_wp2_with fail
  go_loopw [3, 4, 5] (fun u3 u4 u5 wr => ∃ (a S f : Nat) (ys : List Nat), u5 = .int .i64 (a : Int) ∧ u4 = .int .u32 (S : Int) ∧ GS w wr u3 ys ∧ ys ++ fmF f S (bs.drop a) = formP bs ∧ n - a ≤ f ∧ ys.length + 12 * (n - a) ≤ 12 * n ∧ S < 4294967296 ∧ a ≤ n + 16384) (fun _ _ u5 _ => n - (intOf u5).toNat)
  case atStart => exact ⟨0, 0, n, [], rfl, rfl, H0.out, by rw [List.nil_append]; unfold formP; rw [HR.out.2.2.2]; rfl, by omega, by simp, by omega, by omega⟩
  case round =>
    obtain ⟨a, S, f, ys, rfl, rfl, h3, h4, h5, h8, h9, h10⟩ := hrel
    have HI : Hd (ys ++ fmF f S (bs.drop a) = formP bs ∧ n - a ≤ f ∧ ys.length + 12 * (n - a) ≤ 12 * n ∧ S < 4294967296) := ⟨h4, h5, h8, h9⟩
    have HF := Hd.mk h3
    obtain ⟨M, hM⟩ : ∃ M, ys.length = M := ⟨_, rfl⟩
    have HM : Hd (ys.length = M) := ⟨hM⟩
    rw [hM] at h8
    rw [HM.out] at HI
    clear h3 h4 h5 hM
    obtain ⟨E, hE⟩ : ∃ E, a + 16384 = E := ⟨_, rfl⟩
    have HE := Hd.mk hE
    have hEi : (a : Int) + 16384 = (E : Int) := by omega
    have hEb : E ≤ 67141632 := by omega
    have hS : (S : Int) < 4294967296 := by omega
    by_cases ha : a < n
    · have hai : (a : Int) < (n : Int) := by omega
      by_cases hl : n ≤ E
      · have hli : (n : Int) ≤ (E : Int) := by omega
        obtain ⟨p, hp⟩ : ∃ p, n - a = p := ⟨_, rfl⟩
        have hpi : (n : Int) - (a : Int) = (p : Int) := by omega
        have hp1 : p ≤ 16384 := by omega
        have hpm : p ≤ n := by omega
        have HPE : Hd (min (n - a) 16384 = p) := ⟨by omega⟩
        have HK : Hd (2 = if n - a ≤ 16384 then 2 else 1) := ⟨by rw [if_pos (by omega)]⟩
        have hps := fun w => run_cut (P := Try.prog) (w := w) elB A n c a n (by omega) (by omega)
        have hpe : n - a = p := hp
        rw [hpe] at hps
        have HCX : Hd (∀ x ∈ fx 1 2 ++ fx 2 p, x < 256) := ⟨fun x hx => (List.mem_append.1 hx).elim (fx_lt _ _ x) (fx_lt _ _ x)⟩
        have HT : Hd (Rd w w.heap.size (cutA A c a) p (cb ((bs.drop a).take p)) ∧ (∀ x ∈ (bs.drop a).take p, x < 256) ∧ ((bs.drop a).take p).length = p) := ⟨by
          have := HR.out.1.cut (c := c) (l := a) (h := n) (by omega) (by omega) HR.out.2.1
          rw [hpe, cb_drop, cb_take] at this; exact this, fun x hx => HR.out.2.2.1 x (List.mem_of_mem_drop (List.mem_of_mem_take hx)), by rw [List.length_take, List.length_drop, HR.out.2.2.2]; omega⟩
        have l1 : Hd (M + 7 ≤ maxLen ∧ (M + 7) * 1 ≤ 140737488355328 ∧ M + 7 + p ≤ maxLen ∧ (M + 7 + p) * 1 ≤ 140737488355328 ∧ M + 7 + p + 4 ≤ maxLen ∧ (M + 7 + p + 4) * 1 ≤ 140737488355328) := ⟨form_lens M p n (n - a) h8 hn hp1⟩
        clear hpe hp h8
        go_wp2_with fail
        refine (refFixed_any _ (some ⟨wr.heap.size, 0, none⟩) 1 1 (wr.heap.size + 1) p 2 (fx 1 2) (rd_lit [.int .u8 2]) (by omega) (by omega) (by omega) (by simp)).mono ?_
        rintro e w1 ⟨v1, rfl, hO⟩
        obtain ⟨Ab, cb2, rfl, _, _⟩ := own_form hO.own
        have H1 : Hd (GS w w1 u3 ys ∧ Rd w1 w1.heap.size Ab 3 (cb (fx 1 2 ++ fx 2 p))) := ⟨HF.out.step (((Below.refl _ wr).alloc (Nat.le_refl _) _).trans ((hO.below (fun k h => by cases h) (Nat.le_refl _)).mono (by simp))), Rd.of_own hO.own⟩
        clear hO
        go_wp2_with fail
        refine (refSum_any w1 Ab 3 cb2 w1.heap.size (fx 1 2 ++ fx 2 p) H1.out.2 (Nat.le_refl _) HCX.out (by omega)).mono ?_
        obtain ⟨q, hq⟩ : ∃ q, Crc.more 0 (fx 1 2 ++ fx 2 p) = q := ⟨_, rfl⟩
        have HQ : Hd (Crc.more 0 (fx 1 2 ++ fx 2 p) = q) := ⟨hq⟩
        have hq2 : q < 4294967296 := by rw [← hq]; exact Crc.more_lt _ _
        rw [hq]; clear hq
        rintro e w4 ⟨rfl, hb4⟩
        have H4 : Hd (GS w w4 u3 ys ∧ Rd w4 w4.heap.size Ab 3 (cb (fx 1 2 ++ fx 2 p))) := ⟨H1.out.1.step hb4, (H1.out.2.below hb4).more hb4.size⟩
        clear hb4 H1
        go_wp2_with fail
        refine (refFixed_any w4 Ab 3 cb2 w4.heap.size q 4 (fx 1 2 ++ fx 2 p) H4.out.2 (by omega) (by omega) (by omega) (Nat.le_refl _)).mono ?_
        rintro e w5 ⟨v5, rfl, hO⟩
        obtain ⟨Ac, cc, rfl, _, _⟩ := own_form hO.own
        have H5 : Hd (GS w w5 u3 ys ∧ Rd w5 w5.heap.size Ac 7 (cb (fx 1 2 ++ fx 2 p ++ fx 4 q))) := ⟨H4.out.1.step (hO.below (fun k h => by cases h) (Nat.le_refl _)), Rd.of_own hO.own⟩
        clear hO H4
        obtain ⟨z1, hz1⟩ : ∃ z1, fx 1 2 ++ fx 2 p ++ fx 4 q = z1 := ⟨_, rfl⟩
        have HZ1 : Hd (fx 1 2 ++ fx 2 p ++ fx 4 q = z1 ∧ z1.length = 7) := ⟨hz1, by rw [← hz1]; simp [fx_len]⟩
        rw [hz1] at H5; clear hz1
        go_wp2_with (at_builtin; first
          | (
            refine wpList_app elB rfl (.tmp 31) (.tmp 36) rfl w.heap.size u3 M (cb ys) rfl (by rw [← HM.out]; exact H5.out.1.own) w5.heap.size Ac 7 cc (cb z1) rfl H5.out.2 (cb_one z1) l1.out.1 l1.out.2.1 H5.out.1.bel.size ?_
            intro v6 w6 hO
            have H6 : Hd (GS w w6 v6 (ys ++ z1) ∧ (ys ++ z1).length = M + 7) := ⟨H5.out.1.push (by rw [HM.out, HZ1.out.2]; exact hO), by rw [List.length_append, HM.out, HZ1.out.2]⟩
            clear hO H5)
          | (
            refine wpList_app elB rfl (.tmp 38) (.tmp 42) rfl w.heap.size v6 (M + 7) (cb (ys ++ z1)) rfl (by rw [← H6.out.2]; exact H6.out.1.own) w.heap.size (cutA A c a) p (c - a) (cb ((bs.drop a).take p)) rfl (HT.out.1.below H6.out.1.bel) (cb_one _) l1.out.2.2.1 l1.out.2.2.2.1 H6.out.1.bel.size ?_
            intro v7 w7 hO
            have H7 : Hd (GS w w7 v7 (ys ++ z1 ++ (bs.drop a).take p) ∧ (ys ++ z1 ++ (bs.drop a).take p).length = M + 7 + p) := ⟨H6.out.1.push (by rw [H6.out.2, HT.out.2.2]; exact hO), by rw [List.length_append, H6.out.2, HT.out.2.2]⟩
            clear hO H6))
        refine (refMore_any w7 (cutA A c a) p (c - a) w.heap.size ((bs.drop a).take p) (S : Int) (by omega) (by omega) (HT.out.1.below H7.out.1.bel) H7.out.1.bel.size HT.out.2.1 (by omega)).mono ?_
        obtain ⟨S2, hS2⟩ : ∃ S2, Crc.more S ((bs.drop a).take p) = S2 := ⟨_, rfl⟩
        have HS2 : Hd (Crc.more S ((bs.drop a).take p) = S2) := ⟨hS2⟩
        have hs2 : S2 < 4294967296 := by rw [← hS2]; exact Crc.more_lt _ _
        rw [Int.toNat_natCast, hS2]; clear hS2
        rintro e w8 ⟨rfl, hb8⟩
        have H8 : Hd (GS w w8 v7 (ys ++ z1 ++ (bs.drop a).take p) ∧ (ys ++ z1 ++ (bs.drop a).take p).length = M + 7 + p) := ⟨H7.out.1.step hb8, H7.out.2⟩
        clear hb8 H7
        go_wp2_with fail
        refine (refFixed_any w8 none 0 0 w8.heap.size S2 4 [] Rd.nil (by omega) (by omega) (by omega) (Nat.le_refl _)).mono ?_
        rintro e w9 ⟨v9, rfl, hO⟩
        rw [List.nil_append] at hO
        obtain ⟨Ad, cd, rfl, _, _⟩ := own_form hO.own
        have H9 : Hd (GS w w9 v7 (ys ++ z1 ++ (bs.drop a).take p) ∧ Rd w9 w9.heap.size Ad 4 (cb (fx 4 S2)) ∧ (ys ++ z1 ++ (bs.drop a).take p).length = M + 7 + p) := ⟨H8.out.1.step (hO.below (fun k h => by cases h) (Nat.le_refl _)), Rd.of_own (by rw [Nat.zero_add] at hO; exact hO.own), H8.out.2⟩
        clear hO H8
        go_wp2_with (
          refine wpList_app elB rfl (.tmp 50) (.tmp 53) rfl w.heap.size v7 (M + 7 + p) (cb (ys ++ z1 ++ (bs.drop a).take p)) rfl (by rw [← H9.out.2.2]; exact H9.out.1.own) w9.heap.size Ad 4 cd (cb (fx 4 S2)) rfl H9.out.2.1 (cb_one _) l1.out.2.2.2.2.1 l1.out.2.2.2.2.2 H9.out.1.bel.size ?_
          intro v10 w10 hO
          have H10 : Hd (GS w w10 v10 (ys ++ z1 ++ (bs.drop a).take p ++ fx 4 S2)) := ⟨H9.out.1.push (by rw [H9.out.2.2, fx_len]; exact hO)⟩
          clear hO H9)
        go_roundw
        case rel =>
          obtain ⟨ys', f', g1, g2, g3, g4⟩ := fr_rel (p := p) (k := 2) HK.out HE.out HPE.out ha HM.out HR.out.2.2.2 HI.out HQ.out HZ1.out.1 HS2.out hs2 H10.out
          exact ⟨E, S2, f', ys', rfl, rfl, g1, g2, g3, g4, hs2, by omega⟩
        case measure => simp [intOf]; omega
      · have hli : ¬ (n : Int) ≤ (E : Int) := by omega
        obtain ⟨p, hp⟩ : ∃ p, E - a = p := ⟨_, rfl⟩
        have hpi : (E : Int) - (a : Int) = (p : Int) := by omega
        have hp1 : p ≤ 16384 := by omega
        have hpm : p ≤ n := by omega
        have HPE : Hd (min (n - a) 16384 = p) := ⟨by omega⟩
        have HK : Hd (1 = if n - a ≤ 16384 then 2 else 1) := ⟨by rw [if_neg (by omega)]⟩
        have hps := fun w => run_cut (P := Try.prog) (w := w) elB A n c a E (by omega) (by omega)
        have hpe : E - a = p := hp
        rw [hpe] at hps
        have HCX : Hd (∀ x ∈ fx 1 1 ++ fx 2 p, x < 256) := ⟨fun x hx => (List.mem_append.1 hx).elim (fx_lt _ _ x) (fx_lt _ _ x)⟩
        have HT : Hd (Rd w w.heap.size (cutA A c a) p (cb ((bs.drop a).take p)) ∧ (∀ x ∈ (bs.drop a).take p, x < 256) ∧ ((bs.drop a).take p).length = p) := ⟨by
          have := HR.out.1.cut (c := c) (l := a) (h := E) (by omega) (by omega) HR.out.2.1
          rw [hpe, cb_drop, cb_take] at this; exact this, fun x hx => HR.out.2.2.1 x (List.mem_of_mem_drop (List.mem_of_mem_take hx)), by rw [List.length_take, List.length_drop, HR.out.2.2.2]; omega⟩
        have l1 : Hd (M + 7 ≤ maxLen ∧ (M + 7) * 1 ≤ 140737488355328 ∧ M + 7 + p ≤ maxLen ∧ (M + 7 + p) * 1 ≤ 140737488355328 ∧ M + 7 + p + 4 ≤ maxLen ∧ (M + 7 + p + 4) * 1 ≤ 140737488355328) := ⟨form_lens M p n (n - a) h8 hn hp1⟩
        clear hpe hp h8
        go_wp2_with fail
        refine (refFixed_any _ (some ⟨wr.heap.size, 0, none⟩) 1 1 (wr.heap.size + 1) p 2 (fx 1 1) (rd_lit [.int .u8 1]) (by omega) (by omega) (by omega) (by simp)).mono ?_
        rintro e w1 ⟨v1, rfl, hO⟩
        obtain ⟨Ab, cb2, rfl, _, _⟩ := own_form hO.own
        have H1 : Hd (GS w w1 u3 ys ∧ Rd w1 w1.heap.size Ab 3 (cb (fx 1 1 ++ fx 2 p))) := ⟨HF.out.step (((Below.refl _ wr).alloc (Nat.le_refl _) _).trans ((hO.below (fun k h => by cases h) (Nat.le_refl _)).mono (by simp))), Rd.of_own hO.own⟩
        clear hO
        go_wp2_with fail
        refine (refSum_any w1 Ab 3 cb2 w1.heap.size (fx 1 1 ++ fx 2 p) H1.out.2 (Nat.le_refl _) HCX.out (by omega)).mono ?_
        obtain ⟨q, hq⟩ : ∃ q, Crc.more 0 (fx 1 1 ++ fx 2 p) = q := ⟨_, rfl⟩
        have HQ : Hd (Crc.more 0 (fx 1 1 ++ fx 2 p) = q) := ⟨hq⟩
        have hq2 : q < 4294967296 := by rw [← hq]; exact Crc.more_lt _ _
        rw [hq]; clear hq
        rintro e w4 ⟨rfl, hb4⟩
        have H4 : Hd (GS w w4 u3 ys ∧ Rd w4 w4.heap.size Ab 3 (cb (fx 1 1 ++ fx 2 p))) := ⟨H1.out.1.step hb4, (H1.out.2.below hb4).more hb4.size⟩
        clear hb4 H1
        go_wp2_with fail
        refine (refFixed_any w4 Ab 3 cb2 w4.heap.size q 4 (fx 1 1 ++ fx 2 p) H4.out.2 (by omega) (by omega) (by omega) (Nat.le_refl _)).mono ?_
        rintro e w5 ⟨v5, rfl, hO⟩
        obtain ⟨Ac, cc, rfl, _, _⟩ := own_form hO.own
        have H5 : Hd (GS w w5 u3 ys ∧ Rd w5 w5.heap.size Ac 7 (cb (fx 1 1 ++ fx 2 p ++ fx 4 q))) := ⟨H4.out.1.step (hO.below (fun k h => by cases h) (Nat.le_refl _)), Rd.of_own hO.own⟩
        clear hO H4
        obtain ⟨z1, hz1⟩ : ∃ z1, fx 1 1 ++ fx 2 p ++ fx 4 q = z1 := ⟨_, rfl⟩
        have HZ1 : Hd (fx 1 1 ++ fx 2 p ++ fx 4 q = z1 ∧ z1.length = 7) := ⟨hz1, by rw [← hz1]; simp [fx_len]⟩
        rw [hz1] at H5; clear hz1
        go_wp2_with (at_builtin; first
          | (
            refine wpList_app elB rfl (.tmp 31) (.tmp 36) rfl w.heap.size u3 M (cb ys) rfl (by rw [← HM.out]; exact H5.out.1.own) w5.heap.size Ac 7 cc (cb z1) rfl H5.out.2 (cb_one z1) l1.out.1 l1.out.2.1 H5.out.1.bel.size ?_
            intro v6 w6 hO
            have H6 : Hd (GS w w6 v6 (ys ++ z1) ∧ (ys ++ z1).length = M + 7) := ⟨H5.out.1.push (by rw [HM.out, HZ1.out.2]; exact hO), by rw [List.length_append, HM.out, HZ1.out.2]⟩
            clear hO H5)
          | (
            refine wpList_app elB rfl (.tmp 38) (.tmp 42) rfl w.heap.size v6 (M + 7) (cb (ys ++ z1)) rfl (by rw [← H6.out.2]; exact H6.out.1.own) w.heap.size (cutA A c a) p (c - a) (cb ((bs.drop a).take p)) rfl (HT.out.1.below H6.out.1.bel) (cb_one _) l1.out.2.2.1 l1.out.2.2.2.1 H6.out.1.bel.size ?_
            intro v7 w7 hO
            have H7 : Hd (GS w w7 v7 (ys ++ z1 ++ (bs.drop a).take p) ∧ (ys ++ z1 ++ (bs.drop a).take p).length = M + 7 + p) := ⟨H6.out.1.push (by rw [H6.out.2, HT.out.2.2]; exact hO), by rw [List.length_append, H6.out.2, HT.out.2.2]⟩
            clear hO H6))
        refine (refMore_any w7 (cutA A c a) p (c - a) w.heap.size ((bs.drop a).take p) (S : Int) (by omega) (by omega) (HT.out.1.below H7.out.1.bel) H7.out.1.bel.size HT.out.2.1 (by omega)).mono ?_
        obtain ⟨S2, hS2⟩ : ∃ S2, Crc.more S ((bs.drop a).take p) = S2 := ⟨_, rfl⟩
        have HS2 : Hd (Crc.more S ((bs.drop a).take p) = S2) := ⟨hS2⟩
        have hs2 : S2 < 4294967296 := by rw [← hS2]; exact Crc.more_lt _ _
        rw [Int.toNat_natCast, hS2]; clear hS2
        rintro e w8 ⟨rfl, hb8⟩
        have H8 : Hd (GS w w8 v7 (ys ++ z1 ++ (bs.drop a).take p) ∧ (ys ++ z1 ++ (bs.drop a).take p).length = M + 7 + p) := ⟨H7.out.1.step hb8, H7.out.2⟩
        clear hb8 H7
        go_wp2_with fail
        refine (refFixed_any w8 none 0 0 w8.heap.size S2 4 [] Rd.nil (by omega) (by omega) (by omega) (Nat.le_refl _)).mono ?_
        rintro e w9 ⟨v9, rfl, hO⟩
        rw [List.nil_append] at hO
        obtain ⟨Ad, cd, rfl, _, _⟩ := own_form hO.own
        have H9 : Hd (GS w w9 v7 (ys ++ z1 ++ (bs.drop a).take p) ∧ Rd w9 w9.heap.size Ad 4 (cb (fx 4 S2)) ∧ (ys ++ z1 ++ (bs.drop a).take p).length = M + 7 + p) := ⟨H8.out.1.step (hO.below (fun k h => by cases h) (Nat.le_refl _)), Rd.of_own (by rw [Nat.zero_add] at hO; exact hO.own), H8.out.2⟩
        clear hO H8
        go_wp2_with (
          refine wpList_app elB rfl (.tmp 50) (.tmp 53) rfl w.heap.size v7 (M + 7 + p) (cb (ys ++ z1 ++ (bs.drop a).take p)) rfl (by rw [← H9.out.2.2]; exact H9.out.1.own) w9.heap.size Ad 4 cd (cb (fx 4 S2)) rfl H9.out.2.1 (cb_one _) l1.out.2.2.2.2.1 l1.out.2.2.2.2.2 H9.out.1.bel.size ?_
          intro v10 w10 hO
          have H10 : Hd (GS w w10 v10 (ys ++ z1 ++ (bs.drop a).take p ++ fx 4 S2)) := ⟨H9.out.1.push (by rw [H9.out.2.2, fx_len]; exact hO)⟩
          clear hO H9)
        go_roundw
        case rel =>
          obtain ⟨ys', f', g1, g2, g3, g4⟩ := fr_rel (p := p) (k := 1) HK.out HE.out HPE.out ha HM.out HR.out.2.2.2 HI.out HQ.out HZ1.out.1 HS2.out hs2 H10.out
          exact ⟨E, S2, f', ys', rfl, rfl, g1, g2, g3, g4, hs2, by omega⟩
        case measure => simp [intOf]; omega
    · have hai : ¬ (a : Int) < (n : Int) := by omega
      go_wp2_with fail
      go_ret
      have e4 := HI.out.1
      rw [List.drop_of_length_le (by rw [HR.out.2.2.2]; omega), fmF_nil, List.append_nil] at e4
      rw [← e4]
      have hF := HF.out
      exact ⟨u3, rfl, hF.own, ⟨hF.bel.os, hF.bel.tape, hF.bel.output, hF.bel.size, fun k hk _ => hF.bel.block k hk⟩, fun k hk => .inr (hF.own.lt k hk).1⟩
end Go.Proofs.Ytbcmjjcbjojakaa
