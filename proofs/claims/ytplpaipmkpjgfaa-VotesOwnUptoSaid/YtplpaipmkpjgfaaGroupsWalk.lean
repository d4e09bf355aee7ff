/- The walk of VotesGroups: it returns true for every input. -/
import Derived.Test.YtplpaipmkpjgfaaRefPs
import Derived.Test.YtplpaipmkpjgfaaSameG
namespace Go.Proofs.Ytplpaipmkpjgfaa
open Go.RowKit
set_option linter.unusedVariables false
set_option linter.unusedSimpArgs false
theorem possW_len (S : Nat → Sn) (n : Nat) (k : Int) : ∀ l, (possW S n k l).1.length ≤ l.length
  | [] => Nat.le_refl _
  | x :: r => by
    have ih := possW_len S n k r
    unfold possW
    split
    · split <;> simp
    · split <;> simp <;> omega
theorem poss_len (S : Nat → Sn) (n : Nat) (k m b : Int) : (possP S n k m b).1.length ≤ n := by
  unfold possP
  split
  · exact Nat.le_trans (possW_len S n k _) (grpL_le S n)
  · exact Nat.zero_le _
theorem GLT.congr {T base : Nat} {wr : World} {S S' : Nat → Sn} {n : Nat} {f : Wr → Value} {v : Value} {l : List Wr} (H : GLT T base wr S' n f v l) (h : ∀ r, r < n → (S' r).kind = (S r).kind ∧ (S' r).hd = (S r).hd) : GLT T base wr S n f v l :=
  ⟨fun x hx => by have := H.rows x hx; rwa [plc_congr h] at this, H.apart, H.out, H.off⟩
theorem SeenA.keep {w w' : World} {A : Option Addr} {n : Nat} {S : Nat → Sn} {B : Nat → List (List Nat)} (h : SeenA w A n S B) (b : Below w.heap.size w w') : SeenA w' A n S B :=
  ⟨(h.view.below b).more b.size, fun r hr => ((h.blk r hr).below b).more b.size, h.lenA, h.lenB, h.lenR⟩
theorem Lent.keep {w w' : World} {n c : Nat} {A : Option Addr} {S : Nat → Sn} {B : Nat → List (List Nat)} (h : Lent w w.heap.size A n c S B) (b : Below w.heap.size w w') : Lent w' w'.heap.size A n c S B := by
  obtain ⟨g, bl, e, hg, hc, h1, h2⟩ := h.below b
  exact ⟨g, bl, e, Nat.lt_of_lt_of_le hg b.size, hc, fun r hr => ⟨(h1 r hr).1, (h1 r hr).2.keep (fun _ _ => rfl) fun g hg => Nat.lt_of_lt_of_le hg b.size⟩, h2⟩
set_option maxRecDepth 20000 in
set_option maxHeartbeats 16000000 in
theorem groups_walk (A : Option Addr) (n c : Nat) (S : Nat → Sn) (B : Nat → List (List Nat)) (k m b : Int) (w : World) (hA : SeenA w A n S B) :
    Calls Try.prog 5 #[.agg #[.int .i64 k, .int .i64 m, .int .i64 b], .slice A n c] w fun e w' => e = .returned (.bool true) ∧ Below w.heap.size w w' := by
  have HA := Hd.mk hA
  have hn := hA.lenA
  clear hA
  have H1 := Hd.mk (PSt.start w k m b)
  go_enter Try.func5, Try.ntmps5
  go_wp2_with fail
  obtain ⟨w1, hw1⟩ : ∃ w1, w.alloc (.cells #[.int .i64 k, .int .i64 m, .int .i64 b] 34) = w1 := ⟨_, rfl⟩
  rw [hw1] at H1 ⊢
  clear hw1
  refine (refgroups_any w1 w.heap.size n c A S (HA.out.view.below H1.out.bel) H1.out.bel.size hn).mono ?_
  rintro e w2 ⟨v2, rfl, ⟨f2, hG2⟩, hb2⟩
  obtain ⟨L, hL⟩ : ∃ L, grpL S n = L := ⟨_, rfl⟩
  have hLn : L.length ≤ n := hL ▸ grpL_le S n
  rw [hL] at hG2
  have HL := Hd.mk hL
  clear hL
  obtain ⟨A2, c2, hv2, _, _⟩ := ownN_form hG2.out
  subst hv2
  have H2 := Hd.mk (And.intro (H1.out.keep hb2) hG2)
  clear hb2 hG2
  go_wp2_with (refine at_load ?_; refine wpList_load_row rfl 34 (.tmp 2) rfl w.heap.size rfl 34 #[.int .i64 k, .int .i64 m, .int .i64 b] (0, 0) _ H2.out.1.sh Try.underlying34 rfl infoSh ?_)
  refine (refpossible_any w2 w.heap.size n c A S (HA.out.view.below H2.out.1.bel) H2.out.1.bel.size hn k m b).mono ?_
  have hOn := poss_len S n k m b
  obtain ⟨⟨O, pb⟩, hp⟩ : ∃ r, possP S n k m b = r := ⟨_, rfl⟩
  rw [hp] at hOn ⊢
  have HP := Hd.mk hp
  clear hp
  rintro e w3 ⟨v3, rfl, ⟨f3, hG3⟩, hb3⟩
  change O.length ≤ n at hOn
  obtain ⟨A3, c3, hv3, _, _⟩ := ownN_form hG3.out
  subst hv3
  have H3 := Hd.mk (And.intro (H2.out.1.keep hb3) (And.intro (H2.out.2.keep hb3) hG3))
  clear hb3 hG3 H2 H1
  go_wp2_with fail
  refine (lent_any w3 A n c S B (HA.out.keep H3.out.1.bel)).mono ?_
  rintro e w4 ⟨A4, c4, rfl, hb4, hL4⟩
  have H4 := Hd.mk (And.intro (H3.out.1.keep hb4) (And.intro (H3.out.2.1.keep hb4) (And.intro (H3.out.2.2.keep hb4) hL4)))
  clear hb4 hL4 H3
  obtain ⟨S', hv', hc'⟩ := H4.out.2.2.2.view (HA.out.view.ok)
  have HV := Hd.mk (And.intro hv' hc')
  clear hv' hc'
  go_wp2_with fail
  refine (groups_any w4 w4.heap.size n c4 A4 S' HV.out.1 (Nat.le_refl _) hn).mono ?_
  rintro e w5 ⟨v5, f5, gl, rfl, hO5⟩
  have hG5 := hO5.gl.congr HV.out.2
  rw [grpL_congr HV.out.2, HL.out] at hG5
  obtain ⟨A5, c5, hv5, _, _⟩ := ownN_form hG5.out
  subst hv5
  have hb5 := hO5.bel
  have H5 := Hd.mk (And.intro (H4.out.1.keep hb5) (And.intro (H4.out.2.1.keep hb5) (And.intro (H4.out.2.2.1.keep hb5) (And.intro (H4.out.2.2.2.keep hb5) (And.intro (HV.out.1.below hb5) (And.intro hG5 hb5.size))))))
  clear hO5 hG5 hb5 H4
  go_wp2_with (refine at_load ?_; refine wpList_load_row rfl 34 (.tmp 2) rfl w.heap.size rfl 34 #[.int .i64 k, .int .i64 m, .int .i64 b] (0, 0) _ H5.out.1.sh Try.underlying34 rfl infoSh ?_)
  have hq := possible_any w5 w4.heap.size n c4 A4 S' H5.out.2.2.2.2.1 H5.out.2.2.2.2.2.2 hn k m b
  rw [possP_congr HV.out.2, HP.out] at hq
  refine hq.mono ?_
  clear hq
  rintro e w6 ⟨v6, rfl, ⟨f6, hG6⟩, hb6⟩
  have hG6 := hG6.congr HV.out.2
  obtain ⟨A6, c6, hv6, _, _⟩ := ownN_form hG6.out
  change v6 = .slice A6 O.length c6 at hv6
  subst hv6
  have H6 := Hd.mk (And.intro (H5.out.1.keep hb6) (And.intro (H5.out.2.1.keep hb6) (And.intro (H5.out.2.2.1.keep hb6) (And.intro (H5.out.2.2.2.1.keep hb6) (And.intro (H5.out.2.2.2.2.2.1.keep hb6) hG6)))))
  clear hb6 hG6 H5
  go_wp2_with fail
  refine (samegroups_any w6 _ _ n c5 c2 A5 A2 S f5 f2 L H6.out.2.2.2.2.1 H6.out.2.1 hLn hn).mono ?_
  rintro e w7 ⟨rfl, hb7⟩
  have H7 := Hd.mk (And.intro (H6.out.1.keep hb7) (And.intro (H6.out.2.2.1.keep hb7) (And.intro (H6.out.2.2.2.1.keep hb7) (H6.out.2.2.2.2.2.keep hb7))))
  clear hb7 H6
  go_wp2_with fail
  refine (samegroups_any w7 _ _ n c6 c3 A6 A3 S f6 f3 O H7.out.2.2.2 H7.out.2.1 hOn hn).mono ?_
  rintro e w8 ⟨rfl, hb8⟩
  have H8 := Hd.mk (And.intro (H7.out.1.keep hb8) (H7.out.2.2.1.keep hb8))
  clear hb8 H7
  go_wp2_with fail
  refine (kept_any w8 A4 A n c4 c S B H8.out.2 (HA.out.keep H8.out.1.bel)).mono ?_
  rintro e w9 ⟨rfl, hb9⟩
  have HF := Hd.mk (H8.out.1.bel.trans (hb9.mono H8.out.1.bel.size))
  clear hb9
  go_wp2_with fail
  go_ret
  exact ⟨rfl, HF.out⟩
end Go.Proofs.Ytplpaipmkpjgfaa
