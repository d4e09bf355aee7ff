/- Put together of: PushP PushW ReqW DrP. -/
import Derived.Test.YtbcmjjcbjojakaaChunkW
section
namespace Go.Proofs.Ytbcmjjcbjojakaa
open Go.RowKit
set_option linter.unusedVariables false
def MsgLaw {T : Type} (Z : Kd T) : Prop := ∀ (base : Nat) (w : World) (g : Nat) (vl vc vq : Value) (L c : List Nat) (S C k p : Nat) (ws : List Wm) (xs : List T), RdS Z base w g vl vc vq L c S C k p 0 ws xs → c.length ≤ 67108864 → ws.length ≤ 274877906944 →
  Calls Try.prog 102 #[.pointer (some ⟨g, 0, none⟩)] w (MsgDone Z base w g vl vc vq L c 0 ws xs)
theorem msgLaw_ask : MsgLaw askK := fun base w g vl vc vq L c S C k p ws xs h h1 h2 => message_ask base w g vl vc vq L c S C k p ws xs h h1 h2
/-- A message under way is not too long. -/
def MidOk (m : Mid) : Prop := m.k ≤ 2047 ∧ m.c.length ≤ 16384 * m.k ∧ m.p ≤ 16395 * m.k
theorem MidOk.zero : MidOk mid0 := ⟨by decide, by decide, by decide⟩
structure Conn {T : Type} (rd : List Nat → Option T) (o : Out T) (L : List Nat) (at_ : Nat) (m : Mid) (fl : Int) (ns : List T) : Prop where
 run : fl = 0 → o = ⟨ns ++ (go rd m (L.drop at_)).ms, (go rd m (L.drop at_)).fl, (go rd m (L.drop at_)).mid, (go rd m (L.drop at_)).rest⟩
 bad : fl ≠ 0 → o.ms = ns ∧ o.fl = fl
theorem Conn.start {T : Type} (rd : List Nat → Option T) (L : List Nat) (m : Mid) : Conn rd (go rd m L) L 0 m 0 [] := ⟨fun _ => by simp, fun h => absurd rfl h⟩
theorem chunk_any {T : Type} (Z : Kd T) (HMS : MsgLaw Z) (base : Nat) (w : World) (g : Nat) (vl vc vq : Value) (L : List Nat) (m : Mid) (C : Nat) (ws : List Wm) (xs : List T) (h : RdS Z base w g vl vc vq L m.c m.s C m.k m.p 0 ws xs) (A : Option Addr) (n cp : Nat) (bs : List Nat) (hr : Rd w w.heap.size A n (cb bs)) (hn : n ≤ cp) (hl : ∀ x ∈ bs, x < 256) (hn40 : n ≤ 1099511627776)
  (hA : ∀ gg off, A = some ⟨gg, off, none⟩ → 0 < n → gg ∉ rdY g vc vq) (hm : MidOk m) (hw : ws.length ≤ 274877906944) :
  Calls Try.prog 78 #[.pointer (some ⟨g, 0, none⟩), .slice A n cp] w (CkDone Z base w g vl vc vq L m bs ws xs) :=
 chunk_any0 Z base w g vl vc vq L m.c m.s C m.k m.p ws xs h A n cp bs hr hn hl hn40 hA hm.1 hm.2.1 hm.2.2 fun w1 vc1 c1 S1 C1 k1 p1 h1 h2 => HMS base w1 g vl vc1 vq L c1 S1 C1 k1 p1 ws xs h1 h2 hw
theorem conn_step {T : Type} {Z : Kd T} {N : Nat} {w' : World} {o : Out T} {L : List Nat} {at_ r : Nat} {m m' : Mid} {fl' : Int} {ns : List T} {ws ws' : List Wm} {xs xs' : List T} (hc : Conn Z.rd o L at_ m 0 ns) (ha : at_ ≤ L.length) (hm : MidOk m) (hk : CkLaw Z N w' m (L.drop at_) ws xs r m' fl' ws' xs') :
  (r = 0 ∧ ws' = ws ∧ xs' = xs ∧ ((fl' = 0 ∧ m' = m ∧ o = ⟨ns, 0, m, L.drop at_⟩) ∨ (fl' ≠ 0 ∧ o.ms = ns ∧ o.fl = fl'))) ∨
  (0 < r ∧ at_ + r ≤ L.length ∧ ∃ (d : List T) (dw : List Wm), xs' = xs ++ d ∧ ws' = ws ++ dw ∧ (∀ W ∈ dw, W.ok w' N) ∧ d.length ≤ 1 ∧ dw.length ≤ 1 ∧ Conn Z.rd o L (at_ + r) m' fl' (ns ++ d) ∧ (fl' = 0 → MidOk m')) := by
 have hrun := hc.run rfl
 unfold CkLaw at hk
 cases hck : ckP m.s m.k (L.drop at_) with
 | wait =>
  rw [hck] at hk
  obtain ⟨rfl, rfl, rfl, rfl, rfl⟩ := hk
  refine .inl ⟨rfl, rfl, rfl, .inl ⟨rfl, rfl, ?_⟩⟩
  rw [hrun, go_wait hck]; simp
 | bad e =>
  rw [hck] at hk
  obtain ⟨rfl, rfl, rfl, rfl⟩ := hk
  have he := ckP_bad hck
  refine .inl ⟨rfl, rfl, rfl, .inr ⟨by omega, ?_, ?_⟩⟩ <;> rw [hrun, go_bad hck] <;> simp
 | ok l n =>
  have h2 := ckP_ok hck
  rw [List.length_drop] at h2
  rw [hck] at hk
  have hdrop : (L.drop at_).drop (n + 11) = L.drop (at_ + (n + 11)) := by rw [List.drop_drop]
  cases l with
  | false =>
   obtain ⟨rfl, rfl, rfl, rfl, rfl⟩ := hk
   have h3 := h2.2.2.2.2.2.2.2.2 rfl
   refine .inr ⟨by omega, by omega, [], [], by simp, by simp, by simp, by simp, by simp, ⟨fun _ => ?_, fun h => absurd rfl h⟩, fun _ => ?_⟩
   ·rw [hrun, go_more hck, hdrop]; simp
   ·obtain ⟨k1, k2, k3⟩ := hm
    unfold MidOk Mid.next
    simp only [List.length_append]
    rw [seg_len (by rw [List.length_drop]; omega)]
    omega
  | true =>
   obtain ⟨rfl, rfl, hk⟩ := hk
   rcases hk with ⟨x, W, hrd, rfl, rfl, rfl, hW⟩ | ⟨hrd, rfl, rfl, rfl⟩
   ·refine .inr ⟨by omega, by omega, [x], [W], rfl, rfl, fun V hV => by rw [List.mem_singleton.1 hV]; exact hW, by simp, by simp, ⟨fun _ => ?_, fun h => absurd rfl h⟩, fun _ => MidOk.zero⟩
    rw [hrun, go_some hck hrd, hdrop]; unfold Out.pre; simp
   ·refine .inr ⟨by omega, by omega, [], [], by simp, by simp, by simp, by simp, by simp, ⟨fun h => absurd h (by decide), fun _ => ?_⟩, fun h => absurd h (by decide)⟩
    rw [hrun, go_none hck hrd]; simp
/-- What Push does of a reader without a fault. -/
def PushDone {T : Type} (Z : Kd T) (base : Nat) (w : World) (g : Nat) (vl vc vq : Value) (o : Out T) (ws : List Wm) (xs : List T) (e : Ending) (w' : World) : Prop :=
 ∃ (vl' vc' vq' : Value) (L' : List Nat) (m' : Mid) (C' : Nat) (nw : List Wm), e = .returned (.int .i64 o.fl) ∧ RdS Z base w' g vl' vc' vq' L' m'.c m'.s C' m'.k m'.p o.fl (ws ++ nw) (xs ++ o.ms) ∧ (o.fl = 0 → m' = o.mid ∧ L' = o.rest ∧ MidOk m') ∧ (o.fl ≠ 0 → L' = []) ∧
  Chg (rdX g vl vc vq) w w' ∧ (∀ x ∈ rdX g vl' vc' vq', x ∈ rdX g vl vc vq ∨ w.heap.size ≤ x) ∧ (∀ W ∈ nw, W.ok w' w.heap.size)
/-- How a loop over the chunks ends. -/
structure PEnd {T : Type} (o : Out T) (L : List Nat) (at_ : Nat) (m : Mid) (fl : Int) (ns : List T) : Prop where
 ok : fl = 0 → o = ⟨ns, 0, m, L.drop at_⟩ ∧ MidOk m
 bad : fl ≠ 0 → o.ms = ns ∧ o.fl = fl
theorem PEnd.fl {T : Type} {o : Out T} {L : List Nat} {at_ : Nat} {m : Mid} {f : Int} {ns : List T} (h : PEnd o L at_ m f ns) : o.fl = f ∧ o.ms = ns := by
 by_cases h0 : f = 0
 ·rw [(h.ok h0).1, h0]; exact ⟨rfl, rfl⟩
 ·exact ⟨(h.bad h0).2, (h.bad h0).1⟩
theorem Y_sub_X {g x : Nat} {vl vc vq : Value} (hx : x ∈ rdY g vc vq) : x ∈ rdX g vl vc vq := by
 rcases mem_Y.1 hx with h1 | h1 | h1
 ·exact mem_X.2 (.inr (.inl h1))
 ·exact mem_X.2 (.inr (.inr (.inl h1)))
 ·exact mem_X.2 (.inr (.inr (.inr h1)))
theorem cut_block {A : Option Addr} {c l n gg off : Nat} (h : cutA A c l = some ⟨gg, off, none⟩) : (Value.slice A n c).ownBlock = some gg := by
 unfold cutA at h
 rcases A with _ | a
 ·split at h <;> cases h
 ·split at h
  ·injection h with h; subst h; rfl
  ·simp only [Option.map_some, Option.some.injEq] at h
   have h2 : (a.add l).block = gg := by rw [h]
   unfold Addr.add at h2
   simp only [Value.ownBlock, Option.some.injEq]
   split at h2 <;> exact h2
theorem push_end {T : Type} {Z : Kd T} {base : Nat} {w w' : World} {g : Nat} {vl vc vq vl' vc' vq' : Value} {o : Out T} {ws nw : List Wm} {xs ns : List T} {L' : List Nat} {m' : Mid} {C' : Nat} {f : Int}
  (h : RdS Z base w' g vl' vc' vq' L' m'.c m'.s C' m'.k m'.p f (ws ++ nw) (xs ++ ns)) (h1 : o.fl = f) (h2 : o.ms = ns) (h3 : o.fl = 0 → m' = o.mid ∧ L' = o.rest ∧ MidOk m') (h4 : o.fl ≠ 0 → L' = []) (h5 : Chg (rdX g vl vc vq) w w')
  (h6 : ∀ x ∈ rdX g vl' vc' vq', x ∈ rdX g vl vc vq ∨ w.heap.size ≤ x) (h7 : ∀ W ∈ nw, W.ok w' w.heap.size) : PushDone Z base w g vl vc vq o ws xs (.returned (.int .i64 f)) w' :=
 ⟨vl', vc', vq', L', m', C', nw, by rw [h1], by rw [h1, h2]; exact h, h3, h4, h5, h6, h7⟩
end Go.Proofs.Ytbcmjjcbjojakaa
end
section
namespace Go.Proofs.Ytbcmjjcbjojakaa
open Go.RowKit
set_option linter.unusedVariables false
set_option linter.unusedSimpArgs false
set_option maxRecDepth 20000 in
set_option maxHeartbeats 16000000 in
theorem push_any {T : Type} (Z : Kd T) (HMS : MsgLaw Z) (base : Nat) (w : World) (g : Nat) (vl vc vq : Value) (L : List Nat) (m : Mid) (C : Nat) (ws : List Wm) (xs : List T) (h : RdS Z base w g vl vc vq L m.c m.s C m.k m.p 0 ws xs) (A : Option Addr) (n cp : Nat) (bs : List Nat) (hr : Rd w w.heap.size A n (cb bs)) (hl : ∀ x ∈ bs, x < 256)
  (hm : MidOk m) (hb : ws.length + L.length + n ≤ 137438953472) :
  Calls Try.prog 35 #[.pointer (some ⟨g, 0, none⟩), .slice A n cp] w (PushDone Z base w g vl vc vq (go Z.rd m (L ++ bs)) ws xs) := by
 have hbl : bs.length = n := by have := hr.1; rwa [cb_length] at this
 have H0 := Hd.mk h
 have HM := Hd.mk HMS
 have HR : Hd (Rd w w.heap.size A n (cb bs) ∧ (∀ x ∈ bs, x < 256) ∧ bs.length = n ∧ MidOk m) := ⟨hr, hl, hbl, hm⟩
 have d7 : w.cell? ⟨g, 7, none⟩ = some (.int .i64 0) := h.at_ 7 rfl
 have d1 : w.cell? ⟨g, 1, none⟩ = some vl := h.at_ 1 rfl
 obtain ⟨lL, hlL⟩ : ∃ l, L.length = l := ⟨_, rfl⟩
 have HLL := Hd.mk hlL
 rw [hlL] at hb
 clear h HMS hr hl hbl hm hlL
 obtain ⟨M, hM⟩ : ∃ M, lL + n = M := ⟨_, rfl⟩
 obtain ⟨LB, hLB⟩ : ∃ l, L ++ bs = l := ⟨_, rfl⟩
 rw [hLB]
 obtain ⟨o, ho⟩ : ∃ o, go Z.rd m LB = o := ⟨_, rfl⟩
 rw [ho]
 have HCN : Hd (Conn Z.rd o LB 0 m 0 []) := ⟨by rw [← ho]; exact Conn.start Z.rd LB m⟩
 have HLB := Hd.mk hLB
 clear hLB ho
 go_enter Try.func35, Try.ntmps35
 go_upto_region 6 with (at_builtin; refine wpList_app elB rfl (.tmp 22) (.tmp 23) rfl base vl lL (cb L) rfl (by have := H0.out.lo; rw [HLL.out] at this; exact this) w.heap.size A n cp (cb bs) rfl HR.out.1 (cb_one _) (by unfold maxLen; omega) (by omega) (Nat.le_trans H0.out.bg (Nat.le_of_lt H0.out.lt)) ?_; intro v1 w1 hO; rw [hM] at hO; obtain ⟨A1, cc1, hv1, hn1, _⟩ := own_form hO.own; subst hv1; have HO : Hd (Onto w w1 base 5 vl (.slice A1 M cc1) (L ++ bs).length (cb (L ++ bs))) := ⟨by rw [List.length_append, HLL.out, HR.out.2.2.1, cb_append, hM]; exact hO⟩; have e1 : w1.cell? ⟨g, 1, none⟩ = some vl := (World.cell?_of_block (a := ⟨g, 1, none⟩) (hO.2.1.block g H0.out.lt (fun e => H0.out.gl e.symm))).trans (H0.out.at_ 1 rfl); have y1 : w1.frozen? ⟨g, 1, none⟩ = false := (World.frozen?_of_block (a := ⟨g, 1, none⟩) (hO.2.1.block g H0.out.lt (fun e => H0.out.gl e.symm))).trans (H0.out.z 1); clear hO)
 obtain ⟨w2, hw2⟩ : ∃ U, w1.setCell ⟨g, 1, none⟩ (.slice A1 M cc1) = U := ⟨_, rfl⟩
 rw [hw2]
 have hlb : ∀ x ∈ L ++ bs, x < 256 := fun x hx => (List.mem_append.1 hx).elim (H0.out.lb x) (HR.out.2.1 x)
 have hLM : (L ++ bs).length = M := by rw [List.length_append, HLL.out, HR.out.2.2.1]; exact hM
 have H2 : Hd (RdS Z base w2 g (.slice A1 M cc1) vc vq (L ++ bs) m.c m.s C m.k m.p 0 ws xs ∧ Chg (rdX g vl vc vq) w w2 ∧ (∀ x, (Value.slice A1 M cc1).ownBlock = some x → vl.ownBlock = some x ∨ w.heap.size ≤ x)) := ⟨by rw [← hw2]; exact H0.out.loose (Y := vl.ownBlock.toList) ⟨HO.out.2.1.os, HO.out.2.1.tape, HO.out.2.1.output, HO.out.2.1.size, fun x hx hm => HO.out.2.1.block x hx fun e => hm (by rw [Option.mem_toList]; exact e.symm)⟩ (fun x hx => by rwa [Option.mem_toList] at hx) HO.out.1 HO.out.2.2 hlb, by rw [← hw2]; exact ((⟨HO.out.2.1.os, HO.out.2.1.tape, HO.out.2.1.output, HO.out.2.1.size, fun x hx hm => HO.out.2.1.block x hx fun e => hm (mem_X.2 (.inl e.symm))⟩ : Chg (rdX g vl vc vq) w w1)).setCell (mem_X.2 (.inr (.inl rfl))) _, HO.out.2.2⟩
 have HL : Hd ((∀ x ∈ L ++ bs, x < 256) ∧ (L ++ bs).length = M) := ⟨hlb, hLM⟩
 have HNC : Hd (M ≤ cc1) := ⟨hn1⟩
 rw [HLB.out] at H2 HL
 have hMb : M ≤ 137438953472 := by omega
 have hwb : ws.length + M ≤ 137438953472 := by omega
 clear hw2 hlb hLM e1 y1 HO d7 d1 hn1
 go_wp2_with fail
 go_loopw [5] (fun u5 wr => ∃ (at_ : Nat) (vc1 vq1 : Value) (m1 : Mid) (C1 : Nat) (fl1 : Int) (nw : List Wm) (ns : List T), u5 = .int .i64 (at_ : Int) ∧ at_ ≤ M ∧ nw.length ≤ at_ ∧ RdS Z base wr g (.slice A1 M cc1) vc1 vq1 LB m1.c m1.s C1 m1.k m1.p fl1 (ws ++ nw) (xs ++ ns) ∧ Chg (rdX g vl vc vq) w wr ∧ (∀ x ∈ rdX g (.slice A1 M cc1) vc1 vq1, x ∈ rdX g vl vc vq ∨ w.heap.size ≤ x) ∧ (∀ W ∈ nw, W.ok wr w.heap.size) ∧ Conn Z.rd o LB at_ m1 fl1 ns ∧ (fl1 = 0 → MidOk m1)) (fun u5 _ => M + 1 - (intOf u5).toNat)
 case atStart => exact ⟨0, vc, vq, m, C, 0, [], [], rfl, Nat.zero_le _, by simp, by rw [List.append_nil, List.append_nil]; exact H2.out.1, H2.out.2.1, fun x hx => by
   rcases mem_X.1 hx with h1 | h1 | h1 | h1
   ·rcases H2.out.2.2 x h1 with h2 | h2
    ·exact .inl (mem_X.2 (.inl h2))
    ·exact .inr h2
   ·exact .inl (mem_X.2 (.inr (.inl h1)))
   ·exact .inl (mem_X.2 (.inr (.inr (.inl h1))))
   ·exact .inl (mem_X.2 (.inr (.inr (.inr h1)))), by simp, HCN.out, fun _ => HR.out.2.2.2⟩
 case round =>
  obtain ⟨at_, vc1, vq1, m1, C1, fl1, nw, ns, rfl, hat, hnw, hS, hch, hfr, hok, hcn, hmo⟩ := hrel
  have HS := Hd.mk (And.intro hS (And.intro hch (And.intro hfr (And.intro hok (And.intro hcn hmo)))))
  have d7 : wr.cell? ⟨g, 7, none⟩ = some (.int .i64 fl1) := hS.at_ 7 rfl
  have d1 : wr.cell? ⟨g, 1, none⟩ = some (.slice A1 M cc1) := hS.at_ 1 rfl
  clear hS hch hfr hok hcn hmo H2 HCN
  have hcf : ∀ w, (Instr.slice 26 (.slice A1 M cc1) (some (.int .i64 (at_ : Int))) none none).run Try.prog w = .ok (.slice (cutA A1 cc1 at_) (M - at_) (cc1 - at_)) w := fun w => run_cut_from elB A1 M cc1 at_ hat
  have HCF := Hd.mk hcf
  clear hcf
  by_cases hf1 : fl1 = 0
  case neg =>
   have hfb1 : (fl1 == 0) = false := beq_eq_false_iff_ne.2 hf1
   have HT : Hd (RdS Z base wr g (.slice A1 M cc1) vc1 vq1 LB m1.c m1.s C1 m1.k m1.p fl1 (ws ++ nw) (xs ++ ns) ∧ Chg (rdX g vl vc vq) w wr ∧ (∀ x ∈ rdX g (.slice A1 M cc1) vc1 vq1, x ∈ rdX g vl vc vq ∨ w.heap.size ≤ x) ∧ (∀ W ∈ nw, W.ok wr w.heap.size) ∧ PEnd o LB at_ m1 fl1 ns) := ⟨HS.out.1, HS.out.2.1, HS.out.2.2.1, HS.out.2.2.2.1, ⟨fun h => absurd h hf1, HS.out.2.2.2.2.1.bad⟩⟩
   clear HS d1 hf1
   go_upto_region 11 with fail
   clear d7 hfb1
   have HRD : Hd (Rd wr wr.heap.size (cutA A1 cc1 at_) (M - at_) (cb (LB.drop at_))) := ⟨by have := HT.out.1.lo; rw [HL.out.2] at this; exact rd_from (Rd.of_own this) hat HNC.out⟩
   have hll : (LB.drop at_).length = M - at_ := by rw [List.length_drop, HL.out.2]
   have HLN := Hd.mk hll
   obtain ⟨MR, hMR⟩ : ∃ r, M - at_ = r := ⟨_, rfl⟩
   have hMRb : MR ≤ 137438953472 := by omega
   rw [hMR] at HRD HLN HCF
   have hcf := HCF.out
   clear hll
   have d1 : wr.cell? ⟨g, 1, none⟩ = some (.slice A1 M cc1) := HT.out.1.at_ 1 rfl
   go_upto_region 12 with (at_builtin; refine wpList_app elB rfl (.const (.slice none 0 0)) (.tmp 51) rfl wr.heap.size (.slice none 0 0) 0 [] rfl (World.ownsRow_nil ..) wr.heap.size (cutA A1 cc1 at_) MR (cc1 - at_) (cb (LB.drop at_)) rfl HRD.out (cb_one _) (by unfold maxLen; omega) (by omega) (Nat.le_refl _) ?_; intro v3 w3 hO; rw [List.nil_append, Nat.zero_add] at hO; obtain ⟨A3, cc3, hv3, hn3, _⟩ := own_form hO.own; subst hv3; have HO3 := Hd.mk hO; have e1 : w3.cell? ⟨g, 1, none⟩ = some (.slice A1 M cc1) := (World.cell?_of_block (a := ⟨g, 1, none⟩) (hO.2.1.block g HT.out.1.lt (fun e => by cases e))).trans (HT.out.1.at_ 1 rfl); have y1 : w3.frozen? ⟨g, 1, none⟩ = false := (World.frozen?_of_block (a := ⟨g, 1, none⟩) (hO.2.1.block g HT.out.1.lt (fun e => by cases e))).trans (HT.out.1.z 1); clear hO hn3 d1)
   obtain ⟨w4, hw4⟩ : ∃ U, w3.setCell ⟨g, 1, none⟩ (.slice A3 MR cc3) = U := ⟨_, rfl⟩
   rw [hw4]
   have hbel : Below wr.heap.size wr w3 := HO3.out.below (fun k h => by cases h) (Nat.le_refl _)
   have hs4 : RdS Z base w4 g (.slice A3 MR cc3) vc1 vq1 (LB.drop at_) m1.c m1.s C1 m1.k m1.p fl1 (ws ++ nw) (xs ++ ns) := by rw [← hw4]; exact HT.out.1.loose (L' := LB.drop at_) (Y := []) (Chg.of_below hbel) (by simp) (own_base (by have := HO3.out.1; rw [← HLN.out] at this ⊢; exact this) (Nat.le_trans HT.out.1.bg (Nat.le_of_lt HT.out.1.lt))) (fun x hx => .inr ((HO3.out.2.2 x hx).resolve_left (by simp [Value.ownBlock]))) (fun x hx => HL.out.1 x (List.mem_of_mem_drop hx))
   have hc4 : Chg (rdX g vl vc vq) w w4 := by rw [← hw4]; exact (HT.out.2.1.trans (Chg.of_below hbel)).setCell (mem_X.2 (.inr (.inl rfl))) _
   have hf4 : ∀ x ∈ rdX g (.slice A3 MR cc3) vc1 vq1, x ∈ rdX g vl vc vq ∨ w.heap.size ≤ x := fun x hx => by
    rcases mem_X.1 hx with h1 | h1 | h1 | h1
    ·exact .inr (Nat.le_trans HT.out.2.1.size ((HO3.out.2.2 x h1).resolve_left (by simp [Value.ownBlock])))
    ·exact .inl (mem_X.2 (.inr (.inl h1)))
    ·exact HT.out.2.2.1 x (mem_X.2 (.inr (.inr (.inl h1))))
    ·exact HT.out.2.2.1 x (mem_X.2 (.inr (.inr (.inr h1))))
   have ho4 : ∀ W ∈ nw, W.ok w4 w.heap.size := fun V hV => by
    rw [← hw4]
    refine ((HT.out.2.2.2.1 V hV).below hbel).chg (X := [g]) ((Chg.refl [g] w3).setCell (by simp) _) fun r hr x hx hm => ?_
    have := ((HT.out.2.2.2.1 V hV).lt hr hx).1
    have := H0.out.lt
    rw [List.mem_singleton.1 hm] at *; omega
   have H4 := Hd.mk (And.intro hs4 (And.intro hc4 (And.intro hf4 ho4)))
   have HE := Hd.mk HT.out.2.2.2.2
   clear hw4 hbel e1 y1 HO3 HRD hcf hs4 hc4 hf4 ho4
   have d7 : w4.cell? ⟨g, 7, none⟩ = some (.int .i64 fl1) := H4.out.1.at_ 7 rfl
   by_cases hf : fl1 = 0
   ·have hfb : (fl1 == 0) = true := by rw [hf]; rfl
    have HF := Hd.mk hf
    clear hf
    go_wp2_with fail
    go_ret
    obtain ⟨he1, he2⟩ := HE.out.fl
    obtain ⟨he3, he4⟩ := HE.out.ok HF.out
    exact push_end H4.out.1 he1 he2 (fun _ => ⟨by rw [he3], by rw [he3], he4⟩) (fun h => absurd (he1.trans HF.out) h) H4.out.2.1 H4.out.2.2.1 H4.out.2.2.2
   ·have hfb : (fl1 == 0) = false := beq_eq_false_iff_ne.2 hf
    have HF := Hd.mk hf
    clear hf
    have e1 : w4.cell? ⟨g, 1, none⟩ = some (.slice A3 MR cc3) := H4.out.1.at_ 1 rfl
    have y1 := H4.out.1.z 1
    have e2 : w4.cell? ⟨g, 2, none⟩ = some vc1 := H4.out.1.at_ 2 rfl
    have y2 := H4.out.1.z 2
    go_wp2_with fail
    go_ret
    obtain ⟨he1, he2⟩ := HE.out.fl
    have h5 := H4.out.1.loose (L' := []) (Chg.refl [] w4) (by simp) (World.ownsRow_nil ..) (fun x hx => by cases hx) (by simp)
    have h6 := h5.cont (c' := []) (Chg.refl [] _) (by simp) (World.ownsRow_nil ..) (fun x hx => by cases hx) (by simp)
    refine push_end (m' := ⟨[], m1.s, m1.k, m1.p⟩) h6 he1 he2 (fun h => absurd (he1.symm.trans h) HF.out) (fun _ => rfl) ((H4.out.2.1.setCell (mem_X.2 (.inr (.inl rfl))) _).setCell (mem_X.2 (.inr (.inl rfl))) _) (fun x hx => ?_) (fun V hV => ?_)
    ·rcases mem_X.1 hx with h1 | h1 | h1 | h1
     ·cases h1
     ·exact .inl (mem_X.2 (.inr (.inl h1)))
     ·cases h1
     ·exact H4.out.2.2.1 x (mem_X.2 (.inr (.inr (.inr h1))))
    ·refine (H4.out.2.2.2 V hV).chg (X := [g]) (((Chg.refl [g] w4).setCell (by simp) _).setCell (by simp) _) fun r hr x hx hm => ?_
     have := ((H4.out.2.2.2 V hV).lt hr hx).1
     have := H0.out.lt
     rw [List.mem_singleton.1 hm] at *; omega
  subst hf1
  have hcf := HCF.out
  go_wp2_with fail
  clear hcf d7 d1
  have hrd : Rd wr wr.heap.size (cutA A1 cc1 at_) (M - at_) (cb (LB.drop at_)) := by have := HS.out.1.lo; rw [HL.out.2] at this; exact rd_from (Rd.of_own this) hat HNC.out
  refine (chunk_any Z HM.out base wr g (.slice A1 M cc1) vc1 vq1 LB m1 C1 (ws ++ nw) (xs ++ ns) HS.out.1 (cutA A1 cc1 at_) (M - at_) (cc1 - at_) (LB.drop at_) hrd (by have := HNC.out; omega) (fun x hx => HL.out.1 x (List.mem_of_mem_drop hx)) (by omega) (fun gg off he hp hm => ?_) (HS.out.2.2.2.2.2 (by trivial)) (by rw [List.length_append]; omega)).mono ?_
  ·have hb := cut_block (n := M) he
   rcases mem_Y.1 hm with h1 | h1 | h1
   ·exact HS.out.1.gl (h1 ▸ hb)
   ·exact HS.out.1.alc gg hb h1
   ·exact HS.out.1.alq gg hb h1
  clear hrd
  rintro e w5 ⟨r, vc2, vq2, m2, C2, fl2, ws2, xs2, rfl, hS2, hch2, hfr2, hlaw⟩
  have hst := conn_step HS.out.2.2.2.2.1 (by rw [HL.out.2]; exact hat) (HS.out.2.2.2.2.2 (by trivial)) hlaw
  have hYX : ∀ x ∈ rdY g vc1 vq1, x ∈ rdX g vl vc vq ∨ w.heap.size ≤ x := fun x hx => HS.out.2.2.1 x (Y_sub_X hx)
  have hchw : Chg (rdX g vl vc vq) w w5 := HS.out.2.1.newer hch2 hYX
  have hfrw : ∀ x ∈ rdX g (.slice A1 M cc1) vc2 vq2, x ∈ rdX g vl vc vq ∨ w.heap.size ≤ x := fun x hx => by
   rcases mem_X.1 hx with h1 | h1 | h1 | h1
   ·exact HS.out.2.2.1 x (mem_X.2 (.inl h1))
   ·exact .inl (mem_X.2 (.inr (.inl h1)))
   ·rcases hfr2 x (mem_Y.2 (.inr (.inl h1))) with h2 | h2
    ·exact hYX x h2
    ·exact .inr (Nat.le_trans HS.out.2.1.size h2)
   ·rcases hfr2 x (mem_Y.2 (.inr (.inr h1))) with h2 | h2
    ·exact hYX x h2
    ·exact .inr (Nat.le_trans HS.out.2.1.size h2)
  have hokw : ∀ W ∈ nw, W.ok w5 w.heap.size := fun V hV => (HS.out.2.2.2.1 V hV).chg hch2 ((HS.out.1.off V (List.mem_append_right _ hV)).mono fun x hx => Y_sub_X hx)
  have HW := Hd.mk (And.intro hchw (And.intro hfrw (And.intro hokw HS.out.2.1.size)))
  clear hlaw hch2 hfr2 hYX hchw hfrw hokw
  rcases hst with ⟨hr0, hws, hxs, hend⟩ | ⟨hr0, hrl, d, dw, hxs, hws, hdw, hd1, hd2, hcn, hmo⟩
  ·subst hr0 hws hxs
   have HT : Hd (RdS Z base w5 g (.slice A1 M cc1) vc2 vq2 LB m2.c m2.s C2 m2.k m2.p fl2 (ws ++ nw) (xs ++ ns) ∧ Chg (rdX g vl vc vq) w w5 ∧ (∀ x ∈ rdX g (.slice A1 M cc1) vc2 vq2, x ∈ rdX g vl vc vq ∨ w.heap.size ≤ x) ∧ (∀ W ∈ nw, W.ok w5 w.heap.size) ∧ PEnd o LB at_ m2 fl2 ns) := ⟨hS2, HW.out.1, HW.out.2.1, HW.out.2.2.1, by
    rcases hend with ⟨rfl, rfl, ho⟩ | ⟨h1, h2, h3⟩
    ·exact ⟨fun _ => ⟨ho, HS.out.2.2.2.2.2 (by trivial)⟩, fun h => absurd rfl h⟩
    ·exact ⟨fun h => absurd h h1, fun _ => ⟨h2, h3⟩⟩⟩
   clear hS2 hend HW HS
   go_upto_region 11 with fail
   have HRD : Hd (Rd w5 w5.heap.size (cutA A1 cc1 at_) (M - at_) (cb (LB.drop at_))) := ⟨by have := HT.out.1.lo; rw [HL.out.2] at this; exact rd_from (Rd.of_own this) hat HNC.out⟩
   have hll : (LB.drop at_).length = M - at_ := by rw [List.length_drop, HL.out.2]
   have HLN := Hd.mk hll
   obtain ⟨MR, hMR⟩ : ∃ r, M - at_ = r := ⟨_, rfl⟩
   have hMRb : MR ≤ 137438953472 := by omega
   rw [hMR] at HRD HLN HCF
   have hcf := HCF.out
   clear hll
   have d1 : w5.cell? ⟨g, 1, none⟩ = some (.slice A1 M cc1) := HT.out.1.at_ 1 rfl
   go_upto_region 12 with (at_builtin; refine wpList_app elB rfl (.const (.slice none 0 0)) (.tmp 51) rfl w5.heap.size (.slice none 0 0) 0 [] rfl (World.ownsRow_nil ..) w5.heap.size (cutA A1 cc1 at_) MR (cc1 - at_) (cb (LB.drop at_)) rfl HRD.out (cb_one _) (by unfold maxLen; omega) (by omega) (Nat.le_refl _) ?_; intro v3 w3 hO; rw [List.nil_append, Nat.zero_add] at hO; obtain ⟨A3, cc3, hv3, hn3, _⟩ := own_form hO.own; subst hv3; have HO3 := Hd.mk hO; have e1 : w3.cell? ⟨g, 1, none⟩ = some (.slice A1 M cc1) := (World.cell?_of_block (a := ⟨g, 1, none⟩) (hO.2.1.block g HT.out.1.lt (fun e => by cases e))).trans (HT.out.1.at_ 1 rfl); have y1 : w3.frozen? ⟨g, 1, none⟩ = false := (World.frozen?_of_block (a := ⟨g, 1, none⟩) (hO.2.1.block g HT.out.1.lt (fun e => by cases e))).trans (HT.out.1.z 1); clear hO hn3 d1)
   obtain ⟨w4, hw4⟩ : ∃ U, w3.setCell ⟨g, 1, none⟩ (.slice A3 MR cc3) = U := ⟨_, rfl⟩
   rw [hw4]
   have hbel : Below w5.heap.size w5 w3 := HO3.out.below (fun k h => by cases h) (Nat.le_refl _)
   have hs4 : RdS Z base w4 g (.slice A3 MR cc3) vc2 vq2 (LB.drop at_) m2.c m2.s C2 m2.k m2.p fl2 (ws ++ nw) (xs ++ ns) := by rw [← hw4]; exact HT.out.1.loose (L' := LB.drop at_) (Y := []) (Chg.of_below hbel) (by simp) (own_base (by have := HO3.out.1; rw [← HLN.out] at this ⊢; exact this) (Nat.le_trans HT.out.1.bg (Nat.le_of_lt HT.out.1.lt))) (fun x hx => .inr ((HO3.out.2.2 x hx).resolve_left (by simp [Value.ownBlock]))) (fun x hx => HL.out.1 x (List.mem_of_mem_drop hx))
   have hc4 : Chg (rdX g vl vc vq) w w4 := by rw [← hw4]; exact (HT.out.2.1.trans (Chg.of_below hbel)).setCell (mem_X.2 (.inr (.inl rfl))) _
   have hf4 : ∀ x ∈ rdX g (.slice A3 MR cc3) vc2 vq2, x ∈ rdX g vl vc vq ∨ w.heap.size ≤ x := fun x hx => by
    rcases mem_X.1 hx with h1 | h1 | h1 | h1
    ·exact .inr (Nat.le_trans HT.out.2.1.size ((HO3.out.2.2 x h1).resolve_left (by simp [Value.ownBlock])))
    ·exact .inl (mem_X.2 (.inr (.inl h1)))
    ·exact HT.out.2.2.1 x (mem_X.2 (.inr (.inr (.inl h1))))
    ·exact HT.out.2.2.1 x (mem_X.2 (.inr (.inr (.inr h1))))
   have ho4 : ∀ W ∈ nw, W.ok w4 w.heap.size := fun V hV => by
    rw [← hw4]
    refine ((HT.out.2.2.2.1 V hV).below hbel).chg (X := [g]) ((Chg.refl [g] w3).setCell (by simp) _) fun r hr x hx hm => ?_
    have := ((HT.out.2.2.2.1 V hV).lt hr hx).1
    have := H0.out.lt
    rw [List.mem_singleton.1 hm] at *; omega
   have H4 := Hd.mk (And.intro hs4 (And.intro hc4 (And.intro hf4 ho4)))
   have HE := Hd.mk HT.out.2.2.2.2
   clear hw4 hbel e1 y1 HO3 HRD hcf hs4 hc4 hf4 ho4
   have d7 : w4.cell? ⟨g, 7, none⟩ = some (.int .i64 fl2) := H4.out.1.at_ 7 rfl
   by_cases hf : fl2 = 0
   ·have hfb : (fl2 == 0) = true := by rw [hf]; rfl
    have HF := Hd.mk hf
    clear hf
    go_wp2_with fail
    go_ret
    obtain ⟨he1, he2⟩ := HE.out.fl
    obtain ⟨he3, he4⟩ := HE.out.ok HF.out
    exact push_end H4.out.1 he1 he2 (fun _ => ⟨by rw [he3], by rw [he3], he4⟩) (fun h => absurd (he1.trans HF.out) h) H4.out.2.1 H4.out.2.2.1 H4.out.2.2.2
   ·have hfb : (fl2 == 0) = false := beq_eq_false_iff_ne.2 hf
    have HF := Hd.mk hf
    clear hf
    have e1 : w4.cell? ⟨g, 1, none⟩ = some (.slice A3 MR cc3) := H4.out.1.at_ 1 rfl
    have y1 := H4.out.1.z 1
    have e2 : w4.cell? ⟨g, 2, none⟩ = some vc2 := H4.out.1.at_ 2 rfl
    have y2 := H4.out.1.z 2
    go_wp2_with fail
    go_ret
    obtain ⟨he1, he2⟩ := HE.out.fl
    have h5 := H4.out.1.loose (L' := []) (Chg.refl [] w4) (by simp) (World.ownsRow_nil ..) (fun x hx => by cases hx) (by simp)
    have h6 := h5.cont (c' := []) (Chg.refl [] _) (by simp) (World.ownsRow_nil ..) (fun x hx => by cases hx) (by simp)
    refine push_end (m' := ⟨[], m2.s, m2.k, m2.p⟩) h6 he1 he2 (fun h => absurd (he1.symm.trans h) HF.out) (fun _ => rfl) ((H4.out.2.1.setCell (mem_X.2 (.inr (.inl rfl))) _).setCell (mem_X.2 (.inr (.inl rfl))) _) (fun x hx => ?_) (fun V hV => ?_)
    ·rcases mem_X.1 hx with h1 | h1 | h1 | h1
     ·cases h1
     ·exact .inl (mem_X.2 (.inr (.inl h1)))
     ·cases h1
     ·exact H4.out.2.2.1 x (mem_X.2 (.inr (.inr (.inr h1))))
    ·refine (H4.out.2.2.2 V hV).chg (X := [g]) (((Chg.refl [g] w4).setCell (by simp) _).setCell (by simp) _) fun r hr x hx hm => ?_
     have := ((H4.out.2.2.2 V hV).lt hr hx).1
     have := H0.out.lt
     rw [List.mem_singleton.1 hm] at *; omega
  ·subst hws hxs
   have hri : ((r : Int) == 0) = false := beq_eq_false_iff_ne.2 (by omega)
   rw [HL.out.2] at hrl
   have hnl : (nw ++ dw).length ≤ at_ + r := by rw [List.length_append]; omega
   have hok3 : ∀ W ∈ nw ++ dw, W.ok w5 w.heap.size := fun V hV => (List.mem_append.1 hV).elim (HW.out.2.2.1 V) (fun h => (hdw V h).lower HW.out.2.2.2)
   have hsr : RdS Z base w5 g (.slice A1 M cc1) vc2 vq2 LB m2.c m2.s C2 m2.k m2.p fl2 (ws ++ (nw ++ dw)) (xs ++ (ns ++ d)) := by rw [← List.append_assoc, ← List.append_assoc]; exact hS2
   have HN := Hd.mk (And.intro hnl (And.intro hsr (And.intro HW.out.1 (And.intro HW.out.2.1 (And.intro hok3 (And.intro hcn hmo))))))
   clear hS2 hdw hcn hmo HS HCF HW hnl hok3 hsr hd1 hd2
   go_wp2_with fail
   go_roundw
   case rel =>
    have hcast : ((at_ + r : Nat) : Int) = (at_ : Int) + (r : Int) := by omega
    first
     | exact ⟨at_ + r, vc2, vq2, m2, C2, fl2, nw ++ dw, ns ++ d, by rw [hcast], hrl, HN.out⟩
     | exact ⟨_, ⟨at_ + r, vc2, vq2, m2, C2, fl2, nw ++ dw, ns ++ d, by rw [hcast], hrl, HN.out⟩, rfl⟩
     | exact ⟨_, _, ⟨at_ + r, vc2, vq2, m2, C2, fl2, nw ++ dw, ns ++ d, by rw [hcast], hrl, HN.out⟩, rfl, rfl⟩
   case measure => simp [intOf]; omega
end Go.Proofs.Ytbcmjjcbjojakaa
end
section
namespace Go.Proofs.Ytbcmjjcbjojakaa
open Go.RowKit
set_option linter.unusedVariables false
set_option linter.unusedSimpArgs false
section
variable {T : Type} {Z : Kd T} {base : Nat} {w w' : World} {g : Nat} {vl vc vq vq' : Value} {L c : List Nat} {S C k p : Nat} {fl : Int} {ws : List Wm} {xs : List T} {W : Wm} {x : T}
/-- The first message is gone. -/
theorem RdS.pop (h : RdS Z base w g vl vc vq L c S C k p fl (W :: ws) (x :: xs)) (hq : Que w base Z.e Z.m vq' ws) (hb : vq'.ownBlock = vq.ownBlock) : RdS Z base (w.setCell ⟨g, (if Z.ans then 9 else 8), none⟩ vq') g vl vc vq' L c S C k p fl ws xs := by
 have b2 : Chg [g] w (w.setCell ⟨g, (if Z.ans then 9 else 8), none⟩ vq') := (Chg.refl [g] w).setCell (by simp) vq'
 have hX : rdX g vl vc vq' = rdX g vl vc vq := by unfold rdX rdY; rw [hb]
 have hg : ∀ V : Wm, V.off (rdX g vl vc vq) → V.off [g] := fun V h => h.mono fun x hx => by rw [List.mem_singleton.1 hx]; exact mem_X.2 (.inr (.inl rfl))
 refine ⟨?_, ?_, ?_, ?_, h.alc, ?_, ?_, h.gl, h.gc, by rw [hb]; exact h.gq, h.bg, fun V hV => (h.ok V (List.mem_cons_of_mem _ hV)).chg b2 (hg V (h.off V (List.mem_cons_of_mem _ hV))), fun V hV => by rw [hX]; exact h.off V (List.mem_cons_of_mem _ hV), h.is.2, h.s, h.c64, h.lb, h.cb_⟩
 ·rw [heap_set w g _ vq' _ _ h.box]
  congr 2
  unfold rdC
  cases Z.ans <;> rfl
 ·exact b2.own h.lo fun y hy hm => h.gl (by rw [hy, List.mem_singleton.1 hm])
 ·exact b2.own h.co fun y hy hm => h.gc (by rw [hy, List.mem_singleton.1 hm])
 ·exact hq.chg b2 fun y hy hm => h.gq (by rw [← hb, hy, List.mem_singleton.1 hm])
 ·exact fun y hy hv => h.alq y hy (by rw [← hb]; exact hv)
 ·exact fun y hy hv => h.acq y hy (by rw [← hb]; exact hv)
/-- A new reader. -/
theorem RdS.start (Z : Kd T) (hg : w.heap[g]? = some (.cells #[.bool Z.ans, .slice none 0 0, .slice none 0 0, .int .u32 0, .int .u64 0, .int .i64 0, .int .i64 0, .int .i64 0, .slice none 0 0, .slice none 0 0] 58)) (hb : base ≤ g) :
  RdS Z base w g (.slice none 0 0) (.slice none 0 0) (.slice none 0 0) [] mid0.c mid0.s 0 mid0.k mid0.p 0 [] [] := by
 refine ⟨?_, World.ownsRow_nil .., World.ownsRow_nil .., Que.nil .., Apart.nil _, Apart.nil _, Apart.nil _, by simp [Value.ownBlock], by simp [Value.ownBlock], by simp [Value.ownBlock], hb, by simp, by simp, trivial, by decide, by decide, by simp, by intro x hx; cases hx⟩
 rw [hg]
 unfold rdC mid0
 cases Z.ans <;> rfl
end
theorem Que_pop_any {P : Program} {t e size bytes n c : Nat} {A : Option Addr} {w0 : World} {v' : Value} (h : (Instr.slice t (.slice A n c) (some (.int .i64 1)) none none).run P w0 = .ok v' w0) (E : ElN P t e size bytes) (U : World) (hn : 0 < n) : (Instr.slice t (.slice A n c) (some (.int .i64 1)) none none).run P U = .ok v' U := by
 have h1 := run_cut_fromN (w := w0) E A n c 1 (by omega)
 have h2 := run_cut_fromN (w := U) E A n c 1 (by omega)
 have h3 := h.symm.trans h1
 injection h3 with h3
 rw [h3]; exact h2
theorem held_any {T : Type} (Z : Kd T) (base : Nat) (w : World) (g : Nat) (vl vc vq : Value) (L c : List Nat) (S C k p : Nat) (fl : Int) (ws : List Wm) (xs : List T) (h : RdS Z base w g vl vc vq L c S C k p fl ws xs) (hp : Hd (fl = 0 → p ≤ 1099511627776)) (hl : L.length ≤ 1099511627776) :
  Calls Try.prog 40 #[.pointer (some ⟨g, 0, none⟩)] w fun e w' => e = .returned (.int .i64 ((if fl = 0 then p + L.length else 0 : Nat) : Int)) ∧ Below w.heap.size w w' := by
 have d7 : w.cell? ⟨g, 7, none⟩ = some (.int .i64 fl) := h.at_ 7 rfl
 have d6 : w.cell? ⟨g, 6, none⟩ = some (.int .i64 (p : Int)) := h.at_ 6 rfl
 obtain ⟨Al, cl, hvl, _, _⟩ := own_form h.lo
 have d1 : w.cell? ⟨g, 1, none⟩ = some (.slice Al L.length cl) := by rw [← hvl]; exact h.at_ 1 rfl
 obtain ⟨lL, hlL⟩ : ∃ l, L.length = l := ⟨_, rfl⟩
 rw [hlL] at d1 hl ⊢
 clear h hvl hlL
 go_enter Try.func40, Try.ntmps40
 by_cases hf : fl = 0
 ·have hfb : (fl == 0) = true := by rw [hf]; rfl
  rw [if_pos hf]
  have hp := hp.out hf
  clear hf
  go_upto_region 3 with fail
  have hsum : IntKind.i64.wrap ((p : Int) + (lL : Int)) = (p : Int) + (lL : Int) := by rw [IntKind.wrap_i64]; omega
  go_quiet (fail)
  go_wp2_with fail
  go_ret
  exact ⟨by congr 2, ⟨rfl, rfl, rfl, Nat.le_refl _, fun _ _ => rfl⟩⟩
 ·have hfb : (fl == 0) = false := beq_eq_false_iff_ne.2 hf
  rw [if_neg hf]
  clear hf hp
  go_wp2_with fail
  go_ret
  exact ⟨rfl, Below.refl _ w⟩
theorem asks_new (w : World) : Calls Try.prog 25 #[] w fun e w' => e = .returned (.pointer (some ⟨w.heap.size, 0, none⟩)) ∧ RdS askK w.heap.size w' w.heap.size (.slice none 0 0) (.slice none 0 0) (.slice none 0 0) [] mid0.c mid0.s 0 mid0.k mid0.p 0 [] [] ∧ Below w.heap.size w w' := by
 go_enter Try.func25, Try.ntmps25
 go_wp2_with fail
 go_ret
 exact ⟨rfl, RdS.start askK (heap_alloc_new _ _) (Nat.le_refl _), (Below.refl _ w).alloc (Nat.le_refl _) _⟩
theorem tells_new (w : World) : Calls Try.prog 26 #[] w fun e w' => e = .returned (.pointer (some ⟨w.heap.size, 0, none⟩)) ∧ RdS telK w.heap.size w' w.heap.size (.slice none 0 0) (.slice none 0 0) (.slice none 0 0) [] mid0.c mid0.s 0 mid0.k mid0.p 0 [] [] ∧ Below w.heap.size w w' := by
 go_enter Try.func26, Try.ntmps26
 go_wp2_with fail
 go_ret
 exact ⟨rfl, RdS.start telK (heap_alloc_new _ _) (Nat.le_refl _), (Below.refl _ w).alloc (Nat.le_refl _) _⟩
set_option maxRecDepth 20000 in
set_option maxHeartbeats 4000000 in
/-- The first message is handed out. -/
theorem some_ask (base : Nat) (w : World) (g : Nat) (vl vc vq : Value) (L c : List Nat) (S C k p : Nat) (fl : Int) (W : Wm) (ws : List Wm) (x : Rq) (xs : List Rq) (h : RdS askK base w g vl vc vq L c S C k p fl (W :: ws) (x :: xs)) :
  Calls Try.prog 36 #[.pointer (some ⟨g, 0, none⟩)] w fun e w' => e = .returned (.tuple #[.agg W.cells.toArray, .bool true]) ∧ ∃ vq', RdS askK base w' g vl vc vq' L c S C k p fl ws xs ∧ Chg [g] w w' ∧ vq'.ownBlock = vq.ownBlock := by
 obtain ⟨gx, hgx⟩ : ∃ gx, w.heap.size = gx := ⟨_, rfl⟩
 obtain ⟨w0, hw0⟩ : ∃ U, w.alloc (.cells #[.int .i64 0, .int .u64 0, .string emS, .string emS, .int .i64 0, .int .i64 0, .int .i64 0, .slice none 0 0] 28) = U := ⟨_, rfl⟩
 have hr0 : w0.heap[gx]? = some (.cells rq0 28) := by rw [← hw0, ← hgx]; exact heap_alloc_new w _
 have hb0 : Chg [] w w0 := by rw [← hw0]; exact (Chg.refl [] w).alloc _
 have h0 := h.new hb0
 obtain ⟨gq, oq, cq, hvq, hbq, hlq, hrg⟩ := h0.qu.first (by decide)
 have hcl := h0.qu.1 W (by simp)
 have H0 := Hd.mk (And.intro h0 (And.intro hr0 (And.intro (hb0.mono (L' := [g]) (by simp)) (And.intro hgx h.lt))))
 have HQ := Hd.mk (And.intro hvq (And.intro hrg hcl))
 have d8 : w0.cell? ⟨g, 8, none⟩ = some (.slice (some ⟨gq, oq, none⟩) (ws.length + 1) cq) := by have := h0.at_ 8 (v := vq) rfl; rw [hvq] at this; exact this
 have z8 := h0.z 8
 obtain ⟨vq', hrun, hq', hbk⟩ := h0.qu.pop elRq
 rw [hvq] at hrun
 have HP := Hd.mk (And.intro hrun (And.intro hq' hbk))
 have hlw : (0 : Int) < ((ws.length + 1 : Nat) : Int) := by omega
 obtain ⟨lw, hlw2⟩ : ∃ l, ws.length + 1 = l := ⟨_, rfl⟩
 have HLW := Hd.mk hlw2
 have HX : Hd ((∀ y ∈ rdX g vl vc vq, y < w.heap.size) ∧ ∀ V ∈ ws, ∀ r ∈ V.rows, ∀ y, r.2.1.ownBlock = some y → y < w.heap.size) := ⟨fun y hy => (h.ltX hy).2, fun V hV r hr y hy => ((h.ok V (List.mem_cons_of_mem _ hV)).lt hr hy).2⟩
 rw [hlw2] at d8 hlw HP
 have hlwb : ((lw : Int) == 0) = false := beq_eq_false_iff_ne.2 (by omega)
 have hlwn : 0 < lw := by omega
 clear h h0 hvq hbq hlq hrg hcl hr0 hb0 hrun hq' hbk hlw2
 go_enter Try.func36, Try.ntmps36
 go_upto_region 1 with fail
 have hz : (⟨#[]⟩ : ByteArray) = emS := rfl
 try rw [hz]
 rw [hw0]
 try rw [hgx]
 clear hz hw0
 go_upto_region 4 with (first
  | (refine at_load ?_; refine wpList_load_mid rfl 28 (.tmp 20) rfl gq oq rfl W.cells _ HQ.out.2.1 Try.underlying28 rfl (by rw [infoRq8, HQ.out.2.2.1]; rfl) ?_)
  | (refine at_store (x := .tmp 4) ?_; refine wpList_boxed rfl 28 (.tmp 4) (.tmp 21) rfl w0.heap.size rfl W.cells.toArray rfl rfl (by rw [infoRq8]; simp [HQ.out.2.2.1]; rfl) (by simp [HQ.out.2.2.1]; rfl) (by rw [Array.all_eq_true_iff_forall_mem]; exact fun u hu => HQ.out.2.2.2 u (by simpa using hu)) ?_; intro w1 hB1))
 obtain ⟨gb, hgb⟩ : ∃ gb, w0.heap.size = gb := ⟨_, rfl⟩
 rw [hgb] at hB1 ⊢
 have HGB : Hd (gx < gb ∧ g < gb) := ⟨by rw [← hgb]; exact (Array.getElem?_eq_some_iff.1 H0.out.2.1).1, by rw [← hgb]; exact H0.out.1.lt⟩
 have hb1 : Chg [] w0 w1 := ⟨hB1.out.2.1.os, hB1.out.2.1.tape, hB1.out.2.1.output, hB1.out.2.1.size, fun k hk _ => hB1.out.2.1.block k (by rw [← hgb]; exact hk)⟩
 have H1 : Hd (RdS askK base w1 g vl vc vq L c S C k p fl (W :: ws) (x :: xs) ∧ w1.heap[gx]? = some (.cells rq0 28) ∧ w1.heap[gb]? = some (.cells W.cells.toArray 28) ∧ Chg [g] w w1 ∧ Que w1 base (askK).e (askK).m vq' ws) := ⟨H0.out.1.new hb1, by rw [hb1.block gx (by rw [hgb]; exact HGB.out.1) (by simp)]; exact H0.out.2.1, hB1.out.1, H0.out.2.2.1.trans (hb1.mono (by simp)), HP.out.2.1.chg hb1 (by simp)⟩
 clear hB1 hb1 hgb d8 z8
 have d8 : w1.cell? ⟨g, 8, none⟩ = some (.slice (some ⟨gq, oq, none⟩) lw cq) := by have := H1.out.1.at_ 8 (v := vq) rfl; rw [HQ.out.1] at this; rw [this]; congr 2; exact HLW.out
 have z8 := H1.out.1.z 8
 have hpr : ∀ U, (Instr.slice 55 (.slice (some ⟨gq, oq, none⟩) lw cq) (some (.int .i64 1)) none none).run Try.prog U = .ok vq' U := fun U => Que_pop_any HP.out.1 elRq U hlwn
 obtain ⟨Aq, cq', hvq', _⟩ := H1.out.2.2.2.2.form
 rw [hvq'] at hpr
 go_upto_region 5 with fail
 obtain ⟨w2, hw2⟩ : ∃ U, w1.setCell ⟨g, 8, none⟩ (.slice Aq ws.length cq') = U := ⟨_, rfl⟩
 rw [hw2]
 have H2 : Hd (RdS askK base w2 g vl vc vq' L c S C k p fl ws xs ∧ w2.heap[gx]? = some (.cells rq0 28) ∧ w2.heap[gb]? = some (.cells W.cells.toArray 28) ∧ Chg [g] w w2) := ⟨by rw [← hw2, ← hvq']; exact H1.out.1.pop H1.out.2.2.2.2 HP.out.2.2, by rw [← hw2, Below.heap_setCell _ _ _ _ (by show gx ≠ g; have := H0.out.2.2.2.1; have := H0.out.2.2.2.2; omega)]; exact H1.out.2.1, by rw [← hw2, Below.heap_setCell _ _ _ _ (by show gb ≠ g; have := HGB.out.2; omega)]; exact H1.out.2.2.1, by rw [← hw2]; exact H1.out.2.2.2.1.setCell (by simp) _⟩
 clear hw2 d8 z8 hpr H1
 go_wp2_with (first
  | (refine at_load ?_; refine wpList_load_row rfl 28 (.tmp 4) rfl gb rfl 28 W.cells.toArray (0, 0) _ H2.out.2.2.1 Try.underlying28 rfl (by rw [infoRq8]; simp [HQ.out.2.2.1]; rfl) ?_)
  | (refine at_store (x := .tmp 2) ?_; refine wpList_stored rfl 28 (.tmp 2) (.tmp 30) rfl gx W.cells.toArray rfl rfl 28 rq0 H2.out.2.1 (by rw [infoRq8]; simp [HQ.out.2.2.1]; rfl) (by simp [HQ.out.2.2.1]; rfl) (by rw [Array.all_eq_true_iff_forall_mem]; exact fun u hu => HQ.out.2.2.2 u (by simpa using hu)) ?_; intro w6 hB6))
 (try simp only [Exit.inBlock, Exit.then])
 refine bodyPost_ret (results_cell_tmp rfl _ _ gx 28 W.cells.toArray (0, 0) _ rfl hB6.out.1 Try.underlying28 rfl (by rw [infoRq8]; simp [HQ.out.2.2.1]; rfl)) rfl ?_
 have hgx2 : w.heap.size ≤ gx := by have := H0.out.2.2.2.1; omega
 exact ⟨rfl, vq', H2.out.1.keepN (N := w.heap.size) (Chg.of_grown hB6.out.2.1) (by simpa using hgx2) (fun y hy => HX.out.1 y (by unfold rdX rdY at hy ⊢; rw [HP.out.2.2] at hy; exact hy)) HX.out.2, H2.out.2.2.2.newer (Chg.of_grown hB6.out.2.1) (by simp; exact .inr hgx2), HP.out.2.2⟩
set_option maxRecDepth 20000 in
set_option maxHeartbeats 4000000 in
/-- The first message is handed out. -/
theorem some_tel (base : Nat) (w : World) (g : Nat) (vl vc vq : Value) (L c : List Nat) (S C k p : Nat) (fl : Int) (W : Wm) (ws : List Wm) (x : An) (xs : List An) (h : RdS telK base w g vl vc vq L c S C k p fl (W :: ws) (x :: xs)) :
  Calls Try.prog 37 #[.pointer (some ⟨g, 0, none⟩)] w fun e w' => e = .returned (.tuple #[.agg W.cells.toArray, .bool true]) ∧ ∃ vq', RdS telK base w' g vl vc vq' L c S C k p fl ws xs ∧ Chg [g] w w' ∧ vq'.ownBlock = vq.ownBlock := by
 obtain ⟨gx, hgx⟩ : ∃ gx, w.heap.size = gx := ⟨_, rfl⟩
 obtain ⟨w0, hw0⟩ : ∃ U, w.alloc (.cells #[.int .i64 0, .int .u64 0, .int .i64 0, .slice none 0 0, .slice none 0 0, .slice none 0 0, .string emS, .bool false, .int .i64 0, .int .i64 0, .int .i64 0, .int .i64 0, .int .i64 0, .int .i64 0, .int .i64 0] 43) = U := ⟨_, rfl⟩
 have hr0 : w0.heap[gx]? = some (.cells an0 43) := by rw [← hw0, ← hgx]; exact heap_alloc_new w _
 have hb0 : Chg [] w w0 := by rw [← hw0]; exact (Chg.refl [] w).alloc _
 have h0 := h.new hb0
 obtain ⟨gq, oq, cq, hvq, hbq, hlq, hrg⟩ := h0.qu.first (by decide)
 have hcl := h0.qu.1 W (by simp)
 have H0 := Hd.mk (And.intro h0 (And.intro hr0 (And.intro (hb0.mono (L' := [g]) (by simp)) (And.intro hgx h.lt))))
 have HQ := Hd.mk (And.intro hvq (And.intro hrg hcl))
 have d8 : w0.cell? ⟨g, 9, none⟩ = some (.slice (some ⟨gq, oq, none⟩) (ws.length + 1) cq) := by have := h0.at_ 9 (v := vq) rfl; rw [hvq] at this; exact this
 have z8 := h0.z 9
 obtain ⟨vq', hrun, hq', hbk⟩ := h0.qu.pop elAn
 rw [hvq] at hrun
 have HP := Hd.mk (And.intro hrun (And.intro hq' hbk))
 have hlw : (0 : Int) < ((ws.length + 1 : Nat) : Int) := by omega
 obtain ⟨lw, hlw2⟩ : ∃ l, ws.length + 1 = l := ⟨_, rfl⟩
 have HLW := Hd.mk hlw2
 have HX : Hd ((∀ y ∈ rdX g vl vc vq, y < w.heap.size) ∧ ∀ V ∈ ws, ∀ r ∈ V.rows, ∀ y, r.2.1.ownBlock = some y → y < w.heap.size) := ⟨fun y hy => (h.ltX hy).2, fun V hV r hr y hy => ((h.ok V (List.mem_cons_of_mem _ hV)).lt hr hy).2⟩
 rw [hlw2] at d8 hlw HP
 have hlwb : ((lw : Int) == 0) = false := beq_eq_false_iff_ne.2 (by omega)
 have hlwn : 0 < lw := by omega
 clear h h0 hvq hbq hlq hrg hcl hr0 hb0 hrun hq' hbk hlw2
 go_enter Try.func37, Try.ntmps37
 go_upto_region 1 with fail
 have hz : (⟨#[]⟩ : ByteArray) = emS := rfl
 try rw [hz]
 rw [hw0]
 try rw [hgx]
 clear hz hw0
 go_upto_region 4 with (first
  | (refine at_load ?_; refine wpList_load_mid rfl 43 (.tmp 20) rfl gq oq rfl W.cells _ HQ.out.2.1 Try.underlying43 rfl (by rw [infoAn15, HQ.out.2.2.1]; rfl) ?_)
  | (refine at_store (x := .tmp 4) ?_; refine wpList_boxed rfl 43 (.tmp 4) (.tmp 21) rfl w0.heap.size rfl W.cells.toArray rfl rfl (by rw [infoAn15]; simp [HQ.out.2.2.1]; rfl) (by simp [HQ.out.2.2.1]; rfl) (by rw [Array.all_eq_true_iff_forall_mem]; exact fun u hu => HQ.out.2.2.2 u (by simpa using hu)) ?_; intro w1 hB1))
 obtain ⟨gb, hgb⟩ : ∃ gb, w0.heap.size = gb := ⟨_, rfl⟩
 rw [hgb] at hB1 ⊢
 have HGB : Hd (gx < gb ∧ g < gb) := ⟨by rw [← hgb]; exact (Array.getElem?_eq_some_iff.1 H0.out.2.1).1, by rw [← hgb]; exact H0.out.1.lt⟩
 have hb1 : Chg [] w0 w1 := ⟨hB1.out.2.1.os, hB1.out.2.1.tape, hB1.out.2.1.output, hB1.out.2.1.size, fun k hk _ => hB1.out.2.1.block k (by rw [← hgb]; exact hk)⟩
 have H1 : Hd (RdS telK base w1 g vl vc vq L c S C k p fl (W :: ws) (x :: xs) ∧ w1.heap[gx]? = some (.cells an0 43) ∧ w1.heap[gb]? = some (.cells W.cells.toArray 43) ∧ Chg [g] w w1 ∧ Que w1 base (telK).e (telK).m vq' ws) := ⟨H0.out.1.new hb1, by rw [hb1.block gx (by rw [hgb]; exact HGB.out.1) (by simp)]; exact H0.out.2.1, hB1.out.1, H0.out.2.2.1.trans (hb1.mono (by simp)), HP.out.2.1.chg hb1 (by simp)⟩
 clear hB1 hb1 hgb d8 z8
 have d8 : w1.cell? ⟨g, 9, none⟩ = some (.slice (some ⟨gq, oq, none⟩) lw cq) := by have := H1.out.1.at_ 9 (v := vq) rfl; rw [HQ.out.1] at this; rw [this]; congr 2; exact HLW.out
 have z8 := H1.out.1.z 9
 have hpr : ∀ U, (Instr.slice 56 (.slice (some ⟨gq, oq, none⟩) lw cq) (some (.int .i64 1)) none none).run Try.prog U = .ok vq' U := fun U => Que_pop_any HP.out.1 elAn U hlwn
 obtain ⟨Aq, cq', hvq', _⟩ := H1.out.2.2.2.2.form
 rw [hvq'] at hpr
 go_upto_region 5 with fail
 obtain ⟨w2, hw2⟩ : ∃ U, w1.setCell ⟨g, 9, none⟩ (.slice Aq ws.length cq') = U := ⟨_, rfl⟩
 rw [hw2]
 have H2 : Hd (RdS telK base w2 g vl vc vq' L c S C k p fl ws xs ∧ w2.heap[gx]? = some (.cells an0 43) ∧ w2.heap[gb]? = some (.cells W.cells.toArray 43) ∧ Chg [g] w w2) := ⟨by rw [← hw2, ← hvq']; exact H1.out.1.pop H1.out.2.2.2.2 HP.out.2.2, by rw [← hw2, Below.heap_setCell _ _ _ _ (by show gx ≠ g; have := H0.out.2.2.2.1; have := H0.out.2.2.2.2; omega)]; exact H1.out.2.1, by rw [← hw2, Below.heap_setCell _ _ _ _ (by show gb ≠ g; have := HGB.out.2; omega)]; exact H1.out.2.2.1, by rw [← hw2]; exact H1.out.2.2.2.1.setCell (by simp) _⟩
 clear hw2 d8 z8 hpr H1
 go_wp2_with (first
  | (refine at_load ?_; refine wpList_load_row rfl 43 (.tmp 4) rfl gb rfl 43 W.cells.toArray (0, 0) _ H2.out.2.2.1 Try.underlying43 rfl (by rw [infoAn15]; simp [HQ.out.2.2.1]; rfl) ?_)
  | (refine at_store (x := .tmp 2) ?_; refine wpList_stored rfl 43 (.tmp 2) (.tmp 30) rfl gx W.cells.toArray rfl rfl 43 an0 H2.out.2.1 (by rw [infoAn15]; simp [HQ.out.2.2.1]; rfl) (by simp [HQ.out.2.2.1]; rfl) (by rw [Array.all_eq_true_iff_forall_mem]; exact fun u hu => HQ.out.2.2.2 u (by simpa using hu)) ?_; intro w6 hB6))
 (try simp only [Exit.inBlock, Exit.then])
 refine bodyPost_ret (results_cell_tmp rfl _ _ gx 43 W.cells.toArray (0, 0) _ rfl hB6.out.1 Try.underlying43 rfl (by rw [infoAn15]; simp [HQ.out.2.2.1]; rfl)) rfl ?_
 have hgx2 : w.heap.size ≤ gx := by have := H0.out.2.2.2.1; omega
 exact ⟨rfl, vq', H2.out.1.keepN (N := w.heap.size) (Chg.of_grown hB6.out.2.1) (by simpa using hgx2) (fun y hy => HX.out.1 y (by unfold rdX rdY at hy ⊢; rw [HP.out.2.2] at hy; exact hy)) HX.out.2, H2.out.2.2.2.newer (Chg.of_grown hB6.out.2.1) (by simp; exact .inr hgx2), HP.out.2.2⟩
end Go.Proofs.Ytbcmjjcbjojakaa
end
section
namespace Go.Proofs.Ytbcmjjcbjojakaa
open Go.RowKit
set_option linter.unusedVariables false
/-- Each message has nine bytes of content at least. -/
def Nine {T : Type} (Z : Kd T) : Prop := ∀ c x, (∀ y ∈ c, y < 256) → Z.rd c = some x → 9 ≤ c.length
structure DrS {T : Type} (Z : Kd T) (base : Nat) (w : World) (g : Nat) (vl vc vq : Value) (L c : List Nat) (S C k p : Nat) (fl : Int) (ws : List Wm) (xs : List T) (vh : Value) (hs : List Wm) (ys : List T) : Prop where
 rd : RdS Z base w g vl vc vq L c S C k p fl ws xs
 qh : Que w base Z.e Z.m vh hs
 hok : ∀ W ∈ hs, W.ok w base
 s1 : ∀ x, vh.ownBlock = some x → x ∉ rdX g vl vc vq
 s2 : ∀ W ∈ hs, W.off (rdX g vl vc vq)
 s3 : ∀ W ∈ hs, W.off vh.ownBlock.toList
 s4 : ∀ W ∈ ws, W.off vh.ownBlock.toList
 his : Alike Z.is hs ys
section
variable {T : Type} {Z : Kd T} {base : Nat} {w w' : World} {g : Nat} {vl vc vq vh vq' : Value} {L c : List Nat} {S C k p : Nat} {fl : Int} {ws hs : List Wm} {xs ys : List T} {W : Wm} {x : T}
end
end Go.Proofs.Ytbcmjjcbjojakaa
end
