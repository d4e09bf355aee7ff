/- Put together of: HearP CopyA HearW AwakeW EqualW CutsWalk. -/
import Derived.Test.YtbcmjjcbjojakaaMgB
import Derived.Test.YtbcmjjcbjojakaaMgA
import Derived.Test.YtbcmjjcbjojakaaSameRq
import Derived.Test.YtbcmjjcbjojakaaPutsL
section
/- A reader that is heard, piece by piece. -/
namespace Go.Proofs.Ytbcmjjcbjojakaa
open Go.RowKit
set_option linter.unusedVariables false
def heard0 : Array Value := #[.slice none 0 0, .slice none 0 0, .int .i64 0, .int .i64 0]
theorem heard0_hd (ans : Bool) : hdC ans (.slice none 0 0) 0 0 = heard0 := by cases ans <;> rfl
/-- How many bytes are held behind some bytes. -/
def heldN {T : Type} (o : Out T) : Nat := if o.fl = 0 then o.mid.p + o.rest.length else 0
/-- What hear answers. -/
def HearDone {T : Type} (Z : Kd T) (w : World) (bs : List Nat) (e : Ending) (w' : World) : Prop :=
  ∃ (vh : Value) (hs : List Wm), e = .returned (.tuple #[.agg (hdC Z.ans vh (go Z.rd mid0 bs).fl ((heldN (go Z.rd mid0 bs) : Nat) : Int)), .bool true]) ∧ Que w' w.heap.size Z.e Z.m vh hs ∧ (∀ V ∈ hs, V.ok w' w.heap.size) ∧ Alike Z.is hs (go Z.rd mid0 bs).ms ∧ Below w.heap.size w w'
def DrainLaw {T : Type} (Z : Kd T) : Prop := ∀ (base : Nat) (w : World) (g : Nat) (vl vc vq : Value) (L c : List Nat) (S C k p : Nat) (fl : Int) (ws : List Wm) (xs : List T) (vh : Value) (hs : List Wm) (ys : List T), DrS Z base w g vl vc vq L c S C k p fl ws xs vh hs ys →
  ∀ (o0 : List Nat), vh.ownBlock.toList = o0 → ∀ (f0 h0 : Int) (most : Nat), ws.length ≤ most + 1 → most ≤ 274877906944 → hs.length ≤ 137438953472 → Hd (fl = 0 → p ≤ 1099511627776) → L.length ≤ 1099511627776 →
    Calls Try.prog 75 #[.pointer (some ⟨g, 0, none⟩), .bool Z.ans, .agg (hdC Z.ans vh f0 h0), .int .i64 (most : Int)] w (DrainDone Z base w o0 g vl vc vq L c S C k p fl ws xs hs ys)
theorem drainLaw_ask : DrainLaw askK := fun base w g vl vc vq L c S C k p fl ws xs vh hs ys h o0 ho f0 h0 most h1 h2 h3 h4 h5 => drain_ask base w g vl vc vq L c S C k p fl ws xs vh hs ys h o0 ho f0 h0 most h1 h2 h3 h4 h5
theorem drainLaw_tel : DrainLaw telK := fun base w g vl vc vq L c S C k p fl ws xs vh hs ys h o0 ho f0 h0 most h1 h2 h3 h4 h5 => drain_tel base w g vl vc vq L c S C k p fl ws xs vh hs ys h o0 ho f0 h0 most h1 h2 h3 h4 h5
/-- The cells of a new reader. -/
def rd0 (ans : Bool) : Array Value := #[.bool ans, .slice none 0 0, .slice none 0 0, .int .u32 0, .int .u64 0, .int .i64 0, .int .i64 0, .int .i64 0, .slice none 0 0, .slice none 0 0]
def ReaderLaw {T : Type} (Z : Kd T) : Prop := ∀ w : World, Calls Try.prog 74 #[.bool Z.ans] w fun e w' => e = .returned (.pointer (some ⟨w.heap.size, 0, none⟩)) ∧ w'.heap[w.heap.size]? = some (.cells (rd0 Z.ans) 58) ∧ Below w.heap.size w w'
/-- Where hear stands. -/
structure HeS {T : Type} (Z : Kd T) (w W : World) (g8 g11 g : Nat) (bs : List Nat) (a : Nat) (vl vc vq vh : Value) (L : List Nat) (m : Mid) (C : Nat) (fl : Int) (ws : List Wm) (xs : List T) (hs : List Wm) (ys : List T) (fx hx : Int) : Prop where
  dr : DrS Z w.heap.size W g vl vc vq L m.c m.s C m.k m.p fl ws xs vh hs ys
  b8 : W.heap[g8]? = some (.cells heard0 75)
  b11 : W.heap[g11]? = some (.cells (hdC Z.ans vh fx hx) 75)
  be : Below w.heap.size w W
  l8 : w.heap.size ≤ g8
  l11 : w.heap.size ≤ g11
  n89 : g8 ≠ g11
  nX : ∀ y ∈ [g8, g11], y ∉ rdX g vl vc vq
  nv : ∀ y ∈ [g8, g11], vh.ownBlock ≠ some y
  nM : ∀ V ∈ ws, V.off [g8, g11]
  nH : ∀ V ∈ hs, V.off [g8, g11]
  efl : fl = (go Z.rd mid0 (bs.take a)).fl
  ems : ys ++ xs = (go Z.rd mid0 (bs.take a)).ms
  eok : fl = 0 → m = (go Z.rd mid0 (bs.take a)).mid ∧ L = (go Z.rd mid0 (bs.take a)).rest ∧ MidOk m
  bad : fl ≠ 0 → L = []
theorem take_to {bs : List Nat} {a a2 : Nat} (h : a ≤ a2) : bs.take a2 = bs.take a ++ seg bs a (a2 - a) := by
  unfold seg
  conv => lhs; rw [show a2 = a + (a2 - a) by omega, List.take_add]
section
variable {T : Type} {Z : Kd T} {w W W1 W2 : World} {g8 g11 g : Nat} {bs : List Nat} {a a2 : Nat} {vl vc vq vh : Value} {L : List Nat} {m : Mid} {C : Nat} {fl : Int} {ws hs : List Wm} {xs ys : List T} {fx hx : Int} {e : Ending}
theorem HeS.lt8 (h : HeS Z w W g8 g11 g bs a vl vc vq vh L m C fl ws xs hs ys fx hx) : g8 < W.heap.size := (Array.getElem?_eq_some_iff.1 h.b8).1
theorem HeS.lt11 (h : HeS Z w W g8 g11 g bs a vl vc vq vh L m C fl ws xs hs ys fx hx) : g11 < W.heap.size := (Array.getElem?_eq_some_iff.1 h.b11).1
theorem HeS.below (h : HeS Z w W g8 g11 g bs a vl vc vq vh L m C fl ws xs hs ys fx hx) (b : Below W.heap.size W W1) : HeS Z w W1 g8 g11 g bs a vl vc vq vh L m C fl ws xs hs ys fx hx :=
  ⟨h.dr.below b, by rw [b.block g8 h.lt8]; exact h.b8, by rw [b.block g11 h.lt11]; exact h.b11, h.be.trans (b.mono (by have := h.be.size; omega)), h.l8, h.l11, h.n89, h.nX, h.nv, h.nM, h.nH, h.efl, h.ems, h.eok, h.bad⟩
theorem HeS.start (Z : Kd T) (hr : W.heap[g]? = some (.cells (rd0 Z.ans) 58)) (h8 : W.heap[g8]? = some (.cells heard0 75)) (h11 : W.heap[g11]? = some (.cells heard0 75)) (be : Below w.heap.size w W) (l8 : w.heap.size ≤ g8) (lg : g8 < g) (l11 : g < g11) :
    HeS Z w W g8 g11 g bs 0 (.slice none 0 0) (.slice none 0 0) (.slice none 0 0) (.slice none 0 0) [] mid0 0 0 [] [] [] [] 0 0 := by
  have hgo : go Z.rd mid0 (bs.take 0) = ⟨[], 0, mid0, []⟩ := go_wait (ckP_nil _ _)
  refine ⟨DrS.start (RdS.start Z hr (by omega)), h8, by rw [heard0_hd]; exact h11, be, l8, by omega, by omega, fun y hy hm => ?_, by simp [Value.ownBlock], by simp, by simp, by rw [hgo], by rw [hgo]; rfl, fun _ => by rw [hgo]; exact ⟨rfl, rfl, MidOk.zero⟩, fun _ => rfl⟩
  rcases mem_X.1 hm with h1 | h1 | h1 | h1
  · cases h1
  · subst h1; simp at hy; omega
  · cases h1
  · cases h1
/-- How much it is. -/
theorem HeS.bounds (h : HeS Z w W g8 g11 g bs a vl vc vq vh L m C fl ws xs hs ys fx hx) (hz : Nine Z) (hb : ∀ x ∈ bs, x < 256) (ha : a ≤ bs.length) : ws.length ≤ bs.length / 20 ∧ hs.length ≤ bs.length ∧ L.length ≤ bs.length ∧ (fl = 0 → m.p ≤ 1099511627776) := by
  have h1 := go_len20 hz mid0 (bs.take a) (by intro y hy; cases hy) (fun y hy => hb y (List.mem_of_mem_take hy))
  have h2 := h.dr.rd.is.len
  have h3 := h.dr.his.len
  have e0 : mid0.c.length = 0 := rfl
  rw [← h.ems, List.length_append, e0, List.length_take, Nat.min_eq_left ha] at h1
  refine ⟨by omega, by omega, ?_, fun h0 => ?_⟩
  · by_cases h0 : fl = 0
    · rw [(h.eok h0).2.1]
      have := go_len (rd := Z.rd) mid0 (bs.take a)
      rw [List.length_take, Nat.min_eq_left ha] at this
      omega
    · rw [h.bad h0]; simp
  · have := (h.eok h0).2.2
    obtain ⟨k1, k2, k3⟩ := this
    have : m.p ≤ 16395 * 2047 := Nat.le_trans k3 (Nat.mul_le_mul_left _ k1)
    omega
/-- Behind a fault more bytes turn nothing. -/
theorem HeS.skip (h : HeS Z w W g8 g11 g bs a vl vc vq vh L m C fl ws xs hs ys fx hx) (hf : fl ≠ 0) (ha : a ≤ a2) : HeS Z w W g8 g11 g bs a2 vl vc vq vh L m C fl ws xs hs ys fx hx := by
  have h1 := (go_app (rd := Z.rd) (seg bs a (a2 - a)) mid0 (bs.take a)).2 (by rw [← h.efl]; exact hf)
  rw [← take_to ha] at h1
  exact ⟨h.dr, h.b8, h.b11, h.be, h.l8, h.l11, h.n89, h.nX, h.nv, h.nM, h.nH, by rw [h1.2]; exact h.efl, by rw [h1.1]; exact h.ems, fun h0 => absurd h0 hf, h.bad⟩
theorem off_newer {X : List Nat} {N : Nat} (hX : ∀ y ∈ X, y < N) {V : Wm} (hV : V.ok W N) : V.off X := hV.off_old hX
/-- A piece. -/
theorem HeS.push (h : HeS Z w W g8 g11 g bs a vl vc vq vh L m C 0 ws xs hs ys fx hx) (ha : a ≤ a2) (hp : PushDone Z w.heap.size W g vl vc vq (go Z.rd m (L ++ seg bs a (a2 - a))) ws xs e W1) :
    ∃ (vl' vc' vq' : Value) (L' : List Nat) (m' : Mid) (C' : Nat) (fl' : Int) (ws' : List Wm) (xs' : List T), e = .returned (.int .i64 fl') ∧ HeS Z w W1 g8 g11 g bs a2 vl' vc' vq' vh L' m' C' fl' ws' xs' hs ys fx hx := by
  have hlt8 := h.lt8
  have hlt11 := h.lt11
  obtain ⟨vl', vc', vq', L', m', C', nw, he, hr, h1, h2, hc, hf, hw⟩ := hp
  have hold : ∀ y ∈ [g8, g11], y < W.heap.size := by
    intro y hy
    rcases List.mem_cons.1 hy with e | e
    · omega
    · rw [List.mem_singleton.1 e]; exact hlt11
  have hbw : Below w.heap.size W W1 := hc.below (Nat.le_trans h.dr.rd.bg (Nat.le_of_lt h.dr.rd.lt)) fun y hy => (h.dr.rd.ltX hy).1
  have hmid := h.eok rfl
  have hgo := (go_app (rd := Z.rd) (seg bs a (a2 - a)) mid0 (bs.take a)).1 h.efl.symm
  rw [← take_to ha, ← hmid.1, ← hmid.2.1] at hgo
  obtain ⟨o, ho⟩ : ∃ o, go Z.rd m (L ++ seg bs a (a2 - a)) = o := ⟨_, rfl⟩
  rw [ho] at he hr h1 h2 hgo
  have c8 : W1.heap[g8]? = W.heap[g8]? := hc.block g8 hlt8 (h.nX g8 (by simp))
  have c11 : W1.heap[g11]? = W.heap[g11]? := hc.block g11 hlt11 (h.nX g11 (by simp))
  refine ⟨vl', vc', vq', L', m', C', o.fl, ws ++ nw, xs ++ o.ms, he, ⟨⟨hr, h.dr.qh.chg hc h.dr.s1, fun V hV => (h.dr.hok V hV).chg hc (h.dr.s2 V hV), fun y hy hm => ?_, fun V hV => (h.dr.s2 V hV).new (h.dr.hok V hV) hf, h.dr.s3, fun V hV => ?_, h.dr.his⟩, by rw [c8]; exact h.b8, by rw [c11]; exact h.b11, h.be.trans hbw, h.l8, h.l11, h.n89, fun y hy hm => ?_, h.nv, fun V hV => ?_, h.nH, by rw [hgo], by rw [hgo, ← h.ems, List.append_assoc], fun h0 => ?_, h2⟩⟩
  · rcases hf y hm with h3 | h3
    · exact h.dr.s1 y hy h3
    · have := (h.dr.qh.lt hy).2; omega
  · rcases List.mem_append.1 hV with h3 | h3
    · exact h.dr.s4 V h3
    · exact (hw V h3).off_old fun y hy => by rw [Option.mem_toList] at hy; exact (h.dr.qh.lt hy).2
  · rcases hf y hm with h3 | h3
    · exact h.nX y hy h3
    · have := hold y hy; omega
  · rcases List.mem_append.1 hV with h3 | h3
    · exact h.nM V h3
    · exact (hw V h3).off_old hold
  · rw [hgo]; exact h1 h0
/-- What has come is taken. -/
theorem HeS.drain (h : HeS Z w W g8 g11 g bs a vl vc vq vh L m C fl ws xs hs ys fx hx) (hd : DrainDone Z w.heap.size W vh.ownBlock.toList g vl vc vq L m.c m.s C m.k m.p fl ws xs hs ys e W1) :
    ∃ (vq' vh' : Value), e = .returned (.agg (hdC Z.ans vh' fl ((if fl = 0 then m.p + L.length else 0 : Nat) : Int))) ∧
      W1.heap[g8]? = some (.cells heard0 75) ∧ W1.heap[g11]? = some (.cells (hdC Z.ans vh fx hx) 75) ∧ vh'.oneCell' = true ∧
      (∀ W2 : World, W2.heap[g11]? = some (.cells (hdC Z.ans vh' fl ((if fl = 0 then m.p + L.length else 0 : Nat) : Int)) 75) → W1.grownBy W2 (some g11) → HeS Z w W2 g8 g11 g bs a vl vc vq' vh' L m C fl [] [] (hs ++ ws) (ys ++ xs) fl ((if fl = 0 then m.p + L.length else 0 : Nat) : Int)) ∧
      (bs.length ≤ a → ∀ W2 : World, W1.grownBy W2 (some g8) → HearDone Z w bs (.returned (.tuple #[.agg (hdC Z.ans vh' fl ((if fl = 0 then m.p + L.length else 0 : Nat) : Int)), .bool true])) W2) := by
  have hlt8 := h.lt8
  have hlt11 := h.lt11
  obtain ⟨vq', vh', he, hdr, hc, hb, hv⟩ := hd
  have hold : ∀ y ∈ [g8, g11], y < W.heap.size := by
    intro y hy
    rcases List.mem_cons.1 hy with e | e
    · omega
    · rw [List.mem_singleton.1 e]; exact hlt11
  have hX : rdX g vl vc vq' = rdX g vl vc vq := by unfold rdX rdY; rw [hb]
  have hno : ∀ y ∈ [g8, g11], y ∉ g :: vh.ownBlock.toList := fun y hy hm => by
    rcases List.mem_cons.1 hm with e | e
    · exact h.nX y hy (by rw [e]; exact mem_X.2 (.inr (.inl rfl)))
    · exact h.nv y hy (Option.mem_toList.1 e)
  have c8 : W1.heap[g8]? = W.heap[g8]? := hc.block g8 hlt8 (hno g8 (by simp))
  have c11 : W1.heap[g11]? = W.heap[g11]? := hc.block g11 hlt11 (hno g11 (by simp))
  have hbw : Below w.heap.size W W1 := hc.below (Nat.le_trans h.dr.rd.bg (Nat.le_of_lt h.dr.rd.lt)) fun y hy => by
    rcases List.mem_cons.1 hy with e | e
    · rw [e]; exact h.dr.rd.bg
    · exact (h.dr.qh.lt (Option.mem_toList.1 e)).1
  have nv' : ∀ y ∈ [g8, g11], vh'.ownBlock ≠ some y := fun y hy hm => by
    rcases hv y hm with h3 | h3
    · exact h.nv y hy (Option.mem_toList.1 h3)
    · have := hold y hy; omega
  have nH' : ∀ V ∈ hs ++ ws, V.off [g8, g11] := fun V hV => (List.mem_append.1 hV).elim (h.nH V) (h.nM V)
  have nX' : ∀ y ∈ [g8, g11], y ∉ rdX g vl vc vq' := by rw [hX]; exact h.nX
  refine ⟨vq', vh', he, by rw [c8]; exact h.b8, by rw [c11]; exact h.b11, hdr.qh.one, fun W2 hW2 hg => ?_, fun hlen W2 hg => ?_⟩
  · have k := Chg.of_grown hg
    have s1 : ∀ {y}, y ∈ [g11] → y ∈ [g8, g11] := fun hy => by rw [List.mem_singleton.1 hy]; simp
    refine ⟨hdr.keepY k (fun y hy hm => nX' y (s1 hm) hy) (fun y hy hm => nv' y (s1 hm) hy) (by simp) (fun V hV => (nH' V hV).mono fun y hy => s1 hy), ?_, hW2, h.be.trans (hbw.trans (k.below (Nat.le_trans h.be.size hbw.size) fun y hy => by rw [List.mem_singleton.1 hy]; exact h.l11)), h.l8, h.l11, h.n89, nX', nv', by simp, nH', h.efl, by rw [List.append_nil]; exact h.ems, h.eok, h.bad⟩
    rw [k.block g8 (by have := hc.size; omega) (by have := h.n89; simp; omega), c8]; exact h.b8
  · have k := Chg.of_grown hg
    have s1 : ∀ {y}, y ∈ [g8] → y ∈ [g8, g11] := fun hy => by rw [List.mem_singleton.1 hy]; simp
    have hk := hdr.keepY k (fun y hy hm => nX' y (s1 hm) hy) (fun y hy hm => nv' y (s1 hm) hy) (by simp) (fun V hV => (nH' V hV).mono fun y hy => s1 hy)
    have ht : bs.take a = bs := List.take_of_length_le hlen
    have e1 := h.efl
    have e2 := h.ems
    have e3 := h.eok
    rw [ht] at e1 e2 e3
    refine ⟨vh', hs ++ ws, ?_, hk.qh, hk.hok, by rw [← e2]; exact hk.his, h.be.trans (hbw.trans (k.below (Nat.le_trans h.be.size hbw.size) fun y hy => by rw [List.mem_singleton.1 hy]; exact h.l8))⟩
    rw [← e1]
    congr 5
    unfold heldN
    rw [← e1]
    by_cases h0 : fl = 0
    · rw [if_pos h0, if_pos h0, (e3 h0).1, ← (e3 h0).1, ← (e3 h0).2.1]
    · rw [if_neg h0, if_neg h0]
end
end Go.Proofs.Ytbcmjjcbjojakaa
end
section
/- Contract of the laws' copied. -/
namespace Go.Proofs.Ytbcmjjcbjojakaa
open Go.RowKit
set_option linter.unusedVariables false
theorem copyB_any (w : World) (A : Option Addr) (n c B : Nat) (bs : List Nat) (hr : Rd w B A n (cb bs)) (hn : n ≤ 140737488355328) : Calls Try.prog 17 #[.slice A n c] w fun e w' => ∃ A' c', e = .returned (.slice A' n c') ∧ w'.ownsRow w.heap.size 5 1 (.slice A' n c') n (cb bs) ∧ n ≤ c' ∧ Below w.heap.size w w' := by
  have HH := Hd.mk hr
  have h63 : Hd (0 + n ≤ maxLen) := ⟨by unfold maxLen; omega⟩
  have hby : Hd ((0 + n) * 1 ≤ 140737488355328) := ⟨by omega⟩
  clear hr
  go_enter Try.func17, Try.ntmps17
  go_wp2_with (at_builtin; refine wpList_app elB rfl (.const (.slice none 0 0)) (.tmp 3) rfl w.heap.size (.slice none 0 0) 0 [] rfl (World.ownsRow_nil ..) B A n c (cb bs) rfl HH.out (cb_one bs) h63.out hby.out (Nat.le_refl _) ?_; intro v1 w1 hO1; have H1 : Hd (Onto w w1 w.heap.size 5 (.slice none 0 0) v1 n (cb bs)) := ⟨by simpa using hO1⟩; clear hO1)
  go_ret
  obtain ⟨A', c', rfl, hc, _⟩ := own_form H1.out.own
  exact ⟨A', c', rfl, H1.out.own, hc, H1.out.below (fun k hk => by cases hk) (Nat.le_refl _)⟩
end Go.Proofs.Ytbcmjjcbjojakaa
end
section
/- Contract of hear. (tools/heargen.py prints it.) -/
namespace Go.Proofs.Ytbcmjjcbjojakaa
open Go.RowKit
set_option linter.unusedVariables false
set_option linter.unusedSimpArgs false
def I64 (k : Int) : Prop := -9223372036854775808 ≤ k ∧ k ≤ 9223372036854775807
set_option maxHeartbeats 400000 in
theorem pick_any (w : World) (k n : Int) (hk : I64 k) (h0 : 0 < n) (h1 : n ≤ 4611686018427387904) :
    Calls Try.prog 44 #[.int .i64 k, .int .i64 n] w fun e w' => e = .returned (.int .i64 (k % n)) ∧ w = w' := by
  obtain ⟨k1, k2⟩ := hk
  have e1 := Int.emod_nonneg k (b := n) (by omega)
  have e2 := Int.emod_lt_of_pos k h0
  have e3 : k.tmod n = if 0 ≤ k ∨ k % n = 0 then k % n else k % n - n := by
    rw [Int.tmod_eq_emod]
    by_cases hh : 0 ≤ k ∨ n ∣ k
    · rw [if_pos hh, if_pos (by rcases hh with h | h; exact .inl h; exact .inr (Int.emod_eq_zero_of_dvd h))]; omega
    · rw [if_neg hh, if_neg (fun h => hh (by rcases h with h | h; exact .inl h; exact .inr (Int.dvd_of_emod_eq_zero h)))]
      have : (n.natAbs : Int) = n := by omega
      rw [this]
  have hne : n ≠ 0 := by omega
  have hne' : (n == 0) = false := by simp; omega
  have HQ : Hd (k.tmod n = if 0 ≤ k ∨ k % n = 0 then k % n else k % n - n) := ⟨e3⟩
  have t1 : -9223372036854775808 ≤ k.tmod n := by rw [e3]; split <;> omega
  have t2 : k.tmod n ≤ 9223372036854775807 := by rw [e3]; split <;> omega
  have hw : wrap64 (k.tmod n) = k.tmod n := by unfold wrap64; omega
  by_cases hneg : k.tmod n < 0
  · have t3 : -9223372036854775808 ≤ k.tmod n + n := by omega
    have t4 : k.tmod n + n ≤ 9223372036854775807 := by omega
    clear e3
    go_enter Try.func44, Try.ntmps44
    go_wp2_with fail
    go_ret
    refine ⟨ret_int ?_, rfl⟩
    have := HQ.out
    split at this <;> omega
  · clear e3
    go_enter Try.func44, Try.ntmps44
    go_wp2_with fail
    go_ret
    refine ⟨ret_int ?_, rfl⟩
    have := HQ.out
    split at this <;> omega
theorem wrap64_add {a b c : Nat} (h : a + b = c) (hc : c ≤ 34359738368) : wrap64 ((a : Int) + (b : Int)) = (c : Int) := by unfold wrap64; omega
theorem wrapI_add {a b c : Nat} (h : a + b = c) (hc : c ≤ 34359738368) : IntKind.i64.wrap ((a : Int) + (b : Int)) = (c : Int) := by rw [IntKind.wrap_i64]; omega
theorem readerLaw_ask : ReaderLaw askK := fun w => by
  show Calls Try.prog 74 #[.bool false] w _
  go_enter Try.func74, Try.ntmps74
  go_wp2_with fail
  refine (asks_new w).mono ?_
  rintro e w1 ⟨rfl, h, hb⟩
  have HX := Hd.mk (And.intro h.box hb)
  clear h hb
  go_wp2_with fail
  go_ret
  exact ⟨rfl, HX.out.1, HX.out.2⟩
theorem readerLaw_tel : ReaderLaw telK := fun w => by
  show Calls Try.prog 74 #[.bool true] w _
  go_enter Try.func74, Try.ntmps74
  go_wp2_with fail
  refine (tells_new w).mono ?_
  rintro e w1 ⟨rfl, h, hb⟩
  have HX := Hd.mk (And.intro h.box hb)
  clear h hb
  go_wp2_with fail
  go_ret
  exact ⟨rfl, HX.out.1, HX.out.2⟩
set_option maxRecDepth 20000 in
set_option maxHeartbeats 8000000 in
theorem hear_any {T : Type} (Z : Kd T) (HMS : MsgLaw Z) (HDR : DrainLaw Z) (HRL : ReaderLaw Z) (hz : Nine Z) (w : World) (A : Option Addr) (n c : Nat) (bs : List Nat) (hr : Rd w w.heap.size A n (cb bs)) (hb : ∀ x ∈ bs, x < 256) (hnc : n ≤ c) (hn : n ≤ 34359738368)
    (A2 : Option Addr) (n2 c2 : Nat) (cuts : List Int) (hcu : Rd w w.heap.size A2 n2 (cuts.map (.int .i64))) (hci : ∀ k ∈ cuts, I64 k) (hn2 : n2 ≤ 140737488355328) (each : Bool) :
    Calls Try.prog 30 #[.slice A n c, .bool Z.ans, .slice A2 n2 c2, .bool each] w (HearDone Z w bs) := by
  have hbl : bs.length = n := by have := hr.1; rwa [cb_length] at this
  have HR : Hd (Rd w w.heap.size A n (cb bs) ∧ (∀ x ∈ bs, x < 256) ∧ bs.length = n ∧ n ≤ c) := ⟨hr, hb, hbl, hnc⟩
  have HC : Hd (Rd w w.heap.size A2 n2 (cuts.map (.int .i64)) ∧ ∀ k ∈ cuts, I64 k) := ⟨hcu, hci⟩
  have HM := Hd.mk (And.intro HMS (And.intro HDR (And.intro HRL hz)))
  obtain ⟨g8, hg8⟩ : ∃ q, w.heap.size = q := ⟨_, rfl⟩
  obtain ⟨w0, hw0⟩ : ∃ U, w.alloc (.cells #[.slice none 0 0, .slice none 0 0, .int .i64 0, .int .i64 0] 75) = U := ⟨_, rfl⟩
  have H0 : Hd (w0.heap[g8]? = some (.cells heard0 75) ∧ Below w.heap.size w w0 ∧ w0.heap.size = g8 + 1 ∧ w.heap.size = g8) := ⟨by rw [← hw0, ← hg8]; exact heap_alloc_new w _, by rw [← hw0]; exact (Below.refl _ w).alloc (Nat.le_refl _) _, by rw [← hw0, ← hg8]; simp, hg8⟩
  have hqn : (n : Int).tdiv 20 = ((n / 20 : Nat) : Int) := by rw [Int.tdiv_eq_ediv_of_nonneg (by omega)]; rfl
  obtain ⟨mo, hmo⟩ : ∃ q, n / 20 = q := ⟨_, rfl⟩
  have HMO := Hd.mk hmo
  have hmob : mo ≤ 1717986918 := by omega
  rw [hmo] at hqn
  have hwq : IntKind.i64.wrap (mo : Int) = (mo : Int) := by rw [IntKind.wrap_i64]; omega
  have HQ := Hd.mk (And.intro hqn hwq)
  clear HMS HDR HRL hz hr hb hbl hnc hcu hci hmo hqn hwq
  go_enter Try.func30, Try.ntmps30
  go_upto_region 1 with fail
  try rw [hw0]
  try rw [hg8]
  clear hw0 hg8
  go_wp2_with fail
  refine (HM.out.2.2.1 w0).mono ?_
  rintro e w1 ⟨rfl, hrb, hbe⟩
  have H1 := Hd.mk (And.intro hrb hbe)
  clear hrb hbe
  obtain ⟨gr, hgr⟩ : ∃ q, w0.heap.size = q := ⟨_, rfl⟩
  rw [hgr]
  have HGR := Hd.mk hgr
  clear hgr
  go_upto_region 5 with fail
  obtain ⟨w2, hw2⟩ : ∃ U, w1.alloc (.cells #[.slice none 0 0, .slice none 0 0, .int .i64 0, .int .i64 0] 75) = U := ⟨_, rfl⟩
  obtain ⟨g11, hg11⟩ : ∃ q, w1.heap.size = q := ⟨_, rfl⟩
  rw [hw2, hg11]
  have H2 : Hd (HeS Z w w2 g8 g11 gr bs 0 (.slice none 0 0) (.slice none 0 0) (.slice none 0 0) (.slice none 0 0) [] mid0 0 0 [] [] [] [] 0 0) := ⟨by
    have k0 := H1.out.2
    have hlt : w0.heap.size < w1.heap.size := (Array.getElem?_eq_some_iff.1 H1.out.1).1
    have b2 : Below w1.heap.size w1 w2 := by rw [← hw2]; exact (Below.refl _ w1).alloc (Nat.le_refl _) _
    have q1 := H0.out.2.2.1
    have q2 := H0.out.2.2.2
    have q3 := HGR.out
    refine HeS.start Z ?_ ?_ ?_ ((H0.out.2.1.trans (k0.mono (by omega))).trans (b2.mono (by omega))) (by omega) (by omega) (by omega)
    · rw [b2.block gr (by omega), ← q3]; exact H1.out.1
    · rw [b2.block g8 (by omega), k0.block g8 (by omega)]; exact H0.out.1
    · rw [← hw2, ← hg11]; exact heap_alloc_new w1 _⟩
  clear H0 H1 HGR hw2 hg11
  go_wp2_with fail
  go_loopw [12, 13] (fun u12 u13 wr => ∃ (a i : Nat) (vl vc vq vh : Value) (L : List Nat) (m : Mid) (C : Nat) (fl : Int) (ws : List Wm) (xs : List T) (hs : List Wm) (ys : List T) (fx hx : Int), u12 = .int .i64 (a : Int) ∧ u13 = .int .i64 (i : Int) ∧ a ≤ n ∧ i ≤ n2 + 1 ∧ (i = n2 + 1 → a = n) ∧ HeS Z w wr g8 g11 gr bs a vl vc vq vh L m C fl ws xs hs ys fx hx) (fun _ u13 _ => n2 + 1 - (intOf u13).toNat)
  case atStart => exact ⟨0, 0, _, _, _, _, _, _, _, _, _, _, _, _, _, _, rfl, rfl, by omega, by omega, fun h => by omega, H2.out⟩
  case round =>
    obtain ⟨a, i, vl, vc, vq, vh, L, m, C, fl, ws, xs, hs, ys, fx, hx, rfl, rfl, ha, hi, hend, hS⟩ := hrel
    have HS := Hd.mk hS
    have HE := Hd.mk hend
    clear hS hend H2
    by_cases hle : i ≤ n2
    · have hli : (i : Int) ≤ (n2 : Int) := by omega
      by_cases hlt : i < n2
      · have hlti : (i : Int) < (n2 : Int) := by omega
        obtain ⟨kk, hkk⟩ : ∃ kk, cuts[i]? = some kk := ⟨_, List.getElem?_eq_getElem (by have := HC.out.1.1; rw [List.length_map] at this; omega)⟩
        have hki := HC.out.2 kk (List.mem_of_getElem? hkk)
        obtain ⟨gc, oc, hA2, hgc, hcc⟩ := HC.out.1.2 (by omega)
        subst hA2
        have dc : wr.cell? ⟨gc, oc + i, none⟩ = some (.int .i64 kk) := by
          rw [HS.out.be.cell (show gc < w.heap.size from hgc), hcc i hlt]
          simp [hkk]
        have HK := Hd.mk hki
        clear hcc hgc hkk hki
        obtain ⟨pn, hpn⟩ : ∃ q : Nat, kk % ((n - a + 1 : Nat) : Int) = (q : Int) := ⟨(kk % ((n - a + 1 : Nat) : Int)).toNat, by have := Int.emod_nonneg kk (b := ((n - a + 1 : Nat) : Int)) (by omega); omega⟩
        have hpl : pn ≤ n - a := by have := Int.emod_lt_of_pos kk (b := ((n - a + 1 : Nat) : Int)) (by omega); omega
        have hsub : IntKind.i64.wrap ((n : Int) - (a : Int)) = (n : Int) - (a : Int) := by rw [IntKind.wrap_i64]; omega
        have hsub1 : IntKind.i64.wrap ((n : Int) - (a : Int) + 1) = (n : Int) - (a : Int) + 1 := by rw [IntKind.wrap_i64]; omega
        have hcn : (n : Int) - (a : Int) + 1 = ((n - a + 1 : Nat) : Int) := by omega
        have HCN := Hd.mk (And.intro hcn hpn)
        clear hcn hpn
        go_upto_region 11 with fail
        go_wp2_with fail
        refine (pick_any wr kk ((n : Int) - (a : Int) + 1) HK.out (by omega) (by omega)).mono ?_
        rintro e w9 ⟨rfl, hw9⟩
        subst hw9
        rw [HCN.out.1, HCN.out.2]
        clear dc hsub hsub1 HCN HK
        obtain ⟨a2, ha2⟩ : ∃ q, a + pn = q := ⟨_, rfl⟩
        have HPA : Hd (a ≤ a2 ∧ a2 ≤ n ∧ a2 - a = pn ∧ (i + 1 = n2 + 1 → a2 = n)) := ⟨by omega, by omega, by omega, by omega⟩
        have hac : a2 ≤ 34359738368 := by omega
        have hsw1 : wrap64 ((a : Int) + (pn : Int)) = (a2 : Int) := wrap64_add ha2 hac
        have hsw2 : IntKind.i64.wrap ((a : Int) + (pn : Int)) = (a2 : Int) := wrapI_add ha2 hac
        clear ha2 hpl hlti hli hac
        go_upto_region 12 with fail
        obtain ⟨haa, ha2n, hpn, hnx⟩ := HPA.out
        have HNX := Hd.mk hnx
        clear hnx hsw1 hsw2 HPA
        have hcut : (Instr.slice 26 (.slice A n c) (some (.int .i64 (a : Int))) (some (.int .i64 (a2 : Int))) none).run Try.prog wr = .ok (.slice (cutA A c a) pn (c - a)) wr := by rw [← hpn]; exact run_cut elB A n c a a2 haa (by have := HR.out.2.2.2; omega)
        have hsg : Hd (Rd wr w.heap.size (cutA A c a) pn (cb (seg bs a pn))) := ⟨by rw [← hpn]; exact (rd_seg HR.out.1 haa ha2n HR.out.2.2.2).below HS.out.be⟩
        have hpb : pn ≤ 34359738368 := by omega
        have HPN := Hd.mk hpn
        clear hpn
        go_wp2_with fail
        refine (copyB_any wr (cutA A c a) pn (c - a) w.heap.size (seg bs a pn) hsg.out (by omega)).mono ?_
        rintro e w3 ⟨A3, c3, rfl, ho3, hn3, hb3⟩
        have H3 := Hd.mk (And.intro (HS.out.below hb3) (And.intro ho3 hn3))
        have hbd := HS.out.bounds HM.out.2.2.2 HR.out.2.1 (by have := HR.out.2.2.1; omega)
        rw [HR.out.2.2.1] at hbd
        have HBD := Hd.mk hbd
        clear hcut hsg ho3 hn3 hb3 HS hbd
        by_cases hf : fl = 0
        · subst hf
          go_wp2_with fail
          refine (push_any Z HM.out.1 w.heap.size w3 gr vl vc vq L m C ws xs H3.out.1.dr.rd A3 pn c3 (seg bs a pn) (Rd.of_own H3.out.2.1) (fun x hx => seg_lt HR.out.2.1 a pn x hx) (H3.out.1.eok rfl).2.2 (by have := HBD.out.1; have := HBD.out.2.2.1; omega)).mono ?_
          intro e w4 hp
          rw [← HPN.out] at hp
          obtain ⟨vl', vc', vq', L', m', C', fl', ws', xs', rfl, h4⟩ := H3.out.1.push haa hp
          have H4 := Hd.mk h4
          clear hp h4 H3 HBD
          rcases each with _ | _
          · go_wp2_with fail
            go_roundw
            case rel => exact ⟨a2, i + 1, _, _, _, _, _, _, _, _, _, _, _, _, _, _, by go_num, by go_num, ha2n, by omega, HNX.out, H4.out⟩
            case measure => simp [intOf]; omega
          · have hbd := H4.out.bounds HM.out.2.2.2 HR.out.2.1 (by have := HR.out.2.2.1; omega)
            rw [HR.out.2.2.1] at hbd
            have HBD := Hd.mk hbd
            clear hbd
            obtain ⟨hqn, hwq⟩ := HQ.out
            go_upto_region 15 with fail
            go_wp2_with (refine at_load (x := .tmp 11) ?_; refine wpList_load_row rfl 75 (.tmp 11) rfl g11 rfl 75 (hdC Z.ans vh fx hx) (0, 0) _ H4.out.b11 Try.underlying75 rfl infoHd ?_)
            clear hqn hwq
            refine (HM.out.2.1 w.heap.size w4 gr vl' vc' vq' L' m'.c m'.s C' m'.k m'.p fl' ws' xs' vh hs ys H4.out.dr vh.ownBlock.toList rfl fx hx mo (by have := HBD.out.1; have := HMO.out; omega) (by omega) (by have := HBD.out.2.1; omega) ⟨HBD.out.2.2.2⟩ (by have := HBD.out.2.2.1; omega)).mono ?_
            intro e w5 hd
            obtain ⟨vq9, vh9, rfl, b8, b11, h1c, hst, hfin⟩ := H4.out.drain hd
            obtain ⟨hx', hhx⟩ : ∃ q : Int, ((if fl' = 0 then m'.p + L'.length else 0 : Nat) : Int) = q := ⟨_, rfl⟩
            rw [hhx] at hst ⊢
            have HF := Hd.mk hst
            have hone := hd_one (ans := Z.ans) (fl := fl') (held := hx') h1c
            have HB11 := Hd.mk (And.intro b11 hone)
            clear b8 b11 h1c hst hfin hd hone hhx
            go_wp2_with (refine at_store (x := .tmp 11) ?_; refine wpList_stored rfl 75 (.tmp 11) (.tmp 59) rfl g11 (hdC Z.ans vh9 fl' hx') rfl rfl 75 (hdC Z.ans vh fx hx) HB11.out.1 infoHd rfl HB11.out.2 ?_; intro w6 hB6)
            go_roundw
            case rel => exact ⟨a2, i + 1, _, _, _, _, _, _, _, _, _, _, _, _, _, _, by go_num, by go_num, ha2n, by omega, HNX.out, HF.out w6 hB6.out.1 hB6.out.2.1⟩
            case measure => simp [intOf]; omega
        · have HF0 := Hd.mk hf
          clear hf
          go_wp2_with fail
          refine (push_fault Z w.heap.size w3 gr vl vc vq L m.c m.s C m.k m.p fl ws xs H3.out.1.dr.rd HF0.out A3 pn c3).mono ?_
          rintro e w4 ⟨rfl, hw4⟩
          subst hw4
          have H4 := Hd.mk (H3.out.1.skip HF0.out haa)
          clear H3 HBD
          rcases each with _ | _
          · go_wp2_with fail
            go_roundw
            case rel => exact ⟨a2, i + 1, _, _, _, _, _, _, _, _, _, _, _, _, _, _, by go_num, by go_num, ha2n, by omega, HNX.out, H4.out⟩
            case measure => simp [intOf]; omega
          · have hbd := H4.out.bounds HM.out.2.2.2 HR.out.2.1 (by have := HR.out.2.2.1; omega)
            rw [HR.out.2.2.1] at hbd
            have HBD := Hd.mk hbd
            clear hbd
            obtain ⟨hqn, hwq⟩ := HQ.out
            go_upto_region 15 with fail
            go_wp2_with (refine at_load (x := .tmp 11) ?_; refine wpList_load_row rfl 75 (.tmp 11) rfl g11 rfl 75 (hdC Z.ans vh fx hx) (0, 0) _ H4.out.b11 Try.underlying75 rfl infoHd ?_)
            clear hqn hwq
            refine (HM.out.2.1 w.heap.size w3 gr vl vc vq L m.c m.s C m.k m.p fl ws xs vh hs ys H4.out.dr vh.ownBlock.toList rfl fx hx mo (by have := HBD.out.1; have := HMO.out; omega) (by omega) (by have := HBD.out.2.1; omega) ⟨HBD.out.2.2.2⟩ (by have := HBD.out.2.2.1; omega)).mono ?_
            intro e w5 hd
            obtain ⟨vq9, vh9, rfl, b8, b11, h1c, hst, hfin⟩ := H4.out.drain hd
            obtain ⟨hx', hhx⟩ : ∃ q : Int, ((if fl = 0 then m.p + L.length else 0 : Nat) : Int) = q := ⟨_, rfl⟩
            rw [hhx] at hst ⊢
            have HF := Hd.mk hst
            have hone := hd_one (ans := Z.ans) (fl := fl) (held := hx') h1c
            have HB11 := Hd.mk (And.intro b11 hone)
            clear b8 b11 h1c hst hfin hd hone hhx
            go_wp2_with (refine at_store (x := .tmp 11) ?_; refine wpList_stored rfl 75 (.tmp 11) (.tmp 59) rfl g11 (hdC Z.ans vh9 fl hx') rfl rfl 75 (hdC Z.ans vh fx hx) HB11.out.1 infoHd rfl HB11.out.2 ?_; intro w6 hB6)
            go_roundw
            case rel => exact ⟨a2, i + 1, _, _, _, _, _, _, _, _, _, _, _, _, _, _, by go_num, by go_num, ha2n, by omega, HNX.out, HF.out w6 hB6.out.1 hB6.out.2.1⟩
            case measure => simp [intOf]; omega
      · have hin : i = n2 := by omega
        have hlti : ¬ (i : Int) < (n2 : Int) := by omega
        have haa : a ≤ n := ha
        have ha2n : n ≤ n := Nat.le_refl n
        obtain ⟨pn, hpn⟩ : ∃ q, n - a = q := ⟨_, rfl⟩
        go_upto_region 12 with fail
        have hcut : (Instr.slice 26 (.slice A n c) (some (.int .i64 (a : Int))) (some (.int .i64 (n : Int))) none).run Try.prog wr = .ok (.slice (cutA A c a) pn (c - a)) wr := by rw [← hpn]; exact run_cut elB A n c a n haa (by have := HR.out.2.2.2; omega)
        have hsg : Hd (Rd wr w.heap.size (cutA A c a) pn (cb (seg bs a pn))) := ⟨by rw [← hpn]; exact (rd_seg HR.out.1 haa ha2n HR.out.2.2.2).below HS.out.be⟩
        have hpb : pn ≤ 34359738368 := by omega
        have HPN := Hd.mk hpn
        clear hpn
        go_wp2_with fail
        refine (copyB_any wr (cutA A c a) pn (c - a) w.heap.size (seg bs a pn) hsg.out (by omega)).mono ?_
        rintro e w3 ⟨A3, c3, rfl, ho3, hn3, hb3⟩
        have H3 := Hd.mk (And.intro (HS.out.below hb3) (And.intro ho3 hn3))
        have hbd := HS.out.bounds HM.out.2.2.2 HR.out.2.1 (by have := HR.out.2.2.1; omega)
        rw [HR.out.2.2.1] at hbd
        have HBD := Hd.mk hbd
        clear hcut hsg ho3 hn3 hb3 HS hbd
        by_cases hf : fl = 0
        · subst hf
          go_wp2_with fail
          refine (push_any Z HM.out.1 w.heap.size w3 gr vl vc vq L m C ws xs H3.out.1.dr.rd A3 pn c3 (seg bs a pn) (Rd.of_own H3.out.2.1) (fun x hx => seg_lt HR.out.2.1 a pn x hx) (H3.out.1.eok rfl).2.2 (by have := HBD.out.1; have := HBD.out.2.2.1; omega)).mono ?_
          intro e w4 hp
          rw [← HPN.out] at hp
          obtain ⟨vl', vc', vq', L', m', C', fl', ws', xs', rfl, h4⟩ := H3.out.1.push haa hp
          have H4 := Hd.mk h4
          clear hp h4 H3 HBD
          rcases each with _ | _
          · go_wp2_with fail
            go_roundw
            case rel => exact ⟨n, i + 1, _, _, _, _, _, _, _, _, _, _, _, _, _, _, by go_num, by go_num, ha2n, by omega, fun _ => rfl, H4.out⟩
            case measure => simp [intOf]; omega
          · have hbd := H4.out.bounds HM.out.2.2.2 HR.out.2.1 (by have := HR.out.2.2.1; omega)
            rw [HR.out.2.2.1] at hbd
            have HBD := Hd.mk hbd
            clear hbd
            obtain ⟨hqn, hwq⟩ := HQ.out
            go_upto_region 15 with fail
            go_wp2_with (refine at_load (x := .tmp 11) ?_; refine wpList_load_row rfl 75 (.tmp 11) rfl g11 rfl 75 (hdC Z.ans vh fx hx) (0, 0) _ H4.out.b11 Try.underlying75 rfl infoHd ?_)
            clear hqn hwq
            refine (HM.out.2.1 w.heap.size w4 gr vl' vc' vq' L' m'.c m'.s C' m'.k m'.p fl' ws' xs' vh hs ys H4.out.dr vh.ownBlock.toList rfl fx hx mo (by have := HBD.out.1; have := HMO.out; omega) (by omega) (by have := HBD.out.2.1; omega) ⟨HBD.out.2.2.2⟩ (by have := HBD.out.2.2.1; omega)).mono ?_
            intro e w5 hd
            obtain ⟨vq9, vh9, rfl, b8, b11, h1c, hst, hfin⟩ := H4.out.drain hd
            obtain ⟨hx', hhx⟩ : ∃ q : Int, ((if fl' = 0 then m'.p + L'.length else 0 : Nat) : Int) = q := ⟨_, rfl⟩
            rw [hhx] at hst ⊢
            have HF := Hd.mk hst
            have hone := hd_one (ans := Z.ans) (fl := fl') (held := hx') h1c
            have HB11 := Hd.mk (And.intro b11 hone)
            clear b8 b11 h1c hst hfin hd hone hhx
            go_wp2_with (refine at_store (x := .tmp 11) ?_; refine wpList_stored rfl 75 (.tmp 11) (.tmp 59) rfl g11 (hdC Z.ans vh9 fl' hx') rfl rfl 75 (hdC Z.ans vh fx hx) HB11.out.1 infoHd rfl HB11.out.2 ?_; intro w6 hB6)
            go_roundw
            case rel => exact ⟨n, i + 1, _, _, _, _, _, _, _, _, _, _, _, _, _, _, by go_num, by go_num, ha2n, by omega, fun _ => rfl, HF.out w6 hB6.out.1 hB6.out.2.1⟩
            case measure => simp [intOf]; omega
        · have HF0 := Hd.mk hf
          clear hf
          go_wp2_with fail
          refine (push_fault Z w.heap.size w3 gr vl vc vq L m.c m.s C m.k m.p fl ws xs H3.out.1.dr.rd HF0.out A3 pn c3).mono ?_
          rintro e w4 ⟨rfl, hw4⟩
          subst hw4
          have H4 := Hd.mk (H3.out.1.skip HF0.out haa)
          clear H3 HBD
          rcases each with _ | _
          · go_wp2_with fail
            go_roundw
            case rel => exact ⟨n, i + 1, _, _, _, _, _, _, _, _, _, _, _, _, _, _, by go_num, by go_num, ha2n, by omega, fun _ => rfl, H4.out⟩
            case measure => simp [intOf]; omega
          · have hbd := H4.out.bounds HM.out.2.2.2 HR.out.2.1 (by have := HR.out.2.2.1; omega)
            rw [HR.out.2.2.1] at hbd
            have HBD := Hd.mk hbd
            clear hbd
            obtain ⟨hqn, hwq⟩ := HQ.out
            go_upto_region 15 with fail
            go_wp2_with (refine at_load (x := .tmp 11) ?_; refine wpList_load_row rfl 75 (.tmp 11) rfl g11 rfl 75 (hdC Z.ans vh fx hx) (0, 0) _ H4.out.b11 Try.underlying75 rfl infoHd ?_)
            clear hqn hwq
            refine (HM.out.2.1 w.heap.size w3 gr vl vc vq L m.c m.s C m.k m.p fl ws xs vh hs ys H4.out.dr vh.ownBlock.toList rfl fx hx mo (by have := HBD.out.1; have := HMO.out; omega) (by omega) (by have := HBD.out.2.1; omega) ⟨HBD.out.2.2.2⟩ (by have := HBD.out.2.2.1; omega)).mono ?_
            intro e w5 hd
            obtain ⟨vq9, vh9, rfl, b8, b11, h1c, hst, hfin⟩ := H4.out.drain hd
            obtain ⟨hx', hhx⟩ : ∃ q : Int, ((if fl = 0 then m.p + L.length else 0 : Nat) : Int) = q := ⟨_, rfl⟩
            rw [hhx] at hst ⊢
            have HF := Hd.mk hst
            have hone := hd_one (ans := Z.ans) (fl := fl) (held := hx') h1c
            have HB11 := Hd.mk (And.intro b11 hone)
            clear b8 b11 h1c hst hfin hd hone hhx
            go_wp2_with (refine at_store (x := .tmp 11) ?_; refine wpList_stored rfl 75 (.tmp 11) (.tmp 59) rfl g11 (hdC Z.ans vh9 fl hx') rfl rfl 75 (hdC Z.ans vh fx hx) HB11.out.1 infoHd rfl HB11.out.2 ?_; intro w6 hB6)
            go_roundw
            case rel => exact ⟨n, i + 1, _, _, _, _, _, _, _, _, _, _, _, _, _, _, by go_num, by go_num, ha2n, by omega, fun _ => rfl, HF.out w6 hB6.out.1 hB6.out.2.1⟩
            case measure => simp [intOf]; omega
    · have hli : ¬ (i : Int) ≤ (n2 : Int) := by omega
      have han : a = n := HE.out (by omega)
      have HAN := Hd.mk han
      have hbd := HS.out.bounds HM.out.2.2.2 HR.out.2.1 (by have := HR.out.2.2.1; omega)
      rw [HR.out.2.2.1] at hbd
      have HBD := Hd.mk hbd
      clear hbd han
      obtain ⟨hqn, hwq⟩ := HQ.out
      go_upto_region 16 with fail
      go_wp2_with (refine at_load (x := .tmp 11) ?_; refine wpList_load_row rfl 75 (.tmp 11) rfl g11 rfl 75 (hdC Z.ans vh fx hx) (0, 0) _ HS.out.b11 Try.underlying75 rfl infoHd ?_)
      clear hqn hwq
      refine (HM.out.2.1 w.heap.size wr gr vl vc vq L m.c m.s C m.k m.p fl ws xs vh hs ys HS.out.dr vh.ownBlock.toList rfl fx hx mo (by have := HBD.out.1; have := HMO.out; omega) (by omega) (by have := HBD.out.2.1; omega) ⟨HBD.out.2.2.2⟩ (by have := HBD.out.2.2.1; omega)).mono ?_
      intro e w5 hd
      obtain ⟨vq', vh', rfl, b8, b11, h1c, hst, hfin⟩ := HS.out.drain hd
      obtain ⟨hx', hhx⟩ : ∃ q : Int, ((if fl = 0 then m.p + L.length else 0 : Nat) : Int) = q := ⟨_, rfl⟩
      rw [hhx] at hfin ⊢
      have HF := Hd.mk (hfin (by have := HAN.out; have := HR.out.2.2.1; omega))
      have hone := hd_one (ans := Z.ans) (fl := fl) (held := hx') h1c
      have HB8 := Hd.mk (And.intro b8 hone)
      clear b8 b11 h1c hst hfin hd hone hhx
      go_wp2_with (refine at_store (x := .tmp 8) ?_; refine wpList_stored rfl 75 (.tmp 8) (.tmp 66) rfl g8 (hdC Z.ans vh' fl hx') rfl rfl 75 heard0 HB8.out.1 infoHd rfl HB8.out.2 ?_; intro w6 hB6)
      (try simp only [Exit.inBlock, Exit.then])
      refine bodyPost_ret (results_cell_tmp rfl _ _ g8 75 (hdC Z.ans vh' fl hx') (0, 0) _ rfl hB6.out.1 Try.underlying75 rfl infoHd) rfl ?_
      exact HF.out w6 hB6.out.2.1
end Go.Proofs.Ytbcmjjcbjojakaa
end
section
/- Contract of awake: it returns true. -/
namespace Go.Proofs.Ytbcmjjcbjojakaa
open Go.RowKit
set_option linter.unusedVariables false
set_option linter.unusedSimpArgs false
def aw8 : Rq := ⟨8, 5, emS, emS, 0, 0, 0, []⟩
def aw19 : List Nat := [2, 9, 0, 184, 170, 189, 161, 8, 5, 0, 0, 0, 0, 0, 0, 0, 126, 101, 183]
def aw20 : List Nat := [2, 9, 0, 184, 170, 189, 161, 8, 5, 0, 0, 0, 0, 0, 0, 0, 126, 101, 183, 107]
theorem aw8_c : rqC aw8 = [8, 5, 0, 0, 0, 0, 0, 0, 0] := by kernel_rfl
theorem aw8_form : formP (rqC aw8) = aw20 := by kernel_rfl
theorem aw8_ok : rqOk aw8 := by unfold rqOk aw8; refine ⟨by decide, by decide, fun _ => rfl, fun _ => rfl, fun _ => rfl, fun _ => rfl, fun _ => rfl, fun _ => rfl⟩
theorem aw8_fit : rqFit aw8 := by unfold rqFit aw8; refine ⟨by decide, by decide, by decide⟩
theorem aw8_b : RqB aw8 := ⟨by decide, by decide, by decide, by decide, by decide, by decide, by decide, by intro x hx; cases hx⟩
theorem aw8_ask : askP aw8 = (aw20, 0) := by unfold askP; rw [if_pos aw8_ok, if_pos aw8_fit, aw8_form]
theorem aw19_ck : ckP mid0.s mid0.k aw19 = .wait := by kernel_rfl
theorem aw20_ck : ckP mid0.s mid0.k aw20 = .ok true 9 := by kernel_rfl
theorem aw19_go : go askK.rd mid0 ([] ++ aw19) = ⟨[], 0, mid0, aw19⟩ := go_wait aw19_ck
theorem aw20_go : go askK.rd mid0 (aw19 ++ [107]) = ⟨[aw8], 0, mid0, []⟩ := by
  have e : aw19 ++ [107] = aw20 := rfl
  rw [e, go_some (x := aw8) aw20_ck ?_]
  · rw [show aw20.drop (9 + 11) = [] from rfl, go_wait (ckP_nil _ _)]; rfl
  · rw [show (mid0.next aw20 9).c = rqC aw8 from by rw [aw8_c]; rfl]
    exact rdRq_put aw8 aw8_ok aw8_fit aw8_b
theorem aw_lt : ∀ x ∈ aw20, x < 256 := by decide
set_option maxRecDepth 20000 in
set_option maxHeartbeats 4000000 in
theorem awake_any (w : World) : Calls Try.prog 29 #[] w fun e w' => e = .returned (.bool true) ∧ Below w.heap.size w w' := by
  go_enter Try.func29, Try.ntmps29
  go_wp2_with fail
  refine (ask_any w aw8 none 0 0 Rd.nil aw8_b (by omega)).mono ?_
  rintro e w1 ⟨v1, rfl, hO⟩
  rw [aw8_ask] at hO ⊢
  simp only at hO
  rw [show aw20.length = 20 from rfl] at hO
  have hbel : Below w.heap.size w w1 := hO.below (fun k h => by cases h) (Nat.le_refl _)
  obtain ⟨g1, c1, hv1, hcp⟩ : ∃ g1 c1, v1 = .slice (some ⟨g1, 0, none⟩) 20 c1 ∧ 20 ≤ c1 := by
    rcases hO.own.2 with h2 | ⟨g, cap, cur, hv, hb, hg, hn, _⟩
    · omega
    · exact ⟨g, cap, hv, hn⟩
  subst hv1
  have hrd := Rd.of_own hO.own
  have H1 : Hd (Below w.heap.size w w1 ∧ Rd w1 w1.heap.size (some ⟨g1, 0, none⟩) 20 (cb aw20) ∧ 20 ≤ c1) := ⟨hbel, hrd, hcp⟩
  obtain ⟨gg, off, he, hlt, hcell⟩ := hrd.2 (by omega)
  injection he with he; injection he with he1 he2
  subst he1 he2
  have x0 : w1.cell? ⟨g1, 0, none⟩ = some (.int .u8 2) := by have := hcell 0 (by omega); simpa [cb, bv, aw20] using this
  have x1 : w1.cell? ⟨g1, 1, none⟩ = some (.int .u8 9) := by have := hcell 1 (by omega); simpa [cb, bv, aw20] using this
  have x7 : w1.cell? ⟨g1, 7, none⟩ = some (.int .u8 8) := by have := hcell 7 (by omega); simpa [cb, bv, aw20] using this
  have x8 : w1.cell? ⟨g1, 8, none⟩ = some (.int .u8 5) := by have := hcell 8 (by omega); simpa [cb, bv, aw20] using this
  clear hO hbel hcp hrd hcell hlt
  go_wp2_with fail
  refine (asks_new w1).mono ?_
  rintro e w2 ⟨rfl, hr2, hb2⟩
  have H2 := Hd.mk (And.intro hr2 (And.intro hb2 (H1.out.2.1.below (hb2.mono (Nat.le_refl _)))))
  clear hr2 hb2 x0 x1 x7 x8
  obtain ⟨gr, hgr⟩ : ∃ q, w1.heap.size = q := ⟨_, rfl⟩
  have HGR := Hd.mk hgr
  rw [hgr] at H2 ⊢
  clear hgr
  have s1 : (Instr.slice 26 (.slice (some ⟨g1, 0, none⟩) 20 c1) none (some (.int .i64 19)) none).run Try.prog w2 = .ok (.slice (some ⟨g1, 0, none⟩) 19 c1) w2 := run_cut_to elB _ 20 c1 19 (by have := H1.out.2.2; omega)
  have hrd19 : Hd (Rd w2 w2.heap.size (some ⟨g1, 0, none⟩) 19 (cb aw19)) := ⟨by
    have h1 := H2.out.2.2
    have h2 := H2.out.2.1.size
    have h3 := HGR.out
    refine ⟨rfl, fun _ => ?_⟩
    obtain ⟨gg, off, he, hlt, hcell⟩ := h1.2 (by omega)
    refine ⟨gg, off, he, by omega, fun i hi => ?_⟩
    rw [hcell i (by omega)]
    have : cb aw20 = cb aw19 ++ cb [107] := rfl
    rw [this, List.getElem?_append_left (by rw [show (cb aw19).length = 19 from rfl]; exact hi)]⟩
  go_wp2_with fail
  refine (push_any askK msgLaw_ask gr w2 gr (.slice none 0 0) (.slice none 0 0) (.slice none 0 0) [] mid0 0 [] [] H2.out.1 (some ⟨g1, 0, none⟩) 19 c1 aw19 hrd19.out (by decide) MidOk.zero (by simp)).mono ?_
  intro e w3 hp
  rw [aw19_go] at hp
  obtain ⟨vl3, vc3, vq3, L3, m3, C3, nw3, rfl, hr3, hm3, _, hc3, _⟩ := hp
  have hm3' : m3 = mid0 ∧ L3 = aw19 ∧ MidOk m3 := hm3 rfl
  obtain ⟨rfl, rfl, _⟩ := hm3'
  have hr3' : RdS askK gr w3 gr vl3 vc3 vq3 aw19 mid0.c mid0.s C3 mid0.k mid0.p 0 nw3 [] := hr3
  have hn3 : nw3 = [] := List.eq_nil_of_length_eq_zero hr3'.is.len
  subst hn3
  have hb3 : Below gr w2 w3 := hc3.below (by have := H2.out.1.lt; omega) fun y hy => (H2.out.1.ltX hy).1
  have H3 := Hd.mk (And.intro hr3' (And.intro hb3 (H2.out.2.2.below hb3)))
  clear hm3 hr3 hr3' hc3 hb3 hrd19 s1
  go_wp2_with fail
  refine (held_any askK gr w3 gr vl3 vc3 vq3 aw19 mid0.c mid0.s C3 mid0.k mid0.p 0 [] [] H3.out.1 ⟨fun _ => by decide⟩ (by decide)).mono ?_
  rintro e w4 ⟨rfl, hb4⟩
  rw [show (((if (0 : Int) = 0 then mid0.p + aw19.length else 0 : Nat)) : Int) = 19 from rfl]
  have hlt4 : gr ≤ w3.heap.size := by have := H3.out.1.lt; omega
  have H4 := Hd.mk (And.intro (H3.out.1.below hb4) (And.intro (H3.out.2.1.trans (hb4.mono hlt4)) (H3.out.2.2.below (hb4.mono hlt4))))
  have s2 : (Instr.slice 26 (.slice (some ⟨g1, 0, none⟩) 20 c1) (some (.int .i64 19)) none none).run Try.prog w4 = .ok (.slice (cutA (some ⟨g1, 0, none⟩) c1 19) 1 (c1 - 19)) w4 := run_cut_from elB _ 20 c1 19 (by omega)
  have hrd1 : Hd (Rd w4 w4.heap.size (cutA (some ⟨g1, 0, none⟩) c1 19) 1 (cb [107])) := ⟨(H4.out.2.2.cut (l := 19) (h := 20) (by omega) (by omega) H1.out.2.2).more (by have := H4.out.1.lt; omega)⟩
  clear hb4 hlt4 H3
  go_wp2_with fail
  refine (push_any askK msgLaw_ask gr w4 gr vl3 vc3 vq3 aw19 mid0 C3 [] [] H4.out.1 (cutA (some ⟨g1, 0, none⟩) c1 19) 1 (c1 - 19) [107] hrd1.out (by decide) MidOk.zero (by decide)).mono ?_
  intro e w5 hp
  rw [aw20_go] at hp
  obtain ⟨vl5, vc5, vq5, L5, m5, C5, nw5, rfl, hr5, hm5, _, hc5, _⟩ := hp
  have hm5' : m5 = mid0 ∧ L5 = [] ∧ MidOk m5 := hm5 rfl
  obtain ⟨rfl, rfl, _⟩ := hm5'
  have hr5' : RdS askK gr w5 gr vl5 vc5 vq5 [] mid0.c mid0.s C5 mid0.k mid0.p 0 nw5 [aw8] := hr5
  obtain ⟨vb, hn5⟩ : ∃ vb, nw5 = [rqW aw8 vb] := by
    have hl := hr5'.is.len
    have hi := hr5'.is
    rcases nw5 with _ | ⟨V, _ | ⟨V2, t⟩⟩
    · simp at hl
    · obtain ⟨vb, rfl⟩ : rqIs V aw8 := hi.1
      exact ⟨vb, rfl⟩
    · simp at hl
  subst hn5
  have hvb := (hr5'.ok (rqW aw8 vb) (by simp)) _ (List.mem_singleton.2 rfl)
  obtain ⟨Ab, cb5, hvb1, _⟩ := own_form hvb
  have hvb2 : vb = .slice Ab 0 cb5 := hvb1
  subst hvb2
  have hb5 : Below gr w4 w5 := hc5.below (by have := H4.out.1.lt; omega) fun y hy => (H4.out.1.ltX hy).1
  have H5 := Hd.mk (And.intro hr5' (H4.out.2.1.trans hb5))
  clear hm5 hr5 hr5' hc5 hb5 hrd1 s2 hvb hvb1 H4
  go_wp2_with fail
  refine (some_ask gr w5 gr vl5 vc5 vq5 [] mid0.c mid0.s C5 mid0.k mid0.p 0 (rqW aw8 (.slice Ab 0 cb5)) [] aw8 [] H5.out.1).mono ?_
  rintro e w6 ⟨rfl, vq6, hr6, hc6, _⟩
  have hcl : (rqW aw8 (.slice Ab 0 cb5)).cells.toArray = #[.int .i64 8, .int .u64 5, .string emS, .string emS, .int .i64 0, .int .i64 0, .int .i64 0, .slice Ab 0 cb5] := rfl
  rw [hcl]
  have hb6 : Below gr w5 w6 := hc6.below (by have := H5.out.1.lt; omega) fun y hy => by rw [List.mem_singleton.1 hy]; exact Nat.le_refl _
  have H6 : Hd (Below w.heap.size w w6) := ⟨by
    have h0 := H1.out.1.size
    have h1 := HGR.out
    exact ((H1.out.1.trans (H2.out.2.1.mono (by omega))).trans (H5.out.2.mono (by omega))).trans (hb6.mono (by omega))⟩
  clear hcl hb6 hr6 hc6 H5 H2 H1 HGR
  go_upto_region 8 with (refine at_store (x := .tmp 4) ?_; refine wpList_boxed rfl 28 (.tmp 4) (.tmp 67) rfl w6.heap.size rfl #[.int .i64 8, .int .u64 5, .string emS, .string emS, .int .i64 0, .int .i64 0, .int .i64 0, .slice Ab 0 cb5] rfl rfl infoRq8 rfl (by simp [Value.oneCell']) ?_; intro w7 hB7)
  obtain ⟨gb, hgb⟩ : ∃ q, w6.heap.size = q := ⟨_, rfl⟩
  have HB7 : Hd (w7.heap[gb]? = some (.cells #[.int .i64 8, .int .u64 5, .string emS, .string emS, .int .i64 0, .int .i64 0, .int .i64 0, .slice Ab 0 cb5] 28) ∧ Below w.heap.size w w7) := ⟨by rw [← hgb]; exact hB7.out.1, H6.out.trans (hB7.out.2.1.mono H6.out.size)⟩
  rw [hgb]
  have y0 : w7.cell? ⟨gb, 0, none⟩ = some (.int .i64 8) := by rw [cell_of_row _ gb 0 _ _ (0, 0) HB7.out.1]; rfl
  have y1 : w7.cell? ⟨gb, 1, none⟩ = some (.int .u64 5) := by rw [cell_of_row _ gb 1 _ _ (0, 0) HB7.out.1]; rfl
  clear hgb hB7 H6
  go_wp2_with fail
  go_ret
  exact ⟨rfl, HB7.out.2⟩
end Go.Proofs.Ytbcmjjcbjojakaa
end
section
/- Contracts of equal, equalAnswers: what is the same is said to be so. (tools/equalgen.py prints it.) -/
namespace Go.Proofs.Ytbcmjjcbjojakaa
open Go.RowKit
set_option linter.unusedVariables false
set_option linter.unusedSimpArgs false
set_option maxRecDepth 20000 in
set_option maxHeartbeats 4000000 in
theorem equal_any (w : World) (k : Int) (tag : Nat) (key after : ByteArray) (off num delim : Int) (body : List Nat) (A A' : Option Addr) (n n' c c' B : Nat) (h1 : Rd w B A n (cb body)) (h2 : Rd w B A' n' (cb body)) (hB : B ≤ w.heap.size) :
    Calls Try.prog 31 #[.agg #[.int .i64 k, .int .u64 (tag : Int), .string key, .string after, .int .i64 off, .int .i64 num, .int .i64 delim, .slice A n c], .agg #[.int .i64 k, .int .u64 (tag : Int), .string key, .string after, .int .i64 off, .int .i64 num, .int .i64 delim, .slice A' n' c']] w fun e w' => e = .returned (.bool true) ∧ Below w.heap.size w w' := by
  obtain ⟨S, hS⟩ : ∃ S, bstr body = S := ⟨_, rfl⟩
  have HH := Hd.mk (And.intro h1 (And.intro h2 (And.intro hB hS)))
  clear h1 h2 hB hS
  go_enter Try.func31, Try.ntmps31
  go_upto_region 1 with fail
  obtain ⟨W, hW⟩ : ∃ W, (w.alloc (.cells #[.int .i64 k, .int .u64 (tag : Int), .string key, .string after, .int .i64 off, .int .i64 num, .int .i64 delim, .slice A n c] 28)).alloc (.cells #[.int .i64 k, .int .u64 (tag : Int), .string key, .string after, .int .i64 off, .int .i64 num, .int .i64 delim, .slice A' n' c'] 28) = W := ⟨_, rfl⟩
  obtain ⟨g, hg⟩ : ∃ g, w.heap.size = g := ⟨_, rfl⟩
  have hb : Below w.heap.size w W := by rw [← hW]; exact ((Below.refl _ w).alloc (Nat.le_refl _) _).alloc (by simp) _
  have hg1 : W.heap[g]? = some (.cells #[.int .i64 k, .int .u64 (tag : Int), .string key, .string after, .int .i64 off, .int .i64 num, .int .i64 delim, .slice A n c] 28) := by rw [← hW, ← hg, heap_alloc_old _ _ (by simp)]; exact heap_alloc_new w _
  have hg2 : W.heap[g + 1]? = some (.cells #[.int .i64 k, .int .u64 (tag : Int), .string key, .string after, .int .i64 off, .int .i64 num, .int .i64 delim, .slice A' n' c'] 28) := by rw [← hW, ← hg]; have h := heap_alloc_new (w.alloc (.cells #[.int .i64 k, .int .u64 (tag : Int), .string key, .string after, .int .i64 off, .int .i64 num, .int .i64 delim, .slice A n c] 28)) (.cells #[.int .i64 k, .int .u64 (tag : Int), .string key, .string after, .int .i64 off, .int .i64 num, .int .i64 delim, .slice A' n' c'] 28); simpa using h
  rw [hW]
  (try rw [hg])
  have f1 : (convert 26 9 (.slice A n c)).run Try.prog W = .ok (.string S) W := by rw [← HH.out.2.2.2]; exact conv_any (HH.out.1.below (hb.mono HH.out.2.2.1))
  have f2 : (convert 26 9 (.slice A' n' c')).run Try.prog W = .ok (.string S) W := by rw [← HH.out.2.2.2]; exact conv_any (HH.out.2.1.below (hb.mono HH.out.2.2.1))
  have c0 : W.cell? ⟨g, 0, none⟩ = some (.int .i64 k) := by rw [cell_of_row W g 0 _ _ (0, 0) hg1]; rfl
  have c1 : W.cell? ⟨g, 1, none⟩ = some (.int .u64 (tag : Int)) := by rw [cell_of_row W g 1 _ _ (0, 0) hg1]; rfl
  have c2 : W.cell? ⟨g, 2, none⟩ = some (.string key) := by rw [cell_of_row W g 2 _ _ (0, 0) hg1]; rfl
  have c3 : W.cell? ⟨g, 3, none⟩ = some (.string after) := by rw [cell_of_row W g 3 _ _ (0, 0) hg1]; rfl
  have c4 : W.cell? ⟨g, 4, none⟩ = some (.int .i64 off) := by rw [cell_of_row W g 4 _ _ (0, 0) hg1]; rfl
  have c5 : W.cell? ⟨g, 5, none⟩ = some (.int .i64 num) := by rw [cell_of_row W g 5 _ _ (0, 0) hg1]; rfl
  have c6 : W.cell? ⟨g, 6, none⟩ = some (.int .i64 delim) := by rw [cell_of_row W g 6 _ _ (0, 0) hg1]; rfl
  have c7 : W.cell? ⟨g, 7, none⟩ = some (.slice A n c) := by rw [cell_of_row W g 7 _ _ (0, 0) hg1]; rfl
  have d0 : W.cell? ⟨g + 1, 0, none⟩ = some (.int .i64 k) := by rw [cell_of_row W (g + 1) 0 _ _ (0, 0) hg2]; rfl
  have d1 : W.cell? ⟨g + 1, 1, none⟩ = some (.int .u64 (tag : Int)) := by rw [cell_of_row W (g + 1) 1 _ _ (0, 0) hg2]; rfl
  have d2 : W.cell? ⟨g + 1, 2, none⟩ = some (.string key) := by rw [cell_of_row W (g + 1) 2 _ _ (0, 0) hg2]; rfl
  have d3 : W.cell? ⟨g + 1, 3, none⟩ = some (.string after) := by rw [cell_of_row W (g + 1) 3 _ _ (0, 0) hg2]; rfl
  have d4 : W.cell? ⟨g + 1, 4, none⟩ = some (.int .i64 off) := by rw [cell_of_row W (g + 1) 4 _ _ (0, 0) hg2]; rfl
  have d5 : W.cell? ⟨g + 1, 5, none⟩ = some (.int .i64 num) := by rw [cell_of_row W (g + 1) 5 _ _ (0, 0) hg2]; rfl
  have d6 : W.cell? ⟨g + 1, 6, none⟩ = some (.int .i64 delim) := by rw [cell_of_row W (g + 1) 6 _ _ (0, 0) hg2]; rfl
  have d7 : W.cell? ⟨g + 1, 7, none⟩ = some (.slice A' n' c') := by rw [cell_of_row W (g + 1) 7 _ _ (0, 0) hg2]; rfl
  have HB := Hd.mk hb
  clear hW hg hb hg1 hg2 HH
  go_wp2_with fail
  all_goals
    go_ret
    clear f1 f2
    refine ⟨ret_bool ?_, HB.out⟩
    first | rfl | (simp; done)
set_option maxRecDepth 20000 in
set_option maxHeartbeats 8000000 in
theorem equalAn_any (w : World) (k : Int) (tag : Nat) (code : Int) (next : ByteArray) (more : Bool) (ge gc size h1 h2 h3 h4 : Int) (body : List Nat) (keys groups : List ByteArray) (A1 B1 A2 B2 A3 B3 : Option Addr) (n1 m1 c1 d1 n2 c2 d2 n3 c3 d3 B : Nat) (q1 : Rd w B A1 n1 (cb body)) (q2 : Rd w B B1 m1 (cb body)) (q3 : Rd w B A2 n2 (cs keys)) (q4 : Rd w B B2 n2 (cs keys)) (q5 : Rd w B A3 n3 (cs groups)) (q6 : Rd w B B3 n3 (cs groups)) (hB : B ≤ w.heap.size) (k1 : n2 ≤ 8796093022000) (k2 : n3 ≤ 8796093022000) :
    Calls Try.prog 32 #[.agg #[.int .i64 k, .int .u64 (tag : Int), .int .i64 code, .slice A1 n1 c1, .slice A2 n2 c2, .slice A3 n3 c3, .string next, .bool more, .int .i64 ge, .int .i64 gc, .int .i64 size, .int .i64 h1, .int .i64 h2, .int .i64 h3, .int .i64 h4], .agg #[.int .i64 k, .int .u64 (tag : Int), .int .i64 code, .slice B1 m1 d1, .slice B2 n2 d2, .slice B3 n3 d3, .string next, .bool more, .int .i64 ge, .int .i64 gc, .int .i64 size, .int .i64 h1, .int .i64 h2, .int .i64 h3, .int .i64 h4]] w fun e w' => e = .returned (.bool true) ∧ Below w.heap.size w w' := by
  obtain ⟨S, hS⟩ : ∃ S, bstr body = S := ⟨_, rfl⟩
  have HH := Hd.mk (And.intro q1 (And.intro q2 (And.intro q3 (And.intro q4 (And.intro q5 (And.intro q6 (And.intro hB hS)))))))
  clear q1 q2 q3 q4 q5 q6 hB hS
  obtain ⟨W, hW⟩ : ∃ W, (w.alloc (.cells #[.int .i64 k, .int .u64 (tag : Int), .int .i64 code, .slice A1 n1 c1, .slice A2 n2 c2, .slice A3 n3 c3, .string next, .bool more, .int .i64 ge, .int .i64 gc, .int .i64 size, .int .i64 h1, .int .i64 h2, .int .i64 h3, .int .i64 h4] 43)).alloc (.cells #[.int .i64 k, .int .u64 (tag : Int), .int .i64 code, .slice B1 m1 d1, .slice B2 n2 d2, .slice B3 n3 d3, .string next, .bool more, .int .i64 ge, .int .i64 gc, .int .i64 size, .int .i64 h1, .int .i64 h2, .int .i64 h3, .int .i64 h4] 43) = W := ⟨_, rfl⟩
  obtain ⟨g, hg⟩ : ∃ g, w.heap.size = g := ⟨_, rfl⟩
  have hb : Below w.heap.size w W := by rw [← hW]; exact ((Below.refl _ w).alloc (Nat.le_refl _) _).alloc (by simp) _
  have hg1 : W.heap[g]? = some (.cells #[.int .i64 k, .int .u64 (tag : Int), .int .i64 code, .slice A1 n1 c1, .slice A2 n2 c2, .slice A3 n3 c3, .string next, .bool more, .int .i64 ge, .int .i64 gc, .int .i64 size, .int .i64 h1, .int .i64 h2, .int .i64 h3, .int .i64 h4] 43) := by rw [← hW, ← hg, heap_alloc_old _ _ (by simp)]; exact heap_alloc_new w _
  have hg2 : W.heap[g + 1]? = some (.cells #[.int .i64 k, .int .u64 (tag : Int), .int .i64 code, .slice B1 m1 d1, .slice B2 n2 d2, .slice B3 n3 d3, .string next, .bool more, .int .i64 ge, .int .i64 gc, .int .i64 size, .int .i64 h1, .int .i64 h2, .int .i64 h3, .int .i64 h4] 43) := by rw [← hW, ← hg]; have h := heap_alloc_new (w.alloc (.cells #[.int .i64 k, .int .u64 (tag : Int), .int .i64 code, .slice A1 n1 c1, .slice A2 n2 c2, .slice A3 n3 c3, .string next, .bool more, .int .i64 ge, .int .i64 gc, .int .i64 size, .int .i64 h1, .int .i64 h2, .int .i64 h3, .int .i64 h4] 43)) (.cells #[.int .i64 k, .int .u64 (tag : Int), .int .i64 code, .slice B1 m1 d1, .slice B2 n2 d2, .slice B3 n3 d3, .string next, .bool more, .int .i64 ge, .int .i64 gc, .int .i64 size, .int .i64 h1, .int .i64 h2, .int .i64 h3, .int .i64 h4] 43); simpa using h
  have HG := Hd.mk (And.intro hg1 (And.intro hg2 hb))
  clear hg1 hg2 hb
  go_enter Try.func32, Try.ntmps32
  go_upto_region 1 with fail
  (try rw [hW])
  (try rw [hg])
  clear hW hg
  have f1 : (convert 26 9 (.slice A1 n1 c1)).run Try.prog W = .ok (.string S) W := by rw [← HH.out.2.2.2.2.2.2.2]; exact conv_any (HH.out.1.below (HG.out.2.2.mono HH.out.2.2.2.2.2.2.1))
  have f2 : (convert 26 9 (.slice B1 m1 d1)).run Try.prog W = .ok (.string S) W := by rw [← HH.out.2.2.2.2.2.2.2]; exact conv_any (HH.out.2.1.below (HG.out.2.2.mono HH.out.2.2.2.2.2.2.1))
  have ca0 : W.cell? ⟨g, 0, none⟩ = some (.int .i64 k) := by rw [cell_of_row W g 0 _ _ (0, 0) HG.out.1]; rfl
  have ca1 : W.cell? ⟨g, 1, none⟩ = some (.int .u64 (tag : Int)) := by rw [cell_of_row W g 1 _ _ (0, 0) HG.out.1]; rfl
  have ca2 : W.cell? ⟨g, 2, none⟩ = some (.int .i64 code) := by rw [cell_of_row W g 2 _ _ (0, 0) HG.out.1]; rfl
  have ca3 : W.cell? ⟨g, 3, none⟩ = some (.slice A1 n1 c1) := by rw [cell_of_row W g 3 _ _ (0, 0) HG.out.1]; rfl
  have ca4 : W.cell? ⟨g, 4, none⟩ = some (.slice A2 n2 c2) := by rw [cell_of_row W g 4 _ _ (0, 0) HG.out.1]; rfl
  have ca5 : W.cell? ⟨g, 5, none⟩ = some (.slice A3 n3 c3) := by rw [cell_of_row W g 5 _ _ (0, 0) HG.out.1]; rfl
  have ca6 : W.cell? ⟨g, 6, none⟩ = some (.string next) := by rw [cell_of_row W g 6 _ _ (0, 0) HG.out.1]; rfl
  have ca7 : W.cell? ⟨g, 7, none⟩ = some (.bool more) := by rw [cell_of_row W g 7 _ _ (0, 0) HG.out.1]; rfl
  have ca8 : W.cell? ⟨g, 8, none⟩ = some (.int .i64 ge) := by rw [cell_of_row W g 8 _ _ (0, 0) HG.out.1]; rfl
  have ca9 : W.cell? ⟨g, 9, none⟩ = some (.int .i64 gc) := by rw [cell_of_row W g 9 _ _ (0, 0) HG.out.1]; rfl
  have ca10 : W.cell? ⟨g, 10, none⟩ = some (.int .i64 size) := by rw [cell_of_row W g 10 _ _ (0, 0) HG.out.1]; rfl
  have ca11 : W.cell? ⟨g, 11, none⟩ = some (.int .i64 h1) := by rw [cell_of_row W g 11 _ _ (0, 0) HG.out.1]; rfl
  have ca12 : W.cell? ⟨g, 12, none⟩ = some (.int .i64 h2) := by rw [cell_of_row W g 12 _ _ (0, 0) HG.out.1]; rfl
  have ca13 : W.cell? ⟨g, 13, none⟩ = some (.int .i64 h3) := by rw [cell_of_row W g 13 _ _ (0, 0) HG.out.1]; rfl
  have ca14 : W.cell? ⟨g, 14, none⟩ = some (.int .i64 h4) := by rw [cell_of_row W g 14 _ _ (0, 0) HG.out.1]; rfl
  have da0 : W.cell? ⟨g + 1, 0, none⟩ = some (.int .i64 k) := by rw [cell_of_row W (g + 1) 0 _ _ (0, 0) HG.out.2.1]; rfl
  have da1 : W.cell? ⟨g + 1, 1, none⟩ = some (.int .u64 (tag : Int)) := by rw [cell_of_row W (g + 1) 1 _ _ (0, 0) HG.out.2.1]; rfl
  have da2 : W.cell? ⟨g + 1, 2, none⟩ = some (.int .i64 code) := by rw [cell_of_row W (g + 1) 2 _ _ (0, 0) HG.out.2.1]; rfl
  have da3 : W.cell? ⟨g + 1, 3, none⟩ = some (.slice B1 m1 d1) := by rw [cell_of_row W (g + 1) 3 _ _ (0, 0) HG.out.2.1]; rfl
  have da4 : W.cell? ⟨g + 1, 4, none⟩ = some (.slice B2 n2 d2) := by rw [cell_of_row W (g + 1) 4 _ _ (0, 0) HG.out.2.1]; rfl
  have da5 : W.cell? ⟨g + 1, 5, none⟩ = some (.slice B3 n3 d3) := by rw [cell_of_row W (g + 1) 5 _ _ (0, 0) HG.out.2.1]; rfl
  have da6 : W.cell? ⟨g + 1, 6, none⟩ = some (.string next) := by rw [cell_of_row W (g + 1) 6 _ _ (0, 0) HG.out.2.1]; rfl
  have da7 : W.cell? ⟨g + 1, 7, none⟩ = some (.bool more) := by rw [cell_of_row W (g + 1) 7 _ _ (0, 0) HG.out.2.1]; rfl
  have da8 : W.cell? ⟨g + 1, 8, none⟩ = some (.int .i64 ge) := by rw [cell_of_row W (g + 1) 8 _ _ (0, 0) HG.out.2.1]; rfl
  have da9 : W.cell? ⟨g + 1, 9, none⟩ = some (.int .i64 gc) := by rw [cell_of_row W (g + 1) 9 _ _ (0, 0) HG.out.2.1]; rfl
  have da10 : W.cell? ⟨g + 1, 10, none⟩ = some (.int .i64 size) := by rw [cell_of_row W (g + 1) 10 _ _ (0, 0) HG.out.2.1]; rfl
  have da11 : W.cell? ⟨g + 1, 11, none⟩ = some (.int .i64 h1) := by rw [cell_of_row W (g + 1) 11 _ _ (0, 0) HG.out.2.1]; rfl
  have da12 : W.cell? ⟨g + 1, 12, none⟩ = some (.int .i64 h2) := by rw [cell_of_row W (g + 1) 12 _ _ (0, 0) HG.out.2.1]; rfl
  have da13 : W.cell? ⟨g + 1, 13, none⟩ = some (.int .i64 h3) := by rw [cell_of_row W (g + 1) 13 _ _ (0, 0) HG.out.2.1]; rfl
  have da14 : W.cell? ⟨g + 1, 14, none⟩ = some (.int .i64 h4) := by rw [cell_of_row W (g + 1) 14 _ _ (0, 0) HG.out.2.1]; rfl
  go_wp2_with fail
  refine (sameTexts_any W A2 B2 n2 c2 d2 B keys (HH.out.2.2.1.below (HG.out.2.2.mono HH.out.2.2.2.2.2.2.1)) (HH.out.2.2.2.1.below (HG.out.2.2.mono HH.out.2.2.2.2.2.2.1)) k1).mono ?_
  rintro e W1 ⟨rfl, hb1⟩
  have lt2 : g + 1 < W.heap.size := (Array.getElem?_eq_some_iff.1 HG.out.2.1).1
  have HG' : Hd (W1.heap[g]? = some (.cells #[.int .i64 k, .int .u64 (tag : Int), .int .i64 code, .slice A1 n1 c1, .slice A2 n2 c2, .slice A3 n3 c3, .string next, .bool more, .int .i64 ge, .int .i64 gc, .int .i64 size, .int .i64 h1, .int .i64 h2, .int .i64 h3, .int .i64 h4] 43) ∧ W1.heap[g + 1]? = some (.cells #[.int .i64 k, .int .u64 (tag : Int), .int .i64 code, .slice B1 m1 d1, .slice B2 n2 d2, .slice B3 n3 d3, .string next, .bool more, .int .i64 ge, .int .i64 gc, .int .i64 size, .int .i64 h1, .int .i64 h2, .int .i64 h3, .int .i64 h4] 43) ∧ Below w.heap.size w W1) := ⟨by rw [hb1.block g (by omega)]; exact HG.out.1, by rw [hb1.block (g + 1) lt2]; exact HG.out.2.1, HG.out.2.2.trans (hb1.mono HG.out.2.2.size)⟩
  clear HG hb1 lt2 f1 f2 ca0 da0 ca1 da1 ca2 da2 ca3 da3 ca4 da4 ca5 da5 ca6 da6 ca7 da7 ca8 da8 ca9 da9 ca10 da10 ca11 da11 ca12 da12 ca13 da13 ca14 da14
  have HG := HG'
  clear HG'
  have ca0 : W1.cell? ⟨g, 0, none⟩ = some (.int .i64 k) := by rw [cell_of_row W1 g 0 _ _ (0, 0) HG.out.1]; rfl
  have ca1 : W1.cell? ⟨g, 1, none⟩ = some (.int .u64 (tag : Int)) := by rw [cell_of_row W1 g 1 _ _ (0, 0) HG.out.1]; rfl
  have ca2 : W1.cell? ⟨g, 2, none⟩ = some (.int .i64 code) := by rw [cell_of_row W1 g 2 _ _ (0, 0) HG.out.1]; rfl
  have ca3 : W1.cell? ⟨g, 3, none⟩ = some (.slice A1 n1 c1) := by rw [cell_of_row W1 g 3 _ _ (0, 0) HG.out.1]; rfl
  have ca4 : W1.cell? ⟨g, 4, none⟩ = some (.slice A2 n2 c2) := by rw [cell_of_row W1 g 4 _ _ (0, 0) HG.out.1]; rfl
  have ca5 : W1.cell? ⟨g, 5, none⟩ = some (.slice A3 n3 c3) := by rw [cell_of_row W1 g 5 _ _ (0, 0) HG.out.1]; rfl
  have ca6 : W1.cell? ⟨g, 6, none⟩ = some (.string next) := by rw [cell_of_row W1 g 6 _ _ (0, 0) HG.out.1]; rfl
  have ca7 : W1.cell? ⟨g, 7, none⟩ = some (.bool more) := by rw [cell_of_row W1 g 7 _ _ (0, 0) HG.out.1]; rfl
  have ca8 : W1.cell? ⟨g, 8, none⟩ = some (.int .i64 ge) := by rw [cell_of_row W1 g 8 _ _ (0, 0) HG.out.1]; rfl
  have ca9 : W1.cell? ⟨g, 9, none⟩ = some (.int .i64 gc) := by rw [cell_of_row W1 g 9 _ _ (0, 0) HG.out.1]; rfl
  have ca10 : W1.cell? ⟨g, 10, none⟩ = some (.int .i64 size) := by rw [cell_of_row W1 g 10 _ _ (0, 0) HG.out.1]; rfl
  have ca11 : W1.cell? ⟨g, 11, none⟩ = some (.int .i64 h1) := by rw [cell_of_row W1 g 11 _ _ (0, 0) HG.out.1]; rfl
  have ca12 : W1.cell? ⟨g, 12, none⟩ = some (.int .i64 h2) := by rw [cell_of_row W1 g 12 _ _ (0, 0) HG.out.1]; rfl
  have ca13 : W1.cell? ⟨g, 13, none⟩ = some (.int .i64 h3) := by rw [cell_of_row W1 g 13 _ _ (0, 0) HG.out.1]; rfl
  have ca14 : W1.cell? ⟨g, 14, none⟩ = some (.int .i64 h4) := by rw [cell_of_row W1 g 14 _ _ (0, 0) HG.out.1]; rfl
  have da0 : W1.cell? ⟨g + 1, 0, none⟩ = some (.int .i64 k) := by rw [cell_of_row W1 (g + 1) 0 _ _ (0, 0) HG.out.2.1]; rfl
  have da1 : W1.cell? ⟨g + 1, 1, none⟩ = some (.int .u64 (tag : Int)) := by rw [cell_of_row W1 (g + 1) 1 _ _ (0, 0) HG.out.2.1]; rfl
  have da2 : W1.cell? ⟨g + 1, 2, none⟩ = some (.int .i64 code) := by rw [cell_of_row W1 (g + 1) 2 _ _ (0, 0) HG.out.2.1]; rfl
  have da3 : W1.cell? ⟨g + 1, 3, none⟩ = some (.slice B1 m1 d1) := by rw [cell_of_row W1 (g + 1) 3 _ _ (0, 0) HG.out.2.1]; rfl
  have da4 : W1.cell? ⟨g + 1, 4, none⟩ = some (.slice B2 n2 d2) := by rw [cell_of_row W1 (g + 1) 4 _ _ (0, 0) HG.out.2.1]; rfl
  have da5 : W1.cell? ⟨g + 1, 5, none⟩ = some (.slice B3 n3 d3) := by rw [cell_of_row W1 (g + 1) 5 _ _ (0, 0) HG.out.2.1]; rfl
  have da6 : W1.cell? ⟨g + 1, 6, none⟩ = some (.string next) := by rw [cell_of_row W1 (g + 1) 6 _ _ (0, 0) HG.out.2.1]; rfl
  have da7 : W1.cell? ⟨g + 1, 7, none⟩ = some (.bool more) := by rw [cell_of_row W1 (g + 1) 7 _ _ (0, 0) HG.out.2.1]; rfl
  have da8 : W1.cell? ⟨g + 1, 8, none⟩ = some (.int .i64 ge) := by rw [cell_of_row W1 (g + 1) 8 _ _ (0, 0) HG.out.2.1]; rfl
  have da9 : W1.cell? ⟨g + 1, 9, none⟩ = some (.int .i64 gc) := by rw [cell_of_row W1 (g + 1) 9 _ _ (0, 0) HG.out.2.1]; rfl
  have da10 : W1.cell? ⟨g + 1, 10, none⟩ = some (.int .i64 size) := by rw [cell_of_row W1 (g + 1) 10 _ _ (0, 0) HG.out.2.1]; rfl
  have da11 : W1.cell? ⟨g + 1, 11, none⟩ = some (.int .i64 h1) := by rw [cell_of_row W1 (g + 1) 11 _ _ (0, 0) HG.out.2.1]; rfl
  have da12 : W1.cell? ⟨g + 1, 12, none⟩ = some (.int .i64 h2) := by rw [cell_of_row W1 (g + 1) 12 _ _ (0, 0) HG.out.2.1]; rfl
  have da13 : W1.cell? ⟨g + 1, 13, none⟩ = some (.int .i64 h3) := by rw [cell_of_row W1 (g + 1) 13 _ _ (0, 0) HG.out.2.1]; rfl
  have da14 : W1.cell? ⟨g + 1, 14, none⟩ = some (.int .i64 h4) := by rw [cell_of_row W1 (g + 1) 14 _ _ (0, 0) HG.out.2.1]; rfl
  go_wp2_with fail
  refine (sameTexts_any W1 A3 B3 n3 c3 d3 B groups (HH.out.2.2.2.2.1.below (HG.out.2.2.mono HH.out.2.2.2.2.2.2.1)) (HH.out.2.2.2.2.2.1.below (HG.out.2.2.mono HH.out.2.2.2.2.2.2.1)) k2).mono ?_
  rintro e W2 ⟨rfl, hb1⟩
  have lt2 : g + 1 < W1.heap.size := (Array.getElem?_eq_some_iff.1 HG.out.2.1).1
  have HG' : Hd (W2.heap[g]? = some (.cells #[.int .i64 k, .int .u64 (tag : Int), .int .i64 code, .slice A1 n1 c1, .slice A2 n2 c2, .slice A3 n3 c3, .string next, .bool more, .int .i64 ge, .int .i64 gc, .int .i64 size, .int .i64 h1, .int .i64 h2, .int .i64 h3, .int .i64 h4] 43) ∧ W2.heap[g + 1]? = some (.cells #[.int .i64 k, .int .u64 (tag : Int), .int .i64 code, .slice B1 m1 d1, .slice B2 n2 d2, .slice B3 n3 d3, .string next, .bool more, .int .i64 ge, .int .i64 gc, .int .i64 size, .int .i64 h1, .int .i64 h2, .int .i64 h3, .int .i64 h4] 43) ∧ Below w.heap.size w W2) := ⟨by rw [hb1.block g (by omega)]; exact HG.out.1, by rw [hb1.block (g + 1) lt2]; exact HG.out.2.1, HG.out.2.2.trans (hb1.mono HG.out.2.2.size)⟩
  clear HG hb1 lt2 ca0 da0 ca1 da1 ca2 da2 ca3 da3 ca4 da4 ca5 da5 ca6 da6 ca7 da7 ca8 da8 ca9 da9 ca10 da10 ca11 da11 ca12 da12 ca13 da13 ca14 da14
  have HG := HG'
  clear HG'
  have ca0 : W2.cell? ⟨g, 0, none⟩ = some (.int .i64 k) := by rw [cell_of_row W2 g 0 _ _ (0, 0) HG.out.1]; rfl
  have ca1 : W2.cell? ⟨g, 1, none⟩ = some (.int .u64 (tag : Int)) := by rw [cell_of_row W2 g 1 _ _ (0, 0) HG.out.1]; rfl
  have ca2 : W2.cell? ⟨g, 2, none⟩ = some (.int .i64 code) := by rw [cell_of_row W2 g 2 _ _ (0, 0) HG.out.1]; rfl
  have ca3 : W2.cell? ⟨g, 3, none⟩ = some (.slice A1 n1 c1) := by rw [cell_of_row W2 g 3 _ _ (0, 0) HG.out.1]; rfl
  have ca4 : W2.cell? ⟨g, 4, none⟩ = some (.slice A2 n2 c2) := by rw [cell_of_row W2 g 4 _ _ (0, 0) HG.out.1]; rfl
  have ca5 : W2.cell? ⟨g, 5, none⟩ = some (.slice A3 n3 c3) := by rw [cell_of_row W2 g 5 _ _ (0, 0) HG.out.1]; rfl
  have ca6 : W2.cell? ⟨g, 6, none⟩ = some (.string next) := by rw [cell_of_row W2 g 6 _ _ (0, 0) HG.out.1]; rfl
  have ca7 : W2.cell? ⟨g, 7, none⟩ = some (.bool more) := by rw [cell_of_row W2 g 7 _ _ (0, 0) HG.out.1]; rfl
  have ca8 : W2.cell? ⟨g, 8, none⟩ = some (.int .i64 ge) := by rw [cell_of_row W2 g 8 _ _ (0, 0) HG.out.1]; rfl
  have ca9 : W2.cell? ⟨g, 9, none⟩ = some (.int .i64 gc) := by rw [cell_of_row W2 g 9 _ _ (0, 0) HG.out.1]; rfl
  have ca10 : W2.cell? ⟨g, 10, none⟩ = some (.int .i64 size) := by rw [cell_of_row W2 g 10 _ _ (0, 0) HG.out.1]; rfl
  have ca11 : W2.cell? ⟨g, 11, none⟩ = some (.int .i64 h1) := by rw [cell_of_row W2 g 11 _ _ (0, 0) HG.out.1]; rfl
  have ca12 : W2.cell? ⟨g, 12, none⟩ = some (.int .i64 h2) := by rw [cell_of_row W2 g 12 _ _ (0, 0) HG.out.1]; rfl
  have ca13 : W2.cell? ⟨g, 13, none⟩ = some (.int .i64 h3) := by rw [cell_of_row W2 g 13 _ _ (0, 0) HG.out.1]; rfl
  have ca14 : W2.cell? ⟨g, 14, none⟩ = some (.int .i64 h4) := by rw [cell_of_row W2 g 14 _ _ (0, 0) HG.out.1]; rfl
  have da0 : W2.cell? ⟨g + 1, 0, none⟩ = some (.int .i64 k) := by rw [cell_of_row W2 (g + 1) 0 _ _ (0, 0) HG.out.2.1]; rfl
  have da1 : W2.cell? ⟨g + 1, 1, none⟩ = some (.int .u64 (tag : Int)) := by rw [cell_of_row W2 (g + 1) 1 _ _ (0, 0) HG.out.2.1]; rfl
  have da2 : W2.cell? ⟨g + 1, 2, none⟩ = some (.int .i64 code) := by rw [cell_of_row W2 (g + 1) 2 _ _ (0, 0) HG.out.2.1]; rfl
  have da3 : W2.cell? ⟨g + 1, 3, none⟩ = some (.slice B1 m1 d1) := by rw [cell_of_row W2 (g + 1) 3 _ _ (0, 0) HG.out.2.1]; rfl
  have da4 : W2.cell? ⟨g + 1, 4, none⟩ = some (.slice B2 n2 d2) := by rw [cell_of_row W2 (g + 1) 4 _ _ (0, 0) HG.out.2.1]; rfl
  have da5 : W2.cell? ⟨g + 1, 5, none⟩ = some (.slice B3 n3 d3) := by rw [cell_of_row W2 (g + 1) 5 _ _ (0, 0) HG.out.2.1]; rfl
  have da6 : W2.cell? ⟨g + 1, 6, none⟩ = some (.string next) := by rw [cell_of_row W2 (g + 1) 6 _ _ (0, 0) HG.out.2.1]; rfl
  have da7 : W2.cell? ⟨g + 1, 7, none⟩ = some (.bool more) := by rw [cell_of_row W2 (g + 1) 7 _ _ (0, 0) HG.out.2.1]; rfl
  have da8 : W2.cell? ⟨g + 1, 8, none⟩ = some (.int .i64 ge) := by rw [cell_of_row W2 (g + 1) 8 _ _ (0, 0) HG.out.2.1]; rfl
  have da9 : W2.cell? ⟨g + 1, 9, none⟩ = some (.int .i64 gc) := by rw [cell_of_row W2 (g + 1) 9 _ _ (0, 0) HG.out.2.1]; rfl
  have da10 : W2.cell? ⟨g + 1, 10, none⟩ = some (.int .i64 size) := by rw [cell_of_row W2 (g + 1) 10 _ _ (0, 0) HG.out.2.1]; rfl
  have da11 : W2.cell? ⟨g + 1, 11, none⟩ = some (.int .i64 h1) := by rw [cell_of_row W2 (g + 1) 11 _ _ (0, 0) HG.out.2.1]; rfl
  have da12 : W2.cell? ⟨g + 1, 12, none⟩ = some (.int .i64 h2) := by rw [cell_of_row W2 (g + 1) 12 _ _ (0, 0) HG.out.2.1]; rfl
  have da13 : W2.cell? ⟨g + 1, 13, none⟩ = some (.int .i64 h3) := by rw [cell_of_row W2 (g + 1) 13 _ _ (0, 0) HG.out.2.1]; rfl
  have da14 : W2.cell? ⟨g + 1, 14, none⟩ = some (.int .i64 h4) := by rw [cell_of_row W2 (g + 1) 14 _ _ (0, 0) HG.out.2.1]; rfl
  go_wp2_with fail
  all_goals
    go_ret
    refine ⟨ret_bool ?_, HG.out.2.2⟩
    first | rfl | (simp; done)
end Go.Proofs.Ytbcmjjcbjojakaa
end
section
/- The walk of WireCuts: it returns true. (tools/cutsgen.py prints it.) -/
namespace Go.Proofs.Ytbcmjjcbjojakaa
open Go.RowKit
set_option linter.unusedVariables false
set_option linter.unusedSimpArgs false
theorem Wms_get {size : Nat} : ∀ {ws : List Wm} {i j : Nat} {W : Wm}, (∀ V ∈ ws, V.cells.length = size ∧ ∀ u ∈ V.cells, u.oneCell' = true) → ws[i]? = some W → j < size → (Wms ws)[i * size + j]? = W.cells[j]?
  | [], i, j, W, _, h, _ => by simp at h
  | V :: ws, i, j, W, hw, h, hj => by
    have hl := (hw V (by simp)).1
    have e1 : Wms (V :: ws) = V.cells ++ Wms ws := by unfold Wms; rw [List.flatMap_cons]
    rw [e1]
    cases i with
    | zero =>
      simp only [List.getElem?_cons_zero, Option.some.injEq] at h
      subst h
      rw [Nat.zero_mul, Nat.zero_add, List.getElem?_append_left (by omega)]
    | succ i =>
      simp only [List.getElem?_cons_succ] at h
      rw [Nat.add_mul, Nat.one_mul, List.getElem?_append_right (by omega), hl, show i * size + size + j - size = i * size + j by omega]
      exact Wms_get (fun U hU => hw U (List.mem_cons_of_mem _ hU)) h hj
theorem Que.nth {w : World} {base e size : Nat} {v : Value} {ws : List Wm} {W : Wm} {i : Nat} (h : Que w base e size v ws) (hi : ws[i]? = some W) : ∃ g off cap, v = .slice (some ⟨g, off, none⟩) ws.length cap ∧ base ≤ g ∧ g < w.heap.size ∧ w.rangeAt g (off + i * size) W.cells := by
  rcases h.2 with ⟨_, h0⟩ | ⟨g, off, cap, cur, rfl, hb, hg, h1, h2, h3, h4⟩
  · subst h0; simp at hi
  · refine ⟨g, off, cap, rfl, hb, (Array.getElem?_eq_some_iff.1 hg).1, fun j u hj => ?_⟩
    have hmem : W ∈ ws := List.mem_of_getElem? hi
    have hl := (h.1 W hmem).1
    have hjl := (List.getElem?_eq_some_iff.1 hj).1
    have hil := (List.getElem?_eq_some_iff.1 hi).1
    rw [cell_of_row w g (off + i * size + j) cur e (0, 0) hg]
    have e1 := Wms_get h.1 hi (show j < size by omega)
    rw [hj] at e1
    have hlt : i * size + j < ws.length * size := by
      have := Nat.mul_le_mul_right size (show i + 1 ≤ ws.length by omega)
      rw [Nat.add_mul, Nat.one_mul] at this; omega
    rw [← h4, List.getElem?_take, if_pos hlt, List.getElem?_drop] at e1
    rw [Nat.add_assoc]
    simpa using e1
theorem meas_next {i lh : Nat} (h : i < lh) : lh - (intOf (.int .i64 ((i : Int) + 1))).toNat < lh - (intOf (.int .i64 (i : Int))).toNat := by simp [intOf]; omega
theorem Alike.nth {α β : Type} {R : α → β → Prop} : ∀ {l : List α} {m : List β} {i : Nat} {a : α}, Alike R l m → l[i]? = some a → ∃ b, m[i]? = some b ∧ R a b
  | [], _, i, a, _, h => by simp at h
  | x :: l, [], i, a, h, _ => by cases h
  | x :: l, y :: m, 0, a, h, hi => by
    simp only [List.getElem?_cons_zero, Option.some.injEq] at hi
    subst hi
    exact ⟨y, rfl, h.1⟩
  | x :: l, y :: m, i + 1, a, h, hi => by
    simp only [List.getElem?_cons_succ] at hi
    obtain ⟨b, h1, h2⟩ := Alike.nth h.2 hi
    exact ⟨b, by simpa using h1, h2⟩
/-- What is told fits. -/
theorem go_fit (bs : List Nat) (hb : ∀ y ∈ bs, y < 256) : ∀ x ∈ (go telK.rd mid0 bs).ms, anFit x := by
  have : ∀ (m : Mid) (b : List Nat), (∀ y ∈ m.c, y < 256) → (∀ y ∈ b, y < 256) → ∀ x ∈ (go telK.rd m b).ms, anFit x := by
    refine go_ind (rd := telK.rd) ?_ ?_ ?_ ?_ ?_
    · intro m b h _ _ x hx; rw [go_wait h] at hx; cases hx
    · intro m b e h _ _ x hx; rw [go_bad h] at hx; cases hx
    · intro m b n h ih h1 h2 x hx
      rw [go_more h] at hx
      exact ih (fun y hy => (List.mem_append.1 hy).elim (h1 y) (seg_lt h2 7 n y)) (fun y hy => h2 y (List.mem_of_mem_drop hy)) x hx
    · intro m b n h hr _ _ x hx; rw [go_none h hr] at hx; cases hx
    · intro m b n z h hr ih h1 h2 x hx
      rw [go_some h hr] at hx
      rcases List.mem_cons.1 hx with e | e
      · rw [e]; exact (rdAn_form _ z (fun y hy => (List.mem_append.1 hy).elim (h1 y) (seg_lt h2 7 n y)) hr).2.2.1
      · exact ih (by intro y hy; cases hy) (fun y hy => h2 y (List.mem_of_mem_drop hy)) x e
  exact this mid0 bs (by intro y hy; cases hy) hb
end Go.Proofs.Ytbcmjjcbjojakaa
end
