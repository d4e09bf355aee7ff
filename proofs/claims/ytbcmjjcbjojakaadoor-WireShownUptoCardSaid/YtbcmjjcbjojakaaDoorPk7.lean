/- Put together of: TellT MemN MsgW Que. -/
import Derived.Test.YtbcmjjcbjojakaaDoorPk6
import Derived.Test.YtbcmjjcbjojakaaDoorPk1
import Derived.Great.BuildSlice
import Derived.Test.YtbcmjjcbjojakaaDoorPk3
section
namespace Go.Proofs.YtbcmjjcbjojakaaDoor
open Go.RowKit
set_option linter.unusedVariables false
structure TS (w w' : World) (g : Nat) (xs : Array Value) : Prop where
  an : w'.heap[g]? = some (.cells xs 94)
  bel : Below w.heap.size w w'
structure TB (w w' : World) (g : Nat) (xs : Array Value) (v : Value) (L : List Nat) : Prop where
  sta : TS w w' g xs
  rd : ∃ A c, v = .slice A L.length c ∧ L.length ≤ c ∧ Rd w' w'.heap.size A L.length (cb L)
  own : w'.ownsRow w.heap.size 5 1 v L.length (cb L)
theorem tx_len (ts : List ByteArray) (m : Nat) (h : shortL ts m) : (tx ts).length ≤ 265 * ts.length := by
  replace h := h.2
  induction ts with
  | nil => simp [tx]
  | cons t ts ih =>
    have h1 := ih fun x hx => h x (by simp [hx])
    have h2 := h t (by simp)
    have h3 := uv_len t.size
    unfold tx at h1 ⊢
    simp only [List.flatMap_cons, List.length_append, List.length_cons, sb_len]
    omega
section
variable {w w1 w2 : World} {g : Nat} {xs : Array Value} {v v' : Value} {L X : List Nat}
theorem TS.step (h : TS w w1 g xs) (b : Below w1.heap.size w1 w2) : TS w w2 g xs :=
  ⟨by rw [b.block g (Array.getElem?_eq_some_iff.1 h.an).1]; exact h.an, h.bel.trans (b.mono h.bel.size)⟩
theorem TS.c (h : TS w w1 g xs) (i : Nat) {v : Value} (hv : xs[i]? = some v) : w1.cell? ⟨g, i, none⟩ = some v := by rw [cell_of_row w1 g i _ _ (0, 0) h.an]; exact hv
theorem TB.put (h : TS w w1 g xs) {m : Nat} (hm : m = L.length) (hO : Onto w1 w2 w1.heap.size 5 (.slice none 0 0) v' m (cb L)) : TB w w2 g xs v' L := by
  subst hm
  obtain ⟨A, c, e, hc, _⟩ := own_form hO.own
  refine ⟨h.step (hO.below (fun k h => by cases h) (Nat.le_refl _)), ⟨A, c, e, hc, ?_⟩, own_base hO.own h.bel.size⟩
  subst e
  exact Rd.of_own hO.own
theorem TB.drew (h : TB w w1 g xs v L) : TB w w1.drew g xs v L :=
  ⟨h.sta.step (Below.refl _ _).drew, let ⟨A, c, e, hc, hr⟩ := h.rd; ⟨A, c, e, hc, hr.keep fun _ _ => rfl⟩, own_below' h.own (Below.refl _ _).drew⟩
theorem TB.below (h : TB w w1 g xs v L) (b : Below w1.heap.size w1 w2) : TB w w2 g xs v L :=
  ⟨h.sta.step b, let ⟨A, c, e, hc, hr⟩ := h.rd; ⟨A, c, e, hc, (hr.below b).more b.size⟩, own_below' h.own b⟩
theorem TB.alloc (h : TB w w1 g xs v L) (o : Obj) : TB w (w1.alloc o) g xs v L := h.below ((Below.refl _ _).alloc (Nat.le_refl _) o)
theorem tputStr_any (W : World) (t : ByteArray) (G : Nat) (A : Option Addr) (n c : Nat) (bs : List Nat) (h : TB w W g xs (.slice A n c) bs) (hn : n ≤ 33554432) (ht : t.size ≤ 2097152) :
    Calls Tryd.prog 26 #[.slice A n c, .slice (some ⟨W.heap.size, 0, none⟩) t.size G] (W.alloc (.cells (bytesRow t G) 5 ((bytesRow t G).size, (bytesRow t G).size + 1))).drew fun e w' => ∃ v', e = .returned v' ∧ TB w w' g xs v' (bs ++ us t) := by
  obtain ⟨A', c', e, hc, hr⟩ := h.rd
  injection e with e1 e2 e3
  subst e1 e2 e3
  have hA := h.sta.step (((Below.refl _ W).alloc (Nat.le_refl _) (.cells (bytesRow t G) 5 ((bytesRow t G).size, (bytesRow t G).size + 1))).drew)
  refine (putBytes_any (W.alloc (.cells (bytesRow t G) 5 ((bytesRow t G).size, (bytesRow t G).size + 1))).drew A (some ⟨W.heap.size, 0, none⟩) bs.length c t.size G (W.heap.size + 1) bs (sb t)
    (((hr.alloc (Nat.le_refl _) (.cells (bytesRow t G) 5 ((bytesRow t G).size, (bytesRow t G).size + 1))).more (Nat.le_succ _)).keep (fun _ _ => rfl)) ((rd_bytes (w := W) (e := 5) (cap := G) t ((bytesRow t G).size, (bytesRow t G).size + 1)).keep (fun _ _ => rfl)) (by omega) (by show W.heap.size + 1 ≤ (W.alloc _).heap.size; simp)).mono ?_
  rintro e w2 ⟨v2, rfl, hO2⟩
  refine ⟨v2, rfl, TB.put hA ?_ (by rw [List.append_assoc] at hO2; exact hO2)⟩
  simp only [List.length_append, us, sb_len]; omega
theorem tputLst_any (W : World) (A A2 : Option Addr) (n c m c2 : Nat) (bs ps : List Nat) (h : TB w W g xs (.slice A n c) bs) (hp : Rd W W.heap.size A2 m (cb ps)) (hn : n ≤ 33554432) (hm : m ≤ 2097152) :
    Calls Tryd.prog 26 #[.slice A n c, .slice A2 m c2] W fun e w' => ∃ v', e = .returned v' ∧ TB w w' g xs v' (bs ++ ub ps) := by
  have hl : ps.length = m := by have := hp.1; rwa [cb_length] at this
  subst hl
  obtain ⟨A', c', e, hc, hr⟩ := h.rd
  injection e with e1 e2 e3
  subst e1 e2 e3
  refine (putBytes_any W A A2 bs.length c ps.length c2 W.heap.size bs ps hr hp (by omega) (Nat.le_refl _)).mono ?_
  rintro e w2 ⟨v2, rfl, hO2⟩
  refine ⟨v2, rfl, TB.put h.sta ?_ (by rw [List.append_assoc] at hO2; exact hO2)⟩
  simp only [List.length_append, ub]; omega
theorem tputNum_any (W : World) (A : Option Addr) (n c : Nat) (v : Int) (bs : List Nat) (h : TB w W g xs (.slice A n c) bs) (h1 : -9223372036854775808 ≤ v) (h2 : v ≤ 9223372036854775807) (hn : n ≤ 33554432) :
    Calls Tryd.prog 27 #[.slice A n c, .int .i64 v] W fun e w' => ∃ v', e = .returned v' ∧ TB w w' g xs v' (bs ++ uz v) ∧ ∀ k, k < W.heap.size → w'.heap[k]? = W.heap[k]? := by
  obtain ⟨A', c', e, hc, hr⟩ := h.rd
  injection e with e1 e2 e3
  subst e1 e2 e3
  refine (putVar_any W A bs.length c W.heap.size v bs hr h1 h2 (by omega) (Nat.le_refl _)).mono ?_
  rintro e w2 ⟨v2, rfl, hO2⟩
  exact ⟨v2, rfl, TB.put h.sta (by rw [List.length_append]) hO2, (hO2.below (fun k h => by cases h) (Nat.le_refl _)).block⟩
theorem tput8_any (W : World) (A : Option Addr) (n c x : Nat) (bs : List Nat) (h : TB w W g xs (.slice A n c) bs) (hx : x < 256) (hn : n ≤ 33554432) :
    Calls Tryd.prog 25 #[.slice A n c, .int .u8 (x : Int)] W fun e w' => ∃ v', e = .returned v' ∧ TB w w' g xs v' (bs ++ fx 1 x) := by
  obtain ⟨A', c', e, hc, hr⟩ := h.rd
  injection e with e1 e2 e3
  subst e1 e2 e3
  refine (put_uint8 W A bs.length c W.heap.size x bs hr hx (by omega) (Nat.le_refl _)).mono ?_
  rintro e w2 ⟨v2, rfl, hO2⟩
  exact ⟨v2, rfl, TB.put h.sta (by rw [List.length_append, fx_len]) hO2⟩
theorem tform_any (W : World) (A : Option Addr) (n c : Nat) (bs : List Nat) (h : TB w W g xs (.slice A n c) bs) (hb : ∀ x ∈ bs, x < 256) (hn : n ≤ 33554432) :
    Calls Tryd.prog 28 #[.slice A n c] W fun e w' => ∃ v', e = .returned v' ∧ Onto w w' w.heap.size 5 (.slice none 0 0) v' (formP bs).length (cb (formP bs)) := by
  obtain ⟨A', c', e, hc, hr⟩ := h.rd
  injection e with e1 e2 e3
  subst e1 e2 e3
  refine (form_any W A bs.length c bs hr hc hb (by omega)).mono ?_
  rintro e w2 ⟨v2, rfl, hO2⟩
  exact ⟨v2, rfl, onto_fresh w h.sta.bel hO2⟩
end
/-- The numbers of an answer are of 64 bits. -/
structure AnB (a : An) : Prop where
  tag : a.tag < 18446744073709551616
  b : ∀ x ∈ a.body, x < 256
  n : ∀ v, v = a.ge ∨ v = a.gc ∨ v = a.size ∨ v = a.h1 ∨ v = a.h2 ∨ v = a.h3 ∨ v = a.h4 → -9223372036854775808 ≤ v ∧ v ≤ 9223372036854775807
/-- What both answer. -/
def TellPost (a : An) (w : World) (e : Ending) (w' : World) : Prop := ∃ v', e = .returned (.tuple #[v', .int .i64 (tellP a).2]) ∧ Onto w w' w.heap.size 5 (.slice none 0 0) v' (tellP a).1.length (cb (tellP a).1)
section
variable {a : An} {w w1 w' : World} {v : Value}
theorem TellPost.bad (h : ¬ anOk a) (b : Below w.heap.size w w') : TellPost a w (.returned (.tuple #[.slice none 0 0, .int .i64 2])) w' := by
  have : tellP a = ([], 2) := by unfold tellP; rw [if_neg h]
  unfold TellPost; rw [this]; exact ⟨_, rfl, onto_none b⟩
theorem TellPost.big (h : anOk a) (h2 : ¬ anFit a) (b : Below w.heap.size w w') : TellPost a w (.returned (.tuple #[.slice none 0 0, .int .i64 3])) w' := by
  have : tellP a = ([], 3) := by unfold tellP; rw [if_pos h, if_neg h2]
  unfold TellPost; rw [this]; exact ⟨_, rfl, onto_none b⟩
theorem TellPost.good (h : anOk a) (h2 : anFit a) {Z : List Nat} (hZ : anC a = Z) (hO : Onto w w' w.heap.size 5 (.slice none 0 0) v (formP Z).length (cb (formP Z))) :
    TellPost a w (.returned (.tuple #[v, .int .i64 0])) w' := by
  have : tellP a = (formP Z, 0) := by unfold tellP; rw [if_pos h, if_pos h2, hZ]
  unfold TellPost; rw [this]; exact ⟨_, rfl, hO⟩
end
theorem ut_lt (ts : List ByteArray) (m : Nat) (h : shortL ts m) (hm : m < 2 ^ 64) : ∀ x ∈ ut ts, x < 256 := by
  intro x hx
  unfold ut tx at hx
  rcases List.mem_append.1 hx with h1 | h1
  · exact uv_lt _ (by have := h.1; omega) x h1
  · obtain ⟨t, ht, h2⟩ := List.mem_flatMap.1 h1
    have := h.2 t ht
    rcases List.mem_append.1 h2 with h3 | h3
    · exact uv_lt _ (by omega) x h3
    · exact sb_lt t x h3
theorem ut_len (ts : List ByteArray) (m : Nat) (h : shortL ts m) : (ut ts).length ≤ 10 + 265 * m := by
  have h1 := tx_len ts m h
  have h2 := uv_len ts.length
  have h3 := h.1
  unfold ut
  rw [List.length_append]; omega
theorem us_len (s : ByteArray) : (us s).length ≤ s.size + 10 := by unfold us; rw [List.length_append, sb_len]; have := uv_len s.size; omega
def heal4 (h1 h2 h3 h4 : Int) : List Int := [h1, h2, h3, h4]
theorem heal_len (h1 h2 h3 h4 : Int) (k : Nat) : (((heal4 h1 h2 h3 h4).take k).flatMap uz).length ≤ 40 := by
  have e : (((heal4 h1 h2 h3 h4).take k).flatMap uz).length ≤ (([h1, h2, h3, h4] : List Int).flatMap uz).length := by
    have : (heal4 h1 h2 h3 h4).flatMap uz = ((heal4 h1 h2 h3 h4).take k).flatMap uz ++ ((heal4 h1 h2 h3 h4).drop k).flatMap uz := by rw [← List.flatMap_append, List.take_append_drop]
    unfold heal4 at this ⊢
    rw [this, List.length_append]; omega
  have h := uz_len h1
  have := uz_len h2
  have := uz_len h3
  have := uz_len h4
  simp only [List.flatMap_cons, List.flatMap_nil, List.length_append, List.length_nil] at e
  omega
/-! The content, kind by kind. -/
section
variable {tag : Nat} {code : Int} {body : List Nat} {keys groups : List ByteArray} {next : ByteArray} {more : Bool} {ge gc size h1 h2 h3 h4 : Int} {k : Int} {L0 : List Nat} (hL : fx 1 k.toNat ++ fx 8 tag ++ uv code.toNat = L0)
theorem anC_heal (hL : fx 1 k.toNat ++ fx 8 tag ++ uv code.toNat = L0) (hk : k = 8) : anC ⟨k, tag, code, body, keys, groups, next, more, ge, gc, size, h1, h2, h3, h4⟩ = L0 ++ uz h1 ++ uz h2 ++ uz h3 ++ uz h4 := by
  unfold anC
  simp only
  rw [hL, if_pos hk, if_neg (by unfold tBody; simp only; omega), if_neg (by unfold tGen; simp only; omega), if_neg (by unfold tKeys; simp only; omega), if_neg (by unfold tPage; simp only; omega)]
  simp only [List.append_nil, List.append_assoc]
theorem anC_code (hL : fx 1 k.toNat ++ fx 8 tag ++ uv code.toNat = L0) (hk : k ≠ 8) (hc : code ≠ 0 ∨ k = 1 ∨ k = 5) : anC ⟨k, tag, code, body, keys, groups, next, more, ge, gc, size, h1, h2, h3, h4⟩ = L0 := by
  unfold anC
  simp only
  rw [hL, if_neg hk, if_neg (by unfold tBody; simp only; omega), if_neg (by unfold tGen; simp only; omega), if_neg (by unfold tKeys; simp only; omega), if_neg (by unfold tPage; simp only; omega)]
  simp only [List.append_nil]
theorem anC_body (hL : fx 1 k.toNat ++ fx 8 tag ++ uv code.toNat = L0) (hk : k = 2 ∨ k = 3) (hc : code = 0) : anC ⟨k, tag, code, body, keys, groups, next, more, ge, gc, size, h1, h2, h3, h4⟩ = L0 ++ ub body := by
  unfold anC
  simp only
  rw [hL, if_neg (by omega), if_pos (by unfold tBody; simp only; omega), if_neg (by unfold tGen; simp only; omega), if_neg (by unfold tKeys; simp only; omega), if_neg (by unfold tPage; simp only; omega)]
  simp only [List.append_nil]
theorem anC_gen (hL : fx 1 k.toNat ++ fx 8 tag ++ uv code.toNat = L0) (hk : k = 4) (hc : code = 0) : anC ⟨k, tag, code, body, keys, groups, next, more, ge, gc, size, h1, h2, h3, h4⟩ = L0 ++ uz ge ++ uz gc ++ uz size := by
  unfold anC
  simp only
  rw [hL, if_neg (by omega), if_neg (by unfold tBody; simp only; omega), if_pos (by unfold tGen; simp only; omega), if_neg (by unfold tKeys; simp only; omega), if_neg (by unfold tPage; simp only; omega)]
  simp only [List.append_nil, List.append_assoc]
theorem anC_keys (hL : fx 1 k.toNat ++ fx 8 tag ++ uv code.toNat = L0) (hk : k = 6) (hc : code = 0) : anC ⟨k, tag, code, body, keys, groups, next, more, ge, gc, size, h1, h2, h3, h4⟩ = L0 ++ ut keys := by
  unfold anC
  simp only
  rw [hL, if_neg (by omega), if_neg (by unfold tBody; simp only; omega), if_neg (by unfold tGen; simp only; omega), if_pos (by unfold tKeys; simp only; omega), if_neg (by unfold tPage; simp only; omega)]
  simp only [List.append_nil]
theorem anC_page (hL : fx 1 k.toNat ++ fx 8 tag ++ uv code.toNat = L0) (hk : k = 7) (hc : code = 0) : anC ⟨k, tag, code, body, keys, groups, next, more, ge, gc, size, h1, h2, h3, h4⟩ = L0 ++ ut keys ++ ut groups ++ us next ++ fx 1 (if more = true then 1 else 0) := by
  unfold anC
  simp only
  rw [hL, if_neg (by omega), if_neg (by unfold tBody; simp only; omega), if_neg (by unfold tGen; simp only; omega), if_pos (by unfold tKeys; simp only; omega), if_pos (by unfold tPage; simp only; omega)]
  have m1 : [if more = true then 1 else 0] = fx 1 (if more = true then 1 else 0) := by cases more <;> rfl
  rw [m1]
  simp only [List.append_nil, List.append_assoc]
end
end Go.Proofs.YtbcmjjcbjojakaaDoor
end
section
namespace Go.Proofs.YtbcmjjcbjojakaaDoor
open Go.RowKit
set_option linter.unusedVariables false
/-- What the walk needs to know of a slice type t with elements e of 'size' cells. -/
structure ElN (P : Program) (t e size bytes : Nat) : Prop where
  ht : P.underlying t = some (.slice e)
  hi : ∃ i z, P.info? e = some i ∧ i.zero = some z ∧ i.size = size ∧ i.bytes = bytes ∧ z.cells.size = size
  hs : 0 < size ∧ size ≤ 1000
/-- A slice of elements of 'size' cells reads as the cells xs, and lies in a block that p allows. -/
def RdN (w : World) (p : Nat → Prop) (size : Nat) (A : Option Addr) (n : Nat) (xs : List Value) : Prop :=
  xs.length = n * size ∧ (0 < n → ∃ g off, A = some ⟨g, off, none⟩ ∧ p g ∧ ∀ i, i < n * size → w.cell? ⟨g, off + i, none⟩ = xs[i]?)
def OntoN (w w' : World) (base e size : Nat) (s v' : Value) (n : Nat) (xs : List Value) : Prop :=
  w'.ownsRow base e size v' n xs ∧ w.grownBy w' s.ownBlock ∧ ∀ k, v'.ownBlock = some k → s.ownBlock = some k ∨ w.heap.size ≤ k
section
variable {w w' w1 w2 : World} {base e size n n1 n2 : Nat} {s v1 v2 : Value} {xs xs1 xs2 : List Value} {p q : Nat → Prop} {A : Option Addr}
theorem RdN.nil : RdN w p size A 0 [] := ⟨by simp, fun h => absurd h (by omega)⟩
theorem RdN.imp (h : RdN w p size A n xs) (hq : ∀ g, p g → q g) : RdN w q size A n xs :=
  ⟨h.1, fun hn => let ⟨g, off, e, hb, hc⟩ := h.2 hn; ⟨g, off, e, hq g hb, hc⟩⟩
theorem RdN.keep (h : RdN w p size A n xs) (hk : ∀ a : Addr, p a.block → w'.cell? a = w.cell? a) : RdN w' p size A n xs :=
  ⟨h.1, fun hn => let ⟨g, off, e, hb, hc⟩ := h.2 hn; ⟨g, off, e, hb, fun i hi => (hk ⟨g, off + i, none⟩ hb).trans (hc i hi)⟩⟩
theorem Rd.toN {B : Nat} (h : Rd w B A n xs) : RdN w (· < B) 1 A n xs := ⟨by rw [h.1]; omega, fun hn => let ⟨g, off, e, hb, hc⟩ := h.2 hn; ⟨g, off, e, hb, fun i hi => hc i (by omega)⟩⟩
theorem RdN.toRd {B : Nat} (h : RdN w p 1 A n xs) (hp : ∀ g, p g → g < B) : Rd w B A n xs := ⟨by rw [h.1]; omega, fun hn => let ⟨g, off, e, hb, hc⟩ := h.2 hn; ⟨g, off, e, hp g hb, fun i hi => hc i (by omega)⟩⟩
theorem OntoN.refl (h : w.ownsRow base e size s n xs) : OntoN w w base e size s s n xs := ⟨h, World.grownBy.refl w _, fun _ h => .inl h⟩
theorem OntoN.nil (w : World) (base e size : Nat) : OntoN w w base e size (.slice none 0 0) (.slice none 0 0) 0 [] := .refl (World.ownsRow_nil w base e size)
theorem OntoN.trans (h : OntoN w w1 base e size s v1 n1 xs1) (g : OntoN w1 w2 base e size v1 v2 n2 xs2) : OntoN w w2 base e size s v2 n2 xs2 := by
  obtain ⟨_, hg, hl⟩ := h
  obtain ⟨ho, gg, gl⟩ := g
  refine ⟨ho, ⟨gg.os.trans hg.os, gg.tape.trans hg.tape, gg.output.trans hg.output, Nat.le_trans hg.size gg.size, fun k hk hne => ?_⟩, fun k hk => ?_⟩
  · refine (gg.block k (Nat.lt_of_lt_of_le hk hg.size) fun he => ?_).trans (hg.block k hk hne)
    rcases hl k he.symm with h1 | h1
    · exact hne h1.symm
    · omega
  · rcases gl k hk with h1 | h1
    · exact hl k h1
    · exact .inr (Nat.le_trans hg.size h1)
theorem OntoN.below {B : Nat} (h : OntoN w w1 base e size s v1 n1 xs1) (hs : ∀ k, s.ownBlock = some k → B ≤ k) (hB : B ≤ w.heap.size) : Below B w w1 :=
  (Below.refl B w).grown h.2.1 hB hs
theorem OntoN.own (h : OntoN w w1 base e size s v1 n1 xs1) : w1.ownsRow base e size v1 n1 xs1 := h.1
theorem OntoN.grows (h : OntoN w w1 base e size s v1 n1 xs1) : w.heap.size ≤ w1.heap.size := h.2.1.size
/-- The value of an owned row is a slice of its length. -/
theorem ownN_form {v : Value} (h : w.ownsRow base e size v n xs) : ∃ A c, v = .slice A n c ∧ n ≤ c ∧ c ≤ maxLen := by
  rcases h.2 with ⟨hv, h0⟩ | ⟨g, cap, cur, hv, _, hg, hnc, hm, hcs, htake⟩
  · subst h0; exact ⟨none, 0, hv, Nat.le_refl _, Nat.zero_le _⟩
  · exact ⟨_, cap, hv, hnc, hm⟩
theorem RdN.of_own {c : Nat} (h : w.ownsRow base e size (.slice A n c) n xs) : RdN w (fun g => g < w.heap.size ∧ (Value.slice A n c).ownBlock = some g) size A n xs := by
  refine ⟨h.1, fun hn => ?_⟩
  rcases h.2 with ⟨hv, h0⟩ | ⟨g, cap, cur, hv, _, hg, hnc, _, hcs, htake⟩
  · omega
  · injection hv with hA hn' hc
    subst hA
    refine ⟨g, 0, rfl, ⟨(Array.getElem?_eq_some_iff.1 hg).1, rfl⟩, fun i hi => ?_⟩
    rw [cell_of_row w g (0 + i) cur e (0, 0) hg, ← htake, List.getElem?_take, if_pos hi]
    simp
end
theorem fill_fold (cs : List Value) : ∀ (k : Nat) (zs : Array Value) (i : Nat), (((cs.zipIdx k).foldl (fun (cs : Array Value) (x : Value × Nat) => cs.setIfInBounds x.2 x.1) zs)[i]? = if k ≤ i ∧ i < k + cs.length ∧ i < zs.size then cs[i - k]? else zs[i]?) := by
  induction cs with
  | nil => intro k zs i; simp; intro h1 h2; omega
  | cons c r ih =>
    intro k zs i
    rw [List.zipIdx_cons, List.foldl_cons, ih]
    simp only [Array.size_setIfInBounds, List.length_cons]
    by_cases h1 : k + 1 ≤ i ∧ i < k + 1 + r.length ∧ i < zs.size
    · rw [if_pos h1, if_pos (by omega), show i - k = (i - (k + 1)) + 1 by omega, List.getElem?_cons_succ]
    · rw [if_neg h1, Array.getElem?_setIfInBounds]
      by_cases h2 : k = i
      · subst h2
        by_cases h3 : k < zs.size
        · rw [if_pos rfl, if_pos h3, if_pos ⟨Nat.le_refl _, by omega, h3⟩]; simp
        · rw [if_pos rfl, if_neg h3, if_neg (by omega), Array.getElem?_eq_none (by omega)]
      · rw [if_neg h2, if_neg (by omega)]
section
variable {P : Program} {w : World} {t e size bytes : Nat}
theorem fill_one (cells zs : Array Value) (hz : zs.size = cells.size) : Instr.fill (fun i => some (i * cells.size, cells.size)) zs [(0, .agg cells)] = some cells := by
  simp only [Instr.fill, Value.cells, Nat.zero_mul, Nat.zero_add, hz]
  rw [if_neg (by simp)]
  congr 1
  rw [← Array.foldl_toList, Array.toList_zipIdx]
  apply Array.ext_getElem?
  intro i
  rw [fill_fold]
  by_cases h : i < cells.size
  · rw [if_pos ⟨Nat.zero_le _, by simpa using h, by omega⟩]; simp
  · rw [if_neg (by omega), Array.getElem?_eq_none (by omega), Array.getElem?_eq_none (by omega)]
theorem run_build1N (E : ElN P t e size bytes) (cells : Array Value) (h1 : cells.size = size) : (Instr.buildSlice t 1 #[(0, .agg cells)]).run P w = .ok (.slice (some ⟨w.heap.size, 0, none⟩) 1 1) (w.alloc (.cells cells e)) := by
  obtain ⟨i, z, hi, hz, hs, hb, hzs⟩ := E.hi
  have h2 := E.hs
  refine run_buildSlice w t e 1 _ cells i z E.ht hi hz (by rw [hs]; omega) (by rw [hs]; omega) ?_
  rw [hs, ← h1]
  exact fill_one cells _ (by simp)
theorem run_appN (E : ElN P t e size bytes) (ty base : Nat) (v : Value) (n : Nat) (xs : List Value) (hown : w.ownsRow base e size v n xs) (p : Nat → Prop) (A : Option Addr) (m c : Nat) (news : List Value)
    (hr : RdN w p size A m news) (h1 : ∀ u ∈ news, u.oneCell' = true) (h63 : n + m ≤ maxLen) (hby : (n + m) * bytes ≤ 140737488355328) (hbase : base ≤ w.heap.size) :
    ∃ v' w', (Builtin.append_ #[t, t] ty #[v, .slice A m c]).run P w = .ok v' w' ∧ OntoN w w' base e size v v' (n + m) (xs ++ news) := by
  obtain ⟨i, z, hi, hz, hs, hb, hzs⟩ := E.hi
  rcases A with _ | ad
  · have hm : m = 0 := by
      rcases Nat.eq_zero_or_pos m with h0 | h0
      · exact h0
      · obtain ⟨_, _, h, _⟩ := hr.2 h0; cases h
    subst hm
    have hn : news = [] := List.eq_nil_of_length_eq_zero (by simpa using hr.1)
    subst hn
    refine ⟨v, w, ?_, by simpa using OntoN.refl hown⟩
    rcases hown.2 with ⟨rfl, rfl⟩ | ⟨g, cap, cur, rfl, _, _, hnc, _⟩
    · simp [Builtin.append_, run_underlying E.ht, sizeOf, typeInfo, hi, Builtin.lenOf, Builtin.firstCells]
    · simp [Builtin.append_, run_underlying E.ht, sizeOf, typeInfo, hi, Builtin.lenOf, Builtin.firstCells, hnc, storeCells]
  · have hcells : ∀ j u, news[j]? = some u → w.cell? (ad.add j) = some u := by
      intro j u hu
      have hj : j < m * size := by have := (List.getElem?_eq_some_iff.1 hu).1; have := hr.1; omega
      have hm : 0 < m := by rcases Nat.eq_zero_or_pos m with h | h; (subst h; omega); exact h
      obtain ⟨g, off, he, _, hc⟩ := hr.2 hm
      injection he with he
      subst he
      have : (⟨g, off, none⟩ : Addr).add j = ⟨g, off + j, none⟩ := by unfold Addr.add; split <;> simp_all
      rw [this, hc j hj, hu]
    obtain ⟨v', w', hrun, h2, h3, _, h5⟩ := run_append_own_at (P := P) w base t ty e i z size bytes E.ht hi hz hs hb hzs E.hs.1 v n xs hown ad m c news hr.1 hcells h1 h63 hby hbase
    exact ⟨v', w', hrun, h2, h3, fun k hk => by rcases h5 with h4 | h4 <;> rw [h4] at hk <;> first | exact .inl hk | (injection hk; omega)⟩
section
variable {ops : Array Oper} {rest : List Oper} {o o1 o2 : Oper} {a : Act} {Q : Exit → Act → World → Prop}
theorem wpList_appN (E : ElN P t e size bytes) (hgd : o.guard = none) (s x : Operand) (ho : o.op = .call { callee := .builtin .append, args := #[s, x], argTypes := #[t, t] })
    (base : Nat) (v : Value) (n : Nat) (xs : List Value) (hs : a.eval s = v) (hown : w.ownsRow base e size v n xs) (p : Nat → Prop) (A : Option Addr) (m c : Nat) (news : List Value) (hx : a.eval x = .slice A m c)
    (hr : RdN w p size A m news) (h1 : ∀ u ∈ news, u.oneCell' = true) (h63 : n + m ≤ maxLen) (hby : (n + m) * bytes ≤ 140737488355328) (hbase : base ≤ w.heap.size)
    (h : ∀ v' w', OntoN w w' base e size v v' (n + m) (xs ++ news) → wpList P ops Q rest (a.put o.dst v') w') :
    wpList P ops Q (o :: rest) a w := by
  refine wpList_plain hgd fun K hK => ?_
  obtain ⟨v', w', hrun, h2⟩ := run_appN E o.type base v n xs hown p A m c news hr h1 h63 hby hbase
  unfold Oper.wp execOp
  simp only [ho, resolve, invoke, builtin, Sem.run_bind, Sem.run_pure, Result.andThen_ok, List.map_toArray, List.map_cons, List.map_nil, hs, hx, hrun]
  exact hK _ _ (h v' w' h2)
/-- 'append(s, x)', x a value of several cells. -/
theorem wpList_pushN (E : ElN P t e size bytes) (hg1 : o1.guard = none) (hg2 : o2.guard = none) (s x : Operand) (d : Nat) (hd : o1.dst = some d) (ho1 : o1.op = .buildSlice t 1 #[(0, x)])
    (ho2 : o2.op = .call { callee := .builtin .append, args := #[s, .tmp d], argTypes := #[t, t] })
    (base : Nat) (v : Value) (n : Nat) (xs : List Value) (us : List Value) (hx : a.eval x = .agg us.toArray) (hus : us.length = size) (h1 : ∀ u ∈ us, u.oneCell' = true)
    (hs : (a.put (some d) (.slice (some ⟨w.heap.size, 0, none⟩) 1 1)).eval s = v) (hdv : (a.put (some d) (.slice (some ⟨w.heap.size, 0, none⟩) 1 1)).eval (.tmp d) = .slice (some ⟨w.heap.size, 0, none⟩) 1 1)
    (hown : w.ownsRow base e size v n xs) (h63 : n + 1 ≤ maxLen) (hby : (n + 1) * bytes ≤ 140737488355328) (hbase : base ≤ w.heap.size)
    (h : ∀ v' w', OntoN w w' base e size v v' (n + 1) (xs ++ us) →
      wpList P ops Q rest ((a.put (some d) (.slice (some ⟨w.heap.size, 0, none⟩) 1 1)).put o2.dst v') w') :
    wpList P ops Q (o1 :: o2 :: rest) a w := by
  refine wpList_plain hg1 fun K hK => ?_
  have hb1 := run_build1N (w := w) E us.toArray (by simpa using hus)
  unfold Oper.wp execOp
  simp only [ho1, List.map_toArray, List.map_cons, List.map_nil, hx, Sem.run_bind, Sem.run_pure, Result.andThen_ok, hb1, Oper.upon, hd]
  refine hK _ _ ?_
  refine wpList_appN E hg2 s (.tmp d) ho2 base v n xs hs (hown.alloc _) (· < w.heap.size + 1) (some ⟨w.heap.size, 0, none⟩) 1 1 us hdv ?_ h1 h63 hby (by simp; omega) fun v' w' g1 => ?_
  · refine ⟨by omega, fun _ => ⟨w.heap.size, 0, rfl, by omega, fun i hi => ?_⟩⟩
    simp
  · refine h v' w' ⟨g1.1, (World.grownBy_alloc w _ v.ownBlock).trans g1.2.1, fun k hk => ?_⟩
    rcases g1.2.2 k hk with h1 | h1
    · exact .inl h1
    · simp at h1; exact .inr (by omega)
end
end
end Go.Proofs.YtbcmjjcbjojakaaDoor
end
section
namespace Go.Proofs.YtbcmjjcbjojakaaDoor
open Go.RowKit
set_option linter.unusedVariables false
/-- A message as it lies in memory: its cells, and the rows that it owns. -/
structure Wm where
  cells : List Value
  rows : List (Nat × Value × List Value)
/-- Its rows stand, from block 'base' on. -/
def Wm.ok (w : World) (base : Nat) (W : Wm) : Prop := ∀ r ∈ W.rows, w.ownsRow base r.1 1 r.2.1 r.2.2.length r.2.2
/-- No row of it lies in a block of X. -/
def Wm.off (X : List Nat) (W : Wm) : Prop := ∀ r ∈ W.rows, ∀ k, r.2.1.ownBlock = some k → k ∉ X
def rqW (R : Rq) (vb : Value) : Wm := ⟨[.int .i64 R.kind, .int .u64 (R.tag : Int), .string R.key, .string R.after, .int .i64 R.off, .int .i64 R.num, .int .i64 R.delim, vb], [(5, vb, cb R.body)]⟩
def anW (a : An) (v1 v2 v3 : Value) : Wm :=
  ⟨[.int .i64 a.kind, .int .u64 (a.tag : Int), .int .i64 a.code, v1, v2, v3, .string a.next, .bool a.more, .int .i64 a.ge, .int .i64 a.gc, .int .i64 a.size, .int .i64 a.h1, .int .i64 a.h2, .int .i64 a.h3, .int .i64 a.h4],
   [(5, v1, cb a.body), (9, v2, cs a.keys), (9, v3, cs a.groups)]⟩
def rqIs (W : Wm) (R : Rq) : Prop := ∃ vb, W = rqW R vb
def anIs (W : Wm) (a : An) : Prop := ∃ v1 v2 v3, W = anW a v1 v2 v3
section
variable {w w1 : World} {base base' : Nat} {W : Wm} {X : List Nat}
theorem Wm.ok.below (h : W.ok w base) (b : Below w.heap.size w w1) : W.ok w1 base := fun r hr => own_below' (h r hr) b
theorem Wm.ok.lower (h : W.ok w base) (hb : base' ≤ base) : W.ok w base' := fun r hr => own_base (h r hr) hb
theorem Wm.ok.chg (h : W.ok w base) (c : Chg X w w1) (ho : W.off X) : W.ok w1 base := fun r hr => c.own (h r hr) (ho r hr)
theorem Wm.ok.lt (h : W.ok w base) {r : Nat × Value × List Value} (hr : r ∈ W.rows) {k : Nat} (hk : r.2.1.ownBlock = some k) : base ≤ k ∧ k < w.heap.size := (h r hr).lt k hk
/-- What has been made since is apart from what was there. -/
theorem Wm.ok.off_old (h : W.ok w base) (hX : ∀ k ∈ X, k < base) : W.off X := fun r hr k hk hm => by
  have := (h.lt hr hk).1; have := hX k hm; omega
theorem Wm.off.mono {Y : List Nat} (h : W.off X) (hY : ∀ k ∈ Y, k ∈ X) : W.off Y := fun r hr k hk hm => h r hr k hk (hY k hm)
/-- New blocks may be written too. -/
theorem Wm.off.new {Y : List Nat} (h : W.off X) (ho : W.ok w base) (hY : ∀ k ∈ Y, k ∈ X ∨ w.heap.size ≤ k) : W.off Y := fun r hr k hk hm => by
  rcases hY k hm with h1 | h1
  · exact h r hr k hk h1
  · have := (ho.lt hr hk).2; omega
end
theorem own_one {w : World} {base e n : Nat} {v : Value} {xs : List Value} (h : w.ownsRow base e 1 v n xs) : v.oneCell' = true := by
  obtain ⟨A, c, rfl, _⟩ := own_form h; rfl
theorem rqW_one {w : World} {base : Nat} {R : Rq} {vb : Value} (h : (rqW R vb).ok w base) : (rqW R vb).cells.length = 8 ∧ (rqW R vb).cells.toArray.all (·.oneCell') = true := by
  have hv : vb.oneCell' = true := own_one (h _ (List.mem_singleton.2 rfl))
  exact ⟨rfl, by simp [rqW, hv]; simp [Value.oneCell']⟩
theorem anW_one {w : World} {base : Nat} {a : An} {v1 v2 v3 : Value} (h : (anW a v1 v2 v3).ok w base) : (anW a v1 v2 v3).cells.length = 15 ∧ (anW a v1 v2 v3).cells.toArray.all (·.oneCell') = true := by
  have h1 : v1.oneCell' = true := own_one (h _ (List.mem_cons_self ..))
  have h2 : v2.oneCell' = true := own_one (h _ (List.mem_cons_of_mem _ (List.mem_cons_self ..)))
  have h3 : v3.oneCell' = true := own_one (h _ (List.mem_cons_of_mem _ (List.mem_cons_of_mem _ (List.mem_cons_self ..))))
  exact ⟨rfl, by simp [anW, h1, h2, h3]; simp [Value.oneCell']⟩
/-! The steps of a codec reader. -/
theorem redo_val {α : Type} {P : α → Prop} {o : Except Int (α × Nat)} {z : α} {a : Nat} {f : Int} (hz : P z) (h : ∀ v a', o = .ok (v, a') → P v) : P (redo o z a f).1 := by
  unfold redo
  split
  · rcases ho : o with e | ⟨v, a'⟩
    · exact hz
    · exact h v a' ho
  · exact hz
section
variable {w : World} {gr n c : Nat} {A : Option Addr} {s : Nat × Int} {bs : List Nat}
theorem cFix1 (R : Rr w gr A n c s.1 s.2 bs) : Calls Tryd.prog 58 #[.pointer (some ⟨gr, 0, none⟩)] w fun e w' => ∃ v s', rFix bs 1 s = (v, s') ∧ e = .returned (.int .u8 (v : Int)) ∧ v < 256 ∧ Chg [gr] w w' ∧ Rr w' gr A n c s'.1 s'.2 bs := by
  refine (take_uint8_any w gr n c s.1 s.2 A bs R).mono ?_
  rintro e w' ⟨v, rfl, hc, hk, hR⟩
  unfold KT at hk
  subst hk
  refine ⟨_, _, rfl, rfl, ?_, hc, hR⟩
  refine redo_val (P := fun v => v < 256) (by omega) fun v a' h => ?_
  unfold fixF at h
  split at h
  · rename_i l a2 ht
    cases h
    obtain ⟨e1, e2, e3, e4⟩ := takeF_form _ _ _ _ _ ht
    have := le256_lt l fun x hx => R.lb x (by rw [e1] at hx; exact List.mem_of_mem_drop (List.mem_of_mem_take hx))
    rw [e4] at this; omega
  · cases h
theorem cFix8 (R : Rr w gr A n c s.1 s.2 bs) : Calls Tryd.prog 59 #[.pointer (some ⟨gr, 0, none⟩)] w fun e w' => ∃ v s', rFix bs 8 s = (v, s') ∧ e = .returned (.int .u64 (v : Int)) ∧ v < 18446744073709551616 ∧ Chg [gr] w w' ∧ Rr w' gr A n c s'.1 s'.2 bs := by
  refine (take_uint64_any w gr n c s.1 s.2 A bs R).mono ?_
  rintro e w' ⟨v, rfl, hc, hk, hR⟩
  unfold KT at hk
  subst hk
  refine ⟨_, _, rfl, rfl, ?_, hc, hR⟩
  refine redo_val (P := fun v => v < 18446744073709551616) (by omega) fun v a' h => ?_
  unfold fixF at h
  split at h
  · rename_i l a2 ht
    cases h
    obtain ⟨e1, e2, e3, e4⟩ := takeF_form _ _ _ _ _ ht
    have := le256_lt l fun x hx => R.lb x (by rw [e1] at hx; exact List.mem_of_mem_drop (List.mem_of_mem_take hx))
    rw [e4] at this; omega
  · cases h
theorem rNum_bd (R : Rr w gr A n c s.1 s.2 bs) : (rNum bs s).1 < 18446744073709551616 := by
  refine redo_val (P := fun v => v < 18446744073709551616) (by omega) fun v a' h => ?_
  have := (numF_hi bs s.1 v a' R.lb h).1
  omega
theorem cNumU (R : Rr w gr A n c s.1 s.2 bs) : Calls Tryd.prog 60 #[.pointer (some ⟨gr, 0, none⟩)] w fun e w' => ∃ v s', rNum bs s = (v, s') ∧ e = .returned (.int .u64 (v : Int)) ∧ v < 18446744073709551616 ∧ Chg [gr] w w' ∧ Rr w' gr A n c s'.1 s'.2 bs := by
  refine (uvarint_any w gr n c s.1 s.2 A bs R).mono ?_
  rintro e w' ⟨v, rfl, hc, hk, hR⟩
  unfold KNum at hk
  subst hk
  exact ⟨_, _, rfl, rfl, rNum_bd R, hc, hR⟩
theorem cNumV (R : Rr w gr A n c s.1 s.2 bs) : Calls Tryd.prog 61 #[.pointer (some ⟨gr, 0, none⟩)] w fun e w' => ∃ v s', rNum bs s = (v, s') ∧ e = .returned (.int .i64 (unz (v : Int))) ∧ (-9223372036854775808 ≤ unz (v : Int) ∧ unz (v : Int) ≤ 9223372036854775807) ∧ Chg [gr] w w' ∧ Rr w' gr A n c s'.1 s'.2 bs := by
  refine (varint_any w gr n c s.1 s.2 A bs R).mono ?_
  rintro e w' ⟨v, rfl, hc, hk, hR⟩
  unfold KZag at hk
  subst hk
  have h5 : ∀ v : Nat, v < 18446744073709551616 → -9223372036854775808 ≤ unz (v : Int) ∧ unz (v : Int) ≤ 9223372036854775807 := fun v hv => unz_bd _ (by omega) (by omega)
  exact ⟨_, _, rfl, rfl, h5 _ (rNum_bd R), hc, hR⟩
theorem cBlk (most : Nat) (hm : most ≤ 1048576) (R : Rr w gr A n c s.1 s.2 bs) : Calls Tryd.prog 63 #[.pointer (some ⟨gr, 0, none⟩), .int .i64 (most : Int)] w fun e w' => ∃ l s' vb cp, rBlk bs (most : Int) s = (l, s') ∧ e = .returned (.slice vb l.length cp) ∧ w'.ownsRow w.heap.size 5 1 (.slice vb l.length cp) l.length (cb l) ∧ Chg [gr] w w' ∧ Rr w' gr A n c s'.1 s'.2 bs := by
  refine (blk_any w gr n c s.1 s.2 A bs (most : Int) (by omega) R).mono ?_
  rintro e w' ⟨v, rfl, hc, hk, hR⟩
  obtain ⟨A', c', rfl, _, _⟩ := own_form hk
  exact ⟨_, _, A', c', rfl, rfl, hk, hc, hR⟩
theorem cTxt (most each : Nat) (hm : most ≤ 1048576) (he : each ≤ 1048576) (R : Rr w gr A n c s.1 s.2 bs) : Calls Tryd.prog 64 #[.pointer (some ⟨gr, 0, none⟩), .int .i64 (most : Int), .int .i64 (each : Int)] w fun e w' => ∃ l s' vb cp, rTxt bs (most : Int) (each : Int) s = (l, s') ∧ e = .returned (.slice vb l.length cp) ∧ w'.ownsRow w.heap.size 9 1 (.slice vb l.length cp) l.length (cs (l.map bstr)) ∧ Chg [gr] w w' ∧ Rr w' gr A n c s'.1 s'.2 bs := by
  refine (texts_any w gr n c s.1 s.2 A bs (most : Int) (each : Int) (by omega) (by omega) R).mono ?_
  rintro e w' ⟨v, rfl, hc, hk, hR⟩
  unfold KTxt at hk
  obtain ⟨A', c', rfl, _, _⟩ := own_form hk
  exact ⟨_, _, A', c', rfl, rfl, hk, hc, hR⟩
end
theorem infoRq8 : (Tryd.prog.info? 34).map (·.size) = some 8 := by kernel_rfl
theorem infoAn15 : (Tryd.prog.info? 94).map (·.size) = some 15 := by kernel_rfl
/-- Where a reading of a message stands: the box of the result, the message's own, the codec's reader. -/
structure QS (w W : World) (t gx gq gr : Nat) (A : Option Addr) (n c : Nat) (s : Nat × Int) (bs : List Nat) (zs : Array Value) (M : Wm) : Prop where
  box : W.heap[gq]? = some (.cells M.cells.toArray t)
  res : W.heap[gx]? = some (.cells zs t)
  rdr : Rr W gr A n c s.1 s.2 bs
  ch : Chg [gr] w W
  ok : M.ok W (gq + 1)
  l1 : gr < w.heap.size
  l2 : w.heap.size ≤ gx
  l3 : gx < gq
section
variable {w W W' : World} {t gx gq gr n c : Nat} {A : Option Addr} {s s' : Nat × Int} {bs : List Nat} {zs : Array Value} {M M' : Wm}
theorem QS.lt (h : QS w W t gx gq gr A n c s bs zs M) : gq < W.heap.size := (Array.getElem?_eq_some_iff.1 h.box).1
/-- A call of the codec's reader. -/
theorem QS.call (h : QS w W t gx gq gr A n c s bs zs M) (hc : Chg [gr] W W') (hR : Rr W' gr A n c s'.1 s'.2 bs) : QS w W' t gx gq gr A n c s' bs zs M where
  box := by rw [hc.block gq h.lt (by have := h.l1; have := h.l2; have := h.l3; simp; omega)]; exact h.box
  res := by rw [hc.block gx (by have := h.lt; have := h.l3; omega) (by have := h.l1; have := h.l2; simp; omega)]; exact h.res
  rdr := hR
  ch := h.ch.trans hc
  ok := h.ok.chg hc fun r hr k hk => by have := (h.ok.lt hr hk).1; have := h.l1; have := h.l2; have := h.l3; simp; omega
  l1 := h.l1
  l2 := h.l2
  l3 := h.l3
theorem QS.below (h : QS w W t gx gq gr A n c s bs zs M) (hb : Chg [] W W') : QS w W' t gx gq gr A n c s bs zs M :=
  h.call (hb.mono (by simp)) (h.rdr.keep hb (by simp) (by simp))
/-- A field is written; a row more may be owned. -/
theorem QS.set (h : QS w W t gx gq gr A n c s bs zs M) (i : Nat) (u : Value) (hM : M'.cells = M.cells.set i u) (hok : M'.ok W (gq + 1)) : QS w (W.setCell ⟨gq, i, none⟩ u) t gx gq gr A n c s bs zs M' where
  box := by rw [heap_set W gq i u _ _ h.box, hM]; simp
  res := by rw [Below.heap_setCell _ _ _ _ (by show gx ≠ gq; have := h.l3; omega)]; exact h.res
  rdr := h.rdr.keep' ((Chg.refl [gq] W).setCell (by simp) u) (by simp; have := h.l1; have := h.l2; have := h.l3; omega)
  ch := h.ch.setNew (by show w.heap.size ≤ gq; have := h.l2; have := h.l3; omega) u
  ok := hok.chg ((Chg.refl [gq] W).setCell (by simp) u) fun r hr k hk => by have := (hok.lt hr hk).1; simp; omega
  l1 := h.l1
  l2 := h.l2
  l3 := h.l3
theorem QS.at_ (h : QS w W t gx gq gr A n c s bs zs M) (i : Nat) {v : Value} (hv : M.cells[i]? = some v) : W.cell? ⟨gq, i, none⟩ = some v := by rw [cell_of_row W gq i _ _ (0, 0) h.box]; simpa using hv
theorem QS.range (h : QS w W t gx gq gr A n c s bs zs M) : W.rangeAt gq 0 M.cells := fun j v hj => by rw [Nat.zero_add]; exact h.at_ j hj
theorem QS.stored (h : QS w W t gx gq gr A n c s bs zs M) {cells : Array Value} (hs : W'.heap[gx]? = some (.cells cells t)) (hg : W.grownBy W' (some gx)) : QS w W' t gx gq gr A n c s bs cells M where
  box := by rw [hg.block gq h.lt (by have := h.l3; intro e; injection e; omega)]; exact h.box
  res := hs
  rdr := h.rdr.keep' (L := [gx]) ⟨hg.os, hg.tape, hg.output, hg.size, fun k hk hm => hg.block k hk (by simpa using hm)⟩ (by simp; have := h.l1; have := h.l2; omega)
  ch := ⟨hg.os.trans h.ch.os, hg.tape.trans h.ch.tape, hg.output.trans h.ch.output, Nat.le_trans h.ch.size hg.size, fun k hk hm => (hg.block k (Nat.lt_of_lt_of_le hk h.ch.size) (by have := h.l2; intro e; injection e; omega)).trans (h.ch.block k hk hm)⟩
  ok := h.ok.chg (X := [gx]) ⟨hg.os, hg.tape, hg.output, hg.size, fun k hk hm => hg.block k hk (by simpa using hm)⟩ fun r hr k hk => by have := (h.ok.lt hr hk).1; have := h.l3; simp; omega
  l1 := h.l1
  l2 := h.l2
  l3 := h.l3
theorem QS.z (h : QS w W t gx gq gr A n c s bs zs M) (i : Nat) : W.frozen? ⟨gq, i, none⟩ = false := by simp [World.frozen?, h.box]
end
/-- A whole value laid into a box, as a step of a region that draws its order. -/
theorem step_store {P : Program} {ops : Array Oper} {o : Oper} {a : Act} {w : World} {K : Act → World → Prop} {Q : Exit → Act → World → Prop} {Z : Prop} (hgd : o.guard = none) (ty : TypeId) (x y : Operand) (ho : o.op = .store ty x y)
    (g : Nat) (cells : Array Value) (hx : a.eval x = .pointer (some ⟨g, 0, none⟩)) (hy : a.eval y = .agg cells) (t : TypeId) (old : Array Value) (hg : w.heap[g]? = some (.cells old t (0, 0))) (hi : (P.info? ty).map (·.size) = some cells.size)
    (hold : old.size = cells.size) (h1 : cells.all (·.oneCell') = true)
    (h : ∀ w2, w2.heap[g]? = some (.cells cells t (0, 0)) → w.grownBy w2 (some g) → K (a.put o.dst undef) w2) : if Region.wanted o (yielded ops a.tmps) = true then Oper.wp P o a w K Q else Z := by
  have hw : Region.wanted o (yielded ops a.tmps) = true := by simp [Region.wanted, hgd]
  rw [if_pos hw]
  exact wp_store_row ty x y ho g cells hx hy t old hg hi hold h1 (h _ (setRow_heap _ _ _ _ _ _ hg) ⟨rfl, rfl, rfl, by simp [World.setRow], fun k _ hk => setRow_other w g k cells (fun e => hk (by rw [e]))⟩)
/-- What a reading of a message answers. -/
def MsgPost (T : Type) (rd : List Nat → Option T) (is : Wm → T → Prop) (m : Nat) (w : World) (gr : Nat) (bs : List Nat) (e : Ending) (w' : World) : Prop :=
  ∃ (W : Wm) (ok : Bool), e = .returned (.tuple #[.agg W.cells.toArray, .bool ok]) ∧ Chg [gr] w w' ∧ W.cells.length = m ∧ W.cells.toArray.all (·.oneCell') = true ∧ ((∃ x, ok = true ∧ rd bs = some x ∧ is W x ∧ W.ok w' w.heap.size) ∨ (ok = false ∧ rd bs = none))
end Go.Proofs.YtbcmjjcbjojakaaDoor
end
section
namespace Go.Proofs.YtbcmjjcbjojakaaDoor
open Go.RowKit
set_option linter.unusedVariables false
def Wms (ws : List Wm) : List Value := ws.flatMap Wm.cells
/-- The slice v is a queue of these messages. -/
def Que (w : World) (base e size : Nat) (v : Value) (ws : List Wm) : Prop :=
  (∀ W ∈ ws, W.cells.length = size ∧ ∀ u ∈ W.cells, u.oneCell' = true) ∧
  ((v = .slice none 0 0 ∧ ws = []) ∨
  ∃ (g off cap : Nat) (cur : Array Value), v = .slice (some ⟨g, off, none⟩) ws.length cap ∧ base ≤ g ∧ w.heap[g]? = some (.cells cur e (0, 0)) ∧ ws.length ≤ cap ∧ cap ≤ maxLen ∧ off + cap * size ≤ cur.size ∧ (cur.toList.drop off).take (ws.length * size) = Wms ws)
theorem Wms_len {ws : List Wm} {size : Nat} (h : ∀ W ∈ ws, W.cells.length = size ∧ ∀ u ∈ W.cells, u.oneCell' = true) : (Wms ws).length = ws.length * size := by
  induction ws with
  | nil => simp [Wms]
  | cons W ws ih =>
    have h1 := (h W (by simp)).1
    have h2 := ih fun x hx => h x (by simp [hx])
    unfold Wms at h2 ⊢
    rw [List.flatMap_cons, List.length_append, h1, h2, List.length_cons, Nat.add_mul]; omega
section
variable {w w' : World} {base e size : Nat} {v v' : Value} {ws : List Wm} {W : Wm}
theorem Que.nil (w : World) (base e size : Nat) : Que w base e size (.slice none 0 0) [] := ⟨fun _ h => absurd h List.not_mem_nil, .inl ⟨rfl, rfl⟩⟩
theorem Que.form (h : Que w base e size v ws) : ∃ A c, v = .slice A ws.length c ∧ ws.length ≤ c := by
  rcases h.2 with ⟨rfl, rfl⟩ | ⟨g, off, cap, cur, rfl, _, _, hn, _⟩
  · exact ⟨none, 0, rfl, Nat.le_refl _⟩
  · exact ⟨_, cap, rfl, hn⟩
theorem Que.lt (h : Que w base e size v ws) {k : Nat} (hk : v.ownBlock = some k) : base ≤ k ∧ k < w.heap.size := by
  rcases h.2 with ⟨rfl, rfl⟩ | ⟨g, off, cap, cur, rfl, hb, hg, _⟩
  · cases hk
  · simp only [Value.ownBlock, Option.some.injEq] at hk
    subst hk
    exact ⟨hb, (Array.getElem?_eq_some_iff.1 hg).1⟩
theorem Que.block (h : Que w base e size v ws) (hb : ∀ k, v.ownBlock = some k → w'.heap[k]? = w.heap[k]?) : Que w' base e size v ws := by
  refine ⟨h.1, ?_⟩
  rcases h.2 with ⟨rfl, rfl⟩ | ⟨g, off, cap, cur, rfl, h1, hg, h2⟩
  · exact .inl ⟨rfl, rfl⟩
  · exact .inr ⟨g, off, cap, cur, rfl, h1, by rw [hb g (by simp [Value.ownBlock])]; exact hg, h2⟩
theorem Que.chg {X : List Nat} (h : Que w base e size v ws) (c : Chg X w w') (hX : ∀ k, v.ownBlock = some k → k ∉ X) : Que w' base e size v ws :=
  h.block fun k hk => c.block k (h.lt hk).2 (hX k hk)
/-- The first message lies at the slice's beginning. -/
theorem Que.first (h : Que w base e size v (W :: ws)) (hs : 0 < size) : ∃ g off cap, v = .slice (some ⟨g, off, none⟩) (ws.length + 1) cap ∧ base ≤ g ∧ g < w.heap.size ∧ w.rangeAt g off W.cells := by
  rcases h.2 with ⟨_, h0⟩ | ⟨g, off, cap, cur, rfl, hb, hg, h1, h2, h3, h4⟩
  · cases h0
  · refine ⟨g, off, cap, rfl, hb, (Array.getElem?_eq_some_iff.1 hg).1, fun j u hj => ?_⟩
    have hl := (h.1 W (by simp)).1
    have hjl := (List.getElem?_eq_some_iff.1 hj).1
    rw [cell_of_row w g (off + j) cur e (0, 0) hg]
    have e1 : (Wms (W :: ws))[j]? = some u := by unfold Wms; rw [List.flatMap_cons, List.getElem?_append_left hjl]; exact hj
    rw [← h4, List.getElem?_take, if_pos (by simp only [List.length_cons, Nat.add_mul, Nat.one_mul]; omega), List.getElem?_drop] at e1
    simpa using e1
theorem run_cut_fromN {P : Program} {w : World} {t e size bytes : Nat} (E : ElN P t e size bytes) (A : Option Addr) (n c l : Nat) (hl : l ≤ n) :
    (Instr.slice t (.slice A n c) (some (.int .i64 (l : Int))) none none).run P w = .ok (.slice (if c = l then A else A.map (·.add (l * size))) (n - l) (c - l)) w := by
  obtain ⟨i, z, hi, hz, hs, hb, hzs⟩ := E.hi
  simp [Instr.slice, run_underlying E.ht, Instr.sliceBounds, run_sliceBound, sizeOf, typeInfo, hi, hs, hl, Int.ofNat_le]
/-- Cut from the front. -/
theorem Que.pop (h : Que w base e size v (W :: ws)) {P : Program} {t bytes : Nat} (E : ElN P t e size bytes) : ∃ v', (Instr.slice t v (some (.int .i64 1)) none none).run P w = .ok v' w ∧ Que w base e size v' ws ∧ v'.ownBlock = v.ownBlock := by
  obtain ⟨i, z, hi, hz, hs, hb, hzs⟩ := E.hi
  rcases h.2 with ⟨_, h0⟩ | ⟨g, off, cap, cur, rfl, hb', hg, h1, h2, h3, h4⟩
  · cases h0
  have hl := (h.1 W (by simp)).1
  simp only [List.length_cons] at h1 h4 ⊢
  have hrun := run_cut_fromN (w := w) E (some ⟨g, off, none⟩) (ws.length + 1) cap 1 (by omega)
  refine ⟨_, hrun, ⟨fun x hx => h.1 x (by simp [hx]), ?_⟩, ?_⟩
  · by_cases hc : cap = 1
    · have : ws = [] := List.eq_nil_of_length_eq_zero (by omega)
      subst this hc
      exact .inr ⟨g, off, 0, cur, by simp, hb', hg, by simp, by omega, by omega, by simp [Wms]⟩
    · refine .inr ⟨g, off + size, cap - 1, cur, ?_, hb', hg, by omega, by omega, ?_, ?_⟩
      · rw [if_neg hc]; simp only [Option.map_some, Nat.one_mul, Nat.add_sub_cancel]
        congr 2
        unfold Addr.add; split
        · rename_i h0; subst h0; rfl
        · rfl
      · have : cap = (cap - 1) + 1 := by omega
        rw [this, Nat.add_mul, Nat.one_mul] at h3; omega
      · have e1 : Wms (W :: ws) = W.cells ++ Wms ws := by unfold Wms; rw [List.flatMap_cons]
        rw [e1] at h4
        have e2 := congrArg (List.drop size) h4
        rw [List.drop_left' hl, List.drop_take, List.drop_drop] at e2
        rw [← e2]
        congr 1
        rw [Nat.add_mul, Nat.one_mul]; omega
  · by_cases hc : cap = 1
    · rw [if_pos hc]; rfl
    · rw [if_neg hc]
      simp only [Option.map_some, Value.ownBlock]
      unfold Addr.add; split <;> rfl
/-- 'append' behind an offset, where there is room. -/
theorem run_append_roomO {P : Program} (w : World) (t ty e : TypeId) (i : TypeInfo) (ht : P.underlying t = some (.slice e)) (hi : P.info? e = some i)
    (g off sLen sCap : Nat) (cur : Array Value) (hg : w.heap[g]? = some (.cells cur e (0, 0)))
    (a : Addr) (m c : Nat) (news : List Value) (hl : news.length = m * i.size) (hnews : ∀ j u, news[j]? = some u → w.cell? (a.add j) = some u) (h1 : ∀ u ∈ news, u.oneCell' = true)
    (hroom : sLen + m ≤ sCap) (hfit : off + sLen * i.size + news.length ≤ cur.size) :
    (Builtin.append_ #[t, t] ty #[.slice (some ⟨g, off, none⟩) sLen sCap, .slice (some a) m c]).run P w =
      .ok (.slice (some ⟨g, off, none⟩) (sLen + m) sCap) (w.setRow g (cur.toList.take (off + sLen * i.size) ++ news ++ cur.toList.drop (off + sLen * i.size + news.length)).toArray) := by
  have hf := run_firstCells_some (P := P) w i.size m a m c news hl hnews
  have hst := run_storeCells_at P g (off + sLen * i.size) e news 0 cur w hg (by simpa using hfit) h1
  simp only [Nat.add_zero] at hst
  have ha : (⟨g, off, none⟩ : Addr).add (sLen * i.size) = ⟨g, off + sLen * i.size, none⟩ := by unfold Addr.add; split <;> simp_all
  simp [Builtin.append_, run_underlying ht, sizeOf, typeInfo, hi, Builtin.lenOf, hroom, hf, ha, hst]
/-- A message more. -/
theorem Que.push (h : Que w base e size v ws) {P : Program} {t ty bytes : Nat} (E : ElN P t e size bytes) (hW : W.cells.length = size ∧ ∀ u ∈ W.cells, u.oneCell' = true)
    (a : Addr) (c : Nat) (ha : ∀ j u, W.cells[j]? = some u → w.cell? (a.add j) = some u) (h63 : ws.length + 1 ≤ 1000000000000) (hbytes : (ws.length + 1) * bytes ≤ 140737488355328) (hbase : base ≤ w.heap.size) :
    ∃ v' w', (Builtin.append_ #[t, t] ty #[v, .slice (some a) 1 c]).run P w = .ok v' w' ∧ Que w' base e size v' (ws ++ [W]) ∧ w.grownBy w' v.ownBlock ∧ (v'.ownBlock = v.ownBlock ∨ v'.ownBlock = some w.heap.size) := by
  obtain ⟨i, z, hi, hz, hs, hb, hzs⟩ := E.hi
  have hall : ∀ x ∈ ws ++ [W], x.cells.length = size ∧ ∀ u ∈ x.cells, u.oneCell' = true := fun x hx => by
    rcases List.mem_append.1 hx with h1 | h1
    · exact h.1 x h1
    · rw [List.mem_singleton.1 h1]; exact hW
  have e1 : Wms (ws ++ [W]) = Wms ws ++ W.cells := by unfold Wms; rw [List.flatMap_append]; simp
  have hwl := Wms_len h.1
  rcases h.2 with ⟨rfl, rfl⟩ | ⟨g, off, cap, cur, rfl, hb', hg, h1, h2, h3, h4⟩
  · obtain ⟨v', w', hr, h2, h3, _, h5⟩ := run_append_own_at (P := P) w base t ty e i z size bytes E.ht hi hz hs hb hzs E.hs.1 (.slice none 0 0) 0 [] (World.ownsRow_nil ..) a 1 c W.cells (by rw [hW.1]; omega) ha hW.2 (by unfold maxLen; omega) (by simpa using hbytes) hbase
    refine ⟨v', w', hr, ⟨hall, ?_⟩, h3, h5⟩
    rcases h2.2 with ⟨_, h0⟩ | ⟨g, cap, cur, rfl, hb', hg, hn, hm, hcs, ht⟩
    · omega
    · exact .inr ⟨g, 0, cap, cur, by simp, hb', hg, by simpa using hn, hm, by omega, by simpa [Wms] using ht⟩
  · by_cases hroom : ws.length + 1 ≤ cap
    · have hfit : off + ws.length * i.size + W.cells.length ≤ cur.size := by
        rw [hs, hW.1]
        have : (ws.length + 1) * size ≤ cap * size := Nat.mul_le_mul_right _ hroom
        rw [Nat.add_mul, Nat.one_mul] at this; omega
      have hr := run_append_roomO (P := P) w t ty e i E.ht hi g off ws.length cap cur hg a 1 c W.cells (by rw [hW.1, hs]; omega) ha hW.2 hroom hfit
      refine ⟨_, _, hr, ⟨hall, .inr ⟨g, off, cap, _, by simp, hb', setRow_heap w g cur _ e _ hg, by simpa using hroom, h2, ?_, ?_⟩⟩, ⟨rfl, rfl, rfl, by simp [World.setRow], fun k _ hk => setRow_other w g k _ (fun e => hk (by simp [Value.ownBlock, e]))⟩, .inl rfl⟩
      · simp only [List.size_toArray, List.length_append, List.length_take, List.length_drop, Array.length_toList]; omega
      · rw [e1, ← h4, hs]
        simp only [List.length_append, List.length_cons, List.length_nil]
        have hlo : (cur.toList.take (off + ws.length * size)).length = off + ws.length * size := by rw [List.length_take, Array.length_toList]; have hf2 := hfit; rw [hs] at hf2; exact Nat.min_eq_left (Nat.le_trans (Nat.le_add_right _ _) hf2)
        rw [List.append_assoc, List.drop_append_of_le_length (by rw [hlo]; omega), List.drop_take, show off + ws.length * size - off = ws.length * size by omega]
        rw [Nat.add_mul, Nat.one_mul]
        have hlx : ((cur.toList.drop off).take (ws.length * size)).length = ws.length * size := by rw [h4]; exact hwl
        rw [← List.append_assoc, List.take_append_of_le_length (by rw [List.length_append, hlx, hW.1]; simp), List.take_of_length_le (by rw [List.length_append, hlx, hW.1]; simp)]
    · have hcell : ∀ j u, (Wms ws)[j]? = some u → w.cell? ((⟨g, off, none⟩ : Addr).add j) = some u := fun j u hj => by
        have hjl := (List.getElem?_eq_some_iff.1 hj).1
        rw [hwl] at hjl
        rw [show (⟨g, off, none⟩ : Addr).add j = ⟨g, off + j, none⟩ by unfold Addr.add; split <;> simp_all, cell_of_row w g (off + j) cur e (0, 0) hg]
        rw [← h4, List.getElem?_take, if_pos hjl, List.getElem?_drop] at hj
        simpa using hj
      have hr := run_append_grow (P := P) w t ty e i z E.ht hi hz ⟨g, off, none⟩ ws.length cap (Wms ws) (by rw [hs]; exact hwl) hcell a 1 c W.cells (by rw [hs, hW.1]; omega) ha (by omega) (by omega) (growslice_fits (by omega) (by rw [hb]; exact hbytes))
      have hge := grownCap_ge w (ws.length + 1) cap e
      have hcm : grownCap w (ws.length + 1) cap e ≤ maxLen := grownCap_le_maxLen w (ws.length + 1) cap e (by unfold maxLen; omega)
      refine ⟨_, _, hr, ⟨hall, .inr ⟨w.heap.size, 0, _, _, by simp, hbase, heap_alloc_new w.drew _, by simpa using hge, hcm, ?_, ?_⟩⟩, ⟨rfl, rfl, rfl, by simp, fun k hk _ => heap_alloc_old w.drew _ hk⟩, .inr rfl⟩
      · simp only [Array.size_append, List.size_toArray, size_zeroCells, hzs, hwl, hW.1, Nat.zero_add]
        obtain ⟨q, hq⟩ : ∃ q, grownCap w (ws.length + 1) cap e = ws.length + 1 + q := ⟨grownCap w (ws.length + 1) cap e - (ws.length + 1), by omega⟩
        rw [hq, Nat.add_sub_cancel_left, Nat.add_mul, Nat.add_mul, Nat.one_mul]; omega
      · rw [e1]
        simp only [Array.toList_append, List.drop_zero, List.length_append, List.length_cons, List.length_nil]
        rw [List.take_append_of_le_length (by simp only [List.length_append, hwl, hW.1]; rw [Nat.add_mul]; omega), List.take_of_length_le (by simp only [List.length_append, hwl, hW.1]; rw [Nat.add_mul]; omega)]
end
end Go.Proofs.YtbcmjjcbjojakaaDoor
end
