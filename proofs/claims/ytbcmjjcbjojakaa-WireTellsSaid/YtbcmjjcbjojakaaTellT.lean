/- Where a telling stands: the answer's box, and what was put. -/
import Derived.Test.YtbcmjjcbjojakaaTellB
import Derived.Test.YtbcmjjcbjojakaaHeldBy
namespace Go.Proofs.Ytbcmjjcbjojakaa
open Go.RowKit
set_option linter.unusedVariables false
structure TS (w w' : World) (g : Nat) (xs : Array Value) : Prop where
  an : w'.heap[g]? = some (.cells xs 43)
  bel : Below w.heap.size w w'
structure TB (w w' : World) (g : Nat) (xs : Array Value) (v : Value) (L : List Nat) : Prop where
  sta : TS w w' g xs
  rd : ∃ A c, v = .slice A L.length c ∧ L.length ≤ c ∧ Rd w' w'.heap.size A L.length (cb L)
  own : w'.ownsRow w.heap.size 5 1 v L.length (cb L)
theorem tx_len (ts : List ByteArray) (m : Nat) (h : shortL ts m) : (tx ts).length ≤ 265 * ts.length := by
  replace h := h.2
  induction ts with
  | nil => simp [tx]
  | cons t ts ih =>
    have h1 := ih fun x hx => h x (by simp [hx])
    have h2 := h t (by simp)
    have h3 := uv_len t.size
    unfold tx at h1 ⊢
    simp only [List.flatMap_cons, List.length_append, List.length_cons, sb_len]
    omega
section
variable {w w1 w2 : World} {g : Nat} {xs : Array Value} {v v' : Value} {L X : List Nat}
theorem TS.step (h : TS w w1 g xs) (b : Below w1.heap.size w1 w2) : TS w w2 g xs :=
  ⟨by rw [b.block g (Array.getElem?_eq_some_iff.1 h.an).1]; exact h.an, h.bel.trans (b.mono h.bel.size)⟩
theorem TS.c (h : TS w w1 g xs) (i : Nat) {v : Value} (hv : xs[i]? = some v) : w1.cell? ⟨g, i, none⟩ = some v := by rw [cell_of_row w1 g i _ _ (0, 0) h.an]; exact hv
theorem TB.put (h : TS w w1 g xs) {m : Nat} (hm : m = L.length) (hO : Onto w1 w2 w1.heap.size 5 (.slice none 0 0) v' m (cb L)) : TB w w2 g xs v' L := by
  subst hm
  obtain ⟨A, c, e, hc, _⟩ := own_form hO.own
  refine ⟨h.step (hO.below (fun k h => by cases h) (Nat.le_refl _)), ⟨A, c, e, hc, ?_⟩, own_base hO.own h.bel.size⟩
  subst e
  exact Rd.of_own hO.own
theorem TB.drew (h : TB w w1 g xs v L) : TB w w1.drew g xs v L :=
  ⟨h.sta.step (Below.refl _ _).drew, let ⟨A, c, e, hc, hr⟩ := h.rd; ⟨A, c, e, hc, hr.keep fun _ _ => rfl⟩, own_below' h.own (Below.refl _ _).drew⟩
theorem TB.below (h : TB w w1 g xs v L) (b : Below w1.heap.size w1 w2) : TB w w2 g xs v L :=
  ⟨h.sta.step b, let ⟨A, c, e, hc, hr⟩ := h.rd; ⟨A, c, e, hc, (hr.below b).more b.size⟩, own_below' h.own b⟩
theorem TB.alloc (h : TB w w1 g xs v L) (o : Obj) : TB w (w1.alloc o) g xs v L := h.below ((Below.refl _ _).alloc (Nat.le_refl _) o)
theorem tputStr_any (W : World) (t : ByteArray) (G : Nat) (A : Option Addr) (n c : Nat) (bs : List Nat) (h : TB w W g xs (.slice A n c) bs) (hn : n ≤ 33554432) (ht : t.size ≤ 2097152) :
    Calls Try.prog 58 #[.slice A n c, .slice (some ⟨W.heap.size, 0, none⟩) t.size G] (W.alloc (.cells (bytesRow t G) 5 ((bytesRow t G).size, (bytesRow t G).size + 1))).drew fun e w' => ∃ v', e = .returned v' ∧ TB w w' g xs v' (bs ++ us t) := by
  obtain ⟨A', c', e, hc, hr⟩ := h.rd
  injection e with e1 e2 e3
  subst e1 e2 e3
  have hA := h.sta.step (((Below.refl _ W).alloc (Nat.le_refl _) (.cells (bytesRow t G) 5 ((bytesRow t G).size, (bytesRow t G).size + 1))).drew)
  refine (putBytes_any (W.alloc (.cells (bytesRow t G) 5 ((bytesRow t G).size, (bytesRow t G).size + 1))).drew A (some ⟨W.heap.size, 0, none⟩) bs.length c t.size G (W.heap.size + 1) bs (sb t)
    (((hr.alloc (Nat.le_refl _) (.cells (bytesRow t G) 5 ((bytesRow t G).size, (bytesRow t G).size + 1))).more (Nat.le_succ _)).keep (fun _ _ => rfl)) ((rd_bytes (w := W) (e := 5) (cap := G) t ((bytesRow t G).size, (bytesRow t G).size + 1)).keep (fun _ _ => rfl)) (by omega) (by show W.heap.size + 1 ≤ (W.alloc _).heap.size; simp)).mono ?_
  rintro e w2 ⟨v2, rfl, hO2⟩
  refine ⟨v2, rfl, TB.put hA ?_ (by rw [List.append_assoc] at hO2; exact hO2)⟩
  simp only [List.length_append, us, sb_len]; omega
theorem tputLst_any (W : World) (A A2 : Option Addr) (n c m c2 : Nat) (bs ps : List Nat) (h : TB w W g xs (.slice A n c) bs) (hp : Rd W W.heap.size A2 m (cb ps)) (hn : n ≤ 33554432) (hm : m ≤ 2097152) :
    Calls Try.prog 58 #[.slice A n c, .slice A2 m c2] W fun e w' => ∃ v', e = .returned v' ∧ TB w w' g xs v' (bs ++ ub ps) := by
  have hl : ps.length = m := by have := hp.1; rwa [cb_length] at this
  subst hl
  obtain ⟨A', c', e, hc, hr⟩ := h.rd
  injection e with e1 e2 e3
  subst e1 e2 e3
  refine (putBytes_any W A A2 bs.length c ps.length c2 W.heap.size bs ps hr hp (by omega) (Nat.le_refl _)).mono ?_
  rintro e w2 ⟨v2, rfl, hO2⟩
  refine ⟨v2, rfl, TB.put h.sta ?_ (by rw [List.append_assoc] at hO2; exact hO2)⟩
  simp only [List.length_append, ub]; omega
theorem tputNum_any (W : World) (A : Option Addr) (n c : Nat) (v : Int) (bs : List Nat) (h : TB w W g xs (.slice A n c) bs) (h1 : -9223372036854775808 ≤ v) (h2 : v ≤ 9223372036854775807) (hn : n ≤ 33554432) :
    Calls Try.prog 59 #[.slice A n c, .int .i64 v] W fun e w' => ∃ v', e = .returned v' ∧ TB w w' g xs v' (bs ++ uz v) ∧ ∀ k, k < W.heap.size → w'.heap[k]? = W.heap[k]? := by
  obtain ⟨A', c', e, hc, hr⟩ := h.rd
  injection e with e1 e2 e3
  subst e1 e2 e3
  refine (putVar_any W A bs.length c W.heap.size v bs hr h1 h2 (by omega) (Nat.le_refl _)).mono ?_
  rintro e w2 ⟨v2, rfl, hO2⟩
  exact ⟨v2, rfl, TB.put h.sta (by rw [List.length_append]) hO2, (hO2.below (fun k h => by cases h) (Nat.le_refl _)).block⟩
theorem tputTxt_any (W : World) (A A2 : Option Addr) (n c m c2 M : Nat) (bs : List Nat) (ts : List ByteArray) (h : TB w W g xs (.slice A n c) bs) (hp : Rd W W.heap.size A2 m (cs ts)) (hn : n ≤ 33554432) (hs : shortL ts M) (hM : M ≤ 65536) :
    Calls Try.prog 68 #[.slice A n c, .slice A2 m c2] W fun e w' => ∃ v', e = .returned v' ∧ TB w w' g xs v' (bs ++ ut ts) ∧ True := by
  have hl : ts.length = m := by have := hp.1; rwa [cs_len] at this
  subst hl
  have ht := tx_len ts M hs
  have hm := hs.1
  obtain ⟨A', c', e, hc, hr⟩ := h.rd
  injection e with e1 e2 e3
  subst e1 e2 e3
  refine (putTexts_any W A A2 bs.length c ts.length c2 W.heap.size bs ts hr hp (by omega) (by omega) (Nat.le_refl _)).mono ?_
  rintro e w2 ⟨v2, rfl, hO2⟩
  refine ⟨v2, rfl, TB.put h.sta ?_ (by rw [List.append_assoc] at hO2; exact hO2), trivial⟩
  simp only [List.length_append, ut]; omega
theorem tput8_any (W : World) (A : Option Addr) (n c x : Nat) (bs : List Nat) (h : TB w W g xs (.slice A n c) bs) (hx : x < 256) (hn : n ≤ 33554432) :
    Calls Try.prog 57 #[.slice A n c, .int .u8 (x : Int)] W fun e w' => ∃ v', e = .returned v' ∧ TB w w' g xs v' (bs ++ fx 1 x) := by
  obtain ⟨A', c', e, hc, hr⟩ := h.rd
  injection e with e1 e2 e3
  subst e1 e2 e3
  refine (put_uint8 W A bs.length c W.heap.size x bs hr hx (by omega) (Nat.le_refl _)).mono ?_
  rintro e w2 ⟨v2, rfl, hO2⟩
  exact ⟨v2, rfl, TB.put h.sta (by rw [List.length_append, fx_len]) hO2⟩
theorem tform_any (W : World) (A : Option Addr) (n c : Nat) (bs : List Nat) (h : TB w W g xs (.slice A n c) bs) (hb : ∀ x ∈ bs, x < 256) (hn : n ≤ 33554432) :
    Calls Try.prog 60 #[.slice A n c] W fun e w' => ∃ v', e = .returned v' ∧ Onto w w' w.heap.size 5 (.slice none 0 0) v' (formP bs).length (cb (formP bs)) := by
  obtain ⟨A', c', e, hc, hr⟩ := h.rd
  injection e with e1 e2 e3
  subst e1 e2 e3
  refine (form_any W A bs.length c bs hr hc hb (by omega)).mono ?_
  rintro e w2 ⟨v2, rfl, hO2⟩
  exact ⟨v2, rfl, onto_fresh w h.sta.bel hO2⟩
end
/-- The numbers of an answer are of 64 bits. -/
structure AnB (a : An) : Prop where
  tag : a.tag < 18446744073709551616
  b : ∀ x ∈ a.body, x < 256
  n : ∀ v, v = a.ge ∨ v = a.gc ∨ v = a.size ∨ v = a.h1 ∨ v = a.h2 ∨ v = a.h3 ∨ v = a.h4 → -9223372036854775808 ≤ v ∧ v ≤ 9223372036854775807
/-- What both answer. -/
def TellPost (a : An) (w : World) (e : Ending) (w' : World) : Prop := ∃ v', e = .returned (.tuple #[v', .int .i64 (tellP a).2]) ∧ Onto w w' w.heap.size 5 (.slice none 0 0) v' (tellP a).1.length (cb (tellP a).1)
section
variable {a : An} {w w1 w' : World} {v : Value}
theorem TellPost.bad (h : ¬ anOk a) (b : Below w.heap.size w w') : TellPost a w (.returned (.tuple #[.slice none 0 0, .int .i64 2])) w' := by
  have : tellP a = ([], 2) := by unfold tellP; rw [if_neg h]
  unfold TellPost; rw [this]; exact ⟨_, rfl, onto_none b⟩
theorem TellPost.big (h : anOk a) (h2 : ¬ anFit a) (b : Below w.heap.size w w') : TellPost a w (.returned (.tuple #[.slice none 0 0, .int .i64 3])) w' := by
  have : tellP a = ([], 3) := by unfold tellP; rw [if_pos h, if_neg h2]
  unfold TellPost; rw [this]; exact ⟨_, rfl, onto_none b⟩
theorem TellPost.good (h : anOk a) (h2 : anFit a) {Z : List Nat} (hZ : anC a = Z) (hO : Onto w w' w.heap.size 5 (.slice none 0 0) v (formP Z).length (cb (formP Z))) :
    TellPost a w (.returned (.tuple #[v, .int .i64 0])) w' := by
  have : tellP a = (formP Z, 0) := by unfold tellP; rw [if_pos h, if_pos h2, hZ]
  unfold TellPost; rw [this]; exact ⟨_, rfl, hO⟩
end
theorem ut_lt (ts : List ByteArray) (m : Nat) (h : shortL ts m) (hm : m < 2 ^ 64) : ∀ x ∈ ut ts, x < 256 := by
  intro x hx
  unfold ut tx at hx
  rcases List.mem_append.1 hx with h1 | h1
  · exact uv_lt _ (by have := h.1; omega) x h1
  · obtain ⟨t, ht, h2⟩ := List.mem_flatMap.1 h1
    have := h.2 t ht
    rcases List.mem_append.1 h2 with h3 | h3
    · exact uv_lt _ (by omega) x h3
    · exact sb_lt t x h3
theorem ut_len (ts : List ByteArray) (m : Nat) (h : shortL ts m) : (ut ts).length ≤ 10 + 265 * m := by
  have h1 := tx_len ts m h
  have h2 := uv_len ts.length
  have h3 := h.1
  unfold ut
  rw [List.length_append]; omega
theorem us_len (s : ByteArray) : (us s).length ≤ s.size + 10 := by unfold us; rw [List.length_append, sb_len]; have := uv_len s.size; omega
def heal4 (h1 h2 h3 h4 : Int) : List Int := [h1, h2, h3, h4]
theorem heal_len (h1 h2 h3 h4 : Int) (k : Nat) : (((heal4 h1 h2 h3 h4).take k).flatMap uz).length ≤ 40 := by
  have e : (((heal4 h1 h2 h3 h4).take k).flatMap uz).length ≤ (([h1, h2, h3, h4] : List Int).flatMap uz).length := by
    have : (heal4 h1 h2 h3 h4).flatMap uz = ((heal4 h1 h2 h3 h4).take k).flatMap uz ++ ((heal4 h1 h2 h3 h4).drop k).flatMap uz := by rw [← List.flatMap_append, List.take_append_drop]
    unfold heal4 at this ⊢
    rw [this, List.length_append]; omega
  have h := uz_len h1
  have := uz_len h2
  have := uz_len h3
  have := uz_len h4
  simp only [List.flatMap_cons, List.flatMap_nil, List.length_append, List.length_nil] at e
  omega
/-! The content, kind by kind. -/
section
variable {tag : Nat} {code : Int} {body : List Nat} {keys groups : List ByteArray} {next : ByteArray} {more : Bool} {ge gc size h1 h2 h3 h4 : Int} {k : Int} {L0 : List Nat} (hL : fx 1 k.toNat ++ fx 8 tag ++ uv code.toNat = L0)
theorem anC_heal (hL : fx 1 k.toNat ++ fx 8 tag ++ uv code.toNat = L0) (hk : k = 8) : anC ⟨k, tag, code, body, keys, groups, next, more, ge, gc, size, h1, h2, h3, h4⟩ = L0 ++ uz h1 ++ uz h2 ++ uz h3 ++ uz h4 := by
  unfold anC
  simp only
  rw [hL, if_pos hk, if_neg (by unfold tBody; simp only; omega), if_neg (by unfold tGen; simp only; omega), if_neg (by unfold tKeys; simp only; omega), if_neg (by unfold tPage; simp only; omega)]
  simp only [List.append_nil, List.append_assoc]
theorem anC_code (hL : fx 1 k.toNat ++ fx 8 tag ++ uv code.toNat = L0) (hk : k ≠ 8) (hc : code ≠ 0 ∨ k = 1 ∨ k = 5) : anC ⟨k, tag, code, body, keys, groups, next, more, ge, gc, size, h1, h2, h3, h4⟩ = L0 := by
  unfold anC
  simp only
  rw [hL, if_neg hk, if_neg (by unfold tBody; simp only; omega), if_neg (by unfold tGen; simp only; omega), if_neg (by unfold tKeys; simp only; omega), if_neg (by unfold tPage; simp only; omega)]
  simp only [List.append_nil]
theorem anC_body (hL : fx 1 k.toNat ++ fx 8 tag ++ uv code.toNat = L0) (hk : k = 2 ∨ k = 3) (hc : code = 0) : anC ⟨k, tag, code, body, keys, groups, next, more, ge, gc, size, h1, h2, h3, h4⟩ = L0 ++ ub body := by
  unfold anC
  simp only
  rw [hL, if_neg (by omega), if_pos (by unfold tBody; simp only; omega), if_neg (by unfold tGen; simp only; omega), if_neg (by unfold tKeys; simp only; omega), if_neg (by unfold tPage; simp only; omega)]
  simp only [List.append_nil]
theorem anC_gen (hL : fx 1 k.toNat ++ fx 8 tag ++ uv code.toNat = L0) (hk : k = 4) (hc : code = 0) : anC ⟨k, tag, code, body, keys, groups, next, more, ge, gc, size, h1, h2, h3, h4⟩ = L0 ++ uz ge ++ uz gc ++ uz size := by
  unfold anC
  simp only
  rw [hL, if_neg (by omega), if_neg (by unfold tBody; simp only; omega), if_pos (by unfold tGen; simp only; omega), if_neg (by unfold tKeys; simp only; omega), if_neg (by unfold tPage; simp only; omega)]
  simp only [List.append_nil, List.append_assoc]
theorem anC_keys (hL : fx 1 k.toNat ++ fx 8 tag ++ uv code.toNat = L0) (hk : k = 6) (hc : code = 0) : anC ⟨k, tag, code, body, keys, groups, next, more, ge, gc, size, h1, h2, h3, h4⟩ = L0 ++ ut keys := by
  unfold anC
  simp only
  rw [hL, if_neg (by omega), if_neg (by unfold tBody; simp only; omega), if_neg (by unfold tGen; simp only; omega), if_pos (by unfold tKeys; simp only; omega), if_neg (by unfold tPage; simp only; omega)]
  simp only [List.append_nil]
theorem anC_page (hL : fx 1 k.toNat ++ fx 8 tag ++ uv code.toNat = L0) (hk : k = 7) (hc : code = 0) : anC ⟨k, tag, code, body, keys, groups, next, more, ge, gc, size, h1, h2, h3, h4⟩ = L0 ++ ut keys ++ ut groups ++ us next ++ fx 1 (if more = true then 1 else 0) := by
  unfold anC
  simp only
  rw [hL, if_neg (by omega), if_neg (by unfold tBody; simp only; omega), if_neg (by unfold tGen; simp only; omega), if_pos (by unfold tKeys; simp only; omega), if_pos (by unfold tPage; simp only; omega)]
  have m1 : [if more = true then 1 else 0] = fx 1 (if more = true then 1 else 0) := by cases more <;> rfl
  rw [m1]
  simp only [List.append_nil, List.append_assoc]
end
end Go.Proofs.Ytbcmjjcbjojakaa
