/- Put together of: TellT MemN MsgW FitA StrmP StrmF. -/
import Derived.Test.YtbcmjjcbjojakaaPk6
import Derived.Test.YtbcmjjcbjojakaaPk1
import Derived.Great.BuildSlice
import Derived.Test.YtbcmjjcbjojakaaPk2
import Derived.Test.YtbcmjjcbjojakaaPk4
import Derived.Test.YtbcmjjcbjojakaaPk5
section
namespace Go.Proofs.Ytbcmjjcbjojakaa
open Go.RowKit
set_option linter.unusedVariables false
structure TS (w w' : World) (g : Nat) (xs : Array Value) : Prop where
 an : w'.heap[g]? = some (.cells xs 43)
 bel : Below w.heap.size w w'
structure TB (w w' : World) (g : Nat) (xs : Array Value) (v : Value) (L : List Nat) : Prop where
 sta : TS w w' g xs
 rd : ∃ A c, v = .slice A L.length c ∧ L.length ≤ c ∧ Rd w' w'.heap.size A L.length (cb L)
 own : w'.ownsRow w.heap.size 5 1 v L.length (cb L)
theorem tx_len (ts : List ByteArray) (m : Nat) (h : shortL ts m) : (tx ts).length ≤ 265 * ts.length := by
 replace h := h.2
 induction ts with
 | nil => simp [tx]
 | cons t ts ih =>
  have h1 := ih fun x hx => h x (by simp [hx])
  have h2 := h t (by simp)
  have h3 := uv_len t.size
  unfold tx at h1 ⊢
  simp only [List.flatMap_cons, List.length_append, List.length_cons, sb_len]
  omega
section
variable {w w1 w2 : World} {g : Nat} {xs : Array Value} {v v' : Value} {L X : List Nat}
theorem TS.step (h : TS w w1 g xs) (b : Below w1.heap.size w1 w2) : TS w w2 g xs :=
 ⟨by rw [b.block g (Array.getElem?_eq_some_iff.1 h.an).1]; exact h.an, h.bel.trans (b.mono h.bel.size)⟩
theorem TS.c (h : TS w w1 g xs) (i : Nat) {v : Value} (hv : xs[i]? = some v) : w1.cell? ⟨g, i, none⟩ = some v := by rw [cell_of_row w1 g i _ _ (0, 0) h.an]; exact hv
theorem TB.put (h : TS w w1 g xs) {m : Nat} (hm : m = L.length) (hO : Onto w1 w2 w1.heap.size 5 (.slice none 0 0) v' m (cb L)) : TB w w2 g xs v' L := by
 subst hm
 obtain ⟨A, c, e, hc, _⟩ := own_form hO.own
 refine ⟨h.step (hO.below (fun k h => by cases h) (Nat.le_refl _)), ⟨A, c, e, hc, ?_⟩, own_base hO.own h.bel.size⟩
 subst e
 exact Rd.of_own hO.own
theorem TB.drew (h : TB w w1 g xs v L) : TB w w1.drew g xs v L :=
 ⟨h.sta.step (Below.refl _ _).drew, let ⟨A, c, e, hc, hr⟩ := h.rd; ⟨A, c, e, hc, hr.keep fun _ _ => rfl⟩, own_below' h.own (Below.refl _ _).drew⟩
theorem TB.below (h : TB w w1 g xs v L) (b : Below w1.heap.size w1 w2) : TB w w2 g xs v L :=
 ⟨h.sta.step b, let ⟨A, c, e, hc, hr⟩ := h.rd; ⟨A, c, e, hc, (hr.below b).more b.size⟩, own_below' h.own b⟩
theorem TB.alloc (h : TB w w1 g xs v L) (o : Obj) : TB w (w1.alloc o) g xs v L := h.below ((Below.refl _ _).alloc (Nat.le_refl _) o)
theorem tputStr_any (W : World) (t : ByteArray) (G : Nat) (A : Option Addr) (n c : Nat) (bs : List Nat) (h : TB w W g xs (.slice A n c) bs) (hn : n ≤ 33554432) (ht : t.size ≤ 2097152) :
  Calls Try.prog 58 #[.slice A n c, .slice (some ⟨W.heap.size, 0, none⟩) t.size G] (W.alloc (.cells (bytesRow t G) 5 ((bytesRow t G).size, (bytesRow t G).size + 1))).drew fun e w' => ∃ v', e = .returned v' ∧ TB w w' g xs v' (bs ++ us t) := by
 obtain ⟨A', c', e, hc, hr⟩ := h.rd
 injection e with e1 e2 e3
 subst e1 e2 e3
 have hA := h.sta.step (((Below.refl _ W).alloc (Nat.le_refl _) (.cells (bytesRow t G) 5 ((bytesRow t G).size, (bytesRow t G).size + 1))).drew)
 refine (putBytes_any (W.alloc (.cells (bytesRow t G) 5 ((bytesRow t G).size, (bytesRow t G).size + 1))).drew A (some ⟨W.heap.size, 0, none⟩) bs.length c t.size G (W.heap.size + 1) bs (sb t)
  (((hr.alloc (Nat.le_refl _) (.cells (bytesRow t G) 5 ((bytesRow t G).size, (bytesRow t G).size + 1))).more (Nat.le_succ _)).keep (fun _ _ => rfl)) ((rd_bytes (w := W) (e := 5) (cap := G) t ((bytesRow t G).size, (bytesRow t G).size + 1)).keep (fun _ _ => rfl)) (by omega) (by show W.heap.size + 1 ≤ (W.alloc _).heap.size; simp)).mono ?_
 rintro e w2 ⟨v2, rfl, hO2⟩
 refine ⟨v2, rfl, TB.put hA ?_ (by rw [List.append_assoc] at hO2; exact hO2)⟩
 simp only [List.length_append, us, sb_len]; omega
theorem tputLst_any (W : World) (A A2 : Option Addr) (n c m c2 : Nat) (bs ps : List Nat) (h : TB w W g xs (.slice A n c) bs) (hp : Rd W W.heap.size A2 m (cb ps)) (hn : n ≤ 33554432) (hm : m ≤ 2097152) :
  Calls Try.prog 58 #[.slice A n c, .slice A2 m c2] W fun e w' => ∃ v', e = .returned v' ∧ TB w w' g xs v' (bs ++ ub ps) := by
 have hl : ps.length = m := by have := hp.1; rwa [cb_length] at this
 subst hl
 obtain ⟨A', c', e, hc, hr⟩ := h.rd
 injection e with e1 e2 e3
 subst e1 e2 e3
 refine (putBytes_any W A A2 bs.length c ps.length c2 W.heap.size bs ps hr hp (by omega) (Nat.le_refl _)).mono ?_
 rintro e w2 ⟨v2, rfl, hO2⟩
 refine ⟨v2, rfl, TB.put h.sta ?_ (by rw [List.append_assoc] at hO2; exact hO2)⟩
 simp only [List.length_append, ub]; omega
theorem tputNum_any (W : World) (A : Option Addr) (n c : Nat) (v : Int) (bs : List Nat) (h : TB w W g xs (.slice A n c) bs) (h1 : -9223372036854775808 ≤ v) (h2 : v ≤ 9223372036854775807) (hn : n ≤ 33554432) :
  Calls Try.prog 59 #[.slice A n c, .int .i64 v] W fun e w' => ∃ v', e = .returned v' ∧ TB w w' g xs v' (bs ++ uz v) ∧ ∀ k, k < W.heap.size → w'.heap[k]? = W.heap[k]? := by
 obtain ⟨A', c', e, hc, hr⟩ := h.rd
 injection e with e1 e2 e3
 subst e1 e2 e3
 refine (putVar_any W A bs.length c W.heap.size v bs hr h1 h2 (by omega) (Nat.le_refl _)).mono ?_
 rintro e w2 ⟨v2, rfl, hO2⟩
 exact ⟨v2, rfl, TB.put h.sta (by rw [List.length_append]) hO2, (hO2.below (fun k h => by cases h) (Nat.le_refl _)).block⟩
theorem tputTxt_any (W : World) (A A2 : Option Addr) (n c m c2 M : Nat) (bs : List Nat) (ts : List ByteArray) (h : TB w W g xs (.slice A n c) bs) (hp : Rd W W.heap.size A2 m (cs ts)) (hn : n ≤ 33554432) (hs : shortL ts M) (hM : M ≤ 65536) :
  Calls Try.prog 68 #[.slice A n c, .slice A2 m c2] W fun e w' => ∃ v', e = .returned v' ∧ TB w w' g xs v' (bs ++ ut ts) ∧ True := by
 have hl : ts.length = m := by have := hp.1; rwa [cs_len] at this
 subst hl
 have ht := tx_len ts M hs
 have hm := hs.1
 obtain ⟨A', c', e, hc, hr⟩ := h.rd
 injection e with e1 e2 e3
 subst e1 e2 e3
 refine (putTexts_any W A A2 bs.length c ts.length c2 W.heap.size bs ts hr hp (by omega) (by omega) (Nat.le_refl _)).mono ?_
 rintro e w2 ⟨v2, rfl, hO2⟩
 refine ⟨v2, rfl, TB.put h.sta ?_ (by rw [List.append_assoc] at hO2; exact hO2), trivial⟩
 simp only [List.length_append, ut]; omega
theorem tput8_any (W : World) (A : Option Addr) (n c x : Nat) (bs : List Nat) (h : TB w W g xs (.slice A n c) bs) (hx : x < 256) (hn : n ≤ 33554432) :
  Calls Try.prog 57 #[.slice A n c, .int .u8 (x : Int)] W fun e w' => ∃ v', e = .returned v' ∧ TB w w' g xs v' (bs ++ fx 1 x) := by
 obtain ⟨A', c', e, hc, hr⟩ := h.rd
 injection e with e1 e2 e3
 subst e1 e2 e3
 refine (put_uint8 W A bs.length c W.heap.size x bs hr hx (by omega) (Nat.le_refl _)).mono ?_
 rintro e w2 ⟨v2, rfl, hO2⟩
 exact ⟨v2, rfl, TB.put h.sta (by rw [List.length_append, fx_len]) hO2⟩
theorem tform_any (W : World) (A : Option Addr) (n c : Nat) (bs : List Nat) (h : TB w W g xs (.slice A n c) bs) (hb : ∀ x ∈ bs, x < 256) (hn : n ≤ 33554432) :
  Calls Try.prog 60 #[.slice A n c] W fun e w' => ∃ v', e = .returned v' ∧ Onto w w' w.heap.size 5 (.slice none 0 0) v' (formP bs).length (cb (formP bs)) := by
 obtain ⟨A', c', e, hc, hr⟩ := h.rd
 injection e with e1 e2 e3
 subst e1 e2 e3
 refine (form_any W A bs.length c bs hr hc hb (by omega)).mono ?_
 rintro e w2 ⟨v2, rfl, hO2⟩
 exact ⟨v2, rfl, onto_fresh w h.sta.bel hO2⟩
end
/-- The numbers of an answer are of 64 bits. -/
structure AnB (a : An) : Prop where
 tag : a.tag < 18446744073709551616
 b : ∀ x ∈ a.body, x < 256
 n : ∀ v, v = a.ge ∨ v = a.gc ∨ v = a.size ∨ v = a.h1 ∨ v = a.h2 ∨ v = a.h3 ∨ v = a.h4 → -9223372036854775808 ≤ v ∧ v ≤ 9223372036854775807
/-- What both answer. -/
def TellPost (a : An) (w : World) (e : Ending) (w' : World) : Prop := ∃ v', e = .returned (.tuple #[v', .int .i64 (tellP a).2]) ∧ Onto w w' w.heap.size 5 (.slice none 0 0) v' (tellP a).1.length (cb (tellP a).1)
section
variable {a : An} {w w1 w' : World} {v : Value}
theorem TellPost.bad (h : ¬ anOk a) (b : Below w.heap.size w w') : TellPost a w (.returned (.tuple #[.slice none 0 0, .int .i64 2])) w' := by
 have : tellP a = ([], 2) := by unfold tellP; rw [if_neg h]
 unfold TellPost; rw [this]; exact ⟨_, rfl, onto_none b⟩
theorem TellPost.big (h : anOk a) (h2 : ¬ anFit a) (b : Below w.heap.size w w') : TellPost a w (.returned (.tuple #[.slice none 0 0, .int .i64 3])) w' := by
 have : tellP a = ([], 3) := by unfold tellP; rw [if_pos h, if_neg h2]
 unfold TellPost; rw [this]; exact ⟨_, rfl, onto_none b⟩
theorem TellPost.good (h : anOk a) (h2 : anFit a) {Z : List Nat} (hZ : anC a = Z) (hO : Onto w w' w.heap.size 5 (.slice none 0 0) v (formP Z).length (cb (formP Z))) :
  TellPost a w (.returned (.tuple #[v, .int .i64 0])) w' := by
 have : tellP a = (formP Z, 0) := by unfold tellP; rw [if_pos h, if_pos h2, hZ]
 unfold TellPost; rw [this]; exact ⟨_, rfl, hO⟩
end
theorem ut_lt (ts : List ByteArray) (m : Nat) (h : shortL ts m) (hm : m < 2 ^ 64) : ∀ x ∈ ut ts, x < 256 := by
 intro x hx
 unfold ut tx at hx
 rcases List.mem_append.1 hx with h1 | h1
 ·exact uv_lt _ (by have := h.1; omega) x h1
 ·obtain ⟨t, ht, h2⟩ := List.mem_flatMap.1 h1
  have := h.2 t ht
  rcases List.mem_append.1 h2 with h3 | h3
  ·exact uv_lt _ (by omega) x h3
  ·exact sb_lt t x h3
theorem ut_len (ts : List ByteArray) (m : Nat) (h : shortL ts m) : (ut ts).length ≤ 10 + 265 * m := by
 have h1 := tx_len ts m h
 have h2 := uv_len ts.length
 have h3 := h.1
 unfold ut
 rw [List.length_append]; omega
theorem us_len (s : ByteArray) : (us s).length ≤ s.size + 10 := by unfold us; rw [List.length_append, sb_len]; have := uv_len s.size; omega
def heal4 (h1 h2 h3 h4 : Int) : List Int := [h1, h2, h3, h4]
theorem heal_len (h1 h2 h3 h4 : Int) (k : Nat) : (((heal4 h1 h2 h3 h4).take k).flatMap uz).length ≤ 40 := by
 have e : (((heal4 h1 h2 h3 h4).take k).flatMap uz).length ≤ (([h1, h2, h3, h4] : List Int).flatMap uz).length := by
  have : (heal4 h1 h2 h3 h4).flatMap uz = ((heal4 h1 h2 h3 h4).take k).flatMap uz ++ ((heal4 h1 h2 h3 h4).drop k).flatMap uz := by rw [← List.flatMap_append, List.take_append_drop]
  unfold heal4 at this ⊢
  rw [this, List.length_append]; omega
 have h := uz_len h1
 have := uz_len h2
 have := uz_len h3
 have := uz_len h4
 simp only [List.flatMap_cons, List.flatMap_nil, List.length_append, List.length_nil] at e
 omega
/-! The content, kind by kind. -/
section
variable {tag : Nat} {code : Int} {body : List Nat} {keys groups : List ByteArray} {next : ByteArray} {more : Bool} {ge gc size h1 h2 h3 h4 : Int} {k : Int} {L0 : List Nat} (hL : fx 1 k.toNat ++ fx 8 tag ++ uv code.toNat = L0)
theorem anC_heal (hL : fx 1 k.toNat ++ fx 8 tag ++ uv code.toNat = L0) (hk : k = 8) : anC ⟨k, tag, code, body, keys, groups, next, more, ge, gc, size, h1, h2, h3, h4⟩ = L0 ++ uz h1 ++ uz h2 ++ uz h3 ++ uz h4 := by
 unfold anC
 simp only
 rw [hL, if_pos hk, if_neg (by unfold tBody; simp only; omega), if_neg (by unfold tGen; simp only; omega), if_neg (by unfold tKeys; simp only; omega), if_neg (by unfold tPage; simp only; omega)]
 simp only [List.append_nil, List.append_assoc]
theorem anC_code (hL : fx 1 k.toNat ++ fx 8 tag ++ uv code.toNat = L0) (hk : k ≠ 8) (hc : code ≠ 0 ∨ k = 1 ∨ k = 5) : anC ⟨k, tag, code, body, keys, groups, next, more, ge, gc, size, h1, h2, h3, h4⟩ = L0 := by
 unfold anC
 simp only
 rw [hL, if_neg hk, if_neg (by unfold tBody; simp only; omega), if_neg (by unfold tGen; simp only; omega), if_neg (by unfold tKeys; simp only; omega), if_neg (by unfold tPage; simp only; omega)]
 simp only [List.append_nil]
theorem anC_body (hL : fx 1 k.toNat ++ fx 8 tag ++ uv code.toNat = L0) (hk : k = 2 ∨ k = 3) (hc : code = 0) : anC ⟨k, tag, code, body, keys, groups, next, more, ge, gc, size, h1, h2, h3, h4⟩ = L0 ++ ub body := by
 unfold anC
 simp only
 rw [hL, if_neg (by omega), if_pos (by unfold tBody; simp only; omega), if_neg (by unfold tGen; simp only; omega), if_neg (by unfold tKeys; simp only; omega), if_neg (by unfold tPage; simp only; omega)]
 simp only [List.append_nil]
theorem anC_gen (hL : fx 1 k.toNat ++ fx 8 tag ++ uv code.toNat = L0) (hk : k = 4) (hc : code = 0) : anC ⟨k, tag, code, body, keys, groups, next, more, ge, gc, size, h1, h2, h3, h4⟩ = L0 ++ uz ge ++ uz gc ++ uz size := by
 unfold anC
 simp only
 rw [hL, if_neg (by omega), if_neg (by unfold tBody; simp only; omega), if_pos (by unfold tGen; simp only; omega), if_neg (by unfold tKeys; simp only; omega), if_neg (by unfold tPage; simp only; omega)]
 simp only [List.append_nil, List.append_assoc]
theorem anC_keys (hL : fx 1 k.toNat ++ fx 8 tag ++ uv code.toNat = L0) (hk : k = 6) (hc : code = 0) : anC ⟨k, tag, code, body, keys, groups, next, more, ge, gc, size, h1, h2, h3, h4⟩ = L0 ++ ut keys := by
 unfold anC
 simp only
 rw [hL, if_neg (by omega), if_neg (by unfold tBody; simp only; omega), if_neg (by unfold tGen; simp only; omega), if_pos (by unfold tKeys; simp only; omega), if_neg (by unfold tPage; simp only; omega)]
 simp only [List.append_nil]
theorem anC_page (hL : fx 1 k.toNat ++ fx 8 tag ++ uv code.toNat = L0) (hk : k = 7) (hc : code = 0) : anC ⟨k, tag, code, body, keys, groups, next, more, ge, gc, size, h1, h2, h3, h4⟩ = L0 ++ ut keys ++ ut groups ++ us next ++ fx 1 (if more = true then 1 else 0) := by
 unfold anC
 simp only
 rw [hL, if_neg (by omega), if_neg (by unfold tBody; simp only; omega), if_neg (by unfold tGen; simp only; omega), if_pos (by unfold tKeys; simp only; omega), if_pos (by unfold tPage; simp only; omega)]
 have m1 : [if more = true then 1 else 0] = fx 1 (if more = true then 1 else 0) := by cases more <;> rfl
 rw [m1]
 simp only [List.append_nil, List.append_assoc]
end
end Go.Proofs.Ytbcmjjcbjojakaa
end
section
namespace Go.Proofs.Ytbcmjjcbjojakaa
open Go.RowKit
set_option linter.unusedVariables false
/-- What the walk needs to know of a slice type t with elements e of 'size' cells. -/
structure ElN (P : Program) (t e size bytes : Nat) : Prop where
 ht : P.underlying t = some (.slice e)
 hi : ∃ i z, P.info? e = some i ∧ i.zero = some z ∧ i.size = size ∧ i.bytes = bytes ∧ z.cells.size = size
 hs : 0 < size ∧ size ≤ 1000
/-- A slice of elements of 'size' cells reads as the cells xs, and lies in a block that p allows. -/
def RdN (w : World) (p : Nat → Prop) (size : Nat) (A : Option Addr) (n : Nat) (xs : List Value) : Prop :=
 xs.length = n * size ∧ (0 < n → ∃ g off, A = some ⟨g, off, none⟩ ∧ p g ∧ ∀ i, i < n * size → w.cell? ⟨g, off + i, none⟩ = xs[i]?)
def OntoN (w w' : World) (base e size : Nat) (s v' : Value) (n : Nat) (xs : List Value) : Prop :=
 w'.ownsRow base e size v' n xs ∧ w.grownBy w' s.ownBlock ∧ ∀ k, v'.ownBlock = some k → s.ownBlock = some k ∨ w.heap.size ≤ k
section
variable {w w' w1 w2 : World} {base e size n n1 n2 : Nat} {s v1 v2 : Value} {xs xs1 xs2 : List Value} {p q : Nat → Prop} {A : Option Addr}
end
theorem fill_fold (cs : List Value) : ∀ (k : Nat) (zs : Array Value) (i : Nat), (((cs.zipIdx k).foldl (fun (cs : Array Value) (x : Value × Nat) => cs.setIfInBounds x.2 x.1) zs)[i]? = if k ≤ i ∧ i < k + cs.length ∧ i < zs.size then cs[i - k]? else zs[i]?) := by
 induction cs with
 | nil => intro k zs i; simp; intro h1 h2; omega
 | cons c r ih =>
  intro k zs i
  rw [List.zipIdx_cons, List.foldl_cons, ih]
  simp only [Array.size_setIfInBounds, List.length_cons]
  by_cases h1 : k + 1 ≤ i ∧ i < k + 1 + r.length ∧ i < zs.size
  ·rw [if_pos h1, if_pos (by omega), show i - k = (i - (k + 1)) + 1 by omega, List.getElem?_cons_succ]
  ·rw [if_neg h1, Array.getElem?_setIfInBounds]
   by_cases h2 : k = i
   ·subst h2
    by_cases h3 : k < zs.size
    ·rw [if_pos rfl, if_pos h3, if_pos ⟨Nat.le_refl _, by omega, h3⟩]; simp
    ·rw [if_pos rfl, if_neg h3, if_neg (by omega), Array.getElem?_eq_none (by omega)]
   ·rw [if_neg h2, if_neg (by omega)]
section
variable {P : Program} {w : World} {t e size bytes : Nat}
theorem fill_one (cells zs : Array Value) (hz : zs.size = cells.size) : Instr.fill (fun i => some (i * cells.size, cells.size)) zs [(0, .agg cells)] = some cells := by
 simp only [Instr.fill, Value.cells, Nat.zero_mul, Nat.zero_add, hz]
 rw [if_neg (by simp)]
 congr 1
 rw [← Array.foldl_toList, Array.toList_zipIdx]
 apply Array.ext_getElem?
 intro i
 rw [fill_fold]
 by_cases h : i < cells.size
 ·rw [if_pos ⟨Nat.zero_le _, by simpa using h, by omega⟩]; simp
 ·rw [if_neg (by omega), Array.getElem?_eq_none (by omega), Array.getElem?_eq_none (by omega)]
theorem run_build1N (E : ElN P t e size bytes) (cells : Array Value) (h1 : cells.size = size) : (Instr.buildSlice t 1 #[(0, .agg cells)]).run P w = .ok (.slice (some ⟨w.heap.size, 0, none⟩) 1 1) (w.alloc (.cells cells e)) := by
 obtain ⟨i, z, hi, hz, hs, hb, hzs⟩ := E.hi
 have h2 := E.hs
 refine run_buildSlice w t e 1 _ cells i z E.ht hi hz (by rw [hs]; omega) (by rw [hs]; omega) ?_
 rw [hs, ← h1]
 exact fill_one cells _ (by simp)
section
variable {ops : Array Oper} {rest : List Oper} {o o1 o2 : Oper} {a : Act} {Q : Exit → Act → World → Prop}
end
end
end Go.Proofs.Ytbcmjjcbjojakaa
end
section
namespace Go.Proofs.Ytbcmjjcbjojakaa
open Go.RowKit
set_option linter.unusedVariables false
/-- A message as it lies in memory: its cells, and the rows that it owns. -/
structure Wm where
  cells : List Value
  rows : List (Nat × Value × List Value)
/-- Its rows stand, from block 'base' on. -/
def Wm.ok (w : World) (base : Nat) (W : Wm) : Prop := ∀ r ∈ W.rows, w.ownsRow base r.1 1 r.2.1 r.2.2.length r.2.2
/-- No row of it lies in a block of X. -/
def Wm.off (X : List Nat) (W : Wm) : Prop := ∀ r ∈ W.rows, ∀ k, r.2.1.ownBlock = some k → k ∉ X
def rqW (R : Rq) (vb : Value) : Wm := ⟨[.int .i64 R.kind, .int .u64 (R.tag : Int), .string R.key, .string R.after, .int .i64 R.off, .int .i64 R.num, .int .i64 R.delim, vb], [(5, vb, cb R.body)]⟩
def anW (a : An) (v1 v2 v3 : Value) : Wm :=
  ⟨[.int .i64 a.kind, .int .u64 (a.tag : Int), .int .i64 a.code, v1, v2, v3, .string a.next, .bool a.more, .int .i64 a.ge, .int .i64 a.gc, .int .i64 a.size, .int .i64 a.h1, .int .i64 a.h2, .int .i64 a.h3, .int .i64 a.h4],
   [(5, v1, cb a.body), (9, v2, cs a.keys), (9, v3, cs a.groups)]⟩
def rqIs (W : Wm) (R : Rq) : Prop := ∃ vb, W = rqW R vb
def anIs (W : Wm) (a : An) : Prop := ∃ v1 v2 v3, W = anW a v1 v2 v3
section
variable {w w1 : World} {base base' : Nat} {W : Wm} {X : List Nat}
theorem Wm.ok.below (h : W.ok w base) (b : Below w.heap.size w w1) : W.ok w1 base := fun r hr => own_below' (h r hr) b
theorem Wm.ok.lower (h : W.ok w base) (hb : base' ≤ base) : W.ok w base' := fun r hr => own_base (h r hr) hb
theorem Wm.ok.chg (h : W.ok w base) (c : Chg X w w1) (ho : W.off X) : W.ok w1 base := fun r hr => c.own (h r hr) (ho r hr)
theorem Wm.ok.lt (h : W.ok w base) {r : Nat × Value × List Value} (hr : r ∈ W.rows) {k : Nat} (hk : r.2.1.ownBlock = some k) : base ≤ k ∧ k < w.heap.size := (h r hr).lt k hk
theorem Wm.off.mono {Y : List Nat} (h : W.off X) (hY : ∀ k ∈ Y, k ∈ X) : W.off Y := fun r hr k hk hm => h r hr k hk (hY k hm)
/-- New blocks may be written too. -/
theorem Wm.off.new {Y : List Nat} (h : W.off X) (ho : W.ok w base) (hY : ∀ k ∈ Y, k ∈ X ∨ w.heap.size ≤ k) : W.off Y := fun r hr k hk hm => by
  rcases hY k hm with h1 | h1
  · exact h r hr k hk h1
  · have := (ho.lt hr hk).2; omega
end
theorem own_one {w : World} {base e n : Nat} {v : Value} {xs : List Value} (h : w.ownsRow base e 1 v n xs) : v.oneCell' = true := by
  obtain ⟨A, c, rfl, _⟩ := own_form h; rfl
theorem rqW_one {w : World} {base : Nat} {R : Rq} {vb : Value} (h : (rqW R vb).ok w base) : (rqW R vb).cells.length = 8 ∧ (rqW R vb).cells.toArray.all (·.oneCell') = true := by
  have hv : vb.oneCell' = true := own_one (h _ (List.mem_singleton.2 rfl))
  exact ⟨rfl, by simp [rqW, hv]; simp [Value.oneCell']⟩
theorem anW_one {w : World} {base : Nat} {a : An} {v1 v2 v3 : Value} (h : (anW a v1 v2 v3).ok w base) : (anW a v1 v2 v3).cells.length = 15 ∧ (anW a v1 v2 v3).cells.toArray.all (·.oneCell') = true := by
  have h1 : v1.oneCell' = true := own_one (h _ (List.mem_cons_self ..))
  have h2 : v2.oneCell' = true := own_one (h _ (List.mem_cons_of_mem _ (List.mem_cons_self ..)))
  have h3 : v3.oneCell' = true := own_one (h _ (List.mem_cons_of_mem _ (List.mem_cons_of_mem _ (List.mem_cons_self ..))))
  exact ⟨rfl, by simp [anW, h1, h2, h3]; simp [Value.oneCell']⟩
/-! The steps of a codec reader. -/
theorem redo_val {α : Type} {P : α → Prop} {o : Except Int (α × Nat)} {z : α} {a : Nat} {f : Int} (hz : P z) (h : ∀ v a', o = .ok (v, a') → P v) : P (redo o z a f).1 := by
  unfold redo
  split
  · rcases ho : o with e | ⟨v, a'⟩
    · exact hz
    · exact h v a' ho
  · exact hz
section
variable {w : World} {gr n c : Nat} {A : Option Addr} {s : Nat × Int} {bs : List Nat}
theorem cFix1 (R : Rr w gr A n c s.1 s.2 bs) : Calls Try.prog 126 #[.pointer (some ⟨gr, 0, none⟩)] w fun e w' => ∃ v s', rFix bs 1 s = (v, s') ∧ e = .returned (.int .u8 (v : Int)) ∧ v < 256 ∧ Chg [gr] w w' ∧ Rr w' gr A n c s'.1 s'.2 bs := by
  refine (take_uint8_any w gr n c s.1 s.2 A bs R).mono ?_
  rintro e w' ⟨v, rfl, hc, hk, hR⟩
  unfold KT at hk
  subst hk
  refine ⟨_, _, rfl, rfl, ?_, hc, hR⟩
  refine redo_val (P := fun v => v < 256) (by omega) fun v a' h => ?_
  unfold fixF at h
  split at h
  · rename_i l a2 ht
    cases h
    obtain ⟨e1, e2, e3, e4⟩ := takeF_form _ _ _ _ _ ht
    have := le256_lt l fun x hx => R.lb x (by rw [e1] at hx; exact List.mem_of_mem_drop (List.mem_of_mem_take hx))
    rw [e4] at this; omega
  · cases h
theorem cFix8 (R : Rr w gr A n c s.1 s.2 bs) : Calls Try.prog 127 #[.pointer (some ⟨gr, 0, none⟩)] w fun e w' => ∃ v s', rFix bs 8 s = (v, s') ∧ e = .returned (.int .u64 (v : Int)) ∧ v < 18446744073709551616 ∧ Chg [gr] w w' ∧ Rr w' gr A n c s'.1 s'.2 bs := by
  refine (take_uint64_any w gr n c s.1 s.2 A bs R).mono ?_
  rintro e w' ⟨v, rfl, hc, hk, hR⟩
  unfold KT at hk
  subst hk
  refine ⟨_, _, rfl, rfl, ?_, hc, hR⟩
  refine redo_val (P := fun v => v < 18446744073709551616) (by omega) fun v a' h => ?_
  unfold fixF at h
  split at h
  · rename_i l a2 ht
    cases h
    obtain ⟨e1, e2, e3, e4⟩ := takeF_form _ _ _ _ _ ht
    have := le256_lt l fun x hx => R.lb x (by rw [e1] at hx; exact List.mem_of_mem_drop (List.mem_of_mem_take hx))
    rw [e4] at this; omega
  · cases h
theorem rNum_bd (R : Rr w gr A n c s.1 s.2 bs) : (rNum bs s).1 < 18446744073709551616 := by
  refine redo_val (P := fun v => v < 18446744073709551616) (by omega) fun v a' h => ?_
  have := (numF_hi bs s.1 v a' R.lb h).1
  omega
theorem cNumU (R : Rr w gr A n c s.1 s.2 bs) : Calls Try.prog 128 #[.pointer (some ⟨gr, 0, none⟩)] w fun e w' => ∃ v s', rNum bs s = (v, s') ∧ e = .returned (.int .u64 (v : Int)) ∧ v < 18446744073709551616 ∧ Chg [gr] w w' ∧ Rr w' gr A n c s'.1 s'.2 bs := by
  refine (uvarint_any w gr n c s.1 s.2 A bs R).mono ?_
  rintro e w' ⟨v, rfl, hc, hk, hR⟩
  unfold KNum at hk
  subst hk
  exact ⟨_, _, rfl, rfl, rNum_bd R, hc, hR⟩
theorem cNumV (R : Rr w gr A n c s.1 s.2 bs) : Calls Try.prog 129 #[.pointer (some ⟨gr, 0, none⟩)] w fun e w' => ∃ v s', rNum bs s = (v, s') ∧ e = .returned (.int .i64 (unz (v : Int))) ∧ (-9223372036854775808 ≤ unz (v : Int) ∧ unz (v : Int) ≤ 9223372036854775807) ∧ Chg [gr] w w' ∧ Rr w' gr A n c s'.1 s'.2 bs := by
  refine (varint_any w gr n c s.1 s.2 A bs R).mono ?_
  rintro e w' ⟨v, rfl, hc, hk, hR⟩
  unfold KZag at hk
  subst hk
  have h5 : ∀ v : Nat, v < 18446744073709551616 → -9223372036854775808 ≤ unz (v : Int) ∧ unz (v : Int) ≤ 9223372036854775807 := fun v hv => unz_bd _ (by omega) (by omega)
  exact ⟨_, _, rfl, rfl, h5 _ (rNum_bd R), hc, hR⟩
theorem cBlk (most : Nat) (hm : most ≤ 1048576) (R : Rr w gr A n c s.1 s.2 bs) : Calls Try.prog 131 #[.pointer (some ⟨gr, 0, none⟩), .int .i64 (most : Int)] w fun e w' => ∃ l s' vb cp, rBlk bs (most : Int) s = (l, s') ∧ e = .returned (.slice vb l.length cp) ∧ w'.ownsRow w.heap.size 5 1 (.slice vb l.length cp) l.length (cb l) ∧ Chg [gr] w w' ∧ Rr w' gr A n c s'.1 s'.2 bs := by
  refine (blk_any w gr n c s.1 s.2 A bs (most : Int) (by omega) R).mono ?_
  rintro e w' ⟨v, rfl, hc, hk, hR⟩
  obtain ⟨A', c', rfl, _, _⟩ := own_form hk
  exact ⟨_, _, A', c', rfl, rfl, hk, hc, hR⟩
theorem cTxt (most each : Nat) (hm : most ≤ 1048576) (he : each ≤ 1048576) (R : Rr w gr A n c s.1 s.2 bs) : Calls Try.prog 132 #[.pointer (some ⟨gr, 0, none⟩), .int .i64 (most : Int), .int .i64 (each : Int)] w fun e w' => ∃ l s' vb cp, rTxt bs (most : Int) (each : Int) s = (l, s') ∧ e = .returned (.slice vb l.length cp) ∧ w'.ownsRow w.heap.size 9 1 (.slice vb l.length cp) l.length (cs (l.map bstr)) ∧ Chg [gr] w w' ∧ Rr w' gr A n c s'.1 s'.2 bs := by
  refine (texts_any w gr n c s.1 s.2 A bs (most : Int) (each : Int) (by omega) (by omega) R).mono ?_
  rintro e w' ⟨v, rfl, hc, hk, hR⟩
  unfold KTxt at hk
  obtain ⟨A', c', rfl, _, _⟩ := own_form hk
  exact ⟨_, _, A', c', rfl, rfl, hk, hc, hR⟩
end
theorem infoRq8 : (Try.prog.info? 28).map (·.size) = some 8 := by kernel_rfl
theorem infoAn15 : (Try.prog.info? 43).map (·.size) = some 15 := by kernel_rfl
/-- Where a reading of a message stands: the box of the result, the message's own, the codec's reader. -/
structure QS (w W : World) (t gx gq gr : Nat) (A : Option Addr) (n c : Nat) (s : Nat × Int) (bs : List Nat) (zs : Array Value) (M : Wm) : Prop where
  box : W.heap[gq]? = some (.cells M.cells.toArray t)
  res : W.heap[gx]? = some (.cells zs t)
  rdr : Rr W gr A n c s.1 s.2 bs
  ch : Chg [gr] w W
  ok : M.ok W (gq + 1)
  l1 : gr < w.heap.size
  l2 : w.heap.size ≤ gx
  l3 : gx < gq
section
variable {w W W' : World} {t gx gq gr n c : Nat} {A : Option Addr} {s s' : Nat × Int} {bs : List Nat} {zs : Array Value} {M M' : Wm}
theorem QS.lt (h : QS w W t gx gq gr A n c s bs zs M) : gq < W.heap.size := (Array.getElem?_eq_some_iff.1 h.box).1
/-- A call of the codec's reader. -/
theorem QS.call (h : QS w W t gx gq gr A n c s bs zs M) (hc : Chg [gr] W W') (hR : Rr W' gr A n c s'.1 s'.2 bs) : QS w W' t gx gq gr A n c s' bs zs M where
  box := by rw [hc.block gq h.lt (by have := h.l1; have := h.l2; have := h.l3; simp; omega)]; exact h.box
  res := by rw [hc.block gx (by have := h.lt; have := h.l3; omega) (by have := h.l1; have := h.l2; simp; omega)]; exact h.res
  rdr := hR
  ch := h.ch.trans hc
  ok := h.ok.chg hc fun r hr k hk => by have := (h.ok.lt hr hk).1; have := h.l1; have := h.l2; have := h.l3; simp; omega
  l1 := h.l1
  l2 := h.l2
  l3 := h.l3
theorem QS.below (h : QS w W t gx gq gr A n c s bs zs M) (hb : Chg [] W W') : QS w W' t gx gq gr A n c s bs zs M :=
  h.call (hb.mono (by simp)) (h.rdr.keep hb (by simp) (by simp))
/-- A field is written; a row more may be owned. -/
theorem QS.set (h : QS w W t gx gq gr A n c s bs zs M) (i : Nat) (u : Value) (hM : M'.cells = M.cells.set i u) (hok : M'.ok W (gq + 1)) : QS w (W.setCell ⟨gq, i, none⟩ u) t gx gq gr A n c s bs zs M' where
  box := by rw [heap_set W gq i u _ _ h.box, hM]; simp
  res := by rw [Below.heap_setCell _ _ _ _ (by show gx ≠ gq; have := h.l3; omega)]; exact h.res
  rdr := h.rdr.keep' ((Chg.refl [gq] W).setCell (by simp) u) (by simp; have := h.l1; have := h.l2; have := h.l3; omega)
  ch := h.ch.setNew (by show w.heap.size ≤ gq; have := h.l2; have := h.l3; omega) u
  ok := hok.chg ((Chg.refl [gq] W).setCell (by simp) u) fun r hr k hk => by have := (hok.lt hr hk).1; simp; omega
  l1 := h.l1
  l2 := h.l2
  l3 := h.l3
theorem QS.at_ (h : QS w W t gx gq gr A n c s bs zs M) (i : Nat) {v : Value} (hv : M.cells[i]? = some v) : W.cell? ⟨gq, i, none⟩ = some v := by rw [cell_of_row W gq i _ _ (0, 0) h.box]; simpa using hv
theorem QS.range (h : QS w W t gx gq gr A n c s bs zs M) : W.rangeAt gq 0 M.cells := fun j v hj => by rw [Nat.zero_add]; exact h.at_ j hj
theorem QS.stored (h : QS w W t gx gq gr A n c s bs zs M) {cells : Array Value} (hs : W'.heap[gx]? = some (.cells cells t)) (hg : W.grownBy W' (some gx)) : QS w W' t gx gq gr A n c s bs cells M where
  box := by rw [hg.block gq h.lt (by have := h.l3; intro e; injection e; omega)]; exact h.box
  res := hs
  rdr := h.rdr.keep' (L := [gx]) ⟨hg.os, hg.tape, hg.output, hg.size, fun k hk hm => hg.block k hk (by simpa using hm)⟩ (by simp; have := h.l1; have := h.l2; omega)
  ch := ⟨hg.os.trans h.ch.os, hg.tape.trans h.ch.tape, hg.output.trans h.ch.output, Nat.le_trans h.ch.size hg.size, fun k hk hm => (hg.block k (Nat.lt_of_lt_of_le hk h.ch.size) (by have := h.l2; intro e; injection e; omega)).trans (h.ch.block k hk hm)⟩
  ok := h.ok.chg (X := [gx]) ⟨hg.os, hg.tape, hg.output, hg.size, fun k hk hm => hg.block k hk (by simpa using hm)⟩ fun r hr k hk => by have := (h.ok.lt hr hk).1; have := h.l3; simp; omega
  l1 := h.l1
  l2 := h.l2
  l3 := h.l3
theorem QS.z (h : QS w W t gx gq gr A n c s bs zs M) (i : Nat) : W.frozen? ⟨gq, i, none⟩ = false := by simp [World.frozen?, h.box]
end
/-- A whole value laid into a box, as a step of a region that draws its order. -/
theorem step_store {P : Program} {ops : Array Oper} {o : Oper} {a : Act} {w : World} {K : Act → World → Prop} {Q : Exit → Act → World → Prop} {Z : Prop} (hgd : o.guard = none) (ty : TypeId) (x y : Operand) (ho : o.op = .store ty x y)
    (g : Nat) (cells : Array Value) (hx : a.eval x = .pointer (some ⟨g, 0, none⟩)) (hy : a.eval y = .agg cells) (t : TypeId) (old : Array Value) (hg : w.heap[g]? = some (.cells old t (0, 0))) (hi : (P.info? ty).map (·.size) = some cells.size)
    (hold : old.size = cells.size) (h1 : cells.all (·.oneCell') = true)
    (h : ∀ w2, w2.heap[g]? = some (.cells cells t (0, 0)) → w.grownBy w2 (some g) → K (a.put o.dst undef) w2) : if Region.wanted o (yielded ops a.tmps) = true then Oper.wp P o a w K Q else Z := by
  have hw : Region.wanted o (yielded ops a.tmps) = true := by simp [Region.wanted, hgd]
  rw [if_pos hw]
  exact wp_store_row ty x y ho g cells hx hy t old hg hi hold h1 (h _ (setRow_heap _ _ _ _ _ _ hg) ⟨rfl, rfl, rfl, by simp [World.setRow], fun k _ hk => setRow_other w g k cells (fun e => hk (by rw [e]))⟩)
/-- What a reading of a message answers. -/
def MsgPost (T : Type) (rd : List Nat → Option T) (is : Wm → T → Prop) (m : Nat) (w : World) (gr : Nat) (bs : List Nat) (e : Ending) (w' : World) : Prop :=
  ∃ (W : Wm) (ok : Bool), e = .returned (.tuple #[.agg W.cells.toArray, .bool ok]) ∧ Chg [gr] w w' ∧ W.cells.length = m ∧ W.cells.toArray.all (·.oneCell') = true ∧ ((∃ x, ok = true ∧ rd bs = some x ∧ is W x ∧ W.ok w' w.heap.size) ∨ (ok = false ∧ rd bs = none))
end Go.Proofs.Ytbcmjjcbjojakaa
end
section
namespace Go.Proofs.Ytbcmjjcbjojakaa
open Go.RowKit
set_option linter.unusedVariables false
set_option linter.unusedSimpArgs false
/-- At most so many bytes of a text. -/
def cutP (s : ByteArray) (most : Nat) : ByteArray := if most < s.size then s.extract 0 most else s
theorem cutP_size (s : ByteArray) (most : Nat) : (cutP s most).size ≤ most := by
 unfold cutP
 split
 ·rw [ByteArray.size_extract]; omega
 ·omega
theorem cutP_same {s : ByteArray} {most : Nat} (h : s.size ≤ most) : cutP s most = s := by unfold cutP; rw [if_neg (by omega)]
theorem cut_any (w : World) (s : ByteArray) (most : Nat) (hs : s.size ≤ maxLen) (hm : most ≤ 1048576) :
  Calls Try.prog 76 #[.string s, .int .i64 (most : Int)] w fun e w' => e = .returned (.string (cutP s most)) ∧ w = w' := by
 go_enter Try.func76, Try.ntmps76
 go_wp2_with fail
 all_goals
  go_ret
  refine ⟨?_, rfl⟩
  unfold cutP
  first | (rw [if_pos h]; rfl) | (rw [if_neg h]; rfl)
/-- At most so many texts, each cut. -/
def textsP (ts : List ByteArray) (most : Nat) : List ByteArray := (ts.take most).map fun t => cutP t 255
theorem cutTexts_any (w : World) (A : Option Addr) (n c B : Nat) (ts : List ByteArray) (hr : Rd w B A n (cs ts)) (hn : n ≤ 8796093022000) (hB : B ≤ w.heap.size) (most : Nat) (hm : most ≤ 65536) (hsz : ∀ t ∈ ts, t.size ≤ maxLen) :
  Calls Try.prog 77 #[.slice A n c, .int .i64 (most : Int)] w fun e w' => ∃ v, e = .returned v ∧ w'.ownsRow w.heap.size 9 1 v (textsP ts most).length (cs (textsP ts most)) ∧ Below w.heap.size w w' := by
 have hl : ts.length = n := by have := hr.1; rwa [cs_len] at this
 have HH : Hd (Rd w B A n (cs ts) ∧ B ≤ w.heap.size ∧ (∀ t ∈ ts, t.size ≤ maxLen) ∧ ts.length = n) := ⟨hr, hB, hsz, hl⟩
 clear hr hB hsz hl
 go_enter Try.func77, Try.ntmps77
 go_wp2_with fail
 go_loopw [5, 6] (fun u5 u6 wr => ∃ k : Nat, u6 = .int .i64 (k : Int) ∧ k ≤ n ∧ k ≤ most ∧ wr.ownsRow w.heap.size 9 1 u5 k (cs ((ts.take k).map fun t => cutP t 255)) ∧ Below w.heap.size w wr) (fun _ u6 _ => n - (intOf u6).toNat)
 case atStart => exact ⟨0, rfl, Nat.zero_le _, Nat.zero_le _, World.ownsRow_nil .., Below.refl _ w⟩
 case round =>
  obtain ⟨k, rfl, hk, hkm, hown, hbl⟩ := hrel
  have HB := Hd.mk (And.intro hown hbl)
  obtain ⟨AO, cO, hvO, _⟩ := own_form hown
  clear hown hbl
  subst hvO
  by_cases hlt : k < n ∧ k < most
  ·have hki : (k : Int) < (n : Int) := by omega
   have hkm2 : (k : Int) < (most : Int) := by omega
   have HLT := Hd.mk hlt
   obtain ⟨g, off, hA, hg, hc⟩ := HH.out.1.2 (by omega)
   subst hA
   obtain ⟨t, ht⟩ : ∃ t, ts[k]? = some t := ⟨_, List.getElem?_eq_getElem (by have := HH.out.2.2.2; omega)⟩
   have dc : wr.cell? ⟨g, off + k, none⟩ = some (.string t) := by
    rw [HB.out.2.cell (show g < w.heap.size by have := HH.out.2.1; omega), hc k hlt.1]
    unfold cs; rw [List.getElem?_map, ht]; rfl
   have HT : Hd (ts[k]? = some t ∧ t.size ≤ maxLen) := ⟨ht, HH.out.2.2.1 t (List.mem_of_getElem? ht)⟩
   clear hlt hc hg ht
   go_wp2_with fail
   refine (cut_any wr t 255 HT.out.2 (by omega)).mono ?_
   rintro e w2 ⟨rfl, hw2⟩
   subst hw2
   clear dc
   go_wp2_with (refine wpList_push elS rfl rfl (.tmp 18) (.tmp 23) 24 rfl rfl rfl w.heap.size (.slice AO k cO) _ _ _ rfl rfl rfl rfl HB.out.1 (by unfold maxLen; omega) (by omega) HB.out.2.size ?_; intro v3 w3 hO; have H3 := Hd.mk hO; clear hO)
   go_roundw
   case rel =>
    refine ⟨k + 1, by go_num, HLT.out.1, HLT.out.2, ?_, HB.out.2.trans (H3.out.below (fun x hx => (HB.out.1.lt x hx).1) HB.out.2.size)⟩
    have h3 := H3.out.own
    rw [List.take_add_one, HT.out.1, List.map_append]
    unfold cs at h3 ⊢
    rw [List.map_append]
    exact h3
   case measure => simp [intOf]; have := HLT.out.1; omega
  ·have hE : k = min most n := by omega
   have HE := Hd.mk hE
   clear hE
   by_cases h1 : k < n
   ·have hki : (k : Int) < (n : Int) := by omega
    have hkm2 : ¬ (k : Int) < (most : Int) := by omega
    clear hlt
    go_wp2_with fail
    go_ret
    refine ⟨_, rfl, ?_, HB.out.2⟩
    have hk2 : k = most := by omega
    have := HB.out.1
    unfold textsP
    rw [List.length_map, List.length_take, HH.out.2.2.2, ← HE.out, ← hk2]
    exact this
   ·have hki : ¬ (k : Int) < (n : Int) := by omega
    clear hlt
    go_wp2_with fail
    go_ret
    refine ⟨_, rfl, ?_, HB.out.2⟩
    have := HB.out.1
    unfold textsP
    rw [List.length_map, List.length_take, HH.out.2.2.2, ← HE.out]
    have e1 : ts.take k = ts.take most := by rw [List.take_of_length_le (by have := HH.out.2.2.2; omega), List.take_of_length_le (by have := HH.out.2.2.2; omega)]
    rw [← e1]
    exact this
end Go.Proofs.Ytbcmjjcbjojakaa
end
section
namespace Go.Proofs.Ytbcmjjcbjojakaa
open Go.RowKit
set_option linter.unusedVariables false
/-- What the head of some bytes says. -/
inductive Ck where
 | wait
 | bad (e : Int)
 | ok (last : Bool) (n : Nat)
def seg (b : List Nat) (i n : Nat) : List Nat := (b.drop i).take n
/-- How many bytes the chunk has. -/
def ckN (b : List Nat) : Nat := b.getD 1 0 + 256 * b.getD 2 0
/-- Is the chunk's head odd? -/
def ckOdd (k : Nat) (b : List Nat) : Prop := (b.getD 0 0 ≠ 1 ∧ b.getD 0 0 ≠ 2) ∨ ckN b = 0 ∨ 16384 < ckN b ∨ (b.getD 0 0 = 1 ∧ (ckN b ≠ 16384 ∨ k = 2047))
instance (k : Nat) (b : List Nat) : Decidable (ckOdd k b) := by unfold ckOdd; infer_instance
def ckP (s k : Nat) (b : List Nat) : Ck :=
 if b.length < 7 then .wait
 else if Crc.more 0 (b.take 3) ≠ le256 (seg b 3 4) then .bad 302
 else if ckOdd k b then .bad 301
 else if b.length < ckN b + 11 then .wait
 else if Crc.more s (seg b 7 (ckN b)) ≠ le256 (seg b (7 + ckN b) 4) then .bad 302
 else .ok (decide (b.getD 0 0 = 2)) (ckN b)
theorem getD_app {a : List Nat} {i : Nat} (b : List Nat) (h : i < a.length) : (a ++ b).getD i 0 = a.getD i 0 := by
 rw [List.getD_eq_getElem?_getD, List.getD_eq_getElem?_getD, List.getElem?_append_left h]
theorem ckP_ok {s k : Nat} {a : List Nat} {l : Bool} {n : Nat} (h : ckP s k a = .ok l n) : n + 11 ≤ a.length ∧ 0 < n ∧ n ≤ 16384 ∧ n = ckN a ∧ ckOdd k a = False ∧ l = decide (a.getD 0 0 = 2) ∧
  Crc.more 0 (a.take 3) = le256 (seg a 3 4) ∧ Crc.more s (seg a 7 n) = le256 (seg a (7 + n) 4) ∧ (l = false → a.getD 0 0 = 1 ∧ n = 16384 ∧ k ≠ 2047) := by
 unfold ckP at h
 split at h
 ·cases h
 split at h
 ·cases h
 rename_i h1
 split at h
 ·cases h
 rename_i h2
 split at h
 ·cases h
 rename_i h3
 split at h
 ·cases h
 rename_i h4
 injection h with e1 e2
 subst e2
 have h5 := h2
 unfold ckOdd at h5
 refine ⟨by omega, by omega, by omega, rfl, eq_false h2, e1.symm, by omega, by omega, fun hl => ?_⟩
 subst hl
 have := of_decide_eq_false e1
 omega
/-- A message under way: its content, the sum, its chunks, how many bytes. -/
structure Mid where
 c : List Nat
 s : Nat
 k : Nat
 p : Nat
def mid0 : Mid := ⟨[], 0, 0, 0⟩
def Mid.next (m : Mid) (b : List Nat) (n : Nat) : Mid := ⟨m.c ++ seg b 7 n, Crc.more m.s (seg b 7 n), m.k + 1, m.p + (n + 11)⟩
structure Out (M : Type) where
 ms : List M
 fl : Int
 mid : Mid
 rest : List Nat
def Out.pre {M : Type} (x : M) (o : Out M) : Out M := ⟨x :: o.ms, o.fl, o.mid, o.rest⟩
def goF {M : Type} (rd : List Nat → Option M) : Nat → Mid → List Nat → Out M
 | 0, m, b => ⟨[], 0, m, b⟩
 | f + 1, m, b =>
  match ckP m.s m.k b with
  | .wait => ⟨[], 0, m, b⟩
  | .bad e => ⟨[], e, m, b⟩
  | .ok false n => goF rd f (m.next b n) (b.drop (n + 11))
  | .ok true n =>
   match rd (m.next b n).c with
   | none => ⟨[], 300, mid0, b.drop (n + 11)⟩
   | some x => (goF rd f mid0 (b.drop (n + 11))).pre x
/-- The bytes gone through. -/
def go {M : Type} (rd : List Nat → Option M) (m : Mid) (b : List Nat) : Out M := goF rd b.length m b
section
variable {M : Type} {rd : List Nat → Option M}
theorem ckP_nil (s k : Nat) : ckP s k [] = .wait := by unfold ckP; rw [if_pos (by simp)]
theorem goF_len : ∀ (f g : Nat) (m : Mid) (b : List Nat), b.length ≤ f → b.length ≤ g → goF rd f m b = goF rd g m b
 | 0, 0, m, b, _, _ => rfl
 | 0, g + 1, m, b, h1, h2 => by
  have : b = [] := List.eq_nil_of_length_eq_zero (by omega)
  subst this
  unfold goF; rw [ckP_nil]
 | f + 1, 0, m, b, h1, h2 => by
  have : b = [] := List.eq_nil_of_length_eq_zero (by omega)
  subst this
  unfold goF; rw [ckP_nil]
 | f + 1, g + 1, m, b, h1, h2 => by
  unfold goF
  split
  ·rfl
  ·rfl
  ·rename_i n hc
   have := (ckP_ok hc).1
   exact goF_len f g _ _ (by rw [List.length_drop]; omega) (by rw [List.length_drop]; omega)
  ·rename_i n hc
   have := (ckP_ok hc).1
   split
   ·rfl
   ·rw [goF_len f g _ _ (by rw [List.length_drop]; omega) (by rw [List.length_drop]; omega)]
theorem go_wait {m : Mid} {b : List Nat} (h : ckP m.s m.k b = .wait) : go rd m b = ⟨[], 0, m, b⟩ := by
 unfold go
 cases hb : b.length with
 | zero => rfl
 | succ f => unfold goF; rw [h]
theorem len_pos {m : Mid} {b : List Nat} (h : ckP m.s m.k b ≠ .wait) : ∃ f, b.length = f + 1 := by
 cases hb : b.length with
 | zero => have : b = [] := List.eq_nil_of_length_eq_zero hb; subst this; exact absurd (ckP_nil _ _) h
 | succ f => exact ⟨f, rfl⟩
theorem go_bad {m : Mid} {b : List Nat} {e : Int} (h : ckP m.s m.k b = .bad e) : go rd m b = ⟨[], e, m, b⟩ := by
 obtain ⟨f, hf⟩ := len_pos (m := m) (b := b) (by rw [h]; exact fun h => by cases h)
 unfold go; rw [hf]; unfold goF; rw [h]
theorem go_more {m : Mid} {b : List Nat} {n : Nat} (h : ckP m.s m.k b = .ok false n) : go rd m b = go rd (m.next b n) (b.drop (n + 11)) := by
 obtain ⟨f, hf⟩ := len_pos (m := m) (b := b) (by rw [h]; exact fun h => by cases h)
 have := (ckP_ok h).1
 unfold go; rw [hf]; conv => lhs; unfold goF
 rw [h]
 exact goF_len _ _ _ _ (by rw [List.length_drop]; omega) (by rw [List.length_drop]; omega)
theorem go_none {m : Mid} {b : List Nat} {n : Nat} (h : ckP m.s m.k b = .ok true n) (hr : rd (m.next b n).c = none) : go rd m b = ⟨[], 300, mid0, b.drop (n + 11)⟩ := by
 obtain ⟨f, hf⟩ := len_pos (m := m) (b := b) (by rw [h]; exact fun h => by cases h)
 unfold go; rw [hf]; unfold goF; rw [h]; simp only; rw [hr]
theorem go_some {m : Mid} {b : List Nat} {n : Nat} {x : M} (h : ckP m.s m.k b = .ok true n) (hr : rd (m.next b n).c = some x) : go rd m b = (go rd mid0 (b.drop (n + 11))).pre x := by
 obtain ⟨f, hf⟩ := len_pos (m := m) (b := b) (by rw [h]; exact fun h => by cases h)
 have := (ckP_ok h).1
 unfold go; rw [hf]; conv => lhs; unfold goF
 rw [h]; simp only; rw [hr]; simp only
 rw [goF_len f (b.drop (n + 11)).length _ _ (by rw [List.length_drop]; omega) (Nat.le_refl _)]
theorem ckP_bad {s k : Nat} {a : List Nat} {e : Int} (h : ckP s k a = .bad e) : e = 302 ∨ e = 301 := by
 unfold ckP at h
 split at h
 ·cases h
 split at h
 ·injection h with h; exact .inl h.symm
 split at h
 ·injection h with h; exact .inr h.symm
 split at h
 ·cases h
 split at h
 ·injection h with h; exact .inl h.symm
 ·cases h
/-- How many bytes are held. -/
def Out.held (o : Out M) : Nat := if o.fl = 0 then o.mid.p + o.rest.length else 0
end
end Go.Proofs.Ytbcmjjcbjojakaa
end
section
namespace Go.Proofs.Ytbcmjjcbjojakaa
open Go.RowKit
set_option linter.unusedVariables false
theorem le_two {b : List Nat} (h : 3 ≤ b.length) : le256 (seg b 1 2) = ckN b := by
 rcases b with _ | ⟨x, _ | ⟨y, _ | ⟨z, b⟩⟩⟩ <;> simp at h
 simp [seg, le256, ckN]
/-- P are the bytes of the message under way. -/
def Pend (m : Mid) (P : List Nat) : Prop := P.length = m.p ∧ ∀ c', 0 < c'.length → formP (m.c ++ c') = P ++ fmF c'.length m.s c'
section
variable {M : Type} {rd : List Nat → Option M} {cont : M → List Nat}
end
end Go.Proofs.Ytbcmjjcbjojakaa
end
