/- Put together of: AnCP ContAn FtS OnlyR SameAn TellR. -/
import Derived.Test.YtbcmjjcbjojakaaTellT
import Derived.Test.YtbcmjjcbjojakaaHeldBy
import Derived.Test.YtbcmjjcbjojakaaContR
import Derived.Deep.Cut
import Derived.Test.YtbcmjjcbjojakaaMgS
import Derived.Test.YtbcmjjcbjojakaaBoxes
import Derived.Test.YtbcmjjcbjojakaaSameRq
section
/- Plain: how long an answer's content is, and its bytes. -/
namespace Go.Proofs.Ytbcmjjcbjojakaa
open Go.RowKit
set_option linter.unusedVariables false
theorem uv_len2T (v : Nat) (h : v < 16384) : (uv v).length ≤ 2 := by
  unfold uv uvf
  split
  · simp
  · unfold uvf
    rw [if_pos (by omega)]; simp
theorem tx_le2T : ∀ (l : List ByteArray), (∀ t ∈ l, t.size ≤ 255) → (tx l).length ≤ 257 * l.length
  | [], _ => by simp [tx]
  | t :: l, h => by
    have h1 := tx_le2T l fun x hx => h x (List.mem_cons_of_mem _ hx)
    have h3 := h t (List.mem_cons_self ..)
    have h2 := uv_len2T t.size (by omega)
    unfold tx at h1 ⊢
    rw [List.flatMap_cons, List.length_append, List.length_append, sb_len, List.length_cons]
    omega
open Classical in
theorem anC_lenT {a : An} (h : anFit a) : (anC a).length ≤ 33554432 := by
  have gi : ∀ (p : Prop) [Decidable p] (l : List Nat) (m : Nat), l.length ≤ m → (if p then l else []).length ≤ m := fun p _ l m hl => by
    split
    · exact hl
    · simp
  obtain ⟨f1, f2, f3, f4⟩ := h
  have n2 : a.keys.length ≤ 65536 := by have := f2.1; split at this <;> omega
  have n3 : a.groups.length ≤ 1000 := f3.1
  have k1 := tx_le2T _ f2.2
  have k2 := tx_le2T _ f3.2
  have q1 := uv_len a.keys.length
  have q2 := uv_len a.groups.length
  have q3 := uv_len a.body.length
  have q4 := uv_len a.next.size
  have u1 := uv_len a.code.toNat
  have a1 := gi (a.kind = 8) (uz a.h1 ++ uz a.h2 ++ uz a.h3 ++ uz a.h4) 40 (by simp only [List.length_append]; have := uz_len a.h1; have := uz_len a.h2; have := uz_len a.h3; have := uz_len a.h4; omega)
  have a2 := gi (tBody a) (ub a.body) 1048586 (by unfold ub; rw [List.length_append]; omega)
  have a3 := gi (tGen a) (uz a.ge ++ uz a.gc ++ uz a.size) 30 (by simp only [List.length_append]; have := uz_len a.ge; have := uz_len a.gc; have := uz_len a.size; omega)
  have a4 := gi (tKeys a) (ut a.keys) 16842800 (by unfold ut; rw [List.length_append]; omega)
  have a5 := gi (tPage a) (ut a.groups ++ us a.next ++ [if a.more = true then 1 else 0]) 300000 (by unfold ut us; simp only [List.length_append, List.length_cons, List.length_nil, sb_len]; omega)
  unfold anC
  simp only [List.length_append, fx_len] at a1 a2 a3 a4 a5 ⊢
  omega
theorem tx_ltT : ∀ (l : List ByteArray), (∀ t ∈ l, t.size ≤ 255) → ∀ y ∈ tx l, y < 256
  | [], _, y, hy => by cases hy
  | t :: l, h, y, hy => by
    unfold tx at hy
    rw [List.flatMap_cons] at hy
    rcases List.mem_append.1 hy with h1 | h1
    · rcases List.mem_append.1 h1 with h2 | h2
      · exact uv_lt _ (by have := h t (List.mem_cons_self ..); omega) y h2
      · exact sb_lt t y h2
    · exact tx_ltT l (fun x hx => h x (List.mem_cons_of_mem _ hx)) y h1
open Classical in
theorem anC_ltT {a : An} (hok : anOk a) (h : anFit a) (hb : AnB a) : ∀ y ∈ anC a, y < 256 := by
  obtain ⟨f1, f2, f3, f4⟩ := h
  have hc := hok.2.2.1
  have hc2 := hok.2.2.2.1
  have gi : ∀ (p : Prop) [Decidable p] (l : List Nat), (∀ y ∈ l, y < 256) → ∀ y ∈ (if p then l else []), y < 256 := fun p _ l hl y hy => by
    split at hy
    · exact hl y hy
    · cases hy
  have ap : ∀ (l m : List Nat), (∀ y ∈ l, y < 256) → (∀ y ∈ m, y < 256) → ∀ y ∈ l ++ m, y < 256 := fun l m h1 h2 y hy => (List.mem_append.1 hy).elim (h1 y) (h2 y)
  have gz : ∀ v, (v = a.ge ∨ v = a.gc ∨ v = a.size ∨ v = a.h1 ∨ v = a.h2 ∨ v = a.h3 ∨ v = a.h4) → ∀ y ∈ uz v, y < 256 := fun v hv => uz_lt v (hb.n v hv).1 (hb.n v hv).2
  have hk : a.keys.length < 2 ^ 64 := by have := f2.1; split at this <;> omega
  have hg : a.groups.length < 2 ^ 64 := by have := f3.1; omega
  have gt : ∀ l : List ByteArray, l.length < 2 ^ 64 → (∀ t ∈ l, t.size ≤ 255) → ∀ y ∈ ut l, y < 256 := fun l h1 h2 => ap _ _ (uv_lt _ h1) (tx_ltT l h2)
  unfold anC
  refine ap _ _ (ap _ _ (ap _ _ (ap _ _ (ap _ _ (ap _ _ (ap _ _ (fun y hy => fx_lt _ _ y hy) (fun y hy => fx_lt _ _ y hy)) (uv_lt _ (by omega))) (gi _ _ (ap _ _ (ap _ _ (ap _ _ (gz _ (by simp)) (gz _ (by simp))) (gz _ (by simp))) (gz _ (by simp))))) (gi _ _ (ub_lt _ (by omega) hb.b))) (gi _ _ (ap _ _ (ap _ _ (gz _ (by simp)) (gz _ (by simp))) (gz _ (by simp))))) (gi _ _ (gt _ hk f2.2))) (gi _ _ (ap _ _ (ap _ _ (gt _ hg f3.2) (us_lt _ (by omega))) ?_))
  intro y hy
  rw [List.mem_singleton] at hy
  subst hy
  split <;> omega
end Go.Proofs.Ytbcmjjcbjojakaa
end
section
/- Contract of the reference's contentAnswer. (tools/contangen.py prints it.) -/
namespace Go.Proofs.Ytbcmjjcbjojakaa
open Go.RowKit
set_option linter.unusedVariables false
set_option linter.unusedSimpArgs false
/-- Where content stands. -/
structure DS (w w' : World) (g : Nat) (xs : Array Value) : Prop where
  rq : w'.heap[g]? = some (.cells xs 43)
  bel : Below w.heap.size w w'
structure DB (w w' : World) (g : Nat) (xs : Array Value) (v : Value) (L : List Nat) : Prop where
  sta : DS w w' g xs
  rd : ∃ A c, v = .slice A L.length c ∧ L.length ≤ c ∧ Rd w' w'.heap.size A L.length (cb L)
  own : w'.ownsRow w.heap.size 5 1 v L.length (cb L)
section
variable {w w1 w2 : World} {g : Nat} {xs : Array Value} {v v' : Value} {L X : List Nat}
theorem DS.step (h : DS w w1 g xs) (b : Below w1.heap.size w1 w2) : DS w w2 g xs :=
  ⟨by rw [b.block g (Array.getElem?_eq_some_iff.1 h.rq).1]; exact h.rq, h.bel.trans (b.mono h.bel.size)⟩
theorem DS.c (h : DS w w1 g xs) (i : Nat) {v : Value} (hv : xs[i]? = some v) : w1.cell? ⟨g, i, none⟩ = some v := by rw [cell_of_row w1 g i _ _ (0, 0) h.rq]; exact hv
theorem DB.put (h : DS w w1 g xs) {m : Nat} (hm : m = L.length) (hO : Onto w1 w2 w1.heap.size 5 (.slice none 0 0) v' m (cb L)) : DB w w2 g xs v' L := by
  subst hm
  obtain ⟨A, c, e, hc, _⟩ := own_form hO.own
  refine ⟨h.step (hO.below (fun k h => by cases h) (Nat.le_refl _)), ⟨A, c, e, hc, ?_⟩, own_base hO.own h.bel.size⟩
  subst e
  exact Rd.of_own hO.own
theorem aputStr_any (W : World) (t : ByteArray) (G : Nat) (A : Option Addr) (n c : Nat) (bs : List Nat) (h : DB w W g xs (.slice A n c) bs) (hn : n ≤ 33554432) (ht : t.size ≤ 2097152) :
    Calls Try.prog 84 #[.slice A n c, .slice (some ⟨W.heap.size, 0, none⟩) t.size G] (W.alloc (.cells (bytesRow t G) 5 ((bytesRow t G).size, (bytesRow t G).size + 1))).drew fun e w' => ∃ v', e = .returned v' ∧ DB w w' g xs v' (bs ++ us t) := by
  obtain ⟨A', c', e, hc, hr⟩ := h.rd
  injection e with e1 e2 e3
  subst e1 e2 e3
  have hA := h.sta.step (((Below.refl _ W).alloc (Nat.le_refl _) (.cells (bytesRow t G) 5 ((bytesRow t G).size, (bytesRow t G).size + 1))).drew)
  refine (refPutBytes_any (W.alloc (.cells (bytesRow t G) 5 ((bytesRow t G).size, (bytesRow t G).size + 1))).drew A (some ⟨W.heap.size, 0, none⟩) bs.length c t.size G (W.heap.size + 1) bs (sb t)
    (((hr.alloc (Nat.le_refl _) (.cells (bytesRow t G) 5 ((bytesRow t G).size, (bytesRow t G).size + 1))).more (Nat.le_succ _)).keep (fun _ _ => rfl)) ((rd_bytes (w := W) (e := 5) (cap := G) t ((bytesRow t G).size, (bytesRow t G).size + 1)).keep (fun _ _ => rfl)) (by omega) (by show W.heap.size + 1 ≤ (W.alloc _).heap.size; simp)).mono ?_
  rintro e w2 ⟨v2, rfl, hO2⟩
  refine ⟨v2, rfl, DB.put hA ?_ (by rw [List.append_assoc] at hO2; exact hO2)⟩
  simp only [List.length_append, us, sb_len]; omega
theorem aputLst_any (W : World) (A A2 : Option Addr) (n c m c2 : Nat) (bs ps : List Nat) (h : DB w W g xs (.slice A n c) bs) (hp : Rd W W.heap.size A2 m (cb ps)) (hn : n ≤ 33554432) (hm : m ≤ 2097152) :
    Calls Try.prog 84 #[.slice A n c, .slice A2 m c2] W fun e w' => ∃ v', e = .returned v' ∧ DB w w' g xs v' (bs ++ ub ps) := by
  have hl : ps.length = m := by have := hp.1; rwa [cb_length] at this
  subst hl
  obtain ⟨A', c', e, hc, hr⟩ := h.rd
  injection e with e1 e2 e3
  subst e1 e2 e3
  refine (refPutBytes_any W A A2 bs.length c ps.length c2 W.heap.size bs ps hr hp (by omega) (Nat.le_refl _)).mono ?_
  rintro e w2 ⟨v2, rfl, hO2⟩
  refine ⟨v2, rfl, DB.put h.sta ?_ (by rw [List.append_assoc] at hO2; exact hO2)⟩
  simp only [List.length_append, ub]; omega
theorem aputNum_any (W : World) (A : Option Addr) (n c : Nat) (v : Int) (bs : List Nat) (h : DB w W g xs (.slice A n c) bs) (h1 : -9223372036854775808 ≤ v) (h2 : v ≤ 9223372036854775807) (hn : n ≤ 33554432) :
    Calls Try.prog 85 #[.slice A n c, .int .i64 v] W fun e w' => ∃ v', e = .returned v' ∧ DB w w' g xs v' (bs ++ uz v) := by
  obtain ⟨A', c', e, hc, hr⟩ := h.rd
  injection e with e1 e2 e3
  subst e1 e2 e3
  refine (refNum_any W A bs.length c W.heap.size v bs hr h1 h2 (by omega) (Nat.le_refl _)).mono ?_
  rintro e w2 ⟨v2, rfl, hO2⟩
  exact ⟨v2, rfl, DB.put h.sta (by rw [List.length_append]) hO2⟩
theorem aputFix_any (W : World) (A : Option Addr) (n c v k : Nat) (bs : List Nat) (h : DB w W g xs (.slice A n c) bs) (hv : v < 18446744073709551616) (hk : k ≤ 8) (hn : n ≤ 33554432) :
    Calls Try.prog 81 #[.slice A n c, .int .u64 (v : Int), .int .i64 (k : Int)] W fun e w' => ∃ v', e = .returned v' ∧ DB w w' g xs v' (bs ++ fx k v) := by
  obtain ⟨A', c', e, hc, hr⟩ := h.rd
  injection e with e1 e2 e3
  subst e1 e2 e3
  refine (refFixed_any W A bs.length c W.heap.size v k bs hr hv (by omega) hk (Nat.le_refl _)).mono ?_
  rintro e w2 ⟨v2, rfl, hO2⟩
  exact ⟨v2, rfl, DB.put h.sta (by rw [List.length_append, fx_len]) hO2⟩
theorem aputTxt_any (W : World) (A A2 : Option Addr) (n c m c2 : Nat) (bs : List Nat) (ts : List ByteArray) (h : DB w W g xs (.slice A n c) bs) (hp : Rd W W.heap.size A2 m (cs ts)) (hn : n ≤ 33554432) (hm : m ≤ 65536) (ht : (tx ts).length ≤ 33554432) :
    Calls Try.prog 97 #[.slice A n c, .slice A2 m c2] W fun e w' => ∃ v', e = .returned v' ∧ DB w w' g xs v' (bs ++ ut ts) := by
  have hl : ts.length = m := by have := hp.1; rwa [cs_len] at this
  subst hl
  obtain ⟨A', c', e, hc, hr⟩ := h.rd
  injection e with e1 e2 e3
  subst e1 e2 e3
  refine (refPutTexts_any W A A2 bs.length c ts.length c2 W.heap.size bs ts hr hp (by omega) (by omega) (Nat.le_refl _)).mono ?_
  rintro e w2 ⟨v2, rfl, hO2⟩
  refine ⟨v2, rfl, DB.put h.sta ?_ (by rw [List.append_assoc] at hO2; exact hO2)⟩
  simp only [List.length_append, ut]; omega
theorem aputUv_any (W : World) (A : Option Addr) (n c v : Nat) (bs : List Nat) (h : DB w W g xs (.slice A n c) bs) (hv : v < 2 ^ 64) (hn : n ≤ 33554432) :
    Calls Try.prog 96 #[.slice A n c, .int .u64 (v : Int)] W fun e w' => ∃ v', e = .returned v' ∧ DB w w' g xs v' (bs ++ uv v) := by
  obtain ⟨A', c', e, hc, hr⟩ := h.rd
  injection e with e1 e2 e3
  subst e1 e2 e3
  refine (refPutUvarint_any W A bs.length c W.heap.size v bs hr hv (by omega) (Nat.le_refl _)).mono ?_
  rintro e w2 ⟨v2, rfl, hO2⟩
  exact ⟨v2, rfl, DB.put h.sta (by rw [List.length_append]) hO2⟩
end
set_option maxRecDepth 20000 in
set_option maxHeartbeats 8000000 in
theorem contentAn_any0 (w : World) (a : An) (kn cn tag : Nat) (body : List Nat) (keys groups : List ByteArray) (next : ByteArray) (more : Bool) (ge gc size h1 h2 h3 h4 : Int) (ha : a = ⟨(kn : Int), tag, (cn : Int), body, keys, groups, next, more, ge, gc, size, h1, h2, h3, h4⟩) (A A2 A3 : Option Addr) (n c n2 c2 n3 c3 : Nat)
    (hr : Rd w w.heap.size A n (cb body)) (hr2 : Rd w w.heap.size A2 n2 (cs keys)) (hr3 : Rd w w.heap.size A3 n3 (cs groups)) (hb : AnB a) (hF : anFit a) (hk1 : 1 ≤ kn) (hk8 : kn ≤ 8) (hcn : cn ≤ 2147483647) :
    Calls Try.prog 64 #[.agg #[.int .i64 (kn : Int), .int .u64 (tag : Int), .int .i64 (cn : Int), .slice A n c, .slice A2 n2 c2, .slice A3 n3 c3, .string next, .bool more, .int .i64 ge, .int .i64 gc, .int .i64 size, .int .i64 h1, .int .i64 h2, .int .i64 h3, .int .i64 h4]] w fun e w' => ∃ v, e = .returned v ∧ w'.ownsRow w.heap.size 5 1 v (anC a).length (cb (anC a)) ∧ Below w.heap.size w w' := by
  have hbl : body.length = n := by have := hr.1; rwa [cb_length] at this
  have hkl : keys.length = n2 := by have := hr2.1; rwa [cs_len] at this
  have hgl : groups.length = n3 := by have := hr3.1; rwa [cs_len] at this
  have HH : Hd (Rd w w.heap.size A n (cb body) ∧ Rd w w.heap.size A2 n2 (cs keys) ∧ Rd w w.heap.size A3 n3 (cs groups) ∧ body.length = n ∧ keys.length = n2 ∧ groups.length = n3) := ⟨hr, hr2, hr3, hbl, hkl, hgl⟩
  have HR := Hd.mk ha
  have hF2 := hF
  rw [ha] at hF2
  obtain ⟨f1, f2, f3, f4⟩ := hF2
  simp only at f1 f2 f3 f4
  have l1 : n ≤ 1048576 := by rw [← hbl]; exact f1
  have l2 : n2 ≤ 65536 := by rw [← hkl]; have := f2.1; split at this <;> omega
  have l3 : n3 ≤ 1000 := by rw [← hgl]; exact f3.1
  have t2 := tx_le2T keys f2.2
  have t3 := tx_le2T groups f3.2
  rw [hkl] at t2
  rw [hgl] at t3
  have HTX : Hd ((tx keys).length ≤ 257 * n2 ∧ (tx groups).length ≤ 257 * n3 ∧ next.size ≤ 255) := ⟨t2, t3, f4⟩
  have HT : Hd (tag < 18446744073709551616) := ⟨by have := hb.tag; rw [ha] at this; exact this⟩
  have HQ : Hd (∀ v, v = ge ∨ v = gc ∨ v = size ∨ v = h1 ∨ v = h2 ∨ v = h3 ∨ v = h4 → -9223372036854775808 ≤ v ∧ v ≤ 9223372036854775807) := ⟨by have h := hb.n; rw [ha] at h; exact h⟩
  obtain ⟨xs0, hcs⟩ : ∃ xs0 : Array Value, xs0 = #[.int .i64 (kn : Int), .int .u64 (tag : Int), .int .i64 (cn : Int), .slice A n c, .slice A2 n2 c2, .slice A3 n3 c3, .string next, .bool more, .int .i64 ge, .int .i64 gc, .int .i64 size, .int .i64 h1, .int .i64 h2, .int .i64 h3, .int .i64 h4] := ⟨_, rfl⟩
  obtain ⟨g, hg⟩ : ∃ g, w.heap.size = g := ⟨_, rfl⟩
  have H0 : Hd (DS w (w.alloc (.cells #[.int .i64 (kn : Int), .int .u64 (tag : Int), .int .i64 (cn : Int), .slice A n c, .slice A2 n2 c2, .slice A3 n3 c3, .string next, .bool more, .int .i64 ge, .int .i64 gc, .int .i64 size, .int .i64 h1, .int .i64 h2, .int .i64 h3, .int .i64 h4] 43)) g xs0) := ⟨by rw [← hg, hcs]; exact heap_alloc_new w _, (Below.refl _ w).alloc (Nat.le_refl _) _⟩
  have HCS := Hd.mk hcs
  have ek : (kn : Int) % 18446744073709551616 = (kn : Int) := by omega
  have hzero : (0 : Int) ≤ (kn : Int) := by omega
  have HG := Hd.mk hg
  clear hr hr2 hr3 hb hF ha hcs hg f1 f2 f3 f4 t2 t3 hbl hkl hgl
  go_enter Try.func64, Try.ntmps64
  go_upto_region 1 with fail
  obtain ⟨w0, hw0⟩ : ∃ w0, w.alloc (.cells #[.int .i64 (kn : Int), .int .u64 (tag : Int), .int .i64 (cn : Int), .slice A n c, .slice A2 n2 c2, .slice A3 n3 c3, .string next, .bool more, .int .i64 ge, .int .i64 gc, .int .i64 size, .int .i64 h1, .int .i64 h2, .int .i64 h3, .int .i64 h4] 43) = w0 := ⟨_, rfl⟩
  rw [hw0] at H0 ⊢
  rw [HG.out]
  have c0 : w0.cell? ⟨g, 0, none⟩ = some (.int .i64 (kn : Int)) := H0.out.c 0 (by rw [HCS.out]; rfl)
  clear hw0
  go_wp2_with fail
  refine (refFixed_any w0 none 0 0 w0.heap.size kn 1 [] Rd.nil (by omega) (by omega) (by omega) (Nat.le_refl _)).mono ?_
  rintro e w1 ⟨v1, rfl, hO⟩
  have H1 : Hd (DB w w1 g xs0 v1 (fx 1 kn)) := ⟨DB.put (m := 0 + 1) (L := fx 1 kn) H0.out (by simp [fx_len]) (by rw [List.nil_append] at hO; exact hO)⟩
  clear hO c0 ek hzero
  obtain ⟨A1, a1, e1, _, _⟩ := H1.out.rd
  rw [fx_len] at e1
  subst e1
  have c0 : w1.cell? ⟨g, 0, none⟩ = some (.int .i64 (kn : Int)) := H1.out.sta.c 0 (by rw [HCS.out]; rfl)
  have c1 : w1.cell? ⟨g, 1, none⟩ = some (.int .u64 (tag : Int)) := H1.out.sta.c 1 (by rw [HCS.out]; rfl)
  go_wp2_with fail
  refine (aputFix_any w1 A1 1 a1 tag 8 (fx 1 kn) H1.out HT.out (by omega) (by omega)).mono ?_
  rintro e w2 ⟨v2, rfl, hB⟩
  have H2 := Hd.mk hB
  clear hB c0 c1 H1
  obtain ⟨A4, a4, e4, _, _⟩ := H2.out.rd
  rw [List.length_append, fx_len, fx_len] at e4
  subst e4
  have f2_ : w2.cell? ⟨g, 2, none⟩ = some (.int .i64 (cn : Int)) := H2.out.sta.c 2 (by rw [HCS.out]; rfl)
  have ec : (cn : Int) % 18446744073709551616 = (cn : Int) := by omega
  have hzc : (0 : Int) ≤ (cn : Int) := by omega
  go_wp2_with fail
  refine (aputUv_any w2 A4 9 a4 cn (fx 1 kn ++ fx 8 tag) H2.out (by omega) (by omega)).mono ?_
  rintro e w3 ⟨v3, rfl, hB⟩
  have H3 := Hd.mk hB
  clear hB f2_ H2 ec hzc
  obtain ⟨L0, hL0⟩ : ∃ L, fx 1 kn ++ fx 8 tag ++ uv cn = L := ⟨_, rfl⟩
  have HL0 : Hd (fx 1 kn ++ fx 8 tag ++ uv cn = L0 ∧ L0.length ≤ 19) := ⟨hL0, by rw [← hL0]; have := uv_len cn; simp only [List.length_append, fx_len]; omega⟩
  rw [hL0] at H3
  clear hL0
  have hcase : kn = 1 ∨ kn = 2 ∨ kn = 3 ∨ kn = 4 ∨ kn = 5 ∨ kn = 6 ∨ kn = 7 ∨ kn = 8 := by omega
  clear hk1 hk8
  rcases hcase with rfl | rfl | rfl | rfl | rfl | rfl | rfl | rfl
  · by_cases hC0 : cn = 0
    · subst hC0
      have f0 : w3.cell? ⟨g, 0, none⟩ = some (.int .i64 1) := H3.out.sta.c 0 (by rw [HCS.out]; rfl)
      have f2 : w3.cell? ⟨g, 2, none⟩ = some (.int .i64 0) := H3.out.sta.c 2 (by rw [HCS.out]; rfl)
      go_wp2_with fail
      go_ret
      have hz : anC a = L0 := by rw [HR.out, ← HL0.out.1]; simp [anC, tBody, tGen, tKeys, tPage]
      rw [hz]
      exact ⟨_, rfl, H3.out.own, H3.out.sta.bel⟩
    · have HNZ := Hd.mk hC0
      have hcz : ((cn : Int) != 0) = true := by rw [bne_iff_ne]; omega
      clear hC0
      have f0 : w3.cell? ⟨g, 0, none⟩ = some (.int .i64 1) := H3.out.sta.c 0 (by rw [HCS.out]; rfl)
      have f2 : w3.cell? ⟨g, 2, none⟩ = some (.int .i64 (cn : Int)) := H3.out.sta.c 2 (by rw [HCS.out]; rfl)
      go_wp2_with fail
      go_ret
      have hz : anC a = L0 := by rw [HR.out, ← HL0.out.1]; simp [anC, tBody, tGen, tKeys, tPage, HNZ.out]
      rw [hz]
      exact ⟨_, rfl, H3.out.own, H3.out.sta.bel⟩
  · by_cases hC0 : cn = 0
    · subst hC0
      obtain ⟨Aa, ca, ea, _, _⟩ := H3.out.rd
      obtain ⟨lv, hlv⟩ : ∃ lv, (L0).length = lv := ⟨_, rfl⟩
      have hl2 : lv ≤ 33554432 := by rw [← hlv]; have := HL0.out.2; have u1 := uv_len next.size; have u2 := uv_len keys.length; have u3 := uv_len groups.length; have u4 := uv_len body.length; have t1 := HTX.out; have b1 := HH.out.2.2.2; (try simp only [List.length_append, us, ub, ut, sb_len]); omega
      have HLV := Hd.mk hlv
      rw [hlv] at ea
      subst ea
      clear hlv
      have f0 : w3.cell? ⟨g, 0, none⟩ = some (.int .i64 2) := H3.out.sta.c 0 (by rw [HCS.out]; rfl)
      have f2 : w3.cell? ⟨g, 2, none⟩ = some (.int .i64 0) := H3.out.sta.c 2 (by rw [HCS.out]; rfl)
      have f3 : w3.cell? ⟨g, 3, none⟩ = some (.slice A n c) := H3.out.sta.c 3 (by rw [HCS.out]; rfl)
      go_wp2_with fail
      refine (aputLst_any w3 Aa A lv ca n c (L0) body H3.out ((HH.out.1.below H3.out.sta.bel).more H3.out.sta.bel.size) hl2 (by omega)).mono ?_
      rintro e w4 ⟨v4, rfl, hB⟩
      have H4 := Hd.mk hB
      clear hB HLV f0 f2 f3 H3
      have f0 : w4.cell? ⟨g, 0, none⟩ = some (.int .i64 2) := H4.out.sta.c 0 (by rw [HCS.out]; rfl)
      have f2 : w4.cell? ⟨g, 2, none⟩ = some (.int .i64 0) := H4.out.sta.c 2 (by rw [HCS.out]; rfl)
      go_wp2_with fail
      go_ret
      have hz : anC a = L0 ++ ub body := by rw [HR.out, ← HL0.out.1]; simp [anC, tBody, tGen, tKeys, tPage]
      rw [hz]
      exact ⟨_, rfl, H4.out.own, H4.out.sta.bel⟩
    · have HNZ := Hd.mk hC0
      have hcz : ((cn : Int) != 0) = true := by rw [bne_iff_ne]; omega
      clear hC0
      have f0 : w3.cell? ⟨g, 0, none⟩ = some (.int .i64 2) := H3.out.sta.c 0 (by rw [HCS.out]; rfl)
      have f2 : w3.cell? ⟨g, 2, none⟩ = some (.int .i64 (cn : Int)) := H3.out.sta.c 2 (by rw [HCS.out]; rfl)
      go_wp2_with fail
      go_ret
      have hz : anC a = L0 := by rw [HR.out, ← HL0.out.1]; simp [anC, tBody, tGen, tKeys, tPage, HNZ.out]
      rw [hz]
      exact ⟨_, rfl, H3.out.own, H3.out.sta.bel⟩
  · by_cases hC0 : cn = 0
    · subst hC0
      obtain ⟨Aa, ca, ea, _, _⟩ := H3.out.rd
      obtain ⟨lv, hlv⟩ : ∃ lv, (L0).length = lv := ⟨_, rfl⟩
      have hl2 : lv ≤ 33554432 := by rw [← hlv]; have := HL0.out.2; have u1 := uv_len next.size; have u2 := uv_len keys.length; have u3 := uv_len groups.length; have u4 := uv_len body.length; have t1 := HTX.out; have b1 := HH.out.2.2.2; (try simp only [List.length_append, us, ub, ut, sb_len]); omega
      have HLV := Hd.mk hlv
      rw [hlv] at ea
      subst ea
      clear hlv
      have f0 : w3.cell? ⟨g, 0, none⟩ = some (.int .i64 3) := H3.out.sta.c 0 (by rw [HCS.out]; rfl)
      have f2 : w3.cell? ⟨g, 2, none⟩ = some (.int .i64 0) := H3.out.sta.c 2 (by rw [HCS.out]; rfl)
      have f3 : w3.cell? ⟨g, 3, none⟩ = some (.slice A n c) := H3.out.sta.c 3 (by rw [HCS.out]; rfl)
      go_wp2_with fail
      refine (aputLst_any w3 Aa A lv ca n c (L0) body H3.out ((HH.out.1.below H3.out.sta.bel).more H3.out.sta.bel.size) hl2 (by omega)).mono ?_
      rintro e w4 ⟨v4, rfl, hB⟩
      have H4 := Hd.mk hB
      clear hB HLV f0 f2 f3 H3
      have f0 : w4.cell? ⟨g, 0, none⟩ = some (.int .i64 3) := H4.out.sta.c 0 (by rw [HCS.out]; rfl)
      have f2 : w4.cell? ⟨g, 2, none⟩ = some (.int .i64 0) := H4.out.sta.c 2 (by rw [HCS.out]; rfl)
      go_wp2_with fail
      go_ret
      have hz : anC a = L0 ++ ub body := by rw [HR.out, ← HL0.out.1]; simp [anC, tBody, tGen, tKeys, tPage]
      rw [hz]
      exact ⟨_, rfl, H4.out.own, H4.out.sta.bel⟩
    · have HNZ := Hd.mk hC0
      have hcz : ((cn : Int) != 0) = true := by rw [bne_iff_ne]; omega
      clear hC0
      have f0 : w3.cell? ⟨g, 0, none⟩ = some (.int .i64 3) := H3.out.sta.c 0 (by rw [HCS.out]; rfl)
      have f2 : w3.cell? ⟨g, 2, none⟩ = some (.int .i64 (cn : Int)) := H3.out.sta.c 2 (by rw [HCS.out]; rfl)
      go_wp2_with fail
      go_ret
      have hz : anC a = L0 := by rw [HR.out, ← HL0.out.1]; simp [anC, tBody, tGen, tKeys, tPage, HNZ.out]
      rw [hz]
      exact ⟨_, rfl, H3.out.own, H3.out.sta.bel⟩
  · by_cases hC0 : cn = 0
    · subst hC0
      obtain ⟨Aa, ca, ea, _, _⟩ := H3.out.rd
      obtain ⟨lv, hlv⟩ : ∃ lv, (L0).length = lv := ⟨_, rfl⟩
      have hl2 : lv ≤ 33554432 := by rw [← hlv]; have := HL0.out.2; have u1 := uv_len next.size; have u2 := uv_len keys.length; have u3 := uv_len groups.length; have u4 := uv_len body.length; have t1 := HTX.out; have b1 := HH.out.2.2.2; (try simp only [List.length_append, us, ub, ut, sb_len]); omega
      have HLV := Hd.mk hlv
      rw [hlv] at ea
      subst ea
      clear hlv
      have f0 : w3.cell? ⟨g, 0, none⟩ = some (.int .i64 4) := H3.out.sta.c 0 (by rw [HCS.out]; rfl)
      have f2 : w3.cell? ⟨g, 2, none⟩ = some (.int .i64 0) := H3.out.sta.c 2 (by rw [HCS.out]; rfl)
      go_upto_region 11 with fail
      refine wp_region_held_drew (S := fun W => DS w W g xs0) (by kernel_rfl) (H3.out.sta.step (Below.refl _ _).drew) (fun hHeld => ?_)
      have HD : Hd (DB w w3.drew g xs0 (.slice Aa lv ca) (L0)) := ⟨⟨hHeld, let ⟨A', c', e, hc, hr⟩ := H3.out.rd; ⟨A', c', e, hc, hr.keep (fun _ _ => rfl)⟩, H3.out.own⟩⟩
      refine wpAnyH_take (i := 0) (oi := ?oi101) (v := ?v101) ?hi101 (by kernel_rfl) (by kernel_rfl) (by kernel_rfl) ?hQ101 (Or.inl ⟨?hw101, ?hy101⟩) (by assumption) ?rest101
      case hi101 => simp only [List.getElem?_toArray, List.getElem?_cons_succ, List.getElem?_cons_zero]; rfl
      case hQ101 => exact fun _ _ _ h => h
      case hw101 => rfl
      case hy101 => (intro W hW; have d8 := hW.c 8 (by rw [HCS.out]; rfl); have d9 := hW.c 9 (by rw [HCS.out]; rfl); have d10 := hW.c 10 (by rw [HCS.out]; rfl); go_simp; all_goals rfl)
      simp only [Act.put, List.setIfInBounds_toArray, List.set_cons_zero, List.set_cons_succ]
      refine wpAnyH_take (i := 1) (oi := ?oi102) (v := ?v102) ?hi102 (by kernel_rfl) (by kernel_rfl) (by kernel_rfl) ?hQ102 (Or.inl ⟨?hw102, ?hy102⟩) (by assumption) ?rest102
      case hi102 => simp only [List.getElem?_toArray, List.getElem?_cons_succ, List.getElem?_cons_zero]; rfl
      case hQ102 => exact fun _ _ _ h => h
      case hw102 => rfl
      case hy102 => (intro W hW; have d8 := hW.c 8 (by rw [HCS.out]; rfl); have d9 := hW.c 9 (by rw [HCS.out]; rfl); have d10 := hW.c 10 (by rw [HCS.out]; rfl); go_simp; all_goals rfl)
      simp only [Act.put, List.setIfInBounds_toArray, List.set_cons_zero, List.set_cons_succ]
      refine wpAnyH_take (i := 2) (oi := ?oi103) (v := ?v103) ?hi103 (by kernel_rfl) (by kernel_rfl) (by kernel_rfl) ?hQ103 (Or.inl ⟨?hw103, ?hy103⟩) (by assumption) ?rest103
      case hi103 => simp only [List.getElem?_toArray, List.getElem?_cons_succ, List.getElem?_cons_zero]; rfl
      case hQ103 => exact fun _ _ _ h => h
      case hw103 => rfl
      case hy103 => (intro W hW; have d8 := hW.c 8 (by rw [HCS.out]; rfl); have d9 := hW.c 9 (by rw [HCS.out]; rfl); have d10 := hW.c 10 (by rw [HCS.out]; rfl); go_simp; all_goals rfl)
      simp only [Act.put, List.setIfInBounds_toArray, List.set_cons_zero, List.set_cons_succ]
      refine wpAnyH_take (i := 3) (oi := ?oi104) (v := ?v104) ?hi104 (by kernel_rfl) (by kernel_rfl) (by kernel_rfl) ?hQ104 (Or.inl ⟨?hw104, ?hy104⟩) (by assumption) ?rest104
      case hi104 => simp only [List.getElem?_toArray, List.getElem?_cons_succ, List.getElem?_cons_zero]; rfl
      case hQ104 => exact fun _ _ _ h => h
      case hw104 => rfl
      case hy104 => (intro W hW; have d8 := hW.c 8 (by rw [HCS.out]; rfl); have d9 := hW.c 9 (by rw [HCS.out]; rfl); have d10 := hW.c 10 (by rw [HCS.out]; rfl); go_simp; all_goals rfl)
      simp only [Act.put, List.setIfInBounds_toArray, List.set_cons_zero, List.set_cons_succ]
      refine wpAnyH_take (i := 5) (oi := ?oi105) (v := ?v105) ?hi105 (by kernel_rfl) (by kernel_rfl) (by kernel_rfl) ?hQ105 (Or.inl ⟨?hw105, ?hy105⟩) (by assumption) ?rest105
      case hi105 => simp only [List.getElem?_toArray, List.getElem?_cons_succ, List.getElem?_cons_zero]; rfl
      case hQ105 => exact fun _ _ _ h => h
      case hw105 => rfl
      case hy105 => (intro W hW; have d8 := hW.c 8 (by rw [HCS.out]; rfl); have d9 := hW.c 9 (by rw [HCS.out]; rfl); have d10 := hW.c 10 (by rw [HCS.out]; rfl); go_simp; all_goals rfl)
      simp only [Act.put, List.setIfInBounds_toArray, List.set_cons_zero, List.set_cons_succ]
      refine wpAnyH_take (i := 6) (oi := ?oi106) (v := ?v106) ?hi106 (by kernel_rfl) (by kernel_rfl) (by kernel_rfl) ?hQ106 (Or.inl ⟨?hw106, ?hy106⟩) (by assumption) ?rest106
      case hi106 => simp only [List.getElem?_toArray, List.getElem?_cons_succ, List.getElem?_cons_zero]; rfl
      case hQ106 => exact fun _ _ _ h => h
      case hw106 => rfl
      case hy106 => (intro W hW; have d8 := hW.c 8 (by rw [HCS.out]; rfl); have d9 := hW.c 9 (by rw [HCS.out]; rfl); have d10 := hW.c 10 (by rw [HCS.out]; rfl); go_simp; all_goals rfl)
      simp only [Act.put, List.setIfInBounds_toArray, List.set_cons_zero, List.set_cons_succ]
      refine wpAnyH_take (i := 7) (oi := ?oi107) (v := ?v107) ?hi107 (by kernel_rfl) (by kernel_rfl) (by kernel_rfl) ?hQ107 (Or.inl ⟨?hw107, ?hy107⟩) (by assumption) ?rest107
      case hi107 => simp only [List.getElem?_toArray, List.getElem?_cons_succ, List.getElem?_cons_zero]; rfl
      case hQ107 => exact fun _ _ _ h => h
      case hw107 => rfl
      case hy107 => (intro W hW; have d8 := hW.c 8 (by rw [HCS.out]; rfl); have d9 := hW.c 9 (by rw [HCS.out]; rfl); have d10 := hW.c 10 (by rw [HCS.out]; rfl); go_simp; all_goals rfl)
      simp only [Act.put, List.setIfInBounds_toArray, List.set_cons_zero, List.set_cons_succ]
      refine wpAnyH_take (i := 9) (oi := ?oi108) (v := ?v108) ?hi108 (by kernel_rfl) (by kernel_rfl) (by kernel_rfl) ?hQ108 (Or.inl ⟨?hw108, ?hy108⟩) (by assumption) ?rest108
      case hi108 => simp only [List.getElem?_toArray, List.getElem?_cons_succ, List.getElem?_cons_zero]; rfl
      case hQ108 => exact fun _ _ _ h => h
      case hw108 => rfl
      case hy108 => (intro W hW; have d8 := hW.c 8 (by rw [HCS.out]; rfl); have d9 := hW.c 9 (by rw [HCS.out]; rfl); have d10 := hW.c 10 (by rw [HCS.out]; rfl); go_simp; all_goals rfl)
      simp only [Act.put, List.setIfInBounds_toArray, List.set_cons_zero, List.set_cons_succ]
      refine wpAnyH_take (i := 10) (oi := ?oi109) (v := ?v109) ?hi109 (by kernel_rfl) (by kernel_rfl) (by kernel_rfl) ?hQ109 (Or.inl ⟨?hw109, ?hy109⟩) (by assumption) ?rest109
      case hi109 => simp only [List.getElem?_toArray, List.getElem?_cons_succ, List.getElem?_cons_zero]; rfl
      case hQ109 => exact fun _ _ _ h => h
      case hw109 => rfl
      case hy109 => (intro W hW; have d8 := hW.c 8 (by rw [HCS.out]; rfl); have d9 := hW.c 9 (by rw [HCS.out]; rfl); have d10 := hW.c 10 (by rw [HCS.out]; rfl); go_simp; all_goals rfl)
      simp only [Act.put, List.setIfInBounds_toArray, List.set_cons_zero, List.set_cons_succ]
      refine wpAnyH_ready (rs := [4]) (by kernel_rfl) (by simp) ?_
      refine AllReadyH.cons (i := 4) (o := ?o110) ?ho110 (fun Kq hK => ?step110) AllReadyH.nil
      case ho110 => simp only [List.getElem?_toArray, List.getElem?_cons_succ, List.getElem?_cons_zero]; rfl
      go_simp
      (go_at_call 85; refine (aputNum_any _ Aa lv ca ge (L0) HD.out (HQ.out ge (by simp)).1 (HQ.out ge (by simp)).2 hl2).mono ?_; rintro e wa0 ⟨va0, rfl, hB⟩)
      have HA0 := Hd.mk hB
      have hF := hB.sta
      refine hK.out _ _ hF (fun _ => ?_)
      clear hK Kq hHeld hB
      have hHeld := hF
      clear hF
      try simp only [Act.put, List.setIfInBounds_toArray, List.set_cons_zero, List.set_cons_succ]
      obtain ⟨Ab0, cb0', eb, _, _⟩ := HA0.out.rd
      obtain ⟨lw0, hlw⟩ : ∃ lw, (L0 ++ uz ge).length = lw := ⟨_, rfl⟩
      have hl30 : lw0 ≤ 33554432 := by rw [← hlw]; have z1 := uz_len ge; have z2 := uz_len gc; have z3 := uz_len size; have z4 := uz_len h1; have z5 := uz_len h2; have z6 := uz_len h3; have := HL0.out.2; have u1 := uv_len next.size; have u2 := uv_len keys.length; have u3 := uv_len groups.length; have u4 := uv_len body.length; have t1 := HTX.out; have b1 := HH.out.2.2.2; (try simp only [List.length_append, us, ub, ut, sb_len]); omega
      rw [hlw] at eb
      subst eb
      clear hlw
      refine wpAnyH_ready (rs := [8]) (by kernel_rfl) (by simp) ?_
      refine AllReadyH.cons (i := 8) (o := ?o111) ?ho111 (fun Kq hK => ?step111) AllReadyH.nil
      case ho111 => simp only [List.getElem?_toArray, List.getElem?_cons_succ, List.getElem?_cons_zero]; rfl
      go_simp
      (go_at_call 85; refine (aputNum_any _ Ab0 lw0 cb0' gc (L0 ++ uz ge) HA0.out (HQ.out gc (by simp)).1 (HQ.out gc (by simp)).2 hl30).mono ?_; rintro e wa1 ⟨va1, rfl, hB⟩)
      have HA1 := Hd.mk hB
      have hF := hB.sta
      refine hK.out _ _ hF (fun _ => ?_)
      clear hK Kq hHeld hB
      have hHeld := hF
      clear hF
      try simp only [Act.put, List.setIfInBounds_toArray, List.set_cons_zero, List.set_cons_succ]
      obtain ⟨Ab1, cb1', eb, _, _⟩ := HA1.out.rd
      obtain ⟨lw1, hlw⟩ : ∃ lw, (L0 ++ uz ge ++ uz gc).length = lw := ⟨_, rfl⟩
      have hl31 : lw1 ≤ 33554432 := by rw [← hlw]; have z1 := uz_len ge; have z2 := uz_len gc; have z3 := uz_len size; have z4 := uz_len h1; have z5 := uz_len h2; have z6 := uz_len h3; have := HL0.out.2; have u1 := uv_len next.size; have u2 := uv_len keys.length; have u3 := uv_len groups.length; have u4 := uv_len body.length; have t1 := HTX.out; have b1 := HH.out.2.2.2; (try simp only [List.length_append, us, ub, ut, sb_len]); omega
      rw [hlw] at eb
      subst eb
      clear hlw
      refine wpAnyH_ready (rs := [11]) (by kernel_rfl) (by simp) ?_
      refine AllReadyH.cons (i := 11) (o := ?o112) ?ho112 (fun Kq hK => ?step112) AllReadyH.nil
      case ho112 => simp only [List.getElem?_toArray, List.getElem?_cons_succ, List.getElem?_cons_zero]; rfl
      go_simp
      (go_at_call 85; refine (aputNum_any _ Ab1 lw1 cb1' size (L0 ++ uz ge ++ uz gc) HA1.out (HQ.out size (by simp)).1 (HQ.out size (by simp)).2 hl31).mono ?_; rintro e wa2 ⟨va2, rfl, hB⟩)
      have HA2 := Hd.mk hB
      have hF := hB.sta
      refine hK.out _ _ hF (fun _ => ?_)
      clear hK Kq hHeld hB
      have hHeld := hF
      clear hF
      try simp only [Act.put, List.setIfInBounds_toArray, List.set_cons_zero, List.set_cons_succ]
      refine wpAnyH_take (i := 12) (oi := ?oi113) (v := ?v113) ?hi113 (by kernel_rfl) (by kernel_rfl) (by kernel_rfl) ?hQ113 (Or.inl ⟨?hw113, ?hy113⟩) (by assumption) ?rest113
      case hi113 => simp only [List.getElem?_toArray, List.getElem?_cons_succ, List.getElem?_cons_zero]; rfl
      case hQ113 => exact fun _ _ _ h => h
      case hw113 => rfl
      case hy113 => (intro W hW; have d8 := hW.c 8 (by rw [HCS.out]; rfl); have d9 := hW.c 9 (by rw [HCS.out]; rfl); have d10 := hW.c 10 (by rw [HCS.out]; rfl); go_simp; all_goals rfl)
      simp only [Act.put, List.setIfInBounds_toArray, List.set_cons_zero, List.set_cons_succ]
      refine wpAnyH_done (by kernel_rfl) ?_ _
      clear hHeld HD HLV H3 f0 f2 HA0 HA1
      have f0 : wa2.cell? ⟨g, 0, none⟩ = some (.int .i64 4) := HA2.out.sta.c 0 (by rw [HCS.out]; rfl)
      have f2 : wa2.cell? ⟨g, 2, none⟩ = some (.int .i64 0) := HA2.out.sta.c 2 (by rw [HCS.out]; rfl)
      go_wp2_with fail
      go_ret
      have hz : anC a = L0 ++ uz ge ++ uz gc ++ uz size := by rw [HR.out, ← HL0.out.1]; simp [anC, tBody, tGen, tKeys, tPage]
      rw [hz]
      exact ⟨_, rfl, HA2.out.own, HA2.out.sta.bel⟩
    · have HNZ := Hd.mk hC0
      have hcz : ((cn : Int) != 0) = true := by rw [bne_iff_ne]; omega
      clear hC0
      have f0 : w3.cell? ⟨g, 0, none⟩ = some (.int .i64 4) := H3.out.sta.c 0 (by rw [HCS.out]; rfl)
      have f2 : w3.cell? ⟨g, 2, none⟩ = some (.int .i64 (cn : Int)) := H3.out.sta.c 2 (by rw [HCS.out]; rfl)
      go_wp2_with fail
      go_ret
      have hz : anC a = L0 := by rw [HR.out, ← HL0.out.1]; simp [anC, tBody, tGen, tKeys, tPage, HNZ.out]
      rw [hz]
      exact ⟨_, rfl, H3.out.own, H3.out.sta.bel⟩
  · by_cases hC0 : cn = 0
    · subst hC0
      have f0 : w3.cell? ⟨g, 0, none⟩ = some (.int .i64 5) := H3.out.sta.c 0 (by rw [HCS.out]; rfl)
      have f2 : w3.cell? ⟨g, 2, none⟩ = some (.int .i64 0) := H3.out.sta.c 2 (by rw [HCS.out]; rfl)
      go_wp2_with fail
      go_ret
      have hz : anC a = L0 := by rw [HR.out, ← HL0.out.1]; simp [anC, tBody, tGen, tKeys, tPage]
      rw [hz]
      exact ⟨_, rfl, H3.out.own, H3.out.sta.bel⟩
    · have HNZ := Hd.mk hC0
      have hcz : ((cn : Int) != 0) = true := by rw [bne_iff_ne]; omega
      clear hC0
      have f0 : w3.cell? ⟨g, 0, none⟩ = some (.int .i64 5) := H3.out.sta.c 0 (by rw [HCS.out]; rfl)
      have f2 : w3.cell? ⟨g, 2, none⟩ = some (.int .i64 (cn : Int)) := H3.out.sta.c 2 (by rw [HCS.out]; rfl)
      go_wp2_with fail
      go_ret
      have hz : anC a = L0 := by rw [HR.out, ← HL0.out.1]; simp [anC, tBody, tGen, tKeys, tPage, HNZ.out]
      rw [hz]
      exact ⟨_, rfl, H3.out.own, H3.out.sta.bel⟩
  · by_cases hC0 : cn = 0
    · subst hC0
      obtain ⟨Aa, ca, ea, _, _⟩ := H3.out.rd
      obtain ⟨lv, hlv⟩ : ∃ lv, (L0).length = lv := ⟨_, rfl⟩
      have hl2 : lv ≤ 33554432 := by rw [← hlv]; have := HL0.out.2; have u1 := uv_len next.size; have u2 := uv_len keys.length; have u3 := uv_len groups.length; have u4 := uv_len body.length; have t1 := HTX.out; have b1 := HH.out.2.2.2; (try simp only [List.length_append, us, ub, ut, sb_len]); omega
      have HLV := Hd.mk hlv
      rw [hlv] at ea
      subst ea
      clear hlv
      have f0 : w3.cell? ⟨g, 0, none⟩ = some (.int .i64 6) := H3.out.sta.c 0 (by rw [HCS.out]; rfl)
      have f2 : w3.cell? ⟨g, 2, none⟩ = some (.int .i64 0) := H3.out.sta.c 2 (by rw [HCS.out]; rfl)
      have f4 : w3.cell? ⟨g, 4, none⟩ = some (.slice A2 n2 c2) := H3.out.sta.c 4 (by rw [HCS.out]; rfl)
      go_wp2_with fail
      refine (aputTxt_any w3 Aa A2 lv ca n2 c2 (L0) keys H3.out ((HH.out.2.1.below H3.out.sta.bel).more H3.out.sta.bel.size) hl2 (by omega) (by have := HTX.out; omega)).mono ?_
      rintro e w4 ⟨v4, rfl, hB⟩
      have H4 := Hd.mk hB
      clear hB HLV f0 f2 f4 H3
      have f0 : w4.cell? ⟨g, 0, none⟩ = some (.int .i64 6) := H4.out.sta.c 0 (by rw [HCS.out]; rfl)
      have f2 : w4.cell? ⟨g, 2, none⟩ = some (.int .i64 0) := H4.out.sta.c 2 (by rw [HCS.out]; rfl)
      go_wp2_with fail
      go_ret
      have hz : anC a = L0 ++ ut keys := by rw [HR.out, ← HL0.out.1]; simp [anC, tBody, tGen, tKeys, tPage]
      rw [hz]
      exact ⟨_, rfl, H4.out.own, H4.out.sta.bel⟩
    · have HNZ := Hd.mk hC0
      have hcz : ((cn : Int) != 0) = true := by rw [bne_iff_ne]; omega
      clear hC0
      have f0 : w3.cell? ⟨g, 0, none⟩ = some (.int .i64 6) := H3.out.sta.c 0 (by rw [HCS.out]; rfl)
      have f2 : w3.cell? ⟨g, 2, none⟩ = some (.int .i64 (cn : Int)) := H3.out.sta.c 2 (by rw [HCS.out]; rfl)
      go_wp2_with fail
      go_ret
      have hz : anC a = L0 := by rw [HR.out, ← HL0.out.1]; simp [anC, tBody, tGen, tKeys, tPage, HNZ.out]
      rw [hz]
      exact ⟨_, rfl, H3.out.own, H3.out.sta.bel⟩
  · by_cases hC0 : cn = 0
    · subst hC0
      obtain ⟨Aa, ca, ea, _, _⟩ := H3.out.rd
      obtain ⟨lv, hlv⟩ : ∃ lv, (L0).length = lv := ⟨_, rfl⟩
      have hl2 : lv ≤ 33554432 := by rw [← hlv]; have := HL0.out.2; have u1 := uv_len next.size; have u2 := uv_len keys.length; have u3 := uv_len groups.length; have u4 := uv_len body.length; have t1 := HTX.out; have b1 := HH.out.2.2.2; (try simp only [List.length_append, us, ub, ut, sb_len]); omega
      have HLV := Hd.mk hlv
      rw [hlv] at ea
      subst ea
      clear hlv
      have f0 : w3.cell? ⟨g, 0, none⟩ = some (.int .i64 7) := H3.out.sta.c 0 (by rw [HCS.out]; rfl)
      have f2 : w3.cell? ⟨g, 2, none⟩ = some (.int .i64 0) := H3.out.sta.c 2 (by rw [HCS.out]; rfl)
      have f4 : w3.cell? ⟨g, 4, none⟩ = some (.slice A2 n2 c2) := H3.out.sta.c 4 (by rw [HCS.out]; rfl)
      go_wp2_with fail
      refine (aputTxt_any w3 Aa A2 lv ca n2 c2 (L0) keys H3.out ((HH.out.2.1.below H3.out.sta.bel).more H3.out.sta.bel.size) hl2 (by omega) (by have := HTX.out; omega)).mono ?_
      rintro e w4 ⟨v4, rfl, hB⟩
      have H4 := Hd.mk hB
      clear hB HLV f0 f2 f4 H3
      obtain ⟨Aa, ca, ea, _, _⟩ := H4.out.rd
      obtain ⟨lv, hlv⟩ : ∃ lv, (L0 ++ ut keys).length = lv := ⟨_, rfl⟩
      have hl2 : lv ≤ 33554432 := by rw [← hlv]; have := HL0.out.2; have u1 := uv_len next.size; have u2 := uv_len keys.length; have u3 := uv_len groups.length; have u4 := uv_len body.length; have t1 := HTX.out; have b1 := HH.out.2.2.2; (try simp only [List.length_append, us, ub, ut, sb_len]); omega
      have HLV := Hd.mk hlv
      rw [hlv] at ea
      subst ea
      clear hlv
      have f0 : w4.cell? ⟨g, 0, none⟩ = some (.int .i64 7) := H4.out.sta.c 0 (by rw [HCS.out]; rfl)
      have f2 : w4.cell? ⟨g, 2, none⟩ = some (.int .i64 0) := H4.out.sta.c 2 (by rw [HCS.out]; rfl)
      have f5 : w4.cell? ⟨g, 5, none⟩ = some (.slice A3 n3 c3) := H4.out.sta.c 5 (by rw [HCS.out]; rfl)
      go_wp2_with fail
      refine (aputTxt_any w4 Aa A3 lv ca n3 c3 (L0 ++ ut keys) groups H4.out ((HH.out.2.2.1.below H4.out.sta.bel).more H4.out.sta.bel.size) hl2 (by omega) (by have := HTX.out; omega)).mono ?_
      rintro e w5 ⟨v5, rfl, hB⟩
      have H5 := Hd.mk hB
      clear hB HLV f0 f2 f5 H4
      obtain ⟨Aa, ca, ea, _, _⟩ := H5.out.rd
      obtain ⟨lv, hlv⟩ : ∃ lv, (L0 ++ ut keys ++ ut groups).length = lv := ⟨_, rfl⟩
      have hl2 : lv ≤ 33554432 := by rw [← hlv]; have := HL0.out.2; have u1 := uv_len next.size; have u2 := uv_len keys.length; have u3 := uv_len groups.length; have u4 := uv_len body.length; have t1 := HTX.out; have b1 := HH.out.2.2.2; (try simp only [List.length_append, us, ub, ut, sb_len]); omega
      have HLV := Hd.mk hlv
      rw [hlv] at ea
      subst ea
      clear hlv
      have f0 : w5.cell? ⟨g, 0, none⟩ = some (.int .i64 7) := H5.out.sta.c 0 (by rw [HCS.out]; rfl)
      have f2 : w5.cell? ⟨g, 2, none⟩ = some (.int .i64 0) := H5.out.sta.c 2 (by rw [HCS.out]; rfl)
      have f6 : w5.cell? ⟨g, 6, none⟩ = some (.string next) := H5.out.sta.c 6 (by rw [HCS.out]; rfl)
      have hcv := fun w => run_bytes_of_string (P := Try.prog) w 9 26 5 next infoStr Try.underlying26 Try.underlying5
      generalize hcap : grownCap = GC at hcv
      go_wp2_with fail
      refine (aputStr_any w5 next _ Aa lv ca (L0 ++ ut keys ++ ut groups) H5.out hl2 (by have := HTX.out; omega)).mono ?_
      rintro e w6 ⟨v6, rfl, hB⟩
      have H6 := Hd.mk hB
      clear hB HLV f0 f2 f6 H5
      clear hcv hcap
      rcases hm : more with _ | _
      · subst hm
        obtain ⟨Aa, ca, ea, _, _⟩ := H6.out.rd
        obtain ⟨lv, hlv⟩ : ∃ lv, (L0 ++ ut keys ++ ut groups ++ us next).length = lv := ⟨_, rfl⟩
        have hl2 : lv ≤ 33554432 := by rw [← hlv]; have := HL0.out.2; have u1 := uv_len next.size; have u2 := uv_len keys.length; have u3 := uv_len groups.length; have u4 := uv_len body.length; have t1 := HTX.out; have b1 := HH.out.2.2.2; (try simp only [List.length_append, us, ub, ut, sb_len]); omega
        have HLV := Hd.mk hlv
        rw [hlv] at ea
        subst ea
        clear hlv
        have f0 : w6.cell? ⟨g, 0, none⟩ = some (.int .i64 7) := H6.out.sta.c 0 (by rw [HCS.out]; rfl)
        have f2 : w6.cell? ⟨g, 2, none⟩ = some (.int .i64 0) := H6.out.sta.c 2 (by rw [HCS.out]; rfl)
        have f7 : w6.cell? ⟨g, 7, none⟩ = some (.bool false) := H6.out.sta.c 7 (by rw [HCS.out]; rfl)
        have HROW : Hd (w6.ownsRow w.heap.size 5 1 (.slice Aa lv ca) lv (cb (L0 ++ ut keys ++ ut groups ++ us next))) := ⟨by have := H6.out.own; rw [HLV.out] at this; exact this⟩
        go_wp2_with (refine at_buildSlice ?_; refine wpList_push elB rfl rfl (.tmp 95) (.tmp 96) 97 rfl rfl rfl w.heap.size (.slice Aa lv ca) lv (cb (L0 ++ ut keys ++ ut groups ++ us next)) (.int .u8 0) rfl rfl rfl rfl HROW.out (by unfold maxLen; omega) (by omega) H6.out.sta.bel.size ?_; intro v9 w9 hO9; have H9 := Hd.mk hO9; clear hO9)
        go_ret
        have hz : anC a = L0 ++ ut keys ++ ut groups ++ us next ++ [0] := by rw [HR.out, ← HL0.out.1]; simp [anC, tBody, tGen, tKeys, tPage, ut]
        have hlz : (anC a).length = lv + 1 := by rw [hz, List.length_append, HLV.out]; rfl
        have hcz : cb (anC a) = cb (L0 ++ ut keys ++ ut groups ++ us next) ++ [.int .u8 0] := by rw [hz]; unfold cb; rw [List.map_append]; rfl
        rw [hlz, hcz]
        exact ⟨_, rfl, H9.out.own, H6.out.sta.bel.trans ((H9.out.below (fun k hk => (HROW.out.lt k hk).1) H6.out.sta.bel.size))⟩
      · subst hm
        obtain ⟨Aa, ca, ea, _, _⟩ := H6.out.rd
        obtain ⟨lv, hlv⟩ : ∃ lv, (L0 ++ ut keys ++ ut groups ++ us next).length = lv := ⟨_, rfl⟩
        have hl2 : lv ≤ 33554432 := by rw [← hlv]; have := HL0.out.2; have u1 := uv_len next.size; have u2 := uv_len keys.length; have u3 := uv_len groups.length; have u4 := uv_len body.length; have t1 := HTX.out; have b1 := HH.out.2.2.2; (try simp only [List.length_append, us, ub, ut, sb_len]); omega
        have HLV := Hd.mk hlv
        rw [hlv] at ea
        subst ea
        clear hlv
        have f0 : w6.cell? ⟨g, 0, none⟩ = some (.int .i64 7) := H6.out.sta.c 0 (by rw [HCS.out]; rfl)
        have f2 : w6.cell? ⟨g, 2, none⟩ = some (.int .i64 0) := H6.out.sta.c 2 (by rw [HCS.out]; rfl)
        have f7 : w6.cell? ⟨g, 7, none⟩ = some (.bool true) := H6.out.sta.c 7 (by rw [HCS.out]; rfl)
        have HROW : Hd (w6.ownsRow w.heap.size 5 1 (.slice Aa lv ca) lv (cb (L0 ++ ut keys ++ ut groups ++ us next))) := ⟨by have := H6.out.own; rw [HLV.out] at this; exact this⟩
        go_wp2_with (refine at_buildSlice ?_; refine wpList_push elB rfl rfl (.tmp 95) (.tmp 96) 97 rfl rfl rfl w.heap.size (.slice Aa lv ca) lv (cb (L0 ++ ut keys ++ ut groups ++ us next)) (.int .u8 1) rfl rfl rfl rfl HROW.out (by unfold maxLen; omega) (by omega) H6.out.sta.bel.size ?_; intro v9 w9 hO9; have H9 := Hd.mk hO9; clear hO9)
        go_ret
        have hz : anC a = L0 ++ ut keys ++ ut groups ++ us next ++ [1] := by rw [HR.out, ← HL0.out.1]; simp [anC, tBody, tGen, tKeys, tPage, ut]
        have hlz : (anC a).length = lv + 1 := by rw [hz, List.length_append, HLV.out]; rfl
        have hcz : cb (anC a) = cb (L0 ++ ut keys ++ ut groups ++ us next) ++ [.int .u8 1] := by rw [hz]; unfold cb; rw [List.map_append]; rfl
        rw [hlz, hcz]
        exact ⟨_, rfl, H9.out.own, H6.out.sta.bel.trans ((H9.out.below (fun k hk => (HROW.out.lt k hk).1) H6.out.sta.bel.size))⟩
    · have HNZ := Hd.mk hC0
      have hcz : ((cn : Int) != 0) = true := by rw [bne_iff_ne]; omega
      clear hC0
      have f0 : w3.cell? ⟨g, 0, none⟩ = some (.int .i64 7) := H3.out.sta.c 0 (by rw [HCS.out]; rfl)
      have f2 : w3.cell? ⟨g, 2, none⟩ = some (.int .i64 (cn : Int)) := H3.out.sta.c 2 (by rw [HCS.out]; rfl)
      go_wp2_with fail
      go_ret
      have hz : anC a = L0 := by rw [HR.out, ← HL0.out.1]; simp [anC, tBody, tGen, tKeys, tPage, HNZ.out]
      rw [hz]
      exact ⟨_, rfl, H3.out.own, H3.out.sta.bel⟩
  · skip
    obtain ⟨Aa, ca, ea, _, _⟩ := H3.out.rd
    obtain ⟨lv, hlv⟩ : ∃ lv, (L0).length = lv := ⟨_, rfl⟩
    have hl2 : lv ≤ 33554432 := by rw [← hlv]; have := HL0.out.2; have u1 := uv_len next.size; have u2 := uv_len keys.length; have u3 := uv_len groups.length; have u4 := uv_len body.length; have t1 := HTX.out; have b1 := HH.out.2.2.2; (try simp only [List.length_append, us, ub, ut, sb_len]); omega
    have HLV := Hd.mk hlv
    rw [hlv] at ea
    subst ea
    clear hlv
    have f0 : w3.cell? ⟨g, 0, none⟩ = some (.int .i64 8) := H3.out.sta.c 0 (by rw [HCS.out]; rfl)
    go_upto_region 5 with fail
    refine wp_region_held_drew (S := fun W => DS w W g xs0) (by kernel_rfl) (H3.out.sta.step (Below.refl _ _).drew) (fun hHeld => ?_)
    have HD : Hd (DB w w3.drew g xs0 (.slice Aa lv ca) (L0)) := ⟨⟨hHeld, let ⟨A', c', e, hc, hr⟩ := H3.out.rd; ⟨A', c', e, hc, hr.keep (fun _ _ => rfl)⟩, H3.out.own⟩⟩
    refine wpAnyH_take (i := 0) (oi := ?oi201) (v := ?v201) ?hi201 (by kernel_rfl) (by kernel_rfl) (by kernel_rfl) ?hQ201 (Or.inl ⟨?hw201, ?hy201⟩) (by assumption) ?rest201
    case hi201 => simp only [List.getElem?_toArray, List.getElem?_cons_succ, List.getElem?_cons_zero]; rfl
    case hQ201 => exact fun _ _ _ h => h
    case hw201 => rfl
    case hy201 => (intro W hW; have d11 := hW.c 11 (by rw [HCS.out]; rfl); have d12 := hW.c 12 (by rw [HCS.out]; rfl); have d13 := hW.c 13 (by rw [HCS.out]; rfl); have d14 := hW.c 14 (by rw [HCS.out]; rfl); go_simp; all_goals rfl)
    simp only [Act.put, List.setIfInBounds_toArray, List.set_cons_zero, List.set_cons_succ]
    refine wpAnyH_take (i := 1) (oi := ?oi202) (v := ?v202) ?hi202 (by kernel_rfl) (by kernel_rfl) (by kernel_rfl) ?hQ202 (Or.inl ⟨?hw202, ?hy202⟩) (by assumption) ?rest202
    case hi202 => simp only [List.getElem?_toArray, List.getElem?_cons_succ, List.getElem?_cons_zero]; rfl
    case hQ202 => exact fun _ _ _ h => h
    case hw202 => rfl
    case hy202 => (intro W hW; have d11 := hW.c 11 (by rw [HCS.out]; rfl); have d12 := hW.c 12 (by rw [HCS.out]; rfl); have d13 := hW.c 13 (by rw [HCS.out]; rfl); have d14 := hW.c 14 (by rw [HCS.out]; rfl); go_simp; all_goals rfl)
    simp only [Act.put, List.setIfInBounds_toArray, List.set_cons_zero, List.set_cons_succ]
    refine wpAnyH_take (i := 2) (oi := ?oi203) (v := ?v203) ?hi203 (by kernel_rfl) (by kernel_rfl) (by kernel_rfl) ?hQ203 (Or.inl ⟨?hw203, ?hy203⟩) (by assumption) ?rest203
    case hi203 => simp only [List.getElem?_toArray, List.getElem?_cons_succ, List.getElem?_cons_zero]; rfl
    case hQ203 => exact fun _ _ _ h => h
    case hw203 => rfl
    case hy203 => (intro W hW; have d11 := hW.c 11 (by rw [HCS.out]; rfl); have d12 := hW.c 12 (by rw [HCS.out]; rfl); have d13 := hW.c 13 (by rw [HCS.out]; rfl); have d14 := hW.c 14 (by rw [HCS.out]; rfl); go_simp; all_goals rfl)
    simp only [Act.put, List.setIfInBounds_toArray, List.set_cons_zero, List.set_cons_succ]
    refine wpAnyH_take (i := 3) (oi := ?oi204) (v := ?v204) ?hi204 (by kernel_rfl) (by kernel_rfl) (by kernel_rfl) ?hQ204 (Or.inl ⟨?hw204, ?hy204⟩) (by assumption) ?rest204
    case hi204 => simp only [List.getElem?_toArray, List.getElem?_cons_succ, List.getElem?_cons_zero]; rfl
    case hQ204 => exact fun _ _ _ h => h
    case hw204 => rfl
    case hy204 => (intro W hW; have d11 := hW.c 11 (by rw [HCS.out]; rfl); have d12 := hW.c 12 (by rw [HCS.out]; rfl); have d13 := hW.c 13 (by rw [HCS.out]; rfl); have d14 := hW.c 14 (by rw [HCS.out]; rfl); go_simp; all_goals rfl)
    simp only [Act.put, List.setIfInBounds_toArray, List.set_cons_zero, List.set_cons_succ]
    refine wpAnyH_take (i := 5) (oi := ?oi205) (v := ?v205) ?hi205 (by kernel_rfl) (by kernel_rfl) (by kernel_rfl) ?hQ205 (Or.inl ⟨?hw205, ?hy205⟩) (by assumption) ?rest205
    case hi205 => simp only [List.getElem?_toArray, List.getElem?_cons_succ, List.getElem?_cons_zero]; rfl
    case hQ205 => exact fun _ _ _ h => h
    case hw205 => rfl
    case hy205 => (intro W hW; have d11 := hW.c 11 (by rw [HCS.out]; rfl); have d12 := hW.c 12 (by rw [HCS.out]; rfl); have d13 := hW.c 13 (by rw [HCS.out]; rfl); have d14 := hW.c 14 (by rw [HCS.out]; rfl); go_simp; all_goals rfl)
    simp only [Act.put, List.setIfInBounds_toArray, List.set_cons_zero, List.set_cons_succ]
    refine wpAnyH_take (i := 6) (oi := ?oi206) (v := ?v206) ?hi206 (by kernel_rfl) (by kernel_rfl) (by kernel_rfl) ?hQ206 (Or.inl ⟨?hw206, ?hy206⟩) (by assumption) ?rest206
    case hi206 => simp only [List.getElem?_toArray, List.getElem?_cons_succ, List.getElem?_cons_zero]; rfl
    case hQ206 => exact fun _ _ _ h => h
    case hw206 => rfl
    case hy206 => (intro W hW; have d11 := hW.c 11 (by rw [HCS.out]; rfl); have d12 := hW.c 12 (by rw [HCS.out]; rfl); have d13 := hW.c 13 (by rw [HCS.out]; rfl); have d14 := hW.c 14 (by rw [HCS.out]; rfl); go_simp; all_goals rfl)
    simp only [Act.put, List.setIfInBounds_toArray, List.set_cons_zero, List.set_cons_succ]
    refine wpAnyH_take (i := 7) (oi := ?oi207) (v := ?v207) ?hi207 (by kernel_rfl) (by kernel_rfl) (by kernel_rfl) ?hQ207 (Or.inl ⟨?hw207, ?hy207⟩) (by assumption) ?rest207
    case hi207 => simp only [List.getElem?_toArray, List.getElem?_cons_succ, List.getElem?_cons_zero]; rfl
    case hQ207 => exact fun _ _ _ h => h
    case hw207 => rfl
    case hy207 => (intro W hW; have d11 := hW.c 11 (by rw [HCS.out]; rfl); have d12 := hW.c 12 (by rw [HCS.out]; rfl); have d13 := hW.c 13 (by rw [HCS.out]; rfl); have d14 := hW.c 14 (by rw [HCS.out]; rfl); go_simp; all_goals rfl)
    simp only [Act.put, List.setIfInBounds_toArray, List.set_cons_zero, List.set_cons_succ]
    refine wpAnyH_take (i := 9) (oi := ?oi208) (v := ?v208) ?hi208 (by kernel_rfl) (by kernel_rfl) (by kernel_rfl) ?hQ208 (Or.inl ⟨?hw208, ?hy208⟩) (by assumption) ?rest208
    case hi208 => simp only [List.getElem?_toArray, List.getElem?_cons_succ, List.getElem?_cons_zero]; rfl
    case hQ208 => exact fun _ _ _ h => h
    case hw208 => rfl
    case hy208 => (intro W hW; have d11 := hW.c 11 (by rw [HCS.out]; rfl); have d12 := hW.c 12 (by rw [HCS.out]; rfl); have d13 := hW.c 13 (by rw [HCS.out]; rfl); have d14 := hW.c 14 (by rw [HCS.out]; rfl); go_simp; all_goals rfl)
    simp only [Act.put, List.setIfInBounds_toArray, List.set_cons_zero, List.set_cons_succ]
    refine wpAnyH_take (i := 10) (oi := ?oi209) (v := ?v209) ?hi209 (by kernel_rfl) (by kernel_rfl) (by kernel_rfl) ?hQ209 (Or.inl ⟨?hw209, ?hy209⟩) (by assumption) ?rest209
    case hi209 => simp only [List.getElem?_toArray, List.getElem?_cons_succ, List.getElem?_cons_zero]; rfl
    case hQ209 => exact fun _ _ _ h => h
    case hw209 => rfl
    case hy209 => (intro W hW; have d11 := hW.c 11 (by rw [HCS.out]; rfl); have d12 := hW.c 12 (by rw [HCS.out]; rfl); have d13 := hW.c 13 (by rw [HCS.out]; rfl); have d14 := hW.c 14 (by rw [HCS.out]; rfl); go_simp; all_goals rfl)
    simp only [Act.put, List.setIfInBounds_toArray, List.set_cons_zero, List.set_cons_succ]
    refine wpAnyH_take (i := 11) (oi := ?oi210) (v := ?v210) ?hi210 (by kernel_rfl) (by kernel_rfl) (by kernel_rfl) ?hQ210 (Or.inl ⟨?hw210, ?hy210⟩) (by assumption) ?rest210
    case hi210 => simp only [List.getElem?_toArray, List.getElem?_cons_succ, List.getElem?_cons_zero]; rfl
    case hQ210 => exact fun _ _ _ h => h
    case hw210 => rfl
    case hy210 => (intro W hW; have d11 := hW.c 11 (by rw [HCS.out]; rfl); have d12 := hW.c 12 (by rw [HCS.out]; rfl); have d13 := hW.c 13 (by rw [HCS.out]; rfl); have d14 := hW.c 14 (by rw [HCS.out]; rfl); go_simp; all_goals rfl)
    simp only [Act.put, List.setIfInBounds_toArray, List.set_cons_zero, List.set_cons_succ]
    refine wpAnyH_take (i := 13) (oi := ?oi211) (v := ?v211) ?hi211 (by kernel_rfl) (by kernel_rfl) (by kernel_rfl) ?hQ211 (Or.inl ⟨?hw211, ?hy211⟩) (by assumption) ?rest211
    case hi211 => simp only [List.getElem?_toArray, List.getElem?_cons_succ, List.getElem?_cons_zero]; rfl
    case hQ211 => exact fun _ _ _ h => h
    case hw211 => rfl
    case hy211 => (intro W hW; have d11 := hW.c 11 (by rw [HCS.out]; rfl); have d12 := hW.c 12 (by rw [HCS.out]; rfl); have d13 := hW.c 13 (by rw [HCS.out]; rfl); have d14 := hW.c 14 (by rw [HCS.out]; rfl); go_simp; all_goals rfl)
    simp only [Act.put, List.setIfInBounds_toArray, List.set_cons_zero, List.set_cons_succ]
    refine wpAnyH_take (i := 14) (oi := ?oi212) (v := ?v212) ?hi212 (by kernel_rfl) (by kernel_rfl) (by kernel_rfl) ?hQ212 (Or.inl ⟨?hw212, ?hy212⟩) (by assumption) ?rest212
    case hi212 => simp only [List.getElem?_toArray, List.getElem?_cons_succ, List.getElem?_cons_zero]; rfl
    case hQ212 => exact fun _ _ _ h => h
    case hw212 => rfl
    case hy212 => (intro W hW; have d11 := hW.c 11 (by rw [HCS.out]; rfl); have d12 := hW.c 12 (by rw [HCS.out]; rfl); have d13 := hW.c 13 (by rw [HCS.out]; rfl); have d14 := hW.c 14 (by rw [HCS.out]; rfl); go_simp; all_goals rfl)
    simp only [Act.put, List.setIfInBounds_toArray, List.set_cons_zero, List.set_cons_succ]
    refine wpAnyH_take (i := 15) (oi := ?oi213) (v := ?v213) ?hi213 (by kernel_rfl) (by kernel_rfl) (by kernel_rfl) ?hQ213 (Or.inl ⟨?hw213, ?hy213⟩) (by assumption) ?rest213
    case hi213 => simp only [List.getElem?_toArray, List.getElem?_cons_succ, List.getElem?_cons_zero]; rfl
    case hQ213 => exact fun _ _ _ h => h
    case hw213 => rfl
    case hy213 => (intro W hW; have d11 := hW.c 11 (by rw [HCS.out]; rfl); have d12 := hW.c 12 (by rw [HCS.out]; rfl); have d13 := hW.c 13 (by rw [HCS.out]; rfl); have d14 := hW.c 14 (by rw [HCS.out]; rfl); go_simp; all_goals rfl)
    simp only [Act.put, List.setIfInBounds_toArray, List.set_cons_zero, List.set_cons_succ]
    refine wpAnyH_ready (rs := [4]) (by kernel_rfl) (by simp) ?_
    refine AllReadyH.cons (i := 4) (o := ?o214) ?ho214 (fun Kq hK => ?step214) AllReadyH.nil
    case ho214 => simp only [List.getElem?_toArray, List.getElem?_cons_succ, List.getElem?_cons_zero]; rfl
    go_simp
    (go_at_call 85; refine (aputNum_any _ Aa lv ca h1 (L0) HD.out (HQ.out h1 (by simp)).1 (HQ.out h1 (by simp)).2 hl2).mono ?_; rintro e wa0 ⟨va0, rfl, hB⟩)
    have HA0 := Hd.mk hB
    have hF := hB.sta
    refine hK.out _ _ hF (fun _ => ?_)
    clear hK Kq hHeld hB
    have hHeld := hF
    clear hF
    try simp only [Act.put, List.setIfInBounds_toArray, List.set_cons_zero, List.set_cons_succ]
    obtain ⟨Ab0, cb0', eb, _, _⟩ := HA0.out.rd
    obtain ⟨lw0, hlw⟩ : ∃ lw, (L0 ++ uz h1).length = lw := ⟨_, rfl⟩
    have hl30 : lw0 ≤ 33554432 := by rw [← hlw]; have z1 := uz_len ge; have z2 := uz_len gc; have z3 := uz_len size; have z4 := uz_len h1; have z5 := uz_len h2; have z6 := uz_len h3; have := HL0.out.2; have u1 := uv_len next.size; have u2 := uv_len keys.length; have u3 := uv_len groups.length; have u4 := uv_len body.length; have t1 := HTX.out; have b1 := HH.out.2.2.2; (try simp only [List.length_append, us, ub, ut, sb_len]); omega
    rw [hlw] at eb
    subst eb
    clear hlw
    refine wpAnyH_ready (rs := [8]) (by kernel_rfl) (by simp) ?_
    refine AllReadyH.cons (i := 8) (o := ?o215) ?ho215 (fun Kq hK => ?step215) AllReadyH.nil
    case ho215 => simp only [List.getElem?_toArray, List.getElem?_cons_succ, List.getElem?_cons_zero]; rfl
    go_simp
    (go_at_call 85; refine (aputNum_any _ Ab0 lw0 cb0' h2 (L0 ++ uz h1) HA0.out (HQ.out h2 (by simp)).1 (HQ.out h2 (by simp)).2 hl30).mono ?_; rintro e wa1 ⟨va1, rfl, hB⟩)
    have HA1 := Hd.mk hB
    have hF := hB.sta
    refine hK.out _ _ hF (fun _ => ?_)
    clear hK Kq hHeld hB
    have hHeld := hF
    clear hF
    try simp only [Act.put, List.setIfInBounds_toArray, List.set_cons_zero, List.set_cons_succ]
    obtain ⟨Ab1, cb1', eb, _, _⟩ := HA1.out.rd
    obtain ⟨lw1, hlw⟩ : ∃ lw, (L0 ++ uz h1 ++ uz h2).length = lw := ⟨_, rfl⟩
    have hl31 : lw1 ≤ 33554432 := by rw [← hlw]; have z1 := uz_len ge; have z2 := uz_len gc; have z3 := uz_len size; have z4 := uz_len h1; have z5 := uz_len h2; have z6 := uz_len h3; have := HL0.out.2; have u1 := uv_len next.size; have u2 := uv_len keys.length; have u3 := uv_len groups.length; have u4 := uv_len body.length; have t1 := HTX.out; have b1 := HH.out.2.2.2; (try simp only [List.length_append, us, ub, ut, sb_len]); omega
    rw [hlw] at eb
    subst eb
    clear hlw
    refine wpAnyH_ready (rs := [12]) (by kernel_rfl) (by simp) ?_
    refine AllReadyH.cons (i := 12) (o := ?o216) ?ho216 (fun Kq hK => ?step216) AllReadyH.nil
    case ho216 => simp only [List.getElem?_toArray, List.getElem?_cons_succ, List.getElem?_cons_zero]; rfl
    go_simp
    (go_at_call 85; refine (aputNum_any _ Ab1 lw1 cb1' h3 (L0 ++ uz h1 ++ uz h2) HA1.out (HQ.out h3 (by simp)).1 (HQ.out h3 (by simp)).2 hl31).mono ?_; rintro e wa2 ⟨va2, rfl, hB⟩)
    have HA2 := Hd.mk hB
    have hF := hB.sta
    refine hK.out _ _ hF (fun _ => ?_)
    clear hK Kq hHeld hB
    have hHeld := hF
    clear hF
    try simp only [Act.put, List.setIfInBounds_toArray, List.set_cons_zero, List.set_cons_succ]
    obtain ⟨Ab2, cb2', eb, _, _⟩ := HA2.out.rd
    obtain ⟨lw2, hlw⟩ : ∃ lw, (L0 ++ uz h1 ++ uz h2 ++ uz h3).length = lw := ⟨_, rfl⟩
    have hl32 : lw2 ≤ 33554432 := by rw [← hlw]; have z1 := uz_len ge; have z2 := uz_len gc; have z3 := uz_len size; have z4 := uz_len h1; have z5 := uz_len h2; have z6 := uz_len h3; have := HL0.out.2; have u1 := uv_len next.size; have u2 := uv_len keys.length; have u3 := uv_len groups.length; have u4 := uv_len body.length; have t1 := HTX.out; have b1 := HH.out.2.2.2; (try simp only [List.length_append, us, ub, ut, sb_len]); omega
    rw [hlw] at eb
    subst eb
    clear hlw
    refine wpAnyH_ready (rs := [16]) (by kernel_rfl) (by simp) ?_
    refine AllReadyH.cons (i := 16) (o := ?o217) ?ho217 (fun Kq hK => ?step217) AllReadyH.nil
    case ho217 => simp only [List.getElem?_toArray, List.getElem?_cons_succ, List.getElem?_cons_zero]; rfl
    go_simp
    (go_at_call 85; refine (aputNum_any _ Ab2 lw2 cb2' h4 (L0 ++ uz h1 ++ uz h2 ++ uz h3) HA2.out (HQ.out h4 (by simp)).1 (HQ.out h4 (by simp)).2 hl32).mono ?_; rintro e wa3 ⟨va3, rfl, hB⟩)
    have HA3 := Hd.mk hB
    have hF := hB.sta
    refine hK.out _ _ hF (fun _ => ?_)
    clear hK Kq hHeld hB
    have hHeld := hF
    clear hF
    try simp only [Act.put, List.setIfInBounds_toArray, List.set_cons_zero, List.set_cons_succ]
    refine wpAnyH_take (i := 17) (oi := ?oi218) (v := ?v218) ?hi218 (by kernel_rfl) (by kernel_rfl) (by kernel_rfl) ?hQ218 (Or.inl ⟨?hw218, ?hy218⟩) (by assumption) ?rest218
    case hi218 => simp only [List.getElem?_toArray, List.getElem?_cons_succ, List.getElem?_cons_zero]; rfl
    case hQ218 => exact fun _ _ _ h => h
    case hw218 => rfl
    case hy218 => (intro W hW; have d11 := hW.c 11 (by rw [HCS.out]; rfl); have d12 := hW.c 12 (by rw [HCS.out]; rfl); have d13 := hW.c 13 (by rw [HCS.out]; rfl); have d14 := hW.c 14 (by rw [HCS.out]; rfl); go_simp; all_goals rfl)
    simp only [Act.put, List.setIfInBounds_toArray, List.set_cons_zero, List.set_cons_succ]
    refine wpAnyH_done (by kernel_rfl) ?_ _
    clear hHeld HD HLV H3 f0 HA0 HA1 HA2
    have f0 : wa3.cell? ⟨g, 0, none⟩ = some (.int .i64 8) := HA3.out.sta.c 0 (by rw [HCS.out]; rfl)
    go_wp2_with fail
    go_ret
    have hz : anC a = L0 ++ uz h1 ++ uz h2 ++ uz h3 ++ uz h4 := by rw [HR.out, ← HL0.out.1]; simp [anC, tBody, tGen, tKeys, tPage]
    rw [hz]
    exact ⟨_, rfl, HA3.out.own, HA3.out.sta.bel⟩
end Go.Proofs.Ytbcmjjcbjojakaa
end
section
/- Where a function stands that makes a new struct out of one that came in. -/
namespace Go.Proofs.Ytbcmjjcbjojakaa
open Go.RowKit
set_option linter.unusedVariables false
set_option linter.unusedSimpArgs false
/-- Where fit stands: the box of what came in, the result's, the new message's. -/
structure Gt (w W : World) (t g1 gx gq : Nat) (c1 : List Value) (zs : Array Value) (M : Wm) : Prop where
  b1 : W.heap[g1]? = some (.cells c1.toArray t)
  res : W.heap[gx]? = some (.cells zs t)
  box : W.heap[gq]? = some (.cells M.cells.toArray t)
  be : Below w.heap.size w W
  ok : M.ok W (gq + 1)
  l1 : w.heap.size ≤ g1
  l2 : g1 < gx
  l3 : gx < gq
/-- Ahead of the new message. -/
structure Ga (w W : World) (t g1 gx : Nat) (c1 : List Value) (zs : Array Value) : Prop where
  b1 : W.heap[g1]? = some (.cells c1.toArray t)
  res : W.heap[gx]? = some (.cells zs t)
  be : Below w.heap.size w W
  l1 : w.heap.size ≤ g1
  l2 : g1 < gx
section
variable {w W W' : World} {t g1 gx gq : Nat} {c1 : List Value} {zs : Array Value} {M M' : Wm}
theorem Ga.start (w : World) (t : Nat) (c1 : List Value) (zs : Array Value) : Ga w ((w.alloc (.cells c1.toArray t)).alloc (.cells zs t)) t w.heap.size (w.heap.size + 1) c1 zs where
  b1 := by
    have b := (Below.refl _ (w.alloc (.cells c1.toArray t))).alloc (Nat.le_refl _) (.cells zs t)
    rw [b.block w.heap.size (by simp)]; exact heap_alloc_new w _
  res := by have := heap_alloc_new (w.alloc (.cells c1.toArray t)) (.cells zs t); simpa using this
  be := ((Below.refl _ w).alloc (Nat.le_refl _) _).alloc (by simp) _
  l1 := Nat.le_refl _
  l2 := by omega
theorem Ga.at1 (h : Ga w W t g1 gx c1 zs) (i : Nat) {v : Value} (hv : c1[i]? = some v) : W.cell? ⟨g1, i, none⟩ = some v := by rw [cell_of_row W g1 i _ _ (0, 0) h.b1]; simpa using hv
theorem Ga.z1 (h : Ga w W t g1 gx c1 zs) (i : Nat) : W.frozen? ⟨g1, i, none⟩ = false := by simp [World.frozen?, h.b1]
theorem Ga.below (h : Ga w W t g1 gx c1 zs) (b : Below W.heap.size W W') : Ga w W' t g1 gx c1 zs where
  b1 := by rw [b.block g1 (Array.getElem?_eq_some_iff.1 h.b1).1]; exact h.b1
  res := by rw [b.block gx (Array.getElem?_eq_some_iff.1 h.res).1]; exact h.res
  be := h.be.trans (b.mono h.be.size)
  l1 := h.l1
  l2 := h.l2
theorem Ga.set (h : Ga w W t g1 gx c1 zs) (i : Nat) (u : Value) : Ga w (W.setCell ⟨g1, i, none⟩ u) t g1 gx (c1.set i u) zs where
  b1 := by rw [heap_set W g1 i u _ _ h.b1]; simp
  res := by rw [Below.heap_setCell _ _ _ _ (by show gx ≠ g1; have := h.l2; omega)]; exact h.res
  be := h.be.setCell h.l1 _
  l1 := h.l1
  l2 := h.l2
theorem Ga.boxed (h : Ga w W t g1 gx c1 zs) (hB : W'.heap[W.heap.size]? = some (.cells M.cells.toArray t) ∧ Below W.heap.size W W' ∧ W'.heap.size = W.heap.size + 1) (hok : ∀ b, M.ok W' b) : Gt w W' t g1 gx W.heap.size c1 zs M where
  b1 := (h.below hB.2.1).b1
  res := (h.below hB.2.1).res
  box := hB.1
  be := (h.below hB.2.1).be
  ok := hok _
  l1 := h.l1
  l2 := h.l2
  l3 := (Array.getElem?_eq_some_iff.1 h.res).1
theorem Gt.lt (h : Gt w W t g1 gx gq c1 zs M) : gq < W.heap.size := (Array.getElem?_eq_some_iff.1 h.box).1
theorem Gt.below (h : Gt w W t g1 gx gq c1 zs M) (b : Below W.heap.size W W') : Gt w W' t g1 gx gq c1 zs M where
  b1 := by rw [b.block g1 (Array.getElem?_eq_some_iff.1 h.b1).1]; exact h.b1
  res := by rw [b.block gx (Array.getElem?_eq_some_iff.1 h.res).1]; exact h.res
  box := by rw [b.block gq h.lt]; exact h.box
  be := h.be.trans (b.mono h.be.size)
  ok := h.ok.below b
  l1 := h.l1
  l2 := h.l2
  l3 := h.l3
theorem Gt.set (h : Gt w W t g1 gx gq c1 zs M) (i : Nat) (u : Value) (hM : M'.cells = M.cells.set i u) (hok : M'.ok W (gq + 1)) : Gt w (W.setCell ⟨gq, i, none⟩ u) t g1 gx gq c1 zs M' where
  b1 := by rw [Below.heap_setCell _ _ _ _ (by show g1 ≠ gq; have := h.l2; have := h.l3; omega)]; exact h.b1
  res := by rw [Below.heap_setCell _ _ _ _ (by show gx ≠ gq; have := h.l3; omega)]; exact h.res
  box := by rw [heap_set W gq i u _ _ h.box, hM]; simp
  be := h.be.setCell (by show w.heap.size ≤ gq; have := h.l1; have := h.l2; have := h.l3; omega) _
  ok := hok.chg ((Chg.refl [gq] W).setCell (by simp) u) fun r hr k hk => by have := (hok.lt hr hk).1; simp; omega
  l1 := h.l1
  l2 := h.l2
  l3 := h.l3
theorem Gt.at1 (h : Gt w W t g1 gx gq c1 zs M) (i : Nat) {v : Value} (hv : c1[i]? = some v) : W.cell? ⟨g1, i, none⟩ = some v := by rw [cell_of_row W g1 i _ _ (0, 0) h.b1]; simpa using hv
theorem Gt.range1 (h : Gt w W t g1 gx gq c1 zs M) : W.rangeAt g1 0 c1 := fun j v hj => by rw [Nat.zero_add]; exact h.at1 j hj
theorem Gt.at3 (h : Gt w W t g1 gx gq c1 zs M) (i : Nat) {v : Value} (hv : M.cells[i]? = some v) : W.cell? ⟨gq, i, none⟩ = some v := by rw [cell_of_row W gq i _ _ (0, 0) h.box]; simpa using hv
theorem Gt.z3 (h : Gt w W t g1 gx gq c1 zs M) (i : Nat) : W.frozen? ⟨gq, i, none⟩ = false := by simp [World.frozen?, h.box]
/-- What fit answers. -/
theorem Gt.done (h : Gt w W t g1 gx gq c1 zs M) (hg : W.grownBy W' (some gx)) : M.ok W' w.heap.size ∧ Below w.heap.size w W' := by
  have hc : Chg [gx] W W' := ⟨hg.os, hg.tape, hg.output, hg.size, fun k hk hm => hg.block k hk (by simpa using hm)⟩
  have h1 := h.l1; have h2 := h.l2; have h3 := h.l3
  refine ⟨(h.ok.chg hc fun r hr k hk => by have := (h.ok.lt hr hk).1; simp; omega).lower (by omega), ?_⟩
  exact h.be.trans ⟨hg.os, hg.tape, hg.output, hg.size, fun k hk => hg.block k (Nat.lt_of_lt_of_le hk h.be.size) (by intro e; injection e; omega)⟩
end
def anZT : Array Value := #[.int .i64 0, .int .u64 0, .int .i64 0, .slice none 0 0, .slice none 0 0, .slice none 0 0, .string emS, .bool false, .int .i64 0, .int .i64 0, .int .i64 0, .int .i64 0, .int .i64 0, .int .i64 0, .int .i64 0]
theorem infoGen2T : (Try.prog.info? 39).map (·.size) = some 2 := by kernel_rfl
theorem infoHealed4T : (Try.prog.info? 41).map (·.size) = some 4 := by kernel_rfl
def setLT : List Value → Nat → List Value → List Value
  | l, _, [] => l
  | l, o, v :: r => setLT (l.set o v) (o + 1) r
theorem Gt.sets0 {w : World} {t g1 gx gq : Nat} {c1 : List Value} {zs : Array Value} : ∀ (l : List Value) (o : Nat) (W : World) (M : Wm), Gt w W t g1 gx gq c1 zs M → Gt w (W.setCells gq o l) t g1 gx gq c1 zs ⟨setLT M.cells o l, M.rows⟩
  | [], o, W, M, h => h
  | v :: r, o, W, M, h => by
    have h1 := h.set (M' := ⟨M.cells.set o v, M.rows⟩) o v rfl (fun q hq => h.ok q hq)
    exact Gt.sets0 r (o + 1) _ _ h1
theorem Gt.sets {w W : World} {t g1 gx gq : Nat} {c1 : List Value} {zs : Array Value} {M M' : Wm} (h : Gt w W t g1 gx gq c1 zs M) (o : Nat) (l : List Value) (hM : M' = ⟨setLT M.cells o l, M.rows⟩) : Gt w (W.setCells gq o l) t g1 gx gq c1 zs M' := by
  rw [hM]; exact Gt.sets0 l o W M h
theorem Gt.range1o {w W : World} {t g1 gx gq : Nat} {c1 : List Value} {zs : Array Value} {M : Wm} (h : Gt w W t g1 gx gq c1 zs M) (o k : Nat) {l : List Value} (hl : (c1.drop o).take k = l) : W.rangeAt g1 o l := fun j v hj => by
  subst hl
  rw [List.getElem?_take] at hj
  split at hj
  · rw [List.getElem?_drop] at hj; exact h.at1 (o + j) hj
  · cases hj
end Go.Proofs.Ytbcmjjcbjojakaa
end
section
/- Contract of the reference's onlyAnswer. (tools/onlygen.py prints it.) -/
namespace Go.Proofs.Ytbcmjjcbjojakaa
open Go.RowKit
set_option linter.unusedVariables false
set_option linter.unusedSimpArgs false
/-- The answer with its counting fields alone. -/
def onlyAn (a : An) : An :=
  { kind := a.kind, tag := a.tag, code := a.code,
    body := if a.code = 0 ∧ (a.kind = 2 ∨ a.kind = 3) then a.body else [],
    keys := if a.code = 0 ∧ (a.kind = 6 ∨ a.kind = 7) then a.keys else [],
    groups := if a.code = 0 ∧ a.kind = 7 then a.groups else [],
    next := if a.code = 0 ∧ a.kind = 7 then a.next else emS,
    more := if a.code = 0 ∧ a.kind = 7 then a.more else false,
    ge := if a.code = 0 ∧ a.kind = 4 then a.ge else 0, gc := if a.code = 0 ∧ a.kind = 4 then a.gc else 0, size := if a.code = 0 ∧ a.kind = 4 then a.size else 0,
    h1 := if a.kind = 8 then a.h1 else 0, h2 := if a.kind = 8 then a.h2 else 0, h3 := if a.kind = 8 then a.h3 else 0, h4 := if a.kind = 8 then a.h4 else 0 }
theorem An.ext' {a b : An} (h : a.kind = b.kind ∧ a.tag = b.tag ∧ a.code = b.code ∧ a.body = b.body ∧ a.keys = b.keys ∧ a.groups = b.groups ∧ a.next = b.next ∧ a.more = b.more ∧ a.ge = b.ge ∧ a.gc = b.gc ∧ a.size = b.size ∧ a.h1 = b.h1 ∧ a.h2 = b.h2 ∧ a.h3 = b.h3 ∧ a.h4 = b.h4) : a = b := by
  cases a; cases b; simp only at h; obtain ⟨rfl, rfl, rfl, rfl, rfl, rfl, rfl, rfl, rfl, rfl, rfl, rfl, rfl, rfl, rfl⟩ := h; rfl
open Classical in
theorem anOk_iff (a : An) : anOk a ↔ (1 ≤ a.kind ∧ a.kind ≤ 8 ∧ 0 ≤ a.code ∧ a.code ≤ 2147483647) ∧ a = onlyAn a := by
  have g : ∀ {α : Type} (p : Prop) [Decidable p] (x z : α), x = (if p then x else z) ↔ (¬ p → x = z) := fun p _ x z => by by_cases h : p <;> simp [h]
  unfold anOk tBody tGen tKeys tPage
  constructor
  · rintro ⟨k1, k2, k3, k4, h1, h2, h3, h4, h5⟩
    refine ⟨⟨k1, k2, k3, k4⟩, An.ext' ⟨rfl, rfl, rfl, (g _ _ _).2 h1, (g _ _ _).2 h3, (g _ _ _).2 fun h => (h4 h).1, (g _ _ _).2 fun h => (h4 h).2.1, (g _ _ _).2 fun h => (h4 h).2.2, (g _ _ _).2 fun h => (h2 h).1, (g _ _ _).2 fun h => (h2 h).2.1, (g _ _ _).2 fun h => (h2 h).2.2, (g _ _ _).2 fun h => (h5 h).1, (g _ _ _).2 fun h => (h5 h).2.1, (g _ _ _).2 fun h => (h5 h).2.2.1, (g _ _ _).2 fun h => (h5 h).2.2.2⟩⟩
  · rintro ⟨⟨k1, k2, k3, k4⟩, h⟩
    exact ⟨k1, k2, k3, k4, (g _ _ _).1 (congrArg An.body h), fun hp => ⟨(g _ _ _).1 (congrArg An.ge h) hp, (g _ _ _).1 (congrArg An.gc h) hp, (g _ _ _).1 (congrArg An.size h) hp⟩, (g _ _ _).1 (congrArg An.keys h),
      fun hp => ⟨(g _ _ _).1 (congrArg An.groups h) hp, (g _ _ _).1 (congrArg An.next h) hp, (g _ _ _).1 (congrArg An.more h) hp⟩, fun hp => ⟨(g _ _ _).1 (congrArg An.h1 h) hp, (g _ _ _).1 (congrArg An.h2 h) hp, (g _ _ _).1 (congrArg An.h3 h) hp, (g _ _ _).1 (congrArg An.h4 h) hp⟩⟩
/-- What onlyAnswer answers: the slices are those that came in, or none. -/
def OnlyAnPost (w : World) (a : An) (A A2 A3 : Option Addr) (n c n2 c2 n3 c3 : Nat) (e : Ending) (w' : World) : Prop :=
  ∃ (B B2 B3 : Option Addr) (m d m2 d2 m3 d3 : Nat), e = .returned (anV (onlyAn a).kind (onlyAn a).code (onlyAn a).tag B B2 B3 m d m2 d2 m3 d3 (onlyAn a).next (onlyAn a).more (onlyAn a).ge (onlyAn a).gc (onlyAn a).size (onlyAn a).h1 (onlyAn a).h2 (onlyAn a).h3 (onlyAn a).h4) ∧
    (((onlyAn a).body = a.body ∧ B = A ∧ m = n ∧ d = c) ∨ ((onlyAn a).body = [] ∧ B = none ∧ m = 0 ∧ d = 0)) ∧ (((onlyAn a).keys = a.keys ∧ B2 = A2 ∧ m2 = n2 ∧ d2 = c2) ∨ ((onlyAn a).keys = [] ∧ B2 = none ∧ m2 = 0 ∧ d2 = 0)) ∧ (((onlyAn a).groups = a.groups ∧ B3 = A3 ∧ m3 = n3 ∧ d3 = c3) ∨ ((onlyAn a).groups = [] ∧ B3 = none ∧ m3 = 0 ∧ d3 = 0)) ∧ Below w.heap.size w w'
theorem nil_rows (l : List Value) (w : World) (b : Nat) : (⟨l, []⟩ : Wm).ok w b := fun r hr => by cases hr
set_option maxRecDepth 20000 in
set_option maxHeartbeats 8000000 in
theorem onlyAn_any0 (w : World) (a : An) (K C ge gc size h1 h2 h3 h4 : Int) (tag : Nat) (body : List Nat) (keys groups : List ByteArray) (next : ByteArray) (more : Bool) (ha : a = ⟨K, tag, C, body, keys, groups, next, more, ge, gc, size, h1, h2, h3, h4⟩) (A A2 A3 : Option Addr) (n c n2 c2 n3 c3 : Nat) (hK1 : 1 ≤ K) (hK8 : K ≤ 8) :
    Calls Try.prog 62 #[.agg #[.int .i64 K, .int .u64 (tag : Int), .int .i64 C, .slice A n c, .slice A2 n2 c2, .slice A3 n3 c3, .string next, .bool more, .int .i64 ge, .int .i64 gc, .int .i64 size, .int .i64 h1, .int .i64 h2, .int .i64 h3, .int .i64 h4]] w (OnlyAnPost w a A A2 A3 n c n2 c2 n3 c3) := by
  obtain ⟨cK, hc1⟩ : ∃ c1 : List Value, c1 = [.int .i64 K, .int .u64 (tag : Int), .int .i64 C, .slice A n c, .slice A2 n2 c2, .slice A3 n3 c3, .string next, .bool more, .int .i64 ge, .int .i64 gc, .int .i64 size, .int .i64 h1, .int .i64 h2, .int .i64 h3, .int .i64 h4] := ⟨_, rfl⟩
  obtain ⟨w0, hw0⟩ : ∃ U, (w.alloc (.cells #[.int .i64 K, .int .u64 (tag : Int), .int .i64 C, .slice A n c, .slice A2 n2 c2, .slice A3 n3 c3, .string next, .bool more, .int .i64 ge, .int .i64 gc, .int .i64 size, .int .i64 h1, .int .i64 h2, .int .i64 h3, .int .i64 h4] 43)).alloc (.cells #[.int .i64 0, .int .u64 0, .int .i64 0, .slice none 0 0, .slice none 0 0, .slice none 0 0, .string emS, .bool false, .int .i64 0, .int .i64 0, .int .i64 0, .int .i64 0, .int .i64 0, .int .i64 0, .int .i64 0] 43) = U := ⟨_, rfl⟩
  obtain ⟨g1, hg1⟩ : ∃ q, w.heap.size = q := ⟨_, rfl⟩
  obtain ⟨gx, hgx⟩ : ∃ q, g1 + 1 = q := ⟨_, rfl⟩
  have H0 : Hd (Ga w w0 43 g1 gx cK anZT) := ⟨by rw [← hw0, ← hgx, ← hg1, hc1]; exact Ga.start w _ _ _⟩
  have HCK : Hd (cK = [.int .i64 K, .int .u64 (tag : Int), .int .i64 C, .slice A n c, .slice A2 n2 c2, .slice A3 n3 c3, .string next, .bool more, .int .i64 ge, .int .i64 gc, .int .i64 size, .int .i64 h1, .int .i64 h2, .int .i64 h3, .int .i64 h4]) := ⟨hc1⟩
  have HR := Hd.mk ha
  clear hc1 ha
  go_enter Try.func62, Try.ntmps62
  go_upto_region 1 with fail
  have hz : (⟨#[]⟩ : ByteArray) = emS := rfl
  try rw [hz]
  try rw [hw0]
  try rw [hg1]
  try rw [hgx]
  clear hw0 hz hg1 hgx
  have c0 : w0.cell? ⟨g1, 0, none⟩ = some (.int .i64 K) := H0.out.at1 0 (by rw [HCK.out]; rfl)
  have c1_ : w0.cell? ⟨g1, 1, none⟩ = some (.int .u64 (tag : Int)) := H0.out.at1 1 (by rw [HCK.out]; rfl)
  have c2_ : w0.cell? ⟨g1, 2, none⟩ = some (.int .i64 C) := H0.out.at1 2 (by rw [HCK.out]; rfl)
  go_upto_region 2 with (refine at_store (x := .tmp 3) ?_; refine wpList_boxed rfl 43 (.tmp 3) (.tmp 10) rfl w0.heap.size rfl #[.int .i64 K, .int .u64 (tag : Int), .int .i64 C, .slice none 0 0, .slice none 0 0, .slice none 0 0, .string emS, .bool false, .int .i64 0, .int .i64 0, .int .i64 0, .int .i64 0, .int .i64 0, .int .i64 0, .int .i64 0] rfl rfl infoAn15 rfl (by simp [Value.oneCell']) ?_; intro w3 hB3)
  have HS := Hd.mk (H0.out.boxed (M := ⟨[.int .i64 K, .int .u64 (tag : Int), .int .i64 C, .slice none 0 0, .slice none 0 0, .slice none 0 0, .string emS, .bool false, .int .i64 0, .int .i64 0, .int .i64 0, .int .i64 0, .int .i64 0, .int .i64 0, .int .i64 0], []⟩) hB3.out (fun b => nil_rows _ _ b))
  obtain ⟨gq, hgq⟩ : ∃ q, w0.heap.size = q := ⟨_, rfl⟩
  rw [hgq] at HS ⊢
  clear hB3 hgq H0 c0 c1_ c2_
  have hcase : K = 1 ∨ K = 2 ∨ K = 3 ∨ K = 4 ∨ K = 5 ∨ K = 6 ∨ K = 7 ∨ K = 8 := by omega
  clear hK1 hK8
  rcases hcase with rfl | rfl | rfl | rfl | rfl | rfl | rfl | rfl
  · skip
    by_cases hC0 : C = 0
    · have HNZ := Hd.mk hC0
      subst hC0
      have f0 : w3.cell? ⟨g1, 0, none⟩ = some (.int .i64 1) := HS.out.at1 0 (by rw [HCK.out]; rfl)
      have f2 : w3.cell? ⟨g1, 2, none⟩ = some (.int .i64 0) := HS.out.at1 2 (by rw [HCK.out]; rfl)
      go_upto_region 17 with fail
      have hbx := HS.out.box
      have hrs := HS.out.res
      go_wp2_with (first | (refine at_load (x := .tmp 3) ?_; refine wpList_load_row rfl 43 (.tmp 3) rfl gq rfl 43 #[.int .i64 1, .int .u64 (tag : Int), .int .i64 0, .slice none 0 0, .slice none 0 0, .slice none 0 0, .string emS, .bool false, .int .i64 0, .int .i64 0, .int .i64 0, .int .i64 0, .int .i64 0, .int .i64 0, .int .i64 0] (0, 0) _ hbx Try.underlying43 rfl infoAn15 ?_) | (refine at_store (x := .tmp 2) ?_; refine wpList_stored rfl 43 (.tmp 2) (.tmp 64) rfl gx #[.int .i64 1, .int .u64 (tag : Int), .int .i64 0, .slice none 0 0, .slice none 0 0, .slice none 0 0, .string emS, .bool false, .int .i64 0, .int .i64 0, .int .i64 0, .int .i64 0, .int .i64 0, .int .i64 0, .int .i64 0] rfl rfl 43 anZT hrs infoAn15 rfl (by simp [Value.oneCell']) ?_; intro wy hBy))
      (try simp only [Exit.inBlock, Exit.then])
      refine bodyPost_ret (results_cell1 rfl _ _ gx 43 #[.int .i64 1, .int .u64 (tag : Int), .int .i64 0, .slice none 0 0, .slice none 0 0, .slice none 0 0, .string emS, .bool false, .int .i64 0, .int .i64 0, .int .i64 0, .int .i64 0, .int .i64 0, .int .i64 0, .int .i64 0] (0, 0) _ rfl hBy.out.1 Try.underlying43 rfl infoAn15) rfl ?_
      have hRR : onlyAn a = (⟨1, tag, 0, [], [], [], emS, false, 0, 0, 0, 0, 0, 0, 0⟩ : An) := by rw [HR.out]; unfold onlyAn; simp
      unfold OnlyAnPost
      rw [hRR]
      exact ⟨none, none, none, 0, 0, 0, 0, 0, 0, rfl, .inr ⟨rfl, rfl, rfl, rfl⟩, .inr ⟨rfl, rfl, rfl, rfl⟩, .inr ⟨rfl, rfl, rfl, rfl⟩, (HS.out.done hBy.out.2.1).2⟩
    · have HNZ := Hd.mk hC0
      have f0 : w3.cell? ⟨g1, 0, none⟩ = some (.int .i64 1) := HS.out.at1 0 (by rw [HCK.out]; rfl)
      have f2 : w3.cell? ⟨g1, 2, none⟩ = some (.int .i64 C) := HS.out.at1 2 (by rw [HCK.out]; rfl)
      go_upto_region 5 with fail
      have hbx := HS.out.box
      have hrs := HS.out.res
      go_wp2_with (first | (refine at_load (x := .tmp 3) ?_; refine wpList_load_row rfl 43 (.tmp 3) rfl gq rfl 43 #[.int .i64 1, .int .u64 (tag : Int), .int .i64 C, .slice none 0 0, .slice none 0 0, .slice none 0 0, .string emS, .bool false, .int .i64 0, .int .i64 0, .int .i64 0, .int .i64 0, .int .i64 0, .int .i64 0, .int .i64 0] (0, 0) _ hbx Try.underlying43 rfl infoAn15 ?_) | (refine at_store (x := .tmp 2) ?_; refine wpList_stored rfl 43 (.tmp 2) (.tmp 20) rfl gx #[.int .i64 1, .int .u64 (tag : Int), .int .i64 C, .slice none 0 0, .slice none 0 0, .slice none 0 0, .string emS, .bool false, .int .i64 0, .int .i64 0, .int .i64 0, .int .i64 0, .int .i64 0, .int .i64 0, .int .i64 0] rfl rfl 43 anZT hrs infoAn15 rfl (by simp [Value.oneCell']) ?_; intro wy hBy))
      (try simp only [Exit.inBlock, Exit.then])
      refine bodyPost_ret (results_cell1 rfl _ _ gx 43 #[.int .i64 1, .int .u64 (tag : Int), .int .i64 C, .slice none 0 0, .slice none 0 0, .slice none 0 0, .string emS, .bool false, .int .i64 0, .int .i64 0, .int .i64 0, .int .i64 0, .int .i64 0, .int .i64 0, .int .i64 0] (0, 0) _ rfl hBy.out.1 Try.underlying43 rfl infoAn15) rfl ?_
      have hRR : onlyAn a = (⟨1, tag, C, [], [], [], emS, false, 0, 0, 0, 0, 0, 0, 0⟩ : An) := by rw [HR.out]; unfold onlyAn; simp [HNZ.out]
      unfold OnlyAnPost
      rw [hRR]
      exact ⟨none, none, none, 0, 0, 0, 0, 0, 0, rfl, .inr ⟨rfl, rfl, rfl, rfl⟩, .inr ⟨rfl, rfl, rfl, rfl⟩, .inr ⟨rfl, rfl, rfl, rfl⟩, (HS.out.done hBy.out.2.1).2⟩
  · skip
    by_cases hC0 : C = 0
    · have HNZ := Hd.mk hC0
      subst hC0
      have f0 : w3.cell? ⟨g1, 0, none⟩ = some (.int .i64 2) := HS.out.at1 0 (by rw [HCK.out]; rfl)
      have f2 : w3.cell? ⟨g1, 2, none⟩ = some (.int .i64 0) := HS.out.at1 2 (by rw [HCK.out]; rfl)
      have f3 : w3.cell? ⟨g1, 3, none⟩ = some (.slice A n c) := HS.out.at1 3 (by rw [HCK.out]; rfl)
      have z9 := HS.out.z3 3
      have d9 : w3.cell? ⟨gq, 3, none⟩ = some (.slice none 0 0) := HS.out.at3 3 rfl
      go_upto_region 8 with fail
      obtain ⟨u1, hu1⟩ : ∃ U, w3.setCell ⟨gq, 3, none⟩ (.slice A n c) = U := ⟨_, rfl⟩
      rw [hu1]
      have HU1 : Hd (Gt w u1 43 g1 gx gq cK anZT (⟨[.int .i64 2, .int .u64 (tag : Int), .int .i64 0, .slice A n c, .slice none 0 0, .slice none 0 0, .string emS, .bool false, .int .i64 0, .int .i64 0, .int .i64 0, .int .i64 0, .int .i64 0, .int .i64 0, .int .i64 0], []⟩ : Wm)) := ⟨by rw [← hu1]; exact HS.out.set (M' := (⟨[.int .i64 2, .int .u64 (tag : Int), .int .i64 0, .slice A n c, .slice none 0 0, .slice none 0 0, .string emS, .bool false, .int .i64 0, .int .i64 0, .int .i64 0, .int .i64 0, .int .i64 0, .int .i64 0, .int .i64 0], []⟩ : Wm)) 3 _ rfl (nil_rows _ _ _)⟩
      clear hu1 z9 d9 HS f0 f2 f3
      have f0 : u1.cell? ⟨g1, 0, none⟩ = some (.int .i64 2) := HU1.out.at1 0 (by rw [HCK.out]; rfl)
      have f2 : u1.cell? ⟨g1, 2, none⟩ = some (.int .i64 0) := HU1.out.at1 2 (by rw [HCK.out]; rfl)
      go_upto_region 17 with fail
      have hbx := HU1.out.box
      have hrs := HU1.out.res
      go_wp2_with (first | (refine at_load (x := .tmp 3) ?_; refine wpList_load_row rfl 43 (.tmp 3) rfl gq rfl 43 #[.int .i64 2, .int .u64 (tag : Int), .int .i64 0, .slice A n c, .slice none 0 0, .slice none 0 0, .string emS, .bool false, .int .i64 0, .int .i64 0, .int .i64 0, .int .i64 0, .int .i64 0, .int .i64 0, .int .i64 0] (0, 0) _ hbx Try.underlying43 rfl infoAn15 ?_) | (refine at_store (x := .tmp 2) ?_; refine wpList_stored rfl 43 (.tmp 2) (.tmp 64) rfl gx #[.int .i64 2, .int .u64 (tag : Int), .int .i64 0, .slice A n c, .slice none 0 0, .slice none 0 0, .string emS, .bool false, .int .i64 0, .int .i64 0, .int .i64 0, .int .i64 0, .int .i64 0, .int .i64 0, .int .i64 0] rfl rfl 43 anZT hrs infoAn15 rfl (by simp [Value.oneCell']) ?_; intro wy hBy))
      (try simp only [Exit.inBlock, Exit.then])
      refine bodyPost_ret (results_cell1 rfl _ _ gx 43 #[.int .i64 2, .int .u64 (tag : Int), .int .i64 0, .slice A n c, .slice none 0 0, .slice none 0 0, .string emS, .bool false, .int .i64 0, .int .i64 0, .int .i64 0, .int .i64 0, .int .i64 0, .int .i64 0, .int .i64 0] (0, 0) _ rfl hBy.out.1 Try.underlying43 rfl infoAn15) rfl ?_
      have hRR : onlyAn a = (⟨2, tag, 0, body, [], [], emS, false, 0, 0, 0, 0, 0, 0, 0⟩ : An) := by rw [HR.out]; unfold onlyAn; simp
      unfold OnlyAnPost
      rw [hRR]
      exact ⟨A, none, none, n, c, 0, 0, 0, 0, rfl, .inl ⟨by rw [HR.out], rfl, rfl, rfl⟩, .inr ⟨rfl, rfl, rfl, rfl⟩, .inr ⟨rfl, rfl, rfl, rfl⟩, (HU1.out.done hBy.out.2.1).2⟩
    · have HNZ := Hd.mk hC0
      have f0 : w3.cell? ⟨g1, 0, none⟩ = some (.int .i64 2) := HS.out.at1 0 (by rw [HCK.out]; rfl)
      have f2 : w3.cell? ⟨g1, 2, none⟩ = some (.int .i64 C) := HS.out.at1 2 (by rw [HCK.out]; rfl)
      go_upto_region 5 with fail
      have hbx := HS.out.box
      have hrs := HS.out.res
      go_wp2_with (first | (refine at_load (x := .tmp 3) ?_; refine wpList_load_row rfl 43 (.tmp 3) rfl gq rfl 43 #[.int .i64 2, .int .u64 (tag : Int), .int .i64 C, .slice none 0 0, .slice none 0 0, .slice none 0 0, .string emS, .bool false, .int .i64 0, .int .i64 0, .int .i64 0, .int .i64 0, .int .i64 0, .int .i64 0, .int .i64 0] (0, 0) _ hbx Try.underlying43 rfl infoAn15 ?_) | (refine at_store (x := .tmp 2) ?_; refine wpList_stored rfl 43 (.tmp 2) (.tmp 20) rfl gx #[.int .i64 2, .int .u64 (tag : Int), .int .i64 C, .slice none 0 0, .slice none 0 0, .slice none 0 0, .string emS, .bool false, .int .i64 0, .int .i64 0, .int .i64 0, .int .i64 0, .int .i64 0, .int .i64 0, .int .i64 0] rfl rfl 43 anZT hrs infoAn15 rfl (by simp [Value.oneCell']) ?_; intro wy hBy))
      (try simp only [Exit.inBlock, Exit.then])
      refine bodyPost_ret (results_cell1 rfl _ _ gx 43 #[.int .i64 2, .int .u64 (tag : Int), .int .i64 C, .slice none 0 0, .slice none 0 0, .slice none 0 0, .string emS, .bool false, .int .i64 0, .int .i64 0, .int .i64 0, .int .i64 0, .int .i64 0, .int .i64 0, .int .i64 0] (0, 0) _ rfl hBy.out.1 Try.underlying43 rfl infoAn15) rfl ?_
      have hRR : onlyAn a = (⟨2, tag, C, [], [], [], emS, false, 0, 0, 0, 0, 0, 0, 0⟩ : An) := by rw [HR.out]; unfold onlyAn; simp [HNZ.out]
      unfold OnlyAnPost
      rw [hRR]
      exact ⟨none, none, none, 0, 0, 0, 0, 0, 0, rfl, .inr ⟨rfl, rfl, rfl, rfl⟩, .inr ⟨rfl, rfl, rfl, rfl⟩, .inr ⟨rfl, rfl, rfl, rfl⟩, (HS.out.done hBy.out.2.1).2⟩
  · skip
    by_cases hC0 : C = 0
    · have HNZ := Hd.mk hC0
      subst hC0
      have f0 : w3.cell? ⟨g1, 0, none⟩ = some (.int .i64 3) := HS.out.at1 0 (by rw [HCK.out]; rfl)
      have f2 : w3.cell? ⟨g1, 2, none⟩ = some (.int .i64 0) := HS.out.at1 2 (by rw [HCK.out]; rfl)
      have f3 : w3.cell? ⟨g1, 3, none⟩ = some (.slice A n c) := HS.out.at1 3 (by rw [HCK.out]; rfl)
      have z9 := HS.out.z3 3
      have d9 : w3.cell? ⟨gq, 3, none⟩ = some (.slice none 0 0) := HS.out.at3 3 rfl
      go_upto_region 8 with fail
      obtain ⟨u1, hu1⟩ : ∃ U, w3.setCell ⟨gq, 3, none⟩ (.slice A n c) = U := ⟨_, rfl⟩
      rw [hu1]
      have HU1 : Hd (Gt w u1 43 g1 gx gq cK anZT (⟨[.int .i64 3, .int .u64 (tag : Int), .int .i64 0, .slice A n c, .slice none 0 0, .slice none 0 0, .string emS, .bool false, .int .i64 0, .int .i64 0, .int .i64 0, .int .i64 0, .int .i64 0, .int .i64 0, .int .i64 0], []⟩ : Wm)) := ⟨by rw [← hu1]; exact HS.out.set (M' := (⟨[.int .i64 3, .int .u64 (tag : Int), .int .i64 0, .slice A n c, .slice none 0 0, .slice none 0 0, .string emS, .bool false, .int .i64 0, .int .i64 0, .int .i64 0, .int .i64 0, .int .i64 0, .int .i64 0, .int .i64 0], []⟩ : Wm)) 3 _ rfl (nil_rows _ _ _)⟩
      clear hu1 z9 d9 HS f0 f2 f3
      have f0 : u1.cell? ⟨g1, 0, none⟩ = some (.int .i64 3) := HU1.out.at1 0 (by rw [HCK.out]; rfl)
      have f2 : u1.cell? ⟨g1, 2, none⟩ = some (.int .i64 0) := HU1.out.at1 2 (by rw [HCK.out]; rfl)
      go_upto_region 17 with fail
      have hbx := HU1.out.box
      have hrs := HU1.out.res
      go_wp2_with (first | (refine at_load (x := .tmp 3) ?_; refine wpList_load_row rfl 43 (.tmp 3) rfl gq rfl 43 #[.int .i64 3, .int .u64 (tag : Int), .int .i64 0, .slice A n c, .slice none 0 0, .slice none 0 0, .string emS, .bool false, .int .i64 0, .int .i64 0, .int .i64 0, .int .i64 0, .int .i64 0, .int .i64 0, .int .i64 0] (0, 0) _ hbx Try.underlying43 rfl infoAn15 ?_) | (refine at_store (x := .tmp 2) ?_; refine wpList_stored rfl 43 (.tmp 2) (.tmp 64) rfl gx #[.int .i64 3, .int .u64 (tag : Int), .int .i64 0, .slice A n c, .slice none 0 0, .slice none 0 0, .string emS, .bool false, .int .i64 0, .int .i64 0, .int .i64 0, .int .i64 0, .int .i64 0, .int .i64 0, .int .i64 0] rfl rfl 43 anZT hrs infoAn15 rfl (by simp [Value.oneCell']) ?_; intro wy hBy))
      (try simp only [Exit.inBlock, Exit.then])
      refine bodyPost_ret (results_cell1 rfl _ _ gx 43 #[.int .i64 3, .int .u64 (tag : Int), .int .i64 0, .slice A n c, .slice none 0 0, .slice none 0 0, .string emS, .bool false, .int .i64 0, .int .i64 0, .int .i64 0, .int .i64 0, .int .i64 0, .int .i64 0, .int .i64 0] (0, 0) _ rfl hBy.out.1 Try.underlying43 rfl infoAn15) rfl ?_
      have hRR : onlyAn a = (⟨3, tag, 0, body, [], [], emS, false, 0, 0, 0, 0, 0, 0, 0⟩ : An) := by rw [HR.out]; unfold onlyAn; simp
      unfold OnlyAnPost
      rw [hRR]
      exact ⟨A, none, none, n, c, 0, 0, 0, 0, rfl, .inl ⟨by rw [HR.out], rfl, rfl, rfl⟩, .inr ⟨rfl, rfl, rfl, rfl⟩, .inr ⟨rfl, rfl, rfl, rfl⟩, (HU1.out.done hBy.out.2.1).2⟩
    · have HNZ := Hd.mk hC0
      have f0 : w3.cell? ⟨g1, 0, none⟩ = some (.int .i64 3) := HS.out.at1 0 (by rw [HCK.out]; rfl)
      have f2 : w3.cell? ⟨g1, 2, none⟩ = some (.int .i64 C) := HS.out.at1 2 (by rw [HCK.out]; rfl)
      go_upto_region 5 with fail
      have hbx := HS.out.box
      have hrs := HS.out.res
      go_wp2_with (first | (refine at_load (x := .tmp 3) ?_; refine wpList_load_row rfl 43 (.tmp 3) rfl gq rfl 43 #[.int .i64 3, .int .u64 (tag : Int), .int .i64 C, .slice none 0 0, .slice none 0 0, .slice none 0 0, .string emS, .bool false, .int .i64 0, .int .i64 0, .int .i64 0, .int .i64 0, .int .i64 0, .int .i64 0, .int .i64 0] (0, 0) _ hbx Try.underlying43 rfl infoAn15 ?_) | (refine at_store (x := .tmp 2) ?_; refine wpList_stored rfl 43 (.tmp 2) (.tmp 20) rfl gx #[.int .i64 3, .int .u64 (tag : Int), .int .i64 C, .slice none 0 0, .slice none 0 0, .slice none 0 0, .string emS, .bool false, .int .i64 0, .int .i64 0, .int .i64 0, .int .i64 0, .int .i64 0, .int .i64 0, .int .i64 0] rfl rfl 43 anZT hrs infoAn15 rfl (by simp [Value.oneCell']) ?_; intro wy hBy))
      (try simp only [Exit.inBlock, Exit.then])
      refine bodyPost_ret (results_cell1 rfl _ _ gx 43 #[.int .i64 3, .int .u64 (tag : Int), .int .i64 C, .slice none 0 0, .slice none 0 0, .slice none 0 0, .string emS, .bool false, .int .i64 0, .int .i64 0, .int .i64 0, .int .i64 0, .int .i64 0, .int .i64 0, .int .i64 0] (0, 0) _ rfl hBy.out.1 Try.underlying43 rfl infoAn15) rfl ?_
      have hRR : onlyAn a = (⟨3, tag, C, [], [], [], emS, false, 0, 0, 0, 0, 0, 0, 0⟩ : An) := by rw [HR.out]; unfold onlyAn; simp [HNZ.out]
      unfold OnlyAnPost
      rw [hRR]
      exact ⟨none, none, none, 0, 0, 0, 0, 0, 0, rfl, .inr ⟨rfl, rfl, rfl, rfl⟩, .inr ⟨rfl, rfl, rfl, rfl⟩, .inr ⟨rfl, rfl, rfl, rfl⟩, (HS.out.done hBy.out.2.1).2⟩
  · skip
    by_cases hC0 : C = 0
    · have HNZ := Hd.mk hC0
      subst hC0
      have f0 : w3.cell? ⟨g1, 0, none⟩ = some (.int .i64 4) := HS.out.at1 0 (by rw [HCK.out]; rfl)
      have f2 : w3.cell? ⟨g1, 2, none⟩ = some (.int .i64 0) := HS.out.at1 2 (by rw [HCK.out]; rfl)
      have hrg : w3.rangeAt g1 8 [.int .i64 ge, .int .i64 gc] := HS.out.range1o 8 2 (by rw [HCK.out]; rfl)
      have zz0 := HS.out.z3 8
      have dd0 : w3.cell? ⟨gq, 8, none⟩ = some (.int .i64 0) := HS.out.at3 8 rfl
      have zz1 := HS.out.z3 9
      have dd1 : w3.cell? ⟨gq, 9, none⟩ = some (.int .i64 0) := HS.out.at3 9 rfl
      go_upto_region 10 with (refine at_load (x := .tmp 35) ?_; refine wpList_load_mid rfl 39 (.tmp 35) rfl g1 8 rfl [.int .i64 ge, .int .i64 gc] _ hrg Try.underlying39 rfl infoGen2T ?_)
      obtain ⟨u1, hu1⟩ : ∃ U, ((w3.setCell ⟨gq, 8, none⟩ (.int .i64 ge)).setCell ⟨gq, 9, none⟩ (.int .i64 gc)) = U := ⟨_, rfl⟩
      rw [hu1]
      have HU1 : Hd (Gt w u1 43 g1 gx gq cK anZT (⟨[.int .i64 4, .int .u64 (tag : Int), .int .i64 0, .slice none 0 0, .slice none 0 0, .slice none 0 0, .string emS, .bool false, .int .i64 ge, .int .i64 gc, .int .i64 0, .int .i64 0, .int .i64 0, .int .i64 0, .int .i64 0], []⟩ : Wm)) := ⟨by rw [← hu1]; exact HS.out.sets 8 [.int .i64 ge, .int .i64 gc] (M' := (⟨[.int .i64 4, .int .u64 (tag : Int), .int .i64 0, .slice none 0 0, .slice none 0 0, .slice none 0 0, .string emS, .bool false, .int .i64 ge, .int .i64 gc, .int .i64 0, .int .i64 0, .int .i64 0, .int .i64 0, .int .i64 0], []⟩ : Wm)) rfl⟩
      clear hu1 hrg zz0 dd0 zz1 dd1 HS f0 f2
      have f0 : u1.cell? ⟨g1, 0, none⟩ = some (.int .i64 4) := HU1.out.at1 0 (by rw [HCK.out]; rfl)
      have f2 : u1.cell? ⟨g1, 2, none⟩ = some (.int .i64 0) := HU1.out.at1 2 (by rw [HCK.out]; rfl)
      have f10 : u1.cell? ⟨g1, 10, none⟩ = some (.int .i64 size) := HU1.out.at1 10 (by rw [HCK.out]; rfl)
      have z9 := HU1.out.z3 10
      have d9 : u1.cell? ⟨gq, 10, none⟩ = some (.int .i64 0) := HU1.out.at3 10 rfl
      go_upto_region 11 with fail
      obtain ⟨u2, hu2⟩ : ∃ U, u1.setCell ⟨gq, 10, none⟩ (.int .i64 size) = U := ⟨_, rfl⟩
      rw [hu2]
      have HU2 : Hd (Gt w u2 43 g1 gx gq cK anZT (⟨[.int .i64 4, .int .u64 (tag : Int), .int .i64 0, .slice none 0 0, .slice none 0 0, .slice none 0 0, .string emS, .bool false, .int .i64 ge, .int .i64 gc, .int .i64 size, .int .i64 0, .int .i64 0, .int .i64 0, .int .i64 0], []⟩ : Wm)) := ⟨by rw [← hu2]; exact HU1.out.set (M' := (⟨[.int .i64 4, .int .u64 (tag : Int), .int .i64 0, .slice none 0 0, .slice none 0 0, .slice none 0 0, .string emS, .bool false, .int .i64 ge, .int .i64 gc, .int .i64 size, .int .i64 0, .int .i64 0, .int .i64 0, .int .i64 0], []⟩ : Wm)) 10 _ rfl (nil_rows _ _ _)⟩
      clear hu2 z9 d9 HU1 f0 f2 f10
      have f0 : u2.cell? ⟨g1, 0, none⟩ = some (.int .i64 4) := HU2.out.at1 0 (by rw [HCK.out]; rfl)
      have f2 : u2.cell? ⟨g1, 2, none⟩ = some (.int .i64 0) := HU2.out.at1 2 (by rw [HCK.out]; rfl)
      go_upto_region 17 with fail
      have hbx := HU2.out.box
      have hrs := HU2.out.res
      go_wp2_with (first | (refine at_load (x := .tmp 3) ?_; refine wpList_load_row rfl 43 (.tmp 3) rfl gq rfl 43 #[.int .i64 4, .int .u64 (tag : Int), .int .i64 0, .slice none 0 0, .slice none 0 0, .slice none 0 0, .string emS, .bool false, .int .i64 ge, .int .i64 gc, .int .i64 size, .int .i64 0, .int .i64 0, .int .i64 0, .int .i64 0] (0, 0) _ hbx Try.underlying43 rfl infoAn15 ?_) | (refine at_store (x := .tmp 2) ?_; refine wpList_stored rfl 43 (.tmp 2) (.tmp 64) rfl gx #[.int .i64 4, .int .u64 (tag : Int), .int .i64 0, .slice none 0 0, .slice none 0 0, .slice none 0 0, .string emS, .bool false, .int .i64 ge, .int .i64 gc, .int .i64 size, .int .i64 0, .int .i64 0, .int .i64 0, .int .i64 0] rfl rfl 43 anZT hrs infoAn15 rfl (by simp [Value.oneCell']) ?_; intro wy hBy))
      (try simp only [Exit.inBlock, Exit.then])
      refine bodyPost_ret (results_cell1 rfl _ _ gx 43 #[.int .i64 4, .int .u64 (tag : Int), .int .i64 0, .slice none 0 0, .slice none 0 0, .slice none 0 0, .string emS, .bool false, .int .i64 ge, .int .i64 gc, .int .i64 size, .int .i64 0, .int .i64 0, .int .i64 0, .int .i64 0] (0, 0) _ rfl hBy.out.1 Try.underlying43 rfl infoAn15) rfl ?_
      have hRR : onlyAn a = (⟨4, tag, 0, [], [], [], emS, false, ge, gc, size, 0, 0, 0, 0⟩ : An) := by rw [HR.out]; unfold onlyAn; simp
      unfold OnlyAnPost
      rw [hRR]
      exact ⟨none, none, none, 0, 0, 0, 0, 0, 0, rfl, .inr ⟨rfl, rfl, rfl, rfl⟩, .inr ⟨rfl, rfl, rfl, rfl⟩, .inr ⟨rfl, rfl, rfl, rfl⟩, (HU2.out.done hBy.out.2.1).2⟩
    · have HNZ := Hd.mk hC0
      have f0 : w3.cell? ⟨g1, 0, none⟩ = some (.int .i64 4) := HS.out.at1 0 (by rw [HCK.out]; rfl)
      have f2 : w3.cell? ⟨g1, 2, none⟩ = some (.int .i64 C) := HS.out.at1 2 (by rw [HCK.out]; rfl)
      go_upto_region 5 with fail
      have hbx := HS.out.box
      have hrs := HS.out.res
      go_wp2_with (first | (refine at_load (x := .tmp 3) ?_; refine wpList_load_row rfl 43 (.tmp 3) rfl gq rfl 43 #[.int .i64 4, .int .u64 (tag : Int), .int .i64 C, .slice none 0 0, .slice none 0 0, .slice none 0 0, .string emS, .bool false, .int .i64 0, .int .i64 0, .int .i64 0, .int .i64 0, .int .i64 0, .int .i64 0, .int .i64 0] (0, 0) _ hbx Try.underlying43 rfl infoAn15 ?_) | (refine at_store (x := .tmp 2) ?_; refine wpList_stored rfl 43 (.tmp 2) (.tmp 20) rfl gx #[.int .i64 4, .int .u64 (tag : Int), .int .i64 C, .slice none 0 0, .slice none 0 0, .slice none 0 0, .string emS, .bool false, .int .i64 0, .int .i64 0, .int .i64 0, .int .i64 0, .int .i64 0, .int .i64 0, .int .i64 0] rfl rfl 43 anZT hrs infoAn15 rfl (by simp [Value.oneCell']) ?_; intro wy hBy))
      (try simp only [Exit.inBlock, Exit.then])
      refine bodyPost_ret (results_cell1 rfl _ _ gx 43 #[.int .i64 4, .int .u64 (tag : Int), .int .i64 C, .slice none 0 0, .slice none 0 0, .slice none 0 0, .string emS, .bool false, .int .i64 0, .int .i64 0, .int .i64 0, .int .i64 0, .int .i64 0, .int .i64 0, .int .i64 0] (0, 0) _ rfl hBy.out.1 Try.underlying43 rfl infoAn15) rfl ?_
      have hRR : onlyAn a = (⟨4, tag, C, [], [], [], emS, false, 0, 0, 0, 0, 0, 0, 0⟩ : An) := by rw [HR.out]; unfold onlyAn; simp [HNZ.out]
      unfold OnlyAnPost
      rw [hRR]
      exact ⟨none, none, none, 0, 0, 0, 0, 0, 0, rfl, .inr ⟨rfl, rfl, rfl, rfl⟩, .inr ⟨rfl, rfl, rfl, rfl⟩, .inr ⟨rfl, rfl, rfl, rfl⟩, (HS.out.done hBy.out.2.1).2⟩
  · skip
    by_cases hC0 : C = 0
    · have HNZ := Hd.mk hC0
      subst hC0
      have f0 : w3.cell? ⟨g1, 0, none⟩ = some (.int .i64 5) := HS.out.at1 0 (by rw [HCK.out]; rfl)
      have f2 : w3.cell? ⟨g1, 2, none⟩ = some (.int .i64 0) := HS.out.at1 2 (by rw [HCK.out]; rfl)
      go_upto_region 17 with fail
      have hbx := HS.out.box
      have hrs := HS.out.res
      go_wp2_with (first | (refine at_load (x := .tmp 3) ?_; refine wpList_load_row rfl 43 (.tmp 3) rfl gq rfl 43 #[.int .i64 5, .int .u64 (tag : Int), .int .i64 0, .slice none 0 0, .slice none 0 0, .slice none 0 0, .string emS, .bool false, .int .i64 0, .int .i64 0, .int .i64 0, .int .i64 0, .int .i64 0, .int .i64 0, .int .i64 0] (0, 0) _ hbx Try.underlying43 rfl infoAn15 ?_) | (refine at_store (x := .tmp 2) ?_; refine wpList_stored rfl 43 (.tmp 2) (.tmp 64) rfl gx #[.int .i64 5, .int .u64 (tag : Int), .int .i64 0, .slice none 0 0, .slice none 0 0, .slice none 0 0, .string emS, .bool false, .int .i64 0, .int .i64 0, .int .i64 0, .int .i64 0, .int .i64 0, .int .i64 0, .int .i64 0] rfl rfl 43 anZT hrs infoAn15 rfl (by simp [Value.oneCell']) ?_; intro wy hBy))
      (try simp only [Exit.inBlock, Exit.then])
      refine bodyPost_ret (results_cell1 rfl _ _ gx 43 #[.int .i64 5, .int .u64 (tag : Int), .int .i64 0, .slice none 0 0, .slice none 0 0, .slice none 0 0, .string emS, .bool false, .int .i64 0, .int .i64 0, .int .i64 0, .int .i64 0, .int .i64 0, .int .i64 0, .int .i64 0] (0, 0) _ rfl hBy.out.1 Try.underlying43 rfl infoAn15) rfl ?_
      have hRR : onlyAn a = (⟨5, tag, 0, [], [], [], emS, false, 0, 0, 0, 0, 0, 0, 0⟩ : An) := by rw [HR.out]; unfold onlyAn; simp
      unfold OnlyAnPost
      rw [hRR]
      exact ⟨none, none, none, 0, 0, 0, 0, 0, 0, rfl, .inr ⟨rfl, rfl, rfl, rfl⟩, .inr ⟨rfl, rfl, rfl, rfl⟩, .inr ⟨rfl, rfl, rfl, rfl⟩, (HS.out.done hBy.out.2.1).2⟩
    · have HNZ := Hd.mk hC0
      have f0 : w3.cell? ⟨g1, 0, none⟩ = some (.int .i64 5) := HS.out.at1 0 (by rw [HCK.out]; rfl)
      have f2 : w3.cell? ⟨g1, 2, none⟩ = some (.int .i64 C) := HS.out.at1 2 (by rw [HCK.out]; rfl)
      go_upto_region 5 with fail
      have hbx := HS.out.box
      have hrs := HS.out.res
      go_wp2_with (first | (refine at_load (x := .tmp 3) ?_; refine wpList_load_row rfl 43 (.tmp 3) rfl gq rfl 43 #[.int .i64 5, .int .u64 (tag : Int), .int .i64 C, .slice none 0 0, .slice none 0 0, .slice none 0 0, .string emS, .bool false, .int .i64 0, .int .i64 0, .int .i64 0, .int .i64 0, .int .i64 0, .int .i64 0, .int .i64 0] (0, 0) _ hbx Try.underlying43 rfl infoAn15 ?_) | (refine at_store (x := .tmp 2) ?_; refine wpList_stored rfl 43 (.tmp 2) (.tmp 20) rfl gx #[.int .i64 5, .int .u64 (tag : Int), .int .i64 C, .slice none 0 0, .slice none 0 0, .slice none 0 0, .string emS, .bool false, .int .i64 0, .int .i64 0, .int .i64 0, .int .i64 0, .int .i64 0, .int .i64 0, .int .i64 0] rfl rfl 43 anZT hrs infoAn15 rfl (by simp [Value.oneCell']) ?_; intro wy hBy))
      (try simp only [Exit.inBlock, Exit.then])
      refine bodyPost_ret (results_cell1 rfl _ _ gx 43 #[.int .i64 5, .int .u64 (tag : Int), .int .i64 C, .slice none 0 0, .slice none 0 0, .slice none 0 0, .string emS, .bool false, .int .i64 0, .int .i64 0, .int .i64 0, .int .i64 0, .int .i64 0, .int .i64 0, .int .i64 0] (0, 0) _ rfl hBy.out.1 Try.underlying43 rfl infoAn15) rfl ?_
      have hRR : onlyAn a = (⟨5, tag, C, [], [], [], emS, false, 0, 0, 0, 0, 0, 0, 0⟩ : An) := by rw [HR.out]; unfold onlyAn; simp [HNZ.out]
      unfold OnlyAnPost
      rw [hRR]
      exact ⟨none, none, none, 0, 0, 0, 0, 0, 0, rfl, .inr ⟨rfl, rfl, rfl, rfl⟩, .inr ⟨rfl, rfl, rfl, rfl⟩, .inr ⟨rfl, rfl, rfl, rfl⟩, (HS.out.done hBy.out.2.1).2⟩
  · skip
    by_cases hC0 : C = 0
    · have HNZ := Hd.mk hC0
      subst hC0
      have f0 : w3.cell? ⟨g1, 0, none⟩ = some (.int .i64 6) := HS.out.at1 0 (by rw [HCK.out]; rfl)
      have f2 : w3.cell? ⟨g1, 2, none⟩ = some (.int .i64 0) := HS.out.at1 2 (by rw [HCK.out]; rfl)
      have f4 : w3.cell? ⟨g1, 4, none⟩ = some (.slice A2 n2 c2) := HS.out.at1 4 (by rw [HCK.out]; rfl)
      have z9 := HS.out.z3 4
      have d9 : w3.cell? ⟨gq, 4, none⟩ = some (.slice none 0 0) := HS.out.at3 4 rfl
      go_upto_region 13 with fail
      obtain ⟨u1, hu1⟩ : ∃ U, w3.setCell ⟨gq, 4, none⟩ (.slice A2 n2 c2) = U := ⟨_, rfl⟩
      rw [hu1]
      have HU1 : Hd (Gt w u1 43 g1 gx gq cK anZT (⟨[.int .i64 6, .int .u64 (tag : Int), .int .i64 0, .slice none 0 0, .slice A2 n2 c2, .slice none 0 0, .string emS, .bool false, .int .i64 0, .int .i64 0, .int .i64 0, .int .i64 0, .int .i64 0, .int .i64 0, .int .i64 0], []⟩ : Wm)) := ⟨by rw [← hu1]; exact HS.out.set (M' := (⟨[.int .i64 6, .int .u64 (tag : Int), .int .i64 0, .slice none 0 0, .slice A2 n2 c2, .slice none 0 0, .string emS, .bool false, .int .i64 0, .int .i64 0, .int .i64 0, .int .i64 0, .int .i64 0, .int .i64 0, .int .i64 0], []⟩ : Wm)) 4 _ rfl (nil_rows _ _ _)⟩
      clear hu1 z9 d9 HS f0 f2 f4
      have f0 : u1.cell? ⟨g1, 0, none⟩ = some (.int .i64 6) := HU1.out.at1 0 (by rw [HCK.out]; rfl)
      have f2 : u1.cell? ⟨g1, 2, none⟩ = some (.int .i64 0) := HU1.out.at1 2 (by rw [HCK.out]; rfl)
      go_upto_region 17 with fail
      have hbx := HU1.out.box
      have hrs := HU1.out.res
      go_wp2_with (first | (refine at_load (x := .tmp 3) ?_; refine wpList_load_row rfl 43 (.tmp 3) rfl gq rfl 43 #[.int .i64 6, .int .u64 (tag : Int), .int .i64 0, .slice none 0 0, .slice A2 n2 c2, .slice none 0 0, .string emS, .bool false, .int .i64 0, .int .i64 0, .int .i64 0, .int .i64 0, .int .i64 0, .int .i64 0, .int .i64 0] (0, 0) _ hbx Try.underlying43 rfl infoAn15 ?_) | (refine at_store (x := .tmp 2) ?_; refine wpList_stored rfl 43 (.tmp 2) (.tmp 64) rfl gx #[.int .i64 6, .int .u64 (tag : Int), .int .i64 0, .slice none 0 0, .slice A2 n2 c2, .slice none 0 0, .string emS, .bool false, .int .i64 0, .int .i64 0, .int .i64 0, .int .i64 0, .int .i64 0, .int .i64 0, .int .i64 0] rfl rfl 43 anZT hrs infoAn15 rfl (by simp [Value.oneCell']) ?_; intro wy hBy))
      (try simp only [Exit.inBlock, Exit.then])
      refine bodyPost_ret (results_cell1 rfl _ _ gx 43 #[.int .i64 6, .int .u64 (tag : Int), .int .i64 0, .slice none 0 0, .slice A2 n2 c2, .slice none 0 0, .string emS, .bool false, .int .i64 0, .int .i64 0, .int .i64 0, .int .i64 0, .int .i64 0, .int .i64 0, .int .i64 0] (0, 0) _ rfl hBy.out.1 Try.underlying43 rfl infoAn15) rfl ?_
      have hRR : onlyAn a = (⟨6, tag, 0, [], keys, [], emS, false, 0, 0, 0, 0, 0, 0, 0⟩ : An) := by rw [HR.out]; unfold onlyAn; simp
      unfold OnlyAnPost
      rw [hRR]
      exact ⟨none, A2, none, 0, 0, n2, c2, 0, 0, rfl, .inr ⟨rfl, rfl, rfl, rfl⟩, .inl ⟨by rw [HR.out], rfl, rfl, rfl⟩, .inr ⟨rfl, rfl, rfl, rfl⟩, (HU1.out.done hBy.out.2.1).2⟩
    · have HNZ := Hd.mk hC0
      have f0 : w3.cell? ⟨g1, 0, none⟩ = some (.int .i64 6) := HS.out.at1 0 (by rw [HCK.out]; rfl)
      have f2 : w3.cell? ⟨g1, 2, none⟩ = some (.int .i64 C) := HS.out.at1 2 (by rw [HCK.out]; rfl)
      go_upto_region 5 with fail
      have hbx := HS.out.box
      have hrs := HS.out.res
      go_wp2_with (first | (refine at_load (x := .tmp 3) ?_; refine wpList_load_row rfl 43 (.tmp 3) rfl gq rfl 43 #[.int .i64 6, .int .u64 (tag : Int), .int .i64 C, .slice none 0 0, .slice none 0 0, .slice none 0 0, .string emS, .bool false, .int .i64 0, .int .i64 0, .int .i64 0, .int .i64 0, .int .i64 0, .int .i64 0, .int .i64 0] (0, 0) _ hbx Try.underlying43 rfl infoAn15 ?_) | (refine at_store (x := .tmp 2) ?_; refine wpList_stored rfl 43 (.tmp 2) (.tmp 20) rfl gx #[.int .i64 6, .int .u64 (tag : Int), .int .i64 C, .slice none 0 0, .slice none 0 0, .slice none 0 0, .string emS, .bool false, .int .i64 0, .int .i64 0, .int .i64 0, .int .i64 0, .int .i64 0, .int .i64 0, .int .i64 0] rfl rfl 43 anZT hrs infoAn15 rfl (by simp [Value.oneCell']) ?_; intro wy hBy))
      (try simp only [Exit.inBlock, Exit.then])
      refine bodyPost_ret (results_cell1 rfl _ _ gx 43 #[.int .i64 6, .int .u64 (tag : Int), .int .i64 C, .slice none 0 0, .slice none 0 0, .slice none 0 0, .string emS, .bool false, .int .i64 0, .int .i64 0, .int .i64 0, .int .i64 0, .int .i64 0, .int .i64 0, .int .i64 0] (0, 0) _ rfl hBy.out.1 Try.underlying43 rfl infoAn15) rfl ?_
      have hRR : onlyAn a = (⟨6, tag, C, [], [], [], emS, false, 0, 0, 0, 0, 0, 0, 0⟩ : An) := by rw [HR.out]; unfold onlyAn; simp [HNZ.out]
      unfold OnlyAnPost
      rw [hRR]
      exact ⟨none, none, none, 0, 0, 0, 0, 0, 0, rfl, .inr ⟨rfl, rfl, rfl, rfl⟩, .inr ⟨rfl, rfl, rfl, rfl⟩, .inr ⟨rfl, rfl, rfl, rfl⟩, (HS.out.done hBy.out.2.1).2⟩
  · skip
    by_cases hC0 : C = 0
    · have HNZ := Hd.mk hC0
      subst hC0
      have f0 : w3.cell? ⟨g1, 0, none⟩ = some (.int .i64 7) := HS.out.at1 0 (by rw [HCK.out]; rfl)
      have f2 : w3.cell? ⟨g1, 2, none⟩ = some (.int .i64 0) := HS.out.at1 2 (by rw [HCK.out]; rfl)
      have f4 : w3.cell? ⟨g1, 4, none⟩ = some (.slice A2 n2 c2) := HS.out.at1 4 (by rw [HCK.out]; rfl)
      have z9 := HS.out.z3 4
      have d9 : w3.cell? ⟨gq, 4, none⟩ = some (.slice none 0 0) := HS.out.at3 4 rfl
      go_upto_region 13 with fail
      obtain ⟨u1, hu1⟩ : ∃ U, w3.setCell ⟨gq, 4, none⟩ (.slice A2 n2 c2) = U := ⟨_, rfl⟩
      rw [hu1]
      have HU1 : Hd (Gt w u1 43 g1 gx gq cK anZT (⟨[.int .i64 7, .int .u64 (tag : Int), .int .i64 0, .slice none 0 0, .slice A2 n2 c2, .slice none 0 0, .string emS, .bool false, .int .i64 0, .int .i64 0, .int .i64 0, .int .i64 0, .int .i64 0, .int .i64 0, .int .i64 0], []⟩ : Wm)) := ⟨by rw [← hu1]; exact HS.out.set (M' := (⟨[.int .i64 7, .int .u64 (tag : Int), .int .i64 0, .slice none 0 0, .slice A2 n2 c2, .slice none 0 0, .string emS, .bool false, .int .i64 0, .int .i64 0, .int .i64 0, .int .i64 0, .int .i64 0, .int .i64 0, .int .i64 0], []⟩ : Wm)) 4 _ rfl (nil_rows _ _ _)⟩
      clear hu1 z9 d9 HS f0 f2 f4
      have f0 : u1.cell? ⟨g1, 0, none⟩ = some (.int .i64 7) := HU1.out.at1 0 (by rw [HCK.out]; rfl)
      have f2 : u1.cell? ⟨g1, 2, none⟩ = some (.int .i64 0) := HU1.out.at1 2 (by rw [HCK.out]; rfl)
      have f5 : u1.cell? ⟨g1, 5, none⟩ = some (.slice A3 n3 c3) := HU1.out.at1 5 (by rw [HCK.out]; rfl)
      have z9 := HU1.out.z3 5
      have d9 : u1.cell? ⟨gq, 5, none⟩ = some (.slice none 0 0) := HU1.out.at3 5 rfl
      go_upto_region 15 with fail
      obtain ⟨u2, hu2⟩ : ∃ U, u1.setCell ⟨gq, 5, none⟩ (.slice A3 n3 c3) = U := ⟨_, rfl⟩
      rw [hu2]
      have HU2 : Hd (Gt w u2 43 g1 gx gq cK anZT (⟨[.int .i64 7, .int .u64 (tag : Int), .int .i64 0, .slice none 0 0, .slice A2 n2 c2, .slice A3 n3 c3, .string emS, .bool false, .int .i64 0, .int .i64 0, .int .i64 0, .int .i64 0, .int .i64 0, .int .i64 0, .int .i64 0], []⟩ : Wm)) := ⟨by rw [← hu2]; exact HU1.out.set (M' := (⟨[.int .i64 7, .int .u64 (tag : Int), .int .i64 0, .slice none 0 0, .slice A2 n2 c2, .slice A3 n3 c3, .string emS, .bool false, .int .i64 0, .int .i64 0, .int .i64 0, .int .i64 0, .int .i64 0, .int .i64 0, .int .i64 0], []⟩ : Wm)) 5 _ rfl (nil_rows _ _ _)⟩
      clear hu2 z9 d9 HU1 f0 f2 f5
      have f0 : u2.cell? ⟨g1, 0, none⟩ = some (.int .i64 7) := HU2.out.at1 0 (by rw [HCK.out]; rfl)
      have f2 : u2.cell? ⟨g1, 2, none⟩ = some (.int .i64 0) := HU2.out.at1 2 (by rw [HCK.out]; rfl)
      have f6 : u2.cell? ⟨g1, 6, none⟩ = some (.string next) := HU2.out.at1 6 (by rw [HCK.out]; rfl)
      have z9 := HU2.out.z3 6
      have d9 : u2.cell? ⟨gq, 6, none⟩ = some (.string emS) := HU2.out.at3 6 rfl
      go_upto_region 16 with fail
      obtain ⟨u3, hu3⟩ : ∃ U, u2.setCell ⟨gq, 6, none⟩ (.string next) = U := ⟨_, rfl⟩
      rw [hu3]
      have HU3 : Hd (Gt w u3 43 g1 gx gq cK anZT (⟨[.int .i64 7, .int .u64 (tag : Int), .int .i64 0, .slice none 0 0, .slice A2 n2 c2, .slice A3 n3 c3, .string next, .bool false, .int .i64 0, .int .i64 0, .int .i64 0, .int .i64 0, .int .i64 0, .int .i64 0, .int .i64 0], []⟩ : Wm)) := ⟨by rw [← hu3]; exact HU2.out.set (M' := (⟨[.int .i64 7, .int .u64 (tag : Int), .int .i64 0, .slice none 0 0, .slice A2 n2 c2, .slice A3 n3 c3, .string next, .bool false, .int .i64 0, .int .i64 0, .int .i64 0, .int .i64 0, .int .i64 0, .int .i64 0, .int .i64 0], []⟩ : Wm)) 6 _ rfl (nil_rows _ _ _)⟩
      clear hu3 z9 d9 HU2 f0 f2 f6
      have f0 : u3.cell? ⟨g1, 0, none⟩ = some (.int .i64 7) := HU3.out.at1 0 (by rw [HCK.out]; rfl)
      have f2 : u3.cell? ⟨g1, 2, none⟩ = some (.int .i64 0) := HU3.out.at1 2 (by rw [HCK.out]; rfl)
      have f7 : u3.cell? ⟨g1, 7, none⟩ = some (.bool more) := HU3.out.at1 7 (by rw [HCK.out]; rfl)
      have z9 := HU3.out.z3 7
      have d9 : u3.cell? ⟨gq, 7, none⟩ = some (.bool false) := HU3.out.at3 7 rfl
      go_upto_region 17 with fail
      obtain ⟨u4, hu4⟩ : ∃ U, u3.setCell ⟨gq, 7, none⟩ (.bool more) = U := ⟨_, rfl⟩
      rw [hu4]
      have HU4 : Hd (Gt w u4 43 g1 gx gq cK anZT (⟨[.int .i64 7, .int .u64 (tag : Int), .int .i64 0, .slice none 0 0, .slice A2 n2 c2, .slice A3 n3 c3, .string next, .bool more, .int .i64 0, .int .i64 0, .int .i64 0, .int .i64 0, .int .i64 0, .int .i64 0, .int .i64 0], []⟩ : Wm)) := ⟨by rw [← hu4]; exact HU3.out.set (M' := (⟨[.int .i64 7, .int .u64 (tag : Int), .int .i64 0, .slice none 0 0, .slice A2 n2 c2, .slice A3 n3 c3, .string next, .bool more, .int .i64 0, .int .i64 0, .int .i64 0, .int .i64 0, .int .i64 0, .int .i64 0, .int .i64 0], []⟩ : Wm)) 7 _ rfl (nil_rows _ _ _)⟩
      clear hu4 z9 d9 HU3 f0 f2 f7
      have f0 : u4.cell? ⟨g1, 0, none⟩ = some (.int .i64 7) := HU4.out.at1 0 (by rw [HCK.out]; rfl)
      have f2 : u4.cell? ⟨g1, 2, none⟩ = some (.int .i64 0) := HU4.out.at1 2 (by rw [HCK.out]; rfl)
      go_upto_region 17 with fail
      have hbx := HU4.out.box
      have hrs := HU4.out.res
      go_wp2_with (first | (refine at_load (x := .tmp 3) ?_; refine wpList_load_row rfl 43 (.tmp 3) rfl gq rfl 43 #[.int .i64 7, .int .u64 (tag : Int), .int .i64 0, .slice none 0 0, .slice A2 n2 c2, .slice A3 n3 c3, .string next, .bool more, .int .i64 0, .int .i64 0, .int .i64 0, .int .i64 0, .int .i64 0, .int .i64 0, .int .i64 0] (0, 0) _ hbx Try.underlying43 rfl infoAn15 ?_) | (refine at_store (x := .tmp 2) ?_; refine wpList_stored rfl 43 (.tmp 2) (.tmp 64) rfl gx #[.int .i64 7, .int .u64 (tag : Int), .int .i64 0, .slice none 0 0, .slice A2 n2 c2, .slice A3 n3 c3, .string next, .bool more, .int .i64 0, .int .i64 0, .int .i64 0, .int .i64 0, .int .i64 0, .int .i64 0, .int .i64 0] rfl rfl 43 anZT hrs infoAn15 rfl (by simp [Value.oneCell']) ?_; intro wy hBy))
      (try simp only [Exit.inBlock, Exit.then])
      refine bodyPost_ret (results_cell1 rfl _ _ gx 43 #[.int .i64 7, .int .u64 (tag : Int), .int .i64 0, .slice none 0 0, .slice A2 n2 c2, .slice A3 n3 c3, .string next, .bool more, .int .i64 0, .int .i64 0, .int .i64 0, .int .i64 0, .int .i64 0, .int .i64 0, .int .i64 0] (0, 0) _ rfl hBy.out.1 Try.underlying43 rfl infoAn15) rfl ?_
      have hRR : onlyAn a = (⟨7, tag, 0, [], keys, groups, next, more, 0, 0, 0, 0, 0, 0, 0⟩ : An) := by rw [HR.out]; unfold onlyAn; simp
      unfold OnlyAnPost
      rw [hRR]
      exact ⟨none, A2, A3, 0, 0, n2, c2, n3, c3, rfl, .inr ⟨rfl, rfl, rfl, rfl⟩, .inl ⟨by rw [HR.out], rfl, rfl, rfl⟩, .inl ⟨by rw [HR.out], rfl, rfl, rfl⟩, (HU4.out.done hBy.out.2.1).2⟩
    · have HNZ := Hd.mk hC0
      have f0 : w3.cell? ⟨g1, 0, none⟩ = some (.int .i64 7) := HS.out.at1 0 (by rw [HCK.out]; rfl)
      have f2 : w3.cell? ⟨g1, 2, none⟩ = some (.int .i64 C) := HS.out.at1 2 (by rw [HCK.out]; rfl)
      go_upto_region 5 with fail
      have hbx := HS.out.box
      have hrs := HS.out.res
      go_wp2_with (first | (refine at_load (x := .tmp 3) ?_; refine wpList_load_row rfl 43 (.tmp 3) rfl gq rfl 43 #[.int .i64 7, .int .u64 (tag : Int), .int .i64 C, .slice none 0 0, .slice none 0 0, .slice none 0 0, .string emS, .bool false, .int .i64 0, .int .i64 0, .int .i64 0, .int .i64 0, .int .i64 0, .int .i64 0, .int .i64 0] (0, 0) _ hbx Try.underlying43 rfl infoAn15 ?_) | (refine at_store (x := .tmp 2) ?_; refine wpList_stored rfl 43 (.tmp 2) (.tmp 20) rfl gx #[.int .i64 7, .int .u64 (tag : Int), .int .i64 C, .slice none 0 0, .slice none 0 0, .slice none 0 0, .string emS, .bool false, .int .i64 0, .int .i64 0, .int .i64 0, .int .i64 0, .int .i64 0, .int .i64 0, .int .i64 0] rfl rfl 43 anZT hrs infoAn15 rfl (by simp [Value.oneCell']) ?_; intro wy hBy))
      (try simp only [Exit.inBlock, Exit.then])
      refine bodyPost_ret (results_cell1 rfl _ _ gx 43 #[.int .i64 7, .int .u64 (tag : Int), .int .i64 C, .slice none 0 0, .slice none 0 0, .slice none 0 0, .string emS, .bool false, .int .i64 0, .int .i64 0, .int .i64 0, .int .i64 0, .int .i64 0, .int .i64 0, .int .i64 0] (0, 0) _ rfl hBy.out.1 Try.underlying43 rfl infoAn15) rfl ?_
      have hRR : onlyAn a = (⟨7, tag, C, [], [], [], emS, false, 0, 0, 0, 0, 0, 0, 0⟩ : An) := by rw [HR.out]; unfold onlyAn; simp [HNZ.out]
      unfold OnlyAnPost
      rw [hRR]
      exact ⟨none, none, none, 0, 0, 0, 0, 0, 0, rfl, .inr ⟨rfl, rfl, rfl, rfl⟩, .inr ⟨rfl, rfl, rfl, rfl⟩, .inr ⟨rfl, rfl, rfl, rfl⟩, (HS.out.done hBy.out.2.1).2⟩
  · skip
    have f0 : w3.cell? ⟨g1, 0, none⟩ = some (.int .i64 8) := HS.out.at1 0 (by rw [HCK.out]; rfl)
    have f2 : w3.cell? ⟨g1, 2, none⟩ = some (.int .i64 C) := HS.out.at1 2 (by rw [HCK.out]; rfl)
    have hrg : w3.rangeAt g1 11 [.int .i64 h1, .int .i64 h2, .int .i64 h3, .int .i64 h4] := HS.out.range1o 11 4 (by rw [HCK.out]; rfl)
    have zz0 := HS.out.z3 11
    have dd0 : w3.cell? ⟨gq, 11, none⟩ = some (.int .i64 0) := HS.out.at3 11 rfl
    have zz1 := HS.out.z3 12
    have dd1 : w3.cell? ⟨gq, 12, none⟩ = some (.int .i64 0) := HS.out.at3 12 rfl
    have zz2 := HS.out.z3 13
    have dd2 : w3.cell? ⟨gq, 13, none⟩ = some (.int .i64 0) := HS.out.at3 13 rfl
    have zz3 := HS.out.z3 14
    have dd3 : w3.cell? ⟨gq, 14, none⟩ = some (.int .i64 0) := HS.out.at3 14 rfl
    go_upto_region 4 with (refine at_load (x := .tmp 14) ?_; refine wpList_load_mid rfl 41 (.tmp 14) rfl g1 11 rfl [.int .i64 h1, .int .i64 h2, .int .i64 h3, .int .i64 h4] _ hrg Try.underlying41 rfl infoHealed4T ?_)
    obtain ⟨u1, hu1⟩ : ∃ U, ((((w3.setCell ⟨gq, 11, none⟩ (.int .i64 h1)).setCell ⟨gq, 12, none⟩ (.int .i64 h2)).setCell ⟨gq, 13, none⟩ (.int .i64 h3)).setCell ⟨gq, 14, none⟩ (.int .i64 h4)) = U := ⟨_, rfl⟩
    rw [hu1]
    have HU1 : Hd (Gt w u1 43 g1 gx gq cK anZT (⟨[.int .i64 8, .int .u64 (tag : Int), .int .i64 C, .slice none 0 0, .slice none 0 0, .slice none 0 0, .string emS, .bool false, .int .i64 0, .int .i64 0, .int .i64 0, .int .i64 h1, .int .i64 h2, .int .i64 h3, .int .i64 h4], []⟩ : Wm)) := ⟨by rw [← hu1]; exact HS.out.sets 11 [.int .i64 h1, .int .i64 h2, .int .i64 h3, .int .i64 h4] (M' := (⟨[.int .i64 8, .int .u64 (tag : Int), .int .i64 C, .slice none 0 0, .slice none 0 0, .slice none 0 0, .string emS, .bool false, .int .i64 0, .int .i64 0, .int .i64 0, .int .i64 h1, .int .i64 h2, .int .i64 h3, .int .i64 h4], []⟩ : Wm)) rfl⟩
    clear hu1 hrg zz0 dd0 zz1 dd1 zz2 dd2 zz3 dd3 HS f0 f2
    by_cases hC0 : C = 0
    · have HNZ := Hd.mk hC0
      subst hC0
      have f0 : u1.cell? ⟨g1, 0, none⟩ = some (.int .i64 8) := HU1.out.at1 0 (by rw [HCK.out]; rfl)
      have f2 : u1.cell? ⟨g1, 2, none⟩ = some (.int .i64 0) := HU1.out.at1 2 (by rw [HCK.out]; rfl)
      go_upto_region 17 with fail
      have hbx := HU1.out.box
      have hrs := HU1.out.res
      go_wp2_with (first | (refine at_load (x := .tmp 3) ?_; refine wpList_load_row rfl 43 (.tmp 3) rfl gq rfl 43 #[.int .i64 8, .int .u64 (tag : Int), .int .i64 0, .slice none 0 0, .slice none 0 0, .slice none 0 0, .string emS, .bool false, .int .i64 0, .int .i64 0, .int .i64 0, .int .i64 h1, .int .i64 h2, .int .i64 h3, .int .i64 h4] (0, 0) _ hbx Try.underlying43 rfl infoAn15 ?_) | (refine at_store (x := .tmp 2) ?_; refine wpList_stored rfl 43 (.tmp 2) (.tmp 64) rfl gx #[.int .i64 8, .int .u64 (tag : Int), .int .i64 0, .slice none 0 0, .slice none 0 0, .slice none 0 0, .string emS, .bool false, .int .i64 0, .int .i64 0, .int .i64 0, .int .i64 h1, .int .i64 h2, .int .i64 h3, .int .i64 h4] rfl rfl 43 anZT hrs infoAn15 rfl (by simp [Value.oneCell']) ?_; intro wy hBy))
      (try simp only [Exit.inBlock, Exit.then])
      refine bodyPost_ret (results_cell1 rfl _ _ gx 43 #[.int .i64 8, .int .u64 (tag : Int), .int .i64 0, .slice none 0 0, .slice none 0 0, .slice none 0 0, .string emS, .bool false, .int .i64 0, .int .i64 0, .int .i64 0, .int .i64 h1, .int .i64 h2, .int .i64 h3, .int .i64 h4] (0, 0) _ rfl hBy.out.1 Try.underlying43 rfl infoAn15) rfl ?_
      have hRR : onlyAn a = (⟨8, tag, 0, [], [], [], emS, false, 0, 0, 0, h1, h2, h3, h4⟩ : An) := by rw [HR.out]; unfold onlyAn; simp
      unfold OnlyAnPost
      rw [hRR]
      exact ⟨none, none, none, 0, 0, 0, 0, 0, 0, rfl, .inr ⟨rfl, rfl, rfl, rfl⟩, .inr ⟨rfl, rfl, rfl, rfl⟩, .inr ⟨rfl, rfl, rfl, rfl⟩, (HU1.out.done hBy.out.2.1).2⟩
    · have HNZ := Hd.mk hC0
      have f0 : u1.cell? ⟨g1, 0, none⟩ = some (.int .i64 8) := HU1.out.at1 0 (by rw [HCK.out]; rfl)
      have f2 : u1.cell? ⟨g1, 2, none⟩ = some (.int .i64 C) := HU1.out.at1 2 (by rw [HCK.out]; rfl)
      go_upto_region 5 with fail
      have hbx := HU1.out.box
      have hrs := HU1.out.res
      go_wp2_with (first | (refine at_load (x := .tmp 3) ?_; refine wpList_load_row rfl 43 (.tmp 3) rfl gq rfl 43 #[.int .i64 8, .int .u64 (tag : Int), .int .i64 C, .slice none 0 0, .slice none 0 0, .slice none 0 0, .string emS, .bool false, .int .i64 0, .int .i64 0, .int .i64 0, .int .i64 h1, .int .i64 h2, .int .i64 h3, .int .i64 h4] (0, 0) _ hbx Try.underlying43 rfl infoAn15 ?_) | (refine at_store (x := .tmp 2) ?_; refine wpList_stored rfl 43 (.tmp 2) (.tmp 20) rfl gx #[.int .i64 8, .int .u64 (tag : Int), .int .i64 C, .slice none 0 0, .slice none 0 0, .slice none 0 0, .string emS, .bool false, .int .i64 0, .int .i64 0, .int .i64 0, .int .i64 h1, .int .i64 h2, .int .i64 h3, .int .i64 h4] rfl rfl 43 anZT hrs infoAn15 rfl (by simp [Value.oneCell']) ?_; intro wy hBy))
      (try simp only [Exit.inBlock, Exit.then])
      refine bodyPost_ret (results_cell1 rfl _ _ gx 43 #[.int .i64 8, .int .u64 (tag : Int), .int .i64 C, .slice none 0 0, .slice none 0 0, .slice none 0 0, .string emS, .bool false, .int .i64 0, .int .i64 0, .int .i64 0, .int .i64 h1, .int .i64 h2, .int .i64 h3, .int .i64 h4] (0, 0) _ rfl hBy.out.1 Try.underlying43 rfl infoAn15) rfl ?_
      have hRR : onlyAn a = (⟨8, tag, C, [], [], [], emS, false, 0, 0, 0, h1, h2, h3, h4⟩ : An) := by rw [HR.out]; unfold onlyAn; simp [HNZ.out]
      unfold OnlyAnPost
      rw [hRR]
      exact ⟨none, none, none, 0, 0, 0, 0, 0, 0, rfl, .inr ⟨rfl, rfl, rfl, rfl⟩, .inr ⟨rfl, rfl, rfl, rfl⟩, .inr ⟨rfl, rfl, rfl, rfl⟩, (HU1.out.done hBy.out.2.1).2⟩
end Go.Proofs.Ytbcmjjcbjojakaa
end
section
/- Contracts of the reference's sameTexts and SameAnswer. -/
namespace Go.Proofs.Ytbcmjjcbjojakaa
open Go.RowKit
set_option linter.unusedVariables false
set_option linter.unusedSimpArgs false
theorem refSameTexts_any (w : World) (A1 A2 : Option Addr) (n1 c1 n2 c2 B : Nat) (ts us : List ByteArray) (h1 : Rd w B A1 n1 (cs ts)) (h2 : Rd w B A2 n2 (cs us)) (hn : n1 ≤ 8796093022000) :
    Calls Try.prog 95 #[.slice A1 n1 c1, .slice A2 n2 c2] w fun e w' => e = .returned (.bool (decide (ts = us))) ∧ Below w.heap.size w w' := by
  have hl1 : ts.length = n1 := by have := h1.1; rw [cs_len] at this; exact this
  have hl2 : us.length = n2 := by have := h2.1; rw [cs_len] at this; exact this
  have HH : Hd (Rd w B A1 n1 (cs ts) ∧ Rd w B A2 n2 (cs us) ∧ ts.length = n1 ∧ us.length = n2) := ⟨h1, h2, hl1, hl2⟩
  have HF : Hd (∀ b, (ts = us ↔ b = true) → Ending.returned (.bool b) = .returned (.bool (decide (ts = us)))) := ⟨fun b h => by
    congr 2
    rw [Bool.eq_iff_iff, decide_eq_true_iff]; exact h.symm⟩
  obtain ⟨D, hD⟩ : ∃ D : Ending, D = .returned (.bool (decide (ts = us))) := ⟨_, rfl⟩
  rw [← hD] at HF ⊢
  clear h1 h2 hl1 hl2 hD
  go_enter Try.func95, Try.ntmps95
  by_cases hnn : n1 = n2
  · have hnn2 : ((n1 : Int) != (n2 : Int)) = false := by rw [hnn]; simp
    have HNN := Hd.mk hnn
    clear hnn
    go_wp2_with fail
    go_loopw [5] (fun i wr => ∃ k : Nat, k ≤ n1 ∧ i = .int .i64 k ∧ w.heap = wr.heap ∧ Below w.heap.size w wr ∧ ts.take k = us.take k) (fun i _ => n1 - (intOf i).toNat)
    case atStart => exact ⟨0, by omega, rfl, rfl, Below.refl _ _, rfl⟩
    case round =>
      obtain ⟨k, hk, rfl, hh, hb, htk⟩ := hrel
      have HB : Hd (w.heap = wr.heap ∧ Below w.heap.size w wr ∧ ts.take k = us.take k) := ⟨hh, hb, htk⟩
      have hcell : ∀ p : Addr, wr.cell? p = w.cell? p := fun p => by simp [World.cell?, hh]
      by_cases hlt : k < n1
      · obtain ⟨g1, o1, v1, hA1, _, hx1, hc1⟩ := (HH.out.1.keep (fun p _ => hcell p)).at_ hlt
        obtain ⟨g2, o2, v2, hA2, _, hx2, hc2⟩ := (HH.out.2.1.keep (fun p _ => hcell p)).at_ (show k < n2 by have := HNN.out; omega)
        rw [cs_get _ _ (by rw [HH.out.2.2.1]; exact hlt)] at hx1
        rw [cs_get _ _ (by rw [HH.out.2.2.2]; have := HNN.out; omega)] at hx2
        injection hx1 with hx1
        injection hx2 with hx2
        obtain ⟨t, ht⟩ : ∃ t, ts.getD k ByteArray.empty = t := ⟨_, rfl⟩
        obtain ⟨u, hu⟩ : ∃ t, us.getD k ByteArray.empty = t := ⟨_, rfl⟩
        rw [ht] at hx1
        rw [hu] at hx2
        subst hx1 hx2 hA1 hA2
        have hki : (k : Int) < (n1 : Int) := by omega
        have hki2 : (k : Int) < (n2 : Int) := by have := HNN.out; omega
        have HT : Hd (ts[k]? = some t ∧ us[k]? = some u) := ⟨by rw [← ht, List.getD_eq_getElem?_getD, List.getElem?_eq_getElem (by rw [HH.out.2.2.1]; exact hlt)]; rfl, by rw [← hu, List.getD_eq_getElem?_getD, List.getElem?_eq_getElem (by rw [HH.out.2.2.2]; have := HNN.out; omega)]; rfl⟩
        have HLT := Hd.mk hlt
        clear hcell hh hb ht hu htk hnn2 hlt
        by_cases htu : t = u
        · subst htu
          go_wp2_with fail
          go_quiet (fail)
          go_wp2_with fail
          go_roundw
          case rel => exact ⟨k + 1, HLT.out, by go_num, HB.out.1, below_drewN HB.out.2.1 _, by rw [List.take_add_one, List.take_add_one, HT.out.1, HT.out.2, HB.out.2.2]⟩
          case measure => simp [intOf]; have := HLT.out; omega
        · have htl : ¬ t.toList = u.toList := fun h => htu (str_inj h)
          have hdl : decide (t.toList = u.toList) = false := decide_eq_false htl
          have hbl : (t.toList == u.toList) = false := by rw [Bool.eq_false_iff]; intro h; exact htl (eq_of_beq h)
          have HTU := Hd.mk htu
          clear htu
          go_wp2_with fail
          go_quiet (fail)
          go_wp2_with fail
          go_ret
          refine ⟨HF.out false ⟨fun h => ?_, fun h => by cases h⟩, below_drewN HB.out.2.1 _⟩
          exfalso
          have h1 := HT.out.1
          rw [h, HT.out.2] at h1
          injection h1 with h1
          exact HTU.out h1.symm
      · have hkn : n1 = k := by omega
        have HKN := Hd.mk hkn
        have hki : ¬ (k : Int) < (n1 : Int) := by omega
        clear hcell hh hb htk hkn hnn2 hlt
        go_wp2_with fail
        go_ret
        refine ⟨HF.out true ⟨fun _ => rfl, fun _ => ?_⟩, HB.out.2.1⟩
        have := HB.out.2.2
        rwa [List.take_of_length_le (by rw [HH.out.2.2.1]; have := HKN.out; omega), List.take_of_length_le (by rw [HH.out.2.2.2]; have := HKN.out; have := HNN.out; omega)] at this
  · have hnn2 : ((n1 : Int) != (n2 : Int)) = true := by simp; omega
    have HNN := Hd.mk hnn
    clear hnn
    go_wp2_with fail
    go_ret
    refine ⟨HF.out false ⟨fun h => ?_, fun h => by cases h⟩, Below.refl _ _⟩
    exfalso
    have h1 := HH.out.2.2.1
    rw [h, HH.out.2.2.2] at h1
    exact HNN.out h1.symm
theorem World.rangeAt.cellAt0 {W : World} {b : Nat} {l : List Value} (h : W.rangeAt b 0 l) (i : Nat) {v : Value} (hv : l[i]? = some v) : W.cell? ⟨b, i, none⟩ = some v := by
  have := h i v hv
  rwa [Nat.zero_add] at this
/-- Are two answers the same? -/
noncomputable def sameAB (a b : An) : Bool := @decide (a = b) (Classical.propDecidable _)
theorem sameAB_eq (a b : An) (x : Bool) (h : a = b ↔ x = true) : sameAB a b = x := by
  unfold sameAB
  rw [Bool.eq_iff_iff, @decide_eq_true_iff _ (Classical.propDecidable _)]
  exact h
set_option maxRecDepth 20000 in
set_option maxHeartbeats 8000000 in
theorem sameAn_any0 (w : World) (B : Nat) (a b : An) (k code : Int) (tag : Nat) (body body' : List Nat) (keys keys' groups groups' : List ByteArray) (next next' : ByteArray) (more more' : Bool) (ge gc size h1 h2 h3 h4 ge' gc' size' h1' h2' h3' h4' : Int) (ha : a = ⟨k, tag, code, body, keys, groups, next, more, ge, gc, size, h1, h2, h3, h4⟩) (hb : b = ⟨k, tag, code, body', keys', groups', next', more', ge', gc', size', h1', h2', h3', h4'⟩)
    (A A' B1 B1' C1 C1' : Option Addr) (n c n' c' m d m' d' l e l' e' : Nat) (r1 : Rd w B A n (cb body)) (r2 : Rd w B A' n' (cb body')) (r3 : Rd w B B1 m (cs keys)) (r4 : Rd w B B1' m' (cs keys')) (r5 : Rd w B C1 l (cs groups)) (r6 : Rd w B C1' l' (cs groups')) (hB : B ≤ w.heap.size) (q1 : ∀ x ∈ body, x < 256) (q2 : ∀ x ∈ body', x < 256) (q3 : m ≤ 8796093022000) (q4 : l ≤ 8796093022000) :
    Calls Try.prog 61 #[.agg #[.int .i64 k, .int .u64 (tag : Int), .int .i64 code, .slice A n c, .slice B1 m d, .slice C1 l e, .string next, .bool more, .int .i64 ge, .int .i64 gc, .int .i64 size, .int .i64 h1, .int .i64 h2, .int .i64 h3, .int .i64 h4], .agg #[.int .i64 k, .int .u64 (tag : Int), .int .i64 code, .slice A' n' c', .slice B1' m' d', .slice C1' l' e', .string next', .bool more', .int .i64 ge', .int .i64 gc', .int .i64 size', .int .i64 h1', .int .i64 h2', .int .i64 h3', .int .i64 h4']] w fun e w' => e = .returned (.bool (sameAB a b)) ∧ Below w.heap.size w w' := by
  obtain ⟨S, hS⟩ : ∃ S, bstr body = S := ⟨_, rfl⟩
  obtain ⟨S', hS'⟩ : ∃ S', bstr body' = S' := ⟨_, rfl⟩
  have hbb : body = body' ↔ S = S' := by
    rw [← hS, ← hS']
    constructor
    · rintro rfl; rfl
    · intro h
      have := bstr_beq body body' q1 q2
      rw [h] at this
      simpa using this.symm
  have HE : Hd (∀ x : Bool, ((S = S' ∧ keys = keys' ∧ groups = groups' ∧ next = next' ∧ more = more' ∧ ge = ge' ∧ gc = gc' ∧ size = size' ∧ h1 = h1' ∧ h2 = h2' ∧ h3 = h3' ∧ h4 = h4') ↔ x = true) → Ending.returned (.bool x) = .returned (.bool (sameAB a b))) := ⟨fun x h => by
    rw [sameAB_eq a b x ?_]
    rw [← h, ha, hb, ← hbb]
    constructor
    · intro h2; cases h2; exact ⟨rfl, rfl, rfl, rfl, rfl, rfl, rfl, rfl, rfl, rfl, rfl, rfl⟩
    · rintro ⟨rfl, rfl, rfl, rfl, rfl, rfl, rfl, rfl, rfl, rfl, rfl, rfl⟩; rfl⟩
  obtain ⟨D, hD⟩ : ∃ D : Ending, D = .returned (.bool (sameAB a b)) := ⟨_, rfl⟩
  rw [← hD] at HE ⊢
  have HH := Hd.mk (And.intro r1 (And.intro r2 (And.intro r3 (And.intro r4 (And.intro r5 (And.intro r6 hB))))))
  have HSS := Hd.mk (And.intro hS hS')
  clear r1 r2 r3 r4 r5 r6 hB hS hS' hbb q1 q2 ha hb hD
  obtain ⟨W, hW⟩ : ∃ W, (w.alloc (.cells #[.int .i64 k, .int .u64 (tag : Int), .int .i64 code, .slice A n c, .slice B1 m d, .slice C1 l e, .string next, .bool more, .int .i64 ge, .int .i64 gc, .int .i64 size, .int .i64 h1, .int .i64 h2, .int .i64 h3, .int .i64 h4] 43)).alloc (.cells #[.int .i64 k, .int .u64 (tag : Int), .int .i64 code, .slice A' n' c', .slice B1' m' d', .slice C1' l' e', .string next', .bool more', .int .i64 ge', .int .i64 gc', .int .i64 size', .int .i64 h1', .int .i64 h2', .int .i64 h3', .int .i64 h4'] 43) = W := ⟨_, rfl⟩
  obtain ⟨g, hg⟩ : ∃ g, w.heap.size = g := ⟨_, rfl⟩
  obtain ⟨g2, hg2_⟩ : ∃ q, g + 1 = q := ⟨_, rfl⟩
  have hbw : Below w.heap.size w W := by rw [← hW]; exact ((Below.refl _ w).alloc (Nat.le_refl _) _).alloc (by simp) _
  have hg1 : W.heap[g]? = some (.cells #[.int .i64 k, .int .u64 (tag : Int), .int .i64 code, .slice A n c, .slice B1 m d, .slice C1 l e, .string next, .bool more, .int .i64 ge, .int .i64 gc, .int .i64 size, .int .i64 h1, .int .i64 h2, .int .i64 h3, .int .i64 h4] 43) := by rw [← hW, ← hg, heap_alloc_old _ _ (by simp)]; exact heap_alloc_new w _
  have hg2 : W.heap[g2]? = some (.cells #[.int .i64 k, .int .u64 (tag : Int), .int .i64 code, .slice A' n' c', .slice B1' m' d', .slice C1' l' e', .string next', .bool more', .int .i64 ge', .int .i64 gc', .int .i64 size', .int .i64 h1', .int .i64 h2', .int .i64 h3', .int .i64 h4'] 43) := by rw [← hW, ← hg2_, ← hg]; have h := heap_alloc_new (w.alloc (.cells #[.int .i64 k, .int .u64 (tag : Int), .int .i64 code, .slice A n c, .slice B1 m d, .slice C1 l e, .string next, .bool more, .int .i64 ge, .int .i64 gc, .int .i64 size, .int .i64 h1, .int .i64 h2, .int .i64 h3, .int .i64 h4] 43)) (.cells #[.int .i64 k, .int .u64 (tag : Int), .int .i64 code, .slice A' n' c', .slice B1' m' d', .slice C1' l' e', .string next', .bool more', .int .i64 ge', .int .i64 gc', .int .i64 size', .int .i64 h1', .int .i64 h2', .int .i64 h3', .int .i64 h4'] 43); simpa using h
  have HBX := Hd.mk (And.intro hg1 (And.intro hg2 hbw))
  have HCC : Hd (∀ X, Below W.heap.size W X → X.rangeAt g 0 [.int .i64 k, .int .u64 (tag : Int), .int .i64 code, .slice A n c, .slice B1 m d, .slice C1 l e, .string next, .bool more, .int .i64 ge, .int .i64 gc, .int .i64 size, .int .i64 h1, .int .i64 h2, .int .i64 h3, .int .i64 h4] ∧ X.rangeAt g2 0 [.int .i64 k, .int .u64 (tag : Int), .int .i64 code, .slice A' n' c', .slice B1' m' d', .slice C1' l' e', .string next', .bool more', .int .i64 ge', .int .i64 gc', .int .i64 size', .int .i64 h1', .int .i64 h2', .int .i64 h3', .int .i64 h4']) := ⟨fun X hX => by
    have e1 : X.heap[g]? = _ := (hX.block g (Array.getElem?_eq_some_iff.1 HBX.out.1).1).trans HBX.out.1
    have e2 : X.heap[g2]? = _ := (hX.block g2 (Array.getElem?_eq_some_iff.1 HBX.out.2.1).1).trans HBX.out.2.1
    exact ⟨fun j v hv => by rw [Nat.zero_add, cell_of_row X g j _ _ (0, 0) e1]; simpa using hv, fun j v hv => by rw [Nat.zero_add, cell_of_row X g2 j _ _ (0, 0) e2]; simpa using hv⟩⟩
  go_enter Try.func61, Try.ntmps61
  have f1 : (convert 26 9 (.slice A n c)).run Try.prog W = .ok (.string S) W := by rw [← HSS.out.1]; exact conv_any (HH.out.1.below (HBX.out.2.2.mono HH.out.2.2.2.2.2.2))
  have f2 : (convert 26 9 (.slice A' n' c')).run Try.prog W = .ok (.string S') W := by rw [← HSS.out.2]; exact conv_any (HH.out.2.1.below (HBX.out.2.2.mono HH.out.2.2.2.2.2.2))
  have c0 : W.cell? ⟨g, 0, none⟩ = some (.int .i64 k) := World.rangeAt.cellAt0 (HCC.out W (Below.refl _ W)).1 0 rfl
  have c1 : W.cell? ⟨g, 1, none⟩ = some (.int .u64 (tag : Int)) := World.rangeAt.cellAt0 (HCC.out W (Below.refl _ W)).1 1 rfl
  have c2 : W.cell? ⟨g, 2, none⟩ = some (.int .i64 code) := World.rangeAt.cellAt0 (HCC.out W (Below.refl _ W)).1 2 rfl
  have c3 : W.cell? ⟨g, 3, none⟩ = some (.slice A n c) := World.rangeAt.cellAt0 (HCC.out W (Below.refl _ W)).1 3 rfl
  have c4 : W.cell? ⟨g, 4, none⟩ = some (.slice B1 m d) := World.rangeAt.cellAt0 (HCC.out W (Below.refl _ W)).1 4 rfl
  have c5 : W.cell? ⟨g, 5, none⟩ = some (.slice C1 l e) := World.rangeAt.cellAt0 (HCC.out W (Below.refl _ W)).1 5 rfl
  have c6 : W.cell? ⟨g, 6, none⟩ = some (.string next) := World.rangeAt.cellAt0 (HCC.out W (Below.refl _ W)).1 6 rfl
  have c7 : W.cell? ⟨g, 7, none⟩ = some (.bool more) := World.rangeAt.cellAt0 (HCC.out W (Below.refl _ W)).1 7 rfl
  have c8 : W.cell? ⟨g, 8, none⟩ = some (.int .i64 ge) := World.rangeAt.cellAt0 (HCC.out W (Below.refl _ W)).1 8 rfl
  have c9 : W.cell? ⟨g, 9, none⟩ = some (.int .i64 gc) := World.rangeAt.cellAt0 (HCC.out W (Below.refl _ W)).1 9 rfl
  have c10 : W.cell? ⟨g, 10, none⟩ = some (.int .i64 size) := World.rangeAt.cellAt0 (HCC.out W (Below.refl _ W)).1 10 rfl
  have c11 : W.cell? ⟨g, 11, none⟩ = some (.int .i64 h1) := World.rangeAt.cellAt0 (HCC.out W (Below.refl _ W)).1 11 rfl
  have c12 : W.cell? ⟨g, 12, none⟩ = some (.int .i64 h2) := World.rangeAt.cellAt0 (HCC.out W (Below.refl _ W)).1 12 rfl
  have c13 : W.cell? ⟨g, 13, none⟩ = some (.int .i64 h3) := World.rangeAt.cellAt0 (HCC.out W (Below.refl _ W)).1 13 rfl
  have c14 : W.cell? ⟨g, 14, none⟩ = some (.int .i64 h4) := World.rangeAt.cellAt0 (HCC.out W (Below.refl _ W)).1 14 rfl
  have d0 : W.cell? ⟨g2, 0, none⟩ = some (.int .i64 k) := World.rangeAt.cellAt0 (HCC.out W (Below.refl _ W)).2 0 rfl
  have d1 : W.cell? ⟨g2, 1, none⟩ = some (.int .u64 (tag : Int)) := World.rangeAt.cellAt0 (HCC.out W (Below.refl _ W)).2 1 rfl
  have d2 : W.cell? ⟨g2, 2, none⟩ = some (.int .i64 code) := World.rangeAt.cellAt0 (HCC.out W (Below.refl _ W)).2 2 rfl
  have d3 : W.cell? ⟨g2, 3, none⟩ = some (.slice A' n' c') := World.rangeAt.cellAt0 (HCC.out W (Below.refl _ W)).2 3 rfl
  have d4 : W.cell? ⟨g2, 4, none⟩ = some (.slice B1' m' d') := World.rangeAt.cellAt0 (HCC.out W (Below.refl _ W)).2 4 rfl
  have d5 : W.cell? ⟨g2, 5, none⟩ = some (.slice C1' l' e') := World.rangeAt.cellAt0 (HCC.out W (Below.refl _ W)).2 5 rfl
  have d6 : W.cell? ⟨g2, 6, none⟩ = some (.string next') := World.rangeAt.cellAt0 (HCC.out W (Below.refl _ W)).2 6 rfl
  have d7 : W.cell? ⟨g2, 7, none⟩ = some (.bool more') := World.rangeAt.cellAt0 (HCC.out W (Below.refl _ W)).2 7 rfl
  have d8 : W.cell? ⟨g2, 8, none⟩ = some (.int .i64 ge') := World.rangeAt.cellAt0 (HCC.out W (Below.refl _ W)).2 8 rfl
  have d9 : W.cell? ⟨g2, 9, none⟩ = some (.int .i64 gc') := World.rangeAt.cellAt0 (HCC.out W (Below.refl _ W)).2 9 rfl
  have d10 : W.cell? ⟨g2, 10, none⟩ = some (.int .i64 size') := World.rangeAt.cellAt0 (HCC.out W (Below.refl _ W)).2 10 rfl
  have d11 : W.cell? ⟨g2, 11, none⟩ = some (.int .i64 h1') := World.rangeAt.cellAt0 (HCC.out W (Below.refl _ W)).2 11 rfl
  have d12 : W.cell? ⟨g2, 12, none⟩ = some (.int .i64 h2') := World.rangeAt.cellAt0 (HCC.out W (Below.refl _ W)).2 12 rfl
  have d13 : W.cell? ⟨g2, 13, none⟩ = some (.int .i64 h3') := World.rangeAt.cellAt0 (HCC.out W (Below.refl _ W)).2 13 rfl
  have d14 : W.cell? ⟨g2, 14, none⟩ = some (.int .i64 h4') := World.rangeAt.cellAt0 (HCC.out W (Below.refl _ W)).2 14 rfl
  clear hg1 hg2 hbw
  by_cases s1 : S = S'
  · subst s1
    go_wp2_with fail
    refine (refSameTexts_any W B1 B1' m d m' d' B keys keys' (HH.out.2.2.1.below (HBX.out.2.2.mono HH.out.2.2.2.2.2.2)) (HH.out.2.2.2.1.below (HBX.out.2.2.mono HH.out.2.2.2.2.2.2)) q3).mono ?_
    rintro e w1 ⟨rfl, hb1⟩
    have HB1 := Hd.mk hb1
    clear hb1 f1 f2
    clear c0 c1 c2 c3 c4 c5 c6 c7 c8 c9 c10 c11 c12 c13 c14 d0 d1 d2 d3 d4 d5 d6 d7 d8 d9 d10 d11 d12 d13 d14
    obtain ⟨b2, hb2⟩ : ∃ b, decide (keys = keys') = b := ⟨_, rfl⟩
    have HB2 := Hd.mk hb2
    rw [hb2]
    clear hb2
    rcases hbb : b2 with _ | _
    · subst hbb
      have c0 : w1.cell? ⟨g, 0, none⟩ = some (.int .i64 k) := World.rangeAt.cellAt0 (HCC.out w1 HB1.out).1 0 rfl
      have c1 : w1.cell? ⟨g, 1, none⟩ = some (.int .u64 (tag : Int)) := World.rangeAt.cellAt0 (HCC.out w1 HB1.out).1 1 rfl
      have c2 : w1.cell? ⟨g, 2, none⟩ = some (.int .i64 code) := World.rangeAt.cellAt0 (HCC.out w1 HB1.out).1 2 rfl
      have c3 : w1.cell? ⟨g, 3, none⟩ = some (.slice A n c) := World.rangeAt.cellAt0 (HCC.out w1 HB1.out).1 3 rfl
      have c4 : w1.cell? ⟨g, 4, none⟩ = some (.slice B1 m d) := World.rangeAt.cellAt0 (HCC.out w1 HB1.out).1 4 rfl
      have c5 : w1.cell? ⟨g, 5, none⟩ = some (.slice C1 l e) := World.rangeAt.cellAt0 (HCC.out w1 HB1.out).1 5 rfl
      have c6 : w1.cell? ⟨g, 6, none⟩ = some (.string next) := World.rangeAt.cellAt0 (HCC.out w1 HB1.out).1 6 rfl
      have c7 : w1.cell? ⟨g, 7, none⟩ = some (.bool more) := World.rangeAt.cellAt0 (HCC.out w1 HB1.out).1 7 rfl
      have c8 : w1.cell? ⟨g, 8, none⟩ = some (.int .i64 ge) := World.rangeAt.cellAt0 (HCC.out w1 HB1.out).1 8 rfl
      have c9 : w1.cell? ⟨g, 9, none⟩ = some (.int .i64 gc) := World.rangeAt.cellAt0 (HCC.out w1 HB1.out).1 9 rfl
      have c10 : w1.cell? ⟨g, 10, none⟩ = some (.int .i64 size) := World.rangeAt.cellAt0 (HCC.out w1 HB1.out).1 10 rfl
      have c11 : w1.cell? ⟨g, 11, none⟩ = some (.int .i64 h1) := World.rangeAt.cellAt0 (HCC.out w1 HB1.out).1 11 rfl
      have c12 : w1.cell? ⟨g, 12, none⟩ = some (.int .i64 h2) := World.rangeAt.cellAt0 (HCC.out w1 HB1.out).1 12 rfl
      have c13 : w1.cell? ⟨g, 13, none⟩ = some (.int .i64 h3) := World.rangeAt.cellAt0 (HCC.out w1 HB1.out).1 13 rfl
      have c14 : w1.cell? ⟨g, 14, none⟩ = some (.int .i64 h4) := World.rangeAt.cellAt0 (HCC.out w1 HB1.out).1 14 rfl
      have d0 : w1.cell? ⟨g2, 0, none⟩ = some (.int .i64 k) := World.rangeAt.cellAt0 (HCC.out w1 HB1.out).2 0 rfl
      have d1 : w1.cell? ⟨g2, 1, none⟩ = some (.int .u64 (tag : Int)) := World.rangeAt.cellAt0 (HCC.out w1 HB1.out).2 1 rfl
      have d2 : w1.cell? ⟨g2, 2, none⟩ = some (.int .i64 code) := World.rangeAt.cellAt0 (HCC.out w1 HB1.out).2 2 rfl
      have d3 : w1.cell? ⟨g2, 3, none⟩ = some (.slice A' n' c') := World.rangeAt.cellAt0 (HCC.out w1 HB1.out).2 3 rfl
      have d4 : w1.cell? ⟨g2, 4, none⟩ = some (.slice B1' m' d') := World.rangeAt.cellAt0 (HCC.out w1 HB1.out).2 4 rfl
      have d5 : w1.cell? ⟨g2, 5, none⟩ = some (.slice C1' l' e') := World.rangeAt.cellAt0 (HCC.out w1 HB1.out).2 5 rfl
      have d6 : w1.cell? ⟨g2, 6, none⟩ = some (.string next') := World.rangeAt.cellAt0 (HCC.out w1 HB1.out).2 6 rfl
      have d7 : w1.cell? ⟨g2, 7, none⟩ = some (.bool more') := World.rangeAt.cellAt0 (HCC.out w1 HB1.out).2 7 rfl
      have d8 : w1.cell? ⟨g2, 8, none⟩ = some (.int .i64 ge') := World.rangeAt.cellAt0 (HCC.out w1 HB1.out).2 8 rfl
      have d9 : w1.cell? ⟨g2, 9, none⟩ = some (.int .i64 gc') := World.rangeAt.cellAt0 (HCC.out w1 HB1.out).2 9 rfl
      have d10 : w1.cell? ⟨g2, 10, none⟩ = some (.int .i64 size') := World.rangeAt.cellAt0 (HCC.out w1 HB1.out).2 10 rfl
      have d11 : w1.cell? ⟨g2, 11, none⟩ = some (.int .i64 h1') := World.rangeAt.cellAt0 (HCC.out w1 HB1.out).2 11 rfl
      have d12 : w1.cell? ⟨g2, 12, none⟩ = some (.int .i64 h2') := World.rangeAt.cellAt0 (HCC.out w1 HB1.out).2 12 rfl
      have d13 : w1.cell? ⟨g2, 13, none⟩ = some (.int .i64 h3') := World.rangeAt.cellAt0 (HCC.out w1 HB1.out).2 13 rfl
      have d14 : w1.cell? ⟨g2, 14, none⟩ = some (.int .i64 h4') := World.rangeAt.cellAt0 (HCC.out w1 HB1.out).2 14 rfl
      go_wp2_with fail
      go_ret
      exact ⟨HE.out false ⟨fun h => absurd h.2.1 (of_decide_eq_false HB2.out), fun h => by cases h⟩, HBX.out.2.2.trans (HB1.out.mono HBX.out.2.2.size)⟩
    · subst hbb
      have c0 : w1.cell? ⟨g, 0, none⟩ = some (.int .i64 k) := World.rangeAt.cellAt0 (HCC.out w1 HB1.out).1 0 rfl
      have c1 : w1.cell? ⟨g, 1, none⟩ = some (.int .u64 (tag : Int)) := World.rangeAt.cellAt0 (HCC.out w1 HB1.out).1 1 rfl
      have c2 : w1.cell? ⟨g, 2, none⟩ = some (.int .i64 code) := World.rangeAt.cellAt0 (HCC.out w1 HB1.out).1 2 rfl
      have c3 : w1.cell? ⟨g, 3, none⟩ = some (.slice A n c) := World.rangeAt.cellAt0 (HCC.out w1 HB1.out).1 3 rfl
      have c4 : w1.cell? ⟨g, 4, none⟩ = some (.slice B1 m d) := World.rangeAt.cellAt0 (HCC.out w1 HB1.out).1 4 rfl
      have c5 : w1.cell? ⟨g, 5, none⟩ = some (.slice C1 l e) := World.rangeAt.cellAt0 (HCC.out w1 HB1.out).1 5 rfl
      have c6 : w1.cell? ⟨g, 6, none⟩ = some (.string next) := World.rangeAt.cellAt0 (HCC.out w1 HB1.out).1 6 rfl
      have c7 : w1.cell? ⟨g, 7, none⟩ = some (.bool more) := World.rangeAt.cellAt0 (HCC.out w1 HB1.out).1 7 rfl
      have c8 : w1.cell? ⟨g, 8, none⟩ = some (.int .i64 ge) := World.rangeAt.cellAt0 (HCC.out w1 HB1.out).1 8 rfl
      have c9 : w1.cell? ⟨g, 9, none⟩ = some (.int .i64 gc) := World.rangeAt.cellAt0 (HCC.out w1 HB1.out).1 9 rfl
      have c10 : w1.cell? ⟨g, 10, none⟩ = some (.int .i64 size) := World.rangeAt.cellAt0 (HCC.out w1 HB1.out).1 10 rfl
      have c11 : w1.cell? ⟨g, 11, none⟩ = some (.int .i64 h1) := World.rangeAt.cellAt0 (HCC.out w1 HB1.out).1 11 rfl
      have c12 : w1.cell? ⟨g, 12, none⟩ = some (.int .i64 h2) := World.rangeAt.cellAt0 (HCC.out w1 HB1.out).1 12 rfl
      have c13 : w1.cell? ⟨g, 13, none⟩ = some (.int .i64 h3) := World.rangeAt.cellAt0 (HCC.out w1 HB1.out).1 13 rfl
      have c14 : w1.cell? ⟨g, 14, none⟩ = some (.int .i64 h4) := World.rangeAt.cellAt0 (HCC.out w1 HB1.out).1 14 rfl
      have d0 : w1.cell? ⟨g2, 0, none⟩ = some (.int .i64 k) := World.rangeAt.cellAt0 (HCC.out w1 HB1.out).2 0 rfl
      have d1 : w1.cell? ⟨g2, 1, none⟩ = some (.int .u64 (tag : Int)) := World.rangeAt.cellAt0 (HCC.out w1 HB1.out).2 1 rfl
      have d2 : w1.cell? ⟨g2, 2, none⟩ = some (.int .i64 code) := World.rangeAt.cellAt0 (HCC.out w1 HB1.out).2 2 rfl
      have d3 : w1.cell? ⟨g2, 3, none⟩ = some (.slice A' n' c') := World.rangeAt.cellAt0 (HCC.out w1 HB1.out).2 3 rfl
      have d4 : w1.cell? ⟨g2, 4, none⟩ = some (.slice B1' m' d') := World.rangeAt.cellAt0 (HCC.out w1 HB1.out).2 4 rfl
      have d5 : w1.cell? ⟨g2, 5, none⟩ = some (.slice C1' l' e') := World.rangeAt.cellAt0 (HCC.out w1 HB1.out).2 5 rfl
      have d6 : w1.cell? ⟨g2, 6, none⟩ = some (.string next') := World.rangeAt.cellAt0 (HCC.out w1 HB1.out).2 6 rfl
      have d7 : w1.cell? ⟨g2, 7, none⟩ = some (.bool more') := World.rangeAt.cellAt0 (HCC.out w1 HB1.out).2 7 rfl
      have d8 : w1.cell? ⟨g2, 8, none⟩ = some (.int .i64 ge') := World.rangeAt.cellAt0 (HCC.out w1 HB1.out).2 8 rfl
      have d9 : w1.cell? ⟨g2, 9, none⟩ = some (.int .i64 gc') := World.rangeAt.cellAt0 (HCC.out w1 HB1.out).2 9 rfl
      have d10 : w1.cell? ⟨g2, 10, none⟩ = some (.int .i64 size') := World.rangeAt.cellAt0 (HCC.out w1 HB1.out).2 10 rfl
      have d11 : w1.cell? ⟨g2, 11, none⟩ = some (.int .i64 h1') := World.rangeAt.cellAt0 (HCC.out w1 HB1.out).2 11 rfl
      have d12 : w1.cell? ⟨g2, 12, none⟩ = some (.int .i64 h2') := World.rangeAt.cellAt0 (HCC.out w1 HB1.out).2 12 rfl
      have d13 : w1.cell? ⟨g2, 13, none⟩ = some (.int .i64 h3') := World.rangeAt.cellAt0 (HCC.out w1 HB1.out).2 13 rfl
      have d14 : w1.cell? ⟨g2, 14, none⟩ = some (.int .i64 h4') := World.rangeAt.cellAt0 (HCC.out w1 HB1.out).2 14 rfl
      go_wp2_with fail
      refine (refSameTexts_any w1 C1 C1' l e l' e' B groups groups' (HH.out.2.2.2.2.1.below ((HBX.out.2.2.trans (HB1.out.mono HBX.out.2.2.size)).mono HH.out.2.2.2.2.2.2)) (HH.out.2.2.2.2.2.1.below ((HBX.out.2.2.trans (HB1.out.mono HBX.out.2.2.size)).mono HH.out.2.2.2.2.2.2)) q4).mono ?_
      rintro e_ w2 ⟨rfl, hb3⟩
      have HB3 := Hd.mk (HB1.out.trans (hb3.mono HB1.out.size))
      clear hb3
      clear c0 c1 c2 c3 c4 c5 c6 c7 c8 c9 c10 c11 c12 c13 c14 d0 d1 d2 d3 d4 d5 d6 d7 d8 d9 d10 d11 d12 d13 d14
      obtain ⟨b3, hb3⟩ : ∃ b, decide (groups = groups') = b := ⟨_, rfl⟩
      have HB4 := Hd.mk hb3
      rw [hb3]
      clear hb3
      rcases hbb : b3 with _ | _
      · subst hbb
        have c0 : w2.cell? ⟨g, 0, none⟩ = some (.int .i64 k) := World.rangeAt.cellAt0 (HCC.out w2 HB3.out).1 0 rfl
        have c1 : w2.cell? ⟨g, 1, none⟩ = some (.int .u64 (tag : Int)) := World.rangeAt.cellAt0 (HCC.out w2 HB3.out).1 1 rfl
        have c2 : w2.cell? ⟨g, 2, none⟩ = some (.int .i64 code) := World.rangeAt.cellAt0 (HCC.out w2 HB3.out).1 2 rfl
        have c3 : w2.cell? ⟨g, 3, none⟩ = some (.slice A n c) := World.rangeAt.cellAt0 (HCC.out w2 HB3.out).1 3 rfl
        have c4 : w2.cell? ⟨g, 4, none⟩ = some (.slice B1 m d) := World.rangeAt.cellAt0 (HCC.out w2 HB3.out).1 4 rfl
        have c5 : w2.cell? ⟨g, 5, none⟩ = some (.slice C1 l e) := World.rangeAt.cellAt0 (HCC.out w2 HB3.out).1 5 rfl
        have c6 : w2.cell? ⟨g, 6, none⟩ = some (.string next) := World.rangeAt.cellAt0 (HCC.out w2 HB3.out).1 6 rfl
        have c7 : w2.cell? ⟨g, 7, none⟩ = some (.bool more) := World.rangeAt.cellAt0 (HCC.out w2 HB3.out).1 7 rfl
        have c8 : w2.cell? ⟨g, 8, none⟩ = some (.int .i64 ge) := World.rangeAt.cellAt0 (HCC.out w2 HB3.out).1 8 rfl
        have c9 : w2.cell? ⟨g, 9, none⟩ = some (.int .i64 gc) := World.rangeAt.cellAt0 (HCC.out w2 HB3.out).1 9 rfl
        have c10 : w2.cell? ⟨g, 10, none⟩ = some (.int .i64 size) := World.rangeAt.cellAt0 (HCC.out w2 HB3.out).1 10 rfl
        have c11 : w2.cell? ⟨g, 11, none⟩ = some (.int .i64 h1) := World.rangeAt.cellAt0 (HCC.out w2 HB3.out).1 11 rfl
        have c12 : w2.cell? ⟨g, 12, none⟩ = some (.int .i64 h2) := World.rangeAt.cellAt0 (HCC.out w2 HB3.out).1 12 rfl
        have c13 : w2.cell? ⟨g, 13, none⟩ = some (.int .i64 h3) := World.rangeAt.cellAt0 (HCC.out w2 HB3.out).1 13 rfl
        have c14 : w2.cell? ⟨g, 14, none⟩ = some (.int .i64 h4) := World.rangeAt.cellAt0 (HCC.out w2 HB3.out).1 14 rfl
        have d0 : w2.cell? ⟨g2, 0, none⟩ = some (.int .i64 k) := World.rangeAt.cellAt0 (HCC.out w2 HB3.out).2 0 rfl
        have d1 : w2.cell? ⟨g2, 1, none⟩ = some (.int .u64 (tag : Int)) := World.rangeAt.cellAt0 (HCC.out w2 HB3.out).2 1 rfl
        have d2 : w2.cell? ⟨g2, 2, none⟩ = some (.int .i64 code) := World.rangeAt.cellAt0 (HCC.out w2 HB3.out).2 2 rfl
        have d3 : w2.cell? ⟨g2, 3, none⟩ = some (.slice A' n' c') := World.rangeAt.cellAt0 (HCC.out w2 HB3.out).2 3 rfl
        have d4 : w2.cell? ⟨g2, 4, none⟩ = some (.slice B1' m' d') := World.rangeAt.cellAt0 (HCC.out w2 HB3.out).2 4 rfl
        have d5 : w2.cell? ⟨g2, 5, none⟩ = some (.slice C1' l' e') := World.rangeAt.cellAt0 (HCC.out w2 HB3.out).2 5 rfl
        have d6 : w2.cell? ⟨g2, 6, none⟩ = some (.string next') := World.rangeAt.cellAt0 (HCC.out w2 HB3.out).2 6 rfl
        have d7 : w2.cell? ⟨g2, 7, none⟩ = some (.bool more') := World.rangeAt.cellAt0 (HCC.out w2 HB3.out).2 7 rfl
        have d8 : w2.cell? ⟨g2, 8, none⟩ = some (.int .i64 ge') := World.rangeAt.cellAt0 (HCC.out w2 HB3.out).2 8 rfl
        have d9 : w2.cell? ⟨g2, 9, none⟩ = some (.int .i64 gc') := World.rangeAt.cellAt0 (HCC.out w2 HB3.out).2 9 rfl
        have d10 : w2.cell? ⟨g2, 10, none⟩ = some (.int .i64 size') := World.rangeAt.cellAt0 (HCC.out w2 HB3.out).2 10 rfl
        have d11 : w2.cell? ⟨g2, 11, none⟩ = some (.int .i64 h1') := World.rangeAt.cellAt0 (HCC.out w2 HB3.out).2 11 rfl
        have d12 : w2.cell? ⟨g2, 12, none⟩ = some (.int .i64 h2') := World.rangeAt.cellAt0 (HCC.out w2 HB3.out).2 12 rfl
        have d13 : w2.cell? ⟨g2, 13, none⟩ = some (.int .i64 h3') := World.rangeAt.cellAt0 (HCC.out w2 HB3.out).2 13 rfl
        have d14 : w2.cell? ⟨g2, 14, none⟩ = some (.int .i64 h4') := World.rangeAt.cellAt0 (HCC.out w2 HB3.out).2 14 rfl
        go_wp2_with fail
        go_ret
        exact ⟨HE.out false ⟨fun h => absurd h.2.2.1 (of_decide_eq_false HB4.out), fun h => by cases h⟩, HBX.out.2.2.trans (HB3.out.mono HBX.out.2.2.size)⟩
      · subst hbb
        have c0 : w2.cell? ⟨g, 0, none⟩ = some (.int .i64 k) := World.rangeAt.cellAt0 (HCC.out w2 HB3.out).1 0 rfl
        have c1 : w2.cell? ⟨g, 1, none⟩ = some (.int .u64 (tag : Int)) := World.rangeAt.cellAt0 (HCC.out w2 HB3.out).1 1 rfl
        have c2 : w2.cell? ⟨g, 2, none⟩ = some (.int .i64 code) := World.rangeAt.cellAt0 (HCC.out w2 HB3.out).1 2 rfl
        have c3 : w2.cell? ⟨g, 3, none⟩ = some (.slice A n c) := World.rangeAt.cellAt0 (HCC.out w2 HB3.out).1 3 rfl
        have c4 : w2.cell? ⟨g, 4, none⟩ = some (.slice B1 m d) := World.rangeAt.cellAt0 (HCC.out w2 HB3.out).1 4 rfl
        have c5 : w2.cell? ⟨g, 5, none⟩ = some (.slice C1 l e) := World.rangeAt.cellAt0 (HCC.out w2 HB3.out).1 5 rfl
        have c6 : w2.cell? ⟨g, 6, none⟩ = some (.string next) := World.rangeAt.cellAt0 (HCC.out w2 HB3.out).1 6 rfl
        have c7 : w2.cell? ⟨g, 7, none⟩ = some (.bool more) := World.rangeAt.cellAt0 (HCC.out w2 HB3.out).1 7 rfl
        have c8 : w2.cell? ⟨g, 8, none⟩ = some (.int .i64 ge) := World.rangeAt.cellAt0 (HCC.out w2 HB3.out).1 8 rfl
        have c9 : w2.cell? ⟨g, 9, none⟩ = some (.int .i64 gc) := World.rangeAt.cellAt0 (HCC.out w2 HB3.out).1 9 rfl
        have c10 : w2.cell? ⟨g, 10, none⟩ = some (.int .i64 size) := World.rangeAt.cellAt0 (HCC.out w2 HB3.out).1 10 rfl
        have c11 : w2.cell? ⟨g, 11, none⟩ = some (.int .i64 h1) := World.rangeAt.cellAt0 (HCC.out w2 HB3.out).1 11 rfl
        have c12 : w2.cell? ⟨g, 12, none⟩ = some (.int .i64 h2) := World.rangeAt.cellAt0 (HCC.out w2 HB3.out).1 12 rfl
        have c13 : w2.cell? ⟨g, 13, none⟩ = some (.int .i64 h3) := World.rangeAt.cellAt0 (HCC.out w2 HB3.out).1 13 rfl
        have c14 : w2.cell? ⟨g, 14, none⟩ = some (.int .i64 h4) := World.rangeAt.cellAt0 (HCC.out w2 HB3.out).1 14 rfl
        have d0 : w2.cell? ⟨g2, 0, none⟩ = some (.int .i64 k) := World.rangeAt.cellAt0 (HCC.out w2 HB3.out).2 0 rfl
        have d1 : w2.cell? ⟨g2, 1, none⟩ = some (.int .u64 (tag : Int)) := World.rangeAt.cellAt0 (HCC.out w2 HB3.out).2 1 rfl
        have d2 : w2.cell? ⟨g2, 2, none⟩ = some (.int .i64 code) := World.rangeAt.cellAt0 (HCC.out w2 HB3.out).2 2 rfl
        have d3 : w2.cell? ⟨g2, 3, none⟩ = some (.slice A' n' c') := World.rangeAt.cellAt0 (HCC.out w2 HB3.out).2 3 rfl
        have d4 : w2.cell? ⟨g2, 4, none⟩ = some (.slice B1' m' d') := World.rangeAt.cellAt0 (HCC.out w2 HB3.out).2 4 rfl
        have d5 : w2.cell? ⟨g2, 5, none⟩ = some (.slice C1' l' e') := World.rangeAt.cellAt0 (HCC.out w2 HB3.out).2 5 rfl
        have d6 : w2.cell? ⟨g2, 6, none⟩ = some (.string next') := World.rangeAt.cellAt0 (HCC.out w2 HB3.out).2 6 rfl
        have d7 : w2.cell? ⟨g2, 7, none⟩ = some (.bool more') := World.rangeAt.cellAt0 (HCC.out w2 HB3.out).2 7 rfl
        have d8 : w2.cell? ⟨g2, 8, none⟩ = some (.int .i64 ge') := World.rangeAt.cellAt0 (HCC.out w2 HB3.out).2 8 rfl
        have d9 : w2.cell? ⟨g2, 9, none⟩ = some (.int .i64 gc') := World.rangeAt.cellAt0 (HCC.out w2 HB3.out).2 9 rfl
        have d10 : w2.cell? ⟨g2, 10, none⟩ = some (.int .i64 size') := World.rangeAt.cellAt0 (HCC.out w2 HB3.out).2 10 rfl
        have d11 : w2.cell? ⟨g2, 11, none⟩ = some (.int .i64 h1') := World.rangeAt.cellAt0 (HCC.out w2 HB3.out).2 11 rfl
        have d12 : w2.cell? ⟨g2, 12, none⟩ = some (.int .i64 h2') := World.rangeAt.cellAt0 (HCC.out w2 HB3.out).2 12 rfl
        have d13 : w2.cell? ⟨g2, 13, none⟩ = some (.int .i64 h3') := World.rangeAt.cellAt0 (HCC.out w2 HB3.out).2 13 rfl
        have d14 : w2.cell? ⟨g2, 14, none⟩ = some (.int .i64 h4') := World.rangeAt.cellAt0 (HCC.out w2 HB3.out).2 14 rfl
        have hk1 := of_decide_eq_true HB2.out
        have hk2 := of_decide_eq_true HB4.out
        have HE2 : Hd (∀ x : Bool, ((next.toList = next'.toList ∧ more = more' ∧ ge = ge' ∧ gc = gc' ∧ size = size' ∧ h1 = h1' ∧ h2 = h2' ∧ h3 = h3' ∧ h4 = h4') ↔ x = true) → Ending.returned (.bool x) = D) := ⟨fun x h => HE.out x (by
          rw [← h]
          exact ⟨fun ⟨_, _, _, q, r⟩ => ⟨congrArg ByteArray.toList q, r⟩, fun ⟨q, r⟩ => ⟨(by first | rfl | trivial), hk1, hk2, str_inj q, r⟩⟩)⟩
        have HFIN := Hd.mk (HBX.out.2.2.trans (HB3.out.mono HBX.out.2.2.size))
        clear hk1 hk2 HE HB1 HB2 HB3 HB4 HBX
        go_wp2_with fail
        all_goals
          go_ret
          refine ⟨HE2.out _ ?_, HFIN.out⟩
          clear HE2 HFIN HH HSS HCC
          clear c0 c1 c2 c3 c4 c5 c6 c7 c8 c9 c10 c11 c12 c13 c14 d0 d1 d2 d3 d4 d5 d6 d7 d8 d9 d10 d11 d12 d13 d14
          first | (simp_all; done) | (rw [Bool.eq_iff_iff]; simp_all; done) | trace_state
  · have hbl : (S.toList == S'.toList) = false := by rw [Bool.eq_false_iff]; intro h; exact s1 (str_inj (eq_of_beq h))
    have hdl : decide (S.toList = S'.toList) = false := decide_eq_false (fun h => s1 (str_inj h))
    have hnl : ¬ S.toList = S'.toList := fun h => s1 (str_inj h)
    have HS1 := Hd.mk s1
    clear s1
    go_wp2_with fail
    go_ret
    exact ⟨HE.out false ⟨fun h => absurd h.1 HS1.out, fun h => by cases h⟩, HBX.out.2.2⟩
end Go.Proofs.Ytbcmjjcbjojakaa
end
section
/- Contract of the reference's Tell. (tools/tellrgen.py prints it.) -/
namespace Go.Proofs.Ytbcmjjcbjojakaa
open Go.RowKit
set_option linter.unusedVariables false
set_option linter.unusedSimpArgs false
theorem DS.range {w w1 : World} {g : Nat} {xs : Array Value} (h : DS w w1 g xs) {l : List Value} (hl : xs = l.toArray) : w1.rangeAt g 0 l := fun j v hv => by
  rw [Nat.zero_add]; exact h.c j (by rw [hl]; simpa using hv)
set_option maxRecDepth 20000 in
set_option maxHeartbeats 8000000 in
theorem refTell_any0 (w : World) (a : An) (k code : Int) (tag : Nat) (body : List Nat) (keys groups : List ByteArray) (next : ByteArray) (more : Bool) (ge gc size h1 h2 h3 h4 : Int) (ha : a = ⟨k, tag, code, body, keys, groups, next, more, ge, gc, size, h1, h2, h3, h4⟩) (A A2 A3 : Option Addr) (n c n2 c2 n3 c3 : Nat)
    (hr : Rd w w.heap.size A n (cb body)) (hr2 : Rd w w.heap.size A2 n2 (cs keys)) (hr3 : Rd w w.heap.size A3 n3 (cs groups)) (hb : AnB a) (hn2 : n2 ≤ 8796093022000) (hn3 : n3 ≤ 8796093022000) :
    Calls Try.prog 22 #[.agg #[.int .i64 k, .int .u64 (tag : Int), .int .i64 code, .slice A n c, .slice A2 n2 c2, .slice A3 n3 c3, .string next, .bool more, .int .i64 ge, .int .i64 gc, .int .i64 size, .int .i64 h1, .int .i64 h2, .int .i64 h3, .int .i64 h4]] w (TellPost a w) := by
  have hbl : body.length = n := by have := hr.1; rwa [cb_length] at this
  have HH : Hd (Rd w w.heap.size A n (cb body) ∧ Rd w w.heap.size A2 n2 (cs keys) ∧ Rd w w.heap.size A3 n3 (cs groups) ∧ AnB a ∧ body.length = n) := ⟨hr, hr2, hr3, hb, hbl⟩
  have HN := Hd.mk (And.intro hn2 hn3)
  have HAn := Hd.mk ha
  obtain ⟨xs0, hcs⟩ : ∃ xs0 : Array Value, xs0 = #[.int .i64 k, .int .u64 (tag : Int), .int .i64 code, .slice A n c, .slice A2 n2 c2, .slice A3 n3 c3, .string next, .bool more, .int .i64 ge, .int .i64 gc, .int .i64 size, .int .i64 h1, .int .i64 h2, .int .i64 h3, .int .i64 h4] := ⟨_, rfl⟩
  obtain ⟨g, hg⟩ : ∃ g, w.heap.size = g := ⟨_, rfl⟩
  have H0 : Hd (DS w (w.alloc (.cells #[.int .i64 k, .int .u64 (tag : Int), .int .i64 code, .slice A n c, .slice A2 n2 c2, .slice A3 n3 c3, .string next, .bool more, .int .i64 ge, .int .i64 gc, .int .i64 size, .int .i64 h1, .int .i64 h2, .int .i64 h3, .int .i64 h4] 43)) g xs0) := ⟨by rw [← hg, hcs]; exact heap_alloc_new w _, (Below.refl _ w).alloc (Nat.le_refl _) _⟩
  have HCS := Hd.mk hcs
  have HG := Hd.mk hg
  clear hr hr2 hr3 hb ha hcs hg hbl hn2 hn3
  go_enter Try.func22, Try.ntmps22
  go_upto_region 1 with fail
  obtain ⟨w0, hw0⟩ : ∃ w0, w.alloc (.cells #[.int .i64 k, .int .u64 (tag : Int), .int .i64 code, .slice A n c, .slice A2 n2 c2, .slice A3 n3 c3, .string next, .bool more, .int .i64 ge, .int .i64 gc, .int .i64 size, .int .i64 h1, .int .i64 h2, .int .i64 h3, .int .i64 h4] 43) = w0 := ⟨_, rfl⟩
  rw [hw0] at H0 ⊢
  rw [HG.out]
  clear hw0
  by_cases q1 : k < 1
  · have HQ1 := Hd.mk q1
    refine wp_region_held_drew (S := fun W => DS w W g xs0) (by kernel_rfl) (H0.out.step (Below.refl _ _).drew) (fun hHeld => ?_)
    refine wpAnyH_take (i := 0) (oi := ?oi101) (v := ?v101) ?hi101 (by kernel_rfl) (by kernel_rfl) (by kernel_rfl) ?hQ101 (Or.inl ⟨?hw101, ?hy101⟩) (by assumption) ?rest101
    case hi101 => simp only [List.getElem?_toArray, List.getElem?_cons_succ, List.getElem?_cons_zero]; rfl
    case hQ101 => exact fun _ _ _ h => h
    case hw101 => rfl
    case hy101 => (intro W hW; have c0 := hW.c 0 (by rw [HCS.out]; rfl); have c2 := hW.c 2 (by rw [HCS.out]; rfl); go_simp; all_goals rfl)
    simp only [Act.put, List.setIfInBounds_toArray, List.set_cons_zero, List.set_cons_succ]
    refine wpAnyH_take (i := 1) (oi := ?oi102) (v := ?v102) ?hi102 (by kernel_rfl) (by kernel_rfl) (by kernel_rfl) ?hQ102 (Or.inl ⟨?hw102, ?hy102⟩) (by assumption) ?rest102
    case hi102 => simp only [List.getElem?_toArray, List.getElem?_cons_succ, List.getElem?_cons_zero]; rfl
    case hQ102 => exact fun _ _ _ h => h
    case hw102 => rfl
    case hy102 => (intro W hW; have c0 := hW.c 0 (by rw [HCS.out]; rfl); have c2 := hW.c 2 (by rw [HCS.out]; rfl); go_simp; all_goals rfl)
    simp only [Act.put, List.setIfInBounds_toArray, List.set_cons_zero, List.set_cons_succ]
    refine wpAnyH_take (i := 2) (oi := ?oi103) (v := ?v103) ?hi103 (by kernel_rfl) (by kernel_rfl) (by kernel_rfl) ?hQ103 (Or.inl ⟨?hw103, ?hy103⟩) (by assumption) ?rest103
    case hi103 => simp only [List.getElem?_toArray, List.getElem?_cons_succ, List.getElem?_cons_zero]; rfl
    case hQ103 => exact fun _ _ _ h => h
    case hw103 => rfl
    case hy103 => (intro W hW; have c0 := hW.c 0 (by rw [HCS.out]; rfl); have c2 := hW.c 2 (by rw [HCS.out]; rfl); go_simp; all_goals rfl)
    simp only [Act.put, List.setIfInBounds_toArray, List.set_cons_zero, List.set_cons_succ]
    refine wpAnyH_take (i := 3) (oi := ?oi104) (v := ?v104) ?hi104 (by kernel_rfl) (by kernel_rfl) (by kernel_rfl) ?hQ104 (Or.inl ⟨?hw104, ?hy104⟩) (by assumption) ?rest104
    case hi104 => simp only [List.getElem?_toArray, List.getElem?_cons_succ, List.getElem?_cons_zero]; rfl
    case hQ104 => exact fun _ _ _ h => h
    case hw104 => rfl
    case hy104 => (intro W hW; have c0 := hW.c 0 (by rw [HCS.out]; rfl); have c2 := hW.c 2 (by rw [HCS.out]; rfl); go_simp; all_goals rfl)
    simp only [Act.put, List.setIfInBounds_toArray, List.set_cons_zero, List.set_cons_succ]
    refine wpAnyH_take (i := 4) (oi := ?oi105) (v := ?v105) ?hi105 (by kernel_rfl) (by kernel_rfl) (by kernel_rfl) ?hQ105 (Or.inr ⟨?hw105, ?hv105⟩) (by assumption) ?rest105
    case hi105 => simp only [List.getElem?_toArray, List.getElem?_cons_succ, List.getElem?_cons_zero]; rfl
    case hQ105 => exact fun _ _ _ h => h
    case hw105 => rfl
    case hv105 => rfl
    simp only [Act.put, List.setIfInBounds_toArray, List.set_cons_zero, List.set_cons_succ]
    refine wpAnyH_take (i := 5) (oi := ?oi106) (v := ?v106) ?hi106 (by kernel_rfl) (by kernel_rfl) (by kernel_rfl) ?hQ106 (Or.inr ⟨?hw106, ?hv106⟩) (by assumption) ?rest106
    case hi106 => simp only [List.getElem?_toArray, List.getElem?_cons_succ, List.getElem?_cons_zero]; rfl
    case hQ106 => exact fun _ _ _ h => h
    case hw106 => rfl
    case hv106 => rfl
    simp only [Act.put, List.setIfInBounds_toArray, List.set_cons_zero, List.set_cons_succ]
    refine wpAnyH_take (i := 6) (oi := ?oi107) (v := ?v107) ?hi107 (by kernel_rfl) (by kernel_rfl) (by kernel_rfl) ?hQ107 (Or.inr ⟨?hw107, ?hv107⟩) (by assumption) ?rest107
    case hi107 => simp only [List.getElem?_toArray, List.getElem?_cons_succ, List.getElem?_cons_zero]; rfl
    case hQ107 => exact fun _ _ _ h => h
    case hw107 => rfl
    case hv107 => rfl
    simp only [Act.put, List.setIfInBounds_toArray, List.set_cons_zero, List.set_cons_succ]
    refine wpAnyH_take (i := 7) (oi := ?oi108) (v := ?v108) ?hi108 (by kernel_rfl) (by kernel_rfl) (by kernel_rfl) ?hQ108 (Or.inl ⟨?hw108, ?hy108⟩) (by assumption) ?rest108
    case hi108 => simp only [List.getElem?_toArray, List.getElem?_cons_succ, List.getElem?_cons_zero]; rfl
    case hQ108 => exact fun _ _ _ h => h
    case hw108 => rfl
    case hy108 => (intro W hW; have c0 := hW.c 0 (by rw [HCS.out]; rfl); have c2 := hW.c 2 (by rw [HCS.out]; rfl); go_simp; all_goals rfl)
    simp only [Act.put, List.setIfInBounds_toArray, List.set_cons_zero, List.set_cons_succ]
    refine wpAnyH_take (i := 8) (oi := ?oi109) (v := ?v109) ?hi109 (by kernel_rfl) (by kernel_rfl) (by kernel_rfl) ?hQ109 (Or.inl ⟨?hw109, ?hy109⟩) (by assumption) ?rest109
    case hi109 => simp only [List.getElem?_toArray, List.getElem?_cons_succ, List.getElem?_cons_zero]; rfl
    case hQ109 => exact fun _ _ _ h => h
    case hw109 => rfl
    case hy109 => (intro W hW; have c0 := hW.c 0 (by rw [HCS.out]; rfl); have c2 := hW.c 2 (by rw [HCS.out]; rfl); go_simp; all_goals rfl)
    simp only [Act.put, List.setIfInBounds_toArray, List.set_cons_zero, List.set_cons_succ]
    refine wpAnyH_take (i := 9) (oi := ?oi110) (v := ?v110) ?hi110 (by kernel_rfl) (by kernel_rfl) (by kernel_rfl) ?hQ110 (Or.inr ⟨?hw110, ?hv110⟩) (by assumption) ?rest110
    case hi110 => simp only [List.getElem?_toArray, List.getElem?_cons_succ, List.getElem?_cons_zero]; rfl
    case hQ110 => exact fun _ _ _ h => h
    case hw110 => rfl
    case hv110 => rfl
    simp only [Act.put, List.setIfInBounds_toArray, List.set_cons_zero, List.set_cons_succ]
    refine wpAnyH_take (i := 10) (oi := ?oi111) (v := ?v111) ?hi111 (by kernel_rfl) (by kernel_rfl) (by kernel_rfl) ?hQ111 (Or.inr ⟨?hw111, ?hv111⟩) (by assumption) ?rest111
    case hi111 => simp only [List.getElem?_toArray, List.getElem?_cons_succ, List.getElem?_cons_zero]; rfl
    case hQ111 => exact fun _ _ _ h => h
    case hw111 => rfl
    case hv111 => rfl
    simp only [Act.put, List.setIfInBounds_toArray, List.set_cons_zero, List.set_cons_succ]
    refine wpAnyH_take (i := 11) (oi := ?oi112) (v := ?v112) ?hi112 (by kernel_rfl) (by kernel_rfl) (by kernel_rfl) ?hQ112 (Or.inr ⟨?hw112, ?hv112⟩) (by assumption) ?rest112
    case hi112 => simp only [List.getElem?_toArray, List.getElem?_cons_succ, List.getElem?_cons_zero]; rfl
    case hQ112 => exact fun _ _ _ h => h
    case hw112 => rfl
    case hv112 => rfl
    simp only [Act.put, List.setIfInBounds_toArray, List.set_cons_zero, List.set_cons_succ]
    refine wpAnyH_take (i := 12) (oi := ?oi113) (v := ?v113) ?hi113 (by kernel_rfl) (by kernel_rfl) (by kernel_rfl) ?hQ113 (Or.inl ⟨?hw113, ?hy113⟩) (by assumption) ?rest113
    case hi113 => simp only [List.getElem?_toArray, List.getElem?_cons_succ, List.getElem?_cons_zero]; rfl
    case hQ113 => exact fun _ _ _ h => h
    case hw113 => rfl
    case hy113 => (intro W hW; have c0 := hW.c 0 (by rw [HCS.out]; rfl); have c2 := hW.c 2 (by rw [HCS.out]; rfl); go_simp; all_goals rfl)
    simp only [Act.put, List.setIfInBounds_toArray, List.set_cons_zero, List.set_cons_succ]
    refine wpAnyH_take (i := 13) (oi := ?oi114) (v := ?v114) ?hi114 (by kernel_rfl) (by kernel_rfl) (by kernel_rfl) ?hQ114 (Or.inl ⟨?hw114, ?hy114⟩) (by assumption) ?rest114
    case hi114 => simp only [List.getElem?_toArray, List.getElem?_cons_succ, List.getElem?_cons_zero]; rfl
    case hQ114 => exact fun _ _ _ h => h
    case hw114 => rfl
    case hy114 => (intro W hW; have c0 := hW.c 0 (by rw [HCS.out]; rfl); have c2 := hW.c 2 (by rw [HCS.out]; rfl); go_simp; all_goals rfl)
    simp only [Act.put, List.setIfInBounds_toArray, List.set_cons_zero, List.set_cons_succ]
    refine wpAnyH_take (i := 14) (oi := ?oi115) (v := ?v115) ?hi115 (by kernel_rfl) (by kernel_rfl) (by kernel_rfl) ?hQ115 (Or.inr ⟨?hw115, ?hv115⟩) (by assumption) ?rest115
    case hi115 => simp only [List.getElem?_toArray, List.getElem?_cons_succ, List.getElem?_cons_zero]; rfl
    case hQ115 => exact fun _ _ _ h => h
    case hw115 => rfl
    case hv115 => rfl
    simp only [Act.put, List.setIfInBounds_toArray, List.set_cons_zero, List.set_cons_succ]
    refine wpAnyH_take (i := 15) (oi := ?oi116) (v := ?v116) ?hi116 (by kernel_rfl) (by kernel_rfl) (by kernel_rfl) ?hQ116 (Or.inr ⟨?hw116, ?hv116⟩) (by assumption) ?rest116
    case hi116 => simp only [List.getElem?_toArray, List.getElem?_cons_succ, List.getElem?_cons_zero]; rfl
    case hQ116 => exact fun _ _ _ h => h
    case hw116 => rfl
    case hv116 => rfl
    simp only [Act.put, List.setIfInBounds_toArray, List.set_cons_zero, List.set_cons_succ]
    refine wpAnyH_take (i := 16) (oi := ?oi117) (v := ?v117) ?hi117 (by kernel_rfl) (by kernel_rfl) (by kernel_rfl) ?hQ117 (Or.inr ⟨?hw117, ?hv117⟩) (by assumption) ?rest117
    case hi117 => simp only [List.getElem?_toArray, List.getElem?_cons_succ, List.getElem?_cons_zero]; rfl
    case hQ117 => exact fun _ _ _ h => h
    case hw117 => rfl
    case hv117 => rfl
    simp only [Act.put, List.setIfInBounds_toArray, List.set_cons_zero, List.set_cons_succ]
    refine wpAnyH_take (i := 17) (oi := ?oi118) (v := ?v118) ?hi118 (by kernel_rfl) (by kernel_rfl) (by kernel_rfl) ?hQ118 (Or.inl ⟨?hw118, ?hy118⟩) (by assumption) ?rest118
    case hi118 => simp only [List.getElem?_toArray, List.getElem?_cons_succ, List.getElem?_cons_zero]; rfl
    case hQ118 => exact fun _ _ _ h => h
    case hw118 => rfl
    case hy118 => (intro W hW; have c0 := hW.c 0 (by rw [HCS.out]; rfl); have c2 := hW.c 2 (by rw [HCS.out]; rfl); go_simp; all_goals rfl)
    simp only [Act.put, List.setIfInBounds_toArray, List.set_cons_zero, List.set_cons_succ]
    refine wpAnyH_take (i := 18) (oi := ?oi119) (v := ?v119) ?hi119 (by kernel_rfl) (by kernel_rfl) (by kernel_rfl) ?hQ119 (Or.inl ⟨?hw119, ?hy119⟩) (by assumption) ?rest119
    case hi119 => simp only [List.getElem?_toArray, List.getElem?_cons_succ, List.getElem?_cons_zero]; rfl
    case hQ119 => exact fun _ _ _ h => h
    case hw119 => rfl
    case hy119 => (intro W hW; have c0 := hW.c 0 (by rw [HCS.out]; rfl); have c2 := hW.c 2 (by rw [HCS.out]; rfl); go_simp; all_goals rfl)
    simp only [Act.put, List.setIfInBounds_toArray, List.set_cons_zero, List.set_cons_succ]
    refine wpAnyH_take (i := 19) (oi := ?oi120) (v := ?v120) ?hi120 (by kernel_rfl) (by kernel_rfl) (by kernel_rfl) ?hQ120 (Or.inr ⟨?hw120, ?hv120⟩) (by assumption) ?rest120
    case hi120 => simp only [List.getElem?_toArray, List.getElem?_cons_succ, List.getElem?_cons_zero]; rfl
    case hQ120 => exact fun _ _ _ h => h
    case hw120 => rfl
    case hv120 => rfl
    simp only [Act.put, List.setIfInBounds_toArray, List.set_cons_zero, List.set_cons_succ]
    refine wpAnyH_take (i := 20) (oi := ?oi121) (v := ?v121) ?hi121 (by kernel_rfl) (by kernel_rfl) (by kernel_rfl) ?hQ121 (Or.inr ⟨?hw121, ?hv121⟩) (by assumption) ?rest121
    case hi121 => simp only [List.getElem?_toArray, List.getElem?_cons_succ, List.getElem?_cons_zero]; rfl
    case hQ121 => exact fun _ _ _ h => h
    case hw121 => rfl
    case hv121 => rfl
    simp only [Act.put, List.setIfInBounds_toArray, List.set_cons_zero, List.set_cons_succ]
    refine wpAnyH_take (i := 21) (oi := ?oi122) (v := ?v122) ?hi122 (by kernel_rfl) (by kernel_rfl) (by kernel_rfl) ?hQ122 (Or.inr ⟨?hw122, ?hv122⟩) (by assumption) ?rest122
    case hi122 => simp only [List.getElem?_toArray, List.getElem?_cons_succ, List.getElem?_cons_zero]; rfl
    case hQ122 => exact fun _ _ _ h => h
    case hw122 => rfl
    case hv122 => rfl
    simp only [Act.put, List.setIfInBounds_toArray, List.set_cons_zero, List.set_cons_succ]
    refine wpAnyH_take (i := 22) (oi := ?oi123) (v := ?v123) ?hi123 (by kernel_rfl) (by kernel_rfl) (by kernel_rfl) ?hQ123 (Or.inr ⟨?hw123, ?hv123⟩) (by assumption) ?rest123
    case hi123 => simp only [List.getElem?_toArray, List.getElem?_cons_succ, List.getElem?_cons_zero]; rfl
    case hQ123 => exact fun _ _ _ h => h
    case hw123 => rfl
    case hv123 => rfl
    simp only [Act.put, List.setIfInBounds_toArray, List.set_cons_zero, List.set_cons_succ]
    refine wpAnyH_take (i := 23) (oi := ?oi124) (v := ?v124) ?hi124 (by kernel_rfl) (by kernel_rfl) (by kernel_rfl) ?hQ124 (Or.inr ⟨?hw124, ?hv124⟩) (by assumption) ?rest124
    case hi124 => simp only [List.getElem?_toArray, List.getElem?_cons_succ, List.getElem?_cons_zero]; rfl
    case hQ124 => exact fun _ _ _ h => h
    case hw124 => rfl
    case hv124 => rfl
    simp only [Act.put, List.setIfInBounds_toArray, List.set_cons_zero, List.set_cons_succ]
    refine wpAnyH_take (i := 24) (oi := ?oi125) (v := ?v125) ?hi125 (by kernel_rfl) (by kernel_rfl) (by kernel_rfl) ?hQ125 (Or.inl ⟨?hw125, ?hy125⟩) (by assumption) ?rest125
    case hi125 => simp only [List.getElem?_toArray, List.getElem?_cons_succ, List.getElem?_cons_zero]; rfl
    case hQ125 => exact fun _ _ _ h => h
    case hw125 => rfl
    case hy125 => (intro W hW; have c0 := hW.c 0 (by rw [HCS.out]; rfl); have c2 := hW.c 2 (by rw [HCS.out]; rfl); go_simp; all_goals rfl)
    simp only [Act.put, List.setIfInBounds_toArray, List.set_cons_zero, List.set_cons_succ]
    refine wpAnyH_done (by kernel_rfl) ?_ _
    have HB := Hd.mk hHeld.bel
    clear hHeld
    go_wp2_with fail
    go_ret2
    exact TellPost.bad (fun h => by rw [HAn.out] at h; obtain ⟨x1, x2, x3, x4, _⟩ := h; simp only at x1 x2 x3 x4; omega) HB.out
  by_cases q2 : 8 < k
  · have HQ1 := Hd.mk q2
    refine wp_region_held_drew (S := fun W => DS w W g xs0) (by kernel_rfl) (H0.out.step (Below.refl _ _).drew) (fun hHeld => ?_)
    refine wpAnyH_take (i := 0) (oi := ?oi201) (v := ?v201) ?hi201 (by kernel_rfl) (by kernel_rfl) (by kernel_rfl) ?hQ201 (Or.inl ⟨?hw201, ?hy201⟩) (by assumption) ?rest201
    case hi201 => simp only [List.getElem?_toArray, List.getElem?_cons_succ, List.getElem?_cons_zero]; rfl
    case hQ201 => exact fun _ _ _ h => h
    case hw201 => rfl
    case hy201 => (intro W hW; have c0 := hW.c 0 (by rw [HCS.out]; rfl); have c2 := hW.c 2 (by rw [HCS.out]; rfl); go_simp; all_goals rfl)
    simp only [Act.put, List.setIfInBounds_toArray, List.set_cons_zero, List.set_cons_succ]
    refine wpAnyH_take (i := 1) (oi := ?oi202) (v := ?v202) ?hi202 (by kernel_rfl) (by kernel_rfl) (by kernel_rfl) ?hQ202 (Or.inl ⟨?hw202, ?hy202⟩) (by assumption) ?rest202
    case hi202 => simp only [List.getElem?_toArray, List.getElem?_cons_succ, List.getElem?_cons_zero]; rfl
    case hQ202 => exact fun _ _ _ h => h
    case hw202 => rfl
    case hy202 => (intro W hW; have c0 := hW.c 0 (by rw [HCS.out]; rfl); have c2 := hW.c 2 (by rw [HCS.out]; rfl); go_simp; all_goals rfl)
    simp only [Act.put, List.setIfInBounds_toArray, List.set_cons_zero, List.set_cons_succ]
    refine wpAnyH_take (i := 2) (oi := ?oi203) (v := ?v203) ?hi203 (by kernel_rfl) (by kernel_rfl) (by kernel_rfl) ?hQ203 (Or.inl ⟨?hw203, ?hy203⟩) (by assumption) ?rest203
    case hi203 => simp only [List.getElem?_toArray, List.getElem?_cons_succ, List.getElem?_cons_zero]; rfl
    case hQ203 => exact fun _ _ _ h => h
    case hw203 => rfl
    case hy203 => (intro W hW; have c0 := hW.c 0 (by rw [HCS.out]; rfl); have c2 := hW.c 2 (by rw [HCS.out]; rfl); go_simp; all_goals rfl)
    simp only [Act.put, List.setIfInBounds_toArray, List.set_cons_zero, List.set_cons_succ]
    refine wpAnyH_take (i := 3) (oi := ?oi204) (v := ?v204) ?hi204 (by kernel_rfl) (by kernel_rfl) (by kernel_rfl) ?hQ204 (Or.inl ⟨?hw204, ?hy204⟩) (by assumption) ?rest204
    case hi204 => simp only [List.getElem?_toArray, List.getElem?_cons_succ, List.getElem?_cons_zero]; rfl
    case hQ204 => exact fun _ _ _ h => h
    case hw204 => rfl
    case hy204 => (intro W hW; have c0 := hW.c 0 (by rw [HCS.out]; rfl); have c2 := hW.c 2 (by rw [HCS.out]; rfl); go_simp; all_goals rfl)
    simp only [Act.put, List.setIfInBounds_toArray, List.set_cons_zero, List.set_cons_succ]
    refine wpAnyH_take (i := 4) (oi := ?oi205) (v := ?v205) ?hi205 (by kernel_rfl) (by kernel_rfl) (by kernel_rfl) ?hQ205 (Or.inl ⟨?hw205, ?hy205⟩) (by assumption) ?rest205
    case hi205 => simp only [List.getElem?_toArray, List.getElem?_cons_succ, List.getElem?_cons_zero]; rfl
    case hQ205 => exact fun _ _ _ h => h
    case hw205 => rfl
    case hy205 => (intro W hW; have c0 := hW.c 0 (by rw [HCS.out]; rfl); have c2 := hW.c 2 (by rw [HCS.out]; rfl); go_simp; all_goals rfl)
    simp only [Act.put, List.setIfInBounds_toArray, List.set_cons_zero, List.set_cons_succ]
    refine wpAnyH_take (i := 5) (oi := ?oi206) (v := ?v206) ?hi206 (by kernel_rfl) (by kernel_rfl) (by kernel_rfl) ?hQ206 (Or.inl ⟨?hw206, ?hy206⟩) (by assumption) ?rest206
    case hi206 => simp only [List.getElem?_toArray, List.getElem?_cons_succ, List.getElem?_cons_zero]; rfl
    case hQ206 => exact fun _ _ _ h => h
    case hw206 => rfl
    case hy206 => (intro W hW; have c0 := hW.c 0 (by rw [HCS.out]; rfl); have c2 := hW.c 2 (by rw [HCS.out]; rfl); go_simp; all_goals rfl)
    simp only [Act.put, List.setIfInBounds_toArray, List.set_cons_zero, List.set_cons_succ]
    refine wpAnyH_take (i := 6) (oi := ?oi207) (v := ?v207) ?hi207 (by kernel_rfl) (by kernel_rfl) (by kernel_rfl) ?hQ207 (Or.inl ⟨?hw207, ?hy207⟩) (by assumption) ?rest207
    case hi207 => simp only [List.getElem?_toArray, List.getElem?_cons_succ, List.getElem?_cons_zero]; rfl
    case hQ207 => exact fun _ _ _ h => h
    case hw207 => rfl
    case hy207 => (intro W hW; have c0 := hW.c 0 (by rw [HCS.out]; rfl); have c2 := hW.c 2 (by rw [HCS.out]; rfl); go_simp; all_goals rfl)
    simp only [Act.put, List.setIfInBounds_toArray, List.set_cons_zero, List.set_cons_succ]
    refine wpAnyH_take (i := 7) (oi := ?oi208) (v := ?v208) ?hi208 (by kernel_rfl) (by kernel_rfl) (by kernel_rfl) ?hQ208 (Or.inl ⟨?hw208, ?hy208⟩) (by assumption) ?rest208
    case hi208 => simp only [List.getElem?_toArray, List.getElem?_cons_succ, List.getElem?_cons_zero]; rfl
    case hQ208 => exact fun _ _ _ h => h
    case hw208 => rfl
    case hy208 => (intro W hW; have c0 := hW.c 0 (by rw [HCS.out]; rfl); have c2 := hW.c 2 (by rw [HCS.out]; rfl); go_simp; all_goals rfl)
    simp only [Act.put, List.setIfInBounds_toArray, List.set_cons_zero, List.set_cons_succ]
    refine wpAnyH_take (i := 8) (oi := ?oi209) (v := ?v209) ?hi209 (by kernel_rfl) (by kernel_rfl) (by kernel_rfl) ?hQ209 (Or.inl ⟨?hw209, ?hy209⟩) (by assumption) ?rest209
    case hi209 => simp only [List.getElem?_toArray, List.getElem?_cons_succ, List.getElem?_cons_zero]; rfl
    case hQ209 => exact fun _ _ _ h => h
    case hw209 => rfl
    case hy209 => (intro W hW; have c0 := hW.c 0 (by rw [HCS.out]; rfl); have c2 := hW.c 2 (by rw [HCS.out]; rfl); go_simp; all_goals rfl)
    simp only [Act.put, List.setIfInBounds_toArray, List.set_cons_zero, List.set_cons_succ]
    refine wpAnyH_take (i := 9) (oi := ?oi210) (v := ?v210) ?hi210 (by kernel_rfl) (by kernel_rfl) (by kernel_rfl) ?hQ210 (Or.inr ⟨?hw210, ?hv210⟩) (by assumption) ?rest210
    case hi210 => simp only [List.getElem?_toArray, List.getElem?_cons_succ, List.getElem?_cons_zero]; rfl
    case hQ210 => exact fun _ _ _ h => h
    case hw210 => rfl
    case hv210 => rfl
    simp only [Act.put, List.setIfInBounds_toArray, List.set_cons_zero, List.set_cons_succ]
    refine wpAnyH_take (i := 10) (oi := ?oi211) (v := ?v211) ?hi211 (by kernel_rfl) (by kernel_rfl) (by kernel_rfl) ?hQ211 (Or.inr ⟨?hw211, ?hv211⟩) (by assumption) ?rest211
    case hi211 => simp only [List.getElem?_toArray, List.getElem?_cons_succ, List.getElem?_cons_zero]; rfl
    case hQ211 => exact fun _ _ _ h => h
    case hw211 => rfl
    case hv211 => rfl
    simp only [Act.put, List.setIfInBounds_toArray, List.set_cons_zero, List.set_cons_succ]
    refine wpAnyH_take (i := 11) (oi := ?oi212) (v := ?v212) ?hi212 (by kernel_rfl) (by kernel_rfl) (by kernel_rfl) ?hQ212 (Or.inr ⟨?hw212, ?hv212⟩) (by assumption) ?rest212
    case hi212 => simp only [List.getElem?_toArray, List.getElem?_cons_succ, List.getElem?_cons_zero]; rfl
    case hQ212 => exact fun _ _ _ h => h
    case hw212 => rfl
    case hv212 => rfl
    simp only [Act.put, List.setIfInBounds_toArray, List.set_cons_zero, List.set_cons_succ]
    refine wpAnyH_take (i := 12) (oi := ?oi213) (v := ?v213) ?hi213 (by kernel_rfl) (by kernel_rfl) (by kernel_rfl) ?hQ213 (Or.inl ⟨?hw213, ?hy213⟩) (by assumption) ?rest213
    case hi213 => simp only [List.getElem?_toArray, List.getElem?_cons_succ, List.getElem?_cons_zero]; rfl
    case hQ213 => exact fun _ _ _ h => h
    case hw213 => rfl
    case hy213 => (intro W hW; have c0 := hW.c 0 (by rw [HCS.out]; rfl); have c2 := hW.c 2 (by rw [HCS.out]; rfl); go_simp; all_goals rfl)
    simp only [Act.put, List.setIfInBounds_toArray, List.set_cons_zero, List.set_cons_succ]
    refine wpAnyH_take (i := 13) (oi := ?oi214) (v := ?v214) ?hi214 (by kernel_rfl) (by kernel_rfl) (by kernel_rfl) ?hQ214 (Or.inl ⟨?hw214, ?hy214⟩) (by assumption) ?rest214
    case hi214 => simp only [List.getElem?_toArray, List.getElem?_cons_succ, List.getElem?_cons_zero]; rfl
    case hQ214 => exact fun _ _ _ h => h
    case hw214 => rfl
    case hy214 => (intro W hW; have c0 := hW.c 0 (by rw [HCS.out]; rfl); have c2 := hW.c 2 (by rw [HCS.out]; rfl); go_simp; all_goals rfl)
    simp only [Act.put, List.setIfInBounds_toArray, List.set_cons_zero, List.set_cons_succ]
    refine wpAnyH_take (i := 14) (oi := ?oi215) (v := ?v215) ?hi215 (by kernel_rfl) (by kernel_rfl) (by kernel_rfl) ?hQ215 (Or.inr ⟨?hw215, ?hv215⟩) (by assumption) ?rest215
    case hi215 => simp only [List.getElem?_toArray, List.getElem?_cons_succ, List.getElem?_cons_zero]; rfl
    case hQ215 => exact fun _ _ _ h => h
    case hw215 => rfl
    case hv215 => rfl
    simp only [Act.put, List.setIfInBounds_toArray, List.set_cons_zero, List.set_cons_succ]
    refine wpAnyH_take (i := 15) (oi := ?oi216) (v := ?v216) ?hi216 (by kernel_rfl) (by kernel_rfl) (by kernel_rfl) ?hQ216 (Or.inr ⟨?hw216, ?hv216⟩) (by assumption) ?rest216
    case hi216 => simp only [List.getElem?_toArray, List.getElem?_cons_succ, List.getElem?_cons_zero]; rfl
    case hQ216 => exact fun _ _ _ h => h
    case hw216 => rfl
    case hv216 => rfl
    simp only [Act.put, List.setIfInBounds_toArray, List.set_cons_zero, List.set_cons_succ]
    refine wpAnyH_take (i := 16) (oi := ?oi217) (v := ?v217) ?hi217 (by kernel_rfl) (by kernel_rfl) (by kernel_rfl) ?hQ217 (Or.inr ⟨?hw217, ?hv217⟩) (by assumption) ?rest217
    case hi217 => simp only [List.getElem?_toArray, List.getElem?_cons_succ, List.getElem?_cons_zero]; rfl
    case hQ217 => exact fun _ _ _ h => h
    case hw217 => rfl
    case hv217 => rfl
    simp only [Act.put, List.setIfInBounds_toArray, List.set_cons_zero, List.set_cons_succ]
    refine wpAnyH_take (i := 17) (oi := ?oi218) (v := ?v218) ?hi218 (by kernel_rfl) (by kernel_rfl) (by kernel_rfl) ?hQ218 (Or.inl ⟨?hw218, ?hy218⟩) (by assumption) ?rest218
    case hi218 => simp only [List.getElem?_toArray, List.getElem?_cons_succ, List.getElem?_cons_zero]; rfl
    case hQ218 => exact fun _ _ _ h => h
    case hw218 => rfl
    case hy218 => (intro W hW; have c0 := hW.c 0 (by rw [HCS.out]; rfl); have c2 := hW.c 2 (by rw [HCS.out]; rfl); go_simp; all_goals rfl)
    simp only [Act.put, List.setIfInBounds_toArray, List.set_cons_zero, List.set_cons_succ]
    refine wpAnyH_take (i := 18) (oi := ?oi219) (v := ?v219) ?hi219 (by kernel_rfl) (by kernel_rfl) (by kernel_rfl) ?hQ219 (Or.inl ⟨?hw219, ?hy219⟩) (by assumption) ?rest219
    case hi219 => simp only [List.getElem?_toArray, List.getElem?_cons_succ, List.getElem?_cons_zero]; rfl
    case hQ219 => exact fun _ _ _ h => h
    case hw219 => rfl
    case hy219 => (intro W hW; have c0 := hW.c 0 (by rw [HCS.out]; rfl); have c2 := hW.c 2 (by rw [HCS.out]; rfl); go_simp; all_goals rfl)
    simp only [Act.put, List.setIfInBounds_toArray, List.set_cons_zero, List.set_cons_succ]
    refine wpAnyH_take (i := 19) (oi := ?oi220) (v := ?v220) ?hi220 (by kernel_rfl) (by kernel_rfl) (by kernel_rfl) ?hQ220 (Or.inr ⟨?hw220, ?hv220⟩) (by assumption) ?rest220
    case hi220 => simp only [List.getElem?_toArray, List.getElem?_cons_succ, List.getElem?_cons_zero]; rfl
    case hQ220 => exact fun _ _ _ h => h
    case hw220 => rfl
    case hv220 => rfl
    simp only [Act.put, List.setIfInBounds_toArray, List.set_cons_zero, List.set_cons_succ]
    refine wpAnyH_take (i := 20) (oi := ?oi221) (v := ?v221) ?hi221 (by kernel_rfl) (by kernel_rfl) (by kernel_rfl) ?hQ221 (Or.inr ⟨?hw221, ?hv221⟩) (by assumption) ?rest221
    case hi221 => simp only [List.getElem?_toArray, List.getElem?_cons_succ, List.getElem?_cons_zero]; rfl
    case hQ221 => exact fun _ _ _ h => h
    case hw221 => rfl
    case hv221 => rfl
    simp only [Act.put, List.setIfInBounds_toArray, List.set_cons_zero, List.set_cons_succ]
    refine wpAnyH_take (i := 21) (oi := ?oi222) (v := ?v222) ?hi222 (by kernel_rfl) (by kernel_rfl) (by kernel_rfl) ?hQ222 (Or.inr ⟨?hw222, ?hv222⟩) (by assumption) ?rest222
    case hi222 => simp only [List.getElem?_toArray, List.getElem?_cons_succ, List.getElem?_cons_zero]; rfl
    case hQ222 => exact fun _ _ _ h => h
    case hw222 => rfl
    case hv222 => rfl
    simp only [Act.put, List.setIfInBounds_toArray, List.set_cons_zero, List.set_cons_succ]
    refine wpAnyH_take (i := 22) (oi := ?oi223) (v := ?v223) ?hi223 (by kernel_rfl) (by kernel_rfl) (by kernel_rfl) ?hQ223 (Or.inr ⟨?hw223, ?hv223⟩) (by assumption) ?rest223
    case hi223 => simp only [List.getElem?_toArray, List.getElem?_cons_succ, List.getElem?_cons_zero]; rfl
    case hQ223 => exact fun _ _ _ h => h
    case hw223 => rfl
    case hv223 => rfl
    simp only [Act.put, List.setIfInBounds_toArray, List.set_cons_zero, List.set_cons_succ]
    refine wpAnyH_take (i := 23) (oi := ?oi224) (v := ?v224) ?hi224 (by kernel_rfl) (by kernel_rfl) (by kernel_rfl) ?hQ224 (Or.inr ⟨?hw224, ?hv224⟩) (by assumption) ?rest224
    case hi224 => simp only [List.getElem?_toArray, List.getElem?_cons_succ, List.getElem?_cons_zero]; rfl
    case hQ224 => exact fun _ _ _ h => h
    case hw224 => rfl
    case hv224 => rfl
    simp only [Act.put, List.setIfInBounds_toArray, List.set_cons_zero, List.set_cons_succ]
    refine wpAnyH_take (i := 24) (oi := ?oi225) (v := ?v225) ?hi225 (by kernel_rfl) (by kernel_rfl) (by kernel_rfl) ?hQ225 (Or.inl ⟨?hw225, ?hy225⟩) (by assumption) ?rest225
    case hi225 => simp only [List.getElem?_toArray, List.getElem?_cons_succ, List.getElem?_cons_zero]; rfl
    case hQ225 => exact fun _ _ _ h => h
    case hw225 => rfl
    case hy225 => (intro W hW; have c0 := hW.c 0 (by rw [HCS.out]; rfl); have c2 := hW.c 2 (by rw [HCS.out]; rfl); go_simp; all_goals rfl)
    simp only [Act.put, List.setIfInBounds_toArray, List.set_cons_zero, List.set_cons_succ]
    refine wpAnyH_done (by kernel_rfl) ?_ _
    have HB := Hd.mk hHeld.bel
    clear hHeld
    go_wp2_with fail
    go_ret2
    exact TellPost.bad (fun h => by rw [HAn.out] at h; obtain ⟨x1, x2, x3, x4, _⟩ := h; simp only at x1 x2 x3 x4; omega) HB.out
  by_cases q3 : code < 0
  · have HQ1 := Hd.mk q3
    refine wp_region_held_drew (S := fun W => DS w W g xs0) (by kernel_rfl) (H0.out.step (Below.refl _ _).drew) (fun hHeld => ?_)
    refine wpAnyH_take (i := 0) (oi := ?oi301) (v := ?v301) ?hi301 (by kernel_rfl) (by kernel_rfl) (by kernel_rfl) ?hQ301 (Or.inl ⟨?hw301, ?hy301⟩) (by assumption) ?rest301
    case hi301 => simp only [List.getElem?_toArray, List.getElem?_cons_succ, List.getElem?_cons_zero]; rfl
    case hQ301 => exact fun _ _ _ h => h
    case hw301 => rfl
    case hy301 => (intro W hW; have c0 := hW.c 0 (by rw [HCS.out]; rfl); have c2 := hW.c 2 (by rw [HCS.out]; rfl); go_simp; all_goals rfl)
    simp only [Act.put, List.setIfInBounds_toArray, List.set_cons_zero, List.set_cons_succ]
    refine wpAnyH_take (i := 1) (oi := ?oi302) (v := ?v302) ?hi302 (by kernel_rfl) (by kernel_rfl) (by kernel_rfl) ?hQ302 (Or.inl ⟨?hw302, ?hy302⟩) (by assumption) ?rest302
    case hi302 => simp only [List.getElem?_toArray, List.getElem?_cons_succ, List.getElem?_cons_zero]; rfl
    case hQ302 => exact fun _ _ _ h => h
    case hw302 => rfl
    case hy302 => (intro W hW; have c0 := hW.c 0 (by rw [HCS.out]; rfl); have c2 := hW.c 2 (by rw [HCS.out]; rfl); go_simp; all_goals rfl)
    simp only [Act.put, List.setIfInBounds_toArray, List.set_cons_zero, List.set_cons_succ]
    refine wpAnyH_take (i := 2) (oi := ?oi303) (v := ?v303) ?hi303 (by kernel_rfl) (by kernel_rfl) (by kernel_rfl) ?hQ303 (Or.inl ⟨?hw303, ?hy303⟩) (by assumption) ?rest303
    case hi303 => simp only [List.getElem?_toArray, List.getElem?_cons_succ, List.getElem?_cons_zero]; rfl
    case hQ303 => exact fun _ _ _ h => h
    case hw303 => rfl
    case hy303 => (intro W hW; have c0 := hW.c 0 (by rw [HCS.out]; rfl); have c2 := hW.c 2 (by rw [HCS.out]; rfl); go_simp; all_goals rfl)
    simp only [Act.put, List.setIfInBounds_toArray, List.set_cons_zero, List.set_cons_succ]
    refine wpAnyH_take (i := 3) (oi := ?oi304) (v := ?v304) ?hi304 (by kernel_rfl) (by kernel_rfl) (by kernel_rfl) ?hQ304 (Or.inl ⟨?hw304, ?hy304⟩) (by assumption) ?rest304
    case hi304 => simp only [List.getElem?_toArray, List.getElem?_cons_succ, List.getElem?_cons_zero]; rfl
    case hQ304 => exact fun _ _ _ h => h
    case hw304 => rfl
    case hy304 => (intro W hW; have c0 := hW.c 0 (by rw [HCS.out]; rfl); have c2 := hW.c 2 (by rw [HCS.out]; rfl); go_simp; all_goals rfl)
    simp only [Act.put, List.setIfInBounds_toArray, List.set_cons_zero, List.set_cons_succ]
    refine wpAnyH_take (i := 4) (oi := ?oi305) (v := ?v305) ?hi305 (by kernel_rfl) (by kernel_rfl) (by kernel_rfl) ?hQ305 (Or.inl ⟨?hw305, ?hy305⟩) (by assumption) ?rest305
    case hi305 => simp only [List.getElem?_toArray, List.getElem?_cons_succ, List.getElem?_cons_zero]; rfl
    case hQ305 => exact fun _ _ _ h => h
    case hw305 => rfl
    case hy305 => (intro W hW; have c0 := hW.c 0 (by rw [HCS.out]; rfl); have c2 := hW.c 2 (by rw [HCS.out]; rfl); go_simp; all_goals rfl)
    simp only [Act.put, List.setIfInBounds_toArray, List.set_cons_zero, List.set_cons_succ]
    refine wpAnyH_take (i := 5) (oi := ?oi306) (v := ?v306) ?hi306 (by kernel_rfl) (by kernel_rfl) (by kernel_rfl) ?hQ306 (Or.inl ⟨?hw306, ?hy306⟩) (by assumption) ?rest306
    case hi306 => simp only [List.getElem?_toArray, List.getElem?_cons_succ, List.getElem?_cons_zero]; rfl
    case hQ306 => exact fun _ _ _ h => h
    case hw306 => rfl
    case hy306 => (intro W hW; have c0 := hW.c 0 (by rw [HCS.out]; rfl); have c2 := hW.c 2 (by rw [HCS.out]; rfl); go_simp; all_goals rfl)
    simp only [Act.put, List.setIfInBounds_toArray, List.set_cons_zero, List.set_cons_succ]
    refine wpAnyH_take (i := 6) (oi := ?oi307) (v := ?v307) ?hi307 (by kernel_rfl) (by kernel_rfl) (by kernel_rfl) ?hQ307 (Or.inl ⟨?hw307, ?hy307⟩) (by assumption) ?rest307
    case hi307 => simp only [List.getElem?_toArray, List.getElem?_cons_succ, List.getElem?_cons_zero]; rfl
    case hQ307 => exact fun _ _ _ h => h
    case hw307 => rfl
    case hy307 => (intro W hW; have c0 := hW.c 0 (by rw [HCS.out]; rfl); have c2 := hW.c 2 (by rw [HCS.out]; rfl); go_simp; all_goals rfl)
    simp only [Act.put, List.setIfInBounds_toArray, List.set_cons_zero, List.set_cons_succ]
    refine wpAnyH_take (i := 7) (oi := ?oi308) (v := ?v308) ?hi308 (by kernel_rfl) (by kernel_rfl) (by kernel_rfl) ?hQ308 (Or.inl ⟨?hw308, ?hy308⟩) (by assumption) ?rest308
    case hi308 => simp only [List.getElem?_toArray, List.getElem?_cons_succ, List.getElem?_cons_zero]; rfl
    case hQ308 => exact fun _ _ _ h => h
    case hw308 => rfl
    case hy308 => (intro W hW; have c0 := hW.c 0 (by rw [HCS.out]; rfl); have c2 := hW.c 2 (by rw [HCS.out]; rfl); go_simp; all_goals rfl)
    simp only [Act.put, List.setIfInBounds_toArray, List.set_cons_zero, List.set_cons_succ]
    refine wpAnyH_take (i := 8) (oi := ?oi309) (v := ?v309) ?hi309 (by kernel_rfl) (by kernel_rfl) (by kernel_rfl) ?hQ309 (Or.inl ⟨?hw309, ?hy309⟩) (by assumption) ?rest309
    case hi309 => simp only [List.getElem?_toArray, List.getElem?_cons_succ, List.getElem?_cons_zero]; rfl
    case hQ309 => exact fun _ _ _ h => h
    case hw309 => rfl
    case hy309 => (intro W hW; have c0 := hW.c 0 (by rw [HCS.out]; rfl); have c2 := hW.c 2 (by rw [HCS.out]; rfl); go_simp; all_goals rfl)
    simp only [Act.put, List.setIfInBounds_toArray, List.set_cons_zero, List.set_cons_succ]
    refine wpAnyH_take (i := 9) (oi := ?oi310) (v := ?v310) ?hi310 (by kernel_rfl) (by kernel_rfl) (by kernel_rfl) ?hQ310 (Or.inl ⟨?hw310, ?hy310⟩) (by assumption) ?rest310
    case hi310 => simp only [List.getElem?_toArray, List.getElem?_cons_succ, List.getElem?_cons_zero]; rfl
    case hQ310 => exact fun _ _ _ h => h
    case hw310 => rfl
    case hy310 => (intro W hW; have c0 := hW.c 0 (by rw [HCS.out]; rfl); have c2 := hW.c 2 (by rw [HCS.out]; rfl); go_simp; all_goals rfl)
    simp only [Act.put, List.setIfInBounds_toArray, List.set_cons_zero, List.set_cons_succ]
    refine wpAnyH_take (i := 10) (oi := ?oi311) (v := ?v311) ?hi311 (by kernel_rfl) (by kernel_rfl) (by kernel_rfl) ?hQ311 (Or.inl ⟨?hw311, ?hy311⟩) (by assumption) ?rest311
    case hi311 => simp only [List.getElem?_toArray, List.getElem?_cons_succ, List.getElem?_cons_zero]; rfl
    case hQ311 => exact fun _ _ _ h => h
    case hw311 => rfl
    case hy311 => (intro W hW; have c0 := hW.c 0 (by rw [HCS.out]; rfl); have c2 := hW.c 2 (by rw [HCS.out]; rfl); go_simp; all_goals rfl)
    simp only [Act.put, List.setIfInBounds_toArray, List.set_cons_zero, List.set_cons_succ]
    refine wpAnyH_take (i := 11) (oi := ?oi312) (v := ?v312) ?hi312 (by kernel_rfl) (by kernel_rfl) (by kernel_rfl) ?hQ312 (Or.inl ⟨?hw312, ?hy312⟩) (by assumption) ?rest312
    case hi312 => simp only [List.getElem?_toArray, List.getElem?_cons_succ, List.getElem?_cons_zero]; rfl
    case hQ312 => exact fun _ _ _ h => h
    case hw312 => rfl
    case hy312 => (intro W hW; have c0 := hW.c 0 (by rw [HCS.out]; rfl); have c2 := hW.c 2 (by rw [HCS.out]; rfl); go_simp; all_goals rfl)
    simp only [Act.put, List.setIfInBounds_toArray, List.set_cons_zero, List.set_cons_succ]
    refine wpAnyH_take (i := 12) (oi := ?oi313) (v := ?v313) ?hi313 (by kernel_rfl) (by kernel_rfl) (by kernel_rfl) ?hQ313 (Or.inl ⟨?hw313, ?hy313⟩) (by assumption) ?rest313
    case hi313 => simp only [List.getElem?_toArray, List.getElem?_cons_succ, List.getElem?_cons_zero]; rfl
    case hQ313 => exact fun _ _ _ h => h
    case hw313 => rfl
    case hy313 => (intro W hW; have c0 := hW.c 0 (by rw [HCS.out]; rfl); have c2 := hW.c 2 (by rw [HCS.out]; rfl); go_simp; all_goals rfl)
    simp only [Act.put, List.setIfInBounds_toArray, List.set_cons_zero, List.set_cons_succ]
    refine wpAnyH_take (i := 13) (oi := ?oi314) (v := ?v314) ?hi314 (by kernel_rfl) (by kernel_rfl) (by kernel_rfl) ?hQ314 (Or.inl ⟨?hw314, ?hy314⟩) (by assumption) ?rest314
    case hi314 => simp only [List.getElem?_toArray, List.getElem?_cons_succ, List.getElem?_cons_zero]; rfl
    case hQ314 => exact fun _ _ _ h => h
    case hw314 => rfl
    case hy314 => (intro W hW; have c0 := hW.c 0 (by rw [HCS.out]; rfl); have c2 := hW.c 2 (by rw [HCS.out]; rfl); go_simp; all_goals rfl)
    simp only [Act.put, List.setIfInBounds_toArray, List.set_cons_zero, List.set_cons_succ]
    refine wpAnyH_take (i := 14) (oi := ?oi315) (v := ?v315) ?hi315 (by kernel_rfl) (by kernel_rfl) (by kernel_rfl) ?hQ315 (Or.inr ⟨?hw315, ?hv315⟩) (by assumption) ?rest315
    case hi315 => simp only [List.getElem?_toArray, List.getElem?_cons_succ, List.getElem?_cons_zero]; rfl
    case hQ315 => exact fun _ _ _ h => h
    case hw315 => rfl
    case hv315 => rfl
    simp only [Act.put, List.setIfInBounds_toArray, List.set_cons_zero, List.set_cons_succ]
    refine wpAnyH_take (i := 15) (oi := ?oi316) (v := ?v316) ?hi316 (by kernel_rfl) (by kernel_rfl) (by kernel_rfl) ?hQ316 (Or.inr ⟨?hw316, ?hv316⟩) (by assumption) ?rest316
    case hi316 => simp only [List.getElem?_toArray, List.getElem?_cons_succ, List.getElem?_cons_zero]; rfl
    case hQ316 => exact fun _ _ _ h => h
    case hw316 => rfl
    case hv316 => rfl
    simp only [Act.put, List.setIfInBounds_toArray, List.set_cons_zero, List.set_cons_succ]
    refine wpAnyH_take (i := 16) (oi := ?oi317) (v := ?v317) ?hi317 (by kernel_rfl) (by kernel_rfl) (by kernel_rfl) ?hQ317 (Or.inr ⟨?hw317, ?hv317⟩) (by assumption) ?rest317
    case hi317 => simp only [List.getElem?_toArray, List.getElem?_cons_succ, List.getElem?_cons_zero]; rfl
    case hQ317 => exact fun _ _ _ h => h
    case hw317 => rfl
    case hv317 => rfl
    simp only [Act.put, List.setIfInBounds_toArray, List.set_cons_zero, List.set_cons_succ]
    refine wpAnyH_take (i := 17) (oi := ?oi318) (v := ?v318) ?hi318 (by kernel_rfl) (by kernel_rfl) (by kernel_rfl) ?hQ318 (Or.inl ⟨?hw318, ?hy318⟩) (by assumption) ?rest318
    case hi318 => simp only [List.getElem?_toArray, List.getElem?_cons_succ, List.getElem?_cons_zero]; rfl
    case hQ318 => exact fun _ _ _ h => h
    case hw318 => rfl
    case hy318 => (intro W hW; have c0 := hW.c 0 (by rw [HCS.out]; rfl); have c2 := hW.c 2 (by rw [HCS.out]; rfl); go_simp; all_goals rfl)
    simp only [Act.put, List.setIfInBounds_toArray, List.set_cons_zero, List.set_cons_succ]
    refine wpAnyH_take (i := 18) (oi := ?oi319) (v := ?v319) ?hi319 (by kernel_rfl) (by kernel_rfl) (by kernel_rfl) ?hQ319 (Or.inl ⟨?hw319, ?hy319⟩) (by assumption) ?rest319
    case hi319 => simp only [List.getElem?_toArray, List.getElem?_cons_succ, List.getElem?_cons_zero]; rfl
    case hQ319 => exact fun _ _ _ h => h
    case hw319 => rfl
    case hy319 => (intro W hW; have c0 := hW.c 0 (by rw [HCS.out]; rfl); have c2 := hW.c 2 (by rw [HCS.out]; rfl); go_simp; all_goals rfl)
    simp only [Act.put, List.setIfInBounds_toArray, List.set_cons_zero, List.set_cons_succ]
    refine wpAnyH_take (i := 19) (oi := ?oi320) (v := ?v320) ?hi320 (by kernel_rfl) (by kernel_rfl) (by kernel_rfl) ?hQ320 (Or.inr ⟨?hw320, ?hv320⟩) (by assumption) ?rest320
    case hi320 => simp only [List.getElem?_toArray, List.getElem?_cons_succ, List.getElem?_cons_zero]; rfl
    case hQ320 => exact fun _ _ _ h => h
    case hw320 => rfl
    case hv320 => rfl
    simp only [Act.put, List.setIfInBounds_toArray, List.set_cons_zero, List.set_cons_succ]
    refine wpAnyH_take (i := 20) (oi := ?oi321) (v := ?v321) ?hi321 (by kernel_rfl) (by kernel_rfl) (by kernel_rfl) ?hQ321 (Or.inr ⟨?hw321, ?hv321⟩) (by assumption) ?rest321
    case hi321 => simp only [List.getElem?_toArray, List.getElem?_cons_succ, List.getElem?_cons_zero]; rfl
    case hQ321 => exact fun _ _ _ h => h
    case hw321 => rfl
    case hv321 => rfl
    simp only [Act.put, List.setIfInBounds_toArray, List.set_cons_zero, List.set_cons_succ]
    refine wpAnyH_take (i := 21) (oi := ?oi322) (v := ?v322) ?hi322 (by kernel_rfl) (by kernel_rfl) (by kernel_rfl) ?hQ322 (Or.inr ⟨?hw322, ?hv322⟩) (by assumption) ?rest322
    case hi322 => simp only [List.getElem?_toArray, List.getElem?_cons_succ, List.getElem?_cons_zero]; rfl
    case hQ322 => exact fun _ _ _ h => h
    case hw322 => rfl
    case hv322 => rfl
    simp only [Act.put, List.setIfInBounds_toArray, List.set_cons_zero, List.set_cons_succ]
    refine wpAnyH_take (i := 22) (oi := ?oi323) (v := ?v323) ?hi323 (by kernel_rfl) (by kernel_rfl) (by kernel_rfl) ?hQ323 (Or.inr ⟨?hw323, ?hv323⟩) (by assumption) ?rest323
    case hi323 => simp only [List.getElem?_toArray, List.getElem?_cons_succ, List.getElem?_cons_zero]; rfl
    case hQ323 => exact fun _ _ _ h => h
    case hw323 => rfl
    case hv323 => rfl
    simp only [Act.put, List.setIfInBounds_toArray, List.set_cons_zero, List.set_cons_succ]
    refine wpAnyH_take (i := 23) (oi := ?oi324) (v := ?v324) ?hi324 (by kernel_rfl) (by kernel_rfl) (by kernel_rfl) ?hQ324 (Or.inr ⟨?hw324, ?hv324⟩) (by assumption) ?rest324
    case hi324 => simp only [List.getElem?_toArray, List.getElem?_cons_succ, List.getElem?_cons_zero]; rfl
    case hQ324 => exact fun _ _ _ h => h
    case hw324 => rfl
    case hv324 => rfl
    simp only [Act.put, List.setIfInBounds_toArray, List.set_cons_zero, List.set_cons_succ]
    refine wpAnyH_take (i := 24) (oi := ?oi325) (v := ?v325) ?hi325 (by kernel_rfl) (by kernel_rfl) (by kernel_rfl) ?hQ325 (Or.inl ⟨?hw325, ?hy325⟩) (by assumption) ?rest325
    case hi325 => simp only [List.getElem?_toArray, List.getElem?_cons_succ, List.getElem?_cons_zero]; rfl
    case hQ325 => exact fun _ _ _ h => h
    case hw325 => rfl
    case hy325 => (intro W hW; have c0 := hW.c 0 (by rw [HCS.out]; rfl); have c2 := hW.c 2 (by rw [HCS.out]; rfl); go_simp; all_goals rfl)
    simp only [Act.put, List.setIfInBounds_toArray, List.set_cons_zero, List.set_cons_succ]
    refine wpAnyH_done (by kernel_rfl) ?_ _
    have HB := Hd.mk hHeld.bel
    clear hHeld
    go_wp2_with fail
    go_ret2
    exact TellPost.bad (fun h => by rw [HAn.out] at h; obtain ⟨x1, x2, x3, x4, _⟩ := h; simp only at x1 x2 x3 x4; omega) HB.out
  by_cases q4 : 2147483647 < code
  · have HQ1 := Hd.mk q4
    refine wp_region_held_drew (S := fun W => DS w W g xs0) (by kernel_rfl) (H0.out.step (Below.refl _ _).drew) (fun hHeld => ?_)
    refine wpAnyH_take (i := 0) (oi := ?oi401) (v := ?v401) ?hi401 (by kernel_rfl) (by kernel_rfl) (by kernel_rfl) ?hQ401 (Or.inl ⟨?hw401, ?hy401⟩) (by assumption) ?rest401
    case hi401 => simp only [List.getElem?_toArray, List.getElem?_cons_succ, List.getElem?_cons_zero]; rfl
    case hQ401 => exact fun _ _ _ h => h
    case hw401 => rfl
    case hy401 => (intro W hW; have c0 := hW.c 0 (by rw [HCS.out]; rfl); have c2 := hW.c 2 (by rw [HCS.out]; rfl); go_simp; all_goals rfl)
    simp only [Act.put, List.setIfInBounds_toArray, List.set_cons_zero, List.set_cons_succ]
    refine wpAnyH_take (i := 1) (oi := ?oi402) (v := ?v402) ?hi402 (by kernel_rfl) (by kernel_rfl) (by kernel_rfl) ?hQ402 (Or.inl ⟨?hw402, ?hy402⟩) (by assumption) ?rest402
    case hi402 => simp only [List.getElem?_toArray, List.getElem?_cons_succ, List.getElem?_cons_zero]; rfl
    case hQ402 => exact fun _ _ _ h => h
    case hw402 => rfl
    case hy402 => (intro W hW; have c0 := hW.c 0 (by rw [HCS.out]; rfl); have c2 := hW.c 2 (by rw [HCS.out]; rfl); go_simp; all_goals rfl)
    simp only [Act.put, List.setIfInBounds_toArray, List.set_cons_zero, List.set_cons_succ]
    refine wpAnyH_take (i := 2) (oi := ?oi403) (v := ?v403) ?hi403 (by kernel_rfl) (by kernel_rfl) (by kernel_rfl) ?hQ403 (Or.inl ⟨?hw403, ?hy403⟩) (by assumption) ?rest403
    case hi403 => simp only [List.getElem?_toArray, List.getElem?_cons_succ, List.getElem?_cons_zero]; rfl
    case hQ403 => exact fun _ _ _ h => h
    case hw403 => rfl
    case hy403 => (intro W hW; have c0 := hW.c 0 (by rw [HCS.out]; rfl); have c2 := hW.c 2 (by rw [HCS.out]; rfl); go_simp; all_goals rfl)
    simp only [Act.put, List.setIfInBounds_toArray, List.set_cons_zero, List.set_cons_succ]
    refine wpAnyH_take (i := 3) (oi := ?oi404) (v := ?v404) ?hi404 (by kernel_rfl) (by kernel_rfl) (by kernel_rfl) ?hQ404 (Or.inl ⟨?hw404, ?hy404⟩) (by assumption) ?rest404
    case hi404 => simp only [List.getElem?_toArray, List.getElem?_cons_succ, List.getElem?_cons_zero]; rfl
    case hQ404 => exact fun _ _ _ h => h
    case hw404 => rfl
    case hy404 => (intro W hW; have c0 := hW.c 0 (by rw [HCS.out]; rfl); have c2 := hW.c 2 (by rw [HCS.out]; rfl); go_simp; all_goals rfl)
    simp only [Act.put, List.setIfInBounds_toArray, List.set_cons_zero, List.set_cons_succ]
    refine wpAnyH_take (i := 4) (oi := ?oi405) (v := ?v405) ?hi405 (by kernel_rfl) (by kernel_rfl) (by kernel_rfl) ?hQ405 (Or.inl ⟨?hw405, ?hy405⟩) (by assumption) ?rest405
    case hi405 => simp only [List.getElem?_toArray, List.getElem?_cons_succ, List.getElem?_cons_zero]; rfl
    case hQ405 => exact fun _ _ _ h => h
    case hw405 => rfl
    case hy405 => (intro W hW; have c0 := hW.c 0 (by rw [HCS.out]; rfl); have c2 := hW.c 2 (by rw [HCS.out]; rfl); go_simp; all_goals rfl)
    simp only [Act.put, List.setIfInBounds_toArray, List.set_cons_zero, List.set_cons_succ]
    refine wpAnyH_take (i := 5) (oi := ?oi406) (v := ?v406) ?hi406 (by kernel_rfl) (by kernel_rfl) (by kernel_rfl) ?hQ406 (Or.inl ⟨?hw406, ?hy406⟩) (by assumption) ?rest406
    case hi406 => simp only [List.getElem?_toArray, List.getElem?_cons_succ, List.getElem?_cons_zero]; rfl
    case hQ406 => exact fun _ _ _ h => h
    case hw406 => rfl
    case hy406 => (intro W hW; have c0 := hW.c 0 (by rw [HCS.out]; rfl); have c2 := hW.c 2 (by rw [HCS.out]; rfl); go_simp; all_goals rfl)
    simp only [Act.put, List.setIfInBounds_toArray, List.set_cons_zero, List.set_cons_succ]
    refine wpAnyH_take (i := 6) (oi := ?oi407) (v := ?v407) ?hi407 (by kernel_rfl) (by kernel_rfl) (by kernel_rfl) ?hQ407 (Or.inl ⟨?hw407, ?hy407⟩) (by assumption) ?rest407
    case hi407 => simp only [List.getElem?_toArray, List.getElem?_cons_succ, List.getElem?_cons_zero]; rfl
    case hQ407 => exact fun _ _ _ h => h
    case hw407 => rfl
    case hy407 => (intro W hW; have c0 := hW.c 0 (by rw [HCS.out]; rfl); have c2 := hW.c 2 (by rw [HCS.out]; rfl); go_simp; all_goals rfl)
    simp only [Act.put, List.setIfInBounds_toArray, List.set_cons_zero, List.set_cons_succ]
    refine wpAnyH_take (i := 7) (oi := ?oi408) (v := ?v408) ?hi408 (by kernel_rfl) (by kernel_rfl) (by kernel_rfl) ?hQ408 (Or.inl ⟨?hw408, ?hy408⟩) (by assumption) ?rest408
    case hi408 => simp only [List.getElem?_toArray, List.getElem?_cons_succ, List.getElem?_cons_zero]; rfl
    case hQ408 => exact fun _ _ _ h => h
    case hw408 => rfl
    case hy408 => (intro W hW; have c0 := hW.c 0 (by rw [HCS.out]; rfl); have c2 := hW.c 2 (by rw [HCS.out]; rfl); go_simp; all_goals rfl)
    simp only [Act.put, List.setIfInBounds_toArray, List.set_cons_zero, List.set_cons_succ]
    refine wpAnyH_take (i := 8) (oi := ?oi409) (v := ?v409) ?hi409 (by kernel_rfl) (by kernel_rfl) (by kernel_rfl) ?hQ409 (Or.inl ⟨?hw409, ?hy409⟩) (by assumption) ?rest409
    case hi409 => simp only [List.getElem?_toArray, List.getElem?_cons_succ, List.getElem?_cons_zero]; rfl
    case hQ409 => exact fun _ _ _ h => h
    case hw409 => rfl
    case hy409 => (intro W hW; have c0 := hW.c 0 (by rw [HCS.out]; rfl); have c2 := hW.c 2 (by rw [HCS.out]; rfl); go_simp; all_goals rfl)
    simp only [Act.put, List.setIfInBounds_toArray, List.set_cons_zero, List.set_cons_succ]
    refine wpAnyH_take (i := 9) (oi := ?oi410) (v := ?v410) ?hi410 (by kernel_rfl) (by kernel_rfl) (by kernel_rfl) ?hQ410 (Or.inl ⟨?hw410, ?hy410⟩) (by assumption) ?rest410
    case hi410 => simp only [List.getElem?_toArray, List.getElem?_cons_succ, List.getElem?_cons_zero]; rfl
    case hQ410 => exact fun _ _ _ h => h
    case hw410 => rfl
    case hy410 => (intro W hW; have c0 := hW.c 0 (by rw [HCS.out]; rfl); have c2 := hW.c 2 (by rw [HCS.out]; rfl); go_simp; all_goals rfl)
    simp only [Act.put, List.setIfInBounds_toArray, List.set_cons_zero, List.set_cons_succ]
    refine wpAnyH_take (i := 10) (oi := ?oi411) (v := ?v411) ?hi411 (by kernel_rfl) (by kernel_rfl) (by kernel_rfl) ?hQ411 (Or.inl ⟨?hw411, ?hy411⟩) (by assumption) ?rest411
    case hi411 => simp only [List.getElem?_toArray, List.getElem?_cons_succ, List.getElem?_cons_zero]; rfl
    case hQ411 => exact fun _ _ _ h => h
    case hw411 => rfl
    case hy411 => (intro W hW; have c0 := hW.c 0 (by rw [HCS.out]; rfl); have c2 := hW.c 2 (by rw [HCS.out]; rfl); go_simp; all_goals rfl)
    simp only [Act.put, List.setIfInBounds_toArray, List.set_cons_zero, List.set_cons_succ]
    refine wpAnyH_take (i := 11) (oi := ?oi412) (v := ?v412) ?hi412 (by kernel_rfl) (by kernel_rfl) (by kernel_rfl) ?hQ412 (Or.inl ⟨?hw412, ?hy412⟩) (by assumption) ?rest412
    case hi412 => simp only [List.getElem?_toArray, List.getElem?_cons_succ, List.getElem?_cons_zero]; rfl
    case hQ412 => exact fun _ _ _ h => h
    case hw412 => rfl
    case hy412 => (intro W hW; have c0 := hW.c 0 (by rw [HCS.out]; rfl); have c2 := hW.c 2 (by rw [HCS.out]; rfl); go_simp; all_goals rfl)
    simp only [Act.put, List.setIfInBounds_toArray, List.set_cons_zero, List.set_cons_succ]
    refine wpAnyH_take (i := 12) (oi := ?oi413) (v := ?v413) ?hi413 (by kernel_rfl) (by kernel_rfl) (by kernel_rfl) ?hQ413 (Or.inl ⟨?hw413, ?hy413⟩) (by assumption) ?rest413
    case hi413 => simp only [List.getElem?_toArray, List.getElem?_cons_succ, List.getElem?_cons_zero]; rfl
    case hQ413 => exact fun _ _ _ h => h
    case hw413 => rfl
    case hy413 => (intro W hW; have c0 := hW.c 0 (by rw [HCS.out]; rfl); have c2 := hW.c 2 (by rw [HCS.out]; rfl); go_simp; all_goals rfl)
    simp only [Act.put, List.setIfInBounds_toArray, List.set_cons_zero, List.set_cons_succ]
    refine wpAnyH_take (i := 13) (oi := ?oi414) (v := ?v414) ?hi414 (by kernel_rfl) (by kernel_rfl) (by kernel_rfl) ?hQ414 (Or.inl ⟨?hw414, ?hy414⟩) (by assumption) ?rest414
    case hi414 => simp only [List.getElem?_toArray, List.getElem?_cons_succ, List.getElem?_cons_zero]; rfl
    case hQ414 => exact fun _ _ _ h => h
    case hw414 => rfl
    case hy414 => (intro W hW; have c0 := hW.c 0 (by rw [HCS.out]; rfl); have c2 := hW.c 2 (by rw [HCS.out]; rfl); go_simp; all_goals rfl)
    simp only [Act.put, List.setIfInBounds_toArray, List.set_cons_zero, List.set_cons_succ]
    refine wpAnyH_take (i := 14) (oi := ?oi415) (v := ?v415) ?hi415 (by kernel_rfl) (by kernel_rfl) (by kernel_rfl) ?hQ415 (Or.inl ⟨?hw415, ?hy415⟩) (by assumption) ?rest415
    case hi415 => simp only [List.getElem?_toArray, List.getElem?_cons_succ, List.getElem?_cons_zero]; rfl
    case hQ415 => exact fun _ _ _ h => h
    case hw415 => rfl
    case hy415 => (intro W hW; have c0 := hW.c 0 (by rw [HCS.out]; rfl); have c2 := hW.c 2 (by rw [HCS.out]; rfl); go_simp; all_goals rfl)
    simp only [Act.put, List.setIfInBounds_toArray, List.set_cons_zero, List.set_cons_succ]
    refine wpAnyH_take (i := 15) (oi := ?oi416) (v := ?v416) ?hi416 (by kernel_rfl) (by kernel_rfl) (by kernel_rfl) ?hQ416 (Or.inl ⟨?hw416, ?hy416⟩) (by assumption) ?rest416
    case hi416 => simp only [List.getElem?_toArray, List.getElem?_cons_succ, List.getElem?_cons_zero]; rfl
    case hQ416 => exact fun _ _ _ h => h
    case hw416 => rfl
    case hy416 => (intro W hW; have c0 := hW.c 0 (by rw [HCS.out]; rfl); have c2 := hW.c 2 (by rw [HCS.out]; rfl); go_simp; all_goals rfl)
    simp only [Act.put, List.setIfInBounds_toArray, List.set_cons_zero, List.set_cons_succ]
    refine wpAnyH_take (i := 16) (oi := ?oi417) (v := ?v417) ?hi417 (by kernel_rfl) (by kernel_rfl) (by kernel_rfl) ?hQ417 (Or.inl ⟨?hw417, ?hy417⟩) (by assumption) ?rest417
    case hi417 => simp only [List.getElem?_toArray, List.getElem?_cons_succ, List.getElem?_cons_zero]; rfl
    case hQ417 => exact fun _ _ _ h => h
    case hw417 => rfl
    case hy417 => (intro W hW; have c0 := hW.c 0 (by rw [HCS.out]; rfl); have c2 := hW.c 2 (by rw [HCS.out]; rfl); go_simp; all_goals rfl)
    simp only [Act.put, List.setIfInBounds_toArray, List.set_cons_zero, List.set_cons_succ]
    refine wpAnyH_take (i := 17) (oi := ?oi418) (v := ?v418) ?hi418 (by kernel_rfl) (by kernel_rfl) (by kernel_rfl) ?hQ418 (Or.inl ⟨?hw418, ?hy418⟩) (by assumption) ?rest418
    case hi418 => simp only [List.getElem?_toArray, List.getElem?_cons_succ, List.getElem?_cons_zero]; rfl
    case hQ418 => exact fun _ _ _ h => h
    case hw418 => rfl
    case hy418 => (intro W hW; have c0 := hW.c 0 (by rw [HCS.out]; rfl); have c2 := hW.c 2 (by rw [HCS.out]; rfl); go_simp; all_goals rfl)
    simp only [Act.put, List.setIfInBounds_toArray, List.set_cons_zero, List.set_cons_succ]
    refine wpAnyH_take (i := 18) (oi := ?oi419) (v := ?v419) ?hi419 (by kernel_rfl) (by kernel_rfl) (by kernel_rfl) ?hQ419 (Or.inl ⟨?hw419, ?hy419⟩) (by assumption) ?rest419
    case hi419 => simp only [List.getElem?_toArray, List.getElem?_cons_succ, List.getElem?_cons_zero]; rfl
    case hQ419 => exact fun _ _ _ h => h
    case hw419 => rfl
    case hy419 => (intro W hW; have c0 := hW.c 0 (by rw [HCS.out]; rfl); have c2 := hW.c 2 (by rw [HCS.out]; rfl); go_simp; all_goals rfl)
    simp only [Act.put, List.setIfInBounds_toArray, List.set_cons_zero, List.set_cons_succ]
    refine wpAnyH_take (i := 19) (oi := ?oi420) (v := ?v420) ?hi420 (by kernel_rfl) (by kernel_rfl) (by kernel_rfl) ?hQ420 (Or.inr ⟨?hw420, ?hv420⟩) (by assumption) ?rest420
    case hi420 => simp only [List.getElem?_toArray, List.getElem?_cons_succ, List.getElem?_cons_zero]; rfl
    case hQ420 => exact fun _ _ _ h => h
    case hw420 => rfl
    case hv420 => rfl
    simp only [Act.put, List.setIfInBounds_toArray, List.set_cons_zero, List.set_cons_succ]
    refine wpAnyH_take (i := 20) (oi := ?oi421) (v := ?v421) ?hi421 (by kernel_rfl) (by kernel_rfl) (by kernel_rfl) ?hQ421 (Or.inr ⟨?hw421, ?hv421⟩) (by assumption) ?rest421
    case hi421 => simp only [List.getElem?_toArray, List.getElem?_cons_succ, List.getElem?_cons_zero]; rfl
    case hQ421 => exact fun _ _ _ h => h
    case hw421 => rfl
    case hv421 => rfl
    simp only [Act.put, List.setIfInBounds_toArray, List.set_cons_zero, List.set_cons_succ]
    refine wpAnyH_take (i := 21) (oi := ?oi422) (v := ?v422) ?hi422 (by kernel_rfl) (by kernel_rfl) (by kernel_rfl) ?hQ422 (Or.inr ⟨?hw422, ?hv422⟩) (by assumption) ?rest422
    case hi422 => simp only [List.getElem?_toArray, List.getElem?_cons_succ, List.getElem?_cons_zero]; rfl
    case hQ422 => exact fun _ _ _ h => h
    case hw422 => rfl
    case hv422 => rfl
    simp only [Act.put, List.setIfInBounds_toArray, List.set_cons_zero, List.set_cons_succ]
    refine wpAnyH_take (i := 22) (oi := ?oi423) (v := ?v423) ?hi423 (by kernel_rfl) (by kernel_rfl) (by kernel_rfl) ?hQ423 (Or.inr ⟨?hw423, ?hv423⟩) (by assumption) ?rest423
    case hi423 => simp only [List.getElem?_toArray, List.getElem?_cons_succ, List.getElem?_cons_zero]; rfl
    case hQ423 => exact fun _ _ _ h => h
    case hw423 => rfl
    case hv423 => rfl
    simp only [Act.put, List.setIfInBounds_toArray, List.set_cons_zero, List.set_cons_succ]
    refine wpAnyH_take (i := 23) (oi := ?oi424) (v := ?v424) ?hi424 (by kernel_rfl) (by kernel_rfl) (by kernel_rfl) ?hQ424 (Or.inr ⟨?hw424, ?hv424⟩) (by assumption) ?rest424
    case hi424 => simp only [List.getElem?_toArray, List.getElem?_cons_succ, List.getElem?_cons_zero]; rfl
    case hQ424 => exact fun _ _ _ h => h
    case hw424 => rfl
    case hv424 => rfl
    simp only [Act.put, List.setIfInBounds_toArray, List.set_cons_zero, List.set_cons_succ]
    refine wpAnyH_take (i := 24) (oi := ?oi425) (v := ?v425) ?hi425 (by kernel_rfl) (by kernel_rfl) (by kernel_rfl) ?hQ425 (Or.inl ⟨?hw425, ?hy425⟩) (by assumption) ?rest425
    case hi425 => simp only [List.getElem?_toArray, List.getElem?_cons_succ, List.getElem?_cons_zero]; rfl
    case hQ425 => exact fun _ _ _ h => h
    case hw425 => rfl
    case hy425 => (intro W hW; have c0 := hW.c 0 (by rw [HCS.out]; rfl); have c2 := hW.c 2 (by rw [HCS.out]; rfl); go_simp; all_goals rfl)
    simp only [Act.put, List.setIfInBounds_toArray, List.set_cons_zero, List.set_cons_succ]
    refine wpAnyH_done (by kernel_rfl) ?_ _
    have HB := Hd.mk hHeld.bel
    clear hHeld
    go_wp2_with fail
    go_ret2
    exact TellPost.bad (fun h => by rw [HAn.out] at h; obtain ⟨x1, x2, x3, x4, _⟩ := h; simp only at x1 x2 x3 x4; omega) HB.out
  have HKC : Hd (1 ≤ k ∧ k ≤ 8 ∧ 0 ≤ code ∧ code ≤ 2147483647) := ⟨by omega⟩
  refine wp_region_held_drew (S := fun W => DS w W g xs0) (by kernel_rfl) (H0.out.step (Below.refl _ _).drew) (fun hHeld => ?_)
  refine wpAnyH_take (i := 0) (oi := ?oi501) (v := ?v501) ?hi501 (by kernel_rfl) (by kernel_rfl) (by kernel_rfl) ?hQ501 (Or.inl ⟨?hw501, ?hy501⟩) (by assumption) ?rest501
  case hi501 => simp only [List.getElem?_toArray, List.getElem?_cons_succ, List.getElem?_cons_zero]; rfl
  case hQ501 => exact fun _ _ _ h => h
  case hw501 => rfl
  case hy501 => (intro W hW; have c0 := hW.c 0 (by rw [HCS.out]; rfl); have c2 := hW.c 2 (by rw [HCS.out]; rfl); go_simp; all_goals rfl)
  simp only [Act.put, List.setIfInBounds_toArray, List.set_cons_zero, List.set_cons_succ]
  refine wpAnyH_take (i := 1) (oi := ?oi502) (v := ?v502) ?hi502 (by kernel_rfl) (by kernel_rfl) (by kernel_rfl) ?hQ502 (Or.inl ⟨?hw502, ?hy502⟩) (by assumption) ?rest502
  case hi502 => simp only [List.getElem?_toArray, List.getElem?_cons_succ, List.getElem?_cons_zero]; rfl
  case hQ502 => exact fun _ _ _ h => h
  case hw502 => rfl
  case hy502 => (intro W hW; have c0 := hW.c 0 (by rw [HCS.out]; rfl); have c2 := hW.c 2 (by rw [HCS.out]; rfl); go_simp; all_goals rfl)
  simp only [Act.put, List.setIfInBounds_toArray, List.set_cons_zero, List.set_cons_succ]
  refine wpAnyH_take (i := 2) (oi := ?oi503) (v := ?v503) ?hi503 (by kernel_rfl) (by kernel_rfl) (by kernel_rfl) ?hQ503 (Or.inl ⟨?hw503, ?hy503⟩) (by assumption) ?rest503
  case hi503 => simp only [List.getElem?_toArray, List.getElem?_cons_succ, List.getElem?_cons_zero]; rfl
  case hQ503 => exact fun _ _ _ h => h
  case hw503 => rfl
  case hy503 => (intro W hW; have c0 := hW.c 0 (by rw [HCS.out]; rfl); have c2 := hW.c 2 (by rw [HCS.out]; rfl); go_simp; all_goals rfl)
  simp only [Act.put, List.setIfInBounds_toArray, List.set_cons_zero, List.set_cons_succ]
  refine wpAnyH_take (i := 3) (oi := ?oi504) (v := ?v504) ?hi504 (by kernel_rfl) (by kernel_rfl) (by kernel_rfl) ?hQ504 (Or.inl ⟨?hw504, ?hy504⟩) (by assumption) ?rest504
  case hi504 => simp only [List.getElem?_toArray, List.getElem?_cons_succ, List.getElem?_cons_zero]; rfl
  case hQ504 => exact fun _ _ _ h => h
  case hw504 => rfl
  case hy504 => (intro W hW; have c0 := hW.c 0 (by rw [HCS.out]; rfl); have c2 := hW.c 2 (by rw [HCS.out]; rfl); go_simp; all_goals rfl)
  simp only [Act.put, List.setIfInBounds_toArray, List.set_cons_zero, List.set_cons_succ]
  refine wpAnyH_take (i := 4) (oi := ?oi505) (v := ?v505) ?hi505 (by kernel_rfl) (by kernel_rfl) (by kernel_rfl) ?hQ505 (Or.inl ⟨?hw505, ?hy505⟩) (by assumption) ?rest505
  case hi505 => simp only [List.getElem?_toArray, List.getElem?_cons_succ, List.getElem?_cons_zero]; rfl
  case hQ505 => exact fun _ _ _ h => h
  case hw505 => rfl
  case hy505 => (intro W hW; have c0 := hW.c 0 (by rw [HCS.out]; rfl); have c2 := hW.c 2 (by rw [HCS.out]; rfl); go_simp; all_goals rfl)
  simp only [Act.put, List.setIfInBounds_toArray, List.set_cons_zero, List.set_cons_succ]
  refine wpAnyH_take (i := 5) (oi := ?oi506) (v := ?v506) ?hi506 (by kernel_rfl) (by kernel_rfl) (by kernel_rfl) ?hQ506 (Or.inl ⟨?hw506, ?hy506⟩) (by assumption) ?rest506
  case hi506 => simp only [List.getElem?_toArray, List.getElem?_cons_succ, List.getElem?_cons_zero]; rfl
  case hQ506 => exact fun _ _ _ h => h
  case hw506 => rfl
  case hy506 => (intro W hW; have c0 := hW.c 0 (by rw [HCS.out]; rfl); have c2 := hW.c 2 (by rw [HCS.out]; rfl); go_simp; all_goals rfl)
  simp only [Act.put, List.setIfInBounds_toArray, List.set_cons_zero, List.set_cons_succ]
  refine wpAnyH_take (i := 6) (oi := ?oi507) (v := ?v507) ?hi507 (by kernel_rfl) (by kernel_rfl) (by kernel_rfl) ?hQ507 (Or.inl ⟨?hw507, ?hy507⟩) (by assumption) ?rest507
  case hi507 => simp only [List.getElem?_toArray, List.getElem?_cons_succ, List.getElem?_cons_zero]; rfl
  case hQ507 => exact fun _ _ _ h => h
  case hw507 => rfl
  case hy507 => (intro W hW; have c0 := hW.c 0 (by rw [HCS.out]; rfl); have c2 := hW.c 2 (by rw [HCS.out]; rfl); go_simp; all_goals rfl)
  simp only [Act.put, List.setIfInBounds_toArray, List.set_cons_zero, List.set_cons_succ]
  refine wpAnyH_take (i := 7) (oi := ?oi508) (v := ?v508) ?hi508 (by kernel_rfl) (by kernel_rfl) (by kernel_rfl) ?hQ508 (Or.inl ⟨?hw508, ?hy508⟩) (by assumption) ?rest508
  case hi508 => simp only [List.getElem?_toArray, List.getElem?_cons_succ, List.getElem?_cons_zero]; rfl
  case hQ508 => exact fun _ _ _ h => h
  case hw508 => rfl
  case hy508 => (intro W hW; have c0 := hW.c 0 (by rw [HCS.out]; rfl); have c2 := hW.c 2 (by rw [HCS.out]; rfl); go_simp; all_goals rfl)
  simp only [Act.put, List.setIfInBounds_toArray, List.set_cons_zero, List.set_cons_succ]
  refine wpAnyH_take (i := 8) (oi := ?oi509) (v := ?v509) ?hi509 (by kernel_rfl) (by kernel_rfl) (by kernel_rfl) ?hQ509 (Or.inl ⟨?hw509, ?hy509⟩) (by assumption) ?rest509
  case hi509 => simp only [List.getElem?_toArray, List.getElem?_cons_succ, List.getElem?_cons_zero]; rfl
  case hQ509 => exact fun _ _ _ h => h
  case hw509 => rfl
  case hy509 => (intro W hW; have c0 := hW.c 0 (by rw [HCS.out]; rfl); have c2 := hW.c 2 (by rw [HCS.out]; rfl); go_simp; all_goals rfl)
  simp only [Act.put, List.setIfInBounds_toArray, List.set_cons_zero, List.set_cons_succ]
  refine wpAnyH_take (i := 9) (oi := ?oi510) (v := ?v510) ?hi510 (by kernel_rfl) (by kernel_rfl) (by kernel_rfl) ?hQ510 (Or.inl ⟨?hw510, ?hy510⟩) (by assumption) ?rest510
  case hi510 => simp only [List.getElem?_toArray, List.getElem?_cons_succ, List.getElem?_cons_zero]; rfl
  case hQ510 => exact fun _ _ _ h => h
  case hw510 => rfl
  case hy510 => (intro W hW; have c0 := hW.c 0 (by rw [HCS.out]; rfl); have c2 := hW.c 2 (by rw [HCS.out]; rfl); go_simp; all_goals rfl)
  simp only [Act.put, List.setIfInBounds_toArray, List.set_cons_zero, List.set_cons_succ]
  refine wpAnyH_take (i := 10) (oi := ?oi511) (v := ?v511) ?hi511 (by kernel_rfl) (by kernel_rfl) (by kernel_rfl) ?hQ511 (Or.inl ⟨?hw511, ?hy511⟩) (by assumption) ?rest511
  case hi511 => simp only [List.getElem?_toArray, List.getElem?_cons_succ, List.getElem?_cons_zero]; rfl
  case hQ511 => exact fun _ _ _ h => h
  case hw511 => rfl
  case hy511 => (intro W hW; have c0 := hW.c 0 (by rw [HCS.out]; rfl); have c2 := hW.c 2 (by rw [HCS.out]; rfl); go_simp; all_goals rfl)
  simp only [Act.put, List.setIfInBounds_toArray, List.set_cons_zero, List.set_cons_succ]
  refine wpAnyH_take (i := 11) (oi := ?oi512) (v := ?v512) ?hi512 (by kernel_rfl) (by kernel_rfl) (by kernel_rfl) ?hQ512 (Or.inl ⟨?hw512, ?hy512⟩) (by assumption) ?rest512
  case hi512 => simp only [List.getElem?_toArray, List.getElem?_cons_succ, List.getElem?_cons_zero]; rfl
  case hQ512 => exact fun _ _ _ h => h
  case hw512 => rfl
  case hy512 => (intro W hW; have c0 := hW.c 0 (by rw [HCS.out]; rfl); have c2 := hW.c 2 (by rw [HCS.out]; rfl); go_simp; all_goals rfl)
  simp only [Act.put, List.setIfInBounds_toArray, List.set_cons_zero, List.set_cons_succ]
  refine wpAnyH_take (i := 12) (oi := ?oi513) (v := ?v513) ?hi513 (by kernel_rfl) (by kernel_rfl) (by kernel_rfl) ?hQ513 (Or.inl ⟨?hw513, ?hy513⟩) (by assumption) ?rest513
  case hi513 => simp only [List.getElem?_toArray, List.getElem?_cons_succ, List.getElem?_cons_zero]; rfl
  case hQ513 => exact fun _ _ _ h => h
  case hw513 => rfl
  case hy513 => (intro W hW; have c0 := hW.c 0 (by rw [HCS.out]; rfl); have c2 := hW.c 2 (by rw [HCS.out]; rfl); go_simp; all_goals rfl)
  simp only [Act.put, List.setIfInBounds_toArray, List.set_cons_zero, List.set_cons_succ]
  refine wpAnyH_take (i := 13) (oi := ?oi514) (v := ?v514) ?hi514 (by kernel_rfl) (by kernel_rfl) (by kernel_rfl) ?hQ514 (Or.inl ⟨?hw514, ?hy514⟩) (by assumption) ?rest514
  case hi514 => simp only [List.getElem?_toArray, List.getElem?_cons_succ, List.getElem?_cons_zero]; rfl
  case hQ514 => exact fun _ _ _ h => h
  case hw514 => rfl
  case hy514 => (intro W hW; have c0 := hW.c 0 (by rw [HCS.out]; rfl); have c2 := hW.c 2 (by rw [HCS.out]; rfl); go_simp; all_goals rfl)
  simp only [Act.put, List.setIfInBounds_toArray, List.set_cons_zero, List.set_cons_succ]
  refine wpAnyH_take (i := 14) (oi := ?oi515) (v := ?v515) ?hi515 (by kernel_rfl) (by kernel_rfl) (by kernel_rfl) ?hQ515 (Or.inl ⟨?hw515, ?hy515⟩) (by assumption) ?rest515
  case hi515 => simp only [List.getElem?_toArray, List.getElem?_cons_succ, List.getElem?_cons_zero]; rfl
  case hQ515 => exact fun _ _ _ h => h
  case hw515 => rfl
  case hy515 => (intro W hW; have c0 := hW.c 0 (by rw [HCS.out]; rfl); have c2 := hW.c 2 (by rw [HCS.out]; rfl); go_simp; all_goals rfl)
  simp only [Act.put, List.setIfInBounds_toArray, List.set_cons_zero, List.set_cons_succ]
  refine wpAnyH_take (i := 15) (oi := ?oi516) (v := ?v516) ?hi516 (by kernel_rfl) (by kernel_rfl) (by kernel_rfl) ?hQ516 (Or.inl ⟨?hw516, ?hy516⟩) (by assumption) ?rest516
  case hi516 => simp only [List.getElem?_toArray, List.getElem?_cons_succ, List.getElem?_cons_zero]; rfl
  case hQ516 => exact fun _ _ _ h => h
  case hw516 => rfl
  case hy516 => (intro W hW; have c0 := hW.c 0 (by rw [HCS.out]; rfl); have c2 := hW.c 2 (by rw [HCS.out]; rfl); go_simp; all_goals rfl)
  simp only [Act.put, List.setIfInBounds_toArray, List.set_cons_zero, List.set_cons_succ]
  refine wpAnyH_take (i := 16) (oi := ?oi517) (v := ?v517) ?hi517 (by kernel_rfl) (by kernel_rfl) (by kernel_rfl) ?hQ517 (Or.inl ⟨?hw517, ?hy517⟩) (by assumption) ?rest517
  case hi517 => simp only [List.getElem?_toArray, List.getElem?_cons_succ, List.getElem?_cons_zero]; rfl
  case hQ517 => exact fun _ _ _ h => h
  case hw517 => rfl
  case hy517 => (intro W hW; have c0 := hW.c 0 (by rw [HCS.out]; rfl); have c2 := hW.c 2 (by rw [HCS.out]; rfl); go_simp; all_goals rfl)
  simp only [Act.put, List.setIfInBounds_toArray, List.set_cons_zero, List.set_cons_succ]
  refine wpAnyH_take (i := 17) (oi := ?oi518) (v := ?v518) ?hi518 (by kernel_rfl) (by kernel_rfl) (by kernel_rfl) ?hQ518 (Or.inl ⟨?hw518, ?hy518⟩) (by assumption) ?rest518
  case hi518 => simp only [List.getElem?_toArray, List.getElem?_cons_succ, List.getElem?_cons_zero]; rfl
  case hQ518 => exact fun _ _ _ h => h
  case hw518 => rfl
  case hy518 => (intro W hW; have c0 := hW.c 0 (by rw [HCS.out]; rfl); have c2 := hW.c 2 (by rw [HCS.out]; rfl); go_simp; all_goals rfl)
  simp only [Act.put, List.setIfInBounds_toArray, List.set_cons_zero, List.set_cons_succ]
  refine wpAnyH_take (i := 18) (oi := ?oi519) (v := ?v519) ?hi519 (by kernel_rfl) (by kernel_rfl) (by kernel_rfl) ?hQ519 (Or.inl ⟨?hw519, ?hy519⟩) (by assumption) ?rest519
  case hi519 => simp only [List.getElem?_toArray, List.getElem?_cons_succ, List.getElem?_cons_zero]; rfl
  case hQ519 => exact fun _ _ _ h => h
  case hw519 => rfl
  case hy519 => (intro W hW; have c0 := hW.c 0 (by rw [HCS.out]; rfl); have c2 := hW.c 2 (by rw [HCS.out]; rfl); go_simp; all_goals rfl)
  simp only [Act.put, List.setIfInBounds_toArray, List.set_cons_zero, List.set_cons_succ]
  refine wpAnyH_take (i := 19) (oi := ?oiR1) (v := .agg #[.int .i64 k, .int .u64 (tag : Int), .int .i64 code, .slice A n c, .slice A2 n2 c2, .slice A3 n3 c3, .string next, .bool more, .int .i64 ge, .int .i64 gc, .int .i64 size, .int .i64 h1, .int .i64 h2, .int .i64 h3, .int .i64 h4]) ?hiR1 (by kernel_rfl) (by kernel_rfl) (by kernel_rfl) ?hQR1 ?hyR1 (by assumption) ?restR1
  case hiR1 => simp only [List.getElem?_toArray, List.getElem?_cons_succ, List.getElem?_cons_zero]; rfl
  case hQR1 => exact fun _ _ _ h => h
  case hyR1 => exact yieldsIf_load_mid rfl 43 (.tmp 1) rfl g 0 rfl [.int .i64 k, .int .u64 (tag : Int), .int .i64 code, .slice A n c, .slice A2 n2 c2, .slice A3 n3 c3, .string next, .bool more, .int .i64 ge, .int .i64 gc, .int .i64 size, .int .i64 h1, .int .i64 h2, .int .i64 h3, .int .i64 h4] _ (fun W hW => hW.range HCS.out) Try.underlying43 rfl infoAn15
  simp only [Act.put, List.setIfInBounds_toArray, List.set_cons_zero, List.set_cons_succ]
  refine wpAnyH_take (i := 20) (oi := ?oiR2) (v := .agg #[.int .i64 k, .int .u64 (tag : Int), .int .i64 code, .slice A n c, .slice A2 n2 c2, .slice A3 n3 c3, .string next, .bool more, .int .i64 ge, .int .i64 gc, .int .i64 size, .int .i64 h1, .int .i64 h2, .int .i64 h3, .int .i64 h4]) ?hiR2 (by kernel_rfl) (by kernel_rfl) (by kernel_rfl) ?hQR2 ?hyR2 (by assumption) ?restR2
  case hiR2 => simp only [List.getElem?_toArray, List.getElem?_cons_succ, List.getElem?_cons_zero]; rfl
  case hQR2 => exact fun _ _ _ h => h
  case hyR2 => exact yieldsIf_load_mid rfl 43 (.tmp 1) rfl g 0 rfl [.int .i64 k, .int .u64 (tag : Int), .int .i64 code, .slice A n c, .slice A2 n2 c2, .slice A3 n3 c3, .string next, .bool more, .int .i64 ge, .int .i64 gc, .int .i64 size, .int .i64 h1, .int .i64 h2, .int .i64 h3, .int .i64 h4] _ (fun W hW => hW.range HCS.out) Try.underlying43 rfl infoAn15
  simp only [Act.put, List.setIfInBounds_toArray, List.set_cons_zero, List.set_cons_succ]
  refine wpAnyH_ready (rs := [21]) (by kernel_rfl) (by simp) ?_
  refine AllReadyH.cons (i := 21) (o := ?o520) ?ho520 (fun Kq hK => ?step520) AllReadyH.nil
  case ho520 => simp only [List.getElem?_toArray, List.getElem?_cons_succ, List.getElem?_cons_zero]; rfl
  go_simp
  (go_at_call 62; refine (onlyAn_any0 _ a k code ge gc size h1 h2 h3 h4 tag body keys groups next more HAn.out A A2 A3 n c n2 c2 n3 c3 HKC.out.1 HKC.out.2.1).mono ?_; rintro e wa ⟨B1, B2, B3, m, d, m2, d2, m3, d3, rfl, y1, y2, y3, hb⟩)
  have HO := Hd.mk (And.intro y1 (And.intro y2 y3))
  have hF := hHeld.step hb
  refine hK.out _ _ hF (fun _ => ?_)
  clear hK Kq hHeld hb y1 y2 y3
  have hHeld := hF
  clear hF
  try simp only [Act.put, List.setIfInBounds_toArray, List.set_cons_zero, List.set_cons_succ]
  have HRO : Hd (Rd wa wa.heap.size A n (cb body) ∧ Rd wa wa.heap.size A2 n2 (cs keys) ∧ Rd wa wa.heap.size A3 n3 (cs groups) ∧ Rd wa wa.heap.size B1 m (cb (onlyAn a).body) ∧ Rd wa wa.heap.size B2 m2 (cs (onlyAn a).keys) ∧ Rd wa wa.heap.size B3 m3 (cs (onlyAn a).groups)) := ⟨by
    have r1 := ((HH.out.1.below hHeld.bel).more hHeld.bel.size)
    have r2 := ((HH.out.2.1.below hHeld.bel).more hHeld.bel.size)
    have r3 := ((HH.out.2.2.1.below hHeld.bel).more hHeld.bel.size)
    have eb : a.body = body := by rw [HAn.out]
    have ek : a.keys = keys := by rw [HAn.out]
    have eg : a.groups = groups := by rw [HAn.out]
    refine ⟨r1, r2, r3, ?_, ?_, ?_⟩
    · rcases HO.out.1 with ⟨h, rfl, rfl, rfl⟩ | ⟨h, rfl, rfl, rfl⟩
      · rw [h, eb]; exact r1
      · rw [h]; exact Rd.nil
    · rcases HO.out.2.1 with ⟨h, rfl, rfl, rfl⟩ | ⟨h, rfl, rfl, rfl⟩
      · rw [h, ek]; exact r2
      · rw [h]; exact Rd.nil
    · rcases HO.out.2.2 with ⟨h, rfl, rfl, rfl⟩ | ⟨h, rfl, rfl, rfl⟩
      · rw [h, eg]; exact r3
      · rw [h]; exact Rd.nil⟩
  have HKT : Hd ((onlyAn a).kind = k ∧ (onlyAn a).tag = tag ∧ (onlyAn a).code = code) := ⟨by rw [HAn.out]; exact ⟨rfl, rfl, rfl⟩⟩
  unfold anV
  rw [HKT.out.1, HKT.out.2.1, HKT.out.2.2]
  refine wpAnyH_ready (rs := [22]) (by kernel_rfl) (by simp) ?_
  refine AllReadyH.cons (i := 22) (o := ?o521) ?ho521 (fun Kq hK => ?step521) AllReadyH.nil
  case ho521 => simp only [List.getElem?_toArray, List.getElem?_cons_succ, List.getElem?_cons_zero]; rfl
  go_simp
  (go_at_call 61; refine (sameAn_any0 wa wa.heap.size a (onlyAn a) k code tag body (onlyAn a).body keys (onlyAn a).keys groups (onlyAn a).groups next (onlyAn a).next more (onlyAn a).more ge gc size h1 h2 h3 h4 (onlyAn a).ge (onlyAn a).gc (onlyAn a).size (onlyAn a).h1 (onlyAn a).h2 (onlyAn a).h3 (onlyAn a).h4 HAn.out (by rw [← HKT.out.1, ← HKT.out.2.1, ← HKT.out.2.2]) A B1 A2 B2 A3 B3 n c m d n2 c2 m2 d2 n3 c3 m3 d3 HRO.out.1 HRO.out.2.2.2.1 HRO.out.2.1 HRO.out.2.2.2.2.1 HRO.out.2.2.1 HRO.out.2.2.2.2.2 (Nat.le_refl _) (by have := HH.out.2.2.2.1.b; rw [HAn.out] at this; exact this) (by have := HH.out.2.2.2.1.b; rw [HAn.out] at this; rw [HAn.out]; intro x hx; unfold onlyAn at hx; simp only at hx; split at hx; exact this x hx; cases hx) HN.out.1 HN.out.2).mono ?_; rintro e wb ⟨rfl, hb⟩)
  have hF := hHeld.step hb
  refine hK.out _ _ hF (fun _ => ?_)
  clear hK Kq hHeld hb HRO HO HKT
  have hHeld := hF
  clear hF
  try simp only [Act.put, List.setIfInBounds_toArray, List.set_cons_zero, List.set_cons_succ]
  refine wpAnyH_take (i := 23) (oi := ?oi522) (v := ?v522) ?hi522 (by kernel_rfl) (by kernel_rfl) (by kernel_rfl) ?hQ522 (Or.inl ⟨?hw522, ?hy522⟩) (by assumption) ?rest522
  case hi522 => simp only [List.getElem?_toArray, List.getElem?_cons_succ, List.getElem?_cons_zero]; rfl
  case hQ522 => exact fun _ _ _ h => h
  case hw522 => rfl
  case hy522 => (intro W hW; have c0 := hW.c 0 (by rw [HCS.out]; rfl); have c2 := hW.c 2 (by rw [HCS.out]; rfl); go_simp; all_goals rfl)
  simp only [Act.put, List.setIfInBounds_toArray, List.set_cons_zero, List.set_cons_succ]
  refine wpAnyH_take (i := 24) (oi := ?oi523) (v := ?v523) ?hi523 (by kernel_rfl) (by kernel_rfl) (by kernel_rfl) ?hQ523 (Or.inl ⟨?hw523, ?hy523⟩) (by assumption) ?rest523
  case hi523 => simp only [List.getElem?_toArray, List.getElem?_cons_succ, List.getElem?_cons_zero]; rfl
  case hQ523 => exact fun _ _ _ h => h
  case hw523 => rfl
  case hy523 => (intro W hW; have c0 := hW.c 0 (by rw [HCS.out]; rfl); have c2 := hW.c 2 (by rw [HCS.out]; rfl); go_simp; all_goals rfl)
  simp only [Act.put, List.setIfInBounds_toArray, List.set_cons_zero, List.set_cons_succ]
  refine wpAnyH_done (by kernel_rfl) ?_ _
  have HC := Hd.mk hHeld
  clear hHeld
  obtain ⟨sb2, hsb⟩ : ∃ b, sameAB a (onlyAn a) = b := ⟨_, rfl⟩
  have HSB := Hd.mk hsb
  rw [hsb]
  clear hsb
  rcases hB : sb2 with _ | _
  · subst hB
    have hok : ¬ anOk a := fun h => by
      have := HSB.out
      unfold sameAB at this
      rw [@decide_eq_false_iff_not _ (Classical.propDecidable _)] at this
      exact this ((anOk_iff a).1 h).2
    have HOK := Hd.mk hok
    clear hok
    go_wp2_with fail
    go_ret2
    exact TellPost.bad HOK.out HC.out.bel
  subst hB
  have HYES : Hd (anOk a) := ⟨by
    have := HSB.out
    unfold sameAB at this
    rw [@decide_eq_true_iff _ (Classical.propDecidable _)] at this
    exact (anOk_iff a).2 ⟨by rw [HAn.out]; exact HKC.out, this⟩⟩
  obtain ⟨kn, hkn⟩ : ∃ q : Nat, k = (q : Int) := ⟨k.toNat, by have := HKC.out; omega⟩
  obtain ⟨cn, hcn⟩ : ∃ q : Nat, code = (q : Int) := ⟨code.toNat, by have := HKC.out; omega⟩
  subst hkn hcn
  clear q1 q2 q3 q4 HSB
  obtain ⟨M, hM⟩ : ∃ M : Nat, M = (if (kn : Int) = 6 then 65536 else 1000) := ⟨_, rfl⟩
  have HM := Hd.mk hM
  have hM2 : M ≤ 65536 := by rw [hM]; split <;> omega
  clear hM
  have d0 := HC.out.c 0 (by rw [HCS.out]; rfl)
  go_upto_if 32 with fail
  go_cut [4] from 30 (fun v wx => v = .int .i64 (M : Int) ∧ wx = wb)
  case first =>
    by_cases h6 : kn = 6
    · subst h6
      have hM : M = 65536 := HM.out
      subst hM
      go_wp2_with fail
      go_meet
      case rel => exact ⟨by first | rfl | go_num, rfl⟩
    · have h6i : ¬ (kn : Int) = 6 := by omega
      have hM : M = 1000 := by rw [HM.out, if_neg h6i]
      subst hM
      have h6b : ((kn : Int) == 6) = false := beq_eq_false_iff_ne.2 h6i
      go_wp2_with fail
      go_meet
      case rel => exact ⟨by first | rfl | go_num, rfl⟩
  case rest =>
    obtain ⟨rfl, hwc⟩ := hcut
    subst hwc
    clear d0
    have d3 := HC.out.c 3 (by rw [HCS.out]; rfl)
    have d4 := HC.out.c 4 (by rw [HCS.out]; rfl)
    have d5 := HC.out.c 5 (by rw [HCS.out]; rfl)
    have d6 := HC.out.c 6 (by rw [HCS.out]; rfl)
    by_cases f1 : n ≤ 1048576
    case neg =>
      have m1 : (1048576 : Int) < (n : Int) := by omega
      go_wp2_with fail
      go_ret2
      exact TellPost.big HYES.out (fun h => by rw [HAn.out] at h; have := h.1; rw [HH.out.2.2.2.2] at this; exact f1 this) HC.out.bel
    have m1 : ¬ (1048576 : Int) < (n : Int) := by omega
    have HR2 : Hd (∀ W, DS w W g xs0 → Rd W W.heap.size A n (cb body) ∧ Rd W W.heap.size A2 n2 (cs keys) ∧ Rd W W.heap.size A3 n3 (cs groups)) := ⟨fun W h => ⟨(HH.out.1.below h.bel).more h.bel.size, (HH.out.2.1.below h.bel).more h.bel.size, (HH.out.2.2.1.below h.bel).more h.bel.size⟩⟩
    obtain ⟨b2, hb2⟩ : ∃ b, @decide (shortL keys M) (Classical.propDecidable _) = b := ⟨_, rfl⟩
    obtain ⟨b3, hb3⟩ : ∃ b, @decide (shortL groups 1000) (Classical.propDecidable _) = b := ⟨_, rfl⟩
    have HB2 := Hd.mk hb2
    have HB3 := Hd.mk hb3
    clear hb2 hb3
    go_upto_region 6 with fail
    go_wp2_with fail
    refine (brief_any wc A2 n2 c2 wc.heap.size M keys (HR2.out wc HC.out).2.1 HN.out.1).mono ?_
    rw [HB2.out]
    rintro e w2 ⟨rfl, hw2⟩
    subst hw2
    rcases hB : b2 with _ | _
    · subst hB
      go_wp2_with fail
      go_ret2
      exact TellPost.big HYES.out (fun h => by rw [HAn.out] at h; have := h.2.1; rw [← HM.out] at this; exact absurd this (@of_decide_eq_false _ (Classical.propDecidable _) HB2.out)) HC.out.bel
    subst hB
    go_wp2_with fail
    refine (brief_any w2 A3 n3 c3 w2.heap.size 1000 groups (HR2.out w2 HC.out).2.2 HN.out.2).mono ?_
    rw [HB3.out]
    rintro e w2 ⟨rfl, hw2⟩
    subst hw2
    rcases hB : b3 with _ | _
    · subst hB
      go_wp2_with fail
      go_ret2
      exact TellPost.big HYES.out (fun h => by rw [HAn.out] at h; exact absurd h.2.2.1 (@of_decide_eq_false _ (Classical.propDecidable _) HB3.out)) HC.out.bel
    subst hB
    by_cases f4 : next.size ≤ 255
    case neg =>
      have m4 : (255 : Int) < (next.size : Int) := by omega
      go_wp2_with fail
      go_ret2
      exact TellPost.big HYES.out (fun h => by rw [HAn.out] at h; exact f4 h.2.2.2) HC.out.bel
    have m4 : ¬ (255 : Int) < (next.size : Int) := by omega
    have HF : Hd (anFit a) := ⟨by rw [HAn.out]; exact ⟨by rw [HH.out.2.2.2.2]; exact f1, by have := @of_decide_eq_true _ (Classical.propDecidable _) HB2.out; rw [HM.out] at this; exact this, @of_decide_eq_true _ (Classical.propDecidable _) HB3.out, f4⟩⟩
    have hrow : w2.heap[g]? = some (.cells #[.int .i64 (kn : Int), .int .u64 (tag : Int), .int .i64 (cn : Int), .slice A n c, .slice A2 n2 c2, .slice A3 n3 c3, .string next, .bool more, .int .i64 ge, .int .i64 gc, .int .i64 size, .int .i64 h1, .int .i64 h2, .int .i64 h3, .int .i64 h4] 43) := by have := HC.out.rq; rw [HCS.out] at this; exact this
    clear d3 d4 d5
    go_upto_region 8 with fail
    clear d6
    go_wp2_with (refine at_load ?_; refine wpList_load_row rfl 43 (.tmp 1) rfl g rfl 43 #[.int .i64 (kn : Int), .int .u64 (tag : Int), .int .i64 (cn : Int), .slice A n c, .slice A2 n2 c2, .slice A3 n3 c3, .string next, .bool more, .int .i64 ge, .int .i64 gc, .int .i64 size, .int .i64 h1, .int .i64 h2, .int .i64 h3, .int .i64 h4] (0, 0) _ hrow Try.underlying43 rfl infoAn15 ?_)
    refine (contentAn_any0 w2 a kn cn tag body keys groups next more ge gc size h1 h2 h3 h4 HAn.out A A2 A3 n c n2 c2 n3 c3 (HR2.out w2 HC.out).1 (HR2.out w2 HC.out).2.1 (HR2.out w2 HC.out).2.2 HH.out.2.2.2.1 HF.out (by have := HKC.out; omega) (by have := HKC.out; omega) (by have := HKC.out; omega)).mono ?_
    rintro e wd ⟨v, rfl, ho, hb⟩
    obtain ⟨Av, cv, hv, hvc, _⟩ := own_form ho
    subst hv
    have HO := Hd.mk (And.intro ho (And.intro hb hvc))
    clear ho hb hvc hrow
    obtain ⟨lv, hlv⟩ : ∃ lv, (anC a).length = lv := ⟨_, rfl⟩
    have hl2 : lv ≤ 33554432 := by rw [← hlv]; exact anC_lenT HF.out
    rw [hlv] at HO ⊢
    clear hlv
    go_wp2_with fail
    refine (refForm_any wd Av lv cv (anC a) (Rd.of_own HO.out.1) HO.out.2.2 (anC_ltT HYES.out HF.out HH.out.2.2.2.1) (by omega)).mono ?_
    rintro e wf ⟨vf, rfl, hO⟩
    have HOF := Hd.mk hO
    clear hO
    go_wp2_with fail
    go_ret2
    exact TellPost.good HYES.out HF.out rfl ⟨own_base HOF.out.own (HC.out.bel.trans (HO.out.2.1.mono HC.out.bel.size)).size, ⟨(HOF.out.2.1.os).trans ((HC.out.bel.trans (HO.out.2.1.mono HC.out.bel.size)).os), (HOF.out.2.1.tape).trans ((HC.out.bel.trans (HO.out.2.1.mono HC.out.bel.size)).tape), (HOF.out.2.1.output).trans ((HC.out.bel.trans (HO.out.2.1.mono HC.out.bel.size)).output), Nat.le_trans (HC.out.bel.trans (HO.out.2.1.mono HC.out.bel.size)).size HOF.out.size, fun k hk hne => (HOF.out.2.1.block k (Nat.lt_of_lt_of_le hk (HC.out.bel.trans (HO.out.2.1.mono HC.out.bel.size)).size) hne).trans ((HC.out.bel.trans (HO.out.2.1.mono HC.out.bel.size)).block k hk)⟩, fun k hk => by
      rcases HOF.out.2.2 k hk with h | h
      · exact .inl h
      · exact .inr (Nat.le_trans (HC.out.bel.trans (HO.out.2.1.mono HC.out.bel.size)).size h)⟩
end Go.Proofs.Ytbcmjjcbjojakaa
end
