/- Put together of: SaidP MemP Snap ApartP Bag MemS. -/
import Derived.Test.YtbcmjjcbjojakaaPk11
import Derived.Test.YtbcmjjcbjojakaaPk7
import Derived.Maps.AppendAt
import Derived.Test.YtbcmjjcbjojakaaPk4
import Derived.Test.YtbcmjjcbjojakaaPk2
section
namespace Go.Proofs.Ytbcmjjcbjojakaa
open Go.RowKit
set_option linter.unusedVariables false
theorem fmF_le : ∀ (f s : Nat) (c : List Nat), (fmF f s c).length ≤ 2 * c.length + 11
 | 0, s, c => by simp [fmF]
 | f + 1, s, c => by
  by_cases h : 0 < c.length
  ·rw [fmF_step f s c h, List.length_append, chk_len]
   by_cases h2 : c.length ≤ 16384
   ·have : c.drop (min c.length 16384) = [] := List.drop_of_length_le (by omega)
    rw [this, fmF_nil]; simp only [List.length_nil]; omega
   ·have := fmF_le f (Crc.more s (c.take (min c.length 16384))) (c.drop (min c.length 16384))
    rw [List.length_drop] at this; omega
  ·have : c = [] := List.eq_nil_of_length_eq_zero (by omega)
   subst this; rw [fmF_nil]; simp
theorem formP_le (c : List Nat) : (formP c).length ≤ 2 * c.length + 11 := fmF_le _ _ _
theorem uv_len2 (v : Nat) (h : v < 16384) : (uv v).length ≤ 2 := by
 unfold uv uvf
 split
 ·simp
 ·unfold uvf
  rw [if_pos (by omega)]; simp
theorem tx_le2 : ∀ (l : List ByteArray), (∀ t ∈ l, t.size ≤ 255) → (tx l).length ≤ 257 * l.length
 | [], _ => by simp [tx]
 | t :: l, h => by
  have h1 := tx_le2 l fun x hx => h x (List.mem_cons_of_mem _ hx)
  have h3 := h t (List.mem_cons_self ..)
  have h2 := uv_len2 t.size (by omega)
  unfold tx at h1 ⊢
  rw [List.flatMap_cons, List.length_append, List.length_append, sb_len, List.length_cons]
  omega
open Classical in
theorem anC_len {a : An} (h : anFit a) : (anC a).length ≤ 33554432 := by
 have gi : ∀ (p : Prop) [Decidable p] (l : List Nat) (m : Nat), l.length ≤ m → (if p then l else []).length ≤ m := fun p _ l m hl => by
  split
  ·exact hl
  ·simp
 obtain ⟨f1, f2, f3, f4⟩ := h
 have n2 : a.keys.length ≤ 65536 := by have := f2.1; split at this <;> omega
 have n3 : a.groups.length ≤ 1000 := f3.1
 have k1 := tx_le2 _ f2.2
 have k2 := tx_le2 _ f3.2
 have q1 := uv_len a.keys.length
 have q2 := uv_len a.groups.length
 have q3 := uv_len a.body.length
 have q4 := uv_len a.next.size
 have u1 := uv_len a.code.toNat
 have a1 := gi (a.kind = 8) (uz a.h1 ++ uz a.h2 ++ uz a.h3 ++ uz a.h4) 40 (by simp only [List.length_append]; have := uz_len a.h1; have := uz_len a.h2; have := uz_len a.h3; have := uz_len a.h4; omega)
 have a2 := gi (tBody a) (ub a.body) 1048586 (by unfold ub; rw [List.length_append]; omega)
 have a3 := gi (tGen a) (uz a.ge ++ uz a.gc ++ uz a.size) 30 (by simp only [List.length_append]; have := uz_len a.ge; have := uz_len a.gc; have := uz_len a.size; omega)
 have a4 := gi (tKeys a) (ut a.keys) 16842800 (by unfold ut; rw [List.length_append]; omega)
 have a5 := gi (tPage a) (ut a.groups ++ us a.next ++ [if a.more = true then 1 else 0]) 300000 (by unfold ut us; simp only [List.length_append, List.length_cons, List.length_nil, sb_len]; omega)
 unfold anC
 simp only [List.length_append, fx_len] at a1 a2 a3 a4 a5 ⊢
 omega
theorem rqC_pos (R : Rq) : 0 < (rqC R).length := by unfold rqC; simp only [List.length_append, fx_len]; omega
open Classical in
theorem anC_pos (a : An) : 0 < (anC a).length := by unfold anC; simp only [List.length_append, fx_len]; omega
/-- Where each form ends. -/
def endsC {M : Type} (cont : M → List Nat) (ms : List M) (k : Nat) : List Value := (List.range k).map fun i => .int .i64 ((preF cont ms (i + 1)).length : Int)
/-- What said answers. -/
def SaidDone {M : Type} (cont : M → List Nat) (ms : List M) (w : World) (e : Ending) (w' : World) : Prop :=
 ∃ v ve, e = .returned (.tuple #[v, ve, .bool true]) ∧ w'.ownsRow w.heap.size 5 1 v (preF cont ms ms.length).length (cb (preF cont ms ms.length)) ∧ w'.ownsRow w.heap.size 3 1 ve ms.length (endsC cont ms ms.length) ∧ Apart v ve ∧ Below w.heap.size w w'
end Go.Proofs.Ytbcmjjcbjojakaa
end
section
namespace Go.Proofs.Ytbcmjjcbjojakaa
open Go.RowKit
set_option linter.unusedVariables false
theorem fitK_idem (k : Int) : fitK (fitK k) = fitK k := by
 have h := fitK_le k
 obtain ⟨j, hj⟩ : ∃ j, fitK k = j := ⟨_, rfl⟩
 rw [hj] at h ⊢
 unfold fitK; rw [if_neg (by omega)]
theorem cutP_idem (s : ByteArray) (m : Nat) : cutP (cutP s m) m = cutP s m := cutP_same (cutP_size s m)
theorem textsP_idem (ts : List ByteArray) (m : Nat) : textsP (textsP ts m) m = textsP ts m := by
 unfold textsP
 rw [← List.map_take, List.map_map, List.take_take, Nat.min_self]
 refine List.map_congr_left fun t _ => ?_
 exact cutP_idem t 255
theorem take_idem {α : Type} (l : List α) (m : Nat) : (l.take m).take m = l.take m := by rw [List.take_take, Nat.min_self]
theorem if_idem {α : Type} {p : Prop} [Decidable p] {f : α → α} {x e : α} (hf : f (f x) = f x) : (if p then f (if p then f x else e) else e) = if p then f x else e := by
 by_cases h : p
 ·rw [if_pos h, if_pos h, hf]
 ·rw [if_neg h, if_neg h]
theorem fitP_idem (R : Rq) : fitP (fitP R) = fitP R := by
 have hk := fitK_idem R.kind
 unfold fitP
 simp only [hk]
 rw [if_idem (f := fun s => cutP s 1024) (cutP_idem _ _), if_idem (f := fun s => cutP s 1024) (cutP_idem _ _), if_idem (f := fun s : Int => s) rfl, if_idem (f := fun s : Int => s) rfl, if_idem (f := fun s : Int => s) rfl, if_idem (f := fun l : List Nat => l.take 1048576) (take_idem _ _)]
theorem fitAnP_kind (a : An) (h : a.kind = 7) : (fitAnP a).kind = 7 := by unfold fitAnP; simp only; rw [h]; rfl
theorem fitAnP_code (a : An) (h : a.code = 0) : (fitAnP a).code = 0 := by unfold fitAnP; simp only; rw [h]; rfl
/-- Of a page, not broken. -/
theorem fitAnP_page (a : An) (h : a.kind = 7) (h0 : a.code = 0) : fitAnP a = ⟨7, a.tag, 0, [], textsP a.keys 1000, textsP a.groups 1000, cutP a.next 255, a.more, 0, 0, 0, 0, 0, 0, 0⟩ := by
 have h1 : fitK 7 = 7 := rfl
 have h2 : fitC 0 = 0 := rfl
 unfold fitAnP
 rw [h, h0, h1, h2]
 simp
theorem fitAnP_idem (a : An) (h : a.kind = 7) (h0 : a.code = 0) : fitAnP (fitAnP a) = fitAnP a := by
 rw [fitAnP_page (fitAnP a) (fitAnP_kind a h) (fitAnP_code a h0), fitAnP_page a h h0]
 simp only [textsP_idem, cutP_idem]
/-- The law's third message. -/
def gAn (body : List Nat) : An := ⟨2, 3, 0, body, [], [], emS, false, 0, 0, 0, 0, 0, 0, 0⟩
theorem fit_g {body : List Nat} (h : body.length ≤ 1048576) : fitAnP (gAn body) = gAn body := by
 have h1 : fitK 2 = 2 := rfl
 have h2 : fitC 0 = 0 := rfl
 unfold fitAnP gAn
 rw [h1, h2]
 simp [List.take_of_length_le h]
theorem go_end {M : Type} (rd : List Nat → Option M) : go rd mid0 [] = ⟨[], 0, mid0, []⟩ := go_wait (ckP_nil _ _)
theorem go_rq (R : Rq) (h : RqB R) (r : List Nat) : go rdRq mid0 (formP (rqC (fitP R)) ++ r) = (go rdRq mid0 r).pre (fitP R) :=
 go_put _ _ _ (rqC_pos _) (Nat.le_trans (rqC_len (fitP_fit R)) (by omega)) (fitP_rd R h)
theorem go_an (a : An) (h : AnB a) (r : List Nat) : go rdAn mid0 (formP (anC (fitAnP a)) ++ r) = (go rdAn mid0 r).pre (fitAnP a) :=
 go_put _ _ _ (anC_pos _) (anC_len (fitAnP_fit a)) (fitAnP_rd a h)
theorem go_rq3 (R : Rq) (h : RqB R) {F : List Nat} (hF : formP (rqC (fitP R)) = F) : go rdRq mid0 ((F ++ F) ++ F) = ⟨[fitP R, fitP R, fitP R], 0, mid0, []⟩ := by
 subst hF
 have := go_rq R h (formP (rqC (fitP R)) ++ formP (rqC (fitP R)))
 have h2 := go_rq R h (formP (rqC (fitP R)))
 have h3 := go_rq R h []
 rw [List.append_nil, go_end] at h3
 rw [List.append_assoc, this, h2, h3]; rfl
theorem go_rq1 (R : Rq) (h : RqB R) {F : List Nat} (hF : formP (rqC (fitP R)) = F) : go rdRq mid0 F = ⟨[fitP R], 0, mid0, []⟩ := by
 subst hF
 have h3 := go_rq R h []
 rw [List.append_nil, go_end] at h3
 rw [h3]; rfl
theorem go_an4 (a b : An) (ha : AnB a) (hb : AnB b) {T U : List Nat} (hT : formP (anC (fitAnP a)) = T) (hU : formP (anC (fitAnP b)) = U) : go rdAn mid0 ((T ++ U) ++ (T ++ U)) = ⟨[fitAnP a, fitAnP b, fitAnP a, fitAnP b], 0, mid0, []⟩ := by
 subst hT hU
 have h4 := go_an b hb []
 rw [List.append_nil, go_end] at h4
 rw [List.append_assoc, go_an a ha, go_an b hb, go_an a ha, h4]; rfl
end Go.Proofs.Ytbcmjjcbjojakaa
end
section
namespace Go.Proofs.Ytbcmjjcbjojakaa
open Go.RowKit
set_option linter.unusedVariables false
/-- A row grown: in place, or in a block that is new (then no old block changed). -/
def OntoS (w w' : World) (base e : Nat) (s v' : Value) (n : Nat) (xs : List Value) : Prop :=
 w'.ownsRow base e 1 v' n xs ∧ w.grownBy w' s.ownBlock ∧ (v'.ownBlock = s.ownBlock ∨ (v'.ownBlock = some w.heap.size ∧ ∀ k, k < w.heap.size → w'.heap[k]? = w.heap[k]?))
section
variable {P : Program} {w w' : World} {base e : Nat} {s v' : Value} {n : Nat} {xs : List Value}
theorem OntoS.own (h : OntoS w w' base e s v' n xs) : w'.ownsRow base e 1 v' n xs := h.1
theorem OntoS.size (h : OntoS w w' base e s v' n xs) : w.heap.size ≤ w'.heap.size := h.2.1.size
/-- A block that is not the row's stands. -/
theorem OntoS.block (h : OntoS w w' base e s v' n xs) {g : Nat} (hg : g < w.heap.size) (hne : s.ownBlock ≠ some g) : w'.heap[g]? = w.heap[g]? := h.2.1.block g hg fun e => hne e.symm
/-- A reading of the row's first cells stands too. -/
theorem OntoS.cell (h : OntoS w w' base e s v' n xs) {ys : List Value} {m : Nat} (hs : w.ownsRow base e 1 s m ys) (hp : ∀ (j : Nat) (u : Value), ys[j]? = some u → xs[j]? = some u) {g : Nat} (hg : s.ownBlock = some g) {j : Nat} {u : Value} (hj : ys[j]? = some u) : w'.cell? ⟨g, j, none⟩ = some u := by
 have hc : w.cell? ⟨g, j, none⟩ = some u := by
  rcases hs.2 with ⟨hv, h0⟩ | ⟨g', cap, cur, hv, hb, hgc, hnc, hm, hcs, htake⟩
  ·subst hv; cases hg
  ·subst hv
   injection hg with hg
   subst hg
   have := World.ownsRow.cells hs (g := g') rfl j u hj
   rwa [show (⟨g', 0, none⟩ : Addr).add j = ⟨g', j, none⟩ by unfold Addr.add; split <;> simp_all] at this
 rcases h.2.2 with e | ⟨e, hall⟩
 ·have hxj := hp j u hj
  have hv' := e.trans hg
  rcases h.1.2 with ⟨hv, h0⟩ | ⟨g', cap, cur, hv, hb, hgc, hnc, hm, hcs, htake⟩
  ·subst hv; cases hv'
  ·subst hv
   injection hv' with hv'
   subst hv'
   have := World.ownsRow.cells h.1 (g := g') rfl j u hxj
   rwa [show (⟨g', 0, none⟩ : Addr).add j = ⟨g', j, none⟩ by unfold Addr.add; split <;> simp_all] at this
 ·have hlt : g < w.heap.size := (hs.lt g hg).2
  rw [World.cell?_of_block (a := ⟨g, j, none⟩) (hall g hlt)]
  exact hc
variable {t bytes : Nat} {z : Value}
/-- Elements of several cells: 'append(s, x)' where '[]T{x}' lies built; what else stands. -/
def OntoSN (w w' : World) (base e size : Nat) (s v' : Value) (n : Nat) (xs : List Value) : Prop :=
 w'.ownsRow base e size v' n xs ∧ w.grownBy w' s.ownBlock ∧ (v'.ownBlock = s.ownBlock ∨ (v'.ownBlock = some w.heap.size ∧ ∀ k, k < w.heap.size → w'.heap[k]? = w.heap[k]?))
theorem run_appSN {size : Nat} (E : ElN P t e size bytes) (ty : Nat) (v : Value) (n : Nat) (xs : List Value) (hown : w.ownsRow base e size v n xs) (a : Addr) (m c : Nat) (news : List Value) (hl : news.length = m * size) (hnews : ∀ j u, news[j]? = some u → w.cell? (a.add j) = some u) (h1 : ∀ u ∈ news, u.oneCell' = true)
  (h63 : n + m ≤ maxLen) (hbytes : (n + m) * bytes ≤ 140737488355328) (hbase : base ≤ w.heap.size) :
  ∃ v' w', (Builtin.append_ #[t, t] ty #[v, .slice (some a) m c]).run P w = .ok v' w' ∧ OntoSN w w' base e size v v' (n + m) (xs ++ news) := by
 obtain ⟨i, z, hi, hz, hs, hb, hzs⟩ := E.hi
 obtain ⟨v', w', hr, h2, h3, _, h5⟩ := run_append_own_at (P := P) w base t ty e i z size bytes E.ht hi hz hs hb hzs E.hs.1 v n xs hown a m c news hl hnews h1 h63 hbytes hbase
 refine ⟨v', w', hr, h2, h3, ?_⟩
 rcases h5 with h5 | h5
 ·exact .inl h5
 rcases hown.2 with ⟨hv, h0⟩ | ⟨g, cap, cur, hv, hbg, hg, hnc, hcm, hcs, htake⟩
 ·exact .inr ⟨h5, fun k hk => h3.block k hk (by rw [hv]; simp [Value.ownBlock])⟩
 ·subst hv
  by_cases hroom : n + m ≤ cap
  ·left
   have hr2 := run_append_room (P := P) w t ty e i E.ht hi g n cap cur hg a m c news (by rw [hs]; exact hl) hnews h1 hroom (by rw [hs, hl, hcs, ← Nat.add_mul]; exact Nat.mul_le_mul_right _ hroom)
   rw [hr] at hr2
   injection hr2 with e1 _
   subst e1
   rfl
  ·refine .inr ⟨h5, ?_⟩
   have holds : ∀ j u, xs[j]? = some u → w.cell? ((⟨g, 0, none⟩ : Addr).add j) = some u := World.ownsRow.cells hown (g := g) rfl
   have hr2 := run_append_grow (P := P) w t ty e i z E.ht hi hz ⟨g, 0, none⟩ n cap xs (by rw [hs]; exact hown.1) holds a m c news (by rw [hs]; exact hl) hnews (by omega) (by unfold maxLen at h63; omega) (growslice_fits (by omega) (by rw [hb]; exact hbytes))
   rw [hr] at hr2
   injection hr2 with _ e2
   subst e2
   intro k hk
   exact heap_alloc_old w.drew _ hk
theorem pushSN_at0 {size : Nat} {ops : Array Oper} {rest : List Oper} {o : Oper} {a : Act} {w0 : World} {Q : Exit → Act → World → Prop} (E : ElN P t e size bytes) (hgd : o.guard = none) (s x : Operand) (ho : o.op = .call { callee := .builtin .append, args := #[s, x], argTypes := #[t, t] })
  (base : Nat) (v : Value) (n : Nat) (xs us : List Value) (hs : a.eval s = v) (N : Nat) (hN : w0.heap.size = N) (hx : a.eval x = .slice (some ⟨N, 0, none⟩) 1 1) (hus : us.length = size) (h1 : ∀ u ∈ us, u.oneCell' = true) (hown : w0.ownsRow base e size v n xs)
  (h63 : n + 1 ≤ maxLen) (hby : (n + 1) * bytes ≤ 140737488355328) (hbase : base ≤ w0.heap.size)
  (h : ∀ v' w', OntoSN (w0.alloc (.cells us.toArray e)) w' base e size v v' (n + 1) (xs ++ us) → wpList P ops Q rest (a.put o.dst v') w') :
  wpList P ops Q (o :: rest) a (w0.alloc (.cells us.toArray e)) := by
 subst hN
 refine wpList_plain hgd fun K hK => ?_
 obtain ⟨v', w', hrun, h2⟩ := run_appSN E o.type v n xs (hown.alloc (.cells us.toArray e)) ⟨w0.heap.size, 0, none⟩ 1 1 us (by omega) (fun j u hj => by
  rw [show (⟨w0.heap.size, 0, none⟩ : Addr).add j = ⟨w0.heap.size, j, none⟩ by unfold Addr.add; split <;> simp_all, cell_of_row _ _ _ _ _ _ (heap_alloc_new w0 _)]
  simpa using hj) h1 h63 hby (by simp; omega)
 unfold Oper.wp execOp
 simp only [ho, resolve, invoke, builtin, Sem.run_bind, Sem.run_pure, Result.andThen_ok, List.map_toArray, List.map_cons, List.map_nil, hs, hx, hrun]
 exact hK _ _ (h v' w' h2)
end
end Go.Proofs.Ytbcmjjcbjojakaa
end
section
namespace Go.Proofs.Ytbcmjjcbjojakaa
open Go.RowKit
set_option linter.unusedVariables false
theorem own_set1 {w : World} {base e g n cap j : Nat} {xs : List Value} {u : Value} (h : w.ownsRow base e 1 (.slice (some ⟨g, 0, none⟩) n cap) n xs) (hj : j < n) : (w.setCell ⟨g, j, none⟩ u).ownsRow base e 1 (.slice (some ⟨g, 0, none⟩) n cap) n (xs.set j u) := by
 obtain ⟨hlen, h2⟩ := h
 rcases h2 with ⟨hv, h0⟩ | ⟨g', cap', cur, hv, hb, hg, hnc, hm, hcs, htake⟩
 ·omega
 ·cases hv
  refine ⟨by simpa using hlen, .inr ⟨g, cap, cur.setIfInBounds j u, rfl, hb, ?_, hnc, hm, by simpa using hcs, ?_⟩⟩
  ·simp [World.setCell, Array.getElem?_modify, hg]
  ·rw [← htake, Array.toList_setIfInBounds, List.take_set]
/-- The blocks of some rows. -/
def ablk (us : List Value) : List Nat := us.filterMap Value.ownBlock
theorem blk_mem {us : List Value} {i k : Nat} {u : Value} (h : us[i]? = some u) (hk : u.ownBlock = some k) : k ∈ ablk us :=
 List.mem_filterMap.2 ⟨u, List.mem_of_getElem? h, hk⟩
/-- Lists, each in memory of its own, written over as far as D says. -/
structure Fil (w : World) (base E e : Nat) (v : Value) (us : List Value) (n : Nat → Nat) (F : Nat → Nat → Value) (D : Nat → Nat → Prop) : Prop where
 out : w.ownsRow base E 1 v us.length us
 row : ∀ (i : Nat) (u : Value), us[i]? = some u → ∃ xs, w.ownsRow base e 1 u (n i) xs ∧ ∀ t, t < n i → D i t → xs[t]? = some (F i t)
 apart : ∀ (i j : Nat) (u u' : Value), us[i]? = some u → us[j]? = some u' → i ≠ j → Apart u u'
 off : ∀ (i : Nat) (u : Value), us[i]? = some u → Apart v u
theorem Apart.ne {v u : Value} {g : Nat} (h : Apart v u) (hu : u.ownBlock = some g) : v.ownBlock ≠ some g := fun e => h g e hu
section
variable {w w' w0 : World} {base E e : Nat} {v : Value} {us : List Value} {n : Nat → Nat} {F : Nat → Nat → Value} {D D' : Nat → Nat → Prop}
theorem Fil.imp (H : Fil w base E e v us n F D) (h : ∀ k s, s < n k → D' k s → D k s) : Fil w base E e v us n F D' :=
 ⟨H.out, fun i u hu => let ⟨xs, h1, h2⟩ := H.row i u hu; ⟨xs, h1, fun t ht hd => h2 t ht (h i t ht hd)⟩, H.apart, H.off⟩
theorem own_keepC {w w' : World} {base e size n g : Nat} {v : Value} {xs : List Value} (h : w.ownsRow base e size v n xs) (hg : w.grownBy w' (some g)) (hne : v.ownBlock ≠ some g) : w'.ownsRow base e size v n xs :=
 h.kept hg (by
  cases hv : v.ownBlock with
  | none => exact .inl rfl
  | some k => exact .inr fun e => hne (by rw [hv, e]))
theorem grown_set1 (w : World) (g i : Nat) (u : Value) : w.grownBy (w.setCell ⟨g, i, none⟩ u) (some g) :=
 ⟨rfl, rfl, rfl, by simp [World.setCell], fun k hk hne => Below.heap_setCell _ _ _ _ (fun e => hne (by rw [e]))⟩
theorem Fil.set (H : Fil w base E e v us n F D) {i t g c : Nat} (hu : us[i]? = some (.slice (some ⟨g, 0, none⟩) (n i) c)) (ht : t < n i) (hD : ∀ k s, D' k s → D k s ∨ (k = i ∧ s = t)) :
  Fil (w.setCell ⟨g, t, none⟩ (F i t)) base E e v us n F D' := by
 have hg := grown_set1 w g t (F i t)
 refine ⟨own_keepC H.out hg ((H.off i _ hu).ne rfl), fun k u hk => ?_, H.apart, H.off⟩
 by_cases hki : k = i
 ·subst hki
  rw [hu] at hk; cases hk
  obtain ⟨xs, h1, h2⟩ := H.row k _ hu
  refine ⟨xs.set t (F k t), own_set1 h1 ht, fun s hs hd => ?_⟩
  have hl : xs.length = n k := by simpa using h1.1
  rw [List.getElem?_set]
  by_cases hst : t = s
  ·subst hst; rw [if_pos rfl, if_pos (by omega)]
  ·rw [if_neg hst]
   rcases hD k s hd with h | ⟨_, h⟩
   ·exact h2 s hs h
   ·exact absurd h.symm hst
 ·obtain ⟨xs, h1, h2⟩ := H.row k u hk
  refine ⟨xs, own_keepC h1 hg ((H.apart k i u _ hk hu hki).ne rfl), fun s hs hd => ?_⟩
  rcases hD k s hd with h | ⟨h, _⟩
  ·exact h2 s hs h
  ·exact absurd h hki
theorem Fil.below {B : Nat} (H : Fil w base E e v us n F D) (b : Below w.heap.size w w') : Fil w' base E e v us n F D :=
 have k : ∀ {e' m : Nat} {u : Value} {xs : List Value}, w.ownsRow base e' 1 u m xs → w'.ownsRow base e' 1 u m xs := fun h => ⟨h.1, h.2.imp id fun ⟨g, cap, cur, hv, hg, hh, r⟩ => ⟨g, cap, cur, hv, hg, by rw [b.block g (Array.getElem?_eq_some_iff.1 hh).1]; exact hh, r⟩⟩
 ⟨k H.out, fun i u hu => let ⟨xs, h1, h2⟩ := H.row i u hu; ⟨xs, k h1, h2⟩, H.apart, H.off⟩
end
/-- The first cells of what a row is grown to. -/
def cellsF (f : Nat → Value) (m : Nat) : List Value := (List.range m).map f
theorem cellsF_len (f : Nat → Value) (m : Nat) : (cellsF f m).length = m := by simp [cellsF]
theorem cellsF_get (f : Nat → Value) {m t : Nat} (h : t < m) : (cellsF f m)[t]? = some (f t) := by simp [cellsF, h]
theorem cellsF_snoc (f : Nat → Value) (m : Nat) : cellsF f (m + 1) = cellsF f m ++ [f m] := by unfold cellsF; rw [List.range_succ, List.map_append]; rfl
/-- A slice that reads as the first cells of a row. -/
def SnapOf (w : World) (F : Nat → Nat → Value) (x : Value × Nat × Nat) : Prop :=
 (∃ A c, x.1 = .slice A x.2.2 c ∧ ∀ t, t < x.2.2 → ∃ b, A = some ⟨b, 0, none⟩ ∧ b < w.heap.size ∧ w.cell? ⟨b, t, none⟩ = some (F x.2.1 t)) ∧ ∀ b, x.1.ownBlock = some b → b < w.heap.size
theorem SnapOf.of_own {w : World} {F : Nat → Nat → Value} {base e i p : Nat} {g : Value} (h : w.ownsRow base e 1 g p (cellsF (F i) p)) : SnapOf w F (g, i, p) := by
 obtain ⟨A, c, rfl, _, _⟩ := own_form h
 refine ⟨⟨A, c, rfl, fun t ht => ?_⟩, fun b hb => (h.lt b hb).2⟩
 obtain ⟨g, cap, hv, _, hb⟩ := own_pos h (by simp at ht; omega)
 cases hv
 refine ⟨g, rfl, hb, ?_⟩
 have := World.ownsRow.cells h (g := g) rfl t (F i t) (cellsF_get _ ht)
 rwa [show (⟨g, 0, none⟩ : Addr).add t = ⟨g, t, none⟩ by unfold Addr.add; split <;> simp_all] at this
theorem snapBlock {w : World} {F : Nat → Nat → Value} {x : Value × Nat × Nat} {b : Nat} (h : SnapOf w F x) (hb : x.1.ownBlock = some b) : b < w.heap.size := h.2 b hb
theorem SnapOf.keep {w w' : World} {F : Nat → Nat → Value} {x : Value × Nat × Nat} (h : SnapOf w F x) (hs : w.heap.size ≤ w'.heap.size) (hb : ∀ b, x.1.ownBlock = some b → b < w.heap.size → w'.heap[b]? = w.heap[b]?) : SnapOf w' F x := by
 obtain ⟨⟨A, c, hx, h2⟩, h5⟩ := h
 refine ⟨⟨A, c, hx, fun t ht => ?_⟩, fun b hb => by have := h5 b hb; omega⟩
 obtain ⟨b, rfl, h3, h4⟩ := h2 t ht
 refine ⟨b, rfl, by omega, ?_⟩
 rw [World.cell?_of_block (a := ⟨b, t, none⟩) (hb b (by rw [hx]; rfl) h3)]
 exact h4
/-- Rows of the call's own beside the lists. -/
abbrev Outs := Nat → Value × Nat × List Value
/-- The lists from number i on stand as they are; the ones ahead were grown; what reads them stands. -/
structure Gro (w0 w : World) (base e : Nat) (O : Outs) (us : List Value) (n : Nat → Nat) (F : Nat → Nat → Value) (i : Nat) (S : List (Value × Nat × Nat)) : Prop where
 out : ∀ q, w.ownsRow base (O q).2.1 1 (O q).1 (O q).2.2.length (O q).2.2
 oo : ∀ q q', q ≠ q' → Apart (O q).1 (O q').1
 new : ∀ q, q ≠ 0 → ∀ b, (O q).1.ownBlock = some b → w0.heap.size ≤ b
 rest : ∀ k u, i ≤ k → us[k]? = some u → w.ownsRow base e 1 u (n k) (cellsF (F k) (n k))
 apart : ∀ k j u u', i ≤ k → i ≤ j → us[k]? = some u → us[j]? = some u' → k ≠ j → Apart u u'
 off : ∀ q k u, i ≤ k → us[k]? = some u → Apart (O q).1 u
 snap : ∀ x ∈ S, SnapOf w F x ∧ (∀ q, Apart (O q).1 x.1) ∧ ∀ k u, i ≤ k → us[k]? = some u → Apart x.1 u
 chg : Chg (ablk us) w0 w
/-- The list number i is being grown. -/
structure Cur (w0 w : World) (base e : Nat) (O : Outs) (us : List Value) (n : Nat → Nat) (F : Nat → Nat → Value) (i : Nat) (S : List (Value × Nat × Nat)) (g : Value) (p : Nat) (M : List (Value × Nat × Nat)) : Prop where
 gro : Gro w0 w base e O us n F (i + 1) S
 own : w.ownsRow base e 1 g p (cellsF (F i) p)
 old : ∀ b, g.ownBlock = some b → b ∈ ablk us ∨ w0.heap.size ≤ b
 go : ∀ q, Apart (O q).1 g
 gr : ∀ k u, i + 1 ≤ k → us[k]? = some u → Apart g u
 gs : ∀ x ∈ S, Apart x.1 g
 mine : ∀ x ∈ M, SnapOf w F x ∧ x.2.1 = i ∧ x.2.2 ≤ p ∧ (∀ q, Apart (O q).1 x.1) ∧ ∀ k u, i + 1 ≤ k → us[k]? = some u → Apart x.1 u
section
variable {w0 w w' : World} {base e i p : Nat} {O O' : Outs} {us : List Value} {n : Nat → Nat} {F : Nat → Nat → Value} {S M : List (Value × Nat × Nat)} {g g' u v' y : Value}
theorem own_stay {e m : Nat} {v : Value} {xs : List Value} (h : w.ownsRow base e 1 v m xs) (hb : ∀ b, v.ownBlock = some b → b < w.heap.size → w'.heap[b]? = w.heap[b]?) : w'.ownsRow base e 1 v m xs :=
 ⟨h.1, h.2.imp id fun ⟨g, cap, cur, hv, hg, hh, r⟩ => ⟨g, cap, cur, hv, hg, by rw [hb g (by rw [hv]; rfl) (Array.getElem?_eq_some_iff.1 hh).1]; exact hh, r⟩⟩
/-- A change that leaves all that the state speaks of. -/
theorem Gro.stay (H : Gro w0 w base e O us n F i S) (c : Chg (ablk us) w0 w') (hs : w.heap.size ≤ w'.heap.size) (ho : ∀ q b, (O q).1.ownBlock = some b → b < w.heap.size → w'.heap[b]? = w.heap[b]?)
  (hr : ∀ k u b, i ≤ k → us[k]? = some u → u.ownBlock = some b → b < w.heap.size → w'.heap[b]? = w.heap[b]?) (hS : ∀ x ∈ S, ∀ b, x.1.ownBlock = some b → b < w.heap.size → w'.heap[b]? = w.heap[b]?) : Gro w0 w' base e O us n F i S :=
 ⟨fun q => own_stay (H.out q) (ho q), H.oo, H.new, fun k u hk hu => own_stay (H.rest k u hk hu) (fun b h1 h2 => hr k u b hk hu h1 h2), H.apart, H.off,
  fun x hx => ⟨(H.snap x hx).1.keep hs (hS x hx), (H.snap x hx).2⟩, c⟩
theorem Gro.below (H : Gro w0 w base e O us n F i S) (b : Below w.heap.size w w') : Gro w0 w' base e O us n F i S :=
 H.stay (H.chg.trans ((Chg.of_below b).mono fun k hk _ => absurd hk List.not_mem_nil)) b.size (fun _ k _ hk => b.block k hk) (fun _ _ k _ _ _ hk => b.block k hk) (fun _ _ k _ hk => b.block k hk)
theorem Cur.below (H : Cur w0 w base e O us n F i S g p M) (b : Below w.heap.size w w') : Cur w0 w' base e O us n F i S g p M :=
 ⟨H.gro.below b, own_stay H.own (fun k _ hk => b.block k hk), H.old, H.go, H.gr, H.gs, fun x hx => ⟨(H.mine x hx).1.keep b.size (fun k _ hk => b.block k hk), (H.mine x hx).2⟩⟩
theorem Gro.enter (H : Gro w0 w base e O us n F i S) (hu : us[i]? = some u) : Cur w0 w base e O us n F i S u (n i) [(u, i, n i)] where
 gro := ⟨H.out, H.oo, H.new, fun k u hk => H.rest k u (by omega), fun k j u u' hk hj => H.apart k j u u' (by omega) (by omega), fun q k u hk => H.off q k u (by omega), fun x hx => ⟨(H.snap x hx).1, (H.snap x hx).2.1, fun k u hk => (H.snap x hx).2.2 k u (by omega)⟩, H.chg⟩
 own := H.rest i u (Nat.le_refl _) hu
 old := fun b hb => .inl (blk_mem hu hb)
 go := fun q => H.off q i u (Nat.le_refl _) hu
 gr := fun k u' hk hu' => H.apart i k u u' (Nat.le_refl _) (by omega) hu hu' (by omega)
 gs := fun x hx => (H.snap x hx).2.2 i u (Nat.le_refl _) hu
 mine := fun x hx => by
  have hx := List.mem_singleton.1 hx
  subst hx
  exact ⟨SnapOf.of_own (H.rest i u (Nat.le_refl _) hu), rfl, Nat.le_refl _, fun q => H.off q i u (Nat.le_refl _) hu, fun k u' hk hu' => H.apart i k u u' (Nat.le_refl _) (by omega) hu hu' (by omega)⟩
theorem Cur.leave (H : Cur w0 w base e O us n F i S g p M) : Gro w0 w base e O us n F (i + 1) (M ++ S) :=
 ⟨H.gro.out, H.gro.oo, H.gro.new, H.gro.rest, H.gro.apart, H.gro.off, fun x hx => by
  rcases List.mem_append.1 hx with h | h
  ·exact ⟨(H.mine x h).1, (H.mine x h).2.2.2⟩
  ·exact H.gro.snap x h, H.gro.chg⟩
/-- The list is grown by one. -/
theorem Cur.app (H : Cur w0 w base e O us n F i S g p M) (h : OntoS w w' base e g g' (p + 1) (cellsF (F i) p ++ [F i p])) : Cur w0 w' base e O us n F i S g' (p + 1) M := by
 have hw0 : w0.heap.size ≤ w.heap.size := H.gro.chg.size
 have nb : ∀ b, g'.ownBlock = some b → g.ownBlock = some b ∨ w.heap.size = b := fun b hb => by
  rcases h.2.2 with e | ⟨e, _⟩
  ·exact .inl (e ▸ hb)
  ·exact .inr (by rw [e] at hb; injection hb)
 have ap : ∀ {z : Value}, (∀ b, z.ownBlock = some b → b < w.heap.size) → Apart g z → Apart g' z := fun hl ha b h1 h2 => by
  rcases nb b h1 with e | e
  ·exact ha b e h2
  ·have := hl b h2; omega
 have lo : ∀ q b, (O q).1.ownBlock = some b → b < w.heap.size := fun q b hb => ((H.gro.out q).lt b hb).2
 have lr : ∀ k u, i + 1 ≤ k → us[k]? = some u → ∀ b, u.ownBlock = some b → b < w.heap.size := fun k u hk hu b hb => ((H.gro.rest k u hk hu).lt b hb).2
 have st : ∀ b, g.ownBlock ≠ some b → b < w.heap.size → w'.heap[b]? = w.heap[b]? := fun b hb hl => h.block hl hb
 have hc : Chg (ablk us) w0 w' := ⟨h.2.1.os.trans H.gro.chg.os, h.2.1.tape.trans H.gro.chg.tape, h.2.1.output.trans H.gro.chg.output, Nat.le_trans hw0 h.size, fun k hk hn => by
  refine (st k (fun e => ?_) (by omega)).trans (H.gro.chg.block k hk hn)
  rcases H.old k e with h1 | h1
  ·exact hn h1
  ·omega⟩
 have ne : ∀ {z : Value}, Apart z g → ∀ b, z.ownBlock = some b → g.ownBlock ≠ some b := fun ha b hb => ha b hb
 refine ⟨H.gro.stay hc h.size (fun q b hb hl => st b (ne (H.go q) b hb) hl) (fun k u b hk hu hb hl => st b (ne (H.gr k u hk hu).symm b hb) hl) (fun x hx b hb hl => st b (ne (H.gs x hx) b hb) hl), by rw [cellsF_snoc]; exact h.own, fun b hb => ?_,
  fun q => (ap (lo q) (H.go q).symm).symm, fun k u hk hu => ap (lr k u hk hu) (H.gr k u hk hu), fun x hx => (ap (fun b hb => ?_) (H.gs x hx).symm).symm, fun x hx => ⟨?_, (H.mine x hx).2.1, by have := (H.mine x hx).2.2.1; omega, (H.mine x hx).2.2.2⟩⟩
 ·rcases nb b hb with e | e
  ·exact H.old b e
  ·right; omega
 ·exact snapBlock (H.gro.snap x hx).1 hb
 ·obtain ⟨hs, hi, hp, _⟩ := H.mine x hx
  by_cases hsame : ∃ b, x.1.ownBlock = some b ∧ g.ownBlock = some b
  ·obtain ⟨b, hb1, hb2⟩ := hsame
   obtain ⟨⟨A, c, hx1, h2⟩, h5⟩ := hs
   refine ⟨⟨A, c, hx1, fun t ht => ?_⟩, fun b hb => by have := h5 b hb; have := h.size; omega⟩
   obtain ⟨b', hA, h3, h4⟩ := h2 t ht
   refine ⟨b', hA, by have := h.size; omega, ?_⟩
   have hbb : b' = b := by rw [hx1, hA] at hb1; simpa [Value.ownBlock] using hb1
   subst hbb
   rw [hi]
   exact h.cell H.own (fun j u hj => by rw [List.getElem?_append_left (List.getElem?_eq_some_iff.1 hj).1]; exact hj) hb2 (cellsF_get _ (by omega))
  ·exact hs.keep h.size fun b hb hl => st b (fun e => hsame ⟨b, hb, e⟩) hl
/-- What has been grown is kept. -/
theorem Cur.push (H : Cur w0 w base e O us n F i S g p M) {q E : Nat} {v : Value} {xs : List Value} (hq : q ≠ 0) (hO : O q = (v, E, xs)) (h : Onto w w' base E v v' (xs.length + 1) (xs ++ [y])) (hO1 : O' q = (v', E, xs ++ [y])) (hO2 : ∀ r, r ≠ q → O' r = O r) {M' : List (Value × Nat × Nat)}
  (hM : ∀ x ∈ M', x ∈ M ∨ x = (g, i, p)) : Cur w0 w' base e O' us n F i S g p M' := by
 have hw0 : w0.heap.size ≤ w.heap.size := H.gro.chg.size
 have nb : ∀ b, v'.ownBlock = some b → v.ownBlock = some b ∨ w.heap.size ≤ b := h.2.2
 have hv : (O q).1 = v := by rw [hO]
 have lo : ∀ q b, (O q).1.ownBlock = some b → b < w.heap.size := fun q b hb => ((H.gro.out q).lt b hb).2
 have lr : ∀ k u, i + 1 ≤ k → us[k]? = some u → ∀ b, u.ownBlock = some b → b < w.heap.size := fun k u hk hu b hb => ((H.gro.rest k u hk hu).lt b hb).2
 have lg : ∀ b, g.ownBlock = some b → b < w.heap.size := fun b hb => (H.own.lt b hb).2
 have ap : ∀ {z : Value}, (∀ b, z.ownBlock = some b → b < w.heap.size) → Apart v z → Apart v' z := fun hl ha b h1 h2 => by
  rcases nb b h1 with e | e
  ·exact ha b e h2
  ·have := hl b h2; omega
 have st : ∀ b, v.ownBlock ≠ some b → b < w.heap.size → w'.heap[b]? = w.heap[b]? := fun b hb hl => h.2.1.block b hl fun e => hb e.symm
 have hc : Chg (ablk us) w0 w' := ⟨h.2.1.os.trans H.gro.chg.os, h.2.1.tape.trans H.gro.chg.tape, h.2.1.output.trans H.gro.chg.output, Nat.le_trans hw0 h.size, fun k hk hn =>
  (st k (fun e => by have := H.gro.new q hq k (by rw [hv]; exact e); omega) (by omega)).trans (H.gro.chg.block k hk hn)⟩
 have vo : ∀ r, r ≠ q → Apart v (O r).1 := fun r hr => by rw [← hv]; exact H.gro.oo q r (fun e => hr e.symm)
 have vg : Apart v g := by rw [← hv]; exact H.go q
 have vr : ∀ k u, i + 1 ≤ k → us[k]? = some u → Apart v u := fun k u hk hu => by rw [← hv]; exact H.gro.off q k u hk hu
 have vs : ∀ x ∈ S, Apart v x.1 := fun x hx => by rw [← hv]; exact (H.gro.snap x hx).2.1 q
 have vm : ∀ x ∈ M, Apart v x.1 := fun x hx => by rw [← hv]; exact (H.mine x hx).2.2.2.1 q
 have gs : SnapOf w' F (g, i, p) := SnapOf.of_own (own_stay H.own fun b hb hl => st b (fun e => vg b e hb) hl)
 have ap' : ∀ {z : Value}, (∀ b, z.ownBlock = some b → b < w.heap.size) → (∀ r, Apart (O r).1 z) → ∀ r, Apart (O' r).1 z := fun hl ha r => by
  by_cases hr : r = q
  ·subst hr; rw [hO1]; exact ap hl (by rw [← hv]; exact ha r)
  ·rw [hO2 r hr]; exact ha r
 have lx : ∀ {x : Value × Nat × Nat}, SnapOf w F x → ∀ b, x.1.ownBlock = some b → b < w.heap.size := fun h b hb => snapBlock h hb
 refine ⟨⟨fun r => ?_, fun r r' hr => ?_, fun r hr b hb => ?_, fun k u hk hu => own_stay (H.gro.rest k u hk hu) fun b hb hl => st b (fun e => vr k u hk hu b e hb) hl, H.gro.apart, fun r k u hk hu => ap' (lr k u hk hu) (fun r => H.gro.off r k u hk hu) r,
  fun x hx => ⟨(H.gro.snap x hx).1.keep h.size fun b hb hl => st b (fun e => vs x hx b e hb) hl, ap' (lx (H.gro.snap x hx).1) (H.gro.snap x hx).2.1, (H.gro.snap x hx).2.2⟩, hc⟩,
  own_stay H.own fun b hb hl => st b (fun e => vg b e hb) hl, H.old, ap' lg H.go, H.gr, H.gs, fun x hx => ?_⟩
 ·by_cases hr : r = q
  ·subst hr; rw [hO1]; simp only [List.length_append, List.length_cons, List.length_nil]; exact h.own
  ·rw [hO2 r hr]; exact own_stay (H.gro.out r) fun b hb hl => st b (fun e => vo r hr b e hb) hl
 ·by_cases h1 : r = q
  ·subst h1; rw [hO1, hO2 r' (fun e => hr e.symm)]; exact ap (lo r') (vo r' fun e => hr e.symm)
  ·by_cases h2 : r' = q
   ·subst h2; rw [hO1, hO2 r h1]; exact (ap (lo r) (vo r h1)).symm
   ·rw [hO2 r h1, hO2 r' h2]; exact H.gro.oo r r' hr
 ·by_cases h1 : r = q
  ·subst h1; rw [hO1] at hb
   rcases nb b hb with e | e
   ·exact H.gro.new r hr b (by rw [hv]; exact e)
   ·omega
  ·rw [hO2 r h1] at hb; exact H.gro.new r hr b hb
 ·rcases hM x hx with h1 | h1
  ·obtain ⟨a1, a2, a3, a4, a5⟩ := H.mine x h1
   exact ⟨a1.keep h.size fun b hb hl => st b (fun e => vm x h1 b e hb) hl, a2, a3, ap' (lx a1) a4, a5⟩
  ·subst h1
   exact ⟨gs, rfl, Nat.le_refl _, ap' lg H.go, H.gr⟩
end
theorem cellsF_ext {f : Nat → Value} {m : Nat} {xs : List Value} (hl : xs.length = m) (h : ∀ t, t < m → xs[t]? = some (f t)) : xs = cellsF f m := by
 apply List.ext_getElem?
 intro t
 by_cases ht : t < m
 ·rw [h t ht, cellsF_get f ht]
 ·rw [List.getElem?_eq_none (by omega), List.getElem?_eq_none (by rw [cellsF_len]; omega)]
/-- The lists themselves, and one list of what was grown. -/
def O2 (v : Value) (E : Nat) (us : List Value) (vl : Value) (E2 : Nat) (ls : List Value) : Outs
 | 0 => (v, E, us)
 | 1 => (vl, E2, ls)
 | _ => (.slice none 0 0, 0, [])
theorem O2_other {v vl vl' : Value} {E E2 : Nat} {us ls ls' : List Value} : ∀ r, r ≠ 1 → O2 v E us vl' E2 ls' r = O2 v E us vl E2 ls r
 | 0, _ => rfl
 | 1, h => absurd rfl h
 | _ + 2, _ => rfl
theorem Gro.start {w0 w : World} {base E E2 e : Nat} {v : Value} {us : List Value} {n : Nat → Nat} {F : Nat → Nat → Value} (H : Fil w base E e v us n F (fun k _ => k < us.length)) (c : Chg (ablk us) w0 w) : Gro w0 w base e (O2 v E us (.slice none 0 0) E2 []) us n F 0 [] where
 out := fun q => match q with
  | 0 => H.out
  | 1 => World.ownsRow_nil _ _ _ _
  | _ + 2 => World.ownsRow_nil _ _ _ _
 oo := fun q q' h k h1 h2 => by
  match q, q', h with
  | 0, 0, h => exact h rfl
  | 0, _ + 1, _ => rename_i z _; rcases z with _ | z <;> cases h2
  | _ + 1, _, _ => rename_i z _ _; rcases z with _ | z <;> cases h1
 new := fun q h b hb => by
  match q, h with
  | 0, h => exact absurd rfl h
  | 1, _ => cases hb
  | _ + 2, _ => cases hb
 rest := fun k u _ hu => by
  obtain ⟨xs, h1, h2⟩ := H.row k u hu
  have hk := (List.getElem?_eq_some_iff.1 hu).1
  rw [cellsF_ext (by simpa using h1.1) fun t ht => h2 t ht hk] at h1
  exact h1
 apart := fun k j u u' _ _ h1 h2 h => H.apart k j u u' h1 h2 h
 off := fun q k u _ hu => match q with
  | 0 => H.off k u hu
  | 1 => Apart.nil _
  | _ + 2 => Apart.nil _
 snap := fun x h => absurd h List.not_mem_nil
 chg := c
theorem El.toN {P : Program} {t e bytes : Nat} {z : Value} (E : El P t e bytes z) : ElN P t e 1 bytes := by
 obtain ⟨i, hi, hz, hs, hb⟩ := E.hi
 exact ⟨E.ht, ⟨i, z, hi, hz, hs, hb, E.hz⟩, by omega⟩
/-- The list grows by one element that lies in a literal. -/
theorem Cur.app1 {w0 w w' : World} {base e i p : Nat} {O : Outs} {us : List Value} {n : Nat → Nat} {F : Nat → Nat → Value} {S M : List (Value × Nat × Nat)} {g g' : Value} {o : Obj} (H : Cur w0 w base e O us n F i S g p M) {x : Value} (hx : x = F i p)
  (h : OntoSN (w.alloc o) w' base e 1 g g' (p + 1) (cellsF (F i) p ++ [x])) : Cur w0 w' base e O us n F i S g' (p + 1) M := by
 subst hx
 exact (H.below ((Below.refl _ w).alloc (Nat.le_refl _) _)).app h
theorem SnapOf.cell {w : World} {F : Nat → Nat → Value} {x : Value × Nat × Nat} (h : SnapOf w F x) {t : Nat} (ht : t < x.2.2) : ∃ b c, x.1 = .slice (some ⟨b, 0, none⟩) x.2.2 c ∧ b < w.heap.size ∧ w.cell? ⟨b, t, none⟩ = some (F x.2.1 t) := by
 obtain ⟨⟨A, c, hx, h2⟩, _⟩ := h
 obtain ⟨b, rfl, h3, h4⟩ := h2 t ht
 exact ⟨b, c, hx, h3, h4⟩
theorem SnapOf.form {w : World} {F : Nat → Nat → Value} {x : Value × Nat × Nat} (h : SnapOf w F x) : ∃ A c, x.1 = .slice A x.2.2 c := let ⟨⟨A, c, hx, _⟩, _⟩ := h; ⟨A, c, hx⟩
end Go.Proofs.Ytbcmjjcbjojakaa
end
section
namespace Go.Proofs.Ytbcmjjcbjojakaa
open Go.RowKit
set_option linter.unusedVariables false
theorem nodup_at {α : Type} {l : List α} (h : l.Nodup) {i j : Nat} {a : α} (hi : l[i]? = some a) (hj : l[j]? = some a) : i = j := by
 obtain ⟨h1, h2⟩ := List.getElem?_eq_some_iff.1 hi
 obtain ⟨h3, h4⟩ := List.getElem?_eq_some_iff.1 hj
 rcases Nat.lt_trichotomy i j with g | g | g
 ·exact absurd (h2.trans h4.symm) (List.pairwise_iff_getElem.1 h i j h1 h3 g)
 ·exact g
 ·exact absurd (h4.trans h2.symm) (List.pairwise_iff_getElem.1 h j i h3 h1 g)
/-- Rows, no two in the same block, none in a block of X. -/
structure Bag (W : World) (base : Nat) (RL : List (Nat × Value × List Value)) (X : List Nat) : Prop where
 own : ∀ x ∈ RL, W.ownsRow base x.1 1 x.2.1 x.2.2.length x.2.2
 apart : ∀ (i j : Nat) (x y : Nat × Value × List Value), RL[i]? = some x → RL[j]? = some y → i ≠ j → Apart x.2.1 y.2.1
 off : ∀ x ∈ RL, ∀ k ∈ X, x.2.1.ownBlock ≠ some k
 ltX : ∀ k ∈ X, k < W.heap.size
section
variable {W W' : World} {base : Nat} {RL RL2 : List (Nat × Value × List Value)} {X : List Nat} {us : List Value}
theorem Bag.nil (W : World) (base : Nat) : Bag W base [] [] := ⟨fun x h => absurd h List.not_mem_nil, fun i j x y h => by simp at h, fun x h => absurd h List.not_mem_nil, fun k h => absurd h List.not_mem_nil⟩
theorem Bag.keep (H : Bag W base RL X) (b : Below W.heap.size W W') : Bag W' base RL X :=
 ⟨fun x hx => own_stay (H.own x hx) (fun k _ hk => b.block k hk), H.apart, H.off, fun k hk => Nat.lt_of_lt_of_le (H.ltX k hk) b.size⟩
theorem Bag.push (H : Bag W base RL X) (hb : base ≤ W.heap.size) {e n : Nat} {v : Value} {xs : List Value} (hn : xs.length = n) (b : Below W.heap.size W W') (o : W'.ownsRow W.heap.size e 1 v n xs) : Bag W' base (RL ++ [(e, v, xs)]) X := by
 have K := H.keep b
 have new : ∀ k, v.ownBlock = some k → W.heap.size ≤ k := fun k hk => (o.lt k hk).1
 have old : ∀ x ∈ RL, ∀ k, x.2.1.ownBlock = some k → k < W.heap.size := fun x hx k hk => ((H.own x hx).lt k hk).2
 have key : ∀ (i : Nat) (x : Nat × Value × List Value), (RL ++ [(e, v, xs)])[i]? = some x → (i < RL.length ∧ RL[i]? = some x) ∨ (i = RL.length ∧ x = (e, v, xs)) := fun i x h => by
  rcases Nat.lt_or_ge i RL.length with g | g
  ·rw [List.getElem?_append_left g] at h; exact .inl ⟨g, h⟩
  ·rw [List.getElem?_append_right g] at h
   rcases Nat.eq_zero_or_pos (i - RL.length) with e1 | e1
   ·rw [e1] at h; simp at h; exact .inr ⟨by omega, h.symm⟩
   ·rw [List.getElem?_eq_none (by simp; omega)] at h; cases h
 refine ⟨fun x hx => ?_, fun i j x y hx hy hij => ?_, fun x hx k hk => ?_, K.ltX⟩
 ·rcases List.mem_append.1 hx with h | h
  ·exact K.own x h
  ·rw [List.mem_singleton.1 h]
   refine ⟨by rw [Nat.mul_one], (o.2).imp (fun h => ⟨h.1, by rw [hn]; exact h.2⟩) fun ⟨g, cap, cur, h1, h2, r⟩ => ⟨g, cap, cur, by rw [hn]; exact h1, by omega, by rw [hn]; exact r⟩⟩
 ·rcases key i x hx with ⟨_, g⟩ | ⟨g, e1⟩
  ·rcases key j y hy with ⟨_, g2⟩ | ⟨g2, e2⟩
   ·exact H.apart i j x y g g2 hij
   ·subst e2
    intro k h1 h2
    have := old x (List.mem_of_getElem? g) k h1
    have := new k h2
    omega
  ·rcases key j y hy with ⟨_, g2⟩ | ⟨g2, e2⟩
   ·subst e1
    intro k h1 h2
    have := old y (List.mem_of_getElem? g2) k h2
    have := new k h1
    omega
   ·omega
 ·rcases List.mem_append.1 hx with h | h
  ·exact H.off x h k hk
  ·rw [List.mem_singleton.1 h]
   intro e1
   have := new k e1
   have := H.ltX k hk
   omega
theorem Bag.board (H : Bag W base RL X) (b : Below W.heap.size W W') {k : Nat} (h1 : W.heap.size ≤ k) (h2 : k < W'.heap.size) : Bag W' base RL (k :: X) := by
 have K := H.keep b
 refine ⟨K.own, K.apart, fun x hx q hq => ?_, fun q hq => ?_⟩
 ·rcases List.mem_cons.1 hq with e | e
  ·subst e
   intro e1
   have := ((H.own x hx).lt _ e1).2
   omega
  ·exact H.off x hx q e
 ·rcases List.mem_cons.1 hq with e | e
  ·subst e; exact h2
  ·exact K.ltX q e
/-- A literal that lists rows of the bag. -/
theorem Fil.of_bag (H : Bag W base RL X) {N E e m : Nat} {n : Nat → Nat} {F : Nat → Nat → Value} (hN : W.heap.size = N) (hb : base ≤ N) (hm : us.length = m) (hx : us.length ≤ maxLen) (I : List Nat) (hI : I.Nodup) (hk : ∀ (k : Nat) (u : Value), us[k]? = some u → ∃ i x, I[k]? = some i ∧ RL[i]? = some x ∧ u = x.2.1 ∧ x.1 = e ∧ n k = x.2.2.length) :
  Fil (W.alloc (.cells us.toArray E)) base E e (.slice (some ⟨N, 0, none⟩) m m) us n F (fun _ _ => False) := by
 subst hN hm
 have L := (onto_lit (w := W) (e := E) us hx)
 refine ⟨?_, fun k u hu => ?_, fun k j u u' hu hu' hkj => ?_, fun k u hu => ?_⟩
 ·exact ⟨L.own.1, L.own.2.imp id fun ⟨g, cap, cur, h1, h2, r⟩ => ⟨g, cap, cur, h1, by omega, r⟩⟩
 ·obtain ⟨i, x, hi, hx, rfl, he, hn⟩ := hk k u hu
  have := H.own x (List.mem_of_getElem? hx)
  rw [he, ← hn] at this
  exact ⟨x.2.2, this.alloc _, fun t _ h => absurd h id⟩
 ·obtain ⟨i, x, hi, hx, rfl, _⟩ := hk k u hu
  obtain ⟨i', x', hi', hx', rfl, _⟩ := hk j u' hu'
  refine H.apart i i' x x' hx hx' fun e => hkj ?_
  subst e
  exact nodup_at hI hi hi'
 ·obtain ⟨i, x, hi, hx, rfl, _⟩ := hk k u hu
  intro q h1 h2
  have h1 : W.heap.size = q := by simpa [Value.ownBlock] using h1
  have := ((H.own x (List.mem_of_getElem? hx)).lt q h2).2
  omega
/-- Some rows were written over: the others stand. -/
theorem Bag.chg (H : Bag W base RL X) (I J : List Nat) (c : Chg (ablk us) W W') (hus : ∀ u ∈ us, ∃ i x, i ∈ I ∧ RL[i]? = some x ∧ u = x.2.1) (hJ : J.Nodup) (hIJ : ∀ j ∈ J, j ∉ I) (h2 : ∀ (k : Nat) (y : Nat × Value × List Value), RL2[k]? = some y → ∃ j, J[k]? = some j ∧ RL[j]? = some y) : Bag W' base RL2 X := by
 have mem : ∀ y ∈ RL2, ∃ j, j ∈ J ∧ RL[j]? = some y := fun y hy => by
  obtain ⟨k, hk⟩ := List.getElem?_of_mem hy
  obtain ⟨j, h3, h4⟩ := h2 k y hk
  exact ⟨j, List.mem_of_getElem? h3, h4⟩
 refine ⟨fun y hy => ?_, fun k k' x y hx hy hkk => ?_, fun y hy k hk => ?_, fun k hk => Nat.lt_of_lt_of_le (H.ltX k hk) c.size⟩
 ·obtain ⟨j, h3, h4⟩ := mem y hy
  refine c.own (H.own y (List.mem_of_getElem? h4)) fun k hk hm => ?_
  obtain ⟨u, hu, he⟩ := List.mem_filterMap.1 hm
  obtain ⟨i, x, hi, hx, rfl⟩ := hus u hu
  exact H.apart i j x y hx h4 (fun e => hIJ j h3 (e ▸ hi)) k he hk
 ·obtain ⟨j, h3, h4⟩ := h2 k x hx
  obtain ⟨j', h3', h4'⟩ := h2 k' y hy
  refine H.apart j j' x y h4 h4' fun e => hkk ?_
  subst e
  exact nodup_at hJ h3 h3'
 ·obtain ⟨j, h3, h4⟩ := mem y hy
  exact H.off y (List.mem_of_getElem? h4) k hk
/-- A block of X is not written over. -/
theorem Bag.off_blk (H : Bag W base RL X) (hus : ∀ u ∈ us, ∃ (i : Nat) (x : Nat × Value × List Value), RL[i]? = some x ∧ u = x.2.1) {k : Nat} (hk : k ∈ X) : k ∉ ablk us := fun hm => by
 obtain ⟨u, hu, he⟩ := List.mem_filterMap.1 hm
 obtain ⟨i, x, hx, rfl⟩ := hus u hu
 exact H.off x (List.mem_of_getElem? hx) k hk he
theorem Bag.rd (H : Bag W base RL X) (i : Nat) {e n c : Nat} {A : Option Addr} {xs : List Value} (h : RL[i]? = some (e, .slice A n c, xs)) : Rd W W.heap.size A n xs := by
 have o := H.own _ (List.mem_of_getElem? h)
 simp only at o
 have hl : n = xs.length := by obtain ⟨_, _, e, _⟩ := own_form o; injection e
 rw [← hl] at o
 exact Rd.of_own o
end
end Go.Proofs.Ytbcmjjcbjojakaa
end
section
namespace Go.Proofs.Ytbcmjjcbjojakaa
open Go.RowKit
set_option linter.unusedVariables false
section
variable {W W' : World} {base : Nat} {RL NR : List (Nat × Value × List Value)} {X X' Y : List Nat}
/-- Blocks of X have been written, others have come. -/
theorem Bag.turn (H : Bag W base RL X) (c : Chg Y W W') (hY : ∀ y ∈ Y, y ∈ X) (hX : ∀ x ∈ X', x < W'.heap.size ∧ (x ∈ X ∨ W.heap.size ≤ x)) : Bag W' base RL X' where
 own := fun x hx => c.own (H.own x hx) fun k hk hm => H.off x hx k (hY k hm) hk
 apart := H.apart
 off := fun x hx k hk he => by
  rcases (hX k hk).2 with h | h
  ·exact H.off x hx k h he
  ·have := ((H.own x hx).lt k he).2; omega
 ltX := fun k hk => (hX k hk).1
/-- A message's rows come in, or a reader's. -/
theorem Bag.pushes (H : Bag W base RL X) (hb : base ≤ W.heap.size) (c : Chg Y W W') (hY : ∀ y ∈ Y, y ∈ X) (hX : ∀ x ∈ X', x < W'.heap.size ∧ (x ∈ X ∨ W.heap.size ≤ x))
  (hN : ∀ r ∈ NR, W'.ownsRow W.heap.size r.1 1 r.2.1 r.2.2.length r.2.2) (hA : NR.Pairwise fun r s => Apart r.2.1 s.2.1) (hO : ∀ r ∈ NR, ∀ k ∈ X', r.2.1.ownBlock ≠ some k) : Bag W' base (RL ++ NR) X' := by
 have K := H.turn (X' := X') c hY hX
 have old : ∀ x ∈ RL, ∀ k, x.2.1.ownBlock = some k → k < W.heap.size := fun x hx k hk => ((H.own x hx).lt k hk).2
 have new : ∀ r ∈ NR, ∀ k, r.2.1.ownBlock = some k → W.heap.size ≤ k := fun r hr k hk => ((hN r hr).lt k hk).1
 have sym : ∀ {a b : Nat × Value × List Value}, Apart a.2.1 b.2.1 → Apart b.2.1 a.2.1 := fun h g h1 h2 => h g h2 h1
 refine ⟨fun x hx => ?_, fun i j x y hx hy hij => ?_, fun x hx k hk => ?_, K.ltX⟩
 ·rcases List.mem_append.1 hx with h | h
  ·exact K.own x h
  ·exact own_base (hN x h) hb
 ·rcases Nat.lt_or_ge i RL.length with gi | gi <;> rcases Nat.lt_or_ge j RL.length with gj | gj
  ·rw [List.getElem?_append_left gi] at hx; rw [List.getElem?_append_left gj] at hy; exact H.apart i j x y hx hy hij
  ·rw [List.getElem?_append_left gi] at hx; rw [List.getElem?_append_right gj] at hy
   intro k h1 h2
   have := old x (List.mem_of_getElem? hx) k h1
   have := new y (List.mem_of_getElem? hy) k h2
   omega
  ·rw [List.getElem?_append_right gi] at hx; rw [List.getElem?_append_left gj] at hy
   intro k h1 h2
   have := old y (List.mem_of_getElem? hy) k h2
   have := new x (List.mem_of_getElem? hx) k h1
   omega
  ·rw [List.getElem?_append_right gi] at hx; rw [List.getElem?_append_right gj] at hy
   obtain ⟨li, ei⟩ := List.getElem?_eq_some_iff.1 hx
   obtain ⟨lj, ej⟩ := List.getElem?_eq_some_iff.1 hy
   rcases Nat.lt_trichotomy (i - RL.length) (j - RL.length) with g | g | g
   ·have := List.pairwise_iff_getElem.1 hA _ _ li lj g
    rw [ei, ej] at this; exact this
   ·omega
   ·have := List.pairwise_iff_getElem.1 hA _ _ lj li g
    rw [ei, ej] at this; exact sym this
 ·rcases List.mem_append.1 hx with h | h
  ·exact K.off x h k hk
  ·exact hO x h k hk
end
end Go.Proofs.Ytbcmjjcbjojakaa
end
