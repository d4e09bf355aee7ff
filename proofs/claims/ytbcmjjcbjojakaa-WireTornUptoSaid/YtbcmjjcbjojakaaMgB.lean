/- Put together of: Que StrmP RdM StepS MsgM WNum ChunkW PushP PushW ReqW DrP DrainW. -/
import Derived.Test.YtbcmjjcbjojakaaMgA
import Derived.Test.YtbcmjjcbjojakaaBoxes
import Derived.Test.YtbcmjjcbjojakaaFormP
import Derived.Test.YtbcmjjcbjojakaaMgR
import Derived.Test.YtbcmjjcbjojakaaHeldBy
section
/- A queue of written messages: a row that is cut from its beginning and appended to. Plain theorems over any program. -/
namespace Go.Proofs.Ytbcmjjcbjojakaa
open Go.RowKit
set_option linter.unusedVariables false
def Wms (ws : List Wm) : List Value := ws.flatMap Wm.cells
/-- The slice v is a queue of these messages. -/
def Que (w : World) (base e size : Nat) (v : Value) (ws : List Wm) : Prop :=
  (∀ W ∈ ws, W.cells.length = size ∧ ∀ u ∈ W.cells, u.oneCell' = true) ∧
  ((v = .slice none 0 0 ∧ ws = []) ∨
  ∃ (g off cap : Nat) (cur : Array Value), v = .slice (some ⟨g, off, none⟩) ws.length cap ∧ base ≤ g ∧ w.heap[g]? = some (.cells cur e (0, 0)) ∧ ws.length ≤ cap ∧ cap ≤ maxLen ∧ off + cap * size ≤ cur.size ∧ (cur.toList.drop off).take (ws.length * size) = Wms ws)
theorem Wms_len {ws : List Wm} {size : Nat} (h : ∀ W ∈ ws, W.cells.length = size ∧ ∀ u ∈ W.cells, u.oneCell' = true) : (Wms ws).length = ws.length * size := by
  induction ws with
  | nil => simp [Wms]
  | cons W ws ih =>
    have h1 := (h W (by simp)).1
    have h2 := ih fun x hx => h x (by simp [hx])
    unfold Wms at h2 ⊢
    rw [List.flatMap_cons, List.length_append, h1, h2, List.length_cons, Nat.add_mul]; omega
section
variable {w w' : World} {base e size : Nat} {v v' : Value} {ws : List Wm} {W : Wm}
theorem Que.nil (w : World) (base e size : Nat) : Que w base e size (.slice none 0 0) [] := ⟨fun _ h => absurd h List.not_mem_nil, .inl ⟨rfl, rfl⟩⟩
theorem Que.form (h : Que w base e size v ws) : ∃ A c, v = .slice A ws.length c ∧ ws.length ≤ c := by
  rcases h.2 with ⟨rfl, rfl⟩ | ⟨g, off, cap, cur, rfl, _, _, hn, _⟩
  · exact ⟨none, 0, rfl, Nat.le_refl _⟩
  · exact ⟨_, cap, rfl, hn⟩
theorem Que.lt (h : Que w base e size v ws) {k : Nat} (hk : v.ownBlock = some k) : base ≤ k ∧ k < w.heap.size := by
  rcases h.2 with ⟨rfl, rfl⟩ | ⟨g, off, cap, cur, rfl, hb, hg, _⟩
  · cases hk
  · simp only [Value.ownBlock, Option.some.injEq] at hk
    subst hk
    exact ⟨hb, (Array.getElem?_eq_some_iff.1 hg).1⟩
theorem Que.block (h : Que w base e size v ws) (hb : ∀ k, v.ownBlock = some k → w'.heap[k]? = w.heap[k]?) : Que w' base e size v ws := by
  refine ⟨h.1, ?_⟩
  rcases h.2 with ⟨rfl, rfl⟩ | ⟨g, off, cap, cur, rfl, h1, hg, h2⟩
  · exact .inl ⟨rfl, rfl⟩
  · exact .inr ⟨g, off, cap, cur, rfl, h1, by rw [hb g (by simp [Value.ownBlock])]; exact hg, h2⟩
theorem Que.chg {X : List Nat} (h : Que w base e size v ws) (c : Chg X w w') (hX : ∀ k, v.ownBlock = some k → k ∉ X) : Que w' base e size v ws :=
  h.block fun k hk => c.block k (h.lt hk).2 (hX k hk)
/-- The first message lies at the slice's beginning. -/
theorem Que.first (h : Que w base e size v (W :: ws)) (hs : 0 < size) : ∃ g off cap, v = .slice (some ⟨g, off, none⟩) (ws.length + 1) cap ∧ base ≤ g ∧ g < w.heap.size ∧ w.rangeAt g off W.cells := by
  rcases h.2 with ⟨_, h0⟩ | ⟨g, off, cap, cur, rfl, hb, hg, h1, h2, h3, h4⟩
  · cases h0
  · refine ⟨g, off, cap, rfl, hb, (Array.getElem?_eq_some_iff.1 hg).1, fun j u hj => ?_⟩
    have hl := (h.1 W (by simp)).1
    have hjl := (List.getElem?_eq_some_iff.1 hj).1
    rw [cell_of_row w g (off + j) cur e (0, 0) hg]
    have e1 : (Wms (W :: ws))[j]? = some u := by unfold Wms; rw [List.flatMap_cons, List.getElem?_append_left hjl]; exact hj
    rw [← h4, List.getElem?_take, if_pos (by simp only [List.length_cons, Nat.add_mul, Nat.one_mul]; omega), List.getElem?_drop] at e1
    simpa using e1
theorem run_cut_fromN {P : Program} {w : World} {t e size bytes : Nat} (E : ElN P t e size bytes) (A : Option Addr) (n c l : Nat) (hl : l ≤ n) :
    (Instr.slice t (.slice A n c) (some (.int .i64 (l : Int))) none none).run P w = .ok (.slice (if c = l then A else A.map (·.add (l * size))) (n - l) (c - l)) w := by
  obtain ⟨i, z, hi, hz, hs, hb, hzs⟩ := E.hi
  simp [Instr.slice, run_underlying E.ht, Instr.sliceBounds, run_sliceBound, sizeOf, typeInfo, hi, hs, hl, Int.ofNat_le]
/-- Cut from the front. -/
theorem Que.pop (h : Que w base e size v (W :: ws)) {P : Program} {t bytes : Nat} (E : ElN P t e size bytes) : ∃ v', (Instr.slice t v (some (.int .i64 1)) none none).run P w = .ok v' w ∧ Que w base e size v' ws ∧ v'.ownBlock = v.ownBlock := by
  obtain ⟨i, z, hi, hz, hs, hb, hzs⟩ := E.hi
  rcases h.2 with ⟨_, h0⟩ | ⟨g, off, cap, cur, rfl, hb', hg, h1, h2, h3, h4⟩
  · cases h0
  have hl := (h.1 W (by simp)).1
  simp only [List.length_cons] at h1 h4 ⊢
  have hrun := run_cut_fromN (w := w) E (some ⟨g, off, none⟩) (ws.length + 1) cap 1 (by omega)
  refine ⟨_, hrun, ⟨fun x hx => h.1 x (by simp [hx]), ?_⟩, ?_⟩
  · by_cases hc : cap = 1
    · have : ws = [] := List.eq_nil_of_length_eq_zero (by omega)
      subst this hc
      exact .inr ⟨g, off, 0, cur, by simp, hb', hg, by simp, by omega, by omega, by simp [Wms]⟩
    · refine .inr ⟨g, off + size, cap - 1, cur, ?_, hb', hg, by omega, by omega, ?_, ?_⟩
      · rw [if_neg hc]; simp only [Option.map_some, Nat.one_mul, Nat.add_sub_cancel]
        congr 2
        unfold Addr.add; split
        · rename_i h0; subst h0; rfl
        · rfl
      · have : cap = (cap - 1) + 1 := by omega
        rw [this, Nat.add_mul, Nat.one_mul] at h3; omega
      · have e1 : Wms (W :: ws) = W.cells ++ Wms ws := by unfold Wms; rw [List.flatMap_cons]
        rw [e1] at h4
        have e2 := congrArg (List.drop size) h4
        rw [List.drop_left' hl, List.drop_take, List.drop_drop] at e2
        rw [← e2]
        congr 1
        rw [Nat.add_mul, Nat.one_mul]; omega
  · by_cases hc : cap = 1
    · rw [if_pos hc]; rfl
    · rw [if_neg hc]
      simp only [Option.map_some, Value.ownBlock]
      unfold Addr.add; split <;> rfl
/-- 'append' behind an offset, where there is room. -/
theorem run_append_roomO {P : Program} (w : World) (t ty e : TypeId) (i : TypeInfo) (ht : P.underlying t = some (.slice e)) (hi : P.info? e = some i)
    (g off sLen sCap : Nat) (cur : Array Value) (hg : w.heap[g]? = some (.cells cur e (0, 0)))
    (a : Addr) (m c : Nat) (news : List Value) (hl : news.length = m * i.size) (hnews : ∀ j u, news[j]? = some u → w.cell? (a.add j) = some u) (h1 : ∀ u ∈ news, u.oneCell' = true)
    (hroom : sLen + m ≤ sCap) (hfit : off + sLen * i.size + news.length ≤ cur.size) :
    (Builtin.append_ #[t, t] ty #[.slice (some ⟨g, off, none⟩) sLen sCap, .slice (some a) m c]).run P w =
      .ok (.slice (some ⟨g, off, none⟩) (sLen + m) sCap) (w.setRow g (cur.toList.take (off + sLen * i.size) ++ news ++ cur.toList.drop (off + sLen * i.size + news.length)).toArray) := by
  have hf := run_firstCells_some (P := P) w i.size m a m c news hl hnews
  have hst := run_storeCells_at P g (off + sLen * i.size) e news 0 cur w hg (by simpa using hfit) h1
  simp only [Nat.add_zero] at hst
  have ha : (⟨g, off, none⟩ : Addr).add (sLen * i.size) = ⟨g, off + sLen * i.size, none⟩ := by unfold Addr.add; split <;> simp_all
  simp [Builtin.append_, run_underlying ht, sizeOf, typeInfo, hi, Builtin.lenOf, hroom, hf, ha, hst]
/-- A message more. -/
theorem Que.push (h : Que w base e size v ws) {P : Program} {t ty bytes : Nat} (E : ElN P t e size bytes) (hW : W.cells.length = size ∧ ∀ u ∈ W.cells, u.oneCell' = true)
    (a : Addr) (c : Nat) (ha : ∀ j u, W.cells[j]? = some u → w.cell? (a.add j) = some u) (h63 : ws.length + 1 ≤ 1000000000000) (hbytes : (ws.length + 1) * bytes ≤ 140737488355328) (hbase : base ≤ w.heap.size) :
    ∃ v' w', (Builtin.append_ #[t, t] ty #[v, .slice (some a) 1 c]).run P w = .ok v' w' ∧ Que w' base e size v' (ws ++ [W]) ∧ w.grownBy w' v.ownBlock ∧ (v'.ownBlock = v.ownBlock ∨ v'.ownBlock = some w.heap.size) := by
  obtain ⟨i, z, hi, hz, hs, hb, hzs⟩ := E.hi
  have hall : ∀ x ∈ ws ++ [W], x.cells.length = size ∧ ∀ u ∈ x.cells, u.oneCell' = true := fun x hx => by
    rcases List.mem_append.1 hx with h1 | h1
    · exact h.1 x h1
    · rw [List.mem_singleton.1 h1]; exact hW
  have e1 : Wms (ws ++ [W]) = Wms ws ++ W.cells := by unfold Wms; rw [List.flatMap_append]; simp
  have hwl := Wms_len h.1
  rcases h.2 with ⟨rfl, rfl⟩ | ⟨g, off, cap, cur, rfl, hb', hg, h1, h2, h3, h4⟩
  · obtain ⟨v', w', hr, h2, h3, _, h5⟩ := run_append_own_at (P := P) w base t ty e i z size bytes E.ht hi hz hs hb hzs E.hs.1 (.slice none 0 0) 0 [] (World.ownsRow_nil ..) a 1 c W.cells (by rw [hW.1]; omega) ha hW.2 (by unfold maxLen; omega) (by simpa using hbytes) hbase
    refine ⟨v', w', hr, ⟨hall, ?_⟩, h3, h5⟩
    rcases h2.2 with ⟨_, h0⟩ | ⟨g, cap, cur, rfl, hb', hg, hn, hm, hcs, ht⟩
    · omega
    · exact .inr ⟨g, 0, cap, cur, by simp, hb', hg, by simpa using hn, hm, by omega, by simpa [Wms] using ht⟩
  · by_cases hroom : ws.length + 1 ≤ cap
    · have hfit : off + ws.length * i.size + W.cells.length ≤ cur.size := by
        rw [hs, hW.1]
        have : (ws.length + 1) * size ≤ cap * size := Nat.mul_le_mul_right _ hroom
        rw [Nat.add_mul, Nat.one_mul] at this; omega
      have hr := run_append_roomO (P := P) w t ty e i E.ht hi g off ws.length cap cur hg a 1 c W.cells (by rw [hW.1, hs]; omega) ha hW.2 hroom hfit
      refine ⟨_, _, hr, ⟨hall, .inr ⟨g, off, cap, _, by simp, hb', setRow_heap w g cur _ e _ hg, by simpa using hroom, h2, ?_, ?_⟩⟩, ⟨rfl, rfl, rfl, by simp [World.setRow], fun k _ hk => setRow_other w g k _ (fun e => hk (by simp [Value.ownBlock, e]))⟩, .inl rfl⟩
      · simp only [List.size_toArray, List.length_append, List.length_take, List.length_drop, Array.length_toList]; omega
      · rw [e1, ← h4, hs]
        simp only [List.length_append, List.length_cons, List.length_nil]
        have hlo : (cur.toList.take (off + ws.length * size)).length = off + ws.length * size := by rw [List.length_take, Array.length_toList]; have hf2 := hfit; rw [hs] at hf2; exact Nat.min_eq_left (Nat.le_trans (Nat.le_add_right _ _) hf2)
        rw [List.append_assoc, List.drop_append_of_le_length (by rw [hlo]; omega), List.drop_take, show off + ws.length * size - off = ws.length * size by omega]
        rw [Nat.add_mul, Nat.one_mul]
        have hlx : ((cur.toList.drop off).take (ws.length * size)).length = ws.length * size := by rw [h4]; exact hwl
        rw [← List.append_assoc, List.take_append_of_le_length (by rw [List.length_append, hlx, hW.1]; simp), List.take_of_length_le (by rw [List.length_append, hlx, hW.1]; simp)]
    · have hcell : ∀ j u, (Wms ws)[j]? = some u → w.cell? ((⟨g, off, none⟩ : Addr).add j) = some u := fun j u hj => by
        have hjl := (List.getElem?_eq_some_iff.1 hj).1
        rw [hwl] at hjl
        rw [show (⟨g, off, none⟩ : Addr).add j = ⟨g, off + j, none⟩ by unfold Addr.add; split <;> simp_all, cell_of_row w g (off + j) cur e (0, 0) hg]
        rw [← h4, List.getElem?_take, if_pos hjl, List.getElem?_drop] at hj
        simpa using hj
      have hr := run_append_grow (P := P) w t ty e i z E.ht hi hz ⟨g, off, none⟩ ws.length cap (Wms ws) (by rw [hs]; exact hwl) hcell a 1 c W.cells (by rw [hs, hW.1]; omega) ha (by omega) (by omega) (growslice_fits (by omega) (by rw [hb]; exact hbytes))
      have hge := grownCap_ge w (ws.length + 1) cap e
      have hcm : grownCap w (ws.length + 1) cap e ≤ maxLen := grownCap_le_maxLen w (ws.length + 1) cap e (by unfold maxLen; omega)
      refine ⟨_, _, hr, ⟨hall, .inr ⟨w.heap.size, 0, _, _, by simp, hbase, heap_alloc_new w.drew _, by simpa using hge, hcm, ?_, ?_⟩⟩, ⟨rfl, rfl, rfl, by simp, fun k hk _ => heap_alloc_old w.drew _ hk⟩, .inr rfl⟩
      · simp only [Array.size_append, List.size_toArray, size_zeroCells, hzs, hwl, hW.1, Nat.zero_add]
        obtain ⟨q, hq⟩ : ∃ q, grownCap w (ws.length + 1) cap e = ws.length + 1 + q := ⟨grownCap w (ws.length + 1) cap e - (ws.length + 1), by omega⟩
        rw [hq, Nat.add_sub_cancel_left, Nat.add_mul, Nat.add_mul, Nat.one_mul]; omega
      · rw [e1]
        simp only [Array.toList_append, List.drop_zero, List.length_append, List.length_cons, List.length_nil]
        rw [List.take_append_of_le_length (by simp only [List.length_append, hwl, hW.1]; rw [Nat.add_mul]; omega), List.take_of_length_le (by simp only [List.length_append, hwl, hW.1]; rw [Nat.add_mul]; omega)]
end
end Go.Proofs.Ytbcmjjcbjojakaa
end
section
/- Plain: a stream of chunks gone through, and that it may be cut anywhere. -/
namespace Go.Proofs.Ytbcmjjcbjojakaa
open Go.RowKit
set_option linter.unusedVariables false
/-- What the head of some bytes says. -/
inductive Ck where
  | wait
  | bad (e : Int)
  | ok (last : Bool) (n : Nat)
def seg (b : List Nat) (i n : Nat) : List Nat := (b.drop i).take n
/-- How many bytes the chunk has. -/
def ckN (b : List Nat) : Nat := b.getD 1 0 + 256 * b.getD 2 0
/-- Is the chunk's head odd? -/
def ckOdd (k : Nat) (b : List Nat) : Prop := (b.getD 0 0 ≠ 1 ∧ b.getD 0 0 ≠ 2) ∨ ckN b = 0 ∨ 16384 < ckN b ∨ (b.getD 0 0 = 1 ∧ (ckN b ≠ 16384 ∨ k = 2047))
instance (k : Nat) (b : List Nat) : Decidable (ckOdd k b) := by unfold ckOdd; infer_instance
def ckP (s k : Nat) (b : List Nat) : Ck :=
  if b.length < 7 then .wait
  else if Crc.more 0 (b.take 3) ≠ le256 (seg b 3 4) then .bad 302
  else if ckOdd k b then .bad 301
  else if b.length < ckN b + 11 then .wait
  else if Crc.more s (seg b 7 (ckN b)) ≠ le256 (seg b (7 + ckN b) 4) then .bad 302
  else .ok (decide (b.getD 0 0 = 2)) (ckN b)
theorem seg_app {a : List Nat} {i n : Nat} (b : List Nat) (h : i + n ≤ a.length) : seg (a ++ b) i n = seg a i n := by
  unfold seg; rw [List.drop_append_of_le_length (by omega), List.take_append_of_le_length (by rw [List.length_drop]; omega)]
theorem getD_app {a : List Nat} {i : Nat} (b : List Nat) (h : i < a.length) : (a ++ b).getD i 0 = a.getD i 0 := by
  rw [List.getD_eq_getElem?_getD, List.getD_eq_getElem?_getD, List.getElem?_append_left h]
theorem ckN_app {a : List Nat} (b : List Nat) (h : 7 ≤ a.length) : ckN (a ++ b) = ckN a := by
  unfold ckN; rw [getD_app b (by omega), getD_app b (by omega)]
theorem ckOdd_app {a : List Nat} (k : Nat) (b : List Nat) (h : 7 ≤ a.length) : ckOdd k (a ++ b) ↔ ckOdd k a := by
  unfold ckOdd; rw [ckN_app b h, getD_app b (by omega)]
/-- What was decided stays decided. -/
theorem ckP_app {s k : Nat} {a : List Nat} (b : List Nat) (h : ckP s k a ≠ .wait) : ckP s k (a ++ b) = ckP s k a := by
  unfold ckP at h ⊢
  by_cases h7 : a.length < 7
  · rw [if_pos h7] at h; exact absurd rfl h
  rw [if_neg h7] at h ⊢
  rw [if_neg (by rw [List.length_append]; omega), List.take_append_of_le_length (by omega), seg_app b (by omega), ckN_app b (by omega), getD_app b (by omega)]
  simp only [ckOdd_app k b (show 7 ≤ a.length by omega)]
  split
  · rfl
  rename_i h1
  rw [if_neg h1] at h
  split
  · rfl
  rename_i h2
  rw [if_neg h2] at h
  by_cases h3 : a.length < ckN a + 11
  · rw [if_pos h3] at h; exact absurd rfl h
  rw [if_neg h3, if_neg (by rw [List.length_append]; omega), seg_app b (by omega), seg_app b (by omega)]
theorem ckP_ok {s k : Nat} {a : List Nat} {l : Bool} {n : Nat} (h : ckP s k a = .ok l n) : n + 11 ≤ a.length ∧ 0 < n ∧ n ≤ 16384 ∧ n = ckN a ∧ ckOdd k a = False ∧ l = decide (a.getD 0 0 = 2) ∧
    Crc.more 0 (a.take 3) = le256 (seg a 3 4) ∧ Crc.more s (seg a 7 n) = le256 (seg a (7 + n) 4) ∧ (l = false → a.getD 0 0 = 1 ∧ n = 16384 ∧ k ≠ 2047) := by
  unfold ckP at h
  split at h
  · cases h
  split at h
  · cases h
  rename_i h1
  split at h
  · cases h
  rename_i h2
  split at h
  · cases h
  rename_i h3
  split at h
  · cases h
  rename_i h4
  injection h with e1 e2
  subst e2
  have h5 := h2
  unfold ckOdd at h5
  refine ⟨by omega, by omega, by omega, rfl, eq_false h2, e1.symm, by omega, by omega, fun hl => ?_⟩
  subst hl
  have := of_decide_eq_false e1
  omega
/-- A message under way: its content, the sum, its chunks, how many bytes. -/
structure Mid where
  c : List Nat
  s : Nat
  k : Nat
  p : Nat
def mid0 : Mid := ⟨[], 0, 0, 0⟩
def Mid.next (m : Mid) (b : List Nat) (n : Nat) : Mid := ⟨m.c ++ seg b 7 n, Crc.more m.s (seg b 7 n), m.k + 1, m.p + (n + 11)⟩
structure Out (M : Type) where
  ms : List M
  fl : Int
  mid : Mid
  rest : List Nat
def Out.pre {M : Type} (x : M) (o : Out M) : Out M := ⟨x :: o.ms, o.fl, o.mid, o.rest⟩
def goF {M : Type} (rd : List Nat → Option M) : Nat → Mid → List Nat → Out M
  | 0, m, b => ⟨[], 0, m, b⟩
  | f + 1, m, b =>
    match ckP m.s m.k b with
    | .wait => ⟨[], 0, m, b⟩
    | .bad e => ⟨[], e, m, b⟩
    | .ok false n => goF rd f (m.next b n) (b.drop (n + 11))
    | .ok true n =>
      match rd (m.next b n).c with
      | none => ⟨[], 300, mid0, b.drop (n + 11)⟩
      | some x => (goF rd f mid0 (b.drop (n + 11))).pre x
/-- The bytes gone through. -/
def go {M : Type} (rd : List Nat → Option M) (m : Mid) (b : List Nat) : Out M := goF rd b.length m b
section
variable {M : Type} {rd : List Nat → Option M}
theorem ckP_nil (s k : Nat) : ckP s k [] = .wait := by unfold ckP; rw [if_pos (by simp)]
theorem goF_len : ∀ (f g : Nat) (m : Mid) (b : List Nat), b.length ≤ f → b.length ≤ g → goF rd f m b = goF rd g m b
  | 0, 0, m, b, _, _ => rfl
  | 0, g + 1, m, b, h1, h2 => by
    have : b = [] := List.eq_nil_of_length_eq_zero (by omega)
    subst this
    unfold goF; rw [ckP_nil]
  | f + 1, 0, m, b, h1, h2 => by
    have : b = [] := List.eq_nil_of_length_eq_zero (by omega)
    subst this
    unfold goF; rw [ckP_nil]
  | f + 1, g + 1, m, b, h1, h2 => by
    unfold goF
    split
    · rfl
    · rfl
    · rename_i n hc
      have := (ckP_ok hc).1
      exact goF_len f g _ _ (by rw [List.length_drop]; omega) (by rw [List.length_drop]; omega)
    · rename_i n hc
      have := (ckP_ok hc).1
      split
      · rfl
      · rw [goF_len f g _ _ (by rw [List.length_drop]; omega) (by rw [List.length_drop]; omega)]
theorem go_wait {m : Mid} {b : List Nat} (h : ckP m.s m.k b = .wait) : go rd m b = ⟨[], 0, m, b⟩ := by
  unfold go
  cases hb : b.length with
  | zero => rfl
  | succ f => unfold goF; rw [h]
theorem len_pos {m : Mid} {b : List Nat} (h : ckP m.s m.k b ≠ .wait) : ∃ f, b.length = f + 1 := by
  cases hb : b.length with
  | zero => have : b = [] := List.eq_nil_of_length_eq_zero hb; subst this; exact absurd (ckP_nil _ _) h
  | succ f => exact ⟨f, rfl⟩
theorem go_bad {m : Mid} {b : List Nat} {e : Int} (h : ckP m.s m.k b = .bad e) : go rd m b = ⟨[], e, m, b⟩ := by
  obtain ⟨f, hf⟩ := len_pos (m := m) (b := b) (by rw [h]; exact fun h => by cases h)
  unfold go; rw [hf]; unfold goF; rw [h]
theorem go_more {m : Mid} {b : List Nat} {n : Nat} (h : ckP m.s m.k b = .ok false n) : go rd m b = go rd (m.next b n) (b.drop (n + 11)) := by
  obtain ⟨f, hf⟩ := len_pos (m := m) (b := b) (by rw [h]; exact fun h => by cases h)
  have := (ckP_ok h).1
  unfold go; rw [hf]; conv => lhs; unfold goF
  rw [h]
  exact goF_len _ _ _ _ (by rw [List.length_drop]; omega) (by rw [List.length_drop]; omega)
theorem go_none {m : Mid} {b : List Nat} {n : Nat} (h : ckP m.s m.k b = .ok true n) (hr : rd (m.next b n).c = none) : go rd m b = ⟨[], 300, mid0, b.drop (n + 11)⟩ := by
  obtain ⟨f, hf⟩ := len_pos (m := m) (b := b) (by rw [h]; exact fun h => by cases h)
  unfold go; rw [hf]; unfold goF; rw [h]; simp only; rw [hr]
theorem go_some {m : Mid} {b : List Nat} {n : Nat} {x : M} (h : ckP m.s m.k b = .ok true n) (hr : rd (m.next b n).c = some x) : go rd m b = (go rd mid0 (b.drop (n + 11))).pre x := by
  obtain ⟨f, hf⟩ := len_pos (m := m) (b := b) (by rw [h]; exact fun h => by cases h)
  have := (ckP_ok h).1
  unfold go; rw [hf]; conv => lhs; unfold goF
  rw [h]; simp only; rw [hr]; simp only
  rw [goF_len f (b.drop (n + 11)).length _ _ (by rw [List.length_drop]; omega) (Nat.le_refl _)]
theorem ckP_bad {s k : Nat} {a : List Nat} {e : Int} (h : ckP s k a = .bad e) : e = 302 ∨ e = 301 := by
  unfold ckP at h
  split at h
  · cases h
  split at h
  · injection h with h; exact .inl h.symm
  split at h
  · injection h with h; exact .inr h.symm
  split at h
  · cases h
  split at h
  · injection h with h; exact .inl h.symm
  · cases h
/-- How a walk over the bytes goes. -/
theorem go_ind {P : Mid → List Nat → Prop}
    (wait : ∀ m b, ckP m.s m.k b = .wait → P m b) (bad : ∀ m b e, ckP m.s m.k b = .bad e → P m b)
    (more : ∀ m b n, ckP m.s m.k b = .ok false n → P (m.next b n) (b.drop (n + 11)) → P m b)
    (none_ : ∀ m b n, ckP m.s m.k b = .ok true n → rd (m.next b n).c = none → P m b)
    (some_ : ∀ m b n x, ckP m.s m.k b = .ok true n → rd (m.next b n).c = some x → P mid0 (b.drop (n + 11)) → P m b) : ∀ m b, P m b := by
  have : ∀ (f : Nat) (m : Mid) (b : List Nat), b.length ≤ f → P m b := by
    intro f
    induction f with
    | zero =>
      intro m b hb
      have : b = [] := List.eq_nil_of_length_eq_zero (by omega)
      subst this
      exact wait m [] (ckP_nil _ _)
    | succ f ih =>
      intro m b hb
      cases h : ckP m.s m.k b with
      | wait => exact wait m b h
      | bad e => exact bad m b e h
      | ok l n =>
        have h11 := (ckP_ok h).1
        cases l with
        | false => exact more m b n h (ih _ _ (by rw [List.length_drop]; omega))
        | true =>
          cases hr : rd (m.next b n).c with
          | none => exact none_ m b n h hr
          | some x => exact some_ m b n x h hr (ih _ _ (by rw [List.length_drop]; omega))
  exact fun m b => this b.length m b (Nat.le_refl _)
theorem next_app {m : Mid} {a : List Nat} {n : Nat} (b : List Nat) (h : n + 11 ≤ a.length) : m.next (a ++ b) n = m.next a n := by
  unfold Mid.next; rw [seg_app b (by omega)]
/-- Bytes that come in two pieces. -/
theorem go_app (b : List Nat) : ∀ (m : Mid) (a : List Nat),
    ((go rd m a).fl = 0 → go rd m (a ++ b) = ⟨(go rd m a).ms ++ (go rd (go rd m a).mid ((go rd m a).rest ++ b)).ms, (go rd (go rd m a).mid ((go rd m a).rest ++ b)).fl, (go rd (go rd m a).mid ((go rd m a).rest ++ b)).mid, (go rd (go rd m a).mid ((go rd m a).rest ++ b)).rest⟩) ∧
    ((go rd m a).fl ≠ 0 → (go rd m (a ++ b)).ms = (go rd m a).ms ∧ (go rd m (a ++ b)).fl = (go rd m a).fl) := by
  refine go_ind (rd := rd) ?_ ?_ ?_ ?_ ?_
  · intro m a h
    rw [go_wait h]
    exact ⟨fun _ => by simp, fun h0 => absurd rfl h0⟩
  · intro m a e h
    have he := ckP_bad h
    rw [go_bad h, go_bad (b := a ++ b) (e := e) (by rw [ckP_app b (by rw [h]; exact fun h => by cases h), h])]
    exact ⟨fun h0 => absurd h0 (by simp only; omega), fun _ => ⟨rfl, rfl⟩⟩
  · intro m a n h ih
    have h1 : ckP m.s m.k (a ++ b) = .ok false n := by rw [ckP_app b (by rw [h]; exact fun h => by cases h), h]
    have h2 := (ckP_ok h).1
    rw [go_more h, go_more h1, next_app b h2, List.drop_append_of_le_length h2]
    exact ih
  · intro m a n h hr
    have h1 : ckP m.s m.k (a ++ b) = .ok true n := by rw [ckP_app b (by rw [h]; exact fun h => by cases h), h]
    have h2 := (ckP_ok h).1
    rw [go_none h hr, go_none h1 (by rw [next_app b h2]; exact hr)]
    exact ⟨fun h0 => absurd h0 (by simp only; omega), fun _ => ⟨rfl, rfl⟩⟩
  · intro m a n x h hr ih
    have h1 : ckP m.s m.k (a ++ b) = .ok true n := by rw [ckP_app b (by rw [h]; exact fun h => by cases h), h]
    have h2 := (ckP_ok h).1
    rw [go_some h hr, go_some h1 (by rw [next_app b h2]; exact hr), List.drop_append_of_le_length h2]
    unfold Out.pre
    simp only
    refine ⟨fun h0 => ?_, fun h0 => ?_⟩
    · rw [ih.1 h0]; rfl
    · exact ⟨by rw [(ih.2 h0).1], (ih.2 h0).2⟩
/-- Each message took twenty bytes at least, and what is not gone through is short. -/
theorem go_len : ∀ (m : Mid) (b : List Nat), (go rd m b).ms.length * 12 + (go rd m b).rest.length ≤ b.length := by
  refine go_ind (rd := rd) ?_ ?_ ?_ ?_ ?_
  · intro m b h; rw [go_wait h]; simp
  · intro m b e h; rw [go_bad h]; simp
  · intro m b n h ih
    rw [go_more h]
    have := (ckP_ok h).1
    rw [List.length_drop] at ih; omega
  · intro m b n h hr
    rw [go_none h hr]
    have := (ckP_ok h).1
    simp only [List.length_drop, List.length_nil]; omega
  · intro m b n x h hr ih
    rw [go_some h hr]
    have := (ckP_ok h).1
    have := (ckP_ok h).2.1
    unfold Out.pre
    simp only [List.length_cons]
    rw [List.length_drop] at ih; omega
/-- How many bytes are held. -/
def Out.held (o : Out M) : Nat := if o.fl = 0 then o.mid.p + o.rest.length else 0
end
end Go.Proofs.Ytbcmjjcbjojakaa
end
section
/- The reader in memory: its box, its three rows, its messages; steps of regions that draw their order. -/
namespace Go.Proofs.Ytbcmjjcbjojakaa
open Go.RowKit
set_option linter.unusedVariables false
/-- Element by element. -/
def Alike {α β : Type} (R : α → β → Prop) : List α → List β → Prop
  | [], [] => True
  | a :: l, b :: m => R a b ∧ Alike R l m
  | _, _ => False
theorem forall2_snoc {α β : Type} {R : α → β → Prop} : ∀ {l : List α} {m : List β} {a : α} {b : β}, Alike R l m → R a b → Alike R (l ++ [a]) (m ++ [b])
  | [], [], _, _, _, h => ⟨h, trivial⟩
  | [], _ :: _, _, _, h, _ => h.elim
  | _ :: _, [], _, _, h, _ => h.elim
  | _ :: _, _ :: _, _, _, h, h2 => ⟨h.1, forall2_snoc h.2 h2⟩
theorem Alike.len {α β : Type} {R : α → β → Prop} : ∀ {l : List α} {m : List β}, Alike R l m → l.length = m.length
  | [], [], _ => rfl
  | [], _ :: _, h => h.elim
  | _ :: _, [], h => h.elim
  | _ :: _, _ :: _, h => by simp only [List.length_cons]; rw [Alike.len h.2]
/-- A kind of messages. -/
structure Kd (T : Type) where
  ans : Bool
  rd : List Nat → Option T
  is : Wm → T → Prop
  e : Nat
  sl : Nat
  m : Nat
  by_ : Nat
def askK : Kd Rq := ⟨false, rdRq, rqIs, 28, 55, 8, 96⟩
def telK : Kd An := ⟨true, rdAn, anIs, 43, 56, 15, 176⟩
theorem infoRqF : (Try.prog.info? 28).map (fun i => (i.zero.map (·.cells.size), i.size, i.bytes)) = some (some 8, 8, 96) := by kernel_rfl
theorem infoAnF : (Try.prog.info? 43).map (fun i => (i.zero.map (·.cells.size), i.size, i.bytes)) = some (some 15, 15, 176) := by kernel_rfl
theorem info_partsN {P : Program} {e m by_ : Nat} (h : (P.info? e).map (fun i => (i.zero.map (·.cells.size), i.size, i.bytes)) = some (some m, m, by_)) : ∃ i z, P.info? e = some i ∧ i.zero = some z ∧ i.size = m ∧ i.bytes = by_ ∧ z.cells.size = m := by
  cases hi : P.info? e with
  | none => rw [hi] at h; cases h
  | some i =>
    rw [hi] at h
    simp only [Option.map_some, Option.some.injEq, Prod.mk.injEq] at h
    obtain ⟨h1, h2, h3⟩ := h
    cases hz : i.zero with
    | none => rw [hz] at h1; cases h1
    | some z => rw [hz] at h1; simp only [Option.map_some, Option.some.injEq] at h1; exact ⟨i, z, rfl, hz, h2, h3, h1⟩
theorem elRq : ElN Try.prog 55 28 8 96 := ⟨Try.underlying55, info_partsN infoRqF, by omega⟩
theorem elAn : ElN Try.prog 56 43 15 176 := ⟨Try.underlying56, info_partsN infoAnF, by omega⟩
/-- The cells of a reader. -/
def rdC (ans : Bool) (vl vc : Value) (S C k p : Nat) (fl : Int) (vq : Value) : Array Value :=
  #[.bool ans, vl, vc, .int .u32 (S : Int), .int .u64 (C : Int), .int .i64 (k : Int), .int .i64 (p : Int), .int .i64 fl, (if ans then .slice none 0 0 else vq), (if ans then vq else .slice none 0 0)]
/-- The blocks that a reader writes beside its loose bytes' one. -/
def rdY (g : Nat) (vc vq : Value) : List Nat := g :: (vc.ownBlock.toList ++ vq.ownBlock.toList)
def rdX (g : Nat) (vl vc vq : Value) : List Nat := vl.ownBlock.toList ++ rdY g vc vq
theorem mem_Y {g k : Nat} {vc vq : Value} : k ∈ rdY g vc vq ↔ k = g ∨ vc.ownBlock = some k ∨ vq.ownBlock = some k := by
  unfold rdY; simp only [List.mem_cons, List.mem_append, Option.mem_toList]
theorem mem_X {g k : Nat} {vl vc vq : Value} : k ∈ rdX g vl vc vq ↔ vl.ownBlock = some k ∨ k = g ∨ vc.ownBlock = some k ∨ vq.ownBlock = some k := by
  unfold rdX; rw [List.mem_append, mem_Y, Option.mem_toList]
/-- A reader in memory. -/
structure RdS {T : Type} (Z : Kd T) (base : Nat) (w : World) (g : Nat) (vl vc vq : Value) (L c : List Nat) (S C k p : Nat) (fl : Int) (ws : List Wm) (xs : List T) : Prop where
  box : w.heap[g]? = some (.cells (rdC Z.ans vl vc S C k p fl vq) 58)
  lo : w.ownsRow base 5 1 vl L.length (cb L)
  co : w.ownsRow base 5 1 vc c.length (cb c)
  qu : Que w base Z.e Z.m vq ws
  alc : Apart vl vc
  alq : Apart vl vq
  acq : Apart vc vq
  gl : vl.ownBlock ≠ some g
  gc : vc.ownBlock ≠ some g
  gq : vq.ownBlock ≠ some g
  bg : base ≤ g
  ok : ∀ W ∈ ws, W.ok w base
  off : ∀ W ∈ ws, W.off (rdX g vl vc vq)
  is : Alike Z.is ws xs
  s : S < 4294967296
  c64 : C < 18446744073709551616
  lb : ∀ x ∈ L, x < 256
  cb_ : ∀ x ∈ c, x < 256
section
variable {T : Type} {Z : Kd T} {base : Nat} {w w' : World} {g : Nat} {vl vc vq : Value} {L c : List Nat} {S C k p : Nat} {fl : Int} {ws : List Wm} {xs : List T}
theorem RdS.lt (h : RdS Z base w g vl vc vq L c S C k p fl ws xs) : g < w.heap.size := (Array.getElem?_eq_some_iff.1 h.box).1
theorem RdS.ltX (h : RdS Z base w g vl vc vq L c S C k p fl ws xs) {x : Nat} (hx : x ∈ rdX g vl vc vq) : base ≤ x ∧ x < w.heap.size := by
  rcases mem_X.1 hx with h1 | rfl | h1 | h1
  · exact h.lo.lt x h1
  · exact ⟨h.bg, h.lt⟩
  · exact h.co.lt x h1
  · exact h.qu.lt h1
theorem RdS.at_ (h : RdS Z base w g vl vc vq L c S C k p fl ws xs) (i : Nat) {v : Value} (hv : (rdC Z.ans vl vc S C k p fl vq)[i]? = some v) : w.cell? ⟨g, i, none⟩ = some v := by
  rw [cell_of_row w g i _ _ (0, 0) h.box]; exact hv
theorem RdS.z (h : RdS Z base w g vl vc vq L c S C k p fl ws xs) (i : Nat) : w.frozen? ⟨g, i, none⟩ = false := by simp [World.frozen?, h.box]
theorem RdS.strm (h : RdS Z base w g vl vc vq L c S C k p fl ws xs) : Strm w g 3 (rdC Z.ans vl vc S C k p fl vq) 58 S C := ⟨h.box, rfl, rfl, h.s, h.c64⟩
/-- What leaves the reader's blocks and its messages' ones alone. -/
theorem RdS.keep {Y : List Nat} (h : RdS Z base w g vl vc vq L c S C k p fl ws xs) (b : Chg Y w w') (hX : ∀ x ∈ rdX g vl vc vq, x ∉ Y) (hm : ∀ W ∈ ws, W.off Y) : RdS Z base w' g vl vc vq L c S C k p fl ws xs where
  box := by rw [b.block g h.lt (hX g (mem_X.2 (.inr (.inl rfl))))]; exact h.box
  lo := b.own h.lo fun x hx => hX x (mem_X.2 (.inl hx))
  co := b.own h.co fun x hx => hX x (mem_X.2 (.inr (.inr (.inl hx))))
  qu := h.qu.chg b fun x hx => hX x (mem_X.2 (.inr (.inr (.inr hx))))
  alc := h.alc
  alq := h.alq
  acq := h.acq
  gl := h.gl
  gc := h.gc
  gq := h.gq
  bg := h.bg
  ok := fun W hW => (h.ok W hW).chg b (hm W hW)
  off := h.off
  is := h.is
  s := h.s
  c64 := h.c64
  lb := h.lb
  cb_ := h.cb_
theorem RdS.new (h : RdS Z base w g vl vc vq L c S C k p fl ws xs) (b : Chg [] w w') : RdS Z base w' g vl vc vq L c S C k p fl ws xs :=
  h.keep b (fun x _ => List.not_mem_nil) fun W _ r _ k _ hm => absurd hm List.not_mem_nil
theorem RdS.below (h : RdS Z base w g vl vc vq L c S C k p fl ws xs) (b : Below w.heap.size w w') : RdS Z base w' g vl vc vq L c S C k p fl ws xs := h.new (Chg.of_below b)
theorem RdS.drew (h : RdS Z base w g vl vc vq L c S C k p fl ws xs) : RdS Z base w.drew g vl vc vq L c S C k p fl ws xs := h.new (Chg.refl [] w).drew
/-- The box alone has been written: numbers have turned. -/
theorem RdS.turn (h : RdS Z base w g vl vc vq L c S C k p fl ws xs) {S' C' k' p' : Nat} {fl' : Int} (hb : w'.heap[g]? = some (.cells (rdC Z.ans vl vc S' C' k' p' fl' vq) 58)) (b : Chg [g] w w') (hS : S' < 4294967296) (hC : C' < 18446744073709551616) : RdS Z base w' g vl vc vq L c S' C' k' p' fl' ws xs where
  box := hb
  lo := b.own h.lo fun x hx he => h.gl (by rw [hx, List.mem_singleton.1 he])
  co := b.own h.co fun x hx he => h.gc (by rw [hx, List.mem_singleton.1 he])
  qu := h.qu.chg b fun x hx he => h.gq (by rw [hx, List.mem_singleton.1 he])
  alc := h.alc
  alq := h.alq
  acq := h.acq
  gl := h.gl
  gc := h.gc
  gq := h.gq
  bg := h.bg
  ok := fun W hW => (h.ok W hW).chg b ((h.off W hW).mono fun x hx => by rw [List.mem_singleton.1 hx]; exact mem_X.2 (.inr (.inl rfl)))
  off := h.off
  is := h.is
  s := hS
  c64 := hC
  lb := h.lb
  cb_ := h.cb_
theorem RdS.put (h : RdS Z base w g vl vc vq L c S C k p fl ws xs) (i : Nat) (u : Value) {k' p' : Nat} {fl' : Int} (hb : (rdC Z.ans vl vc S C k p fl vq).setIfInBounds i u = rdC Z.ans vl vc S C k' p' fl' vq) : RdS Z base (w.setCell ⟨g, i, none⟩ u) g vl vc vq L c S C k' p' fl' ws xs :=
  h.turn (by rw [heap_set w g i u _ _ h.box, hb]) ((Chg.refl [g] w).setCell (by simp) u) h.s h.c64
theorem RdS.crc (h : RdS Z base w g vl vc vq L c S C k p fl ws xs) {S' C' : Nat} (hs : Strm w' g 3 (put2 (rdC Z.ans vl vc S C k p fl vq) 3 S' C') 58 S' C') (hg : w.grownBy w' (some g)) : RdS Z base w' g vl vc vq L c S' C' k p fl ws xs :=
  h.turn (by rw [hs.heap]; rfl) ⟨hg.os, hg.tape, hg.output, hg.size, fun x hx hm => hg.block x hx (by simpa using hm)⟩ hs.s hs.c
/-- The content's row has been put anew. -/
theorem RdS.cont (h : RdS Z base w g vl vc vq L c S C k p fl ws xs) {w1 : World} {vc' : Value} {c' : List Nat} {Y : List Nat} (b : Chg Y w w1) (hY : ∀ x ∈ Y, vc.ownBlock = some x) (o : w1.ownsRow base 5 1 vc' c'.length (cb c'))
    (hn : ∀ x, vc'.ownBlock = some x → vc.ownBlock = some x ∨ w.heap.size ≤ x) (hc : ∀ x ∈ c', x < 256) : RdS Z base (w1.setCell ⟨g, 2, none⟩ vc') g vl vc' vq L c' S C k p fl ws xs := by
  have hg : g ∉ Y := fun hm => h.gc (hY g hm)
  have b2 : Chg (g :: Y) w (w1.setCell ⟨g, 2, none⟩ vc') := (b.mono (fun x hx _ => List.mem_cons_of_mem _ hx)).setCell (by simp) vc'
  have hnew : ∀ {x : Nat}, x < w.heap.size → vc'.ownBlock = some x → vc.ownBlock = some x := fun hx hv => (hn _ hv).resolve_right (by omega)
  have gc' : vc'.ownBlock ≠ some g := fun e => h.gc (hnew h.lt e)
  refine ⟨?_, ?_, ?_, ?_, ?_, h.alq, ?_, h.gl, gc', h.gq, h.bg, fun W hW => ?_, fun W hW => ?_, h.is, h.s, h.c64, h.lb, hc⟩
  · rw [heap_set w1 g 2 vc' _ _ (by rw [b.block g h.lt hg]; exact h.box)]; rfl
  · refine b2.own h.lo fun x hx hm => ?_
    rcases List.mem_cons.1 hm with rfl | hm
    · exact h.gl hx
    · exact h.alc x hx (hY x hm)
  · exact (Chg.setCell (L := [g]) (Chg.refl _ w1) (p := ⟨g, 2, none⟩) (by simp) vc').own o fun x hx hm => gc' (by rw [hx, List.mem_singleton.1 hm])
  · refine h.qu.chg b2 fun x hx hm => ?_
    rcases List.mem_cons.1 hm with rfl | hm
    · exact h.gq hx
    · exact h.acq x (hY x hm) hx
  · exact fun x hx hv => h.alc x hx (hnew (h.lo.lt x hx).2 hv)
  · exact fun x hv hx => h.acq x (hnew (h.qu.lt hx).2 hv) hx
  · refine (h.ok W hW).chg b2 ((h.off W hW).mono fun x hx => ?_)
    rcases List.mem_cons.1 hx with rfl | hx
    · exact mem_X.2 (.inr (.inl rfl))
    · exact mem_X.2 (.inr (.inr (.inl (hY x hx))))
  · refine (h.off W hW).new (h.ok W hW) fun x hx => ?_
    rcases mem_X.1 hx with h1 | h1 | h1 | h1
    · exact .inl (mem_X.2 (.inl h1))
    · exact .inl (mem_X.2 (.inr (.inl h1)))
    · rcases hn x h1 with h2 | h2
      · exact .inl (mem_X.2 (.inr (.inr (.inl h2))))
      · exact .inr h2
    · exact .inl (mem_X.2 (.inr (.inr (.inr h1))))
/-- The loose bytes' row has been put anew. -/
theorem RdS.loose (h : RdS Z base w g vl vc vq L c S C k p fl ws xs) {w1 : World} {vl' : Value} {L' : List Nat} {Y : List Nat} (b : Chg Y w w1) (hY : ∀ x ∈ Y, vl.ownBlock = some x) (o : w1.ownsRow base 5 1 vl' L'.length (cb L'))
    (hn : ∀ x, vl'.ownBlock = some x → vl.ownBlock = some x ∨ w.heap.size ≤ x) (hl : ∀ x ∈ L', x < 256) : RdS Z base (w1.setCell ⟨g, 1, none⟩ vl') g vl' vc vq L' c S C k p fl ws xs := by
  have hg : g ∉ Y := fun hm => h.gl (hY g hm)
  have b2 : Chg (g :: Y) w (w1.setCell ⟨g, 1, none⟩ vl') := (b.mono (fun x hx _ => List.mem_cons_of_mem _ hx)).setCell (by simp) vl'
  have hnew : ∀ {x : Nat}, x < w.heap.size → vl'.ownBlock = some x → vl.ownBlock = some x := fun hx hv => (hn _ hv).resolve_right (by omega)
  have gl' : vl'.ownBlock ≠ some g := fun e => h.gl (hnew h.lt e)
  refine ⟨?_, ?_, ?_, ?_, ?_, ?_, h.acq, gl', h.gc, h.gq, h.bg, fun W hW => ?_, fun W hW => ?_, h.is, h.s, h.c64, hl, h.cb_⟩
  · rw [heap_set w1 g 1 vl' _ _ (by rw [b.block g h.lt hg]; exact h.box)]; rfl
  · exact (Chg.setCell (L := [g]) (Chg.refl _ w1) (p := ⟨g, 1, none⟩) (by simp) vl').own o fun x hx hm => gl' (by rw [hx, List.mem_singleton.1 hm])
  · refine b2.own h.co fun x hx hm => ?_
    rcases List.mem_cons.1 hm with rfl | hm
    · exact h.gc hx
    · exact h.alc x (hY x hm) hx
  · refine h.qu.chg b2 fun x hx hm => ?_
    rcases List.mem_cons.1 hm with rfl | hm
    · exact h.gq hx
    · exact h.alq x (hY x hm) hx
  · exact fun x hv hx => h.alc x (hnew (h.co.lt x hx).2 hv) hx
  · exact fun x hv hx => h.alq x (hnew (h.qu.lt hx).2 hv) hx
  · refine (h.ok W hW).chg b2 ((h.off W hW).mono fun x hx => ?_)
    rcases List.mem_cons.1 hx with rfl | hx
    · exact mem_X.2 (.inr (.inl rfl))
    · exact mem_X.2 (.inl (hY x hx))
  · refine (h.off W hW).new (h.ok W hW) fun x hx => ?_
    rcases mem_X.1 hx with h1 | h1 | h1 | h1
    · rcases hn x h1 with h2 | h2
      · exact .inl (mem_X.2 (.inl h2))
      · exact .inr h2
    · exact .inl (mem_X.2 (.inr (.inl h1)))
    · exact .inl (mem_X.2 (.inr (.inr (.inl h1))))
    · exact .inl (mem_X.2 (.inr (.inr (.inr h1))))
/-- A message more in the queue. -/
theorem RdS.more (h : RdS Z base w g vl vc vq L c S C k p fl ws xs) {w1 : World} {vq' : Value} {W : Wm} {x0 : T} {N : Nat} (b : Chg [] w w1) {w2 : World} (hq : Que w2 base Z.e Z.m vq' (ws ++ [W])) (hgr : w1.grownBy w2 vq.ownBlock)
    (hn : vq'.ownBlock = vq.ownBlock ∨ ∃ x, vq'.ownBlock = some x ∧ w.heap.size ≤ x) (hW : W.ok w1 N) (hX : ∀ x ∈ rdX g vl vc vq, x < N) (hbN : base ≤ N) (hWq : ∀ r ∈ W.rows, ∀ x, r.2.1.ownBlock = some x → vq'.ownBlock ≠ some x) (hI : Z.is W x0) :
    RdS Z base (w2.setCell ⟨g, (if Z.ans then 9 else 8), none⟩ vq') g vl vc vq' L c S C k p fl (ws ++ [W]) (xs ++ [x0]) := by
  have hc : Chg vq.ownBlock.toList w w2 := (b.mono (fun x hx _ => absurd hx List.not_mem_nil)).trans ⟨hgr.os, hgr.tape, hgr.output, hgr.size, fun x hx hm => hgr.block x hx fun e => hm (by rw [Option.mem_toList]; exact e.symm)⟩
  have hg : g ∉ vq.ownBlock.toList := fun hm => h.gq (by rwa [Option.mem_toList] at hm)
  have b2 : Chg (g :: vq.ownBlock.toList) w (w2.setCell ⟨g, (if Z.ans then 9 else 8), none⟩ vq') := (hc.mono (fun x hx _ => List.mem_cons_of_mem _ hx)).setCell (by simp) vq'
  have hnew : ∀ {x : Nat}, x < w.heap.size → vq'.ownBlock = some x → vq.ownBlock = some x := fun {x} hx hv => by
    rcases hn with e | ⟨y, e, hy⟩
    · rw [← e]; exact hv
    · rw [e] at hv; injection hv; omega
  have gq' : vq'.ownBlock ≠ some g := fun e => h.gq (hnew h.lt e)
  have own2 : ∀ {e n : Nat} {v : Value} {ys : List Value}, w.ownsRow base e 1 v n ys → v.ownBlock ≠ some g → Apart v vq → (w2.setCell ⟨g, (if Z.ans then 9 else 8), none⟩ vq').ownsRow base e 1 v n ys := fun o ho ha => b2.own o fun x hx hm => by
    rcases List.mem_cons.1 hm with rfl | hm
    · exact ho hx
    · exact ha x hx (by rwa [Option.mem_toList] at hm)
  have hset : Chg [g] w2 (w2.setCell ⟨g, (if Z.ans then 9 else 8), none⟩ vq') := (Chg.refl _ w2).setCell (by simp) vq'
  have hWo : W.off (rdX g vl vc vq') := fun r hr x hx hm => by
    have h1 := (hW.lt hr hx).1
    rcases mem_X.1 hm with h2 | h2 | h2 | h2
    · have := hX x (mem_X.2 (.inl h2)); omega
    · have := hX x (mem_X.2 (.inr (.inl h2))); omega
    · have := hX x (mem_X.2 (.inr (.inr (.inl h2)))); omega
    · exact hWq r hr x hx h2
  have hWo' : ∀ r ∈ W.rows, ∀ x, r.2.1.ownBlock = some x → some x ≠ vq.ownBlock := fun r hr x hx e => by
    have h1 := (hW.lt hr hx).1
    have := hX x (mem_X.2 (.inr (.inr (.inr e.symm)))); omega
  refine ⟨?_, own2 h.lo h.gl h.alq, own2 h.co h.gc h.acq, ?_, h.alc, ?_, ?_, h.gl, h.gc, gq', h.bg, fun V hV => ?_, fun V hV => ?_, ?_, h.s, h.c64, h.lb, h.cb_⟩
  · rw [heap_set w2 g _ vq' _ _ (by rw [hc.block g h.lt hg]; exact h.box)]
    congr 2
    unfold rdC
    cases Z.ans <;> rfl
  · exact hq.chg hset fun x hx hm => gq' (by rw [hx, List.mem_singleton.1 hm])
  · exact fun x hx hv => h.alq x hx (hnew (h.lo.lt x hx).2 hv)
  · exact fun x hx hv => h.acq x hx (hnew (h.co.lt x hx).2 hv)
  · rcases List.mem_append.1 hV with h1 | h1
    · refine (h.ok V h1).chg b2 ((h.off V h1).mono fun x hx => ?_)
      rcases List.mem_cons.1 hx with rfl | hx
      · exact mem_X.2 (.inr (.inl rfl))
      · exact mem_X.2 (.inr (.inr (.inr (by rwa [Option.mem_toList] at hx))))
    · rw [List.mem_singleton.1 h1]
      have h3 : W.ok w2 N := fun r hr => (hW r hr).kept hgr (by
        cases hv : r.2.1.ownBlock with
        | none => exact .inl rfl
        | some x => exact .inr (hWo' r hr x hv))
      refine (h3.chg hset fun r hr x hx hm => ?_).lower hbN
      have := (hW.lt hr hx).1; have := hX g (mem_X.2 (.inr (.inl rfl))); rw [List.mem_singleton.1 hm] at *; omega
  · rcases List.mem_append.1 hV with h1 | h1
    · refine (h.off V h1).new (h.ok V h1) fun x hx => ?_
      rcases mem_X.1 hx with h2 | h2 | h2 | h2
      · exact .inl (mem_X.2 (.inl h2))
      · exact .inl (mem_X.2 (.inr (.inl h2)))
      · exact .inl (mem_X.2 (.inr (.inr (.inl h2))))
      · by_cases hx : x < w.heap.size
        · exact .inl (mem_X.2 (.inr (.inr (.inr (hnew hx h2)))))
        · exact .inr (by omega)
    · rw [List.mem_singleton.1 h1]; exact hWo
  · exact forall2_snoc h.is hI
end
end Go.Proofs.Ytbcmjjcbjojakaa
end
section
/- Steps of regions that draw their order: one cell stored, a message laid into a list of its own, a message put behind a queue. -/
namespace Go.Proofs.Ytbcmjjcbjojakaa
open Go.RowKit
set_option linter.unusedVariables false
section
variable {P : Program} {ops : Array Oper} {o : Oper} {a : Act} {w : World} {K : Act → World → Prop} {Q : Exit → Act → World → Prop} {Z : Prop}
theorem run_storeVar_1 (g i : Nat) (ty : TypeId) (v : Value) (hv : v.cells = #[v]) (h1 : v.oneCell' = true) (old : Value) (hc : w.cell? ⟨g, i, none⟩ = some old) (hz : w.frozen? ⟨g, i, none⟩ = false) (hi : (P.info? ty).map (·.size) = some 1) :
    (storeVar ty ⟨g, i, none⟩ v).run P w = .ok () (w.setCell ⟨g, i, none⟩ v) := by
  have := run_storeCells_cells (P := P) g i [v] 0 w (fun j hj => by
      have : j = 0 := by simpa using hj
      subst this; simp [hc]) (fun j hj => by
      have : j = 0 := by simpa using hj
      subst this; simpa using hz) (fun x hx => by rw [List.mem_singleton.1 hx]; exact h1)
  cases hq : P.info? ty with
  | none => simp [hq] at hi
  | some t =>
    have hs : t.size = 1 := by simp [hq] at hi; omega
    simp only [Nat.add_zero] at this
    simp [storeVar, sizeOf, typeInfo, hq, hv, hs, this, World.setCells]
theorem step_set (hgd : o.guard = none) (ty : TypeId) (x y : Operand) (ho : o.op = .store ty x y) (g i : Nat) (v : Value) (hx : a.eval x = .pointer (some ⟨g, i, none⟩)) (hy : a.eval y = v) (hv : v.cells = #[v]) (h1 : v.oneCell' = true)
    (old : Value) (hc : w.cell? ⟨g, i, none⟩ = some old) (hz : w.frozen? ⟨g, i, none⟩ = false) (hi : (P.info? ty).map (·.size) = some 1) (h : K (a.put o.dst undef) (w.setCell ⟨g, i, none⟩ v)) : if Region.wanted o (yielded ops a.tmps) = true then Oper.wp P o a w K Q else Z := by
  have hw : Region.wanted o (yielded ops a.tmps) = true := by simp [Region.wanted, hgd]
  rw [if_pos hw]
  unfold Oper.wp execOp
  simp only [ho, hx, hy, Instr.storeAt, Instr.sureAddr, Sem.run_bind, Sem.run_pure, Result.andThen_ok, run_storeVar_1 g i ty v hv h1 old hc hz hi]
  exact h
theorem step_build1 {t e size bytes : Nat} (E : ElN P t e size bytes) (hgd : o.guard = none) (x : Operand) (ho : o.op = .buildSlice t 1 #[(0, x)]) (cells : Array Value) (hx : a.eval x = .agg cells) (h1 : cells.size = size)
    (h : K (a.put o.dst (.slice (some ⟨w.heap.size, 0, none⟩) 1 1)) (w.alloc (.cells cells e))) : if Region.wanted o (yielded ops a.tmps) = true then Oper.wp P o a w K Q else Z := by
  have hw : Region.wanted o (yielded ops a.tmps) = true := by simp [Region.wanted, hgd]
  rw [if_pos hw]
  have hb1 := run_build1N (w := w) E cells h1
  unfold Oper.wp execOp
  simp only [ho, List.map_toArray, List.map_cons, List.map_nil, hx, Sem.run_bind, Sem.run_pure, Result.andThen_ok, hb1, Oper.upon]
  exact h
theorem step_qpush {t e size bytes base : Nat} (E : ElN P t e size bytes) (hgd : o.guard = none) (s x : Operand) (ho : o.op = .call { callee := .builtin .append, args := #[s, x], argTypes := #[t, t] })
    (v : Value) (ws : List Wm) (W : Wm) (hs : a.eval s = v) (hq : Que w base e size v ws) (hW : W.cells.length = size ∧ ∀ u ∈ W.cells, u.oneCell' = true) (ad : Addr) (c : Nat) (hx : a.eval x = .slice (some ad) 1 c)
    (ha : ∀ j u, W.cells[j]? = some u → w.cell? (ad.add j) = some u) (h63 : ws.length + 1 ≤ 1000000000000) (hbytes : (ws.length + 1) * bytes ≤ 140737488355328) (hbase : base ≤ w.heap.size)
    (h : ∀ v' w', Que w' base e size v' (ws ++ [W]) → w.grownBy w' v.ownBlock → (v'.ownBlock = v.ownBlock ∨ v'.ownBlock = some w.heap.size) → K (a.put o.dst v') w') :
    if Region.wanted o (yielded ops a.tmps) = true then Oper.wp P o a w K Q else Z := by
  have hw : Region.wanted o (yielded ops a.tmps) = true := by simp [Region.wanted, hgd]
  rw [if_pos hw]
  obtain ⟨v', w', hrun, h2, h3, h4⟩ := hq.push (P := P) (ty := o.type) E hW ad c ha h63 hbytes hbase
  unfold Oper.wp execOp
  simp only [ho, resolve, invoke, builtin, Sem.run_bind, Sem.run_pure, Result.andThen_ok, List.map_toArray, List.map_cons, List.map_nil, hs, hx, hrun]
  exact h v' w' h2 h3 h4
end
theorem infoSlB : (Try.prog.info? 26).map (·.size) = some 1 := by kernel_rfl
theorem infoSlR : (Try.prog.info? 55).map (·.size) = some 1 := by kernel_rfl
theorem infoSlA : (Try.prog.info? 56).map (·.size) = some 1 := by kernel_rfl
end Go.Proofs.Ytbcmjjcbjojakaa
end
section
/- Contract of the reader's message. (tools/msggen.py prints it.) -/
namespace Go.Proofs.Ytbcmjjcbjojakaa
open Go.RowKit
set_option linter.unusedVariables false
set_option linter.unusedSimpArgs false
/-- What message does. -/
def MsgDone {T : Type} (Z : Kd T) (base : Nat) (w : World) (g : Nat) (vl vc vq : Value) (L c : List Nat) (fl : Int) (ws : List Wm) (xs : List T) (e : Ending) (w' : World) : Prop :=
  ∃ (vq' : Value) (fl' : Int) (ws' : List Wm) (xs' : List T), e = .returned (.tuple #[]) ∧ RdS Z base w' g vl (.slice none 0 0) vq' L [] 0 0 0 0 fl' ws' xs' ∧ Chg (rdY g vc vq) w w' ∧ (∀ x, vq'.ownBlock = some x → vq.ownBlock = some x ∨ w.heap.size ≤ x) ∧
    ((∃ x W, Z.rd c = some x ∧ fl' = fl ∧ xs' = xs ++ [x] ∧ ws' = ws ++ [W] ∧ W.ok w' w.heap.size) ∨ (Z.rd c = none ∧ fl' = 300 ∧ ws' = ws ∧ xs' = xs))
theorem Wm_cells {W : Wm} {m : Nat} (h : W.cells.length = m ∧ W.cells.toArray.all (·.oneCell') = true) : W.cells.length = m ∧ ∀ u ∈ W.cells, u.oneCell' = true :=
  ⟨h.1, fun u hu => (Array.all_eq_true_iff_forall_mem.1 h.2) u (by simpa using hu)⟩
theorem Chg.newer {L Y : List Nat} {w w1 w2 : World} (h : Chg L w w1) (b : Chg Y w1 w2) (hY : ∀ y ∈ Y, y ∈ L ∨ w.heap.size ≤ y) : Chg L w w2 :=
  ⟨b.os.trans h.os, b.tape.trans h.tape, b.output.trans h.output, Nat.le_trans h.size b.size, fun k hk hm => (b.block k (Nat.lt_of_lt_of_le hk h.size) fun hy => (hY k hy).elim hm (by omega)).trans (h.block k hk hm)⟩
theorem Chg.of_grown {w w1 : World} {g : Nat} (h : w.grownBy w1 (some g)) : Chg [g] w w1 := ⟨h.os, h.tape, h.output, h.size, fun k hk hm => h.block k hk (by simpa using hm)⟩
theorem RdS.keepN {T : Type} {Z : Kd T} {base : Nat} {w w' : World} {g : Nat} {vl vc vq : Value} {L c : List Nat} {S C k p : Nat} {fl : Int} {ws : List Wm} {xs : List T} (h : RdS Z base w g vl vc vq L c S C k p fl ws xs) {N : Nat} {Y : List Nat} (b : Chg Y w w') (hY : ∀ y ∈ Y, N ≤ y)
    (hX : ∀ x ∈ rdX g vl vc vq, x < N) (hM : ∀ V ∈ ws, ∀ r ∈ V.rows, ∀ x, r.2.1.ownBlock = some x → x < N) : RdS Z base w' g vl vc vq L c S C k p fl ws xs :=
  h.keep b (fun x hx hm => by have := hX x hx; have := hY x hm; omega) fun V hV r hr x hx hm => by have := hM V hV r hr x hx; have := hY x hm; omega
theorem own_higher {w : World} {base base' e n : Nat} {v : Value} {xs : List Value} (h : w.ownsRow base e 1 v n xs) (hb : ∀ x, v.ownBlock = some x → base' ≤ x) : w.ownsRow base' e 1 v n xs :=
  ⟨h.1, h.2.imp id fun ⟨g, cap, cur, hv, hg, r⟩ => ⟨g, cap, cur, hv, hb g (by rw [hv]; rfl), r⟩⟩
theorem Rr.off {w w1 : World} {gr n c at_ : Nat} {A : Option Addr} {fl : Int} {bs : List Nat} {g : Nat} (R : Rr w gr A n c at_ fl bs) (b : Chg [g] w w1) (hg : g < gr) (hA : ∀ gg off, A = some ⟨gg, off, none⟩ → 0 < n → g < gg) : Rr w1 gr A n c at_ fl bs :=
  R.keep b (by simp; omega) fun gg off he hp => by have := hA gg off he hp; simp; omega
set_option maxRecDepth 20000 in
set_option maxHeartbeats 8000000 in
theorem message_ask (base : Nat) (w : World) (g : Nat) (vl vc vq : Value) (L c : List Nat) (S C k p : Nat) (ws : List Wm) (xs : List Rq) (h : RdS askK base w g vl vc vq L c S C k p 0 ws xs) (hc : c.length ≤ 67108864) (hw : ws.length ≤ 274877906944) :
    Calls Try.prog 102 #[.pointer (some ⟨g, 0, none⟩)] w (MsgDone askK base w g vl vc vq L c 0 ws xs) := by
  obtain ⟨fl, hfl⟩ : ∃ fl : Int, fl = 0 := ⟨_, rfl⟩
  rw [← hfl] at h ⊢
  have HFL := Hd.mk hfl
  clear hfl
  obtain ⟨Av, cv, hvc, hcc, _⟩ := own_form h.co
  have H0 := Hd.mk h
  have HV := Hd.mk hvc
  have c2 : w.cell? ⟨g, 2, none⟩ = some (.slice Av c.length cv) := by rw [← hvc]; exact h.at_ 2 rfl
  have HRD : Hd (Rd w w.heap.size Av c.length (cb c)) := ⟨by have := h.co; rw [hvc] at this; exact Rd.of_own this⟩
  have HX : Hd ((∀ x ∈ rdX g vl (.slice none 0 0) vq, x < w.heap.size) ∧ (∀ V ∈ ws, ∀ r ∈ V.rows, ∀ x, r.2.1.ownBlock = some x → x < w.heap.size) ∧ g < w.heap.size) := ⟨fun x hx => by
      rcases mem_X.1 hx with h1 | h1 | h1 | h1
      · exact (h.lo.lt x h1).2
      · rw [h1]; exact h.lt
      · cases h1
      · exact (h.qu.lt h1).2, fun V hV r hr x hx => ((h.ok V hV).lt hr hx).2, h.lt⟩
  obtain ⟨lc, hlc⟩ : ∃ l, c.length = l := ⟨_, rfl⟩
  rw [hlc] at c2 hc HRD
  clear h hvc hlc hcc
  go_enter Try.func102, Try.ntmps102
  go_wp2_with fail
  refine (open_any w Av lc cv w.heap.size c HRD.out (Nat.le_refl _) (by omega) H0.out.cb_).mono ?_
  rintro e w1 ⟨gr, A', c', rfl, hch, hR, hgr, hA⟩
  have H1 : Hd (RdS askK base w1 g vl vc vq L c S C k p fl ws xs ∧ Rr w1 gr A' lc c' 0 0 c ∧ g < gr ∧ (∀ gg off, A' = some ⟨gg, off, none⟩ → 0 < lc → g < gg) ∧ Chg [g] w w1 ∧ w.heap.size ≤ gr) := ⟨H0.out.new hch, hR, by have := H0.out.lt; omega, fun gg off he hp => by have := hA gg off he hp; have := H0.out.lt; omega, hch.mono (by simp), hgr⟩
  have HA : Hd (g < gr ∧ (∀ gg off, A' = some ⟨gg, off, none⟩ → 0 < lc → g < gg) ∧ w.heap.size ≤ gr) := ⟨H1.out.2.2.1, H1.out.2.2.2.1, hgr⟩
  clear hch hR hgr hA c2 HRD
  have d2 : w1.cell? ⟨g, 2, none⟩ = some vc := H1.out.1.at_ 2 rfl
  have z2 := H1.out.1.z 2
  go_upto_region 2 with fail
  obtain ⟨w2, hw2⟩ : ∃ W, w1.setCell ⟨g, 2, none⟩ (.slice none 0 0) = W := ⟨_, rfl⟩
  rw [hw2]
  have hb2 : Chg [g] w1 w2 := by rw [← hw2]; exact (Chg.refl [g] w1).setCell (by simp) _
  have H2 : Hd (RdS askK base w2 g vl (.slice none 0 0) vq L [] S C k p fl ws xs ∧ Rr w2 gr A' lc c' 0 0 c ∧ Chg [g] w w2) := ⟨by rw [← hw2]; exact H1.out.1.cont (c' := []) (Chg.refl [] w1) (by simp) (World.ownsRow_nil ..) (fun x hx => by cases hx) (by simp), H1.out.2.1.off hb2 HA.out.1 HA.out.2.1, H1.out.2.2.2.2.1.trans hb2⟩
  clear hw2 d2 z2 hb2 H1
  go_wp2_with fail
  refine (sreset_any w2 g 3 58 S C _ H2.out.1.strm).mono ?_
  rintro e w3 ⟨rfl, hs3, hg3⟩
  have H3 : Hd (RdS askK base w3 g vl (.slice none 0 0) vq L [] 0 0 k p fl ws xs ∧ Rr w3 gr A' lc c' 0 0 c ∧ Chg [g] w w3) := ⟨H2.out.1.crc hs3 hg3, H2.out.2.1.off (Chg.of_grown hg3) HA.out.1 HA.out.2.1, H2.out.2.2.trans (Chg.of_grown hg3)⟩
  clear hs3 hg3 H2
  have d5 : w3.cell? ⟨g, 5, none⟩ = some (.int .i64 (k : Int)) := H3.out.1.at_ 5 rfl
  have z5 := H3.out.1.z 5
  have d6 : w3.cell? ⟨g, 6, none⟩ = some (.int .i64 (p : Int)) := H3.out.1.at_ 6 rfl
  have z6 := H3.out.1.z 6
  go_upto_region 6 with fail
  obtain ⟨w4, hw4⟩ : ∃ W, (w3.setCell ⟨g, 5, none⟩ (.int .i64 0)).setCell ⟨g, 6, none⟩ (.int .i64 0) = W := ⟨_, rfl⟩
  rw [hw4]
  have hb4 : Chg [g] w3 w4 := by rw [← hw4]; exact ((Chg.refl [g] w3).setCell (by simp) _).setCell (by simp) _
  have H4 : Hd (RdS askK base w4 g vl (.slice none 0 0) vq L [] 0 0 0 0 fl ws xs ∧ Rr w4 gr A' lc c' 0 0 c ∧ Chg [g] w w4) := ⟨by rw [← hw4]; exact (H3.out.1.put 5 (.int .i64 0) (k' := 0) (p' := p) (fl' := fl) rfl).put 6 (.int .i64 0) (k' := 0) (p' := 0) (fl' := fl) rfl, H3.out.2.1.off hb4 HA.out.1 HA.out.2.1, H3.out.2.2.trans hb4⟩
  clear hw4 d5 z5 d6 z6 hb4 H3
  have d0 : w4.cell? ⟨g, 0, none⟩ = some (.bool false) := H4.out.1.at_ 0 rfl
  go_upto_region 12 with fail
  have hz : (⟨#[]⟩ : ByteArray) = emS := rfl
  try rw [hz]
  obtain ⟨gb, hgb⟩ : ∃ gb, w4.heap.size = gb := ⟨_, rfl⟩
  obtain ⟨w5, hw5⟩ : ∃ W, w4.alloc (.cells #[.int .i64 0, .int .u64 0, .string emS, .string emS, .int .i64 0, .int .i64 0, .int .i64 0, .slice none 0 0] 28) = W := ⟨_, rfl⟩
  rw [hw5]
  try rw [hgb]
  have H5 : Hd (RdS askK base w5 g vl (.slice none 0 0) vq L [] 0 0 0 0 fl ws xs ∧ Rr w5 gr A' lc c' 0 0 c ∧ Chg [g] w w5 ∧ w5.heap[gb]? = some (.cells rq0 28)) := ⟨by rw [← hw5]; exact H4.out.1.new ((Chg.refl [] _).alloc _), by rw [← hw5]; exact H4.out.2.1.keep ((Chg.refl [] _).alloc _) (by simp) (by simp), by rw [← hw5]; exact H4.out.2.2.alloc _, by rw [← hw5, ← hgb]; exact heap_alloc_new _ _⟩
  obtain ⟨N5, hN5⟩ : ∃ N, w5.heap.size = N := ⟨_, rfl⟩
  have HB : Hd (gr < gb ∧ w.heap.size ≤ gb ∧ gb < N5 ∧ w.heap.size ≤ N5) := ⟨by rw [← hgb]; exact H4.out.2.1.lt, by rw [← hgb]; exact H4.out.2.2.size, by rw [← hN5, ← hw5, ← hgb]; simp, by rw [← hN5]; exact H5.out.2.2.1.size⟩
  have HN5 := Hd.mk hN5
  clear hN5
  clear hw5 hgb hz d0 H4
  go_wp2_with fail
  refine (request_any w5 gr lc c' A' c H5.out.2.1).mono ?_
  rintro e w6 ⟨W, ok, rfl, hc6, hm1, hm2, hcase⟩
  have HW := Hd.mk (And.intro hm1 hm2)
  have H6 : Hd (RdS askK base w6 g vl (.slice none 0 0) vq L [] 0 0 0 0 fl ws xs ∧ Chg [g] w w6 ∧ w6.heap[gb]? = some (.cells rq0 28)) := ⟨H5.out.1.keepN hc6 (by have := HA.out.2.2; simp; omega) HX.out.1 HX.out.2.1, H5.out.2.2.1.newer hc6 (by have := HA.out.2.2; simp; omega), by rw [hc6.block gb (Array.getElem?_eq_some_iff.1 H5.out.2.2.2).1 (by have := HB.out.1; simp; omega)]; exact H5.out.2.2.2⟩
  have HC : Hd ((∃ x, ok = true ∧ (askK).rd c = some x ∧ (askK).is W x ∧ W.ok w6 N5) ∨ (ok = false ∧ (askK).rd c = none)) := ⟨hcase.imp (fun ⟨x, a1, a2, a3, a4⟩ => ⟨x, a1, a2, a3, by rw [← HN5.out]; exact a4⟩) id⟩
  clear hm1 hm2 hcase hc6 H5
  have hrow := H6.out.2.2
  rcases hok : ok with _ | _
  · subst hok
    have HN : Hd ((askK).rd c = none) := ⟨HC.out.elim (fun ⟨_, h, _⟩ => by cases h) (·.2)⟩
    clear HC
    go_upto_region 16 with (refine at_store (x := .tmp 5) ?_; refine wpList_stored rfl 28 (.tmp 5) (.tmp 47) rfl gb W.cells.toArray rfl rfl 28 rq0 hrow (by rw [infoRq8]; simp [HW.out.1]) (by simp [HW.out.1]; rfl) HW.out.2 ?_; intro w7 hB7)
    have H7 : Hd (RdS askK base w7 g vl (.slice none 0 0) vq L [] 0 0 0 0 fl ws xs ∧ Chg [g] w w7) := ⟨H6.out.1.keepN (Chg.of_grown hB7.out.2.1) (by have := HB.out.2.1; simp; omega) HX.out.1 HX.out.2.1, H6.out.2.1.newer (Chg.of_grown hB7.out.2.1) (by have := HB.out.2.1; simp; omega)⟩
    clear hB7 hrow H6
    have d7 : w7.cell? ⟨g, 7, none⟩ = some (.int .i64 fl) := H7.out.1.at_ 7 rfl
    have z7 := H7.out.1.z 7
    go_wp2_with fail
    go_end0
    exact ⟨vq, 300, ws, xs, rfl, H7.out.1.put 7 (.int .i64 300) (k' := 0) (p' := 0) (fl' := 300) rfl, (H7.out.2.setCell (p := ⟨g, 7, none⟩) (by simp) _).mono (fun x hx _ => by rw [List.mem_singleton.1 hx]; exact mem_Y.2 (.inl rfl)), fun x hx => .inl hx, .inr ⟨HN.out, rfl, rfl, rfl⟩⟩
  · subst hok
    obtain ⟨x0, hx0⟩ : ∃ x, (askK).rd c = some x ∧ (askK).is W x ∧ W.ok w6 N5 := HC.out.elim (fun ⟨x, _, h⟩ => ⟨x, h⟩) (fun h => by cases h.1)
    have HM := Hd.mk hx0
    clear HC hx0
    go_upto_region 14 with (refine at_store (x := .tmp 5) ?_; refine wpList_stored rfl 28 (.tmp 5) (.tmp 47) rfl gb W.cells.toArray rfl rfl 28 rq0 hrow (by rw [infoRq8]; simp [HW.out.1]) (by simp [HW.out.1]; rfl) HW.out.2 ?_; intro w7 hB7)
    have H7 : Hd (RdS askK base w7 g vl (.slice none 0 0) vq L [] 0 0 0 0 fl ws xs ∧ Chg [g] w w7 ∧ w7.heap[gb]? = some (.cells W.cells.toArray 28) ∧ W.ok w7 N5) := ⟨H6.out.1.keepN (Chg.of_grown hB7.out.2.1) (by have := HB.out.2.1; simp; omega) HX.out.1 HX.out.2.1, H6.out.2.1.newer (Chg.of_grown hB7.out.2.1) (by have := HB.out.2.1; simp; omega), hB7.out.1, HM.out.2.2.chg (Chg.of_grown hB7.out.2.1) (fun r hr x hx hm => by have := (HM.out.2.2.lt hr hx).1; have := HB.out.2.2.1; rw [List.mem_singleton.1 hm] at *; omega)⟩
    clear hB7 hrow H6
    have H8 : Hd (RdS askK base w7.drew g vl (.slice none 0 0) vq L [] 0 0 0 0 fl ws xs ∧ Chg [g] w w7.drew ∧ w7.drew.heap[gb]? = some (.cells W.cells.toArray 28) ∧ W.ok w7.drew N5) := ⟨H7.out.1.drew, H7.out.2.1.drew, H7.out.2.2.1, fun r hr => own_below' (H7.out.2.2.2 r hr) (Below.refl _ _).drew⟩
    clear H7
    refine wp_region_held_drew (S := fun U => U.heap[gb]? = some (.cells W.cells.toArray 28)) (by kernel_rfl) H8.out.2.2.1 (fun hHeld => ?_)
    obtain ⟨w8, hw8⟩ : ∃ U, w7.drew = U := ⟨_, rfl⟩
    rw [hw8] at H8 hHeld ⊢
    clear hw8
    refine wpAnyH_take (i := 0) (oi := ?oi101) (v := ?v101) ?hi101 (by kernel_rfl) (by kernel_rfl) (by kernel_rfl) ?hQ101 (Or.inl ⟨?hw101, ?hy101⟩) (by assumption) ?rest101
    case hi101 => simp only [List.getElem?_toArray, List.getElem?_cons_succ, List.getElem?_cons_zero]; rfl
    case hQ101 => exact fun _ _ _ h => h
    case hw101 => rfl
    case hy101 => (intro W hW; skip; go_simp; all_goals rfl)
    simp only [Act.put, List.setIfInBounds_toArray, List.set_cons_zero, List.set_cons_succ]
    refine wpAnyH_take (i := 1) (oi := ?oi102) (v := ?v102) ?hi102 (by kernel_rfl) (by kernel_rfl) (by kernel_rfl) ?hQ102 (Or.inl ⟨?hw102, ?hy102⟩) (by assumption) ?rest102
    case hi102 => simp only [List.getElem?_toArray, List.getElem?_cons_succ, List.getElem?_cons_zero]; rfl
    case hQ102 => exact fun _ _ _ h => h
    case hw102 => rfl
    case hy102 => (intro W hW; skip; go_simp; all_goals rfl)
    simp only [Act.put, List.setIfInBounds_toArray, List.set_cons_zero, List.set_cons_succ]
    refine wpAnyH_take (i := 2) (oi := ?oi103) (v := ?v103) ?hi103 (by kernel_rfl) (by kernel_rfl) (by kernel_rfl) ?hQ103 (Or.inl ⟨?hw103, ?hy103⟩) (by assumption) ?rest103
    case hi103 => simp only [List.getElem?_toArray, List.getElem?_cons_succ, List.getElem?_cons_zero]; rfl
    case hQ103 => exact fun _ _ _ h => h
    case hw103 => rfl
    case hy103 => (intro W hW; skip; go_simp; all_goals rfl)
    simp only [Act.put, List.setIfInBounds_toArray, List.set_cons_zero, List.set_cons_succ]
    refine wpAnyH_take (i := 3) (oi := ?oi104) (v := ?v104) ?hi104 (by kernel_rfl) (by kernel_rfl) (by kernel_rfl) ?hQ104 (Or.inl ⟨?hw104, ?hy104⟩) (by assumption) ?rest104
    case hi104 => simp only [List.getElem?_toArray, List.getElem?_cons_succ, List.getElem?_cons_zero]; rfl
    case hQ104 => exact fun _ _ _ h => h
    case hw104 => rfl
    case hy104 => (intro W hW; skip; go_simp; all_goals rfl)
    simp only [Act.put, List.setIfInBounds_toArray, List.set_cons_zero, List.set_cons_succ]
    refine wpAnyH_take (i := 5) (oi := ?oiR) (v := .agg W.cells.toArray) ?hiR (by kernel_rfl) (by kernel_rfl) (by kernel_rfl) ?hQR ?hyR (by assumption) ?restR
    case hiR => simp only [List.getElem?_toArray, List.getElem?_cons_succ, List.getElem?_cons_zero]; rfl
    case hQR => exact fun _ _ _ h => h
    case hyR => exact yieldsIf_load_mid rfl 28 (.tmp 5) rfl gb 0 rfl W.cells _ (fun U hU j v hj => by rw [Nat.zero_add, cell_of_row U gb j _ _ (0, 0) hU]; simpa using hj) Try.underlying28 rfl (by rw [infoRq8, HW.out.1])
    simp only [Act.put, List.setIfInBounds_toArray, List.set_cons_zero, List.set_cons_succ]
    have hcl := Wm_cells HW.out
    have HCL := Hd.mk hcl
    clear hcl
    have hd8 : w8.cell? ⟨g, 8, none⟩ = some vq := H8.out.1.at_ 8 rfl
    refine wpAnyH_ready (rs := [4, 6]) (by kernel_rfl) (by simp) ?_
    refine AllReadyH.cons (i := 4) (o := ?oA) ?hoA (fun Kq hK => ?stepA) (AllReadyH.cons (i := 6) (o := ?oB) ?hoB (fun Kq hK => ?stepB) AllReadyH.nil)
    case hoA => simp only [List.getElem?_toArray, List.getElem?_cons_succ, List.getElem?_cons_zero]; rfl
    case hoB => simp only [List.getElem?_toArray, List.getElem?_cons_succ, List.getElem?_cons_zero]; rfl
    case stepA =>
      go_simp
      refine hK.out _ _ hHeld (fun _ => ?_)
      clear hK Kq
      try simp only [Act.put, List.setIfInBounds_toArray, List.set_cons_zero, List.set_cons_succ]
      refine wpAnyH_ready (rs := [6]) (by kernel_rfl) (by simp) ?_
      refine AllReadyH.cons (i := 6) (o := ?oA6) ?hoA6 (fun Kq hK => ?stepA6) AllReadyH.nil
      case hoA6 => simp only [List.getElem?_toArray, List.getElem?_cons_succ, List.getElem?_cons_zero]; rfl
      refine step_build1 elRq rfl (.tmp 55) rfl W.cells.toArray rfl (by simpa using HW.out.1) ?_
      obtain ⟨N8, hN8⟩ : ∃ N, w8.heap.size = N := ⟨_, rfl⟩
      obtain ⟨w9, hw9⟩ : ∃ U, w8.alloc (.cells W.cells.toArray 28) = U := ⟨_, rfl⟩
      rw [hw9]
      try rw [hN8]
      have hb9 : Below w8.heap.size w8 w9 := by rw [← hw9]; exact (Below.refl _ _).alloc (Nat.le_refl _) _
      have HN9 : Hd (w9.heap[N8]? = some (.cells W.cells.toArray 28) ∧ Chg [] w8 w9 ∧ w8.heap.size = N8 ∧ w9.heap.size = N8 + 1) := ⟨by rw [← hw9, ← hN8]; exact heap_alloc_new _ _, Chg.of_below hb9, hN8, by rw [← hw9, ← hN8]; simp⟩
      have hF : w9.heap[gb]? = some (.cells W.cells.toArray 28) := by rw [hb9.block gb (Array.getElem?_eq_some_iff.1 hHeld).1]; exact hHeld
      clear hw9 hN8 hb9
      refine hK.out _ _ hF (fun _ => ?_)
      clear hK Kq hHeld
      have hHeld := hF
      clear hF
      try simp only [Act.put, List.setIfInBounds_toArray, List.set_cons_zero, List.set_cons_succ]
      refine wpAnyH_ready (rs := [7]) (by kernel_rfl) (by simp) ?_
      refine AllReadyH.cons (i := 7) (o := ?oA7) ?hoA7 (fun Kq hK => ?stepA7) AllReadyH.nil
      case hoA7 => simp only [List.getElem?_toArray, List.getElem?_cons_succ, List.getElem?_cons_zero]; rfl
      refine step_qpush elRq rfl (.tmp 54) (.tmp 56) rfl vq ws W rfl (H8.out.1.new HN9.out.2.1).qu HCL.out ⟨N8, 0, none⟩ 1 rfl (fun j u hj => ?_) (by omega) (by omega) (by have := (H8.out.1.new HN9.out.2.1).bg; have := (H8.out.1.new HN9.out.2.1).lt; omega) ?_
      · rw [show (⟨N8, 0, none⟩ : Addr).add j = ⟨N8, j, none⟩ by unfold Addr.add; split <;> simp_all, cell_of_row w9 N8 j _ _ (0, 0) HN9.out.1]; simpa using hj
      intro v' w10 hq10 hgr hor
      have hlt8 : g < w9.heap.size := by have := H8.out.1.lt; have := HN9.out.2.2; omega
      have hc10 : w10.cell? ⟨g, 8, none⟩ = some vq := (World.cell?_of_block (a := ⟨g, 8, none⟩) (hgr.block g hlt8 (fun e => H8.out.1.gq e.symm))).trans ((H8.out.1.new HN9.out.2.1).at_ 8 rfl)
      have hz10 : w10.frozen? ⟨g, 8, none⟩ = false := (World.frozen?_of_block (a := ⟨g, 8, none⟩) (hgr.block g hlt8 (fun e => H8.out.1.gq e.symm))).trans ((H8.out.1.new HN9.out.2.1).z 8)
      have hF : w10.heap[gb]? = some (.cells W.cells.toArray 28) := by rw [hgr.block gb (Array.getElem?_eq_some_iff.1 hHeld).1 (fun e => by have := HX.out.1 gb (mem_X.2 (.inr (.inr (.inr e.symm)))); have := HB.out.2.1; omega)]; exact hHeld
      have HQ := Hd.mk (And.intro hq10 (And.intro hgr (And.intro hor (And.intro hc10 hz10))))
      clear hq10 hgr hor hc10 hz10 hd8 hlt8
      refine hK.out _ _ hF (fun _ => ?_)
      clear hK Kq hHeld
      have hHeld := hF
      clear hF
      try simp only [Act.put, List.setIfInBounds_toArray, List.set_cons_zero, List.set_cons_succ]
      refine wpAnyH_take (i := 8) (oi := ?oi201) (v := ?v201) ?hi201 (by kernel_rfl) (by kernel_rfl) (by kernel_rfl) ?hQ201 (Or.inl ⟨?hw201, ?hy201⟩) (by assumption) ?rest201
      case hi201 => simp only [List.getElem?_toArray, List.getElem?_cons_succ, List.getElem?_cons_zero]; rfl
      case hQ201 => exact fun _ _ _ h => h
      case hw201 => rfl
      case hy201 => (intro W hW; skip; go_simp; all_goals rfl)
      simp only [Act.put, List.setIfInBounds_toArray, List.set_cons_zero, List.set_cons_succ]
      refine wpAnyH_take (i := 9) (oi := ?oi202) (v := ?v202) ?hi202 (by kernel_rfl) (by kernel_rfl) (by kernel_rfl) ?hQ202 (Or.inl ⟨?hw202, ?hy202⟩) (by assumption) ?rest202
      case hi202 => simp only [List.getElem?_toArray, List.getElem?_cons_succ, List.getElem?_cons_zero]; rfl
      case hQ202 => exact fun _ _ _ h => h
      case hw202 => rfl
      case hy202 => (intro W hW; skip; go_simp; all_goals rfl)
      simp only [Act.put, List.setIfInBounds_toArray, List.set_cons_zero, List.set_cons_succ]
      refine wpAnyH_ready (rs := [10]) (by kernel_rfl) (by simp) ?_
      refine AllReadyH.cons (i := 10) (o := ?oA10) ?hoA10 (fun Kq hK => ?stepA10) AllReadyH.nil
      case hoA10 => simp only [List.getElem?_toArray, List.getElem?_cons_succ, List.getElem?_cons_zero]; rfl
      obtain ⟨Aq, cq, hvq, _⟩ := HQ.out.1.form
      refine step_set rfl 55 (.tmp 59) (.tmp 57) rfl g 8 v' rfl rfl (by rw [hvq]; rfl) (by rw [hvq]; rfl) vq HQ.out.2.2.2.1 HQ.out.2.2.2.2 infoSlR ?_
      obtain ⟨w11, hw11⟩ : ∃ U, w10.setCell ⟨g, 8, none⟩ v' = U := ⟨_, rfl⟩
      rw [hw11]
      have hvn : v'.ownBlock = vq.ownBlock ∨ ∃ x, v'.ownBlock = some x ∧ w8.heap.size ≤ x := HQ.out.2.2.1.imp id fun e => ⟨_, e, HN9.out.2.1.size⟩
      have hne : ∀ r ∈ W.rows, ∀ x, r.2.1.ownBlock = some x → v'.ownBlock ≠ some x := by
        intro r hr x hx e
        have h1 := (H8.out.2.2.2.lt hr hx)
        rcases HQ.out.2.2.1 with h2 | h2
        · rw [h2] at e; have := HX.out.1 x (mem_X.2 (.inr (.inr (.inr e)))); have := HB.out.2.2.2; omega
        · rw [h2] at e
          injection e with e
          have := HN9.out.2.1.size
          omega
      have HR : Hd (RdS askK base w11 g vl (.slice none 0 0) v' L [] 0 0 0 0 fl (ws ++ [W]) (xs ++ [x0])) := ⟨by rw [← hw11]; exact H8.out.1.more HN9.out.2.1 HQ.out.1 HQ.out.2.1 hvn (H8.out.2.2.2.chg HN9.out.2.1 (fun r _ x _ hm => absurd hm List.not_mem_nil)) (fun x hx => Nat.lt_of_lt_of_le (HX.out.1 x hx) HB.out.2.2.2) (by have := H0.out.bg; have := H0.out.lt; have := HB.out.2.2.2; omega) hne HM.out.2.1⟩
      have HCH : Hd (Chg (rdY g vc vq) w w11) := ⟨by rw [← hw11]; exact (((H8.out.2.1.newer HN9.out.2.1 (by simp)).mono (L' := rdY g vc vq) (fun x hx _ => by rw [List.mem_singleton.1 hx]; exact mem_Y.2 (.inl rfl))).trans ⟨HQ.out.2.1.os, HQ.out.2.1.tape, HQ.out.2.1.output, HQ.out.2.1.size, fun x hx hm => HQ.out.2.1.block x hx fun e => hm (mem_Y.2 (.inr (.inr e.symm)))⟩).setCell (mem_Y.2 (.inl rfl)) _⟩
      have HWO : Hd (W.ok w11 w.heap.size) := ⟨fun r hr => own_higher (HR.out.ok W (by simp) r hr) (fun x hx => Nat.le_trans HB.out.2.2.2 (H8.out.2.2.2.lt hr hx).1)⟩
      have hF : w11.heap[gb]? = some (.cells W.cells.toArray 28) := by rw [← hw11, Below.heap_setCell _ _ _ _ (by show gb ≠ g; have := HB.out.2.1; have := HX.out.2.2; omega)]; exact hHeld
      clear hw11 hne hvn
      refine hK.out _ _ hF (fun _ => ?_)
      clear hK Kq hHeld hF
      try simp only [Act.put, List.setIfInBounds_toArray, List.set_cons_zero, List.set_cons_succ]
      refine wpAnyH_done (by kernel_rfl) ?_ _
      go_wp2_with fail
      go_end0
      exact ⟨v', fl, ws ++ [W], xs ++ [x0], rfl, HR.out, HCH.out, fun x hx => HQ.out.2.2.1.elim (fun e => .inl (e ▸ hx)) (fun e => .inr (by rw [e] at hx; injection hx; have := H8.out.2.1.size; have := HN9.out.2.1.size; omega)), .inl ⟨x0, W, HM.out.1, rfl, rfl, rfl, HWO.out⟩⟩
    case stepB =>
      refine step_build1 elRq rfl (.tmp 55) rfl W.cells.toArray rfl (by simpa using HW.out.1) ?_
      obtain ⟨N8, hN8⟩ : ∃ N, w8.heap.size = N := ⟨_, rfl⟩
      obtain ⟨w9, hw9⟩ : ∃ U, w8.alloc (.cells W.cells.toArray 28) = U := ⟨_, rfl⟩
      rw [hw9]
      try rw [hN8]
      have hb9 : Below w8.heap.size w8 w9 := by rw [← hw9]; exact (Below.refl _ _).alloc (Nat.le_refl _) _
      have HN9 : Hd (w9.heap[N8]? = some (.cells W.cells.toArray 28) ∧ Chg [] w8 w9 ∧ w8.heap.size = N8 ∧ w9.heap.size = N8 + 1) := ⟨by rw [← hw9, ← hN8]; exact heap_alloc_new _ _, Chg.of_below hb9, hN8, by rw [← hw9, ← hN8]; simp⟩
      have hF : w9.heap[gb]? = some (.cells W.cells.toArray 28) := by rw [hb9.block gb (Array.getElem?_eq_some_iff.1 hHeld).1]; exact hHeld
      clear hw9 hN8 hb9
      refine hK.out _ _ hF (fun _ => ?_)
      clear hK Kq hHeld
      have hHeld := hF
      clear hF
      try simp only [Act.put, List.setIfInBounds_toArray, List.set_cons_zero, List.set_cons_succ]
      have hd9 : w9.cell? ⟨g, 8, none⟩ = some vq := (H8.out.1.new HN9.out.2.1).at_ 8 rfl
      refine wpAnyH_ready (rs := [4]) (by kernel_rfl) (by simp) ?_
      refine AllReadyH.cons (i := 4) (o := ?oB4) ?hoB4 (fun Kq hK => ?stepB4) AllReadyH.nil
      case hoB4 => simp only [List.getElem?_toArray, List.getElem?_cons_succ, List.getElem?_cons_zero]; rfl
      go_simp
      refine hK.out _ _ hHeld (fun _ => ?_)
      clear hK Kq
      try simp only [Act.put, List.setIfInBounds_toArray, List.set_cons_zero, List.set_cons_succ]
      refine wpAnyH_ready (rs := [7]) (by kernel_rfl) (by simp) ?_
      refine AllReadyH.cons (i := 7) (o := ?oB7) ?hoB7 (fun Kq hK => ?stepB7) AllReadyH.nil
      case hoB7 => simp only [List.getElem?_toArray, List.getElem?_cons_succ, List.getElem?_cons_zero]; rfl
      refine step_qpush elRq rfl (.tmp 54) (.tmp 56) rfl vq ws W rfl (H8.out.1.new HN9.out.2.1).qu HCL.out ⟨N8, 0, none⟩ 1 rfl (fun j u hj => ?_) (by omega) (by omega) (by have := (H8.out.1.new HN9.out.2.1).bg; have := (H8.out.1.new HN9.out.2.1).lt; omega) ?_
      · rw [show (⟨N8, 0, none⟩ : Addr).add j = ⟨N8, j, none⟩ by unfold Addr.add; split <;> simp_all, cell_of_row w9 N8 j _ _ (0, 0) HN9.out.1]; simpa using hj
      intro v' w10 hq10 hgr hor
      have hlt8 : g < w9.heap.size := by have := H8.out.1.lt; have := HN9.out.2.2; omega
      have hc10 : w10.cell? ⟨g, 8, none⟩ = some vq := (World.cell?_of_block (a := ⟨g, 8, none⟩) (hgr.block g hlt8 (fun e => H8.out.1.gq e.symm))).trans ((H8.out.1.new HN9.out.2.1).at_ 8 rfl)
      have hz10 : w10.frozen? ⟨g, 8, none⟩ = false := (World.frozen?_of_block (a := ⟨g, 8, none⟩) (hgr.block g hlt8 (fun e => H8.out.1.gq e.symm))).trans ((H8.out.1.new HN9.out.2.1).z 8)
      have hF : w10.heap[gb]? = some (.cells W.cells.toArray 28) := by rw [hgr.block gb (Array.getElem?_eq_some_iff.1 hHeld).1 (fun e => by have := HX.out.1 gb (mem_X.2 (.inr (.inr (.inr e.symm)))); have := HB.out.2.1; omega)]; exact hHeld
      have HQ := Hd.mk (And.intro hq10 (And.intro hgr (And.intro hor (And.intro hc10 hz10))))
      clear hq10 hgr hor hc10 hz10 hd8 hd9 hlt8
      refine hK.out _ _ hF (fun _ => ?_)
      clear hK Kq hHeld
      have hHeld := hF
      clear hF
      try simp only [Act.put, List.setIfInBounds_toArray, List.set_cons_zero, List.set_cons_succ]
      refine wpAnyH_take (i := 8) (oi := ?oi401) (v := ?v401) ?hi401 (by kernel_rfl) (by kernel_rfl) (by kernel_rfl) ?hQ401 (Or.inl ⟨?hw401, ?hy401⟩) (by assumption) ?rest401
      case hi401 => simp only [List.getElem?_toArray, List.getElem?_cons_succ, List.getElem?_cons_zero]; rfl
      case hQ401 => exact fun _ _ _ h => h
      case hw401 => rfl
      case hy401 => (intro W hW; skip; go_simp; all_goals rfl)
      simp only [Act.put, List.setIfInBounds_toArray, List.set_cons_zero, List.set_cons_succ]
      refine wpAnyH_take (i := 9) (oi := ?oi402) (v := ?v402) ?hi402 (by kernel_rfl) (by kernel_rfl) (by kernel_rfl) ?hQ402 (Or.inl ⟨?hw402, ?hy402⟩) (by assumption) ?rest402
      case hi402 => simp only [List.getElem?_toArray, List.getElem?_cons_succ, List.getElem?_cons_zero]; rfl
      case hQ402 => exact fun _ _ _ h => h
      case hw402 => rfl
      case hy402 => (intro W hW; skip; go_simp; all_goals rfl)
      simp only [Act.put, List.setIfInBounds_toArray, List.set_cons_zero, List.set_cons_succ]
      refine wpAnyH_ready (rs := [10]) (by kernel_rfl) (by simp) ?_
      refine AllReadyH.cons (i := 10) (o := ?oB10) ?hoB10 (fun Kq hK => ?stepB10) AllReadyH.nil
      case hoB10 => simp only [List.getElem?_toArray, List.getElem?_cons_succ, List.getElem?_cons_zero]; rfl
      obtain ⟨Aq, cq, hvq, _⟩ := HQ.out.1.form
      refine step_set rfl 55 (.tmp 59) (.tmp 57) rfl g 8 v' rfl rfl (by rw [hvq]; rfl) (by rw [hvq]; rfl) vq HQ.out.2.2.2.1 HQ.out.2.2.2.2 infoSlR ?_
      obtain ⟨w11, hw11⟩ : ∃ U, w10.setCell ⟨g, 8, none⟩ v' = U := ⟨_, rfl⟩
      rw [hw11]
      have hvn : v'.ownBlock = vq.ownBlock ∨ ∃ x, v'.ownBlock = some x ∧ w8.heap.size ≤ x := HQ.out.2.2.1.imp id fun e => ⟨_, e, HN9.out.2.1.size⟩
      have hne : ∀ r ∈ W.rows, ∀ x, r.2.1.ownBlock = some x → v'.ownBlock ≠ some x := by
        intro r hr x hx e
        have h1 := (H8.out.2.2.2.lt hr hx)
        rcases HQ.out.2.2.1 with h2 | h2
        · rw [h2] at e; have := HX.out.1 x (mem_X.2 (.inr (.inr (.inr e)))); have := HB.out.2.2.2; omega
        · rw [h2] at e
          injection e with e
          have := HN9.out.2.1.size
          omega
      have HR : Hd (RdS askK base w11 g vl (.slice none 0 0) v' L [] 0 0 0 0 fl (ws ++ [W]) (xs ++ [x0])) := ⟨by rw [← hw11]; exact H8.out.1.more HN9.out.2.1 HQ.out.1 HQ.out.2.1 hvn (H8.out.2.2.2.chg HN9.out.2.1 (fun r _ x _ hm => absurd hm List.not_mem_nil)) (fun x hx => Nat.lt_of_lt_of_le (HX.out.1 x hx) HB.out.2.2.2) (by have := H0.out.bg; have := H0.out.lt; have := HB.out.2.2.2; omega) hne HM.out.2.1⟩
      have HCH : Hd (Chg (rdY g vc vq) w w11) := ⟨by rw [← hw11]; exact (((H8.out.2.1.newer HN9.out.2.1 (by simp)).mono (L' := rdY g vc vq) (fun x hx _ => by rw [List.mem_singleton.1 hx]; exact mem_Y.2 (.inl rfl))).trans ⟨HQ.out.2.1.os, HQ.out.2.1.tape, HQ.out.2.1.output, HQ.out.2.1.size, fun x hx hm => HQ.out.2.1.block x hx fun e => hm (mem_Y.2 (.inr (.inr e.symm)))⟩).setCell (mem_Y.2 (.inl rfl)) _⟩
      have HWO : Hd (W.ok w11 w.heap.size) := ⟨fun r hr => own_higher (HR.out.ok W (by simp) r hr) (fun x hx => Nat.le_trans HB.out.2.2.2 (H8.out.2.2.2.lt hr hx).1)⟩
      have hF : w11.heap[gb]? = some (.cells W.cells.toArray 28) := by rw [← hw11, Below.heap_setCell _ _ _ _ (by show gb ≠ g; have := HB.out.2.1; have := HX.out.2.2; omega)]; exact hHeld
      clear hw11 hne hvn
      refine hK.out _ _ hF (fun _ => ?_)
      clear hK Kq hHeld hF
      try simp only [Act.put, List.setIfInBounds_toArray, List.set_cons_zero, List.set_cons_succ]
      refine wpAnyH_done (by kernel_rfl) ?_ _
      go_wp2_with fail
      go_end0
      exact ⟨v', fl, ws ++ [W], xs ++ [x0], rfl, HR.out, HCH.out, fun x hx => HQ.out.2.2.1.elim (fun e => .inl (e ▸ hx)) (fun e => .inr (by rw [e] at hx; injection hx; have := H8.out.2.1.size; have := HN9.out.2.1.size; omega)), .inl ⟨x0, W, HM.out.1, rfl, rfl, rfl, HWO.out⟩⟩
set_option maxRecDepth 20000 in
set_option maxHeartbeats 8000000 in
theorem message_tel (base : Nat) (w : World) (g : Nat) (vl vc vq : Value) (L c : List Nat) (S C k p : Nat) (ws : List Wm) (xs : List An) (h : RdS telK base w g vl vc vq L c S C k p 0 ws xs) (hc : c.length ≤ 67108864) (hw : ws.length ≤ 274877906944) :
    Calls Try.prog 102 #[.pointer (some ⟨g, 0, none⟩)] w (MsgDone telK base w g vl vc vq L c 0 ws xs) := by
  obtain ⟨fl, hfl⟩ : ∃ fl : Int, fl = 0 := ⟨_, rfl⟩
  rw [← hfl] at h ⊢
  have HFL := Hd.mk hfl
  clear hfl
  obtain ⟨Av, cv, hvc, hcc, _⟩ := own_form h.co
  have H0 := Hd.mk h
  have HV := Hd.mk hvc
  have c2 : w.cell? ⟨g, 2, none⟩ = some (.slice Av c.length cv) := by rw [← hvc]; exact h.at_ 2 rfl
  have HRD : Hd (Rd w w.heap.size Av c.length (cb c)) := ⟨by have := h.co; rw [hvc] at this; exact Rd.of_own this⟩
  have HX : Hd ((∀ x ∈ rdX g vl (.slice none 0 0) vq, x < w.heap.size) ∧ (∀ V ∈ ws, ∀ r ∈ V.rows, ∀ x, r.2.1.ownBlock = some x → x < w.heap.size) ∧ g < w.heap.size) := ⟨fun x hx => by
      rcases mem_X.1 hx with h1 | h1 | h1 | h1
      · exact (h.lo.lt x h1).2
      · rw [h1]; exact h.lt
      · cases h1
      · exact (h.qu.lt h1).2, fun V hV r hr x hx => ((h.ok V hV).lt hr hx).2, h.lt⟩
  obtain ⟨lc, hlc⟩ : ∃ l, c.length = l := ⟨_, rfl⟩
  rw [hlc] at c2 hc HRD
  clear h hvc hlc hcc
  go_enter Try.func102, Try.ntmps102
  go_wp2_with fail
  refine (open_any w Av lc cv w.heap.size c HRD.out (Nat.le_refl _) (by omega) H0.out.cb_).mono ?_
  rintro e w1 ⟨gr, A', c', rfl, hch, hR, hgr, hA⟩
  have H1 : Hd (RdS telK base w1 g vl vc vq L c S C k p fl ws xs ∧ Rr w1 gr A' lc c' 0 0 c ∧ g < gr ∧ (∀ gg off, A' = some ⟨gg, off, none⟩ → 0 < lc → g < gg) ∧ Chg [g] w w1 ∧ w.heap.size ≤ gr) := ⟨H0.out.new hch, hR, by have := H0.out.lt; omega, fun gg off he hp => by have := hA gg off he hp; have := H0.out.lt; omega, hch.mono (by simp), hgr⟩
  have HA : Hd (g < gr ∧ (∀ gg off, A' = some ⟨gg, off, none⟩ → 0 < lc → g < gg) ∧ w.heap.size ≤ gr) := ⟨H1.out.2.2.1, H1.out.2.2.2.1, hgr⟩
  clear hch hR hgr hA c2 HRD
  have d2 : w1.cell? ⟨g, 2, none⟩ = some vc := H1.out.1.at_ 2 rfl
  have z2 := H1.out.1.z 2
  go_upto_region 2 with fail
  obtain ⟨w2, hw2⟩ : ∃ W, w1.setCell ⟨g, 2, none⟩ (.slice none 0 0) = W := ⟨_, rfl⟩
  rw [hw2]
  have hb2 : Chg [g] w1 w2 := by rw [← hw2]; exact (Chg.refl [g] w1).setCell (by simp) _
  have H2 : Hd (RdS telK base w2 g vl (.slice none 0 0) vq L [] S C k p fl ws xs ∧ Rr w2 gr A' lc c' 0 0 c ∧ Chg [g] w w2) := ⟨by rw [← hw2]; exact H1.out.1.cont (c' := []) (Chg.refl [] w1) (by simp) (World.ownsRow_nil ..) (fun x hx => by cases hx) (by simp), H1.out.2.1.off hb2 HA.out.1 HA.out.2.1, H1.out.2.2.2.2.1.trans hb2⟩
  clear hw2 d2 z2 hb2 H1
  go_wp2_with fail
  refine (sreset_any w2 g 3 58 S C _ H2.out.1.strm).mono ?_
  rintro e w3 ⟨rfl, hs3, hg3⟩
  have H3 : Hd (RdS telK base w3 g vl (.slice none 0 0) vq L [] 0 0 k p fl ws xs ∧ Rr w3 gr A' lc c' 0 0 c ∧ Chg [g] w w3) := ⟨H2.out.1.crc hs3 hg3, H2.out.2.1.off (Chg.of_grown hg3) HA.out.1 HA.out.2.1, H2.out.2.2.trans (Chg.of_grown hg3)⟩
  clear hs3 hg3 H2
  have d5 : w3.cell? ⟨g, 5, none⟩ = some (.int .i64 (k : Int)) := H3.out.1.at_ 5 rfl
  have z5 := H3.out.1.z 5
  have d6 : w3.cell? ⟨g, 6, none⟩ = some (.int .i64 (p : Int)) := H3.out.1.at_ 6 rfl
  have z6 := H3.out.1.z 6
  go_upto_region 6 with fail
  obtain ⟨w4, hw4⟩ : ∃ W, (w3.setCell ⟨g, 5, none⟩ (.int .i64 0)).setCell ⟨g, 6, none⟩ (.int .i64 0) = W := ⟨_, rfl⟩
  rw [hw4]
  have hb4 : Chg [g] w3 w4 := by rw [← hw4]; exact ((Chg.refl [g] w3).setCell (by simp) _).setCell (by simp) _
  have H4 : Hd (RdS telK base w4 g vl (.slice none 0 0) vq L [] 0 0 0 0 fl ws xs ∧ Rr w4 gr A' lc c' 0 0 c ∧ Chg [g] w w4) := ⟨by rw [← hw4]; exact (H3.out.1.put 5 (.int .i64 0) (k' := 0) (p' := p) (fl' := fl) rfl).put 6 (.int .i64 0) (k' := 0) (p' := 0) (fl' := fl) rfl, H3.out.2.1.off hb4 HA.out.1 HA.out.2.1, H3.out.2.2.trans hb4⟩
  clear hw4 d5 z5 d6 z6 hb4 H3
  have d0 : w4.cell? ⟨g, 0, none⟩ = some (.bool true) := H4.out.1.at_ 0 rfl
  go_upto_region 8 with fail
  have hz : (⟨#[]⟩ : ByteArray) = emS := rfl
  try rw [hz]
  obtain ⟨gb, hgb⟩ : ∃ gb, w4.heap.size = gb := ⟨_, rfl⟩
  obtain ⟨w5, hw5⟩ : ∃ W, w4.alloc (.cells #[.int .i64 0, .int .u64 0, .int .i64 0, .slice none 0 0, .slice none 0 0, .slice none 0 0, .string emS, .bool false, .int .i64 0, .int .i64 0, .int .i64 0, .int .i64 0, .int .i64 0, .int .i64 0, .int .i64 0] 43) = W := ⟨_, rfl⟩
  rw [hw5]
  try rw [hgb]
  have H5 : Hd (RdS telK base w5 g vl (.slice none 0 0) vq L [] 0 0 0 0 fl ws xs ∧ Rr w5 gr A' lc c' 0 0 c ∧ Chg [g] w w5 ∧ w5.heap[gb]? = some (.cells an0 43)) := ⟨by rw [← hw5]; exact H4.out.1.new ((Chg.refl [] _).alloc _), by rw [← hw5]; exact H4.out.2.1.keep ((Chg.refl [] _).alloc _) (by simp) (by simp), by rw [← hw5]; exact H4.out.2.2.alloc _, by rw [← hw5, ← hgb]; exact heap_alloc_new _ _⟩
  obtain ⟨N5, hN5⟩ : ∃ N, w5.heap.size = N := ⟨_, rfl⟩
  have HB : Hd (gr < gb ∧ w.heap.size ≤ gb ∧ gb < N5 ∧ w.heap.size ≤ N5) := ⟨by rw [← hgb]; exact H4.out.2.1.lt, by rw [← hgb]; exact H4.out.2.2.size, by rw [← hN5, ← hw5, ← hgb]; simp, by rw [← hN5]; exact H5.out.2.2.1.size⟩
  have HN5 := Hd.mk hN5
  clear hN5
  clear hw5 hgb hz d0 H4
  go_wp2_with fail
  refine (answer_any w5 gr lc c' A' c H5.out.2.1).mono ?_
  rintro e w6 ⟨W, ok, rfl, hc6, hm1, hm2, hcase⟩
  have HW := Hd.mk (And.intro hm1 hm2)
  have H6 : Hd (RdS telK base w6 g vl (.slice none 0 0) vq L [] 0 0 0 0 fl ws xs ∧ Chg [g] w w6 ∧ w6.heap[gb]? = some (.cells an0 43)) := ⟨H5.out.1.keepN hc6 (by have := HA.out.2.2; simp; omega) HX.out.1 HX.out.2.1, H5.out.2.2.1.newer hc6 (by have := HA.out.2.2; simp; omega), by rw [hc6.block gb (Array.getElem?_eq_some_iff.1 H5.out.2.2.2).1 (by have := HB.out.1; simp; omega)]; exact H5.out.2.2.2⟩
  have HC : Hd ((∃ x, ok = true ∧ (telK).rd c = some x ∧ (telK).is W x ∧ W.ok w6 N5) ∨ (ok = false ∧ (telK).rd c = none)) := ⟨hcase.imp (fun ⟨x, a1, a2, a3, a4⟩ => ⟨x, a1, a2, a3, by rw [← HN5.out]; exact a4⟩) id⟩
  clear hm1 hm2 hcase hc6 H5
  have hrow := H6.out.2.2
  rcases hok : ok with _ | _
  · subst hok
    have HN : Hd ((telK).rd c = none) := ⟨HC.out.elim (fun ⟨_, h, _⟩ => by cases h) (·.2)⟩
    clear HC
    go_upto_region 16 with (refine at_store (x := .tmp 4) ?_; refine wpList_stored rfl 43 (.tmp 4) (.tmp 31) rfl gb W.cells.toArray rfl rfl 43 an0 hrow (by rw [infoAn15]; simp [HW.out.1]) (by simp [HW.out.1]; rfl) HW.out.2 ?_; intro w7 hB7)
    have H7 : Hd (RdS telK base w7 g vl (.slice none 0 0) vq L [] 0 0 0 0 fl ws xs ∧ Chg [g] w w7) := ⟨H6.out.1.keepN (Chg.of_grown hB7.out.2.1) (by have := HB.out.2.1; simp; omega) HX.out.1 HX.out.2.1, H6.out.2.1.newer (Chg.of_grown hB7.out.2.1) (by have := HB.out.2.1; simp; omega)⟩
    clear hB7 hrow H6
    have d7 : w7.cell? ⟨g, 7, none⟩ = some (.int .i64 fl) := H7.out.1.at_ 7 rfl
    have z7 := H7.out.1.z 7
    go_wp2_with fail
    go_end0
    exact ⟨vq, 300, ws, xs, rfl, H7.out.1.put 7 (.int .i64 300) (k' := 0) (p' := 0) (fl' := 300) rfl, (H7.out.2.setCell (p := ⟨g, 7, none⟩) (by simp) _).mono (fun x hx _ => by rw [List.mem_singleton.1 hx]; exact mem_Y.2 (.inl rfl)), fun x hx => .inl hx, .inr ⟨HN.out, rfl, rfl, rfl⟩⟩
  · subst hok
    obtain ⟨x0, hx0⟩ : ∃ x, (telK).rd c = some x ∧ (telK).is W x ∧ W.ok w6 N5 := HC.out.elim (fun ⟨x, _, h⟩ => ⟨x, h⟩) (fun h => by cases h.1)
    have HM := Hd.mk hx0
    clear HC hx0
    go_upto_region 10 with (refine at_store (x := .tmp 4) ?_; refine wpList_stored rfl 43 (.tmp 4) (.tmp 31) rfl gb W.cells.toArray rfl rfl 43 an0 hrow (by rw [infoAn15]; simp [HW.out.1]) (by simp [HW.out.1]; rfl) HW.out.2 ?_; intro w7 hB7)
    have H7 : Hd (RdS telK base w7 g vl (.slice none 0 0) vq L [] 0 0 0 0 fl ws xs ∧ Chg [g] w w7 ∧ w7.heap[gb]? = some (.cells W.cells.toArray 43) ∧ W.ok w7 N5) := ⟨H6.out.1.keepN (Chg.of_grown hB7.out.2.1) (by have := HB.out.2.1; simp; omega) HX.out.1 HX.out.2.1, H6.out.2.1.newer (Chg.of_grown hB7.out.2.1) (by have := HB.out.2.1; simp; omega), hB7.out.1, HM.out.2.2.chg (Chg.of_grown hB7.out.2.1) (fun r hr x hx hm => by have := (HM.out.2.2.lt hr hx).1; have := HB.out.2.2.1; rw [List.mem_singleton.1 hm] at *; omega)⟩
    clear hB7 hrow H6
    have H8 : Hd (RdS telK base w7.drew g vl (.slice none 0 0) vq L [] 0 0 0 0 fl ws xs ∧ Chg [g] w w7.drew ∧ w7.drew.heap[gb]? = some (.cells W.cells.toArray 43) ∧ W.ok w7.drew N5) := ⟨H7.out.1.drew, H7.out.2.1.drew, H7.out.2.2.1, fun r hr => own_below' (H7.out.2.2.2 r hr) (Below.refl _ _).drew⟩
    clear H7
    refine wp_region_held_drew (S := fun U => U.heap[gb]? = some (.cells W.cells.toArray 43)) (by kernel_rfl) H8.out.2.2.1 (fun hHeld => ?_)
    obtain ⟨w8, hw8⟩ : ∃ U, w7.drew = U := ⟨_, rfl⟩
    rw [hw8] at H8 hHeld ⊢
    clear hw8
    refine wpAnyH_take (i := 0) (oi := ?oi601) (v := ?v601) ?hi601 (by kernel_rfl) (by kernel_rfl) (by kernel_rfl) ?hQ601 (Or.inl ⟨?hw601, ?hy601⟩) (by assumption) ?rest601
    case hi601 => simp only [List.getElem?_toArray, List.getElem?_cons_succ, List.getElem?_cons_zero]; rfl
    case hQ601 => exact fun _ _ _ h => h
    case hw601 => rfl
    case hy601 => (intro W hW; skip; go_simp; all_goals rfl)
    simp only [Act.put, List.setIfInBounds_toArray, List.set_cons_zero, List.set_cons_succ]
    refine wpAnyH_take (i := 1) (oi := ?oi602) (v := ?v602) ?hi602 (by kernel_rfl) (by kernel_rfl) (by kernel_rfl) ?hQ602 (Or.inl ⟨?hw602, ?hy602⟩) (by assumption) ?rest602
    case hi602 => simp only [List.getElem?_toArray, List.getElem?_cons_succ, List.getElem?_cons_zero]; rfl
    case hQ602 => exact fun _ _ _ h => h
    case hw602 => rfl
    case hy602 => (intro W hW; skip; go_simp; all_goals rfl)
    simp only [Act.put, List.setIfInBounds_toArray, List.set_cons_zero, List.set_cons_succ]
    refine wpAnyH_take (i := 2) (oi := ?oi603) (v := ?v603) ?hi603 (by kernel_rfl) (by kernel_rfl) (by kernel_rfl) ?hQ603 (Or.inl ⟨?hw603, ?hy603⟩) (by assumption) ?rest603
    case hi603 => simp only [List.getElem?_toArray, List.getElem?_cons_succ, List.getElem?_cons_zero]; rfl
    case hQ603 => exact fun _ _ _ h => h
    case hw603 => rfl
    case hy603 => (intro W hW; skip; go_simp; all_goals rfl)
    simp only [Act.put, List.setIfInBounds_toArray, List.set_cons_zero, List.set_cons_succ]
    refine wpAnyH_take (i := 3) (oi := ?oi604) (v := ?v604) ?hi604 (by kernel_rfl) (by kernel_rfl) (by kernel_rfl) ?hQ604 (Or.inl ⟨?hw604, ?hy604⟩) (by assumption) ?rest604
    case hi604 => simp only [List.getElem?_toArray, List.getElem?_cons_succ, List.getElem?_cons_zero]; rfl
    case hQ604 => exact fun _ _ _ h => h
    case hw604 => rfl
    case hy604 => (intro W hW; skip; go_simp; all_goals rfl)
    simp only [Act.put, List.setIfInBounds_toArray, List.set_cons_zero, List.set_cons_succ]
    refine wpAnyH_take (i := 5) (oi := ?oiR) (v := .agg W.cells.toArray) ?hiR (by kernel_rfl) (by kernel_rfl) (by kernel_rfl) ?hQR ?hyR (by assumption) ?restR
    case hiR => simp only [List.getElem?_toArray, List.getElem?_cons_succ, List.getElem?_cons_zero]; rfl
    case hQR => exact fun _ _ _ h => h
    case hyR => exact yieldsIf_load_mid rfl 43 (.tmp 4) rfl gb 0 rfl W.cells _ (fun U hU j v hj => by rw [Nat.zero_add, cell_of_row U gb j _ _ (0, 0) hU]; simpa using hj) Try.underlying43 rfl (by rw [infoAn15, HW.out.1])
    simp only [Act.put, List.setIfInBounds_toArray, List.set_cons_zero, List.set_cons_succ]
    have hcl := Wm_cells HW.out
    have HCL := Hd.mk hcl
    clear hcl
    have hd8 : w8.cell? ⟨g, 9, none⟩ = some vq := H8.out.1.at_ 9 rfl
    refine wpAnyH_ready (rs := [4, 6]) (by kernel_rfl) (by simp) ?_
    refine AllReadyH.cons (i := 4) (o := ?oA) ?hoA (fun Kq hK => ?stepA) (AllReadyH.cons (i := 6) (o := ?oB) ?hoB (fun Kq hK => ?stepB) AllReadyH.nil)
    case hoA => simp only [List.getElem?_toArray, List.getElem?_cons_succ, List.getElem?_cons_zero]; rfl
    case hoB => simp only [List.getElem?_toArray, List.getElem?_cons_succ, List.getElem?_cons_zero]; rfl
    case stepA =>
      go_simp
      refine hK.out _ _ hHeld (fun _ => ?_)
      clear hK Kq
      try simp only [Act.put, List.setIfInBounds_toArray, List.set_cons_zero, List.set_cons_succ]
      refine wpAnyH_ready (rs := [6]) (by kernel_rfl) (by simp) ?_
      refine AllReadyH.cons (i := 6) (o := ?oA6) ?hoA6 (fun Kq hK => ?stepA6) AllReadyH.nil
      case hoA6 => simp only [List.getElem?_toArray, List.getElem?_cons_succ, List.getElem?_cons_zero]; rfl
      refine step_build1 elAn rfl (.tmp 39) rfl W.cells.toArray rfl (by simpa using HW.out.1) ?_
      obtain ⟨N8, hN8⟩ : ∃ N, w8.heap.size = N := ⟨_, rfl⟩
      obtain ⟨w9, hw9⟩ : ∃ U, w8.alloc (.cells W.cells.toArray 43) = U := ⟨_, rfl⟩
      rw [hw9]
      try rw [hN8]
      have hb9 : Below w8.heap.size w8 w9 := by rw [← hw9]; exact (Below.refl _ _).alloc (Nat.le_refl _) _
      have HN9 : Hd (w9.heap[N8]? = some (.cells W.cells.toArray 43) ∧ Chg [] w8 w9 ∧ w8.heap.size = N8 ∧ w9.heap.size = N8 + 1) := ⟨by rw [← hw9, ← hN8]; exact heap_alloc_new _ _, Chg.of_below hb9, hN8, by rw [← hw9, ← hN8]; simp⟩
      have hF : w9.heap[gb]? = some (.cells W.cells.toArray 43) := by rw [hb9.block gb (Array.getElem?_eq_some_iff.1 hHeld).1]; exact hHeld
      clear hw9 hN8 hb9
      refine hK.out _ _ hF (fun _ => ?_)
      clear hK Kq hHeld
      have hHeld := hF
      clear hF
      try simp only [Act.put, List.setIfInBounds_toArray, List.set_cons_zero, List.set_cons_succ]
      refine wpAnyH_ready (rs := [7]) (by kernel_rfl) (by simp) ?_
      refine AllReadyH.cons (i := 7) (o := ?oA7) ?hoA7 (fun Kq hK => ?stepA7) AllReadyH.nil
      case hoA7 => simp only [List.getElem?_toArray, List.getElem?_cons_succ, List.getElem?_cons_zero]; rfl
      refine step_qpush elAn rfl (.tmp 38) (.tmp 40) rfl vq ws W rfl (H8.out.1.new HN9.out.2.1).qu HCL.out ⟨N8, 0, none⟩ 1 rfl (fun j u hj => ?_) (by omega) (by omega) (by have := (H8.out.1.new HN9.out.2.1).bg; have := (H8.out.1.new HN9.out.2.1).lt; omega) ?_
      · rw [show (⟨N8, 0, none⟩ : Addr).add j = ⟨N8, j, none⟩ by unfold Addr.add; split <;> simp_all, cell_of_row w9 N8 j _ _ (0, 0) HN9.out.1]; simpa using hj
      intro v' w10 hq10 hgr hor
      have hlt8 : g < w9.heap.size := by have := H8.out.1.lt; have := HN9.out.2.2; omega
      have hc10 : w10.cell? ⟨g, 9, none⟩ = some vq := (World.cell?_of_block (a := ⟨g, 9, none⟩) (hgr.block g hlt8 (fun e => H8.out.1.gq e.symm))).trans ((H8.out.1.new HN9.out.2.1).at_ 9 rfl)
      have hz10 : w10.frozen? ⟨g, 9, none⟩ = false := (World.frozen?_of_block (a := ⟨g, 9, none⟩) (hgr.block g hlt8 (fun e => H8.out.1.gq e.symm))).trans ((H8.out.1.new HN9.out.2.1).z 9)
      have hF : w10.heap[gb]? = some (.cells W.cells.toArray 43) := by rw [hgr.block gb (Array.getElem?_eq_some_iff.1 hHeld).1 (fun e => by have := HX.out.1 gb (mem_X.2 (.inr (.inr (.inr e.symm)))); have := HB.out.2.1; omega)]; exact hHeld
      have HQ := Hd.mk (And.intro hq10 (And.intro hgr (And.intro hor (And.intro hc10 hz10))))
      clear hq10 hgr hor hc10 hz10 hd8 hlt8
      refine hK.out _ _ hF (fun _ => ?_)
      clear hK Kq hHeld
      have hHeld := hF
      clear hF
      try simp only [Act.put, List.setIfInBounds_toArray, List.set_cons_zero, List.set_cons_succ]
      refine wpAnyH_take (i := 8) (oi := ?oi701) (v := ?v701) ?hi701 (by kernel_rfl) (by kernel_rfl) (by kernel_rfl) ?hQ701 (Or.inl ⟨?hw701, ?hy701⟩) (by assumption) ?rest701
      case hi701 => simp only [List.getElem?_toArray, List.getElem?_cons_succ, List.getElem?_cons_zero]; rfl
      case hQ701 => exact fun _ _ _ h => h
      case hw701 => rfl
      case hy701 => (intro W hW; skip; go_simp; all_goals rfl)
      simp only [Act.put, List.setIfInBounds_toArray, List.set_cons_zero, List.set_cons_succ]
      refine wpAnyH_take (i := 9) (oi := ?oi702) (v := ?v702) ?hi702 (by kernel_rfl) (by kernel_rfl) (by kernel_rfl) ?hQ702 (Or.inl ⟨?hw702, ?hy702⟩) (by assumption) ?rest702
      case hi702 => simp only [List.getElem?_toArray, List.getElem?_cons_succ, List.getElem?_cons_zero]; rfl
      case hQ702 => exact fun _ _ _ h => h
      case hw702 => rfl
      case hy702 => (intro W hW; skip; go_simp; all_goals rfl)
      simp only [Act.put, List.setIfInBounds_toArray, List.set_cons_zero, List.set_cons_succ]
      refine wpAnyH_ready (rs := [10]) (by kernel_rfl) (by simp) ?_
      refine AllReadyH.cons (i := 10) (o := ?oA10) ?hoA10 (fun Kq hK => ?stepA10) AllReadyH.nil
      case hoA10 => simp only [List.getElem?_toArray, List.getElem?_cons_succ, List.getElem?_cons_zero]; rfl
      obtain ⟨Aq, cq, hvq, _⟩ := HQ.out.1.form
      refine step_set rfl 56 (.tmp 43) (.tmp 41) rfl g 9 v' rfl rfl (by rw [hvq]; rfl) (by rw [hvq]; rfl) vq HQ.out.2.2.2.1 HQ.out.2.2.2.2 infoSlA ?_
      obtain ⟨w11, hw11⟩ : ∃ U, w10.setCell ⟨g, 9, none⟩ v' = U := ⟨_, rfl⟩
      rw [hw11]
      have hvn : v'.ownBlock = vq.ownBlock ∨ ∃ x, v'.ownBlock = some x ∧ w8.heap.size ≤ x := HQ.out.2.2.1.imp id fun e => ⟨_, e, HN9.out.2.1.size⟩
      have hne : ∀ r ∈ W.rows, ∀ x, r.2.1.ownBlock = some x → v'.ownBlock ≠ some x := by
        intro r hr x hx e
        have h1 := (H8.out.2.2.2.lt hr hx)
        rcases HQ.out.2.2.1 with h2 | h2
        · rw [h2] at e; have := HX.out.1 x (mem_X.2 (.inr (.inr (.inr e)))); have := HB.out.2.2.2; omega
        · rw [h2] at e
          injection e with e
          have := HN9.out.2.1.size
          omega
      have HR : Hd (RdS telK base w11 g vl (.slice none 0 0) v' L [] 0 0 0 0 fl (ws ++ [W]) (xs ++ [x0])) := ⟨by rw [← hw11]; exact H8.out.1.more HN9.out.2.1 HQ.out.1 HQ.out.2.1 hvn (H8.out.2.2.2.chg HN9.out.2.1 (fun r _ x _ hm => absurd hm List.not_mem_nil)) (fun x hx => Nat.lt_of_lt_of_le (HX.out.1 x hx) HB.out.2.2.2) (by have := H0.out.bg; have := H0.out.lt; have := HB.out.2.2.2; omega) hne HM.out.2.1⟩
      have HCH : Hd (Chg (rdY g vc vq) w w11) := ⟨by rw [← hw11]; exact (((H8.out.2.1.newer HN9.out.2.1 (by simp)).mono (L' := rdY g vc vq) (fun x hx _ => by rw [List.mem_singleton.1 hx]; exact mem_Y.2 (.inl rfl))).trans ⟨HQ.out.2.1.os, HQ.out.2.1.tape, HQ.out.2.1.output, HQ.out.2.1.size, fun x hx hm => HQ.out.2.1.block x hx fun e => hm (mem_Y.2 (.inr (.inr e.symm)))⟩).setCell (mem_Y.2 (.inl rfl)) _⟩
      have HWO : Hd (W.ok w11 w.heap.size) := ⟨fun r hr => own_higher (HR.out.ok W (by simp) r hr) (fun x hx => Nat.le_trans HB.out.2.2.2 (H8.out.2.2.2.lt hr hx).1)⟩
      have hF : w11.heap[gb]? = some (.cells W.cells.toArray 43) := by rw [← hw11, Below.heap_setCell _ _ _ _ (by show gb ≠ g; have := HB.out.2.1; have := HX.out.2.2; omega)]; exact hHeld
      clear hw11 hne hvn
      refine hK.out _ _ hF (fun _ => ?_)
      clear hK Kq hHeld hF
      try simp only [Act.put, List.setIfInBounds_toArray, List.set_cons_zero, List.set_cons_succ]
      refine wpAnyH_done (by kernel_rfl) ?_ _
      go_wp2_with fail
      go_end0
      exact ⟨v', fl, ws ++ [W], xs ++ [x0], rfl, HR.out, HCH.out, fun x hx => HQ.out.2.2.1.elim (fun e => .inl (e ▸ hx)) (fun e => .inr (by rw [e] at hx; injection hx; have := H8.out.2.1.size; have := HN9.out.2.1.size; omega)), .inl ⟨x0, W, HM.out.1, rfl, rfl, rfl, HWO.out⟩⟩
    case stepB =>
      refine step_build1 elAn rfl (.tmp 39) rfl W.cells.toArray rfl (by simpa using HW.out.1) ?_
      obtain ⟨N8, hN8⟩ : ∃ N, w8.heap.size = N := ⟨_, rfl⟩
      obtain ⟨w9, hw9⟩ : ∃ U, w8.alloc (.cells W.cells.toArray 43) = U := ⟨_, rfl⟩
      rw [hw9]
      try rw [hN8]
      have hb9 : Below w8.heap.size w8 w9 := by rw [← hw9]; exact (Below.refl _ _).alloc (Nat.le_refl _) _
      have HN9 : Hd (w9.heap[N8]? = some (.cells W.cells.toArray 43) ∧ Chg [] w8 w9 ∧ w8.heap.size = N8 ∧ w9.heap.size = N8 + 1) := ⟨by rw [← hw9, ← hN8]; exact heap_alloc_new _ _, Chg.of_below hb9, hN8, by rw [← hw9, ← hN8]; simp⟩
      have hF : w9.heap[gb]? = some (.cells W.cells.toArray 43) := by rw [hb9.block gb (Array.getElem?_eq_some_iff.1 hHeld).1]; exact hHeld
      clear hw9 hN8 hb9
      refine hK.out _ _ hF (fun _ => ?_)
      clear hK Kq hHeld
      have hHeld := hF
      clear hF
      try simp only [Act.put, List.setIfInBounds_toArray, List.set_cons_zero, List.set_cons_succ]
      have hd9 : w9.cell? ⟨g, 9, none⟩ = some vq := (H8.out.1.new HN9.out.2.1).at_ 9 rfl
      refine wpAnyH_ready (rs := [4]) (by kernel_rfl) (by simp) ?_
      refine AllReadyH.cons (i := 4) (o := ?oB4) ?hoB4 (fun Kq hK => ?stepB4) AllReadyH.nil
      case hoB4 => simp only [List.getElem?_toArray, List.getElem?_cons_succ, List.getElem?_cons_zero]; rfl
      go_simp
      refine hK.out _ _ hHeld (fun _ => ?_)
      clear hK Kq
      try simp only [Act.put, List.setIfInBounds_toArray, List.set_cons_zero, List.set_cons_succ]
      refine wpAnyH_ready (rs := [7]) (by kernel_rfl) (by simp) ?_
      refine AllReadyH.cons (i := 7) (o := ?oB7) ?hoB7 (fun Kq hK => ?stepB7) AllReadyH.nil
      case hoB7 => simp only [List.getElem?_toArray, List.getElem?_cons_succ, List.getElem?_cons_zero]; rfl
      refine step_qpush elAn rfl (.tmp 38) (.tmp 40) rfl vq ws W rfl (H8.out.1.new HN9.out.2.1).qu HCL.out ⟨N8, 0, none⟩ 1 rfl (fun j u hj => ?_) (by omega) (by omega) (by have := (H8.out.1.new HN9.out.2.1).bg; have := (H8.out.1.new HN9.out.2.1).lt; omega) ?_
      · rw [show (⟨N8, 0, none⟩ : Addr).add j = ⟨N8, j, none⟩ by unfold Addr.add; split <;> simp_all, cell_of_row w9 N8 j _ _ (0, 0) HN9.out.1]; simpa using hj
      intro v' w10 hq10 hgr hor
      have hlt8 : g < w9.heap.size := by have := H8.out.1.lt; have := HN9.out.2.2; omega
      have hc10 : w10.cell? ⟨g, 9, none⟩ = some vq := (World.cell?_of_block (a := ⟨g, 9, none⟩) (hgr.block g hlt8 (fun e => H8.out.1.gq e.symm))).trans ((H8.out.1.new HN9.out.2.1).at_ 9 rfl)
      have hz10 : w10.frozen? ⟨g, 9, none⟩ = false := (World.frozen?_of_block (a := ⟨g, 9, none⟩) (hgr.block g hlt8 (fun e => H8.out.1.gq e.symm))).trans ((H8.out.1.new HN9.out.2.1).z 9)
      have hF : w10.heap[gb]? = some (.cells W.cells.toArray 43) := by rw [hgr.block gb (Array.getElem?_eq_some_iff.1 hHeld).1 (fun e => by have := HX.out.1 gb (mem_X.2 (.inr (.inr (.inr e.symm)))); have := HB.out.2.1; omega)]; exact hHeld
      have HQ := Hd.mk (And.intro hq10 (And.intro hgr (And.intro hor (And.intro hc10 hz10))))
      clear hq10 hgr hor hc10 hz10 hd8 hd9 hlt8
      refine hK.out _ _ hF (fun _ => ?_)
      clear hK Kq hHeld
      have hHeld := hF
      clear hF
      try simp only [Act.put, List.setIfInBounds_toArray, List.set_cons_zero, List.set_cons_succ]
      refine wpAnyH_take (i := 8) (oi := ?oi901) (v := ?v901) ?hi901 (by kernel_rfl) (by kernel_rfl) (by kernel_rfl) ?hQ901 (Or.inl ⟨?hw901, ?hy901⟩) (by assumption) ?rest901
      case hi901 => simp only [List.getElem?_toArray, List.getElem?_cons_succ, List.getElem?_cons_zero]; rfl
      case hQ901 => exact fun _ _ _ h => h
      case hw901 => rfl
      case hy901 => (intro W hW; skip; go_simp; all_goals rfl)
      simp only [Act.put, List.setIfInBounds_toArray, List.set_cons_zero, List.set_cons_succ]
      refine wpAnyH_take (i := 9) (oi := ?oi902) (v := ?v902) ?hi902 (by kernel_rfl) (by kernel_rfl) (by kernel_rfl) ?hQ902 (Or.inl ⟨?hw902, ?hy902⟩) (by assumption) ?rest902
      case hi902 => simp only [List.getElem?_toArray, List.getElem?_cons_succ, List.getElem?_cons_zero]; rfl
      case hQ902 => exact fun _ _ _ h => h
      case hw902 => rfl
      case hy902 => (intro W hW; skip; go_simp; all_goals rfl)
      simp only [Act.put, List.setIfInBounds_toArray, List.set_cons_zero, List.set_cons_succ]
      refine wpAnyH_ready (rs := [10]) (by kernel_rfl) (by simp) ?_
      refine AllReadyH.cons (i := 10) (o := ?oB10) ?hoB10 (fun Kq hK => ?stepB10) AllReadyH.nil
      case hoB10 => simp only [List.getElem?_toArray, List.getElem?_cons_succ, List.getElem?_cons_zero]; rfl
      obtain ⟨Aq, cq, hvq, _⟩ := HQ.out.1.form
      refine step_set rfl 56 (.tmp 43) (.tmp 41) rfl g 9 v' rfl rfl (by rw [hvq]; rfl) (by rw [hvq]; rfl) vq HQ.out.2.2.2.1 HQ.out.2.2.2.2 infoSlA ?_
      obtain ⟨w11, hw11⟩ : ∃ U, w10.setCell ⟨g, 9, none⟩ v' = U := ⟨_, rfl⟩
      rw [hw11]
      have hvn : v'.ownBlock = vq.ownBlock ∨ ∃ x, v'.ownBlock = some x ∧ w8.heap.size ≤ x := HQ.out.2.2.1.imp id fun e => ⟨_, e, HN9.out.2.1.size⟩
      have hne : ∀ r ∈ W.rows, ∀ x, r.2.1.ownBlock = some x → v'.ownBlock ≠ some x := by
        intro r hr x hx e
        have h1 := (H8.out.2.2.2.lt hr hx)
        rcases HQ.out.2.2.1 with h2 | h2
        · rw [h2] at e; have := HX.out.1 x (mem_X.2 (.inr (.inr (.inr e)))); have := HB.out.2.2.2; omega
        · rw [h2] at e
          injection e with e
          have := HN9.out.2.1.size
          omega
      have HR : Hd (RdS telK base w11 g vl (.slice none 0 0) v' L [] 0 0 0 0 fl (ws ++ [W]) (xs ++ [x0])) := ⟨by rw [← hw11]; exact H8.out.1.more HN9.out.2.1 HQ.out.1 HQ.out.2.1 hvn (H8.out.2.2.2.chg HN9.out.2.1 (fun r _ x _ hm => absurd hm List.not_mem_nil)) (fun x hx => Nat.lt_of_lt_of_le (HX.out.1 x hx) HB.out.2.2.2) (by have := H0.out.bg; have := H0.out.lt; have := HB.out.2.2.2; omega) hne HM.out.2.1⟩
      have HCH : Hd (Chg (rdY g vc vq) w w11) := ⟨by rw [← hw11]; exact (((H8.out.2.1.newer HN9.out.2.1 (by simp)).mono (L' := rdY g vc vq) (fun x hx _ => by rw [List.mem_singleton.1 hx]; exact mem_Y.2 (.inl rfl))).trans ⟨HQ.out.2.1.os, HQ.out.2.1.tape, HQ.out.2.1.output, HQ.out.2.1.size, fun x hx hm => HQ.out.2.1.block x hx fun e => hm (mem_Y.2 (.inr (.inr e.symm)))⟩).setCell (mem_Y.2 (.inl rfl)) _⟩
      have HWO : Hd (W.ok w11 w.heap.size) := ⟨fun r hr => own_higher (HR.out.ok W (by simp) r hr) (fun x hx => Nat.le_trans HB.out.2.2.2 (H8.out.2.2.2.lt hr hx).1)⟩
      have hF : w11.heap[gb]? = some (.cells W.cells.toArray 43) := by rw [← hw11, Below.heap_setCell _ _ _ _ (by show gb ≠ g; have := HB.out.2.1; have := HX.out.2.2; omega)]; exact hHeld
      clear hw11 hne hvn
      refine hK.out _ _ hF (fun _ => ?_)
      clear hK Kq hHeld hF
      try simp only [Act.put, List.setIfInBounds_toArray, List.set_cons_zero, List.set_cons_succ]
      refine wpAnyH_done (by kernel_rfl) ?_ _
      go_wp2_with fail
      go_end0
      exact ⟨v', fl, ws ++ [W], xs ++ [x0], rfl, HR.out, HCH.out, fun x hx => HQ.out.2.2.1.elim (fun e => .inl (e ▸ hx)) (fun e => .inr (by rw [e] at hx; injection hx; have := H8.out.2.1.size; have := HN9.out.2.1.size; omega)), .inl ⟨x0, W, HM.out.1, rfl, rfl, rfl, HWO.out⟩⟩
end Go.Proofs.Ytbcmjjcbjojakaa
end
section
/- Contract of wire.number. -/
namespace Go.Proofs.Ytbcmjjcbjojakaa
open Go.RowKit
set_option linter.unusedVariables false
set_option linter.unusedSimpArgs false
theorem wnum_step (v b : Nat) (hv : v < 16777216) (hb : b < 256) : bits .or .u32 ((v * 256 : Nat) : Int) (b : Int) = ((b + 256 * v : Nat) : Int) := by
  rw [u32_or_nat _ _ (by omega) (by omega), nat_join 8 (v * 256) b (by omega) (by omega)]
  omega
theorem wnum_any (w : World) (A : Option Addr) (n c B : Nat) (bs : List Nat) (hr : Rd w B A n (cb bs)) (hl : ∀ x ∈ bs, x < 256) (hn : n ≤ 4) :
    Calls Try.prog 101 #[.slice A n c] w fun e w' => e = .returned (.int .u32 ((le256 bs : Nat) : Int)) ∧ w = w' := by
  have hbl : bs.length = n := by have := hr.1; rwa [cb_length] at this
  have HH : Hd (Rd w B A n (cb bs) ∧ (∀ x ∈ bs, x < 256) ∧ bs.length = n) := ⟨hr, hl, hbl⟩
  have HLT : Hd (∀ k, 1 ≤ k → k ≤ n → le256 (bs.drop k) < 16777216) := ⟨fun k h1 h2 => by
    have h3 := le256_lt (bs.drop k) fun x hx => hl x (List.mem_of_mem_drop hx)
    have h4 : (bs.drop k).length ≤ 3 := by rw [List.length_drop]; omega
    exact Nat.lt_of_lt_of_le h3 (Nat.le_trans (Nat.pow_le_pow_right (by omega) h4) (by decide))⟩
  clear hr hl hbl
  go_enter Try.func101, Try.ntmps101
  go_wp2_with fail
  go_loop [3, 4] (fun u3 u4 => ∃ k : Nat, k ≤ n ∧ u4 = .int .i64 ((k : Int) - 1) ∧ u3 = .int .u32 ((le256 (bs.drop k) : Nat) : Int)) (fun _ u4 => (intOf u4 + 1).toNat)
  case atStart =>
    refine ⟨n, by omega, ?_, ?_⟩
    · first | rfl | go_num | (simp; omega)
    · rw [List.drop_of_length_le (by have := HH.out.2.2; omega)]; rfl
  case round =>
    obtain ⟨k, hk, rfl, rfl⟩ := hrel
    by_cases h0 : 0 < k
    · obtain ⟨j, rfl⟩ : ∃ j, k = j + 1 := ⟨k - 1, by omega⟩
      obtain ⟨g, off, u, hA, _, hx, hc⟩ := HH.out.1.at_ (k := j) (by omega)
      rw [cb_get _ _ (by have := HH.out.2.2; omega)] at hx
      injection hx with hx
      subst hx hA
      have hb : bs.getD j 0 < 256 := by
        have := HH.out.2.2
        rw [List.getD_eq_getElem?_getD, List.getElem?_eq_getElem (by omega)]; exact HH.out.2.1 _ (List.getElem_mem _)
      have hv := HLT.out (j + 1) (by omega) hk
      have HE : Hd (le256 (bs.drop j) = bs.getD j 0 + 256 * le256 (bs.drop (j + 1))) := ⟨by rw [drop_cons bs j (by have := HH.out.2.2; omega)]; rfl⟩
      obtain ⟨b, hbb⟩ : ∃ b, bs.getD j 0 = b := ⟨_, rfl⟩
      obtain ⟨v, hvv⟩ : ∃ v, le256 (bs.drop (j + 1)) = v := ⟨_, rfl⟩
      rw [hbb] at hc hb HE
      rw [hvv] at hv HE ⊢
      clear hbb hvv
      have hji : (((j + 1 : Nat) : Int) - 1) = (j : Int) := by omega
      rw [hji]
      have hsh : IntKind.u32.wrap ((v : Int) * 256) = ((v * 256 : Nat) : Int) := by rw [IntKind.wrap_u32]; omega
      have hor := wnum_step v b hv hb
      go_wp2_with fail
      go_round
      case rel => exact ⟨j, by omega, by first | rfl | go_num, by rw [HE.out]; first | rfl | exact congrArg (Value.int .u32) hor | (congr 1; rw [← hor]; congr 1; omega)⟩
      case measure => simp [intOf]
    · have hk0 : k = 0 := by omega
      subst hk0
      go_wp2_with fail
      go_ret
      exact ⟨rfl, rfl⟩
end Go.Proofs.Ytbcmjjcbjojakaa
end
section
/- Contract of the reader's chunk. (tools/chunkgen.py prints it.) -/
namespace Go.Proofs.Ytbcmjjcbjojakaa
open Go.RowKit
set_option linter.unusedVariables false
set_option linter.unusedSimpArgs false
/-- What a chunk comes to. -/
def CkLaw {T : Type} (Z : Kd T) (N : Nat) (w' : World) (m : Mid) (bs : List Nat) (ws : List Wm) (xs : List T) (r : Nat) (m' : Mid) (fl' : Int) (ws' : List Wm) (xs' : List T) : Prop :=
  match ckP m.s m.k bs with
  | .wait => r = 0 ∧ fl' = 0 ∧ m' = m ∧ ws' = ws ∧ xs' = xs
  | .bad e => r = 0 ∧ fl' = e ∧ ws' = ws ∧ xs' = xs
  | .ok false n => r = n + 11 ∧ fl' = 0 ∧ m' = m.next bs n ∧ ws' = ws ∧ xs' = xs
  | .ok true n => r = n + 11 ∧ m' = mid0 ∧ ((∃ x W, Z.rd (m.next bs n).c = some x ∧ fl' = 0 ∧ xs' = xs ++ [x] ∧ ws' = ws ++ [W] ∧ W.ok w' N) ∨ (Z.rd (m.next bs n).c = none ∧ fl' = 300 ∧ ws' = ws ∧ xs' = xs))
def CkDone {T : Type} (Z : Kd T) (base : Nat) (w : World) (g : Nat) (vl vc vq : Value) (L : List Nat) (m : Mid) (bs : List Nat) (ws : List Wm) (xs : List T) (e : Ending) (w' : World) : Prop :=
  ∃ (r : Nat) (vc' vq' : Value) (m' : Mid) (C' : Nat) (fl' : Int) (ws' : List Wm) (xs' : List T), e = .returned (.int .i64 (r : Int)) ∧ RdS Z base w' g vl vc' vq' L m'.c m'.s C' m'.k m'.p fl' ws' xs' ∧ Chg (rdY g vc vq) w w' ∧ (∀ x ∈ rdY g vc' vq', x ∈ rdY g vc vq ∨ w.heap.size ≤ x) ∧ CkLaw Z w.heap.size w' m bs ws xs r m' fl' ws' xs'
theorem rd_seg {w : World} {B n c l h : Nat} {A : Option Addr} {bs : List Nat} (hr : Rd w B A n (cb bs)) (h1 : l ≤ h) (h2 : h ≤ n) (h3 : n ≤ c) : Rd w B (cutA A c l) (h - l) (cb (seg bs l (h - l))) := by
  have := hr.cut (c := c) h1 h2 h3
  unfold seg
  rw [← cb_take, ← cb_drop]; exact this
theorem ckN_eq (bs : List Nat) (h : 3 ≤ bs.length) : le256 (seg bs 1 2) = ckN bs := by
  match bs, h with
  | a :: b :: c :: l, _ => simp [seg, ckN, le256]
theorem seg_lt {bs : List Nat} (h : ∀ x ∈ bs, x < 256) (i n : Nat) : ∀ x ∈ seg bs i n, x < 256 := fun x hx => h x (List.mem_of_mem_drop (List.mem_of_mem_take hx))
theorem seg_len {bs : List Nat} {i n : Nat} (h : i + n ≤ bs.length) : (seg bs i n).length = n := by unfold seg; rw [List.length_take, List.length_drop]; omega
section
variable {T : Type} {Z : Kd T} {N : Nat} {w' : World} {c : List Nat} {S k p : Nat} {bs : List Nat} {ws : List Wm} {xs : List T}
theorem CkLaw.wait (h : ckP S k bs = .wait) : CkLaw Z N w' ⟨c, S, k, p⟩ bs ws xs 0 ⟨c, S, k, p⟩ 0 ws xs := by unfold CkLaw; simp only; rw [h]; simp
theorem CkLaw.bad {e : Int} {m' : Mid} (h : ckP S k bs = .bad e) : CkLaw Z N w' ⟨c, S, k, p⟩ bs ws xs 0 m' e ws xs := by unfold CkLaw; simp only; rw [h]; simp
end
set_option maxRecDepth 20000 in
set_option maxHeartbeats 16000000 in
theorem chunk_any0 {T : Type} (Z : Kd T) (base : Nat) (w : World) (g : Nat) (vl vc vq : Value) (L c : List Nat) (S C k p : Nat) (ws : List Wm) (xs : List T) (h : RdS Z base w g vl vc vq L c S C k p 0 ws xs) (A : Option Addr) (n cp : Nat) (bs : List Nat) (hr : Rd w w.heap.size A n (cb bs)) (hn : n ≤ cp) (hl : ∀ x ∈ bs, x < 256) (hn40 : n ≤ 1099511627776)
    (hA : ∀ gg off, A = some ⟨gg, off, none⟩ → 0 < n → gg ∉ rdY g vc vq) (hk : k ≤ 2047) (hcl : c.length ≤ 16384 * k) (hp : p ≤ 16395 * k)
    (HMS : ∀ (w1 : World) (vc1 : Value) (c1 : List Nat) (S1 C1 k1 p1 : Nat), RdS Z base w1 g vl vc1 vq L c1 S1 C1 k1 p1 0 ws xs → c1.length ≤ 67108864 → Calls Try.prog 102 #[.pointer (some ⟨g, 0, none⟩)] w1 (MsgDone Z base w1 g vl vc1 vq L c1 0 ws xs)) :
    Calls Try.prog 78 #[.pointer (some ⟨g, 0, none⟩), .slice A n cp] w (CkDone Z base w g vl vc vq L ⟨c, S, k, p⟩ bs ws xs) := by
  have hbl : bs.length = n := by have := hr.1; rwa [cb_length] at this
  have H0 := Hd.mk h
  have HM := Hd.mk HMS
  have HR : Hd (Rd w w.heap.size A n (cb bs) ∧ (∀ x ∈ bs, x < 256) ∧ bs.length = n) := ⟨hr, hl, hbl⟩
  have HRW : Hd (∀ W, Chg (rdY g vc vq) w W → Rd W W.heap.size A n (cb bs)) := ⟨fun W b => (b.rd' hr (Nat.le_refl _) hA).more b.size⟩
  have HKN : Hd (c.length ≤ 16384 * k ∧ p ≤ 16395 * k) := ⟨hcl, hp⟩
  have hp2 : p ≤ 33560565 := by omega
  have HKE : Hd (∀ w1, Chg [] w w1 → RdS Z base w1 g vl vc vq L c S C k p 0 ws xs ∧ Chg (rdY g vc vq) w w1) := ⟨fun w1 b => ⟨h.new b, b.mono (by simp)⟩⟩
  have HYS : Hd (∀ x ∈ rdY g vc vq, x ∈ rdY g vc vq ∨ w.heap.size ≤ x) := ⟨fun x hx => .inl hx⟩
  clear h HMS hr hl hbl hcl hp hA
  go_enter Try.func78, Try.ntmps78
  by_cases h7 : n < 7
  · have h7i : (n : Int) < 7 := by omega
    go_wp2_with fail
    go_ret
    exact ⟨0, vc, vq, ⟨c, S, k, p⟩, C, 0, ws, xs, rfl, H0.out, Chg.refl _ _, HYS.out, CkLaw.wait (by unfold ckP; rw [if_pos (by have := HR.out.2.2; omega)])⟩
  have h7i : ¬ (n : Int) < 7 := by omega
  have hcp3 : 3 ≤ cp := by omega
  have hcp7 : 7 ≤ cp := by omega
  have hcp3i : (3 : Int) ≤ (cp : Int) := by omega
  have hcp7i : (7 : Int) ≤ (cp : Int) := by omega
  have s13 : ∀ w, (Instr.slice 26 (.slice A n cp) (some (.int .i64 1)) (some (.int .i64 3)) none).run Try.prog w = .ok (.slice (cutA A cp 1) 2 (cp - 1)) w := fun w => run_cut elB A n cp 1 3 (by omega) (by omega)
  have s03 : ∀ w, (Instr.slice 26 (.slice A n cp) none (some (.int .i64 3)) none).run Try.prog w = .ok (.slice A 3 cp) w := fun w => run_cut_to elB A n cp 3 (by omega)
  have s37 : ∀ w, (Instr.slice 26 (.slice A n cp) (some (.int .i64 3)) (some (.int .i64 7)) none).run Try.prog w = .ok (.slice (cutA A cp 3) 4 (cp - 3)) w := fun w => run_cut elB A n cp 3 7 (by omega) (by omega)
  obtain ⟨N0, hN0⟩ : ∃ N, ckN bs = N := ⟨_, rfl⟩
  have HN0 := Hd.mk hN0
  have hNL : N0 < 65536 := by
    have h1 := le256_lt (seg bs 1 2) (seg_lt HR.out.2.1 1 2)
    rw [ckN_eq bs (by have := HR.out.2.2; omega), seg_len (by have := HR.out.2.2; omega), hN0] at h1
    omega
  clear hN0
  go_wp2_with fail
  refine (wnum_any w (cutA A cp 1) 2 (cp - 1) w.heap.size (seg bs 1 2) (rd_seg (l := 1) (h := 3) HR.out.1 (by omega) (by omega) hn) (seg_lt HR.out.2.1 1 2) (by omega)).mono ?_
  rw [ckN_eq bs (by have := HR.out.2.2; omega), HN0.out]
  rintro e w1 ⟨rfl, hw1⟩
  subst hw1
  go_upto_region 4 with fail
  obtain ⟨q1, hq1⟩ : ∃ q, Crc.more 0 (bs.take 3) = q := ⟨_, rfl⟩
  obtain ⟨q2, hq2⟩ : ∃ q, le256 (seg bs 3 4) = q := ⟨_, rfl⟩
  have HQ : Hd (Crc.more 0 (bs.take 3) = q1 ∧ le256 (seg bs 3 4) = q2) := ⟨hq1, hq2⟩
  clear hq1 hq2
  refine wp_region_held_drew (S := fun _ => True) (by kernel_rfl) trivial (fun hHeld => ?_)
  have H1 : Hd (RdS Z base w.drew g vl vc vq L c S C k p 0 ws xs ∧ Chg (rdY g vc vq) w w.drew) := ⟨HKE.out _ (Chg.refl [] w).drew⟩
  obtain ⟨w1, hw1⟩ : ∃ U, w.drew = U := ⟨_, rfl⟩
  rw [hw1] at H1 ⊢
  clear hw1
  refine wpAnyH_take (i := 0) (oi := ?oi101) (v := ?v101) ?hi101 (by kernel_rfl) (by kernel_rfl) (by kernel_rfl) ?hQ101 (Or.inl ⟨?hw101, ?hy101⟩) (by assumption) ?rest101
  case hi101 => simp only [List.getElem?_toArray, List.getElem?_cons_succ, List.getElem?_cons_zero]; rfl
  case hQ101 => exact fun _ _ _ h => h
  case hw101 => rfl
  case hy101 => (intro W hW; go_simp; all_goals rfl)
  simp only [Act.put, List.setIfInBounds_toArray, List.set_cons_zero, List.set_cons_succ]
  refine wpAnyH_take (i := 1) (oi := ?oi102) (v := ?v102) ?hi102 (by kernel_rfl) (by kernel_rfl) (by kernel_rfl) ?hQ102 (Or.inl ⟨?hw102, ?hy102⟩) (by assumption) ?rest102
  case hi102 => simp only [List.getElem?_toArray, List.getElem?_cons_succ, List.getElem?_cons_zero]; rfl
  case hQ102 => exact fun _ _ _ h => h
  case hw102 => rfl
  case hy102 => (intro W hW; go_simp; all_goals rfl)
  simp only [Act.put, List.setIfInBounds_toArray, List.set_cons_zero, List.set_cons_succ]
  refine wpAnyH_take (i := 3) (oi := ?oi103) (v := ?v103) ?hi103 (by kernel_rfl) (by kernel_rfl) (by kernel_rfl) ?hQ103 (Or.inl ⟨?hw103, ?hy103⟩) (by assumption) ?rest103
  case hi103 => simp only [List.getElem?_toArray, List.getElem?_cons_succ, List.getElem?_cons_zero]; rfl
  case hQ103 => exact fun _ _ _ h => h
  case hw103 => rfl
  case hy103 => (intro W hW; go_simp; all_goals rfl)
  simp only [Act.put, List.setIfInBounds_toArray, List.set_cons_zero, List.set_cons_succ]
  refine wpAnyH_take (i := 4) (oi := ?oi104) (v := ?v104) ?hi104 (by kernel_rfl) (by kernel_rfl) (by kernel_rfl) ?hQ104 (Or.inl ⟨?hw104, ?hy104⟩) (by assumption) ?rest104
  case hi104 => simp only [List.getElem?_toArray, List.getElem?_cons_succ, List.getElem?_cons_zero]; rfl
  case hQ104 => exact fun _ _ _ h => h
  case hw104 => rfl
  case hy104 => (intro W hW; go_simp; all_goals rfl)
  simp only [Act.put, List.setIfInBounds_toArray, List.set_cons_zero, List.set_cons_succ]
  refine wpAnyH_ready (rs := [2]) (by kernel_rfl) (by simp) ?_
  refine AllReadyH.cons (i := 2) (o := ?o105) ?ho105 (fun Kq hK => ?step105) AllReadyH.nil
  case ho105 => simp only [List.getElem?_toArray, List.getElem?_cons_succ, List.getElem?_cons_zero]; rfl
  go_simp
  (go_at_call 93; refine (sum_any w1 A 3 cp w1.heap.size (bs.take 3) (by have := (HRW.out w1 H1.out.2).take (h := 3) (by omega); rw [cb_take] at this; exact this) (Nat.le_refl _) (fun x hx => HR.out.2.1 x (List.mem_of_mem_take hx)) (by omega)).mono ?_; rw [HQ.out.1]; rintro e w2 ⟨rfl, hb⟩)
  have H2 : Hd (RdS Z base w2 g vl vc vq L c S C k p 0 ws xs ∧ Chg (rdY g vc vq) w w2) := ⟨H1.out.1.below hb, H1.out.2.trans (Chg.of_below hb)⟩
  clear hb
  refine hK.out _ _ trivial (fun _ => ?_)
  clear hK Kq
  try simp only [Act.put, List.setIfInBounds_toArray, List.set_cons_zero, List.set_cons_succ]
  refine wpAnyH_ready (rs := [5]) (by kernel_rfl) (by simp) ?_
  refine AllReadyH.cons (i := 5) (o := ?o106) ?ho106 (fun Kq hK => ?step106) AllReadyH.nil
  case ho106 => simp only [List.getElem?_toArray, List.getElem?_cons_succ, List.getElem?_cons_zero]; rfl
  go_simp
  (go_at_call 101; refine (wnum_any w2 (cutA A cp 3) 4 (cp - 3) w2.heap.size (seg bs 3 4) (rd_seg (l := 3) (h := 7) (HRW.out w2 H2.out.2) (by omega) (by omega) hn) (seg_lt HR.out.2.1 3 4) (by omega)).mono ?_; rw [HQ.out.2]; rintro e w3 ⟨rfl, hw3⟩; subst hw3)
  refine hK.out _ _ trivial (fun _ => ?_)
  clear hK Kq
  try simp only [Act.put, List.setIfInBounds_toArray, List.set_cons_zero, List.set_cons_succ]
  refine wpAnyH_take (i := 6) (oi := ?oi107) (v := ?v107) ?hi107 (by kernel_rfl) (by kernel_rfl) (by kernel_rfl) ?hQ107 (Or.inl ⟨?hw107, ?hy107⟩) (by assumption) ?rest107
  case hi107 => simp only [List.getElem?_toArray, List.getElem?_cons_succ, List.getElem?_cons_zero]; rfl
  case hQ107 => exact fun _ _ _ h => h
  case hw107 => rfl
  case hy107 => (intro W hW; go_simp; all_goals rfl)
  simp only [Act.put, List.setIfInBounds_toArray, List.set_cons_zero, List.set_cons_succ]
  refine wpAnyH_done (by kernel_rfl) ?_ _
  clear H1 hHeld s13 s03 s37
  have hb0 : ∃ gg off, A = some ⟨gg, off, none⟩ ∧ (∀ W, Chg (rdY g vc vq) w W → W.cell? ⟨gg, off, none⟩ = some (.int .u8 ((bs.getD 0 0 : Nat) : Int))) := by
    obtain ⟨gg, off, hAe, _, _⟩ := HR.out.1.2 (by omega)
    refine ⟨gg, off, hAe, fun W b => ?_⟩
    obtain ⟨g2, o2, h1, _, h2⟩ := (HRW.out W b).2 (by omega)
    rw [hAe] at h1; injection h1 with h1; injection h1 with h3 h4
    have := h2 0 (by omega)
    rw [cb_get _ _ (by have := HR.out.2.2; omega)] at this
    rw [h3, h4]; exact this
  obtain ⟨ga, oa, hAe, hb0⟩ := hb0
  have HB0 := Hd.mk hb0
  subst hAe
  clear hb0
  have hc0 := HB0.out w2 H2.out.2
  by_cases e12 : q1 = q2
  case neg =>
    have e12b : ((q1 : Int) == (q2 : Int)) = false := beq_eq_false_iff_ne.2 (by omega)
    clear hc0
    have d7 : w2.cell? ⟨g, 7, none⟩ = some (.int .i64 0) := H2.out.1.at_ 7 rfl
    have z7 := H2.out.1.z 7
    go_wp2_with fail
    go_ret
    exact ⟨0, vc, vq, ⟨c, S, k, p⟩, _, 302, ws, xs, rfl, H2.out.1.put 7 (.int .i64 302) rfl, H2.out.2.setCell (mem_Y.2 (.inl rfl)) _, HYS.out, CkLaw.bad (by unfold ckP; rw [if_neg (by have := HR.out.2.2; omega), if_pos (by rw [HQ.out.1, HQ.out.2]; exact e12)])⟩
  have e12b : ((q1 : Int) == (q2 : Int)) = true := by subst e12; simp
  have HE := Hd.mk e12
  clear e12
  obtain ⟨b0, hbb⟩ : ∃ b, bs.getD 0 0 = b := ⟨_, rfl⟩
  have HBB := Hd.mk hbb
  have hb256 : b0 < 256 := by
    rw [← hbb, List.getD_eq_getElem?_getD, List.getElem?_eq_getElem (by have := HR.out.2.2; omega)]; exact HR.out.2.1 _ (List.getElem_mem _)
  rw [hbb] at hc0 HB0
  clear hbb
  have d5 : w2.cell? ⟨g, 5, none⟩ = some (.int .i64 (k : Int)) := H2.out.1.at_ 5 rfl
  by_cases k1 : b0 = 1
  · have hc1 : w2.cell? ⟨ga, oa, none⟩ = some (.int .u8 1) := by rw [hc0, k1]; rfl
    clear hc0
    by_cases k2 : N0 = 16384
    case neg =>
      have k2b : ((N0 : Int) == 16384) = false := beq_eq_false_iff_ne.2 (by omega)
      by_cases k3 : N0 = 0
      · have k3b : ((N0 : Int) == 0) = true := by subst k3; rfl
        have d7 : w2.cell? ⟨g, 7, none⟩ = some (.int .i64 0) := H2.out.1.at_ 7 rfl
        have z7 := H2.out.1.z 7
        go_wp2_with fail
        go_ret
        exact ⟨0, vc, vq, ⟨c, S, k, p⟩, _, 301, ws, xs, rfl, H2.out.1.put 7 (.int .i64 301) rfl, H2.out.2.setCell (mem_Y.2 (.inl rfl)) _, HYS.out, CkLaw.bad (by unfold ckP; rw [if_neg (by have := HR.out.2.2; omega), if_neg (fun h => h (by rw [HQ.out.1, HQ.out.2]; exact HE.out)), if_pos (by unfold ckOdd; rw [HN0.out, HBB.out]; omega)])⟩
      have k3b : ((N0 : Int) == 0) = false := beq_eq_false_iff_ne.2 (by omega)
      by_cases k4 : 16384 < N0
      · have k4i : (16384 : Int) < (N0 : Int) := by omega
        have d7 : w2.cell? ⟨g, 7, none⟩ = some (.int .i64 0) := H2.out.1.at_ 7 rfl
        have z7 := H2.out.1.z 7
        go_wp2_with fail
        go_ret
        exact ⟨0, vc, vq, ⟨c, S, k, p⟩, _, 301, ws, xs, rfl, H2.out.1.put 7 (.int .i64 301) rfl, H2.out.2.setCell (mem_Y.2 (.inl rfl)) _, HYS.out, CkLaw.bad (by unfold ckP; rw [if_neg (by have := HR.out.2.2; omega), if_neg (fun h => h (by rw [HQ.out.1, HQ.out.2]; exact HE.out)), if_pos (by unfold ckOdd; rw [HN0.out, HBB.out]; omega)])⟩
      have k4i : ¬ (16384 : Int) < (N0 : Int) := by omega
      have d7 : w2.cell? ⟨g, 7, none⟩ = some (.int .i64 0) := H2.out.1.at_ 7 rfl
      have z7 := H2.out.1.z 7
      go_wp2_with fail
      go_ret
      exact ⟨0, vc, vq, ⟨c, S, k, p⟩, _, 301, ws, xs, rfl, H2.out.1.put 7 (.int .i64 301) rfl, H2.out.2.setCell (mem_Y.2 (.inl rfl)) _, HYS.out, CkLaw.bad (by unfold ckP; rw [if_neg (by have := HR.out.2.2; omega), if_neg (fun h => h (by rw [HQ.out.1, HQ.out.2]; exact HE.out)), if_pos (by unfold ckOdd; rw [HN0.out, HBB.out]; omega)])⟩
    have k2b : ((N0 : Int) == 16384) = true := by subst k2; rfl
    have k3b : ((N0 : Int) == 0) = false := beq_eq_false_iff_ne.2 (by omega)
    have k4i : ¬ (16384 : Int) < (N0 : Int) := by omega
    by_cases k5 : k = 2047
    · have k5b : ((k : Int) == 2047) = true := by subst k5; rfl
      have d7 : w2.cell? ⟨g, 7, none⟩ = some (.int .i64 0) := H2.out.1.at_ 7 rfl
      have z7 := H2.out.1.z 7
      go_wp2_with fail
      go_ret
      exact ⟨0, vc, vq, ⟨c, S, k, p⟩, _, 301, ws, xs, rfl, H2.out.1.put 7 (.int .i64 301) rfl, H2.out.2.setCell (mem_Y.2 (.inl rfl)) _, HYS.out, CkLaw.bad (by unfold ckP; rw [if_neg (by have := HR.out.2.2; omega), if_neg (fun h => h (by rw [HQ.out.1, HQ.out.2]; exact HE.out)), if_pos (by unfold ckOdd; rw [HN0.out, HBB.out]; omega)])⟩
    have k5b : ((k : Int) == 2047) = false := beq_eq_false_iff_ne.2 (by omega)
    have HOD : Hd (¬ ckOdd k bs ∧ b0 = 1 ∧ 0 < N0 ∧ N0 ≤ 16384 ∧ k ≤ 2047 ∧ k ≠ 2047) := ⟨by unfold ckOdd; rw [HN0.out, HBB.out]; omega, by omega, by omega, by omega, by omega, by omega⟩
    have HN16 : Hd (N0 = 16384) := ⟨k2⟩
    rw [show ((N0 : Nat) : Int) = 16384 by omega]
    clear k1
    try clear k2
    have hN2' : N0 ≤ 16384 := HOD.out.2.2.2.1
    go_upto_region 11 with fail
    try clear k2b
    try clear k3b
    try clear k4i
    try clear k5b
    try clear d5
    have hN1 : 0 < N0 := HOD.out.2.2.1
    have hN2 : N0 ≤ 16384 := HOD.out.2.2.2.1
    by_cases hw : n < N0 + 11
    · have hwi : (n : Int) < 16395 := by have := HN16.out; omega
      go_wp2_with fail
      go_ret
      exact ⟨0, vc, vq, ⟨c, S, k, p⟩, C, 0, ws, xs, rfl, H2.out.1, H2.out.2, HYS.out, CkLaw.wait (by unfold ckP; rw [if_neg (by have := HR.out.2.2; omega), if_neg (fun h => h (by rw [HQ.out.1, HQ.out.2]; exact HE.out)), if_neg HOD.out.1, if_pos (by rw [HN0.out]; have := HR.out.2.2; omega)])⟩
    have hwi : ¬ (n : Int) < 16395 := by have := HN16.out; omega
    have s7n : ∀ w, (Instr.slice 26 (.slice (some ⟨ga, oa, none⟩) n cp) (some (.int .i64 7)) (some (.int .i64 16391)) none).run Try.prog w = .ok (.slice (cutA (some ⟨ga, oa, none⟩) cp 7) N0 (cp - 7)) w := fun w => by
      have := run_cut (w := w) elB (some ⟨ga, oa, none⟩) n cp 7 (7 + N0) (by omega) (by omega)
      rw [Nat.add_sub_cancel_left, show ((7 + N0 : Nat) : Int) = 16391 by have := HN16.out; omega] at this; exact this
    have snw : ∀ w, (Instr.slice 26 (.slice (some ⟨ga, oa, none⟩) n cp) (some (.int .i64 16391)) (some (.int .i64 16395)) none).run Try.prog w = .ok (.slice (cutA (some ⟨ga, oa, none⟩) cp (7 + N0)) 4 (cp - (7 + N0))) w := fun w => by
      have := run_cut (w := w) elB (some ⟨ga, oa, none⟩) n cp (7 + N0) (7 + N0 + 4) (by omega) (by omega)
      rw [Nat.add_sub_cancel_left, show ((7 + N0 : Nat) : Int) = 16391 by have := HN16.out; omega, show ((7 + N0 + 4 : Nat) : Int) = 16395 by have := HN16.out; omega] at this; exact this
    have HS7 := Hd.mk s7n
    have HSW := Hd.mk snw
    clear s7n snw
    go_upto_region 14 with fail
    clear hwi
    have s7n := HS7.out
    have hwp : IntKind.i64.wrap 16391 = 16391 := by rw [IntKind.wrap_i64]; omega
    have HWP := Hd.mk hwp
    refine wp_region_held_drew (S := fun _ => True) (by kernel_rfl) trivial (fun hHeld => ?_)
    have H3 : Hd (RdS Z base w2.drew g vl vc vq L c S C k p 0 ws xs ∧ Chg (rdY g vc vq) w w2.drew) := ⟨H2.out.1.drew, H2.out.2.drew⟩
    obtain ⟨w3, hw3⟩ : ∃ U, w2.drew = U := ⟨_, rfl⟩
    rw [hw3] at H3 ⊢
    clear hw3
    refine wpAnyH_take (i := 0) (oi := ?oi201) (v := ?v201) ?hi201 (by kernel_rfl) (by kernel_rfl) (by kernel_rfl) ?hQ201 (Or.inl ⟨?hw201, ?hy201⟩) (by assumption) ?rest201
    case hi201 => simp only [List.getElem?_toArray, List.getElem?_cons_succ, List.getElem?_cons_zero]; rfl
    case hQ201 => exact fun _ _ _ h => h
    case hw201 => rfl
    case hy201 => (intro W hW; go_simp; all_goals rfl)
    simp only [Act.put, List.setIfInBounds_toArray, List.set_cons_zero, List.set_cons_succ]
    refine wpAnyH_take (i := 1) (oi := ?oi202) (v := ?v202) ?hi202 (by kernel_rfl) (by kernel_rfl) (by kernel_rfl) ?hQ202 (Or.inl ⟨?hw202, ?hy202⟩) (by assumption) ?rest202
    case hi202 => simp only [List.getElem?_toArray, List.getElem?_cons_succ, List.getElem?_cons_zero]; rfl
    case hQ202 => exact fun _ _ _ h => h
    case hw202 => rfl
    case hy202 => (intro W hW; go_simp; all_goals rfl)
    simp only [Act.put, List.setIfInBounds_toArray, List.set_cons_zero, List.set_cons_succ]
    refine wpAnyH_take (i := 2) (oi := ?oi203) (v := ?v203) ?hi203 (by kernel_rfl) (by kernel_rfl) (by kernel_rfl) ?hQ203 (Or.inl ⟨?hw203, ?hy203⟩) (by assumption) ?rest203
    case hi203 => simp only [List.getElem?_toArray, List.getElem?_cons_succ, List.getElem?_cons_zero]; rfl
    case hQ203 => exact fun _ _ _ h => h
    case hw203 => rfl
    case hy203 => (intro W hW; go_simp; all_goals rfl)
    simp only [Act.put, List.setIfInBounds_toArray, List.set_cons_zero, List.set_cons_succ]
    refine wpAnyH_take (i := 3) (oi := ?oi204) (v := ?v204) ?hi204 (by kernel_rfl) (by kernel_rfl) (by kernel_rfl) ?hQ204 (Or.inl ⟨?hw204, ?hy204⟩) (by assumption) ?rest204
    case hi204 => simp only [List.getElem?_toArray, List.getElem?_cons_succ, List.getElem?_cons_zero]; rfl
    case hQ204 => exact fun _ _ _ h => h
    case hw204 => rfl
    case hy204 => (intro W hW; go_simp; all_goals rfl)
    simp only [Act.put, List.setIfInBounds_toArray, List.set_cons_zero, List.set_cons_succ]
    refine wpAnyH_take (i := 4) (oi := ?oi205) (v := ?v205) ?hi205 (by kernel_rfl) (by kernel_rfl) (by kernel_rfl) ?hQ205 (Or.inl ⟨?hw205, ?hy205⟩) (by assumption) ?rest205
    case hi205 => simp only [List.getElem?_toArray, List.getElem?_cons_succ, List.getElem?_cons_zero]; rfl
    case hQ205 => exact fun _ _ _ h => h
    case hw205 => rfl
    case hy205 => (intro W hW; go_simp; all_goals rfl)
    simp only [Act.put, List.setIfInBounds_toArray, List.set_cons_zero, List.set_cons_succ]
    refine wpAnyH_take (i := 5) (oi := ?oi206) (v := ?v206) ?hi206 (by kernel_rfl) (by kernel_rfl) (by kernel_rfl) ?hQ206 (Or.inl ⟨?hw206, ?hy206⟩) (by assumption) ?rest206
    case hi206 => simp only [List.getElem?_toArray, List.getElem?_cons_succ, List.getElem?_cons_zero]; rfl
    case hQ206 => exact fun _ _ _ h => h
    case hw206 => rfl
    case hy206 => (intro W hW; go_simp; all_goals rfl)
    simp only [Act.put, List.setIfInBounds_toArray, List.set_cons_zero, List.set_cons_succ]
    refine wpAnyH_take (i := 6) (oi := ?oi207) (v := ?v207) ?hi207 (by kernel_rfl) (by kernel_rfl) (by kernel_rfl) ?hQ207 (Or.inl ⟨?hw207, ?hy207⟩) (by assumption) ?rest207
    case hi207 => simp only [List.getElem?_toArray, List.getElem?_cons_succ, List.getElem?_cons_zero]; rfl
    case hQ207 => exact fun _ _ _ h => h
    case hw207 => rfl
    case hy207 => (intro W hW; go_simp; all_goals rfl)
    simp only [Act.put, List.setIfInBounds_toArray, List.set_cons_zero, List.set_cons_succ]
    refine wpAnyH_ready (rs := [7]) (by kernel_rfl) (by simp) ?_
    refine AllReadyH.cons (i := 7) (o := ?o208) ?ho208 (fun Kq hK => ?step208) AllReadyH.nil
    case ho208 => simp only [List.getElem?_toArray, List.getElem?_cons_succ, List.getElem?_cons_zero]; rfl
    go_simp
    (go_at_call 91; refine (write_any w3 g 3 58 S C _ (cutA (some ⟨ga, oa, none⟩) cp 7) N0 (cp - 7) w3.heap.size (seg bs 7 N0) H3.out.1.strm (by have := rd_seg (l := 7) (h := 7 + N0) (HRW.out w3 H3.out.2) (by omega) (by omega) hn; rw [Nat.add_sub_cancel_left] at this; exact this) (Nat.le_refl _) (seg_lt HR.out.2.1 7 N0) (by omega)).mono ?_; rintro e w4 ⟨rfl, hs4, hg4⟩)
    have H4 : Hd (RdS Z base w4 g vl vc vq L c (Crc.more S (seg bs 7 N0)) ((C + N0) % 18446744073709551616) k p 0 ws xs ∧ Chg (rdY g vc vq) w w4) := ⟨H3.out.1.crc hs4 hg4, H3.out.2.trans ((Chg.of_grown hg4).mono (fun x hx _ => by rw [List.mem_singleton.1 hx]; exact mem_Y.2 (.inl rfl)))⟩
    clear hs4 hg4
    refine hK.out _ _ trivial (fun _ => ?_)
    clear hK Kq
    try simp only [Act.put, List.setIfInBounds_toArray, List.set_cons_zero, List.set_cons_succ]
    refine wpAnyH_done (by kernel_rfl) ?_ _
    clear hHeld s7n H3 hwp
    obtain ⟨S2, hS2⟩ : ∃ s, Crc.more S (seg bs 7 N0) = s := ⟨_, rfl⟩
    obtain ⟨C2, hC2⟩ : ∃ s, (C + N0) % 18446744073709551616 = s := ⟨_, rfl⟩
    have HS2 := Hd.mk hS2
    rw [hS2, hC2] at H4
    clear hS2 hC2
    obtain ⟨q4, hq4⟩ : ∃ q, le256 (seg bs (7 + N0) 4) = q := ⟨_, rfl⟩
    have HQ4 := Hd.mk hq4
    clear hq4
    go_upto_region 15 with fail
    have snw := HSW.out
    have hwp := HWP.out
    refine wp_region_held_drew (S := fun _ => True) (by kernel_rfl) trivial (fun hHeld => ?_)
    have H5 : Hd (RdS Z base w4.drew g vl vc vq L c S2 C2 k p 0 ws xs ∧ Chg (rdY g vc vq) w w4.drew) := ⟨H4.out.1.drew, H4.out.2.drew⟩
    obtain ⟨w5, hw5⟩ : ∃ U, w4.drew = U := ⟨_, rfl⟩
    rw [hw5] at H5 ⊢
    clear hw5 H4
    refine wpAnyH_take (i := 0) (oi := ?oi301) (v := ?v301) ?hi301 (by kernel_rfl) (by kernel_rfl) (by kernel_rfl) ?hQ301 (Or.inl ⟨?hw301, ?hy301⟩) (by assumption) ?rest301
    case hi301 => simp only [List.getElem?_toArray, List.getElem?_cons_succ, List.getElem?_cons_zero]; rfl
    case hQ301 => exact fun _ _ _ h => h
    case hw301 => rfl
    case hy301 => (intro W hW; go_simp; all_goals rfl)
    simp only [Act.put, List.setIfInBounds_toArray, List.set_cons_zero, List.set_cons_succ]
    refine wpAnyH_take (i := 1) (oi := ?oi302) (v := ?v302) ?hi302 (by kernel_rfl) (by kernel_rfl) (by kernel_rfl) ?hQ302 (Or.inl ⟨?hw302, ?hy302⟩) (by assumption) ?rest302
    case hi302 => simp only [List.getElem?_toArray, List.getElem?_cons_succ, List.getElem?_cons_zero]; rfl
    case hQ302 => exact fun _ _ _ h => h
    case hw302 => rfl
    case hy302 => (intro W hW; go_simp; all_goals rfl)
    simp only [Act.put, List.setIfInBounds_toArray, List.set_cons_zero, List.set_cons_succ]
    refine wpAnyH_take (i := 2) (oi := ?oi303) (v := ?v303) ?hi303 (by kernel_rfl) (by kernel_rfl) (by kernel_rfl) ?hQ303 (Or.inl ⟨?hw303, ?hy303⟩) (by assumption) ?rest303
    case hi303 => simp only [List.getElem?_toArray, List.getElem?_cons_succ, List.getElem?_cons_zero]; rfl
    case hQ303 => exact fun _ _ _ h => h
    case hw303 => rfl
    case hy303 => (intro W hW; go_simp; all_goals rfl)
    simp only [Act.put, List.setIfInBounds_toArray, List.set_cons_zero, List.set_cons_succ]
    refine wpAnyH_take (i := 4) (oi := ?oi304) (v := ?v304) ?hi304 (by kernel_rfl) (by kernel_rfl) (by kernel_rfl) ?hQ304 (Or.inl ⟨?hw304, ?hy304⟩) (by assumption) ?rest304
    case hi304 => simp only [List.getElem?_toArray, List.getElem?_cons_succ, List.getElem?_cons_zero]; rfl
    case hQ304 => exact fun _ _ _ h => h
    case hw304 => rfl
    case hy304 => (intro W hW; go_simp; all_goals rfl)
    simp only [Act.put, List.setIfInBounds_toArray, List.set_cons_zero, List.set_cons_succ]
    refine wpAnyH_take (i := 5) (oi := ?oi305) (v := ?v305) ?hi305 (by kernel_rfl) (by kernel_rfl) (by kernel_rfl) ?hQ305 (Or.inl ⟨?hw305, ?hy305⟩) (by assumption) ?rest305
    case hi305 => simp only [List.getElem?_toArray, List.getElem?_cons_succ, List.getElem?_cons_zero]; rfl
    case hQ305 => exact fun _ _ _ h => h
    case hw305 => rfl
    case hy305 => (intro W hW; go_simp; all_goals rfl)
    simp only [Act.put, List.setIfInBounds_toArray, List.set_cons_zero, List.set_cons_succ]
    refine wpAnyH_take (i := 6) (oi := ?oi306) (v := ?v306) ?hi306 (by kernel_rfl) (by kernel_rfl) (by kernel_rfl) ?hQ306 (Or.inl ⟨?hw306, ?hy306⟩) (by assumption) ?rest306
    case hi306 => simp only [List.getElem?_toArray, List.getElem?_cons_succ, List.getElem?_cons_zero]; rfl
    case hQ306 => exact fun _ _ _ h => h
    case hw306 => rfl
    case hy306 => (intro W hW; go_simp; all_goals rfl)
    simp only [Act.put, List.setIfInBounds_toArray, List.set_cons_zero, List.set_cons_succ]
    refine wpAnyH_take (i := 7) (oi := ?oi307) (v := ?v307) ?hi307 (by kernel_rfl) (by kernel_rfl) (by kernel_rfl) ?hQ307 (Or.inl ⟨?hw307, ?hy307⟩) (by assumption) ?rest307
    case hi307 => simp only [List.getElem?_toArray, List.getElem?_cons_succ, List.getElem?_cons_zero]; rfl
    case hQ307 => exact fun _ _ _ h => h
    case hw307 => rfl
    case hy307 => (intro W hW; go_simp; all_goals rfl)
    simp only [Act.put, List.setIfInBounds_toArray, List.set_cons_zero, List.set_cons_succ]
    refine wpAnyH_take (i := 8) (oi := ?oi308) (v := ?v308) ?hi308 (by kernel_rfl) (by kernel_rfl) (by kernel_rfl) ?hQ308 (Or.inl ⟨?hw308, ?hy308⟩) (by assumption) ?rest308
    case hi308 => simp only [List.getElem?_toArray, List.getElem?_cons_succ, List.getElem?_cons_zero]; rfl
    case hQ308 => exact fun _ _ _ h => h
    case hw308 => rfl
    case hy308 => (intro W hW; go_simp; all_goals rfl)
    simp only [Act.put, List.setIfInBounds_toArray, List.set_cons_zero, List.set_cons_succ]
    refine wpAnyH_ready (rs := [3]) (by kernel_rfl) (by simp) ?_
    refine AllReadyH.cons (i := 3) (o := ?o309) ?ho309 (fun Kq hK => ?step309) AllReadyH.nil
    case ho309 => simp only [List.getElem?_toArray, List.getElem?_cons_succ, List.getElem?_cons_zero]; rfl
    go_simp
    (go_at_call 94; refine (ssum_any w5 g 3 58 S2 C2 _ H5.out.1.strm).mono ?_; rintro e w6 ⟨rfl, hw6⟩; subst hw6)
    refine hK.out _ _ trivial (fun _ => ?_)
    clear hK Kq
    try simp only [Act.put, List.setIfInBounds_toArray, List.set_cons_zero, List.set_cons_succ]
    refine wpAnyH_ready (rs := [9]) (by kernel_rfl) (by simp) ?_
    refine AllReadyH.cons (i := 9) (o := ?o310) ?ho310 (fun Kq hK => ?step310) AllReadyH.nil
    case ho310 => simp only [List.getElem?_toArray, List.getElem?_cons_succ, List.getElem?_cons_zero]; rfl
    go_simp
    (go_at_call 101; refine (wnum_any w5 (cutA (some ⟨ga, oa, none⟩) cp (7 + N0)) 4 (cp - (7 + N0)) w5.heap.size (seg bs (7 + N0) 4) (by have := rd_seg (l := 7 + N0) (h := 7 + N0 + 4) (HRW.out w5 H5.out.2) (by omega) (by omega) hn; rw [Nat.add_sub_cancel_left] at this; exact this) (seg_lt HR.out.2.1 _ 4) (by omega)).mono ?_; rw [HQ4.out]; rintro e w6 ⟨rfl, hw6⟩; subst hw6)
    refine hK.out _ _ trivial (fun _ => ?_)
    clear hK Kq
    try simp only [Act.put, List.setIfInBounds_toArray, List.set_cons_zero, List.set_cons_succ]
    refine wpAnyH_take (i := 10) (oi := ?oi311) (v := ?v311) ?hi311 (by kernel_rfl) (by kernel_rfl) (by kernel_rfl) ?hQ311 (Or.inl ⟨?hw311, ?hy311⟩) (by assumption) ?rest311
    case hi311 => simp only [List.getElem?_toArray, List.getElem?_cons_succ, List.getElem?_cons_zero]; rfl
    case hQ311 => exact fun _ _ _ h => h
    case hw311 => rfl
    case hy311 => (intro W hW; go_simp; all_goals rfl)
    simp only [Act.put, List.setIfInBounds_toArray, List.set_cons_zero, List.set_cons_succ]
    refine wpAnyH_done (by kernel_rfl) ?_ _
    clear hHeld snw hwp
    by_cases e4 : S2 = q4
    case neg =>
      have e4b : ((S2 : Int) == (q4 : Int)) = false := beq_eq_false_iff_ne.2 (by omega)
      have d7 : w5.cell? ⟨g, 7, none⟩ = some (.int .i64 0) := H5.out.1.at_ 7 rfl
      have z7 := H5.out.1.z 7
      go_wp2_with fail
      go_ret
      exact ⟨0, vc, vq, ⟨c, S2, k, p⟩, _, 302, ws, xs, rfl, H5.out.1.put 7 (.int .i64 302) rfl, H5.out.2.setCell (mem_Y.2 (.inl rfl)) _, HYS.out, CkLaw.bad (by unfold ckP; rw [if_neg (by have := HR.out.2.2; omega), if_neg (fun h => h (by rw [HQ.out.1, HQ.out.2]; exact HE.out)), if_neg HOD.out.1, if_neg (by rw [HN0.out]; have := HR.out.2.2; omega), if_pos (by rw [HN0.out, HS2.out, HQ4.out]; exact e4)])⟩
    have e4b : ((S2 : Int) == (q4 : Int)) = true := by subst e4; simp
    have HCK : Hd (ckP S k bs = .ok false N0) := ⟨by unfold ckP; rw [if_neg (by have := HR.out.2.2; omega), if_neg (fun h => h (by rw [HQ.out.1, HQ.out.2]; exact HE.out)), if_neg HOD.out.1, if_neg (by rw [HN0.out]; have := HR.out.2.2; omega), if_neg (fun h => h (by rw [HN0.out, HS2.out, HQ4.out]; exact e4)), HN0.out, HBB.out, HOD.out.2.1]; rfl⟩
    clear e4
    go_upto_region 18 with fail
    clear e4b
    have s7n := HS7.out
    have hwp := HWP.out
    refine wp_region_held_drew (S := fun _ => True) (by kernel_rfl) trivial (fun hHeld => ?_)
    have H6 : Hd (RdS Z base w5.drew g vl vc vq L c S2 C2 k p 0 ws xs ∧ Chg (rdY g vc vq) w w5.drew) := ⟨H5.out.1.drew, H5.out.2.drew⟩
    obtain ⟨w6, hw6⟩ : ∃ U, w5.drew = U := ⟨_, rfl⟩
    rw [hw6] at H6 ⊢
    clear hw6 H5
    refine wpAnyH_take (i := 0) (oi := ?oi401) (v := ?v401) ?hi401 (by kernel_rfl) (by kernel_rfl) (by kernel_rfl) ?hQ401 (Or.inl ⟨?hw401, ?hy401⟩) (by assumption) ?rest401
    case hi401 => simp only [List.getElem?_toArray, List.getElem?_cons_succ, List.getElem?_cons_zero]; rfl
    case hQ401 => exact fun _ _ _ h => h
    case hw401 => rfl
    case hy401 => (intro W hW; go_simp; all_goals rfl)
    simp only [Act.put, List.setIfInBounds_toArray, List.set_cons_zero, List.set_cons_succ]
    refine wpAnyH_take (i := 1) (oi := ?oi402) (v := ?v402) ?hi402 (by kernel_rfl) (by kernel_rfl) (by kernel_rfl) ?hQ402 (Or.inl ⟨?hw402, ?hy402⟩) (by assumption) ?rest402
    case hi402 => simp only [List.getElem?_toArray, List.getElem?_cons_succ, List.getElem?_cons_zero]; rfl
    case hQ402 => exact fun _ _ _ h => h
    case hw402 => rfl
    case hy402 => (intro W hW; go_simp; all_goals rfl)
    simp only [Act.put, List.setIfInBounds_toArray, List.set_cons_zero, List.set_cons_succ]
    refine wpAnyH_take (i := 2) (oi := ?oi403) (v := ?v403) ?hi403 (by kernel_rfl) (by kernel_rfl) (by kernel_rfl) ?hQ403 (Or.inl ⟨?hw403, ?hy403⟩) (by assumption) ?rest403
    case hi403 => simp only [List.getElem?_toArray, List.getElem?_cons_succ, List.getElem?_cons_zero]; rfl
    case hQ403 => exact fun _ _ _ h => h
    case hw403 => rfl
    case hy403 => (intro W hW; go_simp; all_goals rfl)
    simp only [Act.put, List.setIfInBounds_toArray, List.set_cons_zero, List.set_cons_succ]
    refine wpAnyH_take (i := 3) (oi := ?oi404) (v := ?v404) ?hi404 (by kernel_rfl) (by kernel_rfl) (by kernel_rfl) ?hQ404 (Or.inl ⟨?hw404, ?hy404⟩) (by assumption) ?rest404
    case hi404 => simp only [List.getElem?_toArray, List.getElem?_cons_succ, List.getElem?_cons_zero]; rfl
    case hQ404 => exact fun _ _ _ h => h
    case hw404 => rfl
    case hy404 => (intro W hW; go_simp; all_goals rfl)
    simp only [Act.put, List.setIfInBounds_toArray, List.set_cons_zero, List.set_cons_succ]
    refine wpAnyH_take (i := 5) (oi := ?oi405) (v := ?v405) ?hi405 (by kernel_rfl) (by kernel_rfl) (by kernel_rfl) ?hQ405 (Or.inl ⟨?hw405, ?hy405⟩) (by assumption) ?rest405
    case hi405 => simp only [List.getElem?_toArray, List.getElem?_cons_succ, List.getElem?_cons_zero]; rfl
    case hQ405 => exact fun _ _ _ h => h
    case hw405 => rfl
    case hy405 => (intro W hW; go_simp; all_goals rfl)
    simp only [Act.put, List.setIfInBounds_toArray, List.set_cons_zero, List.set_cons_succ]
    refine wpAnyH_take (i := 6) (oi := ?oi406) (v := ?v406) ?hi406 (by kernel_rfl) (by kernel_rfl) (by kernel_rfl) ?hQ406 (Or.inl ⟨?hw406, ?hy406⟩) (by assumption) ?rest406
    case hi406 => simp only [List.getElem?_toArray, List.getElem?_cons_succ, List.getElem?_cons_zero]; rfl
    case hQ406 => exact fun _ _ _ h => h
    case hw406 => rfl
    case hy406 => (intro W hW; go_simp; all_goals rfl)
    simp only [Act.put, List.setIfInBounds_toArray, List.set_cons_zero, List.set_cons_succ]
    refine wpAnyH_take (i := 7) (oi := ?oi407) (v := ?v407) ?hi407 (by kernel_rfl) (by kernel_rfl) (by kernel_rfl) ?hQ407 (Or.inl ⟨?hw407, ?hy407⟩) (by assumption) ?rest407
    case hi407 => simp only [List.getElem?_toArray, List.getElem?_cons_succ, List.getElem?_cons_zero]; rfl
    case hQ407 => exact fun _ _ _ h => h
    case hw407 => rfl
    case hy407 => (intro W hW; go_simp; all_goals rfl)
    simp only [Act.put, List.setIfInBounds_toArray, List.set_cons_zero, List.set_cons_succ]
    refine wpAnyH_take (i := 8) (oi := ?oi408) (v := ?v408) ?hi408 (by kernel_rfl) (by kernel_rfl) (by kernel_rfl) ?hQ408 (Or.inl ⟨?hw408, ?hy408⟩) (by assumption) ?rest408
    case hi408 => simp only [List.getElem?_toArray, List.getElem?_cons_succ, List.getElem?_cons_zero]; rfl
    case hQ408 => exact fun _ _ _ h => h
    case hw408 => rfl
    case hy408 => (intro W hW; go_simp; all_goals rfl)
    simp only [Act.put, List.setIfInBounds_toArray, List.set_cons_zero, List.set_cons_succ]
    have hd2 : w6.cell? ⟨g, 2, none⟩ = some vc := H6.out.1.at_ 2 rfl
    refine wpAnyH_ready (rs := [4]) (by kernel_rfl) (by simp) ?_
    refine AllReadyH.cons (i := 4) (o := ?o4M) ?ho4M (fun Kq hK => ?step4M) AllReadyH.nil
    case ho4M => simp only [List.getElem?_toArray, List.getElem?_cons_succ, List.getElem?_cons_zero]; rfl
    go_simp
    refine hK.out _ _ trivial (fun _ => ?_)
    clear hK Kq hd2
    try simp only [Act.put, List.setIfInBounds_toArray, List.set_cons_zero, List.set_cons_succ]
    refine wpAnyH_ready (rs := [9]) (by kernel_rfl) (by simp) ?_
    refine AllReadyH.cons (i := 9) (o := ?o9M) ?ho9M (fun Kq hK => ?step9M) AllReadyH.nil
    case ho9M => simp only [List.getElem?_toArray, List.getElem?_cons_succ, List.getElem?_cons_zero]; rfl
    refine step_app elB rfl (.tmp 97) (.tmp 101) rfl base vc c.length (cb c) rfl H6.out.1.co w6.heap.size (cutA (some ⟨ga, oa, none⟩) cp 7) N0 (cp - 7) (cb (seg bs 7 N0)) rfl (by have := rd_seg (l := 7) (h := 7 + N0) (HRW.out w6 H6.out.2) (by omega) (by omega) hn; rw [Nat.add_sub_cancel_left] at this; exact this) (cb_one _) (by have := HKN.out.1; have := HOD.out.2.2.2.2; unfold maxLen; omega) (by have := HKN.out.1; have := HOD.out.2.2.2.2; omega) (Nat.le_trans H6.out.1.bg (Nat.le_of_lt H6.out.1.lt)) ?_
    intro v' w7 hO
    rw [← cb_append] at hO
    have hsl : (c ++ seg bs 7 N0).length = c.length + N0 := by rw [List.length_append, seg_len (by have := HR.out.2.2; omega)]
    have H7 : Hd (Onto w6 w7 base 5 vc v' (c ++ seg bs 7 N0).length (cb (c ++ seg bs 7 N0))) := ⟨by rw [hsl]; exact hO⟩
    have hlt6 := H6.out.1.lt
    have hc7 : w7.cell? ⟨g, 2, none⟩ = some vc := (World.cell?_of_block (a := ⟨g, 2, none⟩) (hO.2.1.block g hlt6 (fun e => H6.out.1.gc e.symm))).trans (H6.out.1.at_ 2 rfl)
    have hz7 : w7.frozen? ⟨g, 2, none⟩ = false := (World.frozen?_of_block (a := ⟨g, 2, none⟩) (hO.2.1.block g hlt6 (fun e => H6.out.1.gc e.symm))).trans (H6.out.1.z 2)
    have HCZ := Hd.mk (And.intro hc7 hz7)
    clear hO hsl hlt6 hc7 hz7
    refine hK.out _ _ trivial (fun _ => ?_)
    clear hK Kq
    try simp only [Act.put, List.setIfInBounds_toArray, List.set_cons_zero, List.set_cons_succ]
    refine wpAnyH_take (i := 10) (oi := ?oi501) (v := ?v501) ?hi501 (by kernel_rfl) (by kernel_rfl) (by kernel_rfl) ?hQ501 (Or.inl ⟨?hw501, ?hy501⟩) (by assumption) ?rest501
    case hi501 => simp only [List.getElem?_toArray, List.getElem?_cons_succ, List.getElem?_cons_zero]; rfl
    case hQ501 => exact fun _ _ _ h => h
    case hw501 => rfl
    case hy501 => (intro W hW; go_simp; all_goals rfl)
    simp only [Act.put, List.setIfInBounds_toArray, List.set_cons_zero, List.set_cons_succ]
    refine wpAnyH_take (i := 11) (oi := ?oi502) (v := ?v502) ?hi502 (by kernel_rfl) (by kernel_rfl) (by kernel_rfl) ?hQ502 (Or.inl ⟨?hw502, ?hy502⟩) (by assumption) ?rest502
    case hi502 => simp only [List.getElem?_toArray, List.getElem?_cons_succ, List.getElem?_cons_zero]; rfl
    case hQ502 => exact fun _ _ _ h => h
    case hw502 => rfl
    case hy502 => (intro W hW; go_simp; all_goals rfl)
    simp only [Act.put, List.setIfInBounds_toArray, List.set_cons_zero, List.set_cons_succ]
    refine wpAnyH_ready (rs := [12]) (by kernel_rfl) (by simp) ?_
    refine AllReadyH.cons (i := 12) (o := ?o12M) ?ho12M (fun Kq hK => ?step12M) AllReadyH.nil
    case ho12M => simp only [List.getElem?_toArray, List.getElem?_cons_succ, List.getElem?_cons_zero]; rfl
    obtain ⟨Av, cv, hv, hvc, _⟩ := own_form H7.out.1
    refine step_set rfl 26 (.tmp 104) (.tmp 102) rfl g 2 v' rfl rfl (by rw [hv]; rfl) (by rw [hv]; rfl) vc HCZ.out.1 HCZ.out.2 infoSlB ?_
    obtain ⟨w8, hw8⟩ : ∃ U, w7.setCell ⟨g, 2, none⟩ v' = U := ⟨_, rfl⟩
    rw [hw8]
    have H8 : Hd (RdS Z base w8 g vl v' vq L (c ++ seg bs 7 N0) S2 C2 k p 0 ws xs ∧ Chg (rdY g vc vq) w w8 ∧ (∀ x, v'.ownBlock = some x → vc.ownBlock = some x ∨ w6.heap.size ≤ x)) := ⟨by rw [← hw8]; exact H6.out.1.cont (Y := vc.ownBlock.toList) ⟨H7.out.2.1.os, H7.out.2.1.tape, H7.out.2.1.output, H7.out.2.1.size, fun x hx hm => H7.out.2.1.block x hx fun e => hm (by rw [Option.mem_toList]; exact e.symm)⟩ (fun x hx => by rwa [Option.mem_toList] at hx) H7.out.1 H7.out.2.2 (fun x hx => (List.mem_append.1 hx).elim (H6.out.1.cb_ x) (seg_lt HR.out.2.1 7 N0 x)), by rw [← hw8]; exact (H6.out.2.trans ⟨H7.out.2.1.os, H7.out.2.1.tape, H7.out.2.1.output, H7.out.2.1.size, fun x hx hm => H7.out.2.1.block x hx fun e => hm (mem_Y.2 (.inr (.inl e.symm)))⟩).setCell (mem_Y.2 (.inl rfl)) _, H7.out.2.2⟩
    clear hw8 hv hvc
    refine hK.out _ _ trivial (fun _ => ?_)
    clear hK Kq
    try simp only [Act.put, List.setIfInBounds_toArray, List.set_cons_zero, List.set_cons_succ]
    refine wpAnyH_done (by kernel_rfl) ?_ _
    clear hHeld HCZ s7n H7 hwp
    have d5 : w8.cell? ⟨g, 5, none⟩ = some (.int .i64 (k : Int)) := H8.out.1.at_ 5 rfl
    have z5 := H8.out.1.z 5
    have d6 : w8.cell? ⟨g, 6, none⟩ = some (.int .i64 (p : Int)) := H8.out.1.at_ 6 rfl
    have z6 := H8.out.1.z 6
    go_upto_region 21 with fail
    obtain ⟨w9, hw9⟩ : ∃ U, (w8.setCell ⟨g, 5, none⟩ (.int .i64 ((k : Int) + 1))).setCell ⟨g, 6, none⟩ (.int .i64 ((p : Int) + 16395)) = U := ⟨_, rfl⟩
    rw [hw9]
    rw [show ((k : Int) + 1) = ((k + 1 : Nat) : Int) by omega, show ((p : Int) + 16395) = ((p + (N0 + 11) : Nat) : Int) by have := HN16.out; omega] at hw9
    have H9 : Hd (RdS Z base w9 g vl v' vq L (c ++ seg bs 7 N0) S2 C2 (k + 1) (p + (N0 + 11)) 0 ws xs ∧ Chg (rdY g vc vq) w w9) := ⟨by rw [← hw9]; exact (H8.out.1.put 5 (.int .i64 ((k + 1 : Nat) : Int)) (k' := k + 1) (p' := p) (fl' := 0) rfl).put 6 (.int .i64 ((p + (N0 + 11) : Nat) : Int)) (k' := k + 1) (p' := p + (N0 + 11)) (fl' := 0) rfl, by rw [← hw9]; exact (H8.out.2.1.setCell (mem_Y.2 (.inl rfl)) _).setCell (mem_Y.2 (.inl rfl)) _⟩
    have HVN := Hd.mk H8.out.2.2
    have HSZ : Hd (w.heap.size ≤ w6.heap.size) := ⟨H6.out.2.size⟩
    clear hw9 d5 z5 d6 z6 H8 H6
    have hc9 : w9.cell? ⟨ga, oa, none⟩ = some (.int .u8 1) := by rw [HB0.out w9 H9.out.2, HOD.out.2.1]; rfl
    have HNX : Hd ((⟨c, S, k, p⟩ : Mid).next bs N0 = ⟨(c ++ seg bs 7 N0), S2, k + 1, p + (N0 + 11)⟩) := ⟨by unfold Mid.next; simp only; rw [HS2.out]⟩
    have HY2 : Hd (∀ x ∈ rdY g v' vq, x ∈ rdY g vc vq ∨ w.heap.size ≤ x) := ⟨fun x hx => by
      rcases mem_Y.1 hx with h1 | h1 | h1
      · exact .inl (mem_Y.2 (.inl h1))
      · rcases HVN.out x h1 with h2 | h2
        · exact .inl (mem_Y.2 (.inr (.inl h2)))
        · exact .inr (Nat.le_trans HSZ.out h2)
      · exact .inl (mem_Y.2 (.inr (.inr h1)))⟩
    go_wp2_with fail
    go_ret
    refine ⟨N0 + 11, v', vq, ⟨(c ++ seg bs 7 N0), S2, k + 1, p + (N0 + 11)⟩, C2, 0, ws, xs, ?_, H9.out.1, H9.out.2, HY2.out, ?_⟩
    · have := HN16.out; first | rfl | (congr 2; omega) | (simp only [Ending.returned.injEq, Value.int.injEq, true_and]; omega) | go_num
    · unfold CkLaw; simp only; rw [HCK.out]; exact ⟨by first | rfl | trivial, by first | rfl | trivial, HNX.out.symm, by first | rfl | trivial, by first | rfl | trivial⟩
  have k1b : ((b0 : Int) == 1) = false := beq_eq_false_iff_ne.2 (by omega)
  by_cases k2 : b0 = 2
  case neg =>
    have k2b : ((b0 : Int) == 2) = false := beq_eq_false_iff_ne.2 (by omega)
    have d7 : w2.cell? ⟨g, 7, none⟩ = some (.int .i64 0) := H2.out.1.at_ 7 rfl
    have z7 := H2.out.1.z 7
    go_wp2_with fail
    go_ret
    exact ⟨0, vc, vq, ⟨c, S, k, p⟩, _, 301, ws, xs, rfl, H2.out.1.put 7 (.int .i64 301) rfl, H2.out.2.setCell (mem_Y.2 (.inl rfl)) _, HYS.out, CkLaw.bad (by unfold ckP; rw [if_neg (by have := HR.out.2.2; omega), if_neg (fun h => h (by rw [HQ.out.1, HQ.out.2]; exact HE.out)), if_pos (by unfold ckOdd; rw [HN0.out, HBB.out]; omega)])⟩
  have hc1 : w2.cell? ⟨ga, oa, none⟩ = some (.int .u8 2) := by rw [hc0, k2]; rfl
  clear hc0 k1b
  by_cases k3 : N0 = 0
  · have k3b : ((N0 : Int) == 0) = true := by subst k3; rfl
    have d7 : w2.cell? ⟨g, 7, none⟩ = some (.int .i64 0) := H2.out.1.at_ 7 rfl
    have z7 := H2.out.1.z 7
    go_wp2_with fail
    go_ret
    exact ⟨0, vc, vq, ⟨c, S, k, p⟩, _, 301, ws, xs, rfl, H2.out.1.put 7 (.int .i64 301) rfl, H2.out.2.setCell (mem_Y.2 (.inl rfl)) _, HYS.out, CkLaw.bad (by unfold ckP; rw [if_neg (by have := HR.out.2.2; omega), if_neg (fun h => h (by rw [HQ.out.1, HQ.out.2]; exact HE.out)), if_pos (by unfold ckOdd; rw [HN0.out, HBB.out]; omega)])⟩
  have k3b : ((N0 : Int) == 0) = false := beq_eq_false_iff_ne.2 (by omega)
  by_cases k4 : 16384 < N0
  · have k4i : (16384 : Int) < (N0 : Int) := by omega
    have d7 : w2.cell? ⟨g, 7, none⟩ = some (.int .i64 0) := H2.out.1.at_ 7 rfl
    have z7 := H2.out.1.z 7
    go_wp2_with fail
    go_ret
    exact ⟨0, vc, vq, ⟨c, S, k, p⟩, _, 301, ws, xs, rfl, H2.out.1.put 7 (.int .i64 301) rfl, H2.out.2.setCell (mem_Y.2 (.inl rfl)) _, HYS.out, CkLaw.bad (by unfold ckP; rw [if_neg (by have := HR.out.2.2; omega), if_neg (fun h => h (by rw [HQ.out.1, HQ.out.2]; exact HE.out)), if_pos (by unfold ckOdd; rw [HN0.out, HBB.out]; omega)])⟩
  have k4i : ¬ (16384 : Int) < (N0 : Int) := by omega
  have HOD : Hd (¬ ckOdd k bs ∧ b0 = 2 ∧ 0 < N0 ∧ N0 ≤ 16384 ∧ k ≤ 2047) := ⟨by unfold ckOdd; rw [HN0.out, HBB.out]; omega, by omega, by omega, by omega, by omega⟩
  clear k1
  try clear k2
  have hN2' : N0 ≤ 16384 := HOD.out.2.2.2.1
  go_upto_region 11 with fail
  try clear k2b
  try clear k3b
  try clear k4i
  try clear k5b
  try clear d5
  have hN1 : 0 < N0 := HOD.out.2.2.1
  have hN2 : N0 ≤ 16384 := HOD.out.2.2.2.1
  by_cases hw : n < N0 + 11
  · have hwi : (n : Int) < 7 + (N0 : Int) + 4 := by omega
    go_wp2_with fail
    go_ret
    exact ⟨0, vc, vq, ⟨c, S, k, p⟩, C, 0, ws, xs, rfl, H2.out.1, H2.out.2, HYS.out, CkLaw.wait (by unfold ckP; rw [if_neg (by have := HR.out.2.2; omega), if_neg (fun h => h (by rw [HQ.out.1, HQ.out.2]; exact HE.out)), if_neg HOD.out.1, if_pos (by rw [HN0.out]; have := HR.out.2.2; omega)])⟩
  have hwi : ¬ (n : Int) < 7 + (N0 : Int) + 4 := by omega
  have s7n : ∀ w, (Instr.slice 26 (.slice (some ⟨ga, oa, none⟩) n cp) (some (.int .i64 7)) (some (.int .i64 (7 + (N0 : Int)))) none).run Try.prog w = .ok (.slice (cutA (some ⟨ga, oa, none⟩) cp 7) N0 (cp - 7)) w := fun w => by
    have := run_cut (w := w) elB (some ⟨ga, oa, none⟩) n cp 7 (7 + N0) (by omega) (by omega)
    rw [Nat.add_sub_cancel_left, show ((7 + N0 : Nat) : Int) = 7 + (N0 : Int) by omega] at this; exact this
  have snw : ∀ w, (Instr.slice 26 (.slice (some ⟨ga, oa, none⟩) n cp) (some (.int .i64 (7 + (N0 : Int)))) (some (.int .i64 (7 + (N0 : Int) + 4))) none).run Try.prog w = .ok (.slice (cutA (some ⟨ga, oa, none⟩) cp (7 + N0)) 4 (cp - (7 + N0))) w := fun w => by
    have := run_cut (w := w) elB (some ⟨ga, oa, none⟩) n cp (7 + N0) (7 + N0 + 4) (by omega) (by omega)
    rw [Nat.add_sub_cancel_left, show ((7 + N0 : Nat) : Int) = 7 + (N0 : Int) by omega, show ((7 + N0 + 4 : Nat) : Int) = 7 + (N0 : Int) + 4 by omega] at this; exact this
  have HS7 := Hd.mk s7n
  have HSW := Hd.mk snw
  clear s7n snw
  go_upto_region 14 with fail
  clear hwi
  have s7n := HS7.out
  have hwp : IntKind.i64.wrap (7 + (N0 : Int)) = 7 + (N0 : Int) := by rw [IntKind.wrap_i64]; omega
  have HWP := Hd.mk hwp
  refine wp_region_held_drew (S := fun _ => True) (by kernel_rfl) trivial (fun hHeld => ?_)
  have H3 : Hd (RdS Z base w2.drew g vl vc vq L c S C k p 0 ws xs ∧ Chg (rdY g vc vq) w w2.drew) := ⟨H2.out.1.drew, H2.out.2.drew⟩
  obtain ⟨w3, hw3⟩ : ∃ U, w2.drew = U := ⟨_, rfl⟩
  rw [hw3] at H3 ⊢
  clear hw3
  refine wpAnyH_take (i := 0) (oi := ?oi701) (v := ?v701) ?hi701 (by kernel_rfl) (by kernel_rfl) (by kernel_rfl) ?hQ701 (Or.inl ⟨?hw701, ?hy701⟩) (by assumption) ?rest701
  case hi701 => simp only [List.getElem?_toArray, List.getElem?_cons_succ, List.getElem?_cons_zero]; rfl
  case hQ701 => exact fun _ _ _ h => h
  case hw701 => rfl
  case hy701 => (intro W hW; go_simp; all_goals rfl)
  simp only [Act.put, List.setIfInBounds_toArray, List.set_cons_zero, List.set_cons_succ]
  refine wpAnyH_take (i := 1) (oi := ?oi702) (v := ?v702) ?hi702 (by kernel_rfl) (by kernel_rfl) (by kernel_rfl) ?hQ702 (Or.inl ⟨?hw702, ?hy702⟩) (by assumption) ?rest702
  case hi702 => simp only [List.getElem?_toArray, List.getElem?_cons_succ, List.getElem?_cons_zero]; rfl
  case hQ702 => exact fun _ _ _ h => h
  case hw702 => rfl
  case hy702 => (intro W hW; go_simp; all_goals rfl)
  simp only [Act.put, List.setIfInBounds_toArray, List.set_cons_zero, List.set_cons_succ]
  refine wpAnyH_take (i := 2) (oi := ?oi703) (v := ?v703) ?hi703 (by kernel_rfl) (by kernel_rfl) (by kernel_rfl) ?hQ703 (Or.inl ⟨?hw703, ?hy703⟩) (by assumption) ?rest703
  case hi703 => simp only [List.getElem?_toArray, List.getElem?_cons_succ, List.getElem?_cons_zero]; rfl
  case hQ703 => exact fun _ _ _ h => h
  case hw703 => rfl
  case hy703 => (intro W hW; go_simp; all_goals rfl)
  simp only [Act.put, List.setIfInBounds_toArray, List.set_cons_zero, List.set_cons_succ]
  refine wpAnyH_take (i := 3) (oi := ?oi704) (v := ?v704) ?hi704 (by kernel_rfl) (by kernel_rfl) (by kernel_rfl) ?hQ704 (Or.inl ⟨?hw704, ?hy704⟩) (by assumption) ?rest704
  case hi704 => simp only [List.getElem?_toArray, List.getElem?_cons_succ, List.getElem?_cons_zero]; rfl
  case hQ704 => exact fun _ _ _ h => h
  case hw704 => rfl
  case hy704 => (intro W hW; go_simp; all_goals rfl)
  simp only [Act.put, List.setIfInBounds_toArray, List.set_cons_zero, List.set_cons_succ]
  refine wpAnyH_take (i := 4) (oi := ?oi705) (v := ?v705) ?hi705 (by kernel_rfl) (by kernel_rfl) (by kernel_rfl) ?hQ705 (Or.inl ⟨?hw705, ?hy705⟩) (by assumption) ?rest705
  case hi705 => simp only [List.getElem?_toArray, List.getElem?_cons_succ, List.getElem?_cons_zero]; rfl
  case hQ705 => exact fun _ _ _ h => h
  case hw705 => rfl
  case hy705 => (intro W hW; go_simp; all_goals rfl)
  simp only [Act.put, List.setIfInBounds_toArray, List.set_cons_zero, List.set_cons_succ]
  refine wpAnyH_take (i := 5) (oi := ?oi706) (v := ?v706) ?hi706 (by kernel_rfl) (by kernel_rfl) (by kernel_rfl) ?hQ706 (Or.inl ⟨?hw706, ?hy706⟩) (by assumption) ?rest706
  case hi706 => simp only [List.getElem?_toArray, List.getElem?_cons_succ, List.getElem?_cons_zero]; rfl
  case hQ706 => exact fun _ _ _ h => h
  case hw706 => rfl
  case hy706 => (intro W hW; go_simp; all_goals rfl)
  simp only [Act.put, List.setIfInBounds_toArray, List.set_cons_zero, List.set_cons_succ]
  refine wpAnyH_take (i := 6) (oi := ?oi707) (v := ?v707) ?hi707 (by kernel_rfl) (by kernel_rfl) (by kernel_rfl) ?hQ707 (Or.inl ⟨?hw707, ?hy707⟩) (by assumption) ?rest707
  case hi707 => simp only [List.getElem?_toArray, List.getElem?_cons_succ, List.getElem?_cons_zero]; rfl
  case hQ707 => exact fun _ _ _ h => h
  case hw707 => rfl
  case hy707 => (intro W hW; go_simp; all_goals rfl)
  simp only [Act.put, List.setIfInBounds_toArray, List.set_cons_zero, List.set_cons_succ]
  refine wpAnyH_ready (rs := [7]) (by kernel_rfl) (by simp) ?_
  refine AllReadyH.cons (i := 7) (o := ?o708) ?ho708 (fun Kq hK => ?step708) AllReadyH.nil
  case ho708 => simp only [List.getElem?_toArray, List.getElem?_cons_succ, List.getElem?_cons_zero]; rfl
  go_simp
  (go_at_call 91; refine (write_any w3 g 3 58 S C _ (cutA (some ⟨ga, oa, none⟩) cp 7) N0 (cp - 7) w3.heap.size (seg bs 7 N0) H3.out.1.strm (by have := rd_seg (l := 7) (h := 7 + N0) (HRW.out w3 H3.out.2) (by omega) (by omega) hn; rw [Nat.add_sub_cancel_left] at this; exact this) (Nat.le_refl _) (seg_lt HR.out.2.1 7 N0) (by omega)).mono ?_; rintro e w4 ⟨rfl, hs4, hg4⟩)
  have H4 : Hd (RdS Z base w4 g vl vc vq L c (Crc.more S (seg bs 7 N0)) ((C + N0) % 18446744073709551616) k p 0 ws xs ∧ Chg (rdY g vc vq) w w4) := ⟨H3.out.1.crc hs4 hg4, H3.out.2.trans ((Chg.of_grown hg4).mono (fun x hx _ => by rw [List.mem_singleton.1 hx]; exact mem_Y.2 (.inl rfl)))⟩
  clear hs4 hg4
  refine hK.out _ _ trivial (fun _ => ?_)
  clear hK Kq
  try simp only [Act.put, List.setIfInBounds_toArray, List.set_cons_zero, List.set_cons_succ]
  refine wpAnyH_done (by kernel_rfl) ?_ _
  clear hHeld s7n H3 hwp
  obtain ⟨S2, hS2⟩ : ∃ s, Crc.more S (seg bs 7 N0) = s := ⟨_, rfl⟩
  obtain ⟨C2, hC2⟩ : ∃ s, (C + N0) % 18446744073709551616 = s := ⟨_, rfl⟩
  have HS2 := Hd.mk hS2
  rw [hS2, hC2] at H4
  clear hS2 hC2
  obtain ⟨q4, hq4⟩ : ∃ q, le256 (seg bs (7 + N0) 4) = q := ⟨_, rfl⟩
  have HQ4 := Hd.mk hq4
  clear hq4
  go_upto_region 15 with fail
  have snw := HSW.out
  have hwp := HWP.out
  refine wp_region_held_drew (S := fun _ => True) (by kernel_rfl) trivial (fun hHeld => ?_)
  have H5 : Hd (RdS Z base w4.drew g vl vc vq L c S2 C2 k p 0 ws xs ∧ Chg (rdY g vc vq) w w4.drew) := ⟨H4.out.1.drew, H4.out.2.drew⟩
  obtain ⟨w5, hw5⟩ : ∃ U, w4.drew = U := ⟨_, rfl⟩
  rw [hw5] at H5 ⊢
  clear hw5 H4
  refine wpAnyH_take (i := 0) (oi := ?oi801) (v := ?v801) ?hi801 (by kernel_rfl) (by kernel_rfl) (by kernel_rfl) ?hQ801 (Or.inl ⟨?hw801, ?hy801⟩) (by assumption) ?rest801
  case hi801 => simp only [List.getElem?_toArray, List.getElem?_cons_succ, List.getElem?_cons_zero]; rfl
  case hQ801 => exact fun _ _ _ h => h
  case hw801 => rfl
  case hy801 => (intro W hW; go_simp; all_goals rfl)
  simp only [Act.put, List.setIfInBounds_toArray, List.set_cons_zero, List.set_cons_succ]
  refine wpAnyH_take (i := 1) (oi := ?oi802) (v := ?v802) ?hi802 (by kernel_rfl) (by kernel_rfl) (by kernel_rfl) ?hQ802 (Or.inl ⟨?hw802, ?hy802⟩) (by assumption) ?rest802
  case hi802 => simp only [List.getElem?_toArray, List.getElem?_cons_succ, List.getElem?_cons_zero]; rfl
  case hQ802 => exact fun _ _ _ h => h
  case hw802 => rfl
  case hy802 => (intro W hW; go_simp; all_goals rfl)
  simp only [Act.put, List.setIfInBounds_toArray, List.set_cons_zero, List.set_cons_succ]
  refine wpAnyH_take (i := 2) (oi := ?oi803) (v := ?v803) ?hi803 (by kernel_rfl) (by kernel_rfl) (by kernel_rfl) ?hQ803 (Or.inl ⟨?hw803, ?hy803⟩) (by assumption) ?rest803
  case hi803 => simp only [List.getElem?_toArray, List.getElem?_cons_succ, List.getElem?_cons_zero]; rfl
  case hQ803 => exact fun _ _ _ h => h
  case hw803 => rfl
  case hy803 => (intro W hW; go_simp; all_goals rfl)
  simp only [Act.put, List.setIfInBounds_toArray, List.set_cons_zero, List.set_cons_succ]
  refine wpAnyH_take (i := 4) (oi := ?oi804) (v := ?v804) ?hi804 (by kernel_rfl) (by kernel_rfl) (by kernel_rfl) ?hQ804 (Or.inl ⟨?hw804, ?hy804⟩) (by assumption) ?rest804
  case hi804 => simp only [List.getElem?_toArray, List.getElem?_cons_succ, List.getElem?_cons_zero]; rfl
  case hQ804 => exact fun _ _ _ h => h
  case hw804 => rfl
  case hy804 => (intro W hW; go_simp; all_goals rfl)
  simp only [Act.put, List.setIfInBounds_toArray, List.set_cons_zero, List.set_cons_succ]
  refine wpAnyH_take (i := 5) (oi := ?oi805) (v := ?v805) ?hi805 (by kernel_rfl) (by kernel_rfl) (by kernel_rfl) ?hQ805 (Or.inl ⟨?hw805, ?hy805⟩) (by assumption) ?rest805
  case hi805 => simp only [List.getElem?_toArray, List.getElem?_cons_succ, List.getElem?_cons_zero]; rfl
  case hQ805 => exact fun _ _ _ h => h
  case hw805 => rfl
  case hy805 => (intro W hW; go_simp; all_goals rfl)
  simp only [Act.put, List.setIfInBounds_toArray, List.set_cons_zero, List.set_cons_succ]
  refine wpAnyH_take (i := 6) (oi := ?oi806) (v := ?v806) ?hi806 (by kernel_rfl) (by kernel_rfl) (by kernel_rfl) ?hQ806 (Or.inl ⟨?hw806, ?hy806⟩) (by assumption) ?rest806
  case hi806 => simp only [List.getElem?_toArray, List.getElem?_cons_succ, List.getElem?_cons_zero]; rfl
  case hQ806 => exact fun _ _ _ h => h
  case hw806 => rfl
  case hy806 => (intro W hW; go_simp; all_goals rfl)
  simp only [Act.put, List.setIfInBounds_toArray, List.set_cons_zero, List.set_cons_succ]
  refine wpAnyH_take (i := 7) (oi := ?oi807) (v := ?v807) ?hi807 (by kernel_rfl) (by kernel_rfl) (by kernel_rfl) ?hQ807 (Or.inl ⟨?hw807, ?hy807⟩) (by assumption) ?rest807
  case hi807 => simp only [List.getElem?_toArray, List.getElem?_cons_succ, List.getElem?_cons_zero]; rfl
  case hQ807 => exact fun _ _ _ h => h
  case hw807 => rfl
  case hy807 => (intro W hW; go_simp; all_goals rfl)
  simp only [Act.put, List.setIfInBounds_toArray, List.set_cons_zero, List.set_cons_succ]
  refine wpAnyH_take (i := 8) (oi := ?oi808) (v := ?v808) ?hi808 (by kernel_rfl) (by kernel_rfl) (by kernel_rfl) ?hQ808 (Or.inl ⟨?hw808, ?hy808⟩) (by assumption) ?rest808
  case hi808 => simp only [List.getElem?_toArray, List.getElem?_cons_succ, List.getElem?_cons_zero]; rfl
  case hQ808 => exact fun _ _ _ h => h
  case hw808 => rfl
  case hy808 => (intro W hW; go_simp; all_goals rfl)
  simp only [Act.put, List.setIfInBounds_toArray, List.set_cons_zero, List.set_cons_succ]
  refine wpAnyH_ready (rs := [3]) (by kernel_rfl) (by simp) ?_
  refine AllReadyH.cons (i := 3) (o := ?o809) ?ho809 (fun Kq hK => ?step809) AllReadyH.nil
  case ho809 => simp only [List.getElem?_toArray, List.getElem?_cons_succ, List.getElem?_cons_zero]; rfl
  go_simp
  (go_at_call 94; refine (ssum_any w5 g 3 58 S2 C2 _ H5.out.1.strm).mono ?_; rintro e w6 ⟨rfl, hw6⟩; subst hw6)
  refine hK.out _ _ trivial (fun _ => ?_)
  clear hK Kq
  try simp only [Act.put, List.setIfInBounds_toArray, List.set_cons_zero, List.set_cons_succ]
  refine wpAnyH_ready (rs := [9]) (by kernel_rfl) (by simp) ?_
  refine AllReadyH.cons (i := 9) (o := ?o810) ?ho810 (fun Kq hK => ?step810) AllReadyH.nil
  case ho810 => simp only [List.getElem?_toArray, List.getElem?_cons_succ, List.getElem?_cons_zero]; rfl
  go_simp
  (go_at_call 101; refine (wnum_any w5 (cutA (some ⟨ga, oa, none⟩) cp (7 + N0)) 4 (cp - (7 + N0)) w5.heap.size (seg bs (7 + N0) 4) (by have := rd_seg (l := 7 + N0) (h := 7 + N0 + 4) (HRW.out w5 H5.out.2) (by omega) (by omega) hn; rw [Nat.add_sub_cancel_left] at this; exact this) (seg_lt HR.out.2.1 _ 4) (by omega)).mono ?_; rw [HQ4.out]; rintro e w6 ⟨rfl, hw6⟩; subst hw6)
  refine hK.out _ _ trivial (fun _ => ?_)
  clear hK Kq
  try simp only [Act.put, List.setIfInBounds_toArray, List.set_cons_zero, List.set_cons_succ]
  refine wpAnyH_take (i := 10) (oi := ?oi811) (v := ?v811) ?hi811 (by kernel_rfl) (by kernel_rfl) (by kernel_rfl) ?hQ811 (Or.inl ⟨?hw811, ?hy811⟩) (by assumption) ?rest811
  case hi811 => simp only [List.getElem?_toArray, List.getElem?_cons_succ, List.getElem?_cons_zero]; rfl
  case hQ811 => exact fun _ _ _ h => h
  case hw811 => rfl
  case hy811 => (intro W hW; go_simp; all_goals rfl)
  simp only [Act.put, List.setIfInBounds_toArray, List.set_cons_zero, List.set_cons_succ]
  refine wpAnyH_done (by kernel_rfl) ?_ _
  clear hHeld snw hwp
  by_cases e4 : S2 = q4
  case neg =>
    have e4b : ((S2 : Int) == (q4 : Int)) = false := beq_eq_false_iff_ne.2 (by omega)
    have d7 : w5.cell? ⟨g, 7, none⟩ = some (.int .i64 0) := H5.out.1.at_ 7 rfl
    have z7 := H5.out.1.z 7
    go_wp2_with fail
    go_ret
    exact ⟨0, vc, vq, ⟨c, S2, k, p⟩, _, 302, ws, xs, rfl, H5.out.1.put 7 (.int .i64 302) rfl, H5.out.2.setCell (mem_Y.2 (.inl rfl)) _, HYS.out, CkLaw.bad (by unfold ckP; rw [if_neg (by have := HR.out.2.2; omega), if_neg (fun h => h (by rw [HQ.out.1, HQ.out.2]; exact HE.out)), if_neg HOD.out.1, if_neg (by rw [HN0.out]; have := HR.out.2.2; omega), if_pos (by rw [HN0.out, HS2.out, HQ4.out]; exact e4)])⟩
  have e4b : ((S2 : Int) == (q4 : Int)) = true := by subst e4; simp
  have HCK : Hd (ckP S k bs = .ok true N0) := ⟨by unfold ckP; rw [if_neg (by have := HR.out.2.2; omega), if_neg (fun h => h (by rw [HQ.out.1, HQ.out.2]; exact HE.out)), if_neg HOD.out.1, if_neg (by rw [HN0.out]; have := HR.out.2.2; omega), if_neg (fun h => h (by rw [HN0.out, HS2.out, HQ4.out]; exact e4)), HN0.out, HBB.out, HOD.out.2.1]; rfl⟩
  clear e4
  go_upto_region 18 with fail
  clear e4b
  have s7n := HS7.out
  have hwp := HWP.out
  refine wp_region_held_drew (S := fun _ => True) (by kernel_rfl) trivial (fun hHeld => ?_)
  have H6 : Hd (RdS Z base w5.drew g vl vc vq L c S2 C2 k p 0 ws xs ∧ Chg (rdY g vc vq) w w5.drew) := ⟨H5.out.1.drew, H5.out.2.drew⟩
  obtain ⟨w6, hw6⟩ : ∃ U, w5.drew = U := ⟨_, rfl⟩
  rw [hw6] at H6 ⊢
  clear hw6 H5
  refine wpAnyH_take (i := 0) (oi := ?oi901) (v := ?v901) ?hi901 (by kernel_rfl) (by kernel_rfl) (by kernel_rfl) ?hQ901 (Or.inl ⟨?hw901, ?hy901⟩) (by assumption) ?rest901
  case hi901 => simp only [List.getElem?_toArray, List.getElem?_cons_succ, List.getElem?_cons_zero]; rfl
  case hQ901 => exact fun _ _ _ h => h
  case hw901 => rfl
  case hy901 => (intro W hW; go_simp; all_goals rfl)
  simp only [Act.put, List.setIfInBounds_toArray, List.set_cons_zero, List.set_cons_succ]
  refine wpAnyH_take (i := 1) (oi := ?oi902) (v := ?v902) ?hi902 (by kernel_rfl) (by kernel_rfl) (by kernel_rfl) ?hQ902 (Or.inl ⟨?hw902, ?hy902⟩) (by assumption) ?rest902
  case hi902 => simp only [List.getElem?_toArray, List.getElem?_cons_succ, List.getElem?_cons_zero]; rfl
  case hQ902 => exact fun _ _ _ h => h
  case hw902 => rfl
  case hy902 => (intro W hW; go_simp; all_goals rfl)
  simp only [Act.put, List.setIfInBounds_toArray, List.set_cons_zero, List.set_cons_succ]
  refine wpAnyH_take (i := 2) (oi := ?oi903) (v := ?v903) ?hi903 (by kernel_rfl) (by kernel_rfl) (by kernel_rfl) ?hQ903 (Or.inl ⟨?hw903, ?hy903⟩) (by assumption) ?rest903
  case hi903 => simp only [List.getElem?_toArray, List.getElem?_cons_succ, List.getElem?_cons_zero]; rfl
  case hQ903 => exact fun _ _ _ h => h
  case hw903 => rfl
  case hy903 => (intro W hW; go_simp; all_goals rfl)
  simp only [Act.put, List.setIfInBounds_toArray, List.set_cons_zero, List.set_cons_succ]
  refine wpAnyH_take (i := 3) (oi := ?oi904) (v := ?v904) ?hi904 (by kernel_rfl) (by kernel_rfl) (by kernel_rfl) ?hQ904 (Or.inl ⟨?hw904, ?hy904⟩) (by assumption) ?rest904
  case hi904 => simp only [List.getElem?_toArray, List.getElem?_cons_succ, List.getElem?_cons_zero]; rfl
  case hQ904 => exact fun _ _ _ h => h
  case hw904 => rfl
  case hy904 => (intro W hW; go_simp; all_goals rfl)
  simp only [Act.put, List.setIfInBounds_toArray, List.set_cons_zero, List.set_cons_succ]
  refine wpAnyH_take (i := 5) (oi := ?oi905) (v := ?v905) ?hi905 (by kernel_rfl) (by kernel_rfl) (by kernel_rfl) ?hQ905 (Or.inl ⟨?hw905, ?hy905⟩) (by assumption) ?rest905
  case hi905 => simp only [List.getElem?_toArray, List.getElem?_cons_succ, List.getElem?_cons_zero]; rfl
  case hQ905 => exact fun _ _ _ h => h
  case hw905 => rfl
  case hy905 => (intro W hW; go_simp; all_goals rfl)
  simp only [Act.put, List.setIfInBounds_toArray, List.set_cons_zero, List.set_cons_succ]
  refine wpAnyH_take (i := 6) (oi := ?oi906) (v := ?v906) ?hi906 (by kernel_rfl) (by kernel_rfl) (by kernel_rfl) ?hQ906 (Or.inl ⟨?hw906, ?hy906⟩) (by assumption) ?rest906
  case hi906 => simp only [List.getElem?_toArray, List.getElem?_cons_succ, List.getElem?_cons_zero]; rfl
  case hQ906 => exact fun _ _ _ h => h
  case hw906 => rfl
  case hy906 => (intro W hW; go_simp; all_goals rfl)
  simp only [Act.put, List.setIfInBounds_toArray, List.set_cons_zero, List.set_cons_succ]
  refine wpAnyH_take (i := 7) (oi := ?oi907) (v := ?v907) ?hi907 (by kernel_rfl) (by kernel_rfl) (by kernel_rfl) ?hQ907 (Or.inl ⟨?hw907, ?hy907⟩) (by assumption) ?rest907
  case hi907 => simp only [List.getElem?_toArray, List.getElem?_cons_succ, List.getElem?_cons_zero]; rfl
  case hQ907 => exact fun _ _ _ h => h
  case hw907 => rfl
  case hy907 => (intro W hW; go_simp; all_goals rfl)
  simp only [Act.put, List.setIfInBounds_toArray, List.set_cons_zero, List.set_cons_succ]
  refine wpAnyH_take (i := 8) (oi := ?oi908) (v := ?v908) ?hi908 (by kernel_rfl) (by kernel_rfl) (by kernel_rfl) ?hQ908 (Or.inl ⟨?hw908, ?hy908⟩) (by assumption) ?rest908
  case hi908 => simp only [List.getElem?_toArray, List.getElem?_cons_succ, List.getElem?_cons_zero]; rfl
  case hQ908 => exact fun _ _ _ h => h
  case hw908 => rfl
  case hy908 => (intro W hW; go_simp; all_goals rfl)
  simp only [Act.put, List.setIfInBounds_toArray, List.set_cons_zero, List.set_cons_succ]
  have hd2 : w6.cell? ⟨g, 2, none⟩ = some vc := H6.out.1.at_ 2 rfl
  refine wpAnyH_ready (rs := [4]) (by kernel_rfl) (by simp) ?_
  refine AllReadyH.cons (i := 4) (o := ?o4L) ?ho4L (fun Kq hK => ?step4L) AllReadyH.nil
  case ho4L => simp only [List.getElem?_toArray, List.getElem?_cons_succ, List.getElem?_cons_zero]; rfl
  go_simp
  refine hK.out _ _ trivial (fun _ => ?_)
  clear hK Kq hd2
  try simp only [Act.put, List.setIfInBounds_toArray, List.set_cons_zero, List.set_cons_succ]
  refine wpAnyH_ready (rs := [9]) (by kernel_rfl) (by simp) ?_
  refine AllReadyH.cons (i := 9) (o := ?o9L) ?ho9L (fun Kq hK => ?step9L) AllReadyH.nil
  case ho9L => simp only [List.getElem?_toArray, List.getElem?_cons_succ, List.getElem?_cons_zero]; rfl
  refine step_app elB rfl (.tmp 97) (.tmp 101) rfl base vc c.length (cb c) rfl H6.out.1.co w6.heap.size (cutA (some ⟨ga, oa, none⟩) cp 7) N0 (cp - 7) (cb (seg bs 7 N0)) rfl (by have := rd_seg (l := 7) (h := 7 + N0) (HRW.out w6 H6.out.2) (by omega) (by omega) hn; rw [Nat.add_sub_cancel_left] at this; exact this) (cb_one _) (by have := HKN.out.1; have := HOD.out.2.2.2.2; unfold maxLen; omega) (by have := HKN.out.1; have := HOD.out.2.2.2.2; omega) (Nat.le_trans H6.out.1.bg (Nat.le_of_lt H6.out.1.lt)) ?_
  intro v' w7 hO
  rw [← cb_append] at hO
  have hsl : (c ++ seg bs 7 N0).length = c.length + N0 := by rw [List.length_append, seg_len (by have := HR.out.2.2; omega)]
  have H7 : Hd (Onto w6 w7 base 5 vc v' (c ++ seg bs 7 N0).length (cb (c ++ seg bs 7 N0))) := ⟨by rw [hsl]; exact hO⟩
  have hlt6 := H6.out.1.lt
  have hc7 : w7.cell? ⟨g, 2, none⟩ = some vc := (World.cell?_of_block (a := ⟨g, 2, none⟩) (hO.2.1.block g hlt6 (fun e => H6.out.1.gc e.symm))).trans (H6.out.1.at_ 2 rfl)
  have hz7 : w7.frozen? ⟨g, 2, none⟩ = false := (World.frozen?_of_block (a := ⟨g, 2, none⟩) (hO.2.1.block g hlt6 (fun e => H6.out.1.gc e.symm))).trans (H6.out.1.z 2)
  have HCZ := Hd.mk (And.intro hc7 hz7)
  clear hO hsl hlt6 hc7 hz7
  refine hK.out _ _ trivial (fun _ => ?_)
  clear hK Kq
  try simp only [Act.put, List.setIfInBounds_toArray, List.set_cons_zero, List.set_cons_succ]
  refine wpAnyH_take (i := 10) (oi := ?oi1001) (v := ?v1001) ?hi1001 (by kernel_rfl) (by kernel_rfl) (by kernel_rfl) ?hQ1001 (Or.inl ⟨?hw1001, ?hy1001⟩) (by assumption) ?rest1001
  case hi1001 => simp only [List.getElem?_toArray, List.getElem?_cons_succ, List.getElem?_cons_zero]; rfl
  case hQ1001 => exact fun _ _ _ h => h
  case hw1001 => rfl
  case hy1001 => (intro W hW; go_simp; all_goals rfl)
  simp only [Act.put, List.setIfInBounds_toArray, List.set_cons_zero, List.set_cons_succ]
  refine wpAnyH_take (i := 11) (oi := ?oi1002) (v := ?v1002) ?hi1002 (by kernel_rfl) (by kernel_rfl) (by kernel_rfl) ?hQ1002 (Or.inl ⟨?hw1002, ?hy1002⟩) (by assumption) ?rest1002
  case hi1002 => simp only [List.getElem?_toArray, List.getElem?_cons_succ, List.getElem?_cons_zero]; rfl
  case hQ1002 => exact fun _ _ _ h => h
  case hw1002 => rfl
  case hy1002 => (intro W hW; go_simp; all_goals rfl)
  simp only [Act.put, List.setIfInBounds_toArray, List.set_cons_zero, List.set_cons_succ]
  refine wpAnyH_ready (rs := [12]) (by kernel_rfl) (by simp) ?_
  refine AllReadyH.cons (i := 12) (o := ?o12L) ?ho12L (fun Kq hK => ?step12L) AllReadyH.nil
  case ho12L => simp only [List.getElem?_toArray, List.getElem?_cons_succ, List.getElem?_cons_zero]; rfl
  obtain ⟨Av, cv, hv, hvc, _⟩ := own_form H7.out.1
  refine step_set rfl 26 (.tmp 104) (.tmp 102) rfl g 2 v' rfl rfl (by rw [hv]; rfl) (by rw [hv]; rfl) vc HCZ.out.1 HCZ.out.2 infoSlB ?_
  obtain ⟨w8, hw8⟩ : ∃ U, w7.setCell ⟨g, 2, none⟩ v' = U := ⟨_, rfl⟩
  rw [hw8]
  have H8 : Hd (RdS Z base w8 g vl v' vq L (c ++ seg bs 7 N0) S2 C2 k p 0 ws xs ∧ Chg (rdY g vc vq) w w8 ∧ (∀ x, v'.ownBlock = some x → vc.ownBlock = some x ∨ w6.heap.size ≤ x)) := ⟨by rw [← hw8]; exact H6.out.1.cont (Y := vc.ownBlock.toList) ⟨H7.out.2.1.os, H7.out.2.1.tape, H7.out.2.1.output, H7.out.2.1.size, fun x hx hm => H7.out.2.1.block x hx fun e => hm (by rw [Option.mem_toList]; exact e.symm)⟩ (fun x hx => by rwa [Option.mem_toList] at hx) H7.out.1 H7.out.2.2 (fun x hx => (List.mem_append.1 hx).elim (H6.out.1.cb_ x) (seg_lt HR.out.2.1 7 N0 x)), by rw [← hw8]; exact (H6.out.2.trans ⟨H7.out.2.1.os, H7.out.2.1.tape, H7.out.2.1.output, H7.out.2.1.size, fun x hx hm => H7.out.2.1.block x hx fun e => hm (mem_Y.2 (.inr (.inl e.symm)))⟩).setCell (mem_Y.2 (.inl rfl)) _, H7.out.2.2⟩
  clear hw8 hv hvc
  refine hK.out _ _ trivial (fun _ => ?_)
  clear hK Kq
  try simp only [Act.put, List.setIfInBounds_toArray, List.set_cons_zero, List.set_cons_succ]
  refine wpAnyH_done (by kernel_rfl) ?_ _
  clear hHeld HCZ s7n H7 hwp
  have d5 : w8.cell? ⟨g, 5, none⟩ = some (.int .i64 (k : Int)) := H8.out.1.at_ 5 rfl
  have z5 := H8.out.1.z 5
  have d6 : w8.cell? ⟨g, 6, none⟩ = some (.int .i64 (p : Int)) := H8.out.1.at_ 6 rfl
  have z6 := H8.out.1.z 6
  go_upto_region 21 with fail
  obtain ⟨w9, hw9⟩ : ∃ U, (w8.setCell ⟨g, 5, none⟩ (.int .i64 ((k : Int) + 1))).setCell ⟨g, 6, none⟩ (.int .i64 ((p : Int) + (7 + (N0 : Int) + 4))) = U := ⟨_, rfl⟩
  rw [hw9]
  rw [show ((k : Int) + 1) = ((k + 1 : Nat) : Int) by omega, show ((p : Int) + (7 + (N0 : Int) + 4)) = ((p + (N0 + 11) : Nat) : Int) by omega] at hw9
  have H9 : Hd (RdS Z base w9 g vl v' vq L (c ++ seg bs 7 N0) S2 C2 (k + 1) (p + (N0 + 11)) 0 ws xs ∧ Chg (rdY g vc vq) w w9) := ⟨by rw [← hw9]; exact (H8.out.1.put 5 (.int .i64 ((k + 1 : Nat) : Int)) (k' := k + 1) (p' := p) (fl' := 0) rfl).put 6 (.int .i64 ((p + (N0 + 11) : Nat) : Int)) (k' := k + 1) (p' := p + (N0 + 11)) (fl' := 0) rfl, by rw [← hw9]; exact (H8.out.2.1.setCell (mem_Y.2 (.inl rfl)) _).setCell (mem_Y.2 (.inl rfl)) _⟩
  have HVN := Hd.mk H8.out.2.2
  have HSZ : Hd (w.heap.size ≤ w6.heap.size) := ⟨H6.out.2.size⟩
  clear hw9 d5 z5 d6 z6 H8 H6
  have hc9 : w9.cell? ⟨ga, oa, none⟩ = some (.int .u8 2) := by rw [HB0.out w9 H9.out.2, HOD.out.2.1]; rfl
  have HNX : Hd ((⟨c, S, k, p⟩ : Mid).next bs N0 = ⟨(c ++ seg bs 7 N0), S2, k + 1, p + (N0 + 11)⟩) := ⟨by unfold Mid.next; simp only; rw [HS2.out]⟩
  have HY2 : Hd (∀ x ∈ rdY g v' vq, x ∈ rdY g vc vq ∨ w.heap.size ≤ x) := ⟨fun x hx => by
    rcases mem_Y.1 hx with h1 | h1 | h1
    · exact .inl (mem_Y.2 (.inl h1))
    · rcases HVN.out x h1 with h2 | h2
      · exact .inl (mem_Y.2 (.inr (.inl h2)))
      · exact .inr (Nat.le_trans HSZ.out h2)
    · exact .inl (mem_Y.2 (.inr (.inr h1)))⟩
  go_wp2_with fail
  refine (HM.out w9 v' (c ++ seg bs 7 N0) S2 C2 (k + 1) (p + (N0 + 11)) H9.out.1 (by have := HKN.out.1; have := HOD.out.2.2.2.2; rw [List.length_append, seg_len (by have := HR.out.2.2; omega)]; omega)).mono ?_
  rintro e w10 ⟨vq2, fl2, ws2, xs2, rfl, hR2, hC2, hv2, hL2⟩
  have HF := Hd.mk (And.intro hR2 (And.intro hC2 (And.intro hv2 hL2)))
  clear hR2 hC2 hv2 hL2
  go_wp2_with fail
  go_ret
  have hch : Chg (rdY g vc vq) w w10 := H9.out.2.newer HF.out.2.1 HY2.out
  refine ⟨N0 + 11, .slice none 0 0, vq2, mid0, 0, fl2, ws2, xs2, ?_, HF.out.1, hch, fun x hx => ?_, ?_⟩
  · first | rfl | (congr 2; omega) | go_num
  · rcases mem_Y.1 hx with h1 | h1 | h1
    · exact .inl (mem_Y.2 (.inl h1))
    · cases h1
    · rcases HF.out.2.2.1 x h1 with h2 | h2
      · exact .inl (mem_Y.2 (.inr (.inr h2)))
      · exact .inr (Nat.le_trans H9.out.2.size h2)
  · unfold CkLaw; simp only; rw [HCK.out]; simp only; rw [HNX.out]
    refine ⟨trivial, trivial, HF.out.2.2.2.imp (fun ⟨x, W, a1, a2, a3, a4, a5⟩ => ⟨x, W, a1, a2, a3, a4, a5.lower H9.out.2.size⟩) id⟩
end Go.Proofs.Ytbcmjjcbjojakaa
end
section
/- Plain: what is told by chunks, one behind the other, is what the stream says. -/
namespace Go.Proofs.Ytbcmjjcbjojakaa
open Go.RowKit
set_option linter.unusedVariables false
def MsgLaw {T : Type} (Z : Kd T) : Prop := ∀ (base : Nat) (w : World) (g : Nat) (vl vc vq : Value) (L c : List Nat) (S C k p : Nat) (ws : List Wm) (xs : List T), RdS Z base w g vl vc vq L c S C k p 0 ws xs → c.length ≤ 67108864 → ws.length ≤ 274877906944 →
    Calls Try.prog 102 #[.pointer (some ⟨g, 0, none⟩)] w (MsgDone Z base w g vl vc vq L c 0 ws xs)
theorem msgLaw_ask : MsgLaw askK := fun base w g vl vc vq L c S C k p ws xs h h1 h2 => message_ask base w g vl vc vq L c S C k p ws xs h h1 h2
theorem msgLaw_tel : MsgLaw telK := fun base w g vl vc vq L c S C k p ws xs h h1 h2 => message_tel base w g vl vc vq L c S C k p ws xs h h1 h2
/-- A message under way is not too long. -/
def MidOk (m : Mid) : Prop := m.k ≤ 2047 ∧ m.c.length ≤ 16384 * m.k ∧ m.p ≤ 16395 * m.k
theorem MidOk.zero : MidOk mid0 := ⟨by decide, by decide, by decide⟩
structure Conn {T : Type} (rd : List Nat → Option T) (o : Out T) (L : List Nat) (at_ : Nat) (m : Mid) (fl : Int) (ns : List T) : Prop where
  run : fl = 0 → o = ⟨ns ++ (go rd m (L.drop at_)).ms, (go rd m (L.drop at_)).fl, (go rd m (L.drop at_)).mid, (go rd m (L.drop at_)).rest⟩
  bad : fl ≠ 0 → o.ms = ns ∧ o.fl = fl
theorem Conn.start {T : Type} (rd : List Nat → Option T) (L : List Nat) (m : Mid) : Conn rd (go rd m L) L 0 m 0 [] := ⟨fun _ => by simp, fun h => absurd rfl h⟩
theorem chunk_any {T : Type} (Z : Kd T) (HMS : MsgLaw Z) (base : Nat) (w : World) (g : Nat) (vl vc vq : Value) (L : List Nat) (m : Mid) (C : Nat) (ws : List Wm) (xs : List T) (h : RdS Z base w g vl vc vq L m.c m.s C m.k m.p 0 ws xs) (A : Option Addr) (n cp : Nat) (bs : List Nat) (hr : Rd w w.heap.size A n (cb bs)) (hn : n ≤ cp) (hl : ∀ x ∈ bs, x < 256) (hn40 : n ≤ 1099511627776)
    (hA : ∀ gg off, A = some ⟨gg, off, none⟩ → 0 < n → gg ∉ rdY g vc vq) (hm : MidOk m) (hw : ws.length ≤ 274877906944) :
    Calls Try.prog 78 #[.pointer (some ⟨g, 0, none⟩), .slice A n cp] w (CkDone Z base w g vl vc vq L m bs ws xs) :=
  chunk_any0 Z base w g vl vc vq L m.c m.s C m.k m.p ws xs h A n cp bs hr hn hl hn40 hA hm.1 hm.2.1 hm.2.2 fun w1 vc1 c1 S1 C1 k1 p1 h1 h2 => HMS base w1 g vl vc1 vq L c1 S1 C1 k1 p1 ws xs h1 h2 hw
theorem conn_step {T : Type} {Z : Kd T} {N : Nat} {w' : World} {o : Out T} {L : List Nat} {at_ r : Nat} {m m' : Mid} {fl' : Int} {ns : List T} {ws ws' : List Wm} {xs xs' : List T} (hc : Conn Z.rd o L at_ m 0 ns) (ha : at_ ≤ L.length) (hm : MidOk m) (hk : CkLaw Z N w' m (L.drop at_) ws xs r m' fl' ws' xs') :
    (r = 0 ∧ ws' = ws ∧ xs' = xs ∧ ((fl' = 0 ∧ m' = m ∧ o = ⟨ns, 0, m, L.drop at_⟩) ∨ (fl' ≠ 0 ∧ o.ms = ns ∧ o.fl = fl'))) ∨
    (0 < r ∧ at_ + r ≤ L.length ∧ ∃ (d : List T) (dw : List Wm), xs' = xs ++ d ∧ ws' = ws ++ dw ∧ (∀ W ∈ dw, W.ok w' N) ∧ d.length ≤ 1 ∧ dw.length ≤ 1 ∧ Conn Z.rd o L (at_ + r) m' fl' (ns ++ d) ∧ (fl' = 0 → MidOk m')) := by
  have hrun := hc.run rfl
  unfold CkLaw at hk
  cases hck : ckP m.s m.k (L.drop at_) with
  | wait =>
    rw [hck] at hk
    obtain ⟨rfl, rfl, rfl, rfl, rfl⟩ := hk
    refine .inl ⟨rfl, rfl, rfl, .inl ⟨rfl, rfl, ?_⟩⟩
    rw [hrun, go_wait hck]; simp
  | bad e =>
    rw [hck] at hk
    obtain ⟨rfl, rfl, rfl, rfl⟩ := hk
    have he := ckP_bad hck
    refine .inl ⟨rfl, rfl, rfl, .inr ⟨by omega, ?_, ?_⟩⟩ <;> rw [hrun, go_bad hck] <;> simp
  | ok l n =>
    have h2 := ckP_ok hck
    rw [List.length_drop] at h2
    rw [hck] at hk
    have hdrop : (L.drop at_).drop (n + 11) = L.drop (at_ + (n + 11)) := by rw [List.drop_drop]
    cases l with
    | false =>
      obtain ⟨rfl, rfl, rfl, rfl, rfl⟩ := hk
      have h3 := h2.2.2.2.2.2.2.2.2 rfl
      refine .inr ⟨by omega, by omega, [], [], by simp, by simp, by simp, by simp, by simp, ⟨fun _ => ?_, fun h => absurd rfl h⟩, fun _ => ?_⟩
      · rw [hrun, go_more hck, hdrop]; simp
      · obtain ⟨k1, k2, k3⟩ := hm
        unfold MidOk Mid.next
        simp only [List.length_append]
        rw [seg_len (by rw [List.length_drop]; omega)]
        omega
    | true =>
      obtain ⟨rfl, rfl, hk⟩ := hk
      rcases hk with ⟨x, W, hrd, rfl, rfl, rfl, hW⟩ | ⟨hrd, rfl, rfl, rfl⟩
      · refine .inr ⟨by omega, by omega, [x], [W], rfl, rfl, fun V hV => by rw [List.mem_singleton.1 hV]; exact hW, by simp, by simp, ⟨fun _ => ?_, fun h => absurd rfl h⟩, fun _ => MidOk.zero⟩
        rw [hrun, go_some hck hrd, hdrop]; unfold Out.pre; simp
      · refine .inr ⟨by omega, by omega, [], [], by simp, by simp, by simp, by simp, by simp, ⟨fun h => absurd h (by decide), fun _ => ?_⟩, fun h => absurd h (by decide)⟩
        rw [hrun, go_none hck hrd]; simp
/-- What Push does of a reader without a fault. -/
def PushDone {T : Type} (Z : Kd T) (base : Nat) (w : World) (g : Nat) (vl vc vq : Value) (o : Out T) (ws : List Wm) (xs : List T) (e : Ending) (w' : World) : Prop :=
  ∃ (vl' vc' vq' : Value) (L' : List Nat) (m' : Mid) (C' : Nat) (nw : List Wm), e = .returned (.int .i64 o.fl) ∧ RdS Z base w' g vl' vc' vq' L' m'.c m'.s C' m'.k m'.p o.fl (ws ++ nw) (xs ++ o.ms) ∧ (o.fl = 0 → m' = o.mid ∧ L' = o.rest ∧ MidOk m') ∧ (o.fl ≠ 0 → L' = []) ∧
    Chg (rdX g vl vc vq) w w' ∧ (∀ x ∈ rdX g vl' vc' vq', x ∈ rdX g vl vc vq ∨ w.heap.size ≤ x) ∧ (∀ W ∈ nw, W.ok w' w.heap.size)
/-- How a loop over the chunks ends. -/
structure PEnd {T : Type} (o : Out T) (L : List Nat) (at_ : Nat) (m : Mid) (fl : Int) (ns : List T) : Prop where
  ok : fl = 0 → o = ⟨ns, 0, m, L.drop at_⟩ ∧ MidOk m
  bad : fl ≠ 0 → o.ms = ns ∧ o.fl = fl
theorem PEnd.fl {T : Type} {o : Out T} {L : List Nat} {at_ : Nat} {m : Mid} {f : Int} {ns : List T} (h : PEnd o L at_ m f ns) : o.fl = f ∧ o.ms = ns := by
  by_cases h0 : f = 0
  · rw [(h.ok h0).1, h0]; exact ⟨rfl, rfl⟩
  · exact ⟨(h.bad h0).2, (h.bad h0).1⟩
theorem Y_sub_X {g x : Nat} {vl vc vq : Value} (hx : x ∈ rdY g vc vq) : x ∈ rdX g vl vc vq := by
  rcases mem_Y.1 hx with h1 | h1 | h1
  · exact mem_X.2 (.inr (.inl h1))
  · exact mem_X.2 (.inr (.inr (.inl h1)))
  · exact mem_X.2 (.inr (.inr (.inr h1)))
theorem cut_block {A : Option Addr} {c l n gg off : Nat} (h : cutA A c l = some ⟨gg, off, none⟩) : (Value.slice A n c).ownBlock = some gg := by
  unfold cutA at h
  rcases A with _ | a
  · split at h <;> cases h
  · split at h
    · injection h with h; subst h; rfl
    · simp only [Option.map_some, Option.some.injEq] at h
      have h2 : (a.add l).block = gg := by rw [h]
      unfold Addr.add at h2
      simp only [Value.ownBlock, Option.some.injEq]
      split at h2 <;> exact h2
theorem push_end {T : Type} {Z : Kd T} {base : Nat} {w w' : World} {g : Nat} {vl vc vq vl' vc' vq' : Value} {o : Out T} {ws nw : List Wm} {xs ns : List T} {L' : List Nat} {m' : Mid} {C' : Nat} {f : Int}
    (h : RdS Z base w' g vl' vc' vq' L' m'.c m'.s C' m'.k m'.p f (ws ++ nw) (xs ++ ns)) (h1 : o.fl = f) (h2 : o.ms = ns) (h3 : o.fl = 0 → m' = o.mid ∧ L' = o.rest ∧ MidOk m') (h4 : o.fl ≠ 0 → L' = []) (h5 : Chg (rdX g vl vc vq) w w')
    (h6 : ∀ x ∈ rdX g vl' vc' vq', x ∈ rdX g vl vc vq ∨ w.heap.size ≤ x) (h7 : ∀ W ∈ nw, W.ok w' w.heap.size) : PushDone Z base w g vl vc vq o ws xs (.returned (.int .i64 f)) w' :=
  ⟨vl', vc', vq', L', m', C', nw, by rw [h1], by rw [h1, h2]; exact h, h3, h4, h5, h6, h7⟩
end Go.Proofs.Ytbcmjjcbjojakaa
end
section
/- Contract of the reader's Push. (tools/pushgen.py prints it.) -/
namespace Go.Proofs.Ytbcmjjcbjojakaa
open Go.RowKit
set_option linter.unusedVariables false
set_option linter.unusedSimpArgs false
/-- A reader that tells a fault. -/
theorem push_fault {T : Type} (Z : Kd T) (base : Nat) (w : World) (g : Nat) (vl vc vq : Value) (L c : List Nat) (S C k p : Nat) (fl : Int) (ws : List Wm) (xs : List T) (h : RdS Z base w g vl vc vq L c S C k p fl ws xs) (hf : fl ≠ 0) (A : Option Addr) (n cp : Nat) :
    Calls Try.prog 35 #[.pointer (some ⟨g, 0, none⟩), .slice A n cp] w fun e w' => e = .returned (.int .i64 fl) ∧ w = w' := by
  have d7 : w.cell? ⟨g, 7, none⟩ = some (.int .i64 fl) := h.at_ 7 rfl
  have hfb : (fl == 0) = false := beq_eq_false_iff_ne.2 hf
  clear h
  go_enter Try.func35, Try.ntmps35
  go_wp2_with fail
  go_ret
  exact ⟨rfl, rfl⟩
theorem push_nil (w : World) (A : Option Addr) (n cp : Nat) : Calls Try.prog 35 #[.pointer none, .slice A n cp] w fun e w' => e = .returned (.int .i64 1) ∧ w = w' := by
  go_enter Try.func35, Try.ntmps35
  go_wp2_with fail
  go_ret
  exact ⟨rfl, rfl⟩
set_option maxRecDepth 20000 in
set_option maxHeartbeats 16000000 in
theorem push_any {T : Type} (Z : Kd T) (HMS : MsgLaw Z) (base : Nat) (w : World) (g : Nat) (vl vc vq : Value) (L : List Nat) (m : Mid) (C : Nat) (ws : List Wm) (xs : List T) (h : RdS Z base w g vl vc vq L m.c m.s C m.k m.p 0 ws xs) (A : Option Addr) (n cp : Nat) (bs : List Nat) (hr : Rd w w.heap.size A n (cb bs)) (hl : ∀ x ∈ bs, x < 256)
    (hm : MidOk m) (hb : ws.length + L.length + n ≤ 137438953472) :
    Calls Try.prog 35 #[.pointer (some ⟨g, 0, none⟩), .slice A n cp] w (PushDone Z base w g vl vc vq (go Z.rd m (L ++ bs)) ws xs) := by
  have hbl : bs.length = n := by have := hr.1; rwa [cb_length] at this
  have H0 := Hd.mk h
  have HM := Hd.mk HMS
  have HR : Hd (Rd w w.heap.size A n (cb bs) ∧ (∀ x ∈ bs, x < 256) ∧ bs.length = n ∧ MidOk m) := ⟨hr, hl, hbl, hm⟩
  have d7 : w.cell? ⟨g, 7, none⟩ = some (.int .i64 0) := h.at_ 7 rfl
  have d1 : w.cell? ⟨g, 1, none⟩ = some vl := h.at_ 1 rfl
  obtain ⟨lL, hlL⟩ : ∃ l, L.length = l := ⟨_, rfl⟩
  have HLL := Hd.mk hlL
  rw [hlL] at hb
  clear h HMS hr hl hbl hm hlL
  obtain ⟨M, hM⟩ : ∃ M, lL + n = M := ⟨_, rfl⟩
  obtain ⟨LB, hLB⟩ : ∃ l, L ++ bs = l := ⟨_, rfl⟩
  rw [hLB]
  obtain ⟨o, ho⟩ : ∃ o, go Z.rd m LB = o := ⟨_, rfl⟩
  rw [ho]
  have HCN : Hd (Conn Z.rd o LB 0 m 0 []) := ⟨by rw [← ho]; exact Conn.start Z.rd LB m⟩
  have HLB := Hd.mk hLB
  clear hLB ho
  go_enter Try.func35, Try.ntmps35
  go_upto_region 6 with (at_builtin; refine wpList_app elB rfl (.tmp 22) (.tmp 23) rfl base vl lL (cb L) rfl (by have := H0.out.lo; rw [HLL.out] at this; exact this) w.heap.size A n cp (cb bs) rfl HR.out.1 (cb_one _) (by unfold maxLen; omega) (by omega) (Nat.le_trans H0.out.bg (Nat.le_of_lt H0.out.lt)) ?_; intro v1 w1 hO; rw [hM] at hO; obtain ⟨A1, cc1, hv1, hn1, _⟩ := own_form hO.own; subst hv1; have HO : Hd (Onto w w1 base 5 vl (.slice A1 M cc1) (L ++ bs).length (cb (L ++ bs))) := ⟨by rw [List.length_append, HLL.out, HR.out.2.2.1, cb_append, hM]; exact hO⟩; have e1 : w1.cell? ⟨g, 1, none⟩ = some vl := (World.cell?_of_block (a := ⟨g, 1, none⟩) (hO.2.1.block g H0.out.lt (fun e => H0.out.gl e.symm))).trans (H0.out.at_ 1 rfl); have y1 : w1.frozen? ⟨g, 1, none⟩ = false := (World.frozen?_of_block (a := ⟨g, 1, none⟩) (hO.2.1.block g H0.out.lt (fun e => H0.out.gl e.symm))).trans (H0.out.z 1); clear hO)
  obtain ⟨w2, hw2⟩ : ∃ U, w1.setCell ⟨g, 1, none⟩ (.slice A1 M cc1) = U := ⟨_, rfl⟩
  rw [hw2]
  have hlb : ∀ x ∈ L ++ bs, x < 256 := fun x hx => (List.mem_append.1 hx).elim (H0.out.lb x) (HR.out.2.1 x)
  have hLM : (L ++ bs).length = M := by rw [List.length_append, HLL.out, HR.out.2.2.1]; exact hM
  have H2 : Hd (RdS Z base w2 g (.slice A1 M cc1) vc vq (L ++ bs) m.c m.s C m.k m.p 0 ws xs ∧ Chg (rdX g vl vc vq) w w2 ∧ (∀ x, (Value.slice A1 M cc1).ownBlock = some x → vl.ownBlock = some x ∨ w.heap.size ≤ x)) := ⟨by rw [← hw2]; exact H0.out.loose (Y := vl.ownBlock.toList) ⟨HO.out.2.1.os, HO.out.2.1.tape, HO.out.2.1.output, HO.out.2.1.size, fun x hx hm => HO.out.2.1.block x hx fun e => hm (by rw [Option.mem_toList]; exact e.symm)⟩ (fun x hx => by rwa [Option.mem_toList] at hx) HO.out.1 HO.out.2.2 hlb, by rw [← hw2]; exact ((⟨HO.out.2.1.os, HO.out.2.1.tape, HO.out.2.1.output, HO.out.2.1.size, fun x hx hm => HO.out.2.1.block x hx fun e => hm (mem_X.2 (.inl e.symm))⟩ : Chg (rdX g vl vc vq) w w1)).setCell (mem_X.2 (.inr (.inl rfl))) _, HO.out.2.2⟩
  have HL : Hd ((∀ x ∈ L ++ bs, x < 256) ∧ (L ++ bs).length = M) := ⟨hlb, hLM⟩
  have HNC : Hd (M ≤ cc1) := ⟨hn1⟩
  rw [HLB.out] at H2 HL
  have hMb : M ≤ 137438953472 := by omega
  have hwb : ws.length + M ≤ 137438953472 := by omega
  clear hw2 hlb hLM e1 y1 HO d7 d1 hn1
  go_wp2_with fail
  go_loopw [5] (fun u5 wr => ∃ (at_ : Nat) (vc1 vq1 : Value) (m1 : Mid) (C1 : Nat) (fl1 : Int) (nw : List Wm) (ns : List T), u5 = .int .i64 (at_ : Int) ∧ at_ ≤ M ∧ nw.length ≤ at_ ∧ RdS Z base wr g (.slice A1 M cc1) vc1 vq1 LB m1.c m1.s C1 m1.k m1.p fl1 (ws ++ nw) (xs ++ ns) ∧ Chg (rdX g vl vc vq) w wr ∧ (∀ x ∈ rdX g (.slice A1 M cc1) vc1 vq1, x ∈ rdX g vl vc vq ∨ w.heap.size ≤ x) ∧ (∀ W ∈ nw, W.ok wr w.heap.size) ∧ Conn Z.rd o LB at_ m1 fl1 ns ∧ (fl1 = 0 → MidOk m1)) (fun u5 _ => M + 1 - (intOf u5).toNat)
  case atStart => exact ⟨0, vc, vq, m, C, 0, [], [], rfl, Nat.zero_le _, by simp, by rw [List.append_nil, List.append_nil]; exact H2.out.1, H2.out.2.1, fun x hx => by
      rcases mem_X.1 hx with h1 | h1 | h1 | h1
      · rcases H2.out.2.2 x h1 with h2 | h2
        · exact .inl (mem_X.2 (.inl h2))
        · exact .inr h2
      · exact .inl (mem_X.2 (.inr (.inl h1)))
      · exact .inl (mem_X.2 (.inr (.inr (.inl h1))))
      · exact .inl (mem_X.2 (.inr (.inr (.inr h1)))), by simp, HCN.out, fun _ => HR.out.2.2.2⟩
  case round =>
    obtain ⟨at_, vc1, vq1, m1, C1, fl1, nw, ns, rfl, hat, hnw, hS, hch, hfr, hok, hcn, hmo⟩ := hrel
    have HS := Hd.mk (And.intro hS (And.intro hch (And.intro hfr (And.intro hok (And.intro hcn hmo)))))
    have d7 : wr.cell? ⟨g, 7, none⟩ = some (.int .i64 fl1) := hS.at_ 7 rfl
    have d1 : wr.cell? ⟨g, 1, none⟩ = some (.slice A1 M cc1) := hS.at_ 1 rfl
    clear hS hch hfr hok hcn hmo H2 HCN
    have hcf : ∀ w, (Instr.slice 26 (.slice A1 M cc1) (some (.int .i64 (at_ : Int))) none none).run Try.prog w = .ok (.slice (cutA A1 cc1 at_) (M - at_) (cc1 - at_)) w := fun w => run_cut_from elB A1 M cc1 at_ hat
    have HCF := Hd.mk hcf
    clear hcf
    by_cases hf1 : fl1 = 0
    case neg =>
      have hfb1 : (fl1 == 0) = false := beq_eq_false_iff_ne.2 hf1
      have HT : Hd (RdS Z base wr g (.slice A1 M cc1) vc1 vq1 LB m1.c m1.s C1 m1.k m1.p fl1 (ws ++ nw) (xs ++ ns) ∧ Chg (rdX g vl vc vq) w wr ∧ (∀ x ∈ rdX g (.slice A1 M cc1) vc1 vq1, x ∈ rdX g vl vc vq ∨ w.heap.size ≤ x) ∧ (∀ W ∈ nw, W.ok wr w.heap.size) ∧ PEnd o LB at_ m1 fl1 ns) := ⟨HS.out.1, HS.out.2.1, HS.out.2.2.1, HS.out.2.2.2.1, ⟨fun h => absurd h hf1, HS.out.2.2.2.2.1.bad⟩⟩
      clear HS d1 hf1
      go_upto_region 11 with fail
      clear d7 hfb1
      have HRD : Hd (Rd wr wr.heap.size (cutA A1 cc1 at_) (M - at_) (cb (LB.drop at_))) := ⟨by have := HT.out.1.lo; rw [HL.out.2] at this; exact rd_from (Rd.of_own this) hat HNC.out⟩
      have hll : (LB.drop at_).length = M - at_ := by rw [List.length_drop, HL.out.2]
      have HLN := Hd.mk hll
      obtain ⟨MR, hMR⟩ : ∃ r, M - at_ = r := ⟨_, rfl⟩
      have hMRb : MR ≤ 137438953472 := by omega
      rw [hMR] at HRD HLN HCF
      have hcf := HCF.out
      clear hll
      have d1 : wr.cell? ⟨g, 1, none⟩ = some (.slice A1 M cc1) := HT.out.1.at_ 1 rfl
      go_upto_region 12 with (at_builtin; refine wpList_app elB rfl (.const (.slice none 0 0)) (.tmp 51) rfl wr.heap.size (.slice none 0 0) 0 [] rfl (World.ownsRow_nil ..) wr.heap.size (cutA A1 cc1 at_) MR (cc1 - at_) (cb (LB.drop at_)) rfl HRD.out (cb_one _) (by unfold maxLen; omega) (by omega) (Nat.le_refl _) ?_; intro v3 w3 hO; rw [List.nil_append, Nat.zero_add] at hO; obtain ⟨A3, cc3, hv3, hn3, _⟩ := own_form hO.own; subst hv3; have HO3 := Hd.mk hO; have e1 : w3.cell? ⟨g, 1, none⟩ = some (.slice A1 M cc1) := (World.cell?_of_block (a := ⟨g, 1, none⟩) (hO.2.1.block g HT.out.1.lt (fun e => by cases e))).trans (HT.out.1.at_ 1 rfl); have y1 : w3.frozen? ⟨g, 1, none⟩ = false := (World.frozen?_of_block (a := ⟨g, 1, none⟩) (hO.2.1.block g HT.out.1.lt (fun e => by cases e))).trans (HT.out.1.z 1); clear hO hn3 d1)
      obtain ⟨w4, hw4⟩ : ∃ U, w3.setCell ⟨g, 1, none⟩ (.slice A3 MR cc3) = U := ⟨_, rfl⟩
      rw [hw4]
      have hbel : Below wr.heap.size wr w3 := HO3.out.below (fun k h => by cases h) (Nat.le_refl _)
      have hs4 : RdS Z base w4 g (.slice A3 MR cc3) vc1 vq1 (LB.drop at_) m1.c m1.s C1 m1.k m1.p fl1 (ws ++ nw) (xs ++ ns) := by rw [← hw4]; exact HT.out.1.loose (L' := LB.drop at_) (Y := []) (Chg.of_below hbel) (by simp) (own_base (by have := HO3.out.1; rw [← HLN.out] at this ⊢; exact this) (Nat.le_trans HT.out.1.bg (Nat.le_of_lt HT.out.1.lt))) (fun x hx => .inr ((HO3.out.2.2 x hx).resolve_left (by simp [Value.ownBlock]))) (fun x hx => HL.out.1 x (List.mem_of_mem_drop hx))
      have hc4 : Chg (rdX g vl vc vq) w w4 := by rw [← hw4]; exact (HT.out.2.1.trans (Chg.of_below hbel)).setCell (mem_X.2 (.inr (.inl rfl))) _
      have hf4 : ∀ x ∈ rdX g (.slice A3 MR cc3) vc1 vq1, x ∈ rdX g vl vc vq ∨ w.heap.size ≤ x := fun x hx => by
        rcases mem_X.1 hx with h1 | h1 | h1 | h1
        · exact .inr (Nat.le_trans HT.out.2.1.size ((HO3.out.2.2 x h1).resolve_left (by simp [Value.ownBlock])))
        · exact .inl (mem_X.2 (.inr (.inl h1)))
        · exact HT.out.2.2.1 x (mem_X.2 (.inr (.inr (.inl h1))))
        · exact HT.out.2.2.1 x (mem_X.2 (.inr (.inr (.inr h1))))
      have ho4 : ∀ W ∈ nw, W.ok w4 w.heap.size := fun V hV => by
        rw [← hw4]
        refine ((HT.out.2.2.2.1 V hV).below hbel).chg (X := [g]) ((Chg.refl [g] w3).setCell (by simp) _) fun r hr x hx hm => ?_
        have := ((HT.out.2.2.2.1 V hV).lt hr hx).1
        have := H0.out.lt
        rw [List.mem_singleton.1 hm] at *; omega
      have H4 := Hd.mk (And.intro hs4 (And.intro hc4 (And.intro hf4 ho4)))
      have HE := Hd.mk HT.out.2.2.2.2
      clear hw4 hbel e1 y1 HO3 HRD hcf hs4 hc4 hf4 ho4
      have d7 : w4.cell? ⟨g, 7, none⟩ = some (.int .i64 fl1) := H4.out.1.at_ 7 rfl
      by_cases hf : fl1 = 0
      · have hfb : (fl1 == 0) = true := by rw [hf]; rfl
        have HF := Hd.mk hf
        clear hf
        go_wp2_with fail
        go_ret
        obtain ⟨he1, he2⟩ := HE.out.fl
        obtain ⟨he3, he4⟩ := HE.out.ok HF.out
        exact push_end H4.out.1 he1 he2 (fun _ => ⟨by rw [he3], by rw [he3], he4⟩) (fun h => absurd (he1.trans HF.out) h) H4.out.2.1 H4.out.2.2.1 H4.out.2.2.2
      · have hfb : (fl1 == 0) = false := beq_eq_false_iff_ne.2 hf
        have HF := Hd.mk hf
        clear hf
        have e1 : w4.cell? ⟨g, 1, none⟩ = some (.slice A3 MR cc3) := H4.out.1.at_ 1 rfl
        have y1 := H4.out.1.z 1
        have e2 : w4.cell? ⟨g, 2, none⟩ = some vc1 := H4.out.1.at_ 2 rfl
        have y2 := H4.out.1.z 2
        go_wp2_with fail
        go_ret
        obtain ⟨he1, he2⟩ := HE.out.fl
        have h5 := H4.out.1.loose (L' := []) (Chg.refl [] w4) (by simp) (World.ownsRow_nil ..) (fun x hx => by cases hx) (by simp)
        have h6 := h5.cont (c' := []) (Chg.refl [] _) (by simp) (World.ownsRow_nil ..) (fun x hx => by cases hx) (by simp)
        refine push_end (m' := ⟨[], m1.s, m1.k, m1.p⟩) h6 he1 he2 (fun h => absurd (he1.symm.trans h) HF.out) (fun _ => rfl) ((H4.out.2.1.setCell (mem_X.2 (.inr (.inl rfl))) _).setCell (mem_X.2 (.inr (.inl rfl))) _) (fun x hx => ?_) (fun V hV => ?_)
        · rcases mem_X.1 hx with h1 | h1 | h1 | h1
          · cases h1
          · exact .inl (mem_X.2 (.inr (.inl h1)))
          · cases h1
          · exact H4.out.2.2.1 x (mem_X.2 (.inr (.inr (.inr h1))))
        · refine (H4.out.2.2.2 V hV).chg (X := [g]) (((Chg.refl [g] w4).setCell (by simp) _).setCell (by simp) _) fun r hr x hx hm => ?_
          have := ((H4.out.2.2.2 V hV).lt hr hx).1
          have := H0.out.lt
          rw [List.mem_singleton.1 hm] at *; omega
    subst hf1
    have hcf := HCF.out
    go_wp2_with fail
    clear hcf d7 d1
    have hrd : Rd wr wr.heap.size (cutA A1 cc1 at_) (M - at_) (cb (LB.drop at_)) := by have := HS.out.1.lo; rw [HL.out.2] at this; exact rd_from (Rd.of_own this) hat HNC.out
    refine (chunk_any Z HM.out base wr g (.slice A1 M cc1) vc1 vq1 LB m1 C1 (ws ++ nw) (xs ++ ns) HS.out.1 (cutA A1 cc1 at_) (M - at_) (cc1 - at_) (LB.drop at_) hrd (by have := HNC.out; omega) (fun x hx => HL.out.1 x (List.mem_of_mem_drop hx)) (by omega) (fun gg off he hp hm => ?_) (HS.out.2.2.2.2.2 (by trivial)) (by rw [List.length_append]; omega)).mono ?_
    · have hb := cut_block (n := M) he
      rcases mem_Y.1 hm with h1 | h1 | h1
      · exact HS.out.1.gl (h1 ▸ hb)
      · exact HS.out.1.alc gg hb h1
      · exact HS.out.1.alq gg hb h1
    clear hrd
    rintro e w5 ⟨r, vc2, vq2, m2, C2, fl2, ws2, xs2, rfl, hS2, hch2, hfr2, hlaw⟩
    have hst := conn_step HS.out.2.2.2.2.1 (by rw [HL.out.2]; exact hat) (HS.out.2.2.2.2.2 (by trivial)) hlaw
    have hYX : ∀ x ∈ rdY g vc1 vq1, x ∈ rdX g vl vc vq ∨ w.heap.size ≤ x := fun x hx => HS.out.2.2.1 x (Y_sub_X hx)
    have hchw : Chg (rdX g vl vc vq) w w5 := HS.out.2.1.newer hch2 hYX
    have hfrw : ∀ x ∈ rdX g (.slice A1 M cc1) vc2 vq2, x ∈ rdX g vl vc vq ∨ w.heap.size ≤ x := fun x hx => by
      rcases mem_X.1 hx with h1 | h1 | h1 | h1
      · exact HS.out.2.2.1 x (mem_X.2 (.inl h1))
      · exact .inl (mem_X.2 (.inr (.inl h1)))
      · rcases hfr2 x (mem_Y.2 (.inr (.inl h1))) with h2 | h2
        · exact hYX x h2
        · exact .inr (Nat.le_trans HS.out.2.1.size h2)
      · rcases hfr2 x (mem_Y.2 (.inr (.inr h1))) with h2 | h2
        · exact hYX x h2
        · exact .inr (Nat.le_trans HS.out.2.1.size h2)
    have hokw : ∀ W ∈ nw, W.ok w5 w.heap.size := fun V hV => (HS.out.2.2.2.1 V hV).chg hch2 ((HS.out.1.off V (List.mem_append_right _ hV)).mono fun x hx => Y_sub_X hx)
    have HW := Hd.mk (And.intro hchw (And.intro hfrw (And.intro hokw HS.out.2.1.size)))
    clear hlaw hch2 hfr2 hYX hchw hfrw hokw
    rcases hst with ⟨hr0, hws, hxs, hend⟩ | ⟨hr0, hrl, d, dw, hxs, hws, hdw, hd1, hd2, hcn, hmo⟩
    · subst hr0 hws hxs
      have HT : Hd (RdS Z base w5 g (.slice A1 M cc1) vc2 vq2 LB m2.c m2.s C2 m2.k m2.p fl2 (ws ++ nw) (xs ++ ns) ∧ Chg (rdX g vl vc vq) w w5 ∧ (∀ x ∈ rdX g (.slice A1 M cc1) vc2 vq2, x ∈ rdX g vl vc vq ∨ w.heap.size ≤ x) ∧ (∀ W ∈ nw, W.ok w5 w.heap.size) ∧ PEnd o LB at_ m2 fl2 ns) := ⟨hS2, HW.out.1, HW.out.2.1, HW.out.2.2.1, by
        rcases hend with ⟨rfl, rfl, ho⟩ | ⟨h1, h2, h3⟩
        · exact ⟨fun _ => ⟨ho, HS.out.2.2.2.2.2 (by trivial)⟩, fun h => absurd rfl h⟩
        · exact ⟨fun h => absurd h h1, fun _ => ⟨h2, h3⟩⟩⟩
      clear hS2 hend HW HS
      go_upto_region 11 with fail
      have HRD : Hd (Rd w5 w5.heap.size (cutA A1 cc1 at_) (M - at_) (cb (LB.drop at_))) := ⟨by have := HT.out.1.lo; rw [HL.out.2] at this; exact rd_from (Rd.of_own this) hat HNC.out⟩
      have hll : (LB.drop at_).length = M - at_ := by rw [List.length_drop, HL.out.2]
      have HLN := Hd.mk hll
      obtain ⟨MR, hMR⟩ : ∃ r, M - at_ = r := ⟨_, rfl⟩
      have hMRb : MR ≤ 137438953472 := by omega
      rw [hMR] at HRD HLN HCF
      have hcf := HCF.out
      clear hll
      have d1 : w5.cell? ⟨g, 1, none⟩ = some (.slice A1 M cc1) := HT.out.1.at_ 1 rfl
      go_upto_region 12 with (at_builtin; refine wpList_app elB rfl (.const (.slice none 0 0)) (.tmp 51) rfl w5.heap.size (.slice none 0 0) 0 [] rfl (World.ownsRow_nil ..) w5.heap.size (cutA A1 cc1 at_) MR (cc1 - at_) (cb (LB.drop at_)) rfl HRD.out (cb_one _) (by unfold maxLen; omega) (by omega) (Nat.le_refl _) ?_; intro v3 w3 hO; rw [List.nil_append, Nat.zero_add] at hO; obtain ⟨A3, cc3, hv3, hn3, _⟩ := own_form hO.own; subst hv3; have HO3 := Hd.mk hO; have e1 : w3.cell? ⟨g, 1, none⟩ = some (.slice A1 M cc1) := (World.cell?_of_block (a := ⟨g, 1, none⟩) (hO.2.1.block g HT.out.1.lt (fun e => by cases e))).trans (HT.out.1.at_ 1 rfl); have y1 : w3.frozen? ⟨g, 1, none⟩ = false := (World.frozen?_of_block (a := ⟨g, 1, none⟩) (hO.2.1.block g HT.out.1.lt (fun e => by cases e))).trans (HT.out.1.z 1); clear hO hn3 d1)
      obtain ⟨w4, hw4⟩ : ∃ U, w3.setCell ⟨g, 1, none⟩ (.slice A3 MR cc3) = U := ⟨_, rfl⟩
      rw [hw4]
      have hbel : Below w5.heap.size w5 w3 := HO3.out.below (fun k h => by cases h) (Nat.le_refl _)
      have hs4 : RdS Z base w4 g (.slice A3 MR cc3) vc2 vq2 (LB.drop at_) m2.c m2.s C2 m2.k m2.p fl2 (ws ++ nw) (xs ++ ns) := by rw [← hw4]; exact HT.out.1.loose (L' := LB.drop at_) (Y := []) (Chg.of_below hbel) (by simp) (own_base (by have := HO3.out.1; rw [← HLN.out] at this ⊢; exact this) (Nat.le_trans HT.out.1.bg (Nat.le_of_lt HT.out.1.lt))) (fun x hx => .inr ((HO3.out.2.2 x hx).resolve_left (by simp [Value.ownBlock]))) (fun x hx => HL.out.1 x (List.mem_of_mem_drop hx))
      have hc4 : Chg (rdX g vl vc vq) w w4 := by rw [← hw4]; exact (HT.out.2.1.trans (Chg.of_below hbel)).setCell (mem_X.2 (.inr (.inl rfl))) _
      have hf4 : ∀ x ∈ rdX g (.slice A3 MR cc3) vc2 vq2, x ∈ rdX g vl vc vq ∨ w.heap.size ≤ x := fun x hx => by
        rcases mem_X.1 hx with h1 | h1 | h1 | h1
        · exact .inr (Nat.le_trans HT.out.2.1.size ((HO3.out.2.2 x h1).resolve_left (by simp [Value.ownBlock])))
        · exact .inl (mem_X.2 (.inr (.inl h1)))
        · exact HT.out.2.2.1 x (mem_X.2 (.inr (.inr (.inl h1))))
        · exact HT.out.2.2.1 x (mem_X.2 (.inr (.inr (.inr h1))))
      have ho4 : ∀ W ∈ nw, W.ok w4 w.heap.size := fun V hV => by
        rw [← hw4]
        refine ((HT.out.2.2.2.1 V hV).below hbel).chg (X := [g]) ((Chg.refl [g] w3).setCell (by simp) _) fun r hr x hx hm => ?_
        have := ((HT.out.2.2.2.1 V hV).lt hr hx).1
        have := H0.out.lt
        rw [List.mem_singleton.1 hm] at *; omega
      have H4 := Hd.mk (And.intro hs4 (And.intro hc4 (And.intro hf4 ho4)))
      have HE := Hd.mk HT.out.2.2.2.2
      clear hw4 hbel e1 y1 HO3 HRD hcf hs4 hc4 hf4 ho4
      have d7 : w4.cell? ⟨g, 7, none⟩ = some (.int .i64 fl2) := H4.out.1.at_ 7 rfl
      by_cases hf : fl2 = 0
      · have hfb : (fl2 == 0) = true := by rw [hf]; rfl
        have HF := Hd.mk hf
        clear hf
        go_wp2_with fail
        go_ret
        obtain ⟨he1, he2⟩ := HE.out.fl
        obtain ⟨he3, he4⟩ := HE.out.ok HF.out
        exact push_end H4.out.1 he1 he2 (fun _ => ⟨by rw [he3], by rw [he3], he4⟩) (fun h => absurd (he1.trans HF.out) h) H4.out.2.1 H4.out.2.2.1 H4.out.2.2.2
      · have hfb : (fl2 == 0) = false := beq_eq_false_iff_ne.2 hf
        have HF := Hd.mk hf
        clear hf
        have e1 : w4.cell? ⟨g, 1, none⟩ = some (.slice A3 MR cc3) := H4.out.1.at_ 1 rfl
        have y1 := H4.out.1.z 1
        have e2 : w4.cell? ⟨g, 2, none⟩ = some vc2 := H4.out.1.at_ 2 rfl
        have y2 := H4.out.1.z 2
        go_wp2_with fail
        go_ret
        obtain ⟨he1, he2⟩ := HE.out.fl
        have h5 := H4.out.1.loose (L' := []) (Chg.refl [] w4) (by simp) (World.ownsRow_nil ..) (fun x hx => by cases hx) (by simp)
        have h6 := h5.cont (c' := []) (Chg.refl [] _) (by simp) (World.ownsRow_nil ..) (fun x hx => by cases hx) (by simp)
        refine push_end (m' := ⟨[], m2.s, m2.k, m2.p⟩) h6 he1 he2 (fun h => absurd (he1.symm.trans h) HF.out) (fun _ => rfl) ((H4.out.2.1.setCell (mem_X.2 (.inr (.inl rfl))) _).setCell (mem_X.2 (.inr (.inl rfl))) _) (fun x hx => ?_) (fun V hV => ?_)
        · rcases mem_X.1 hx with h1 | h1 | h1 | h1
          · cases h1
          · exact .inl (mem_X.2 (.inr (.inl h1)))
          · cases h1
          · exact H4.out.2.2.1 x (mem_X.2 (.inr (.inr (.inr h1))))
        · refine (H4.out.2.2.2 V hV).chg (X := [g]) (((Chg.refl [g] w4).setCell (by simp) _).setCell (by simp) _) fun r hr x hx hm => ?_
          have := ((H4.out.2.2.2 V hV).lt hr hx).1
          have := H0.out.lt
          rw [List.mem_singleton.1 hm] at *; omega
    · subst hws hxs
      have hri : ((r : Int) == 0) = false := beq_eq_false_iff_ne.2 (by omega)
      rw [HL.out.2] at hrl
      have hnl : (nw ++ dw).length ≤ at_ + r := by rw [List.length_append]; omega
      have hok3 : ∀ W ∈ nw ++ dw, W.ok w5 w.heap.size := fun V hV => (List.mem_append.1 hV).elim (HW.out.2.2.1 V) (fun h => (hdw V h).lower HW.out.2.2.2)
      have hsr : RdS Z base w5 g (.slice A1 M cc1) vc2 vq2 LB m2.c m2.s C2 m2.k m2.p fl2 (ws ++ (nw ++ dw)) (xs ++ (ns ++ d)) := by rw [← List.append_assoc, ← List.append_assoc]; exact hS2
      have HN := Hd.mk (And.intro hnl (And.intro hsr (And.intro HW.out.1 (And.intro HW.out.2.1 (And.intro hok3 (And.intro hcn hmo))))))
      clear hS2 hdw hcn hmo HS HCF HW hnl hok3 hsr hd1 hd2
      go_wp2_with fail
      go_roundw
      case rel =>
        have hcast : ((at_ + r : Nat) : Int) = (at_ : Int) + (r : Int) := by omega
        first
          | exact ⟨at_ + r, vc2, vq2, m2, C2, fl2, nw ++ dw, ns ++ d, by rw [hcast], hrl, HN.out⟩
          | exact ⟨_, ⟨at_ + r, vc2, vq2, m2, C2, fl2, nw ++ dw, ns ++ d, by rw [hcast], hrl, HN.out⟩, rfl⟩
          | exact ⟨_, _, ⟨at_ + r, vc2, vq2, m2, C2, fl2, nw ++ dw, ns ++ d, by rw [hcast], hrl, HN.out⟩, rfl, rfl⟩
      case measure => simp [intOf]; omega
end Go.Proofs.Ytbcmjjcbjojakaa
end
section
/- Contracts of the reader's Request, Answer, Held, Fault; a new reader. (tools/reqgen.py prints it.) -/
namespace Go.Proofs.Ytbcmjjcbjojakaa
open Go.RowKit
set_option linter.unusedVariables false
set_option linter.unusedSimpArgs false
theorem infoRd : (Try.prog.info? 58).map (·.size) = some 10 := by kernel_rfl
section
variable {T : Type} {Z : Kd T} {base : Nat} {w w' : World} {g : Nat} {vl vc vq vq' : Value} {L c : List Nat} {S C k p : Nat} {fl : Int} {ws : List Wm} {xs : List T} {W : Wm} {x : T}
/-- The first message is gone. -/
theorem RdS.pop (h : RdS Z base w g vl vc vq L c S C k p fl (W :: ws) (x :: xs)) (hq : Que w base Z.e Z.m vq' ws) (hb : vq'.ownBlock = vq.ownBlock) : RdS Z base (w.setCell ⟨g, (if Z.ans then 9 else 8), none⟩ vq') g vl vc vq' L c S C k p fl ws xs := by
  have b2 : Chg [g] w (w.setCell ⟨g, (if Z.ans then 9 else 8), none⟩ vq') := (Chg.refl [g] w).setCell (by simp) vq'
  have hX : rdX g vl vc vq' = rdX g vl vc vq := by unfold rdX rdY; rw [hb]
  have hg : ∀ V : Wm, V.off (rdX g vl vc vq) → V.off [g] := fun V h => h.mono fun x hx => by rw [List.mem_singleton.1 hx]; exact mem_X.2 (.inr (.inl rfl))
  refine ⟨?_, ?_, ?_, ?_, h.alc, ?_, ?_, h.gl, h.gc, by rw [hb]; exact h.gq, h.bg, fun V hV => (h.ok V (List.mem_cons_of_mem _ hV)).chg b2 (hg V (h.off V (List.mem_cons_of_mem _ hV))), fun V hV => by rw [hX]; exact h.off V (List.mem_cons_of_mem _ hV), h.is.2, h.s, h.c64, h.lb, h.cb_⟩
  · rw [heap_set w g _ vq' _ _ h.box]
    congr 2
    unfold rdC
    cases Z.ans <;> rfl
  · exact b2.own h.lo fun y hy hm => h.gl (by rw [hy, List.mem_singleton.1 hm])
  · exact b2.own h.co fun y hy hm => h.gc (by rw [hy, List.mem_singleton.1 hm])
  · exact hq.chg b2 fun y hy hm => h.gq (by rw [← hb, hy, List.mem_singleton.1 hm])
  · exact fun y hy hv => h.alq y hy (by rw [← hb]; exact hv)
  · exact fun y hy hv => h.acq y hy (by rw [← hb]; exact hv)
/-- A new reader. -/
theorem RdS.start (Z : Kd T) (hg : w.heap[g]? = some (.cells #[.bool Z.ans, .slice none 0 0, .slice none 0 0, .int .u32 0, .int .u64 0, .int .i64 0, .int .i64 0, .int .i64 0, .slice none 0 0, .slice none 0 0] 58)) (hb : base ≤ g) :
    RdS Z base w g (.slice none 0 0) (.slice none 0 0) (.slice none 0 0) [] mid0.c mid0.s 0 mid0.k mid0.p 0 [] [] := by
  refine ⟨?_, World.ownsRow_nil .., World.ownsRow_nil .., Que.nil .., Apart.nil _, Apart.nil _, Apart.nil _, by simp [Value.ownBlock], by simp [Value.ownBlock], by simp [Value.ownBlock], hb, by simp, by simp, trivial, by decide, by decide, by simp, by intro x hx; cases hx⟩
  rw [hg]
  unfold rdC mid0
  cases Z.ans <;> rfl
end
theorem Que_pop_any {P : Program} {t e size bytes n c : Nat} {A : Option Addr} {w0 : World} {v' : Value} (h : (Instr.slice t (.slice A n c) (some (.int .i64 1)) none none).run P w0 = .ok v' w0) (E : ElN P t e size bytes) (U : World) (hn : 0 < n) : (Instr.slice t (.slice A n c) (some (.int .i64 1)) none none).run P U = .ok v' U := by
  have h1 := run_cut_fromN (w := w0) E A n c 1 (by omega)
  have h2 := run_cut_fromN (w := U) E A n c 1 (by omega)
  have h3 := h.symm.trans h1
  injection h3 with h3
  rw [h3]; exact h2
theorem held_any {T : Type} (Z : Kd T) (base : Nat) (w : World) (g : Nat) (vl vc vq : Value) (L c : List Nat) (S C k p : Nat) (fl : Int) (ws : List Wm) (xs : List T) (h : RdS Z base w g vl vc vq L c S C k p fl ws xs) (hp : Hd (fl = 0 → p ≤ 1099511627776)) (hl : L.length ≤ 1099511627776) :
    Calls Try.prog 40 #[.pointer (some ⟨g, 0, none⟩)] w fun e w' => e = .returned (.int .i64 ((if fl = 0 then p + L.length else 0 : Nat) : Int)) ∧ Below w.heap.size w w' := by
  have d7 : w.cell? ⟨g, 7, none⟩ = some (.int .i64 fl) := h.at_ 7 rfl
  have d6 : w.cell? ⟨g, 6, none⟩ = some (.int .i64 (p : Int)) := h.at_ 6 rfl
  obtain ⟨Al, cl, hvl, _, _⟩ := own_form h.lo
  have d1 : w.cell? ⟨g, 1, none⟩ = some (.slice Al L.length cl) := by rw [← hvl]; exact h.at_ 1 rfl
  obtain ⟨lL, hlL⟩ : ∃ l, L.length = l := ⟨_, rfl⟩
  rw [hlL] at d1 hl ⊢
  clear h hvl hlL
  go_enter Try.func40, Try.ntmps40
  by_cases hf : fl = 0
  · have hfb : (fl == 0) = true := by rw [hf]; rfl
    rw [if_pos hf]
    have hp := hp.out hf
    clear hf
    go_upto_region 3 with fail
    have hsum : IntKind.i64.wrap ((p : Int) + (lL : Int)) = (p : Int) + (lL : Int) := by rw [IntKind.wrap_i64]; omega
    go_quiet (fail)
    go_wp2_with fail
    go_ret
    exact ⟨by congr 2, ⟨rfl, rfl, rfl, Nat.le_refl _, fun _ _ => rfl⟩⟩
  · have hfb : (fl == 0) = false := beq_eq_false_iff_ne.2 hf
    rw [if_neg hf]
    clear hf hp
    go_wp2_with fail
    go_ret
    exact ⟨rfl, Below.refl _ w⟩
theorem rfault_any {T : Type} (Z : Kd T) (base : Nat) (w : World) (g : Nat) (vl vc vq : Value) (L c : List Nat) (S C k p : Nat) (fl : Int) (ws : List Wm) (xs : List T) (h : RdS Z base w g vl vc vq L c S C k p fl ws xs) :
    Calls Try.prog 70 #[.pointer (some ⟨g, 0, none⟩)] w fun e w' => e = .returned (.int .i64 fl) ∧ w = w' := by
  have d7 : w.cell? ⟨g, 7, none⟩ = some (.int .i64 fl) := h.at_ 7 rfl
  clear h
  go_enter Try.func70, Try.ntmps70
  go_wp2_with fail
  go_ret
  exact ⟨rfl, rfl⟩
theorem held_nil (w : World) : Calls Try.prog 40 #[.pointer none] w fun e w' => e = .returned (.int .i64 0) ∧ w = w' := by
  go_enter Try.func40, Try.ntmps40
  go_wp2_with fail
  go_ret
  exact ⟨rfl, rfl⟩
theorem rfault_nil (w : World) : Calls Try.prog 70 #[.pointer none] w fun e w' => e = .returned (.int .i64 1) ∧ w = w' := by
  go_enter Try.func70, Try.ntmps70
  go_wp2_with fail
  go_ret
  exact ⟨rfl, rfl⟩
theorem asks_new (w : World) : Calls Try.prog 25 #[] w fun e w' => e = .returned (.pointer (some ⟨w.heap.size, 0, none⟩)) ∧ RdS askK w.heap.size w' w.heap.size (.slice none 0 0) (.slice none 0 0) (.slice none 0 0) [] mid0.c mid0.s 0 mid0.k mid0.p 0 [] [] ∧ Below w.heap.size w w' := by
  go_enter Try.func25, Try.ntmps25
  go_wp2_with fail
  go_ret
  exact ⟨rfl, RdS.start askK (heap_alloc_new _ _) (Nat.le_refl _), (Below.refl _ w).alloc (Nat.le_refl _) _⟩
theorem tells_new (w : World) : Calls Try.prog 26 #[] w fun e w' => e = .returned (.pointer (some ⟨w.heap.size, 0, none⟩)) ∧ RdS telK w.heap.size w' w.heap.size (.slice none 0 0) (.slice none 0 0) (.slice none 0 0) [] mid0.c mid0.s 0 mid0.k mid0.p 0 [] [] ∧ Below w.heap.size w w' := by
  go_enter Try.func26, Try.ntmps26
  go_wp2_with fail
  go_ret
  exact ⟨rfl, RdS.start telK (heap_alloc_new _ _) (Nat.le_refl _), (Below.refl _ w).alloc (Nat.le_refl _) _⟩
/-- None is there. -/
theorem none_ask (base : Nat) (w : World) (g : Nat) (vl vc vq : Value) (L c : List Nat) (S C k p : Nat) (fl : Int) (xs : List Rq) (h : RdS askK base w g vl vc vq L c S C k p fl [] xs) :
    Calls Try.prog 36 #[.pointer (some ⟨g, 0, none⟩)] w fun e w' => e = .returned (.tuple #[.agg rq0, .bool false]) ∧ Below w.heap.size w w' := by
  obtain ⟨Aq, cq, hvq, _⟩ := h.qu.form
  have d8 : w.cell? ⟨g, 8, none⟩ = some (.slice Aq 0 cq) := by have := h.at_ 8 (v := vq) rfl; rw [hvq] at this; exact this
  have hlt := h.lt
  clear h hvq
  obtain ⟨gx, hgx⟩ : ∃ gx, w.heap.size = gx := ⟨_, rfl⟩
  obtain ⟨w0, hw0⟩ : ∃ W, w.alloc (.cells #[.int .i64 0, .int .u64 0, .string emS, .string emS, .int .i64 0, .int .i64 0, .int .i64 0, .slice none 0 0] 28) = W := ⟨_, rfl⟩
  have hr0 : w0.heap[gx]? = some (.cells rq0 28) := by rw [← hw0, ← hgx]; exact heap_alloc_new w _
  have hb0 : Below w.heap.size w w0 := by rw [← hw0]; exact (Below.refl _ w).alloc (Nat.le_refl _) _
  have e8 : w0.cell? ⟨g, 8, none⟩ = some (.slice Aq 0 cq) := (hb0.cell (show g < w.heap.size from hlt)).trans d8
  have HB := Hd.mk (And.intro hb0 hgx)
  clear d8 hb0 hlt
  go_enter Try.func36, Try.ntmps36
  go_upto_region 1 with fail
  have hz : (⟨#[]⟩ : ByteArray) = emS := rfl
  try rw [hz]
  rw [hw0]
  try rw [hgx]
  clear hz hw0 hgx
  go_wp2_with (refine at_store (x := .tmp 2) ?_; refine wpList_stored rfl 28 (.tmp 2) (.tmp 15) rfl gx rq0 rfl rfl 28 rq0 hr0 infoRq8 rfl (by simp [rq0, Value.oneCell']) ?_; intro w6 hB6)
  (try simp only [Exit.inBlock, Exit.then])
  refine bodyPost_ret (results_cell_tmp rfl _ _ gx 28 rq0 (0, 0) _ rfl hB6.out.1 Try.underlying28 rfl infoRq8) rfl ?_
  exact ⟨rfl, HB.out.1.grown hB6.out.2.1 HB.out.1.size (fun k hk => by injection hk with hk; have := HB.out.2; omega)⟩
theorem nil_ask (w : World) : Calls Try.prog 36 #[.pointer none] w fun e w' => e = .returned (.tuple #[.agg rq0, .bool false]) ∧ Below w.heap.size w w' := by
  obtain ⟨gx, hgx⟩ : ∃ gx, w.heap.size = gx := ⟨_, rfl⟩
  obtain ⟨w0, hw0⟩ : ∃ W, w.alloc (.cells #[.int .i64 0, .int .u64 0, .string emS, .string emS, .int .i64 0, .int .i64 0, .int .i64 0, .slice none 0 0] 28) = W := ⟨_, rfl⟩
  have hr0 : w0.heap[gx]? = some (.cells rq0 28) := by rw [← hw0, ← hgx]; exact heap_alloc_new w _
  have hb0 : Below w.heap.size w w0 := by rw [← hw0]; exact (Below.refl _ w).alloc (Nat.le_refl _) _
  have HB := Hd.mk (And.intro hb0 hgx)
  clear hb0
  go_enter Try.func36, Try.ntmps36
  go_upto_region 1 with fail
  have hz : (⟨#[]⟩ : ByteArray) = emS := rfl
  try rw [hz]
  rw [hw0]
  try rw [hgx]
  clear hz hw0 hgx
  go_wp2_with (refine at_store (x := .tmp 2) ?_; refine wpList_stored rfl 28 (.tmp 2) (.tmp 15) rfl gx rq0 rfl rfl 28 rq0 hr0 infoRq8 rfl (by simp [rq0, Value.oneCell']) ?_; intro w6 hB6)
  (try simp only [Exit.inBlock, Exit.then])
  refine bodyPost_ret (results_cell_tmp rfl _ _ gx 28 rq0 (0, 0) _ rfl hB6.out.1 Try.underlying28 rfl infoRq8) rfl ?_
  exact ⟨rfl, HB.out.1.grown hB6.out.2.1 HB.out.1.size (fun k hk => by injection hk with hk; have := HB.out.2; omega)⟩
set_option maxRecDepth 20000 in
set_option maxHeartbeats 4000000 in
/-- The first message is handed out. -/
theorem some_ask (base : Nat) (w : World) (g : Nat) (vl vc vq : Value) (L c : List Nat) (S C k p : Nat) (fl : Int) (W : Wm) (ws : List Wm) (x : Rq) (xs : List Rq) (h : RdS askK base w g vl vc vq L c S C k p fl (W :: ws) (x :: xs)) :
    Calls Try.prog 36 #[.pointer (some ⟨g, 0, none⟩)] w fun e w' => e = .returned (.tuple #[.agg W.cells.toArray, .bool true]) ∧ ∃ vq', RdS askK base w' g vl vc vq' L c S C k p fl ws xs ∧ Chg [g] w w' ∧ vq'.ownBlock = vq.ownBlock := by
  obtain ⟨gx, hgx⟩ : ∃ gx, w.heap.size = gx := ⟨_, rfl⟩
  obtain ⟨w0, hw0⟩ : ∃ U, w.alloc (.cells #[.int .i64 0, .int .u64 0, .string emS, .string emS, .int .i64 0, .int .i64 0, .int .i64 0, .slice none 0 0] 28) = U := ⟨_, rfl⟩
  have hr0 : w0.heap[gx]? = some (.cells rq0 28) := by rw [← hw0, ← hgx]; exact heap_alloc_new w _
  have hb0 : Chg [] w w0 := by rw [← hw0]; exact (Chg.refl [] w).alloc _
  have h0 := h.new hb0
  obtain ⟨gq, oq, cq, hvq, hbq, hlq, hrg⟩ := h0.qu.first (by decide)
  have hcl := h0.qu.1 W (by simp)
  have H0 := Hd.mk (And.intro h0 (And.intro hr0 (And.intro (hb0.mono (L' := [g]) (by simp)) (And.intro hgx h.lt))))
  have HQ := Hd.mk (And.intro hvq (And.intro hrg hcl))
  have d8 : w0.cell? ⟨g, 8, none⟩ = some (.slice (some ⟨gq, oq, none⟩) (ws.length + 1) cq) := by have := h0.at_ 8 (v := vq) rfl; rw [hvq] at this; exact this
  have z8 := h0.z 8
  obtain ⟨vq', hrun, hq', hbk⟩ := h0.qu.pop elRq
  rw [hvq] at hrun
  have HP := Hd.mk (And.intro hrun (And.intro hq' hbk))
  have hlw : (0 : Int) < ((ws.length + 1 : Nat) : Int) := by omega
  obtain ⟨lw, hlw2⟩ : ∃ l, ws.length + 1 = l := ⟨_, rfl⟩
  have HLW := Hd.mk hlw2
  have HX : Hd ((∀ y ∈ rdX g vl vc vq, y < w.heap.size) ∧ ∀ V ∈ ws, ∀ r ∈ V.rows, ∀ y, r.2.1.ownBlock = some y → y < w.heap.size) := ⟨fun y hy => (h.ltX hy).2, fun V hV r hr y hy => ((h.ok V (List.mem_cons_of_mem _ hV)).lt hr hy).2⟩
  rw [hlw2] at d8 hlw HP
  have hlwb : ((lw : Int) == 0) = false := beq_eq_false_iff_ne.2 (by omega)
  have hlwn : 0 < lw := by omega
  clear h h0 hvq hbq hlq hrg hcl hr0 hb0 hrun hq' hbk hlw2
  go_enter Try.func36, Try.ntmps36
  go_upto_region 1 with fail
  have hz : (⟨#[]⟩ : ByteArray) = emS := rfl
  try rw [hz]
  rw [hw0]
  try rw [hgx]
  clear hz hw0
  go_upto_region 4 with (first
    | (refine at_load ?_; refine wpList_load_mid rfl 28 (.tmp 20) rfl gq oq rfl W.cells _ HQ.out.2.1 Try.underlying28 rfl (by rw [infoRq8, HQ.out.2.2.1]; rfl) ?_)
    | (refine at_store (x := .tmp 4) ?_; refine wpList_boxed rfl 28 (.tmp 4) (.tmp 21) rfl w0.heap.size rfl W.cells.toArray rfl rfl (by rw [infoRq8]; simp [HQ.out.2.2.1]; rfl) (by simp [HQ.out.2.2.1]; rfl) (by rw [Array.all_eq_true_iff_forall_mem]; exact fun u hu => HQ.out.2.2.2 u (by simpa using hu)) ?_; intro w1 hB1))
  obtain ⟨gb, hgb⟩ : ∃ gb, w0.heap.size = gb := ⟨_, rfl⟩
  rw [hgb] at hB1 ⊢
  have HGB : Hd (gx < gb ∧ g < gb) := ⟨by rw [← hgb]; exact (Array.getElem?_eq_some_iff.1 H0.out.2.1).1, by rw [← hgb]; exact H0.out.1.lt⟩
  have hb1 : Chg [] w0 w1 := ⟨hB1.out.2.1.os, hB1.out.2.1.tape, hB1.out.2.1.output, hB1.out.2.1.size, fun k hk _ => hB1.out.2.1.block k (by rw [← hgb]; exact hk)⟩
  have H1 : Hd (RdS askK base w1 g vl vc vq L c S C k p fl (W :: ws) (x :: xs) ∧ w1.heap[gx]? = some (.cells rq0 28) ∧ w1.heap[gb]? = some (.cells W.cells.toArray 28) ∧ Chg [g] w w1 ∧ Que w1 base (askK).e (askK).m vq' ws) := ⟨H0.out.1.new hb1, by rw [hb1.block gx (by rw [hgb]; exact HGB.out.1) (by simp)]; exact H0.out.2.1, hB1.out.1, H0.out.2.2.1.trans (hb1.mono (by simp)), HP.out.2.1.chg hb1 (by simp)⟩
  clear hB1 hb1 hgb d8 z8
  have d8 : w1.cell? ⟨g, 8, none⟩ = some (.slice (some ⟨gq, oq, none⟩) lw cq) := by have := H1.out.1.at_ 8 (v := vq) rfl; rw [HQ.out.1] at this; rw [this]; congr 2; exact HLW.out
  have z8 := H1.out.1.z 8
  have hpr : ∀ U, (Instr.slice 55 (.slice (some ⟨gq, oq, none⟩) lw cq) (some (.int .i64 1)) none none).run Try.prog U = .ok vq' U := fun U => Que_pop_any HP.out.1 elRq U hlwn
  obtain ⟨Aq, cq', hvq', _⟩ := H1.out.2.2.2.2.form
  rw [hvq'] at hpr
  go_upto_region 5 with fail
  obtain ⟨w2, hw2⟩ : ∃ U, w1.setCell ⟨g, 8, none⟩ (.slice Aq ws.length cq') = U := ⟨_, rfl⟩
  rw [hw2]
  have H2 : Hd (RdS askK base w2 g vl vc vq' L c S C k p fl ws xs ∧ w2.heap[gx]? = some (.cells rq0 28) ∧ w2.heap[gb]? = some (.cells W.cells.toArray 28) ∧ Chg [g] w w2) := ⟨by rw [← hw2, ← hvq']; exact H1.out.1.pop H1.out.2.2.2.2 HP.out.2.2, by rw [← hw2, Below.heap_setCell _ _ _ _ (by show gx ≠ g; have := H0.out.2.2.2.1; have := H0.out.2.2.2.2; omega)]; exact H1.out.2.1, by rw [← hw2, Below.heap_setCell _ _ _ _ (by show gb ≠ g; have := HGB.out.2; omega)]; exact H1.out.2.2.1, by rw [← hw2]; exact H1.out.2.2.2.1.setCell (by simp) _⟩
  clear hw2 d8 z8 hpr H1
  go_wp2_with (first
    | (refine at_load ?_; refine wpList_load_row rfl 28 (.tmp 4) rfl gb rfl 28 W.cells.toArray (0, 0) _ H2.out.2.2.1 Try.underlying28 rfl (by rw [infoRq8]; simp [HQ.out.2.2.1]; rfl) ?_)
    | (refine at_store (x := .tmp 2) ?_; refine wpList_stored rfl 28 (.tmp 2) (.tmp 30) rfl gx W.cells.toArray rfl rfl 28 rq0 H2.out.2.1 (by rw [infoRq8]; simp [HQ.out.2.2.1]; rfl) (by simp [HQ.out.2.2.1]; rfl) (by rw [Array.all_eq_true_iff_forall_mem]; exact fun u hu => HQ.out.2.2.2 u (by simpa using hu)) ?_; intro w6 hB6))
  (try simp only [Exit.inBlock, Exit.then])
  refine bodyPost_ret (results_cell_tmp rfl _ _ gx 28 W.cells.toArray (0, 0) _ rfl hB6.out.1 Try.underlying28 rfl (by rw [infoRq8]; simp [HQ.out.2.2.1]; rfl)) rfl ?_
  have hgx2 : w.heap.size ≤ gx := by have := H0.out.2.2.2.1; omega
  exact ⟨rfl, vq', H2.out.1.keepN (N := w.heap.size) (Chg.of_grown hB6.out.2.1) (by simpa using hgx2) (fun y hy => HX.out.1 y (by unfold rdX rdY at hy ⊢; rw [HP.out.2.2] at hy; exact hy)) HX.out.2, H2.out.2.2.2.newer (Chg.of_grown hB6.out.2.1) (by simp; exact .inr hgx2), HP.out.2.2⟩
/-- None is there. -/
theorem none_tel (base : Nat) (w : World) (g : Nat) (vl vc vq : Value) (L c : List Nat) (S C k p : Nat) (fl : Int) (xs : List An) (h : RdS telK base w g vl vc vq L c S C k p fl [] xs) :
    Calls Try.prog 37 #[.pointer (some ⟨g, 0, none⟩)] w fun e w' => e = .returned (.tuple #[.agg an0, .bool false]) ∧ Below w.heap.size w w' := by
  obtain ⟨Aq, cq, hvq, _⟩ := h.qu.form
  have d8 : w.cell? ⟨g, 9, none⟩ = some (.slice Aq 0 cq) := by have := h.at_ 9 (v := vq) rfl; rw [hvq] at this; exact this
  have hlt := h.lt
  clear h hvq
  obtain ⟨gx, hgx⟩ : ∃ gx, w.heap.size = gx := ⟨_, rfl⟩
  obtain ⟨w0, hw0⟩ : ∃ W, w.alloc (.cells #[.int .i64 0, .int .u64 0, .int .i64 0, .slice none 0 0, .slice none 0 0, .slice none 0 0, .string emS, .bool false, .int .i64 0, .int .i64 0, .int .i64 0, .int .i64 0, .int .i64 0, .int .i64 0, .int .i64 0] 43) = W := ⟨_, rfl⟩
  have hr0 : w0.heap[gx]? = some (.cells an0 43) := by rw [← hw0, ← hgx]; exact heap_alloc_new w _
  have hb0 : Below w.heap.size w w0 := by rw [← hw0]; exact (Below.refl _ w).alloc (Nat.le_refl _) _
  have e8 : w0.cell? ⟨g, 9, none⟩ = some (.slice Aq 0 cq) := (hb0.cell (show g < w.heap.size from hlt)).trans d8
  have HB := Hd.mk (And.intro hb0 hgx)
  clear d8 hb0 hlt
  go_enter Try.func37, Try.ntmps37
  go_upto_region 1 with fail
  have hz : (⟨#[]⟩ : ByteArray) = emS := rfl
  try rw [hz]
  rw [hw0]
  try rw [hgx]
  clear hz hw0 hgx
  go_wp2_with (refine at_store (x := .tmp 2) ?_; refine wpList_stored rfl 43 (.tmp 2) (.tmp 15) rfl gx an0 rfl rfl 43 an0 hr0 infoAn15 rfl (by simp [an0, Value.oneCell']) ?_; intro w6 hB6)
  (try simp only [Exit.inBlock, Exit.then])
  refine bodyPost_ret (results_cell_tmp rfl _ _ gx 43 an0 (0, 0) _ rfl hB6.out.1 Try.underlying43 rfl infoAn15) rfl ?_
  exact ⟨rfl, HB.out.1.grown hB6.out.2.1 HB.out.1.size (fun k hk => by injection hk with hk; have := HB.out.2; omega)⟩
theorem nil_tel (w : World) : Calls Try.prog 37 #[.pointer none] w fun e w' => e = .returned (.tuple #[.agg an0, .bool false]) ∧ Below w.heap.size w w' := by
  obtain ⟨gx, hgx⟩ : ∃ gx, w.heap.size = gx := ⟨_, rfl⟩
  obtain ⟨w0, hw0⟩ : ∃ W, w.alloc (.cells #[.int .i64 0, .int .u64 0, .int .i64 0, .slice none 0 0, .slice none 0 0, .slice none 0 0, .string emS, .bool false, .int .i64 0, .int .i64 0, .int .i64 0, .int .i64 0, .int .i64 0, .int .i64 0, .int .i64 0] 43) = W := ⟨_, rfl⟩
  have hr0 : w0.heap[gx]? = some (.cells an0 43) := by rw [← hw0, ← hgx]; exact heap_alloc_new w _
  have hb0 : Below w.heap.size w w0 := by rw [← hw0]; exact (Below.refl _ w).alloc (Nat.le_refl _) _
  have HB := Hd.mk (And.intro hb0 hgx)
  clear hb0
  go_enter Try.func37, Try.ntmps37
  go_upto_region 1 with fail
  have hz : (⟨#[]⟩ : ByteArray) = emS := rfl
  try rw [hz]
  rw [hw0]
  try rw [hgx]
  clear hz hw0 hgx
  go_wp2_with (refine at_store (x := .tmp 2) ?_; refine wpList_stored rfl 43 (.tmp 2) (.tmp 15) rfl gx an0 rfl rfl 43 an0 hr0 infoAn15 rfl (by simp [an0, Value.oneCell']) ?_; intro w6 hB6)
  (try simp only [Exit.inBlock, Exit.then])
  refine bodyPost_ret (results_cell_tmp rfl _ _ gx 43 an0 (0, 0) _ rfl hB6.out.1 Try.underlying43 rfl infoAn15) rfl ?_
  exact ⟨rfl, HB.out.1.grown hB6.out.2.1 HB.out.1.size (fun k hk => by injection hk with hk; have := HB.out.2; omega)⟩
set_option maxRecDepth 20000 in
set_option maxHeartbeats 4000000 in
/-- The first message is handed out. -/
theorem some_tel (base : Nat) (w : World) (g : Nat) (vl vc vq : Value) (L c : List Nat) (S C k p : Nat) (fl : Int) (W : Wm) (ws : List Wm) (x : An) (xs : List An) (h : RdS telK base w g vl vc vq L c S C k p fl (W :: ws) (x :: xs)) :
    Calls Try.prog 37 #[.pointer (some ⟨g, 0, none⟩)] w fun e w' => e = .returned (.tuple #[.agg W.cells.toArray, .bool true]) ∧ ∃ vq', RdS telK base w' g vl vc vq' L c S C k p fl ws xs ∧ Chg [g] w w' ∧ vq'.ownBlock = vq.ownBlock := by
  obtain ⟨gx, hgx⟩ : ∃ gx, w.heap.size = gx := ⟨_, rfl⟩
  obtain ⟨w0, hw0⟩ : ∃ U, w.alloc (.cells #[.int .i64 0, .int .u64 0, .int .i64 0, .slice none 0 0, .slice none 0 0, .slice none 0 0, .string emS, .bool false, .int .i64 0, .int .i64 0, .int .i64 0, .int .i64 0, .int .i64 0, .int .i64 0, .int .i64 0] 43) = U := ⟨_, rfl⟩
  have hr0 : w0.heap[gx]? = some (.cells an0 43) := by rw [← hw0, ← hgx]; exact heap_alloc_new w _
  have hb0 : Chg [] w w0 := by rw [← hw0]; exact (Chg.refl [] w).alloc _
  have h0 := h.new hb0
  obtain ⟨gq, oq, cq, hvq, hbq, hlq, hrg⟩ := h0.qu.first (by decide)
  have hcl := h0.qu.1 W (by simp)
  have H0 := Hd.mk (And.intro h0 (And.intro hr0 (And.intro (hb0.mono (L' := [g]) (by simp)) (And.intro hgx h.lt))))
  have HQ := Hd.mk (And.intro hvq (And.intro hrg hcl))
  have d8 : w0.cell? ⟨g, 9, none⟩ = some (.slice (some ⟨gq, oq, none⟩) (ws.length + 1) cq) := by have := h0.at_ 9 (v := vq) rfl; rw [hvq] at this; exact this
  have z8 := h0.z 9
  obtain ⟨vq', hrun, hq', hbk⟩ := h0.qu.pop elAn
  rw [hvq] at hrun
  have HP := Hd.mk (And.intro hrun (And.intro hq' hbk))
  have hlw : (0 : Int) < ((ws.length + 1 : Nat) : Int) := by omega
  obtain ⟨lw, hlw2⟩ : ∃ l, ws.length + 1 = l := ⟨_, rfl⟩
  have HLW := Hd.mk hlw2
  have HX : Hd ((∀ y ∈ rdX g vl vc vq, y < w.heap.size) ∧ ∀ V ∈ ws, ∀ r ∈ V.rows, ∀ y, r.2.1.ownBlock = some y → y < w.heap.size) := ⟨fun y hy => (h.ltX hy).2, fun V hV r hr y hy => ((h.ok V (List.mem_cons_of_mem _ hV)).lt hr hy).2⟩
  rw [hlw2] at d8 hlw HP
  have hlwb : ((lw : Int) == 0) = false := beq_eq_false_iff_ne.2 (by omega)
  have hlwn : 0 < lw := by omega
  clear h h0 hvq hbq hlq hrg hcl hr0 hb0 hrun hq' hbk hlw2
  go_enter Try.func37, Try.ntmps37
  go_upto_region 1 with fail
  have hz : (⟨#[]⟩ : ByteArray) = emS := rfl
  try rw [hz]
  rw [hw0]
  try rw [hgx]
  clear hz hw0
  go_upto_region 4 with (first
    | (refine at_load ?_; refine wpList_load_mid rfl 43 (.tmp 20) rfl gq oq rfl W.cells _ HQ.out.2.1 Try.underlying43 rfl (by rw [infoAn15, HQ.out.2.2.1]; rfl) ?_)
    | (refine at_store (x := .tmp 4) ?_; refine wpList_boxed rfl 43 (.tmp 4) (.tmp 21) rfl w0.heap.size rfl W.cells.toArray rfl rfl (by rw [infoAn15]; simp [HQ.out.2.2.1]; rfl) (by simp [HQ.out.2.2.1]; rfl) (by rw [Array.all_eq_true_iff_forall_mem]; exact fun u hu => HQ.out.2.2.2 u (by simpa using hu)) ?_; intro w1 hB1))
  obtain ⟨gb, hgb⟩ : ∃ gb, w0.heap.size = gb := ⟨_, rfl⟩
  rw [hgb] at hB1 ⊢
  have HGB : Hd (gx < gb ∧ g < gb) := ⟨by rw [← hgb]; exact (Array.getElem?_eq_some_iff.1 H0.out.2.1).1, by rw [← hgb]; exact H0.out.1.lt⟩
  have hb1 : Chg [] w0 w1 := ⟨hB1.out.2.1.os, hB1.out.2.1.tape, hB1.out.2.1.output, hB1.out.2.1.size, fun k hk _ => hB1.out.2.1.block k (by rw [← hgb]; exact hk)⟩
  have H1 : Hd (RdS telK base w1 g vl vc vq L c S C k p fl (W :: ws) (x :: xs) ∧ w1.heap[gx]? = some (.cells an0 43) ∧ w1.heap[gb]? = some (.cells W.cells.toArray 43) ∧ Chg [g] w w1 ∧ Que w1 base (telK).e (telK).m vq' ws) := ⟨H0.out.1.new hb1, by rw [hb1.block gx (by rw [hgb]; exact HGB.out.1) (by simp)]; exact H0.out.2.1, hB1.out.1, H0.out.2.2.1.trans (hb1.mono (by simp)), HP.out.2.1.chg hb1 (by simp)⟩
  clear hB1 hb1 hgb d8 z8
  have d8 : w1.cell? ⟨g, 9, none⟩ = some (.slice (some ⟨gq, oq, none⟩) lw cq) := by have := H1.out.1.at_ 9 (v := vq) rfl; rw [HQ.out.1] at this; rw [this]; congr 2; exact HLW.out
  have z8 := H1.out.1.z 9
  have hpr : ∀ U, (Instr.slice 56 (.slice (some ⟨gq, oq, none⟩) lw cq) (some (.int .i64 1)) none none).run Try.prog U = .ok vq' U := fun U => Que_pop_any HP.out.1 elAn U hlwn
  obtain ⟨Aq, cq', hvq', _⟩ := H1.out.2.2.2.2.form
  rw [hvq'] at hpr
  go_upto_region 5 with fail
  obtain ⟨w2, hw2⟩ : ∃ U, w1.setCell ⟨g, 9, none⟩ (.slice Aq ws.length cq') = U := ⟨_, rfl⟩
  rw [hw2]
  have H2 : Hd (RdS telK base w2 g vl vc vq' L c S C k p fl ws xs ∧ w2.heap[gx]? = some (.cells an0 43) ∧ w2.heap[gb]? = some (.cells W.cells.toArray 43) ∧ Chg [g] w w2) := ⟨by rw [← hw2, ← hvq']; exact H1.out.1.pop H1.out.2.2.2.2 HP.out.2.2, by rw [← hw2, Below.heap_setCell _ _ _ _ (by show gx ≠ g; have := H0.out.2.2.2.1; have := H0.out.2.2.2.2; omega)]; exact H1.out.2.1, by rw [← hw2, Below.heap_setCell _ _ _ _ (by show gb ≠ g; have := HGB.out.2; omega)]; exact H1.out.2.2.1, by rw [← hw2]; exact H1.out.2.2.2.1.setCell (by simp) _⟩
  clear hw2 d8 z8 hpr H1
  go_wp2_with (first
    | (refine at_load ?_; refine wpList_load_row rfl 43 (.tmp 4) rfl gb rfl 43 W.cells.toArray (0, 0) _ H2.out.2.2.1 Try.underlying43 rfl (by rw [infoAn15]; simp [HQ.out.2.2.1]; rfl) ?_)
    | (refine at_store (x := .tmp 2) ?_; refine wpList_stored rfl 43 (.tmp 2) (.tmp 30) rfl gx W.cells.toArray rfl rfl 43 an0 H2.out.2.1 (by rw [infoAn15]; simp [HQ.out.2.2.1]; rfl) (by simp [HQ.out.2.2.1]; rfl) (by rw [Array.all_eq_true_iff_forall_mem]; exact fun u hu => HQ.out.2.2.2 u (by simpa using hu)) ?_; intro w6 hB6))
  (try simp only [Exit.inBlock, Exit.then])
  refine bodyPost_ret (results_cell_tmp rfl _ _ gx 43 W.cells.toArray (0, 0) _ rfl hB6.out.1 Try.underlying43 rfl (by rw [infoAn15]; simp [HQ.out.2.2.1]; rfl)) rfl ?_
  have hgx2 : w.heap.size ≤ gx := by have := H0.out.2.2.2.1; omega
  exact ⟨rfl, vq', H2.out.1.keepN (N := w.heap.size) (Chg.of_grown hB6.out.2.1) (by simpa using hgx2) (fun y hy => HX.out.1 y (by unfold rdX rdY at hy ⊢; rw [HP.out.2.2] at hy; exact hy)) HX.out.2, H2.out.2.2.2.newer (Chg.of_grown hB6.out.2.1) (by simp; exact .inr hgx2), HP.out.2.2⟩
end Go.Proofs.Ytbcmjjcbjojakaa
end
section
/- A reader and what was heard of it, in memory. -/
namespace Go.Proofs.Ytbcmjjcbjojakaa
open Go.RowKit
set_option linter.unusedVariables false
/-- Each message has nine bytes of content at least. -/
def Nine {T : Type} (Z : Kd T) : Prop := ∀ c x, (∀ y ∈ c, y < 256) → Z.rd c = some x → 9 ≤ c.length
theorem nine_ask : Nine askK := fun c x hb h => by
  have := (rdRq_form c x hb h).1
  rw [this]; unfold rqC; simp only [List.length_append, fx_len]; omega
theorem nine_tel : Nine telK := fun c x hb h => by
  have := (rdAn_form c x hb h).1
  rw [this, anC_flat]; simp only [List.length_append, fx_len]; omega
theorem go_len20 {T : Type} {Z : Kd T} (hz : Nine Z) : ∀ (m : Mid) (b : List Nat), (∀ y ∈ m.c, y < 256) → (∀ y ∈ b, y < 256) → (go Z.rd m b).ms.length * 20 ≤ b.length + m.c.length := by
  refine go_ind (rd := Z.rd) ?_ ?_ ?_ ?_ ?_
  · intro m b h _ _; rw [go_wait h]; simp
  · intro m b e h _ _; rw [go_bad h]; simp
  · intro m b n h ih h1 h2
    rw [go_more h]
    have h3 := (ckP_ok h).1
    have := ih (fun y hy => (List.mem_append.1 hy).elim (h1 y) (seg_lt h2 7 n y)) (fun y hy => h2 y (List.mem_of_mem_drop hy))
    have e1 : (m.next b n).c.length = m.c.length + n := by unfold Mid.next; simp only [List.length_append]; rw [seg_len (by omega)]
    rw [List.length_drop, e1] at this
    omega
  · intro m b n h hr _ _
    rw [go_none h hr]; simp
  · intro m b n x h hr ih h1 h2
    rw [go_some h hr]
    have h3 := (ckP_ok h).1
    have h4 := ih (by intro y hy; cases hy) (fun y hy => h2 y (List.mem_of_mem_drop hy))
    have h5 := hz _ x (fun y hy => (List.mem_append.1 hy).elim (h1 y) (seg_lt h2 7 n y)) hr
    have e1 : (m.next b n).c.length = m.c.length + n := by unfold Mid.next; simp only [List.length_append]; rw [seg_len (by omega)]
    have e0 : mid0.c.length = 0 := rfl
    have h6 : 9 ≤ m.c.length + n := e1 ▸ h5
    unfold Out.pre
    simp only [List.length_cons]
    rw [List.length_drop, e0] at h4
    omega
structure DrS {T : Type} (Z : Kd T) (base : Nat) (w : World) (g : Nat) (vl vc vq : Value) (L c : List Nat) (S C k p : Nat) (fl : Int) (ws : List Wm) (xs : List T) (vh : Value) (hs : List Wm) (ys : List T) : Prop where
  rd : RdS Z base w g vl vc vq L c S C k p fl ws xs
  qh : Que w base Z.e Z.m vh hs
  hok : ∀ W ∈ hs, W.ok w base
  s1 : ∀ x, vh.ownBlock = some x → x ∉ rdX g vl vc vq
  s2 : ∀ W ∈ hs, W.off (rdX g vl vc vq)
  s3 : ∀ W ∈ hs, W.off vh.ownBlock.toList
  s4 : ∀ W ∈ ws, W.off vh.ownBlock.toList
  his : Alike Z.is hs ys
section
variable {T : Type} {Z : Kd T} {base : Nat} {w w' : World} {g : Nat} {vl vc vq vh vq' : Value} {L c : List Nat} {S C k p : Nat} {fl : Int} {ws hs : List Wm} {xs ys : List T} {W : Wm} {x : T}
theorem DrS.start (h : RdS Z base w g vl vc vq L c S C k p fl ws xs) : DrS Z base w g vl vc vq L c S C k p fl ws xs (.slice none 0 0) [] [] :=
  ⟨h, Que.nil .., by simp, by simp [Value.ownBlock], by simp, by simp, fun V _ r _ y _ hm => by simp [Value.ownBlock] at hm, trivial⟩
theorem DrS.new (h : DrS Z base w g vl vc vq L c S C k p fl ws xs vh hs ys) (b : Chg [] w w') : DrS Z base w' g vl vc vq L c S C k p fl ws xs vh hs ys :=
  ⟨h.rd.new b, h.qh.chg b (by simp), fun V hV => (h.hok V hV).chg b (fun r _ y _ hm => absurd hm List.not_mem_nil), h.s1, h.s2, h.s3, h.s4, h.his⟩
theorem DrS.below (h : DrS Z base w g vl vc vq L c S C k p fl ws xs vh hs ys) (b : Below w.heap.size w w') : DrS Z base w' g vl vc vq L c S C k p fl ws xs vh hs ys := h.new (Chg.of_below b)
/-- Blocks that were made since may be written. -/
theorem DrS.newN (h : DrS Z base w g vl vc vq L c S C k p fl ws xs vh hs ys) {N : Nat} {Y : List Nat} (b : Chg Y w w') (hY : ∀ y ∈ Y, N ≤ y) (hX : ∀ y ∈ rdX g vl vc vq, y < N) (hv : ∀ y, vh.ownBlock = some y → y < N) (hM : ∀ V ∈ ws, ∀ r ∈ V.rows, ∀ y, r.2.1.ownBlock = some y → y < N) (hH : ∀ V ∈ hs, ∀ r ∈ V.rows, ∀ y, r.2.1.ownBlock = some y → y < N) : DrS Z base w' g vl vc vq L c S C k p fl ws xs vh hs ys :=
  ⟨h.rd.keepN b hY hX hM, h.qh.chg b fun y hy hm => by have := hv y hy; have := hY y hm; omega, fun V hV => (h.hok V hV).chg b fun r hr y hy hm => by have := hH V hV r hr y hy; have := hY y hm; omega, h.s1, h.s2, h.s3, h.s4, h.his⟩
/-- All its blocks were there. -/
theorem DrS.lts (h : DrS Z base w g vl vc vq L c S C k p fl ws xs vh hs ys) : (∀ y ∈ rdX g vl vc vq, y < w.heap.size) ∧ (∀ y, vh.ownBlock = some y → y < w.heap.size) ∧ (∀ V ∈ ws, ∀ r ∈ V.rows, ∀ y, r.2.1.ownBlock = some y → y < w.heap.size) ∧ (∀ V ∈ hs, ∀ r ∈ V.rows, ∀ y, r.2.1.ownBlock = some y → y < w.heap.size) :=
  ⟨fun y hy => (h.rd.ltX hy).2, fun y hy => (h.qh.lt hy).2, fun V hV r hr y hy => ((h.rd.ok V hV).lt hr hy).2, fun V hV r hr y hy => ((h.hok V hV).lt hr hy).2⟩
/-- The first message has been handed out, and put behind what was heard. -/
theorem DrS.take (h : DrS Z base w g vl vc vq L c S C k p fl (W :: ws) (x :: xs) vh hs ys) {w1 w2 : World} {vh' : Value} (hr : RdS Z base w1 g vl vc vq' L c S C k p fl ws xs) (hc : Chg [g] w w1) (hb : vq'.ownBlock = vq.ownBlock)
    (hq : Que w2 base Z.e Z.m vh' (hs ++ [W])) (hg : w1.grownBy w2 vh.ownBlock) (hn : vh'.ownBlock = vh.ownBlock ∨ ∃ y, vh'.ownBlock = some y ∧ w.heap.size ≤ y ∧ y ∉ rdX g vl vc vq') : DrS Z base w2 g vl vc vq' L c S C k p fl ws xs vh' (hs ++ [W]) (ys ++ [x]) := by
  have hX : rdX g vl vc vq' = rdX g vl vc vq := by unfold rdX rdY; rw [hb]
  have hg1 : g ∈ rdX g vl vc vq := mem_X.2 (.inr (.inl rfl))
  have c2 : Chg vh.ownBlock.toList w1 w2 := ⟨hg.os, hg.tape, hg.output, hg.size, fun y hy hm => hg.block y hy fun e => hm (by rw [Option.mem_toList]; exact e.symm)⟩
  have o1 : ∀ V, V ∈ hs ∨ V = W → V.ok w1 base := fun V hV => by
    rcases hV with h1 | rfl
    · exact (h.hok V h1).chg hc ((h.s2 V h1).mono fun y hy => by rw [List.mem_singleton.1 hy]; exact hg1)
    · exact (h.rd.ok V (by simp)).chg hc ((h.rd.off V (by simp)).mono fun y hy => by rw [List.mem_singleton.1 hy]; exact hg1)
  have f1 : ∀ V, V ∈ hs ∨ V = W → V.off vh.ownBlock.toList := fun V hV => by
    rcases hV with h1 | rfl
    · exact h.s3 V h1
    · exact h.s4 V (by simp)
  have nw : ∀ y, vh'.ownBlock = some y → vh.ownBlock = some y ∨ (w.heap.size ≤ y ∧ y ∉ rdX g vl vc vq') := fun y hy => by
    rcases hn with e | ⟨z, e, h1, h2⟩
    · exact .inl (by rw [← e]; exact hy)
    · rw [e] at hy; injection hy with hy; subst hy; exact .inr ⟨h1, h2⟩
  have f2 : ∀ V : Wm, V.ok w base → V.off vh.ownBlock.toList → V.off vh'.ownBlock.toList := fun V ho hf => hf.new ho fun y hy => by
    rw [Option.mem_toList] at hy ⊢
    rcases nw y hy with h1 | h1
    · exact .inl h1
    · exact .inr h1.1
  refine ⟨hr.keep c2 (fun y hy hm => h.s1 y (by rwa [Option.mem_toList] at hm) (hX ▸ hy)) (fun V hV => h.s4 V (List.mem_cons_of_mem _ hV)), hq, fun V hV => ?_, fun y hy => ?_, fun V hV => ?_, fun V hV => ?_, fun V hV => f2 V (h.rd.ok V (List.mem_cons_of_mem _ hV)) (h.s4 V (List.mem_cons_of_mem _ hV)), forall2_snoc h.his h.rd.is.1⟩
  · have hV' : V ∈ hs ∨ V = W := (List.mem_append.1 hV).imp id List.mem_singleton.1
    exact (o1 V hV').chg c2 (f1 V hV')
  · rcases nw y hy with h1 | h1
    · rw [hX]; exact h.s1 y h1
    · exact h1.2
  · rw [hX]
    rcases List.mem_append.1 hV with h1 | h1
    · exact h.s2 V h1
    · rw [List.mem_singleton.1 h1]; exact h.rd.off W (by simp)
  · rcases List.mem_append.1 hV with h1 | h1
    · exact f2 V (h.hok V h1) (h.s3 V h1)
    · rw [List.mem_singleton.1 h1]; exact f2 W (h.rd.ok W (by simp)) (h.s4 W (by simp))
/-- A push. -/
theorem DrS.push (h : DrS Z base w g vl vc vq L c S C k p 0 ws xs vh hs ys) {o : Out T} {e : Ending} (hp : PushDone Z base w g vl vc vq o ws xs e w') :
    ∃ (vl' vc' vq' : Value) (L' : List Nat) (m' : Mid) (C' : Nat) (nw : List Wm), e = .returned (.int .i64 o.fl) ∧ DrS Z base w' g vl' vc' vq' L' m'.c m'.s C' m'.k m'.p o.fl (ws ++ nw) (xs ++ o.ms) vh hs ys ∧ (o.fl = 0 → m' = o.mid ∧ L' = o.rest ∧ MidOk m') ∧ (o.fl ≠ 0 → L' = []) ∧ Below base w w' := by
  obtain ⟨vl', vc', vq', L', m', C', nw, he, hr, h1, h2, hc, hf, hw⟩ := hp
  have hbw : Below base w w' := hc.below (Nat.le_trans h.rd.bg (Nat.le_of_lt h.rd.lt)) fun y hy => (h.rd.ltX hy).1
  refine ⟨vl', vc', vq', L', m', C', nw, he, ⟨hr, h.qh.chg hc h.s1, fun V hV => (h.hok V hV).chg hc (h.s2 V hV), fun y hy hm => ?_, fun V hV => (h.s2 V hV).new (h.hok V hV) hf, h.s3, fun V hV => ?_, h.his⟩, h1, h2, hbw⟩
  · rcases hf y hm with h3 | h3
    · exact h.s1 y hy h3
    · have := (h.qh.lt hy).2; omega
  · rcases List.mem_append.1 hV with h3 | h3
    · exact h.s4 V h3
    · exact (hw V h3).off_old fun y hy => by rw [Option.mem_toList] at hy; exact (h.qh.lt hy).2
theorem DrS.keepY (h : DrS Z base w g vl vc vq L c S C k p fl ws xs vh hs ys) {Y : List Nat} (b : Chg Y w w') (hX : ∀ y ∈ rdX g vl vc vq, y ∉ Y) (hv : ∀ y, vh.ownBlock = some y → y ∉ Y) (hM : ∀ V ∈ ws, V.off Y) (hH : ∀ V ∈ hs, V.off Y) : DrS Z base w' g vl vc vq L c S C k p fl ws xs vh hs ys :=
  ⟨h.rd.keep b hX hM, h.qh.chg b hv, fun V hV => (h.hok V hV).chg b (hH V hV), h.s1, h.s2, h.s3, h.s4, h.his⟩
end
theorem wpList_qpush {P : Program} {ops : Array Oper} {rest : List Oper} {o1 o2 : Oper} {a : Act} {w : World} {Q : Exit → Act → World → Prop} {t e size bytes base : Nat} (E : ElN P t e size bytes) (hg1 : o1.guard = none) (hg2 : o2.guard = none) (s x : Operand) (d : Nat) (hd : o1.dst = some d) (ho1 : o1.op = .buildSlice t 1 #[(0, x)])
    (ho2 : o2.op = .call { callee := .builtin .append, args := #[s, .tmp d], argTypes := #[t, t] }) (v : Value) (ws : List Wm) (W : Wm) (hx : a.eval x = .agg W.cells.toArray) (hW : W.cells.length = size ∧ ∀ u ∈ W.cells, u.oneCell' = true)
    (hs : (a.put (some d) (.slice (some ⟨w.heap.size, 0, none⟩) 1 1)).eval s = v) (hdv : (a.put (some d) (.slice (some ⟨w.heap.size, 0, none⟩) 1 1)).eval (.tmp d) = .slice (some ⟨w.heap.size, 0, none⟩) 1 1)
    (hq : Que w base e size v ws) (h63 : ws.length + 1 ≤ 1000000000000) (hby : (ws.length + 1) * bytes ≤ 140737488355328) (hbase : base ≤ w.heap.size)
    (h : ∀ v' w', Que w' base e size v' (ws ++ [W]) → w.grownBy w' v.ownBlock → (v'.ownBlock = v.ownBlock ∨ v'.ownBlock = some (w.heap.size + 1)) → wpList P ops Q rest ((a.put (some d) (.slice (some ⟨w.heap.size, 0, none⟩) 1 1)).put o2.dst v') w') :
    wpList P ops Q (o1 :: o2 :: rest) a w := by
  refine wpList_plain hg1 fun K hK => ?_
  have hb1 := run_build1N (w := w) E W.cells.toArray (by simpa using hW.1)
  unfold Oper.wp execOp
  simp only [ho1, List.map_toArray, List.map_cons, List.map_nil, hx, Sem.run_bind, Sem.run_pure, Result.andThen_ok, hb1, Oper.upon, hd]
  refine hK _ _ ?_
  refine wpList_plain hg2 fun K2 hK2 => ?_
  have hq1 : Que (w.alloc (.cells W.cells.toArray e)) base e size v ws := hq.chg ((Chg.refl [] w).alloc _) (by simp)
  obtain ⟨v', w', hrun, h2, h3, h4⟩ := hq1.push (P := P) (ty := o2.type) E hW ⟨w.heap.size, 0, none⟩ 1 (fun j u hj => by
    rw [show (⟨w.heap.size, 0, none⟩ : Addr).add j = ⟨w.heap.size, j, none⟩ by unfold Addr.add; split <;> simp_all, cell_of_row _ _ _ _ _ (0, 0) (heap_alloc_new w _)]
    simpa using hj) h63 hby (by simp; omega)
  unfold Oper.wp execOp
  simp only [ho2, resolve, invoke, builtin, Sem.run_bind, Sem.run_pure, Result.andThen_ok, List.map_toArray, List.map_cons, List.map_nil, hs, hdv, hrun]
  refine hK2 _ _ (h v' w' h2 ((World.grownBy_alloc w _ v.ownBlock).trans h3) (h4.imp id fun e => ?_))
  rw [e]; simp
theorem qpush_at0 {P : Program} {ops : Array Oper} {rest : List Oper} {o : Oper} {a : Act} {w0 : World} {Q : Exit → Act → World → Prop} {t e size bytes base : Nat} (E : ElN P t e size bytes) (hgd : o.guard = none) (s x : Operand)
    (ho : o.op = .call { callee := .builtin .append, args := #[s, x], argTypes := #[t, t] }) (v : Value) (ws : List Wm) (W : Wm) (hs : a.eval s = v) (N : Nat) (hN : w0.heap.size = N) (hx : a.eval x = .slice (some ⟨N, 0, none⟩) 1 1) (hW : W.cells.length = size ∧ ∀ u ∈ W.cells, u.oneCell' = true)
    (hq : Que w0 base e size v ws) (h63 : ws.length + 1 ≤ 1000000000000) (hby : (ws.length + 1) * bytes ≤ 140737488355328) (hbase : base ≤ w0.heap.size)
    (h : ∀ v' w', Que w' base e size v' (ws ++ [W]) → w0.grownBy w' v.ownBlock → (v'.ownBlock = v.ownBlock ∨ v'.ownBlock = some (w0.heap.size + 1)) → wpList P ops Q rest (a.put o.dst v') w') :
    wpList P ops Q (o :: rest) a (w0.alloc (.cells W.cells.toArray e)) := by
  subst hN
  refine wpList_plain hgd fun K2 hK2 => ?_
  have hq1 : Que (w0.alloc (.cells W.cells.toArray e)) base e size v ws := hq.chg ((Chg.refl [] w0).alloc _) (by simp)
  obtain ⟨v', w', hrun, h2, h3, h4⟩ := hq1.push (P := P) (ty := o.type) E hW ⟨w0.heap.size, 0, none⟩ 1 (fun j u hj => by
    rw [show (⟨w0.heap.size, 0, none⟩ : Addr).add j = ⟨w0.heap.size, j, none⟩ by unfold Addr.add; split <;> simp_all, cell_of_row _ _ _ _ _ (0, 0) (heap_alloc_new w0 _)]
    simpa using hj) h63 hby (by simp; omega)
  unfold Oper.wp execOp
  simp only [ho, resolve, invoke, builtin, Sem.run_bind, Sem.run_pure, Result.andThen_ok, List.map_toArray, List.map_cons, List.map_nil, hs, hx, hrun]
  refine hK2 _ _ (h v' w' h2 ((World.grownBy_alloc w0 _ v.ownBlock).trans h3) (h4.imp id fun e => ?_))
  rw [e]; simp
end Go.Proofs.Ytbcmjjcbjojakaa
end
section
/- Contract of drain. (tools/draingen.py prints it.) -/
namespace Go.Proofs.Ytbcmjjcbjojakaa
open Go.RowKit
set_option linter.unusedVariables false
set_option linter.unusedSimpArgs false
theorem infoHd : (Try.prog.info? 75).map (·.size) = some 4 := by kernel_rfl
/-- The cells of what was heard. -/
def hdC (ans : Bool) (vh : Value) (fl held : Int) : Array Value := #[(if ans then .slice none 0 0 else vh), (if ans then vh else .slice none 0 0), .int .i64 fl, .int .i64 held]
/-- What drain answers. -/
def DrainDone {T : Type} (Z : Kd T) (base : Nat) (w : World) (o0 : List Nat) (g : Nat) (vl vc vq : Value) (L c : List Nat) (S C k p : Nat) (fl : Int) (ws : List Wm) (xs : List T) (hs : List Wm) (ys : List T) (e : Ending) (w' : World) : Prop :=
  ∃ (vq' vh' : Value), e = .returned (.agg (hdC Z.ans vh' fl ((if fl = 0 then p + L.length else 0 : Nat) : Int))) ∧ DrS Z base w' g vl vc vq' L c S C k p fl [] [] vh' (hs ++ ws) (ys ++ xs) ∧ Chg (g :: o0) w w' ∧ vq'.ownBlock = vq.ownBlock ∧ (∀ y, vh'.ownBlock = some y → y ∈ o0 ∨ w.heap.size ≤ y)
theorem hd_one {ans : Bool} {vh : Value} {fl held : Int} (h : vh.oneCell' = true) : (hdC ans vh fl held).all (·.oneCell') = true := by
  rw [Array.all_eq_true_iff_forall_mem]
  intro u hu
  unfold hdC at hu
  cases ans <;> simp at hu <;> rcases hu with rfl | rfl | rfl | rfl <;> first | exact h | rfl
theorem Que.one {w : World} {base e size : Nat} {v : Value} {ws : List Wm} (h : Que w base e size v ws) : v.oneCell' = true := by
  obtain ⟨A, c, rfl, _⟩ := h.form; rfl
/-- Where drain stands. -/
structure DnS {T : Type} (Z : Kd T) (base : Nat) (w W : World) (o0 : List Nat) (q0 : Value) (g6 g8 : Nat) (g : Nat) (vl vc vq : Value) (L c : List Nat) (S C k p : Nat) (fl : Int) (ws : List Wm) (xs : List T) (vh : Value) (hs : List Wm) (ys : List T) (fx hx : Int) : Prop where
  dr : DrS Z base W g vl vc vq L c S C k p fl ws xs vh hs ys
  b6 : W.heap[g6]? = some (.cells (hdC Z.ans vh fx hx) 75)
  b8 : W.heap[g8]? = some (.cells #[.slice none 0 0, .slice none 0 0, .int .i64 0, .int .i64 0] 75)
  ch : Chg (g :: o0) w W
  hv : ∀ y, vh.ownBlock = some y → y ∈ o0 ∨ g8 < y
  h0 : ∀ y ∈ o0, base ≤ y ∧ y < w.heap.size
  hq : vq.ownBlock = q0.ownBlock
  hX : ∀ y ∈ rdX g vl vc vq, y < w.heap.size
  hM : ∀ V ∈ ws, ∀ r ∈ V.rows, ∀ y, r.2.1.ownBlock = some y → y < w.heap.size
  hH : ∀ V ∈ hs, ∀ r ∈ V.rows, ∀ y, r.2.1.ownBlock = some y → y < w.heap.size
  l6 : w.heap.size ≤ g6
  l8 : g6 < g8
theorem drop_next {α : Type} {l r : List α} {i : Nat} {x : α} (h : l.drop i = x :: r) : l.drop (i + 1) = r := by rw [← List.drop_drop, h]; rfl
theorem take_next {α : Type} {l r : List α} {i : Nat} {x : α} (h : l.drop i = x :: r) : l.take (i + 1) = l.take i ++ [x] := by rw [List.take_add, h]; rfl
section
variable {T : Type} {Z : Kd T} {base : Nat} {w W W' : World} {o0 : List Nat} {q0 : Value} {g6 g8 g : Nat} {vl vc vq vh vq' : Value} {L c : List Nat} {S C k p : Nat} {fl : Int} {ws hs : List Wm} {xs ys : List T} {fx hx : Int} {V0 : Wm} {x0 : T}
theorem DnS.lt (h : DnS Z base w W o0 q0 g6 g8 g vl vc vq L c S C k p fl ws xs vh hs ys fx hx) : g8 < W.heap.size := (Array.getElem?_eq_some_iff.1 h.b8).1
theorem DnS.gl (h : DnS Z base w W o0 q0 g6 g8 g vl vc vq L c S C k p fl ws xs vh hs ys fx hx) : g < w.heap.size := h.hX g (mem_X.2 (.inr (.inl rfl)))
theorem DnS.be (h : DnS Z base w W o0 q0 g6 g8 g vl vc vq L c S C k p fl ws xs vh hs ys fx hx) : Below base w W :=
  h.ch.below (Nat.le_trans h.dr.rd.bg (Nat.le_of_lt h.gl)) fun y hy => by
    rcases List.mem_cons.1 hy with e | e
    · rw [e]; exact h.dr.rd.bg
    · exact (h.h0 y e).1
theorem DnS.hvo (h : DnS Z base w W o0 q0 g6 g8 g vl vc vq L c S C k p fl ws xs vh hs ys fx hx) : ∀ y, vh.ownBlock = some y → y < w.heap.size ∨ g8 < y := fun y hy => (h.hv y hy).imp (fun e => (h.h0 y e).2) id
theorem DnS.below (h : DnS Z base w W o0 q0 g6 g8 g vl vc vq L c S C k p fl ws xs vh hs ys fx hx) (b : Below W.heap.size W W') : DnS Z base w W' o0 q0 g6 g8 g vl vc vq L c S C k p fl ws xs vh hs ys fx hx :=
  ⟨h.dr.below b, by rw [b.block g6 (by have := h.lt; have := h.l8; omega)]; exact h.b6, by rw [b.block g8 h.lt]; exact h.b8, h.ch.newer (Chg.of_below (L := []) b) (by simp), h.hv, h.h0, h.hq, h.hX, h.hM, h.hH, h.l6, h.l8⟩
/-- A box that was made since is written. -/
theorem DnS.box (h : DnS Z base w W o0 q0 g6 g8 g vl vc vq L c S C k p fl ws xs vh hs ys fx hx) {n : Nat} {z cells : Array Value} {t : Nat} {W2 : World} (hn : W.heap.size = n) (b : W2.heap[n]? = some (.cells cells t (0, 0)) ∧ Below n W W2 ∧ W2.heap.size = n + 1) : DnS Z base w W2 o0 q0 g6 g8 g vl vc vq L c S C k p fl ws xs vh hs ys fx hx :=
  h.below (by rw [hn]; exact b.2.1)
/-- The box of what was heard is written: a number. -/
theorem DnS.num (h : DnS Z base w W o0 q0 g6 g8 g vl vc vq L c S C k p fl ws xs vh hs ys fx hx) (i : Nat) (u : Value) {fx' hx' : Int} (hc : (hdC Z.ans vh fx hx).setIfInBounds i u = hdC Z.ans vh fx' hx') : DnS Z base w (W.setCell ⟨g6, i, none⟩ u) o0 q0 g6 g8 g vl vc vq L c S C k p fl ws xs vh hs ys fx' hx' := by
  have b : Chg [g6] W (W.setCell ⟨g6, i, none⟩ u) := (Chg.refl _ _).setCell (by simp) _
  have h6 := h.l6
  refine ⟨h.dr.keepY b (fun y hy hm => by have := h.hX y hy; rw [List.mem_singleton.1 hm] at *; omega) (fun y hy hm => by have := h.hvo y hy; have := h.l8; rw [List.mem_singleton.1 hm] at *; omega) (fun V hV r hr y hy hm => by have := h.hM V hV r hr y hy; rw [List.mem_singleton.1 hm] at *; omega) (fun V hV r hr y hy hm => by have := h.hH V hV r hr y hy; rw [List.mem_singleton.1 hm] at *; omega),
    by rw [heap_set W g6 i u _ _ h.b6, hc], by rw [Below.heap_setCell _ _ _ _ (by show g8 ≠ g6; have := h.l8; omega)]; exact h.b8, h.ch.newer b (fun y hy => .inr (by rw [List.mem_singleton.1 hy]; exact h6)), h.hv, h.h0, h.hq, h.hX, h.hM, h.hH, h.l6, h.l8⟩
/-- The first message is taken. -/
theorem DnS.take (h : DnS Z base w W o0 q0 g6 g8 g vl vc vq L c S C k p fl (V0 :: ws) (x0 :: xs) vh hs ys fx hx) {W1 W2 : World} {vh' : Value} {n : Nat} (hr : RdS Z base W1 g vl vc vq' L c S C k p fl ws xs) (hc : Chg [g] W W1) (hb : vq'.ownBlock = vq.ownBlock)
    (hq : Que W2 base Z.e Z.m vh' (hs ++ [V0])) (hg : W1.grownBy W2 vh.ownBlock) (hn : vh'.ownBlock = vh.ownBlock ∨ vh'.ownBlock = some n) (hn2 : W.heap.size ≤ n) :
    DnS Z base w (W2.setCell ⟨g6, (if Z.ans then 1 else 0), none⟩ vh') o0 q0 g6 g8 g vl vc vq' L c S C k p fl ws xs vh' (hs ++ [V0]) (ys ++ [x0]) fx hx := by
  have hX' : rdX g vl vc vq' = rdX g vl vc vq := by unfold rdX rdY; rw [hb]
  have hsz := h.be.size
  have hlt := h.lt
  have h6 := h.l6
  have h8 := h.l8
  have hgl := h.gl
  have hd := h.dr.take hr hc hb hq hg (hn.imp id fun e => ⟨n, e, hn2, fun hm => by have := h.hX n (hX' ▸ hm); omega⟩)
  have b : Chg [g6] W2 (W2.setCell ⟨g6, (if Z.ans then 1 else 0), none⟩ vh') := (Chg.refl _ _).setCell (by simp) _
  have hv1 : ∀ y, vh'.ownBlock = some y → y ∈ o0 ∨ g8 < y := fun y hy => by
    rcases hn with e | e
    · exact h.hv y (by rw [← e]; exact hy)
    · rw [e] at hy; injection hy; omega
  have hv' : ∀ y, vh'.ownBlock = some y → y < w.heap.size ∨ g8 < y := fun y hy => (hv1 y hy).imp (fun e => (h.h0 y e).2) id
  have hH' : ∀ V ∈ hs ++ [V0], ∀ r ∈ V.rows, ∀ y, r.2.1.ownBlock = some y → y < w.heap.size := fun V hV => by
    rcases List.mem_append.1 hV with h1 | h1
    · exact h.hH V h1
    · rw [List.mem_singleton.1 h1]; exact h.hM V0 (by simp)
  have hM' : ∀ V ∈ ws, ∀ r ∈ V.rows, ∀ y, r.2.1.ownBlock = some y → y < w.heap.size := fun V hV => h.hM V (List.mem_cons_of_mem _ hV)
  have hne6 : vh.ownBlock ≠ some g6 := fun e => by have := h.hvo g6 e; omega
  have hne8 : vh.ownBlock ≠ some g8 := fun e => by have := h.hvo g8 e; omega
  have k6 : W2.heap[g6]? = W.heap[g6]? := (hg.block g6 (by have := hc.size; omega) (fun e => hne6 e.symm)).trans (hc.block g6 (by omega) (by simp; omega))
  have k8 : W2.heap[g8]? = W.heap[g8]? := (hg.block g8 (by have := hc.size; omega) (fun e => hne8 e.symm)).trans (hc.block g8 (by omega) (by simp; omega))
  have hbg := h.dr.rd.bg
  have cg : Chg vh.ownBlock.toList W1 W2 := ⟨hg.os, hg.tape, hg.output, hg.size, fun y hy hm => hg.block y hy fun e => hm (by rw [Option.mem_toList]; exact e.symm)⟩
  have hch : Chg (g :: o0) w W2 := (h.ch.newer hc fun y hy => .inl (by rw [List.mem_singleton.1 hy]; simp)).newer cg fun y hy => (h.hv y (by rwa [Option.mem_toList] at hy)).elim (fun e => .inl (List.mem_cons_of_mem _ e)) (fun e => .inr (by omega))
  refine ⟨hd.keepY b (fun y hy hm => by have := h.hX y (hX' ▸ hy); rw [List.mem_singleton.1 hm] at *; omega) (fun y hy hm => by have := hv' y hy; rw [List.mem_singleton.1 hm] at *; omega) (fun V hV r hr y hy hm => by have := hM' V hV r hr y hy; rw [List.mem_singleton.1 hm] at *; omega) (fun V hV r hr y hy hm => by have := hH' V hV r hr y hy; rw [List.mem_singleton.1 hm] at *; omega),
    ?_, by rw [Below.heap_setCell _ _ _ _ (by show g8 ≠ g6; omega), k8]; exact h.b8, hch.newer b (fun y hy => .inr (by rw [List.mem_singleton.1 hy]; exact h6)), hv1, h.h0, hb.trans h.hq, fun y hy => h.hX y (hX' ▸ hy), hM', hH', h.l6, h.l8⟩
  rw [heap_set W2 g6 _ vh' _ _ (k6.trans h.b6)]
  congr 2
  unfold hdC
  cases Z.ans <;> rfl
end
set_option maxRecDepth 20000 in
set_option maxHeartbeats 8000000 in
theorem drain_ask (base : Nat) (w : World) (g : Nat) (vl vc vq : Value) (L c : List Nat) (S C k p : Nat) (fl : Int) (ws : List Wm) (xs : List Rq) (vh : Value) (hs : List Wm) (ys : List Rq) (h : DrS askK base w g vl vc vq L c S C k p fl ws xs vh hs ys) (o0 : List Nat) (ho0 : vh.ownBlock.toList = o0) (f0 h0 : Int) (most : Nat) (hm : ws.length ≤ most + 1) (hm2 : most ≤ 274877906944) (hh : hs.length ≤ 137438953472) (hp : Hd (fl = 0 → p ≤ 1099511627776)) (hl : L.length ≤ 1099511627776) :
    Calls Try.prog 75 #[.pointer (some ⟨g, 0, none⟩), .bool false, .agg #[vh, .slice none 0 0, .int .i64 f0, .int .i64 h0], .int .i64 (most : Int)] w (DrainDone askK base w o0 g vl vc vq L c S C k p fl ws xs hs ys) := by
  have hone := h.qh.one
  obtain ⟨Av, cv, hvv, _⟩ := h.qh.form
  obtain ⟨g6, hg6⟩ : ∃ n, w.heap.size = n := ⟨_, rfl⟩
  obtain ⟨g8, hg8⟩ : ∃ n, g6 + 1 = n := ⟨_, rfl⟩
  obtain ⟨w0, hw0⟩ : ∃ U, (w.alloc (.cells #[vh, .slice none 0 0, .int .i64 f0, .int .i64 h0] 75)).alloc (.cells #[.slice none 0 0, .slice none 0 0, .int .i64 0, .int .i64 0] 75) = U := ⟨_, rfl⟩
  have hbel : Below w.heap.size w w0 := by rw [← hw0]; exact ((Below.refl _ w).alloc (Nat.le_refl _) _).alloc (by simp) _
  have H0 : Hd (DnS askK base w w0 o0 vq g6 g8 g vl vc vq L c S C k p fl ws xs vh hs ys f0 h0) := ⟨⟨h.below hbel, by rw [← hw0, Below.heap_alloc _ _ _ (by simp; omega), ← hg6]; exact heap_alloc_new _ _, by rw [← hw0, ← hg8, ← hg6]; have := heap_alloc_new (w.alloc (.cells #[vh, .slice none 0 0, .int .i64 f0, .int .i64 h0] 75)) (.cells #[.slice none 0 0, .slice none 0 0, .int .i64 0, .int .i64 0] 75); simpa using this, Chg.of_below hbel, fun y hy => .inl (by rw [← ho0]; exact (Option.mem_toList).2 hy), fun y hy => h.qh.lt (Option.mem_toList.1 (by rw [ho0]; exact hy)), rfl, h.lts.1, h.lts.2.2.1, h.lts.2.2.2, by omega, by omega⟩⟩
  have HB := Hd.mk (And.intro hg6 hg8)
  have HLN : Hd (ws.length = xs.length) := ⟨h.rd.is.len⟩
  have HWS : Hd (∀ V ∈ ws, V.cells.length = 8 ∧ ∀ u ∈ V.cells, u.oneCell' = true) := ⟨h.rd.qu.1⟩
  obtain ⟨lw, hlw⟩ : ∃ l, ws.length = l := ⟨_, rfl⟩
  have HLW := Hd.mk hlw
  rw [hlw] at hm
  clear h hbel hg6 hg8 hone hlw ho0
  subst hvv
  go_enter Try.func75, Try.ntmps75
  go_upto_region 1 with fail
  try rw [hw0]
  try rw [HB.out.1]
  try rw [HB.out.2]
  clear hw0
  go_wp2_with fail
  go_loopw [9] (fun u9 wr => ∃ (i : Nat) (vq1 vh1 : Value), u9 = .int .i64 (i : Int) ∧ i ≤ most + 1 ∧ i ≤ lw ∧ DnS askK base w wr o0 vq g6 g8 g vl vc vq1 L c S C k p fl (ws.drop i) (xs.drop i) vh1 (hs ++ ws.take i) (ys ++ xs.take i) f0 h0) (fun u9 _ => most + 1 - (intOf u9).toNat)
  case atStart => exact ⟨0, vq, _, rfl, by omega, by omega, by simpa using H0.out⟩
  case round =>
    obtain ⟨i, vq1, vh1, rfl, hi1, hi2, hS⟩ := hrel
    have HS := Hd.mk hS
    clear hS H0
    by_cases hlt : i ≤ most
    · have hli : (i : Int) ≤ (most : Int) := by omega
      by_cases hmo : i < lw
      · obtain ⟨V0, rest, hdw⟩ : ∃ V r, ws.drop i = V :: r := ⟨ws[i]'(by have := HLW.out; omega), ws.drop (i + 1), List.drop_eq_getElem_cons (by have := HLW.out; omega)⟩
        obtain ⟨x0, restx, hdx⟩ : ∃ x r, xs.drop i = x :: r := ⟨xs[i]'(by have := HLW.out; have := HLN.out; omega), xs.drop (i + 1), List.drop_eq_getElem_cons (by have := HLW.out; have := HLN.out; omega)⟩
        have HD : Hd (ws.drop (i + 1) = rest ∧ ws.take (i + 1) = ws.take i ++ [V0] ∧ xs.drop (i + 1) = restx ∧ xs.take (i + 1) = xs.take i ++ [x0]) := ⟨drop_next hdw, take_next hdw, drop_next hdx, take_next hdx⟩
        rw [hdw, hdx] at HS
        have HVC := Hd.mk (HWS.out V0 (List.mem_of_mem_drop (by rw [hdw]; simp)))
        clear hdw hdx
        go_upto_region 8 with fail
        go_wp2_with fail
        refine (some_ask base wr g vl vc vq1 L c S C k p fl V0 rest x0 restx HS.out.dr.rd).mono ?_
        rintro e w1 ⟨rfl, vq2, hr1, hc1, hb1⟩
        have HP := Hd.mk (And.intro hr1 (And.intro hc1 hb1))
        clear hr1 hc1 hb1
        go_upto_region 10 with (refine at_store (x := .tmp 12) ?_; refine wpList_boxed rfl 28 (.tmp 12) (.tmp 36) rfl w1.heap.size rfl V0.cells.toArray rfl rfl (by rw [infoRq8]; simp [HVC.out.1]) (by simp [HVC.out.1]) (by rw [Array.all_eq_true_iff_forall_mem]; exact fun u hu => HVC.out.2 u (by simpa using hu)) ?_; intro w2 hB2)
        obtain ⟨gb, hgb⟩ : ∃ n, w1.heap.size = n := ⟨_, rfl⟩
        rw [hgb] at hB2 ⊢
        have hcw : Chg [] w1 w2 := ⟨hB2.out.2.1.os, hB2.out.2.1.tape, hB2.out.2.1.output, hB2.out.2.1.size, fun y hy _ => hB2.out.2.1.block y (by rw [← hgb]; exact hy)⟩
        have H2 : Hd (RdS askK base w2 g vl vc vq2 L c S C k p fl rest restx ∧ Chg [g] wr w2 ∧ vq2.ownBlock = vq1.ownBlock ∧ w2.heap[gb]? = some (.cells V0.cells.toArray 28) ∧ w2.heap[g6]? = some (.cells (hdC false vh1 f0 h0) 75) ∧ Que w2 base (askK).e (askK).m vh1 (hs ++ ws.take i) ∧ base ≤ w2.heap.size) := ⟨HP.out.1.new hcw, HP.out.2.1.trans (hcw.mono (by simp)), HP.out.2.2, hB2.out.1, by rw [hcw.block g6 (by have := HP.out.2.1.size; have := HS.out.lt; have := HS.out.l8; omega) (by simp), HP.out.2.1.block g6 (by have := HS.out.lt; have := HS.out.l8; omega) (by have := HS.out.gl; have := HS.out.l6; simp; omega)]; exact HS.out.b6, (HS.out.dr.qh.chg HP.out.2.1 (fun y hy hm => HS.out.dr.s1 y hy (by rw [List.mem_singleton.1 hm]; exact mem_X.2 (.inr (.inl rfl))))).chg hcw (by simp), by have := HP.out.1.bg; have := HP.out.1.lt; have := hcw.size; omega⟩
        clear hB2 hcw hgb
        obtain ⟨A1, c1, hvh1, _⟩ := H2.out.2.2.2.2.2.1.form
        have c6 : w2.cell? ⟨g6, 0, none⟩ = some (.slice A1 (hs ++ ws.take i).length c1) := by rw [cell_of_row _ g6 0 _ _ (0, 0) H2.out.2.2.2.2.1, ← hvh1]; rfl
        have HV1 := Hd.mk hvh1
        have HNE : Hd (some g6 ≠ vh1.ownBlock) := ⟨fun e => by have := HS.out.hvo g6 e.symm; have := HS.out.l6; have := HS.out.l8; omega⟩
        obtain ⟨lh, hlh⟩ : ∃ l, (hs ++ ws.take i).length = l := ⟨_, rfl⟩
        have hlhb : lh ≤ 412316860416 := by rw [← hlh, List.length_append, List.length_take]; omega
        have HLH := Hd.mk hlh
        rw [hlh] at c6 hvh1
        clear hlh hvh1
        go_wp2_with (refine at_load (x := .tmp 12) ?_; refine wpList_load_row rfl 28 (.tmp 12) rfl gb rfl 28 V0.cells.toArray (0, 0) _ H2.out.2.2.2.1 Try.underlying28 rfl (by rw [infoRq8]; simp [HVC.out.1]) ?_; refine wpList_qpush elRq rfl rfl (.tmp 41) (.tmp 42) 43 rfl rfl rfl vh1 (hs ++ ws.take i) V0 rfl HVC.out (by rw [HV1.out, HLH.out]; rfl) rfl H2.out.2.2.2.2.2.1 (by rw [HLH.out]; omega) (by rw [HLH.out]; omega) H2.out.2.2.2.2.2.2 ?_; intro v' w3 hq3 hg3 hn3; obtain ⟨A3, c3, hv3, _⟩ := hq3.form; obtain ⟨l3, hl3⟩ : ∃ l, (hs ++ ws.take i ++ [V0]).length = l := ⟨_, rfl⟩; rw [hl3] at hv3; clear hl3; subst hv3; have H3 := Hd.mk (And.intro hq3 (And.intro hg3 hn3)); have hbl6 : w3.heap[g6]? = some (.cells (hdC false vh1 f0 h0) 75) := (hg3.block g6 (Array.getElem?_eq_some_iff.1 H2.out.2.2.2.2.1).1 HNE.out).trans H2.out.2.2.2.2.1; have d6 : w3.cell? ⟨g6, 0, none⟩ = some vh1 := (by rw [cell_of_row _ g6 0 _ _ (0, 0) hbl6]; rfl); have z6 : w3.frozen? ⟨g6, 0, none⟩ = false := (by simp [World.frozen?, hbl6]); clear hq3 hg3 hn3 hbl6 c6)
        go_roundw
        case rel =>
          have h4 := HS.out.take H2.out.1 H2.out.2.1 H2.out.2.2.1 H3.out.1 H3.out.2.1 H3.out.2.2 (by have := H2.out.2.1.size; omega)
          have hpk := h4
          rw [← HD.out.1, ← HD.out.2.2.1, List.append_assoc, List.append_assoc, ← HD.out.2.1, ← HD.out.2.2.2] at hpk
          first
            | exact ⟨i + 1, vq2, _, by go_num, by omega, by omega, hpk⟩
            | exact ⟨_, _, ⟨i + 1, vq2, _, by go_num, by omega, by omega, hpk⟩, rfl, rfl⟩
            | exact ⟨_, _, _, _, ⟨i + 1, vq2, _, by go_num, by omega, by omega, hpk⟩, rfl, rfl, rfl, rfl⟩
        case measure => simp [intOf]; omega
      · have hiw : i = lw := by omega
        have hd0 : ws.drop i = [] := List.drop_eq_nil_of_le (by have := HLW.out; omega)
        have hx0 : xs.drop i = [] := List.drop_eq_nil_of_le (by have := HLW.out; have := HLN.out; omega)
        have ht0 : ws.take i = ws := List.take_of_length_le (by have := HLW.out; omega)
        have hy0 : xs.take i = xs := List.take_of_length_le (by have := HLW.out; have := HLN.out; omega)
        rw [hd0, hx0, ht0, hy0] at HS
        clear hd0 hx0 ht0 hy0
        go_upto_region 8 with fail
        go_wp2_with fail
        refine (none_ask base wr g vl vc vq1 L c S C k p fl [] HS.out.dr.rd).mono ?_
        rintro e w1 ⟨rfl, hb1⟩
        have H1 := Hd.mk (HS.out.below hb1)
        clear hb1 HS
        go_upto_region 11 with (refine at_store (x := .tmp 12) ?_; refine wpList_boxed rfl 28 (.tmp 12) (.tmp 36) rfl w1.heap.size rfl rq0 rfl rfl infoRq8 rfl (by simp [rq0, Value.oneCell']) ?_; intro w2 hB2)
        have H2 := Hd.mk (H1.out.box (z := rq0) rfl hB2.out)
        clear hB2 H1
        go_wp2_with fail
        refine (rfault_any askK base w2 g vl vc vq1 L c S C k p fl [] [] H2.out.dr.rd).mono ?_
        rintro e w3 ⟨rfl, hw3⟩
        subst hw3
        have d2 : w2.cell? ⟨g6, 2, none⟩ = some (.int .i64 f0) := by rw [cell_of_row _ g6 2 _ _ (0, 0) H2.out.b6]; rfl
        have z2 : w2.frozen? ⟨g6, 2, none⟩ = false := by simp [World.frozen?, H2.out.b6]
        go_upto_region 12 with fail
        obtain ⟨w3, hw3⟩ : ∃ U, w2.setCell ⟨g6, 2, none⟩ (.int .i64 fl) = U := ⟨_, rfl⟩
        rw [hw3]
        have H3 : Hd (DnS askK base w w3 o0 vq g6 g8 g vl vc vq1 L c S C k p fl [] [] vh1 (hs ++ ws) (ys ++ xs) fl h0) := ⟨by rw [← hw3]; exact H2.out.num 2 _ rfl⟩
        clear hw3 d2 z2 H2
        go_wp2_with fail
        refine (held_any askK base w3 g vl vc vq1 L c S C k p fl [] [] H3.out.dr.rd hp hl).mono ?_
        obtain ⟨hd, hhd⟩ : ∃ n : Nat, (if fl = 0 then p + L.length else 0 : Nat) = n := ⟨_, rfl⟩
        have HHD := Hd.mk hhd
        rw [hhd]
        clear hhd
        rintro e w4 ⟨rfl, hb4⟩
        have H4 := Hd.mk (H3.out.below hb4)
        clear hb4 H3
        have d3 : w4.cell? ⟨g6, 3, none⟩ = some (.int .i64 h0) := by rw [cell_of_row _ g6 3 _ _ (0, 0) H4.out.b6]; rfl
        have z3 : w4.frozen? ⟨g6, 3, none⟩ = false := by simp [World.frozen?, H4.out.b6]
        go_upto_region 13 with fail
        obtain ⟨w5, hw5⟩ : ∃ U, w4.setCell ⟨g6, 3, none⟩ (.int .i64 (hd : Int)) = U := ⟨_, rfl⟩
        rw [hw5]
        have H5 : Hd (DnS askK base w w5 o0 vq g6 g8 g vl vc vq1 L c S C k p fl [] [] vh1 (hs ++ ws) (ys ++ xs) fl (hd : Int)) := ⟨by rw [← hw5]; exact H4.out.num 3 _ rfl⟩
        clear hw5 d3 z3 H4
        have hone := hd_one (ans := false) (fl := fl) (held := (hd : Int)) H5.out.dr.qh.one
        go_wp2_with (first
          | (refine at_load ?_; refine wpList_load_row rfl 75 (.tmp 6) rfl g6 rfl 75 (hdC false vh1 fl (hd : Int)) (0, 0) _ H5.out.b6 Try.underlying75 rfl infoHd ?_)
          | (refine at_store (x := .tmp 8) ?_; refine wpList_stored rfl 75 (.tmp 8) (.tmp 52) rfl g8 (hdC false vh1 fl (hd : Int)) rfl rfl 75 _ H5.out.b8 infoHd rfl hone ?_; intro w6 hB6))
        (try simp only [Exit.inBlock, Exit.then])
        refine bodyPost_ret (results_cell1 rfl _ _ g8 75 (hdC false vh1 fl (hd : Int)) (0, 0) _ rfl hB6.out.1 Try.underlying75 rfl infoHd) rfl ?_
        have c6 := Chg.of_grown hB6.out.2.1
        have l8 := H5.out.l8
        have l6 := H5.out.l6
        refine ⟨vq1, vh1, by rw [HHD.out]; rfl, H5.out.dr.keepY c6 (fun y hy hm => by have := H5.out.hX y hy; rw [List.mem_singleton.1 hm] at *; omega) (fun y hy hm => by have := H5.out.hvo y hy; rw [List.mem_singleton.1 hm] at *; omega) (by simp) (fun V hV r hr y hy hm => by have := H5.out.hH V hV r hr y hy; rw [List.mem_singleton.1 hm] at *; omega), H5.out.ch.newer c6 (fun y hy => .inr (by rw [List.mem_singleton.1 hy]; omega)), H5.out.hq, fun y hy => (H5.out.hv y hy).imp id fun e => by omega⟩
    · have hli : ¬ (i : Int) ≤ (most : Int) := by omega
      have hd0 : ws.drop i = [] := List.drop_eq_nil_of_le (by have := HLW.out; omega)
      have hx0 : xs.drop i = [] := List.drop_eq_nil_of_le (by have := HLW.out; have := HLN.out; omega)
      have ht0 : ws.take i = ws := List.take_of_length_le (by have := HLW.out; omega)
      have hy0 : xs.take i = xs := List.take_of_length_le (by have := HLW.out; have := HLN.out; omega)
      rw [hd0, hx0, ht0, hy0] at HS
      clear hd0 hx0 ht0 hy0
      go_upto_region 11 with fail
      have H2 := HS
      clear HS
      obtain ⟨w2, hw2⟩ : ∃ U : World, U = wr := ⟨_, rfl⟩
      subst hw2
      go_wp2_with fail
      refine (rfault_any askK base w2 g vl vc vq1 L c S C k p fl [] [] H2.out.dr.rd).mono ?_
      rintro e w3 ⟨rfl, hw3⟩
      subst hw3
      have d2 : w2.cell? ⟨g6, 2, none⟩ = some (.int .i64 f0) := by rw [cell_of_row _ g6 2 _ _ (0, 0) H2.out.b6]; rfl
      have z2 : w2.frozen? ⟨g6, 2, none⟩ = false := by simp [World.frozen?, H2.out.b6]
      go_upto_region 12 with fail
      obtain ⟨w3, hw3⟩ : ∃ U, w2.setCell ⟨g6, 2, none⟩ (.int .i64 fl) = U := ⟨_, rfl⟩
      rw [hw3]
      have H3 : Hd (DnS askK base w w3 o0 vq g6 g8 g vl vc vq1 L c S C k p fl [] [] vh1 (hs ++ ws) (ys ++ xs) fl h0) := ⟨by rw [← hw3]; exact H2.out.num 2 _ rfl⟩
      clear hw3 d2 z2 H2
      go_wp2_with fail
      refine (held_any askK base w3 g vl vc vq1 L c S C k p fl [] [] H3.out.dr.rd hp hl).mono ?_
      obtain ⟨hd, hhd⟩ : ∃ n : Nat, (if fl = 0 then p + L.length else 0 : Nat) = n := ⟨_, rfl⟩
      have HHD := Hd.mk hhd
      rw [hhd]
      clear hhd
      rintro e w4 ⟨rfl, hb4⟩
      have H4 := Hd.mk (H3.out.below hb4)
      clear hb4 H3
      have d3 : w4.cell? ⟨g6, 3, none⟩ = some (.int .i64 h0) := by rw [cell_of_row _ g6 3 _ _ (0, 0) H4.out.b6]; rfl
      have z3 : w4.frozen? ⟨g6, 3, none⟩ = false := by simp [World.frozen?, H4.out.b6]
      go_upto_region 13 with fail
      obtain ⟨w5, hw5⟩ : ∃ U, w4.setCell ⟨g6, 3, none⟩ (.int .i64 (hd : Int)) = U := ⟨_, rfl⟩
      rw [hw5]
      have H5 : Hd (DnS askK base w w5 o0 vq g6 g8 g vl vc vq1 L c S C k p fl [] [] vh1 (hs ++ ws) (ys ++ xs) fl (hd : Int)) := ⟨by rw [← hw5]; exact H4.out.num 3 _ rfl⟩
      clear hw5 d3 z3 H4
      have hone := hd_one (ans := false) (fl := fl) (held := (hd : Int)) H5.out.dr.qh.one
      go_wp2_with (first
        | (refine at_load ?_; refine wpList_load_row rfl 75 (.tmp 6) rfl g6 rfl 75 (hdC false vh1 fl (hd : Int)) (0, 0) _ H5.out.b6 Try.underlying75 rfl infoHd ?_)
        | (refine at_store (x := .tmp 8) ?_; refine wpList_stored rfl 75 (.tmp 8) (.tmp 52) rfl g8 (hdC false vh1 fl (hd : Int)) rfl rfl 75 _ H5.out.b8 infoHd rfl hone ?_; intro w6 hB6))
      (try simp only [Exit.inBlock, Exit.then])
      refine bodyPost_ret (results_cell1 rfl _ _ g8 75 (hdC false vh1 fl (hd : Int)) (0, 0) _ rfl hB6.out.1 Try.underlying75 rfl infoHd) rfl ?_
      have c6 := Chg.of_grown hB6.out.2.1
      have l8 := H5.out.l8
      have l6 := H5.out.l6
      refine ⟨vq1, vh1, by rw [HHD.out]; rfl, H5.out.dr.keepY c6 (fun y hy hm => by have := H5.out.hX y hy; rw [List.mem_singleton.1 hm] at *; omega) (fun y hy hm => by have := H5.out.hvo y hy; rw [List.mem_singleton.1 hm] at *; omega) (by simp) (fun V hV r hr y hy hm => by have := H5.out.hH V hV r hr y hy; rw [List.mem_singleton.1 hm] at *; omega), H5.out.ch.newer c6 (fun y hy => .inr (by rw [List.mem_singleton.1 hy]; omega)), H5.out.hq, fun y hy => (H5.out.hv y hy).imp id fun e => by omega⟩
set_option maxRecDepth 20000 in
set_option maxHeartbeats 8000000 in
theorem drain_tel (base : Nat) (w : World) (g : Nat) (vl vc vq : Value) (L c : List Nat) (S C k p : Nat) (fl : Int) (ws : List Wm) (xs : List An) (vh : Value) (hs : List Wm) (ys : List An) (h : DrS telK base w g vl vc vq L c S C k p fl ws xs vh hs ys) (o0 : List Nat) (ho0 : vh.ownBlock.toList = o0) (f0 h0 : Int) (most : Nat) (hm : ws.length ≤ most + 1) (hm2 : most ≤ 274877906944) (hh : hs.length ≤ 137438953472) (hp : Hd (fl = 0 → p ≤ 1099511627776)) (hl : L.length ≤ 1099511627776) :
    Calls Try.prog 75 #[.pointer (some ⟨g, 0, none⟩), .bool true, .agg #[.slice none 0 0, vh, .int .i64 f0, .int .i64 h0], .int .i64 (most : Int)] w (DrainDone telK base w o0 g vl vc vq L c S C k p fl ws xs hs ys) := by
  have hone := h.qh.one
  obtain ⟨Av, cv, hvv, _⟩ := h.qh.form
  obtain ⟨g6, hg6⟩ : ∃ n, w.heap.size = n := ⟨_, rfl⟩
  obtain ⟨g8, hg8⟩ : ∃ n, g6 + 1 = n := ⟨_, rfl⟩
  obtain ⟨w0, hw0⟩ : ∃ U, (w.alloc (.cells #[.slice none 0 0, vh, .int .i64 f0, .int .i64 h0] 75)).alloc (.cells #[.slice none 0 0, .slice none 0 0, .int .i64 0, .int .i64 0] 75) = U := ⟨_, rfl⟩
  have hbel : Below w.heap.size w w0 := by rw [← hw0]; exact ((Below.refl _ w).alloc (Nat.le_refl _) _).alloc (by simp) _
  have H0 : Hd (DnS telK base w w0 o0 vq g6 g8 g vl vc vq L c S C k p fl ws xs vh hs ys f0 h0) := ⟨⟨h.below hbel, by rw [← hw0, Below.heap_alloc _ _ _ (by simp; omega), ← hg6]; exact heap_alloc_new _ _, by rw [← hw0, ← hg8, ← hg6]; have := heap_alloc_new (w.alloc (.cells #[.slice none 0 0, vh, .int .i64 f0, .int .i64 h0] 75)) (.cells #[.slice none 0 0, .slice none 0 0, .int .i64 0, .int .i64 0] 75); simpa using this, Chg.of_below hbel, fun y hy => .inl (by rw [← ho0]; exact (Option.mem_toList).2 hy), fun y hy => h.qh.lt (Option.mem_toList.1 (by rw [ho0]; exact hy)), rfl, h.lts.1, h.lts.2.2.1, h.lts.2.2.2, by omega, by omega⟩⟩
  have HB := Hd.mk (And.intro hg6 hg8)
  have HLN : Hd (ws.length = xs.length) := ⟨h.rd.is.len⟩
  have HWS : Hd (∀ V ∈ ws, V.cells.length = 15 ∧ ∀ u ∈ V.cells, u.oneCell' = true) := ⟨h.rd.qu.1⟩
  obtain ⟨lw, hlw⟩ : ∃ l, ws.length = l := ⟨_, rfl⟩
  have HLW := Hd.mk hlw
  rw [hlw] at hm
  clear h hbel hg6 hg8 hone hlw ho0
  subst hvv
  go_enter Try.func75, Try.ntmps75
  go_upto_region 1 with fail
  try rw [hw0]
  try rw [HB.out.1]
  try rw [HB.out.2]
  clear hw0
  go_wp2_with fail
  go_loopw [9] (fun u9 wr => ∃ (i : Nat) (vq1 vh1 : Value), u9 = .int .i64 (i : Int) ∧ i ≤ most + 1 ∧ i ≤ lw ∧ DnS telK base w wr o0 vq g6 g8 g vl vc vq1 L c S C k p fl (ws.drop i) (xs.drop i) vh1 (hs ++ ws.take i) (ys ++ xs.take i) f0 h0) (fun u9 _ => most + 1 - (intOf u9).toNat)
  case atStart => exact ⟨0, vq, _, rfl, by omega, by omega, by simpa using H0.out⟩
  case round =>
    obtain ⟨i, vq1, vh1, rfl, hi1, hi2, hS⟩ := hrel
    have HS := Hd.mk hS
    clear hS H0
    by_cases hlt : i ≤ most
    · have hli : (i : Int) ≤ (most : Int) := by omega
      by_cases hmo : i < lw
      · obtain ⟨V0, rest, hdw⟩ : ∃ V r, ws.drop i = V :: r := ⟨ws[i]'(by have := HLW.out; omega), ws.drop (i + 1), List.drop_eq_getElem_cons (by have := HLW.out; omega)⟩
        obtain ⟨x0, restx, hdx⟩ : ∃ x r, xs.drop i = x :: r := ⟨xs[i]'(by have := HLW.out; have := HLN.out; omega), xs.drop (i + 1), List.drop_eq_getElem_cons (by have := HLW.out; have := HLN.out; omega)⟩
        have HD : Hd (ws.drop (i + 1) = rest ∧ ws.take (i + 1) = ws.take i ++ [V0] ∧ xs.drop (i + 1) = restx ∧ xs.take (i + 1) = xs.take i ++ [x0]) := ⟨drop_next hdw, take_next hdw, drop_next hdx, take_next hdx⟩
        rw [hdw, hdx] at HS
        have HVC := Hd.mk (HWS.out V0 (List.mem_of_mem_drop (by rw [hdw]; simp)))
        clear hdw hdx
        go_upto_region 5 with fail
        go_wp2_with fail
        refine (some_tel base wr g vl vc vq1 L c S C k p fl V0 rest x0 restx HS.out.dr.rd).mono ?_
        rintro e w1 ⟨rfl, vq2, hr1, hc1, hb1⟩
        have HP := Hd.mk (And.intro hr1 (And.intro hc1 hb1))
        clear hr1 hc1 hb1
        go_upto_region 7 with (refine at_store (x := .tmp 10) ?_; refine wpList_boxed rfl 43 (.tmp 10) (.tmp 23) rfl w1.heap.size rfl V0.cells.toArray rfl rfl (by rw [infoAn15]; simp [HVC.out.1]) (by simp [HVC.out.1]) (by rw [Array.all_eq_true_iff_forall_mem]; exact fun u hu => HVC.out.2 u (by simpa using hu)) ?_; intro w2 hB2)
        obtain ⟨gb, hgb⟩ : ∃ n, w1.heap.size = n := ⟨_, rfl⟩
        rw [hgb] at hB2 ⊢
        have hcw : Chg [] w1 w2 := ⟨hB2.out.2.1.os, hB2.out.2.1.tape, hB2.out.2.1.output, hB2.out.2.1.size, fun y hy _ => hB2.out.2.1.block y (by rw [← hgb]; exact hy)⟩
        have H2 : Hd (RdS telK base w2 g vl vc vq2 L c S C k p fl rest restx ∧ Chg [g] wr w2 ∧ vq2.ownBlock = vq1.ownBlock ∧ w2.heap[gb]? = some (.cells V0.cells.toArray 43) ∧ w2.heap[g6]? = some (.cells (hdC true vh1 f0 h0) 75) ∧ Que w2 base (telK).e (telK).m vh1 (hs ++ ws.take i) ∧ base ≤ w2.heap.size) := ⟨HP.out.1.new hcw, HP.out.2.1.trans (hcw.mono (by simp)), HP.out.2.2, hB2.out.1, by rw [hcw.block g6 (by have := HP.out.2.1.size; have := HS.out.lt; have := HS.out.l8; omega) (by simp), HP.out.2.1.block g6 (by have := HS.out.lt; have := HS.out.l8; omega) (by have := HS.out.gl; have := HS.out.l6; simp; omega)]; exact HS.out.b6, (HS.out.dr.qh.chg HP.out.2.1 (fun y hy hm => HS.out.dr.s1 y hy (by rw [List.mem_singleton.1 hm]; exact mem_X.2 (.inr (.inl rfl))))).chg hcw (by simp), by have := HP.out.1.bg; have := HP.out.1.lt; have := hcw.size; omega⟩
        clear hB2 hcw hgb
        obtain ⟨A1, c1, hvh1, _⟩ := H2.out.2.2.2.2.2.1.form
        have c6 : w2.cell? ⟨g6, 1, none⟩ = some (.slice A1 (hs ++ ws.take i).length c1) := by rw [cell_of_row _ g6 1 _ _ (0, 0) H2.out.2.2.2.2.1, ← hvh1]; rfl
        have HV1 := Hd.mk hvh1
        have HNE : Hd (some g6 ≠ vh1.ownBlock) := ⟨fun e => by have := HS.out.hvo g6 e.symm; have := HS.out.l6; have := HS.out.l8; omega⟩
        obtain ⟨lh, hlh⟩ : ∃ l, (hs ++ ws.take i).length = l := ⟨_, rfl⟩
        have hlhb : lh ≤ 412316860416 := by rw [← hlh, List.length_append, List.length_take]; omega
        have HLH := Hd.mk hlh
        rw [hlh] at c6 hvh1
        clear hlh hvh1
        go_wp2_with (refine at_load (x := .tmp 10) ?_; refine wpList_load_row rfl 43 (.tmp 10) rfl gb rfl 43 V0.cells.toArray (0, 0) _ H2.out.2.2.2.1 Try.underlying43 rfl (by rw [infoAn15]; simp [HVC.out.1]) ?_; refine wpList_qpush elAn rfl rfl (.tmp 28) (.tmp 29) 30 rfl rfl rfl vh1 (hs ++ ws.take i) V0 rfl HVC.out (by rw [HV1.out, HLH.out]; rfl) rfl H2.out.2.2.2.2.2.1 (by rw [HLH.out]; omega) (by rw [HLH.out]; omega) H2.out.2.2.2.2.2.2 ?_; intro v' w3 hq3 hg3 hn3; obtain ⟨A3, c3, hv3, _⟩ := hq3.form; obtain ⟨l3, hl3⟩ : ∃ l, (hs ++ ws.take i ++ [V0]).length = l := ⟨_, rfl⟩; rw [hl3] at hv3; clear hl3; subst hv3; have H3 := Hd.mk (And.intro hq3 (And.intro hg3 hn3)); have hbl6 : w3.heap[g6]? = some (.cells (hdC true vh1 f0 h0) 75) := (hg3.block g6 (Array.getElem?_eq_some_iff.1 H2.out.2.2.2.2.1).1 HNE.out).trans H2.out.2.2.2.2.1; have d6 : w3.cell? ⟨g6, 1, none⟩ = some vh1 := (by rw [cell_of_row _ g6 1 _ _ (0, 0) hbl6]; rfl); have z6 : w3.frozen? ⟨g6, 1, none⟩ = false := (by simp [World.frozen?, hbl6]); clear hq3 hg3 hn3 hbl6 c6)
        go_roundw
        case rel =>
          have h4 := HS.out.take H2.out.1 H2.out.2.1 H2.out.2.2.1 H3.out.1 H3.out.2.1 H3.out.2.2 (by have := H2.out.2.1.size; omega)
          have hpk := h4
          rw [← HD.out.1, ← HD.out.2.2.1, List.append_assoc, List.append_assoc, ← HD.out.2.1, ← HD.out.2.2.2] at hpk
          first
            | exact ⟨i + 1, vq2, _, by go_num, by omega, by omega, hpk⟩
            | exact ⟨_, _, ⟨i + 1, vq2, _, by go_num, by omega, by omega, hpk⟩, rfl, rfl⟩
            | exact ⟨_, _, _, _, ⟨i + 1, vq2, _, by go_num, by omega, by omega, hpk⟩, rfl, rfl, rfl, rfl⟩
        case measure => simp [intOf]; omega
      · have hiw : i = lw := by omega
        have hd0 : ws.drop i = [] := List.drop_eq_nil_of_le (by have := HLW.out; omega)
        have hx0 : xs.drop i = [] := List.drop_eq_nil_of_le (by have := HLW.out; have := HLN.out; omega)
        have ht0 : ws.take i = ws := List.take_of_length_le (by have := HLW.out; omega)
        have hy0 : xs.take i = xs := List.take_of_length_le (by have := HLW.out; have := HLN.out; omega)
        rw [hd0, hx0, ht0, hy0] at HS
        clear hd0 hx0 ht0 hy0
        go_upto_region 5 with fail
        go_wp2_with fail
        refine (none_tel base wr g vl vc vq1 L c S C k p fl [] HS.out.dr.rd).mono ?_
        rintro e w1 ⟨rfl, hb1⟩
        have H1 := Hd.mk (HS.out.below hb1)
        clear hb1 HS
        go_upto_region 11 with (refine at_store (x := .tmp 10) ?_; refine wpList_boxed rfl 43 (.tmp 10) (.tmp 23) rfl w1.heap.size rfl an0 rfl rfl infoAn15 rfl (by simp [an0, Value.oneCell']) ?_; intro w2 hB2)
        have H2 := Hd.mk (H1.out.box (z := an0) rfl hB2.out)
        clear hB2 H1
        go_wp2_with fail
        refine (rfault_any telK base w2 g vl vc vq1 L c S C k p fl [] [] H2.out.dr.rd).mono ?_
        rintro e w3 ⟨rfl, hw3⟩
        subst hw3
        have d2 : w2.cell? ⟨g6, 2, none⟩ = some (.int .i64 f0) := by rw [cell_of_row _ g6 2 _ _ (0, 0) H2.out.b6]; rfl
        have z2 : w2.frozen? ⟨g6, 2, none⟩ = false := by simp [World.frozen?, H2.out.b6]
        go_upto_region 12 with fail
        obtain ⟨w3, hw3⟩ : ∃ U, w2.setCell ⟨g6, 2, none⟩ (.int .i64 fl) = U := ⟨_, rfl⟩
        rw [hw3]
        have H3 : Hd (DnS telK base w w3 o0 vq g6 g8 g vl vc vq1 L c S C k p fl [] [] vh1 (hs ++ ws) (ys ++ xs) fl h0) := ⟨by rw [← hw3]; exact H2.out.num 2 _ rfl⟩
        clear hw3 d2 z2 H2
        go_wp2_with fail
        refine (held_any telK base w3 g vl vc vq1 L c S C k p fl [] [] H3.out.dr.rd hp hl).mono ?_
        obtain ⟨hd, hhd⟩ : ∃ n : Nat, (if fl = 0 then p + L.length else 0 : Nat) = n := ⟨_, rfl⟩
        have HHD := Hd.mk hhd
        rw [hhd]
        clear hhd
        rintro e w4 ⟨rfl, hb4⟩
        have H4 := Hd.mk (H3.out.below hb4)
        clear hb4 H3
        have d3 : w4.cell? ⟨g6, 3, none⟩ = some (.int .i64 h0) := by rw [cell_of_row _ g6 3 _ _ (0, 0) H4.out.b6]; rfl
        have z3 : w4.frozen? ⟨g6, 3, none⟩ = false := by simp [World.frozen?, H4.out.b6]
        go_upto_region 13 with fail
        obtain ⟨w5, hw5⟩ : ∃ U, w4.setCell ⟨g6, 3, none⟩ (.int .i64 (hd : Int)) = U := ⟨_, rfl⟩
        rw [hw5]
        have H5 : Hd (DnS telK base w w5 o0 vq g6 g8 g vl vc vq1 L c S C k p fl [] [] vh1 (hs ++ ws) (ys ++ xs) fl (hd : Int)) := ⟨by rw [← hw5]; exact H4.out.num 3 _ rfl⟩
        clear hw5 d3 z3 H4
        have hone := hd_one (ans := true) (fl := fl) (held := (hd : Int)) H5.out.dr.qh.one
        go_wp2_with (first
          | (refine at_load ?_; refine wpList_load_row rfl 75 (.tmp 6) rfl g6 rfl 75 (hdC true vh1 fl (hd : Int)) (0, 0) _ H5.out.b6 Try.underlying75 rfl infoHd ?_)
          | (refine at_store (x := .tmp 8) ?_; refine wpList_stored rfl 75 (.tmp 8) (.tmp 52) rfl g8 (hdC true vh1 fl (hd : Int)) rfl rfl 75 _ H5.out.b8 infoHd rfl hone ?_; intro w6 hB6))
        (try simp only [Exit.inBlock, Exit.then])
        refine bodyPost_ret (results_cell1 rfl _ _ g8 75 (hdC true vh1 fl (hd : Int)) (0, 0) _ rfl hB6.out.1 Try.underlying75 rfl infoHd) rfl ?_
        have c6 := Chg.of_grown hB6.out.2.1
        have l8 := H5.out.l8
        have l6 := H5.out.l6
        refine ⟨vq1, vh1, by rw [HHD.out]; rfl, H5.out.dr.keepY c6 (fun y hy hm => by have := H5.out.hX y hy; rw [List.mem_singleton.1 hm] at *; omega) (fun y hy hm => by have := H5.out.hvo y hy; rw [List.mem_singleton.1 hm] at *; omega) (by simp) (fun V hV r hr y hy hm => by have := H5.out.hH V hV r hr y hy; rw [List.mem_singleton.1 hm] at *; omega), H5.out.ch.newer c6 (fun y hy => .inr (by rw [List.mem_singleton.1 hy]; omega)), H5.out.hq, fun y hy => (H5.out.hv y hy).imp id fun e => by omega⟩
    · have hli : ¬ (i : Int) ≤ (most : Int) := by omega
      have hd0 : ws.drop i = [] := List.drop_eq_nil_of_le (by have := HLW.out; omega)
      have hx0 : xs.drop i = [] := List.drop_eq_nil_of_le (by have := HLW.out; have := HLN.out; omega)
      have ht0 : ws.take i = ws := List.take_of_length_le (by have := HLW.out; omega)
      have hy0 : xs.take i = xs := List.take_of_length_le (by have := HLW.out; have := HLN.out; omega)
      rw [hd0, hx0, ht0, hy0] at HS
      clear hd0 hx0 ht0 hy0
      go_upto_region 11 with fail
      have H2 := HS
      clear HS
      obtain ⟨w2, hw2⟩ : ∃ U : World, U = wr := ⟨_, rfl⟩
      subst hw2
      go_wp2_with fail
      refine (rfault_any telK base w2 g vl vc vq1 L c S C k p fl [] [] H2.out.dr.rd).mono ?_
      rintro e w3 ⟨rfl, hw3⟩
      subst hw3
      have d2 : w2.cell? ⟨g6, 2, none⟩ = some (.int .i64 f0) := by rw [cell_of_row _ g6 2 _ _ (0, 0) H2.out.b6]; rfl
      have z2 : w2.frozen? ⟨g6, 2, none⟩ = false := by simp [World.frozen?, H2.out.b6]
      go_upto_region 12 with fail
      obtain ⟨w3, hw3⟩ : ∃ U, w2.setCell ⟨g6, 2, none⟩ (.int .i64 fl) = U := ⟨_, rfl⟩
      rw [hw3]
      have H3 : Hd (DnS telK base w w3 o0 vq g6 g8 g vl vc vq1 L c S C k p fl [] [] vh1 (hs ++ ws) (ys ++ xs) fl h0) := ⟨by rw [← hw3]; exact H2.out.num 2 _ rfl⟩
      clear hw3 d2 z2 H2
      go_wp2_with fail
      refine (held_any telK base w3 g vl vc vq1 L c S C k p fl [] [] H3.out.dr.rd hp hl).mono ?_
      obtain ⟨hd, hhd⟩ : ∃ n : Nat, (if fl = 0 then p + L.length else 0 : Nat) = n := ⟨_, rfl⟩
      have HHD := Hd.mk hhd
      rw [hhd]
      clear hhd
      rintro e w4 ⟨rfl, hb4⟩
      have H4 := Hd.mk (H3.out.below hb4)
      clear hb4 H3
      have d3 : w4.cell? ⟨g6, 3, none⟩ = some (.int .i64 h0) := by rw [cell_of_row _ g6 3 _ _ (0, 0) H4.out.b6]; rfl
      have z3 : w4.frozen? ⟨g6, 3, none⟩ = false := by simp [World.frozen?, H4.out.b6]
      go_upto_region 13 with fail
      obtain ⟨w5, hw5⟩ : ∃ U, w4.setCell ⟨g6, 3, none⟩ (.int .i64 (hd : Int)) = U := ⟨_, rfl⟩
      rw [hw5]
      have H5 : Hd (DnS telK base w w5 o0 vq g6 g8 g vl vc vq1 L c S C k p fl [] [] vh1 (hs ++ ws) (ys ++ xs) fl (hd : Int)) := ⟨by rw [← hw5]; exact H4.out.num 3 _ rfl⟩
      clear hw5 d3 z3 H4
      have hone := hd_one (ans := true) (fl := fl) (held := (hd : Int)) H5.out.dr.qh.one
      go_wp2_with (first
        | (refine at_load ?_; refine wpList_load_row rfl 75 (.tmp 6) rfl g6 rfl 75 (hdC true vh1 fl (hd : Int)) (0, 0) _ H5.out.b6 Try.underlying75 rfl infoHd ?_)
        | (refine at_store (x := .tmp 8) ?_; refine wpList_stored rfl 75 (.tmp 8) (.tmp 52) rfl g8 (hdC true vh1 fl (hd : Int)) rfl rfl 75 _ H5.out.b8 infoHd rfl hone ?_; intro w6 hB6))
      (try simp only [Exit.inBlock, Exit.then])
      refine bodyPost_ret (results_cell1 rfl _ _ g8 75 (hdC true vh1 fl (hd : Int)) (0, 0) _ rfl hB6.out.1 Try.underlying75 rfl infoHd) rfl ?_
      have c6 := Chg.of_grown hB6.out.2.1
      have l8 := H5.out.l8
      have l6 := H5.out.l6
      refine ⟨vq1, vh1, by rw [HHD.out]; rfl, H5.out.dr.keepY c6 (fun y hy hm => by have := H5.out.hX y hy; rw [List.mem_singleton.1 hm] at *; omega) (fun y hy hm => by have := H5.out.hvo y hy; rw [List.mem_singleton.1 hm] at *; omega) (by simp) (fun V hV r hr y hy hm => by have := H5.out.hH V hV r hr y hy; rw [List.mem_singleton.1 hm] at *; omega), H5.out.ch.newer c6 (fun y hy => .inr (by rw [List.mem_singleton.1 hy]; omega)), H5.out.hq, fun y hy => (H5.out.hv y hy).imp id fun e => by omega⟩
end Go.Proofs.Ytbcmjjcbjojakaa
end
