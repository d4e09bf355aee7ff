/- CodecMemory: what is put is read by two readers, each answer a row of its own. -/
import Derived.Test.YtjkenhkoakaaoaaMemO7
import Derived.Test.YtjkenhkoakaaoaaRdrY
import Derived.Test.YtjkenhkoakaaoaaOneForm
import Derived.WalkLawsBesides
namespace Go.Proofs.Ytjkenhkoakaaoaa
open Go.RowKit
set_option linter.unusedVariables false
set_option linter.unusedSimpArgs false
set_option maxRecDepth 20000
/-- The longest of texts. -/
def lmax (ts : List ByteArray) : Nat := ts.foldl (fun m t => max m t.size) 0
theorem lmax_snoc (ts : List ByteArray) (t : ByteArray) : lmax (ts ++ [t]) = max (lmax ts) t.size := by unfold lmax; rw [List.foldl_append]; rfl
theorem foldl_max_le (f : ByteArray → Nat) (N : Nat) : ∀ (ts : List ByteArray) (m : Nat), m ≤ N → (∀ t ∈ ts, f t ≤ N) → ts.foldl (fun m t => max m (f t)) m ≤ N
  | [], m, h, _ => h
  | t :: ts, m, h, ht => foldl_max_le f N ts _ (by have := ht t (by simp); show max m (f t) ≤ N; omega) fun x hx => ht x (by simp [hx])
theorem lmax_le (ts : List ByteArray) (N : Nat) (h : ∀ t ∈ ts, t.size ≤ N) : lmax ts ≤ N := foldl_max_le _ N ts 0 (Nat.zero_le _) h
theorem foldl_max_ge (f : ByteArray → Nat) : ∀ (ts : List ByteArray) (m : Nat), m ≤ ts.foldl (fun m t => max m (f t)) m ∧ ∀ t ∈ ts, f t ≤ ts.foldl (fun m t => max m (f t)) m
  | [], m => ⟨Nat.le_refl _, by simp⟩
  | t :: ts, m => by
    obtain ⟨h1, h2⟩ := foldl_max_ge f ts (max m (f t))
    refine ⟨by rw [List.foldl_cons]; omega, fun x hx => ?_⟩
    rw [List.foldl_cons]
    rcases List.mem_cons.1 hx with h | h
    · subst h; omega
    · exact h2 x h
theorem le_lmax (ts : List ByteArray) (t : ByteArray) (h : t ∈ ts) : t.size ≤ lmax ts := (foldl_max_ge _ ts 0).2 t h
set_option maxHeartbeats 1000000 in
theorem longest_any (w : World) (A : Option Addr) (n c B : Nat) (ts : List ByteArray) (hr : Rd w B A n (cs ts)) (hn : n ≤ 4194304) (hs : ∀ t ∈ ts, t.size ≤ 4194304) :
    Calls Try.prog 52 #[.slice A n c] w fun e w' => e = .returned (.int .i64 (lmax ts : Int)) ∧ w = w' := by
  have hl : ts.length = n := by have := hr.1; rwa [cs_len] at this
  have HH : Hd (Rd w B A n (cs ts) ∧ ts.length = n ∧ ∀ t ∈ ts, t.size ≤ 4194304) := ⟨hr, hl, hs⟩
  clear hr hl hs
  go_enter Try.func52, Try.ntmps52
  go_wp2_with fail
  go_loop [3, 4] (fun m i => ∃ k : Nat, k ≤ n ∧ i = .int .i64 k ∧ m = .int .i64 (lmax (ts.take k) : Int)) (fun _ i => n - (intOf i).toNat)
  case atStart => exact ⟨0, Nat.zero_le _, rfl, rfl⟩
  case round =>
    obtain ⟨k, hk, rfl, rfl⟩ := hrel
    have hm1 : ((lmax (ts.take k) : Nat) : Int) ≤ 4194304 := by have := lmax_le (ts.take k) 4194304 fun t ht => HH.out.2.2 t (List.mem_of_mem_take ht); omega
    obtain ⟨M, hM⟩ : ∃ M : Int, ((lmax (ts.take k) : Nat) : Int) = M := ⟨_, rfl⟩
    have HM := Hd.mk hM
    have hm0 : 0 ≤ M := by omega
    rw [hM] at hm1 ⊢
    clear hM
    by_cases hlt : k < n
    · obtain ⟨g, off, u, rfl, hg, hu, hc⟩ := HH.out.1.at_ hlt
      rw [cs_get ts k (by rw [HH.out.2.1]; exact hlt)] at hu
      injection hu with hu
      subst hu
      have hst : (ts.getD k ByteArray.empty).size ≤ 4194304 := HH.out.2.2 _ (by rw [List.getD_eq_getElem?_getD, List.getElem?_eq_getElem (by rw [HH.out.2.1]; exact hlt)]; exact List.getElem_mem _)
      have HT : Hd (ts.take (k + 1) = ts.take k ++ [ts.getD k ByteArray.empty]) := ⟨by rw [List.take_succ_eq_append_getElem (by rw [HH.out.2.1]; exact hlt), List.getD_eq_getElem?_getD, List.getElem?_eq_getElem (by rw [HH.out.2.1]; exact hlt)]; rfl⟩
      obtain ⟨T, hT⟩ : ∃ T, ts.getD k ByteArray.empty = T := ⟨_, rfl⟩
      rw [hT] at hc hst
      have HT2 := Hd.mk hT
      clear hT
      go_wp2_with fail
      all_goals
        go_round
        case rel =>
          refine ⟨k + 1, by omega, by go_num, ?_⟩
          rw [HT.out, HT2.out, lmax_snoc]
          have := HM.out
          first | (congr 1; omega) | (simp; omega)
        case measure => simp [intOf]; omega
    · have hkn : k = n := by omega
      go_wp2_with fail
      go_ret
      refine ⟨ret_int ?_, rfl⟩
      rw [← HM.out, List.take_of_length_le (by rw [HH.out.2.1]; omega)]

theorem tx1_sb7 (s : ByteArray) : tx1 (sb s) = s := by
  apply ByteArray.ext
  apply Array.ext'
  unfold tx1
  rw [strOfNums_data, List.map_map]
  unfold sb
  rw [List.map_map]
  conv => rhs; rw [← List.map_id s.data.toList]
  exact List.map_congr_left fun x _ => by simp
theorem map_tx1_sb7 (X : List ByteArray) : (X.map sb).map tx1 = X := by
  rw [List.map_map]
  conv => rhs; rw [← List.map_id X]
  exact List.map_congr_left fun x _ => tx1_sb7 x
theorem tx_rws7 (X : List ByteArray) : tx X = rws (X.map sb) := by
  unfold tx rws
  rw [List.flatMap_map]
  congr 1
  funext t
  unfold blk
  rw [sb_len]
theorem hB_of {RL : List Row} {I : List Nat} {L : List Slc} {K : Nat} (e : pick RL I = L.map slr) (h : ∀ x ∈ L, x.2.2.2.length ≤ K) : ∀ i ∈ I, ∀ x, RL[i]? = some x → x.2.2.length ≤ K := fun i hi x hx => by
  have hm : x ∈ pick RL I := List.mem_filterMap.2 ⟨i, hi, hx⟩
  rw [e] at hm
  obtain ⟨y, hy, rfl⟩ := List.mem_map.1 hm
  show (cb y.2.2.2).length ≤ K
  rw [cb_length]; exact h y hy
theorem Pu.Ok.kb {w W : World} {p : Pu} (h : p.Ok w) (b : Below w.heap.size w W) : Kp W p.Ab p.nb p.bs := ⟨(h.rb.below b).more b.size, by have := h.rb.1; rwa [cb_length] at this, h.lb⟩
theorem Pu.Ok.kp {w W : World} {p : Pu} (h : p.Ok w) (b : Below w.heap.size w W) : Kp W p.Ap p.np p.ps := ⟨(h.rp.below b).more b.size, by have := h.rp.1; rwa [cb_length] at this, h.lp⟩
theorem Pu.Ok.kt {w W : World} {p : Pu} (h : p.Ok w) (b : Below w.heap.size w W) : Rd W W.heap.size p.At p.k (cs p.ts) := (h.rt.below b).more b.size
theorem tx_lt7 (ts : List ByteArray) (h : ∀ t ∈ ts, t.size < 2 ^ 64) : ∀ x ∈ tx ts, x < 256 := fun x hx => by
  unfold tx at hx
  obtain ⟨t, ht, hm⟩ := List.mem_flatMap.1 hx
  exact (List.mem_append.1 hm).elim (uv_lt t.size (h t ht) x) (sb_lt t x)
/-- The stream of the three Puts, and where its parts stand. -/
structure Cuts (st ps zs : List Nat) (ts : List ByteArray) (np nz k N1 N2 N3 N : Nat) : Prop where
  len : st.length = N
  c1 : st = [] ++ blk ps ++ (uv nz ++ zs ++ (uv k ++ tx ts))
  c2 : st = (uv np ++ ps) ++ blk zs ++ (uv k ++ tx ts)
  c3 : st = (uv np ++ ps) ++ uv nz ++ (zs ++ (uv k ++ tx ts))
  c4 : st = (uv np ++ ps ++ uv nz) ++ zs ++ (uv k ++ tx ts)
  c5 : st = (uv np ++ ps ++ uv nz ++ zs) ++ (uv k ++ tx ts) ++ []
  a1 : N1 = ([] : List Nat).length + (blk ps).length
  b1 : N1 = (uv np ++ ps).length
  a2 : N3 = (uv np ++ ps).length + (blk zs).length
  a3 : N2 = (uv np ++ ps).length + (uv nz).length
  b3 : N2 = (uv np ++ ps ++ uv nz).length
  a4 : N3 = (uv np ++ ps ++ uv nz).length + zs.length
  b4 : N3 = (uv np ++ ps ++ uv nz ++ zs).length
  a5 : N = (uv np ++ ps ++ uv nz ++ zs).length + (uv k ++ tx ts).length
theorem cuts_of (ps zs : List Nat) (ts : List ByteArray) (np nz k : Nat) (h1 : ps.length = np) (h2 : zs.length = nz) : ∃ N1 N2 N3, Cuts ([] ++ uv np ++ ps ++ uv nz ++ zs ++ uv k ++ tx ts) ps zs ts np nz k N1 N2 N3 ((0 + (uv np).length + np + (uv nz).length + nz) + (uv k).length + (tx ts).length) := by
  subst h1 h2
  refine ⟨(uv ps.length ++ ps).length, (uv ps.length ++ ps ++ uv zs.length).length, (uv ps.length ++ ps ++ uv zs.length ++ zs).length, ?_, ?_, ?_, ?_, ?_, ?_, ?_, ?_, ?_, ?_, ?_, ?_, ?_, ?_⟩
  · simp only [List.length_append, List.length_nil]
  · unfold blk; simp only [List.append_assoc, List.nil_append]
  · unfold blk; simp only [List.append_assoc, List.nil_append]
  · simp only [List.append_assoc, List.nil_append]
  · simp only [List.append_assoc, List.nil_append]
  · simp only [List.append_assoc, List.nil_append, List.append_nil]
  · unfold blk; simp only [List.length_append, List.length_nil]; omega
  · rfl
  · unfold blk; simp only [List.length_append]; omega
  · simp only [List.length_append]
  · rfl
  · simp only [List.length_append]
  · rfl
  · simp only [List.length_append]; omega
/-- Two readers of the same bytes: their blocks lie apart, and are of X. -/
structure Two (w0 w : World) (RL : List Row) (X : List Nat) (BL : List (Nat × Array Value × Nat)) (st : List Nat) (N : Nat) (gr : Nat) (XR : List Nat) (cr : Nat) (Ar : Option Addr) (ar : Nat) (gs : Nat) (XS : List Nat) (c2 : Nat) (As : Option Addr) (a2 : Nat) : Prop where
  ms : Ms w0 w RL X BL
  r : RX XR w gr N cr ar Ar 0 st
  s : RX XS w gs N c2 a2 As 0 st
  dj : ∀ x ∈ XR, x ∉ XS
  ir : ∀ x ∈ XR, x ∈ X
  iz : ∀ x ∈ XS, x ∈ X
  nb : ∀ p ∈ BL, p.1 ≠ gr ∧ p.1 ≠ gs
section
variable {w0 w w' : World} {RL NR RL2 : List Row} {X XR XS : List Nat} {BL : List (Nat × Array Value × Nat)} {st : List Nat} {N gr cr ar gs c2 a2 : Nat} {Ar As : Option Addr} {us : List Value} {I : List Nat}
theorem Two.swap (t : Two w0 w RL X BL st N gr XR cr Ar ar gs XS c2 As a2) : Two w0 w RL X BL st N gs XS c2 As a2 gr XR cr Ar ar :=
  ⟨t.ms, t.s, t.r, fun x h1 h2 => t.dj x h2 h1, t.iz, t.ir, fun p hp => ⟨(t.nb p hp).2, (t.nb p hp).1⟩⟩
theorem Two.below (t : Two w0 w RL X BL st N gr XR cr Ar ar gs XS c2 As a2) (b : Below w.heap.size w w') : Two w0 w' RL X BL st N gr XR cr Ar ar gs XS c2 As a2 :=
  ⟨t.ms.below b, t.r.below b, t.s.below b, t.dj, t.ir, t.iz, t.nb⟩
/-- The one reader goes on; a row comes in. -/
theorem Two.rowN (t : Two w0 w RL X BL st N gr XR cr Ar ar gs XS c2 As a2) {ar' e n : Nat} {v : Value} {xs : List Value} (c : Chg [gr] w w') (hr : Rr w' gr Ar N cr ar' 0 st) (hn : xs.length = n) (o : w'.ownsRow w.heap.size e 1 v n xs) : Two w0 w' (RL ++ [(e, v, xs)]) X BL st N gr XR cr Ar ar' gs XS c2 As a2 :=
  ⟨t.ms.call c (fun y hy => by rw [List.mem_singleton.1 hy]; exact t.ir gr t.r.g) (fun p hp hm => (t.nb p hp).1 (List.mem_singleton.1 hm)) hn o, ⟨hr, t.r.g, t.r.a⟩, t.s.keep c (fun y hy => by rw [List.mem_singleton.1 hy]; exact t.dj gr t.r.g), t.dj, t.ir, t.iz, t.nb⟩
theorem Two.go (t : Two w0 w RL X BL st N gr XR cr Ar ar gs XS c2 As a2) {ar' : Nat} (c : Chg [gr] w w') (hr : Rr w' gr Ar N cr ar' 0 st) : Two w0 w' RL X BL st N gr XR cr Ar ar' gs XS c2 As a2 :=
  ⟨by
    have := t.ms.turn (Y := [gr]) (X' := X) (NR := []) c (fun y hy => by rw [List.mem_singleton.1 hy]; exact t.ir gr t.r.g) (fun p hp hm => (t.nb p hp).1 (List.mem_singleton.1 hm)) (fun x hx => ⟨Nat.lt_of_lt_of_le (t.ms.bag.ltX x hx) c.size, .inl hx⟩) (fun p hp => (t.ms.bx p hp).2) (fun r h => absurd h List.not_mem_nil) List.Pairwise.nil (fun r h => absurd h List.not_mem_nil)
    rwa [List.append_nil] at this, ⟨hr, t.r.g, t.r.a⟩, t.s.keep c (fun y hy => by rw [List.mem_singleton.1 hy]; exact t.dj gr t.r.g), t.dj, t.ir, t.iz, t.nb⟩
theorem Two.block {pre p q : List Nat} {n a' : Nat} (t : Two w0 w RL X BL st N gr XR cr Ar ar gs XS c2 As a2) (hn : p.length = n) (hl : n ≤ 4398046511104) (hs : st = pre ++ blk p ++ q) (ha : ar = pre.length) (ha' : a' = pre.length + (blk p).length) :
    Calls Try.prog 48 #[.pointer (some ⟨gr, 0, none⟩), .int .i64 (n : Int)] w fun e w' => ∃ A c, e = .returned (.slice A n c) ∧ Two w0 w' (RL ++ [(5, .slice A n c, cb p)]) X BL st N gr XR cr Ar a' gs XS c2 As a2 := by
  have hf : redo (blkF st ar (n : Int)) [] ar 0 = (p, a', 0) := by
    subst hs ha ha' hn
    have h1 : blkF (pre ++ blk p ++ q) pre.length (p.length : Int) = .ok (p, pre.length + (blk p).length) := by
      unfold blkF
      rw [if_neg (by omega), Int.toNat_natCast]
      exact blockF_put pre q p _ (Nat.le_refl _) (by omega)
    rw [h1]; rfl
  refine (blk_any w gr N cr ar 0 Ar st (n : Int) ⟨by omega, by omega⟩ t.r.rr).mono ?_
  rw [hf]
  rintro e w' ⟨v, rfl, hch, hk, hrr⟩
  obtain ⟨A, c, hv, _⟩ := own_form hk
  subst hv
  subst hn
  exact ⟨A, c, rfl, t.rowN hch hrr (cb_length _) hk⟩
theorem Two.bytes {pre p q : List Nat} {n a' : Nat} (t : Two w0 w RL X BL st N gr XR cr Ar ar gs XS c2 As a2) (hn : p.length = n) (hl : n ≤ 4398046511104) (hs : st = pre ++ p ++ q) (ha : ar = pre.length) (ha' : a' = pre.length + p.length) :
    Calls Try.prog 50 #[.pointer (some ⟨gr, 0, none⟩), .int .i64 (n : Int)] w fun e w' => ∃ A c, e = .returned (.slice A n c) ∧ Two w0 w' (RL ++ [(5, .slice A n c, cb p)]) X BL st N gr XR cr Ar a' gs XS c2 As a2 := by
  have hf : redo (bytesF st ar (n : Int)) [] ar 0 = (p, a', 0) := by
    subst hs ha ha' hn
    have h1 : bytesF (pre ++ p ++ q) pre.length (p.length : Int) = .ok (p, pre.length + p.length) := by
      unfold bytesF
      rw [if_neg (by omega), Int.toNat_natCast]
      exact takeF_put pre p q
    rw [h1]; rfl
  refine (bytes_any w gr N cr ar 0 Ar st (n : Int) ⟨by omega, by omega⟩ t.r.rr).mono ?_
  rw [hf]
  rintro e w' ⟨v, rfl, hch, hk, hrr⟩
  obtain ⟨A, c, hv, _⟩ := own_form hk
  subst hv
  subst hn
  exact ⟨A, c, rfl, t.rowN hch hrr (cb_length _) hk⟩
theorem Two.num {pre q : List Nat} {n a' : Nat} (t : Two w0 w RL X BL st N gr XR cr Ar ar gs XS c2 As a2) (hl : n < 2 ^ 64) (hs : st = pre ++ uv n ++ q) (ha : ar = pre.length) (ha' : a' = pre.length + (uv n).length) :
    Calls Try.prog 49 #[.pointer (some ⟨gr, 0, none⟩)] w fun e w' => e = .returned (.int .u64 (n : Int)) ∧ Two w0 w' RL X BL st N gr XR cr Ar a' gs XS c2 As a2 := by
  have hf : redo (numF st ar) 0 ar 0 = (n, a', 0) := by
    subst hs ha ha'
    rw [numF_put pre q n hl]; rfl
  refine (uvarint_any w gr N cr ar 0 Ar st t.r.rr).mono ?_
  rw [hf]
  rintro e w' ⟨v, rfl, hch, hk, hrr⟩
  unfold KNum at hk
  subst hk
  exact ⟨rfl, t.go hch hrr⟩
theorem Two.texts {pre q : List Nat} {ts : List ByteArray} {n a' : Nat} (t : Two w0 w RL X BL st N gr XR cr Ar ar gs XS c2 As a2) (hn : ts.length = n) (hl : n ≤ 4194304) (hz : ∀ x ∈ ts, x.size ≤ 4194304) (hs : st = pre ++ (uv n ++ tx ts) ++ q) (ha : ar = pre.length) (ha' : a' = pre.length + (uv n ++ tx ts).length) :
    Calls Try.prog 51 #[.pointer (some ⟨gr, 0, none⟩), .int .i64 (n : Int), .int .i64 (lmax ts : Int)] w fun e w' => ∃ A c, e = .returned (.slice A n c) ∧ Two w0 w' (RL ++ [(9, .slice A n c, cs ts)]) X BL st N gr XR cr Ar a' gs XS c2 As a2 := by
  have hm := lmax_le ts 4194304 hz
  have he : uv n ++ tx ts = txts (ts.map sb) := by unfold txts; rw [List.length_map, tx_rws7, hn]
  have hf : redo (textsF st ar (n : Int) (lmax ts : Int)) [] ar 0 = (ts.map sb, a', 0) := by
    rw [he] at hs ha'
    subst hs ha ha' hn
    rw [textsF_put pre q (ts.map sb) (ts.length : Int) (lmax ts : Int) (by simp) (by omega) (by omega) (by
      intro y hy
      obtain ⟨s, hs, rfl⟩ := List.mem_map.1 hy
      rw [sb_len, Int.toNat_natCast]
      exact ⟨le_lmax ts s hs, by have := hz s hs; omega⟩) (by rw [List.length_map]; omega)]
    rfl
  refine (texts_any w gr N cr ar 0 Ar st (n : Int) (lmax ts : Int) ⟨by omega, by omega⟩ ⟨by omega, by omega⟩ t.r.rr).mono ?_
  rw [hf]
  rintro e w' ⟨v, rfl, hch, hk, hrr⟩
  have hk2 : w'.ownsRow w.heap.size 9 1 v n (cs ts) := by
    have hk3 : w'.ownsRow w.heap.size 9 1 v (ts.map sb).length (cs ((ts.map sb).map tx1)) := hk
    rwa [map_tx1_sb7, List.length_map, hn] at hk3
  obtain ⟨A, c, hv, _⟩ := own_form hk2
  subst hv
  exact ⟨A, c, rfl, t.rowN hch hrr (by rw [cs_len]; exact hn) hk2⟩
theorem Two.fin (t : Two w0 w RL X BL st N gr XR cr Ar ar gs XS c2 As a2) (h : ar = N) :
    Calls Try.prog 53 #[.pointer (some ⟨gr, 0, none⟩)] w fun e w' => e = .returned (.int .i64 0) ∧ Two w0 w' RL X BL st N gr XR cr Ar ar gs XS c2 As a2 ∧ Below w.heap.size w w' := by
  refine (end_any w gr N cr ar 0 Ar st t.r.rr).mono ?_
  have he : endF N ar 0 = 0 := by unfold endF; rw [if_neg (by decide), if_pos (by omega)]
  rw [he]
  rintro e w' ⟨rfl, hch⟩
  have b : Below w.heap.size w w' := hch.below (Nat.le_refl _) (fun k hk => absurd hk List.not_mem_nil)
  exact ⟨rfl, t.below b, b⟩
theorem Ms.sel (h : Ms w0 w RL X BL) (J : List Nat) (e2 : pick RL J = RL2) (hJ : J.Nodup) (hs : (J.all fun j => RL[j]?.isSome) = true) : Ms w0 w RL2 X BL := by
  subst e2
  exact h.mark (us := []) (I := []) J (Chg.refl _ w) rfl hJ (fun j _ => List.not_mem_nil) hs
theorem Two.re (t : Two w0 w RL X BL st N gr XR cr Ar ar gs XS c2 As a2) (e : RL = RL2) : Two w0 w RL2 X BL st N gr XR cr Ar ar gs XS c2 As a2 := by rw [← e]; exact t
theorem Two.sel (t : Two w0 w RL X BL st N gr XR cr Ar ar gs XS c2 As a2) (J : List Nat) (e2 : pick RL J = RL2) (hJ : J.Nodup) (hs : (J.all fun j => RL[j]?.isSome) = true) : Two w0 w RL2 X BL st N gr XR cr Ar ar gs XS c2 As a2 :=
  ⟨t.ms.sel J e2 hJ hs, t.r, t.s, t.dj, t.ir, t.iz, t.nb⟩
theorem two_lit (w : World) (l1 l2 : List Slc) (h1 : ∀ x ∈ l1, Kp w x.1 x.2.1 x.2.2.2) (h2 : ∀ x ∈ l2, Kp w x.1 x.2.1 x.2.2.2) :
    Rws ((w.alloc (.cells (l1.map slv).toArray 45)).alloc (.cells (l2.map slv).toArray 45)) (some ⟨w.heap.size, 0, none⟩) l1.length (l1.map fun x => x.2.2.2) ∧
    Rws ((w.alloc (.cells (l1.map slv).toArray 45)).alloc (.cells (l2.map slv).toArray 45)) (some ⟨w.heap.size + 1, 0, none⟩) l2.length (l2.map fun x => x.2.2.2) ∧
    Below w.heap.size w ((w.alloc (.cells (l1.map slv).toArray 45)).alloc (.cells (l2.map slv).toArray 45)) := by
  have b1 : Below w.heap.size w (w.alloc (.cells (l1.map slv).toArray 45)) := (Below.refl _ _).alloc (Nat.le_refl _) _
  have hs : (w.alloc (.cells (l1.map slv).toArray 45)).heap.size = w.heap.size + 1 := by simp
  have r1 := rws_of (w := w) (e := 45) l1 h1
  have r2 := rws_of (w := w.alloc (.cells (l1.map slv).toArray 45)) (e := 45) l2 (fun x hx => (h2 x hx).step b1)
  rw [hs] at r2
  have b2 : Below (w.alloc (.cells (l1.map slv).toArray 45)).heap.size (w.alloc (.cells (l1.map slv).toArray 45)) ((w.alloc (.cells (l1.map slv).toArray 45)).alloc (.cells (l2.map slv).toArray 45)) := (Below.refl _ _).alloc (Nat.le_refl _) _
  exact ⟨r1.step7 b2, r2, b1.trans (b2.mono b1.size)⟩
theorem Two.apart (t : Two w0 w RL X BL st N gr XR cr Ar ar gs XS c2 As a2) (J : List Nat) (e2 : pick RL J = RL2) (hI : I.Nodup) (hus : I.map (fun i => RL[i]?.map (·.2.1)) = us.map some) (he : I.map (fun i => RL[i]?.map (·.1)) = I.map fun _ => some 5) (hl : us.length ≤ 100) (hB : ∀ i ∈ I, ∀ x, RL[i]? = some x → x.2.2.length ≤ 140737488355000)
    (hJ : J.Nodup) (hIJ : ∀ j ∈ J, j ∉ I) (hs : (J.all fun j => RL[j]?.isSome) = true) :
    Calls Try.prog 45 #[.slice (some ⟨w.heap.size, 0, none⟩) us.length us.length] (w.alloc (.cells us.toArray 45)) fun e w' => e = .returned (.bool true) ∧ Two w0 w' RL2 X BL st N gr XR cr Ar ar gs XS c2 As a2 := by
  refine (t.ms.apart7 J e2 hI hus he hl hB hJ hIJ hs).mono ?_
  rintro e w' ⟨rfl, hm, hc, ho⟩
  exact ⟨rfl, hm, t.r.keep hc (fun y hy hx => ho y hy (t.ir y hx)), t.s.keep hc (fun y hy hx => ho y hy (t.iz y hx)), t.dj, t.ir, t.iz, t.nb⟩
/-- A reader is opened, and one more. -/
theorem Ms.opened {A : Option Addr} {n cp : Nat} {bs : List Nat} (h : Ms w0 w RL X BL) (hr : Rd w w.heap.size A n (cb bs)) (hn : n ≤ 4398046511104) (hb : ∀ x ∈ bs, x < 256) :
    Calls Try.prog 37 #[.slice A n cp] w fun e w' => ∃ g A' c' X1, e = .returned (.pointer (some ⟨g, 0, none⟩)) ∧ Below w.heap.size w w' ∧ (∀ x ∈ g :: X1, x < w'.heap.size ∧ w.heap.size ≤ x) ∧ RX (g :: X1) w' g n c' 0 A' 0 bs := by
  refine (open_any w A n cp w.heap.size bs hr (Nat.le_refl _) hn hb).mono ?_
  rintro e w' ⟨gr, Ar, cr, rfl, hch, hrr, hgr, hA⟩
  obtain ⟨X1, hX1, hX1b⟩ := blk_list hA hrr.rd (Nat.le_of_lt hrr.lt)
  refine ⟨gr, Ar, cr, X1, rfl, hch.below (Nat.le_refl _) (fun k hk => absurd hk List.not_mem_nil), fun x hx => ?_, hrr, List.mem_cons_self, fun g off e hn => List.mem_cons_of_mem _ (hX1b g off e hn)⟩
  rcases List.mem_cons.1 hx with e | hx
  · rw [e]; exact ⟨hrr.lt, hgr⟩
  · exact ⟨(hX1 x hx).1, (hX1 x hx).2⟩
theorem Ms.two {w1 w2 : World} {g1 g2 n c1 c2 : Nat} {X1 X2 : List Nat} {A1 A2 : Option Addr} {bs : List Nat} (h : Ms w0 w RL X BL) (b1 : Below w.heap.size w w1) (n1 : ∀ x ∈ X1, x < w1.heap.size ∧ w.heap.size ≤ x) (r1 : RX X1 w1 g1 n c1 0 A1 0 bs) (b2 : Below w1.heap.size w1 w2) (n2 : ∀ x ∈ X2, x < w2.heap.size ∧ w1.heap.size ≤ x) (r2 : RX X2 w2 g2 n c2 0 A2 0 bs) :
    Two w0 w2 RL (X ++ X1 ++ X2) BL bs n g1 X1 c1 A1 0 g2 X2 c2 A2 0 := by
  have h1 := h.more b1 n1
  have h2 := h1.more b2 n2
  refine ⟨h2, r1.below b2, r2, fun x k1 k2 => ?_, fun x hx => List.mem_append_left _ (List.mem_append_right _ hx), fun x hx => List.mem_append_right _ hx, fun p hp => ?_⟩
  · have := (n1 x k1).1; have := (n2 x k2).2; omega
  · have := h.box_lt hp
    have := (n1 g1 r1.g).2
    have := (n2 g2 r2.g).2
    have := b1.size
    exact ⟨by omega, by omega⟩
end
end Go.Proofs.Ytjkenhkoakaaoaa
