/- Things put and read: contracts of put and of back at any thing. -/
import Derived.Test.YtjkenhkoakaaoaaBackD
import Derived.Test.YtjkenhkoakaaoaaBackE
import Derived.Test.YtjkenhkoakaaoaaArgThings
namespace Go.Proofs.Ytjkenhkoakaaoaa
open Go.RowKit
set_option linter.unusedVariables false
def encK (t : Thg) : Nat → List Nat
  | 0 => fx 1 (t.U % 256).toNat
  | 1 => fx 2 (t.U % 65536).toNat
  | 2 => fx 4 (t.U % 4294967296).toNat
  | 3 => fx 8 (t.U % 18446744073709551616).toNat
  | 4 => fx 2 (t.U % 65536).toNat
  | 5 => uv t.U.toNat
  | 6 => uv (zig t.S).toNat
  | 7 => uv t.B.length ++ t.B
  | _ => uv t.X.length ++ tx t.X
def encT (t : Thg) : List Nat := encK t (t.kind % 9).toNat
/-- A thing as it may be. -/
structure Thg.Fine (t : Thg) : Prop where
  k : I64 t.kind
  b : ∀ x ∈ t.B, x < 256
  u0 : 0 ≤ t.U
  u1 : t.U ≤ 18446744073709551615
  s0 : -9223372036854775808 ≤ t.S
  s1 : t.S ≤ 9223372036854775807
  z : t.B.length + t.X.length + ssum t.X ≤ 3145728
theorem tx1_sb (s : ByteArray) : tx1 (sb s) = s := by
  apply ByteArray.ext
  apply Array.ext'
  rw [tx1_data]
  unfold sb
  rw [List.map_map]
  conv => rhs; rw [← List.map_id s.data.toList]
  exact List.map_congr_left fun x _ => by simp
theorem map_tx1_sb (X : List ByteArray) : (X.map sb).map tx1 = X := by
  rw [List.map_map]
  conv => rhs; rw [← List.map_id X]
  exact List.map_congr_left fun x _ => tx1_sb x
theorem tx_rws (X : List ByteArray) : tx X = rws (X.map sb) := by
  have h := tx_tx1 (X.map sb) (by intro t ht; obtain ⟨s, _, rfl⟩ := List.mem_map.1 ht; exact sb_lt s)
  rw [map_tx1_sb] at h
  exact h
theorem nine (t : Thg) : (t.kind % 9).toNat = 0 ∨ (t.kind % 9).toNat = 1 ∨ (t.kind % 9).toNat = 2 ∨ (t.kind % 9).toNat = 3 ∨ (t.kind % 9).toNat = 4 ∨ (t.kind % 9).toNat = 5 ∨ (t.kind % 9).toNat = 6 ∨ (t.kind % 9).toNat = 7 ∨ (t.kind % 9).toNat = 8 := by omega
theorem encT_of {t : Thg} {k : Nat} (h : (t.kind % 9).toNat = k) : encT t = encK t k := by unfold encT; rw [h]
theorem encT_len' (t : Thg) : 1 ≤ (encT t).length ∧ (encT t).length ≤ 20 + t.B.length + 11 * t.X.length + ssum t.X := by
  have h1 := uv_len t.U.toNat
  have h2 := uv_len (zig t.S).toNat
  have h3 := uv_len t.B.length
  have h4 := uv_len t.X.length
  have h5 := tx_le t.X
  rcases nine t with h | h | h | h | h | h | h | h | h <;> rw [encT_of h] <;> simp only [encK, fx_len, List.length_append] <;> omega
theorem encT_pos (t : Thg) : 1 ≤ (encT t).length := (encT_len' t).1
theorem encT_len (t : Thg) : (encT t).length ≤ 20 + t.B.length + 11 * t.X.length + ssum t.X := (encT_len' t).2
theorem uv_lt' (v : Nat) (hv : v < 2 ^ 64) : ∀ x ∈ uv v, x < 256 := uv_lt v hv
theorem encT_lb (t : Thg) (F : t.Fine) : ∀ x ∈ encT t, x < 256 := by
  have hz := F.z
  have hs : ∀ s ∈ t.X, s.size < 2 ^ 64 := fun s hs => by have := ssum_mem t.X s hs; omega
  have hzg := zig_bd t.S F.s0 F.s1
  have hu := F.u1
  rcases nine t with h | h | h | h | h | h | h | h | h <;> rw [encT_of h]
  · exact fx_lt _ _
  · exact fx_lt _ _
  · exact fx_lt _ _
  · exact fx_lt _ _
  · exact fx_lt _ _
  · exact uv_lt _ (by omega)
  · exact uv_lt _ (by omega)
  · exact app_lt (uv_lt _ (by omega)) F.b
  · exact app_lt (uv_lt _ (by omega)) (tx_lt _ hs)
set_option maxHeartbeats 1000000 in
theorem put_any (w : World) (A AB AT : Option Addr) (n c cB cT Q : Nat) (all : List Nat) (t : Thg) (F : t.Fine) (hr : Rd w Q A n (cb all)) (hrB : Rd w Q AB t.B.length (cb t.B)) (hrT : Rd w Q AT t.X.length (cs t.X)) (hQ : Q ≤ w.heap.size) (hn : n ≤ 4398046511104) :
    Calls Try.prog 60 #[.slice A n c, .agg #[.int .i64 t.kind, .int .u64 t.U, .int .i64 t.S, .slice AB t.B.length cB, .slice AT t.X.length cT]] w (PutsOut w n all (encT t)) := by
  have hz := F.z
  have hx := tx_le t.X
  have hsz : n + t.B.length + t.X.length + (tx t.X).length ≤ 70368744177000 := by omega
  rcases nine t with h | h | h | h | h | h | h | h | h <;> rw [encT_of h]
  · exact put_0 w A AB AT n c _ cB _ cT Q t.kind t.U t.S all t.B t.X hr hrB hrT hQ hsz F.k (by omega) F.u0 F.u1
  · exact put_1 w A AB AT n c _ cB _ cT Q t.kind t.U t.S all t.B t.X hr hrB hrT hQ hsz F.k (by omega) F.u0 F.u1
  · exact put_2 w A AB AT n c _ cB _ cT Q t.kind t.U t.S all t.B t.X hr hrB hrT hQ hsz F.k (by omega) F.u0 F.u1
  · exact put_3 w A AB AT n c _ cB _ cT Q t.kind t.U t.S all t.B t.X hr hrB hrT hQ hsz F.k (by omega) F.u0 F.u1
  · exact put_4 w A AB AT n c _ cB _ cT Q t.kind t.U t.S all t.B t.X hr hrB hrT hQ hsz F.k (by omega) F.u0 F.u1
  · exact put_5 w A AB AT n c _ cB _ cT Q t.kind t.U t.S all t.B t.X hr hrB hrT hQ hsz F.k (by omega) F.u0 F.u1
  · exact put_6 w A AB AT n c _ cB _ cT Q t.kind t.U t.S all t.B t.X hr hrB hrT hQ hsz F.k (by omega) F.s0 F.s1
  · exact put_7 w A AB AT n c _ cB _ cT Q t.kind t.U t.S all t.B t.X hr hrB hrT hQ hsz F.k (by omega)
  · exact put_8 w A AB AT n c _ cB _ cT Q t.kind t.U t.S all t.B t.X hr hrB hrT hQ hsz F.k (by omega)
/-- What a reading of a thing leaves. -/
def BackOut (w : World) (gr n c : Nat) (A : Option Addr) (bs : List Nat) (at' : Nat) (fl : Int) (ok : Bool) (e : Ending) (w' : World) : Prop :=
  ∃ b, e = .returned (.bool b) ∧ Chg [gr] w w' ∧ Rr w' gr A n c at' fl bs ∧ (ok = true → b = true)
theorem backs_out {α : Type} {w : World} {gr n c at_ at' : Nat} {A : Option Addr} {bs : List Nat} {o : Except Int (α × Nat)} {z a : α} {e : Ending} {w' : World} (h : Backs w gr n c A bs (redo o z at_ 0) a e w') (ho : o = .ok (a, at')) : BackOut w gr n c A bs at' 0 true e w' := by
  obtain ⟨b, he, hc, hr, hb⟩ := h
  subst ho
  exact ⟨b, he, hc, hr, fun _ => hb rfl⟩
theorem backs_cut {α : Type} {w : World} {gr n c at_ : Nat} {A : Option Addr} {bs : List Nat} {o : Except Int (α × Nat)} {z a : α} {e : Ending} {w' : World} (h : Backs w gr n c A bs (redo o z at_ 0) a e w') (ho : o = .error 70) : BackOut w gr n c A bs at_ 70 false e w' := by
  obtain ⟨b, he, hc, hr, hb⟩ := h
  subst ho
  exact ⟨b, he, hc, hr, fun h => by cases h⟩
section
variable (w : World) (gr n c : Nat) (A AB AT : Option Addr) (cB cT Q : Nat) (t : Thg) (F : t.Fine) (hrB : Rd w Q AB t.B.length (cb t.B)) (hrT : Rd w Q AT t.X.length (cs t.X)) (hQ : Q ≤ gr)
include F hrB hrT hQ
set_option maxHeartbeats 1000000 in
theorem back_ok (pre r : List Nat) (R : Rr w gr A n c pre.length 0 (pre ++ encT t ++ r)) :
    Calls Try.prog 61 #[.pointer (some ⟨gr, 0, none⟩), .agg #[.int .i64 t.kind, .int .u64 t.U, .int .i64 t.S, .slice AB t.B.length cB, .slice AT t.X.length cT]] w (BackOut w gr n c A (pre ++ encT t ++ r) (pre.length + (encT t).length) 0 true) := by
  have hz := F.z
  have hzg := zig_bd t.S F.s0 F.s1
  have hu := F.u1
  rcases nine t with h | h | h | h | h | h | h | h | h <;> (rw [encT_of h] at R ⊢; simp only [encK] at R ⊢)
  · exact (back_0 w gr n c pre.length 0 A _ t.kind t.U t.S AB AT _ cB _ cT F.k F.u0 F.u1 F.s0 F.s1 (by omega) R).mono fun e w' hh => backs_out hh (fixF_put pre r 1 _ (by omega))
  · exact (back_1 w gr n c pre.length 0 A _ t.kind t.U t.S AB AT _ cB _ cT F.k F.u0 F.u1 F.s0 F.s1 (by omega) R).mono fun e w' hh => backs_out hh (fixF_put pre r 2 _ (by omega))
  · exact (back_2 w gr n c pre.length 0 A _ t.kind t.U t.S AB AT _ cB _ cT F.k F.u0 F.u1 F.s0 F.s1 (by omega) R).mono fun e w' hh => backs_out hh (fixF_put pre r 4 _ (by omega))
  · exact (back_3 w gr n c pre.length 0 A _ t.kind t.U t.S AB AT _ cB _ cT F.k F.u0 F.u1 F.s0 F.s1 (by omega) R).mono fun e w' hh => backs_out hh (fixF_put pre r 8 _ (by omega))
  · exact (back_4 w gr n c pre.length 0 A _ t.kind t.U t.S AB AT _ cB _ cT F.k F.u0 F.u1 F.s0 F.s1 (by omega) R).mono fun e w' hh => backs_out hh (fixF_put pre r 2 _ (by omega))
  · exact (back_5 w gr n c pre.length 0 A _ t.kind t.U t.S AB AT _ cB _ cT F.k F.u0 F.u1 F.s0 F.s1 (by omega) R).mono fun e w' hh => backs_out hh (numF_put pre r _ (by omega))
  · exact (back_6 w gr n c pre.length 0 A _ t.kind t.U t.S AB AT _ cB _ cT F.k F.u0 F.u1 F.s0 F.s1 (by omega) R).mono fun e w' hh => backs_out hh (numF_put pre r _ (by omega))
  · refine (back_7 w gr n c pre.length 0 A _ t.kind t.U t.S AB AT _ cB _ cT F.k F.u0 F.u1 F.s0 F.s1 (by omega) R t.B Q hrB hQ (by omega)).mono fun e w' hh => backs_out hh ?_
    unfold blkF
    rw [if_neg (by omega), Int.toNat_natCast]
    exact blockF_put pre r t.B _ (Nat.le_refl _) (by omega)
  · have hss : ∀ s ∈ t.X, s.size ≤ 4194304 := fun s hs => by have := ssum_mem t.X s hs; omega
    have hput := textsF_put pre r (t.X.map sb) (t.X.length : Int) (lmax t.X : Int) (by simp) (by omega) (by omega) (by
      intro y hy
      obtain ⟨s, hs, rfl⟩ := List.mem_map.1 hy
      rw [sb_len, Int.toNat_natCast]
      exact ⟨le_lmax t.X s hs, by have := hss s hs; omega⟩) (by rw [List.length_map]; omega)
    have he : uv t.X.length ++ tx t.X = txts (t.X.map sb) := by unfold txts; rw [List.length_map, tx_rws]
    rw [he] at R ⊢
    have hredo : redo (textsF (pre ++ txts (t.X.map sb) ++ r) pre.length (t.X.length : Int) (lmax t.X : Int)) [] pre.length 0 = (t.X.map sb, pre.length + (txts (t.X.map sb)).length, 0) := by rw [hput]; rfl
    refine (back_8 w gr n c pre.length 0 A _ t.kind t.U t.S AB AT _ cB _ cT F.k (by omega) R t.X Q hrT hQ (by omega) hss (.inl (by rw [hredo]; exact map_tx1_sb t.X))).mono fun e w' ⟨b, he, hc, hr, hb⟩ => ?_
    rw [hredo] at hr hb
    exact ⟨b, he, hc, hr, fun _ => hb (map_tx1_sb t.X)⟩
set_option maxHeartbeats 1000000 in
theorem back_cut (pre : List Nat) (j : Nat) (hj : j < (encT t).length) (R : Rr w gr A n c pre.length 0 (pre ++ (encT t).take j)) :
    Calls Try.prog 61 #[.pointer (some ⟨gr, 0, none⟩), .agg #[.int .i64 t.kind, .int .u64 t.U, .int .i64 t.S, .slice AB t.B.length cB, .slice AT t.X.length cT]] w (BackOut w gr n c A (pre ++ (encT t).take j) pre.length 70 false) := by
  have hz := F.z
  have hzg := zig_bd t.S F.s0 F.s1
  have hu := F.u1
  rcases nine t with h | h | h | h | h | h | h | h | h <;> (rw [encT_of h] at R hj ⊢; simp only [encK] at R hj ⊢)
  · exact (back_0 w gr n c pre.length 0 A _ t.kind t.U t.S AB AT _ cB _ cT F.k F.u0 F.u1 F.s0 F.s1 (by omega) R).mono fun e w' hh => backs_cut hh (fixF_cut pre 1 _ j (by rwa [fx_len] at hj))
  · exact (back_1 w gr n c pre.length 0 A _ t.kind t.U t.S AB AT _ cB _ cT F.k F.u0 F.u1 F.s0 F.s1 (by omega) R).mono fun e w' hh => backs_cut hh (fixF_cut pre 2 _ j (by rwa [fx_len] at hj))
  · exact (back_2 w gr n c pre.length 0 A _ t.kind t.U t.S AB AT _ cB _ cT F.k F.u0 F.u1 F.s0 F.s1 (by omega) R).mono fun e w' hh => backs_cut hh (fixF_cut pre 4 _ j (by rwa [fx_len] at hj))
  · exact (back_3 w gr n c pre.length 0 A _ t.kind t.U t.S AB AT _ cB _ cT F.k F.u0 F.u1 F.s0 F.s1 (by omega) R).mono fun e w' hh => backs_cut hh (fixF_cut pre 8 _ j (by rwa [fx_len] at hj))
  · exact (back_4 w gr n c pre.length 0 A _ t.kind t.U t.S AB AT _ cB _ cT F.k F.u0 F.u1 F.s0 F.s1 (by omega) R).mono fun e w' hh => backs_cut hh (fixF_cut pre 2 _ j (by rwa [fx_len] at hj))
  · exact (back_5 w gr n c pre.length 0 A _ t.kind t.U t.S AB AT _ cB _ cT F.k F.u0 F.u1 F.s0 F.s1 (by omega) R).mono fun e w' hh => backs_cut hh (numF_cut pre _ j (by omega) hj)
  · exact (back_6 w gr n c pre.length 0 A _ t.kind t.U t.S AB AT _ cB _ cT F.k F.u0 F.u1 F.s0 F.s1 (by omega) R).mono fun e w' hh => backs_cut hh (numF_cut pre _ j (by omega) hj)
  · refine (back_7 w gr n c pre.length 0 A _ t.kind t.U t.S AB AT _ cB _ cT F.k F.u0 F.u1 F.s0 F.s1 (by omega) R t.B Q hrB hQ (by omega)).mono fun e w' hh => backs_cut hh ?_
    unfold blkF
    rw [if_neg (by omega), Int.toNat_natCast]
    exact blockF_cut pre t.B _ j (Nat.le_refl _) (by omega) hj
  · have hss : ∀ s ∈ t.X, s.size ≤ 4194304 := fun s hs => by have := ssum_mem t.X s hs; omega
    have he : uv t.X.length ++ tx t.X = txts (t.X.map sb) := by unfold txts; rw [List.length_map, tx_rws]
    rw [he] at R hj ⊢
    have hput := textsF_cut pre (t.X.map sb) (t.X.length : Int) (lmax t.X : Int) j (by simp) (by omega) (by omega) (by
      intro y hy
      obtain ⟨s, hs, rfl⟩ := List.mem_map.1 hy
      rw [sb_len, Int.toNat_natCast]
      exact ⟨le_lmax t.X s hs, by have := hss s hs; omega⟩) (by rw [List.length_map]; omega) hj
    have hredo : redo (textsF (pre ++ (txts (t.X.map sb)).take j) pre.length (t.X.length : Int) (lmax t.X : Int)) [] pre.length 0 = ([], pre.length, 70) := by rw [hput]; rfl
    refine (back_8 w gr n c pre.length 0 A _ t.kind t.U t.S AB AT _ cB _ cT F.k (by omega) R t.X Q hrT hQ (by omega) hss (.inr (by rw [hredo]))).mono fun e w' ⟨b, he, hc, hr, hb⟩ => ?_
    rw [hredo] at hr
    exact ⟨b, he, hc, hr, fun h => by cases h⟩
end
end Go.Proofs.Ytjkenhkoakaaoaa
