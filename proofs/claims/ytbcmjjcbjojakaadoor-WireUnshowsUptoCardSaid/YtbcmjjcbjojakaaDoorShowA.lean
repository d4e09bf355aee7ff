
/- Contracts of what shows a key: the program's own. -/
import Derived.Test.YtbcmjjcbjojakaaDoorShowP
import Derived.Test.YtbcmjjcbjojakaaDoorShelf
import Derived.Lib.OthersKept
import Derived.Lib.FrozenHead2
import Derived.Deep.RegionLaw
namespace Go.Proofs.YtbcmjjcbjojakaaDoor
open Go.RowKit
set_option linter.unusedVariables false
theorem wpList_appF {P : Program} {ops : Array Oper} {rest : List Oper} {o : Oper} {a : Act} {w : World} {Q : Exit → Act → World → Prop} {t e bytes : Nat} {z : Value} (E : El P t e bytes z) (hgd : o.guard = none) (s x : Operand)
    (ho : o.op = .call { callee := .builtin .append, args := #[s, x], argTypes := #[t, t] })
    (base : Nat) (v : Value) (n : Nat) (xs : List Value) (hs : a.eval s = v) (hown : w.ownsRowF base e 1 v n xs)
    (ad : Addr) (m c : Nat) (news : List Value) (hx : a.eval x = .slice (some ad) m c) (hl : news.length = m) (hnews : ∀ j u, news[j]? = some u → w.cell? (ad.add j) = some u) (h1 : ∀ u ∈ news, u.oneCell' = true)
    (h63 : n + m ≤ maxLen) (hbytes : (n + m) * bytes ≤ 140737488355328) (hbase : base ≤ w.heap.size)
    (h : ∀ v' w', w'.ownsRowF base e 1 v' (n + m) (xs ++ news) → w.grownBy w' v.ownBlock → wpList P ops Q rest (a.put o.dst v') w') : wpList P ops Q (o :: rest) a w := by
  obtain ⟨i, hi, hz, hs1, hb⟩ := E.hi
  exact wpList_append_ownF w hgd s x t ho base e i z 1 bytes E.ht hi hz hs1 hb E.hz (by decide) v n xs hs hown ad m c news hx (by omega) hnews h1 h63 hbytes hbase fun v' w' a b _ => h v' w' a b
theorem step_appF {P : Program} {ops : Array Oper} {o : Oper} {a : Act} {w : World} {K : Act → World → Prop} {Q : Exit → Act → World → Prop} {Z : Prop} {t e bytes : Nat} {z : Value} (E : El P t e bytes z) (hgd : o.guard = none) (s x : Operand)
    (ho : o.op = .call { callee := .builtin .append, args := #[s, x], argTypes := #[t, t] })
    (base : Nat) (v : Value) (n : Nat) (xs : List Value) (hs : a.eval s = v) (hown : w.ownsRowF base e 1 v n xs)
    (ad : Addr) (m c : Nat) (news : List Value) (hx : a.eval x = .slice (some ad) m c) (hl : news.length = m) (hnews : ∀ j u, news[j]? = some u → w.cell? (ad.add j) = some u) (h1 : ∀ u ∈ news, u.oneCell' = true)
    (h63 : n + m ≤ maxLen) (hbytes : (n + m) * bytes ≤ 140737488355328) (hbase : base ≤ w.heap.size)
    (h : ∀ v' w', w'.ownsRowF base e 1 v' (n + m) (xs ++ news) → w.grownBy w' v.ownBlock → K (a.put o.dst v') w') :
    if Region.wanted o (yielded ops a.tmps) = true then Oper.wp P o a w K Q else Z := by
  obtain ⟨i, hi, hz, hs1, hb⟩ := E.hi
  have hw : Region.wanted o (yielded ops a.tmps) = true := by simp [Region.wanted, hgd]
  rw [if_pos hw]
  obtain ⟨v', w', hr, h2, h3, h4⟩ := run_append_ownF (P := P) w base t o.type e i z 1 bytes E.ht hi hz hs1 hb E.hz (by decide) v n xs hown ad m c news (by omega) hnews h1 h63 hbytes hbase
  unfold Oper.wp
  simp [execOp, ho, resolve, invoke, builtin, hs, hx, hr, Result.andThen]
  exact h v' w' h2 h3
theorem alloc_news (w : World) (cs : List Value) (e : Nat) : ∀ j u, cs[j]? = some u → (w.alloc (.cells cs.toArray e)).cell? ((⟨w.heap.size, 0, none⟩ : Addr).add j) = some u := by
  intro j u h
  have := cell_of_row (w.alloc (.cells cs.toArray e)) w.heap.size j cs.toArray e (0, 0) (heap_alloc_new _ _)
  rw [show ((⟨w.heap.size, 0, none⟩ : Addr).add j) = ⟨w.heap.size, j, none⟩ by cases j <;> simp [Addr.add], this]
  simpa using h
theorem grow_kept {w wr w2 : World} {base e n : Nat} {v : Value} {xs : List Value} (hown : wr.ownsRowF base e 1 v n xs) (bel : Below base w wr) (ok : Lib.OthersKept e none w wr) (o : Obj) (hb : base ≤ w.heap.size) (hg : (wr.alloc o).grownBy w2 v.ownBlock) : Below base w w2 ∧ Lib.OthersKept e none w w2 := by
  have hs : base ≤ wr.heap.size := Nat.le_trans hb bel.size
  refine ⟨(bel.alloc hs o).grown hg (by simp; omega) (fun g h => (hown.lt g h).1), (ok.alloc o).grown hg (fun g h => Lib.ownsRowF_kind (hown.alloc o) g h)⟩
theorem digs (k : Nat) (h : k < 16) : ∃ hk : k < (⟨#[48, 49, 50, 51, 52, 53, 54, 55, 56, 57, 97, 98, 99, 100, 101, 102]⟩ : ByteArray).size, ((⟨#[48, 49, 50, 51, 52, 53, 54, 55, 56, 57, 97, 98, 99, 100, 101, 102]⟩ : ByteArray)[k]'hk).toNat = dgt k := by
  have : ∀ k : Fin 16, ((⟨#[48, 49, 50, 51, 52, 53, 54, 55, 56, 57, 97, 98, 99, 100, 101, 102]⟩ : ByteArray)[k.1]'(k.2)).toNat = dgt k.1 := by decide
  exact ⟨h, this ⟨k, h⟩⟩
theorem dig_run (z : Int) (k : Nat) (h : z = (k : Int)) (hk : k < 16) (w : World) : (Instr.index 9 (.string ⟨#[48, 49, 50, 51, 52, 53, 54, 55, 56, 57, 97, 98, 99, 100, 101, 102]⟩) (.int .u8 z)).run Tryd.prog w = .ok (.int .u8 ((dgt k : Nat) : Int)) w := by
  subst h
  obtain ⟨h1, h2⟩ := digs k hk
  rw [run_index_string w 9 _ _ _ infoStr, dif_pos ⟨by omega, by omega⟩]
  simp only [Int.toNat_natCast, h2]
set_option maxRecDepth 100000 in
theorem and15 (x : Nat) (h : x < 256) : bits BinOp.and IntKind.u8 (x : Int) 15 = ((x % 16 : Nat) : Int) := by
  have : ∀ k : Fin 256, bits BinOp.and IntKind.u8 (k.1 : Int) 15 = ((k.1 % 16 : Nat) : Int) := by decide +kernel
  exact this ⟨x, h⟩
theorem sb_get (s : ByteArray) (k : Nat) (h : k < s.size) : (sb s)[k]? = some (s[k]'h).toNat := by
  unfold sb; rw [List.getElem?_map, List.getElem?_eq_getElem (by rw [Array.length_toList]; exact h)]; rfl
theorem hx_take (l : List Nat) (k x : Nat) (h : l[k]? = some x) : hx (l.take (k + 1)) = hx (l.take k) ++ [92, 120, dgt (x / 16), dgt (x % 16)] := by
  unfold hx; rw [List.take_add_one, h, List.flatMap_append]; rfl
theorem plain_any (w : World) (r : Nat) (h : r ≤ 1114111) : Calls Tryd.prog 17 #[.int .i32 r] w fun e w' => e = .returned (.bool (decide (plainP r))) ∧ w' = w := by
  have HJ : Hd (∀ b, (b = true ↔ plainP r) → Ending.returned (.bool b) = .returned (.bool (decide (plainP r)))) := ⟨fun b hb => by rw [show b = decide (plainP r) from Bool.eq_iff_iff.2 (by simpa using hb)]⟩
  go_enter Tryd.func17, Tryd.ntmps17
  by_cases h1 : 32 ≤ r
  · go_wp2_with fail
    all_goals (go_ret; exact ⟨HJ.out _ (by unfold plainP; simp; omega), rfl⟩)
  · go_wp2_with fail
    all_goals (go_ret; exact ⟨HJ.out _ (by unfold plainP; simp; omega), rfl⟩)
set_option maxRecDepth 100000 in
set_option maxHeartbeats 1000000 in
theorem hex_any (w : World) (base : Nat) (v : Value) (n : Nat) (xs : List Value) (s : ByteArray) (hown : w.ownsRowF base 5 1 v n xs) (hb : base ≤ w.heap.size) (hlen : n + 4 * s.size ≤ 140737488355328) :
    Calls Tryd.prog 16 #[v, .string s] w fun e w' => ∃ v', e = .returned v' ∧ w'.ownsRowF base 5 1 v' (n + 4 * s.size) (xs ++ cb (hx (sb s))) ∧ Below base w w' ∧ Lib.OthersKept 5 none w w' := by
  have hl := sb_len s
  have HO : Hd (w.ownsRowF base 5 1 v n xs) := ⟨hown⟩
  clear hown
  go_enter Tryd.func16, Tryd.ntmps16
  go_wp2_with fail
  go_loopw [0, 5] (fun a i wr => ∃ k : Nat, k ≤ s.size ∧ i = .int .i64 k ∧ wr.ownsRowF base 5 1 a (n + 4 * k) (xs ++ cb (hx ((sb s).take k))) ∧ Below base w wr ∧ Lib.OthersKept 5 none w wr) (fun _ i _ => s.size - (intOf i).toNat)
  case atStart => exact ⟨0, by omega, rfl, by simpa [hx, cb] using HO.out, Below.refl _ _, .refl _ _ _⟩
  case round =>
    obtain ⟨k, hk, rfl, ho, bel, ok⟩ := hrel
    have H1 : Hd (wr.ownsRowF base 5 1 u0 (n + 4 * k) (xs ++ cb (hx ((sb s).take k))) ∧ Below base w wr ∧ Lib.OthersKept 5 none w wr) := ⟨ho, bel, ok⟩
    clear ho bel ok
    by_cases hlt : k < s.size
    · have hkk : ((k : Int)).toNat = k := by omega
      obtain ⟨x, hx1⟩ : ∃ x, (s[k]'hlt).toNat = x := ⟨_, rfl⟩
      have hx2 : x < 256 := by rw [← hx1]; exact (s[k]'hlt).toNat_lt
      have d1 := dig_run ((x : Int) / 16) (x / 16) (by omega) (by omega)
      have d2 := dig_run (bits BinOp.and IntKind.u8 (x : Int) 15) (x % 16) (and15 x hx2) (by omega)
      go_wp2_with fail
      have h63 : Hd (n + 4 * k + 4 ≤ maxLen) := ⟨by unfold maxLen; omega⟩
      have hby : Hd ((n + 4 * k + 4) * 1 ≤ 140737488355328) := ⟨by omega⟩
      have HE : Hd (∀ v2 w2, w2.ownsRowF base 5 1 v2 (n + 4 * k + 4) (xs ++ cb (hx ((sb s).take k)) ++ [.int .u8 92, .int .u8 120, .int .u8 ((dgt (x / 16) : Nat) : Int), .int .u8 ((dgt (x % 16) : Nat) : Int)]) →
          (wr.drew.alloc (.cells #[.int .u8 92, .int .u8 120, .int .u8 ((dgt (x / 16) : Nat) : Int), .int .u8 ((dgt (x % 16) : Nat) : Int)] 5)).grownBy w2 u0.ownBlock →
          ∃ k1 : Nat, k1 ≤ s.size ∧ Value.int .i64 ((k : Int) + 1) = .int .i64 k1 ∧ w2.ownsRowF base 5 1 v2 (n + 4 * k1) (xs ++ cb (hx ((sb s).take k1))) ∧ Below base w w2 ∧ Lib.OthersKept 5 none w w2) := ⟨fun v2 w2 ho hg => by
        obtain ⟨g1, g2⟩ := grow_kept (wr := wr.drew) H1.out.1 H1.out.2.1.drew H1.out.2.2.drew _ hb hg
        refine ⟨k + 1, by omega, by go_num, ?_, g1, g2⟩
        rw [hx_take _ k x ((sb_get s k hlt).trans (by rw [hx1])), cb_append, ← List.append_assoc]
        exact ho⟩
      go_region_law (refine step_appF elB rfl (.tmp 12) (.tmp 23) rfl base u0 _ _ rfl (H1.out.1.alloc (.cells #[.int .u8 92, .int .u8 120, .int .u8 ((dgt (x / 16) : Nat) : Int), .int .u8 ((dgt (x % 16) : Nat) : Int)] 5)) ⟨wr.heap.size, 0, none⟩ 4 4 [.int .u8 92, .int .u8 120, .int .u8 ((dgt (x / 16) : Nat) : Int), .int .u8 ((dgt (x % 16) : Nat) : Int)] rfl rfl (alloc_news _ _ _) (by intro u hu; simp only [List.mem_cons, List.not_mem_nil, or_false] at hu; rcases hu with rfl | rfl | rfl | rfl <;> rfl) h63.out hby.out (by have := H1.out.2.1.size; simp; omega) ?_; intro v2 w2 hO2 hG2)
      all_goals (go_wp2_with fail; go_roundw)
      all_goals first
        | exact HE.out _ _ hO2 hG2
        | (simp [intOf]; omega)
    · have hk8 : k = s.size := by omega
      subst hk8
      have HT : Hd (wr.ownsRowF base 5 1 u0 (n + 4 * s.size) (xs ++ cb (hx (sb s)))) := ⟨by have := H1.out.1; rwa [List.take_of_length_le (by omega)] at this⟩
      go_wp2_with fail
      go_ret
      exact ⟨u0, rfl, HT.out, H1.out.2⟩
end Go.Proofs.YtbcmjjcbjojakaaDoor
