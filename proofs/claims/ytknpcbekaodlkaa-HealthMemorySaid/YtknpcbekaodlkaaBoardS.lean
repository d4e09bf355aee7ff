/- Contracts of put and Save. -/
import Derived.Test.YtknpcbekaodlkaaSaveP
import Derived.Deep.RegionWith
namespace Go.Proofs.Ytknpcbekaodlkaa
open Go.RowKit
set_option linter.unusedVariables false
theorem run_f32bits (x : Nat) (w : World) : (callFunc 60 #[.float .f32 x]).run Try.prog w = .ok (.value (.int .u32 (x : Int))) w := by
  rw [run_callFunc_extern (P := Try.prog) (e := Extern.MathFloatBits.float32bits) Try.func60 (by kernel_rfl) (by kernel_rfl) (by kernel_rfl) (by kernel_rfl)]
  rfl
theorem run_f32from (x : Nat) (w : World) : (callFunc 61 #[.int .u32 (x : Int)]).run Try.prog w = .ok (.value (.float .f32 x)) w := by
  rw [run_callFunc_extern (P := Try.prog) (e := Extern.MathFloatBits.float32frombits) Try.func61 (by kernel_rfl) (by kernel_rfl) (by kernel_rfl) (by kernel_rfl)]
  rfl
theorem run_f64bits (x : Nat) (w : World) : (callFunc 62 #[.float .f64 x]).run Try.prog w = .ok (.value (.int .u64 (x : Int))) w := by
  rw [run_callFunc_extern (P := Try.prog) (e := Extern.MathFloatBits.float64bits) Try.func62 (by kernel_rfl) (by kernel_rfl) (by kernel_rfl) (by kernel_rfl)]
  rfl
theorem onto_alloc {w w' : World} {o : Obj} {base e n : Nat} {v v' : Value} {xs : List Value} (h : Onto (w.alloc o) w' base e v v' n xs) : Onto w w' base e v v' n xs :=
  ⟨h.1, (World.grownBy_alloc w o v.ownBlock).trans h.2.1, fun k hk => by
    rcases h.2.2 k hk with h1 | h1
    · exact .inl h1
    · simp at h1; exact .inr (by omega)⟩
theorem cb_four (x : Nat) (X : Int) (h : (x : Int) = X) (hx : x < 4294967296) : [Value.int .u8 (X % 256), .int .u8 (X / 256 % 256), .int .u8 (X / 65536 % 256), .int .u8 (X / 16777216)] = cb (fourP x) := by
  subst h
  show _ = [bv (x % 256), bv (x / 256 % 256), bv (x / 65536 % 256), bv (x / 16777216 % 256)]
  unfold bv
  have e1 : ((x % 256 : Nat) : Int) = (x : Int) % 256 := by omega
  have e2 : ((x / 256 % 256 : Nat) : Int) = (x : Int) / 256 % 256 := by omega
  have e3 : ((x / 65536 % 256 : Nat) : Int) = (x : Int) / 65536 % 256 := by omega
  have e4 : ((x / 16777216 % 256 : Nat) : Int) = (x : Int) / 16777216 := by omega
  rw [e1, e2, e3, e4]
set_option maxRecDepth 20000 in
set_option maxHeartbeats 1000000 in
theorem put_any (w : World) (base n : Nat) (v : Value) (bs : List Nat) (x : Nat) (hx : x < 4294967296) (hown : w.ownsRow base 5 1 v n (cb bs)) (hn : n ≤ 100000) (hb : base ≤ w.heap.size) :
    Calls Try.prog 46 #[v, .float .f32 x] w fun e w' => ∃ v', e = .returned v' ∧ Onto w w' base 5 v v' (n + 4) (cb (bs ++ fourP x)) := by
  have hb := fun w => run_f32bits x w
  obtain ⟨X, hX⟩ : ∃ X : Int, (x : Int) = X := ⟨_, rfl⟩
  rw [hX] at hb
  have hx0 : 0 ≤ X := by omega
  have hx1 : X ≤ 4294967295 := by omega
  have HC := Hd.mk (cb_four x X hX hx)
  have HO := Hd.mk hown
  have h63 : Hd (n + 4 ≤ maxLen) := ⟨by unfold maxLen; omega⟩
  have hby : Hd ((n + 4) * 1 ≤ 140737488355328) := ⟨by omega⟩
  have hbs : Hd (base ≤ (w.alloc (.cells #[Value.int .u8 (X % 256), .int .u8 (X / 256 % 256), .int .u8 (X / 65536 % 256), .int .u8 (X / 16777216)] 5)).heap.size) := ⟨by rename_i h1; simp; omega⟩
  clear hX hx hown
  go_enter Try.func46, Try.ntmps46
  go_wp2_with (refine wpList_app elB rfl (.tmp 8) (.tmp 20) rfl base v n (cb bs) rfl (HO.out.alloc _) (w.heap.size + 1) (some ⟨w.heap.size, 0, none⟩) 4 4 [Value.int .u8 (X % 256), .int .u8 (X / 256 % 256), .int .u8 (X / 65536 % 256), .int .u8 (X / 16777216)] rfl (rd_lit [Value.int .u8 (X % 256), .int .u8 (X / 256 % 256), .int .u8 (X / 65536 % 256), .int .u8 (X / 16777216)]) (by simp [Value.oneCell']) h63.out hby.out hbs.out ?_; intro v2 w2 hO2)
  have H2 := Hd.mk (onto_alloc hO2)
  clear hO2
  go_wp2_with fail
  go_ret
  exact ⟨_, rfl, by rw [cb_append, ← HC.out]; exact H2.out⟩
theorem onto_draw {w w' : World} {o : Obj} {base e n : Nat} {v v' : Value} {xs : List Value} (h : Onto (w.alloc o).drew w' base e v v' n xs) : Onto w w' base e v v' n xs :=
  onto_alloc (o := o) ⟨h.1, ⟨h.2.1.os, h.2.1.tape, h.2.1.output, h.2.1.size, h.2.1.block⟩, h.2.2⟩
theorem onto_undrew {w w' : World} {base e n : Nat} {s v' : Value} {xs : List Value} (h : Onto w.drew w' base e s v' n xs) : Onto w w' base e s v' n xs :=
  ⟨h.1, ⟨h.2.1.os, h.2.1.tape, h.2.1.output, h.2.1.size, h.2.1.block⟩, h.2.2⟩
theorem getD_mem (l : List Nat) (k : Nat) (h : k < l.length) : l.getD k 0 ∈ l := by
  rw [List.getD_eq_getElem?_getD, List.getElem?_eq_getElem h]; exact List.getElem_mem h
theorem take_next (l : List Nat) (k : Nat) (h : k < l.length) : l.take (k + 1) = l.take k ++ [l.getD k 0] := by
  rw [List.take_add_one, List.getD_eq_getElem?_getD, List.getElem?_eq_getElem h]; rfl
set_option maxRecDepth 20000 in
set_option maxHeartbeats 2000000 in
theorem save_any (w : World) (B b h cap K : Nat) (ss : List Nat) (H : Brd w B b h cap K ss) (L : Law K ss) (hn2 : ss.length ≤ 255) :
    Calls Try.prog 26 #[.pointer (some ⟨b, 0, none⟩)] w fun e w' => ∃ v', e = .returned v' ∧ Onto w w' w.heap.size 5 (.slice none 0 0) v' (5 + 4 * ss.length) (cb (saveP K ss)) := by
  have c0 := H.c0
  have c1 := H.c1
  have hbl := H.lt.1
  obtain ⟨n, hn⟩ : ∃ n, ss.length = n := ⟨_, rfl⟩
  have hnn : n % 256 = n := Nat.mod_eq_of_lt (by omega)
  have HH := Hd.mk (And.intro H (And.intro L hn))
  rw [hn] at c1 hn2 ⊢
  have HW : Hd ((w.alloc (.cells #[.int .u8 (n : Int)] 5)).ownsRow w.heap.size 5 1 (.slice (some ⟨w.heap.size, 0, none⟩) 1 1) 1 (cb [n % 256])) := ⟨by
    rw [hnn]; exact (onto_lit (w := w) (e := 5) (cb [n]) (by show 1 ≤ maxLen; unfold maxLen; decide)).own⟩
  have HW2 : Hd ((w.alloc (.cells #[.int .u8 (n : Int)] 5)).drew.ownsRow w.heap.size 5 1 (.slice (some ⟨w.heap.size, 0, none⟩) 1 1) 1 (cb [n % 256]) ∧ w.heap.size ≤ (w.alloc (.cells #[.int .u8 (n : Int)] 5)).drew.heap.size) := ⟨HW.out, by show w.heap.size ≤ (w.alloc _).heap.size; simp⟩
  have HK : Hd (K < 4294967296) := ⟨Nat.lt_trans L.k1 one_big⟩
  have hwr : IntKind.u8.wrap (n : Int) = (n : Int) := by simp [IntKind.wrap, IntKind.bits, IntKind.signed]; omega
  clear H L hn hnn
  go_enter Try.func26, Try.ntmps26
  go_wp2_with fail
  go_region_with (go_at_call 46; refine (put_any _ w.heap.size 1 (.slice (some ⟨w.heap.size, 0, none⟩) 1 1) [n % 256] K HK.out HW2.out.1 (by decide) HW2.out.2).mono ?_; rintro e w1 ⟨v1, rfl, hO⟩)
  all_goals (
    have H1 : Hd (Onto w w1 w.heap.size 5 (.slice none 0 0) v1 (5 + 4 * 0) (cb ([n % 256] ++ fourP K ++ (ss.take 0).flatMap fourP))) := ⟨by
      have g := (onto_lit (w := w) (e := 5) (cb [n]) (by show 1 ≤ maxLen; unfold maxLen; decide)).trans (onto_undrew hO)
      simpa using g⟩
    have HB1 := Hd.mk (HH.out.1.keep (hO.below (fun k hk => by cases hk; exact Nat.le_refl _) HW2.out.2 |> fun hb => (⟨hb.os, hb.tape, hb.output, hb.size, hb.block⟩ : Below w.heap.size (w.alloc (.cells #[.int .u8 (n : Int)] 5)) w1) |> fun hb => ((Below.refl w.heap.size w).alloc (Nat.le_refl _) _).trans hb))
    clear hO
    have d1 := HB1.out.c1
    rw [HH.out.2.2] at d1
    clear c0 c1
    go_wp2_with fail
    go_loopw [3, 5, 25] (fun s _ i wr => ∃ k : Nat, k ≤ n ∧ i = .int .i64 (k : Int) ∧ Onto w wr w.heap.size 5 (.slice none 0 0) s (5 + 4 * k) (cb ([n % 256] ++ fourP K ++ (ss.take k).flatMap fourP))) (fun _ _ i _ => n - (intOf i).toNat)
    case atStart => exact ⟨0, by omega, rfl, H1.out⟩
    case round =>
      obtain ⟨k, hk, rfl, hO⟩ := hrel
      have H2 := Hd.mk hO
      have hwb := hO.below (fun k hk => by cases hk) (Nat.le_refl _)
      have H3 := Hd.mk (HH.out.1.keep hwb)
      have hsz := hO.size
      clear hO H1
      by_cases hlt : k < n
      · have hc := H3.out.cs (i := k) (by rw [HH.out.2.2]; exact hlt)
        go_wp2_with fail
        refine (put_any wr w.heap.size (5 + 4 * k) _ _ (ss.getD k 0) (Nat.lt_of_le_of_lt (HH.out.2.1.sc _ (getD_mem _ _ (by rw [HH.out.2.2]; exact hlt))) one_big) H2.out.own (by omega) hsz).mono ?_
        rintro e w2 ⟨v2, rfl, hO2⟩
        have H4 := Hd.mk (H2.out.trans hO2)
        clear hO2
        go_wp2_with fail
        go_roundw
        case rel =>
          refine ⟨k + 1, by omega, by go_num, ?_⟩
          rw [take_next ss k (by rw [HH.out.2.2]; exact hlt), List.flatMap_append, List.flatMap_cons, List.flatMap_nil, List.append_nil, ← List.append_assoc]
          exact H4.out
        case measure => simp [intOf]; omega
      · have hkn : k = n := by omega
        subst hkn
        go_wp2_with fail
        go_ret
        have := H2.out
        rw [List.take_of_length_le (by rw [HH.out.2.2]; exact Nat.le_refl _)] at this
        refine ⟨_, rfl, ?_⟩
        unfold saveP
        rw [HH.out.2.2]
        exact this)
end Go.Proofs.Ytknpcbekaodlkaa
