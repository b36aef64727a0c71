/- Walks of the statements' own helpers: let (each rune that is plainly no rune of a text taken for a letter) and pick (a number by the rest). -/
import Derived.Test.YtfgekdefnbohbaaDoorUBase
import Derived.OwnWalk
import Derived.Laws.Cover4
namespace Go.Proofs.YtfgekdefnbohbaaDoor.U
open Go.RowKit Go.Proofs.YtfgekdefnbohbaaDoor.Txt
set_option linter.unusedVariables false
set_option linter.unusedSimpArgs false

set_option maxRecDepth 100000 in
set_option maxHeartbeats 4000000 in
theorem let_any (A : Option Addr) (n c : Nat) (xs : List Int) (w : World) (hr : Reads32 w A n xs) :
    Calls Tryd.prog 15 #[.slice A n c] w fun e w' => ∃ v, e = .returned v ∧ w'.ownsRow w.heap.size 21 1 v xs.length (i32s (xs.map letR)) ∧ Below w.heap.size w w' := by
  obtain ⟨hl, hn, hr⟩ := hr
  obtain ⟨i0, hi, hz0, hz1, hz2⟩ := info_parts info32
  have hsl := Tryd.underlying22
  go_enter Tryd.func15, Tryd.ntmps15
  go_wp2_with fail
  go_loopw [3, 4] (fun v i wr => ∃ k : Nat, k ≤ n ∧ i = .int .i64 k ∧ wr.ownsRow w.heap.size 21 1 v k (i32s ((xs.take k).map letR)) ∧ Below w.heap.size w wr) (fun _ i _ => n - (intOf i).toNat)
  case atStart => exact ⟨0, Nat.zero_le _, rfl, ⟨by simp [i32s], .inl ⟨rfl, by simp [i32s]⟩⟩, Below.refl _ _⟩
  case round =>
    obtain ⟨k, hk, rfl, hown, hb⟩ := hrel
    by_cases hlt : k < n
    · obtain ⟨ad, rfl, hbl, hcs⟩ := hr (by omega)
      have hcell := hcs k hlt
      rw [← hb.cell (by rw [add_block]; exact hbl)] at hcell
      generalize hx : xs.getD k 0 = x at hcell
      have HX := Lib.hid hx
      have HO := Lib.hid hown
      have HB := Lib.hid hb
      clear hx hown hb hcs
      have h63 : k + 1 ≤ maxLen := by unfold maxLen; omega
      have hby : (k + 1) * 4 ≤ 140737488355328 := by omega
      have hbase : ∀ o, w.heap.size ≤ (wr.alloc o).heap.size := fun o => by have := HB.out.size; simp; omega
      have HBASE := Lib.hid hbase
      have H63 := Lib.hid h63
      have HBY := Lib.hid hby
      clear hbase h63 hby
      have HC : (x < 9 ∨ (10 < x ∧ x < 32) ∨ (126 < x ∧ x < 161) ∨ (55295 < x ∧ x < 65536) ∨ 131069 < x) ∨ (32 ≤ x ∧ x ≤ 126) ∨ (161 ≤ x ∧ x ≤ 55295) ∨ (65536 ≤ x ∧ x ≤ 131069) ∨ x = 9 ∨ x = 10 := by omega
      rcases HC with (h | h | h | h | h) | h | h | h | rfl | rfl
      case inr.inr.inr.inr.inl =>
        go_wp2_with (first
          | (at_builtin; refine wpList_append_own _ rfl (.tmp 50) (.tmp 52) 22 rfl w.heap.size 21 i0 (.int .i32 0) 1 4 hsl hi hz0 hz1 hz2 rfl (by decide) _ _ _ rfl (HO.out.alloc _) ⟨wr.heap.size, 0, none⟩ 1 1 [_] rfl rfl (cell_one_new _ _ _) (by simp [Value.oneCell']) H63.out HBY.out (HBASE.out _) ?_; intro v' w1 hown1 hgrow1 _; have HO1 := Lib.hid hown1; have HG1 := Lib.hid hgrow1; clear hown1 hgrow1)
          | (at_builtin; refine wpList_append_own _ rfl (.tmp 16) (.tmp 17) 22 rfl w.heap.size 21 i0 (.int .i32 0) 1 4 hsl hi hz0 hz1 hz2 rfl (by decide) _ _ _ rfl (HO.out.alloc _) ⟨wr.heap.size, 0, none⟩ 1 1 [_] rfl rfl (cell_one_new _ _ _) (by simp [Value.oneCell']) H63.out HBY.out (HBASE.out _) ?_; intro v' w1 hown1 hgrow1 _; have HO1 := Lib.hid hown1; have HG1 := Lib.hid hgrow1; clear hown1 hgrow1))
        go_roundw
        case rel => exact ⟨k + 1, by omega, by go_num, own_step HO1.out (by rw [HX.out]; rfl) (by omega), round_below HB.out HO.out HG1.out⟩
        case measure => simp [intOf]; omega
      case inr.inr.inr.inr.inr =>
        go_wp2_with (first
          | (at_builtin; refine wpList_append_own _ rfl (.tmp 50) (.tmp 52) 22 rfl w.heap.size 21 i0 (.int .i32 0) 1 4 hsl hi hz0 hz1 hz2 rfl (by decide) _ _ _ rfl (HO.out.alloc _) ⟨wr.heap.size, 0, none⟩ 1 1 [_] rfl rfl (cell_one_new _ _ _) (by simp [Value.oneCell']) H63.out HBY.out (HBASE.out _) ?_; intro v' w1 hown1 hgrow1 _; have HO1 := Lib.hid hown1; have HG1 := Lib.hid hgrow1; clear hown1 hgrow1)
          | (at_builtin; refine wpList_append_own _ rfl (.tmp 16) (.tmp 17) 22 rfl w.heap.size 21 i0 (.int .i32 0) 1 4 hsl hi hz0 hz1 hz2 rfl (by decide) _ _ _ rfl (HO.out.alloc _) ⟨wr.heap.size, 0, none⟩ 1 1 [_] rfl rfl (cell_one_new _ _ _) (by simp [Value.oneCell']) H63.out HBY.out (HBASE.out _) ?_; intro v' w1 hown1 hgrow1 _; have HO1 := Lib.hid hown1; have HG1 := Lib.hid hgrow1; clear hown1 hgrow1))
        go_roundw
        case rel => exact ⟨k + 1, by omega, by go_num, own_step HO1.out (by rw [HX.out]; rfl) (by omega), round_below HB.out HO.out HG1.out⟩
        case measure => simp [intOf]; omega
      all_goals
        have b9 : (x == 9) = false := by simp; omega
        have b10 : (x == 10) = false := by simp; omega
        go_wp2_with (first
          | (at_builtin; refine wpList_append_own _ rfl (.tmp 50) (.tmp 52) 22 rfl w.heap.size 21 i0 (.int .i32 0) 1 4 hsl hi hz0 hz1 hz2 rfl (by decide) _ _ _ rfl (HO.out.alloc _) ⟨wr.heap.size, 0, none⟩ 1 1 [_] rfl rfl (cell_one_new _ _ _) (by simp [Value.oneCell']) H63.out HBY.out (HBASE.out _) ?_; intro v' w1 hown1 hgrow1 _; have HO1 := Lib.hid hown1; have HG1 := Lib.hid hgrow1; clear hown1 hgrow1)
          | (at_builtin; refine wpList_append_own _ rfl (.tmp 16) (.tmp 17) 22 rfl w.heap.size 21 i0 (.int .i32 0) 1 4 hsl hi hz0 hz1 hz2 rfl (by decide) _ _ _ rfl (HO.out.alloc _) ⟨wr.heap.size, 0, none⟩ 1 1 [_] rfl rfl (cell_one_new _ _ _) (by simp [Value.oneCell']) H63.out HBY.out (HBASE.out _) ?_; intro v' w1 hown1 hgrow1 _; have HO1 := Lib.hid hown1; have HG1 := Lib.hid hgrow1; clear hown1 hgrow1))
        go_roundw
        case rel => exact ⟨k + 1, by omega, by go_num, own_step HO1.out (by rw [HX.out]; unfold letR; first | (rw [if_pos (by omega)]; done) | (rw [if_neg (by omega)]; done)) (by omega), round_below HB.out HO.out HG1.out⟩
        case measure => simp [intOf]; omega
    · go_wp2_with fail
      obtain rfl : k = n := by omega
      rw [← hl, List.take_length] at hown
      go_ret
      exact ⟨_, rfl, hown, hb⟩
end Go.Proofs.YtfgekdefnbohbaaDoor.U
