/- redraftlaw04.letters. -/
import Derived.Test.YtnippaaiopgnaaaDoorUBase
import Derived.Test.YtnippaaiopgnaaaDoorUOps
import Derived.OwnWalk
import Derived.Laws.Cover4
namespace Go.Proofs.YtnippaaiopgnaaaDoor.O
open Go.RowKit Go.Proofs.YtnippaaiopgnaaaDoor.Txt Go.Proofs.YtnippaaiopgnaaaDoor.U
set_option linter.unusedVariables false
set_option linter.unusedSimpArgs false

theorem i32s_snoc (l : List Int) (y : Int) : i32s l ++ [.int .i32 y] = i32s (l ++ [y]) := by simp [i32s]
theorem txt_plain {r : Int} (h : r = 10 ∨ (32 ≤ r ∧ r ≤ 126) ∨ (161 ≤ r ∧ r ≤ 55295)) : TxtRune r := by
  have := txt_letR r
  unfold letR at this
  rwa [if_pos (by omega)] at this
theorem txt_snoc {l : List Int} {y : Int} (h : ∀ r ∈ l, TxtRune r) (hy : TxtRune y) : ∀ r ∈ l ++ [y], TxtRune r := fun r hr => by
  rcases List.mem_append.1 hr with h1 | h1
  · exact h r h1
  · rw [List.mem_singleton.1 h1]; exact hy
/-- What letters hands back. -/
def LettersRes (w : World) (e : Ending) (w' : World) : Prop :=
  ∃ v l, e = .returned v ∧ w'.ownsRow w.heap.size 21 1 v l.length (i32s l) ∧ 1 ≤ l.length ∧ l.length ≤ 256 ∧ (∀ r ∈ l, TxtRune r) ∧ Below w.heap.size w w'
set_option maxRecDepth 100000 in
set_option maxHeartbeats 4000000 in
theorem letters_any (A : Option Addr) (n c : Nat) (xs : List Int) (w : World) (hr : Reads32 w A n xs) :
    Calls Tryd.prog 24 #[.slice A n c] w (LettersRes w) := by
  obtain ⟨hl, hn, hr⟩ := hr
  obtain ⟨i0, hi, hz0, hz1, hz2⟩ := info_parts info32
  have hsl := Tryd.underlying37
  have HHR := Lib.hid hr
  clear hr
  go_enter Tryd.func24, Tryd.ntmps24
  go_wp2_with fail
  go_loopw [3, 4] (fun v i wr => ∃ (k : Nat) (l : List Int), k ≤ n ∧ k ≤ 256 ∧ i = .int .i64 k ∧ l.length = k ∧ wr.ownsRow w.heap.size 21 1 v k (i32s l) ∧ (∀ r ∈ l, TxtRune r) ∧ Below w.heap.size w wr) (fun _ i _ => n - (intOf i).toNat)
  case atStart => exact ⟨0, [], Nat.zero_le _, by omega, rfl, rfl, ⟨rfl, .inl ⟨rfl, rfl⟩⟩, (fun r hr => by cases hr), Below.refl _ _⟩
  case round =>
    obtain ⟨k, l, hk, hk2, rfl, hlk, hown, htx, hb⟩ := hrel
    have HO := Lib.hid hown
    have HB := Lib.hid hb
    have HT := Lib.hid htx
    have HLK := Lib.hid hlk
    have hbase : ∀ o, w.heap.size ≤ (wr.alloc o).heap.size := fun o => by have := HB.out.size; simp; omega
    have HBASE := Lib.hid hbase
    have H63 := Lib.hid (show k + 1 ≤ maxLen by unfold maxLen; omega)
    have HBY := Lib.hid (show (k + 1) * 4 ≤ 140737488355328 by omega)
    clear hown hb htx hlk hbase
    by_cases hlt : k < n
    · by_cases h256 : k < 256
      · have h256' : decide ((k : Int) < 256) = true := by simp; omega
        obtain ⟨ad, rfl, hbl, hcs⟩ := HHR.out (by omega)
        have hcell := hcs k hlt
        rw [← HB.out.cell (by rw [add_block]; exact hbl)] at hcell
        generalize xs.getD k 0 = x at hcell
        clear hcs
        have HC : x = 10 ∨ (x < 10 ∨ (10 < x ∧ x < 32)) ∨ (32 ≤ x ∧ x ≤ 126) ∨ (126 < x ∧ x < 161) ∨ (161 ≤ x ∧ x ≤ 55295) ∨ 55295 < x := by omega
        rcases HC with rfl | h | h | h | h | h
        case inl =>
          go_wp2_with (at_builtin; refine wpList_append_own _ rfl (.tmp 38) (.tmp 40) 37 rfl w.heap.size 21 i0 (.int .i32 0) 1 4 hsl hi hz0 hz1 hz2 rfl (by decide) _ _ _ rfl (HO.out.alloc _) ⟨wr.heap.size, 0, none⟩ 1 1 [_] rfl rfl (cell_one_new _ _ _) (by simp [Value.oneCell']) H63.out HBY.out (HBASE.out _) ?_; intro v' w1 hown1 hgrow1 _; have HO1 := Lib.hid hown1; have HG1 := Lib.hid hgrow1; clear hown1 hgrow1)
          go_roundw
          case rel => exact ⟨k + 1, l ++ [10], by omega, by omega, by go_num, by rw [List.length_append, HLK.out]; rfl, by have := HO1.out; rwa [i32s_snoc] at this, txt_snoc HT.out (txt_plain (.inl rfl)), round_below HB.out HO.out HG1.out⟩
          case measure => simp [intOf]; omega
        all_goals
          have b10 : (x != 10) = true := by simp; omega
          go_wp2_with (at_builtin; refine wpList_append_own _ rfl (.tmp 38) (.tmp 40) 37 rfl w.heap.size 21 i0 (.int .i32 0) 1 4 hsl hi hz0 hz1 hz2 rfl (by decide) _ _ _ rfl (HO.out.alloc _) ⟨wr.heap.size, 0, none⟩ 1 1 [_] rfl rfl (cell_one_new _ _ _) (by simp [Value.oneCell']) H63.out HBY.out (HBASE.out _) ?_; intro v' w1 hown1 hgrow1 _; have HO1 := Lib.hid hown1; have HG1 := Lib.hid hgrow1; clear hown1 hgrow1)
          go_roundw
          case rel => exact ⟨k + 1, l ++ [_], by omega, by omega, by go_num, by rw [List.length_append, HLK.out]; rfl, by have := HO1.out; rwa [i32s_snoc] at this, txt_snoc HT.out (txt_plain (by omega)), round_below HB.out HO.out HG1.out⟩
          case measure => simp [intOf]; omega
      · have h256' : decide ((k : Int) < 256) = false := by simp; omega
        have hk0 : ¬ (k : Int) = 0 := by omega
        have hk1 : ((k : Int) == 0) = false := by simp; omega
        obtain ⟨A', cap, rfl⟩ : ∃ A' cap, u3 = .slice A' k cap := by
          rcases HO.out.2 with ⟨h, h0⟩ | ⟨g, cap, cur, hv, _⟩
          · exact ⟨_, _, by rw [h, h0]⟩
          · exact ⟨_, cap, hv⟩
        go_wp2_with fail
        go_ret
        exact ⟨_, l, rfl, by rw [HLK.out]; exact HO.out, by have := HLK.out; omega, by have := HLK.out; omega, HT.out, HB.out⟩
    · have hkn : decide (k < n) = false := by simp; omega
      obtain ⟨A', cap, hu⟩ : ∃ A' cap, u3 = .slice A' k cap := by
        rcases HO.out.2 with ⟨h, h0⟩ | ⟨g, cap, cur, hv, _⟩
        · exact ⟨_, _, by rw [h, h0]⟩
        · exact ⟨_, cap, hv⟩
      subst hu
      by_cases h0 : k = 0
      · subst h0
        obtain rfl : l = [] := List.length_eq_zero_iff.1 HLK.out
        go_wp2_with (at_builtin; refine wpList_append_own _ rfl (.tmp 45) (.tmp 46) 37 rfl w.heap.size 21 i0 (.int .i32 0) 1 4 hsl hi hz0 hz1 hz2 rfl (by decide) _ _ _ rfl (HO.out.alloc _) ⟨wr.heap.size, 0, none⟩ 1 1 [_] rfl rfl (cell_one_new _ _ _) (by simp [Value.oneCell']) H63.out HBY.out (HBASE.out _) ?_; intro v' w1 hown1 hgrow1 _; have HO1 := Lib.hid hown1; have HG1 := Lib.hid hgrow1; clear hown1 hgrow1)
        go_ret
        exact ⟨_, [120], rfl, HO1.out, by decide, by decide, (fun r hr => by rw [List.mem_singleton.1 hr]; exact txt_plain (by omega)), round_below HB.out HO.out HG1.out⟩
      · have hk1 : ((k : Int) == 0) = false := by simp; omega
        have hk2' : ¬ (k : Int) = 0 := by omega
        go_wp2_with fail
        go_ret
        exact ⟨_, l, rfl, by rw [HLK.out]; exact HO.out, by have := HLK.out; omega, by have := HLK.out; omega, HT.out, HB.out⟩
end Go.Proofs.YtnippaaiopgnaaaDoor.O
