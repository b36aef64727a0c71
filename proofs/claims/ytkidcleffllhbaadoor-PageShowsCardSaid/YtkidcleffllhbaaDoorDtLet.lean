/- redraftlaw27.pick and letters. -/
import Derived.Test.YtkidcleffllhbaaDoorUBase
import Derived.Test.YtkidcleffllhbaaDoorUOps
import Derived.OwnWalk
import Derived.Laws.Cover4
namespace Go.Proofs.YtkidcleffllhbaaDoor.Dt
open Go.RowKit Go.Proofs.YtkidcleffllhbaaDoor.Txt Go.Proofs.YtkidcleffllhbaaDoor.U
set_option linter.unusedVariables false
set_option linter.unusedSimpArgs false

set_option maxRecDepth 100000 in
set_option maxHeartbeats 4000000 in
theorem pick_any (t n : Int) (w : World) (hn : 0 < n ∧ n ≤ 1000000) : Calls Tryd.prog 55 #[.int .i64 t, .int .i64 n] w fun e w' => (∃ r, e = .returned (.int .i64 r) ∧ 0 ≤ r ∧ r < n) ∧ w' = w := by
  have hz : ¬ n = 0 := by omega
  have h1 : -n < t.tmod n ∧ t.tmod n < n := ⟨by have := Int.lt_tmod_of_pos t hn.1; omega, Int.tmod_lt_of_pos t hn.1⟩
  have e1 : IntKind.i64.wrap (t.tmod n) = t.tmod n := IntWalk.i64_in _ (by omega)
  have e2 : IntKind.i64.wrap (t.tmod n + n) = t.tmod n + n := IntWalk.i64_in _ (by omega)
  by_cases h : t.tmod n < 0
  · go_enter Tryd.func55, Tryd.ntmps55
    go_wp2_with fail
    go_ret
    exact ⟨⟨_, rfl, by omega, by omega⟩, rfl⟩
  · go_enter Tryd.func55, Tryd.ntmps55
    go_wp2_with fail
    go_ret
    exact ⟨⟨_, rfl, by omega, by omega⟩, rfl⟩
theorem i32s_snoc (l : List Int) (y : Int) : i32s l ++ [.int .i32 y] = i32s (l ++ [y]) := by simp [i32s]
theorem txt_plain {r : Int} (h : r = 10 ∨ (32 ≤ r ∧ r ≤ 126) ∨ (161 ≤ r ∧ r ≤ 55295)) : TxtRune r := by
  have := txt_letR r
  unfold letR at this
  rwa [if_pos (by omega)] at this
theorem txt_snoc {l : List Int} {y : Int} (h : ∀ r ∈ l, TxtRune r) (hy : TxtRune y) : ∀ r ∈ l ++ [y], TxtRune r := fun r hr => by
  rcases List.mem_append.1 hr with h1 | h1
  · exact h r h1
  · rw [List.mem_singleton.1 h1]; exact hy
/-- What letters hands back. -/
def LettersRes (w : World) (most : Nat) (e : Ending) (w' : World) : Prop :=
  ∃ v l, e = .returned v ∧ w'.ownsRow w.heap.size 21 1 v l.length (i32s l) ∧ l.length ≤ most ∧ (∀ r ∈ l, TxtRune r) ∧ Below w.heap.size w w'
set_option maxRecDepth 100000 in
set_option maxHeartbeats 4000000 in
theorem letters_any (A : Option Addr) (n c : Nat) (xs : List Int) (most : Nat) (w : World) (hm : most ≤ 1000) (hr : Reads32 w A n xs) :
    Calls Tryd.prog 26 #[.slice A n c, .int .i64 most] w (LettersRes w most) := by
  obtain ⟨hl, hn, hr⟩ := hr
  obtain ⟨i0, hi, hz0, hz1, hz2⟩ := info_parts info32
  have hsl := Tryd.underlying22
  have HHR := Lib.hid hr
  clear hr
  go_enter Tryd.func26, Tryd.ntmps26
  go_wp2_with fail
  go_loopw [5, 6] (fun v i wr => ∃ (k : Nat) (l : List Int), k ≤ n ∧ k ≤ most ∧ i = .int .i64 k ∧ l.length = k ∧ wr.ownsRow w.heap.size 21 1 v k (i32s l) ∧ (∀ r ∈ l, TxtRune r) ∧ Below w.heap.size w wr) (fun _ i _ => n - (intOf i).toNat)
  case atStart => exact ⟨0, [], Nat.zero_le _, Nat.zero_le _, rfl, rfl, ⟨rfl, .inl ⟨rfl, rfl⟩⟩, (fun r hr => by cases hr), Below.refl _ _⟩
  case round =>
    obtain ⟨k, l, hk, hk2, rfl, hlk, hown, htx, hb⟩ := hrel
    have HO := Lib.hid hown
    have HB := Lib.hid hb
    have HT := Lib.hid htx
    have HLK := Lib.hid hlk
    have hbase : ∀ o, w.heap.size ≤ (wr.alloc o).heap.size := fun o => by have := HB.out.size; simp; omega
    have HBASE := Lib.hid hbase
    have H63 := Lib.hid (show k + 1 ≤ maxLen by unfold maxLen; omega)
    have HBY := Lib.hid (show (k + 1) * 4 ≤ 140737488355328 by omega)
    clear hown hb htx hlk hbase
    by_cases hlt : k < n
    · by_cases h256 : k < most
      · have h256' : decide (k < most) = true := by simp; omega
        obtain ⟨ad, rfl, hbl, hcs⟩ := HHR.out (by omega)
        have hcell := hcs k hlt
        rw [← HB.out.cell (by rw [add_block]; exact hbl)] at hcell
        generalize xs.getD k 0 = x at hcell
        clear hcs
        have HC : x = 10 ∨ (x < 10 ∨ (10 < x ∧ x < 32)) ∨ (32 ≤ x ∧ x ≤ 126) ∨ (126 < x ∧ x < 161) ∨ (161 ≤ x ∧ x ≤ 55295) ∨ 55295 < x := by omega
        rcases HC with rfl | h | h | h | h | h
        case inl =>
          go_wp2_with (at_builtin; refine wpList_append_own _ rfl (.tmp 41) (.tmp 43) 22 rfl w.heap.size 21 i0 (.int .i32 0) 1 4 hsl hi hz0 hz1 hz2 rfl (by decide) _ _ _ rfl (HO.out.alloc _) ⟨wr.heap.size, 0, none⟩ 1 1 [_] rfl rfl (cell_one_new _ _ _) (by simp [Value.oneCell']) H63.out HBY.out (HBASE.out _) ?_; intro v' w1 hown1 hgrow1 _; have HO1 := Lib.hid hown1; have HG1 := Lib.hid hgrow1; clear hown1 hgrow1)
          go_roundw
          case rel => exact ⟨k + 1, l ++ [10], by omega, by omega, by go_num, by rw [List.length_append, HLK.out]; rfl, by have := HO1.out; rwa [i32s_snoc] at this, txt_snoc HT.out (txt_plain (.inl rfl)), round_below HB.out HO.out HG1.out⟩
          case measure => simp [intOf]; omega
        all_goals
          have b10 : (x != 10) = true := by simp; omega
          go_wp2_with (at_builtin; refine wpList_append_own _ rfl (.tmp 41) (.tmp 43) 22 rfl w.heap.size 21 i0 (.int .i32 0) 1 4 hsl hi hz0 hz1 hz2 rfl (by decide) _ _ _ rfl (HO.out.alloc _) ⟨wr.heap.size, 0, none⟩ 1 1 [_] rfl rfl (cell_one_new _ _ _) (by simp [Value.oneCell']) H63.out HBY.out (HBASE.out _) ?_; intro v' w1 hown1 hgrow1 _; have HO1 := Lib.hid hown1; have HG1 := Lib.hid hgrow1; clear hown1 hgrow1)
          go_roundw
          case rel => exact ⟨k + 1, l ++ [_], by omega, by omega, by go_num, by rw [List.length_append, HLK.out]; rfl, by have := HO1.out; rwa [i32s_snoc] at this, txt_snoc HT.out (txt_plain (by omega)), round_below HB.out HO.out HG1.out⟩
          case measure => simp [intOf]; omega
      · have h256' : decide (k < most) = false := by simp; omega
        go_wp2_with fail
        go_ret
        exact ⟨_, l, rfl, by rw [HLK.out]; exact HO.out, by have := HLK.out; omega, HT.out, HB.out⟩
    · have hkn : decide (k < n) = false := by simp; omega
      go_wp2_with fail
      go_ret
      exact ⟨_, l, rfl, by rw [HLK.out]; exact HO.out, by have := HLK.out; omega, HT.out, HB.out⟩
end Go.Proofs.YtkidcleffllhbaaDoor.Dt
