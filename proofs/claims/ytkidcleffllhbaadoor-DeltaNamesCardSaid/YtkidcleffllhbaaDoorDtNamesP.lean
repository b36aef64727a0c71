/- The closed texts of DeltaNames: 2048 runes, 2047 feeds. -/
import Derived.Test.YtkidcleffllhbaaDoorDtLong
import Derived.Test.YtkidcleffllhbaaDoorDtShortP
import Derived.Test.YtkidcleffllhbaaDoorUConv
namespace Go.Proofs.YtkidcleffllhbaaDoor.Dt
open Go.RowKit Go.Proofs Go.Proofs.YtkidcleffllhbaaDoor.U Go.Proofs.YtkidcleffllhbaaDoor.Txt
set_option linter.unusedVariables false
set_option linter.unusedSimpArgs false

/-- n feeds. -/
def feeds (n : Nat) : ByteArray := ⟨(List.replicate n (10 : UInt8)).toArray⟩
theorem feeds_list (n : Nat) : (feeds n).data.toList = List.replicate n 10 := rfl
theorem feeds_size (n : Nat) : (feeds n).size = n := by simp [feeds, ByteArray.size]
theorem feeds_enc : ∀ n : Nat, enc (List.replicate n (10 : Int)) = List.replicate n (10 : UInt8)
  | 0 => rfl
  | n + 1 => by rw [List.replicate_succ, List.replicate_succ, enc_cons, feeds_enc n]; rfl
theorem feeds_text (n : Nat) (h : n ≤ 1000000) : Text (feeds n) (List.replicate n 10) := by
  refine ⟨by rw [feeds_list, feeds_enc], fun r hr => ?_, by rw [feeds_size]; omega⟩
  rw [List.eq_of_mem_replicate hr]
  exact ⟨by decide, by decide⟩
theorem feeds_snoc (n : Nat) : feeds n ++ ⟨#[10]⟩ = feeds (n + 1) := by
  apply ByteArray.ext
  rw [← Array.toList_inj]
  rw [ByteArray.data_append, Array.toList_append, feeds_list, feeds_list, List.replicate_succ']
theorem feeds_count : ∀ n : Nat, Lib.count (List.replicate n (10 : UInt8)) [10] = n
  | 0 => by decide
  | n + 1 => by
    rw [Lib.count_hit (i := 0) (by simp) (by rw [List.replicate_succ]; simp [Lib.index])]
    rw [show (List.replicate (n + 1) (10 : UInt8)).drop (0 + [(10 : UInt8)].length) = List.replicate n 10 by simp, feeds_count n]; omega
theorem feeds_lines (n : Nat) : (linesB (feeds n)).length = n + 1 := by
  rw [lines_len]
  show Lib.count (feeds n).data.toList [10] + 1 = _
  rw [feeds_list, feeds_count]
/-- A text of few plain letters. -/
theorem text_lit (rs : List Int) (S : ByteArray) (h : enc rs = S.data.toList) (ok : rs.all (fun r => Utf8.valid r && letInB r) = true) (hl : S.size ≤ 100) : Text S rs := by
  refine ⟨h.symm, fun r hr => ?_, by omega⟩
  have := List.all_eq_true.1 ok r hr
  simpa [TxtRune] using this
theorem text_x : Text ⟨#[120]⟩ [120] := text_lit _ _ (by decide) (by decide) (by decide)
theorem text_a : Text ⟨#[97]⟩ [97] := text_lit _ _ (by decide) (by decide) (by decide)
theorem text_b : Text ⟨#[98]⟩ [98] := text_lit _ _ (by decide) (by decide) (by decide)
theorem text_old : Text ⟨#[97, 98, 99, 97, 98, 98, 97]⟩ [97, 98, 99, 97, 98, 98, 97] := text_lit _ _ (by decide) (by decide) (by decide)
theorem text_new : Text ⟨#[99, 98, 97, 98, 97, 99]⟩ [99, 98, 97, 98, 97, 99] := text_lit _ _ (by decide) (by decide) (by decide)
theorem lines_x : (linesB ⟨#[120]⟩).length = 1 := by rw [lines_len]; decide
theorem names_splices : (splL [97, 98, 99, 97, 98, 98, 97] [99, 98, 97, 98, 97, 99]).length = 4 ∧ splCost (splL [97, 98, 99, 97, 98, 98, 97] [99, 98, 97, 98, 97, 99]) = 5 := by decide +kernel
theorem lines_a : linesB ⟨#[97]⟩ = [⟨#[97]⟩] := by decide +kernel
theorem lines_b : linesB ⟨#[98]⟩ = [⟨#[98]⟩] := by decide +kernel
theorem names_hunks : (hunksL (linesB ⟨#[97]⟩) (linesB ⟨#[98]⟩) 0).length = 1 := by rw [lines_a, lines_b]; decide +kernel
/-- The long text of runes. -/
theorem big_text (n : Nat) (h : n ≤ 1000000) : Text (Str (List.replicate n 233)) (List.replicate n 233) := text_str (fun r hr => by rw [List.eq_of_mem_replicate hr]; exact ⟨by decide, by decide⟩) (by simp; omega)
theorem str_y : Str [121] = ⟨#[121]⟩ := by decide
theorem big_y (n : Nat) (h : n ≤ 1000000) : Text (Str (List.replicate n 233) ++ ⟨#[121]⟩) (List.replicate n 233 ++ [121]) := by
  rw [← str_y, ← show Str (List.replicate n 233 ++ [121]) = Str (List.replicate n 233) ++ Str [121] from by
    apply ByteArray.ext
    rw [← Array.toList_inj]
    rw [ByteArray.data_append, Array.toList_append, str_list, str_list, str_list, enc_append]]
  refine text_str (fun r hr => ?_) (by simp; omega)
  rcases List.mem_append.1 hr with hr | hr
  · rw [List.eq_of_mem_replicate hr]; exact ⟨by decide, by decide⟩
  · rw [List.mem_singleton.1 hr]; exact ⟨by decide, by decide⟩
end Go.Proofs.YtkidcleffllhbaaDoor.Dt
