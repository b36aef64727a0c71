/- Lists of ranges in own memory. -/
import Derived.Test.YtkdhomiieenfnaaDoorXLm3
import Derived.Laws.OwnMore
namespace Go.Proofs.YtkdhomiieenfnaaDoor.O
open Go.RowKit Go.Proofs Go.Proofs.YtkdhomiieenfnaaDoor.U Go.Proofs.YtkdhomiieenfnaaDoor.Txt
set_option linter.unusedVariables false
set_option linter.unusedSimpArgs false

def rsCells (rs : List (Int × Int)) : List Value := rs.flatMap fun r => [.int .i64 r.1, .int .i64 r.2]
theorem rsCells_len (rs : List (Int × Int)) : (rsCells rs).length = rs.length * 2 := by
  induction rs with
  | nil => rfl
  | cons r rs ih => simp only [rsCells, List.flatMap_cons, List.length_append, List.length_cons, List.length_nil] at ih ⊢; omega
theorem rsCells_snoc (rs : List (Int × Int)) (a b : Int) : rsCells (rs ++ [(a, b)]) = rsCells rs ++ [.int .i64 a, .int .i64 b] := by simp [rsCells]
theorem rsCells_get : ∀ (rs : List (Int × Int)) (j : Nat) (h : j < rs.length), (rsCells rs)[j * 2]? = some (.int .i64 rs[j].1) ∧ (rsCells rs)[j * 2 + 1]? = some (.int .i64 rs[j].2)
  | r :: rs, 0, _ => ⟨rfl, rfl⟩
  | r :: rs, j + 1, h => by
    have := rsCells_get rs j (by simpa using h)
    simp only [rsCells, List.flatMap_cons] at this ⊢
    refine ⟨?_, ?_⟩
    · rw [List.getElem?_append_right (by simp; omega)]
      simpa [show (j + 1) * 2 - 2 = j * 2 by omega] using this.1
    · rw [List.getElem?_append_right (by simp; omega)]
      simpa [show (j + 1) * 2 + 1 - 2 = j * 2 + 1 by omega] using this.2
theorem infoRg : (Tryd.prog.info? 110).map (fun i => (i.zero, i.size, i.bytes)) = some (some (.agg #[.int .i64 0, .int .i64 0]), 2, 16) := by kernel_rfl
theorem rsCells_put (ys : List (Int × Int)) (a h u : Int) : (rsCells (ys ++ [(a, h)])).set (ys.length * 2 + 1) (.int .i64 u) = rsCells (ys ++ [(a, u)]) := by
  rw [rsCells_snoc, rsCells_snoc]
  have := rsCells_len ys
  rw [List.set_append_right _ _ (by omega), show ys.length * 2 + 1 - (rsCells ys).length = 1 by omega]
  rfl
end Go.Proofs.YtkdhomiieenfnaaDoor.O
