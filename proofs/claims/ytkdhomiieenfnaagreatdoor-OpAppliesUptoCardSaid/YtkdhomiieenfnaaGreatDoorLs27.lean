/- Lists of ranges in own memory. Normalised lists of ranges, in plain Lean. -/
import Derived.Test.YtkdhomiieenfnaaGreatDoorLs2
import Derived.Laws.OwnMore
import Derived.Test.YtkdhomiieenfnaaGreatDoorOpC
namespace Go.Proofs.YtkdhomiieenfnaaGreatDoor.O
open Go.RowKit Go.Proofs Go.Proofs.YtkdhomiieenfnaaGreatDoor.U Go.Proofs.YtkdhomiieenfnaaGreatDoor.Txt
set_option linter.unusedVariables false
set_option linter.unusedSimpArgs false

def rsCells (rs : List (Int × Int)) : List Value := rs.flatMap fun r => [.int .i64 r.1, .int .i64 r.2]
theorem rsCells_len (rs : List (Int × Int)) : (rsCells rs).length = rs.length * 2 := by
  induction rs with
  | nil => rfl
  | cons r rs ih => simp only [rsCells, List.flatMap_cons, List.length_append, List.length_cons, List.length_nil] at ih ⊢; omega
theorem rsCells_snoc (rs : List (Int × Int)) (a b : Int) : rsCells (rs ++ [(a, b)]) = rsCells rs ++ [.int .i64 a, .int .i64 b] := by simp [rsCells]
theorem rsCells_get : ∀ (rs : List (Int × Int)) (j : Nat) (h : j < rs.length), (rsCells rs)[j * 2]? = some (.int .i64 rs[j].1) ∧ (rsCells rs)[j * 2 + 1]? = some (.int .i64 rs[j].2)
  | r :: rs, 0, _ => ⟨rfl, rfl⟩
  | r :: rs, j + 1, h => by
    have := rsCells_get rs j (by simpa using h)
    simp only [rsCells, List.flatMap_cons] at this ⊢
    refine ⟨?_, ?_⟩
    · rw [List.getElem?_append_right (by simp; omega)]
      simpa [show (j + 1) * 2 - 2 = j * 2 by omega] using this.1
    · rw [List.getElem?_append_right (by simp; omega)]
      simpa [show (j + 1) * 2 + 1 - 2 = j * 2 + 1 by omega] using this.2
theorem infoRg : (Tryz.prog.info? 102).map (fun i => (i.zero, i.size, i.bytes)) = some (some (.agg #[.int .i64 0, .int .i64 0]), 2, 16) := by kernel_rfl
theorem rsCells_put (ys : List (Int × Int)) (a h u : Int) : (rsCells (ys ++ [(a, h)])).set (ys.length * 2 + 1) (.int .i64 u) = rsCells (ys ++ [(a, u)]) := by
  rw [rsCells_snoc, rsCells_snoc]
  have := rsCells_len ys
  rw [List.set_append_right _ _ (by omega), show ys.length * 2 + 1 - (rsCells ys).length = 1 by omega]
  rfl
end Go.Proofs.YtkdhomiieenfnaaGreatDoor.O

namespace Go.Proofs.YtkdhomiieenfnaaGreatDoor.O
open Go.RowKit Go.Proofs
set_option linter.unusedVariables false

/-- Each range begins behind the end of the one ahead, and is not empty. -/
def Up : Int → List (Int × Int) → Prop
  | _, [] => True
  | p, r :: rs => p < r.1 ∧ r.1 < r.2 ∧ Up r.2 rs
def lastHi : Int → List (Int × Int) → Int
  | p, [] => p
  | _, r :: rs => lastHi r.2 rs
theorem up_snoc : ∀ (p : Int) (rs : List (Int × Int)) (a b : Int), Up p (rs ++ [(a, b)]) ↔ Up p rs ∧ lastHi p rs < a ∧ a < b
  | p, [], a, b => by simp [Up, lastHi]
  | p, r :: rs, a, b => by
    have := up_snoc r.2 rs a b
    simp only [List.cons_append, Up, lastHi, this]
    constructor
    · rintro ⟨h1, h2, h3, h4, h5⟩; exact ⟨⟨h1, h2, h3⟩, h4, h5⟩
    · rintro ⟨⟨h1, h2, h3⟩, h4, h5⟩; exact ⟨h1, h2, h3, h4, h5⟩
theorem lastHi_snoc : ∀ (p : Int) (rs : List (Int × Int)) (a b : Int), lastHi p (rs ++ [(a, b)]) = b
  | p, [], a, b => rfl
  | p, r :: rs, a, b => by simp only [List.cons_append, lastHi]; exact lastHi_snoc r.2 rs a b
theorem up_low : ∀ {p : Int} {rs : List (Int × Int)}, Up p rs → ∀ r ∈ rs, p < r.1 ∧ r.1 < r.2
  | p, r :: rs, h, x, hx => by
    rcases List.mem_cons.1 hx with rfl | hx
    · exact ⟨h.1, h.2.1⟩
    · have := up_low h.2.2 x hx; exact ⟨by have := h.1; have := h.2.1; omega, this.2⟩
theorem span_some : ∀ {q : Int} {rs : List (Int × Int)}, Up q rs → 0 ≤ q → (∀ r ∈ rs, r.2 ≤ 1048576) → spanE (some q) rs = 0
  | q, [], _, _, _ => rfl
  | q, (lo, hi) :: rs, h, hq, hm => by
    have h1 : q < lo := h.1
    have h2 : lo < hi := h.2.1
    have h3 := hm (lo, hi) (by simp)
    simp only at h3
    simp only [spanE]
    rw [if_neg (by omega), if_neg (by simp; omega)]
    exact span_some h.2.2 (by omega) (fun r hr => hm r (List.mem_cons_of_mem _ hr))
theorem span_up : ∀ {rs : List (Int × Int)}, Up (-1) rs → (∀ r ∈ rs, r.2 ≤ 1048576) → spanE none rs = 0
  | [], _, _ => rfl
  | (lo, hi) :: rs, h, hm => by
    have h1 : -1 < lo := h.1
    have h2 : lo < hi := h.2.1
    have h3 := hm (lo, hi) (by simp)
    simp only at h3
    simp only [spanE]
    rw [if_neg (by omega), if_neg (by simp)]
    exact span_some h.2.2 (by omega) (fun r hr => hm r (List.mem_cons_of_mem _ hr))
end Go.Proofs.YtkdhomiieenfnaaGreatDoor.O
