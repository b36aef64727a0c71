/- Normalised lists of ranges, in plain Lean. -/
import Derived.Test.YtnippaaiopgnaaaDoorOpC
namespace Go.Proofs.YtnippaaiopgnaaaDoor.O
open Go.RowKit Go.Proofs
set_option linter.unusedVariables false

/-- Each range begins behind the end of the one ahead, and is not empty. -/
def Up : Int → List (Int × Int) → Prop
  | _, [] => True
  | p, r :: rs => p < r.1 ∧ r.1 < r.2 ∧ Up r.2 rs
def lastHi : Int → List (Int × Int) → Int
  | p, [] => p
  | _, r :: rs => lastHi r.2 rs
theorem up_snoc : ∀ (p : Int) (rs : List (Int × Int)) (a b : Int), Up p (rs ++ [(a, b)]) ↔ Up p rs ∧ lastHi p rs < a ∧ a < b
  | p, [], a, b => by simp [Up, lastHi]
  | p, r :: rs, a, b => by
    have := up_snoc r.2 rs a b
    simp only [List.cons_append, Up, lastHi, this]
    constructor
    · rintro ⟨h1, h2, h3, h4, h5⟩; exact ⟨⟨h1, h2, h3⟩, h4, h5⟩
    · rintro ⟨⟨h1, h2, h3⟩, h4, h5⟩; exact ⟨h1, h2, h3, h4, h5⟩
theorem lastHi_snoc : ∀ (p : Int) (rs : List (Int × Int)) (a b : Int), lastHi p (rs ++ [(a, b)]) = b
  | p, [], a, b => rfl
  | p, r :: rs, a, b => by simp only [List.cons_append, lastHi]; exact lastHi_snoc r.2 rs a b
theorem up_low : ∀ {p : Int} {rs : List (Int × Int)}, Up p rs → ∀ r ∈ rs, p < r.1 ∧ r.1 < r.2
  | p, r :: rs, h, x, hx => by
    rcases List.mem_cons.1 hx with rfl | hx
    · exact ⟨h.1, h.2.1⟩
    · have := up_low h.2.2 x hx; exact ⟨by have := h.1; have := h.2.1; omega, this.2⟩
theorem span_some : ∀ {q : Int} {rs : List (Int × Int)}, Up q rs → 0 ≤ q → (∀ r ∈ rs, r.2 ≤ 1048576) → spanE (some q) rs = 0
  | q, [], _, _, _ => rfl
  | q, (lo, hi) :: rs, h, hq, hm => by
    have h1 : q < lo := h.1
    have h2 : lo < hi := h.2.1
    have h3 := hm (lo, hi) (by simp)
    simp only at h3
    simp only [spanE]
    rw [if_neg (by omega), if_neg (by simp; omega)]
    exact span_some h.2.2 (by omega) (fun r hr => hm r (List.mem_cons_of_mem _ hr))
theorem span_up : ∀ {rs : List (Int × Int)}, Up (-1) rs → (∀ r ∈ rs, r.2 ≤ 1048576) → spanE none rs = 0
  | [], _, _ => rfl
  | (lo, hi) :: rs, h, hm => by
    have h1 : -1 < lo := h.1
    have h2 : lo < hi := h.2.1
    have h3 := hm (lo, hi) (by simp)
    simp only at h3
    simp only [spanE]
    rw [if_neg (by omega), if_neg (by simp)]
    exact span_some h.2.2 (by omega) (fun r hr => hm r (List.mem_cons_of_mem _ hr))
end Go.Proofs.YtnippaaiopgnaaaDoor.O
