/- The table of common rows, in plain Lean. -/
import Derived.Test.YtkidcleffllhbaaDoorDtP
namespace Go.Proofs.YtkidcleffllhbaaDoor.Dt
set_option linter.unusedVariables false
set_option linter.unusedSimpArgs false
set_option linter.unusedSectionVars false
section
variable {α : Type} [DecidableEq α]

theorem idx_inj {w a b i j : Nat} (hb : b < w) (hj : j < w) (h : a * w + b = i * w + j) : a = i ∧ b = j := by
  have h1 : (a * w + b) / w = a := by rw [Nat.mul_comm, Nat.mul_add_div (by omega), Nat.div_eq_of_lt hb, Nat.add_zero]
  have h2 : (i * w + j) / w = i := by rw [Nat.mul_comm, Nat.mul_add_div (by omega), Nat.div_eq_of_lt hj, Nat.add_zero]
  have h3 : a = i := by rw [← h1, h, h2]
  subst h3
  exact ⟨rfl, by omega⟩
theorem idx_lt {n w a b : Nat} (ha : a ≤ n) (hb : b < w) : a * w + b < (n + 1) * w := by
  have := Nat.mul_le_mul_right w ha
  rw [Nat.add_mul]; omega
/-- The table when I rows, and J columns of the last of them, are left. -/
structure TabAt (x y : List α) (I J : Nat) (cs : List Nat) : Prop where
  len : cs.length = (x.length + 1) * (y.length + 1)
  at_ : ∀ a b, a ≤ x.length → b ≤ y.length → cs[a * (y.length + 1) + b]? = some (if I ≤ a ∨ (a + 1 = I ∧ J ≤ b) then com (x.drop a) (y.drop b) else 0)
theorem com_dropx (x y : List α) : com (x.drop x.length) y = 0 := by rw [List.drop_length, com_nil]
theorem com_dropy (x y : List α) : com x (y.drop y.length) = 0 := by rw [List.drop_length, com_nil']
theorem TabAt.new (x y : List α) : TabAt x y x.length y.length (List.replicate ((x.length + 1) * (y.length + 1)) 0) := by
  refine ⟨by simp, fun a b ha hb => ?_⟩
  rw [List.getElem?_replicate, if_pos (idx_lt ha (by omega))]
  by_cases h : x.length ≤ a ∨ (a + 1 = x.length ∧ y.length ≤ b)
  · rw [if_pos h]
    rcases h with h | ⟨_, h⟩
    · obtain rfl : a = x.length := by omega
      rw [com_dropx]
    · obtain rfl : b = y.length := by omega
      rw [com_dropy]
  · rw [if_neg h]
theorem TabAt.row {x y : List α} {I : Nat} {cs : List Nat} (h : TabAt x y (I + 1) 0 cs) : TabAt x y I y.length cs := by
  refine ⟨h.len, fun a b ha hb => ?_⟩
  rw [h.at_ a b ha hb]
  by_cases h1 : I ≤ a
  · rw [if_pos (by omega), if_pos (by omega)]
  · rw [if_neg (by omega)]
    by_cases h2 : a + 1 = I ∧ y.length ≤ b
    · rw [if_pos (by omega)]
      obtain rfl : b = y.length := by omega
      rw [com_dropy]
    · rw [if_neg (by omega)]
theorem TabAt.put {x y : List α} {I J : Nat} {cs : List Nat} (h : TabAt x y (I + 1) (J + 1) cs) (hi : I < x.length) (hj : J < y.length) : TabAt x y (I + 1) J (cs.set (I * (y.length + 1) + J) (com (x.drop I) (y.drop J))) := by
  refine ⟨by rw [List.length_set]; exact h.len, fun a b ha hb => ?_⟩
  by_cases e : a = I ∧ b = J
  · obtain ⟨rfl, rfl⟩ := e
    rw [List.getElem?_set_self (by rw [h.len]; exact idx_lt ha (by omega)), if_pos (by omega)]
  · rw [List.getElem?_set_ne (fun q => e (by have := idx_inj (by omega) (by omega) q; omega)), h.at_ a b ha hb]
    by_cases h1 : I + 1 ≤ a ∨ (a + 1 = I + 1 ∧ J + 1 ≤ b)
    · rw [if_pos h1, if_pos (by omega)]
    · rw [if_neg h1, if_neg (by omega)]
theorem TabAt.down {x y : List α} {I J : Nat} {cs : List Nat} (h : TabAt x y (I + 1) (J + 1) cs) (hi : I < x.length) (hj : J < y.length) :
    cs[(I + 1) * (y.length + 1) + J]? = some (com (x.drop (I + 1)) (y.drop J)) ∧ cs[I * (y.length + 1) + (J + 1)]? = some (com (x.drop I) (y.drop (J + 1))) ∧ cs[(I + 1) * (y.length + 1) + (J + 1)]? = some (com (x.drop (I + 1)) (y.drop (J + 1))) := by
  refine ⟨?_, ?_, ?_⟩
  · rw [h.at_ _ _ (by omega) (by omega), if_pos (by omega)]
  · rw [h.at_ _ _ (by omega) (by omega), if_pos (by omega)]
  · rw [h.at_ _ _ (by omega) (by omega), if_pos (by omega)]
theorem TabAt.here {x y : List α} {I J : Nat} {cs : List Nat} (h : TabAt x y (I + 1) (J + 1) cs) (hi : I < x.length) (hj : J < y.length) : cs[I * (y.length + 1) + J]? = some 0 := by
  rw [h.at_ _ _ (by omega) (by omega), if_neg (by omega)]
theorem TabAt.all {x y : List α} {cs : List Nat} {J : Nat} (h : TabAt x y 0 J cs) (a b : Nat) (ha : a ≤ x.length) (hb : b ≤ y.length) : cs[a * (y.length + 1) + b]? = some (com (x.drop a) (y.drop b)) := by
  rw [h.at_ a b ha hb, if_pos (by omega)]
theorem com_step_eq {x y : List α} {i j : Nat} (hi : i < x.length) (hj : j < y.length) (h : x[i]'hi = y[j]'hj) : com (x.drop i) (y.drop j) = com (x.drop (i + 1)) (y.drop (j + 1)) + 1 := by
  rw [List.drop_eq_getElem_cons hi, List.drop_eq_getElem_cons hj, h, com_eq]
theorem com_step_ne {x y : List α} {i j : Nat} (hi : i < x.length) (hj : j < y.length) (h : x[i]'hi ≠ y[j]'hj) : com (x.drop i) (y.drop j) = max (com (x.drop (i + 1)) (y.drop j)) (com (x.drop i) (y.drop (j + 1))) := by
  conv => lhs; rw [List.drop_eq_getElem_cons hi, List.drop_eq_getElem_cons hj, com_ne h]
  rw [← List.drop_eq_getElem_cons hi, ← List.drop_eq_getElem_cons hj]
theorem com_small {x y : List α} (hx : x.length ≤ 2048) (i j : Nat) : com (x.drop i) (y.drop j) ≤ 2048 := by
  have := (com_le (x.drop i) (y.drop j)).1
  rw [List.length_drop] at this; omega
end
end Go.Proofs.YtkidcleffllhbaaDoor.Dt
