/- Quote in plain Lean: the quoted form of bytes. -/
import Derived.Test.YtnippaaiopgnaaaDoorUPure
import Derived.Test.YtnippaaiopgnaaaDoorUHexP
namespace Go.Proofs.YtnippaaiopgnaaaDoor.U
open Go Go.Proofs.YtnippaaiopgnaaaDoor.Txt
set_option linter.unusedVariables false
set_option linter.unusedSimpArgs false

/-- The form of a rune. -/
def qR (r : Int) : List UInt8 :=
  if r = 34 then [92, 34] else if r = 92 then [92, 92] else if r = 10 then [92, 110] else if r = 9 then [92, 116]
  else if 32 ≤ r ∧ r ≤ 126 then encB r else [92, 117, 123] ++ hexL r.toNat ++ [125]
/-- The form of a byte at which no sequence begins. -/
def qX (x : UInt8) : List UInt8 := [92, 120, dig (x.toNat / 16), dig (x.toNat % 16)]
/-- The forms of all that stands in l. -/
def qS : Nat → List UInt8 → List UInt8
  | 0, _ => []
  | f + 1, l => if l = [] then [] else
      match seq l with
      | none => qX (l.headD 0) ++ qS f (l.drop (decL l).2)
      | some r => qR r ++ qS f (l.drop (encB r).length)
def quoteL (l : List UInt8) : List UInt8 := 34 :: (qS l.length l ++ [34])

theorem hexL_le (n : Nat) (h : n < 16777216) : (hexL n).length ≤ 6 := by
  have H : ∀ k n, n < 16 ^ (k + 1) → (hexL n).length ≤ k + 1 := by
    intro k
    induction k with
    | zero => intro n h; rw [hexL, if_pos (by omega)]; simp
    | succ k ih =>
      intro n h
      rw [hexL]
      split
      · simp
      · have := ih (n / 16) (by rw [Nat.pow_succ] at h; omega)
        simp; omega
  exact H 5 n (by omega)
theorem qR_le (r : Int) (h : r ≤ 1114111) : (qR r).length ≤ 10 := by
  unfold qR
  have h1 := hexL_le r.toNat (by omega)
  have h2 := (encB_len r).2
  repeat' split
  all_goals simp
  all_goals omega
theorem decL_pos (l : List UInt8) (h : l ≠ []) : 1 ≤ (decL l).2 := by
  unfold decL
  rcases l with _ | ⟨b, l⟩
  · exact absurd rfl h
  · simp only []
    repeat' split
    all_goals simp
theorem decL_le (l : List UInt8) (h : l ≠ []) : (decL l).2 ≤ l.length := by
  unfold decL
  rcases l with _ | ⟨b, l⟩
  · exact absurd rfl h
  · simp only []
    repeat' split
    all_goals simp_all
    all_goals omega
theorem qS_none {f : Nat} {l : List UInt8} (hf : 0 < f) (hl : l ≠ []) (h : seq l = none) : qS f l = qX (l.headD 0) ++ qS (f - 1) (l.drop (decL l).2) := by
  obtain ⟨f, rfl⟩ : ∃ j, f = j + 1 := ⟨f - 1, by omega⟩
  rw [qS, if_neg hl, h]
  rfl
theorem qS_some {f : Nat} {l : List UInt8} (hf : 0 < f) (hl : l ≠ []) {r : Int} (h : seq l = some r) : qS f l = qR r ++ qS (f - 1) (l.drop (encB r).length) := by
  obtain ⟨f, rfl⟩ : ∃ j, f = j + 1 := ⟨f - 1, by omega⟩
  rw [qS, if_neg hl, h]
  rfl
theorem qS_fuel : ∀ (f f' : Nat) (l : List UInt8), l.length ≤ f → l.length ≤ f' → qS f l = qS f' l := by
  intro f
  induction f with
  | zero =>
    intro f' l h h'
    have : l = [] := List.length_eq_zero_iff.1 (by omega)
    subst this
    cases f' <;> rfl
  | succ f ih =>
    intro f' l h h'
    by_cases hl : l = []
    · subst hl; cases f' <;> rfl
    · have h0 := List.length_pos_iff.2 hl
      cases hq : seq l with
      | none =>
        have := decL_pos l hl
        rw [qS_none (by omega) hl hq, qS_none (by omega) hl hq]
        congr 1
        exact ih _ _ (by rw [List.length_drop]; omega) (by rw [List.length_drop]; omega)
      | some r =>
        have := (encB_len r).1
        rw [qS_some (by omega) hl hq, qS_some (by omega) hl hq]
        congr 1
        exact ih _ _ (by rw [List.length_drop]; omega) (by rw [List.length_drop]; omega)
end Go.Proofs.YtnippaaiopgnaaaDoor.U
