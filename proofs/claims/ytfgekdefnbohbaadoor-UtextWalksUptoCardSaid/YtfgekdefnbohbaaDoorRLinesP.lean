/- Lines in plain Lean: which places a line has. -/
import Derived.Test.YtfgekdefnbohbaaDoorUWordsP
namespace Go.Proofs.YtfgekdefnbohbaaDoor.Txt
open Go
set_option linter.unusedVariables false

/-- The line with this number has the places p to p + d. -/
structure LineIs (rs : List Int) (ln p d : Nat) : Prop where
  le : p + d ≤ rs.length
  mem : ∀ i, i ≤ rs.length → (nl rs i = ln ↔ p ≤ i ∧ i ≤ p + d)
  home : ∀ i, p ≤ i → i ≤ p + d → homeP rs i = p
  l0 : (linesP rs).getD ln 0 = p
  l1 : (linesP rs).getD (ln + 1) 0 = (p : Int) + d + 1
theorem nl_succ (rs : List Int) (k : Nat) : nl rs (k + 1) = if rs.getD k 0 = 10 then nl rs k + 1 else nl rs k := rfl
theorem home_succ (rs : List Int) (k : Nat) : homeP rs (k + 1) = if rs.getD k 0 = 10 then k + 1 else homeP rs k := rfl
theorem home_nl (rs : List Int) : ∀ k, nl rs (homeP rs k) = nl rs k ∧ (0 < homeP rs k → rs.getD (homeP rs k - 1) 0 = 10)
  | 0 => ⟨rfl, fun h => by simp [homeP] at h⟩
  | k + 1 => by
    have ih := home_nl rs k
    rw [home_succ, nl_succ]
    by_cases h : rs.getD k 0 = 10
    · rw [if_pos h, if_pos h]
      exact ⟨by rw [nl_succ, if_pos h], fun _ => by simpa using h⟩
    · rw [if_neg h, if_neg h]; exact ih
theorem home_of (rs : List Int) (k : Nat) : ∀ d, nl rs (homeP rs k + d) = nl rs k → homeP rs (homeP rs k + d) = homeP rs k
  | 0, _ => by
    have : ∀ k, homeP rs (homeP rs k) = homeP rs k := fun k => by
      induction k with
      | zero => rfl
      | succ k ih =>
        rw [home_succ]
        by_cases h : rs.getD k 0 = 10
        · rw [if_pos h, home_succ, if_pos h]
        · rw [if_neg h]; exact ih
    exact this k
  | d + 1, h => by
    have hm := nl_mono rs (homeP rs k) (homeP rs k + d) (by omega)
    rw [(home_nl rs k).1] at hm
    rw [show homeP rs k + (d + 1) = homeP rs k + d + 1 by omega, nl_succ] at h
    rw [show homeP rs k + (d + 1) = homeP rs k + d + 1 by omega, home_succ]
    by_cases h10 : rs.getD (homeP rs k + d) 0 = 10
    · rw [if_pos h10] at h; omega
    · rw [if_neg h10] at h ⊢
      exact home_of rs k d h
theorem line_at (rs : List Int) (a : Nat) (ha : a ≤ rs.length) : LineIs rs (nl rs a) (homeP rs a) (endP rs a - homeP rs a) := by
  have hl := homeP_le rs a
  obtain ⟨e1, e2, e3, e4, e5, _⟩ := endP_spec rs a ha
  have hpd : homeP rs a + (endP rs a - homeP rs a) = endP rs a := by omega
  have hn := home_nl rs a
  have hmem : ∀ i, i ≤ rs.length → (nl rs i = nl rs a ↔ homeP rs a ≤ i ∧ i ≤ endP rs a) := fun i hi => by
    constructor
    · intro h
      refine ⟨?_, ?_⟩
      · rcases Nat.lt_or_ge i (homeP rs a) with h1 | h1
        · have h10 := hn.2 (by omega)
          have h2 := nl_mono rs i (homeP rs a - 1) (by omega)
          have h3 : nl rs (homeP rs a - 1 + 1) = nl rs (homeP rs a - 1) + 1 := by rw [nl_succ, if_pos h10]
          rw [show homeP rs a - 1 + 1 = homeP rs a by omega, hn.1] at h3
          omega
        · exact h1
      · rcases Nat.lt_or_ge (endP rs a) i with h1 | h1
        · have h10 := e5 (by omega)
          have h2 := nl_mono rs (endP rs a + 1) i h1
          rw [nl_succ, if_pos h10, e3] at h2
          omega
        · exact h1
    · rintro ⟨h1, h2⟩
      have m1 := nl_mono rs _ _ h1
      have m2 := nl_mono rs _ _ h2
      rw [hn.1] at m1
      omega
  refine ⟨by omega, fun i hi => by rw [hpd]; exact hmem i hi, fun i h1 h2 => ?_, lines_home rs a ha, ?_⟩
  · have := home_of rs a (i - homeP rs a) (by rw [show homeP rs a + (i - homeP rs a) = i by omega]; exact (hmem i (by omega)).2 ⟨h1, by omega⟩)
    rwa [show homeP rs a + (i - homeP rs a) = i by omega] at this
  · rw [lines_end rs a ha]; omega
theorem nl_hits (rs : List Int) (ln : Nat) : ∀ n, ln ≤ nl rs n → ∃ k, k ≤ n ∧ nl rs k = ln
  | 0, h => ⟨0, Nat.le_refl _, by simp [nl] at h ⊢; omega⟩
  | n + 1, h => by
    rcases Nat.lt_or_ge (nl rs n) ln with h1 | h1
    · refine ⟨n + 1, Nat.le_refl _, ?_⟩
      rw [nl_succ] at h ⊢
      by_cases h10 : rs.getD n 0 = 10
      · rw [if_pos h10] at h ⊢; omega
      · rw [if_neg h10] at h; omega
    · obtain ⟨k, h2, h3⟩ := nl_hits rs ln n h1
      exact ⟨k, by omega, h3⟩
theorem line_is (rs : List Int) (ln : Nat) (h : ln ≤ nl rs rs.length) : ∃ p d, LineIs rs ln p d := by
  obtain ⟨k, h1, h2⟩ := nl_hits rs ln rs.length h
  have := line_at rs k h1
  rw [h2] at this
  exact ⟨_, _, this⟩
end Go.Proofs.YtfgekdefnbohbaaDoor.Txt
