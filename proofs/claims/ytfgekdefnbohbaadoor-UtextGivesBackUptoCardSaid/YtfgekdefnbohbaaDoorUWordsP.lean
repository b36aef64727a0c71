/- Plain facts about the walks of a caret: over words, by lines. No program in sight. -/
import Derived.Test.YtfgekdefnbohbaaDoorULinesP
namespace Go.Proofs.YtfgekdefnbohbaaDoor.Txt
open Go
set_option linter.unusedVariables false

theorem endP_step (rs : List Int) (j : Nat) (hlt : j < rs.length) : endP rs j = if rs.getD j 0 = 10 then j else endP rs (j + 1) := by
  unfold endP
  obtain ⟨d, hd⟩ : ∃ d, rs.length - j = d + 1 := ⟨rs.length - j - 1, by omega⟩
  rw [hd, show rs.length - (j + 1) = d by omega]
  conv => lhs; unfold endF
  by_cases e : rs.getD j 0 = 10
  · rw [if_pos e, if_neg (fun h => h.2 e)]
  · rw [if_neg e, if_pos ⟨hlt, e⟩]

/-- A word rune. -/
def wordB (r : Int) : Bool := decide ((48 ≤ r ∧ r ≤ 57) ∨ (65 ≤ r ∧ r ≤ 90) ∨ r = 95 ∨ (97 ≤ r ∧ r ≤ 122) ∨ 192 ≤ r)
/-- To the left over runes that are none (b: false) or are word runes (b: true). -/
def skipL (rs : List Int) (b : Bool) : Nat → Nat
  | 0 => 0
  | k + 1 => if wordB (rs.getD k 0) = b then skipL rs b k else k + 1
/-- To the right likewise; d: how many runes may be left. -/
def skipRF (rs : List Int) (b : Bool) : (d k : Nat) → Nat
  | 0, k => k
  | d + 1, k => if k < rs.length ∧ wordB (rs.getD k 0) = b then skipRF rs b d (k + 1) else k
def skipR (rs : List Int) (b : Bool) (k : Nat) : Nat := skipRF rs b (rs.length - k) k
theorem skipR_step (rs : List Int) (b : Bool) (j : Nat) (hlt : j < rs.length) : skipR rs b j = if wordB (rs.getD j 0) = b then skipR rs b (j + 1) else j := by
  unfold skipR
  obtain ⟨d, hd⟩ : ∃ d, rs.length - j = d + 1 := ⟨rs.length - j - 1, by omega⟩
  rw [hd, show rs.length - (j + 1) = d by omega]
  conv => lhs; unfold skipRF
  by_cases e : wordB (rs.getD j 0) = b
  · rw [if_pos e, if_pos ⟨hlt, e⟩]
  · rw [if_neg e, if_neg (fun h => e h.2)]
theorem skipR_end (rs : List Int) (b : Bool) : skipR rs b rs.length = rs.length := by unfold skipR; rw [Nat.sub_self]; rfl
theorem skipL_spec (rs : List Int) (b : Bool) : ∀ k, skipL rs b k ≤ k ∧ (0 < skipL rs b k → wordB (rs.getD (skipL rs b k - 1) 0) ≠ b) ∧ ∀ i, skipL rs b k ≤ i → i < k → wordB (rs.getD i 0) = b
  | 0 => ⟨Nat.le_refl _, fun h => absurd h (Nat.lt_irrefl 0), fun i h1 h2 => absurd h2 (Nat.not_lt_zero _)⟩
  | k + 1 => by
    obtain ⟨a, b', c⟩ := skipL_spec rs b k
    unfold skipL
    by_cases e : wordB (rs.getD k 0) = b
    · rw [if_pos e]
      refine ⟨by omega, b', fun i h1 h2 => ?_⟩
      by_cases hi : i = k
      · subst hi; exact e
      · exact c i h1 (by omega)
    · rw [if_neg e]
      exact ⟨Nat.le_refl _, fun _ => e, fun i h1 h2 => by omega⟩
theorem skipRF_spec (rs : List Int) (b : Bool) : ∀ (d k : Nat), rs.length - k ≤ d → k ≤ rs.length → k ≤ skipRF rs b d k ∧ skipRF rs b d k ≤ rs.length ∧ (skipRF rs b d k < rs.length → wordB (rs.getD (skipRF rs b d k) 0) ≠ b) ∧ ∀ i, k ≤ i → i < skipRF rs b d k → wordB (rs.getD i 0) = b
  | 0, k, h, hk => ⟨Nat.le_refl _, hk, fun h2 => by unfold skipRF at h2; omega, fun i h1 h2 => by unfold skipRF at h2; omega⟩
  | d + 1, k, h, hk => by
    unfold skipRF
    by_cases c : k < rs.length ∧ wordB (rs.getD k 0) = b
    · rw [if_pos c]
      obtain ⟨a1, a2, a3, a4⟩ := skipRF_spec rs b d (k + 1) (by omega) (by omega)
      refine ⟨by omega, a2, a3, fun i h1 h2 => ?_⟩
      by_cases hi : i = k
      · subst hi; exact c.2
      · exact a4 i (by omega) h2
    · rw [if_neg c]
      exact ⟨Nat.le_refl _, hk, fun h2 e => c ⟨h2, e⟩, fun i h1 h2 => by omega⟩
theorem skipR_spec (rs : List Int) (b : Bool) (k : Nat) (hk : k ≤ rs.length) : k ≤ skipR rs b k ∧ skipR rs b k ≤ rs.length ∧ (skipR rs b k < rs.length → wordB (rs.getD (skipR rs b k) 0) ≠ b) ∧ ∀ i, k ≤ i → i < skipR rs b k → wordB (rs.getD i 0) = b := skipRF_spec rs b _ k (Nat.le_refl _) hk

def wordR (rs : List Int) (k : Nat) : Nat := skipR rs true (skipR rs false k)
def wordL (rs : List Int) (k : Nat) : Nat := skipL rs true (skipL rs false k)
/-- What the law says of a walk to the right over a word. -/
theorem wordR_spec (rs : List Int) (k : Nat) (hk : k ≤ rs.length) : k ≤ wordR rs k ∧ wordR rs k ≤ rs.length ∧
    (wordR rs k < rs.length → k < wordR rs k ∧ wordB (rs.getD (wordR rs k) 0) = false ∧ wordB (rs.getD (wordR rs k - 1) 0) = true) ∧
    ∀ i, k < i → i < wordR rs k → wordB (rs.getD (i - 1) 0) = true → wordB (rs.getD i 0) = true := by
  obtain ⟨a1, a2, a3, a4⟩ := skipR_spec rs false k hk
  obtain ⟨b1, b2, b3, b4⟩ := skipR_spec rs true (skipR rs false k) a2
  unfold wordR
  refine ⟨by omega, b2, fun h => ?_, fun i h1 h2 h3 => ?_⟩
  · have hw := a3 (by omega)
    have hn := b3 h
    have hlt : skipR rs false k < skipR rs true (skipR rs false k) := by
      rcases Nat.lt_or_ge (skipR rs false k) (skipR rs true (skipR rs false k)) with h | h
      · exact h
      · have e : skipR rs true (skipR rs false k) = skipR rs false k := by omega
        rw [e] at hn
        cases hb : wordB (rs.getD (skipR rs false k) 0) with
        | true => exact absurd hb hn
        | false => exact absurd hb hw
    refine ⟨by omega, by simpa using hn, b4 _ (by omega) (by omega)⟩
  · rcases Nat.lt_or_ge i (skipR rs false k) with h | h
    · have := a4 (i - 1) (by omega) (by omega)
      rw [this] at h3; cases h3
    · exact b4 i h h2
theorem wordL_spec (rs : List Int) (k : Nat) : wordL rs k ≤ k ∧
    (0 < wordL rs k → wordL rs k < k ∧ wordB (rs.getD (wordL rs k - 1) 0) = false ∧ wordB (rs.getD (wordL rs k) 0) = true) ∧
    ∀ i, wordL rs k < i → i < k → wordB (rs.getD (i - 1) 0) = false → wordB (rs.getD i 0) = false := by
  obtain ⟨a1, a3, a4⟩ := skipL_spec rs false k
  obtain ⟨b1, b3, b4⟩ := skipL_spec rs true (skipL rs false k)
  unfold wordL
  refine ⟨by omega, fun h => ?_, fun i h1 h2 h3 => ?_⟩
  · have hw := a3 (by omega)
    have hn := b3 h
    have hlt : skipL rs true (skipL rs false k) < skipL rs false k := by
      rcases Nat.lt_or_ge (skipL rs true (skipL rs false k)) (skipL rs false k) with h | h
      · exact h
      · have e : skipL rs true (skipL rs false k) = skipL rs false k := by omega
        rw [e] at hn
        cases hb : wordB (rs.getD (skipL rs false k - 1) 0) with
        | true => exact absurd hb hn
        | false => exact absurd hb hw
    exact ⟨by omega, by simpa using hn, b4 _ (Nat.le_refl _) hlt⟩
  · rcases Nat.lt_or_ge i (skipL rs false k) with h | h
    · have := b4 (i - 1) (by omega) (by omega)
      rw [this] at h3; cases h3
    · exact a4 i h h2

/-! ### up and down, as the law says them -/
theorem up_law (rs : List Int) (k : Nat) (hk : k ≤ rs.length) (h : 0 < homeP rs k) : ∃ m, nl rs k = m + 1 ∧ nl rs (homeP rs k - 1) = m ∧ endP rs (homeP rs k - 1) = homeP rs k - 1 ∧ (linesP rs).getD (m + 1) 0 = homeP rs k := by
  have hl := homeP_le rs k
  have hh : ∀ k, 0 < homeP rs k → rs.getD (homeP rs k - 1) 0 = 10 ∧ nl rs (homeP rs k) = nl rs k := by
    intro k
    induction k with
    | zero => intro h; simp [homeP] at h
    | succ k ih =>
      intro h
      by_cases e : rs.getD k 0 = 10
      · have e1 : homeP rs (k + 1) = k + 1 := by simp only [homeP]; rw [if_pos e]
        rw [e1]; exact ⟨by simpa using e, rfl⟩
      · have e1 : homeP rs (k + 1) = homeP rs k := by simp only [homeP]; rw [if_neg e]
        have e2 : nl rs (k + 1) = nl rs k := by simp only [nl]; rw [if_neg e]
        rw [e1] at h ⊢
        rw [e2]; exact ih h
  obtain ⟨h1, h2⟩ := hh k h
  obtain ⟨q, hq⟩ : ∃ q, homeP rs k = q + 1 := ⟨homeP rs k - 1, by omega⟩
  rw [hq, Nat.add_sub_cancel] at h1 ⊢
  rw [hq] at h2
  have e3 : nl rs (q + 1) = nl rs q + 1 := by simp only [nl]; rw [if_pos h1]
  refine ⟨nl rs q, by omega, rfl, ?_, ?_⟩
  · rw [endP_step rs q (by omega), if_pos h1]
  · have := lines_home rs k hk
    rw [hq] at this
    rw [← h2, e3] at this
    exact this
theorem nl_zero (rs : List Int) : ∀ k, homeP rs k = 0 → nl rs k = 0
  | 0, _ => rfl
  | k + 1, h => by
    unfold homeP at h
    unfold nl
    by_cases e : rs.getD k 0 = 10
    · rw [if_pos e] at h; omega
    · rw [if_neg e] at h ⊢; exact nl_zero rs k h
theorem down_law (rs : List Int) (k : Nat) (hk : k ≤ rs.length) : (endP rs k = rs.length ∧ nl rs k = nl rs rs.length) ∨
    (endP rs k < rs.length ∧ nl rs k < nl rs rs.length ∧ nl rs (endP rs k + 1) = nl rs k + 1 ∧ homeP rs (endP rs k + 1) = endP rs k + 1) := by
  obtain ⟨h1, h2, h3, h4, h5, h6⟩ := endP_spec rs k hk
  rcases Nat.lt_or_ge (endP rs k) rs.length with h | h
  · have e := h5 h
    have e1 : nl rs (endP rs k + 1) = nl rs (endP rs k) + 1 := by simp only [nl]; rw [if_pos e]
    have e2 : homeP rs (endP rs k + 1) = endP rs k + 1 := by simp only [homeP]; rw [if_pos e]
    have := nl_mono rs (endP rs k + 1) rs.length (by omega)
    exact .inr ⟨h, by omega, by omega, e2⟩
  · have e : endP rs k = rs.length := by omega
    exact .inl ⟨e, by rw [← h3, e]⟩
end Go.Proofs.YtfgekdefnbohbaaDoor.Txt
