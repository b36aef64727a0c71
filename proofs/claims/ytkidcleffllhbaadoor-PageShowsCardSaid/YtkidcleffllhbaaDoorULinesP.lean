/- Plain facts about lines: where the line of a place begins and ends, its number, and the list of all lines' begins. No program in sight. -/
import Derived.Test.YtkidcleffllhbaaDoorUPure
namespace Go.Proofs.YtkidcleffllhbaaDoor.Txt
open Go
set_option linter.unusedVariables false

/-- Where the line of place k begins. -/
def homeP (rs : List Int) : Nat → Nat
  | 0 => 0
  | k + 1 => if rs.getD k 0 = 10 then k + 1 else homeP rs k
/-- How many new lines stand among the first k runes. -/
def nl (rs : List Int) : Nat → Nat
  | 0 => 0
  | k + 1 => if rs.getD k 0 = 10 then nl rs k + 1 else nl rs k
/-- Where the line of place k ends: d: how many runes may be left. -/
def endF (rs : List Int) : (d k : Nat) → Nat
  | 0, k => k
  | d + 1, k => if k < rs.length ∧ rs.getD k 0 ≠ 10 then endF rs d (k + 1) else k
def endP (rs : List Int) (k : Nat) : Nat := endF rs (rs.length - k) k
/-- The begins of the lines that begin at or ahead of place k. -/
def starts (rs : List Int) : Nat → List Int
  | 0 => [0]
  | k + 1 => if rs.getD k 0 = 10 then starts rs k ++ [((k + 1 : Nat) : Int)] else starts rs k
/-- All begins, and one behind the text's end. -/
def linesP (rs : List Int) : List Int := starts rs rs.length ++ [((rs.length + 1 : Nat) : Int)]

theorem homeP_le (rs : List Int) : ∀ k, homeP rs k ≤ k
  | 0 => Nat.le_refl _
  | k + 1 => by have := homeP_le rs k; unfold homeP; split <;> omega
theorem nl_le (rs : List Int) : ∀ k, nl rs k ≤ k
  | 0 => Nat.le_refl _
  | k + 1 => by have := nl_le rs k; unfold nl; split <;> omega
theorem nl_mono (rs : List Int) (j : Nat) : ∀ k, j ≤ k → nl rs j ≤ nl rs k
  | 0, h => by have : j = 0 := by omega
               subst this; exact Nat.le_refl _
  | k + 1, h => by
    by_cases e : j = k + 1
    · subst e; exact Nat.le_refl _
    · have := nl_mono rs j k (by omega)
      conv => rhs; unfold nl
      split <;> omega
theorem starts_len (rs : List Int) : ∀ k, (starts rs k).length = nl rs k + 1
  | 0 => rfl
  | k + 1 => by
    have := starts_len rs k
    unfold starts nl
    split <;> simp [this]
theorem starts_prefix (rs : List Int) (j : Nat) : ∀ k, j ≤ k → starts rs j <+: starts rs k
  | 0, h => by have : j = 0 := by omega
               subst this; exact List.prefix_refl _
  | k + 1, h => by
    by_cases e : j = k + 1
    · subst e; exact List.prefix_refl _
    · have := starts_prefix rs j k (by omega)
      conv => rhs; unfold starts
      split
      · exact this.trans (List.prefix_append _ _)
      · exact this
theorem prefix_getD {l m : List Int} (h : l <+: m) (i : Nat) (hi : i < l.length) (d : Int) : m.getD i d = l.getD i d := by
  obtain ⟨t, rfl⟩ := h
  simp [List.getD, List.getElem?_append, hi]
/-- The last begin at or ahead of k. -/
theorem starts_last (rs : List Int) : ∀ k, (starts rs k).getD (nl rs k) 0 = homeP rs k
  | 0 => rfl
  | k + 1 => by
    have h1 := starts_len rs k
    have h2 := starts_last rs k
    unfold starts nl homeP
    split
    · rw [List.getD_eq_getElem?_getD, List.getElem?_append_right (by omega), h1]
      simp
    · exact h2
theorem lines_len (rs : List Int) : (linesP rs).length = nl rs rs.length + 2 := by unfold linesP; rw [List.length_append, starts_len]; rfl
theorem lines_home (rs : List Int) (k : Nat) (hk : k ≤ rs.length) : (linesP rs).getD (nl rs k) 0 = homeP rs k := by
  have h1 := starts_len rs k
  show (starts rs rs.length ++ _).getD _ 0 = _
  rw [prefix_getD ((starts_prefix rs k rs.length hk).trans (List.prefix_append _ _)) _ (by omega), starts_last]

theorem endF_spec (rs : List Int) : ∀ (d k : Nat), rs.length - k ≤ d → k ≤ rs.length → k ≤ endF rs d k ∧ endF rs d k ≤ rs.length ∧ nl rs (endF rs d k) = nl rs k ∧ homeP rs (endF rs d k) = homeP rs k ∧
    (endF rs d k < rs.length → rs.getD (endF rs d k) 0 = 10) ∧ ∀ j, k ≤ j → j < endF rs d k → rs.getD j 0 ≠ 10
  | 0, k, h, hk => ⟨Nat.le_refl _, hk, rfl, rfl, fun h2 => by unfold endF at h2; omega, fun j h1 h2 => by unfold endF at h2; omega⟩
  | d + 1, k, h, hk => by
    unfold endF
    by_cases c : k < rs.length ∧ rs.getD k 0 ≠ 10
    · rw [if_pos c]
      obtain ⟨a1, a2, a3, a4, a5, a6⟩ := endF_spec rs d (k + 1) (by omega) (by omega)
      refine ⟨by omega, a2, ?_, ?_, a5, ?_⟩
      · rw [a3]; simp only [nl]; rw [if_neg c.2]
      · rw [a4]; simp only [homeP]; rw [if_neg c.2]
      · intro j h1 h2
        by_cases e : j = k
        · subst e; exact c.2
        · exact a6 j (by omega) h2
    · rw [if_neg c]
      refine ⟨Nat.le_refl _, hk, rfl, rfl, fun h2 => ?_, fun j h1 h2 => by omega⟩
      by_cases e : rs.getD k 0 = 10
      · exact e
      · exact absurd ⟨h2, e⟩ c
theorem endP_spec (rs : List Int) (k : Nat) (hk : k ≤ rs.length) : k ≤ endP rs k ∧ endP rs k ≤ rs.length ∧ nl rs (endP rs k) = nl rs k ∧ homeP rs (endP rs k) = homeP rs k ∧
    (endP rs k < rs.length → rs.getD (endP rs k) 0 = 10) ∧ ∀ j, k ≤ j → j < endP rs k → rs.getD j 0 ≠ 10 := endF_spec rs _ k (Nat.le_refl _) hk
theorem lines_end (rs : List Int) (k : Nat) (hk : k ≤ rs.length) : (linesP rs).getD (nl rs k + 1) 0 = endP rs k + 1 := by
  obtain ⟨_, h2, h3, _, h5, _⟩ := endP_spec rs k hk
  have hl := starts_len rs (endP rs k)
  rcases Nat.lt_or_ge (endP rs k) rs.length with h | h
  · have e : starts rs (endP rs k + 1) = starts rs (endP rs k) ++ [((endP rs k + 1 : Nat) : Int)] := by
      conv => lhs; unfold starts
      rw [if_pos (h5 h)]
    have hp := (starts_prefix rs (endP rs k + 1) rs.length (by omega)).trans (List.prefix_append (starts rs rs.length) [((rs.length + 1 : Nat) : Int)])
    have hlen : nl rs k + 1 < (starts rs (endP rs k + 1)).length := by rw [e, List.length_append, hl, h3]; simp
    show (starts rs rs.length ++ _).getD _ 0 = _
    rw [prefix_getD hp _ hlen, e, List.getD_eq_getElem?_getD, List.getElem?_append_right (by omega), hl, h3]
    simp
  · have he : endP rs k = rs.length := by omega
    rw [he] at hl h3 ⊢
    unfold linesP
    rw [List.getD_eq_getElem?_getD, List.getElem?_append_right (by omega), hl, h3]
    simp
theorem home_le_end (rs : List Int) (k : Nat) (hk : k ≤ rs.length) : homeP rs k ≤ k ∧ k ≤ endP rs k := ⟨homeP_le rs k, (endP_spec rs k hk).1⟩
end Go.Proofs.YtkidcleffllhbaaDoor.Txt
