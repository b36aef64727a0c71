/- EditorNew's parts: limits that a room may not have. -/
import Derived.Test.YtiagimmdohpddaaGreatEdDesk
import Derived.Test.YtiagimmdohpddaaGreatEdRef
namespace Go.Proofs.YtiagimmdohpddaaGreat.E
open Go.RowKit Go.Proofs Go.Joins
set_option linter.unusedVariables false
set_option linter.unusedSimpArgs false

theorem lim_cases (c k o : Int) (h : ¬ okLim c k o) : c < 1 ∨ (1 ≤ c ∧ 8 < c) ∨ (1 ≤ c ∧ c ≤ 8 ∧ k < 1) ∨ (1 ≤ c ∧ c ≤ 8 ∧ 1 ≤ k ∧ 4096 < k) ∨ (1 ≤ c ∧ c ≤ 8 ∧ 1 ≤ k ∧ k ≤ 4096 ∧ o < 1) ∨ (1 ≤ c ∧ c ≤ 8 ∧ 1 ≤ k ∧ k ≤ 4096 ∧ 1 ≤ o ∧ 1024 < o) := by unfold okLim at h; omega

set_option maxRecDepth 100000 in
set_option maxHeartbeats 4000000 in
theorem new_bad (c k o : Int) (w : World) (h : ¬ okLim c k o) : Calls Tryz.prog 10 #[.agg #[.int .i64 c, .int .i64 k, .int .i64 o]] w fun e w' => e = .returned (.tuple #[.pointer none, .int .i64 2]) ∧ Below w.heap.size w w' := by
  rcases lim_cases c k o h with g | ⟨g1, g2⟩ | ⟨g1, g2, g3⟩ | ⟨g1, g2, g3, g4⟩ | ⟨g1, g2, g3, g4, g5⟩ | ⟨g1, g2, g3, g4, g5, g6⟩
  all_goals
    clear h
    go_enter Tryz.func10, Tryz.ntmps10
    go_wp2_with fail
    go_ret2
    exact ⟨rfl, below_alloc1 _ _⟩
set_option maxRecDepth 100000 in
set_option maxHeartbeats 4000000 in
theorem desk_bad (c k o : Int) (w : World) (h : ¬ okLim c k o) : Calls Tryz.prog 8 #[.int .i64 1, .agg #[.int .i64 c, .int .i64 k, .int .i64 o]] w fun e w' => (∃ t p, e = .returned (.tuple #[.pointer none, .iface t (.pointer p)])) ∧ Below w.heap.size w w' := by
  rcases lim_cases c k o h with g | ⟨g1, g2⟩ | ⟨g1, g2, g3⟩ | ⟨g1, g2, g3, g4⟩ | ⟨g1, g2, g3, g4, g5⟩ | ⟨g1, g2, g3, g4, g5, g6⟩
  all_goals
    clear h
    try have d1 : decide (1 ≤ o) = false := decide_eq_false (by omega)
    try have d2 : decide (o ≤ 1024) = false := decide_eq_false (by omega)
    try have d3 : ¬ 1 ≤ o := by omega
    try have d4 : ¬ o ≤ 1024 := by omega
    go_enter Tryz.func8, Tryz.ntmps8
    go_wp2_with (first | (go_at_call 12; refine (within_any _ _ _ _).mono ?_; rintro e w' ⟨rfl, rfl⟩) | go_in)
    all_goals first
      | (exfalso; omega)
      | (go_ret2; exact ⟨⟨_, _, rfl⟩, by first | exact below_alloc2 _ _ _ | exact (below_alloc2 _ _ _).drew⟩)
end Go.Proofs.YtiagimmdohpddaaGreat.E
