/- EditorNew's parts: editor.New, the document's New. -/
import Derived.Test.YtiagimmdohpddaaGreatProg
import Derived.WalkKit
import Derived.RowKit3
import Derived.Deep.DeepCutAuto
import Derived.IntWalk
import Derived.Lib.SmallJoins
import Derived.Lib.Hide
namespace Go.Proofs.YtiagimmdohpddaaGreat.E
open Go.RowKit Go.Proofs Go.Joins
set_option linter.unusedVariables false
set_option linter.unusedSimpArgs false

/-- A size that a screen may have. -/
def okSize (x y : Int) : Prop := (1 ≤ x ∧ x ≤ 1024) ∧ (1 ≤ y ∧ y ≤ 1024)
theorem size_cases (x y : Int) : okSize x y ∨ ¬ okSize x y ∧ (x < 1 ∨ (1 ≤ x ∧ 1024 < x) ∨ (1 ≤ x ∧ x ≤ 1024 ∧ y < 1) ∨ (1 ≤ x ∧ x ≤ 1024 ∧ 1 ≤ y ∧ 1024 < y)) := by unfold okSize; omega

set_option maxRecDepth 100000 in
set_option maxHeartbeats 4000000 in
theorem size_ok (x y : Int) (w : World) (h : okSize x y) : Calls Tryz.prog 6 #[.int .i64 x, .int .i64 y] w fun e w' => e = .returned (.bool true) ∧ w = w' := by
  obtain ⟨⟨h1, h2⟩, h3, h4⟩ := h
  go_enter Tryz.func6, Tryz.ntmps6
  go_wp2
  go_ret
  exact ⟨by simp [h4], rfl⟩
set_option maxRecDepth 100000 in
set_option maxHeartbeats 4000000 in
theorem size_bad (x y : Int) (w : World) (h : ¬ okSize x y) : Calls Tryz.prog 6 #[.int .i64 x, .int .i64 y] w fun e w' => e = .returned (.bool false) ∧ w = w' := by
  have H := (size_cases x y).resolve_left h
  rcases H.2 with g | ⟨g, g2⟩ | ⟨g, g2, g3⟩ | ⟨g, g2, g3, g4⟩
  all_goals
    clear H h
    go_enter Tryz.func6, Tryz.ntmps6
    go_wp2
    go_ret
    exact ⟨by first | rfl | (simp; omega), rfl⟩
set_option maxRecDepth 100000 in
set_option maxHeartbeats 4000000 in
theorem ref_ok (p : Option Addr) (x y : Int) (w : World) (h : okSize x y) : Calls Tryz.prog 9 #[.pointer p, .int .i64 x, .int .i64 y] w fun e w' => (∃ a, e = .returned (.tuple #[.pointer (some a), .int .i64 0])) ∧ Below w.heap.size w w' := by
  obtain ⟨⟨h1, h2⟩, h3, h4⟩ := h
  go_enter Tryz.func9, Tryz.ntmps9
  go_wp2
  go_ret2
  exact ⟨⟨_, rfl⟩, by first | exact below_alloc1 _ _ | exact (below_alloc1 _ _).drew⟩
set_option maxRecDepth 100000 in
set_option maxHeartbeats 4000000 in
theorem ref_bad (p : Option Addr) (x y : Int) (w : World) (h : ¬ okSize x y) : Calls Tryz.prog 9 #[.pointer p, .int .i64 x, .int .i64 y] w fun e w' => (∃ n, e = .returned (.tuple #[.pointer none, .int .i64 n]) ∧ n = 230) ∧ w = w' := by
  have H := (size_cases x y).resolve_left h
  rcases H.2 with g | ⟨g, g2⟩ | ⟨g, g2, g3⟩ | ⟨g, g2, g3, g4⟩
  all_goals
    clear H h
    go_enter Tryz.func9, Tryz.ntmps9
    go_wp2
    go_ret2
    exact ⟨⟨_, rfl, rfl⟩, rfl⟩
set_option maxRecDepth 100000 in
set_option maxHeartbeats 4000000 in
theorem ed_nil (x y : Int) (w : World) : Calls Tryz.prog 4 #[.nilIface, .int .i64 x, .int .i64 y] w fun e w' => e = .returned (.tuple #[.pointer none, .int .i64 3]) ∧ w = w' := by
  go_enter Tryz.func4, Tryz.ntmps4
  go_wp2
  go_ret2
  exact ⟨rfl, rfl⟩
set_option maxRecDepth 100000 in
set_option maxHeartbeats 4000000 in
theorem ed_ok (t : TypeId) (p : Option Addr) (x y : Int) (w : World) (h : okSize x y) : Calls Tryz.prog 4 #[.iface t (.pointer p), .int .i64 x, .int .i64 y] w fun e w' => (∃ a, e = .returned (.tuple #[.pointer (some a), .int .i64 0])) ∧ Below w.heap.size w w' := by
  go_enter Tryz.func4, Tryz.ntmps4
  go_wp2_with fail
  refine (size_ok x y _ h).mono ?_
  rintro e w' ⟨rfl, rfl⟩
  go_wp2_with fail
  go_ret2
  exact ⟨⟨_, rfl⟩, by first | exact below_alloc1 _ _ | exact (below_alloc1 _ _).drew⟩
set_option maxRecDepth 100000 in
set_option maxHeartbeats 4000000 in
theorem ed_bad (t : TypeId) (p : Option Addr) (x y : Int) (w : World) (h : ¬ okSize x y) : Calls Tryz.prog 4 #[.iface t (.pointer p), .int .i64 x, .int .i64 y] w fun e w' => e = .returned (.tuple #[.pointer none, .int .i64 230]) ∧ w = w' := by
  go_enter Tryz.func4, Tryz.ntmps4
  go_wp2_with fail
  refine (size_bad x y _ h).mono ?_
  rintro e w' ⟨rfl, rfl⟩
  go_wp2_with fail
  go_ret2
  exact ⟨rfl, rfl⟩
end Go.Proofs.YtiagimmdohpddaaGreat.E
