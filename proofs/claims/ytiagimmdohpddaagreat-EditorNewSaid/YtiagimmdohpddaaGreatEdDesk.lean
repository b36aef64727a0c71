/- EditorNew's parts: desk.New, at all limits. -/
import Derived.Test.YtiagimmdohpddaaGreatProg
import Derived.WalkKit
import Derived.RowKit3
import Derived.Deep.RegionHeld3
import Derived.Deep.DeepCutAuto
import Derived.Deep.QuietTactic
import Derived.IntWalk
import Derived.Lib.SmallJoins
import Derived.Lib.Hide
import Derived.Lib.Builder
namespace Go.Proofs.YtiagimmdohpddaaGreat.E
open Go.RowKit Go.Proofs Go.Joins
set_option linter.unusedVariables false
set_option linter.unusedSimpArgs false

theorem cell_below {w w1 : World} (h : Below w.heap.size w w1) {a : Addr} {v : Value} (hc : w.cell? a = some v) : w1.cell? a = some v := (h.cell (World.block_lt_of_cell? w a hc)).trans hc
/-- Limits that a room may have. -/
def okLim (c k o : Int) : Prop := (1 ≤ c ∧ c ≤ 8) ∧ (1 ≤ k ∧ k ≤ 4096) ∧ (1 ≤ o ∧ o ≤ 1024)

set_option maxRecDepth 100000 in
set_option maxHeartbeats 4000000 in
theorem within_any (n lo hi : Int) (w : World) : Calls Tryz.prog 12 #[.int .i64 n, .int .i64 lo, .int .i64 hi] w fun e w' => e = .returned (.bool (decide (lo ≤ n) && decide (n ≤ hi))) ∧ w = w' := by
  by_cases h : lo ≤ n
  · go_enter Tryz.func12, Tryz.ntmps12
    go_wp2
    go_ret
    refine ⟨?_, rfl⟩
    have e : (decide (lo ≤ n) && decide (n ≤ hi)) = decide (n ≤ hi) := by simp [h]
    rw [e]
    rfl
  · go_enter Tryz.func12, Tryz.ntmps12
    go_wp2
    go_ret
    refine ⟨?_, rfl⟩
    have e : (decide (lo ≤ n) && decide (n ≤ hi)) = false := by rw [decide_eq_false (by omega)]; rfl
    rw [e]
    rfl

set_option maxRecDepth 100000 in
set_option maxHeartbeats 4000000 in
theorem hist_any (w : World) : Calls Tryz.prog 21 #[] w fun e w' => (∃ a, e = .returned (.pointer (some a))) ∧ Below w.heap.size w w' := by
  have hmm : ∀ w : World, (Instr.makeMap 127 none).run Tryz.prog w = .ok (.map (some w.heap.size)) (w.alloc (.map #[] 0)) := fun _ => rfl
  go_enter Tryz.func21, Tryz.ntmps21
  go_wp2_with fail
  go_ret
  exact ⟨⟨_, rfl⟩, below_alloc2 _ _ _⟩
set_option maxRecDepth 100000 in
set_option maxHeartbeats 4000000 in
theorem rope_any (w : World) : Calls Tryz.prog 22 #[] w fun e w' => (∃ a, e = .returned (.pointer (some a))) ∧ Below w.heap.size w w' := by
  go_enter Tryz.func22, Tryz.ntmps22
  go_wp2_with fail
  go_ret
  exact ⟨⟨_, rfl⟩, below_alloc1 _ _⟩
set_option maxRecDepth 100000 in
set_option maxHeartbeats 4000000 in
theorem stacks_any (w : World) : Calls Tryz.prog 15 #[] w fun e w' => (∃ a, e = .returned (.pointer (some a))) ∧ Below w.heap.size w w' := by
  go_enter Tryz.func15, Tryz.ntmps15
  go_wp2_with fail
  go_ret
  exact ⟨⟨_, rfl⟩, below_alloc1 _ _⟩
set_option maxRecDepth 100000 in
set_option maxHeartbeats 4000000 in
theorem repl_any (w : World) : Calls Tryz.prog 14 #[] w fun e w' => ∃ a p q, e = .returned (.pointer (some ⟨a, 0, none⟩)) ∧ w'.heap[a]? = some (.cells #[p, q] 65 (0, 0)) ∧ Below w.heap.size w w' := by
  go_enter Tryz.func14, Tryz.ntmps14
  go_wp2_with fail
  refine (hist_any _).mono ?_
  rintro e w1 ⟨⟨a1, rfl⟩, hb1⟩
  have HB1 := Lib.hid hb1
  clear hb1
  go_wp2_with fail
  refine (rope_any _).mono ?_
  rintro e w2 ⟨⟨a2, rfl⟩, hb2⟩
  have HB2 := Lib.hid (HB1.out.trans (hb2.mono HB1.out.size))
  clear hb2
  go_wp2_with fail
  go_ret
  exact ⟨_, _, _, rfl, heap_alloc_new w2 _, HB2.out.alloc HB2.out.size _⟩

set_option maxRecDepth 100000 in
set_option maxHeartbeats 8000000 in
theorem desk_ok (c k o : Int) (w : World) (h : okLim c k o) : Calls Tryz.prog 8 #[.int .i64 1, .agg #[.int .i64 c, .int .i64 k, .int .i64 o]] w fun e w' => (∃ a, e = .returned (.tuple #[.pointer (some a), .nilIface])) ∧ Below w.heap.size w w' := by
  obtain ⟨h1, h2, h3⟩ := h
  go_enter Tryz.func8, Tryz.ntmps8
  go_wp2_with (first | (go_at_call 12; refine (within_any _ _ _ _).mono ?_; rintro e w' ⟨rfl, rfl⟩) | go_in)
  go_region_with (first
      | (go_at_call 14; refine (repl_any _).mono ?_; rintro e w1 ⟨ra, rp, rq, rfl, hrb, hb1⟩; have hc0 : w1.cell? ⟨ra, 0, none⟩ = some rp := (by rw [Lib.cell_of_heap hrb]; rfl); have hc1 : w1.cell? ⟨ra, 1, none⟩ = some rq := (by rw [Lib.cell_of_heap hrb]; rfl); have m0 := cell_below hb1 (a := ⟨w.heap.size, 0, none⟩) (v := .int .i64 c) (by simp); have m1 := cell_below hb1 (a := ⟨w.heap.size, 1, none⟩) (v := .int .i64 k) (by simp); have m2 := cell_below hb1 (a := ⟨w.heap.size, 2, none⟩) (v := .int .i64 o) (by simp); have HB1 := Lib.hid hb1; clear hb1 hrb)
      | (go_at_call 15; refine (stacks_any _).mono ?_; rintro e w2 ⟨⟨sa, rfl⟩, hb2⟩; have hd0 := cell_below hb2 hc0; have hd1 := cell_below hb2 hc1; have n0 := cell_below hb2 m0; have n1 := cell_below hb2 m1; have n2 := cell_below hb2 m2; have HB2 := Lib.hid hb2; clear hb2 hc0 hc1 m0 m1 m2))
  all_goals (go_wp2_with fail)
  all_goals go_ret2
  all_goals
    have hx := ((((Below.refl w.heap.size w).alloc (Nat.le_refl _) _).drew).trans (HB1.out.mono (by simp))).trans (HB2.out.mono (by have := HB1.out.size; simp at this; omega))
    exact ⟨⟨_, rfl⟩, by first | exact hx.alloc hx.size _ | exact (hx.alloc hx.size _).drew⟩
end Go.Proofs.YtiagimmdohpddaaGreat.E
