/- The parts of op.Check: what it answers of an operation's fields. -/
import Derived.Test.YtkdhomiieenfnaaGreatDoorLs0
import Derived.RowKit3
import Derived.Deep.QuietTactic
import Derived.Lib.SmallJoins
import Derived.Laws.MakeOwn
import Derived.ChangeKeysEq
namespace Go.Proofs.YtkdhomiieenfnaaGreatDoor.O
open Go.RowKit Go.Proofs Go.Joins Go.Proofs.YtkdhomiieenfnaaGreatDoor.U
set_option linter.unusedVariables false
set_option linter.unusedSimpArgs false

/-- An operation's value. -/
def opV (i0 i1 kd a : Int) (tx : ByteArray) (rg : Value) (t0 t1 : Int) (on : Bool) : Value := .agg #[.int .i64 i0, .int .i64 i1, .int .i64 kd, .int .i64 a, .string tx, rg, .int .i64 t0, .int .i64 t1, .bool on]
def idB (a b : Int) : Bool := decide (1 ≤ a) && decide (a ≤ 8) && decide (1 ≤ b) && decide (b ≤ 1024)
def extraB (kd a : Int) (tx : ByteArray) (n : Nat) (t0 t1 : Int) (on : Bool) : Bool :=
  (!decide (kd = 1) && (!decide (a = 0) || !tx.toList.isEmpty)) || (!(decide (kd = 2) || decide (kd = 3)) && decide (0 < n)) || (!decide (kd = 4) && (!(decide (t0 = 0) && decide (t1 = 0)) || on))

set_option maxRecDepth 100000 in
set_option maxHeartbeats 4000000 in
theorem right_any (a b : Int) (w : World) : Calls Tryz.prog 75 #[.agg #[.int .i64 a, .int .i64 b]] w fun e w' => e = .returned (.bool (idB a b)) ∧ Below w.heap.size w w' := by
  unfold idB
  by_cases h1 : 1 ≤ a <;> by_cases h2 : a ≤ 8 <;> by_cases h3 : 1 ≤ b <;> by_cases h4 : b ≤ 1024
  all_goals
    go_enter Tryz.func75, Tryz.ntmps75
    go_wp2_with fail
    go_ret
    refine ⟨?_, by first | exact Below.refl _ _ | exact below_alloc1 _ _⟩
    simp [h1, h2, h3, h4]
theorem infoInt : (Tryz.prog.info? 3).map (fun i => (i.zero, i.size, i.bytes)) = some (some (.int .i64 0), 1, 8) := by kernel_rfl
theorem id_eq (x y a b : Int) (w : World) : (Op.equalIn 10000 41 (.agg #[.int .i64 x, .int .i64 y]) (.agg #[.int .i64 a, .int .i64 b])).run Tryz.prog w = .ok (decide (x = a) && decide (y = b)) w := by
  obtain ⟨i, hi, _, _, _⟩ := info_parts infoInt
  have hp : Tryz.prog.plainKey 3 = true := by kernel_rfl
  have hc : Tryz.prog.cellsOf 3 = 1 := by kernel_rfl
  rw [show (10000 : Nat) = 9999 + 1 from rfl, run_equalIn_array w 9999 _ _ Tryz.underlying41 hi, hc, show List.range 2 = [0, 1] from rfl]
  have p0 : ∀ u v : Value, (part 3 #[u, v] 0).run Tryz.prog w = .ok u w := fun u v => run_part_plain w hp rfl
  have p1 : ∀ u v : Value, (part 3 #[u, v] 1).run Tryz.prog w = .ok v w := fun u v => run_part_plain w hp rfl
  have q : ∀ u v : Int, (Op.equalIn 9999 3 (.int .i64 u) (.int .i64 v)).run Tryz.prog w = .ok (u == v) w := fun u v => run_equalIn_int w 9998 _ .i64 .i64 u v Tryz.underlying3
  by_cases h1 : x = a <;> by_cases h2 : y = b <;> simp [Op.eqItems, p0, p1, q, h1, h2]
attribute [local go_sem] id_eq
set_option maxRecDepth 100000 in
set_option maxHeartbeats 8000000 in
theorem extra_any (i0 i1 kd a : Int) (tx : ByteArray) (A : Option Addr) (n m : Nat) (t0 t1 : Int) (on : Bool) (hk : kd = 1 ∨ kd = 2 ∨ kd = 3 ∨ kd = 4) (w : World) : Calls Tryz.prog 76 #[opV i0 i1 kd a tx (.slice A n m) t0 t1 on] w fun e w' => e = .returned (.bool (extraB kd a tx n t0 t1 on)) ∧ Below w.heap.size w w' := by
  unfold extraB opV
  generalize he : tx.toList.isEmpty = em
  rcases hk with rfl | rfl | rfl | rfl
  · by_cases h3 : 0 < n <;> by_cases h4 : t0 = 0 <;> by_cases h5 : t1 = 0
    all_goals
      go_enter Tryz.func76, Tryz.ntmps76
      go_wp2_with fail
      go_ret
      exact ⟨by simp [h3, h4, h5], below_alloc1 _ _⟩
  · cases em <;> by_cases h1 : a = 0 <;> by_cases h4 : t0 = 0 <;> by_cases h5 : t1 = 0
    all_goals
      go_enter Tryz.func76, Tryz.ntmps76
      go_wp2_with fail
      go_ret
      exact ⟨by simp [h1, h4, h5], below_alloc1 _ _⟩
  · cases em <;> by_cases h1 : a = 0 <;> by_cases h4 : t0 = 0 <;> by_cases h5 : t1 = 0
    all_goals
      go_enter Tryz.func76, Tryz.ntmps76
      go_wp2_with fail
      go_ret
      exact ⟨by simp [h1, h4, h5], below_alloc1 _ _⟩
  · cases em <;> by_cases h1 : a = 0 <;> by_cases h3 : 0 < n
    all_goals
      go_enter Tryz.func76, Tryz.ntmps76
      go_wp2_with fail
      go_ret
      exact ⟨by simp [h1, h3], below_alloc1 _ _⟩
end Go.Proofs.YtkdhomiieenfnaaGreatDoor.O
