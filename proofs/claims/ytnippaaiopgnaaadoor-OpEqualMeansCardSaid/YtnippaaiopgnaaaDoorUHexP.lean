/- Digits of base 16, in plain Lean. -/
import Derived.KernelRfl
namespace Go.Proofs.YtnippaaiopgnaaaDoor.U
set_option linter.unusedVariables false
set_option linter.unusedSimpArgs false

/-- A digit. -/
def dig (n : Nat) : UInt8 := if n < 10 then (48 + n).toUInt8 else (87 + n).toUInt8
/-- The digits of a number, of base 16. -/
def hexL (n : Nat) : List UInt8 := if n < 16 then [dig n] else hexL (n / 16) ++ [dig (n % 16)]
termination_by n
decreasing_by omega

theorem hexL_pos (n : Nat) : 0 < (hexL n).length := by
  rw [hexL]
  split <;> simp
end Go.Proofs.YtnippaaiopgnaaaDoor.U
