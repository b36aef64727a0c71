/- What the rows' lists give: the table of powers of ten; all that Print reads. -/
import Derived.Test.YtkdhomiieenfnaaDoorULaidT
import Derived.Test.YtkdhomiieenfnaaDoorXLm32
namespace Go.Proofs.YtkdhomiieenfnaaDoor.O
open Go.ChangeShapes Go.WideShapes Go.ChangeAt Go.RowKit Go.Proofs.YtkdhomiieenfnaaDoor.U
set_option linter.unusedVariables false

theorem gPow : Tryd.prog.globalNamed "internal/strconv.uint64pow10" = some 1 := by kernel_rfl
theorem gPowType : (Tryd.prog.globals[1]?).map (·.type) = some 200 := by kernel_rfl
theorem cPow : Tryd.prog.cellsOf 200 = 20 := by kernel_rfl
theorem cU64 : Tryd.prog.cellsOf 182 = 1 := by kernel_rfl
theorem pow_of_laid {l : List (String × DataW Unit)} {W : World} (hx : (l.filter fun x => x.1 == "internal/strconv.uint64pow10") = [("internal/strconv.uint64pow10", (Rows.laid_internal_strconv_uint64pow10 : DataW Unit))]) (h : laidMetH Tryd.prog l W) : Lib.TabIs Tryd.prog W "internal/strconv.uint64pow10" .u64 Lib.pow10Tab := by
  have h1 := laidMetH.filter (fun x => x.1 == "internal/strconv.uint64pow10") h
  rw [hx] at h1
  have h2 := (laidMetH_iff.1 h1).1
  rw [show (Rows.laid_internal_strconv_uint64pow10 : DataW Unit) = Lib.tabData .u64 Lib.pow10Tab by kernel_rfl] at h2
  exact Lib.tabIs_of_head gPow gPowType Tryd.underlying200 Tryd.underlying182 cU64 cPow h2
end Go.Proofs.YtkdhomiieenfnaaDoor.O
