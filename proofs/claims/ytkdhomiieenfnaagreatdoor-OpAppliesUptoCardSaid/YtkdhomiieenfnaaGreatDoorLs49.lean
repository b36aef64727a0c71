/- What the rows' lists give: the table of powers of ten; all that Print reads. What the rows' lists give: the library's error for a bad numeral lies in memory as its text lays it. What the rows' lists give: all that Parse reads. -/
import Derived.Test.YtkdhomiieenfnaaGreatDoorLs48
import Derived.Test.YtkdhomiieenfnaaGreatDoorLs23
import Derived.LaidMore
import Derived.Test.YtkdhomiieenfnaaGreatDoorOqT
namespace Go.Proofs.YtkdhomiieenfnaaGreatDoor.O
open Go.ChangeShapes Go.WideShapes Go.ChangeAt Go.RowKit Go.Proofs.YtkdhomiieenfnaaGreatDoor.U
set_option linter.unusedVariables false

theorem gPow : Tryz.prog.globalNamed "internal/strconv.uint64pow10" = some 1 := by kernel_rfl
theorem gPowType : (Tryz.prog.globals[1]?).map (·.type) = some 223 := by kernel_rfl
theorem cPow : Tryz.prog.cellsOf 223 = 20 := by kernel_rfl
theorem cU64 : Tryz.prog.cellsOf 203 = 1 := by kernel_rfl
theorem pow_of_laid {l : List (String × DataW Unit)} {W : World} (hx : (l.filter fun x => x.1 == "internal/strconv.uint64pow10") = [("internal/strconv.uint64pow10", (Rows.laid_internal_strconv_uint64pow10 : DataW Unit))]) (h : laidMetH Tryz.prog l W) : Lib.TabIs Tryz.prog W "internal/strconv.uint64pow10" .u64 Lib.pow10Tab := by
  have h1 := laidMetH.filter (fun x => x.1 == "internal/strconv.uint64pow10") h
  rw [hx] at h1
  have h2 := (laidMetH_iff.1 h1).1
  rw [show (Rows.laid_internal_strconv_uint64pow10 : DataW Unit) = Lib.tabData .u64 Lib.pow10Tab by kernel_rfl] at h2
  exact Lib.tabIs_of_head gPow gPowType Tryz.underlying223 Tryz.underlying203 cU64 cPow h2
end Go.Proofs.YtkdhomiieenfnaaGreatDoor.O

namespace Go.Proofs.YtkdhomiieenfnaaGreatDoor.U
open Go.ChangeShapes Go.WideShapes Go.ChangeAt Go.RowKit
set_option linter.unusedVariables false

theorem gSyn : Tryz.prog.globalNamed "strconv.ErrSyntax" = some 3 := by kernel_rfl
theorem gSynType : (Tryz.prog.globals[3]?).map (·.type) = some 116 := by kernel_rfl
theorem syn_of_laid {l : List (String × DataW Unit)} {W : World} (hx : (l.filter fun x => x.1 == "strconv.ErrSyntax") = [("strconv.ErrSyntax", (Rows.laid_strconv_ErrSyntax : DataW Unit))]) (h : laidMetH Tryz.prog l W) :
    ∃ ev, W.cell? ⟨3, 0, none⟩ = some ev ∧ (ev = .nilIface ∨ ∃ te pe, ev = .iface te pe) := by
  have h3 := laidMetH.filter (fun x => x.1 == "strconv.ErrSyntax") h
  rw [hx] at h3
  obtain ⟨ps, ⟨g, t, cs, fuel, p, q, hg, ht, hvar, hd, _, _⟩, _⟩ := (laidMetH_iff.1 h3).1
  obtain rfl := Option.some.inj (gSyn.symm.trans hg)
  obtain rfl := Option.some.inj (gSynType.symm.trans ht)
  obtain ⟨f1, u, v, hcs, _, _⟩ := iface_of_trod Tryz.underlying116 hd
  have hc := World.var?_cell gSyn hvar 0
  have e0 : cs[0]? = some (.iface u v) := by
    have : cs.toList[0]? = some (.iface u v) := by rw [hcs]; rfl
    simpa using this
  exact ⟨_, hc.trans e0, .inr ⟨_, _, rfl⟩⟩
end Go.Proofs.YtkdhomiieenfnaaGreatDoor.U

namespace Go.Proofs.YtkdhomiieenfnaaGreatDoor.O
open Go.ChangeShapes Go.WideShapes Go.ChangeAt Go.RowKit Go.Proofs.YtkdhomiieenfnaaGreatDoor.U
set_option linter.unusedVariables false

theorem gRng : Tryz.prog.globalNamed "strconv.ErrRange" = some 4 := by kernel_rfl
theorem gRngType : (Tryz.prog.globals[4]?).map (·.type) = some 116 := by kernel_rfl
theorem rng_of_laid {l : List (String × DataW Unit)} {W : World} (hx : (l.filter fun x => x.1 == "strconv.ErrRange") = [("strconv.ErrRange", (Rows.laid_strconv_ErrRange : DataW Unit))]) (h : laidMetH Tryz.prog l W) :
    ∃ ev, W.cell? ⟨4, 0, none⟩ = some ev ∧ (ev = .nilIface ∨ ∃ te pe, ev = .iface te pe) := by
  have h3 := laidMetH.filter (fun x => x.1 == "strconv.ErrRange") h
  rw [hx] at h3
  obtain ⟨ps, ⟨g, t, cs, fuel, p, q, hg, ht, hvar, hd, _, _⟩, _⟩ := (laidMetH_iff.1 h3).1
  obtain rfl := Option.some.inj (gRng.symm.trans hg)
  obtain rfl := Option.some.inj (gRngType.symm.trans ht)
  obtain ⟨f1, u, v, hcs, _, _⟩ := iface_of_trod Tryz.underlying116 hd
  have hc := World.var?_cell gRng hvar 0
  have e0 : cs[0]? = some (.iface u v) := by
    have : cs.toList[0]? = some (.iface u v) := by rw [hcs]; rfl
    simpa using this
  exact ⟨_, hc.trans e0, .inr ⟨_, _, rfl⟩⟩
theorem ml_of_shape {W : World} (h : W.ShapedOpen Tryz.prog) : ∃ m, W.cell? ⟨2, 0, none⟩ = some (.int .i64 m) := Tryz.laysM145.s1_3 W h
end Go.Proofs.YtkdhomiieenfnaaGreatDoor.O
