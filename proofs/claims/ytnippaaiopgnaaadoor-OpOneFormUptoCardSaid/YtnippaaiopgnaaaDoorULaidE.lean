/- What the rows' lists give: the library's error for a bad numeral lies in memory as its text lays it. -/
import Derived.Test.YtnippaaiopgnaaaDoorULaid
import Derived.LaidMore
namespace Go.Proofs.YtnippaaiopgnaaaDoor.U
open Go.ChangeShapes Go.WideShapes Go.ChangeAt Go.RowKit
set_option linter.unusedVariables false

theorem gSyn : Tryd.prog.globalNamed "strconv.ErrSyntax" = some 3 := by kernel_rfl
theorem gSynType : (Tryd.prog.globals[3]?).map (·.type) = some 82 := by kernel_rfl
theorem syn_of_laid {l : List (String × DataW Unit)} {W : World} (hx : (l.filter fun x => x.1 == "strconv.ErrSyntax") = [("strconv.ErrSyntax", (Rows.laid_strconv_ErrSyntax : DataW Unit))]) (h : laidMetH Tryd.prog l W) :
    ∃ ev, W.cell? ⟨3, 0, none⟩ = some ev ∧ (ev = .nilIface ∨ ∃ te pe, ev = .iface te pe) := by
  have h3 := laidMetH.filter (fun x => x.1 == "strconv.ErrSyntax") h
  rw [hx] at h3
  obtain ⟨ps, ⟨g, t, cs, fuel, p, q, hg, ht, hvar, hd, _, _⟩, _⟩ := (laidMetH_iff.1 h3).1
  obtain rfl := Option.some.inj (gSyn.symm.trans hg)
  obtain rfl := Option.some.inj (gSynType.symm.trans ht)
  obtain ⟨f1, u, v, hcs, _, _⟩ := iface_of_trod Tryd.underlying82 hd
  have hc := World.var?_cell gSyn hvar 0
  have e0 : cs[0]? = some (.iface u v) := by
    have : cs.toList[0]? = some (.iface u v) := by rw [hcs]; rfl
    simpa using this
  exact ⟨_, hc.trans e0, .inr ⟨_, _, rfl⟩⟩
end Go.Proofs.YtnippaaiopgnaaaDoor.U
