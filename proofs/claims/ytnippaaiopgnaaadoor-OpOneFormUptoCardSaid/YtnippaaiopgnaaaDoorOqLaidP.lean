/- What the rows' lists give: all that Parse reads. -/
import Derived.Test.YtnippaaiopgnaaaDoorOqLaid
import Derived.Test.YtnippaaiopgnaaaDoorOqT
import Derived.Test.YtnippaaiopgnaaaDoorULaidE
namespace Go.Proofs.YtnippaaiopgnaaaDoor.O
open Go.ChangeShapes Go.WideShapes Go.ChangeAt Go.RowKit Go.Proofs.YtnippaaiopgnaaaDoor.U
set_option linter.unusedVariables false

theorem gRng : Tryd.prog.globalNamed "strconv.ErrRange" = some 4 := by kernel_rfl
theorem gRngType : (Tryd.prog.globals[4]?).map (·.type) = some 82 := by kernel_rfl
theorem rng_of_laid {l : List (String × DataW Unit)} {W : World} (hx : (l.filter fun x => x.1 == "strconv.ErrRange") = [("strconv.ErrRange", (Rows.laid_strconv_ErrRange : DataW Unit))]) (h : laidMetH Tryd.prog l W) :
    ∃ ev, W.cell? ⟨4, 0, none⟩ = some ev ∧ (ev = .nilIface ∨ ∃ te pe, ev = .iface te pe) := by
  have h3 := laidMetH.filter (fun x => x.1 == "strconv.ErrRange") h
  rw [hx] at h3
  obtain ⟨ps, ⟨g, t, cs, fuel, p, q, hg, ht, hvar, hd, _, _⟩, _⟩ := (laidMetH_iff.1 h3).1
  obtain rfl := Option.some.inj (gRng.symm.trans hg)
  obtain rfl := Option.some.inj (gRngType.symm.trans ht)
  obtain ⟨f1, u, v, hcs, _, _⟩ := iface_of_trod Tryd.underlying82 hd
  have hc := World.var?_cell gRng hvar 0
  have e0 : cs[0]? = some (.iface u v) := by
    have : cs.toList[0]? = some (.iface u v) := by rw [hcs]; rfl
    simpa using this
  exact ⟨_, hc.trans e0, .inr ⟨_, _, rfl⟩⟩
theorem ml_of_shape {W : World} (h : W.ShapedOpen Tryd.prog) : ∃ m, W.cell? ⟨2, 0, none⟩ = some (.int .i64 m) := Tryd.laysM145.s1_3 W h
end Go.Proofs.YtnippaaiopgnaaaDoor.O
