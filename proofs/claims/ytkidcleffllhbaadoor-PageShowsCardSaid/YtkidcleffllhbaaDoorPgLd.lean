/- What the rows' lists give: the two tables of runes' widths lie in memory as the program's text lays them. -/
import Derived.Test.YtkidcleffllhbaaDoorULaid
import Derived.Test.YtkidcleffllhbaaDoorPgW
import Derived.LaidMore
namespace Go.Proofs.YtkidcleffllhbaaDoor.Pg
open Go.ChangeShapes Go.WideShapes Go.ChangeAt Go.RowKit Go.Proofs.YtkidcleffllhbaaDoor.U
set_option linter.unusedVariables false

/-- An array of arrays of two integers that reads as the pairs holds them, cell for cell. -/
theorem cells_of_arrays {H : Type} {enc : TypeId × Value → H} {P : Program} {w : World} {base : Nat} {sp : Nat → Bool} {held : Bool} {fuel : Nat} {t e T : TypeId} {n : Nat} {k : IntKind} {cs : List Value} {ps : List (Int × Int)} {p : List MemPlace}
    (ht : P.underlying t = some (.array n e)) (he : P.underlying e = some (.array 2 T)) (hT : P.underlying T = some (.int k))
    (cT : P.cellsOf T = 1) (ce : P.cellsOf e = 2) (ct : P.cellsOf t = 2 * n)
    (h : DataW.trod enc P w base sp held fuel t cs = some (.agg (ps.map fun x => .agg [.lit (.int k x.1), .lit (.int k x.2)]), p)) : cs = ps.flatMap fun x => [.int k x.1, .int k x.2] := by
  obtain ⟨xs, m, _, hx, hl, hn, hi⟩ := DataW.trod_array ht h
  have hxs : xs.map (·.1) = ps.map fun x => (.agg [.lit (.int k x.1), .lit (.int k x.2)] : DataW H) := by
    have := congrArg Prod.fst hx
    simpa using this.symm
  have hpl : ps.length = n := by have := congrArg List.length hxs; simp at this; omega
  refine pairs_flat k ps cs (by omega) fun i x hx' => ?_
  have hin : i < n := by have := (List.getElem?_eq_some_iff.1 hx').1; omega
  have h2 := hi i hin
  rw [ce] at h2
  have hxi : xs[i]? = some (xs[i]'(by omega)) := List.getElem?_eq_getElem (by omega)
  rw [hxi] at h2
  obtain ⟨ys, m2, _, hy, hl2, hn2, hj⟩ := DataW.trod_array he h2
  have e1 : (xs.map (·.1))[i]? = some (.agg (ys.map (·.1))) := by rw [List.getElem?_map, hxi, hy]; rfl
  rw [hxs, List.getElem?_map, hx'] at e1
  simp only [Option.map_some, Option.some.injEq, DataW.agg.injEq] at e1
  match ys, hn2, e1, hj with
  | [y0, y1], _, e1, hj =>
    have g0 := hj 0 (by omega)
    have g1 := hj 1 (by omega)
    rw [cT] at g0 g1
    obtain ⟨z0, q0⟩ := y0
    obtain ⟨z1, q1⟩ := y1
    have e2 : [(.lit (.int k x.1) : DataW H), .lit (.int k x.2)] = [z0, z1] := e1
    obtain ⟨rfl, e3⟩ := List.cons.inj e2
    obtain ⟨rfl, _⟩ := List.cons.inj e3
    obtain ⟨a, ea, ha, _⟩ := DataW.trod_int hT g0
    obtain ⟨b, eb, hb, _⟩ := DataW.trod_int hT g1
    simp only [Prod.mk.injEq, DataW.lit.injEq, Lit.int.injEq, true_and] at ha hb
    have ha := ha.1
    have hb := hb.1
    have hlen : ((cs.drop (i * 2)).take 2).length = 2 := by rw [List.length_take, List.length_drop]; omega
    match h3 : (cs.drop (i * 2)).take 2, hlen with
    | [a', b'], _ =>
      rw [h3] at ea eb
      simp at ea eb
      rw [ea, eb, ha, hb]
theorem cPair : Tryd.prog.cellsOf 107 = 2 := by kernel_rfl
theorem tabs_of_laid {l : List (String × DataW Unit)} {W : World} (h1 : (l.filter fun x => x.1 == "redraft/page.none") = [("redraft/page.none", (Rows.laid_redraft_page_none : DataW Unit))]) (h2 : (l.filter fun x => x.1 == "redraft/page.wide") = [("redraft/page.wide", (Rows.laid_redraft_page_wide : DataW Unit))]) (h : laidMetH Tryd.prog l W) : Tabs W := by
  constructor
  · have h3 := laidMetH.filter (fun x => x.1 == "redraft/page.none") h
    rw [h1] at h3
    obtain ⟨ps, ⟨g, t, cs, fuel, p, q, hg, ht, hvar, hd, _, _⟩, _⟩ := (laidMetH_iff.1 h3).1
    obtain rfl := Option.some.inj ((show Tryd.prog.globalNamed "redraft/page.none" = some 0 by kernel_rfl).symm.trans hg)
    obtain rfl := Option.some.inj ((show (Tryd.prog.globals[0]?).map (·.type) = some 108 by kernel_rfl).symm.trans ht)
    have hc := cells_of_arrays (ps := noneT) Tryd.underlying108 Tryd.underlying107 Tryd.underlying21 cRune cPair (by kernel_rfl) hd
    obtain rfl : cs = pairCells noneT := by rw [← Array.toList_inj, hc]; rfl
    simp only [World.var?, hg, Option.bind_some] at hvar
    split at hvar
    · rename_i c t fr e
      obtain rfl := Option.some.inj hvar
      exact ⟨t, fr, e⟩
    · cases hvar
  · have h3 := laidMetH.filter (fun x => x.1 == "redraft/page.wide") h
    rw [h2] at h3
    obtain ⟨ps, ⟨g, t, cs, fuel, p, q, hg, ht, hvar, hd, _, _⟩, _⟩ := (laidMetH_iff.1 h3).1
    obtain rfl := Option.some.inj ((show Tryd.prog.globalNamed "redraft/page.wide" = some 1 by kernel_rfl).symm.trans hg)
    obtain rfl := Option.some.inj ((show (Tryd.prog.globals[1]?).map (·.type) = some 109 by kernel_rfl).symm.trans ht)
    have hc := cells_of_arrays (ps := wideT) Tryd.underlying109 Tryd.underlying107 Tryd.underlying21 cRune cPair (by kernel_rfl) hd
    obtain rfl : cs = pairCells wideT := by rw [← Array.toList_inj, hc]; rfl
    simp only [World.var?, hg, Option.bind_some] at hvar
    split at hvar
    · rename_i c t fr e
      obtain rfl := Option.some.inj hvar
      exact ⟨t, fr, e⟩
    · cases hvar
end Go.Proofs.YtkidcleffllhbaaDoor.Pg
