/- What the rows' lists give: the page's own table of walks lies in memory as the program's text lays it. -/
import Derived.Test.YthbfkmfinalfdaaDoorPgLd
import Derived.Test.YthbfkmfinalfdaaDoorULaidW
import Derived.Test.YthbfkmfinalfdaaDoorPgWalkX
import Derived.LaidMore
namespace Go.Proofs.YthbfkmfinalfdaaDoor.Pg
open Go.ChangeShapes Go.WideShapes Go.ChangeAt Go.RowKit Go.Proofs.YthbfkmfinalfdaaDoor.U
set_option linter.unusedVariables false

theorem nil_of_trod {H : Type} {enc : TypeId × Value → H} {P : Program} {w : World} {base : Nat} {sp : Nat → Bool} {fuel : Nat} {t : TypeId} {ps rs : Array TypeId} {va : Bool} {v : Value} {q : List MemPlace}
    (ht : P.underlying t = some (.func ps rs va)) (h : DataW.trod enc P w base sp true fuel t [v] = some (.nil, q)) : v = .nilFunc := by
  cases fuel with
  | zero => simp [DataW.trod] at h
  | succ n => cases v <;> simp [DataW.trod, ht] at h ⊢
theorem gPWalks : Tryd.prog.globalNamed "redraft/page.walks" = some 0 := by kernel_rfl
theorem gPWalksType : (Tryd.prog.globals[0]?).map (·.type) = some 52 := by kernel_rfl
theorem cPFunc : Tryd.prog.cellsOf 51 = 1 := by kernel_rfl
theorem pwalks_of_laid {l : List (String × DataW Unit)} {W : World} (hx : (l.filter fun x => x.1 == "redraft/page.walks") = [("redraft/page.walks", (Rows.laid_redraft_page_walks : DataW Unit))]) (h : laidMetH Tryd.prog l W) : PWalks W := by
  have h1 := laidMetH.filter (fun x => x.1 == "redraft/page.walks") h
  rw [hx] at h1
  obtain ⟨g, t, cs, fuel, p, hg, ht, hv, hd⟩ := laidMetH.funcs h1 (List.mem_singleton.2 rfl)
  obtain rfl := Option.some.inj (gPWalks.symm.trans hg)
  obtain rfl := Option.some.inj (gPWalksType.symm.trans ht)
  have cell : ∀ i d, _ → ∃ v m q, W.cell? ⟨0, i, none⟩ = some v ∧ DataW.trod (funcToken Tryd.prog) Tryd.prog W 0 (fun _ => true) true m 51 [v] = some (d, q) := fun i d hdi => by
    obtain ⟨v, m, q, hc, hr⟩ := array_cell Tryd.underlying52 cPFunc (by kernel_rfl) hd i d hdi
    exact ⟨v, m, q, by rw [World.var?_cell hg hv i, ← hc]; simp, hr⟩
  have fin : ∀ i f b r, (∃ v m q, W.cell? ⟨0, i, none⟩ = some v ∧ DataW.trod (funcToken Tryd.prog) Tryd.prog W 0 (fun _ => true) true m 51 [v] = some (.held (b :: r), q)) →
      ((List.range Tryd.prog.funcs.size).filter fun f => (Tryd.prog.funcs[f]?).any (·.name.toUTF8.data.toList == b :: r)) = [f] → W.cell? ⟨0, i, none⟩ = some (.func (.func f) #[] #[]) := by
    rintro i f b r ⟨v, m, q, hc, hr⟩ hf
    rw [hc, func_of_trod Tryd.underlying51 hf hr]
  have non : ∀ i, (∃ v m q, W.cell? ⟨0, i, none⟩ = some v ∧ DataW.trod (funcToken Tryd.prog) Tryd.prog W 0 (fun _ => true) true m 51 [v] = some (.nil, q)) → W.cell? ⟨0, i, none⟩ = some .nilFunc := by
    rintro i ⟨v, m, q, hc, hr⟩
    rw [hc, nil_of_trod Tryd.underlying51 hr]
  exact ⟨non 1 (cell 1 _ rfl), non 2 (cell 2 _ rfl), fin 3 _ _ _ (cell 3 _ rfl) (by kernel_rfl), fin 4 _ _ _ (cell 4 _ rfl) (by kernel_rfl), fin 5 _ _ _ (cell 5 _ rfl) (by kernel_rfl), fin 6 _ _ _ (cell 6 _ rfl) (by kernel_rfl),
    non 7 (cell 7 _ rfl), non 8 (cell 8 _ rfl), non 9 (cell 9 _ rfl), non 10 (cell 10 _ rfl)⟩
end Go.Proofs.YthbfkmfinalfdaaDoor.Pg
