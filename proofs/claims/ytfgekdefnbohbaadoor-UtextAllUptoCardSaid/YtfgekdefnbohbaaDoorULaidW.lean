/- What the rows' lists give: the table of the caret's walks lies in memory as the program's text lays it. -/
import Derived.Test.YtfgekdefnbohbaaDoorULaid
import Derived.Test.YtfgekdefnbohbaaDoorUAll9
import Derived.LaidMore
namespace Go.Proofs.YtfgekdefnbohbaaDoor.U
open Go.ChangeShapes Go.WideShapes Go.ChangeAt Go.RowKit
set_option linter.unusedVariables false

theorem gWalks : Tryd.prog.globalNamed "redraft/utext.walks" = some 2 := by kernel_rfl
theorem gWalksType : (Tryd.prog.globals[2]?).map (·.type) = some 127 := by kernel_rfl
theorem cFunc : Tryd.prog.cellsOf 126 = 1 := by kernel_rfl
/-- An array of one-cell elements: each cell's own reading. -/
theorem array_cell {H : Type} {enc : TypeId × Value → H} {P : Program} {w : World} {base : Nat} {sp : Nat → Bool} {held : Bool} {fuel : Nat} {t e : TypeId} {n : Nat} {cs : List Value} {ds : List (DataW H)} {p : List MemPlace}
    (ht : P.underlying t = some (.array n e)) (ce : P.cellsOf e = 1) (ct : P.cellsOf t = n) (h : DataW.trod enc P w base sp held fuel t cs = some (.agg ds, p)) (i : Nat) (d : DataW H) (hd : ds[i]? = some d) : ∃ v m q, cs[i]? = some v ∧ DataW.trod enc P w base sp held m e [v] = some (d, q) := by
  obtain ⟨xs, m, _, hx, hl, hn, hi⟩ := DataW.trod_array ht h
  have hxs : xs.map (·.1) = ds := by
    have := congrArg Prod.fst hx
    simpa using this.symm
  rw [← hxs, List.getElem?_map] at hd
  obtain ⟨x, hxi, rfl⟩ := Option.map_eq_some_iff.1 hd
  have hin : i < n := by have := (List.getElem?_eq_some_iff.1 hxi).1; omega
  have h2 := hi i hin
  rw [ce, hxi, Nat.mul_one] at h2
  have hc : cs[i]? = some (cs[i]'(by omega)) := List.getElem?_eq_getElem (by omega)
  have e1 : (cs.drop i).take 1 = [cs[i]'(by omega)] := by
    rw [List.drop_eq_getElem_cons (by omega)]; rfl
  rw [e1] at h2
  exact ⟨_, m, x.2, hc, h2⟩
theorem walks_of_laid {l : List (String × DataW Unit)} {W : World} (hx : (l.filter fun x => x.1 == "redraft/utext.walks") = [("redraft/utext.walks", (Rows.laid_redraft_utext_walks : DataW Unit))]) (h : laidMetH Tryd.prog l W) : Walks W := by
  have h1 := laidMetH.filter (fun x => x.1 == "redraft/utext.walks") h
  rw [hx] at h1
  obtain ⟨g, t, cs, fuel, p, hg, ht, hv, hd⟩ := laidMetH.funcs h1 (List.mem_singleton.2 rfl)
  obtain rfl := Option.some.inj (gWalks.symm.trans hg)
  obtain rfl := Option.some.inj (gWalksType.symm.trans ht)
  have cell : ∀ i d, _ → ∃ v m q, W.cell? ⟨2, i, none⟩ = some v ∧ DataW.trod (funcToken Tryd.prog) Tryd.prog W 0 (fun _ => true) true m 126 [v] = some (d, q) := fun i d hdi => by
    obtain ⟨v, m, q, hc, hr⟩ := array_cell Tryd.underlying127 cFunc (by kernel_rfl) hd i d hdi
    exact ⟨v, m, q, by rw [World.var?_cell hg hv i, ← hc]; simp, hr⟩
  have fin : ∀ i f b r, (∃ v m q, W.cell? ⟨2, i, none⟩ = some v ∧ DataW.trod (funcToken Tryd.prog) Tryd.prog W 0 (fun _ => true) true m 126 [v] = some (.held (b :: r), q)) →
      ((List.range Tryd.prog.funcs.size).filter fun f => (Tryd.prog.funcs[f]?).any (·.name.toUTF8.data.toList == b :: r)) = [f] → W.cell? ⟨2, i, none⟩ = some (.func (.func f) #[] #[]) := by
    rintro i f b r ⟨v, m, q, hc, hr⟩ hf
    rw [hc, func_of_trod Tryd.underlying126 hf hr]
  exact ⟨fin 1 _ _ _ (cell 1 _ rfl) (by kernel_rfl), fin 2 _ _ _ (cell 2 _ rfl) (by kernel_rfl), fin 3 _ _ _ (cell 3 _ rfl) (by kernel_rfl), fin 4 _ _ _ (cell 4 _ rfl) (by kernel_rfl), fin 5 _ _ _ (cell 5 _ rfl) (by kernel_rfl),
    fin 6 _ _ _ (cell 6 _ rfl) (by kernel_rfl), fin 7 _ _ _ (cell 7 _ rfl) (by kernel_rfl), fin 8 _ _ _ (cell 8 _ rfl) (by kernel_rfl), fin 9 _ _ _ (cell 9 _ rfl) (by kernel_rfl), fin 10 _ _ _ (cell 10 _ rfl) (by kernel_rfl)⟩
end Go.Proofs.YtfgekdefnbohbaaDoor.U
