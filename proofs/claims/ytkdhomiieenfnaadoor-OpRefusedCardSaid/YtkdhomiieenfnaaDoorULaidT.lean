/- What the rows' lists give: the table of bits.TrailingZeros64 lies in memory as its text lays it. -/
import Derived.Test.YtkdhomiieenfnaaDoorULaid
import Derived.Test.YtkdhomiieenfnaaDoorUHex
namespace Go.Proofs.YtkdhomiieenfnaaDoor.U
open Go.ChangeShapes Go.WideShapes Go.ChangeAt Go.RowKit
set_option linter.unusedVariables false

/-- An array of one-cell elements: each cell's own reading. -/
theorem array_cell1 {H : Type} {enc : TypeId × Value → H} {P : Program} {w : World} {base : Nat} {sp : Nat → Bool} {held : Bool} {fuel : Nat} {t e : TypeId} {n : Nat} {cs : List Value} {ds : List (DataW H)} {p : List MemPlace}
    (ht : P.underlying t = some (.array n e)) (ce : P.cellsOf e = 1) (ct : P.cellsOf t = n) (h : DataW.trod enc P w base sp held fuel t cs = some (.agg ds, p)) (i : Nat) (d : DataW H) (hd : ds[i]? = some d) : ∃ v m q, cs[i]? = some v ∧ DataW.trod enc P w base sp held m e [v] = some (d, q) := by
  obtain ⟨xs, m, _, hx, hl, hn, hi⟩ := DataW.trod_array ht h
  have hxs : xs.map (·.1) = ds := by
    have := congrArg Prod.fst hx
    simpa using this.symm
  rw [← hxs, List.getElem?_map] at hd
  obtain ⟨x, hxi, rfl⟩ := Option.map_eq_some_iff.1 hd
  have hin : i < n := by have := (List.getElem?_eq_some_iff.1 hxi).1; omega
  have h2 := hi i hin
  rw [ce, hxi, Nat.mul_one] at h2
  have hc : cs[i]? = some (cs[i]'(by omega)) := List.getElem?_eq_getElem (by omega)
  have e1 : (cs.drop i).take 1 = [cs[i]'(by omega)] := by
    rw [List.drop_eq_getElem_cons (by omega)]; rfl
  rw [e1] at h2
  exact ⟨_, m, x.2, hc, h2⟩
theorem gTz : Tryd.prog.globalNamed "math/bits.deBruijn64tab" = some 6 := by kernel_rfl
theorem gTzType : (Tryd.prog.globals[6]?).map (·.type) = some 219 := by kernel_rfl
theorem cTz : Tryd.prog.cellsOf 219 = 64 := by kernel_rfl
theorem cByte : Tryd.prog.cellsOf 5 = 1 := by kernel_rfl
def tzD : List (DataW Unit) := match (Rows.laid_math_bits_deBruijn64tab : DataW Unit) with | .agg l => l | _ => []
theorem tz_of_laid {l : List (String × DataW Unit)} {W : World} (hx : (l.filter fun x => x.1 == "math/bits.deBruijn64tab") = [("math/bits.deBruijn64tab", (Rows.laid_math_bits_deBruijn64tab : DataW Unit))]) (h : laidMetH Tryd.prog l W) : Tz16 W := by
  have h1 := laidMetH.filter (fun x => x.1 == "math/bits.deBruijn64tab") h
  rw [hx] at h1
  obtain ⟨ps, ⟨g, t, cs, fuel, p, q, hg, ht, hvar, hd, _, _⟩, _⟩ := (laidMetH_iff.1 h1).1
  obtain rfl := Option.some.inj (gTz.symm.trans hg)
  obtain rfl := Option.some.inj (gTzType.symm.trans ht)
  obtain ⟨v, m, q', hc, hr⟩ := array_cell1 (ds := tzD) Tryd.underlying219 cByte cTz hd 15 (.lit (.int .u8 4)) (by kernel_rfl)
  obtain ⟨n, en, e2, _⟩ := DataW.trod_int Tryd.underlying5 hr
  simp at en e2
  subst en
  unfold Tz16
  simp only [World.var?, hg, Option.bind_some] at hvar
  split at hvar
  · rename_i c t fr e
    obtain rfl := Option.some.inj hvar
    rw [Lib.cell_of_heap e, ← Array.getElem?_toList, hc, ← e2.1]
  · cases hvar
end Go.Proofs.YtkdhomiieenfnaaDoor.U
