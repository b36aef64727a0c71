/- What the rows' lists give: the table of runes that are not let in lies in memory as the program's text lays it. -/
import Derived.Test.YtkdhomiieenfnaaDoorUWalk1
import Derived.Test.YtkdhomiieenfnaaDoorRows
import Derived.ProofKit
import Derived.OpenShut
import Derived.LaidLaws
import Derived.LaidSub
import Derived.FnData
namespace Go.Proofs.YtkdhomiieenfnaaDoor.U
open Go.ChangeShapes Go.WideShapes Go.ChangeAt Go.RowKit

theorem pairs_flat (k : IntKind) : ∀ (ps : List (Int × Int)) (cs : List Value), cs.length = 2 * ps.length → (∀ (i : Nat) (x : Int × Int), ps[i]? = some x → (cs.drop (i * 2)).take 2 = [.int k x.1, .int k x.2]) → cs = ps.flatMap fun x => [.int k x.1, .int k x.2]
  | [], cs, h, _ => by simpa using h
  | x :: ps, cs, h, hi => by
    have h0 := hi 0 x rfl
    match cs, h with
    | [], h => simp at h
    | [_], h => simp at h; omega
    | a :: b :: cs, h =>
      simp at h0
      obtain ⟨rfl, rfl⟩ := h0
      have := pairs_flat k ps cs (by simp at h; omega) fun i y hy => by
        have := hi (i + 1) y (by simpa using hy)
        rwa [show (i + 1) * 2 = i * 2 + 2 by omega, show (Value.int k x.1 :: Value.int k x.2 :: cs).drop (i * 2 + 2) = cs.drop (i * 2) from rfl] at this
      rw [this]; simp

/-- An array of pairs of integers (structs) that reads as the pairs holds them, cell for cell. -/
theorem cells_of_pairs {H : Type} {enc : TypeId × Value → H} {P : Program} {w : World} {base : Nat} {sp : Nat → Bool} {held : Bool} {fuel : Nat} {t e T : TypeId} {n : Nat} {f0 f1 : Field} {k : IntKind} {cs : List Value} {ps : List (Int × Int)} {p : List MemPlace}
    (ht : P.underlying t = some (.array n e)) (he : P.underlying e = some (.struct #[f0, f1])) (h0 : f0.type = T ∧ f0.offset = 0) (h1 : f1.type = T ∧ f1.offset = 1) (hT : P.underlying T = some (.int k))
    (cT : P.cellsOf T = 1) (ce : P.cellsOf e = 2) (ct : P.cellsOf t = 2 * n)
    (h : DataW.trod enc P w base sp held fuel t cs = some (.agg (ps.map fun x => .agg [.lit (.int k x.1), .lit (.int k x.2)]), p)) : cs = ps.flatMap fun x => [.int k x.1, .int k x.2] := by
  obtain ⟨xs, m, _, hx, hl, hn, hi⟩ := DataW.trod_array ht h
  have hxs : xs.map (·.1) = ps.map fun x => (.agg [.lit (.int k x.1), .lit (.int k x.2)] : DataW H) := by
    have := congrArg Prod.fst hx
    simpa using this.symm
  have hpl : ps.length = n := by have := congrArg List.length hxs; simp at this; omega
  refine pairs_flat k ps cs (by omega) fun i x hx' => ?_
  have hin : i < n := by have := (List.getElem?_eq_some_iff.1 hx').1; omega
  have h2 := hi i hin
  rw [ce] at h2
  have hxi : xs[i]? = some (xs[i]'(by omega)) := List.getElem?_eq_getElem (by omega)
  rw [hxi] at h2
  obtain ⟨y0, y1, q, hy, _, g0, g1⟩ := trod_struct2 he h2
  have e1 : (xs.map (·.1))[i]? = some (.agg [y0.1, y1.1]) := by rw [List.getElem?_map, hxi, hy]; rfl
  rw [hxs, List.getElem?_map, hx'] at e1
  simp only [Option.map_some, Option.some.injEq, DataW.agg.injEq, List.cons.injEq, and_true] at e1
  rw [h0.1, h0.2, cT] at g0
  rw [h1.1, h1.2, cT] at g1
  obtain ⟨a, ea, rfl, _⟩ := DataW.trod_int hT g0
  obtain ⟨b, eb, rfl, _⟩ := DataW.trod_int hT g1
  simp only [DataW.lit.injEq, Lit.int.injEq, true_and] at e1
  obtain ⟨rfl, rfl⟩ := e1
  have hlen : ((cs.drop (i * 2)).take 2).length = 2 := by rw [List.length_take, List.length_drop]; omega
  match h3 : (cs.drop (i * 2)).take 2, hlen with
  | [a', b'], _ =>
    rw [h3] at ea eb
    simp at ea eb
    rw [ea, eb]

theorem gBars : Tryd.prog.globalNamed "redraft/utext.bars" = some 0 := by kernel_rfl
theorem gBarsType : (Tryd.prog.globals[0]?).map (·.type) = some 164 := by kernel_rfl
theorem cBars : Tryd.prog.cellsOf 164 = 10 := by kernel_rfl
theorem cBar : Tryd.prog.cellsOf 163 = 2 := by kernel_rfl
theorem cRune : Tryd.prog.cellsOf 21 = 1 := by kernel_rfl

/-- From the list to the memory, wherever on the list the table stands. -/
theorem bars_of_laid {l : List (String × DataW Unit)} {W : World} (hx : (l.filter fun x => x.1 == "redraft/utext.bars") = [("redraft/utext.bars", (Rows.laid_redraft_utext_bars : DataW Unit))]) (h : laidMetH Tryd.prog l W) : Bars W := by
  have h1 := laidMetH.filter (fun x => x.1 == "redraft/utext.bars") h
  rw [hx] at h1
  obtain ⟨ps, ⟨g, t, cs, fuel, p, q, hg, ht, hvar, hd, _, _⟩, _⟩ := (laidMetH_iff.1 h1).1
  obtain rfl := Option.some.inj (gBars.symm.trans hg)
  obtain rfl := Option.some.inj (gBarsType.symm.trans ht)
  have hc := cells_of_pairs (ps := [(0, 8), (11, 31), (127, 159), (64976, 65007), (65279, 65279)]) Tryd.underlying164 Tryd.underlying163 ⟨rfl, rfl⟩ ⟨rfl, rfl⟩ Tryd.underlying21 cRune cBar cBars hd
  obtain rfl : cs = barsCells := by rw [← Array.toList_inj, hc]; rfl
  simp only [World.var?, hg, Option.bind_some] at hvar
  split at hvar
  · rename_i c t fr e
    obtain rfl := Option.some.inj hvar
    exact ⟨t, fr, e⟩
  · cases hvar

end Go.Proofs.YtkdhomiieenfnaaDoor.U
