/- What the rows' lists give: the table of runes that are not let in lies in memory as the program's text lays it. How an argument of type Row is opened, its deeds' parts too. OpTakesBack walked. -/
import Derived.Test.YtkdhomiieenfnaaGreatDoorLt0
import Derived.Test.YtkdhomiieenfnaaGreatDoorRows
import Derived.ProofKit
import Derived.OpenShut
import Derived.LaidLaws
import Derived.LaidSub
import Derived.FnData
import Derived.Test.YtkdhomiieenfnaaGreatDoorLt22
import Derived.Test.YtkdhomiieenfnaaGreatDoorOrChosen
import Derived.Lib.SmallJoins
import Derived.Deep.Slices
import Derived.Deep.SlicePairs
import Derived.Deep.Fields
import Derived.ChangeSame
import Derived.SizedLaws
import Derived.ChangeSlices
import Derived.Test.YtkdhomiieenfnaaGreatDoorLwBack
import Derived.Test.YtkdhomiieenfnaaGreatDoorLt44
namespace Go.Proofs.YtkdhomiieenfnaaGreatDoor.U
open Go.ChangeShapes Go.WideShapes Go.ChangeAt Go.RowKit

theorem pairs_flat (k : IntKind) : ∀ (ps : List (Int × Int)) (cs : List Value), cs.length = 2 * ps.length → (∀ (i : Nat) (x : Int × Int), ps[i]? = some x → (cs.drop (i * 2)).take 2 = [.int k x.1, .int k x.2]) → cs = ps.flatMap fun x => [.int k x.1, .int k x.2]
  | [], cs, h, _ => by simpa using h
  | x :: ps, cs, h, hi => by
    have h0 := hi 0 x rfl
    match cs, h with
    | [], h => simp at h
    | [_], h => simp at h; omega
    | a :: b :: cs, h =>
      simp at h0
      obtain ⟨rfl, rfl⟩ := h0
      have := pairs_flat k ps cs (by simp at h; omega) fun i y hy => by
        have := hi (i + 1) y (by simpa using hy)
        rwa [show (i + 1) * 2 = i * 2 + 2 by omega, show (Value.int k x.1 :: Value.int k x.2 :: cs).drop (i * 2 + 2) = cs.drop (i * 2) from rfl] at this
      rw [this]; simp

/-- An array of pairs of integers (structs) that reads as the pairs holds them, cell for cell. -/
theorem cells_of_pairs {H : Type} {enc : TypeId × Value → H} {P : Program} {w : World} {base : Nat} {sp : Nat → Bool} {held : Bool} {fuel : Nat} {t e T : TypeId} {n : Nat} {f0 f1 : Field} {k : IntKind} {cs : List Value} {ps : List (Int × Int)} {p : List MemPlace}
    (ht : P.underlying t = some (.array n e)) (he : P.underlying e = some (.struct #[f0, f1])) (h0 : f0.type = T ∧ f0.offset = 0) (h1 : f1.type = T ∧ f1.offset = 1) (hT : P.underlying T = some (.int k))
    (cT : P.cellsOf T = 1) (ce : P.cellsOf e = 2) (ct : P.cellsOf t = 2 * n)
    (h : DataW.trod enc P w base sp held fuel t cs = some (.agg (ps.map fun x => .agg [.lit (.int k x.1), .lit (.int k x.2)]), p)) : cs = ps.flatMap fun x => [.int k x.1, .int k x.2] := by
  obtain ⟨xs, m, _, hx, hl, hn, hi⟩ := DataW.trod_array ht h
  have hxs : xs.map (·.1) = ps.map fun x => (.agg [.lit (.int k x.1), .lit (.int k x.2)] : DataW H) := by
    have := congrArg Prod.fst hx
    simpa using this.symm
  have hpl : ps.length = n := by have := congrArg List.length hxs; simp at this; omega
  refine pairs_flat k ps cs (by omega) fun i x hx' => ?_
  have hin : i < n := by have := (List.getElem?_eq_some_iff.1 hx').1; omega
  have h2 := hi i hin
  rw [ce] at h2
  have hxi : xs[i]? = some (xs[i]'(by omega)) := List.getElem?_eq_getElem (by omega)
  rw [hxi] at h2
  obtain ⟨y0, y1, q, hy, _, g0, g1⟩ := trod_struct2 he h2
  have e1 : (xs.map (·.1))[i]? = some (.agg [y0.1, y1.1]) := by rw [List.getElem?_map, hxi, hy]; rfl
  rw [hxs, List.getElem?_map, hx'] at e1
  simp only [Option.map_some, Option.some.injEq, DataW.agg.injEq, List.cons.injEq, and_true] at e1
  rw [h0.1, h0.2, cT] at g0
  rw [h1.1, h1.2, cT] at g1
  obtain ⟨a, ea, rfl, _⟩ := DataW.trod_int hT g0
  obtain ⟨b, eb, rfl, _⟩ := DataW.trod_int hT g1
  simp only [DataW.lit.injEq, Lit.int.injEq, true_and] at e1
  obtain ⟨rfl, rfl⟩ := e1
  have hlen : ((cs.drop (i * 2)).take 2).length = 2 := by rw [List.length_take, List.length_drop]; omega
  match h3 : (cs.drop (i * 2)).take 2, hlen with
  | [a', b'], _ =>
    rw [h3] at ea eb
    simp at ea eb
    rw [ea, eb]

theorem gBars : Tryz.prog.globalNamed "redraft/utext.bars" = some 0 := by kernel_rfl
theorem gBarsType : (Tryz.prog.globals[0]?).map (·.type) = some 161 := by kernel_rfl
theorem cBars : Tryz.prog.cellsOf 161 = 10 := by kernel_rfl
theorem cBar : Tryz.prog.cellsOf 160 = 2 := by kernel_rfl
theorem cRune : Tryz.prog.cellsOf 21 = 1 := by kernel_rfl

/-- From the list to the memory, wherever on the list the table stands. -/
theorem bars_of_laid {l : List (String × DataW Unit)} {W : World} (hx : (l.filter fun x => x.1 == "redraft/utext.bars") = [("redraft/utext.bars", (Rows.laid_redraft_utext_bars : DataW Unit))]) (h : laidMetH Tryz.prog l W) : Bars W := by
  have h1 := laidMetH.filter (fun x => x.1 == "redraft/utext.bars") h
  rw [hx] at h1
  obtain ⟨ps, ⟨g, t, cs, fuel, p, q, hg, ht, hvar, hd, _, _⟩, _⟩ := (laidMetH_iff.1 h1).1
  obtain rfl := Option.some.inj (gBars.symm.trans hg)
  obtain rfl := Option.some.inj (gBarsType.symm.trans ht)
  have hc := cells_of_pairs (ps := [(0, 8), (11, 31), (127, 159), (64976, 65007), (65279, 65279)]) Tryz.underlying161 Tryz.underlying160 ⟨rfl, rfl⟩ ⟨rfl, rfl⟩ Tryz.underlying21 cRune cBar cBars hd
  obtain rfl : cs = barsCells := by rw [← Array.toList_inj, hc]; rfl
  simp only [World.var?, hg, Option.bind_some] at hvar
  split at hvar
  · rename_i c t fr e
    obtain rfl := Option.some.inj hvar
    exact ⟨t, fr, e⟩
  · cases hvar

end Go.Proofs.YtkdhomiieenfnaaGreatDoor.U

namespace Go.Proofs.YtkdhomiieenfnaaGreatDoor.Lw
open Go.Joins Go.ChangeShapes Go.WideShapes Go.ChangeAt Go.RowKit Go.Deep Go.Proofs.YtkdhomiieenfnaaGreatDoor.U
set_option linter.unusedVariables false
set_option linter.unusedSimpArgs false

/-- A list of deeds behind a slice, with their parts. -/
def ReadsE (w : World) (A : Option Addr) (n : Nat) : Prop := n ≤ 17592186044416 ∧ (0 < n → ∃ b off, A = some ⟨b, off, none⟩ ∧ ∀ j, j < n → ∃ k a A1 n1 c1 xs A2 n2 c2 ys, w.cell? ⟨b, off + j * 4, none⟩ = some (.int .i64 k) ∧ w.cell? ⟨b, off + j * 4 + 1, none⟩ = some (.int .i64 a) ∧ w.cell? ⟨b, off + j * 4 + 2, none⟩ = some (.slice A1 n1 c1) ∧ w.cell? ⟨b, off + j * 4 + 3, none⟩ = some (.slice A2 n2 c2) ∧ Reads32 w A1 n1 xs ∧ O.ReadsI w A2 n2 ys)
section
variable {H : Type} {enc : TypeId × Value → H} {P : Program} {w : World} {base : Nat} {spare : Nat → Bool} {held : Bool}
theorem weights_mem {e : TypeId} {p : Nat → Bool} : ∀ {l : List (DataW H)} {d : DataW H}, d ∈ l → (DataW.weightsAll P e l).all p = true → (d.weights P e).all p = true
  | [], d, h, _ => by cases h
  | x :: r, d, h, hw => by
    simp only [DataW.weightsAll, List.all_append, Bool.and_eq_true] at hw
    rcases List.mem_cons.1 h with rfl | h
    · exact hw.1
    · exact weights_mem h hw.2
theorem open_four {r : Reach} {b0 : Nat} {t : TypeId} {f0 f1 f2 f3 : Field} {v : Value} {d : DataW H} {p : List MemPlace} (hs : P.underlying t = some (.struct #[f0, f1, f2, f3])) (hone : oneCellFields P #[f0, f1, f2, f3] = true) (hC : P.cellsOf t = 4)
    (hv : Value.okWide P w r b0 t v) (h : DataW.Trod enc P w base spare held t v d p) :
    ∃ (v0 v1 v2 v3 : Value) (y0 y1 y2 y3 : DataW H × List MemPlace) (n : Nat), v = .agg #[v0, v1, v2, v3] ∧ d = .agg [y0.1, y1.1, y2.1, y3.1] ∧
      DataW.trod enc P w base spare held n f0.type [v0] = some y0 ∧ DataW.trod enc P w base spare held n f1.type [v1] = some y1 ∧ DataW.trod enc P w base spare held n f2.type [v2] = some y2 ∧ DataW.trod enc P w base spare held n f3.type [v3] = some y3 := by
  obtain ⟨cs, rfl, hsz⟩ := okWide_struct hs hv
  obtain ⟨l⟩ := cs
  match l, hsz.trans hC with
  | [c0, c1, c2, c3], _ =>
    obtain ⟨fuel, hf⟩ := h
    obtain ⟨xs, n, _, hx, _, hlen, hg⟩ := DataW.trod_struct hs hf
    obtain ⟨o0, k0⟩ := hone_of hone 0 f0 rfl
    obtain ⟨o1, k1⟩ := hone_of hone 1 f1 rfl
    obtain ⟨o2, k2⟩ := hone_of hone 2 f2 rfl
    obtain ⟨o3, k3⟩ := hone_of hone 3 f3 rfl
    match xs, hlen with
    | [y0, y1, y2, y3], _ =>
      simp only [Prod.mk.injEq] at hx
      exact ⟨c0, c1, c2, c3, y0, y1, y2, y3, n, rfl, by simpa using hx.1, by simpa [Value.cells, o0, k0] using hg 0 f0 rfl, by simpa [Value.cells, o1, k1] using hg 1 f1 rfl, by simpa [Value.cells, o2, k2] using hg 2 f2 rfl, by simpa [Value.cells, o3, k3] using hg 3 f3 rfl⟩
/-- A field that is a slice of int32: its value, what its cells hold, and how many it can be. -/
theorem read32 {t e : TypeId} {fuel : Nat} {v : Value} {y : DataW H × List MemPlace} (ht : P.underlying t = some (.slice e)) (he : P.underlying e = some (.int .i32)) (hc : P.cellsOf e = 1) (hB : P.bytesOf e = 4)
    (h : DataW.trod enc P w base spare held fuel t [v] = some y) (hw : (y.1.weights P t).all (· ≤ reachBytes) = true) : ∃ A n c xs, v = .slice A n c ∧ Reads32 w A n xs := by
  rcases open_ints ht he hc h with ⟨hcs, hx⟩ | ⟨a, len, cap, zs, hcs, hb, hl, hm, hz, hx, hcell, hwz⟩
  · simp at hcs
    exact ⟨none, 0, 0, [], hcs, ⟨rfl, by omega, fun h => by omega⟩⟩
  · simp at hcs
    have hln : len ≤ zs.length := by rw [hz]; split <;> omega
    refine ⟨some a, len, cap, zs.take len, hcs, ⟨by rw [List.length_take]; omega, ?_, fun h0 => ⟨a, rfl, ?_, fun j hj => ?_⟩⟩⟩
    · rw [hx] at hw
      simp only [DataW.weights, ht, List.all_cons, Bool.and_eq_true, decide_eq_true_eq, hB] at hw
      have h1 := hw.1
      simp only [lits, List.length_map, List.length_take, List.length_drop] at h1
      have h2 : reachBytes = 140737488351232 := rfl
      have h3 : min len zs.length = len := by omega
      omega
    · have := World.block_lt_of_cell? w (a.add 0) (hcell 0 (by omega))
      rwa [add_block] at this
    · rw [hcell j (by omega)]
      simp [List.getD, List.getElem?_take, hj]
/-- A field that is a slice of int: its value, what its cells hold, and how many it can be. -/
theorem read64 {t e : TypeId} {fuel : Nat} {v : Value} {y : DataW H × List MemPlace} (ht : P.underlying t = some (.slice e)) (he : P.underlying e = some (.int .i64)) (hc : P.cellsOf e = 1) (hB : P.bytesOf e = 8)
    (h : DataW.trod enc P w base spare held fuel t [v] = some y) (hw : (y.1.weights P t).all (· ≤ reachBytes) = true) : ∃ A n c xs, v = .slice A n c ∧ O.ReadsI w A n xs := by
  rcases open_ints ht he hc h with ⟨hcs, hx⟩ | ⟨a, len, cap, zs, hcs, hb, hl, hm, hz, hx, hcell, hwz⟩
  · simp at hcs
    exact ⟨none, 0, 0, [], hcs, ⟨rfl, by omega, fun x hx => (by cases hx), fun h => by omega⟩⟩
  · simp at hcs
    have hln : len ≤ zs.length := by rw [hz]; split <;> omega
    refine ⟨some a, len, cap, zs.take len, hcs, ⟨by rw [List.length_take]; omega, ?_, fun x hx => bounds_i64 (hwz x (List.mem_of_mem_take hx)), fun h0 => ⟨a, rfl, ?_, fun j hj => ?_⟩⟩⟩
    · rw [hx] at hw
      simp only [DataW.weights, ht, List.all_cons, Bool.and_eq_true, decide_eq_true_eq, hB] at hw
      have h1 := hw.1
      simp only [lits, List.length_map, List.length_take, List.length_drop] at h1
      have h2 : reachBytes = 140737488351232 := rfl
      have h3 : min len zs.length = len := by omega
      omega
    · have := World.block_lt_of_cell? w (a.add 0) (hcell 0 (by omega))
      rwa [add_block] at this
    · rw [hcell j (by omega)]
      simp [List.getD, List.getElem?_take, hj]

end
theorem cInt1 : Tryz.prog.cellsOf 3 = 1 := by kernel_rfl
theorem cSl1 : Tryz.prog.cellsOf 49 = 1 := by kernel_rfl
theorem cSi1 : Tryz.prog.cellsOf 50 = 1 := by kernel_rfl
theorem cI32 : Tryz.prog.cellsOf 21 = 1 := by kernel_rfl
theorem cCell2 : Tryz.prog.cellsOf 82 = 2 := by kernel_rfl
theorem cDeed4 : Tryz.prog.cellsOf 52 = 4 := by kernel_rfl
theorem bCell : Tryz.prog.bytesOf 82 = 16 := by kernel_rfl
theorem bDeed : Tryz.prog.bytesOf 52 = 64 := by kernel_rfl
theorem bI64 : Tryz.prog.bytesOf 3 = 8 := by kernel_rfl
theorem bI32 : Tryz.prog.bytesOf 21 = 4 := by kernel_rfl
section
variable {H : Type} {enc : TypeId × Value → H} {w : World} {base : Nat} {spare : Nat → Bool} {held : Bool}
set_option maxRecDepth 100000 in
theorem cells_read {v : Value} {y : DataW H × List MemPlace} {fuel : Nat} (hf : DataW.trod enc Tryz.prog w base spare held fuel 22 [v] = some y) (hw : (y.1.weights Tryz.prog 22).all (· ≤ reachBytes) = true) : ∃ A n c, v = .slice A n c ∧ ReadsC w A n := by
  rcases open_slice_pairs Tryz.underlying22 Tryz.underlying82 cCell2 rfl rfl cI32 cInt1 hf with ⟨hcs, hx⟩ | ⟨a, len, cap, m, n, V0, V1, D0, D1, P0, P1, hcs, hb, hl, hm, hmm, hx, hi⟩
  · exact ⟨none, 0, 0, (List.cons.inj hcs).1, by omega, fun h0 => by omega⟩
  · have hlm : len ≤ m := by rw [hmm]; split <;> omega
    have ho : ∀ i, i < len → ∃ r h, w.cell? (a.add (i * 2)) = some (.int .i32 r) ∧ w.cell? (a.add (i * 2 + 1)) = some (.int .i64 h) := fun i hil => by
      obtain ⟨c0, c1, g0, g1⟩ := hi i (by omega)
      obtain ⟨k, ek, _, wk⟩ := DataW.trod_int Tryz.underlying21 g0
      obtain ⟨l, el, _, wl⟩ := DataW.trod_int Tryz.underlying3 g1
      exact ⟨k, l, by rw [c0, (List.cons.inj ek).1], by rw [c1, (List.cons.inj el).1]⟩
    refine ⟨some a, len, cap, (List.cons.inj hcs).1, ?_, fun h0 => ?_⟩
    · rw [hx] at hw
      simp only [DataW.weights, Tryz.underlying22, List.all_cons, Bool.and_eq_true, decide_eq_true_eq, bCell, List.length_map, List.length_range] at hw
      have h1 := hw.1
      have h2 : reachBytes = 140737488351232 := rfl
      omega
    · have hsp : a.spot = none := by
        obtain ⟨_, _, this, _⟩ := ho 0 h0
        exact World.cell?_spot (a := a) (by simpa [Addr.add] using this)
      obtain ⟨b, off, sp⟩ := a
      obtain rfl : sp = none := hsp
      refine ⟨b, off, rfl, fun i hil => ?_⟩
      obtain ⟨r, h, c0, c1⟩ := ho i hil
      simp only [Addr.add_lit] at c0 c1
      exact ⟨r, h, c0, c1⟩
set_option maxRecDepth 100000 in
theorem deed_read {a : Addr} {n : Nat} {cs : List Value} {d : DataW H} {p : List MemPlace}
    (hc : w.cells? base a 4 = some cs) (ht : DataW.trod enc Tryz.prog w base spare held n 52 cs = some (d, p)) (hw : (d.weights Tryz.prog 52).all (· ≤ reachBytes) = true) : ∃ k a1 A1 n1 c1 xs A2 n2 c2 ys, w.cell? a = some (.int .i64 k) ∧ w.cell? (a.add 1) = some (.int .i64 a1) ∧ w.cell? (a.add 2) = some (.slice A1 n1 c1) ∧ w.cell? (a.add 3) = some (.slice A2 n2 c2) ∧ Reads32 w A1 n1 xs ∧ O.ReadsI w A2 n2 ys := by
  obtain ⟨ys, n', hn', hy, hlen, hyl, hf⟩ := DataW.trod_struct Tryz.underlying52 ht
  obtain ⟨_, hcl, hat⟩ := World.cells?_some hc
  match ys, hyl with
  | [y0, y1, y2, y3], _ =>
  match cs, hcl with
  | [x0, x1, x2, x3], _ =>
    have g0 := hf 0 _ rfl
    have g1 := hf 1 _ rfl
    have g2 := hf 2 _ rfl
    have g3 := hf 3 _ rfl
    change DataW.trod enc Tryz.prog w base spare held n' 3 (List.take (Tryz.prog.cellsOf 3) [x0, x1, x2, x3]) = some y0 at g0
    change DataW.trod enc Tryz.prog w base spare held n' 3 (List.take (Tryz.prog.cellsOf 3) [x1, x2, x3]) = some y1 at g1
    change DataW.trod enc Tryz.prog w base spare held n' 49 (List.take (Tryz.prog.cellsOf 49) [x2, x3]) = some y2 at g2
    change DataW.trod enc Tryz.prog w base spare held n' 50 (List.take (Tryz.prog.cellsOf 50) [x3]) = some y3 at g3
    rw [cInt1] at g0 g1
    rw [cSl1] at g2
    rw [cSi1] at g3
    simp only [List.take_succ_cons, List.take_zero] at g0 g1 g2 g3
    obtain ⟨k, ek, rfl, wk⟩ := DataW.trod_int Tryz.underlying3 g0
    obtain ⟨l, el, rfl, wl⟩ := DataW.trod_int Tryz.underlying3 g1
    have hd : d = .agg [.lit (.int .i64 k), .lit (.int .i64 l), y2.1, y3.1] := congrArg Prod.fst hy
    rw [hd] at hw
    simp only [DataW.weights, Tryz.underlying52, DataW.weightsEach, List.map_cons, List.map_nil, List.append_nil, List.nil_append, List.all_append, Bool.and_eq_true] at hw
    have h2w : (y2.1.weights Tryz.prog 49).all (· ≤ reachBytes) = true := by
      first | exact hw.1 | exact hw.2.1 | exact hw.2.2.1
    have h3w : (y3.1.weights Tryz.prog 50).all (· ≤ reachBytes) = true := by
      first | exact hw.2 | exact hw.2.2 | exact hw.2.2.2
    obtain ⟨A', m, c', xs, rfl, hr⟩ := read32 Tryz.underlying49 Tryz.underlying21 cI32 bI32 g2 h2w
    obtain ⟨A2, m2, c2, ys, rfl, hr2⟩ := read64 Tryz.underlying50 Tryz.underlying3 cInt1 bI64 g3 h3w
    simp only [List.cons.injEq, and_true] at ek el
    subst ek el
    exact ⟨k, l, A', m, c', xs, A2, m2, c2, ys, hat 0 (by decide), hat 1 (by decide), hat 2 (by decide), hat 3 (by decide), hr, hr2⟩
set_option maxRecDepth 100000 in
theorem deeds_read {v : Value} {y : DataW H × List MemPlace} {fuel : Nat}
    (hf : DataW.trod enc Tryz.prog w base spare held fuel 28 [v] = some y) (hw : (y.1.weights Tryz.prog 28).all (· ≤ reachBytes) = true) : ∃ A n c, v = .slice A n c ∧ ReadsE w A n := by
  rcases open_slice Tryz.underlying28 hf with ⟨hcs, hx⟩ | ⟨a, len, cap, m, n, D, Pl, hcs, hb, hl, hm, hmm, hx, hi⟩
  · exact ⟨none, 0, 0, (List.cons.inj hcs).1, by omega, fun h0 => by omega⟩
  · have hlm : len ≤ m := by rw [hmm]; split <;> omega
    rw [hx] at hw
    simp only [DataW.weights, Tryz.underlying28, List.all_cons, List.all_append, Bool.and_eq_true, decide_eq_true_eq, bDeed, List.length_map, List.length_range] at hw
    have ho : ∀ i, i < len → ∃ k a1 A1 n1 c1 xs A2 n2 c2 ys, w.cell? (a.add (i * 4)) = some (.int .i64 k) ∧ w.cell? ((a.add (i * 4)).add 1) = some (.int .i64 a1) ∧ w.cell? ((a.add (i * 4)).add 2) = some (.slice A1 n1 c1) ∧ w.cell? ((a.add (i * 4)).add 3) = some (.slice A2 n2 c2) ∧ Reads32 w A1 n1 xs ∧ O.ReadsI w A2 n2 ys := fun i hil => by
      obtain ⟨cs', hc, ht⟩ := hi i (by omega)
      rw [cDeed4] at hc
      exact deed_read hc ht (weights_mem (List.mem_map.2 ⟨i, List.mem_range.2 hil, rfl⟩) hw.2.1)
    refine ⟨some a, len, cap, (List.cons.inj hcs).1, ?_, fun h0 => ?_⟩
    · have h1 := hw.1
      have h2 : reachBytes = 140737488351232 := rfl
      omega
    · have hsp : a.spot = none := by
        obtain ⟨_, _, _, _, _, _, _, _, _, _, this, _⟩ := ho 0 h0
        exact World.cell?_spot (a := a) (by simpa [Addr.add] using this)
      obtain ⟨b, off, sp⟩ := a
      obtain rfl : sp = none := hsp
      refine ⟨b, off, rfl, fun i hil => ?_⟩
      obtain ⟨k, a1, A1, n1, c1, xs, A2, n2, c2', ys, c0, c1', c2, c3, h2, hr⟩ := ho i hil
      simp only [Addr.add_lit] at c0 c1' c2 c3
      exact ⟨k, a1, A1, n1, c1, xs, A2, n2, c2', ys, c0, c1', c2, c3, h2, hr⟩
end
set_option maxRecDepth 100000 in
theorem row_in {H : Type} {enc : TypeId × Value → H} {w : World} {base b0 : Nat} {r : Reach} {spare : Nat → Bool} {held : Bool} {v : Value} {d : DataW H} {p : List MemPlace}
    (hv : Value.okWide Tryz.prog w r b0 30 v) (h : DataW.Trod enc Tryz.prog w base spare held 30 v d p)
    (hsz : (d.weights Tryz.prog 30).all (· ≤ reachBytes) = true) : ∃ A1 n1 c1 A2 n2 c2 lo hi, v = .agg #[.slice A1 n1 c1, .slice A2 n2 c2, .int .i64 lo, .int .i64 hi] ∧ ReadsC w A1 n1 ∧ ReadsE w A2 n2 := by
  obtain ⟨v0, v1, v2, v3, y0, y1, y2, y3, n, rfl, rfl, g0, g1, g2, g3⟩ := open_four Tryz.underlying30 (by kernel_rfl) (by kernel_rfl) hv h
  simp only [DataW.weightsEach, DataW.weights, Tryz.underlying30, List.append_nil, List.map_cons, List.map_nil, List.all_append, Bool.and_eq_true] at hsz
  obtain ⟨s0, s1, s2, s3⟩ := hsz
  obtain ⟨A1, n1, c1, rfl, r1⟩ := cells_read g0 s0
  obtain ⟨A2, n2, c2, rfl, r2⟩ := deeds_read g1 s1
  obtain ⟨k, ek, _, wk⟩ := DataW.trod_int Tryz.underlying3 g2
  obtain ⟨a, ea, _, wa⟩ := DataW.trod_int Tryz.underlying3 g3
  simp at ek ea
  subst ek ea
  exact ⟨A1, n1, c1, A2, n2, c2, k, a, rfl, r1, r2⟩
end Go.Proofs.YtkdhomiieenfnaaGreatDoor.Lw

namespace Go.Proofs.YtkdhomiieenfnaaGreatDoor.Lw
open Go.RowKit Go.Proofs Go.Proofs.YtkdhomiieenfnaaGreatDoor.U Go.Proofs.YtkdhomiieenfnaaGreatDoor.Txt Go.Proofs.YtkdhomiieenfnaaGreatDoor.Rp Go.Proofs.YtkdhomiieenfnaaGreatDoor.O
set_option linter.unusedVariables false
set_option linter.unusedSimpArgs false

/-- An operation's text, and how many cells it puts in. -/
theorem right_text {L : OpL} {T : Nat} {num : Int} (h : RightOp L T num) : ∃ xs, L.tx = enc xs ∧ (∀ r ∈ xs, TxtRune r) ∧ (if L.kd = 1 then (chk L.tx).1 else 0) = xs.length ∧ xs.length ≤ 256 := by
  rcases h.kind with ⟨h1, _, ⟨xs, e, l1, l2, l3⟩, _⟩ | ⟨h1, _, e, _⟩
  · exact ⟨xs, e, l3, by rw [if_pos h1, e, chk_text xs l3], l2⟩
  · exact ⟨[], e, (fun r hr => by cases hr), by rw [if_neg (by omega)]; rfl, by simp⟩
section
attribute [local go_sem ↓] ldO_fold stO_fold
attribute [local go_sem] stO_run
set_option maxRecDepth 100000 in
set_option maxHeartbeats 8000000 in
theorem takes_walk (A1 : Option Addr) (n1 c1 : Nat) (A2 : Option Addr) (n2 c2 : Nat) (lo hi : Int) (w : World) (hC : ReadsC w A1 n1) (hS : ReadsE w A2 n2) (hE : EnvP w) :
    Calls Tryz.prog 8 #[.agg #[.slice A1 n1 c1, .slice A2 n2 c2, .int .i64 lo, .int .i64 hi]] w fun e w' => e = .returned (.bool true) ∧ Below w.heap.size w w' := by
  have HS := Lib.hid hS
  have HEN := Lib.hid hE
  have hnsb := hS.1
  have HMD := Lib.hid (fun (W : World) (hW : Below w.heap.size w W) => made_any A1 n1 c1 W ⟨hC.1, fun h0 => by
    obtain ⟨b, off, e, h⟩ := hC.2 h0
    exact ⟨b, off, e, fun j hj => by obtain ⟨r, h', c1, c2⟩ := h j hj; exact ⟨r, h', U.cell_below hW c1, U.cell_below hW c2⟩⟩⟩)
  obtain ⟨w0, hw0⟩ : ∃ w0, w.alloc (.cells #[.slice A1 n1 c1, .slice A2 n2 c2, .int .i64 lo, .int .i64 hi] 30) = w0 := ⟨_, rfl⟩
  have hB0 : Below w.heap.size w w0 := by rw [← hw0]; exact below_alloc1 _ _
  have hy0 : w0.heap[w.heap.size]? = some (.cells #[.slice A1 n1 c1, .slice A2 n2 c2, .int .i64 lo, .int .i64 hi] 30 (0, 0)) := by rw [← hw0]; exact heap_at rfl
  have HW0 := Lib.hid hw0
  clear hC hS hE hw0
  obtain ⟨g0, hg0⟩ : ∃ g0, w.heap.size = g0 := ⟨_, rfl⟩
  have HG0 := Lib.hid hg0
  rw [hg0] at hy0
  have HY0 := Lib.hid hy0
  have HB0 := Lib.hid hB0
  have HEW := Lib.hid (HEN.out.below hB0)
  have HG0L := Lib.hid (show g0 < w0.heap.size from (Array.getElem?_eq_some_iff.1 hy0).1)
  have HBX := Lib.hid (fun (W : World) (hW : Below w0.heap.size w0 W) => (show W.cell? ⟨g0, 0, none⟩ = some (.slice A1 n1 c1) ∧ W.cell? ⟨g0, 1, none⟩ = some (.slice A2 n2 c2) from
    have e := (hW.block _ HG0L.out).trans HY0.out
    ⟨by rw [Lib.cell_of_heap e]; rfl, by rw [Lib.cell_of_heap e]; rfl⟩))
  obtain ⟨x0, x1⟩ := HBX.out w0 (Below.refl _ _)
  clear hy0 hB0 hg0
  go_enter Tryz.func8, Tryz.ntmps8
  go_upto_region 1 with fail
  rw [HW0.out, HG0.out]
  go_wp2_with fail
  refine (HMD.out _ HB0.out).mono ?_
  rintro e w1 ⟨⟨v1, cs, rfl, ho1, hl1, hg1⟩, hb1⟩
  obtain ⟨A3, c3, rfl, hc1, hci1⟩ := CellsIn.of_own ho1
  have HB1 := Lib.hid (HB0.out.trans (hb1.mono HB0.out.size))
  have HBA1 := Lib.hid hb1
  have HGD := Lib.hid hg1
  have HLM := Lib.hid hl1
  have hcl : cs.length ≤ 400 := by omega
  have HR2 := Lib.hid (runs_any A3 c3 cs w1 hci1 (by omega))
  have HCL := Lib.hid hcl
  clear ho1 hl1 hg1 hc1 hci1 hb1 hcl x0 x1
  go_wp2_with fail
  refine HR2.out.mono ?_
  rintro e w2 ⟨⟨v2, rfl, ho2⟩, hb2⟩
  obtain ⟨A4, c4, rfl, hc2, hpi2⟩ := PcesIn.of_own ho2
  have HB2 := Lib.hid (HB1.out.trans (hb2.mono HB1.out.size))
  have HBA2 := Lib.hid (HBA1.out.trans (hb2.mono HBA1.out.size))
  have HF := Lib.hid (from_runs A4 c4 cs w2 hpi2 HGD.out (by have := HCL.out; omega) (HEN.out.o.bars.below HB2.out))
  clear ho2 hc2 hpi2 hb2 HR2
  go_wp2_with fail
  refine HF.out.mono ?_
  rintro e w3 ⟨⟨b, rfl, hr3, hbg⟩, hb3⟩
  have HB3 := Lib.hid (HB2.out.trans (hb3.mono HB2.out.size))
  have HBA3 := Lib.hid (HBA2.out.trans (hb3.mono HBA2.out.size))
  have HR3 := Lib.hid hr3
  have HBG := Lib.hid (show w0.heap.size ≤ b by have := HBA2.out.size; omega)
  obtain ⟨x0, x1⟩ := HBX.out w3 HBA3.out
  clear hr3 hb3 hbg HF
  go_wp2_with fail
  refine (HMD.out _ HB3.out).mono ?_
  rintro e w4 ⟨⟨v4, cs4, rfl, ho4, hl4, hg4⟩, hb4⟩
  obtain ⟨A5, c5, rfl, hc5, hci5⟩ := CellsIn.of_own ho4
  have hl44 : cs4.length = cs.length := by rw [hl4]; exact HLM.out.symm
  rw [hl44]
  have HBA4 := Lib.hid (HBA3.out.trans (hb4.mono HBA3.out.size))
  have HR4 := Lib.hid (HR3.out.below hb4)
  have HBB := Lib.hid (show b < w4.heap.size from by obtain ⟨_, _, h1, _⟩ := HR4.out; exact (Array.getElem?_eq_some_iff.1 h1).1)
  have HTX := Lib.hid (show ∀ c ∈ cs, TxtRune c.1 from fun c hc => (HGD.out c hc).1)
  obtain ⟨nn, hnn⟩ : ∃ nn, cs.length = nn := ⟨_, rfl⟩
  have HNN := Lib.hid hnn
  rw [hnn] at hl44 ⊢
  have hnb : nn ≤ 400 := by have := HCL.out; omega
  clear ho4 hl4 hg4 hc5 hci5 hb4 hl44 hnn x0 x1 HMD
  go_wp2_with fail
  obtain ⟨w5, hw5⟩ : ∃ w5, w4.alloc (.cells #[.int .i32 104, .int .i32 105] 21) = w5 := ⟨_, rfl⟩
  obtain ⟨gh, hgh⟩ : ∃ gh, w4.heap.size = gh := ⟨_, rfl⟩
  have hb5 : Below w4.heap.size w4 w5 := by rw [← hw5]; exact below_alloc1 _ _
  have hy5 : w5.heap[gh]? = some (.cells #[.int .i32 104, .int .i32 105] 21 (0, 0)) := by rw [← hw5, ← hgh]; exact heap_at rfl
  have hr5 : Reads32 w5 (some ⟨gh, 0, none⟩) 2 [104, 105] := ⟨rfl, by omega, fun _ => ⟨_, rfl, (Array.getElem?_eq_some_iff.1 hy5).1, fun j hj => by
    rcases (show j = 0 ∨ j = 1 by omega) with rfl | rfl
    · show w5.cell? ⟨gh, 0, none⟩ = _; rw [Lib.cell_of_heap hy5]; rfl
    · show w5.cell? ⟨gh, 1, none⟩ = _; rw [Lib.cell_of_heap hy5]; rfl⟩⟩
  have HBA5 := Lib.hid (HBA4.out.trans (hb5.mono HBA4.out.size))
  have HR5 := Lib.hid (HR4.out.below hb5)
  have HBB5 := Lib.hid (show b < w5.heap.size by have := HBB.out; have := hb5.size; omega)
  have HTW := Lib.hid (right_two (some ⟨gh, 0, none⟩) 2 2 [104, 105] nn w5 (by omega) (by omega) hr5)
  rw [hw5, hgh]
  clear hw5 hgh hb5 hy5 hr5
  refine HTW.out.mono ?_
  rintro e w6 ⟨⟨L, A, c, rfl, hop, hrg, hlow, _, hkd, l, htx, htt, hll⟩, hb6⟩
  have hlen : (if L.kd = 1 then (chk L.tx).1 else 0) = 2 := by rw [if_pos hkd, htx, chk_text l htt]; exact hll
  have HLEN := Lib.hid hlen
  have HBK := Lib.hid (back_any L A c b cs 0 w0 w6 (HR5.out.below hb6) HTX.out (by have := HCL.out; omega) (by rw [HNN.out]; exact hop) hrg (fun g off e h0 => by have := hlow g off e h0; have := HBB5.out; omega) (HBA5.out.trans (hb6.mono HBA5.out.size)) HBG.out HEW.out)
  have HBA6 := Lib.hid (HBA5.out.trans (hb6.mono HBA5.out.size))
  have HBB6 := Lib.hid (show b < w6.heap.size by have := HBB5.out; have := hb6.size; omega)
  obtain ⟨v6, hv6⟩ : ∃ v6, L.val A c = v6 := ⟨_, rfl⟩
  rw [hv6] at HBK ⊢
  clear hop hrg hlow hkd htx htt hll hlen hb6 HTW hv6
  go_wp2_with fail
  refine HBK.out.mono ?_
  rintro e w7 ⟨rfl, cs7, hr7, htx7, hln7, hg7⟩
  rw [HLEN.out, HNN.out] at hln7
  have HBA7 := Lib.hid (below_keepB HBA6.out HBG.out hg7)
  have HR7 := Lib.hid hr7
  have HTX7 := Lib.hid htx7
  have HLN7 := Lib.hid hln7
  have HBB7 := Lib.hid (show b < w7.heap.size by have := HBB6.out; have := hg7.size; omega)
  clear hr7 htx7 hln7 hg7 HBK
  go_wp2_with fail
  go_loopw [5, 6, 7] (fun t ok i wr => ∃ (k : Nat) (cs : List Cl), k ≤ n2 ∧ k ≤ 60 ∧ i = .int .i64 k ∧ ok = .bool true ∧ t = .int .i64 cs.length ∧ Rope wr b cs ∧ (∀ c ∈ cs, TxtRune c.1) ∧ cs.length ≤ 402 + 256 * k ∧ Below w0.heap.size w0 wr ∧ b < wr.heap.size) (fun _ _ i _ => n2 - (intOf i).toNat)
  case atStart => exact ⟨0, cs7, Nat.zero_le _, Nat.zero_le _, rfl, rfl, by rw [HLN7.out]; go_num, HR7.out, HTX7.out, by have := HLN7.out; omega, HBA7.out, HBB7.out⟩
  case round =>
    obtain ⟨k, cs', hk1, hk2, rfl, rfl, rfl, hrp, htx, hln, hbw, hbl⟩ := hrel
    have HRP := Lib.hid hrp
    have HTX := Lib.hid htx
    have HLN := Lib.hid hln
    have HBW := Lib.hid hbw
    have HBL := Lib.hid hbl
    obtain ⟨x0, x1⟩ := HBX.out wr hbw
    obtain ⟨t, ht⟩ : ∃ t, cs'.length = t := ⟨_, rfl⟩
    have HT := Lib.hid ht
    rw [ht] at hln ⊢
    clear hrp htx hbw hbl ht HTX7 HR7 HLN7 HBA7 HBB7
    by_cases hgo : k < n2 ∧ k < 60
    · obtain ⟨g1, g2⟩ := hgo
      have g1' : (k : Int) < (n2 : Int) := by omega
      have g2' : decide ((k : Int) < 60) = true := by simp; omega
      have g0' : (0 : Int) ≤ (k : Int) := by omega
      have HTB := Lib.hid (show t ≤ 16128 by omega)
      obtain ⟨gs, off, rfl, hst⟩ := HS.out.2 (by omega)
      obtain ⟨kd, at_, B1, m1, e1, xs, B2, m2, e2, ys, d0, d1, d2, d3, hx, hy⟩ := hst k g1
      have HBWW := Lib.hid (HB0.out.trans (HBW.out.mono HB0.out.size))
      have HRD := Lib.hid (rightDeed_any kd at_ B1 m1 e1 xs B2 m2 e2 ys t k wr (by omega) (hx.below HBWW.out) (hy.below HBWW.out))
      have y0 := U.cell_below HBWW.out d0
      have y1 := U.cell_below HBWW.out d1
      have y2 := U.cell_below HBWW.out d2
      have y3 := U.cell_below HBWW.out d3
      clear hst d0 d1 d2 d3 hx hy
      go_wp2_with fail
      refine HRD.out.mono ?_
      rintro e w8 ⟨⟨L, A, c, rfl, hop, hrg, hlow, _⟩, hb8⟩
      obtain ⟨xs, hxe, hxt, hxl, hx256⟩ := right_text hop
      have HBA8 := Lib.hid (HBW.out.trans (hb8.mono HBW.out.size))
      have HBL8 := Lib.hid (show b < w8.heap.size by have := HBL.out; have := hb8.size; omega)
      have HR8 := Lib.hid (HRP.out.below hb8)
      have hf := Fresh.new w8 (.int .i64 0) (.int .i64 0) (.int .i64 0) (.int .i64 0) (.string ⟨#[]⟩) (.slice none 0 0) (.int .i64 0) (.int .i64 0) (.bool false)
      have HXL := Lib.hid hxl
      have HBK := Lib.hid (fun (W : World) (hW : Below w8.heap.size w8 W) => back_any L A c b cs' k w0 W (HR8.out.below hW) HTX.out (by rw [HT.out]; exact HTB.out) (by rw [HT.out]; exact hop) (hrg.below hW) (fun g off e h0 => by have := hlow g off e h0; have := HBL.out; omega) (HBA8.out.trans (hW.mono HBA8.out.size)) HBG.out HEW.out)
      obtain ⟨S, hS⟩ : ∃ S : ByteArray, (⟨L.tx.toArray⟩ : ByteArray) = S := ⟨_, rfl⟩
      have hS2 : S = Str xs := by rw [← hS, hxe]; exact str_of xs
      have HCV := Lib.hid (fun (W : World) => conv_to_runes (Str xs) xs (text_str' hxt (by omega)) (by omega) W)
      rw [← hS2] at HCV
      obtain ⟨m, hm⟩ : ∃ m, xs.length = m := ⟨_, rfl⟩
      have HM := Lib.hid hm
      rw [hm] at HCV hx256
      unfold OpL.val at HBK ⊢
      rw [hS] at HBK ⊢
      obtain ⟨n, hn⟩ : ∃ n, L.rs.length = n := ⟨_, rfl⟩
      rw [hn] at HBK ⊢
      obtain ⟨i0, hi0⟩ : ∃ i0, L.i0 = i0 := ⟨_, rfl⟩
      obtain ⟨i1, hi1⟩ : ∃ i1, L.i1 = i1 := ⟨_, rfl⟩
      obtain ⟨kd', hkd⟩ : ∃ kd', L.kd = kd' := ⟨_, rfl⟩
      obtain ⟨a, ha⟩ : ∃ a, L.a = a := ⟨_, rfl⟩
      obtain ⟨t0, ht0⟩ : ∃ t0, L.t0 = t0 := ⟨_, rfl⟩
      obtain ⟨t1, ht1⟩ : ∃ t1, L.t1 = t1 := ⟨_, rfl⟩
      obtain ⟨on, hon⟩ : ∃ on, L.on = on := ⟨_, rfl⟩
      rw [hi0, hi1, hkd, ha, ht0, ht1, hon] at HBK ⊢
      unfold opV at HBK ⊢
      clear hop hrg hlow hb8 HRD y0 y1 y2 y3 x0 x1 hxe hxt hxl hS hS2 hm hn hi0 hi1 hkd ha ht0 ht1 hon
      go_upto_region 11 with fail
      obtain ⟨w9, hw9⟩ : ∃ w9, (w8.alloc (.cells #[.int .i64 0, .int .i64 0, .int .i64 0, .int .i64 0, .string ⟨#[]⟩, .slice none 0 0, .int .i64 0, .int .i64 0, .bool false] 47)).setRow w8.heap.size (opC i0 i1 kd' a S (.slice A n c) t0 t1 on) = w9 := ⟨_, rfl⟩
      obtain ⟨gq, hgq⟩ : ∃ gq, w8.heap.size = gq := ⟨_, rfl⟩
      have hb9 : Below w8.heap.size w8 w9 := by rw [← hw9]; exact below_setRow (below_alloc1 _ _) (Nat.le_refl _) _
      have hy9 : w9.heap[gq]? = some (.cells (opC i0 i1 kd' a S (.slice A n c) t0 t1 on) 47 (0, 0)) := by rw [← hw9, ← hgq]; exact setRow_heap _ _ _ _ _ _ (heap_at rfl)
      unfold opC at hw9
      rw [hw9, hgq]
      have HGQ := Lib.hid (show b < gq by have := HBL8.out; omega)
      have HBA9 := Lib.hid (HBA8.out.trans (hb9.mono HBA8.out.size))
      have HY9 := Lib.hid hy9
      have HBK9 := Lib.hid (HBK.out w9 hb9)
      have ld := ldO_run hy9
      clear hf hw9 hgq hb9 hy9 HBK
      go_wp2_with fail
      refine HBK9.out.mono ?_
      rintro e w10 ⟨rfl, cs10, hr10, htx10, hln10, hg10⟩
      have hln : cs10.length = t + m := by
        rw [HXL.out, HT.out, HM.out] at hln10; exact hln10
      have HBA10 := Lib.hid (below_keepB HBA9.out HBG.out hg10)
      have HR10 := Lib.hid hr10
      have HTX10 := Lib.hid htx10
      have HLN10 := Lib.hid hln
      have hy10 : w10.heap[gq]? = some (.cells (opC i0 i1 kd' a S (.slice A n c) t0 t1 on) 47 (0, 0)) := (hg10.block _ (Array.getElem?_eq_some_iff.1 HY9.out).1 (fun e => by have := HGQ.out; have := Option.some.inj e; omega)).trans HY9.out
      have HBB10 := Lib.hid (show b < w10.heap.size by have := (Array.getElem?_eq_some_iff.1 HY9.out).1; have := HGQ.out; have := hg10.size; omega)
      have z4 : w10.cell? ⟨gq, 4, none⟩ = some (.string S) := by rw [Lib.cell_of_heap hy10]; rfl
      obtain ⟨ccap, w11, hcv, hcap, hb11, _⟩ := HCV.out w10
      have HB11 := Lib.hid hb11
      clear hr10 htx10 hln10 hln hg10 hy10 HBK9 ld hb11
      go_wp2_with fail
      go_roundw
      case rel => exact ⟨k + 1, cs10, by omega, by omega, by go_num, rfl, by rw [HLN10.out]; go_num, HR10.out.below HB11.out, HTX10.out, by have := HLN10.out; omega, HBA10.out.trans (HB11.out.mono HBA10.out.size), by have := HBB10.out; have := HB11.out.size; omega⟩
      case measure => simp [intOf]; omega
    · have hend : (k < n2 ∧ decide ((k : Int) < 60) = false) ∨ ¬ (k : Int) < (n2 : Int) := by
        by_cases g1 : k < n2
        · exact .inl ⟨g1, by simp; omega⟩
        · exact .inr (by omega)
      have HTO := Lib.hid (Total_any b cs' wr HRP.out)
      rw [HT.out] at HTO
      clear hgo
      rcases hend with ⟨g1, g2⟩ | g1
      · have g1' : (k : Int) < (n2 : Int) := by omega
        go_wp2_with fail
        refine HTO.out.mono ?_
        rintro e wz ⟨rfl, hbz⟩
        have HBZ := Lib.hid (HB0.out.trans ((HBW.out.trans (hbz.mono HBW.out.size)).mono HB0.out.size))
        clear hbz
        go_wp2_with fail
        go_ret
        exact ⟨rfl, HBZ.out⟩
      · have g1' : ¬ k < n2 := by omega
        go_wp2_with fail
        refine HTO.out.mono ?_
        rintro e wz ⟨rfl, hbz⟩
        have HBZ := Lib.hid (HB0.out.trans ((HBW.out.trans (hbz.mono HBW.out.size)).mono HB0.out.size))
        clear hbz
        go_wp2_with fail
        go_ret
        exact ⟨rfl, HBZ.out⟩
end
end Go.Proofs.YtkdhomiieenfnaaGreatDoor.Lw
