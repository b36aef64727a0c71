/- What the rows' lists give: the table of runes that are not let in lies in memory as the program's text lays it. How an argument of type Row is opened, its deeds' parts too. How an argument of type Play is opened by its bulk: its cells, its steps whole. OpShapes walked. What the rows' lists give: the table of bits.TrailingZeros64 lies in memory as its text lays it. -/
import Derived.Test.YtkdhomiieenfnaaGreatDoorLs0
import Derived.Test.YtkdhomiieenfnaaGreatDoorRows
import Derived.ProofKit
import Derived.OpenShut
import Derived.LaidLaws
import Derived.LaidSub
import Derived.FnData
import Derived.Test.YtkdhomiieenfnaaGreatDoorLs36
import Derived.Test.YtkdhomiieenfnaaGreatDoorOrChosen
import Derived.Lib.SmallJoins
import Derived.Deep.Slices
import Derived.Deep.SlicePairs
import Derived.Deep.Fields
import Derived.ChangeSame
import Derived.SizedLaws
import Derived.ChangeSlices
import Derived.Test.YtkdhomiieenfnaaGreatDoorLs47
import Derived.Test.YtkdhomiieenfnaaGreatDoorUHex
namespace Go.Proofs.YtkdhomiieenfnaaGreatDoor.U
open Go.ChangeShapes Go.WideShapes Go.ChangeAt Go.RowKit

theorem pairs_flat (k : IntKind) : ∀ (ps : List (Int × Int)) (cs : List Value), cs.length = 2 * ps.length → (∀ (i : Nat) (x : Int × Int), ps[i]? = some x → (cs.drop (i * 2)).take 2 = [.int k x.1, .int k x.2]) → cs = ps.flatMap fun x => [.int k x.1, .int k x.2]
  | [], cs, h, _ => by simpa using h
  | x :: ps, cs, h, hi => by
    have h0 := hi 0 x rfl
    match cs, h with
    | [], h => simp at h
    | [_], h => simp at h; omega
    | a :: b :: cs, h =>
      simp at h0
      obtain ⟨rfl, rfl⟩ := h0
      have := pairs_flat k ps cs (by simp at h; omega) fun i y hy => by
        have := hi (i + 1) y (by simpa using hy)
        rwa [show (i + 1) * 2 = i * 2 + 2 by omega, show (Value.int k x.1 :: Value.int k x.2 :: cs).drop (i * 2 + 2) = cs.drop (i * 2) from rfl] at this
      rw [this]; simp

/-- An array of pairs of integers (structs) that reads as the pairs holds them, cell for cell. -/
theorem cells_of_pairs {H : Type} {enc : TypeId × Value → H} {P : Program} {w : World} {base : Nat} {sp : Nat → Bool} {held : Bool} {fuel : Nat} {t e T : TypeId} {n : Nat} {f0 f1 : Field} {k : IntKind} {cs : List Value} {ps : List (Int × Int)} {p : List MemPlace}
    (ht : P.underlying t = some (.array n e)) (he : P.underlying e = some (.struct #[f0, f1])) (h0 : f0.type = T ∧ f0.offset = 0) (h1 : f1.type = T ∧ f1.offset = 1) (hT : P.underlying T = some (.int k))
    (cT : P.cellsOf T = 1) (ce : P.cellsOf e = 2) (ct : P.cellsOf t = 2 * n)
    (h : DataW.trod enc P w base sp held fuel t cs = some (.agg (ps.map fun x => .agg [.lit (.int k x.1), .lit (.int k x.2)]), p)) : cs = ps.flatMap fun x => [.int k x.1, .int k x.2] := by
  obtain ⟨xs, m, _, hx, hl, hn, hi⟩ := DataW.trod_array ht h
  have hxs : xs.map (·.1) = ps.map fun x => (.agg [.lit (.int k x.1), .lit (.int k x.2)] : DataW H) := by
    have := congrArg Prod.fst hx
    simpa using this.symm
  have hpl : ps.length = n := by have := congrArg List.length hxs; simp at this; omega
  refine pairs_flat k ps cs (by omega) fun i x hx' => ?_
  have hin : i < n := by have := (List.getElem?_eq_some_iff.1 hx').1; omega
  have h2 := hi i hin
  rw [ce] at h2
  have hxi : xs[i]? = some (xs[i]'(by omega)) := List.getElem?_eq_getElem (by omega)
  rw [hxi] at h2
  obtain ⟨y0, y1, q, hy, _, g0, g1⟩ := trod_struct2 he h2
  have e1 : (xs.map (·.1))[i]? = some (.agg [y0.1, y1.1]) := by rw [List.getElem?_map, hxi, hy]; rfl
  rw [hxs, List.getElem?_map, hx'] at e1
  simp only [Option.map_some, Option.some.injEq, DataW.agg.injEq, List.cons.injEq, and_true] at e1
  rw [h0.1, h0.2, cT] at g0
  rw [h1.1, h1.2, cT] at g1
  obtain ⟨a, ea, rfl, _⟩ := DataW.trod_int hT g0
  obtain ⟨b, eb, rfl, _⟩ := DataW.trod_int hT g1
  simp only [DataW.lit.injEq, Lit.int.injEq, true_and] at e1
  obtain ⟨rfl, rfl⟩ := e1
  have hlen : ((cs.drop (i * 2)).take 2).length = 2 := by rw [List.length_take, List.length_drop]; omega
  match h3 : (cs.drop (i * 2)).take 2, hlen with
  | [a', b'], _ =>
    rw [h3] at ea eb
    simp at ea eb
    rw [ea, eb]

theorem gBars : Tryz.prog.globalNamed "redraft/utext.bars" = some 0 := by kernel_rfl
theorem gBarsType : (Tryz.prog.globals[0]?).map (·.type) = some 161 := by kernel_rfl
theorem cBars : Tryz.prog.cellsOf 161 = 10 := by kernel_rfl
theorem cBar : Tryz.prog.cellsOf 160 = 2 := by kernel_rfl
theorem cRune : Tryz.prog.cellsOf 21 = 1 := by kernel_rfl

/-- From the list to the memory, wherever on the list the table stands. -/
theorem bars_of_laid {l : List (String × DataW Unit)} {W : World} (hx : (l.filter fun x => x.1 == "redraft/utext.bars") = [("redraft/utext.bars", (Rows.laid_redraft_utext_bars : DataW Unit))]) (h : laidMetH Tryz.prog l W) : Bars W := by
  have h1 := laidMetH.filter (fun x => x.1 == "redraft/utext.bars") h
  rw [hx] at h1
  obtain ⟨ps, ⟨g, t, cs, fuel, p, q, hg, ht, hvar, hd, _, _⟩, _⟩ := (laidMetH_iff.1 h1).1
  obtain rfl := Option.some.inj (gBars.symm.trans hg)
  obtain rfl := Option.some.inj (gBarsType.symm.trans ht)
  have hc := cells_of_pairs (ps := [(0, 8), (11, 31), (127, 159), (64976, 65007), (65279, 65279)]) Tryz.underlying161 Tryz.underlying160 ⟨rfl, rfl⟩ ⟨rfl, rfl⟩ Tryz.underlying21 cRune cBar cBars hd
  obtain rfl : cs = barsCells := by rw [← Array.toList_inj, hc]; rfl
  simp only [World.var?, hg, Option.bind_some] at hvar
  split at hvar
  · rename_i c t fr e
    obtain rfl := Option.some.inj hvar
    exact ⟨t, fr, e⟩
  · cases hvar

end Go.Proofs.YtkdhomiieenfnaaGreatDoor.U

namespace Go.Proofs.YtkdhomiieenfnaaGreatDoor.Lw
open Go.Joins Go.ChangeShapes Go.WideShapes Go.ChangeAt Go.RowKit Go.Deep Go.Proofs.YtkdhomiieenfnaaGreatDoor.U
set_option linter.unusedVariables false
set_option linter.unusedSimpArgs false

/-- A list of deeds behind a slice, with their parts. -/
def ReadsE (w : World) (A : Option Addr) (n : Nat) : Prop := n ≤ 17592186044416 ∧ (0 < n → ∃ b off, A = some ⟨b, off, none⟩ ∧ ∀ j, j < n → ∃ k a A1 n1 c1 xs A2 n2 c2 ys, w.cell? ⟨b, off + j * 4, none⟩ = some (.int .i64 k) ∧ w.cell? ⟨b, off + j * 4 + 1, none⟩ = some (.int .i64 a) ∧ w.cell? ⟨b, off + j * 4 + 2, none⟩ = some (.slice A1 n1 c1) ∧ w.cell? ⟨b, off + j * 4 + 3, none⟩ = some (.slice A2 n2 c2) ∧ Reads32 w A1 n1 xs ∧ O.ReadsI w A2 n2 ys)
section
variable {H : Type} {enc : TypeId × Value → H} {P : Program} {w : World} {base : Nat} {spare : Nat → Bool} {held : Bool}
theorem weights_mem {e : TypeId} {p : Nat → Bool} : ∀ {l : List (DataW H)} {d : DataW H}, d ∈ l → (DataW.weightsAll P e l).all p = true → (d.weights P e).all p = true
  | [], d, h, _ => by cases h
  | x :: r, d, h, hw => by
    simp only [DataW.weightsAll, List.all_append, Bool.and_eq_true] at hw
    rcases List.mem_cons.1 h with rfl | h
    · exact hw.1
    · exact weights_mem h hw.2
theorem open_four {r : Reach} {b0 : Nat} {t : TypeId} {f0 f1 f2 f3 : Field} {v : Value} {d : DataW H} {p : List MemPlace} (hs : P.underlying t = some (.struct #[f0, f1, f2, f3])) (hone : oneCellFields P #[f0, f1, f2, f3] = true) (hC : P.cellsOf t = 4)
    (hv : Value.okWide P w r b0 t v) (h : DataW.Trod enc P w base spare held t v d p) :
    ∃ (v0 v1 v2 v3 : Value) (y0 y1 y2 y3 : DataW H × List MemPlace) (n : Nat), v = .agg #[v0, v1, v2, v3] ∧ d = .agg [y0.1, y1.1, y2.1, y3.1] ∧
      DataW.trod enc P w base spare held n f0.type [v0] = some y0 ∧ DataW.trod enc P w base spare held n f1.type [v1] = some y1 ∧ DataW.trod enc P w base spare held n f2.type [v2] = some y2 ∧ DataW.trod enc P w base spare held n f3.type [v3] = some y3 := by
  obtain ⟨cs, rfl, hsz⟩ := okWide_struct hs hv
  obtain ⟨l⟩ := cs
  match l, hsz.trans hC with
  | [c0, c1, c2, c3], _ =>
    obtain ⟨fuel, hf⟩ := h
    obtain ⟨xs, n, _, hx, _, hlen, hg⟩ := DataW.trod_struct hs hf
    obtain ⟨o0, k0⟩ := hone_of hone 0 f0 rfl
    obtain ⟨o1, k1⟩ := hone_of hone 1 f1 rfl
    obtain ⟨o2, k2⟩ := hone_of hone 2 f2 rfl
    obtain ⟨o3, k3⟩ := hone_of hone 3 f3 rfl
    match xs, hlen with
    | [y0, y1, y2, y3], _ =>
      simp only [Prod.mk.injEq] at hx
      exact ⟨c0, c1, c2, c3, y0, y1, y2, y3, n, rfl, by simpa using hx.1, by simpa [Value.cells, o0, k0] using hg 0 f0 rfl, by simpa [Value.cells, o1, k1] using hg 1 f1 rfl, by simpa [Value.cells, o2, k2] using hg 2 f2 rfl, by simpa [Value.cells, o3, k3] using hg 3 f3 rfl⟩
/-- A field that is a slice of int32: its value, what its cells hold, and how many it can be. -/
theorem read32 {t e : TypeId} {fuel : Nat} {v : Value} {y : DataW H × List MemPlace} (ht : P.underlying t = some (.slice e)) (he : P.underlying e = some (.int .i32)) (hc : P.cellsOf e = 1) (hB : P.bytesOf e = 4)
    (h : DataW.trod enc P w base spare held fuel t [v] = some y) (hw : (y.1.weights P t).all (· ≤ reachBytes) = true) : ∃ A n c xs, v = .slice A n c ∧ Reads32 w A n xs := by
  rcases open_ints ht he hc h with ⟨hcs, hx⟩ | ⟨a, len, cap, zs, hcs, hb, hl, hm, hz, hx, hcell, hwz⟩
  · simp at hcs
    exact ⟨none, 0, 0, [], hcs, ⟨rfl, by omega, fun h => by omega⟩⟩
  · simp at hcs
    have hln : len ≤ zs.length := by rw [hz]; split <;> omega
    refine ⟨some a, len, cap, zs.take len, hcs, ⟨by rw [List.length_take]; omega, ?_, fun h0 => ⟨a, rfl, ?_, fun j hj => ?_⟩⟩⟩
    · rw [hx] at hw
      simp only [DataW.weights, ht, List.all_cons, Bool.and_eq_true, decide_eq_true_eq, hB] at hw
      have h1 := hw.1
      simp only [lits, List.length_map, List.length_take, List.length_drop] at h1
      have h2 : reachBytes = 140737488351232 := rfl
      have h3 : min len zs.length = len := by omega
      omega
    · have := World.block_lt_of_cell? w (a.add 0) (hcell 0 (by omega))
      rwa [add_block] at this
    · rw [hcell j (by omega)]
      simp [List.getD, List.getElem?_take, hj]
/-- A field that is a slice of int: its value, what its cells hold, and how many it can be. -/
theorem read64 {t e : TypeId} {fuel : Nat} {v : Value} {y : DataW H × List MemPlace} (ht : P.underlying t = some (.slice e)) (he : P.underlying e = some (.int .i64)) (hc : P.cellsOf e = 1) (hB : P.bytesOf e = 8)
    (h : DataW.trod enc P w base spare held fuel t [v] = some y) (hw : (y.1.weights P t).all (· ≤ reachBytes) = true) : ∃ A n c xs, v = .slice A n c ∧ O.ReadsI w A n xs := by
  rcases open_ints ht he hc h with ⟨hcs, hx⟩ | ⟨a, len, cap, zs, hcs, hb, hl, hm, hz, hx, hcell, hwz⟩
  · simp at hcs
    exact ⟨none, 0, 0, [], hcs, ⟨rfl, by omega, fun x hx => (by cases hx), fun h => by omega⟩⟩
  · simp at hcs
    have hln : len ≤ zs.length := by rw [hz]; split <;> omega
    refine ⟨some a, len, cap, zs.take len, hcs, ⟨by rw [List.length_take]; omega, ?_, fun x hx => bounds_i64 (hwz x (List.mem_of_mem_take hx)), fun h0 => ⟨a, rfl, ?_, fun j hj => ?_⟩⟩⟩
    · rw [hx] at hw
      simp only [DataW.weights, ht, List.all_cons, Bool.and_eq_true, decide_eq_true_eq, hB] at hw
      have h1 := hw.1
      simp only [lits, List.length_map, List.length_take, List.length_drop] at h1
      have h2 : reachBytes = 140737488351232 := rfl
      have h3 : min len zs.length = len := by omega
      omega
    · have := World.block_lt_of_cell? w (a.add 0) (hcell 0 (by omega))
      rwa [add_block] at this
    · rw [hcell j (by omega)]
      simp [List.getD, List.getElem?_take, hj]

end
theorem cInt1 : Tryz.prog.cellsOf 3 = 1 := by kernel_rfl
theorem cSl1 : Tryz.prog.cellsOf 49 = 1 := by kernel_rfl
theorem cSi1 : Tryz.prog.cellsOf 50 = 1 := by kernel_rfl
theorem cI32 : Tryz.prog.cellsOf 21 = 1 := by kernel_rfl
theorem cCell2 : Tryz.prog.cellsOf 82 = 2 := by kernel_rfl
theorem cDeed4 : Tryz.prog.cellsOf 52 = 4 := by kernel_rfl
theorem bCell : Tryz.prog.bytesOf 82 = 16 := by kernel_rfl
theorem bDeed : Tryz.prog.bytesOf 52 = 64 := by kernel_rfl
theorem bI64 : Tryz.prog.bytesOf 3 = 8 := by kernel_rfl
theorem bI32 : Tryz.prog.bytesOf 21 = 4 := by kernel_rfl
section
variable {H : Type} {enc : TypeId × Value → H} {w : World} {base : Nat} {spare : Nat → Bool} {held : Bool}
set_option maxRecDepth 100000 in
theorem cells_read {v : Value} {y : DataW H × List MemPlace} {fuel : Nat} (hf : DataW.trod enc Tryz.prog w base spare held fuel 22 [v] = some y) (hw : (y.1.weights Tryz.prog 22).all (· ≤ reachBytes) = true) : ∃ A n c, v = .slice A n c ∧ ReadsC w A n := by
  rcases open_slice_pairs Tryz.underlying22 Tryz.underlying82 cCell2 rfl rfl cI32 cInt1 hf with ⟨hcs, hx⟩ | ⟨a, len, cap, m, n, V0, V1, D0, D1, P0, P1, hcs, hb, hl, hm, hmm, hx, hi⟩
  · exact ⟨none, 0, 0, (List.cons.inj hcs).1, by omega, fun h0 => by omega⟩
  · have hlm : len ≤ m := by rw [hmm]; split <;> omega
    have ho : ∀ i, i < len → ∃ r h, w.cell? (a.add (i * 2)) = some (.int .i32 r) ∧ w.cell? (a.add (i * 2 + 1)) = some (.int .i64 h) := fun i hil => by
      obtain ⟨c0, c1, g0, g1⟩ := hi i (by omega)
      obtain ⟨k, ek, _, wk⟩ := DataW.trod_int Tryz.underlying21 g0
      obtain ⟨l, el, _, wl⟩ := DataW.trod_int Tryz.underlying3 g1
      exact ⟨k, l, by rw [c0, (List.cons.inj ek).1], by rw [c1, (List.cons.inj el).1]⟩
    refine ⟨some a, len, cap, (List.cons.inj hcs).1, ?_, fun h0 => ?_⟩
    · rw [hx] at hw
      simp only [DataW.weights, Tryz.underlying22, List.all_cons, Bool.and_eq_true, decide_eq_true_eq, bCell, List.length_map, List.length_range] at hw
      have h1 := hw.1
      have h2 : reachBytes = 140737488351232 := rfl
      omega
    · have hsp : a.spot = none := by
        obtain ⟨_, _, this, _⟩ := ho 0 h0
        exact World.cell?_spot (a := a) (by simpa [Addr.add] using this)
      obtain ⟨b, off, sp⟩ := a
      obtain rfl : sp = none := hsp
      refine ⟨b, off, rfl, fun i hil => ?_⟩
      obtain ⟨r, h, c0, c1⟩ := ho i hil
      simp only [Addr.add_lit] at c0 c1
      exact ⟨r, h, c0, c1⟩
set_option maxRecDepth 100000 in
theorem deed_read {a : Addr} {n : Nat} {cs : List Value} {d : DataW H} {p : List MemPlace}
    (hc : w.cells? base a 4 = some cs) (ht : DataW.trod enc Tryz.prog w base spare held n 52 cs = some (d, p)) (hw : (d.weights Tryz.prog 52).all (· ≤ reachBytes) = true) : ∃ k a1 A1 n1 c1 xs A2 n2 c2 ys, w.cell? a = some (.int .i64 k) ∧ w.cell? (a.add 1) = some (.int .i64 a1) ∧ w.cell? (a.add 2) = some (.slice A1 n1 c1) ∧ w.cell? (a.add 3) = some (.slice A2 n2 c2) ∧ Reads32 w A1 n1 xs ∧ O.ReadsI w A2 n2 ys := by
  obtain ⟨ys, n', hn', hy, hlen, hyl, hf⟩ := DataW.trod_struct Tryz.underlying52 ht
  obtain ⟨_, hcl, hat⟩ := World.cells?_some hc
  match ys, hyl with
  | [y0, y1, y2, y3], _ =>
  match cs, hcl with
  | [x0, x1, x2, x3], _ =>
    have g0 := hf 0 _ rfl
    have g1 := hf 1 _ rfl
    have g2 := hf 2 _ rfl
    have g3 := hf 3 _ rfl
    change DataW.trod enc Tryz.prog w base spare held n' 3 (List.take (Tryz.prog.cellsOf 3) [x0, x1, x2, x3]) = some y0 at g0
    change DataW.trod enc Tryz.prog w base spare held n' 3 (List.take (Tryz.prog.cellsOf 3) [x1, x2, x3]) = some y1 at g1
    change DataW.trod enc Tryz.prog w base spare held n' 49 (List.take (Tryz.prog.cellsOf 49) [x2, x3]) = some y2 at g2
    change DataW.trod enc Tryz.prog w base spare held n' 50 (List.take (Tryz.prog.cellsOf 50) [x3]) = some y3 at g3
    rw [cInt1] at g0 g1
    rw [cSl1] at g2
    rw [cSi1] at g3
    simp only [List.take_succ_cons, List.take_zero] at g0 g1 g2 g3
    obtain ⟨k, ek, rfl, wk⟩ := DataW.trod_int Tryz.underlying3 g0
    obtain ⟨l, el, rfl, wl⟩ := DataW.trod_int Tryz.underlying3 g1
    have hd : d = .agg [.lit (.int .i64 k), .lit (.int .i64 l), y2.1, y3.1] := congrArg Prod.fst hy
    rw [hd] at hw
    simp only [DataW.weights, Tryz.underlying52, DataW.weightsEach, List.map_cons, List.map_nil, List.append_nil, List.nil_append, List.all_append, Bool.and_eq_true] at hw
    have h2w : (y2.1.weights Tryz.prog 49).all (· ≤ reachBytes) = true := by
      first | exact hw.1 | exact hw.2.1 | exact hw.2.2.1
    have h3w : (y3.1.weights Tryz.prog 50).all (· ≤ reachBytes) = true := by
      first | exact hw.2 | exact hw.2.2 | exact hw.2.2.2
    obtain ⟨A', m, c', xs, rfl, hr⟩ := read32 Tryz.underlying49 Tryz.underlying21 cI32 bI32 g2 h2w
    obtain ⟨A2, m2, c2, ys, rfl, hr2⟩ := read64 Tryz.underlying50 Tryz.underlying3 cInt1 bI64 g3 h3w
    simp only [List.cons.injEq, and_true] at ek el
    subst ek el
    exact ⟨k, l, A', m, c', xs, A2, m2, c2, ys, hat 0 (by decide), hat 1 (by decide), hat 2 (by decide), hat 3 (by decide), hr, hr2⟩
set_option maxRecDepth 100000 in
theorem deeds_read {v : Value} {y : DataW H × List MemPlace} {fuel : Nat}
    (hf : DataW.trod enc Tryz.prog w base spare held fuel 28 [v] = some y) (hw : (y.1.weights Tryz.prog 28).all (· ≤ reachBytes) = true) : ∃ A n c, v = .slice A n c ∧ ReadsE w A n := by
  rcases open_slice Tryz.underlying28 hf with ⟨hcs, hx⟩ | ⟨a, len, cap, m, n, D, Pl, hcs, hb, hl, hm, hmm, hx, hi⟩
  · exact ⟨none, 0, 0, (List.cons.inj hcs).1, by omega, fun h0 => by omega⟩
  · have hlm : len ≤ m := by rw [hmm]; split <;> omega
    rw [hx] at hw
    simp only [DataW.weights, Tryz.underlying28, List.all_cons, List.all_append, Bool.and_eq_true, decide_eq_true_eq, bDeed, List.length_map, List.length_range] at hw
    have ho : ∀ i, i < len → ∃ k a1 A1 n1 c1 xs A2 n2 c2 ys, w.cell? (a.add (i * 4)) = some (.int .i64 k) ∧ w.cell? ((a.add (i * 4)).add 1) = some (.int .i64 a1) ∧ w.cell? ((a.add (i * 4)).add 2) = some (.slice A1 n1 c1) ∧ w.cell? ((a.add (i * 4)).add 3) = some (.slice A2 n2 c2) ∧ Reads32 w A1 n1 xs ∧ O.ReadsI w A2 n2 ys := fun i hil => by
      obtain ⟨cs', hc, ht⟩ := hi i (by omega)
      rw [cDeed4] at hc
      exact deed_read hc ht (weights_mem (List.mem_map.2 ⟨i, List.mem_range.2 hil, rfl⟩) hw.2.1)
    refine ⟨some a, len, cap, (List.cons.inj hcs).1, ?_, fun h0 => ?_⟩
    · have h1 := hw.1
      have h2 : reachBytes = 140737488351232 := rfl
      omega
    · have hsp : a.spot = none := by
        obtain ⟨_, _, _, _, _, _, _, _, _, _, this, _⟩ := ho 0 h0
        exact World.cell?_spot (a := a) (by simpa [Addr.add] using this)
      obtain ⟨b, off, sp⟩ := a
      obtain rfl : sp = none := hsp
      refine ⟨b, off, rfl, fun i hil => ?_⟩
      obtain ⟨k, a1, A1, n1, c1, xs, A2, n2, c2', ys, c0, c1', c2, c3, h2, hr⟩ := ho i hil
      simp only [Addr.add_lit] at c0 c1' c2 c3
      exact ⟨k, a1, A1, n1, c1, xs, A2, n2, c2', ys, c0, c1', c2, c3, h2, hr⟩
end
set_option maxRecDepth 100000 in
theorem row_in {H : Type} {enc : TypeId × Value → H} {w : World} {base b0 : Nat} {r : Reach} {spare : Nat → Bool} {held : Bool} {v : Value} {d : DataW H} {p : List MemPlace}
    (hv : Value.okWide Tryz.prog w r b0 30 v) (h : DataW.Trod enc Tryz.prog w base spare held 30 v d p)
    (hsz : (d.weights Tryz.prog 30).all (· ≤ reachBytes) = true) : ∃ A1 n1 c1 A2 n2 c2 lo hi, v = .agg #[.slice A1 n1 c1, .slice A2 n2 c2, .int .i64 lo, .int .i64 hi] ∧ ReadsC w A1 n1 ∧ ReadsE w A2 n2 := by
  obtain ⟨v0, v1, v2, v3, y0, y1, y2, y3, n, rfl, rfl, g0, g1, g2, g3⟩ := open_four Tryz.underlying30 (by kernel_rfl) (by kernel_rfl) hv h
  simp only [DataW.weightsEach, DataW.weights, Tryz.underlying30, List.append_nil, List.map_cons, List.map_nil, List.all_append, Bool.and_eq_true] at hsz
  obtain ⟨s0, s1, s2, s3⟩ := hsz
  obtain ⟨A1, n1, c1, rfl, r1⟩ := cells_read g0 s0
  obtain ⟨A2, n2, c2, rfl, r2⟩ := deeds_read g1 s1
  obtain ⟨k, ek, _, wk⟩ := DataW.trod_int Tryz.underlying3 g2
  obtain ⟨a, ea, _, wa⟩ := DataW.trod_int Tryz.underlying3 g3
  simp at ek ea
  subst ek ea
  exact ⟨A1, n1, c1, A2, n2, c2, k, a, rfl, r1, r2⟩
end Go.Proofs.YtkdhomiieenfnaaGreatDoor.Lw

namespace Go.Proofs.YtkdhomiieenfnaaGreatDoor.K
open Go.Joins Go.ChangeShapes Go.WideShapes Go.ChangeAt Go.RowKit Go.Deep Go.Proofs.YtkdhomiieenfnaaGreatDoor.U Go.Proofs.YtkdhomiieenfnaaGreatDoor.O Go.Proofs.YtkdhomiieenfnaaGreatDoor.Lw
set_option linter.unusedVariables false
set_option linter.unusedSimpArgs false

theorem list_of {α : Type} {P : Nat → α → Prop} : ∀ n, (∀ i, i < n → ∃ o, P i o) → ∃ os : List α, os.length = n ∧ ∀ i (h : i < os.length), P i os[i]
  | 0, _ => ⟨[], rfl, fun i h => by simp at h⟩
  | n + 1, h => by
    obtain ⟨os, hl, ho⟩ := list_of n fun i hi => h i (by omega)
    obtain ⟨o, hp⟩ := h n (by omega)
    refine ⟨os ++ [o], by simp [hl], fun i hi => ?_⟩
    rcases Nat.lt_or_ge i n with h1 | h1
    · rw [List.getElem_append_left (by omega)]; exact ho i (by omega)
    · obtain rfl : i = n := by simp [hl] at hi; omega
      rw [List.getElem_append_right (by omega)]
      simpa [hl] using hp
section
variable {H : Type} {enc : TypeId × Value → H} {P : Program} {w : World} {base : Nat} {spare : Nat → Bool} {held : Bool}
theorem one_bulk (d : DataW H) : 1 ≤ Rows.uptoBulk d := by
  cases d with
  | lit l => cases l <;> simp [Rows.uptoBulk]
  | _ => simp [Rows.uptoBulk]
theorem len_bulk (l : List (DataW H)) : l.length ≤ Rows.uptoBulkAll l := by
  induction l with
  | nil => simp [Rows.uptoBulkAll]
  | cons x r ih => have := one_bulk x; simp only [Rows.uptoBulkAll, List.length_cons]; omega
theorem mem_bulk {l : List (DataW H)} {d : DataW H} (h : d ∈ l) : Rows.uptoBulk d ≤ Rows.uptoBulkAll l := by
  induction l with
  | nil => cases h
  | cons x r ih =>
    simp only [Rows.uptoBulkAll]
    rcases List.mem_cons.1 h with rfl | h
    · omega
    · have := ih h; omega
theorem open_two {r : Reach} {b0 : Nat} {t : TypeId} {f0 f1 : Field} {v : Value} {d : DataW H} {p : List MemPlace} (hs : P.underlying t = some (.struct #[f0, f1])) (hone : oneCellFields P #[f0, f1] = true) (hC : P.cellsOf t = 2)
    (hv : Value.okWide P w r b0 t v) (h : DataW.Trod enc P w base spare held t v d p) :
    ∃ (v0 v1 : Value) (y0 y1 : DataW H × List MemPlace) (n : Nat), v = .agg #[v0, v1] ∧ d = .agg [y0.1, y1.1] ∧
      DataW.trod enc P w base spare held n f0.type [v0] = some y0 ∧ DataW.trod enc P w base spare held n f1.type [v1] = some y1 := by
  obtain ⟨cs, rfl, hsz⟩ := okWide_struct hs hv
  obtain ⟨l⟩ := cs
  match l, hsz.trans hC with
  | [c0, c1], _ =>
    obtain ⟨fuel, hf⟩ := h
    obtain ⟨xs, n, _, hx, _, hlen, hg⟩ := DataW.trod_struct hs hf
    obtain ⟨o0, k0⟩ := hone_of hone 0 f0 rfl
    obtain ⟨o1, k1⟩ := hone_of hone 1 f1 rfl
    match xs, hlen with
    | [y0, y1], _ =>
      simp only [Prod.mk.injEq] at hx
      exact ⟨c0, c1, y0, y1, n, rfl, by simpa using hx.1, by simpa [Value.cells, o0, k0] using hg 0 f0 rfl, by simpa [Value.cells, o1, k1] using hg 1 f1 rfl⟩
end
theorem cOp9 : Tryz.prog.cellsOf 47 = 9 := by kernel_rfl
theorem cHead3 : Tryz.prog.cellsOf 44 = 3 := by kernel_rfl
theorem cId2 : Tryz.prog.cellsOf 41 = 2 := by kernel_rfl
theorem cKind1 : Tryz.prog.cellsOf 42 = 1 := by kernel_rfl
theorem cRg2 : Tryz.prog.cellsOf 102 = 2 := by kernel_rfl
theorem cRgs1 : Tryz.prog.cellsOf 45 = 1 := by kernel_rfl
theorem cStr1 : Tryz.prog.cellsOf 9 = 1 := by kernel_rfl
theorem cBool1 : Tryz.prog.cellsOf 4 = 1 := by kernel_rfl
theorem bRg : Tryz.prog.bytesOf 102 = 16 := by kernel_rfl
theorem bStep : Tryz.prog.bytesOf 57 = 224 := by kernel_rfl
theorem cStep21 : Tryz.prog.cellsOf 57 = 21 := by kernel_rfl
section
variable {H : Type} {enc : TypeId × Value → H} {w : World} {base : Nat} {spare : Nat → Bool} {held : Bool}
set_option maxRecDepth 100000 in
theorem id_read {fuel : Nat} {a b : Value} {y : DataW H × List MemPlace} (h : DataW.trod enc Tryz.prog w base spare held fuel 41 [a, b] = some y) : ∃ i j, a = .int .i64 i ∧ b = .int .i64 j := by
  obtain ⟨xs, m, _, _, _, hl, hf⟩ := DataW.trod_array Tryz.underlying41 h
  match xs, hl with
  | [y0, y1], _ =>
    have g0 := hf 0 (by decide)
    have g1 := hf 1 (by decide)
    rw [cInt1] at g0 g1
    change DataW.trod enc Tryz.prog w base spare held m 3 [a] = some y0 at g0
    change DataW.trod enc Tryz.prog w base spare held m 3 [b] = some y1 at g1
    obtain ⟨i, ei, _, _⟩ := DataW.trod_int Tryz.underlying3 g0
    obtain ⟨j, ej, _, _⟩ := DataW.trod_int Tryz.underlying3 g1
    exact ⟨i, j, (List.cons.inj ei).1, (List.cons.inj ej).1⟩
set_option maxRecDepth 100000 in
theorem head_read {fuel : Nat} {a b c : Value} {y : DataW H × List MemPlace} (h : DataW.trod enc Tryz.prog w base spare held fuel 44 [a, b, c] = some y) : ∃ i j k, a = .int .i64 i ∧ b = .int .i64 j ∧ c = .int .i64 k := by
  obtain ⟨xs, m, _, _, _, hl, hf⟩ := DataW.trod_struct Tryz.underlying44 h
  match xs, hl with
  | [y0, y1], _ =>
    have g0 := hf 0 _ rfl
    have g1 := hf 1 _ rfl
    change DataW.trod enc Tryz.prog w base spare held m 41 (List.take (Tryz.prog.cellsOf 41) [a, b, c]) = some y0 at g0
    change DataW.trod enc Tryz.prog w base spare held m 42 (List.take (Tryz.prog.cellsOf 42) [c]) = some y1 at g1
    rw [cId2] at g0
    rw [cKind1] at g1
    simp only [List.take_succ_cons, List.take_zero] at g0 g1
    obtain ⟨i, j, e1, e2⟩ := id_read g0
    obtain ⟨k, ek, _, _⟩ := DataW.trod_int Tryz.underlying42 g1
    exact ⟨i, j, k, e1, e2, (List.cons.inj ek).1⟩
set_option maxRecDepth 100000 in
theorem ranges_read {v : Value} {y : DataW H × List MemPlace} {fuel : Nat} (hf : DataW.trod enc Tryz.prog w base spare held fuel 45 [v] = some y) (hw : Rows.uptoBulk y.1 ≤ 1048576) : ∃ A n c rs, v = .slice A n c ∧ Ranges w A n rs ∧ n ≤ 1048576 := by
  rcases open_slice_pairs Tryz.underlying45 Tryz.underlying102 cRg2 rfl rfl cInt1 cInt1 hf with ⟨hcs, hx⟩ | ⟨a, len, cap, m, n, V0, V1, D0, D1, P0, P1, hcs, hb', hl, hm, hmm, hx, hi⟩
  · exact ⟨none, 0, 0, [], (List.cons.inj hcs).1, ⟨rfl, fun h0 => by omega⟩, by omega⟩
  · have hlm : len ≤ m := by rw [hmm]; split <;> omega
    obtain ⟨rs, hrl, ho⟩ := list_of (P := fun i (x : Int × Int) => w.cell? (a.add (i * 2)) = some (.int .i64 x.1) ∧ w.cell? (a.add (i * 2 + 1)) = some (.int .i64 x.2)) len fun i hil => by
      obtain ⟨c0, c1, g0, g1⟩ := hi i (by omega)
      obtain ⟨k, ek, _, wk⟩ := DataW.trod_int Tryz.underlying3 g0
      obtain ⟨l, el, _, wl⟩ := DataW.trod_int Tryz.underlying3 g1
      exact ⟨(k, l), by rw [c0, (List.cons.inj ek).1], by rw [c1, (List.cons.inj el).1]⟩
    refine ⟨some a, len, cap, rs, (List.cons.inj hcs).1, ⟨hrl.symm, fun h0 => ?_⟩, ?_⟩
    · have hsp : a.spot = none := by
        have := (ho 0 (by omega)).1
        exact World.cell?_spot (a := a) (by simpa [Addr.add] using this)
      obtain ⟨b, off, sp⟩ := a
      obtain rfl : sp = none := hsp
      refine ⟨b, off, rfl, fun i hil => ?_⟩
      obtain ⟨c0, c1⟩ := ho i hil
      simp only [Addr.add_lit] at c0 c1
      exact ⟨c0, c1⟩
    · rw [hx] at hw
      simp only [Rows.uptoBulk] at hw
      have h1 := len_bulk ((List.range len).map fun i => DataW.agg [D0 i, D1 i])
      simp only [List.length_map, List.length_range] at h1
      omega
set_option maxRecDepth 100000 in
theorem op_of {cs : List Value} {y : DataW H × List MemPlace} {fuel : Nat} (h : DataW.trod enc Tryz.prog w base spare held fuel 47 cs = some y) (hw : Rows.uptoBulk y.1 ≤ 1048576) :
    ∃ i0 i1 kd a tx A n c rs t0 t1 on, cs = [.int .i64 i0, .int .i64 i1, .int .i64 kd, .int .i64 a, .string tx, .slice A n c, .int .i64 t0, .int .i64 t1, .bool on] ∧ Ranges w A n rs ∧ n ≤ 1048576 ∧ tx.size ≤ 1048576 := by
  obtain ⟨ys, m, _, hy, hcl, hl, hf⟩ := DataW.trod_struct Tryz.underlying47 h
  rw [cOp9] at hcl
  match ys, hl with
  | [y0, y1, y2, y3, y4, y5], _ =>
  match cs, hcl with
  | [x0, x1, x2, x3, x4, x5, x6, x7, x8], _ =>
    have g0 := hf 0 _ rfl
    have g1 := hf 1 _ rfl
    have g2 := hf 2 _ rfl
    have g3 := hf 3 _ rfl
    have g4 := hf 4 _ rfl
    have g5 := hf 5 _ rfl
    change DataW.trod enc Tryz.prog w base spare held m 44 (List.take (Tryz.prog.cellsOf 44) [x0, x1, x2, x3, x4, x5, x6, x7, x8]) = some y0 at g0
    change DataW.trod enc Tryz.prog w base spare held m 3 (List.take (Tryz.prog.cellsOf 3) [x3, x4, x5, x6, x7, x8]) = some y1 at g1
    change DataW.trod enc Tryz.prog w base spare held m 9 (List.take (Tryz.prog.cellsOf 9) [x4, x5, x6, x7, x8]) = some y2 at g2
    change DataW.trod enc Tryz.prog w base spare held m 45 (List.take (Tryz.prog.cellsOf 45) [x5, x6, x7, x8]) = some y3 at g3
    change DataW.trod enc Tryz.prog w base spare held m 41 (List.take (Tryz.prog.cellsOf 41) [x6, x7, x8]) = some y4 at g4
    change DataW.trod enc Tryz.prog w base spare held m 4 (List.take (Tryz.prog.cellsOf 4) [x8]) = some y5 at g5
    rw [cHead3] at g0
    rw [cInt1] at g1
    rw [cStr1] at g2
    rw [cRgs1] at g3
    rw [cId2] at g4
    rw [cBool1] at g5
    simp only [List.take_succ_cons, List.take_zero] at g0 g1 g2 g3 g4 g5
    obtain ⟨i0, i1, kd, rfl, rfl, rfl⟩ := head_read g0
    obtain ⟨a, ea, _, _⟩ := DataW.trod_int Tryz.underlying3 g1
    obtain ⟨tx, et, rfl, htx⟩ := DataW.trod_string Tryz.underlying9 g2
    obtain ⟨t0, t1, rfl, rfl⟩ := id_read g4
    obtain ⟨on, eo, _⟩ := DataW.trod_bool Tryz.underlying4 g5
    have hd : y.1 = .agg [y0.1, y1.1, .lit (.string tx.data.toList), y3.1, y4.1, y5.1] := congrArg Prod.fst hy
    rw [hd] at hw
    simp only [Rows.uptoBulk, Rows.uptoBulkAll, Txt.size_toList] at hw
    have h3w : Rows.uptoBulk y3.1 ≤ 1048576 := by omega
    have htx' : tx.size ≤ 1048576 := by omega
    obtain ⟨A, n, c, rs, rfl, hr, hn⟩ := ranges_read g3 h3w
    simp only [List.cons.injEq, and_true] at ea et eo
    subst ea et eo
    exact ⟨i0, i1, kd, a, tx, A, n, c, rs, t0, t1, on, rfl, hr, hn, htx'⟩
set_option maxRecDepth 100000 in
theorem step_read {b off : Nat} {n : Nat} {cs : List Value} {d : DataW H} {p : List MemPlace} (hc : w.cells? base ⟨b, off, none⟩ 21 = some cs) (ht : DataW.trod enc Tryz.prog w base spare held n 57 cs = some (d, p)) (hw : Rows.uptoBulk d ≤ 1048576) :
    ∃ s : StepV, (∀ (i : Nat) v, s.cells[i]? = some v → w.cell? ⟨b, off + i, none⟩ = some v) ∧ s.Ok w := by
  obtain ⟨ys, m, _, hy, _, hl, hf⟩ := DataW.trod_struct Tryz.underlying57 ht
  obtain ⟨_, hcl, hat⟩ := World.cells?_some hc
  match ys, hl with
  | [y0, y1, y2, y3, y4], _ =>
  match cs, hcl with
  | [x0, x1, x2, x3, x4, x5, x6, x7, x8, x9, x10, x11, x12, x13, x14, x15, x16, x17, x18, x19, x20], _ =>
    have g0 := hf 0 _ rfl
    have g1 := hf 1 _ rfl
    have g2 := hf 2 _ rfl
    have g3 := hf 3 _ rfl
    have g4 := hf 4 _ rfl
    change DataW.trod enc Tryz.prog w base spare held m 3 (List.take (Tryz.prog.cellsOf 3) [x0, x1, x2, x3, x4, x5, x6, x7, x8, x9, x10, x11, x12, x13, x14, x15, x16, x17, x18, x19, x20]) = some y0 at g0
    change DataW.trod enc Tryz.prog w base spare held m 47 (List.take (Tryz.prog.cellsOf 47) [x1, x2, x3, x4, x5, x6, x7, x8, x9, x10, x11, x12, x13, x14, x15, x16, x17, x18, x19, x20]) = some y1 at g1
    change DataW.trod enc Tryz.prog w base spare held m 47 (List.take (Tryz.prog.cellsOf 47) [x10, x11, x12, x13, x14, x15, x16, x17, x18, x19, x20]) = some y2 at g2
    change DataW.trod enc Tryz.prog w base spare held m 3 (List.take (Tryz.prog.cellsOf 3) [x19, x20]) = some y3 at g3
    change DataW.trod enc Tryz.prog w base spare held m 9 (List.take (Tryz.prog.cellsOf 9) [x20]) = some y4 at g4
    rw [cInt1] at g0 g3
    rw [cOp9] at g1 g2
    rw [cStr1] at g4
    simp only [List.take_succ_cons, List.take_zero] at g0 g1 g2 g3 g4
    have hd : d = .agg [y0.1, y1.1, y2.1, y3.1, y4.1] := congrArg Prod.fst hy
    obtain ⟨kq, ek, _, _⟩ := DataW.trod_int Tryz.underlying3 g0
    obtain ⟨tot, et, _, _⟩ := DataW.trod_int Tryz.underlying3 g3
    obtain ⟨line, el, rfl, _⟩ := DataW.trod_string Tryz.underlying9 g4
    rw [hd] at hw
    simp only [Rows.uptoBulk, Rows.uptoBulkAll, Txt.size_toList] at hw
    obtain ⟨i0, i1, kd, a, tx, A, n', c, rs, t0, t1, on, e, hr, hn, hs⟩ := op_of g1 (by omega)
    obtain ⟨j0, j1, kd', a', tx', A', m', c', rs', u0, u1, on', e', hr', hn', hs'⟩ := op_of g2 (by omega)
    simp only [List.cons.injEq, and_true] at e e' ek et el
    obtain ⟨rfl, rfl, rfl, rfl, rfl, rfl, rfl, rfl, rfl⟩ := e
    obtain ⟨rfl, rfl, rfl, rfl, rfl, rfl, rfl, rfl, rfl⟩ := e'
    subst ek et el
    obtain rfl := hr.len
    obtain rfl := hr'.len
    refine ⟨⟨kq, ⟨i0, i1, kd, a, tx.data.toList, rs, t0, t1, on⟩, A, c, ⟨j0, j1, kd', a', tx'.data.toList, rs', u0, u1, on'⟩, A', c', tot, line⟩, fun i v hv => ?_, ⟨hr, hr', hn, hn', ?_, ?_, ?_⟩⟩
    · have hi : i < 21 := (Array.getElem?_eq_some_iff.1 hv).1
      have := hat i hi
      simp only [Addr.add_lit] at this
      rw [this]
      have e1 : ([Value.int .i64 kq, .int .i64 i0, .int .i64 i1, .int .i64 kd, .int .i64 a, .string tx, .slice A rs.length c, .int .i64 t0, .int .i64 t1, .bool on, .int .i64 j0, .int .i64 j1, .int .i64 kd', .int .i64 a', .string tx', .slice A' rs'.length c', .int .i64 u0, .int .i64 u1, .bool on', .int .i64 tot, .string line])[i]? = some v := by
        rw [← hv]; simp [StepV.cells]
      exact e1
    · rw [Txt.size_toList]; exact hs
    · rw [Txt.size_toList]; exact hs'
    · show line.size ≤ 1048576; omega
set_option maxRecDepth 100000 in
theorem steps_read {v : Value} {y : DataW H × List MemPlace} {fuel : Nat} (hf : DataW.trod enc Tryz.prog w base spare held fuel 23 [v] = some y) (hw : Rows.uptoBulk y.1 ≤ 1048576) : ∃ A n c St, v = .slice A n c ∧ ScriptIn w A n St := by
  rcases open_slice Tryz.underlying23 hf with ⟨hcs, hx⟩ | ⟨a, len, cap, m, n, D, Pl, hcs, hb', hl, hm, hmm, hx, hi⟩
  · exact ⟨none, 0, 0, [], (List.cons.inj hcs).1, rfl, by omega, fun h0 => by omega⟩
  · have hlm : len ≤ m := by rw [hmm]; split <;> omega
    rw [hx] at hw
    simp only [Rows.uptoBulk] at hw
    have hlb := len_bulk ((List.range len).map D)
    simp only [List.length_map, List.length_range] at hlb
    by_cases h00 : len = 0
    · subst h00
      exact ⟨some a, 0, cap, [], (List.cons.inj hcs).1, rfl, by omega, fun h0 => by omega⟩
    have hsp : a.spot = none := by
      obtain ⟨cs', hc, _⟩ := hi 0 (by omega)
      rw [cStep21] at hc
      obtain ⟨_, hcl, hat⟩ := World.cells?_some hc
      have := hat 0 (by decide)
      rw [Nat.zero_mul, List.getElem?_eq_getElem (by omega)] at this
      exact World.cell?_spot (a := a) (by simpa [Addr.add] using this)
    obtain ⟨b, off, sp⟩ := a
    obtain rfl : sp = none := hsp
    obtain ⟨St, hlen, hst⟩ := list_of (P := fun i (s : StepV) => (∀ (j : Nat) v, s.cells[j]? = some v → w.cell? ⟨b, off + i * 21 + j, none⟩ = some v) ∧ s.Ok w) len fun i hil => by
      obtain ⟨cs', hc, ht⟩ := hi i (by omega)
      rw [cStep21] at hc
      simp only [Addr.add_lit] at hc
      exact step_read hc ht (by have := mem_bulk (List.mem_map.2 ⟨i, List.mem_range.2 hil, rfl⟩ : D i ∈ (List.range len).map D); omega)
    exact ⟨some ⟨b, off, none⟩, len, cap, St, (List.cons.inj hcs).1, hlen.symm, by omega, fun _ => ⟨b, off, rfl, fun j hj => hst j hj⟩⟩
end
set_option maxRecDepth 100000 in
theorem play_in {H : Type} {enc : TypeId × Value → H} {w : World} {base b0 : Nat} {r : Reach} {spare : Nat → Bool} {held : Bool} {v : Value} {d : DataW H} {p : List MemPlace}
    (hv : Value.okWide Tryz.prog w r b0 25 v) (h : DataW.Trod enc Tryz.prog w base spare held 25 v d p)
    (hsz : (d.weights Tryz.prog 25).all (· ≤ reachBytes) = true) (hk : Rows.uptoBulk d ≤ 1048576) : ∃ A1 n1 c1 A2 n2 c2 St, v = .agg #[.slice A1 n1 c1, .slice A2 n2 c2] ∧ ReadsC w A1 n1 ∧ ScriptIn w A2 n2 St := by
  obtain ⟨v0, v1, y0, y1, n, rfl, rfl, g0, g1⟩ := open_two Tryz.underlying25 (by kernel_rfl) (by kernel_rfl) hv h
  simp only [DataW.weightsEach, DataW.weights, Tryz.underlying25, List.append_nil, List.map_cons, List.map_nil, List.all_append, Bool.and_eq_true] at hsz
  simp only [Rows.uptoBulk, Rows.uptoBulkAll] at hk
  obtain ⟨A1, n1, c1, rfl, r1⟩ := cells_read g0 hsz.1
  obtain ⟨A2, n2, c2, St, rfl, r2⟩ := steps_read g1 (by omega)
  exact ⟨A1, n1, c1, A2, n2, c2, St, rfl, r1, r2⟩
theorem readsC_below {w W : World} {A : Option Addr} {n : Nat} (h : ReadsC w A n) (hW : Below w.heap.size w W) : ReadsC W A n := ⟨h.1, fun h0 => by
  obtain ⟨b, off, e, h⟩ := h.2 h0
  exact ⟨b, off, e, fun j hj => by obtain ⟨r, h', c1, c2⟩ := h j hj; exact ⟨r, h', U.cell_below hW c1, U.cell_below hW c2⟩⟩⟩
theorem ScriptIn.below {w W : World} {A : Option Addr} {n : Nat} {St : List StepV} (h : ScriptIn w A n St) (hW : Below w.heap.size w W) : ScriptIn W A n St := ⟨h.1, h.2.1, fun h0 => by
  obtain ⟨b, off, e, h⟩ := h.2.2 h0
  exact ⟨b, off, e, fun j hj => ⟨fun i v hv => U.cell_below hW ((h j hj).1 i v hv), (h j hj).2.below hW⟩⟩⟩
end Go.Proofs.YtkdhomiieenfnaaGreatDoor.K

namespace Go.Proofs.YtkdhomiieenfnaaGreatDoor.K
open Go.RowKit Go.Proofs Go.Proofs.YtkdhomiieenfnaaGreatDoor.U Go.Proofs.YtkdhomiieenfnaaGreatDoor.Txt Go.Proofs.YtkdhomiieenfnaaGreatDoor.O Go.Proofs.YtkdhomiieenfnaaGreatDoor.Rp Go.Proofs.YtkdhomiieenfnaaGreatDoor.Lw
set_option linter.unusedVariables false
set_option linter.unusedSimpArgs false

set_option maxRecDepth 100000 in
theorem shapes_walk (Ac : Option Addr) (nc cc : Nat) (As : Option Addr) (ns cs0 : Nat) (St : List StepV) (w : World) (hC : ReadsC w Ac nc) (hS : ScriptIn w As ns St) (hE : EnvP w) :
    Calls Tryz.prog 4 #[.agg #[.slice Ac nc cc, .slice As ns cs0]] w fun e w' => e = .returned (.bool true) ∧ Below w.heap.size w w' := by
  have HK := Lib.hid (fun (W0 : World) (hW0 : Below w.heap.size w W0) => kinds_ask Ac nc cc As ns cs0 St 3 6 W0 (readsC_below hC hW0) (hS.below hW0) (hE.below hW0).o (.inl (by decide)) (fun s _ h1 h2 gl cl W hW hok hg => by
    have hE' := ((hE.below hW0).below hW).o.bars
    rcases (show s.kind = 3 ∨ s.kind = 4 ∨ s.kind = 5 ∨ s.kind = 6 by omega) with h | h | h | h
    · exact asks_3 s gl cl W h hok hg hE'
    · exact asks_4 s gl cl W h hok hg hE'
    · exact asks_5 s gl cl W h hok hg hE'
    · exact asks_6 s gl cl W h hok hg hE'))
  clear hC hS hE
  go_enter Tryz.func4, Tryz.ntmps4
  go_wp2_with fail
  refine (HK.out _ (below_alloc1 _ _)).mono ?_
  rintro e w1 ⟨rfl, hb⟩
  have HB := Lib.hid ((below_alloc1 w (.cells #[.slice Ac nc cc, .slice As ns cs0] 25)).trans (hb.mono (by simp)))
  clear hb
  go_wp2_with fail
  go_ret
  exact ⟨rfl, HB.out⟩
end Go.Proofs.YtkdhomiieenfnaaGreatDoor.K

namespace Go.Proofs.YtkdhomiieenfnaaGreatDoor.U
open Go.ChangeShapes Go.WideShapes Go.ChangeAt Go.RowKit
set_option linter.unusedVariables false

/-- An array of one-cell elements: each cell's own reading. -/
theorem array_cell1 {H : Type} {enc : TypeId × Value → H} {P : Program} {w : World} {base : Nat} {sp : Nat → Bool} {held : Bool} {fuel : Nat} {t e : TypeId} {n : Nat} {cs : List Value} {ds : List (DataW H)} {p : List MemPlace}
    (ht : P.underlying t = some (.array n e)) (ce : P.cellsOf e = 1) (ct : P.cellsOf t = n) (h : DataW.trod enc P w base sp held fuel t cs = some (.agg ds, p)) (i : Nat) (d : DataW H) (hd : ds[i]? = some d) : ∃ v m q, cs[i]? = some v ∧ DataW.trod enc P w base sp held m e [v] = some (d, q) := by
  obtain ⟨xs, m, _, hx, hl, hn, hi⟩ := DataW.trod_array ht h
  have hxs : xs.map (·.1) = ds := by
    have := congrArg Prod.fst hx
    simpa using this.symm
  rw [← hxs, List.getElem?_map] at hd
  obtain ⟨x, hxi, rfl⟩ := Option.map_eq_some_iff.1 hd
  have hin : i < n := by have := (List.getElem?_eq_some_iff.1 hxi).1; omega
  have h2 := hi i hin
  rw [ce, hxi, Nat.mul_one] at h2
  have hc : cs[i]? = some (cs[i]'(by omega)) := List.getElem?_eq_getElem (by omega)
  have e1 : (cs.drop i).take 1 = [cs[i]'(by omega)] := by
    rw [List.drop_eq_getElem_cons (by omega)]; rfl
  rw [e1] at h2
  exact ⟨_, m, x.2, hc, h2⟩
theorem gTz : Tryz.prog.globalNamed "math/bits.deBruijn64tab" = some 6 := by kernel_rfl
theorem gTzType : (Tryz.prog.globals[6]?).map (·.type) = some 240 := by kernel_rfl
theorem cTz : Tryz.prog.cellsOf 240 = 64 := by kernel_rfl
theorem cByte : Tryz.prog.cellsOf 5 = 1 := by kernel_rfl
def tzD : List (DataW Unit) := match (Rows.laid_math_bits_deBruijn64tab : DataW Unit) with | .agg l => l | _ => []
theorem tz_of_laid {l : List (String × DataW Unit)} {W : World} (hx : (l.filter fun x => x.1 == "math/bits.deBruijn64tab") = [("math/bits.deBruijn64tab", (Rows.laid_math_bits_deBruijn64tab : DataW Unit))]) (h : laidMetH Tryz.prog l W) : Tz16 W := by
  have h1 := laidMetH.filter (fun x => x.1 == "math/bits.deBruijn64tab") h
  rw [hx] at h1
  obtain ⟨ps, ⟨g, t, cs, fuel, p, q, hg, ht, hvar, hd, _, _⟩, _⟩ := (laidMetH_iff.1 h1).1
  obtain rfl := Option.some.inj (gTz.symm.trans hg)
  obtain rfl := Option.some.inj (gTzType.symm.trans ht)
  obtain ⟨v, m, q', hc, hr⟩ := array_cell1 (ds := tzD) Tryz.underlying240 cByte cTz hd 15 (.lit (.int .u8 4)) (by kernel_rfl)
  obtain ⟨n, en, e2, _⟩ := DataW.trod_int Tryz.underlying5 hr
  simp at en e2
  subst en
  unfold Tz16
  simp only [World.var?, hg, Option.bind_some] at hvar
  split at hvar
  · rename_i c t fr e
    obtain rfl := Option.some.inj hvar
    rw [Lib.cell_of_heap e, ← Array.getElem?_toList, hc, ← e2.1]
  · cases hvar
end Go.Proofs.YtkdhomiieenfnaaGreatDoor.U
