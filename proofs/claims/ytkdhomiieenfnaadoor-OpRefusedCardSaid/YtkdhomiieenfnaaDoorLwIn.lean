/- How an argument of type Row is opened. -/
import Derived.Test.YtkdhomiieenfnaaDoorXLm34
import Derived.Test.YtkdhomiieenfnaaDoorULaid
import Derived.Lib.SmallJoins
import Derived.Deep.Slices
import Derived.Deep.SlicePairs
import Derived.Deep.Fields
import Derived.ChangeSame
import Derived.SizedLaws
import Derived.ChangeSlices
namespace Go.Proofs.YtkdhomiieenfnaaDoor.Lw
open Go.Joins Go.ChangeShapes Go.WideShapes Go.ChangeAt Go.RowKit Go.Deep Go.Proofs.YtkdhomiieenfnaaDoor.U
set_option linter.unusedVariables false
set_option linter.unusedSimpArgs false

section
variable {H : Type} {enc : TypeId × Value → H} {P : Program} {w : World} {base : Nat} {spare : Nat → Bool} {held : Bool}
theorem weights_mem {e : TypeId} {p : Nat → Bool} : ∀ {l : List (DataW H)} {d : DataW H}, d ∈ l → (DataW.weightsAll P e l).all p = true → (d.weights P e).all p = true
  | [], d, h, _ => by cases h
  | x :: r, d, h, hw => by
    simp only [DataW.weightsAll, List.all_append, Bool.and_eq_true] at hw
    rcases List.mem_cons.1 h with rfl | h
    · exact hw.1
    · exact weights_mem h hw.2
theorem open_four {r : Reach} {b0 : Nat} {t : TypeId} {f0 f1 f2 f3 : Field} {v : Value} {d : DataW H} {p : List MemPlace} (hs : P.underlying t = some (.struct #[f0, f1, f2, f3])) (hone : oneCellFields P #[f0, f1, f2, f3] = true) (hC : P.cellsOf t = 4)
    (hv : Value.okWide P w r b0 t v) (h : DataW.Trod enc P w base spare held t v d p) :
    ∃ (v0 v1 v2 v3 : Value) (y0 y1 y2 y3 : DataW H × List MemPlace) (n : Nat), v = .agg #[v0, v1, v2, v3] ∧ d = .agg [y0.1, y1.1, y2.1, y3.1] ∧
      DataW.trod enc P w base spare held n f0.type [v0] = some y0 ∧ DataW.trod enc P w base spare held n f1.type [v1] = some y1 ∧ DataW.trod enc P w base spare held n f2.type [v2] = some y2 ∧ DataW.trod enc P w base spare held n f3.type [v3] = some y3 := by
  obtain ⟨cs, rfl, hsz⟩ := okWide_struct hs hv
  obtain ⟨l⟩ := cs
  match l, hsz.trans hC with
  | [c0, c1, c2, c3], _ =>
    obtain ⟨fuel, hf⟩ := h
    obtain ⟨xs, n, _, hx, _, hlen, hg⟩ := DataW.trod_struct hs hf
    obtain ⟨o0, k0⟩ := hone_of hone 0 f0 rfl
    obtain ⟨o1, k1⟩ := hone_of hone 1 f1 rfl
    obtain ⟨o2, k2⟩ := hone_of hone 2 f2 rfl
    obtain ⟨o3, k3⟩ := hone_of hone 3 f3 rfl
    match xs, hlen with
    | [y0, y1, y2, y3], _ =>
      simp only [Prod.mk.injEq] at hx
      exact ⟨c0, c1, c2, c3, y0, y1, y2, y3, n, rfl, by simpa using hx.1, by simpa [Value.cells, o0, k0] using hg 0 f0 rfl, by simpa [Value.cells, o1, k1] using hg 1 f1 rfl, by simpa [Value.cells, o2, k2] using hg 2 f2 rfl, by simpa [Value.cells, o3, k3] using hg 3 f3 rfl⟩
/-- A field that is a slice of int32: its value, what its cells hold, and how many it can be. -/
theorem read32 {t e : TypeId} {fuel : Nat} {v : Value} {y : DataW H × List MemPlace} (ht : P.underlying t = some (.slice e)) (he : P.underlying e = some (.int .i32)) (hc : P.cellsOf e = 1) (hB : P.bytesOf e = 4)
    (h : DataW.trod enc P w base spare held fuel t [v] = some y) (hw : (y.1.weights P t).all (· ≤ reachBytes) = true) : ∃ A n c xs, v = .slice A n c ∧ Reads32 w A n xs := by
  rcases open_ints ht he hc h with ⟨hcs, hx⟩ | ⟨a, len, cap, zs, hcs, hb, hl, hm, hz, hx, hcell, hwz⟩
  · simp at hcs
    exact ⟨none, 0, 0, [], hcs, ⟨rfl, by omega, fun h => by omega⟩⟩
  · simp at hcs
    have hln : len ≤ zs.length := by rw [hz]; split <;> omega
    refine ⟨some a, len, cap, zs.take len, hcs, ⟨by rw [List.length_take]; omega, ?_, fun h0 => ⟨a, rfl, ?_, fun j hj => ?_⟩⟩⟩
    · rw [hx] at hw
      simp only [DataW.weights, ht, List.all_cons, Bool.and_eq_true, decide_eq_true_eq, hB] at hw
      have h1 := hw.1
      simp only [lits, List.length_map, List.length_take, List.length_drop] at h1
      have h2 : reachBytes = 140737488351232 := rfl
      have h3 : min len zs.length = len := by omega
      omega
    · have := World.block_lt_of_cell? w (a.add 0) (hcell 0 (by omega))
      rwa [add_block] at this
    · rw [hcell j (by omega)]
      simp [List.getD, List.getElem?_take, hj]
end
theorem cInt1 : Tryd.prog.cellsOf 3 = 1 := by kernel_rfl
theorem cSl1 : Tryd.prog.cellsOf 34 = 1 := by kernel_rfl
theorem cSi1 : Tryd.prog.cellsOf 35 = 1 := by kernel_rfl
theorem cI32 : Tryd.prog.cellsOf 21 = 1 := by kernel_rfl
theorem cCell2 : Tryd.prog.cellsOf 97 = 2 := by kernel_rfl
theorem cDeed4 : Tryd.prog.cellsOf 37 = 4 := by kernel_rfl
theorem bCell : Tryd.prog.bytesOf 97 = 16 := by kernel_rfl
theorem bDeed : Tryd.prog.bytesOf 37 = 64 := by kernel_rfl
theorem bI32 : Tryd.prog.bytesOf 21 = 4 := by kernel_rfl
section
variable {H : Type} {enc : TypeId × Value → H} {w : World} {base : Nat} {spare : Nat → Bool} {held : Bool}
set_option maxRecDepth 100000 in
theorem cells_read {v : Value} {y : DataW H × List MemPlace} {fuel : Nat} (hf : DataW.trod enc Tryd.prog w base spare held fuel 22 [v] = some y) (hw : (y.1.weights Tryd.prog 22).all (· ≤ reachBytes) = true) : ∃ A n c, v = .slice A n c ∧ ReadsC w A n := by
  rcases open_slice_pairs Tryd.underlying22 Tryd.underlying97 cCell2 rfl rfl cI32 cInt1 hf with ⟨hcs, hx⟩ | ⟨a, len, cap, m, n, V0, V1, D0, D1, P0, P1, hcs, hb, hl, hm, hmm, hx, hi⟩
  · exact ⟨none, 0, 0, (List.cons.inj hcs).1, by omega, fun h0 => by omega⟩
  · have hlm : len ≤ m := by rw [hmm]; split <;> omega
    have ho : ∀ i, i < len → ∃ r h, w.cell? (a.add (i * 2)) = some (.int .i32 r) ∧ w.cell? (a.add (i * 2 + 1)) = some (.int .i64 h) := fun i hil => by
      obtain ⟨c0, c1, g0, g1⟩ := hi i (by omega)
      obtain ⟨k, ek, _, wk⟩ := DataW.trod_int Tryd.underlying21 g0
      obtain ⟨l, el, _, wl⟩ := DataW.trod_int Tryd.underlying3 g1
      exact ⟨k, l, by rw [c0, (List.cons.inj ek).1], by rw [c1, (List.cons.inj el).1]⟩
    refine ⟨some a, len, cap, (List.cons.inj hcs).1, ?_, fun h0 => ?_⟩
    · rw [hx] at hw
      simp only [DataW.weights, Tryd.underlying22, List.all_cons, Bool.and_eq_true, decide_eq_true_eq, bCell, List.length_map, List.length_range] at hw
      have h1 := hw.1
      have h2 : reachBytes = 140737488351232 := rfl
      omega
    · have hsp : a.spot = none := by
        obtain ⟨_, _, this, _⟩ := ho 0 h0
        exact World.cell?_spot (a := a) (by simpa [Addr.add] using this)
      obtain ⟨b, off, sp⟩ := a
      obtain rfl : sp = none := hsp
      refine ⟨b, off, rfl, fun i hil => ?_⟩
      obtain ⟨r, h, c0, c1⟩ := ho i hil
      simp only [Addr.add_lit] at c0 c1
      exact ⟨r, h, c0, c1⟩
set_option maxRecDepth 100000 in
theorem deed_read {a : Addr} {n : Nat} {cs : List Value} {d : DataW H} {p : List MemPlace}
    (hc : w.cells? base a 4 = some cs) (ht : DataW.trod enc Tryd.prog w base spare held n 37 cs = some (d, p)) (hw : (d.weights Tryd.prog 37).all (· ≤ reachBytes) = true) : ∃ k a1 A1 n1 c1 xs v2, w.cell? a = some (.int .i64 k) ∧ w.cell? (a.add 1) = some (.int .i64 a1) ∧ w.cell? (a.add 2) = some (.slice A1 n1 c1) ∧ w.cell? (a.add 3) = some v2 ∧ (∃ A2 n2 c2, v2 = .slice A2 n2 c2) ∧ Reads32 w A1 n1 xs := by
  obtain ⟨ys, n', hn', hy, hlen, hyl, hf⟩ := DataW.trod_struct Tryd.underlying37 ht
  obtain ⟨_, hcl, hat⟩ := World.cells?_some hc
  match ys, hyl with
  | [y0, y1, y2, y3], _ =>
  match cs, hcl with
  | [x0, x1, x2, x3], _ =>
    have g0 := hf 0 _ rfl
    have g1 := hf 1 _ rfl
    have g2 := hf 2 _ rfl
    have g3 := hf 3 _ rfl
    change DataW.trod enc Tryd.prog w base spare held n' 3 (List.take (Tryd.prog.cellsOf 3) [x0, x1, x2, x3]) = some y0 at g0
    change DataW.trod enc Tryd.prog w base spare held n' 3 (List.take (Tryd.prog.cellsOf 3) [x1, x2, x3]) = some y1 at g1
    change DataW.trod enc Tryd.prog w base spare held n' 34 (List.take (Tryd.prog.cellsOf 34) [x2, x3]) = some y2 at g2
    change DataW.trod enc Tryd.prog w base spare held n' 35 (List.take (Tryd.prog.cellsOf 35) [x3]) = some y3 at g3
    rw [cInt1] at g0 g1
    rw [cSl1] at g2
    rw [cSi1] at g3
    simp only [List.take_succ_cons, List.take_zero] at g0 g1 g2 g3
    obtain ⟨k, ek, rfl, wk⟩ := DataW.trod_int Tryd.underlying3 g0
    obtain ⟨l, el, rfl, wl⟩ := DataW.trod_int Tryd.underlying3 g1
    have hd : d = .agg [.lit (.int .i64 k), .lit (.int .i64 l), y2.1, y3.1] := congrArg Prod.fst hy
    rw [hd] at hw
    simp only [DataW.weights, Tryd.underlying37, DataW.weightsEach, List.map_cons, List.map_nil, List.append_nil, List.nil_append, List.all_append, Bool.and_eq_true] at hw
    have h2w : (y2.1.weights Tryd.prog 34).all (· ≤ reachBytes) = true := by
      first | exact hw.1 | exact hw.2.1 | exact hw.2.2.1
    obtain ⟨A', m, c', xs, rfl, hr⟩ := read32 Tryd.underlying34 Tryd.underlying21 cI32 bI32 g2 h2w
    simp only [List.cons.injEq, and_true] at ek el
    subst ek el
    refine ⟨k, l, A', m, c', xs, x3, hat 0 (by decide), hat 1 (by decide), hat 2 (by decide), hat 3 (by decide), ?_, hr⟩
    rcases open_slice Tryd.underlying35 g3 with ⟨hcs, _⟩ | ⟨a', len, cap, _, _, _, _, hcs, _⟩
    · exact ⟨none, 0, 0, (List.cons.inj hcs).1⟩
    · exact ⟨some a', len, cap, (List.cons.inj hcs).1⟩
set_option maxRecDepth 100000 in
theorem deeds_read {v : Value} {y : DataW H × List MemPlace} {fuel : Nat}
    (hf : DataW.trod enc Tryd.prog w base spare held fuel 23 [v] = some y) (hw : (y.1.weights Tryd.prog 23).all (· ≤ reachBytes) = true) : ∃ A n c, v = .slice A n c ∧ ReadsD w A n := by
  rcases open_slice Tryd.underlying23 hf with ⟨hcs, hx⟩ | ⟨a, len, cap, m, n, D, Pl, hcs, hb, hl, hm, hmm, hx, hi⟩
  · exact ⟨none, 0, 0, (List.cons.inj hcs).1, by omega, fun h0 => by omega⟩
  · have hlm : len ≤ m := by rw [hmm]; split <;> omega
    rw [hx] at hw
    simp only [DataW.weights, Tryd.underlying23, List.all_cons, List.all_append, Bool.and_eq_true, decide_eq_true_eq, bDeed, List.length_map, List.length_range] at hw
    have ho : ∀ i, i < len → ∃ k a1 A1 n1 c1 xs v2, w.cell? (a.add (i * 4)) = some (.int .i64 k) ∧ w.cell? ((a.add (i * 4)).add 1) = some (.int .i64 a1) ∧ w.cell? ((a.add (i * 4)).add 2) = some (.slice A1 n1 c1) ∧ w.cell? ((a.add (i * 4)).add 3) = some v2 ∧ (∃ A2 n2 c2, v2 = .slice A2 n2 c2) ∧ Reads32 w A1 n1 xs := fun i hil => by
      obtain ⟨cs', hc, ht⟩ := hi i (by omega)
      rw [cDeed4] at hc
      exact deed_read hc ht (weights_mem (List.mem_map.2 ⟨i, List.mem_range.2 hil, rfl⟩) hw.2.1)
    refine ⟨some a, len, cap, (List.cons.inj hcs).1, ?_, fun h0 => ?_⟩
    · have h1 := hw.1
      have h2 : reachBytes = 140737488351232 := rfl
      omega
    · have hsp : a.spot = none := by
        obtain ⟨_, _, _, _, _, _, _, this, _⟩ := ho 0 h0
        exact World.cell?_spot (a := a) (by simpa [Addr.add] using this)
      obtain ⟨b, off, sp⟩ := a
      obtain rfl : sp = none := hsp
      refine ⟨b, off, rfl, fun i hil => ?_⟩
      obtain ⟨k, a1, A1, n1, c1, xs, v2, c0, c1', c2, c3, h2, hr⟩ := ho i hil
      simp only [Addr.add_lit] at c0 c1' c2 c3
      exact ⟨k, a1, A1, n1, c1, xs, v2, c0, c1', c2, c3, h2, hr⟩
end
set_option maxRecDepth 100000 in
theorem row_in {H : Type} {enc : TypeId × Value → H} {w : World} {base b0 : Nat} {r : Reach} {spare : Nat → Bool} {held : Bool} {v : Value} {d : DataW H} {p : List MemPlace}
    (hv : Value.okWide Tryd.prog w r b0 25 v) (h : DataW.Trod enc Tryd.prog w base spare held 25 v d p)
    (hsz : (d.weights Tryd.prog 25).all (· ≤ reachBytes) = true) : ∃ A1 n1 c1 A2 n2 c2 lo hi, v = .agg #[.slice A1 n1 c1, .slice A2 n2 c2, .int .i64 lo, .int .i64 hi] ∧ ReadsC w A1 n1 ∧ ReadsD w A2 n2 := by
  obtain ⟨v0, v1, v2, v3, y0, y1, y2, y3, n, rfl, rfl, g0, g1, g2, g3⟩ := open_four Tryd.underlying25 (by kernel_rfl) (by kernel_rfl) hv h
  simp only [DataW.weightsEach, DataW.weights, Tryd.underlying25, List.append_nil, List.map_cons, List.map_nil, List.all_append, Bool.and_eq_true] at hsz
  obtain ⟨s0, s1, s2, s3⟩ := hsz
  obtain ⟨A1, n1, c1, rfl, r1⟩ := cells_read g0 s0
  obtain ⟨A2, n2, c2, rfl, r2⟩ := deeds_read g1 s1
  obtain ⟨k, ek, _, wk⟩ := DataW.trod_int Tryd.underlying3 g2
  obtain ⟨a, ea, _, wa⟩ := DataW.trod_int Tryd.underlying3 g3
  simp at ek ea
  subst ek ea
  exact ⟨A1, n1, c1, A2, n2, c2, k, a, rfl, r1, r2⟩
end Go.Proofs.YtkdhomiieenfnaaDoor.Lw
