/- How an argument of type Deed is opened. -/
import Derived.Test.YtnippaaiopgnaaaDoorOrLaw
import Derived.Lib.SmallJoins
import Derived.Deep.Fields
import Derived.SizedLaws
import Derived.ChangeSlices
namespace Go.Proofs.YtnippaaiopgnaaaDoor.O
open Go.Joins Go.ChangeShapes Go.WideShapes Go.ChangeAt Go.RowKit Go.Deep Go.Proofs.YtnippaaiopgnaaaDoor.U
set_option linter.unusedVariables false
set_option linter.unusedSimpArgs false

section
variable {H : Type} {enc : TypeId × Value → H} {P : Program} {w : World} {base : Nat} {spare : Nat → Bool} {held : Bool}
theorem open_four {r : Reach} {b0 : Nat} {t : TypeId} {f0 f1 f2 f3 : Field} {v : Value} {d : DataW H} {p : List MemPlace} (hs : P.underlying t = some (.struct #[f0, f1, f2, f3])) (hone : oneCellFields P #[f0, f1, f2, f3] = true) (hC : P.cellsOf t = 4)
    (hv : Value.okWide P w r b0 t v) (h : DataW.Trod enc P w base spare held t v d p) :
    ∃ (v0 v1 v2 v3 : Value) (y0 y1 y2 y3 : DataW H × List MemPlace) (n : Nat), v = .agg #[v0, v1, v2, v3] ∧ d = .agg [y0.1, y1.1, y2.1, y3.1] ∧
      DataW.trod enc P w base spare held n f0.type [v0] = some y0 ∧ DataW.trod enc P w base spare held n f1.type [v1] = some y1 ∧ DataW.trod enc P w base spare held n f2.type [v2] = some y2 ∧ DataW.trod enc P w base spare held n f3.type [v3] = some y3 := by
  obtain ⟨cs, rfl, hsz⟩ := okWide_struct hs hv
  obtain ⟨l⟩ := cs
  match l, hsz.trans hC with
  | [c0, c1, c2, c3], _ =>
    obtain ⟨fuel, hf⟩ := h
    obtain ⟨xs, n, _, hx, _, hlen, hg⟩ := DataW.trod_struct hs hf
    obtain ⟨o0, k0⟩ := hone_of hone 0 f0 rfl
    obtain ⟨o1, k1⟩ := hone_of hone 1 f1 rfl
    obtain ⟨o2, k2⟩ := hone_of hone 2 f2 rfl
    obtain ⟨o3, k3⟩ := hone_of hone 3 f3 rfl
    match xs, hlen with
    | [y0, y1, y2, y3], _ =>
      simp only [Prod.mk.injEq] at hx
      exact ⟨c0, c1, c2, c3, y0, y1, y2, y3, n, rfl, by simpa using hx.1, by simpa [Value.cells, o0, k0] using hg 0 f0 rfl, by simpa [Value.cells, o1, k1] using hg 1 f1 rfl, by simpa [Value.cells, o2, k2] using hg 2 f2 rfl, by simpa [Value.cells, o3, k3] using hg 3 f3 rfl⟩

/-- A field that is a slice of int32: its value, what its cells hold, and how many it can be. -/
theorem read32 {t e : TypeId} {fuel : Nat} {v : Value} {y : DataW H × List MemPlace} (ht : P.underlying t = some (.slice e)) (he : P.underlying e = some (.int .i32)) (hc : P.cellsOf e = 1) (hB : P.bytesOf e = 4)
    (h : DataW.trod enc P w base spare held fuel t [v] = some y) (hw : (y.1.weights P t).all (· ≤ reachBytes) = true) : ∃ A n c xs, v = .slice A n c ∧ Reads32 w A n xs := by
  rcases open_ints ht he hc h with ⟨hcs, hx⟩ | ⟨a, len, cap, zs, hcs, hb, hl, hm, hz, hx, hcell, hwz⟩
  · simp at hcs
    exact ⟨none, 0, 0, [], hcs, ⟨rfl, by omega, fun h => by omega⟩⟩
  · simp at hcs
    have hln : len ≤ zs.length := by rw [hz]; split <;> omega
    refine ⟨some a, len, cap, zs.take len, hcs, ⟨by rw [List.length_take]; omega, ?_, fun h0 => ⟨a, rfl, ?_, fun j hj => ?_⟩⟩⟩
    · rw [hx] at hw
      simp only [DataW.weights, ht, List.all_cons, Bool.and_eq_true, decide_eq_true_eq, hB] at hw
      have h1 := hw.1
      simp only [lits, List.length_map, List.length_take, List.length_drop] at h1
      have h2 : reachBytes = 140737488351232 := rfl
      have h3 : min len zs.length = len := by omega
      omega
    · have := World.block_lt_of_cell? w (a.add 0) (hcell 0 (by omega))
      rwa [add_block] at this
    · rw [hcell j (by omega)]
      simp [List.getD, List.getElem?_take, hj]

/-- A field that is a slice of int: its value, what its cells hold, and how many it can be. -/
theorem read64 {t e : TypeId} {fuel : Nat} {v : Value} {y : DataW H × List MemPlace} (ht : P.underlying t = some (.slice e)) (he : P.underlying e = some (.int .i64)) (hc : P.cellsOf e = 1) (hB : P.bytesOf e = 8)
    (h : DataW.trod enc P w base spare held fuel t [v] = some y) (hw : (y.1.weights P t).all (· ≤ reachBytes) = true) : ∃ A n c xs, v = .slice A n c ∧ ReadsI w A n xs := by
  rcases open_ints ht he hc h with ⟨hcs, hx⟩ | ⟨a, len, cap, zs, hcs, hb, hl, hm, hz, hx, hcell, hwz⟩
  · simp at hcs
    exact ⟨none, 0, 0, [], hcs, ⟨rfl, by omega, fun x hx => (by cases hx), fun h => by omega⟩⟩
  · simp at hcs
    have hln : len ≤ zs.length := by rw [hz]; split <;> omega
    refine ⟨some a, len, cap, zs.take len, hcs, ⟨by rw [List.length_take]; omega, ?_, fun x hx => bounds_i64 (hwz x (List.mem_of_mem_take hx)), fun h0 => ⟨a, rfl, ?_, fun j hj => ?_⟩⟩⟩
    · rw [hx] at hw
      simp only [DataW.weights, ht, List.all_cons, Bool.and_eq_true, decide_eq_true_eq, hB] at hw
      have h1 := hw.1
      simp only [lits, List.length_map, List.length_take, List.length_drop] at h1
      have h2 : reachBytes = 140737488351232 := rfl
      have h3 : min len zs.length = len := by omega
      omega
    · have := World.block_lt_of_cell? w (a.add 0) (hcell 0 (by omega))
      rwa [add_block] at this
    · rw [hcell j (by omega)]
      simp [List.getD, List.getElem?_take, hj]

end
set_option maxRecDepth 100000 in
theorem deed_in {H : Type} {enc : TypeId × Value → H} {w : World} {base b0 : Nat} {r : Reach} {spare : Nat → Bool} {held : Bool} {v : Value} {d : DataW H} {p : List MemPlace}
    (hv : Value.okWide Tryd.prog w r b0 40 v) (h : DataW.Trod enc Tryd.prog w base spare held 40 v d p)
    (hsz : (d.weights Tryd.prog 40).all (· ≤ reachBytes) = true) : ∃ kd at_ A1 n1 c1 xs1 A2 n2 c2 xs2, DeedIn w v kd at_ A1 n1 c1 xs1 A2 n2 c2 xs2 := by
  obtain ⟨v0, v1, v2, v3, y0, y1, y2, y3, n, rfl, rfl, g0, g1, g2, g3⟩ := open_four Tryd.underlying40 (by kernel_rfl) (by kernel_rfl) hv h
  simp only [DataW.weightsEach, DataW.weights, Tryd.underlying40, List.append_nil, List.map_cons, List.map_nil, List.all_append, Bool.and_eq_true] at hsz
  obtain ⟨s0, s1, s2, s3⟩ := hsz
  obtain ⟨k, ek, rfl, wk⟩ := DataW.trod_int Tryd.underlying3 g0
  obtain ⟨a, ea, rfl, wa⟩ := DataW.trod_int Tryd.underlying3 g1
  obtain ⟨A1, n1, c1, xs1, rfl, r1⟩ := read32 Tryd.underlying37 Tryd.underlying21 (by kernel_rfl) (by kernel_rfl) g2 s2
  obtain ⟨A2, n2, c2, xs2, rfl, r2⟩ := read64 Tryd.underlying38 Tryd.underlying3 (by kernel_rfl) (by kernel_rfl) g3 s3
  simp at ek ea
  subst ek ea
  exact ⟨k, a, A1, n1, c1, xs1, A2, n2, c2, xs2, ⟨rfl, r1, r2⟩⟩
end Go.Proofs.YtnippaaiopgnaaaDoor.O
