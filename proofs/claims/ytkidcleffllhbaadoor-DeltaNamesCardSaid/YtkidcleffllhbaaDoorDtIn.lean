/- How an argument of type Case is opened. -/
import Derived.Test.YtkidcleffllhbaaDoorDtCase
import Derived.Test.YtkidcleffllhbaaDoorULaid
import Derived.Lib.SmallJoins
import Derived.Deep.Slices
import Derived.Deep.Fields
import Derived.ChangeSame
import Derived.SizedLaws
import Derived.ChangeSlices
namespace Go.Proofs.YtkidcleffllhbaaDoor.Dt
open Go.Joins Go.ChangeShapes Go.WideShapes Go.ChangeAt Go.RowKit Go.Deep Go.Proofs.YtkidcleffllhbaaDoor.U
set_option linter.unusedVariables false
set_option linter.unusedSimpArgs false

section
variable {H : Type} {enc : TypeId × Value → H} {P : Program} {w : World} {base : Nat} {spare : Nat → Bool} {held : Bool}
theorem one_bulk (d : DataW H) : 1 ≤ Rows.uptoBulk d := by
  cases d with
  | lit l => cases l <;> simp [Rows.uptoBulk]
  | _ => simp [Rows.uptoBulk]
theorem len_bulk (l : List (DataW H)) : l.length ≤ Rows.uptoBulkAll l := by
  induction l with
  | nil => simp [Rows.uptoBulkAll]
  | cons x r ih => have := one_bulk x; simp only [Rows.uptoBulkAll, List.length_cons]; omega
theorem mem_bulk {l : List (DataW H)} {d : DataW H} (h : d ∈ l) : Rows.uptoBulk d ≤ Rows.uptoBulkAll l := by
  induction l with
  | nil => cases h
  | cons x r ih =>
    simp only [Rows.uptoBulkAll]
    rcases List.mem_cons.1 h with rfl | h
    · omega
    · have := ih h; omega
theorem open_four {r : Reach} {b0 : Nat} {t : TypeId} {f0 f1 f2 f3 : Field} {v : Value} {d : DataW H} {p : List MemPlace} (hs : P.underlying t = some (.struct #[f0, f1, f2, f3])) (hone : oneCellFields P #[f0, f1, f2, f3] = true) (hC : P.cellsOf t = 4)
    (hv : Value.okWide P w r b0 t v) (h : DataW.Trod enc P w base spare held t v d p) :
    ∃ (v0 v1 v2 v3 : Value) (y0 y1 y2 y3 : DataW H × List MemPlace) (n : Nat), v = .agg #[v0, v1, v2, v3] ∧ d = .agg [y0.1, y1.1, y2.1, y3.1] ∧
      DataW.trod enc P w base spare held n f0.type [v0] = some y0 ∧ DataW.trod enc P w base spare held n f1.type [v1] = some y1 ∧ DataW.trod enc P w base spare held n f2.type [v2] = some y2 ∧ DataW.trod enc P w base spare held n f3.type [v3] = some y3 := by
  obtain ⟨cs, rfl, hsz⟩ := okWide_struct hs hv
  obtain ⟨l⟩ := cs
  match l, hsz.trans hC with
  | [c0, c1, c2, c3], _ =>
    obtain ⟨fuel, hf⟩ := h
    obtain ⟨xs, n, _, hx, _, hlen, hg⟩ := DataW.trod_struct hs hf
    obtain ⟨o0, k0⟩ := hone_of hone 0 f0 rfl
    obtain ⟨o1, k1⟩ := hone_of hone 1 f1 rfl
    obtain ⟨o2, k2⟩ := hone_of hone 2 f2 rfl
    obtain ⟨o3, k3⟩ := hone_of hone 3 f3 rfl
    match xs, hlen with
    | [y0, y1, y2, y3], _ =>
      simp only [Prod.mk.injEq] at hx
      exact ⟨c0, c1, c2, c3, y0, y1, y2, y3, n, rfl, by simpa using hx.1, by simpa [Value.cells, o0, k0] using hg 0 f0 rfl, by simpa [Value.cells, o1, k1] using hg 1 f1 rfl, by simpa [Value.cells, o2, k2] using hg 2 f2 rfl, by simpa [Value.cells, o3, k3] using hg 3 f3 rfl⟩
/-- A field that is a slice of int32. -/
theorem read32 {t e : TypeId} {fuel : Nat} {v : Value} {y : DataW H × List MemPlace} (ht : P.underlying t = some (.slice e)) (he : P.underlying e = some (.int .i32)) (hc : P.cellsOf e = 1)
    (h : DataW.trod enc P w base spare held fuel t [v] = some y) (hw : Rows.uptoBulk y.1 ≤ 1048576) : ∃ A n c xs, v = .slice A n c ∧ Reads32 w A n xs := by
  rcases open_ints ht he hc h with ⟨hcs, hx⟩ | ⟨a, len, cap, zs, hcs, hb, hl, hm, hz, hx, hcell, hwz⟩
  · simp at hcs
    exact ⟨none, 0, 0, [], hcs, ⟨rfl, by omega, fun h => by omega⟩⟩
  · simp at hcs
    have hln : len ≤ zs.length := by rw [hz]; split <;> omega
    refine ⟨some a, len, cap, zs.take len, hcs, ⟨by rw [List.length_take]; omega, ?_, fun h0 => ⟨a, rfl, ?_, fun j hj => ?_⟩⟩⟩
    · rw [hx] at hw
      have h1 := len_bulk (lits (H := H) .i32 (zs.take len))
      have h2 : (lits (H := H) .i32 (zs.take len)).length = len := by simp [lits]; omega
      simp only [Rows.uptoBulk] at hw
      omega
    · have := World.block_lt_of_cell? w (a.add 0) (hcell 0 (by omega))
      rwa [add_block] at this
    · rw [hcell j (by omega)]
      simp [List.getD, List.getElem?_take, hj]
end
theorem cInt1 : Tryd.prog.cellsOf 3 = 1 := by kernel_rfl
theorem cSl1 : Tryd.prog.cellsOf 22 = 1 := by kernel_rfl
theorem cI32 : Tryd.prog.cellsOf 21 = 1 := by kernel_rfl
theorem cEdit3 : Tryd.prog.cellsOf 124 = 3 := by kernel_rfl
set_option maxRecDepth 100000 in
theorem edit_read {H : Type} {enc : TypeId × Value → H} {w : World} {base : Nat} {spare : Nat → Bool} {held : Bool} {a : Addr} {n : Nat} {cs : List Value} {d : DataW H} {p : List MemPlace}
    (hc : w.cells? base a 3 = some cs) (ht : DataW.trod enc Tryd.prog w base spare held n 124 cs = some (d, p)) (hsm : Rows.uptoBulk d ≤ 1048576) : ∃ at_ del A' n' c' xs, w.cell? a = some (.int .i64 at_) ∧ w.cell? (a.add 1) = some (.int .i64 del) ∧ w.cell? (a.add 2) = some (.slice A' n' c') ∧ Reads32 w A' n' xs := by
  obtain ⟨ys, n', hn', hy, hlen, hyl, hf⟩ := DataW.trod_struct Tryd.underlying124 ht
  obtain ⟨_, hcl, hat⟩ := World.cells?_some hc
  match ys, hyl with
  | [y0, y1, y2], _ =>
  match cs, hcl with
  | [x0, x1, x2], _ =>
    have g0 := hf 0 _ rfl
    have g1 := hf 1 _ rfl
    have g2 := hf 2 _ rfl
    change DataW.trod enc Tryd.prog w base spare held n' 3 (List.take (Tryd.prog.cellsOf 3) [x0, x1, x2]) = some y0 at g0
    change DataW.trod enc Tryd.prog w base spare held n' 3 (List.take (Tryd.prog.cellsOf 3) [x1, x2]) = some y1 at g1
    change DataW.trod enc Tryd.prog w base spare held n' 22 (List.take (Tryd.prog.cellsOf 22) [x2]) = some y2 at g2
    rw [cInt1] at g0 g1
    rw [cSl1] at g2
    simp only [List.take_succ_cons, List.take_zero] at g0 g1 g2
    obtain ⟨k, ek, rfl, wk⟩ := DataW.trod_int Tryd.underlying3 g0
    obtain ⟨l, el, rfl, wl⟩ := DataW.trod_int Tryd.underlying3 g1
    have hd : d = .agg [.lit (.int .i64 k), .lit (.int .i64 l), y2.1] := congrArg Prod.fst hy
    rw [hd] at hsm
    simp only [Rows.uptoBulk, Rows.uptoBulkAll] at hsm
    obtain ⟨A', m, c', xs, rfl, hr⟩ := read32 Tryd.underlying22 Tryd.underlying21 cI32 g2 (by omega)
    simp only [List.cons.injEq, and_true] at ek el
    subst ek el
    exact ⟨k, l, A', m, c', xs, hat 0 (by decide), hat 1 (by decide), hat 2 (by decide), hr⟩
set_option maxRecDepth 100000 in
theorem edits_read {H : Type} {enc : TypeId × Value → H} {w : World} {base : Nat} {spare : Nat → Bool} {held : Bool} {v : Value} {y : DataW H × List MemPlace} {fuel : Nat}
    (hf : DataW.trod enc Tryd.prog w base spare held fuel 23 [v] = some y) (hsm : Rows.uptoBulk y.1 ≤ 1048576) : ∃ A n c, v = .slice A n c ∧ EditsIn w A n := by
  rcases open_slice Tryd.underlying23 hf with ⟨hcs, hx⟩ | ⟨a, len, cap, m, n, D, Pl, hcs, hb, hl, hm, hmm, hx, hi⟩
  · exact ⟨none, 0, 0, (List.cons.inj hcs).1, by omega, fun h0 => by omega⟩
  · have hlm : len ≤ m := by rw [hmm]; split <;> omega
    have hd : y.1 = .slice ((List.range len).map D) ((List.range (m - len)).map fun j => D (len + j)) := congrArg Prod.fst hx
    have hbk : Rows.uptoBulkAll ((List.range len).map D) ≤ 1048576 := by rw [hd] at hsm; simp only [Rows.uptoBulk] at hsm; omega
    have hlen : len ≤ 1048576 := by have := len_bulk ((List.range len).map D); simp at this; omega
    have ho : ∀ i, i < len → ∃ at_ del A' n' c' xs, w.cell? (a.add (i * 3)) = some (.int .i64 at_) ∧ w.cell? ((a.add (i * 3)).add 1) = some (.int .i64 del) ∧ w.cell? ((a.add (i * 3)).add 2) = some (.slice A' n' c') ∧ Reads32 w A' n' xs := fun i hil => by
      obtain ⟨cs', hc, ht⟩ := hi i (by omega)
      rw [cEdit3] at hc
      exact edit_read hc ht (Nat.le_trans (mem_bulk (List.mem_map.2 ⟨i, List.mem_range.2 hil, rfl⟩)) hbk)
    refine ⟨some a, len, cap, (List.cons.inj hcs).1, by omega, fun h0 => ?_⟩
    have hsp : a.spot = none := by
      obtain ⟨_, _, _, _, _, _, this, _⟩ := ho 0 h0
      exact World.cell?_spot (a := a) (by simpa [Addr.add] using this)
    obtain ⟨b, off, sp⟩ := a
    obtain rfl : sp = none := hsp
    refine ⟨b, off, rfl, fun i hil => ?_⟩
    obtain ⟨at_, del, A', n', c', xs, c0, c1, c2, hr⟩ := ho i hil
    simp only [Addr.add_lit] at c0 c1 c2
    exact ⟨at_, del, A', n', c', xs, c0, c1, c2, hr⟩
set_option maxRecDepth 100000 in
theorem case_in {H : Type} {enc : TypeId × Value → H} {w : World} {base b0 : Nat} {r : Reach} {spare : Nat → Bool} {held : Bool} {v : Value} {d : DataW H} {p : List MemPlace}
    (hv : Value.okWide Tryd.prog w r b0 25 v) (h : DataW.Trod enc Tryd.prog w base spare held 25 v d p)
    (hk : Rows.uptoBulkAll [d] ≤ 1048576) : ∃ A1 n1 c1 xs A2 n2 c2 A3 n3 c3 ar, CaseIn w v A1 n1 c1 xs A2 n2 c2 A3 n3 c3 ar := by
  obtain ⟨v0, v1, v2, v3, y0, y1, y2, y3, n, rfl, rfl, g0, g1, g2, g3⟩ := open_four Tryd.underlying25 (by kernel_rfl) (by kernel_rfl) hv h
  simp only [Rows.uptoBulkAll, Rows.uptoBulk] at hk
  obtain ⟨A1, n1, c1, xs, rfl, r1⟩ := read32 Tryd.underlying22 Tryd.underlying21 cI32 g0 (by omega)
  obtain ⟨A2, n2, c2, rfl, r2⟩ := edits_read g1 (by omega)
  obtain ⟨A3, n3, c3, rfl, r3⟩ := edits_read g2 (by omega)
  obtain ⟨k, ek, rfl, wk⟩ := DataW.trod_int Tryd.underlying3 g3
  simp at ek
  subst ek
  exact ⟨A1, n1, c1, xs, A2, n2, c2, A3, n3, c3, k, ⟨rfl, r1, r2, r3⟩⟩
end Go.Proofs.YtkidcleffllhbaaDoor.Dt
