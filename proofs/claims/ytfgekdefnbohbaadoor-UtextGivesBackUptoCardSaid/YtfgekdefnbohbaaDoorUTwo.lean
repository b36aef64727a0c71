/- How an argument of type Two (two lists of runes, a number, a string, a byte) is opened: what its cells hold, and the bounds that the form's own reach gives. -/
import Derived.Test.YtfgekdefnbohbaaDoorULet
import Derived.Test.YtfgekdefnbohbaaDoorULaid
import Derived.Lib.SmallJoins
import Derived.Deep.Fields
import Derived.SizedLaws
import Derived.ChangeSlices
namespace Go.Proofs.YtfgekdefnbohbaaDoor.U
open Go.Joins Go.ChangeShapes Go.WideShapes Go.ChangeAt Go.RowKit Go.Deep
set_option linter.unusedVariables false
set_option linter.unusedSimpArgs false

theorem bulk_one {H : Type} (d : DataW H) : 1 ≤ Rows.uptoBulk d := by
  cases d with
  | lit l => cases l <;> simp [Rows.uptoBulk]
  | _ => simp [Rows.uptoBulk]
theorem bulk_len {H : Type} (l : List (DataW H)) : l.length ≤ Rows.uptoBulkAll l := by
  induction l with
  | nil => simp [Rows.uptoBulkAll]
  | cons x r ih => have := bulk_one x; simp only [Rows.uptoBulkAll, List.length_cons]; omega

section
variable {H : Type} {enc : TypeId × Value → H} {P : Program} {w : World} {base : Nat} {spare : Nat → Bool} {held : Bool}
theorem open_five {r : Reach} {b0 : Nat} {t : TypeId} {f0 f1 f2 f3 f4 : Field} {v : Value} {d : DataW H} {p : List MemPlace} (hs : P.underlying t = some (.struct #[f0, f1, f2, f3, f4])) (hone : oneCellFields P #[f0, f1, f2, f3, f4] = true) (hC : P.cellsOf t = 5)
    (hv : Value.okWide P w r b0 t v) (h : DataW.Trod enc P w base spare held t v d p) :
    ∃ (v0 v1 v2 v3 v4 : Value) (y0 y1 y2 y3 y4 : DataW H × List MemPlace) (n : Nat), v = .agg #[v0, v1, v2, v3, v4] ∧ d = .agg [y0.1, y1.1, y2.1, y3.1, y4.1] ∧
      DataW.trod enc P w base spare held n f0.type [v0] = some y0 ∧ DataW.trod enc P w base spare held n f1.type [v1] = some y1 ∧ DataW.trod enc P w base spare held n f2.type [v2] = some y2 ∧ DataW.trod enc P w base spare held n f3.type [v3] = some y3 ∧ DataW.trod enc P w base spare held n f4.type [v4] = some y4 := by
  obtain ⟨cs, rfl, hsz⟩ := okWide_struct hs hv
  obtain ⟨l⟩ := cs
  match l, hsz.trans hC with
  | [c0, c1, c2, c3, c4], _ =>
    obtain ⟨fuel, hf⟩ := h
    obtain ⟨xs, n, _, hx, _, hlen, hg⟩ := DataW.trod_struct hs hf
    obtain ⟨o0, k0⟩ := hone_of hone 0 f0 rfl
    obtain ⟨o1, k1⟩ := hone_of hone 1 f1 rfl
    obtain ⟨o2, k2⟩ := hone_of hone 2 f2 rfl
    obtain ⟨o3, k3⟩ := hone_of hone 3 f3 rfl
    obtain ⟨o4, k4⟩ := hone_of hone 4 f4 rfl
    match xs, hlen with
    | [y0, y1, y2, y3, y4], _ =>
      simp only [Prod.mk.injEq] at hx
      exact ⟨c0, c1, c2, c3, c4, y0, y1, y2, y3, y4, n, rfl, by simpa using hx.1, by simpa [Value.cells, o0, k0] using hg 0 f0 rfl, by simpa [Value.cells, o1, k1] using hg 1 f1 rfl, by simpa [Value.cells, o2, k2] using hg 2 f2 rfl, by simpa [Value.cells, o3, k3] using hg 3 f3 rfl, by simpa [Value.cells, o4, k4] using hg 4 f4 rfl⟩

/-- A field that is a slice of int32: its value, what its cells hold, and how many it can be. -/
theorem read32 {t e : TypeId} {fuel : Nat} {v : Value} {y : DataW H × List MemPlace} (ht : P.underlying t = some (.slice e)) (he : P.underlying e = some (.int .i32)) (hc : P.cellsOf e = 1) (hB : P.bytesOf e = 4)
    (h : DataW.trod enc P w base spare held fuel t [v] = some y) (hw : (y.1.weights P t).all (· ≤ reachBytes) = true) : ∃ A n c xs, v = .slice A n c ∧ Reads32 w A n xs ∧ n ≤ Rows.uptoBulk y.1 := by
  rcases open_ints ht he hc h with ⟨hcs, hx⟩ | ⟨a, len, cap, zs, hcs, hb, hl, hm, hz, hx, hcell, hwz⟩
  · simp at hcs
    exact ⟨none, 0, 0, [], hcs, ⟨rfl, by omega, fun h => by omega⟩, Nat.zero_le _⟩
  · simp at hcs
    have hln : len ≤ zs.length := by rw [hz]; split <;> omega
    refine ⟨some a, len, cap, zs.take len, hcs, ⟨by rw [List.length_take]; omega, ?_, fun h0 => ⟨a, rfl, ?_, fun j hj => ?_⟩⟩, ?_⟩
    · rw [hx] at hw
      simp only [DataW.weights, ht, List.all_cons, Bool.and_eq_true, decide_eq_true_eq, hB] at hw
      have h1 := hw.1
      simp only [lits, List.length_map, List.length_take, List.length_drop] at h1
      have h2 : reachBytes = 140737488351232 := rfl
      have h3 : min len zs.length = len := by omega
      omega
    · have := World.block_lt_of_cell? w (a.add 0) (hcell 0 (by omega))
      rwa [add_block] at this
    · rw [hcell j (by omega)]
      simp [List.getD, List.getElem?_take, hj]
    · rw [hx]
      have h1 := bulk_len (lits (H := H) .i32 (zs.take len))
      have h2 : (lits (H := H) .i32 (zs.take len)).length = len := by simp [lits]; omega
      simp only [Rows.uptoBulk]
      omega
end

/-- What a law over Two is handed. -/
structure TwoIn (w : World) (v : Value) (A1 : Option Addr) (n1 c1 : Nat) (xs1 : List Int) (A2 : Option Addr) (n2 c2 : Nat) (xs2 : List Int) (k : Int) (raw : ByteArray) (b : Int) : Prop where
  eq : v = .agg #[.slice A1 n1 c1, .slice A2 n2 c2, .int .i64 k, .string raw, .int .u8 b]
  r1 : Reads32 w A1 n1 xs1
  r2 : Reads32 w A2 n2 xs2
  k0 : -9223372036854775808 ≤ k
  k1 : k ≤ 9223372036854775807
  raw : raw.size ≤ 140737488351232
  b0 : 0 ≤ b
  b1 : b < 256
set_option maxRecDepth 100000 in
theorem two_in {H : Type} {enc : TypeId × Value → H} {w : World} {base b0 : Nat} {r : Reach} {spare : Nat → Bool} {held : Bool} {v : Value} {d : DataW H} {p : List MemPlace}
    (hv : Value.okWide Tryd.prog w r b0 24 v) (h : DataW.Trod enc Tryd.prog w base spare held 24 v d p)
    (hsz : (DataW.weightsEach Tryd.prog [24] [d]).all (· ≤ reachBytes) = true) : ∃ A1 n1 c1 xs1 A2 n2 c2 xs2 k raw b, TwoIn w v A1 n1 c1 xs1 A2 n2 c2 xs2 k raw b ∧ n1 + n2 + raw.size ≤ Rows.uptoBulkAll [d] := by
  obtain ⟨v0, v1, v2, v3, v4, y0, y1, y2, y3, y4, n, rfl, rfl, g0, g1, g2, g3, g4⟩ := open_five Tryd.underlying24 (by kernel_rfl) (by kernel_rfl) hv h
  simp only [DataW.weightsEach, DataW.weights, Tryd.underlying24, List.append_nil, List.map_cons, List.map_nil, List.all_append, Bool.and_eq_true] at hsz
  obtain ⟨s0, s1, s2, s3, s4⟩ := hsz
  obtain ⟨A1, n1, c1, xs1, rfl, r1, u1⟩ := read32 Tryd.underlying22 Tryd.underlying21 (by kernel_rfl) (by kernel_rfl) g0 s0
  obtain ⟨A2, n2, c2, xs2, rfl, r2, u2⟩ := read32 Tryd.underlying22 Tryd.underlying21 (by kernel_rfl) (by kernel_rfl) g1 s1
  obtain ⟨k, ek, rfl, wk⟩ := DataW.trod_int Tryd.underlying3 g2
  obtain ⟨raw, er, rfl, wr⟩ := DataW.trod_string Tryd.underlying9 g3
  obtain ⟨b, eb, rfl, wb⟩ := DataW.trod_int Tryd.underlying5 g4
  simp at ek er eb
  subst ek er eb
  have hk := bounds_i64 wk
  have hb := bounds_u8 wb
  have hs : raw.data.toList.length ≤ reachBytes := by simpa [DataW.weights] using s3
  have h2 : reachBytes = 140737488351232 := rfl
  rw [h2] at hs
  exact ⟨A1, n1, c1, xs1, A2, n2, c2, xs2, k, raw, b, ⟨rfl, r1, r2, hk.1, hk.2, hs, hb.1, by omega⟩, by have := Txt.size_toList raw; simp only [Rows.uptoBulkAll, Rows.uptoBulk]; omega⟩

/-- In a world behind W the argument's own block and the table stand as they stood. -/
structure Live (W w : World) (B : Nat) (vs : Array Value) : Prop where
  below : Below W.heap.size W w
  box : ∃ t fr, w.heap[B]? = some (.cells vs t fr)
  bars : Bars w
theorem Live.new {W : World} (h : Bars W) (vs : Array Value) (t : TypeId) : Live W (W.alloc (.cells vs t)) W.heap.size vs :=
  ⟨(Below.refl _ _).alloc (Nat.le_refl _) _, ⟨t, (0, 0), heap_alloc_new W _⟩, h.below ((Below.refl _ _).alloc (Nat.le_refl _) _)⟩
theorem Live.step {W w w' : World} {B : Nat} {vs : Array Value} (h : Live W w B vs) (hb : Below w.heap.size w w') : Live W w' B vs :=
  ⟨h.below.trans (hb.mono h.below.size), by obtain ⟨t, fr, e⟩ := h.box; exact ⟨t, fr, by rw [hb.block _ (Array.getElem?_eq_some_iff.1 e).1]; exact e⟩, h.bars.below hb⟩
theorem Live.cell {W w : World} {B : Nat} {vs : Array Value} (h : Live W w B vs) (i : Nat) {v : Value} (hv : vs[i]? = some v) : w.cell? ⟨B, i, none⟩ = some v := by
  obtain ⟨t, fr, e⟩ := h.box
  simp [World.cell?, e, hv]
end Go.Proofs.YtfgekdefnbohbaaDoor.U
