/- What op.read makes of a line: plain Lean, and where its two variables stand. -/
import Derived.Test.YtnippaaiopgnaaaDoorOqT
import Derived.Test.YtnippaaiopgnaaaDoorUUnq
namespace Go.Proofs.YtnippaaiopgnaaaDoor.O
open Go.RowKit Go.Proofs Go.Joins Go.Proofs.YtnippaaiopgnaaaDoor.U Go.Proofs.YtnippaaiopgnaaaDoor.Txt
set_option linter.unusedVariables false
set_option linter.unusedSimpArgs false

/-- An operation. -/
structure OpL where
  i0 : Int
  i1 : Int
  kd : Int
  a : Int
  tx : List UInt8
  rs : List (Int × Int)
  t0 : Int
  t1 : Int
  on : Bool
  deriving DecidableEq
def unqT (l : List UInt8) : List UInt8 := match unqL l with
  | none => []
  | some p => p.1
def rdId (s : List UInt8) : Int × Int := pairL (Lib.cut s [32]).1 [46]
def rdW (s : List UInt8) : List UInt8 := (Lib.cut (Lib.cut s [32]).2.1 [32]).1
def rdR (s : List UInt8) : List UInt8 := (Lib.cut (Lib.cut s [32]).2.1 [32]).2.1
def readL (s : List UInt8) : OpL :=
  if rdW s = [105, 110, 115] then ⟨(rdId s).1, (rdId s).2, 1, numOf (Lib.cut (rdR s) [32]).1, unqT (Lib.cut (rdR s) [32]).2.1, [], 0, 0, false⟩
  else if rdW s = [104, 105, 100, 101] then ⟨(rdId s).1, (rdId s).2, 2, 0, [], (Lib.split (rdR s) [44]).map (pairL · [45]), 0, 0, false⟩
  else if rdW s = [115, 104, 111, 119] then ⟨(rdId s).1, (rdId s).2, 3, 0, [], (Lib.split (rdR s) [44]).map (pairL · [45]), 0, 0, false⟩
  else if rdW s = [111, 110] then ⟨(rdId s).1, (rdId s).2, 4, 0, [], [], (pairL (rdR s) [46]).1, (pairL (rdR s) [46]).2, true⟩
  else if rdW s = [111, 102, 102] then ⟨(rdId s).1, (rdId s).2, 4, 0, [], [], (pairL (rdR s) [46]).1, (pairL (rdR s) [46]).2, false⟩
  else ⟨(rdId s).1, (rdId s).2, 0, 0, [], [], 0, 0, false⟩
def zOp : Array Value := #[.int .i64 0, .int .i64 0, .int .i64 0, .int .i64 0, .string ⟨#[]⟩, .slice none 0 0, .int .i64 0, .int .i64 0, .bool false]
def rsCells (rs : List (Int × Int)) : List Value := rs.flatMap fun r => [.int .i64 r.1, .int .i64 r.2]
theorem rsCells_len (rs : List (Int × Int)) : (rsCells rs).length = rs.length * 2 := by
  induction rs with
  | nil => rfl
  | cons r rs ih => simp only [rsCells, List.flatMap_cons, List.length_append, List.length_cons, List.length_nil] at ih ⊢; omega
theorem rsCells_snoc (rs : List (Int × Int)) (a b : Int) : rsCells (rs ++ [(a, b)]) = rsCells rs ++ [.int .i64 a, .int .i64 b] := by simp [rsCells]
theorem rsCells_get : ∀ (rs : List (Int × Int)) (j : Nat) (h : j < rs.length), (rsCells rs)[j * 2]? = some (.int .i64 rs[j].1) ∧ (rsCells rs)[j * 2 + 1]? = some (.int .i64 rs[j].2)
  | r :: rs, 0, _ => ⟨rfl, rfl⟩
  | r :: rs, j + 1, h => by
    have := rsCells_get rs j (by simpa using h)
    simp only [rsCells, List.flatMap_cons] at this ⊢
    refine ⟨?_, ?_⟩
    · rw [List.getElem?_append_right (by simp; omega)]
      simpa [show (j + 1) * 2 - 2 = j * 2 by omega] using this.1
    · rw [List.getElem?_append_right (by simp; omega)]
      simpa [show (j + 1) * 2 + 1 - 2 = j * 2 + 1 by omega] using this.2
/-- Where read's two variables stand: the result, and the operation that is made. -/
structure Rd (w0 w : World) (vs : Array Value) (v : Value) (rs : List (Int × Int)) : Prop where
  b2 : w.heap[w0.heap.size]? = some (.cells zOp 31 (0, 0))
  b3 : w.heap[w0.heap.size + 1]? = some (.cells vs 31 (0, 0))
  own : w.ownsRow (w0.heap.size + 2) 47 2 v rs.length (rsCells rs)
  below : Below w0.heap.size w0 w
section
variable {w0 w w' : World} {vs : Array Value} {v : Value} {rs : List (Int × Int)}
theorem Rd.lt (h : Rd w0 w vs v rs) : w0.heap.size + 2 ≤ w.heap.size := (Array.getElem?_eq_some_iff.1 h.b3).1
theorem Rd.new (w : World) : Rd w ((w.alloc (.cells zOp 31)).alloc (.cells zOp 31)) zOp (.slice none 0 0) [] :=
  ⟨by rw [Lib.alloc_old _ _ _ (by simp)]; exact heap_alloc_new w _, by have := heap_alloc_new (w.alloc (.cells zOp 31)) (.cells zOp 31); simpa using this, ⟨rfl, .inl ⟨rfl, rfl⟩⟩, below_alloc2 _ _ _⟩
theorem Rd.step (h : Rd w0 w vs v rs) (hb : Below w.heap.size w w') : Rd w0 w' vs v rs :=
  ⟨(hb.block _ (by have := h.lt; omega)).trans h.b2, (hb.block _ (by have := h.lt; omega)).trans h.b3, own_below h.own hb, h.below.trans (hb.mono h.below.size)⟩
theorem own_other {B g e size n i : Nat} {x : Value} {xs : List Value} (h : w.ownsRow B e size v n xs) (hg : g < B) : (w.setCell ⟨g, i, none⟩ x).ownsRow B e size v n xs := by
  refine ⟨h.1, ?_⟩
  rcases h.2 with hn | ⟨b, cap, cur, hv, hbg, hb, rest⟩
  · exact .inl hn
  · refine .inr ⟨b, cap, cur, hv, hbg, ?_, rest⟩
    have : g ≠ b := by omega
    simpa [World.setCell, Array.getElem?_modify, this] using hb
theorem Rd.put (h : Rd w0 w vs v rs) (i : Nat) (x : Value) : Rd w0 (w.setCell ⟨w0.heap.size + 1, i, none⟩ x) (vs.setIfInBounds i x) v rs :=
  ⟨by have := h.b2; simp [World.setCell, Array.getElem?_modify, this], by have := h.b3; simp [World.setCell, Array.getElem?_modify, this], own_other h.own (by omega), h.below.setCell (p := ⟨w0.heap.size + 1, i, none⟩) (by simp) x⟩
theorem Rd.cell (h : Rd w0 w vs v rs) {i : Nat} {x : Value} (hv : vs[i]? = some x) : w.cell? ⟨w0.heap.size + 1, i, none⟩ = some x := by rw [Lib.cell_of_heap h.b3, hv]
theorem Rd.frozen (h : Rd w0 w vs v rs) (i : Nat) : w.frozen? ⟨w0.heap.size + 1, i, none⟩ = false := Lib.frozen_of_heap h.b3 i
theorem Rd.nine {v0 v1 v2 v3 v4 v5 v6 v7 v8 : Value} (h : Rd w0 w #[v0, v1, v2, v3, v4, v5, v6, v7, v8] v rs) : w.cell? ⟨w0.heap.size + 1, 0, none⟩ = some v0 ∧ w.cell? ⟨w0.heap.size + 1, 1, none⟩ = some v1 ∧ w.cell? ⟨w0.heap.size + 1, 2, none⟩ = some v2 ∧ w.cell? ⟨w0.heap.size + 1, 3, none⟩ = some v3 ∧ w.cell? ⟨w0.heap.size + 1, 4, none⟩ = some v4 ∧ w.cell? ⟨w0.heap.size + 1, 5, none⟩ = some v5 ∧ w.cell? ⟨w0.heap.size + 1, 6, none⟩ = some v6 ∧ w.cell? ⟨w0.heap.size + 1, 7, none⟩ = some v7 ∧ w.cell? ⟨w0.heap.size + 1, 8, none⟩ = some v8 :=
  ⟨h.cell rfl, h.cell rfl, h.cell rfl, h.cell rfl, h.cell rfl, h.cell rfl, h.cell rfl, h.cell rfl, h.cell rfl⟩
theorem Rd.fz (h : Rd w0 w vs v rs) : w.frozen? ⟨w0.heap.size + 1, 0, none⟩ = false ∧ w.frozen? ⟨w0.heap.size + 1, 1, none⟩ = false ∧ w.frozen? ⟨w0.heap.size + 1, 2, none⟩ = false ∧ w.frozen? ⟨w0.heap.size + 1, 3, none⟩ = false ∧ w.frozen? ⟨w0.heap.size + 1, 4, none⟩ = false ∧ w.frozen? ⟨w0.heap.size + 1, 5, none⟩ = false ∧ w.frozen? ⟨w0.heap.size + 1, 6, none⟩ = false ∧ w.frozen? ⟨w0.heap.size + 1, 7, none⟩ = false ∧ w.frozen? ⟨w0.heap.size + 1, 8, none⟩ = false :=
  ⟨h.frozen 0, h.frozen 1, h.frozen 2, h.frozen 3, h.frozen 4, h.frozen 5, h.frozen 6, h.frozen 7, h.frozen 8⟩
theorem Rd.fzr (h : Rd w0 w vs v rs) : w.frozen? ⟨w0.heap.size, 0, none⟩ = false ∧ w.frozen? ⟨w0.heap.size, 1, none⟩ = false ∧ w.frozen? ⟨w0.heap.size, 2, none⟩ = false ∧ w.frozen? ⟨w0.heap.size, 3, none⟩ = false ∧ w.frozen? ⟨w0.heap.size, 4, none⟩ = false ∧ w.frozen? ⟨w0.heap.size, 5, none⟩ = false ∧ w.frozen? ⟨w0.heap.size, 6, none⟩ = false ∧ w.frozen? ⟨w0.heap.size, 7, none⟩ = false ∧ w.frozen? ⟨w0.heap.size, 8, none⟩ = false :=
  ⟨Lib.frozen_of_heap h.b2 0, Lib.frozen_of_heap h.b2 1, Lib.frozen_of_heap h.b2 2, Lib.frozen_of_heap h.b2 3, Lib.frozen_of_heap h.b2 4, Lib.frozen_of_heap h.b2 5, Lib.frozen_of_heap h.b2 6, Lib.frozen_of_heap h.b2 7, Lib.frozen_of_heap h.b2 8⟩
theorem Rd.nineR (h : Rd w0 w vs v rs) : w.cell? ⟨w0.heap.size, 0, none⟩ = some (.int .i64 0) ∧ w.cell? ⟨w0.heap.size, 1, none⟩ = some (.int .i64 0) ∧ w.cell? ⟨w0.heap.size, 2, none⟩ = some (.int .i64 0) ∧ w.cell? ⟨w0.heap.size, 3, none⟩ = some (.int .i64 0) ∧ w.cell? ⟨w0.heap.size, 4, none⟩ = some (.string ⟨#[]⟩) ∧ w.cell? ⟨w0.heap.size, 5, none⟩ = some (.slice none 0 0) ∧ w.cell? ⟨w0.heap.size, 6, none⟩ = some (.int .i64 0) ∧ w.cell? ⟨w0.heap.size, 7, none⟩ = some (.int .i64 0) ∧ w.cell? ⟨w0.heap.size, 8, none⟩ = some (.bool false) := by
  refine ⟨?_, ?_, ?_, ?_, ?_, ?_, ?_, ?_, ?_⟩ <;> (rw [Lib.cell_of_heap h.b2]; rfl)
/-- Behind an append onto the ranges. -/
theorem Rd.push (h : Rd w0 w vs v rs) {o : Obj} {w9 : World} {g cap : Nat} {a b : Int} (hown : w9.ownsRow (w0.heap.size + 2) 47 2 (.slice (some ⟨g, 0, none⟩) (rs.length + 1) cap) (rs.length + 1) (rsCells rs ++ [.int .i64 a, .int .i64 b])) (hg : (w.alloc o).grownBy w9 v.ownBlock) : Rd w0 w9 vs (.slice (some ⟨g, 0, none⟩) (rs.length + 1) cap) (rs ++ [(a, b)]) := by
  have hlt := h.lt
  have hv : ∀ k, v.ownBlock = some k → w0.heap.size + 2 ≤ k := fun k hk => by
    rcases h.own.2 with ⟨hn, _⟩ | ⟨b, cap, cur, hvv, hbg, _, _⟩
    · rw [hn] at hk; cases hk
    · rw [hvv] at hk
      obtain rfl := Option.some.inj hk
      exact hbg
  have hne : ∀ i, i < w0.heap.size + 2 → v.ownBlock ≠ some i := fun i hi e => by have := hv i e; omega
  refine ⟨?_, ?_, ?_, ?_⟩
  · rw [hg.block _ (by simp; omega) (fun e => hne _ (by omega) e.symm), Lib.alloc_old w _ _ (by omega)]; exact h.b2
  · rw [hg.block _ (by simp; omega) (fun e => hne _ (by omega) e.symm), Lib.alloc_old w _ _ (by omega)]; exact h.b3
  · rw [rsCells_snoc, List.length_append]; exact hown
  · exact (h.below.alloc h.below.size o).grown hg (by have := h.below.size; simp; omega) (fun k hk => by have := hv k hk; omega)
/-- The ranges, as Print reads them. -/
theorem Rd.ranges (h : Rd w0 w vs v rs) : ∃ A c, v = .slice A rs.length c ∧ Ranges w A rs.length rs := by
  rcases h.own.2 with ⟨rfl, h0⟩ | ⟨g, cap, cur, rfl, _, hg, hcap, _⟩
  · exact ⟨none, 0, by rw [h0], rfl, fun hp => by omega⟩
  · refine ⟨_, cap, rfl, rfl, fun _ => ⟨g, 0, rfl, fun j hj => ?_⟩⟩
    have hg2 := rsCells_get rs j hj
    have e1 : (⟨g, 0 + j * 2, none⟩ : Addr) = (⟨g, 0, none⟩ : Addr).add (j * 2) := by simp [Addr.add]
    have e2 : (⟨g, 0 + j * 2 + 1, none⟩ : Addr) = (⟨g, 0, none⟩ : Addr).add (j * 2 + 1) := by simp [Addr.add]
    rw [e1, e2]
    exact ⟨h.own.cells (g := g) rfl _ _ hg2.1, h.own.cells (g := g) rfl _ _ hg2.2⟩
end
theorem piece_size (sep : ByteArray) : ∀ (k : Nat) (s : ByteArray), ∀ x ∈ Lib.splitB sep 0 k s, x.size ≤ s.size
  | 0, s, x, hx => by rw [Lib.splitB_zero] at hx; rw [List.mem_singleton.1 hx]; exact Nat.le_refl _
  | k + 1, s, x, hx => by
    unfold Lib.splitB at hx
    split at hx
    · rw [List.mem_singleton.1 hx]; exact Nat.le_refl _
    · rcases List.mem_cons.1 hx with rfl | hx
      · simp; omega
      · have := piece_size sep k _ x hx
        simp at this; omega
end Go.Proofs.YtnippaaiopgnaaaDoor.O
