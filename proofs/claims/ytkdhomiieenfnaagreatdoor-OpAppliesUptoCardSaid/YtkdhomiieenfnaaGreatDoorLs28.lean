/- What op.read makes of a line: plain Lean, and where its two variables stand. op.read. -/
import Derived.Test.YtkdhomiieenfnaaGreatDoorOqT
import Derived.Test.YtkdhomiieenfnaaGreatDoorLs26
import Derived.Test.YtkdhomiieenfnaaGreatDoorLs27
namespace Go.Proofs.YtkdhomiieenfnaaGreatDoor.O
open Go.RowKit Go.Proofs Go.Joins Go.Proofs.YtkdhomiieenfnaaGreatDoor.U Go.Proofs.YtkdhomiieenfnaaGreatDoor.Txt
set_option linter.unusedVariables false
set_option linter.unusedSimpArgs false

/-- An operation. -/
structure OpL where
  i0 : Int
  i1 : Int
  kd : Int
  a : Int
  tx : List UInt8
  rs : List (Int × Int)
  t0 : Int
  t1 : Int
  on : Bool
  deriving DecidableEq
def unqT (l : List UInt8) : List UInt8 := match unqL l with
  | none => []
  | some p => p.1
def rdId (s : List UInt8) : Int × Int := pairL (Lib.cut s [32]).1 [46]
def rdW (s : List UInt8) : List UInt8 := (Lib.cut (Lib.cut s [32]).2.1 [32]).1
def rdR (s : List UInt8) : List UInt8 := (Lib.cut (Lib.cut s [32]).2.1 [32]).2.1
def readL (s : List UInt8) : OpL :=
  if rdW s = [105, 110, 115] then ⟨(rdId s).1, (rdId s).2, 1, numOf (Lib.cut (rdR s) [32]).1, unqT (Lib.cut (rdR s) [32]).2.1, [], 0, 0, false⟩
  else if rdW s = [104, 105, 100, 101] then ⟨(rdId s).1, (rdId s).2, 2, 0, [], (Lib.split (rdR s) [44]).map (pairL · [45]), 0, 0, false⟩
  else if rdW s = [115, 104, 111, 119] then ⟨(rdId s).1, (rdId s).2, 3, 0, [], (Lib.split (rdR s) [44]).map (pairL · [45]), 0, 0, false⟩
  else if rdW s = [111, 110] then ⟨(rdId s).1, (rdId s).2, 4, 0, [], [], (pairL (rdR s) [46]).1, (pairL (rdR s) [46]).2, true⟩
  else if rdW s = [111, 102, 102] then ⟨(rdId s).1, (rdId s).2, 4, 0, [], [], (pairL (rdR s) [46]).1, (pairL (rdR s) [46]).2, false⟩
  else ⟨(rdId s).1, (rdId s).2, 0, 0, [], [], 0, 0, false⟩
def zOp : Array Value := #[.int .i64 0, .int .i64 0, .int .i64 0, .int .i64 0, .string ⟨#[]⟩, .slice none 0 0, .int .i64 0, .int .i64 0, .bool false]
/-- Where read's two variables stand: the result, and the operation that is made. -/
structure Rd (w0 w : World) (vs : Array Value) (v : Value) (rs : List (Int × Int)) : Prop where
  b2 : w.heap[w0.heap.size]? = some (.cells zOp 47 (0, 0))
  b3 : w.heap[w0.heap.size + 1]? = some (.cells vs 47 (0, 0))
  own : w.ownsRow (w0.heap.size + 2) 102 2 v rs.length (rsCells rs)
  below : Below w0.heap.size w0 w
section
variable {w0 w w' : World} {vs : Array Value} {v : Value} {rs : List (Int × Int)}
theorem Rd.lt (h : Rd w0 w vs v rs) : w0.heap.size + 2 ≤ w.heap.size := (Array.getElem?_eq_some_iff.1 h.b3).1
theorem Rd.new (w : World) : Rd w ((w.alloc (.cells zOp 47)).alloc (.cells zOp 47)) zOp (.slice none 0 0) [] :=
  ⟨by rw [Lib.alloc_old _ _ _ (by simp)]; exact heap_alloc_new w _, by have := heap_alloc_new (w.alloc (.cells zOp 47)) (.cells zOp 47); simpa using this, ⟨rfl, .inl ⟨rfl, rfl⟩⟩, below_alloc2 _ _ _⟩
theorem Rd.step (h : Rd w0 w vs v rs) (hb : Below w.heap.size w w') : Rd w0 w' vs v rs :=
  ⟨(hb.block _ (by have := h.lt; omega)).trans h.b2, (hb.block _ (by have := h.lt; omega)).trans h.b3, own_below h.own hb, h.below.trans (hb.mono h.below.size)⟩
theorem own_other {B g e size n i : Nat} {x : Value} {xs : List Value} (h : w.ownsRow B e size v n xs) (hg : g < B) : (w.setCell ⟨g, i, none⟩ x).ownsRow B e size v n xs := by
  refine ⟨h.1, ?_⟩
  rcases h.2 with hn | ⟨b, cap, cur, hv, hbg, hb, rest⟩
  · exact .inl hn
  · refine .inr ⟨b, cap, cur, hv, hbg, ?_, rest⟩
    have : g ≠ b := by omega
    simpa [World.setCell, Array.getElem?_modify, this] using hb
theorem Rd.put (h : Rd w0 w vs v rs) (i : Nat) (x : Value) : Rd w0 (w.setCell ⟨w0.heap.size + 1, i, none⟩ x) (vs.setIfInBounds i x) v rs :=
  ⟨by have := h.b2; simp [World.setCell, Array.getElem?_modify, this], by have := h.b3; simp [World.setCell, Array.getElem?_modify, this], own_other h.own (by omega), h.below.setCell (p := ⟨w0.heap.size + 1, i, none⟩) (by simp) x⟩
theorem Rd.cell (h : Rd w0 w vs v rs) {i : Nat} {x : Value} (hv : vs[i]? = some x) : w.cell? ⟨w0.heap.size + 1, i, none⟩ = some x := by rw [Lib.cell_of_heap h.b3, hv]
theorem Rd.frozen (h : Rd w0 w vs v rs) (i : Nat) : w.frozen? ⟨w0.heap.size + 1, i, none⟩ = false := Lib.frozen_of_heap h.b3 i
theorem Rd.nine {v0 v1 v2 v3 v4 v5 v6 v7 v8 : Value} (h : Rd w0 w #[v0, v1, v2, v3, v4, v5, v6, v7, v8] v rs) : w.cell? ⟨w0.heap.size + 1, 0, none⟩ = some v0 ∧ w.cell? ⟨w0.heap.size + 1, 1, none⟩ = some v1 ∧ w.cell? ⟨w0.heap.size + 1, 2, none⟩ = some v2 ∧ w.cell? ⟨w0.heap.size + 1, 3, none⟩ = some v3 ∧ w.cell? ⟨w0.heap.size + 1, 4, none⟩ = some v4 ∧ w.cell? ⟨w0.heap.size + 1, 5, none⟩ = some v5 ∧ w.cell? ⟨w0.heap.size + 1, 6, none⟩ = some v6 ∧ w.cell? ⟨w0.heap.size + 1, 7, none⟩ = some v7 ∧ w.cell? ⟨w0.heap.size + 1, 8, none⟩ = some v8 :=
  ⟨h.cell rfl, h.cell rfl, h.cell rfl, h.cell rfl, h.cell rfl, h.cell rfl, h.cell rfl, h.cell rfl, h.cell rfl⟩
theorem Rd.fz (h : Rd w0 w vs v rs) : w.frozen? ⟨w0.heap.size + 1, 0, none⟩ = false ∧ w.frozen? ⟨w0.heap.size + 1, 1, none⟩ = false ∧ w.frozen? ⟨w0.heap.size + 1, 2, none⟩ = false ∧ w.frozen? ⟨w0.heap.size + 1, 3, none⟩ = false ∧ w.frozen? ⟨w0.heap.size + 1, 4, none⟩ = false ∧ w.frozen? ⟨w0.heap.size + 1, 5, none⟩ = false ∧ w.frozen? ⟨w0.heap.size + 1, 6, none⟩ = false ∧ w.frozen? ⟨w0.heap.size + 1, 7, none⟩ = false ∧ w.frozen? ⟨w0.heap.size + 1, 8, none⟩ = false :=
  ⟨h.frozen 0, h.frozen 1, h.frozen 2, h.frozen 3, h.frozen 4, h.frozen 5, h.frozen 6, h.frozen 7, h.frozen 8⟩
theorem Rd.fzr (h : Rd w0 w vs v rs) : w.frozen? ⟨w0.heap.size, 0, none⟩ = false ∧ w.frozen? ⟨w0.heap.size, 1, none⟩ = false ∧ w.frozen? ⟨w0.heap.size, 2, none⟩ = false ∧ w.frozen? ⟨w0.heap.size, 3, none⟩ = false ∧ w.frozen? ⟨w0.heap.size, 4, none⟩ = false ∧ w.frozen? ⟨w0.heap.size, 5, none⟩ = false ∧ w.frozen? ⟨w0.heap.size, 6, none⟩ = false ∧ w.frozen? ⟨w0.heap.size, 7, none⟩ = false ∧ w.frozen? ⟨w0.heap.size, 8, none⟩ = false :=
  ⟨Lib.frozen_of_heap h.b2 0, Lib.frozen_of_heap h.b2 1, Lib.frozen_of_heap h.b2 2, Lib.frozen_of_heap h.b2 3, Lib.frozen_of_heap h.b2 4, Lib.frozen_of_heap h.b2 5, Lib.frozen_of_heap h.b2 6, Lib.frozen_of_heap h.b2 7, Lib.frozen_of_heap h.b2 8⟩
theorem Rd.nineR (h : Rd w0 w vs v rs) : w.cell? ⟨w0.heap.size, 0, none⟩ = some (.int .i64 0) ∧ w.cell? ⟨w0.heap.size, 1, none⟩ = some (.int .i64 0) ∧ w.cell? ⟨w0.heap.size, 2, none⟩ = some (.int .i64 0) ∧ w.cell? ⟨w0.heap.size, 3, none⟩ = some (.int .i64 0) ∧ w.cell? ⟨w0.heap.size, 4, none⟩ = some (.string ⟨#[]⟩) ∧ w.cell? ⟨w0.heap.size, 5, none⟩ = some (.slice none 0 0) ∧ w.cell? ⟨w0.heap.size, 6, none⟩ = some (.int .i64 0) ∧ w.cell? ⟨w0.heap.size, 7, none⟩ = some (.int .i64 0) ∧ w.cell? ⟨w0.heap.size, 8, none⟩ = some (.bool false) := by
  refine ⟨?_, ?_, ?_, ?_, ?_, ?_, ?_, ?_, ?_⟩ <;> (rw [Lib.cell_of_heap h.b2]; rfl)
/-- Behind an append onto the ranges. -/
theorem Rd.push (h : Rd w0 w vs v rs) {o : Obj} {w9 : World} {g cap : Nat} {a b : Int} (hown : w9.ownsRow (w0.heap.size + 2) 102 2 (.slice (some ⟨g, 0, none⟩) (rs.length + 1) cap) (rs.length + 1) (rsCells rs ++ [.int .i64 a, .int .i64 b])) (hg : (w.alloc o).grownBy w9 v.ownBlock) : Rd w0 w9 vs (.slice (some ⟨g, 0, none⟩) (rs.length + 1) cap) (rs ++ [(a, b)]) := by
  have hlt := h.lt
  have hv : ∀ k, v.ownBlock = some k → w0.heap.size + 2 ≤ k := fun k hk => by
    rcases h.own.2 with ⟨hn, _⟩ | ⟨b, cap, cur, hvv, hbg, _, _⟩
    · rw [hn] at hk; cases hk
    · rw [hvv] at hk
      obtain rfl := Option.some.inj hk
      exact hbg
  have hne : ∀ i, i < w0.heap.size + 2 → v.ownBlock ≠ some i := fun i hi e => by have := hv i e; omega
  refine ⟨?_, ?_, ?_, ?_⟩
  · rw [hg.block _ (by simp; omega) (fun e => hne _ (by omega) e.symm), Lib.alloc_old w _ _ (by omega)]; exact h.b2
  · rw [hg.block _ (by simp; omega) (fun e => hne _ (by omega) e.symm), Lib.alloc_old w _ _ (by omega)]; exact h.b3
  · rw [rsCells_snoc, List.length_append]; exact hown
  · exact (h.below.alloc h.below.size o).grown hg (by have := h.below.size; simp; omega) (fun k hk => by have := hv k hk; omega)
/-- The ranges, as Print reads them. -/
theorem Rd.ranges (h : Rd w0 w vs v rs) : ∃ A c, v = .slice A rs.length c ∧ Ranges w A rs.length rs := by
  rcases h.own.2 with ⟨rfl, h0⟩ | ⟨g, cap, cur, rfl, _, hg, hcap, _⟩
  · exact ⟨none, 0, by rw [h0], rfl, fun hp => by omega⟩
  · refine ⟨_, cap, rfl, rfl, fun _ => ⟨g, 0, rfl, fun j hj => ?_⟩⟩
    have hg2 := rsCells_get rs j hj
    have e1 : (⟨g, 0 + j * 2, none⟩ : Addr) = (⟨g, 0, none⟩ : Addr).add (j * 2) := by simp [Addr.add]
    have e2 : (⟨g, 0 + j * 2 + 1, none⟩ : Addr) = (⟨g, 0, none⟩ : Addr).add (j * 2 + 1) := by simp [Addr.add]
    rw [e1, e2]
    exact ⟨h.own.cells (g := g) rfl _ _ hg2.1, h.own.cells (g := g) rfl _ _ hg2.2⟩
end
theorem piece_size (sep : ByteArray) : ∀ (k : Nat) (s : ByteArray), ∀ x ∈ Lib.splitB sep 0 k s, x.size ≤ s.size
  | 0, s, x, hx => by rw [Lib.splitB_zero] at hx; rw [List.mem_singleton.1 hx]; exact Nat.le_refl _
  | k + 1, s, x, hx => by
    unfold Lib.splitB at hx
    split at hx
    · rw [List.mem_singleton.1 hx]; exact Nat.le_refl _
    · rcases List.mem_cons.1 hx with rfl | hx
      · simp; omega
      · have := piece_size sep k _ x hx
        simp at this; omega
end Go.Proofs.YtkdhomiieenfnaaGreatDoor.O

namespace Go.Proofs.YtkdhomiieenfnaaGreatDoor.O
open Go.RowKit Go.Proofs Go.Joins Go.Proofs.YtkdhomiieenfnaaGreatDoor.U Go.Proofs.YtkdhomiieenfnaaGreatDoor.Txt
set_option linter.unusedVariables false
set_option linter.unusedSimpArgs false
attribute [local go_sem] id_eq
attribute [local go_sem ↓] Go.wp_at_zero Go.wp_at_succ

/-- What read hands back. -/
def ReadRes (w : World) (L : OpL) (e : Ending) (w' : World) : Prop :=
  (∃ A c, e = .returned (opV L.i0 L.i1 L.kd L.a ⟨L.tx.toArray⟩ (.slice A L.rs.length c) L.t0 L.t1 L.on) ∧ Ranges w' A L.rs.length L.rs ∧ ∀ b off, A = some ⟨b, off, none⟩ → 0 < L.rs.length → w.heap.size ≤ b) ∧ Below w.heap.size w w'
def opCells (i0 i1 kd a : Int) (tx : ByteArray) (v : Value) (t0 t1 : Int) (on : Bool) : Array Value := #[.int .i64 i0, .int .i64 i1, .int .i64 kd, .int .i64 a, .string tx, v, .int .i64 t0, .int .i64 t1, .bool on]
theorem Rd.cells9 {w0 w : World} {i0 i1 kd a : Int} {tx : ByteArray} {v : Value} {t0 t1 : Int} {on : Bool} {v' : Value} {rs : List (Int × Int)} (h : Rd w0 w (opCells i0 i1 kd a tx v t0 t1 on) v' rs) : (w.cell? ⟨w0.heap.size + 1, 0, none⟩ = some (.int .i64 i0) ∧ w.cell? ⟨w0.heap.size + 1, 1, none⟩ = some (.int .i64 i1) ∧ w.cell? ⟨w0.heap.size + 1, 2, none⟩ = some (.int .i64 kd) ∧ w.cell? ⟨w0.heap.size + 1, 3, none⟩ = some (.int .i64 a) ∧ w.cell? ⟨w0.heap.size + 1, 4, none⟩ = some (.string tx) ∧ w.cell? ⟨w0.heap.size + 1, 5, none⟩ = some v ∧ w.cell? ⟨w0.heap.size + 1, 6, none⟩ = some (.int .i64 t0) ∧ w.cell? ⟨w0.heap.size + 1, 7, none⟩ = some (.int .i64 t1) ∧ w.cell? ⟨w0.heap.size + 1, 8, none⟩ = some (.bool on)) := Rd.nine h
theorem fin_box {w : World} {b T : Nat} {cs : Array Value} (hs : cs.size = 9) (hb : w.heap[b]? = some (.cells cs T (0, 0))) (x0 x1 x2 x3 x4 x5 x6 x7 x8 : Value) :
    (((((((((w.setCell ⟨b, 0, none⟩ x0).setCell ⟨b, 1, none⟩ x1).setCell ⟨b, 2, none⟩ x2).setCell ⟨b, 3, none⟩ x3).setCell ⟨b, 4, none⟩ x4).setCell ⟨b, 5, none⟩ x5).setCell ⟨b, 6, none⟩ x6).setCell ⟨b, 7, none⟩ x7).setCell ⟨b, 8, none⟩ x8).heap[b]? = some (.cells #[x0, x1, x2, x3, x4, x5, x6, x7, x8] T (0, 0)) := by
  obtain ⟨l⟩ := cs
  match l, hs with
  | [y0, y1, y2, y3, y4, y5, y6, y7, y8], _ => simp [World.setCell, Array.getElem?_modify, hb]
theorem fin_far {w : World} {b c : Nat} (hn : c ≠ b) (x0 x1 x2 x3 x4 x5 x6 x7 x8 : Value) :
    (((((((((w.setCell ⟨b, 0, none⟩ x0).setCell ⟨b, 1, none⟩ x1).setCell ⟨b, 2, none⟩ x2).setCell ⟨b, 3, none⟩ x3).setCell ⟨b, 4, none⟩ x4).setCell ⟨b, 5, none⟩ x5).setCell ⟨b, 6, none⟩ x6).setCell ⟨b, 7, none⟩ x7).setCell ⟨b, 8, none⟩ x8).heap[c]? = w.heap[c]? := by
  simp [World.setCell, Array.getElem?_modify, hn, hn.symm]
theorem fin_below9 {w0 w : World} {b c : Nat} (hw : Below c w0 w) (hb : c ≤ b) (x0 x1 x2 x3 x4 x5 x6 x7 x8 : Value) :
    Below c w0 (((((((((w.setCell ⟨b, 0, none⟩ x0).setCell ⟨b, 1, none⟩ x1).setCell ⟨b, 2, none⟩ x2).setCell ⟨b, 3, none⟩ x3).setCell ⟨b, 4, none⟩ x4).setCell ⟨b, 5, none⟩ x5).setCell ⟨b, 6, none⟩ x6).setCell ⟨b, 7, none⟩ x7).setCell ⟨b, 8, none⟩ x8) :=
  ((((((((hw.setCell (p := ⟨b, 0, none⟩) hb x0).setCell (p := ⟨b, 1, none⟩) hb x1).setCell (p := ⟨b, 2, none⟩) hb x2).setCell (p := ⟨b, 3, none⟩) hb x3).setCell (p := ⟨b, 4, none⟩) hb x4).setCell (p := ⟨b, 5, none⟩) hb x5).setCell (p := ⟨b, 6, none⟩) hb x6).setCell (p := ⟨b, 7, none⟩) hb x7).setCell (p := ⟨b, 8, none⟩) hb x8
theorem Ranges.far {w w' : World} {A : Option Addr} {n : Nat} {rs : List (Int × Int)} (h : Ranges w A n rs) (hh : ∀ b off, A = some ⟨b, off, Option.none⟩ → 0 < n → w'.heap[b]? = w.heap[b]?) : Ranges w' A n rs :=
  ⟨h.len, fun h0 => by
    obtain ⟨b, off, e, hc⟩ := h.at_ h0
    have := hh b off e h0
    exact ⟨b, off, e, fun j hj => ⟨by unfold World.cell?; rw [this]; exact (hc j hj).1, by unfold World.cell?; rw [this]; exact (hc j hj).2⟩⟩⟩
theorem Rd.far {w0 w : World} {vs : Array Value} {v : Value} {rs : List (Int × Int)} (h : Rd w0 w vs v rs) : ∀ b off c n, v = .slice (some ⟨b, off, none⟩) n c → w0.heap.size + 2 ≤ b := fun b off c n hv => by
  rcases h.own.2 with ⟨hn, _⟩ | ⟨g, cap, cur, hvv, hbg, _, _⟩
  · rw [hn] at hv; cases hv
  · rw [hvv] at hv; cases hv; exact hbg

theorem infoRange : (Tryz.prog.info? 102).map (fun i => (i.zero, i.size, i.bytes)) = some (some (.agg #[.int .i64 0, .int .i64 0]), 2, 16) := by kernel_rfl
theorem own_weak {w : World} {B B' e size n : Nat} {v : Value} {xs : List Value} (h : w.ownsRow B e size v n xs) (hb : B' ≤ B) : w.ownsRow B' e size v n xs := by
  refine ⟨h.1, ?_⟩
  rcases h.2 with hn | ⟨b, cap, cur, hv, hbg, rest⟩
  · exact .inl hn
  · exact .inr ⟨b, cap, cur, hv, by omega, rest⟩
theorem blk_keep {w w9 : World} {wb e size n : Nat} {v : Value} {xs : List Value} {o o' : Obj} (h : w.heap[wb]? = some o) (ho : w.ownsRow (wb + 1) e size v n xs) (hg : (w.alloc o').grownBy w9 v.ownBlock) : w9.heap[wb]? = some o := by
  have hlt := (Array.getElem?_eq_some_iff.1 h).1
  have hne : v.ownBlock ≠ some wb := fun e1 => by
    rcases ho.2 with ⟨hn, _⟩ | ⟨b, cap, cur, hv, hbg, _⟩
    · rw [hn] at e1; cases e1
    · rw [hv] at e1
      have e2 : b = wb := Option.some.inj e1
      omega
  rw [hg.block _ (by simp; omega) (fun e => hne e.symm), Lib.alloc_old w _ _ hlt]
  exact h
theorem blk_put {w : World} {wb b i : Nat} {o : Obj} {x : Value} (h : w.heap[wb]? = some o) (hn : b ≠ wb) : (w.setCell ⟨b, i, none⟩ x).heap[wb]? = some o := by
  simpa [World.setCell, Array.getElem?_modify, hn] using h
theorem ne_lit {s : ByteArray} {l : List UInt8} (h : ¬ s.data.toList = l) : (s.toList == l) = false := by
  rw [toList_eq]
  simpa using h
/-- The end of read: the operation is copied into the result. -/
theorem rd_end {w W : World} (L : OpL) {v : Value} (h : Rd w W (opCells L.i0 L.i1 L.kd L.a ⟨L.tx.toArray⟩ v L.t0 L.t1 L.on) v L.rs) :
    ReadRes w L (.returned (.agg (opCells L.i0 L.i1 L.kd L.a ⟨L.tx.toArray⟩ v L.t0 L.t1 L.on))) (((((((((W.setCell ⟨w.heap.size, 0, none⟩ (.int .i64 L.i0)).setCell ⟨w.heap.size, 1, none⟩ (.int .i64 L.i1)).setCell ⟨w.heap.size, 2, none⟩ (.int .i64 L.kd)).setCell ⟨w.heap.size, 3, none⟩ (.int .i64 L.a)).setCell ⟨w.heap.size, 4, none⟩ (.string ⟨L.tx.toArray⟩)).setCell ⟨w.heap.size, 5, none⟩ v).setCell ⟨w.heap.size, 6, none⟩ (.int .i64 L.t0)).setCell ⟨w.heap.size, 7, none⟩ (.int .i64 L.t1)).setCell ⟨w.heap.size, 8, none⟩ (.bool L.on)) := by
  obtain ⟨A, c, rfl, hR⟩ := h.ranges
  refine ⟨⟨A, c, rfl, hR.far fun b off hA h0 => ?_, fun b off hA h0 => ?_⟩, fin_below9 h.below (Nat.le_refl _) _ _ _ _ _ _ _ _ _⟩
  · have := h.far b off c L.rs.length (by rw [hA])
    exact fin_far (by omega) _ _ _ _ _ _ _ _ _
  · have := h.far b off c L.rs.length (by rw [hA])
    omega
theorem unq_res {l : List UInt8} {e : Ending} (h : UnqRes (unqL l) e) : ∃ n er, e = .returned (.tuple #[.string ⟨(unqT l).toArray⟩, .int .i64 n, .int .i64 er]) := by
  unfold unqT
  cases hu : unqL l with
  | none => rw [hu] at h; exact ⟨_, _, h⟩
  | some p => rw [hu] at h; obtain ⟨x, n⟩ := p; exact ⟨_, _, h⟩
set_option maxRecDepth 100000 in
set_option maxHeartbeats 8000000 in
theorem read_any (s : ByteArray) (w : World) (hs : s.size ≤ 1048576) (hE : EnvP w) :
    Calls Tryz.prog 74 #[.string s] w (ReadRes w (readL s.data.toList)) := by
  have R0 := Lib.hid (Rd.new w)
  have hc1 := cut_len s.data.toList [32]
  have hc2 := cut_len (Lib.cut s.data.toList [32]).2.1 [32]
  rw [size_toList] at hc1
  obtain ⟨X, hX⟩ : ∃ X : ByteArray, X = ⟨(Lib.cut s.data.toList [32]).1.toArray⟩ := ⟨_, rfl⟩
  obtain ⟨Y, hY⟩ : ∃ Y : ByteArray, Y = ⟨(Lib.cut s.data.toList [32]).2.1.toArray⟩ := ⟨_, rfl⟩
  have hXl : X.data.toList = (Lib.cut s.data.toList [32]).1 := by rw [hX]
  have hYl : Y.data.toList = (Lib.cut s.data.toList [32]).2.1 := by rw [hY]
  have hXs : X.size ≤ 1048576 := by rw [← size_toList, hXl]; omega
  have hYs : Y.size ≤ 1048576 := by rw [← size_toList, hYl]; omega
  obtain ⟨W, hW⟩ : ∃ W : ByteArray, W = ⟨(rdW s.data.toList).toArray⟩ := ⟨_, rfl⟩
  obtain ⟨R, hR⟩ : ∃ R : ByteArray, R = ⟨(rdR s.data.toList).toArray⟩ := ⟨_, rfl⟩
  have hWl : W.data.toList = rdW s.data.toList := by rw [hW]
  have hRl : R.data.toList = rdR s.data.toList := by rw [hR]
  have hRs : R.size ≤ 1048576 := by rw [← size_toList, hRl]; unfold rdR; omega
  have C1 := Lib.hid (Cut_any s ⟨#[32]⟩ _ hs (hE.below R0.out.below))
  rw [show (⟨#[32]⟩ : ByteArray).data.toList = [32] from rfl, ← hX, ← hY] at C1
  have C2 := Lib.hid (fun W hW => Cut_any Y ⟨#[32]⟩ W hYs hW)
  rw [show (⟨#[32]⟩ : ByteArray).data.toList = [32] from rfl, hYl, show (Lib.cut (Lib.cut s.data.toList [32]).2.1 [32]).1 = rdW s.data.toList from rfl, show (Lib.cut (Lib.cut s.data.toList [32]).2.1 [32]).2.1 = rdR s.data.toList from rfl, ← hW, ← hR] at C2
  have C3 := Lib.hid (fun W hW => parseID_any X W hXs hW)
  rw [hXl, show pairL (Lib.cut s.data.toList [32]).1 [46] = rdId s.data.toList from rfl] at C3
  obtain ⟨p, hp⟩ : ∃ p, (rdId s.data.toList).1 = p := ⟨_, rfl⟩
  obtain ⟨q, hq⟩ : ∃ q, (rdId s.data.toList).2 = q := ⟨_, rfl⟩
  rw [hp, hq] at C3
  have HRL := Lib.hid (show readL s.data.toList = if rdW s.data.toList = [105, 110, 115] then ⟨(rdId s.data.toList).1, (rdId s.data.toList).2, 1, numOf (Lib.cut (rdR s.data.toList) [32]).1, unqT (Lib.cut (rdR s.data.toList) [32]).2.1, [], 0, 0, false⟩ else _ from rfl)
  rw [hp, hq, ← hRl, ← hWl] at HRL
  have HE := Lib.hid hE
  clear hE hc1 hc2 hX hY hXl hYl hXs hYs hW hR hWl hRl hp hq
  generalize readL s.data.toList = L at HRL ⊢
  generalize s.data.toList = sl at HRL
  go_enter Tryz.func74, Tryz.ntmps74
  go_wp2_with fail
  refine C1.out.mono ?_
  rintro e w1 ⟨⟨b1, rfl⟩, hb1⟩
  have R1 := Lib.hid (R0.out.step hb1)
  clear hb1
  go_wp2_with fail
  refine (C2.out _ (HE.out.below R1.out.below)).mono ?_
  rintro e w2 ⟨⟨b2, rfl⟩, hb2⟩
  have R2 := Lib.hid (R1.out.step hb2)
  clear hb2
  go_wp2_with fail
  refine (C3.out _ (HE.out.below R2.out.below)).mono ?_
  rintro e w3 ⟨rfl, hb3⟩
  have R3 := Lib.hid (R2.out.step hb3)
  clear hb3 C1 C2 C3
  obtain ⟨f0, f1, f2, f3, f4, f5, f6, f7, f8⟩ := R3.out.fz
  obtain ⟨d0, d1, d2, d3, d4, d5, d6, d7, d8⟩ := Rd.cells9 (i0 := 0) (i1 := 0) (kd := 0) (a := 0) (tx := ⟨#[]⟩) (v := .slice none 0 0) (t0 := 0) (t1 := 0) (on := false) R3.out
  have hr4 := (R3.out.put 0 (.int .i64 p)).put 1 (.int .i64 q)
  have hr4' : Rd w _ (opCells p q 0 0 ⟨#[]⟩ (.slice none 0 0) 0 0 false) (.slice none 0 0) [] := hr4
  have R4 := Lib.hid hr4'
  clear hr4 hr4'
  by_cases h1 : W.data.toList = [105, 110, 115]
  · have hl1 : W = ⟨#[105, 110, 115]⟩ := lit_str _ _ h1
    have HL : Hid (L = ⟨p, q, 1, numOf (Lib.cut R.data.toList [32]).1, unqT (Lib.cut R.data.toList [32]).2.1, [], 0, 0, false⟩) := Lib.hid (by rw [HRL.out, if_pos h1])
    subst hl1
    have hc := cut_len R.data.toList [32]
    rw [size_toList] at hc
    obtain ⟨U, hU⟩ : ∃ U : ByteArray, U = ⟨(Lib.cut R.data.toList [32]).1.toArray⟩ := ⟨_, rfl⟩
    obtain ⟨V, hV⟩ : ∃ V : ByteArray, V = ⟨(Lib.cut R.data.toList [32]).2.1.toArray⟩ := ⟨_, rfl⟩
    have hUl : U.data.toList = (Lib.cut R.data.toList [32]).1 := by rw [hU]
    have hVl : V.data.toList = (Lib.cut R.data.toList [32]).2.1 := by rw [hV]
    have hUs : U.size ≤ 1048576 := by rw [← size_toList, hUl]; omega
    have hVs : V.size ≤ 1048576 := by rw [← size_toList, hVl]; omega
    have C5 := Lib.hid (fun W hW => Cut_any R ⟨#[32]⟩ W hRs hW)
    rw [show (⟨#[32]⟩ : ByteArray).data.toList = [32] from rfl, ← hU, ← hV] at C5
    have C6 := Lib.hid (fun W hW => Atoi_any U W hUs hW)
    have C7 := Lib.hid (fun W hW => Unquote_any V W (by omega) hW)
    rw [← hUl, ← hVl] at HL
    clear hU hV hUl hVl hUs hVs hc h1 HRL
    obtain ⟨n, hn⟩ : ∃ n, numOf U.data.toList = n := ⟨_, rfl⟩
    rw [hn] at C6 HL
    clear hn
    generalize hvl : V.data.toList = vl at C7 HL
    clear hvl
    go_wp2_with fail
    generalize (w3.setCell ⟨w.heap.size + 1, 0, none⟩ (.int .i64 p)).setCell ⟨w.heap.size + 1, 1, none⟩ (.int .i64 q) = w4 at R4 ⊢
    clear d0 d1 d2 d3 d4 d5 d6 d7 d8 f0 f1 f2 f3 f4 f5 f6 f7 f8
    refine (C5.out _ (HE.out.below R4.out.below)).mono ?_
    rintro e w5 ⟨⟨b5, rfl⟩, hb5⟩
    have R5 := Lib.hid (R4.out.step hb5)
    clear hb5
    obtain ⟨f0, f1, f2, f3, f4, f5, f6, f7, f8⟩ := R5.out.fz
    obtain ⟨d0, d1, d2, d3, d4, d5, d6, d7, d8⟩ := R5.out.cells9
    have r6 : Rd w _ (opCells p q 1 0 ⟨#[]⟩ (.slice none 0 0) 0 0 false) (.slice none 0 0) [] := R5.out.put 2 (.int .i64 1)
    have R6 := Lib.hid r6
    clear r6
    go_wp2_with fail
    generalize w5.setCell ⟨w.heap.size + 1, 2, none⟩ (.int .i64 1) = w6 at R6 ⊢
    clear d0 d1 d2 d3 d4 d5 d6 d7 d8 f0 f1 f2 f3 f4 f5 f6 f7 f8
    refine (C6.out _ (HE.out.below R6.out.below)).mono ?_
    rintro e w7 ⟨⟨e7, rfl⟩, hb7⟩
    have R7 := Lib.hid (R6.out.step hb7)
    clear hb7
    obtain ⟨f0, f1, f2, f3, f4, f5, f6, f7, f8⟩ := R7.out.fz
    obtain ⟨d0, d1, d2, d3, d4, d5, d6, d7, d8⟩ := R7.out.cells9
    have r8 : Rd w _ (opCells p q 1 n ⟨#[]⟩ (.slice none 0 0) 0 0 false) (.slice none 0 0) [] := R7.out.put 3 (.int .i64 n)
    have R8 := Lib.hid r8
    clear r8
    go_wp2_with fail
    generalize w7.setCell ⟨w.heap.size + 1, 3, none⟩ (.int .i64 n) = w8 at R8 ⊢
    clear d0 d1 d2 d3 d4 d5 d6 d7 d8 f0 f1 f2 f3 f4 f5 f6 f7 f8
    refine (C7.out _ (HE.out.below R8.out.below).q).mono ?_
    rintro e w9 ⟨hu, hb9⟩
    obtain ⟨u1, u2, rfl⟩ := unq_res hu
    have R9 := Lib.hid (R8.out.step hb9)
    clear hb9 hu
    obtain ⟨f0, f1, f2, f3, f4, f5, f6, f7, f8⟩ := R9.out.fz
    obtain ⟨d0, d1, d2, d3, d4, d5, d6, d7, d8⟩ := R9.out.cells9
    obtain ⟨g0, g1, g2, g3, g4, g5, g6, g7, g8⟩ := R9.out.fzr
    obtain ⟨k0, k1, k2, k3, k4, k5, k6, k7, k8⟩ := R9.out.nineR
    have r10 : Rd w _ (opCells p q 1 n ⟨(unqT vl).toArray⟩ (.slice none 0 0) 0 0 false) (.slice none 0 0) [] := R9.out.put 4 (.string ⟨(unqT vl).toArray⟩)
    have R10 := Lib.hid r10
    clear r10
    go_wp2_with fail
    try simp only [Exit.inBlock, Exit.then]
    refine bodyPost_ret (v := .agg (opCells p q 1 n ⟨(unqT vl).toArray⟩ (.slice none 0 0) 0 0 false)) ?hr ?hd ?hb
    case hd => rfl
    case hr => exact results_cell_row rfl _ _ w.heap.size 47 _ (0, 0) _ rfl (fin_box rfl R10.out.b2 _ _ _ _ _ _ _ _ _) Tryz.underlying47 rfl (by kernel_rfl)
    case hb => rw [HL.out]; exact rd_end ⟨p, q, 1, n, unqT vl, [], 0, 0, false⟩ R10.out
  -- ARMS
  by_cases hhide : W.data.toList = [104, 105, 100, 101]
  · have hl1 : W = ⟨#[104, 105, 100, 101]⟩ := lit_str _ _ hhide
    have HL : Hid (L = ⟨p, q, 2, 0, [], (Lib.split R.data.toList [44]).map (pairL · [45]), 0, 0, false⟩) := Lib.hid (by rw [HRL.out, if_neg h1, if_pos hhide])
    subst hl1
    clear HRL
    have r5 : Rd w _ (opCells p q 2 0 ⟨#[]⟩ (.slice none 0 0) 0 0 false) (.slice none 0 0) [] := (R4.out.put 2 (.int .i64 2))
    have R5 := Lib.hid r5
    clear r5
    obtain ⟨ps, hps⟩ : ∃ ps, Lib.splitB ⟨#[44]⟩ 0 (Lib.countB R ⟨#[44]⟩) R = ps := ⟨_, rfl⟩
    have hpl := Lib.splitB_all ⟨#[44]⟩ (by decide) 0 _ R rfl
    have hcl := Lib.countB_le ⟨#[44]⟩ (by decide) R.size R (Nat.le_refl _)
    rw [hps] at hpl
    have hpz : ∀ x ∈ ps, x.size ≤ 1048576 := fun x hx => by rw [← hps] at hx; exact Nat.le_trans (piece_size _ _ _ x hx) hRs
    have hpd : Lib.split R.data.toList [44] = ps.map (·.data.toList) := by rw [← hps, Lib.splitB_data]; rfl
    rw [hpd, List.map_map] at HL
    have C5 := Lib.hid (fun (W : World) m hm => Tryz.strings_Split R ⟨#[44]⟩ m W (by omega) hm (by decide))
    rw [hps] at C5
    rw [← hpl] at C5
    have HPZ := Lib.hid hpz
    have HPN := Lib.hid (show ps.length ≤ 1048577 by omega)
    obtain ⟨N, hN⟩ : ∃ N, ps.length = N := ⟨_, rfl⟩
    rw [hN] at C5 HPN
    have HN := Lib.hid hN
    clear hps hpl hcl hpz hpd hN
    go_wp2_with fail
    generalize ((w3.setCell ⟨w.heap.size + 1, 0, none⟩ (.int .i64 p)).setCell ⟨w.heap.size + 1, 1, none⟩ (.int .i64 q)).setCell ⟨w.heap.size + 1, 2, none⟩ (.int .i64 2) = w5 at R5 ⊢
    clear d0 d1 d2 d3 d4 d5 d6 d7 d8 f0 f1 f2 f3 f4 f5 f6 f7 f8 R4
    obtain ⟨mm, hmm⟩ := (HE.out.below R5.out.below).ml
    refine (C5.out _ mm hmm).mono ?_
    rintro e w6 ⟨rfl, rfl⟩
    clear hmm
    have R6 := Lib.hid (R5.out.step (below_alloc1 w5 (.cells (ps.map Value.string).toArray 9)))
    have hblk : (w5.alloc (.cells (ps.map Value.string).toArray 9)).heap[w5.heap.size]? = some (.cells (ps.map Value.string).toArray 9 (0, 0)) := heap_alloc_new w5 _
    have hwb : w.heap.size + 2 ≤ w5.heap.size := R5.out.lt
    generalize w5.alloc (.cells (ps.map Value.string).toArray 9) = w6 at R6 hblk ⊢
    generalize w5.heap.size = wb at hblk hwb ⊢
    have HBLK := Lib.hid hblk
    have HWB := Lib.hid hwb
    obtain ⟨i0, hi0, hz0, hz1, hz2⟩ := info_parts infoRange
    have HI := Lib.hid (And.intro hi0 (And.intro hz0 (And.intro hz1 hz2)))
    clear hblk hwb hi0 hz0 hz1 hz2 R5 C5
    go_wp2_with fail
    go_loopw [68] (fun i wr => ∃ (j : Nat) (v : Value), i = .int .i64 j ∧ j ≤ N ∧ Rd w wr (opCells p q 2 0 ⟨#[]⟩ v 0 0 false) v ((ps.take j).map fun b => pairL b.data.toList [45]) ∧ wr.heap[wb]? = some (.cells (ps.map Value.string).toArray 9 (0, 0)) ∧ wr.ownsRow (wb + 1) 102 2 v j (rsCells ((ps.take j).map fun b => pairL b.data.toList [45]))) (fun i _ => N - (intOf i).toNat)
    case atStart => exact ⟨0, .slice none 0 0, rfl, Nat.zero_le _, by rw [List.take_zero]; exact R6.out, HBLK.out, by rw [List.take_zero]; exact ⟨rfl, .inl ⟨rfl, rfl⟩⟩⟩
    case round =>
      obtain ⟨j, v, rfl, hj, hR, hblk, hown⟩ := hrel
      have RR := Lib.hid hR
      have HB := Lib.hid hblk
      have HO := Lib.hid hown
      clear hR hown
      by_cases hlt : j < N
      · have hjl : j < ps.length := by rw [HN.out]; exact hlt
        obtain ⟨x, hx⟩ : ∃ x, ps[j] = x := ⟨_, rfl⟩
        have hxs : x.size ≤ 1048576 := HPZ.out x (by rw [← hx]; exact List.getElem_mem hjl)
        have c0 : wr.cell? ⟨wb, j, none⟩ = some (.string x) := by
          rw [Lib.cell_of_heap hblk]
          simp [List.getElem?_eq_getElem hjl, hx]
        have HX := Lib.hid hx
        have CP := Lib.hid (fun W hW => pair_any x ⟨#[45]⟩ W hxs hW)
        rw [show (⟨#[45]⟩ : ByteArray).data.toList = [45] from rfl] at CP
        obtain ⟨lo, hlo⟩ : ∃ lo, (pairL x.data.toList [45]).1 = lo := ⟨_, rfl⟩
        obtain ⟨hi, hhi⟩ : ∃ hi, (pairL x.data.toList [45]).2 = hi := ⟨_, rfl⟩
        rw [hlo, hhi] at CP
        have HPR := Lib.hid (show pairL x.data.toList [45] = (lo, hi) from Prod.ext hlo hhi)
        clear hx hlo hhi hxs hblk
        have hjb : (j : Int) ≤ 1048577 := by have := HPN.out; omega
        go_wp2_with fail
        refine (CP.out _ (HE.out.below RR.out.below)).mono ?_
        rintro e w7 ⟨rfl, hb7⟩
        have R7 := Lib.hid (RR.out.step hb7)
        have HO7 := Lib.hid (own_below HO.out hb7)
        have HB7 := Lib.hid ((hb7.block _ (Array.getElem?_eq_some_iff.1 HB.out).1).trans HB.out)
        have HLT7 := Lib.hid (Array.getElem?_eq_some_iff.1 HB7.out).1
        clear hb7 c0
        have d5 : w7.cell? ⟨w.heap.size + 1, 5, none⟩ = some v := R7.out.cells9.2.2.2.2.2.1
        clear CP
        go_wp2_with (at_builtin; refine wpList_append_lies _ rfl (.tmp 78) (.tmp 82) 45 rfl (wb + 1) 102 i0 (.agg #[.int .i64 0, .int .i64 0]) 2 16 Tryz.underlying45 HI.out.1 HI.out.2.1 HI.out.2.2.1 HI.out.2.2.2 rfl (by decide) v j (rsCells ((ps.take j).map fun b => pairL b.data.toList [45])) rfl (own_below HO7.out (below_alloc1 _ _)) _ 1 1 [.int .i64 lo, .int .i64 hi] rfl rfl (fun j u hj => news_alloc _ _ _ j u hj) (by simp [Value.oneCell']) (by decide) (by have := HPN.out; unfold maxLen; omega) (by have := HPN.out; omega) (by have h3 := HLT7.out; simp; omega) _ rfl ?_; intro g cap w9 hown hgrow hat hgl; have hlen : ((ps.take j).map fun b => pairL b.data.toList [45]).length = j := (by rw [List.length_map, List.length_take]; have := HN.out; omega); have HO9 := Lib.hid hown; have R9 := Lib.hid (R7.out.push (a := lo) (b := hi) (g := g) (cap := cap) (by rw [hlen]; exact own_weak hown (by have := HWB.out; omega)) hgrow); have HB9 := Lib.hid (blk_keep HB7.out HO7.out hgrow); rw [hlen] at R9; clear hown hgrow hat hgl hlen; obtain ⟨f0, f1, f2, f3, f4, f5, f6, f7, f8⟩ := R9.out.fz; obtain ⟨e0, e1, e2, e3, e4, e5, e6, e7, e8⟩ := R9.out.cells9; have R10 := Lib.hid (R9.out.put 5 (.slice (some ⟨g, 0, none⟩) (j + 1) cap)))
        have hsn : (ps.take j).map (fun b => pairL b.data.toList [45]) ++ [(lo, hi)] = (ps.take (j + 1)).map fun b => pairL b.data.toList [45] := by
          rw [List.take_succ_eq_append_getElem hjl, List.map_append, HX.out, List.map_cons, List.map_nil, HPR.out]
        have HSN := Lib.hid hsn
        clear hsn
        go_roundw
        case rel =>
          refine ⟨j + 1, .slice (some ⟨g, 0, none⟩) (j + 1) cap, by go_num, by omega, ?_, ?_, ?_⟩
          · rw [← HSN.out]; exact R10.out
          · exact blk_put HB9.out (by have := HWB.out; omega)
          · rw [← HSN.out, rsCells_snoc]; exact own_other HO9.out (by have := HWB.out; omega)
        case measure => simp [intOf]; omega
      · obtain rfl : j = N := by omega
        have RE := RR.out
        rw [← HN.out, List.take_length] at RE
        have R8 := Lib.hid RE
        clear RE RR
        obtain ⟨A8, n8, c8, rfl⟩ : ∃ A n c, v = .slice A n c := by obtain ⟨A, c, h, _⟩ := R8.out.ranges; exact ⟨A, _, c, h⟩
        obtain ⟨f0, f1, f2, f3, f4, f5, f6, f7, f8⟩ := R8.out.fz
        obtain ⟨d0, d1, d2, d3, d4, d5, d6, d7, d8⟩ := R8.out.cells9
        obtain ⟨g0, g1, g2, g3, g4, g5, g6, g7, g8⟩ := R8.out.fzr
        obtain ⟨k0, k1, k2, k3, k4, k5, k6, k7, k8⟩ := R8.out.nineR
        go_wp2_with fail
        try simp only [Exit.inBlock, Exit.then]
        refine bodyPost_ret (v := .agg (opCells p q 2 0 ⟨#[]⟩ (.slice A8 n8 c8) 0 0 false)) ?hr1 ?hd1 ?hb1
        case hd1 => rfl
        case hr1 => exact results_cell_row rfl _ _ w.heap.size 47 _ (0, 0) _ rfl (fin_box rfl R8.out.b2 _ _ _ _ _ _ _ _ _) Tryz.underlying47 rfl (by kernel_rfl)
        case hb1 => rw [HL.out]; exact rd_end ⟨p, q, 2, 0, [], ps.map fun b => pairL b.data.toList [45], 0, 0, false⟩ R8.out
  by_cases hshow : W.data.toList = [115, 104, 111, 119]
  · have hl1 : W = ⟨#[115, 104, 111, 119]⟩ := lit_str _ _ hshow
    have HL : Hid (L = ⟨p, q, 3, 0, [], (Lib.split R.data.toList [44]).map (pairL · [45]), 0, 0, false⟩) := Lib.hid (by rw [HRL.out, if_neg h1, if_neg hhide, if_pos hshow])
    subst hl1
    clear HRL
    have r5 : Rd w _ (opCells p q 3 0 ⟨#[]⟩ (.slice none 0 0) 0 0 false) (.slice none 0 0) [] := ((R4.out.put 2 (.int .i64 2)).put 2 (.int .i64 3))
    have R5 := Lib.hid r5
    clear r5
    obtain ⟨ps, hps⟩ : ∃ ps, Lib.splitB ⟨#[44]⟩ 0 (Lib.countB R ⟨#[44]⟩) R = ps := ⟨_, rfl⟩
    have hpl := Lib.splitB_all ⟨#[44]⟩ (by decide) 0 _ R rfl
    have hcl := Lib.countB_le ⟨#[44]⟩ (by decide) R.size R (Nat.le_refl _)
    rw [hps] at hpl
    have hpz : ∀ x ∈ ps, x.size ≤ 1048576 := fun x hx => by rw [← hps] at hx; exact Nat.le_trans (piece_size _ _ _ x hx) hRs
    have hpd : Lib.split R.data.toList [44] = ps.map (·.data.toList) := by rw [← hps, Lib.splitB_data]; rfl
    rw [hpd, List.map_map] at HL
    have C5 := Lib.hid (fun (W : World) m hm => Tryz.strings_Split R ⟨#[44]⟩ m W (by omega) hm (by decide))
    rw [hps] at C5
    rw [← hpl] at C5
    have HPZ := Lib.hid hpz
    have HPN := Lib.hid (show ps.length ≤ 1048577 by omega)
    obtain ⟨N, hN⟩ : ∃ N, ps.length = N := ⟨_, rfl⟩
    rw [hN] at C5 HPN
    have HN := Lib.hid hN
    clear hps hpl hcl hpz hpd hN
    go_wp2_with fail
    generalize (((w3.setCell ⟨w.heap.size + 1, 0, none⟩ (.int .i64 p)).setCell ⟨w.heap.size + 1, 1, none⟩ (.int .i64 q)).setCell ⟨w.heap.size + 1, 2, none⟩ (.int .i64 2)).setCell ⟨w.heap.size + 1, 2, none⟩ (.int .i64 3) = w5 at R5 ⊢
    clear d0 d1 d2 d3 d4 d5 d6 d7 d8 f0 f1 f2 f3 f4 f5 f6 f7 f8 R4
    obtain ⟨mm, hmm⟩ := (HE.out.below R5.out.below).ml
    refine (C5.out _ mm hmm).mono ?_
    rintro e w6 ⟨rfl, rfl⟩
    clear hmm
    have R6 := Lib.hid (R5.out.step (below_alloc1 w5 (.cells (ps.map Value.string).toArray 9)))
    have hblk : (w5.alloc (.cells (ps.map Value.string).toArray 9)).heap[w5.heap.size]? = some (.cells (ps.map Value.string).toArray 9 (0, 0)) := heap_alloc_new w5 _
    have hwb : w.heap.size + 2 ≤ w5.heap.size := R5.out.lt
    generalize w5.alloc (.cells (ps.map Value.string).toArray 9) = w6 at R6 hblk ⊢
    generalize w5.heap.size = wb at hblk hwb ⊢
    have HBLK := Lib.hid hblk
    have HWB := Lib.hid hwb
    obtain ⟨i0, hi0, hz0, hz1, hz2⟩ := info_parts infoRange
    have HI := Lib.hid (And.intro hi0 (And.intro hz0 (And.intro hz1 hz2)))
    clear hblk hwb hi0 hz0 hz1 hz2 R5 C5
    go_wp2_with fail
    go_loopw [68] (fun i wr => ∃ (j : Nat) (v : Value), i = .int .i64 j ∧ j ≤ N ∧ Rd w wr (opCells p q 3 0 ⟨#[]⟩ v 0 0 false) v ((ps.take j).map fun b => pairL b.data.toList [45]) ∧ wr.heap[wb]? = some (.cells (ps.map Value.string).toArray 9 (0, 0)) ∧ wr.ownsRow (wb + 1) 102 2 v j (rsCells ((ps.take j).map fun b => pairL b.data.toList [45]))) (fun i _ => N - (intOf i).toNat)
    case atStart => exact ⟨0, .slice none 0 0, rfl, Nat.zero_le _, by rw [List.take_zero]; exact R6.out, HBLK.out, by rw [List.take_zero]; exact ⟨rfl, .inl ⟨rfl, rfl⟩⟩⟩
    case round =>
      obtain ⟨j, v, rfl, hj, hR, hblk, hown⟩ := hrel
      have RR := Lib.hid hR
      have HB := Lib.hid hblk
      have HO := Lib.hid hown
      clear hR hown
      by_cases hlt : j < N
      · have hjl : j < ps.length := by rw [HN.out]; exact hlt
        obtain ⟨x, hx⟩ : ∃ x, ps[j] = x := ⟨_, rfl⟩
        have hxs : x.size ≤ 1048576 := HPZ.out x (by rw [← hx]; exact List.getElem_mem hjl)
        have c0 : wr.cell? ⟨wb, j, none⟩ = some (.string x) := by
          rw [Lib.cell_of_heap hblk]
          simp [List.getElem?_eq_getElem hjl, hx]
        have HX := Lib.hid hx
        have CP := Lib.hid (fun W hW => pair_any x ⟨#[45]⟩ W hxs hW)
        rw [show (⟨#[45]⟩ : ByteArray).data.toList = [45] from rfl] at CP
        obtain ⟨lo, hlo⟩ : ∃ lo, (pairL x.data.toList [45]).1 = lo := ⟨_, rfl⟩
        obtain ⟨hi, hhi⟩ : ∃ hi, (pairL x.data.toList [45]).2 = hi := ⟨_, rfl⟩
        rw [hlo, hhi] at CP
        have HPR := Lib.hid (show pairL x.data.toList [45] = (lo, hi) from Prod.ext hlo hhi)
        clear hx hlo hhi hxs hblk
        have hjb : (j : Int) ≤ 1048577 := by have := HPN.out; omega
        go_wp2_with fail
        refine (CP.out _ (HE.out.below RR.out.below)).mono ?_
        rintro e w7 ⟨rfl, hb7⟩
        have R7 := Lib.hid (RR.out.step hb7)
        have HO7 := Lib.hid (own_below HO.out hb7)
        have HB7 := Lib.hid ((hb7.block _ (Array.getElem?_eq_some_iff.1 HB.out).1).trans HB.out)
        have HLT7 := Lib.hid (Array.getElem?_eq_some_iff.1 HB7.out).1
        clear hb7 c0
        have d5 : w7.cell? ⟨w.heap.size + 1, 5, none⟩ = some v := R7.out.cells9.2.2.2.2.2.1
        clear CP
        go_wp2_with (at_builtin; refine wpList_append_lies _ rfl (.tmp 78) (.tmp 82) 45 rfl (wb + 1) 102 i0 (.agg #[.int .i64 0, .int .i64 0]) 2 16 Tryz.underlying45 HI.out.1 HI.out.2.1 HI.out.2.2.1 HI.out.2.2.2 rfl (by decide) v j (rsCells ((ps.take j).map fun b => pairL b.data.toList [45])) rfl (own_below HO7.out (below_alloc1 _ _)) _ 1 1 [.int .i64 lo, .int .i64 hi] rfl rfl (fun j u hj => news_alloc _ _ _ j u hj) (by simp [Value.oneCell']) (by decide) (by have := HPN.out; unfold maxLen; omega) (by have := HPN.out; omega) (by have h3 := HLT7.out; simp; omega) _ rfl ?_; intro g cap w9 hown hgrow hat hgl; have hlen : ((ps.take j).map fun b => pairL b.data.toList [45]).length = j := (by rw [List.length_map, List.length_take]; have := HN.out; omega); have HO9 := Lib.hid hown; have R9 := Lib.hid (R7.out.push (a := lo) (b := hi) (g := g) (cap := cap) (by rw [hlen]; exact own_weak hown (by have := HWB.out; omega)) hgrow); have HB9 := Lib.hid (blk_keep HB7.out HO7.out hgrow); rw [hlen] at R9; clear hown hgrow hat hgl hlen; obtain ⟨f0, f1, f2, f3, f4, f5, f6, f7, f8⟩ := R9.out.fz; obtain ⟨e0, e1, e2, e3, e4, e5, e6, e7, e8⟩ := R9.out.cells9; have R10 := Lib.hid (R9.out.put 5 (.slice (some ⟨g, 0, none⟩) (j + 1) cap)))
        have hsn : (ps.take j).map (fun b => pairL b.data.toList [45]) ++ [(lo, hi)] = (ps.take (j + 1)).map fun b => pairL b.data.toList [45] := by
          rw [List.take_succ_eq_append_getElem hjl, List.map_append, HX.out, List.map_cons, List.map_nil, HPR.out]
        have HSN := Lib.hid hsn
        clear hsn
        go_roundw
        case rel =>
          refine ⟨j + 1, .slice (some ⟨g, 0, none⟩) (j + 1) cap, by go_num, by omega, ?_, ?_, ?_⟩
          · rw [← HSN.out]; exact R10.out
          · exact blk_put HB9.out (by have := HWB.out; omega)
          · rw [← HSN.out, rsCells_snoc]; exact own_other HO9.out (by have := HWB.out; omega)
        case measure => simp [intOf]; omega
      · obtain rfl : j = N := by omega
        have RE := RR.out
        rw [← HN.out, List.take_length] at RE
        have R8 := Lib.hid RE
        clear RE RR
        obtain ⟨A8, n8, c8, rfl⟩ : ∃ A n c, v = .slice A n c := by obtain ⟨A, c, h, _⟩ := R8.out.ranges; exact ⟨A, _, c, h⟩
        obtain ⟨f0, f1, f2, f3, f4, f5, f6, f7, f8⟩ := R8.out.fz
        obtain ⟨d0, d1, d2, d3, d4, d5, d6, d7, d8⟩ := R8.out.cells9
        obtain ⟨g0, g1, g2, g3, g4, g5, g6, g7, g8⟩ := R8.out.fzr
        obtain ⟨k0, k1, k2, k3, k4, k5, k6, k7, k8⟩ := R8.out.nineR
        go_wp2_with fail
        try simp only [Exit.inBlock, Exit.then]
        refine bodyPost_ret (v := .agg (opCells p q 3 0 ⟨#[]⟩ (.slice A8 n8 c8) 0 0 false)) ?hr2 ?hd2 ?hb2
        case hd2 => rfl
        case hr2 => exact results_cell_row rfl _ _ w.heap.size 47 _ (0, 0) _ rfl (fin_box rfl R8.out.b2 _ _ _ _ _ _ _ _ _) Tryz.underlying47 rfl (by kernel_rfl)
        case hb2 => rw [HL.out]; exact rd_end ⟨p, q, 3, 0, [], ps.map fun b => pairL b.data.toList [45], 0, 0, false⟩ R8.out
  by_cases hon : W.data.toList = [111, 110]
  · have hl1 : W = ⟨#[111, 110]⟩ := lit_str _ _ hon
    have HL : Hid (L = ⟨p, q, 4, 0, [], [], (pairL R.data.toList [46]).1, (pairL R.data.toList [46]).2, true⟩) := Lib.hid (by rw [HRL.out, if_neg h1, if_neg hhide, if_neg hshow, if_pos hon])
    subst hl1
    have C5 := Lib.hid (fun W hW => parseID_any R W hRs hW)
    clear HRL
    obtain ⟨t0, ht0⟩ : ∃ t0, (pairL R.data.toList [46]).1 = t0 := ⟨_, rfl⟩
    obtain ⟨t1, ht1⟩ : ∃ t1, (pairL R.data.toList [46]).2 = t1 := ⟨_, rfl⟩
    rw [ht0, ht1] at C5 HL
    clear ht0 ht1
    have r5 : Rd w _ (opCells p q 4 0 ⟨#[]⟩ (.slice none 0 0) 0 0 false) (.slice none 0 0) [] := R4.out.put 2 (.int .i64 4)
    have R5 := Lib.hid r5
    clear r5
    go_wp2_with fail
    generalize ((w3.setCell ⟨w.heap.size + 1, 0, none⟩ (.int .i64 p)).setCell ⟨w.heap.size + 1, 1, none⟩ (.int .i64 q)).setCell ⟨w.heap.size + 1, 2, none⟩ (.int .i64 4) = w5 at R5 ⊢
    clear d0 d1 d2 d3 d4 d5 d6 d7 d8 f0 f1 f2 f3 f4 f5 f6 f7 f8 R4
    refine (C5.out _ (HE.out.below R5.out.below)).mono ?_
    rintro e w6 ⟨rfl, hb6⟩
    have R6 := Lib.hid (R5.out.step hb6)
    clear hb6
    obtain ⟨f0, f1, f2, f3, f4, f5, f6, f7, f8⟩ := R6.out.fz
    obtain ⟨d0, d1, d2, d3, d4, d5, d6, d7, d8⟩ := R6.out.cells9
    obtain ⟨g0, g1, g2, g3, g4, g5, g6, g7, g8⟩ := R6.out.fzr
    obtain ⟨k0, k1, k2, k3, k4, k5, k6, k7, k8⟩ := R6.out.nineR
    have r7 : Rd w _ (opCells p q 4 0 ⟨#[]⟩ (.slice none 0 0) t0 t1 true) (.slice none 0 0) [] := ((R6.out.put 6 (.int .i64 t0)).put 7 (.int .i64 t1)).put 8 (.bool true)
    have R7 := Lib.hid r7
    clear r7
    go_wp2_with fail
    try simp only [Exit.inBlock, Exit.then]
    refine bodyPost_ret (v := .agg (opCells p q 4 0 ⟨#[]⟩ (.slice none 0 0) t0 t1 true)) ?hr3 ?hd3 ?hb3
    case hd3 => rfl
    case hr3 => exact results_cell_row rfl _ _ w.heap.size 47 _ (0, 0) _ rfl (fin_box rfl R7.out.b2 _ _ _ _ _ _ _ _ _) Tryz.underlying47 rfl (by kernel_rfl)
    case hb3 => rw [HL.out]; exact rd_end ⟨p, q, 4, 0, [], [], t0, t1, true⟩ R7.out
  by_cases hoff : W.data.toList = [111, 102, 102]
  · have hl1 : W = ⟨#[111, 102, 102]⟩ := lit_str _ _ hoff
    have HL : Hid (L = ⟨p, q, 4, 0, [], [], (pairL R.data.toList [46]).1, (pairL R.data.toList [46]).2, false⟩) := Lib.hid (by rw [HRL.out, if_neg h1, if_neg hhide, if_neg hshow, if_neg hon, if_pos hoff])
    subst hl1
    have C5 := Lib.hid (fun W hW => parseID_any R W hRs hW)
    clear HRL
    obtain ⟨t0, ht0⟩ : ∃ t0, (pairL R.data.toList [46]).1 = t0 := ⟨_, rfl⟩
    obtain ⟨t1, ht1⟩ : ∃ t1, (pairL R.data.toList [46]).2 = t1 := ⟨_, rfl⟩
    rw [ht0, ht1] at C5 HL
    clear ht0 ht1
    have r5 : Rd w _ (opCells p q 4 0 ⟨#[]⟩ (.slice none 0 0) 0 0 false) (.slice none 0 0) [] := R4.out.put 2 (.int .i64 4)
    have R5 := Lib.hid r5
    clear r5
    go_wp2_with fail
    generalize ((w3.setCell ⟨w.heap.size + 1, 0, none⟩ (.int .i64 p)).setCell ⟨w.heap.size + 1, 1, none⟩ (.int .i64 q)).setCell ⟨w.heap.size + 1, 2, none⟩ (.int .i64 4) = w5 at R5 ⊢
    clear d0 d1 d2 d3 d4 d5 d6 d7 d8 f0 f1 f2 f3 f4 f5 f6 f7 f8 R4
    refine (C5.out _ (HE.out.below R5.out.below)).mono ?_
    rintro e w6 ⟨rfl, hb6⟩
    have R6 := Lib.hid (R5.out.step hb6)
    clear hb6
    obtain ⟨f0, f1, f2, f3, f4, f5, f6, f7, f8⟩ := R6.out.fz
    obtain ⟨d0, d1, d2, d3, d4, d5, d6, d7, d8⟩ := R6.out.cells9
    obtain ⟨g0, g1, g2, g3, g4, g5, g6, g7, g8⟩ := R6.out.fzr
    obtain ⟨k0, k1, k2, k3, k4, k5, k6, k7, k8⟩ := R6.out.nineR
    have r7 : Rd w _ (opCells p q 4 0 ⟨#[]⟩ (.slice none 0 0) t0 t1 false) (.slice none 0 0) [] := ((R6.out.put 6 (.int .i64 t0)).put 7 (.int .i64 t1)).put 8 (.bool false)
    have R7 := Lib.hid r7
    clear r7
    go_wp2_with fail
    try simp only [Exit.inBlock, Exit.then]
    refine bodyPost_ret (v := .agg (opCells p q 4 0 ⟨#[]⟩ (.slice none 0 0) t0 t1 false)) ?hr4 ?hd4 ?hb4
    case hd4 => rfl
    case hr4 => exact results_cell_row rfl _ _ w.heap.size 47 _ (0, 0) _ rfl (fin_box rfl R7.out.b2 _ _ _ _ _ _ _ _ _) Tryz.underlying47 rfl (by kernel_rfl)
    case hb4 => rw [HL.out]; exact rd_end ⟨p, q, 4, 0, [], [], t0, t1, false⟩ R7.out
  · have HL : Hid (L = ⟨p, q, 0, 0, [], [], 0, 0, false⟩) := Lib.hid (by rw [HRL.out, if_neg h1, if_neg hhide, if_neg hshow, if_neg hon, if_neg hoff])
    clear HRL
    have n1 : (W.toList == [105, 110, 115]) = false := ne_lit h1
    have n2 : (W.toList == [104, 105, 100, 101]) = false := ne_lit hhide
    have n3 : (W.toList == [115, 104, 111, 119]) = false := ne_lit hshow
    have n4 : (W.toList == [111, 110]) = false := ne_lit hon
    have n5 : (W.toList == [111, 102, 102]) = false := ne_lit hoff
    clear h1 hhide hshow hon hoff
    obtain ⟨g0, g1, g2, g3, g4, g5, g6, g7, g8⟩ := R3.out.fzr
    obtain ⟨k0, k1, k2, k3, k4, k5, k6, k7, k8⟩ := R3.out.nineR
    go_wp2_with fail
    try simp only [Exit.inBlock, Exit.then]
    refine bodyPost_ret (v := .agg (opCells p q 0 0 ⟨#[]⟩ (.slice none 0 0) 0 0 false)) ?hr5 ?hd5 ?hb5
    case hd5 => rfl
    case hr5 => exact results_cell_row rfl _ _ w.heap.size 47 _ (0, 0) _ rfl (fin_box rfl R4.out.b2 _ _ _ _ _ _ _ _ _) Tryz.underlying47 rfl (by kernel_rfl)
    case hb5 => rw [HL.out]; exact rd_end ⟨p, q, 0, 0, [], [], 0, 0, false⟩ R4.out
end Go.Proofs.YtkdhomiieenfnaaGreatDoor.O
