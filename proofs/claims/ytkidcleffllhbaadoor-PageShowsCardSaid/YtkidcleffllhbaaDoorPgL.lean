/- sheet.line: the rows of a line. -/
import Derived.Test.YtkidcleffllhbaaDoorPgC
import Derived.Deep.AppendLies
import Derived.Deep.RegionLaw
import Derived.Deep.DeepCutAuto
import Derived.Deep.CutBlock
namespace Go.Proofs.YtkidcleffllhbaaDoor.Pg
open Go.RowKit Go.Proofs Go.Joins
set_option linter.unusedVariables false
set_option linter.unusedSimpArgs false
attribute [local go_sem] frozen?_alloc_cells

theorem lineRows_fuel (w : Int) (rs : List Int) (e : Nat) (hw : 1 ≤ w) (he : e ≤ rs.length) : ∀ (f lo : Nat), e - lo ≤ f → lo ≤ e → (∀ q, lo ≤ q → q < e → rs.getD q 0 ≠ 10) → lineRows w rs e f lo = lineRows w rs e (e - lo) lo
  | 0, lo, hf, hl, hn => by rw [show e - lo = 0 by omega]
  | f + 1, lo, hf, hl, hn => by
    obtain ⟨h1, h2⟩ := rowOf_ok w rs lo e hw hl he hn
    rcases h2 with ⟨hh, _⟩ | ⟨hh, hi, hs⟩
    · have e1 : ∀ f, lineRows w rs e f lo = [rowOf w rs lo e] := fun f => by cases f <;> simp [lineRows, hh]
      rw [e1, e1]
    · have hlt : lo < (rowOf w rs lo e).hi := hs.lt
      obtain ⟨g, hg⟩ : ∃ g, e - lo = g + 1 := ⟨e - lo - 1, by omega⟩
      rw [hg]
      simp only [lineRows, hh]
      rw [lineRows_fuel w rs e hw he f _ (by omega) (by omega) (fun q a c => hn q (by omega) c), lineRows_fuel w rs e hw he g _ (by omega) (by omega) (fun q a c => hn q (by omega) c)]
theorem lineRows_soft (w : Int) (rs : List Int) (e lo : Nat) (hw : 1 ≤ w) (he : e ≤ rs.length) (hl : lo ≤ e) (hn : ∀ q, lo ≤ q → q < e → rs.getD q 0 ≠ 10) (hh : (rowOf w rs lo e).hard = false) :
    lo < (rowOf w rs lo e).hi ∧ (rowOf w rs lo e).hi < e ∧ lineRows w rs e (e - lo) lo = rowOf w rs lo e :: lineRows w rs e (e - (rowOf w rs lo e).hi) (rowOf w rs lo e).hi := by
  obtain ⟨h1, h2⟩ := rowOf_ok w rs lo e hw hl he hn
  rcases h2 with ⟨hh', _⟩ | ⟨_, hi, hs⟩
  · rw [hh] at hh'; cases hh'
  · have hlt : lo < (rowOf w rs lo e).hi := hs.lt
    refine ⟨hlt, hi, ?_⟩
    obtain ⟨g, hg⟩ : ∃ g, e - lo = g + 1 := ⟨e - lo - 1, by omega⟩
    rw [hg]
    simp only [lineRows, hh]
    rw [lineRows_fuel w rs e hw he g _ (by omega) (by omega) (fun q a c => hn q (by omega) c)]
    rfl
theorem lineRows_hard (w : Int) (rs : List Int) (e lo f : Nat) (hh : (rowOf w rs lo e).hard = true) : lineRows w rs e f lo = [rowOf w rs lo e] := by
  cases f <;> simp [lineRows, hh]

/-- How Go writes the last blank. -/
def bOf : Option Nat → Int
  | none => -1
  | some q => q
def rowCells (xs : List Row) : List Value := xs.flatMap fun x => [.int .i64 x.lo, .int .i64 x.hi, .int .i64 x.cols, .bool x.hard]
theorem rowCells_append (a b : List Row) : rowCells (a ++ b) = rowCells a ++ rowCells b := by simp [rowCells]
/-- A sheet of the call's own, and its rows. -/
structure Lay (B : Nat) (w : World) (P : Nat) (S : ByteArray) (A : Option Addr) (c : Nat) (rs : List Int) (W : Int) (v : Value) (xs : List Row) : Prop where
  box : w.heap[P]? = some (.cells #[.string S, .slice A rs.length c, .int .i64 W, v] 101 (0, 0))
  own : w.ownsRow B 61 4 v xs.length (rowCells xs)
  runes : Runes w A rs
  far : 0 < rs.length → ∀ ad, A = some ad → ad.block ≠ P ∧ v.ownBlock ≠ some ad.block
  ge : B ≤ P
  nP : v.ownBlock ≠ some P
theorem Tabs.belowB {B : Nat} {w w' : World} (h : Tabs w) (hb : Below B w w') (hB : 4 ≤ B) : Tabs w' :=
  ⟨by obtain ⟨t, fr, e⟩ := h.none; exact ⟨t, fr, by rw [hb.block _ (by omega)]; exact e⟩, by obtain ⟨t, fr, e⟩ := h.wide; exact ⟨t, fr, by rw [hb.block _ (by omega)]; exact e⟩⟩
section
variable {B : Nat} {w w' : World} {P : Nat} {S : ByteArray} {A : Option Addr} {c : Nat} {rs : List Int} {W : Int} {v : Value} {xs : List Row}
theorem Lay.sheet (h : Lay B w P S A c rs W v xs) : Sheet w P S A c rs W v :=
  ⟨by rw [Lib.cell_of_heap h.box]; rfl, by rw [Lib.cell_of_heap h.box]; rfl, by rw [Lib.cell_of_heap h.box]; rfl, by rw [Lib.cell_of_heap h.box]; rfl⟩
theorem Lay.lt (h : Lay B w P S A c rs W v xs) : P < w.heap.size := (Array.getElem?_eq_some_iff.1 h.box).1
theorem own_below {w w' : World} {B e size n : Nat} {v : Value} {xs : List Value} (h : w.ownsRow B e size v n xs) (hb : Below w.heap.size w w') : w'.ownsRow B e size v n xs := by
  refine ⟨h.1, ?_⟩
  rcases h.2 with hn | ⟨g, cap, cur, hv, hbg, hg, rest⟩
  · exact .inl hn
  · exact .inr ⟨g, cap, cur, hv, hbg, (hb.block g (Array.getElem?_eq_some_iff.1 hg).1).trans hg, rest⟩
theorem Lay.below (h : Lay B w P S A c rs W v xs) (hb : Below w.heap.size w w') : Lay B w' P S A c rs W v xs :=
  ⟨(hb.block _ h.lt).trans h.box, own_below h.own hb, h.runes.below hb, h.far, h.ge, h.nP⟩
theorem Lay.box9 (h : Lay B w P S A c rs W v xs) {o : Obj} {w9 : World} (hg : (w.alloc o).grownBy w9 v.ownBlock) : w9.heap[P]? = some (.cells #[.string S, .slice A rs.length c, .int .i64 W, v] 101 (0, 0)) := by
  have hlt := h.lt
  rw [hg.block P (by simp; omega) (fun e => h.nP e.symm), Lib.alloc_old w _ P hlt]
  exact h.box
theorem addr_block (a : Addr) (n : Nat) : (a.add n).block = a.block := by unfold Addr.add; split <;> rfl
theorem cell_setCell_far {w : World} {b i : Nat} {u : Value} {a : Addr} (h : a.block ≠ b) : (w.setCell ⟨b, i, none⟩ u).cell? a = w.cell? a := by
  have hh : (w.setCell ⟨b, i, none⟩ u).heap[a.block]? = w.heap[a.block]? := by simp [World.setCell, Array.getElem?_modify, Ne.symm h]
  unfold World.cell?
  rw [hh]
theorem Lay.push (h : Lay B w P S A c rs W v xs) (x : Row) {o : Obj} {g cap : Nat} {w9 : World} (hBw : B ≤ w.heap.size)
    (hown : w9.ownsRow B 61 4 (.slice (some ⟨g, 0, none⟩) (xs.length + 1) cap) (xs.length + 1) (rowCells xs ++ [.int .i64 x.lo, .int .i64 x.hi, .int .i64 x.cols, .bool x.hard])) (hg : (w.alloc o).grownBy w9 v.ownBlock) (hat : v.ownBlock = some g ∨ g = (w.alloc o).heap.size) :
    Lay B (w9.setCell ⟨P, 3, none⟩ (.slice (some ⟨g, 0, none⟩) (xs.length + 1) cap)) P S A c rs W (.slice (some ⟨g, 0, none⟩) (xs.length + 1) cap) (xs ++ [x]) ∧ Below B w (w9.setCell ⟨P, 3, none⟩ (.slice (some ⟨g, 0, none⟩) (xs.length + 1) cap)) := by
  have hlt := h.lt
  have hsz : (w.alloc o).heap.size = w.heap.size + 1 := by simp
  have hgP : g ≠ P := by
    rcases hat with e | e
    · intro e2; subst e2; exact h.nP e
    · omega
  have h9 := h.box9 hg
  refine ⟨⟨?_, ?_, ?_, ?_, h.ge, ?_⟩, ?_⟩
  · simp [World.setCell, Array.getElem?_modify, h9]
  · have e1 : (xs ++ [x]).length = xs.length + 1 := by simp
    have e2 : rowCells (xs ++ [x]) = rowCells xs ++ [.int .i64 x.lo, .int .i64 x.hi, .int .i64 x.cols, .bool x.hard] := by simp [rowCells]
    rw [e1, e2]
    refine ⟨hown.1, ?_⟩
    rcases hown.2 with hn | ⟨g', cap', cur, hv, hbg, hgg, rest⟩
    · exact .inl hn
    · refine .inr ⟨g', cap', cur, hv, hbg, ?_, rest⟩
      obtain rfl : g' = g := by simp only [Value.slice.injEq, Option.some.injEq, Addr.mk.injEq, and_true] at hv; exact hv.1.symm
      have : (w9.setCell ⟨P, 3, none⟩ (.slice (some ⟨g', 0, none⟩) (xs.length + 1) cap)).heap[g']? = w9.heap[g']? := by simp [World.setCell, Array.getElem?_modify, Ne.symm hgP]
      rw [this]
      exact hgg
  · intro h0
    obtain ⟨ad, e, hc⟩ := h.runes h0
    obtain ⟨f1, f2⟩ := h.far h0 ad e
    refine ⟨ad, e, fun j hj => ?_⟩
    have hb : (ad.add j).block = ad.block := addr_block ad j
    have hltA := World.block_lt_of_cell? w _ (hc j hj)
    rw [cell_setCell_far (by rw [hb]; exact f1)]
    have hh : w9.heap[(ad.add j).block]? = w.heap[(ad.add j).block]? := by
      rw [hg.block _ (by simp; omega) (fun e2 => f2 (by rw [← hb]; exact e2.symm)), Lib.alloc_old w _ _ hltA]
    have := hc j hj
    unfold World.cell? at this ⊢
    rw [hh]
    exact this
  · intro h0 ad e
    obtain ⟨f1, f2⟩ := h.far h0 ad e
    refine ⟨f1, fun e2 => ?_⟩
    simp only [Value.ownBlock, Option.some.injEq] at e2
    rcases hat with e3 | e3
    · exact f2 (by rw [e3, e2])
    · obtain ⟨ad', e4, hc⟩ := h.runes h0
      obtain rfl : ad = ad' := by rw [e] at e4; exact Option.some.inj e4
      have := World.block_lt_of_cell? w _ (hc 0 h0)
      rw [addr_block] at this
      omega
  · intro e2
    simp only [Value.ownBlock, Option.some.injEq] at e2
    exact hgP e2
  · exact (((Below.refl B w).alloc hBw o).grown hg (by omega) (fun k hk => (h.own.lt k hk).1)).setCell (p := ⟨P, 3, none⟩) h.ge _
theorem news_alloc (w : World) (cs : Array Value) (T : TypeId) (j : Nat) (u : Value) (h : cs.toList[j]? = some u) : (w.alloc (.cells cs T)).cell? ((⟨w.heap.size, 0, none⟩ : Addr).add j) = some u := by
  rw [Addr.add_lit, Nat.zero_add, Lib.cell_of_heap (heap_alloc_new w _)]
  simpa using h
end
end Go.Proofs.YtkidcleffllhbaaDoor.Pg
