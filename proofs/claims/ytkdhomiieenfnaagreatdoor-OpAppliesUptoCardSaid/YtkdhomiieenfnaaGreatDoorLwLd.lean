/- An operation loaded and stored as a whole, folded. -/
import Derived.Test.YtkdhomiieenfnaaGreatDoorLs16
import Derived.Test.YtkdhomiieenfnaaGreatDoorLs2
import Derived.Laws.CopyOwn
import Derived.Laws.OwnMore
import Derived.Laws.Rows
namespace Go.Proofs.YtkdhomiieenfnaaGreatDoor.Lw
open Go.RowKit Go.Proofs Go.Proofs.YtkdhomiieenfnaaGreatDoor.U Go.Proofs.YtkdhomiieenfnaaGreatDoor.Txt
set_option linter.unusedVariables false
set_option linter.unusedSimpArgs false
theorem two_new2 (w : World) (a b : Obj) : ((w.alloc a).alloc b).heap[w.heap.size + 1]? = some b := by
  have := heap_alloc_new (w.alloc a) b
  simpa using this
/-- An operation's nine cells. -/
def opC (i0 i1 kd a : Int) (tx : ByteArray) (v : Value) (t0 t1 : Int) (on : Bool) : Array Value := #[.int .i64 i0, .int .i64 i1, .int .i64 kd, .int .i64 a, .string tx, v, .int .i64 t0, .int .i64 t1, .bool on]
/-- A box of an operation that lies fresh. -/
def Fresh (w : World) (b : Nat) : Prop := ∃ cs : Array Value, w.heap[b]? = some (.cells cs 47 (0, 0)) ∧ cs.size = 9
theorem Fresh.new (w : World) (x0 x1 x2 x3 x4 x5 x6 x7 x8 : Value) : Fresh (w.alloc (.cells #[x0, x1, x2, x3, x4, x5, x6, x7, x8] 47 (0, 0))) w.heap.size := ⟨_, heap_alloc_new w _, rfl⟩
theorem Fresh.old {w : World} {b : Nat} (h : Fresh w b) (o : Obj) : Fresh (w.alloc o) b := by
  obtain ⟨cs, h1, h2⟩ := h
  exact ⟨cs, by rw [Lib.alloc_old _ _ _ (Array.getElem?_eq_some_iff.1 h1).1]; exact h1, h2⟩
theorem Fresh.new2 (w : World) (o : Obj) (x0 x1 x2 x3 x4 x5 x6 x7 x8 : Value) : Fresh ((w.alloc o).alloc (.cells #[x0, x1, x2, x3, x4, x5, x6, x7, x8] 47 (0, 0))) (w.heap.size + 1) := ⟨_, two_new2 w _ _, rfl⟩
theorem Fresh.row {w : World} {b : Nat} (h : Fresh w b) (g : Nat) (cs : Array Value) (hs : cs.size = 9) : Fresh (w.setRow g cs) b := by
  obtain ⟨c0, h1, h2⟩ := h
  by_cases hg : b = g
  · subst hg; exact ⟨cs, setRow_heap w _ _ _ _ _ h1, hs⟩
  · exact ⟨c0, (setRow_other w g b cs hg).trans h1, h2⟩
theorem Fresh.row9 {w : World} {b : Nat} (h : Fresh w b) (g : Nat) (x0 x1 x2 x3 x4 x5 x6 x7 x8 : Value) : Fresh (w.setRow g #[x0, x1, x2, x3, x4, x5, x6, x7, x8]) b := h.row g _ rfl
theorem Fresh.drew {w : World} {b : Nat} (h : Fresh w b) : Fresh w.drew b := h
theorem Fresh.below {w w' : World} {b : Nat} (h : Fresh w b) (hb : Below w.heap.size w w') : Fresh w' b := by
  obtain ⟨cs, h1, h2⟩ := h
  exact ⟨cs, (hb.block _ (Array.getElem?_eq_some_iff.1 h1).1).trans h1, h2⟩
/-- A whole operation stored into such a box. -/
theorem st9 {w : World} {b : Nat} (h : Fresh w b) (i0 i1 kd a : Int) (tx : ByteArray) (A : Option Addr) (n c : Nat) (t0 t1 : Int) (on : Bool) :
    (storeCells ⟨b, 0, none⟩ [.int .i64 i0, .int .i64 i1, .int .i64 kd, .int .i64 a, .string tx, .slice A n c, .int .i64 t0, .int .i64 t1, .bool on]).run Tryz.prog w = .ok () (w.setRow b #[.int .i64 i0, .int .i64 i1, .int .i64 kd, .int .i64 a, .string tx, .slice A n c, .int .i64 t0, .int .i64 t1, .bool on]) := by
  obtain ⟨cs, h1, h2⟩ := h
  have := run_storeCells_at (P := Tryz.prog) b 0 _ [.int .i64 i0, .int .i64 i1, .int .i64 kd, .int .i64 a, .string tx, .slice A n c, .int .i64 t0, .int .i64 t1, .bool on] 0 cs w h1 (by simp [h2]) (by intro v hv; simp at hv; rcases hv with rfl | rfl | rfl | rfl | rfl | rfl | rfl | rfl | rfl <;> rfl)
  rw [this]
  have e1 : cs.toList.drop 9 = [] := List.drop_eq_nil_iff.2 (by simp [h2])
  simp [e1]
theorem info9 : (Tryz.prog.info? 47).map (·.size) = some 9 := by kernel_rfl
theorem st9v {w : World} {b : Nat} (h : Fresh w b) (i0 i1 kd a : Int) (tx : ByteArray) (A : Option Addr) (n c : Nat) (t0 t1 : Int) (on : Bool) :
    (storeVar 47 ⟨b, 0, none⟩ (.agg #[.int .i64 i0, .int .i64 i1, .int .i64 kd, .int .i64 a, .string tx, .slice A n c, .int .i64 t0, .int .i64 t1, .bool on])).run Tryz.prog w = .ok () (w.setRow b #[.int .i64 i0, .int .i64 i1, .int .i64 kd, .int .i64 a, .string tx, .slice A n c, .int .i64 t0, .int .i64 t1, .bool on]) := by
  have h9 := st9 h i0 i1 kd a tx A n c t0 t1 on
  have hi := info9
  cases hq : Tryz.prog.info? 47 with
  | none => simp [hq] at hi
  | some i =>
    have hs : i.size = 9 := by simpa [hq] using hi
    simp [storeVar, sizeOf, typeInfo, hq, Value.cells, hs, h9]
/-- Such a store, folded. -/
def stO (x y : Value) : Sem Unit := Instr.storeAt 47 x y
theorem stO_fold (x y : Value) : Instr.storeAt 47 x y = stO x y := rfl
theorem stO_run {w : World} {b : Nat} (h : Fresh w b) (i0 i1 kd a : Int) (tx : ByteArray) (A : Option Addr) (n c : Nat) (t0 t1 : Int) (on : Bool) :
    (stO (.pointer (some ⟨b, 0, none⟩)) (.agg #[.int .i64 i0, .int .i64 i1, .int .i64 kd, .int .i64 a, .string tx, .slice A n c, .int .i64 t0, .int .i64 t1, .bool on])).run Tryz.prog w = .ok () (w.setRow b #[.int .i64 i0, .int .i64 i1, .int .i64 kd, .int .i64 a, .string tx, .slice A n c, .int .i64 t0, .int .i64 t1, .bool on]) := by
  have h9 := st9v h i0 i1 kd a tx A n c t0 t1 on
  unfold stO Instr.storeAt
  rw [Sem.run_bind]
  have e1 : (Instr.sureAddr (.pointer (some ⟨b, 0, none⟩))).run Tryz.prog w = .ok ⟨b, 0, none⟩ w := rfl
  rw [e1, Result.andThen_ok, h9]
/-- The load of a whole operation, folded. -/
def ldO (x : Value) : Sem Value := Instr.loadAt 47 x
theorem ldO_fold (x : Value) : Instr.loadAt 47 x = ldO x := rfl
theorem ldO_run {w : World} {B : Nat} {i0 i1 kd a : Int} {tx : ByteArray} {v : Value} {t0 t1 : Int} {on : Bool} (h : w.heap[B]? = some (.cells (opC i0 i1 kd a tx v t0 t1 on) 47 (0, 0))) :
    (ldO (.pointer (some ⟨B, 0, none⟩))).run Tryz.prog w = .ok (.agg #[.int .i64 i0, .int .i64 i1, .int .i64 kd, .int .i64 a, .string tx, v, .int .i64 t0, .int .i64 t1, .bool on]) w := by
  have hc := fun i => Lib.cell_of_heap h i
  have c0 := hc 0
  have c1 := hc 1
  have c2 := hc 2
  have c3 := hc 3
  have c4 := hc 4
  have c5 := hc 5
  have c6 := hc 6
  have c7 := hc 7
  have c8 := hc 8
  unfold opC at c0 c1 c2 c3 c4 c5 c6 c7 c8
  simp at c0 c1 c2 c3 c4 c5 c6 c7 c8
  clear hc h
  unfold ldO
  go_simp
end Go.Proofs.YtkdhomiieenfnaaGreatDoor.Lw
