/- EditorNew's parts: the document's room. -/
import Derived.Test.YtiagimmdohpddaaGreatProg
import Derived.WalkKit
import Derived.RowKit3
import Derived.Deep.RegionHeld3
import Derived.Deep.DeepCutAuto
import Derived.IntWalk
import Derived.Lib.SmallJoins
import Derived.Lib.Builder
import Derived.Lib.Hide
import Derived.Laws.MakeOwn
namespace Go.Proofs.YtiagimmdohpddaaGreat.E
open Go.RowKit Go.Proofs Go.Joins
set_option linter.unusedVariables false
set_option linter.unusedSimpArgs false
attribute [local go_sem] frozen?_alloc_cells

def cliZ : Array Value := #[.bool false, .int .i64 0, .slice none 0 0, .int .i64 0, .int .i64 0, .int .i64 0, .slice none 0 0, .slice none 0 0, .bool false, .int .i64 0, .int .i64 0, .slice none 0 0]
theorem infoC : (Tryz.prog.info? 87).map (fun i => (i.zero, i.size, i.bytes)) = some (some (.agg cliZ), 12, 160) := by kernel_rfl
theorem mk_clients (n : Nat) (h2 : n ≤ 8) (h1 : 1 ≤ n) : ∃ Z : Array Value, Z.size = (n + 1) * 12 ∧ (∀ j, j < 12 → Z[12 + j]? = cliZ[j]?) ∧ ∀ w' : World, (Instr.makeSlice 77 (.int .i64 (↑n + 1)) (.int .i64 (↑n + 1))).run Tryz.prog w' = .ok (.slice (some ⟨w'.heap.size, 0, none⟩) (n + 1) (n + 1)) (w'.alloc (.cells Z 87)) := by
  obtain ⟨i0, hi, hz0, hz1, hz2⟩ := info_parts infoC
  refine ⟨madeCells cliZ ((n + 1) * 12), size_madeCells _ _, fun j hj => ?_, fun w' => ?_⟩
  · have hm : j = 0 ∨ j = 1 ∨ j = 2 ∨ j = 3 ∨ j = 4 ∨ j = 5 ∨ j = 6 ∨ j = 7 ∨ j = 8 ∨ j = 9 ∨ j = 10 ∨ j = 11 := by omega
    unfold madeCells
    rw [Array.getElem?_map, Array.getElem?_range, if_pos (by omega)]
    rcases hm with rfl | rfl | rfl | rfl | rfl | rfl | rfl | rfl | rfl | rfl | rfl | rfl <;> rfl
  · have e := run_makeSlice w' 77 87 i0 (.agg cliZ) Tryz.underlying77 hi hz0 .i64 .i64 (↑n + 1) (↑n + 1) (by omega) (Int.le_refl _) (by rw [hz1]; omega) (by rw [hz2]; omega) (by omega)
    rw [e, hz1, show ((n : Int) + 1).toNat = n + 1 by omega]
    rfl
theorem infoBool : (Tryz.prog.info? 4).map (fun i => (i.zero, i.size, i.bytes)) = some (some (.bool false), 1, 1) := by kernel_rfl
theorem infoInt : (Tryz.prog.info? 3).map (fun i => (i.zero, i.size, i.bytes)) = some (some (.int .i64 0), 1, 8) := by kernel_rfl
theorem mk_bools (n : Nat) (h2 : n ≤ 8) : ∃ Z : Array Value, Z.size = n + 1 ∧ ∀ w' : World, (Instr.makeSlice 79 (.int .i64 (↑n + 1)) (.int .i64 (↑n + 1))).run Tryz.prog w' = .ok (.slice (some ⟨w'.heap.size, 0, none⟩) (n + 1) (n + 1)) (w'.alloc (.cells Z 4)) := by
  obtain ⟨i0, hi, hz0, hz1, hz2⟩ := info_parts infoBool
  refine ⟨madeCells #[.bool false] (n + 1), size_madeCells _ _, fun w' => ?_⟩
  have e := run_makeSlice w' 79 4 i0 (.bool false) Tryz.underlying79 hi hz0 .i64 .i64 (↑n + 1) (↑n + 1) (by omega) (Int.le_refl _) (by rw [hz1]; omega) (by rw [hz2]; omega) (by omega)
  rw [e, hz1, show ((n : Int) + 1).toNat = n + 1 by omega, Nat.mul_one]
  rfl
theorem mk_ints (n : Nat) (h2 : n ≤ 8) : ∃ Z : Array Value, Z.size = n + 1 ∧ ∀ w' : World, (Instr.makeSlice 74 (.int .i64 (↑n + 1)) (.int .i64 (↑n + 1))).run Tryz.prog w' = .ok (.slice (some ⟨w'.heap.size, 0, none⟩) (n + 1) (n + 1)) (w'.alloc (.cells Z 3)) := by
  obtain ⟨i0, hi, hz0, hz1, hz2⟩ := info_parts infoInt
  refine ⟨madeCells #[.int .i64 0] (n + 1), size_madeCells _ _, fun w' => ?_⟩
  have e := run_makeSlice w' 74 3 i0 (.int .i64 0) Tryz.underlying74 hi hz0 .i64 .i64 (↑n + 1) (↑n + 1) (by omega) (Int.le_refl _) (by rw [hz1]; omega) (by rw [hz2]; omega) (by omega)
  rw [e, hz1, show ((n : Int) + 1).toNat = n + 1 by omega, Nat.mul_one]
  rfl

theorem set12 {w1 : World} {q T : Nat} {a0 a1 a2 a3 a4 d0 d1 d2 d3 x0 x1 x2 x3 x4 x5 x6 x7 x8 x9 x10 x11 : Value} (hq : w1.heap[q]? = some (.cells #[a0, a1, a2, a3, a4, x0, x1, x2, x3, x4, x5, x6, x7, x8, x9, x10, x11, d0, d1, d2, d3] T (0, 0))) (y0 y1 y2 y3 y4 y5 y6 y7 y8 y9 y10 y11 : Value) :
    ((((((((((((w1.setCell ⟨q, 5, none⟩ y0).setCell ⟨q, 6, none⟩ y1).setCell ⟨q, 7, none⟩ y2).setCell ⟨q, 8, none⟩ y3).setCell ⟨q, 9, none⟩ y4).setCell ⟨q, 10, none⟩ y5).setCell ⟨q, 11, none⟩ y6).setCell ⟨q, 12, none⟩ y7).setCell ⟨q, 13, none⟩ y8).setCell ⟨q, 14, none⟩ y9).setCell ⟨q, 15, none⟩ y10).setCell ⟨q, 16, none⟩ y11).heap[q]? = some (.cells #[a0, a1, a2, a3, a4, y0, y1, y2, y3, y4, y5, y6, y7, y8, y9, y10, y11, d0, d1, d2, d3] T (0, 0)) := by
  simp [World.setCell, Array.getElem?_modify, hq]
theorem oth12 {w1 : World} {q h : Nat} (hn : h ≠ q) (y0 y1 y2 y3 y4 y5 y6 y7 y8 y9 y10 y11 : Value) : ((((((((((((w1.setCell ⟨q, 5, none⟩ y0).setCell ⟨q, 6, none⟩ y1).setCell ⟨q, 7, none⟩ y2).setCell ⟨q, 8, none⟩ y3).setCell ⟨q, 9, none⟩ y4).setCell ⟨q, 10, none⟩ y5).setCell ⟨q, 11, none⟩ y6).setCell ⟨q, 12, none⟩ y7).setCell ⟨q, 13, none⟩ y8).setCell ⟨q, 14, none⟩ y9).setCell ⟨q, 15, none⟩ y10).setCell ⟨q, 16, none⟩ y11).heap[h]? = w1.heap[h]? := by
  simp [World.setCell, Array.getElem?_modify, hn, Ne.symm hn]
theorem bel12 {w w1 : World} {q : Nat} (hb : Below q w w1) (y0 y1 y2 y3 y4 y5 y6 y7 y8 y9 y10 y11 : Value) : Below q w ((((((((((((w1.setCell ⟨q, 5, none⟩ y0).setCell ⟨q, 6, none⟩ y1).setCell ⟨q, 7, none⟩ y2).setCell ⟨q, 8, none⟩ y3).setCell ⟨q, 9, none⟩ y4).setCell ⟨q, 10, none⟩ y5).setCell ⟨q, 11, none⟩ y6).setCell ⟨q, 12, none⟩ y7).setCell ⟨q, 13, none⟩ y8).setCell ⟨q, 14, none⟩ y9).setCell ⟨q, 15, none⟩ y10).setCell ⟨q, 16, none⟩ y11) :=
  ((((((((((((hb.setCell (p := ⟨q, 5, none⟩) (Nat.le_refl q) y0).setCell (p := ⟨q, 6, none⟩) (Nat.le_refl q) y1).setCell (p := ⟨q, 7, none⟩) (Nat.le_refl q) y2).setCell (p := ⟨q, 8, none⟩) (Nat.le_refl q) y3).setCell (p := ⟨q, 9, none⟩) (Nat.le_refl q) y4).setCell (p := ⟨q, 10, none⟩) (Nat.le_refl q) y5).setCell (p := ⟨q, 11, none⟩) (Nat.le_refl q) y6).setCell (p := ⟨q, 12, none⟩) (Nat.le_refl q) y7).setCell (p := ⟨q, 13, none⟩) (Nat.le_refl q) y8).setCell (p := ⟨q, 14, none⟩) (Nat.le_refl q) y9).setCell (p := ⟨q, 15, none⟩) (Nat.le_refl q) y10).setCell (p := ⟨q, 16, none⟩) (Nat.le_refl q) y11)
/-- The room behind New, its server with these lists. -/
def room (n k o : Int) (cl K H G : Value) : Array Value := #[.int .i64 n, .int .i64 k, .int .i64 o, .slice none 0 0, cl, .bool true, .slice none 0 0, .slice none 0 0, .int .i64 0, .slice none 0 0, .int .i64 0, .bool false, K, H, G, .int .i64 0, .int .i64 0, .slice none 0 0, .slice none 0 0, .slice none 0 0, .int .i64 0]
theorem four_below (w : World) (o1 o2 o3 o4 : Obj) : Below w.heap.size w ((((w.alloc o1).alloc o2).alloc o3).alloc o4) := ((((Below.refl w.heap.size w).alloc (Nat.le_refl _) o1).alloc (by simp) o2).alloc (by simp; omega) o3).alloc (by simp; omega) o4
theorem four1 (w : World) (o1 o2 o3 o4 : Obj) : ((((w.alloc o1).alloc o2).alloc o3).alloc o4).heap[w.heap.size + 1]? = some o2 := by
  rw [Lib.alloc_old _ _ _ (by simp), Lib.alloc_old _ _ _ (by simp)]
  have := heap_alloc_new (w.alloc o1) o2
  simpa using this
theorem four2 (w : World) (o1 o2 o3 o4 : Obj) : ((((w.alloc o1).alloc o2).alloc o3).alloc o4).heap[w.heap.size + 1 + 1]? = some o3 := by
  rw [Lib.alloc_old _ _ _ (by simp)]
  have := heap_alloc_new ((w.alloc o1).alloc o2) o3
  simpa using this
theorem four3 (w : World) (o1 o2 o3 o4 : Obj) : ((((w.alloc o1).alloc o2).alloc o3).alloc o4).heap[w.heap.size + 1 + 1 + 1]? = some o4 := by
  have := heap_alloc_new (((w.alloc o1).alloc o2).alloc o3) o4
  simpa using this
theorem server_world {w : World} {q n : Nat} {k o : Int} {cl : Value} {o1 o2 o3 o4 : Obj} {cs : Array Value} (hq : w.heap[q]? = some (.cells #[.int .i64 n, .int .i64 k, .int .i64 o, .slice none 0 0, cl, .bool false, .slice none 0 0, .slice none 0 0, .int .i64 0, .slice none 0 0, .int .i64 0, .bool false, .slice none 0 0, .slice none 0 0, .slice none 0 0, .int .i64 0, .int .i64 0, .slice none 0 0, .slice none 0 0, .slice none 0 0, .int .i64 0] 84 (0, 0))) (hlt : q < w.heap.size) (hcs : cs.size = n + 1)
    (K G : Value) (hb : Nat) (hge : w.heap.size < hb) (hh : ((((w.alloc o1).alloc o2).alloc o3).alloc o4).heap[hb]? = some (.cells cs 3 (0, 0))) :
    ∃ K' H' G' hb' cs', H' = .slice (some ⟨hb', 0, none⟩) (n + 1) (n + 1) ∧ ((((((((((((((((w.alloc o1).alloc o2).alloc o3).alloc o4).setCell ⟨q, 5, none⟩ (.bool true)).setCell ⟨q, 6, none⟩ (.slice none 0 0)).setCell ⟨q, 7, none⟩ (.slice none 0 0)).setCell ⟨q, 8, none⟩ (.int .i64 0)).setCell ⟨q, 9, none⟩ (.slice none 0 0)).setCell ⟨q, 10, none⟩ (.int .i64 0)).setCell ⟨q, 11, none⟩ (.bool false)).setCell ⟨q, 12, none⟩ K).setCell ⟨q, 13, none⟩ (.slice (some ⟨hb, 0, none⟩) (n + 1) (n + 1))).setCell ⟨q, 14, none⟩ G).setCell ⟨q, 15, none⟩ (.int .i64 0)).setCell ⟨q, 16, none⟩ (.int .i64 0)).drew.heap[q]? = some (.cells (room n k o cl K' H' G') 84 (0, 0)) ∧ ((((((((((((((((w.alloc o1).alloc o2).alloc o3).alloc o4).setCell ⟨q, 5, none⟩ (.bool true)).setCell ⟨q, 6, none⟩ (.slice none 0 0)).setCell ⟨q, 7, none⟩ (.slice none 0 0)).setCell ⟨q, 8, none⟩ (.int .i64 0)).setCell ⟨q, 9, none⟩ (.slice none 0 0)).setCell ⟨q, 10, none⟩ (.int .i64 0)).setCell ⟨q, 11, none⟩ (.bool false)).setCell ⟨q, 12, none⟩ K).setCell ⟨q, 13, none⟩ (.slice (some ⟨hb, 0, none⟩) (n + 1) (n + 1))).setCell ⟨q, 14, none⟩ G).setCell ⟨q, 15, none⟩ (.int .i64 0)).setCell ⟨q, 16, none⟩ (.int .i64 0)).drew.heap[hb']? = some (.cells cs' 3 (0, 0)) ∧ cs'.size = n + 1 ∧ hb' ≠ q ∧ q ≤ hb' ∧ Below q w ((((((((((((((((w.alloc o1).alloc o2).alloc o3).alloc o4).setCell ⟨q, 5, none⟩ (.bool true)).setCell ⟨q, 6, none⟩ (.slice none 0 0)).setCell ⟨q, 7, none⟩ (.slice none 0 0)).setCell ⟨q, 8, none⟩ (.int .i64 0)).setCell ⟨q, 9, none⟩ (.slice none 0 0)).setCell ⟨q, 10, none⟩ (.int .i64 0)).setCell ⟨q, 11, none⟩ (.bool false)).setCell ⟨q, 12, none⟩ K).setCell ⟨q, 13, none⟩ (.slice (some ⟨hb, 0, none⟩) (n + 1) (n + 1))).setCell ⟨q, 14, none⟩ G).setCell ⟨q, 15, none⟩ (.int .i64 0)).setCell ⟨q, 16, none⟩ (.int .i64 0)).drew := by
  have g1 := ((four_below w o1 o2 o3 o4).block q hlt).trans hq
  have g2 := four_below w o1 o2 o3 o4
  generalize ((((w.alloc o1).alloc o2).alloc o3).alloc o4) = w1 at g1 g2 hh ⊢
  have k1 : ((((((((((((w1.setCell ⟨q, 5, none⟩ (.bool true)).setCell ⟨q, 6, none⟩ (.slice none 0 0)).setCell ⟨q, 7, none⟩ (.slice none 0 0)).setCell ⟨q, 8, none⟩ (.int .i64 0)).setCell ⟨q, 9, none⟩ (.slice none 0 0)).setCell ⟨q, 10, none⟩ (.int .i64 0)).setCell ⟨q, 11, none⟩ (.bool false)).setCell ⟨q, 12, none⟩ K).setCell ⟨q, 13, none⟩ (.slice (some ⟨hb, 0, none⟩) (n + 1) (n + 1))).setCell ⟨q, 14, none⟩ G).setCell ⟨q, 15, none⟩ (.int .i64 0)).setCell ⟨q, 16, none⟩ (.int .i64 0)).heap[q]? = some (.cells (room n k o cl K (.slice (some ⟨hb, 0, none⟩) (n + 1) (n + 1)) G) 84 (0, 0)) := set12 g1 (.bool true) (.slice none 0 0) (.slice none 0 0) (.int .i64 0) (.slice none 0 0) (.int .i64 0) (.bool false) K (.slice (some ⟨hb, 0, none⟩) (n + 1) (n + 1)) G (.int .i64 0) (.int .i64 0)
  have k2 : ((((((((((((w1.setCell ⟨q, 5, none⟩ (.bool true)).setCell ⟨q, 6, none⟩ (.slice none 0 0)).setCell ⟨q, 7, none⟩ (.slice none 0 0)).setCell ⟨q, 8, none⟩ (.int .i64 0)).setCell ⟨q, 9, none⟩ (.slice none 0 0)).setCell ⟨q, 10, none⟩ (.int .i64 0)).setCell ⟨q, 11, none⟩ (.bool false)).setCell ⟨q, 12, none⟩ K).setCell ⟨q, 13, none⟩ (.slice (some ⟨hb, 0, none⟩) (n + 1) (n + 1))).setCell ⟨q, 14, none⟩ G).setCell ⟨q, 15, none⟩ (.int .i64 0)).setCell ⟨q, 16, none⟩ (.int .i64 0)).heap[hb]? = some (.cells cs 3 (0, 0)) := (oth12 (by omega) (.bool true) (.slice none 0 0) (.slice none 0 0) (.int .i64 0) (.slice none 0 0) (.int .i64 0) (.bool false) K (.slice (some ⟨hb, 0, none⟩) (n + 1) (n + 1)) G (.int .i64 0) (.int .i64 0)).trans hh
  have k3 : Below q w ((((((((((((w1.setCell ⟨q, 5, none⟩ (.bool true)).setCell ⟨q, 6, none⟩ (.slice none 0 0)).setCell ⟨q, 7, none⟩ (.slice none 0 0)).setCell ⟨q, 8, none⟩ (.int .i64 0)).setCell ⟨q, 9, none⟩ (.slice none 0 0)).setCell ⟨q, 10, none⟩ (.int .i64 0)).setCell ⟨q, 11, none⟩ (.bool false)).setCell ⟨q, 12, none⟩ K).setCell ⟨q, 13, none⟩ (.slice (some ⟨hb, 0, none⟩) (n + 1) (n + 1))).setCell ⟨q, 14, none⟩ G).setCell ⟨q, 15, none⟩ (.int .i64 0)).setCell ⟨q, 16, none⟩ (.int .i64 0)) := bel12 (g2.mono (Nat.le_of_lt hlt)) (.bool true) (.slice none 0 0) (.slice none 0 0) (.int .i64 0) (.slice none 0 0) (.int .i64 0) (.bool false) K (.slice (some ⟨hb, 0, none⟩) (n + 1) (n + 1)) G (.int .i64 0) (.int .i64 0)
  generalize ((((((((((((w1.setCell ⟨q, 5, none⟩ (.bool true)).setCell ⟨q, 6, none⟩ (.slice none 0 0)).setCell ⟨q, 7, none⟩ (.slice none 0 0)).setCell ⟨q, 8, none⟩ (.int .i64 0)).setCell ⟨q, 9, none⟩ (.slice none 0 0)).setCell ⟨q, 10, none⟩ (.int .i64 0)).setCell ⟨q, 11, none⟩ (.bool false)).setCell ⟨q, 12, none⟩ K).setCell ⟨q, 13, none⟩ (.slice (some ⟨hb, 0, none⟩) (n + 1) (n + 1))).setCell ⟨q, 14, none⟩ G).setCell ⟨q, 15, none⟩ (.int .i64 0)).setCell ⟨q, 16, none⟩ (.int .i64 0)) = w2 at k1 k2 k3 ⊢
  exact ⟨K, _, G, hb, cs, rfl, k1, k2, hcs, by omega, by omega, k3.drew⟩

set_option maxRecDepth 100000 in
set_option maxHeartbeats 8000000 in
theorem server_any (n : Nat) (k o : Int) (cl : Value) (q : Nat) (w : World) (h2 : n ≤ 8) (hq : w.heap[q]? = some (.cells #[.int .i64 n, .int .i64 k, .int .i64 o, .slice none 0 0, cl, .bool false, .slice none 0 0, .slice none 0 0, .int .i64 0, .slice none 0 0, .int .i64 0, .bool false, .slice none 0 0, .slice none 0 0, .slice none 0 0, .int .i64 0, .int .i64 0, .slice none 0 0, .slice none 0 0, .slice none 0 0, .int .i64 0] 84 (0, 0))) :
    Calls Tryz.prog 16 #[.pointer (some ⟨q, 0, none⟩)] w fun e w' => e = .returned (.tuple #[]) ∧ (∃ K H G, w'.heap[q]? = some (.cells (room n k o cl K H G) 84 (0, 0))) ∧ Below q w w' := by
  have e1 : IntKind.i64.wrap (↑n + 1) = ↑n + 1 := IntWalk.i64_in _ (by omega)
  obtain ⟨Zb, hzb, hmb⟩ := mk_bools n h2
  obtain ⟨Zi, hzi, hmi⟩ := mk_ints n h2
  have c0 : w.cell? ⟨q, 0, none⟩ = some (.int .i64 n) := by rw [Lib.cell_of_heap hq]; rfl
  have s0 : w.cell? ⟨q, 5, none⟩ = some (.bool false) := by rw [Lib.cell_of_heap hq]; rfl
  have s1 : w.cell? ⟨q, 6, none⟩ = some (.slice none 0 0) := by rw [Lib.cell_of_heap hq]; rfl
  have s2 : w.cell? ⟨q, 7, none⟩ = some (.slice none 0 0) := by rw [Lib.cell_of_heap hq]; rfl
  have s3 : w.cell? ⟨q, 8, none⟩ = some (.int .i64 0) := by rw [Lib.cell_of_heap hq]; rfl
  have s4 : w.cell? ⟨q, 9, none⟩ = some (.slice none 0 0) := by rw [Lib.cell_of_heap hq]; rfl
  have s5 : w.cell? ⟨q, 10, none⟩ = some (.int .i64 0) := by rw [Lib.cell_of_heap hq]; rfl
  have s6 : w.cell? ⟨q, 11, none⟩ = some (.bool false) := by rw [Lib.cell_of_heap hq]; rfl
  have s7 : w.cell? ⟨q, 12, none⟩ = some (.slice none 0 0) := by rw [Lib.cell_of_heap hq]; rfl
  have s8 : w.cell? ⟨q, 13, none⟩ = some (.slice none 0 0) := by rw [Lib.cell_of_heap hq]; rfl
  have s9 : w.cell? ⟨q, 14, none⟩ = some (.slice none 0 0) := by rw [Lib.cell_of_heap hq]; rfl
  have s10 : w.cell? ⟨q, 15, none⟩ = some (.int .i64 0) := by rw [Lib.cell_of_heap hq]; rfl
  have s11 : w.cell? ⟨q, 16, none⟩ = some (.int .i64 0) := by rw [Lib.cell_of_heap hq]; rfl
  have f0 : w.frozen? ⟨q, 5, none⟩ = false := Lib.frozen_of_heap hq _
  have f1 : w.frozen? ⟨q, 6, none⟩ = false := Lib.frozen_of_heap hq _
  have f2 : w.frozen? ⟨q, 7, none⟩ = false := Lib.frozen_of_heap hq _
  have f3 : w.frozen? ⟨q, 8, none⟩ = false := Lib.frozen_of_heap hq _
  have f4 : w.frozen? ⟨q, 9, none⟩ = false := Lib.frozen_of_heap hq _
  have f5 : w.frozen? ⟨q, 10, none⟩ = false := Lib.frozen_of_heap hq _
  have f6 : w.frozen? ⟨q, 11, none⟩ = false := Lib.frozen_of_heap hq _
  have f7 : w.frozen? ⟨q, 12, none⟩ = false := Lib.frozen_of_heap hq _
  have f8 : w.frozen? ⟨q, 13, none⟩ = false := Lib.frozen_of_heap hq _
  have f9 : w.frozen? ⟨q, 14, none⟩ = false := Lib.frozen_of_heap hq _
  have f10 : w.frozen? ⟨q, 15, none⟩ = false := Lib.frozen_of_heap hq _
  have f11 : w.frozen? ⟨q, 16, none⟩ = false := Lib.frozen_of_heap hq _
  have hfour : ∀ o1 o2 o3 o4, Below w.heap.size w ((((w.alloc o1).alloc o2).alloc o3).alloc o4) := fun o1 o2 o3 o4 => ((((Below.refl w.heap.size w).alloc (Nat.le_refl _) o1).alloc (by simp) o2).alloc (by simp; omega) o3).alloc (by simp; omega) o4
  have t0 : ∀ o1 o2 o3 o4, ((((w.alloc o1).alloc o2).alloc o3).alloc o4).cell? ⟨q, 5, none⟩ = some (.bool false) := fun o1 o2 o3 o4 => ((hfour o1 o2 o3 o4).cell (World.block_lt_of_cell? w _ s0)).trans s0
  have t1 : ∀ o1 o2 o3 o4, ((((w.alloc o1).alloc o2).alloc o3).alloc o4).cell? ⟨q, 6, none⟩ = some (.slice none 0 0) := fun o1 o2 o3 o4 => ((hfour o1 o2 o3 o4).cell (World.block_lt_of_cell? w _ s1)).trans s1
  have t2 : ∀ o1 o2 o3 o4, ((((w.alloc o1).alloc o2).alloc o3).alloc o4).cell? ⟨q, 7, none⟩ = some (.slice none 0 0) := fun o1 o2 o3 o4 => ((hfour o1 o2 o3 o4).cell (World.block_lt_of_cell? w _ s2)).trans s2
  have t3 : ∀ o1 o2 o3 o4, ((((w.alloc o1).alloc o2).alloc o3).alloc o4).cell? ⟨q, 8, none⟩ = some (.int .i64 0) := fun o1 o2 o3 o4 => ((hfour o1 o2 o3 o4).cell (World.block_lt_of_cell? w _ s3)).trans s3
  have t4 : ∀ o1 o2 o3 o4, ((((w.alloc o1).alloc o2).alloc o3).alloc o4).cell? ⟨q, 9, none⟩ = some (.slice none 0 0) := fun o1 o2 o3 o4 => ((hfour o1 o2 o3 o4).cell (World.block_lt_of_cell? w _ s4)).trans s4
  have t5 : ∀ o1 o2 o3 o4, ((((w.alloc o1).alloc o2).alloc o3).alloc o4).cell? ⟨q, 10, none⟩ = some (.int .i64 0) := fun o1 o2 o3 o4 => ((hfour o1 o2 o3 o4).cell (World.block_lt_of_cell? w _ s5)).trans s5
  have t6 : ∀ o1 o2 o3 o4, ((((w.alloc o1).alloc o2).alloc o3).alloc o4).cell? ⟨q, 11, none⟩ = some (.bool false) := fun o1 o2 o3 o4 => ((hfour o1 o2 o3 o4).cell (World.block_lt_of_cell? w _ s6)).trans s6
  have t7 : ∀ o1 o2 o3 o4, ((((w.alloc o1).alloc o2).alloc o3).alloc o4).cell? ⟨q, 12, none⟩ = some (.slice none 0 0) := fun o1 o2 o3 o4 => ((hfour o1 o2 o3 o4).cell (World.block_lt_of_cell? w _ s7)).trans s7
  have t8 : ∀ o1 o2 o3 o4, ((((w.alloc o1).alloc o2).alloc o3).alloc o4).cell? ⟨q, 13, none⟩ = some (.slice none 0 0) := fun o1 o2 o3 o4 => ((hfour o1 o2 o3 o4).cell (World.block_lt_of_cell? w _ s8)).trans s8
  have t9 : ∀ o1 o2 o3 o4, ((((w.alloc o1).alloc o2).alloc o3).alloc o4).cell? ⟨q, 14, none⟩ = some (.slice none 0 0) := fun o1 o2 o3 o4 => ((hfour o1 o2 o3 o4).cell (World.block_lt_of_cell? w _ s9)).trans s9
  have t10 : ∀ o1 o2 o3 o4, ((((w.alloc o1).alloc o2).alloc o3).alloc o4).cell? ⟨q, 15, none⟩ = some (.int .i64 0) := fun o1 o2 o3 o4 => ((hfour o1 o2 o3 o4).cell (World.block_lt_of_cell? w _ s10)).trans s10
  have t11 : ∀ o1 o2 o3 o4, ((((w.alloc o1).alloc o2).alloc o3).alloc o4).cell? ⟨q, 16, none⟩ = some (.int .i64 0) := fun o1 o2 o3 o4 => ((hfour o1 o2 o3 o4).cell (World.block_lt_of_cell? w _ s11)).trans s11
  have HF := Lib.hid hfour
  clear hfour
  have HQ := Lib.hid hq
  have HZB := Lib.hid hzb
  have HZI := Lib.hid hzi
  have hlt : q < w.heap.size := (Array.getElem?_eq_some_iff.1 hq).1
  have hne1 : ¬ w.heap.size = q := by omega
  have hne2 : ¬ q = w.heap.size := by omega
  clear hq hzb hzi
  go_enter Tryz.func16, Tryz.ntmps16
  go_upto_region 2 with fail
  go_cut [] (fun wx => ∃ K H G hb cs, H = .slice (some ⟨hb, 0, none⟩) (n + 1) (n + 1) ∧ wx.heap[q]? = some (.cells (room n k o cl K H G) 84 (0, 0)) ∧ wx.heap[hb]? = some (.cells cs 3 (0, 0)) ∧ cs.size = n + 1 ∧ hb ≠ q ∧ q ≤ hb ∧ Below q w wx)
  case first =>
    go_region_held3 (fun w' => w'.cell? ⟨w.heap.size, 4, none⟩ = some (.slice none 0 0) ∧ w'.cell? ⟨w.heap.size, 5, none⟩ = some (.int .i64 0) ∧ w'.cell? ⟨w.heap.size, 6, none⟩ = some (.bool false) ∧ w'.cell? ⟨w.heap.size, 10, none⟩ = some (.int .i64 0) ∧ w'.cell? ⟨w.heap.size, 11, none⟩ = some (.int .i64 0)) (go_keep) (fail)
    all_goals (go_wp2_with fail)
    all_goals
      go_meet
      first
        | exact server_world HQ.out hlt HZI.out _ _ _ (by omega) (four1 w _ _ _ _)
        | exact server_world HQ.out hlt HZI.out _ _ _ (by omega) (four2 w _ _ _ _)
        | exact server_world HQ.out hlt HZI.out _ _ _ (by omega) (four3 w _ _ _ _)
  case rest =>
    obtain ⟨K, H, G, hb, cs, rfl, hqc, hhb, hcs, hnq, hqb, hbel⟩ := hcut
    clear HF t0 t1 t2 t3 t4 t5 t6 t7 t8 t9 t10 t11 s0 s1 s2 s3 s4 s5 s6 s7 s8 s9 s10 s11 f0 f1 f2 f3 f4 f5 f6 f7 f8 f9 f10 f11 c0 hmb hmi HZB HZI HQ
    have HQC := Lib.hid hqc
    have HHB := Lib.hid hhb
    have HBEL := Lib.hid hbel
    clear hqc hhb hbel
    go_wp2_with fail
    go_loopw [4] (fun i wr => ∃ (j : Nat) (cs : Array Value), j ≤ n + 1 ∧ i = .int .i64 j ∧ cs.size = n + 1 ∧ wr.heap[q]? = some (.cells (room n k o cl K (.slice (some ⟨hb, 0, none⟩) (n + 1) (n + 1)) G) 84 (0, 0)) ∧ wr.heap[hb]? = some (.cells cs 3 (0, 0)) ∧ Below q w wr) (fun i _ => n + 1 - (intOf i).toNat)
    case atStart => exact ⟨0, cs, Nat.zero_le _, rfl, hcs, HQC.out, HHB.out, HBEL.out⟩
    case round =>
      obtain ⟨j, cs', hj, rfl, hcs', h1, h3, h4⟩ := hrel
      have g13 : wr.cell? ⟨q, 13, none⟩ = some (.slice (some ⟨hb, 0, none⟩) (n + 1) (n + 1)) := by rw [Lib.cell_of_heap h1]; rfl
      have H1 := Lib.hid h1
      have H3 := Lib.hid h3
      have H4 := Lib.hid h4
      by_cases hlt2 : j < n + 1
      · have gx : wr.cell? ⟨hb, j, none⟩ = some (cs'[j]'(by omega)) := by rw [Lib.cell_of_heap h3, Array.getElem?_eq_getElem (by omega)]
        have gf : wr.frozen? ⟨hb, j, none⟩ = false := Lib.frozen_of_heap h3 j
        generalize cs'[j]'(by omega) = x at gx
        have i1 : (j : Int) < ↑n + 1 := by omega
        clear h1 h3 h4
        go_wp2_with fail
        go_roundw
        case rel =>
          refine ⟨j + 1, cs'.setIfInBounds j (.int .i64 (-1)), by omega, by go_num, by simpa using hcs', ?_, ?_, H4.out.setCell (p := ⟨hb, j, none⟩) hqb _⟩
          · rw [Below.heap_setCell _ _ _ _ (by simpa using Ne.symm hnq)]; exact H1.out
          · simp [World.setCell, Array.getElem?_modify, H3.out]
        case measure => simp [intOf]; omega
      · have i1 : ¬ (j : Int) < ↑n + 1 := by omega
        clear h1 h3 h4
        go_wp2_with fail
        go_end0
        exact ⟨rfl, ⟨_, _, _, H1.out⟩, H4.out⟩

end Go.Proofs.YtiagimmdohpddaaGreat.E
