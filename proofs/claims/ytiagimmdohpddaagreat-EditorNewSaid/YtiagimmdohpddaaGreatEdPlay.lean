/- EditorNew's parts: client 1 joins the document's room. -/
import Derived.Test.YtiagimmdohpddaaGreatEdMade
import Derived.Deep.QuietTactic
namespace Go.Proofs.YtiagimmdohpddaaGreat.E
open Go.RowKit Go.Proofs Go.Joins
set_option linter.unusedVariables false
set_option linter.unusedSimpArgs false
attribute [local go_sem] frozen?_alloc_cells

theorem cell_below2 {w w1 : World} (h : Below w.heap.size w w1) {a : Addr} {v : Value} (hc : w.cell? a = some v) : w1.cell? a = some v := (h.cell (World.block_lt_of_cell? w a hc)).trans hc
theorem two_below (w : World) (a b : Obj) : Below w.heap.size w ((w.alloc a).alloc b) := ((Below.refl w.heap.size w).alloc (Nat.le_refl _) a).alloc (by simp) b
theorem below_drewN {B : Nat} {a w : World} (h : Below B a w) (n : Nat) : Below B a (w.drewN n) := ⟨h.os, h.tape, h.output, h.size, h.block⟩
theorem three_belowN (w : World) (a b : Obj) (n : Nat) : Below w.heap.size w (((w.alloc a).alloc b).drewN n) := below_drewN (((Below.refl w.heap.size w).alloc (Nat.le_refl _) a).alloc (by simp) b) n
set_option maxRecDepth 100000 in
set_option maxHeartbeats 4000000 in
theorem all_any (q : Nat) (w : World) (h6 : w.cell? ⟨q, 6, none⟩ = some (.slice none 0 0)) (h17 : w.cell? ⟨q, 17, none⟩ = some (.slice none 0 0)) : Calls Tryz.prog 41 #[.pointer (some ⟨q, 0, none⟩)] w fun e w' => e = .returned (.slice none 0 0) ∧ w' = w := by
  go_enter Tryz.func41, Tryz.ntmps41
  go_wp2_with fail
  go_ret
  exact ⟨rfl, rfl⟩
set_option maxRecDepth 100000 in
set_option maxHeartbeats 4000000 in
theorem last_any (q : Nat) (c : Int) (w : World) (h6 : w.cell? ⟨q, 6, none⟩ = some (.slice none 0 0)) (h17 : w.cell? ⟨q, 17, none⟩ = some (.slice none 0 0)) : Calls Tryz.prog 23 #[.pointer (some ⟨q, 0, none⟩), .int .i64 c] w fun e w' => e = .returned (.int .i64 0) ∧ w' = w := by
  go_enter Tryz.func23, Tryz.ntmps23
  go_wp2_with fail
  refine (all_any q _ h6 h17).mono ?_
  rintro e w1 ⟨rfl, rfl⟩
  go_wp2_with fail
  go_loopw [5, 7] (fun n i wr => n = .int .i64 0 ∧ i = .int .i64 0 ∧ wr = w1) (fun _ _ _ => 0)
  case atStart => exact ⟨rfl, rfl, rfl⟩
  case round =>
    obtain ⟨rfl, rfl, rfl⟩ := hrel
    go_wp2_with fail
    go_ret
    exact ⟨rfl, rfl⟩
theorem two_new (w : World) (a b : Obj) : ((w.alloc a).alloc b).heap[w.heap.size + 1]? = some b := by
  have := heap_alloc_new (w.alloc a) b
  simpa using this
theorem fin_keep {w1 : World} {g b i : Nat} (hg : i ≠ g) (hb : i ≠ b) (y0 y1 y2 y3 y4 y5 y6 y7 y8 y9 y10 y11 z0 z1 z2 z3 : Value) : ((((((((((((((((w1.setCell ⟨g, 12, none⟩ y0).setCell ⟨g, 13, none⟩ y1).setCell ⟨g, 14, none⟩ y2).setCell ⟨g, 15, none⟩ y3).setCell ⟨g, 16, none⟩ y4).setCell ⟨g, 17, none⟩ y5).setCell ⟨g, 18, none⟩ y6).setCell ⟨g, 19, none⟩ y7).setCell ⟨g, 20, none⟩ y8).setCell ⟨g, 21, none⟩ y9).setCell ⟨g, 22, none⟩ y10).setCell ⟨g, 23, none⟩ y11).setCell ⟨b, 0, none⟩ z0).setCell ⟨b, 1, none⟩ z1).setCell ⟨b, 2, none⟩ z2).setCell ⟨b, 3, none⟩ z3).heap[i]? = w1.heap[i]? := by
  simp [World.setCell, Array.getElem?_modify, hg, hb, hg.symm, hb.symm]
theorem fin_heap {w1 : World} {g b T : Nat} {x0 x1 x2 x3 : Value} (hb : w1.heap[b]? = some (.cells #[x0, x1, x2, x3] T (0, 0))) (hn : b ≠ g) (y0 y1 y2 y3 y4 y5 y6 y7 y8 y9 y10 y11 z0 z1 z2 z3 : Value) : ((((((((((((((((w1.setCell ⟨g, 12, none⟩ y0).setCell ⟨g, 13, none⟩ y1).setCell ⟨g, 14, none⟩ y2).setCell ⟨g, 15, none⟩ y3).setCell ⟨g, 16, none⟩ y4).setCell ⟨g, 17, none⟩ y5).setCell ⟨g, 18, none⟩ y6).setCell ⟨g, 19, none⟩ y7).setCell ⟨g, 20, none⟩ y8).setCell ⟨g, 21, none⟩ y9).setCell ⟨g, 22, none⟩ y10).setCell ⟨g, 23, none⟩ y11).setCell ⟨b, 0, none⟩ z0).setCell ⟨b, 1, none⟩ z1).setCell ⟨b, 2, none⟩ z2).setCell ⟨b, 3, none⟩ z3).heap[b]? = some (.cells #[z0, z1, z2, z3] T (0, 0)) := by
  simp [World.setCell, Array.getElem?_modify, hb, hn, hn.symm]
theorem fin_below {w w1 : World} {g b c : Nat} (hw : Below c w w1) (hg : c ≤ g) (hb : c ≤ b) (y0 y1 y2 y3 y4 y5 y6 y7 y8 y9 y10 y11 z0 z1 z2 z3 : Value) : Below c w ((((((((((((((((w1.setCell ⟨g, 12, none⟩ y0).setCell ⟨g, 13, none⟩ y1).setCell ⟨g, 14, none⟩ y2).setCell ⟨g, 15, none⟩ y3).setCell ⟨g, 16, none⟩ y4).setCell ⟨g, 17, none⟩ y5).setCell ⟨g, 18, none⟩ y6).setCell ⟨g, 19, none⟩ y7).setCell ⟨g, 20, none⟩ y8).setCell ⟨g, 21, none⟩ y9).setCell ⟨g, 22, none⟩ y10).setCell ⟨g, 23, none⟩ y11).setCell ⟨b, 0, none⟩ z0).setCell ⟨b, 1, none⟩ z1).setCell ⟨b, 2, none⟩ z2).setCell ⟨b, 3, none⟩ z3) := ((((((((((((((((hw.setCell (p := ⟨g, 12, none⟩) hg y0).setCell (p := ⟨g, 13, none⟩) hg y1).setCell (p := ⟨g, 14, none⟩) hg y2).setCell (p := ⟨g, 15, none⟩) hg y3).setCell (p := ⟨g, 16, none⟩) hg y4).setCell (p := ⟨g, 17, none⟩) hg y5).setCell (p := ⟨g, 18, none⟩) hg y6).setCell (p := ⟨g, 19, none⟩) hg y7).setCell (p := ⟨g, 20, none⟩) hg y8).setCell (p := ⟨g, 21, none⟩) hg y9).setCell (p := ⟨g, 22, none⟩) hg y10).setCell (p := ⟨g, 23, none⟩) hg y11).setCell (p := ⟨b, 0, none⟩) hb z0).setCell (p := ⟨b, 1, none⟩) hb z1).setCell (p := ⟨b, 2, none⟩) hb z2).setCell (p := ⟨b, 3, none⟩) hb z3)
theorem end_heap {w1 : World} {b T : Nat} {x0 x1 x2 x3 : Value} (hb : w1.heap[b]? = some (.cells #[x0, x1, x2, x3] T (0, 0))) (z0 z1 z2 z3 : Value) : ((((w1.setCell ⟨b, 0, none⟩ z0).setCell ⟨b, 1, none⟩ z1).setCell ⟨b, 2, none⟩ z2).setCell ⟨b, 3, none⟩ z3).heap[b]? = some (.cells #[z0, z1, z2, z3] T (0, 0)) := by
  simp [World.setCell, Array.getElem?_modify, hb]
theorem end_below {w w1 : World} {b c : Nat} (hw : Below c w w1) (hb : c ≤ b) (z0 z1 z2 z3 : Value) : Below c w ((((w1.setCell ⟨b, 0, none⟩ z0).setCell ⟨b, 1, none⟩ z1).setCell ⟨b, 2, none⟩ z2).setCell ⟨b, 3, none⟩ z3) := ((((hw.setCell (p := ⟨b, 0, none⟩) hb z0).setCell (p := ⟨b, 1, none⟩) hb z1).setCell (p := ⟨b, 2, none⟩) hb z2).setCell (p := ⟨b, 3, none⟩) hb z3)
/-- Step{Kind: StepJoin, Node: 1}. -/
def joinStep : Value := .agg #[.int .i64 1, .int .i64 1, .int .i64 0, .int .i64 0, .string ⟨#[]⟩, .int .i64 0, .int .i64 0]
set_option maxRecDepth 100000 in
set_option maxHeartbeats 4000000 in
theorem user_any (q g m : Nat) (Z : Array Value) (w : World) (b : Nat) (hb : b ≤ g) (h6 : w.cell? ⟨q, 6, none⟩ = some (.slice none 0 0)) (h17 : w.cell? ⟨q, 17, none⟩ = some (.slice none 0 0))
    (h4 : w.cell? ⟨q, 4, none⟩ = some (.slice (some ⟨g, 0, none⟩) m m)) (hm : 2 ≤ m) (hg : w.heap[g]? = some (.cells Z 87 (0, 0))) (hz : ∀ j, j < 12 → Z[12 + j]? = cliZ[j]?) : Calls Tryz.prog 17 #[.pointer (some ⟨q, 0, none⟩), joinStep] w fun e w' => e = .returned (.agg #[.int .i64 0, .int .i64 0, .int .i64 0, .string ⟨#[]⟩]) ∧ (∀ i, i < w.heap.size → i ≠ g → w'.heap[i]? = w.heap[i]?) ∧ Below b w w' := by
  have hcell : ∀ j, j < 12 → w.cell? ⟨g, 12 + j, none⟩ = cliZ[j]? := fun j hj => by rw [Lib.cell_of_heap hg, hz j hj]
  have c0 : ∀ o1 o2, ((w.alloc o1).alloc o2).cell? ⟨g, 12, none⟩ = some (.bool false) := fun o1 o2 => cell_below2 (two_below w o1 o2) (hcell 0 (by omega))
  have c1 : ∀ o1 o2, ((w.alloc o1).alloc o2).cell? ⟨g, 13, none⟩ = some (.int .i64 0) := fun o1 o2 => cell_below2 (two_below w o1 o2) (hcell 1 (by omega))
  have c2 : ∀ o1 o2, ((w.alloc o1).alloc o2).cell? ⟨g, 14, none⟩ = some (.slice none 0 0) := fun o1 o2 => cell_below2 (two_below w o1 o2) (hcell 2 (by omega))
  have c3 : ∀ o1 o2, ((w.alloc o1).alloc o2).cell? ⟨g, 15, none⟩ = some (.int .i64 0) := fun o1 o2 => cell_below2 (two_below w o1 o2) (hcell 3 (by omega))
  have c4 : ∀ o1 o2, ((w.alloc o1).alloc o2).cell? ⟨g, 16, none⟩ = some (.int .i64 0) := fun o1 o2 => cell_below2 (two_below w o1 o2) (hcell 4 (by omega))
  have c5 : ∀ o1 o2, ((w.alloc o1).alloc o2).cell? ⟨g, 17, none⟩ = some (.int .i64 0) := fun o1 o2 => cell_below2 (two_below w o1 o2) (hcell 5 (by omega))
  have c6 : ∀ o1 o2, ((w.alloc o1).alloc o2).cell? ⟨g, 18, none⟩ = some (.slice none 0 0) := fun o1 o2 => cell_below2 (two_below w o1 o2) (hcell 6 (by omega))
  have c7 : ∀ o1 o2, ((w.alloc o1).alloc o2).cell? ⟨g, 19, none⟩ = some (.slice none 0 0) := fun o1 o2 => cell_below2 (two_below w o1 o2) (hcell 7 (by omega))
  have c8 : ∀ o1 o2, ((w.alloc o1).alloc o2).cell? ⟨g, 20, none⟩ = some (.bool false) := fun o1 o2 => cell_below2 (two_below w o1 o2) (hcell 8 (by omega))
  have c9 : ∀ o1 o2, ((w.alloc o1).alloc o2).cell? ⟨g, 21, none⟩ = some (.int .i64 0) := fun o1 o2 => cell_below2 (two_below w o1 o2) (hcell 9 (by omega))
  have c10 : ∀ o1 o2, ((w.alloc o1).alloc o2).cell? ⟨g, 22, none⟩ = some (.int .i64 0) := fun o1 o2 => cell_below2 (two_below w o1 o2) (hcell 10 (by omega))
  have c11 : ∀ o1 o2, ((w.alloc o1).alloc o2).cell? ⟨g, 23, none⟩ = some (.slice none 0 0) := fun o1 o2 => cell_below2 (two_below w o1 o2) (hcell 11 (by omega))
  have hf : ∀ o, w.frozen? ⟨g, o, none⟩ = false := Lib.frozen_of_heap hg
  have i1 : (1 : Int) < (m : Int) := by omega
  have HG := Lib.hid hg
  have HLT := Lib.hid (Array.getElem?_eq_some_iff.1 hg).1
  have HZ := Lib.hid hz
  clear hg hz hcell
  have j4 : ∀ o1 o2, ((w.alloc o1).alloc o2).cell? ⟨q, 4, none⟩ = some (.slice (some ⟨g, 0, none⟩) m m) := fun o1 o2 => cell_below2 (two_below w o1 o2) h4
  unfold joinStep
  go_enter Tryz.func17, Tryz.ntmps17
  go_wp2_with fail
  refine (last_any q _ _ (cell_below2 (two_below w _ _) h6) (cell_below2 (two_below w _ _) h17)).mono ?_
  rintro e w1 ⟨rfl, rfl⟩
  go_wp2_with fail
  have hlt := HLT.out
  try simp only [Exit.inBlock, Exit.then]
  refine bodyPost_ret (v := .agg #[.int .i64 0, .int .i64 0, .int .i64 0, .string ⟨#[]⟩]) ?hr ?hd ?hb
  case hd => rfl
  case hr =>
    refine results_cell_row rfl _ _ (w.heap.size + 1) 53 _ (0, 0) _ rfl ?_ Tryz.underlying53 rfl (by kernel_rfl)
    exact fin_heap (g := g) (b := w.heap.size + 1) (two_new w _ _) (by omega) _ _ _ _ _ _ _ _ _ _ _ _ _ _ _ _
  case hb => exact ⟨rfl, fun i hi hn => (fin_keep (b := w.heap.size + 1) hn (by omega) _ _ _ _ _ _ _ _ _ _ _ _ _ _ _ _).trans ((two_below w _ _).block i hi), fin_below (b := w.heap.size + 1) ((two_below w _ _).mono (by omega)) hb (by omega) _ _ _ _ _ _ _ _ _ _ _ _ _ _ _ _⟩
set_option maxRecDepth 100000 in
set_option maxHeartbeats 4000000 in
theorem play_any (q g m : Nat) (Z : Array Value) (w0 w : World) (c k o : Int) (hm : (m : Int) = c + 1) (hc : 1 ≤ c) (hM : Made w0 w c k o q g m Z) : Calls Tryz.prog 11 #[.pointer (some ⟨q, 0, none⟩), joinStep] w fun e w' => (∃ v, e = .returned v) ∧ Below w0.heap.size w w' := by
  obtain ⟨⟨K, H, G, hq⟩, hrow, hz, hsz, hge, hgq, hbel⟩ := hM
  have k0 : w.cell? ⟨q, 0, none⟩ = some (.int .i64 c) := by rw [Lib.cell_of_heap hq]; rfl
  have k4 : w.cell? ⟨q, 4, none⟩ = some (.slice (some ⟨g, 0, none⟩) m m) := by rw [Lib.cell_of_heap hq]; rfl
  have k6 : w.cell? ⟨q, 6, none⟩ = some (.slice none 0 0) := by rw [Lib.cell_of_heap hq]; rfl
  have k17 : w.cell? ⟨q, 17, none⟩ = some (.slice none 0 0) := by rw [Lib.cell_of_heap hq]; rfl
  have hlt : q < w.heap.size := (Array.getElem?_eq_some_iff.1 hq).1
  have K0 : ∀ o1 o2, ((w.alloc o1).alloc o2).cell? ⟨q, 0, none⟩ = some (.int .i64 c) := fun o1 o2 => cell_below2 (two_below w o1 o2) k0
  have HR := Lib.hid hrow
  have HZ := Lib.hid hz
  clear hrow hz hq
  unfold joinStep
  go_enter Tryz.func11, Tryz.ntmps11
  go_wp2_with fail
  have hc2 : ¬ c < 1 := by omega
  go_quiet (fail)
  go_wp2_with fail
  refine (user_any q g m Z _ w0.heap.size hge (cell_below2 (three_belowN w _ _ _) k6) (cell_below2 (three_belowN w _ _ _) k17) (cell_below2 (three_belowN w _ _ _) k4) (by omega) (((three_belowN w _ _ _).block _ (by omega)).trans HR.out) HZ.out).mono ?_
  rintro e w1 ⟨rfl, hk, hb⟩
  have hk2 := (hk (w.heap.size + 1) (by simp) (by omega)).trans (two_new w _ _)
  have n0 : w1.cell? ⟨w.heap.size + 1, 0, none⟩ = some (.int .i64 0) := by rw [Lib.cell_of_heap hk2]; rfl
  have n1 : w1.cell? ⟨w.heap.size + 1, 1, none⟩ = some (.int .i64 0) := by rw [Lib.cell_of_heap hk2]; rfl
  have n2 : w1.cell? ⟨w.heap.size + 1, 2, none⟩ = some (.int .i64 0) := by rw [Lib.cell_of_heap hk2]; rfl
  have n3 : w1.cell? ⟨w.heap.size + 1, 3, none⟩ = some (.string ⟨#[]⟩) := by rw [Lib.cell_of_heap hk2]; rfl
  have f0 : w1.frozen? ⟨w.heap.size + 1, 0, none⟩ = false := Lib.frozen_of_heap hk2 _
  have f1 : w1.frozen? ⟨w.heap.size + 1, 1, none⟩ = false := Lib.frozen_of_heap hk2 _
  have f2 : w1.frozen? ⟨w.heap.size + 1, 2, none⟩ = false := Lib.frozen_of_heap hk2 _
  have f3 : w1.frozen? ⟨w.heap.size + 1, 3, none⟩ = false := Lib.frozen_of_heap hk2 _
  have HK := Lib.hid hk2
  have HB := Lib.hid (((three_belowN w _ _ _).mono (by omega)).trans hb)
  clear hb hk hk2
  go_wp2_with fail
  have hsz2 := hbel.size
  try simp only [Exit.inBlock, Exit.then]
  refine bodyPost_ret (v := .agg #[.int .i64 0, .int .i64 0, .int .i64 0, .string ⟨#[]⟩]) ?hr ?hd ?hb
  case hd => rfl
  case hr =>
    refine results_cell_row rfl _ _ (w.heap.size + 1) 53 _ (0, 0) _ rfl ?_ Tryz.underlying53 rfl (by kernel_rfl)
    exact end_heap (b := w.heap.size + 1) HK.out _ _ _ _
  case hb => exact ⟨⟨_, rfl⟩, end_below (b := w.heap.size + 1) HB.out (by omega) _ _ _ _⟩
end Go.Proofs.YtiagimmdohpddaaGreat.E
