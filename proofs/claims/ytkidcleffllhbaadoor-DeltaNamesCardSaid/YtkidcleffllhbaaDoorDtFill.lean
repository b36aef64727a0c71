/- Two rows filled: 2048 runes, 2047 feeds. -/
import Derived.Test.YtkidcleffllhbaaDoorDtNamesP
namespace Go.Proofs.YtkidcleffllhbaaDoor.Dt
open Go.RowKit Go.Proofs Go.Proofs.YtkidcleffllhbaaDoor.U Go.Proofs.YtkidcleffllhbaaDoor.Txt
set_option linter.unusedVariables false
set_option linter.unusedSimpArgs false

def mix (a z : Value) (k n : Nat) : List Value := List.replicate k a ++ List.replicate (n - k) z
theorem mix_set (a z : Value) (k n : Nat) (h : k < n) : (mix a z k n).set k a = mix a z (k + 1) n := by
  unfold mix
  rw [List.set_append_right _ _ (by simp), List.length_replicate, Nat.sub_self, show n - k = (n - (k + 1)) + 1 by omega, List.replicate_succ, List.set_cons_zero, List.replicate_succ', List.append_assoc]; rfl
theorem mix_get (a z : Value) (k n j : Nat) (h : j < k) : (mix a z k n)[j]? = some a := by
  unfold mix
  rw [List.getElem?_append_left (by simp; exact h), List.getElem?_replicate, if_pos h]
theorem mix_zero (a z : Value) (n : Nat) : mix a z 0 n = List.replicate n z := rfl
theorem infoR : (Tryd.prog.info? 21).map (fun i => (i.zero, i.size, i.bytes)) = some (some (.int .i32 0), 1, 4) := by kernel_rfl
theorem infoB : (Tryd.prog.info? 5).map (fun i => (i.zero, i.size, i.bytes)) = some (some (.int .u8 0), 1, 1) := by kernel_rfl
theorem mk_runes (n : Nat) (hn : n ≤ 10000) : ∀ w' : World, (Instr.makeSlice 22 (.int .i64 n) (.int .i64 n)).run Tryd.prog w' = .ok (.slice (some ⟨w'.heap.size, 0, none⟩) n n) (w'.alloc (.cells (mix (.int .i32 233) (.int .i32 0) 0 n).toArray 21)) := fun w' => by
  obtain ⟨i0, hi, hz0, hz1, hz2⟩ := info_parts infoR
  have e := run_makeSlice w' 22 21 i0 (.int .i32 0) Tryd.underlying22 hi hz0 .i64 .i64 (n : Int) (n : Int) (by omega) (Int.le_refl _) (by rw [hz1]; omega) (by rw [hz2]; omega) (by omega)
  rw [e, hz1, show ((n : Int)).toNat = n by omega, Nat.mul_one, mix_zero]
  have : madeCells (Value.int .i32 0).cells n = (List.replicate n (Value.int .i32 0)).toArray := by
    rw [← toList_madeCells_one]; rfl
  rw [this]
theorem mk_bytes (n : Nat) (hn : n ≤ 10000) : ∀ w' : World, (Instr.makeSlice 42 (.int .i64 n) (.int .i64 n)).run Tryd.prog w' = .ok (.slice (some ⟨w'.heap.size, 0, none⟩) n n) (w'.alloc (.cells (mix (.int .u8 10) (.int .u8 0) 0 n).toArray 5)) := fun w' => by
  obtain ⟨i0, hi, hz0, hz1, hz2⟩ := info_parts infoB
  have e := run_makeSlice w' 42 5 i0 (.int .u8 0) Tryd.underlying42 hi hz0 .i64 .i64 (n : Int) (n : Int) (by omega) (Int.le_refl _) (by rw [hz1]; omega) (by rw [hz2]; omega) (by omega)
  rw [e, hz1, show ((n : Int)).toNat = n by omega, Nat.mul_one, mix_zero]
  have : madeCells (Value.int .u8 0).cells n = (List.replicate n (Value.int .u8 0)).toArray := by
    rw [← toList_madeCells_one]; rfl
  rw [this]
/-- The two rows: k runes and j feeds stand. -/
structure Fill (w wr : World) (k j : Nat) : Prop where
  r : wr.heap[w.heap.size]? = some (.cells (mix (.int .i32 233) (.int .i32 0) k 2048).toArray 21 (0, 0))
  f : wr.heap[w.heap.size + 1]? = some (.cells (mix (.int .u8 10) (.int .u8 0) j 2047).toArray 5 (0, 0))
  below : Below w.heap.size w wr
theorem Fill.rune {w wr : World} {k j : Nat} (h : Fill w wr k j) (hk : k < 2048) : Fill w (wr.setCell ⟨w.heap.size, k, none⟩ (.int .i32 233)) (k + 1) j := by
  have h1 := h.r
  have h2 := h.f
  refine ⟨?_, ?_, h.below.setCell (p := ⟨w.heap.size, k, none⟩) (Nat.le_refl _) _⟩
  · simp [World.setCell, Array.getElem?_modify, h1]
    rw [mix_set _ _ _ _ hk]
  · simp [World.setCell, Array.getElem?_modify, h2]
theorem Fill.feed {w wr : World} {k j : Nat} (h : Fill w wr k j) (hj : j < 2047) : Fill w (wr.setCell ⟨w.heap.size + 1, j, none⟩ (.int .u8 10)) k (j + 1) := by
  have h1 := h.r
  have h2 := h.f
  refine ⟨?_, ?_, h.below.setCell (p := ⟨w.heap.size + 1, j, none⟩) (Nat.le_succ _) _⟩
  · simp [World.setCell, Array.getElem?_modify, h1]
  · simp [World.setCell, Array.getElem?_modify, h2]
    rw [mix_set _ _ _ _ hj]
theorem Fill.new (w : World) : Fill w ((w.alloc (.cells (mix (.int .i32 233) (.int .i32 0) 0 2048).toArray 21)).alloc (.cells (mix (.int .u8 10) (.int .u8 0) 0 2047).toArray 5)) 0 0 := by
  refine ⟨?_, ?_, ((Below.refl _ _).alloc (Nat.le_refl _) _).alloc (by simp) _⟩
  · rw [Lib.alloc_old _ _ _ (by simp), heap_alloc_new]
  · have := heap_alloc_new (w.alloc (.cells (mix (.int .i32 233) (.int .i32 0) 0 2048).toArray 21)) (.cells (mix (.int .u8 10) (.int .u8 0) 0 2047).toArray 5)
    simpa using this
theorem Fill.frozenR {w wr : World} {k j : Nat} (h : Fill w wr k j) (i : Nat) : wr.frozen? ⟨w.heap.size, i, none⟩ = false := Lib.frozen_of_heap h.r i
theorem Fill.frozenF {w wr : World} {k j : Nat} (h : Fill w wr k j) (i : Nat) : wr.frozen? ⟨w.heap.size + 1, i, none⟩ = false := Lib.frozen_of_heap h.f i
theorem Fill.cellR {w wr : World} {k j : Nat} (h : Fill w wr k j) (hk : k < 2048) : wr.cell? ⟨w.heap.size, k, none⟩ = some (.int .i32 0) := by
  rw [Lib.cell_of_heap h.r]
  simp [mix, List.getElem?_append_right, List.getElem?_replicate]; omega
theorem Fill.cellF {w wr : World} {k j : Nat} (h : Fill w wr k j) (hj : j < 2047) : wr.cell? ⟨w.heap.size + 1, j, none⟩ = some (.int .u8 0) := by
  rw [Lib.cell_of_heap h.f]
  simp [mix, List.getElem?_append_right, List.getElem?_replicate]; omega
theorem add_here (b j : Nat) : Addr.add ⟨b, 0, none⟩ j = ⟨b, j, none⟩ := by cases j <;> simp [Addr.add]
theorem runes_gen {W : World} {b n : Nat} {z : Value} (h : W.heap[b]? = some (.cells (mix (.int .i32 233) z n n).toArray 21 (0, 0))) : (convert 22 9 (.slice (some ⟨b, 0, none⟩) n n)).run Tryd.prog W = .ok (.string (Str (List.replicate n 233))) W := by
  have := conv_runes (W := W) (A := some ⟨b, 0, none⟩) (c := n) (xs := List.replicate n 233) (fun _ => ⟨_, rfl, fun j hj => by
    have hj' : j < n := by simpa using hj
    rw [add_here, Lib.cell_of_heap h, List.getElem?_toArray, mix_get _ _ _ _ _ hj', List.getD_eq_getElem?_getD, List.getElem?_replicate, if_pos hj']; rfl⟩)
  rwa [List.length_replicate] at this
theorem feeds_gen {W : World} {b n : Nat} {z : Value} (h : W.heap[b]? = some (.cells (mix (.int .u8 10) z n n).toArray 5 (0, 0))) : (convert 42 9 (.slice (some ⟨b, 0, none⟩) n n)).run Tryd.prog W = .ok (.string (feeds n)) W := by
  have := conv_bytes (W := W) (A := some ⟨b, 0, none⟩) (c := n) (l := List.replicate n 10) (fun _ => ⟨_, rfl, fun j hj => by
    have hj' : j < n := by simpa using hj
    rw [add_here, Lib.cell_of_heap h, List.getElem?_toArray, mix_get _ _ _ _ _ hj', List.getD_eq_getElem?_getD, List.getElem?_replicate, if_pos hj']; rfl⟩)
  rwa [List.length_replicate] at this
theorem Fill.runes {w wr : World} {j : Nat} (h : Fill w wr 2048 j) (N : Nat) : (convert 22 9 (.slice (some ⟨w.heap.size, 0, none⟩) 2048 2048)).run Tryd.prog (wr.drewN N) = .ok (.string (Str (List.replicate 2048 233))) (wr.drewN N) := runes_gen (W := wr.drewN N) h.r
theorem Fill.feeds {w wr : World} {k : Nat} (h : Fill w wr k 2047) (N : Nat) : (convert 42 9 (.slice (some ⟨w.heap.size + 1, 0, none⟩) 2047 2047)).run Tryd.prog (wr.drewN N) = .ok (.string (feeds 2047)) (wr.drewN N) := feeds_gen (W := wr.drewN N) h.f
end Go.Proofs.YtkidcleffllhbaaDoor.Dt
