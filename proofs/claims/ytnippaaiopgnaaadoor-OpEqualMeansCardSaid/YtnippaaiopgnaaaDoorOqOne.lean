/- OpOneForm walked. -/
import Derived.Test.YtnippaaiopgnaaaDoorOqEq
namespace Go.Proofs.YtnippaaiopgnaaaDoor.O
open Go.RowKit Go.Proofs Go.Joins Go.Proofs.YtnippaaiopgnaaaDoor.U Go.Proofs.YtnippaaiopgnaaaDoor.Txt
set_option linter.unusedVariables false
set_option linter.unusedSimpArgs false
attribute [local go_sem] id_eq
attribute [local go_sem ↓] head_eq range_eq
attribute [local go_sem ↓] Go.wp_at_zero Go.wp_at_succ

set_option maxRecDepth 100000 in
set_option maxHeartbeats 4000000 in
theorem Equal_zero (w : World) : Calls Tryd.prog 15 #[.agg zOp, .agg zOp] w fun e w' => e = .returned (.bool true) ∧ Below w.heap.size w w' := by
  unfold zOp
  go_enter Tryd.func15, Tryd.ntmps15
  go_wp2_with fail
  go_loopw [52] (fun i wr => i = .int .i64 0 ∧ Below w.heap.size w wr) (fun _ _ => 0)
  case atStart => exact ⟨rfl, below_alloc2 _ _ _⟩
  case round =>
    obtain ⟨rfl, hb⟩ := hrel
    have HB := Lib.hid hb
    clear hb
    go_wp2_with fail
    go_ret
    exact ⟨rfl, HB.out⟩
def s28 : List UInt8 := [50, 46, 56, 32, 111, 102, 102, 32, 51, 46, 49, 55]
theorem read_28 : readL s28 = ⟨2, 8, 4, 0, [], [], 3, 17, false⟩ := by decide +kernel
theorem own_28 : (readL s28).own = 0 := by rw [read_28]; decide +kernel
theorem line_28 : (readL s28).line = s28 := by rw [read_28]; decide +kernel
theorem OpBox.frozen9 {W : World} {i0 i1 kd a : Int} {tx : ByteArray} {rg : Value} {t0 t1 : Int} {on : Bool} {B : Nat} (h : W.heap[B]? = some (.cells (opCells i0 i1 kd a tx rg t0 t1 on) 31 (0, 0))) : W.frozen? ⟨B, 0, none⟩ = false ∧ W.frozen? ⟨B, 1, none⟩ = false ∧ W.frozen? ⟨B, 2, none⟩ = false ∧ W.frozen? ⟨B, 3, none⟩ = false ∧ W.frozen? ⟨B, 4, none⟩ = false ∧ W.frozen? ⟨B, 5, none⟩ = false ∧ W.frozen? ⟨B, 6, none⟩ = false ∧ W.frozen? ⟨B, 7, none⟩ = false ∧ W.frozen? ⟨B, 8, none⟩ = false :=
  ⟨Lib.frozen_of_heap h 0, Lib.frozen_of_heap h 1, Lib.frozen_of_heap h 2, Lib.frozen_of_heap h 3, Lib.frozen_of_heap h 4, Lib.frozen_of_heap h 5, Lib.frozen_of_heap h 6, Lib.frozen_of_heap h 7, Lib.frozen_of_heap h 8⟩
theorem OpBox.cells9 {W : World} {i0 i1 kd a : Int} {tx : ByteArray} {rg : Value} {t0 t1 : Int} {on : Bool} {B : Nat} (h : W.heap[B]? = some (.cells (opCells i0 i1 kd a tx rg t0 t1 on) 31 (0, 0))) : W.cell? ⟨B, 0, none⟩ = some (.int .i64 i0) ∧ W.cell? ⟨B, 1, none⟩ = some (.int .i64 i1) ∧ W.cell? ⟨B, 2, none⟩ = some (.int .i64 kd) ∧ W.cell? ⟨B, 3, none⟩ = some (.int .i64 a) ∧ W.cell? ⟨B, 4, none⟩ = some (.string tx) ∧ W.cell? ⟨B, 5, none⟩ = some rg ∧ W.cell? ⟨B, 6, none⟩ = some (.int .i64 t0) ∧ W.cell? ⟨B, 7, none⟩ = some (.int .i64 t1) ∧ W.cell? ⟨B, 8, none⟩ = some (.bool on) := by
  refine ⟨?_, ?_, ?_, ?_, ?_, ?_, ?_, ?_, ?_⟩ <;> (rw [Lib.cell_of_heap h]; rfl)
set_option maxRecDepth 100000 in
set_option maxHeartbeats 8000000 in
theorem oneForm_walk (s : ByteArray) (w : World) (hs : s.size ≤ 1048576) (hE : EnvP w) :
    Calls Tryd.prog 6 #[.string s] w fun e w' => e = .returned (.bool true) ∧ Below w.heap.size w w' := by
  have HE := Lib.hid hE
  clear hE
  go_enter Tryd.func6, Tryd.ntmps6
  go_wp2_with fail
  refine (opFixed_any _ HE.out.o).mono ?_
  rintro e w1 ⟨rfl, hb1⟩
  have HB1 := Lib.hid hb1
  have C2 := Lib.hid (Parse_good ⟨s28.toArray⟩ w1 (by decide) (HE.out.below hb1) (by exact own_28) (by exact line_28))
  rw [show (⟨s28.toArray⟩ : ByteArray).data.toList = s28 from rfl, read_28] at C2
  clear hb1
  go_wp2_with fail
  refine C2.out.mono ?_
  rintro e w2 ⟨⟨A, c, rfl, hR, _⟩, hb2⟩
  have HB2 := Lib.hid (HB1.out.trans (hb2.mono HB1.out.size))
  unfold OpL.val opV
  have HBX := Lib.hid (heap_alloc_new w2 (.cells (opCells 2 8 4 0 ⟨#[]⟩ (.slice A 0 c) 3 17 false) 31))
  have HB3 := Lib.hid (HB2.out.trans ((below_alloc1 w2 (.cells (opCells 2 8 4 0 ⟨#[]⟩ (.slice A 0 c) 3 17 false) 31)).mono HB2.out.size))
  have HLE := Lib.hid HB2.out.size
  clear hb2 hR C2
  go_wp2_with fail
  have HBX2 : Hid ((w2.alloc (.cells #[.int .i64 2, .int .i64 8, .int .i64 4, .int .i64 0, .string ⟨#[]⟩, .slice A 0 c, .int .i64 3, .int .i64 17, .bool false] 31)).heap[w2.heap.size]? = some (.cells (opCells 2 8 4 0 ⟨#[]⟩ (.slice A 0 c) 3 17 false) 31 (0, 0))) := HBX
  have HB4 : Hid (Below w.heap.size w (w2.alloc (.cells #[.int .i64 2, .int .i64 8, .int .i64 4, .int .i64 0, .string ⟨#[]⟩, .slice A 0 c, .int .i64 3, .int .i64 17, .bool false] 31))) := HB3
  have HSZ := Lib.hid (show w2.heap.size < (w2.alloc (.cells #[.int .i64 2, .int .i64 8, .int .i64 4, .int .i64 0, .string ⟨#[]⟩, .slice A 0 c, .int .i64 3, .int .i64 17, .bool false] 31)).heap.size by simp)
  clear HBX HB3 HB2 HB1
  generalize w2.alloc (.cells #[.int .i64 2, .int .i64 8, .int .i64 4, .int .i64 0, .string ⟨#[]⟩, .slice A 0 c, .int .i64 3, .int .i64 17, .bool false] 31) = w3 at HBX2 HB4 HSZ ⊢
  generalize w2.heap.size = g at HBX2 HSZ HLE ⊢
  have hsm := read_small s.data.toList (by rw [size_toList]; exact hs)
  by_cases hok : (readL s.data.toList).own = 0 ∧ (readL s.data.toList).line = s.data.toList
  · have C3 := Lib.hid (Parse_good s w3 hs (HE.out.below HB4.out) hok.1 hok.2)
    have hz : (⟨(readL s.data.toList).line.toArray⟩ : ByteArray) = s := by rw [hok.2]
    generalize readL s.data.toList = L at C3 hok hsm hz
    have C4 : Hid (∀ A c W, Below w.heap.size w W → Ranges W A L.rs.length L.rs → Calls Tryd.prog 14 #[L.val A c] W fun e w' => e = .returned (.tuple #[.string s, .int .i64 0]) ∧ Below W.heap.size W w') := Lib.hid fun A c W hW hR => by
      have := PrintL_ok L A c W hsm.1 hR (HE.out.o.below hW) hok.1
      rwa [hz] at this
    clear hok hz hsm
    refine C3.out.mono ?_
    rintro e w4 ⟨⟨A5, c5, rfl, hR, hF⟩, hb4⟩
    have hbox := (hb4.block g HSZ.out).trans HBX2.out
    have HBX := Lib.hid hbox
    have HB5 := Lib.hid (HB4.out.trans (hb4.mono HB4.out.size))
    obtain ⟨f0, f1, f2, f3, f4, f5, f6, f7, f8⟩ := OpBox.frozen9 hbox
    obtain ⟨d0, d1, d2, d3, d4, d5, d6, d7, d8⟩ := OpBox.cells9 hbox
    have hend := fin_box rfl hbox (.int .i64 L.i0) (.int .i64 L.i1) (.int .i64 L.kd) (.int .i64 L.a) (.string ⟨L.tx.toArray⟩) (.slice A5 L.rs.length c5) (.int .i64 L.t0) (.int .i64 L.t1) (.bool L.on)
    have hbel := fin_below9 HB5.out HLE.out (.int .i64 L.i0) (.int .i64 L.i1) (.int .i64 L.kd) (.int .i64 L.a) (.string ⟨L.tx.toArray⟩) (.slice A5 L.rs.length c5) (.int .i64 L.t0) (.int .i64 L.t1) (.bool L.on)
    have hrng := hR.far fun b off hA h0 => fin_far (w := w4) (b := g) (c := b) (by have := hF b off hA h0; have := HSZ.out; omega) (.int .i64 L.i0) (.int .i64 L.i1) (.int .i64 L.kd) (.int .i64 L.a) (.string ⟨L.tx.toArray⟩) (.slice A5 L.rs.length c5) (.int .i64 L.t0) (.int .i64 L.t1) (.bool L.on)
    have C5 := Lib.hid (C4.out A5 c5 _ hbel hrng)
    have HBE := Lib.hid hbel
    unfold OpL.val opV at C5 ⊢
    clear hb4 hbox hend hbel hrng hR hF C3 C4 HBX
    go_wp2_with fail
    refine C5.out.mono ?_
    rintro e w6 ⟨rfl, hb6⟩
    have HB7 := Lib.hid (HBE.out.trans (hb6.mono HBE.out.size))
    clear hb6 C5 d0 d1 d2 d3 d4 d5 d6 d7 d8 f0 f1 f2 f3 f4 f5 f6 f7 f8
    go_wp2_with fail
    go_ret
    exact ⟨rfl, HB7.out⟩
  · have C3 := Lib.hid (Parse_bad s w3 hs (HE.out.below HB4.out) hok)
    clear hok hsm
    refine C3.out.mono ?_
    rintro e w4 ⟨rfl, hb4⟩
    have hbox := (hb4.block g HSZ.out).trans HBX2.out
    have HB5 := Lib.hid (HB4.out.trans (hb4.mono HB4.out.size))
    obtain ⟨f0, f1, f2, f3, f4, f5, f6, f7, f8⟩ := OpBox.frozen9 hbox
    obtain ⟨d0, d1, d2, d3, d4, d5, d6, d7, d8⟩ := OpBox.cells9 hbox
    have HBE := Lib.hid (fin_below9 HB5.out HLE.out (.int .i64 0) (.int .i64 0) (.int .i64 0) (.int .i64 0) (.string ⟨#[]⟩) (.slice none 0 0) (.int .i64 0) (.int .i64 0) (.bool false))
    have CZ := Lib.hid (fun W => Equal_zero W)
    unfold zOp at CZ ⊢
    clear hb4 hbox C3
    go_wp2_with fail
    refine (CZ.out _).mono ?_
    rintro e w6 ⟨rfl, hb6⟩
    have HB7 := Lib.hid (HBE.out.trans (hb6.mono HBE.out.size))
    clear hb6 CZ d0 d1 d2 d3 d4 d5 d6 d7 d8 f0 f1 f2 f3 f4 f5 f6 f7 f8
    go_wp2_with fail
    go_ret
    exact ⟨rfl, HB7.out⟩
end Go.Proofs.YtnippaaiopgnaaaDoor.O
