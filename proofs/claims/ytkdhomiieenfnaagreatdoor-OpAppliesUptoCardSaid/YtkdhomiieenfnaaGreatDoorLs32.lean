/- op.Parse. The cells of an operation's box. -/
import Derived.Test.YtkdhomiieenfnaaGreatDoorLs28
import Derived.Laws.ResultCell
namespace Go.Proofs.YtkdhomiieenfnaaGreatDoor.O
open Go.RowKit Go.Proofs Go.Joins Go.Proofs.YtkdhomiieenfnaaGreatDoor.U Go.Proofs.YtkdhomiieenfnaaGreatDoor.Txt
set_option linter.unusedVariables false
set_option linter.unusedSimpArgs false
attribute [local go_sem] id_eq
attribute [local go_sem ↓] Go.wp_at_zero Go.wp_at_succ

def OpL.line (L : OpL) : List UInt8 := lineL L.i0 L.i1 L.kd L.a L.tx L.rs L.t0 L.t1 L.on
/-- An operation's own error, of what Check counts in its text. -/
def OpL.own (L : OpL) : Int := ownE L.i0 L.i1 L.kd L.a ⟨L.tx.toArray⟩ (chk L.tx).1 (chk L.tx).2.2 L.rs L.t0 L.t1 L.on
/-- An operation's value. -/
def OpL.val (L : OpL) (A : Option Addr) (c : Nat) : Value := opV L.i0 L.i1 L.kd L.a ⟨L.tx.toArray⟩ (.slice A L.rs.length c) L.t0 L.t1 L.on
theorem read_small (s : List UInt8) (hs : s.length ≤ 1048576) : (readL s).tx.length ≤ 1048576 ∧ (readL s).rs.length ≤ 1048577 := by
  have h1 := cut_len s [32]
  have h2 := cut_len (Lib.cut s [32]).2.1 [32]
  have hR : (rdR s).length ≤ 1048576 := by unfold rdR; omega
  have h3 := cut_len (rdR s) [32]
  have hu : (unqT (Lib.cut (rdR s) [32]).2.1).length ≤ 1048576 := by
    unfold unqT
    cases h : unqL (Lib.cut (rdR s) [32]).2.1 with
    | none => exact Nat.zero_le _
    | some p => have := unq_len (x := p.1) (n := p.2) h; simp only; omega
  have hsp : (Lib.split (rdR s) [44]).length ≤ 1048577 := by
    have e : Lib.split (rdR s) [44] = (Lib.splitB ⟨#[44]⟩ 0 (Lib.countB ⟨(rdR s).toArray⟩ ⟨#[44]⟩) ⟨(rdR s).toArray⟩).map (·.data.toList) := by rw [Lib.splitB_data]; rfl
    rw [e, List.length_map, Lib.splitB_all ⟨#[44]⟩ (by decide) 0 _ _ rfl]
    have := Lib.countB_le ⟨#[44]⟩ (by decide) _ (⟨(rdR s).toArray⟩ : ByteArray) (Nat.le_refl _)
    have h5 : (⟨(rdR s).toArray⟩ : ByteArray).size = (rdR s).length := by rw [← size_toList]
    omega
  unfold readL
  repeat' split
  all_goals simp only [List.length_map, List.length_nil]
  all_goals omega
theorem L_size (l : List UInt8) : (⟨l.toArray⟩ : ByteArray).size = l.length := by rw [← size_toList]
/-- Print of an operation in memory. -/
theorem PrintL_ok (L : OpL) (A : Option Addr) (c : Nat) (w : World) (hs : L.tx.length ≤ 1048576) (hR : Ranges w A L.rs.length L.rs) (hE : EnvO w) (hok : L.own = 0) :
    Calls Tryz.prog 32 #[L.val A c] w fun e w' => e = .returned (.tuple #[.string ⟨L.line.toArray⟩, .int .i64 0]) ∧ Below w.heap.size w w' :=
  Print_ok L.i0 L.i1 L.kd L.a ⟨L.tx.toArray⟩ A L.rs.length c L.rs L.t0 L.t1 L.on (chk L.tx).1 (chk L.tx).2.1 (chk L.tx).2.2 rfl w (by rw [L_size]; unfold maxLen; omega) (opE_ok hok).len hR hE hok
theorem PrintL_bad (L : OpL) (A : Option Addr) (c : Nat) (w : World) (hs : L.tx.length ≤ 1048576) (hn : L.rs.length ≤ 1048577) (hR : Ranges w A L.rs.length L.rs) (hE : EnvO w) (hok : L.own ≠ 0) :
    Calls Tryz.prog 32 #[L.val A c] w fun e w' => e = .returned (.tuple #[.string ⟨#[]⟩, .int .i64 L.own]) ∧ Below w.heap.size w w' :=
  Print_bad L.i0 L.i1 L.kd L.a ⟨L.tx.toArray⟩ A L.rs.length c L.rs L.t0 L.t1 L.on (chk L.tx).1 (chk L.tx).2.1 (chk L.tx).2.2 rfl w (by rw [L_size]; unfold maxLen; omega) (by omega) hR hE hok
/-- A world behind w whose first new block is the result's. -/
structure ResBox (w W : World) : Prop where
  below : Below w.heap.size w W
  box : W.heap[w.heap.size]? = some (.cells zOp 47 (0, 0))
theorem ResBox.new (w : World) : ResBox w (w.alloc (.cells zOp 47)) := ⟨below_alloc1 w _, heap_alloc_new w _⟩
theorem ResBox.step {w W W' : World} (h : ResBox w W) (hb : Below W.heap.size W W') : ResBox w W' :=
  ⟨h.below.trans (hb.mono h.below.size), by rw [hb.block _ (Array.getElem?_eq_some_iff.1 h.box).1]; exact h.box⟩
theorem ResBox.fz {w W : World} (h : ResBox w W) : W.frozen? ⟨w.heap.size, 0, none⟩ = false ∧ W.frozen? ⟨w.heap.size, 1, none⟩ = false ∧ W.frozen? ⟨w.heap.size, 2, none⟩ = false ∧ W.frozen? ⟨w.heap.size, 3, none⟩ = false ∧ W.frozen? ⟨w.heap.size, 4, none⟩ = false ∧ W.frozen? ⟨w.heap.size, 5, none⟩ = false ∧ W.frozen? ⟨w.heap.size, 6, none⟩ = false ∧ W.frozen? ⟨w.heap.size, 7, none⟩ = false ∧ W.frozen? ⟨w.heap.size, 8, none⟩ = false :=
  ⟨Lib.frozen_of_heap h.box 0, Lib.frozen_of_heap h.box 1, Lib.frozen_of_heap h.box 2, Lib.frozen_of_heap h.box 3, Lib.frozen_of_heap h.box 4, Lib.frozen_of_heap h.box 5, Lib.frozen_of_heap h.box 6, Lib.frozen_of_heap h.box 7, Lib.frozen_of_heap h.box 8⟩
theorem ResBox.cells {w W : World} (h : ResBox w W) : W.cell? ⟨w.heap.size, 0, none⟩ = some (.int .i64 0) ∧ W.cell? ⟨w.heap.size, 1, none⟩ = some (.int .i64 0) ∧ W.cell? ⟨w.heap.size, 2, none⟩ = some (.int .i64 0) ∧ W.cell? ⟨w.heap.size, 3, none⟩ = some (.int .i64 0) ∧ W.cell? ⟨w.heap.size, 4, none⟩ = some (.string ⟨#[]⟩) ∧ W.cell? ⟨w.heap.size, 5, none⟩ = some (.slice none 0 0) ∧ W.cell? ⟨w.heap.size, 6, none⟩ = some (.int .i64 0) ∧ W.cell? ⟨w.heap.size, 7, none⟩ = some (.int .i64 0) ∧ W.cell? ⟨w.heap.size, 8, none⟩ = some (.bool false) := by
  refine ⟨?_, ?_, ?_, ?_, ?_, ?_, ?_, ?_, ?_⟩ <;> (rw [Lib.cell_of_heap h.box]; rfl)
theorem results_op {fn : Func} {p u : Tmp} (h : fn.results = #[.cell p 47, .tmp u]) (tmps : Array Value) (w : World) (g : Nat) (cs : Array Value) (x : Value)
    (hp : tmps.getD p undef = .pointer (some ⟨g, 0, none⟩)) (hx : tmps.getD u undef = x) (hg : w.heap[g]? = some (.cells cs 47 (0, 0))) (hi : cs.size = 9) :
    (results fn tmps).run Tryz.prog w = .ok (.tuple #[.agg cs, x]) w := by
  rw [results_cell_tmp h, hp, hx]
  simp only [asAddr]
  have h9 : (Tryz.prog.info? 47).map (·.size) = some 9 := by kernel_rfl
  have := run_loadVar_row w g 47 47 cs (0, 0) _ hg Tryz.underlying47 rfl (by rw [h9, hi])
  simp [this]
/-- What Parse hands back of a line. -/
def ParseGood (w : World) (L : OpL) (e : Ending) (w' : World) : Prop := (∃ A c, e = .returned (.tuple #[L.val A c, .int .i64 0]) ∧ Ranges w' A L.rs.length L.rs ∧ ∀ b off, A = some ⟨b, off, none⟩ → 0 < L.rs.length → w.heap.size ≤ b) ∧ Below w.heap.size w w'
def ParseBad (w : World) (e : Ending) (w' : World) : Prop := e = .returned (.tuple #[.agg zOp, .int .i64 44]) ∧ Below w.heap.size w w'

set_option maxRecDepth 100000 in
set_option maxHeartbeats 8000000 in
theorem Parse_good (s : ByteArray) (w : World) (hs : s.size ≤ 1048576) (hE : EnvP w) (hok : (readL s.data.toList).own = 0) (hl : (readL s.data.toList).line = s.data.toList) :
    Calls Tryz.prog 33 #[.string s] w (ParseGood w (readL s.data.toList)) := by
  have hsm := read_small s.data.toList (by rw [size_toList]; exact hs)
  have B0 := Lib.hid (ResBox.new w)
  have C1 := Lib.hid (read_any s _ hs (hE.below B0.out.below))
  have hz : (⟨(readL s.data.toList).line.toArray⟩ : ByteArray) = s := by rw [hl]
  generalize readL s.data.toList = L at hok hsm hz C1 ⊢
  have C2 : Hid (∀ A c W, Below w.heap.size w W → Ranges W A L.rs.length L.rs → Calls Tryz.prog 32 #[L.val A c] W fun e w' => e = .returned (.tuple #[.string s, .int .i64 0]) ∧ Below W.heap.size W w') := Lib.hid fun A c W hW hR => by
    have := PrintL_ok L A c W hsm.1 hR (hE.o.below hW) hok
    rwa [hz] at this
  clear hE hl hz hok hsm
  go_enter Tryz.func33, Tryz.ntmps33
  go_wp2_with fail
  refine C1.out.mono ?_
  rintro e w1 ⟨⟨A, c, rfl, hR, hF⟩, hb1⟩
  have B1 := Lib.hid (B0.out.step hb1)
  have HF : Hid (∀ b off, A = some ⟨b, off, none⟩ → 0 < L.rs.length → w.heap.size + 1 ≤ b) := Lib.hid fun b off hA h0 => by have := hF b off hA h0; simp at this; omega
  clear hF
  unfold opV
  have HX := Lib.hid (OpBox.new w1 L.i0 L.i1 L.kd L.a ⟨L.tx.toArray⟩ (.slice A L.rs.length c) L.t0 L.t1 L.on 47)
  have B2 := Lib.hid (B1.out.step HX.out.below)
  have C3 := Lib.hid (C2.out A c _ B2.out.below (hR.below HX.out.below))
  unfold OpL.val opV at C3
  have HR := Lib.hid hR
  clear hb1 hR C1 C2
  go_wp2_with fail
  refine C3.out.mono ?_
  rintro e w2 ⟨rfl, hb2⟩
  have B3 := Lib.hid (B2.out.step hb2)
  have HX2 := Lib.hid (HX.out.step hb2)
  have HR2 := Lib.hid (((HR.out.below HX.out.below).below hb2))
  clear hb2 C3
  obtain ⟨d0, d1, d2, d3, d4, d5, d6, d7, d8⟩ := HX2.out.at_
  obtain ⟨g0, g1, g2, g3, g4, g5, g6, g7, g8⟩ := B3.out.fz
  obtain ⟨k0, k1, k2, k3, k4, k5, k6, k7, k8⟩ := B3.out.cells
  go_wp2_with fail
  try simp only [Exit.inBlock, Exit.then]
  refine bodyPost_ret (v := .tuple #[L.val A c, .int .i64 0]) ?hr ?hd ?hb
  case hd => rfl
  case hr => exact results_op rfl _ _ w.heap.size _ _ rfl rfl (fin_box rfl B3.out.box _ _ _ _ _ _ _ _ _) rfl
  case hb =>
    refine ⟨⟨A, c, rfl, HR2.out.far fun b off hA h0 => fin_far (by have := HF.out b off hA h0; omega) _ _ _ _ _ _ _ _ _, fun b off hA h0 => by have := HF.out b off hA h0; omega⟩, fin_below9 B3.out.below (Nat.le_refl _) _ _ _ _ _ _ _ _ _⟩
set_option maxRecDepth 100000 in
set_option maxHeartbeats 8000000 in
theorem Parse_bad (s : ByteArray) (w : World) (hs : s.size ≤ 1048576) (hE : EnvP w) (hno : ¬ ((readL s.data.toList).own = 0 ∧ (readL s.data.toList).line = s.data.toList)) :
    Calls Tryz.prog 33 #[.string s] w (ParseBad w) := by
  have hsm := read_small s.data.toList (by rw [size_toList]; exact hs)
  have B0 := Lib.hid (ResBox.new w)
  have C1 := Lib.hid (read_any s _ hs (hE.below B0.out.below))
  generalize readL s.data.toList = L at hno hsm C1
  obtain ⟨P, E, hPE, C2⟩ : ∃ (P : ByteArray) (E : Int), (E ≠ 0 ∨ (E = 0 ∧ (P.toList == s.toList) = false)) ∧ Hid (∀ A c W, Below w.heap.size w W → Ranges W A L.rs.length L.rs → Calls Tryz.prog 32 #[L.val A c] W fun e w' => e = .returned (.tuple #[.string P, .int .i64 E]) ∧ Below W.heap.size W w') := by
    by_cases h0 : L.own = 0
    · refine ⟨⟨L.line.toArray⟩, 0, .inr ⟨rfl, ?_⟩, Lib.hid fun A c W hW hR => PrintL_ok L A c W hsm.1 hR (hE.o.below hW) h0⟩
      rw [toList_eq, toList_eq]
      simpa using fun e => hno ⟨h0, e⟩
    · exact ⟨⟨#[]⟩, L.own, .inl h0, Lib.hid fun A c W hW hR => PrintL_bad L A c W hsm.1 hsm.2 hR (hE.o.below hW) h0⟩
  clear hE hno hsm
  go_enter Tryz.func33, Tryz.ntmps33
  go_wp2_with fail
  refine C1.out.mono ?_
  rintro e w1 ⟨⟨A, c, rfl, hR, hF⟩, hb1⟩
  have B1 := Lib.hid (B0.out.step hb1)
  have HF : Hid (∀ b off, A = some ⟨b, off, none⟩ → 0 < L.rs.length → w.heap.size + 1 ≤ b) := Lib.hid fun b off hA h0 => by have := hF b off hA h0; simp at this; omega
  clear hF
  unfold opV
  have HX := Lib.hid (OpBox.new w1 L.i0 L.i1 L.kd L.a ⟨L.tx.toArray⟩ (.slice A L.rs.length c) L.t0 L.t1 L.on 47)
  have B2 := Lib.hid (B1.out.step HX.out.below)
  have C3 := Lib.hid (C2.out A c _ B2.out.below (hR.below HX.out.below))
  unfold OpL.val opV at C3
  have HR := Lib.hid hR
  clear hb1 hR C1 C2
  go_wp2_with fail
  refine C3.out.mono ?_
  rintro e w2 ⟨rfl, hb2⟩
  have B3 := Lib.hid (B2.out.step hb2)
  have HX2 := Lib.hid (HX.out.step hb2)
  have HR2 := Lib.hid (((HR.out.below HX.out.below).below hb2))
  clear hb2 C3
  obtain ⟨d0, d1, d2, d3, d4, d5, d6, d7, d8⟩ := HX2.out.at_
  obtain ⟨g0, g1, g2, g3, g4, g5, g6, g7, g8⟩ := B3.out.fz
  obtain ⟨k0, k1, k2, k3, k4, k5, k6, k7, k8⟩ := B3.out.cells
  rcases hPE with h0 | ⟨rfl, h1⟩
  · go_wp2_with fail
    try simp only [Exit.inBlock, Exit.then]
    refine bodyPost_ret (v := .tuple #[.agg zOp, .int .i64 44]) ?hr1 ?hd1 ?hb1
    case hd1 => rfl
    case hr1 => exact results_op rfl _ _ w.heap.size _ _ rfl rfl (fin_box rfl B3.out.box _ _ _ _ _ _ _ _ _) rfl
    case hb1 => exact ⟨rfl, fin_below9 B3.out.below (Nat.le_refl _) _ _ _ _ _ _ _ _ _⟩
  · go_wp2_with fail
    try simp only [Exit.inBlock, Exit.then]
    refine bodyPost_ret (v := .tuple #[.agg zOp, .int .i64 44]) ?hr2 ?hd2 ?hb2
    case hd2 => rfl
    case hr2 => exact results_op rfl _ _ w.heap.size _ _ rfl rfl (fin_box rfl B3.out.box _ _ _ _ _ _ _ _ _) rfl
    case hb2 => exact ⟨rfl, fin_below9 B3.out.below (Nat.le_refl _) _ _ _ _ _ _ _ _ _⟩
end Go.Proofs.YtkdhomiieenfnaaGreatDoor.O

namespace Go.Proofs.YtkdhomiieenfnaaGreatDoor.O
open Go.RowKit Go.Proofs Go.Joins Go.Proofs.YtkdhomiieenfnaaGreatDoor.U Go.Proofs.YtkdhomiieenfnaaGreatDoor.Txt
set_option linter.unusedVariables false
set_option linter.unusedSimpArgs false
theorem OpBox.frozen9 {W : World} {i0 i1 kd a : Int} {tx : ByteArray} {rg : Value} {t0 t1 : Int} {on : Bool} {B : Nat} (h : W.heap[B]? = some (.cells (opCells i0 i1 kd a tx rg t0 t1 on) 47 (0, 0))) : W.frozen? ⟨B, 0, none⟩ = false ∧ W.frozen? ⟨B, 1, none⟩ = false ∧ W.frozen? ⟨B, 2, none⟩ = false ∧ W.frozen? ⟨B, 3, none⟩ = false ∧ W.frozen? ⟨B, 4, none⟩ = false ∧ W.frozen? ⟨B, 5, none⟩ = false ∧ W.frozen? ⟨B, 6, none⟩ = false ∧ W.frozen? ⟨B, 7, none⟩ = false ∧ W.frozen? ⟨B, 8, none⟩ = false :=
  ⟨Lib.frozen_of_heap h 0, Lib.frozen_of_heap h 1, Lib.frozen_of_heap h 2, Lib.frozen_of_heap h 3, Lib.frozen_of_heap h 4, Lib.frozen_of_heap h 5, Lib.frozen_of_heap h 6, Lib.frozen_of_heap h 7, Lib.frozen_of_heap h 8⟩
theorem OpBox.cells9 {W : World} {i0 i1 kd a : Int} {tx : ByteArray} {rg : Value} {t0 t1 : Int} {on : Bool} {B : Nat} (h : W.heap[B]? = some (.cells (opCells i0 i1 kd a tx rg t0 t1 on) 47 (0, 0))) : W.cell? ⟨B, 0, none⟩ = some (.int .i64 i0) ∧ W.cell? ⟨B, 1, none⟩ = some (.int .i64 i1) ∧ W.cell? ⟨B, 2, none⟩ = some (.int .i64 kd) ∧ W.cell? ⟨B, 3, none⟩ = some (.int .i64 a) ∧ W.cell? ⟨B, 4, none⟩ = some (.string tx) ∧ W.cell? ⟨B, 5, none⟩ = some rg ∧ W.cell? ⟨B, 6, none⟩ = some (.int .i64 t0) ∧ W.cell? ⟨B, 7, none⟩ = some (.int .i64 t1) ∧ W.cell? ⟨B, 8, none⟩ = some (.bool on) := by
  refine ⟨?_, ?_, ?_, ?_, ?_, ?_, ?_, ?_, ?_⟩ <;> (rw [Lib.cell_of_heap h]; rfl)
end Go.Proofs.YtkdhomiieenfnaaGreatDoor.O
