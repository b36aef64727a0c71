/- OpEqualMeans: how the two operations are made. -/
import Derived.Test.YtnippaaiopgnaaaDoorOrClone
import Derived.Laws.CopyOwn
import Derived.Deep.RegionHeld3
namespace Go.Proofs.YtnippaaiopgnaaaDoor.O
open Go.RowKit Go.Proofs Go.Joins Go.Proofs.YtnippaaiopgnaaaDoor.U Go.Proofs.YtnippaaiopgnaaaDoor.Txt
set_option linter.unusedVariables false
set_option linter.unusedSimpArgs false
attribute [local go_sem] id_eq
attribute [local go_sem ↓] Go.wp_at_zero Go.wp_at_succ

/-- A deed in memory. -/
structure DeedIn (w : World) (v : Value) (kd at_ : Int) (A1 : Option Addr) (n1 c1 : Nat) (xs1 : List Int) (A2 : Option Addr) (n2 c2 : Nat) (xs2 : List Int) : Prop where
  eq : v = .agg #[.int .i64 kd, .int .i64 at_, .slice A1 n1 c1, .slice A2 n2 c2]
  r1 : Reads32 w A1 n1 xs1
  r2 : ReadsI w A2 n2 xs2
/-- An operation's box. -/
def BoxAt (w : World) (B : Nat) (L : OpL) (A : Option Addr) (c : Nat) : Prop := w.heap[B]? = some (.cells (opCells L.i0 L.i1 L.kd L.a ⟨L.tx.toArray⟩ (.slice A L.rs.length c) L.t0 L.t1 L.on) 31 (0, 0))
theorem BoxAt.below {w w' : World} {B : Nat} {L : OpL} {A : Option Addr} {c : Nat} (h : BoxAt w B L A c) (hb : Below w.heap.size w w') : BoxAt w' B L A c := (hb.block _ (Array.getElem?_eq_some_iff.1 h).1).trans h
/-- The two operations, each in a box of its own. -/
structure TwoOps (w0 w : World) (T : Nat) (B7 B8 : Nat) (L M : OpL) (A A' : Option Addr) (c c' : Nat) : Prop where
  b7 : BoxAt w B7 L A c
  b8 : BoxAt w B8 M A' c'
  r7 : Ranges w A L.rs.length L.rs
  r8 : Ranges w A' M.rs.length M.rs
  l : RightOp L T 1
  m : RightOp M T 1
  n7 : L.rs = [] → A = none ∧ c = 0
  below : Below w0.heap.size w0 w
  far7 : w0.heap.size ≤ B7 ∧ w0.heap.size ≤ B8
theorem TwoOps.step {w0 w w' : World} {T B7 B8 : Nat} {L M : OpL} {A A' : Option Addr} {c c' : Nat} (h : TwoOps w0 w T B7 B8 L M A A' c c') (hb : Below w.heap.size w w') : TwoOps w0 w' T B7 B8 L M A A' c c' :=
  ⟨h.b7.below hb, h.b8.below hb, h.r7.below hb, h.r8.below hb, h.l, h.m, h.n7, h.below.trans (hb.mono h.below.size), h.far7⟩
/-- A box of an operation that lies fresh. -/
def Fresh (w : World) (b : Nat) : Prop := ∃ cs : Array Value, w.heap[b]? = some (.cells cs 31 (0, 0)) ∧ cs.size = 9
theorem Fresh.new (w : World) (x0 x1 x2 x3 x4 x5 x6 x7 x8 : Value) : Fresh (w.alloc (.cells #[x0, x1, x2, x3, x4, x5, x6, x7, x8] 31 (0, 0))) w.heap.size := ⟨_, heap_alloc_new w _, rfl⟩
theorem Fresh.old {w : World} {b : Nat} (h : Fresh w b) (o : Obj) : Fresh (w.alloc o) b := by
  obtain ⟨cs, h1, h2⟩ := h
  exact ⟨cs, by rw [Lib.alloc_old _ _ _ (Array.getElem?_eq_some_iff.1 h1).1]; exact h1, h2⟩
theorem Fresh.new2 (w : World) (o : Obj) (x0 x1 x2 x3 x4 x5 x6 x7 x8 : Value) : Fresh ((w.alloc o).alloc (.cells #[x0, x1, x2, x3, x4, x5, x6, x7, x8] 31 (0, 0))) (w.heap.size + 1) := ⟨_, two_new2 w _ _, rfl⟩
theorem Fresh.row {w : World} {b : Nat} (h : Fresh w b) (g : Nat) (cs : Array Value) (hs : cs.size = 9) : Fresh (w.setRow g cs) b := by
  obtain ⟨c0, h1, h2⟩ := h
  by_cases hg : b = g
  · subst hg; exact ⟨cs, setRow_heap w _ _ _ _ _ h1, hs⟩
  · exact ⟨c0, (setRow_other w g b cs hg).trans h1, h2⟩
theorem Fresh.row9 {w : World} {b : Nat} (h : Fresh w b) (g : Nat) (x0 x1 x2 x3 x4 x5 x6 x7 x8 : Value) : Fresh (w.setRow g #[x0, x1, x2, x3, x4, x5, x6, x7, x8]) b := h.row g _ rfl
theorem Fresh.drew {w : World} {b : Nat} (h : Fresh w b) : Fresh w.drew b := h
theorem Fresh.below {w w' : World} {b : Nat} (h : Fresh w b) (hb : Below w.heap.size w w') : Fresh w' b := by
  obtain ⟨cs, h1, h2⟩ := h
  exact ⟨cs, (hb.block _ (Array.getElem?_eq_some_iff.1 h1).1).trans h1, h2⟩
/-- A whole operation stored into such a box. -/
theorem st9 {w : World} {b : Nat} (h : Fresh w b) (i0 i1 kd a : Int) (tx : ByteArray) (A : Option Addr) (n c : Nat) (t0 t1 : Int) (on : Bool) :
    (storeCells ⟨b, 0, none⟩ [.int .i64 i0, .int .i64 i1, .int .i64 kd, .int .i64 a, .string tx, .slice A n c, .int .i64 t0, .int .i64 t1, .bool on]).run Tryd.prog w = .ok () (w.setRow b #[.int .i64 i0, .int .i64 i1, .int .i64 kd, .int .i64 a, .string tx, .slice A n c, .int .i64 t0, .int .i64 t1, .bool on]) := by
  obtain ⟨cs, h1, h2⟩ := h
  have := run_storeCells_at (P := Tryd.prog) b 0 _ [.int .i64 i0, .int .i64 i1, .int .i64 kd, .int .i64 a, .string tx, .slice A n c, .int .i64 t0, .int .i64 t1, .bool on] 0 cs w h1 (by simp [h2]) (by intro v hv; simp at hv; rcases hv with rfl | rfl | rfl | rfl | rfl | rfl | rfl | rfl | rfl <;> rfl)
  rw [this]
  have e1 : cs.toList.drop 9 = [] := List.drop_eq_nil_iff.2 (by simp [h2])
  simp [e1]
theorem info9 : (Tryd.prog.info? 31).map (·.size) = some 9 := by kernel_rfl
theorem st9v {w : World} {b : Nat} (h : Fresh w b) (i0 i1 kd a : Int) (tx : ByteArray) (A : Option Addr) (n c : Nat) (t0 t1 : Int) (on : Bool) :
    (storeVar 31 ⟨b, 0, none⟩ (.agg #[.int .i64 i0, .int .i64 i1, .int .i64 kd, .int .i64 a, .string tx, .slice A n c, .int .i64 t0, .int .i64 t1, .bool on])).run Tryd.prog w = .ok () (w.setRow b #[.int .i64 i0, .int .i64 i1, .int .i64 kd, .int .i64 a, .string tx, .slice A n c, .int .i64 t0, .int .i64 t1, .bool on]) := by
  have h9 := st9 h i0 i1 kd a tx A n c t0 t1 on
  have hi := info9
  cases hq : Tryd.prog.info? 31 with
  | none => simp [hq] at hi
  | some i =>
    have hs : i.size = 9 := by simpa [hq] using hi
    simp [storeVar, sizeOf, typeInfo, hq, Value.cells, hs, h9]
/-- Such a store, folded. -/
def stO (x y : Value) : Sem Unit := Instr.storeAt 31 x y
theorem stO_fold (x y : Value) : Instr.storeAt 31 x y = stO x y := rfl
theorem stO_run {w : World} {b : Nat} (h : Fresh w b) (i0 i1 kd a : Int) (tx : ByteArray) (A : Option Addr) (n c : Nat) (t0 t1 : Int) (on : Bool) :
    (stO (.pointer (some ⟨b, 0, none⟩)) (.agg #[.int .i64 i0, .int .i64 i1, .int .i64 kd, .int .i64 a, .string tx, .slice A n c, .int .i64 t0, .int .i64 t1, .bool on])).run Tryd.prog w = .ok () (w.setRow b #[.int .i64 i0, .int .i64 i1, .int .i64 kd, .int .i64 a, .string tx, .slice A n c, .int .i64 t0, .int .i64 t1, .bool on]) := by
  have h9 := st9v h i0 i1 kd a tx A n c t0 t1 on
  unfold stO Instr.storeAt
  rw [Sem.run_bind]
  have e1 : (Instr.sureAddr (.pointer (some ⟨b, 0, none⟩))).run Tryd.prog w = .ok ⟨b, 0, none⟩ w := rfl
  rw [e1, Result.andThen_ok, h9]
/-- The load of a whole operation, folded. -/
def ldO (x : Value) : Sem Value := Instr.loadAt 31 x
theorem ldO_fold (x : Value) : Instr.loadAt 31 x = ldO x := rfl
theorem ldO_run {w : World} {B : Nat} {i0 i1 kd a : Int} {tx : ByteArray} {v : Value} {t0 t1 : Int} {on : Bool} (h : w.heap[B]? = some (.cells (opCells i0 i1 kd a tx v t0 t1 on) 31 (0, 0))) :
    (ldO (.pointer (some ⟨B, 0, none⟩))).run Tryd.prog w = .ok (.agg #[.int .i64 i0, .int .i64 i1, .int .i64 kd, .int .i64 a, .string tx, v, .int .i64 t0, .int .i64 t1, .bool on]) w := by
  have hc := fun i => Lib.cell_of_heap h i
  have c0 := hc 0
  have c1 := hc 1
  have c2 := hc 2
  have c3 := hc 3
  have c4 := hc 4
  have c5 := hc 5
  have c6 := hc 6
  have c7 := hc 7
  have c8 := hc 8
  unfold opCells at c0 c1 c2 c3 c4 c5 c6 c7 c8
  simp at c0 c1 c2 c3 c4 c5 c6 c7 c8
  clear hc h
  unfold ldO
  go_simp
theorem bel_al {W0 W : World} (h : Below W0.heap.size W0 W) (o : Obj) : Below W0.heap.size W0 (W.alloc o) := h.alloc h.size o
theorem row_cell {w : World} {g : Nat} {cs : Array Value} {a : Addr} {v : Value} (h : w.cell? a = some v) (hn : a.block ≠ g) : (w.setRow g cs).cell? a = some v := (cell_setRow_other w g cs a hn).trans h
theorem dc_row {X : World} {b g : Nat} {a0 a1 a2 a3 d0 d1 d2 d3 : Value} {cs : Array Value} (h : (X).cell? ⟨b, 0, none⟩ = some a0 ∧ (X).cell? ⟨b, 1, none⟩ = some a1 ∧ (X).cell? ⟨b, 2, none⟩ = some a2 ∧ (X).cell? ⟨b, 3, none⟩ = some a3 ∧ (X).cell? ⟨b + 1, 0, none⟩ = some d0 ∧ (X).cell? ⟨b + 1, 1, none⟩ = some d1 ∧ (X).cell? ⟨b + 1, 2, none⟩ = some d2 ∧ (X).cell? ⟨b + 1, 3, none⟩ = some d3) (hg : b + 1 < g) : (X.setRow g cs).cell? ⟨b, 0, none⟩ = some a0 ∧ (X.setRow g cs).cell? ⟨b, 1, none⟩ = some a1 ∧ (X.setRow g cs).cell? ⟨b, 2, none⟩ = some a2 ∧ (X.setRow g cs).cell? ⟨b, 3, none⟩ = some a3 ∧ (X.setRow g cs).cell? ⟨b + 1, 0, none⟩ = some d0 ∧ (X.setRow g cs).cell? ⟨b + 1, 1, none⟩ = some d1 ∧ (X.setRow g cs).cell? ⟨b + 1, 2, none⟩ = some d2 ∧ (X.setRow g cs).cell? ⟨b + 1, 3, none⟩ = some d3 := by
  obtain ⟨h0, h1, h2, h3, h4, h5, h6, h7⟩ := h
  have p1 : b ≠ g := by omega
  have p2 : b + 1 ≠ g := by omega
  exact ⟨row_cell h0 p1, row_cell h1 p1, row_cell h2 p1, row_cell h3 p1, row_cell h4 p2, row_cell h5 p2, row_cell h6 p2, row_cell h7 p2⟩
theorem al_cell {X : World} {a : Addr} {v : Value} (o : Obj) (h : X.cell? a = some v) : (X.alloc o).cell? a = some v := by rw [World.cell?_alloc_some X a o (by simp [h])]; exact h
theorem dc_alloc {X : World} {b : Nat} {a0 a1 a2 a3 d0 d1 d2 d3 : Value} {o : Obj} (h : (X).cell? ⟨b, 0, none⟩ = some a0 ∧ (X).cell? ⟨b, 1, none⟩ = some a1 ∧ (X).cell? ⟨b, 2, none⟩ = some a2 ∧ (X).cell? ⟨b, 3, none⟩ = some a3 ∧ (X).cell? ⟨b + 1, 0, none⟩ = some d0 ∧ (X).cell? ⟨b + 1, 1, none⟩ = some d1 ∧ (X).cell? ⟨b + 1, 2, none⟩ = some d2 ∧ (X).cell? ⟨b + 1, 3, none⟩ = some d3) : (X.alloc o).cell? ⟨b, 0, none⟩ = some a0 ∧ (X.alloc o).cell? ⟨b, 1, none⟩ = some a1 ∧ (X.alloc o).cell? ⟨b, 2, none⟩ = some a2 ∧ (X.alloc o).cell? ⟨b, 3, none⟩ = some a3 ∧ (X.alloc o).cell? ⟨b + 1, 0, none⟩ = some d0 ∧ (X.alloc o).cell? ⟨b + 1, 1, none⟩ = some d1 ∧ (X.alloc o).cell? ⟨b + 1, 2, none⟩ = some d2 ∧ (X.alloc o).cell? ⟨b + 1, 3, none⟩ = some d3 := by
  obtain ⟨h0, h1, h2, h3, h4, h5, h6, h7⟩ := h
  exact ⟨al_cell o h0, al_cell o h1, al_cell o h2, al_cell o h3, al_cell o h4, al_cell o h5, al_cell o h6, al_cell o h7⟩
theorem box_put {W : World} {b T : Nat} {cs : Array Value} (h : W.heap[b]? = some (.cells cs T (0, 0))) (i : Nat) (v : Value) : (W.setCell ⟨b, i, none⟩ v).heap[b]? = some (.cells (cs.setIfInBounds i v) T (0, 0)) := by
  simp [World.setCell, Array.getElem?_modify, h]
theorem RightOp.kind_le {L : OpL} {T : Nat} {num : Int} (h : RightOp L T num) : 1 ≤ L.kd ∧ L.kd ≤ 3 ∧ 0 ≤ L.a ∧ L.a ≤ T := by
  rcases h.kind with ⟨h1, h2, _⟩ | ⟨h1, h2, _⟩ <;> omega
theorem sz_drew (w : World) : w.drew.heap.size = w.heap.size := rfl
theorem sz_al (w : World) (o : Obj) : (w.alloc o).heap.size = w.heap.size + 1 := by simp
/-- Both boxes written. -/
theorem two_fin {W0 V1 U1 V2 U2 Z : World} {b7 b8 T : Nat} {L M : OpL} {A A' : Option Addr} {c c' : Nat}
    (h01 : Below W0.heap.size W0 V1) (c1 : Below V1.heap.size V1 U1) (h12 : Below U1.heap.size U1 V2) (c2 : Below V2.heap.size V2 U2) (h2Z : Below U2.heap.size U2 Z)
    (f7 : Fresh Z b7) (f8 : Fresh Z b8) (hne : b7 ≠ b8) (hl : RightOp L T 1) (hm : RightOp M T 1) (r7 : Ranges U1 A L.rs.length L.rs) (r8 : Ranges U2 A' M.rs.length M.rs) (n7 : L.rs = [] → A = none ∧ c = 0)
    (g7 : ∀ b off, A = some ⟨b, off, none⟩ → 0 < L.rs.length → V1.heap.size ≤ b) (g8 : ∀ b off, A' = some ⟨b, off, none⟩ → 0 < M.rs.length → V2.heap.size ≤ b)
    (o7 : W0.heap.size ≤ b7 ∧ (b7 < V1.heap.size ∨ U1.heap.size ≤ b7) ∧ (b7 < V2.heap.size ∨ U2.heap.size ≤ b7)) (o8 : W0.heap.size ≤ b8 ∧ (b8 < V1.heap.size ∨ U1.heap.size ≤ b8) ∧ (b8 < V2.heap.size ∨ U2.heap.size ≤ b8)) :
    TwoOps W0 ((Z.setRow b7 #[.int .i64 L.i0, .int .i64 L.i1, .int .i64 L.kd, .int .i64 L.a, .string ⟨L.tx.toArray⟩, .slice A L.rs.length c, .int .i64 L.t0, .int .i64 L.t1, .bool L.on]).setRow b8 #[.int .i64 M.i0, .int .i64 M.i1, .int .i64 M.kd, .int .i64 M.a, .string ⟨M.tx.toArray⟩, .slice A' M.rs.length c', .int .i64 M.t0, .int .i64 M.t1, .bool M.on]) T b7 b8 L M A A' c c' := by
  obtain ⟨cs7, e7, s7⟩ := f7
  obtain ⟨cs8, e8, s8⟩ := f8
  have hZ : ∀ k, k ≠ b7 → k ≠ b8 → ∀ x y : Array Value, ((Z.setRow b7 x).setRow b8 y).heap[k]? = Z.heap[k]? := fun k h1 h2 x y => by rw [setRow_other _ _ _ _ h2, setRow_other _ _ _ _ h1]
  have lt : ∀ {U : World} {B : Option Addr} {rs : List (Int × Int)}, Ranges U B rs.length rs → ∀ b off, B = some ⟨b, off, none⟩ → 0 < rs.length → b < U.heap.size := fun {U B rs} h b off e h0 => by
    obtain ⟨b', off', e', hc⟩ := h.at_ h0
    rw [e] at e'; cases e'
    exact World.block_lt_of_cell? U _ (hc 0 h0).1
  refine ⟨?_, ?_, ?_, ?_, hl, hm, n7, ?_, ⟨o7.1, o8.1⟩⟩
  · show _ = _
    rw [setRow_other _ _ _ _ hne]
    exact setRow_heap _ _ _ _ _ _ e7
  · exact setRow_heap _ _ _ _ _ _ ((setRow_other _ _ _ _ hne.symm).trans e8)
  · refine r7.far fun b off e h0 => ?_
    have q1 := g7 b off e h0
    have q2 := lt r7 b off e h0
    have q3 := h12.size
    rw [hZ b (by omega) (by omega), h2Z.block b (by have := c2.size; omega), c2.block b (by omega), h12.block b q2]
  · refine r8.far fun b off e h0 => ?_
    have q1 := g8 b off e h0
    have q2 := lt r8 b off e h0
    have q3 := h12.size
    have q4 := c1.size
    rw [hZ b (by omega) (by omega), h2Z.block b q2]
  · have hb := (h01.trans ((c1.mono h01.size).trans ((h12.mono (Nat.le_trans h01.size c1.size)).trans ((c2.mono (Nat.le_trans h01.size (Nat.le_trans c1.size h12.size))).trans (h2Z.mono (Nat.le_trans h01.size (Nat.le_trans c1.size (Nat.le_trans h12.size c2.size))))))))
    exact below_setRow (below_setRow hb o7.1 _) o8.1 _
theorem Fresh.six {w : World} {b : Nat} (h : Fresh w b) : (∀ o, Fresh (w.alloc o) b) ∧ (∀ o o', Fresh ((w.alloc o).alloc o') b) ∧ (∀ g y0 y1 y2 y3 y4 y5 y6 y7 y8, Fresh (w.setRow g #[y0, y1, y2, y3, y4, y5, y6, y7, y8]) b) ∧ (∀ o g y0 y1 y2 y3 y4 y5 y6 y7 y8, Fresh ((w.alloc o).setRow g #[y0, y1, y2, y3, y4, y5, y6, y7, y8]) b) ∧ (∀ o o' g y0 y1 y2 y3 y4 y5 y6 y7 y8, Fresh (((w.alloc o).alloc o').setRow g #[y0, y1, y2, y3, y4, y5, y6, y7, y8]) b) :=
  ⟨fun o => h.old o, fun o o' => (h.old o).old o', fun g _ _ _ _ _ _ _ _ _ => h.row9 g _ _ _ _ _ _ _ _ _, fun o g _ _ _ _ _ _ _ _ _ => (h.old o).row9 g _ _ _ _ _ _ _ _ _, fun o o' g _ _ _ _ _ _ _ _ _ => ((h.old o).old o').row9 g _ _ _ _ _ _ _ _ _⟩
theorem Fresh.new_r (w : World) (x0 x1 x2 x3 x4 x5 x6 x7 x8 : Value) (g : Nat) (y0 y1 y2 y3 y4 y5 y6 y7 y8 : Value) : Fresh ((w.alloc (.cells #[x0, x1, x2, x3, x4, x5, x6, x7, x8] 31 (0, 0))).setRow g #[y0, y1, y2, y3, y4, y5, y6, y7, y8]) w.heap.size := (Fresh.new w _ _ _ _ _ _ _ _ _).row9 g _ _ _ _ _ _ _ _ _
theorem Fresh.new2_r (w : World) (o : Obj) (x0 x1 x2 x3 x4 x5 x6 x7 x8 : Value) (g : Nat) (y0 y1 y2 y3 y4 y5 y6 y7 y8 : Value) : Fresh (((w.alloc o).alloc (.cells #[x0, x1, x2, x3, x4, x5, x6, x7, x8] 31 (0, 0))).setRow g #[y0, y1, y2, y3, y4, y5, y6, y7, y8]) (w.heap.size + 1) := (Fresh.new2 w o _ _ _ _ _ _ _ _ _).row9 g _ _ _ _ _ _ _ _ _
theorem Fresh.new1 (w : World) (x0 x1 x2 x3 x4 x5 x6 x7 x8 : Value) (o : Obj) : Fresh ((w.alloc (.cells #[x0, x1, x2, x3, x4, x5, x6, x7, x8] 31 (0, 0))).alloc o) w.heap.size := (Fresh.new w _ _ _ _ _ _ _ _ _).old o
theorem Fresh.new1_r (w : World) (x0 x1 x2 x3 x4 x5 x6 x7 x8 : Value) (o : Obj) (g : Nat) (y0 y1 y2 y3 y4 y5 y6 y7 y8 : Value) : Fresh (((w.alloc (.cells #[x0, x1, x2, x3, x4, x5, x6, x7, x8] 31 (0, 0))).alloc o).setRow g #[y0, y1, y2, y3, y4, y5, y6, y7, y8]) w.heap.size := (Fresh.new1 w _ _ _ _ _ _ _ _ _ o).row9 g _ _ _ _ _ _ _ _ _
/-- Two right operations have one line just if they are one. -/
theorem line_iff {L M : OpL} {T : Nat} (hl : RightOp L T 1) (hm : RightOp M T 1) : L.line = M.line ↔ L = M := by
  refine ⟨fun h => ?_, fun h => by rw [h]⟩
  obtain ⟨i0, i1, kd, a, tx, rs, t0, t1, on⟩ := L
  obtain ⟨j0, j1, kd', a', tx', rs', t0', t1', on'⟩ := M
  obtain ⟨⟨_, _, a1, a2⟩, hk, ⟨a3, a4, a5⟩⟩ := hl
  obtain ⟨⟨_, _, b1, b2⟩, hk', ⟨b3, b4, b5⟩⟩ := hm
  simp only at a1 a2 a3 a4 a5 b1 b2 b3 b4 b5 hk hk'
  have a2 := a2 (by decide)
  have b2 := b2 (by decide)
  subst a1 a3 a4 a5 b1 b3 b4 b5
  obtain rfl : i0 = j0 := by omega
  unfold OpL.line at h
  simp only at h
  have p1 : ∀ {kd a : Int} {tx : List UInt8} {rs : List (Int × Int)}, ((kd = 1 ∧ (0 ≤ a ∧ a ≤ (T : Int)) ∧ (∃ rs, tx = enc rs ∧ 1 ≤ rs.length ∧ rs.length ≤ 256 ∧ ∀ r ∈ rs, TxtRune r) ∧ rs = []) ∨ ((kd = 2 ∨ kd = 3) ∧ a = 0 ∧ tx = [] ∧ Up (-1) rs ∧ (∀ r ∈ rs, r.2 ≤ (T : Int)) ∧ rs ≠ [] ∧ rs.length ≤ T)) →
      (kd = 1 ∨ kd = 2 ∨ kd = 3) ∧ 0 ≤ a ∧ (∀ r ∈ rs, 0 ≤ r.1 ∧ 0 ≤ r.2) ∧ (kd = 1 → rs = []) ∧ (kd ≠ 1 → a = 0 ∧ tx = []) := fun hk => by
    rcases hk with ⟨h1, h2, _, h4⟩ | ⟨h1, h2, h3, h4, _⟩
    · exact ⟨.inl h1, h2.1, fun r hr => (by rw [h4] at hr; cases hr), fun _ => h4, fun hn => absurd h1 hn⟩
    · exact ⟨.inr h1, by omega, fun r hr => (by have := up_low h4 r hr; omega), fun h => by omega, fun _ => ⟨h2, h3⟩⟩
  obtain ⟨k1, k2, k3, k4, k5⟩ := p1 hk
  obtain ⟨m1, m2, m3, m4, m5⟩ := p1 hk'
  obtain ⟨rfl, e1, e2⟩ := line_inj k1 m1 k2 m2 k3 m3 h
  by_cases h1 : kd = 1
  · obtain ⟨rfl, rfl⟩ := e1 h1
    rw [k4 h1, m4 h1]
  · obtain rfl := e2 h1
    obtain ⟨rfl, rfl⟩ := k5 h1
    obtain ⟨rfl, rfl⟩ := m5 h1
    rfl
/-- What a clone holds. -/
theorem own_ranges {w : World} {B : Nat} {v : Value} {rs : List (Int × Int)} (h : w.ownsRow B 47 2 v rs.length (rsCells rs)) : ∃ A c, v = .slice A rs.length c ∧ Ranges w A rs.length rs := by
  rcases h.2 with ⟨rfl, h0⟩ | ⟨g, cap, cur, rfl, _, hg, hcap, _⟩
  · exact ⟨none, 0, by rw [h0], rfl, fun hp => by omega⟩
  · refine ⟨_, cap, rfl, rfl, fun _ => ⟨g, 0, rfl, fun j hj => ?_⟩⟩
    have hg2 := rsCells_get rs j hj
    have e1 : (⟨g, 0 + j * 2, none⟩ : Addr) = (⟨g, 0, none⟩ : Addr).add (j * 2) := by simp [Addr.add]
    have e2 : (⟨g, 0 + j * 2 + 1, none⟩ : Addr) = (⟨g, 0, none⟩ : Addr).add (j * 2 + 1) := by simp [Addr.add]
    rw [e1, e2]
    exact ⟨h.cells (g := g) rfl _ _ hg2.1, h.cells (g := g) rfl _ _ hg2.2⟩
theorem own_lt {w : World} {B e size n : Nat} {v : Value} {xs : List Value} (h : w.ownsRow B e size v n xs) : ∀ k, v.ownBlock = some k → B ≤ k ∧ k < w.heap.size := fun k hk => by
  rcases h.2 with ⟨hn, _⟩ | ⟨g, cap, cur, hv, hbg, hg, _⟩
  · rw [hn] at hk; cases hk
  · rw [hv] at hk
    obtain rfl := Option.some.inj hk
    exact ⟨hbg, (Array.getElem?_eq_some_iff.1 hg).1⟩
/-- Behind an append onto a clone's list: its box stands, and holds the longer list when that is laid into it. -/
theorem put_range {w3 W7 w9 : World} {b g cap : Nat} {v : Value} {o' : Obj} {i0 i1 kd a : Int} {tx : ByteArray} {v0 : Value} {t0 t1 : Int} {on : Bool} {rs : List (Int × Int)} (hb7 : Below w3.heap.size w3 W7) (hx : W7.heap[b]? = some (.cells (opCells i0 i1 kd a tx v0 t0 t1 on) 31 (0, 0))) (ho : ∀ k, v.ownBlock = some k → w3.heap.size ≤ k ∧ k < b) (h3 : w3.heap.size ≤ b) (hg : (W7.alloc o').grownBy w9 v.ownBlock) (hat : v.ownBlock = some g ∨ g = (W7.alloc o').heap.size)
    (hown : w9.ownsRow w3.heap.size 47 2 (.slice (some ⟨g, 0, none⟩) (rs.length + 1) cap) (rs.length + 1) (rsCells rs ++ [.int .i64 90, .int .i64 91])) :
    w9.heap[b]? = some (.cells (opCells i0 i1 kd a tx v0 t0 t1 on) 31 (0, 0)) ∧ Below w3.heap.size w3 (w9.setCell ⟨b, 5, none⟩ (.slice (some ⟨g, 0, none⟩) (rs.length + 1) cap)) ∧ (w9.setCell ⟨b, 5, none⟩ (.slice (some ⟨g, 0, none⟩) (rs.length + 1) cap)).heap[b]? = some (.cells (opCells i0 i1 kd a tx (.slice (some ⟨g, 0, none⟩) (rs.length + 1) cap) t0 t1 on) 31 (0, 0)) ∧
      Ranges (w9.setCell ⟨b, 5, none⟩ (.slice (some ⟨g, 0, none⟩) (rs.length + 1) cap)) (some ⟨g, 0, none⟩) (rs ++ [(90, 91)]).length (rs ++ [(90, 91)]) := by
  have hlt := (Array.getElem?_eq_some_iff.1 hx).1
  have h9 : w9.heap[b]? = some (.cells (opCells i0 i1 kd a tx v0 t0 t1 on) 31 (0, 0)) := by rw [hg.block _ (by simp; omega) (fun e => by have := ho b e.symm; omega), Lib.alloc_old W7 _ _ hlt]; exact hx
  have hne : g ≠ b := by
    rcases hat with h | h
    · have := ho g h; omega
    · simp at h; omega
  refine ⟨h9, ((hb7.alloc hb7.size o').grown hg (by have := hb7.size; simp; omega) (fun k hk => by have := ho k hk; omega)).setCell (p := ⟨b, 5, none⟩) h3 _, box_put h9 5 _, ?_⟩
  rw [← rsCells_snoc] at hown
  obtain ⟨_, _, he, hr⟩ := own_ranges (rs := rs ++ [(90, 91)]) (by rw [List.length_append]; exact hown)
  rw [List.length_append] at he
  cases he
  exact hr.far fun b' off e _ => by
    cases e
    simp [World.setCell, Array.getElem?_modify, hne.symm]
/-- A clone's list with one end moved. -/
theorem hi_put {w3 w6 W7 : World} {j c2 : Nat} {A2 : Option Addr} {i0 i1 kd a : Int} {tx : ByteArray} {t0 t1 : Int} {on : Bool} {rs : List (Int × Int)} (hj : j < rs.length)
    (hv : w6.ownsRow w3.heap.size 47 2 (.slice A2 rs.length c2) rs.length (rsCells rs)) (hb : Below w3.heap.size w3 W7) (ho : W7.ownsRow w3.heap.size 47 2 (.slice A2 rs.length c2) rs.length (rsCells rs))
    (hx : W7.heap[w6.heap.size]? = some (.cells (opCells i0 i1 kd a tx (.slice A2 rs.length c2) t0 t1 on) 31 (0, 0))) (h3 : w3.heap.size ≤ w6.heap.size) :
    ∃ g, A2 = some ⟨g, 0, none⟩ ∧ g < w6.heap.size ∧ (W7.cell? ⟨g, j * 2 + 1, none⟩ = some (.int .i64 (rs[j]'hj).2) ∧ W7.frozen? ⟨g, j * 2 + 1, none⟩ = false) ∧
      ∀ v, Below w3.heap.size w3 (W7.setCell ⟨g, j * 2 + 1, none⟩ (.int .i64 v)) ∧ (W7.setCell ⟨g, j * 2 + 1, none⟩ (.int .i64 v)).heap[w6.heap.size]? = some (.cells (opCells i0 i1 kd a tx (.slice (some ⟨g, 0, none⟩) rs.length c2) t0 t1 on) 31 (0, 0)) ∧
        Ranges (W7.setCell ⟨g, j * 2 + 1, none⟩ (.int .i64 v)) (some ⟨g, 0, none⟩) rs.length (rs.set j ((rs[j]'hj).1, v)) := by
  rcases ho.2 with ⟨hn, h0⟩ | ⟨g, cap, cur, he, hbg, hg, hcap, hmax, hcur, htake⟩
  · omega
  · cases he
    have hlt := (own_lt hv) g rfl
    have hcells := fun j u (hu : (rsCells rs)[j]? = some u) => ho.cells (g := g) rfl j u hu
    have hg2 := rsCells_get rs j hj
    have hsz : j * 2 + 1 < cur.size := by omega
    refine ⟨g, rfl, hlt.2, ⟨?_, Lib.frozen_of_heap hg _⟩, fun v => ⟨hb.setCell (p := ⟨g, j * 2 + 1, none⟩) hbg _, ?_, ?_⟩⟩
    · have := hcells _ _ hg2.2
      simpa [Addr.add] using this
    · have : g ≠ w6.heap.size := by omega
      simp [World.setCell, Array.getElem?_modify, this, hx]
    · refine ⟨by simp, fun _ => ⟨g, 0, rfl, fun k hk => ?_⟩⟩
      have hk' : k < rs.length := by simpa using hk
      have hk2 := rsCells_get rs k hk'
      have q1 := hcells _ _ hk2.1
      have q2 := hcells _ _ hk2.2
      have e1 : ((⟨g, 0, none⟩ : Addr).add (k * 2)) = ⟨g, 0 + k * 2, none⟩ := by rw [Nat.zero_add]; unfold Addr.add; split <;> simp_all
      have e2 : ((⟨g, 0, none⟩ : Addr).add (k * 2 + 1)) = ⟨g, 0 + k * 2 + 1, none⟩ := by simp [Addr.add]
      rw [e1] at q1
      rw [e2] at q2
      simp only [World.cell?, World.setCell] at q1 q2 ⊢
      rw [hg] at q1 q2
      by_cases hkj : k = j
      · subst hkj
        simp only [List.getElem_set_self]
        simp [Array.getElem?_modify, hg] at q1 q2 ⊢
        exact ⟨q1, by first | omega | simp [hsz]⟩
      · rw [List.getElem_set_ne (by omega)]
        simp [Array.getElem?_modify, hg] at q1 q2 ⊢
        have z1 : ¬ j * 2 + 1 = k * 2 := by omega
        have z2 : ¬ j * 2 = k * 2 := by omega
        simp [Array.getElem?_setIfInBounds, z1, z2]
        exact ⟨q1, q2⟩
theorem RightOp.hi_le {L : OpL} {T : Nat} {num : Int} (h : RightOp L T num) : ∀ r ∈ L.rs, 0 ≤ r.2 ∧ r.2 ≤ T := fun r hr => by
  rcases h.kind with ⟨_, _, _, h4⟩ | ⟨_, _, _, h4, h5, _⟩
  · rw [h4] at hr; cases hr
  · have := up_low h4 r hr
    have := h5 r hr
    omega
attribute [local go_sem] Fresh.new Fresh.new2 Fresh.new1 Fresh.new_r Fresh.new1_r Fresh.new2_r
attribute [local go_sem ↓] stO_fold ldO_fold
attribute [local go_sem] stO_run World.cell?_alloc_some
set_option maxRecDepth 100000 in
set_option maxHeartbeats 8000000 in
theorem equal_walk (w : World) (va vb : Value) (kd at_ : Int) (A1 : Option Addr) (n1 c1 : Nat) (xs1 : List Int) (A2 : Option Addr) (n2 c2 : Nat) (xs2 : List Int) (kd' at' : Int) (A3 : Option Addr) (n3 c3 : Nat) (xs3 : List Int) (A4 : Option Addr) (n4 c4 : Nat) (xs4 : List Int) (tot : Int)
    (h1 : DeedIn w va kd at_ A1 n1 c1 xs1 A2 n2 c2 xs2) (h2 : DeedIn w vb kd' at' A3 n3 c3 xs3 A4 n4 c4 xs4) (hE : EnvO w) :
    Calls Tryd.prog 5 #[va, vb, .int .i64 tot] w fun e w' => e = .returned (.bool true) ∧ Below w.heap.size w w' := by
  obtain ⟨rfl, q1, q2⟩ := h1
  obtain ⟨rfl, q3, q4⟩ := h2
  have HQ1 := Lib.hid q1
  have HQ2 := Lib.hid q2
  have HQ3 := Lib.hid q3
  have HQ4 := Lib.hid q4
  have HE := Lib.hid hE
  clear q1 q2 q3 q4 hE
  obtain ⟨W0, hW0⟩ : ∃ W0, (w.alloc (.cells #[.int .i64 kd, .int .i64 at_, .slice A1 n1 c1, .slice A2 n2 c2] 40)).alloc (.cells #[.int .i64 kd', .int .i64 at', .slice A3 n3 c3, .slice A4 n4 c4] 40) = W0 := ⟨_, rfl⟩
  have hb0 : Below w.heap.size w W0 := by rw [← hW0]; exact below_alloc2 _ _ _
  have x1 : W0.heap[w.heap.size]? = some (.cells #[.int .i64 kd, .int .i64 at_, .slice A1 n1 c1, .slice A2 n2 c2] 40 (0, 0)) := by rw [← hW0]; exact two_fst w _ _
  have x2 : W0.heap[w.heap.size + 1]? = some (.cells #[.int .i64 kd', .int .i64 at', .slice A3 n3 c3, .slice A4 n4 c4] 40 (0, 0)) := by rw [← hW0]; exact two_new2 w _ _
  have HB0 := Lib.hid hb0
  have HX1 := Lib.hid x1
  have HX2 := Lib.hid x2
  have HW0 := Lib.hid hW0
  clear hb0 x1 x2 hW0
  go_enter Tryd.func5, Tryd.ntmps5
  go_wp2_with fail
  rw [HW0.out]
  refine (pick_exact tot 64 _ (by decide)).mono ?_
  rintro e w' ⟨⟨r, rfl, r0, r1, _⟩, hw⟩
  obtain rfl := hw.symm
  obtain ⟨T, rfl⟩ : ∃ T : Nat, r = T := ⟨r.toNat, by omega⟩
  have HT := Lib.hid (show T ≤ 63 by omega)
  clear HW0 hw r0 r1
  have y0 : W0.cell? ⟨w.heap.size, 0, none⟩ = some (.int .i64 kd) := by rw [Lib.cell_of_heap HX1.out]; rfl
  have y1 : W0.cell? ⟨w.heap.size, 1, none⟩ = some (.int .i64 at_) := by rw [Lib.cell_of_heap HX1.out]; rfl
  have y2 : W0.cell? ⟨w.heap.size, 2, none⟩ = some (.slice A1 n1 c1) := by rw [Lib.cell_of_heap HX1.out]; rfl
  have y3 : W0.cell? ⟨w.heap.size, 3, none⟩ = some (.slice A2 n2 c2) := by rw [Lib.cell_of_heap HX1.out]; rfl
  have z0 : W0.cell? ⟨w.heap.size + 1, 0, none⟩ = some (.int .i64 kd') := by rw [Lib.cell_of_heap HX2.out]; rfl
  have z1 : W0.cell? ⟨w.heap.size + 1, 1, none⟩ = some (.int .i64 at') := by rw [Lib.cell_of_heap HX2.out]; rfl
  have z2 : W0.cell? ⟨w.heap.size + 1, 2, none⟩ = some (.slice A3 n3 c3) := by rw [Lib.cell_of_heap HX2.out]; rfl
  have z3 : W0.cell? ⟨w.heap.size + 1, 3, none⟩ = some (.slice A4 n4 c4) := by rw [Lib.cell_of_heap HX2.out]; rfl
  have CR : ∀ (k t : Int) (B1 : Option Addr) (m1 d1 : Nat) (ys1 : List Int) (B2 : Option Addr) (m2 d2 : Nat) (ys2 : List Int), Reads32 w B1 m1 ys1 → ReadsI w B2 m2 ys2 → ∀ W, Below W0.heap.size W0 W → Calls Tryd.prog 13 #[.agg #[.int .i64 k, .int .i64 t, .slice B1 m1 d1, .slice B2 m2 d2], .int .i64 T, .int .i64 1] W fun e W' =>
      (∃ (L : OpL) (A : Option Addr) (c : Nat), e = .returned (.agg #[.int .i64 L.i0, .int .i64 L.i1, .int .i64 L.kd, .int .i64 L.a, .string ⟨L.tx.toArray⟩, .slice A L.rs.length c, .int .i64 L.t0, .int .i64 L.t1, .bool L.on]) ∧ Hid (RightOp L T 1 ∧ Ranges W' A L.rs.length L.rs ∧ (∀ b off, A = some ⟨b, off, none⟩ → 0 < L.rs.length → W.heap.size ≤ b) ∧ (L.rs = [] → A = none ∧ c = 0)) ∧ Hid (Below W.heap.size W W')) ∧ Below W0.heap.size W0 W' ∧ (∀ b, Fresh W b → Fresh W' b) ∧
      (W'.cell? ⟨w.heap.size, 0, none⟩ = some (.int .i64 kd) ∧ W'.cell? ⟨w.heap.size, 1, none⟩ = some (.int .i64 at_) ∧ W'.cell? ⟨w.heap.size, 2, none⟩ = some (.slice A1 n1 c1) ∧ W'.cell? ⟨w.heap.size, 3, none⟩ = some (.slice A2 n2 c2)) ∧
      (W'.cell? ⟨w.heap.size + 1, 0, none⟩ = some (.int .i64 kd') ∧ W'.cell? ⟨w.heap.size + 1, 1, none⟩ = some (.int .i64 at') ∧ W'.cell? ⟨w.heap.size + 1, 2, none⟩ = some (.slice A3 n3 c3) ∧ W'.cell? ⟨w.heap.size + 1, 3, none⟩ = some (.slice A4 n4 c4)) := by
    intro k t B1 m1 d1 ys1 B2 m2 d2 ys2 g1 g2 W hW
    have hw := HB0.out.trans (hW.mono HB0.out.size)
    refine (rightDeed_any k t B1 m1 d1 ys1 B2 m2 d2 ys2 T 1 W (by have := HT.out; omega) (g1.below hw) (g2.below hw)).mono ?_
    rintro e W' ⟨⟨L, A, c, rfl, hR, hr, hf, hn⟩, hb⟩
    have hb' := hW.trans (hb.mono hW.size)
    exact ⟨⟨L, A, c, rfl, Lib.hid ⟨hR, hr, hf, hn⟩, Lib.hid hb⟩, hb', fun b h => h.below hb, ⟨cell_below hb' y0, cell_below hb' y1, cell_below hb' y2, cell_below hb' y3⟩, ⟨cell_below hb' z0, cell_below hb' z1, cell_below hb' z2, cell_below hb' z3⟩⟩
  have C1 := Lib.hid (CR kd at_ A1 n1 c1 xs1 A2 n2 c2 xs2 HQ1.out HQ2.out)
  have C2 := Lib.hid (CR kd' at' A3 n3 c3 xs3 A4 n4 c4 xs4 HQ3.out HQ4.out)
  clear CR
  go_upto_region 2 with fail
  go_cut [7, 8] (fun p q wx => ∃ B7 B8 L M A A' c c', p = .pointer (some ⟨B7, 0, none⟩) ∧ q = .pointer (some ⟨B8, 0, none⟩) ∧ TwoOps W0 wx T B7 B8 L M A A' c c')
  case first =>
    have zz0 : w.heap.size + 1 < W0.heap.size := World.block_lt_of_cell? W0 _ z0
    go_region_held3 (fun w' => w'.cell? ⟨w.heap.size, 0, none⟩ = some (.int .i64 kd) ∧ w'.cell? ⟨w.heap.size, 1, none⟩ = some (.int .i64 at_) ∧ w'.cell? ⟨w.heap.size, 2, none⟩ = some (.slice A1 n1 c1) ∧ w'.cell? ⟨w.heap.size, 3, none⟩ = some (.slice A2 n2 c2) ∧ w'.cell? ⟨w.heap.size + 1, 0, none⟩ = some (.int .i64 kd') ∧ w'.cell? ⟨w.heap.size + 1, 1, none⟩ = some (.int .i64 at') ∧ w'.cell? ⟨w.heap.size + 1, 2, none⟩ = some (.slice A3 n3 c3) ∧ w'.cell? ⟨w.heap.size + 1, 3, none⟩ = some (.slice A4 n4 c4))
      (first | exact ⟨u0, u1, u2, u3, v0, v1, v2, v3⟩ | exact ⟨s0, s1, s2, s3, t0, t1, t2, t3⟩ | exact dc_row (by assumption) (by omega) | exact dc_alloc (by assumption) | exact dc_row ⟨by assumption, by assumption, by assumption, by assumption, by assumption, by assumption, by assumption, by assumption⟩ (by omega) | exact dc_alloc ⟨by assumption, by assumption, by assumption, by assumption, by assumption, by assumption, by assumption, by assumption⟩ | go_keep)
      (first
      | ((with_reducible refine (C1.out _ (by first | exact Below.refl _ _ | exact (Below.refl _ _).drew | exact (bel_al (Below.refl _ _) _).drew | exact (bel_al (bel_al (Below.refl _ _) _) _).drew)).mono ?_); rintro e w5 ⟨⟨L1, D1, e1, rfl, hl1, hc1⟩, hb1, hz1, ⟨s0, s1, s2, s3⟩, ⟨t0, t1, t2, t3⟩⟩; have zz1 := hb1.size;
          (first
            | (have p1 : Fresh w5 (W0.heap.size + 1) := hz1 _ (Fresh.new2 _ _ _ _ _ _ _ _ _ _ _).drew
               have p2 : Fresh w5 W0.heap.size := hz1 _ (Fresh.new1 _ _ _ _ _ _ _ _ _ _ _).drew
               obtain ⟨k1, k2, k3, k4, k5⟩ := p1.six
               obtain ⟨m1, m2, m3, m4, m5⟩ := p2.six)
            | (have p1 : Fresh w5 W0.heap.size := hz1 _ (Fresh.new _ _ _ _ _ _ _ _ _ _).drew
               obtain ⟨k1, k2, k3, k4, k5⟩ := p1.six)
            | skip); clear hz1)
      | ((with_reducible refine (C2.out _ (by first | exact hb1 | exact bel_al hb1 _ | exact bel_al (bel_al hb1 _) _)).mono ?_); rintro e w6 ⟨⟨L2, D2, e2, rfl, hl2, hc2⟩, hb2, hz2, ⟨u0, u1, u2, u3⟩, ⟨v0, v1, v2, v3⟩⟩; have zz2 := hb2.size;
          (first
            | (have q1 := hz2 _ p1
               have q2 := hz2 _ p2
               obtain ⟨k1, k2, k3, k4, k5⟩ := q1.six
               obtain ⟨m1, m2, m3, m4, m5⟩ := q2.six)
            | (have q1 := hz2 _ (p1.old _)
               have q2 : Fresh w6 w5.heap.size := hz2 _ (Fresh.new _ _ _ _ _ _ _ _ _ _)
               obtain ⟨k1, k2, k3, k4, k5⟩ := q1.six
               obtain ⟨m1, m2, m3, m4, m5⟩ := q2.six)
            | (have q1 := hz2 _ p1
               obtain ⟨k1, k2, k3, k4, k5⟩ := q1.six)
            | (have q1 : Fresh w6 (w5.heap.size + 1) := hz2 _ (Fresh.new2 _ _ _ _ _ _ _ _ _ _ _)
               have q2 : Fresh w6 w5.heap.size := hz2 _ (Fresh.new1 _ _ _ _ _ _ _ _ _ _ _)
               obtain ⟨k1, k2, k3, k4, k5⟩ := q1.six
               obtain ⟨m1, m2, m3, m4, m5⟩ := q2.six)
            | (have q1 : Fresh w6 w5.heap.size := hz2 _ (Fresh.new _ _ _ _ _ _ _ _ _ _)
               obtain ⟨k1, k2, k3, k4, k5⟩ := q1.six)
            | skip); clear hz2))
    all_goals (go_wp2_with fail)
    all_goals go_meet
    all_goals (have z1 := hc1.out.size; have z2 := hc2.out.size; (try simp only [sz_drew, sz_al] at z1); (try simp only [sz_drew, sz_al] at z2))
    all_goals (exact ⟨_, _, L1, L2, D1, D2, e1, e2, rfl, rfl, two_fin
      (by first | exact (Below.refl _ _).drew | exact (bel_al (Below.refl _ _) _).drew | exact (bel_al (bel_al (Below.refl _ _) _) _).drew) hc1.out
      (by (first | exact Below.refl _ _ | exact bel_al (Below.refl _ _) _ | exact bel_al (bel_al (Below.refl _ _) _) _)) hc2.out (by (first | exact Below.refl _ _ | exact bel_al (Below.refl _ _) _ | exact bel_al (bel_al (Below.refl _ _) _) _)) (by (first | exact q1 | exact q2 | exact k1 _ | exact m1 _ | exact k2 _ _ | exact m2 _ _ | exact (Fresh.new _ _ _ _ _ _ _ _ _ _) | exact (Fresh.new2 _ _ _ _ _ _ _ _ _ _ _) | exact (Fresh.new1 _ _ _ _ _ _ _ _ _ _ _))) (by (first | exact q1 | exact q2 | exact k1 _ | exact m1 _ | exact k2 _ _ | exact m2 _ _ | exact (Fresh.new _ _ _ _ _ _ _ _ _ _) | exact (Fresh.new2 _ _ _ _ _ _ _ _ _ _ _) | exact (Fresh.new1 _ _ _ _ _ _ _ _ _ _ _))) (by omega) hl1.out.1 hl2.out.1 hl1.out.2.1 hl2.out.2.1 hl1.out.2.2.2 hl1.out.2.2.1 hl2.out.2.2.1
      (by (try simp only [sz_drew, sz_al]); omega) (by (try simp only [sz_drew, sz_al]); omega)⟩)
  case rest =>
    obtain ⟨B7, B8, L, M, A, A', c, c', rfl, rfl, hT⟩ := hcut
    have HTO := Lib.hid hT
    clear hT
    have HTT : T ≤ 63 := HT.out
    have x7 := ldO_run HTO.out.b7
    go_wp2_with fail
    refine (PrintL_ok L A c _ (by have := (HTO.out.l.small (by omega)).1; omega) HTO.out.r7 ((HE.out.below HB0.out).below HTO.out.below) (HTO.out.l.own (by omega))).mono ?_
    rintro e w2 ⟨rfl, hb2⟩
    have HTO2 := Lib.hid (HTO.out.step hb2)
    clear hb2 x7 HTO
    have x8 := ldO_run HTO2.out.b8
    go_wp2_with fail
    refine (PrintL_ok M A' c' _ (by have := (HTO2.out.m.small (by omega)).1; omega) HTO2.out.r8 ((HE.out.below HB0.out).below HTO2.out.below) (HTO2.out.m.own (by omega))).mono ?_
    rintro e w3 ⟨rfl, hb3⟩
    have HT3 := Lib.hid (HTO2.out.step hb3)
    clear hb3 x8 HTO2
    obtain ⟨s1, hs1⟩ : ∃ s, (⟨L.line.toArray⟩ : ByteArray) = s := ⟨_, rfl⟩
    obtain ⟨s2, hs2⟩ : ∃ s, (⟨M.line.toArray⟩ : ByteArray) = s := ⟨_, rfl⟩
    have hs : (s1.toList == s2.toList) = decide (L = M) := by
      rw [← hs1, ← hs2, toList_eq, toList_eq]
      by_cases h : L = M
      · rw [h]; simp
      · have : ¬ L.line = M.line := fun e => h ((line_iff HT3.out.l HT3.out.m).1 e)
        simp [h, this]
    rw [hs1, hs2]
    have hlen := (HT3.out.l.small (show T ≤ 32768 by omega)).2
    obtain ⟨bq, hbq⟩ : ∃ b, decide (L = M) = b := ⟨_, rfl⟩
    have HX : ∀ W, Below w3.heap.size w3 W → (ldO (.pointer (some ⟨B7, 0, none⟩))).run Tryd.prog W = .ok (.agg #[.int .i64 L.i0, .int .i64 L.i1, .int .i64 L.kd, .int .i64 L.a, .string ⟨L.tx.toArray⟩, .slice A L.rs.length c, .int .i64 L.t0, .int .i64 L.t1, .bool L.on]) W := fun W h => ldO_run (HT3.out.step h).b7
    have E1 : ∀ W, Below w3.heap.size w3 W → Calls Tryd.prog 15 #[.agg #[.int .i64 L.i0, .int .i64 L.i1, .int .i64 L.kd, .int .i64 L.a, .string ⟨L.tx.toArray⟩, .slice A L.rs.length c, .int .i64 L.t0, .int .i64 L.t1, .bool L.on], .agg #[.int .i64 M.i0, .int .i64 M.i1, .int .i64 M.kd, .int .i64 M.a, .string ⟨M.tx.toArray⟩, .slice A' M.rs.length c', .int .i64 M.t0, .int .i64 M.t1, .bool M.on]] W fun e W' => e = .returned (.bool bq) ∧ Below w3.heap.size w3 W' ∧ (ldO (.pointer (some ⟨B7, 0, none⟩))).run Tryd.prog W' = .ok (.agg #[.int .i64 L.i0, .int .i64 L.i1, .int .i64 L.kd, .int .i64 L.a, .string ⟨L.tx.toArray⟩, .slice A L.rs.length c, .int .i64 L.t0, .int .i64 L.t1, .bool L.on]) W' := by
      intro W hW
      refine (Equal_any L M A A' c c' W (by omega) (HT3.out.step hW).r7 (HT3.out.step hW).r8).mono ?_
      rintro e W' ⟨rfl, hb⟩
      have hb' := hW.trans (hb.mono hW.size)
      exact ⟨by rw [hbq], hb', HX W' hb'⟩
    have C1 : ∀ W, Below w3.heap.size w3 W → Calls Tryd.prog 16 #[.agg #[.int .i64 L.i0, .int .i64 L.i1, .int .i64 L.kd, .int .i64 L.a, .string ⟨L.tx.toArray⟩, .slice A L.rs.length c, .int .i64 L.t0, .int .i64 L.t1, .bool L.on]] W fun e W' => ∃ A2 c2, e = .returned (.agg #[.int .i64 L.i0, .int .i64 L.i1, .int .i64 L.kd, .int .i64 L.a, .string ⟨L.tx.toArray⟩, .slice A2 L.rs.length c2, .int .i64 L.t0, .int .i64 L.t1, .bool L.on]) ∧ Below w3.heap.size w3 W' ∧ Hid (W'.ownsRow W.heap.size 47 2 (.slice A2 L.rs.length c2) L.rs.length (rsCells L.rs)) ∧ (ldO (.pointer (some ⟨B7, 0, none⟩))).run Tryd.prog W' = .ok (.agg #[.int .i64 L.i0, .int .i64 L.i1, .int .i64 L.kd, .int .i64 L.a, .string ⟨L.tx.toArray⟩, .slice A L.rs.length c, .int .i64 L.t0, .int .i64 L.t1, .bool L.on]) W' := by
      intro W hW
      refine (Clone_any L A c W (by omega) (HT3.out.step hW).r7 HT3.out.n7).mono ?_
      rintro e W' ⟨⟨v, rfl, hv⟩, hb⟩
      have hb' := hW.trans (hb.mono hW.size)
      obtain ⟨A2, c2, rfl, _⟩ := own_ranges hv
      exact ⟨A2, c2, rfl, hb', Lib.hid hv, HX W' hb'⟩
    have E2 : ∀ W b A2 c2, Below w3.heap.size w3 W → W.ownsRow b 47 2 (.slice A2 L.rs.length c2) L.rs.length (rsCells L.rs) → Calls Tryd.prog 15 #[.agg #[.int .i64 L.i0, .int .i64 L.i1, .int .i64 L.kd, .int .i64 L.a, .string ⟨L.tx.toArray⟩, .slice A L.rs.length c, .int .i64 L.t0, .int .i64 L.t1, .bool L.on], .agg #[.int .i64 L.i0, .int .i64 L.i1, .int .i64 L.kd, .int .i64 L.a, .string ⟨L.tx.toArray⟩, .slice A2 L.rs.length c2, .int .i64 L.t0, .int .i64 L.t1, .bool L.on]] W fun e W' => e = .returned (.bool true) ∧ Below w3.heap.size w3 W' := by
      intro W b A2 c2 hW hv
      obtain ⟨A3, c3, he, hr⟩ := own_ranges hv
      cases he
      refine (Equal_any L L A A2 c c2 W (by omega) (HT3.out.step hW).r7 hr).mono ?_
      rintro e W' ⟨rfl, hb⟩
      exact ⟨by simp, hW.trans (hb.mono hW.size)⟩
    have HE2 := Lib.hid E2
    have HE1 := Lib.hid E1
    have HC1 := Lib.hid C1
    have HHX := Lib.hid HX
    have HX8 : ∀ W, Below w3.heap.size w3 W → (ldO (.pointer (some ⟨B8, 0, none⟩))).run Tryd.prog W = .ok (.agg #[.int .i64 M.i0, .int .i64 M.i1, .int .i64 M.kd, .int .i64 M.a, .string ⟨M.tx.toArray⟩, .slice A' M.rs.length c', .int .i64 M.t0, .int .i64 M.t1, .bool M.on]) W := fun W h => ldO_run (HT3.out.step h).b8
    have HH8 := Lib.hid HX8
    clear HX8
    have x7 := HX w3.drew (Below.refl _ _).drew
    have x8 := ldO_run (HT3.out.step (Below.refl _ _).drew).b8
    clear E1 E2 C1 HX hlen hs1 hs2
    rw [hbq] at hs
    go_upto_region 5 with fail
    go_cut [56] (fun v wx => v = .bool false ∧ Below w3.heap.size w3 wx)
    case first =>
      go_region_held3 (fun w' => (ldO (.pointer (some ⟨B7, 0, none⟩))).run Tryd.prog w' = .ok (.agg #[.int .i64 L.i0, .int .i64 L.i1, .int .i64 L.kd, .int .i64 L.a, .string ⟨L.tx.toArray⟩, .slice A L.rs.length c, .int .i64 L.t0, .int .i64 L.t1, .bool L.on]) w' ∧ (ldO (.pointer (some ⟨B8, 0, none⟩))).run Tryd.prog w' = .ok (.agg #[.int .i64 M.i0, .int .i64 M.i1, .int .i64 M.kd, .int .i64 M.a, .string ⟨M.tx.toArray⟩, .slice A' M.rs.length c', .int .i64 M.t0, .int .i64 M.t1, .bool M.on]) w')
        (first | exact ⟨x7, x8⟩ | exact ⟨HHX.out _ hb8, HH8.out _ hb8⟩ | exact ⟨HHX.out _ hb6, HH8.out _ hb6⟩ | exact ⟨HHX.out _ hb5, HH8.out _ hb5⟩)
        (first
        | (go_simp; (with_reducible refine (HE1.out _ (by first | exact (Below.refl _ _).drew | assumption)).mono ?_); rintro e w5 ⟨rfl, hb5, x75⟩; dsimp only)
        | (go_simp; (with_reducible refine (HC1.out _ (by first | exact (Below.refl _ _).drew | assumption)).mono ?_); rintro e w6 ⟨A2, c2, rfl, hb6, hv, x76⟩; dsimp only)
        | (go_simp; (with_reducible refine (HE2.out _ _ A2 c2 (by assumption) hv.out).mono ?_); rintro e w8 ⟨rfl, hb8⟩; dsimp only))
      all_goals (go_wp2_with fail)
      all_goals
        go_meet
        exact ⟨rfl, by assumption⟩
    case rest =>
      obtain ⟨rfl, hb4⟩ := hcut
      have HB4 := Lib.hid hb4
      clear hb4 x7 x8
      go_wp2_with fail
      go_loopw [13] (fun i wr => ∃ k : Nat, i = .int .i64 k ∧ k ≤ 8 ∧ Below w3.heap.size w3 wr) (fun i _ => 8 - (intOf i).toNat)
      case atStart => exact ⟨0, rfl, by omega, HB4.out⟩
      case round =>
        obtain ⟨k, rfl, hk, hbr⟩ := hrel
        have HBR := Lib.hid hbr
        clear hbr
        have HR4 := Lib.hid (HT3.out.step HBR.out)
        have x7 := HHX.out wr HBR.out
        by_cases hlt : k < 8
        · go_wp2_with fail
          refine (HC1.out wr HBR.out).mono ?_
          rintro e w6 ⟨A2, c2, rfl, hb6, hv, x76⟩
          clear x76 x7
          go_upto_region 11 with fail
          obtain ⟨W7, hW7⟩ : ∃ W7, (w6.alloc (.cells #[.int .i64 0, .int .i64 0, .int .i64 0, .int .i64 0, .string ⟨#[]⟩, .slice none 0 0, .int .i64 0, .int .i64 0, .bool false] 31)).setRow w6.heap.size #[.int .i64 L.i0, .int .i64 L.i1, .int .i64 L.kd, .int .i64 L.a, .string ⟨L.tx.toArray⟩, .slice A2 L.rs.length c2, .int .i64 L.t0, .int .i64 L.t1, .bool L.on] = W7 := ⟨_, rfl⟩
          rw [hW7]
          have hx : W7.heap[w6.heap.size]? = some (.cells (opCells L.i0 L.i1 L.kd L.a ⟨L.tx.toArray⟩ (.slice A2 L.rs.length c2) L.t0 L.t1 L.on) 31 (0, 0)) := by rw [← hW7]; exact setRow_heap _ _ _ _ _ _ (heap_alloc_new w6 _)
          have hb7 : Below w6.heap.size w6 W7 := by rw [← hW7]; exact below_setRow (below_alloc1 w6 _) (Nat.le_refl _) _
          have hg7 : ∀ i v, Below w3.heap.size w3 (W7.setCell ⟨w6.heap.size, i, none⟩ v) := fun i v => (hb6.trans (hb7.mono hb6.size)).setCell (p := ⟨w6.heap.size, i, none⟩) hb6.size v
          have hr7 : ∀ i v, Ranges (W7.setCell ⟨w6.heap.size, i, none⟩ v) A2 L.rs.length L.rs := fun i v => by
            obtain ⟨_, _, he, hr⟩ := own_ranges hv.out
            cases he
            exact hr.below (hb7.setCell (p := ⟨w6.heap.size, i, none⟩) (Nat.le_refl _) v)
          have HV7 := Lib.hid (own_below (own_weak' hv.out HBR.out.size) hb7)
          have HOL := Lib.hid (And.intro hb6.size (own_lt (own_weak' hv.out HBR.out.size)))
          have HB7 := Lib.hid (hb6.trans (hb7.mono hb6.size))
          have HR7 := Lib.hid hr7
          have HX7 := Lib.hid hx
          have HG7 := Lib.hid hg7
          obtain ⟨b, hb⟩ : ∃ b, w6.heap.size = b := ⟨_, rfl⟩
          rw [hb] at HX7 HG7 HR7 HOL ⊢
          clear hW7 hx hb7 hg7 hr7 hv hb6 hb
          have c0 := Lib.cell_of_heap HX7.out 0
          have c1' := Lib.cell_of_heap HX7.out 1
          have c2' := Lib.cell_of_heap HX7.out 2
          have c3 := Lib.cell_of_heap HX7.out 3
          have c4 := Lib.cell_of_heap HX7.out 4
          have c5 := Lib.cell_of_heap HX7.out 5
          have c6 := Lib.cell_of_heap HX7.out 6
          have c7 := Lib.cell_of_heap HX7.out 7
          have c8 := Lib.cell_of_heap HX7.out 8
          have f := Lib.frozen_of_heap HX7.out
          simp [opCells] at c0 c1' c2' c3 c4 c5 c6 c7 c8
          obtain rfl | rfl | rfl | rfl | rfl | rfl | rfl | rfl : k = 0 ∨ k = 1 ∨ k = 2 ∨ k = 3 ∨ k = 4 ∨ k = 5 ∨ k = 6 ∨ k = 7 := by omega
          · have x7 := HHX.out _ (HG7.out 0 (.int .i64 (wrap64 (L.i0 + 1))))
            obtain ⟨M', hM⟩ : ∃ M' : OpL, (OpL.mk (wrap64 (L.i0 + 1)) L.i1 L.kd L.a L.tx L.rs L.t0 L.t1 L.on) = M' := ⟨_, rfl⟩
            have hne : ¬ L = M' := fun e => by
              have e1 : L.i0 = wrap64 (L.i0 + 1) := (congrArg OpL.i0 e).trans (by rw [← hM])
              have := HT3.out.l.id
              unfold wrap64 at e1; omega
            obtain ⟨W8, hW8⟩ : ∃ W8, W7.setCell ⟨b, 0, none⟩ (.int .i64 (wrap64 (L.i0 + 1))) = W8 := ⟨_, rfl⟩
            have h8 : W8.heap[b]? = some (.cells (opCells M'.i0 M'.i1 M'.kd M'.a ⟨M'.tx.toArray⟩ (.slice A2 M'.rs.length c2) M'.t0 M'.t1 M'.on) 31 (0, 0)) := by rw [← hW8, ← hM]; exact box_put HX7.out 0 _
            have hr8 : Ranges W8 A2 M'.rs.length M'.rs := by rw [← hM, ← hW8]; exact HR7.out 0 _
            have hb8 : Below w3.heap.size w3 W8 := by rw [← hW8]; exact HG7.out _ _
            have hl8 : M'.rs.length ≤ 1048577 := by rw [← hM]; have := (HT3.out.l.small (show T ≤ 32768 by omega)).2; show L.rs.length ≤ _; omega
            have H8 := Lib.hid h8
            have HR8 := Lib.hid hr8
            have HB8 := Lib.hid hb8
            have HNE := Lib.hid hne
            have HL8 := Lib.hid hl8
            go_upto_region 28 with fail
            (try rw [hW8])
            rw [hW8] at x7
            have y7 := ldO_run H8.out
            clear hW8 hM hne h8 hr8 hb8 hl8 c0 c1' c2' c3 c4 c5 c6 c7 c8 f
            go_wp2_with fail
            refine (Equal_any L M' A A2 c c2 _ (by have := (HT3.out.l.small (show T ≤ 32768 by omega)).2; omega) (HT3.out.step HB8.out).r7 HR8.out).mono ?_
            rintro e w9 ⟨rfl, hb9⟩
            have H9 := Lib.hid (HB8.out.trans (hb9.mono HB8.out.size))
            clear x7 y7
            have x7 := HHX.out w9 H9.out
            have y7 := ldO_run ((hb9.block _ (Array.getElem?_eq_some_iff.1 H8.out).1).trans H8.out)
            have HR9 := Lib.hid (HR8.out.below hb9)
            have hd1 : decide (L = M') = false := decide_eq_false HNE.out
            have hd2 : decide (M' = L) = false := decide_eq_false (fun e => HNE.out e.symm)
            clear hb9
            rw [hd1]
            go_wp2_with fail
            refine (Equal_any M' L A2 A c2 c _ HL8.out HR9.out (HT3.out.step H9.out).r7).mono ?_
            rintro e w10 ⟨rfl, hb10⟩
            rw [hd2]
            have H10 := Lib.hid (H9.out.trans (hb10.mono H9.out.size))
            clear hb10 x7 y7 hd1 hd2
            go_wp2_with fail
            go_roundw
            case rel => exact ⟨1, rfl, by omega, H10.out⟩
            case measure => simp [intOf]
          · have x7 := HHX.out _ (HG7.out 1 (.int .i64 (wrap64 (L.i1 - 1))))
            obtain ⟨M', hM⟩ : ∃ M' : OpL, (OpL.mk L.i0 (wrap64 (L.i1 - 1)) L.kd L.a L.tx L.rs L.t0 L.t1 L.on) = M' := ⟨_, rfl⟩
            have hne : ¬ L = M' := fun e => by
              have e1 : L.i1 = wrap64 (L.i1 - 1) := (congrArg OpL.i1 e).trans (by rw [← hM])
              have := HT3.out.l.id
              unfold wrap64 at e1; omega
            obtain ⟨W8, hW8⟩ : ∃ W8, W7.setCell ⟨b, 1, none⟩ (.int .i64 (wrap64 (L.i1 - 1))) = W8 := ⟨_, rfl⟩
            have h8 : W8.heap[b]? = some (.cells (opCells M'.i0 M'.i1 M'.kd M'.a ⟨M'.tx.toArray⟩ (.slice A2 M'.rs.length c2) M'.t0 M'.t1 M'.on) 31 (0, 0)) := by rw [← hW8, ← hM]; exact box_put HX7.out 1 _
            have hr8 : Ranges W8 A2 M'.rs.length M'.rs := by rw [← hM, ← hW8]; exact HR7.out 1 _
            have hb8 : Below w3.heap.size w3 W8 := by rw [← hW8]; exact HG7.out _ _
            have hl8 : M'.rs.length ≤ 1048577 := by rw [← hM]; have := (HT3.out.l.small (show T ≤ 32768 by omega)).2; show L.rs.length ≤ _; omega
            have H8 := Lib.hid h8
            have HR8 := Lib.hid hr8
            have HB8 := Lib.hid hb8
            have HNE := Lib.hid hne
            have HL8 := Lib.hid hl8
            go_upto_region 28 with fail
            (try rw [hW8])
            rw [hW8] at x7
            have y7 := ldO_run H8.out
            clear hW8 hM hne h8 hr8 hb8 hl8 c0 c1' c2' c3 c4 c5 c6 c7 c8 f
            go_wp2_with fail
            refine (Equal_any L M' A A2 c c2 _ (by have := (HT3.out.l.small (show T ≤ 32768 by omega)).2; omega) (HT3.out.step HB8.out).r7 HR8.out).mono ?_
            rintro e w9 ⟨rfl, hb9⟩
            have H9 := Lib.hid (HB8.out.trans (hb9.mono HB8.out.size))
            clear x7 y7
            have x7 := HHX.out w9 H9.out
            have y7 := ldO_run ((hb9.block _ (Array.getElem?_eq_some_iff.1 H8.out).1).trans H8.out)
            have HR9 := Lib.hid (HR8.out.below hb9)
            have hd1 : decide (L = M') = false := decide_eq_false HNE.out
            have hd2 : decide (M' = L) = false := decide_eq_false (fun e => HNE.out e.symm)
            clear hb9
            rw [hd1]
            go_wp2_with fail
            refine (Equal_any M' L A2 A c2 c _ HL8.out HR9.out (HT3.out.step H9.out).r7).mono ?_
            rintro e w10 ⟨rfl, hb10⟩
            rw [hd2]
            have H10 := Lib.hid (H9.out.trans (hb10.mono H9.out.size))
            clear hb10 x7 y7 hd1 hd2
            go_wp2_with fail
            go_roundw
            case rel => exact ⟨2, rfl, by omega, H10.out⟩
            case measure => simp [intOf]
          · have x7 := HHX.out _ (HG7.out 2 (.int .i64 (wrap64 (L.kd + 1))))
            obtain ⟨M', hM⟩ : ∃ M' : OpL, (OpL.mk L.i0 L.i1 (wrap64 (L.kd + 1)) L.a L.tx L.rs L.t0 L.t1 L.on) = M' := ⟨_, rfl⟩
            have hne : ¬ L = M' := fun e => by
              have e1 : L.kd = wrap64 (L.kd + 1) := (congrArg OpL.kd e).trans (by rw [← hM])
              have := HT3.out.l.kind_le
              unfold wrap64 at e1; omega
            obtain ⟨W8, hW8⟩ : ∃ W8, W7.setCell ⟨b, 2, none⟩ (.int .i64 (wrap64 (L.kd + 1))) = W8 := ⟨_, rfl⟩
            have h8 : W8.heap[b]? = some (.cells (opCells M'.i0 M'.i1 M'.kd M'.a ⟨M'.tx.toArray⟩ (.slice A2 M'.rs.length c2) M'.t0 M'.t1 M'.on) 31 (0, 0)) := by rw [← hW8, ← hM]; exact box_put HX7.out 2 _
            have hr8 : Ranges W8 A2 M'.rs.length M'.rs := by rw [← hM, ← hW8]; exact HR7.out 2 _
            have hb8 : Below w3.heap.size w3 W8 := by rw [← hW8]; exact HG7.out _ _
            have hl8 : M'.rs.length ≤ 1048577 := by rw [← hM]; have := (HT3.out.l.small (show T ≤ 32768 by omega)).2; show L.rs.length ≤ _; omega
            have H8 := Lib.hid h8
            have HR8 := Lib.hid hr8
            have HB8 := Lib.hid hb8
            have HNE := Lib.hid hne
            have HL8 := Lib.hid hl8
            go_upto_region 28 with fail
            (try rw [hW8])
            rw [hW8] at x7
            have y7 := ldO_run H8.out
            clear hW8 hM hne h8 hr8 hb8 hl8 c0 c1' c2' c3 c4 c5 c6 c7 c8 f
            go_wp2_with fail
            refine (Equal_any L M' A A2 c c2 _ (by have := (HT3.out.l.small (show T ≤ 32768 by omega)).2; omega) (HT3.out.step HB8.out).r7 HR8.out).mono ?_
            rintro e w9 ⟨rfl, hb9⟩
            have H9 := Lib.hid (HB8.out.trans (hb9.mono HB8.out.size))
            clear x7 y7
            have x7 := HHX.out w9 H9.out
            have y7 := ldO_run ((hb9.block _ (Array.getElem?_eq_some_iff.1 H8.out).1).trans H8.out)
            have HR9 := Lib.hid (HR8.out.below hb9)
            have hd1 : decide (L = M') = false := decide_eq_false HNE.out
            have hd2 : decide (M' = L) = false := decide_eq_false (fun e => HNE.out e.symm)
            clear hb9
            rw [hd1]
            go_wp2_with fail
            refine (Equal_any M' L A2 A c2 c _ HL8.out HR9.out (HT3.out.step H9.out).r7).mono ?_
            rintro e w10 ⟨rfl, hb10⟩
            rw [hd2]
            have H10 := Lib.hid (H9.out.trans (hb10.mono H9.out.size))
            clear hb10 x7 y7 hd1 hd2
            go_wp2_with fail
            go_roundw
            case rel => exact ⟨3, rfl, by omega, H10.out⟩
            case measure => simp [intOf]
          · have x7 := HHX.out _ (HG7.out 3 (.int .i64 (wrap64 (L.a - 1))))
            obtain ⟨M', hM⟩ : ∃ M' : OpL, (OpL.mk L.i0 L.i1 L.kd (wrap64 (L.a - 1)) L.tx L.rs L.t0 L.t1 L.on) = M' := ⟨_, rfl⟩
            have hne : ¬ L = M' := fun e => by
              have e1 : L.a = wrap64 (L.a - 1) := (congrArg OpL.a e).trans (by rw [← hM])
              have := HT3.out.l.kind_le
              unfold wrap64 at e1; omega
            obtain ⟨W8, hW8⟩ : ∃ W8, W7.setCell ⟨b, 3, none⟩ (.int .i64 (wrap64 (L.a - 1))) = W8 := ⟨_, rfl⟩
            have h8 : W8.heap[b]? = some (.cells (opCells M'.i0 M'.i1 M'.kd M'.a ⟨M'.tx.toArray⟩ (.slice A2 M'.rs.length c2) M'.t0 M'.t1 M'.on) 31 (0, 0)) := by rw [← hW8, ← hM]; exact box_put HX7.out 3 _
            have hr8 : Ranges W8 A2 M'.rs.length M'.rs := by rw [← hM, ← hW8]; exact HR7.out 3 _
            have hb8 : Below w3.heap.size w3 W8 := by rw [← hW8]; exact HG7.out _ _
            have hl8 : M'.rs.length ≤ 1048577 := by rw [← hM]; have := (HT3.out.l.small (show T ≤ 32768 by omega)).2; show L.rs.length ≤ _; omega
            have H8 := Lib.hid h8
            have HR8 := Lib.hid hr8
            have HB8 := Lib.hid hb8
            have HNE := Lib.hid hne
            have HL8 := Lib.hid hl8
            go_upto_region 28 with fail
            (try rw [hW8])
            rw [hW8] at x7
            have y7 := ldO_run H8.out
            clear hW8 hM hne h8 hr8 hb8 hl8 c0 c1' c2' c3 c4 c5 c6 c7 c8 f
            go_wp2_with fail
            refine (Equal_any L M' A A2 c c2 _ (by have := (HT3.out.l.small (show T ≤ 32768 by omega)).2; omega) (HT3.out.step HB8.out).r7 HR8.out).mono ?_
            rintro e w9 ⟨rfl, hb9⟩
            have H9 := Lib.hid (HB8.out.trans (hb9.mono HB8.out.size))
            clear x7 y7
            have x7 := HHX.out w9 H9.out
            have y7 := ldO_run ((hb9.block _ (Array.getElem?_eq_some_iff.1 H8.out).1).trans H8.out)
            have HR9 := Lib.hid (HR8.out.below hb9)
            have hd1 : decide (L = M') = false := decide_eq_false HNE.out
            have hd2 : decide (M' = L) = false := decide_eq_false (fun e => HNE.out e.symm)
            clear hb9
            rw [hd1]
            go_wp2_with fail
            refine (Equal_any M' L A2 A c2 c _ HL8.out HR9.out (HT3.out.step H9.out).r7).mono ?_
            rintro e w10 ⟨rfl, hb10⟩
            rw [hd2]
            have H10 := Lib.hid (H9.out.trans (hb10.mono H9.out.size))
            clear hb10 x7 y7 hd1 hd2
            go_wp2_with fail
            go_roundw
            case rel => exact ⟨4, rfl, by omega, H10.out⟩
            case measure => simp [intOf]
          · have q : (⟨L.tx.toArray⟩ : ByteArray) ++ ⟨#[97]⟩ = ⟨(L.tx ++ [97]).toArray⟩ := by apply ByteArray.ext; simp
            have q1 := add_str ⟨L.tx.toArray⟩ ⟨#[97]⟩ (by have := (HT3.out.l.small (show T ≤ 32768 by omega)).1; rw [L_size]; show _ + 1 ≤ _; omega)
            rw [q] at q1
            clear q
            have x7 := HHX.out _ (HG7.out 4 (.string ⟨(L.tx ++ [97]).toArray⟩))
            obtain ⟨M', hM⟩ : ∃ M' : OpL, (OpL.mk L.i0 L.i1 L.kd L.a (L.tx ++ [97]) L.rs L.t0 L.t1 L.on) = M' := ⟨_, rfl⟩
            have hne : ¬ L = M' := fun e => by
              have e1 : L.tx = L.tx ++ [97] := (congrArg OpL.tx e).trans (by rw [← hM])
              skip
              have e2 := congrArg List.length e1; simp at e2
            obtain ⟨W8, hW8⟩ : ∃ W8, W7.setCell ⟨b, 4, none⟩ (.string ⟨(L.tx ++ [97]).toArray⟩) = W8 := ⟨_, rfl⟩
            have h8 : W8.heap[b]? = some (.cells (opCells M'.i0 M'.i1 M'.kd M'.a ⟨M'.tx.toArray⟩ (.slice A2 M'.rs.length c2) M'.t0 M'.t1 M'.on) 31 (0, 0)) := by rw [← hW8, ← hM]; exact box_put HX7.out 4 _
            have hr8 : Ranges W8 A2 M'.rs.length M'.rs := by rw [← hM, ← hW8]; exact HR7.out 4 _
            have hb8 : Below w3.heap.size w3 W8 := by rw [← hW8]; exact HG7.out _ _
            have hl8 : M'.rs.length ≤ 1048577 := by rw [← hM]; have := (HT3.out.l.small (show T ≤ 32768 by omega)).2; show L.rs.length ≤ _; omega
            have H8 := Lib.hid h8
            have HR8 := Lib.hid hr8
            have HB8 := Lib.hid hb8
            have HNE := Lib.hid hne
            have HL8 := Lib.hid hl8
            go_upto_region 28 with fail
            (try rw [hW8])
            rw [hW8] at x7
            have y7 := ldO_run H8.out
            clear hW8 hM hne h8 hr8 hb8 hl8 c0 c1' c2' c3 c4 c5 c6 c7 c8 f
            go_wp2_with fail
            refine (Equal_any L M' A A2 c c2 _ (by have := (HT3.out.l.small (show T ≤ 32768 by omega)).2; omega) (HT3.out.step HB8.out).r7 HR8.out).mono ?_
            rintro e w9 ⟨rfl, hb9⟩
            have H9 := Lib.hid (HB8.out.trans (hb9.mono HB8.out.size))
            clear x7 y7
            have x7 := HHX.out w9 H9.out
            have y7 := ldO_run ((hb9.block _ (Array.getElem?_eq_some_iff.1 H8.out).1).trans H8.out)
            have HR9 := Lib.hid (HR8.out.below hb9)
            have hd1 : decide (L = M') = false := decide_eq_false HNE.out
            have hd2 : decide (M' = L) = false := decide_eq_false (fun e => HNE.out e.symm)
            clear hb9
            rw [hd1]
            go_wp2_with fail
            refine (Equal_any M' L A2 A c2 c _ HL8.out HR9.out (HT3.out.step H9.out).r7).mono ?_
            rintro e w10 ⟨rfl, hb10⟩
            rw [hd2]
            have H10 := Lib.hid (H9.out.trans (hb10.mono H9.out.size))
            clear hb10 x7 y7 hd1 hd2
            go_wp2_with fail
            go_roundw
            case rel => exact ⟨5, rfl, by omega, H10.out⟩
            case measure => simp [intOf]
          · obtain ⟨i0, hi, hz0, hz1, hz2⟩ := info_parts infoRange'
            have HI := Lib.hid (And.intro hi (And.intro hz0 (And.intro hz1 hz2)))
            have HN := Lib.hid (HT3.out.l.small (show T ≤ 32768 by omega)).2
            clear hi hz0 hz1 hz2
            have PK := Lib.hid (fun (g cap : Nat) (w9 : World) (hown : w9.ownsRow w3.heap.size 47 2 (.slice (some ⟨g, 0, none⟩) (L.rs.length + 1) cap) (L.rs.length + 1) (rsCells L.rs ++ [.int .i64 90, .int .i64 91])) (hgrow : (W7.alloc (.cells #[.int .i64 90, .int .i64 91] 47)).grownBy w9 (Value.slice A2 L.rs.length c2).ownBlock) (hat : (Value.slice A2 L.rs.length c2).ownBlock = some g ∨ g = (W7.alloc (.cells #[.int .i64 90, .int .i64 91] 47)).heap.size) =>
              put_range HB7.out HX7.out HOL.out.2 HOL.out.1 hgrow hat hown)
            go_wp2_with (at_builtin; refine wpList_append_lies _ rfl (.tmp 107) (.tmp 109) 29 rfl w3.heap.size 47 i0 (.agg #[.int .i64 0, .int .i64 0]) 2 16 Tryd.underlying29 HI.out.1 HI.out.2.1 HI.out.2.2.1 HI.out.2.2.2 rfl (by decide) (.slice A2 L.rs.length c2) L.rs.length (rsCells L.rs) rfl (own_below HV7.out (below_alloc1 _ _)) _ 1 1 [.int .i64 90, .int .i64 91] rfl rfl (fun j u hj => news_alloc _ _ _ j u hj) (by simp [Value.oneCell']) (by decide) (by have := HN.out; unfold maxLen; omega) (by have := HN.out; omega) (by have h3 := HB7.out.size; simp; omega) _ rfl ?_; intro g cap w9 hown hgrow hat hgl; clear c0 c1' c2' c3 c4 c5 c6 c7 c8 f; have HK := Lib.hid (PK.out g cap w9 hown hgrow hat); clear hown hgrow hat hgl; have c0 := Lib.cell_of_heap HK.out.1 0; have c1' := Lib.cell_of_heap HK.out.1 1; have c2' := Lib.cell_of_heap HK.out.1 2; have c3 := Lib.cell_of_heap HK.out.1 3; have c4 := Lib.cell_of_heap HK.out.1 4; have c5 := Lib.cell_of_heap HK.out.1 5; have c6 := Lib.cell_of_heap HK.out.1 6; have c7 := Lib.cell_of_heap HK.out.1 7; have c8 := Lib.cell_of_heap HK.out.1 8; have f := Lib.frozen_of_heap HK.out.1; simp [opCells] at c0 c1' c2' c3 c4 c5 c6 c7 c8; have x7 := HHX.out _ HK.out.2.1; have y7 := ldO_run (i0 := L.i0) (i1 := L.i1) (kd := L.kd) (a := L.a) (tx := ⟨L.tx.toArray⟩) (v := .slice (some ⟨g, 0, none⟩) (L.rs.length + 1) cap) (t0 := L.t0) (t1 := L.t1) (on := L.on) HK.out.2.2.1)
            obtain ⟨W8, hW8⟩ : ∃ W8, w9.setCell ⟨b, 5, none⟩ (.slice (some ⟨g, 0, none⟩) (L.rs.length + 1) cap) = W8 := ⟨_, rfl⟩
            obtain ⟨_, hk2, hk3, hk4⟩ := HK.out
            rw [hW8] at x7 y7 hk2 hk3 hk4
            try rw [hW8]
            clear hW8 c0 c1' c2' c3 c4 c5 c6 c7 c8 f
            obtain ⟨M', hM⟩ : ∃ M' : OpL, (OpL.mk L.i0 L.i1 L.kd L.a L.tx (L.rs ++ [(90, 91)]) L.t0 L.t1 L.on) = M' := ⟨_, rfl⟩
            have hne : ¬ L = M' := fun e => by
              have e1 : L.rs = L.rs ++ [(90, 91)] := (congrArg OpL.rs e).trans (by rw [← hM])
              have e2 := congrArg List.length e1; simp at e2
            have hln : M'.rs.length = L.rs.length + 1 := by rw [← hM]; simp
            have h8 : W8.heap[b]? = some (.cells (opCells M'.i0 M'.i1 M'.kd M'.a ⟨M'.tx.toArray⟩ (.slice (some ⟨g, 0, none⟩) M'.rs.length cap) M'.t0 M'.t1 M'.on) 31 (0, 0)) := by rw [hln, ← hM]; exact hk3
            have hr8 : Ranges W8 (some ⟨g, 0, none⟩) M'.rs.length M'.rs := by rw [← hM]; exact hk4
            have HL8 := Lib.hid (show M'.rs.length ≤ 1048577 by rw [hln]; have := HN.out; omega)
            have e5 : (#[.int .i64 L.i0, .int .i64 L.i1, .int .i64 L.kd, .int .i64 L.a, .string ⟨L.tx.toArray⟩, .slice (some ⟨g, 0, none⟩) (L.rs.length + 1) cap, .int .i64 L.t0, .int .i64 L.t1, .bool L.on] : Array Value) = #[.int .i64 M'.i0, .int .i64 M'.i1, .int .i64 M'.kd, .int .i64 M'.a, .string ⟨M'.tx.toArray⟩, .slice (some ⟨g, 0, none⟩) M'.rs.length cap, .int .i64 M'.t0, .int .i64 M'.t1, .bool M'.on] := by rw [hln, ← hM]
            have H8 := Lib.hid h8
            have HR8 := Lib.hid hr8
            have HB8 := Lib.hid hk2
            have HNE := Lib.hid hne
            try rw [e5]
            clear hM hne h8 hr8 hk2 hk3 hk4 hln e5
            refine (Equal_any L M' A (some ⟨g, 0, none⟩) c cap _ (by have := HN.out; omega) (HT3.out.step HB8.out).r7 HR8.out).mono ?_
            rintro e w10 ⟨rfl, hb9⟩
            have H9 := Lib.hid (HB8.out.trans (hb9.mono HB8.out.size))
            clear x7 y7
            have x7 := HHX.out w10 H9.out
            have y7 := ldO_run ((hb9.block _ (Array.getElem?_eq_some_iff.1 H8.out).1).trans H8.out)
            have HR9 := Lib.hid (HR8.out.below hb9)
            have hd1 : decide (L = M') = false := decide_eq_false HNE.out
            have hd2 : decide (M' = L) = false := decide_eq_false (fun e => HNE.out e.symm)
            clear hb9
            rw [hd1]
            go_wp2_with fail
            refine (Equal_any M' L (some ⟨g, 0, none⟩) A cap c _ HL8.out HR9.out (HT3.out.step H9.out).r7).mono ?_
            rintro e w11 ⟨rfl, hb10⟩
            rw [hd2]
            have H10 := Lib.hid (H9.out.trans (hb10.mono H9.out.size))
            clear hb10 x7 y7 hd1 hd2
            go_wp2_with fail
            go_roundw
            case rel => exact ⟨6, rfl, by omega, H10.out⟩
            case measure => simp [intOf]
          · have x7 := HHX.out _ (HG7.out 7 (.int .i64 (wrap64 (L.t1 + 1))))
            obtain ⟨M', hM⟩ : ∃ M' : OpL, (OpL.mk L.i0 L.i1 L.kd L.a L.tx L.rs L.t0 (wrap64 (L.t1 + 1)) L.on) = M' := ⟨_, rfl⟩
            have hne : ¬ L = M' := fun e => by
              have e1 : L.t1 = wrap64 (L.t1 + 1) := (congrArg OpL.t1 e).trans (by rw [← hM])
              have := HT3.out.l.none
              unfold wrap64 at e1; omega
            obtain ⟨W8, hW8⟩ : ∃ W8, W7.setCell ⟨b, 7, none⟩ (.int .i64 (wrap64 (L.t1 + 1))) = W8 := ⟨_, rfl⟩
            have h8 : W8.heap[b]? = some (.cells (opCells M'.i0 M'.i1 M'.kd M'.a ⟨M'.tx.toArray⟩ (.slice A2 M'.rs.length c2) M'.t0 M'.t1 M'.on) 31 (0, 0)) := by rw [← hW8, ← hM]; exact box_put HX7.out 7 _
            have hr8 : Ranges W8 A2 M'.rs.length M'.rs := by rw [← hM, ← hW8]; exact HR7.out 7 _
            have hb8 : Below w3.heap.size w3 W8 := by rw [← hW8]; exact HG7.out _ _
            have hl8 : M'.rs.length ≤ 1048577 := by rw [← hM]; have := (HT3.out.l.small (show T ≤ 32768 by omega)).2; show L.rs.length ≤ _; omega
            have H8 := Lib.hid h8
            have HR8 := Lib.hid hr8
            have HB8 := Lib.hid hb8
            have HNE := Lib.hid hne
            have HL8 := Lib.hid hl8
            go_upto_region 28 with fail
            (try rw [hW8])
            rw [hW8] at x7
            have y7 := ldO_run H8.out
            clear hW8 hM hne h8 hr8 hb8 hl8 c0 c1' c2' c3 c4 c5 c6 c7 c8 f
            go_wp2_with fail
            refine (Equal_any L M' A A2 c c2 _ (by have := (HT3.out.l.small (show T ≤ 32768 by omega)).2; omega) (HT3.out.step HB8.out).r7 HR8.out).mono ?_
            rintro e w9 ⟨rfl, hb9⟩
            have H9 := Lib.hid (HB8.out.trans (hb9.mono HB8.out.size))
            clear x7 y7
            have x7 := HHX.out w9 H9.out
            have y7 := ldO_run ((hb9.block _ (Array.getElem?_eq_some_iff.1 H8.out).1).trans H8.out)
            have HR9 := Lib.hid (HR8.out.below hb9)
            have hd1 : decide (L = M') = false := decide_eq_false HNE.out
            have hd2 : decide (M' = L) = false := decide_eq_false (fun e => HNE.out e.symm)
            clear hb9
            rw [hd1]
            go_wp2_with fail
            refine (Equal_any M' L A2 A c2 c _ HL8.out HR9.out (HT3.out.step H9.out).r7).mono ?_
            rintro e w10 ⟨rfl, hb10⟩
            rw [hd2]
            have H10 := Lib.hid (H9.out.trans (hb10.mono H9.out.size))
            clear hb10 x7 y7 hd1 hd2
            go_wp2_with fail
            go_roundw
            case rel => exact ⟨7, rfl, by omega, H10.out⟩
            case measure => simp [intOf]
          · have x7 := HHX.out _ (HG7.out 8 (.bool (!L.on)))
            obtain ⟨M', hM⟩ : ∃ M' : OpL, (OpL.mk L.i0 L.i1 L.kd L.a L.tx L.rs L.t0 L.t1 (!L.on)) = M' := ⟨_, rfl⟩
            have hne : ¬ L = M' := fun e => by
              have e1 : L.on = !L.on := (congrArg OpL.on e).trans (by rw [← hM])
              skip
              simp at e1
            obtain ⟨W8, hW8⟩ : ∃ W8, W7.setCell ⟨b, 8, none⟩ (.bool (!L.on)) = W8 := ⟨_, rfl⟩
            have h8 : W8.heap[b]? = some (.cells (opCells M'.i0 M'.i1 M'.kd M'.a ⟨M'.tx.toArray⟩ (.slice A2 M'.rs.length c2) M'.t0 M'.t1 M'.on) 31 (0, 0)) := by rw [← hW8, ← hM]; exact box_put HX7.out 8 _
            have hr8 : Ranges W8 A2 M'.rs.length M'.rs := by rw [← hM, ← hW8]; exact HR7.out 8 _
            have hb8 : Below w3.heap.size w3 W8 := by rw [← hW8]; exact HG7.out _ _
            have hl8 : M'.rs.length ≤ 1048577 := by rw [← hM]; have := (HT3.out.l.small (show T ≤ 32768 by omega)).2; show L.rs.length ≤ _; omega
            have H8 := Lib.hid h8
            have HR8 := Lib.hid hr8
            have HB8 := Lib.hid hb8
            have HNE := Lib.hid hne
            have HL8 := Lib.hid hl8
            go_upto_region 28 with fail
            (try rw [hW8])
            rw [hW8] at x7
            have y7 := ldO_run H8.out
            clear hW8 hM hne h8 hr8 hb8 hl8 c0 c1' c2' c3 c4 c5 c6 c7 c8 f
            go_wp2_with fail
            refine (Equal_any L M' A A2 c c2 _ (by have := (HT3.out.l.small (show T ≤ 32768 by omega)).2; omega) (HT3.out.step HB8.out).r7 HR8.out).mono ?_
            rintro e w9 ⟨rfl, hb9⟩
            have H9 := Lib.hid (HB8.out.trans (hb9.mono HB8.out.size))
            clear x7 y7
            have x7 := HHX.out w9 H9.out
            have y7 := ldO_run ((hb9.block _ (Array.getElem?_eq_some_iff.1 H8.out).1).trans H8.out)
            have HR9 := Lib.hid (HR8.out.below hb9)
            have hd1 : decide (L = M') = false := decide_eq_false HNE.out
            have hd2 : decide (M' = L) = false := decide_eq_false (fun e => HNE.out e.symm)
            clear hb9
            rw [hd1]
            go_wp2_with fail
            refine (Equal_any M' L A2 A c2 c _ HL8.out HR9.out (HT3.out.step H9.out).r7).mono ?_
            rintro e w10 ⟨rfl, hb10⟩
            rw [hd2]
            have H10 := Lib.hid (H9.out.trans (hb10.mono H9.out.size))
            clear hb10 x7 y7 hd1 hd2
            go_wp2_with fail
            go_roundw
            case rel => exact ⟨8, rfl, by omega, H10.out⟩
            case measure => simp [intOf]
        · obtain rfl : k = 8 := by omega
          go_wp2_with fail
          have HBR8 := Lib.hid HBR.out
          clear HBR HR4 x7 hlt hk
          obtain ⟨wo, hwo⟩ : ∃ wo : World, wo = wr := ⟨_, rfl⟩
          rw [← hwo] at HBR8 ⊢
          clear hwo wr
          rw [show ((8 : Nat) : Int) = 8 from rfl]
          have HNL := Lib.hid (HT3.out.l.small (show T ≤ 32768 by omega)).2
          go_loopw [15] (fun i wr => ∃ j : Nat, i = .int .i64 j ∧ j ≤ L.rs.length ∧ Below w3.heap.size w3 wr) (fun i _ => L.rs.length - (intOf i).toNat)
          case atStart => exact ⟨0, rfl, Nat.zero_le _, HBR8.out⟩
          case round =>
            obtain ⟨j, rfl, hj, hbr⟩ := hrel
            have HBR := Lib.hid hbr
            clear hbr
            have HR4 := Lib.hid (HT3.out.step HBR.out)
            have x7 := HHX.out wr HBR.out
            have r7 := Lib.cell_of_heap HR4.out.b7 5
            simp only [opCells] at r7
            have r7' : wr.cell? ⟨B7, 5, none⟩ = some (.slice A L.rs.length c) := r7
            clear r7
            by_cases hlt : j < L.rs.length
            · go_wp2_with fail
              refine (HC1.out wr HBR.out).mono ?_
              rintro e w6 ⟨A2, c2, rfl, hb6, hv, x76⟩
              clear x76 x7 r7'
              go_upto_region 34 with fail
              obtain ⟨W7, hW7⟩ : ∃ W7, (w6.alloc (.cells #[.int .i64 0, .int .i64 0, .int .i64 0, .int .i64 0, .string ⟨#[]⟩, .slice none 0 0, .int .i64 0, .int .i64 0, .bool false] 31)).setRow w6.heap.size #[.int .i64 L.i0, .int .i64 L.i1, .int .i64 L.kd, .int .i64 L.a, .string ⟨L.tx.toArray⟩, .slice A2 L.rs.length c2, .int .i64 L.t0, .int .i64 L.t1, .bool L.on] = W7 := ⟨_, rfl⟩
              rw [hW7]
              have hx : W7.heap[w6.heap.size]? = some (.cells (opCells L.i0 L.i1 L.kd L.a ⟨L.tx.toArray⟩ (.slice A2 L.rs.length c2) L.t0 L.t1 L.on) 31 (0, 0)) := by rw [← hW7]; exact setRow_heap _ _ _ _ _ _ (heap_alloc_new w6 _)
              have hb7 : Below w6.heap.size w6 W7 := by rw [← hW7]; exact below_setRow (below_alloc1 w6 _) (Nat.le_refl _) _
              obtain ⟨lo, h, hlh⟩ : ∃ lo h, L.rs[j] = (lo, h) := ⟨_, _, rfl⟩
              obtain ⟨g, rfl, hgb, hcl, hput⟩ := hi_put (j := j) hlt (own_weak' hv.out HBR.out.size) (hb6.trans (hb7.mono hb6.size)) (own_below (own_weak' hv.out HBR.out.size) hb7) hx hb6.size
              rw [hlh] at hcl hput
              have hput := hput (wrap64 (h + 1))
              obtain ⟨M', hM⟩ : ∃ M' : OpL, (OpL.mk L.i0 L.i1 L.kd L.a L.tx (L.rs.set j (lo, wrap64 (h + 1))) L.t0 L.t1 L.on) = M' := ⟨_, rfl⟩
              have hne : ¬ L = M' := fun e => by
                have e1 : L.rs = L.rs.set j (lo, wrap64 (h + 1)) := (congrArg OpL.rs e).trans (by rw [← hM])
                have e2 := congrArg (fun l => l[j]?) e1
                simp only [List.getElem?_set_self hlt, List.getElem?_eq_getElem hlt, hlh] at e2
                have e3 : h = wrap64 (h + 1) := (Prod.mk.inj (Option.some.inj e2)).2
                have := HT3.out.l.hi_le (L.rs[j]) (List.getElem_mem _)
                rw [hlh] at this
                simp only at this
                unfold wrap64 at e3; omega
              have hln : M'.rs.length = L.rs.length := by rw [← hM]; simp
              obtain ⟨b, hb⟩ : ∃ b, w6.heap.size = b := ⟨_, rfl⟩
              rw [hb] at hx hgb hput ⊢
              have c5 := Lib.cell_of_heap hx 5
              simp only [opCells] at c5
              have c5' : W7.cell? ⟨b, 5, none⟩ = some (.slice (some ⟨g, 0, none⟩) L.rs.length c2) := c5
              have f7 := hcl.2
              have d7 := hcl.1
              have HPUT := Lib.hid hput
              have HNE := Lib.hid hne
              have HLN := Lib.hid hln
              have HM := Lib.hid hM
              have i3 : decide ((j : Int) ≥ ↑L.rs.length) = false := by simp; omega
              clear hW7 hx hb7 hb hb6 hv hgb hcl hput c5 hne hln hM hlh
              go_upto_region 37 with fail
              obtain ⟨W8, hW8⟩ : ∃ W8, W7.setCell ⟨g, j * 2 + 1, none⟩ (.int .i64 (wrap64 (h + 1))) = W8 := ⟨_, rfl⟩
              obtain ⟨hk2, hk3, hk4⟩ := HPUT.out
              rw [hW8] at hk2 hk3 hk4 ⊢
              have h8 : W8.heap[b]? = some (.cells (opCells M'.i0 M'.i1 M'.kd M'.a ⟨M'.tx.toArray⟩ (.slice (some ⟨g, 0, none⟩) M'.rs.length c2) M'.t0 M'.t1 M'.on) 31 (0, 0)) := by rw [HLN.out, ← HM.out]; exact hk3
              have hr8 : Ranges W8 (some ⟨g, 0, none⟩) M'.rs.length M'.rs := by rw [HLN.out, ← HM.out]; exact hk4
              have H8 := Lib.hid h8
              have HR8 := Lib.hid hr8
              have HB8 := Lib.hid hk2
              have x7 := HHX.out _ hk2
              have y7 := ldO_run h8
              clear hW8 h8 hr8 hk2 hk3 hk4 HPUT HM c5' f7 d7 i3
              go_wp2_with fail
              refine (Equal_any L M' A (some ⟨g, 0, none⟩) c c2 _ (by have := HNL.out; omega) (HT3.out.step HB8.out).r7 HR8.out).mono ?_
              rintro e w9 ⟨rfl, hb9⟩
              have hd1 : decide (L = M') = false := decide_eq_false HNE.out
              rw [hd1]
              have H9 := Lib.hid (HB8.out.trans (hb9.mono HB8.out.size))
              clear x7 y7 hb9 hd1
              have hjb : (j : Int) ≤ 32768 := by have := HNL.out; omega
              go_wp2_with fail
              go_roundw
              case rel => exact ⟨j + 1, by go_num, by omega, H9.out⟩
              case measure => simp [intOf]; omega
            · obtain rfl : j = L.rs.length := by omega
              go_wp2_with fail
              go_ret
              exact ⟨rfl, HB0.out.trans ((HT3.out.below.trans (HBR.out.mono HT3.out.below.size)).mono HB0.out.size)⟩
end Go.Proofs.YtnippaaiopgnaaaDoor.O
