/- delta.common on runes. -/
import Derived.Test.YtkidcleffllhbaaDoorDtTab
import Derived.Test.YtkidcleffllhbaaDoorUOps
import Derived.Laws.OwnMore
import Derived.Laws.MakeOwn
import Derived.Below
import Derived.Deep.QuietTactic
import Derived.BigQuiet
import Derived.BigRegion
import Derived.IntWalk
namespace Go.Proofs.YtkidcleffllhbaaDoor.Dt
open Go.RowKit Go.Proofs Go.Proofs.YtkidcleffllhbaaDoor.U Go.Proofs.YtkidcleffllhbaaDoor.Txt
set_option linter.unusedVariables false
set_option linter.unusedSimpArgs false

theorem info16 : (Tryd.prog.info? 128).map (fun i => (i.zero, i.size, i.bytes)) = some (some (.int .u16 0), 1, 2) := by kernel_rfl
def u16s (cs : List Nat) : Array Value := (cs.map fun v : Nat => Value.int .u16 v).toArray
theorem mk_zeros (n : Nat) (h2 : n ≤ 10000000) : ∀ w' : World, (Instr.makeSlice 125 (.int .i64 n) (.int .i64 n)).run Tryd.prog w' = .ok (.slice (some ⟨w'.heap.size, 0, none⟩) n n) (w'.alloc (.cells (u16s (List.replicate n 0)) 128)) := fun w' => by
  obtain ⟨i0, hi, hz0, hz1, hz2⟩ := info_parts info16
  have e := run_makeSlice w' 125 128 i0 (.int .u16 0) Tryd.underlying125 hi hz0 .i64 .i64 (n : Int) (n : Int) (by omega) (Int.le_refl _) (by rw [hz1]; omega) (by rw [hz2]; omega) (by omega)
  rw [e, hz1, show ((n : Int)).toNat = n by omega, Nat.mul_one]
  have : madeCells (Value.int .u16 0).cells n = u16s (List.replicate n 0) := by
    unfold u16s
    rw [List.map_replicate]
    show _ = (List.replicate n (Value.int .u16 0)).toArray
    rw [← toList_madeCells_one]; rfl
  rw [this]
/-- The table in memory. -/
structure TabIn {α : Type} [DecidableEq α] (w wr : World) (x y : List α) (I J : Nat) (cs : List Nat) : Prop where
  box : wr.heap[w.heap.size]? = some (.cells (u16s cs) 128 (0, 0))
  tab : TabAt x y I J cs
  below : Below w.heap.size w wr
theorem TabIn.cell {α : Type} [DecidableEq α] {w wr : World} {x y : List α} {I J : Nat} {cs : List Nat} (h : TabIn w wr x y I J cs) {k v : Nat} (hv : cs[k]? = some v) : wr.cell? ⟨w.heap.size, k, none⟩ = some (.int .u16 v) := by
  rw [Lib.cell_of_heap h.box]; simp [u16s, hv]
theorem TabIn.frozen {α : Type} [DecidableEq α] {w wr : World} {x y : List α} {I J : Nat} {cs : List Nat} (h : TabIn w wr x y I J cs) (k : Nat) : wr.frozen? ⟨w.heap.size, k, none⟩ = false := Lib.frozen_of_heap h.box k
theorem TabIn.put {α : Type} [DecidableEq α] {w wr : World} {x y : List α} {I J : Nat} {cs : List Nat} (h : TabIn w wr x y (I + 1) (J + 1) cs) (hi : I < x.length) (hj : J < y.length) : TabIn w (wr.setCell ⟨w.heap.size, I * (y.length + 1) + J, none⟩ (.int .u16 (com (x.drop I) (y.drop J)))) x y (I + 1) J (cs.set (I * (y.length + 1) + J) (com (x.drop I) (y.drop J))) := by
  refine ⟨?_, h.tab.put hi hj, h.below.setCell (p := ⟨w.heap.size, I * (y.length + 1) + J, none⟩) (Nat.le_refl _) _⟩
  have := h.box
  simp [World.setCell, Array.getElem?_modify, this, u16s, List.map_set]
theorem TabIn.row {α : Type} [DecidableEq α] {w wr : World} {x y : List α} {I : Nat} {cs : List Nat} (h : TabIn w wr x y (I + 1) 0 cs) : TabIn w wr x y I y.length cs := ⟨h.box, h.tab.row, h.below⟩
theorem TabIn.drew {α : Type} [DecidableEq α] {w wr : World} {x y : List α} {I J : Nat} {cs : List Nat} (h : TabIn w wr x y I J cs) (n : Nat) : TabIn w (wr.drewN n) x y I J cs := ⟨h.box, h.tab, ⟨h.below.os, h.below.tape, h.below.output, h.below.size, h.below.block⟩⟩
theorem TabIn.drew1 {α : Type} [DecidableEq α] {w wr : World} {x y : List α} {I J : Nat} {cs : List Nat} (h : TabIn w wr x y I J cs) : TabIn w wr.drew x y I J cs := ⟨h.box, h.tab, ⟨h.below.os, h.below.tape, h.below.output, h.below.size, h.below.block⟩⟩
/-- What common hands back. -/
def ComRes {α : Type} [DecidableEq α] (w : World) (x y : List α) (e : Ending) (w' : World) : Prop :=
  ∃ cs, e = .returned (.slice (some ⟨w.heap.size, 0, none⟩) ((x.length + 1) * (y.length + 1)) ((x.length + 1) * (y.length + 1))) ∧ TabIn w w' x y 0 y.length cs
set_option maxRecDepth 100000 in
set_option maxHeartbeats 8000000 in
theorem common_any (A B : Option Addr) (c d : Nat) (x y : List Int) (w : World) (hx : Cells32 w A x) (hy : Cells32 w B y) (hn : x.length ≤ 2048) (hm : y.length ≤ 2048) :
    Calls Tryd.prog 56 #[.slice A x.length c, .slice B y.length d] w (ComRes w x y) := by
  have HX := Lib.hid hx
  have HY := Lib.hid hy
  clear hx hy
  obtain ⟨n, hn'⟩ : ∃ n, x.length = n := ⟨_, rfl⟩
  obtain ⟨m, hm'⟩ : ∃ m, y.length = m := ⟨_, rfl⟩
  obtain ⟨W, hW⟩ : ∃ W : Nat, m + 1 = W := ⟨_, rfl⟩
  have hWi : (m : Int) + 1 = (W : Int) := by omega
  obtain ⟨N, hN⟩ : ∃ N : Nat, (n + 1) * W = N := ⟨_, rfl⟩
  have hNi : ((n : Int) + 1) * (W : Int) = (N : Int) := by rw [← hN]; simp
  have hNs : N ≤ 10000000 := by
    have := Nat.mul_le_mul (show n + 1 ≤ 2049 by omega) (show W ≤ 2049 by omega)
    omega
  have hmk := mk_zeros N hNs
  have HNX := Lib.hid hn'
  have HMY := Lib.hid hm'
  rw [hn'] at hn ⊢
  rw [hm'] at hm ⊢
  go_enter Tryd.func56, Tryd.ntmps56
  go_wp2_with fail
  have T0 := Lib.hid (show TabIn w (w.alloc (.cells (u16s (List.replicate N 0)) 128)) x y n m (List.replicate N 0) from ⟨heap_alloc_new w _, by rw [← hN, ← hW, ← HNX.out, ← HMY.out]; exact TabAt.new x y, (Below.refl _ _).alloc (Nat.le_refl _) _⟩)
  clear hmk
  go_loopw [7] (fun i wr => ∃ (I : Nat) (cs : List Nat), i = .int .i64 ((I : Int) - 1) ∧ I ≤ n ∧ TabIn w wr x y I m cs) (fun i _ => (intOf i + 1).toNat)
  case atStart => exact ⟨n, _, by go_num, Nat.le_refl _, T0.out⟩
  case round =>
    obtain ⟨I, cs, rfl, hI, hT⟩ := hrel
    have HT := Lib.hid hT
    clear hT T0
    obtain ⟨wo, hwo⟩ : ∃ wo : World, wo = wr := ⟨_, rfl⟩
    rw [← hwo] at HT ⊢
    clear hwo wr
    by_cases h0 : I = 0
    · subst h0
      go_wp2_with fail
      go_ret
      exact ⟨cs, by rw [HNX.out, HMY.out, hW, hN]; rfl, by rw [HMY.out]; exact HT.out⟩
    · obtain ⟨i, rfl⟩ : ∃ i, I = i + 1 := ⟨I - 1, by omega⟩
      rw [show ((i + 1 : Nat) : Int) - 1 = (i : Int) by omega]
      go_wp2_with fail
      go_loopw [8] (fun jv wr => ∃ (J : Nat) (cs : List Nat), jv = .int .i64 ((J : Int) - 1) ∧ J ≤ m ∧ TabIn w wr x y (i + 1) J cs) (fun jv _ => (intOf jv + 1).toNat)
      case atStart => exact ⟨m, _, by go_num, Nat.le_refl _, HT.out⟩
      case round =>
        obtain ⟨J, cs', rfl, hJ, hT⟩ := hrel
        have HT2 := Lib.hid hT
        clear hT HT
        by_cases h1 : J = 0
        · subst h1
          go_wp2_with fail
          go_roundw
          case rel => exact ⟨i, cs', rfl, by omega, by rw [← HMY.out]; exact HT2.out.row⟩
          case measure => simp [intOf]
        · obtain ⟨j, rfl⟩ : ∃ j, J = j + 1 := ⟨J - 1, by omega⟩
          rw [show ((j + 1 : Nat) : Int) - 1 = (j : Int) by omega]
          have hix : i < x.length := by rw [HNX.out]; omega
          have hjy : j < y.length := by rw [HMY.out]; omega
          obtain ⟨ad1, rfl, hcs1⟩ := (HX.out.below HT2.out.below) (by omega)
          obtain ⟨ad2, rfl, hcs2⟩ := (HY.out.below HT2.out.below) (by omega)
          have y1 := hcs1 i hix
          have y2 := hcs2 j hjy
          obtain ⟨t1, t2, t3⟩ := HT2.out.tab.down hix hjy
          have t4 := HT2.out.tab.here hix hjy
          have HSM := Lib.hid (fun a b => com_small (x := x) (y := y) (by rw [HNX.out]; exact hn) a b)
          have HEQ := Lib.hid (com_step_eq hix hjy)
          have HNE := Lib.hid (com_step_ne hix hjy)
          rw [List.getD_eq_getElem?_getD, List.getElem?_eq_getElem hix, Option.getD_some] at y1
          rw [List.getD_eq_getElem?_getD, List.getElem?_eq_getElem hjy, Option.getD_some] at y2
          generalize x[i]'hix = a at y1 HEQ HNE
          generalize y[j]'hjy = b at y2 HEQ HNE
          have HIX := Lib.hid hix
          have HJY := Lib.hid hjy
          obtain ⟨p, hp⟩ : ∃ p, i * W = p := ⟨_, rfl⟩
          have hpi : (i : Int) * (W : Int) = (p : Int) := by rw [← hp]; simp
          have hpj : ((i : Int) + 1) * (W : Int) = (p : Int) + W := by rw [Int.add_mul, hpi]; omega
          have hpN : p + W + W ≤ N := by
            have := Nat.mul_le_mul_right W (show i + 1 + 1 ≤ n + 1 by omega)
            rw [← hN, ← hp]; rw [Nat.add_mul, Nat.add_mul] at this; omega
          rw [HMY.out, hW, Nat.add_mul, Nat.one_mul, hp] at t1 t3
          rw [HMY.out, hW, hp] at t2 t4
          rw [← Nat.add_assoc] at t2 t3
          have c1 := HT2.out.cell t1
          have c2 := HT2.out.cell t2
          have c3 := HT2.out.cell t3
          have c4 := HT2.out.cell t4
          have f0 := HT2.out.frozen (p + j)
          clear hcs1 hcs2 hix hjy
          have hs1 := HSM.out i j
          have hs2 := HSM.out (i + 1) j
          have hs3 := HSM.out i (j + 1)
          have hs4 := HSM.out (i + 1) (j + 1)
          have HPUT := Lib.hid (fun (wd : World) (h : TabIn w wd x y (i + 1) (j + 1) cs') => h.put HIX.out HJY.out)
          rw [HMY.out, hW, hp] at HPUT
          generalize com (x.drop i) (y.drop j) = v1 at *
          generalize com (x.drop (i + 1)) (y.drop j) = v2 at *
          generalize com (x.drop i) (y.drop (j + 1)) = v3 at *
          generalize com (x.drop (i + 1)) (y.drop (j + 1)) = v4 at *
          have T1 := Lib.hid t1
          have T2 := Lib.hid t2
          have T4 := Lib.hid t4
          clear t1 t2 t3 t4
          by_cases hab : a = b
          · subst hab
            have hv := HEQ.out rfl
            subst hv
            have hw : IntKind.u16.wrap ((v4 : Int) + 1) = (v4 : Int) + 1 := by rw [IntWalk.u16_in _ (by omega)]
            go_wp2_with fail
            go_quiet (fail)
            go_wp2_with fail
            go_roundw
            case rel => exact ⟨j, _, rfl, by omega, HPUT.out _ (HT2.out.drew _)⟩
            case measure => simp [intOf]
          · have hab' : (a == b) = false := by simp [hab]
            have hv := HNE.out hab
            go_wp2_with fail
            go_quiet (fail)
            go_wp2_with fail
            clear c1 c2 c3 c4 f0
            generalize hwd : wr.drewN _ = wd
            have HT3 : Hid (TabIn w wd x y (i + 1) (j + 1) cs') := Lib.hid (by rw [← hwd]; exact HT2.out.drew _)
            have c1 := HT3.out.cell T1.out
            have c2 := HT3.out.cell T2.out
            have c4 := HT3.out.cell T4.out
            have f0 := HT3.out.frozen (p + j)
            clear hwd
            go_region
            have hmx : (if v2 < v3 then (v3 : Int) else (v2 : Int)) = ((max v2 v3 : Nat) : Int) := by split <;> omega
            rw [hmx]
            subst hv
            have HPU := Lib.hid (HPUT.out wd HT3.out).drew1
            clear hmx
            go_wp2_with fail
            go_roundw
            case rel => exact ⟨j, _, rfl, by omega, HPU.out⟩
            case measure => simp [intOf]
end Go.Proofs.YtkidcleffllhbaaDoor.Dt
