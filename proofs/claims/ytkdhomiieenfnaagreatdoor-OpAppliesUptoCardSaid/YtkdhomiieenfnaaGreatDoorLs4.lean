/- A node made of two trees and a piece: knot. weigh: a node of two trees and a piece, turned where one is higher by more than one. The visible cells of a row: their places, their runes, their stretches; plain Lean. -/
import Derived.Test.YtkdhomiieenfnaaGreatDoorLs3
import Derived.Laws.CopyOwn
import Derived.Laws.CopyRow
import Derived.Test.YtkdhomiieenfnaaGreatDoorLs2
namespace Go.Proofs.YtkdhomiieenfnaaGreatDoor.Rp
open Go.RowKit Go.Proofs Go.Proofs.YtkdhomiieenfnaaGreatDoor.U Go.Proofs.YtkdhomiieenfnaaGreatDoor.Txt
set_option linter.unusedVariables false
set_option linter.unusedSimpArgs false

/-- These numbers are what these cells tell. -/
structure Tells (s : Sm) (a : List Cl) : Prop where
  n : s.n = a.length
  lo : s.lo = lo a
  c : s.c = at_ a
  hi : s.hi = hi a
theorem Tells.app {s t : Sm} {a b : List Cl} (hs : Tells s a) (ht : Tells t b) : Tells (wSm s t) (a ++ b) := by
  unfold wSm
  by_cases hb : b = []
  · subst hb
    rw [if_pos (by rw [ht.n]; rfl), List.append_nil]; exact hs
  · by_cases ha : a = []
    · subst ha
      rw [if_neg (by rw [ht.n]; simpa using hb), if_pos (by rw [hs.n]; rfl)]; exact ht
    · rw [if_neg (by rw [ht.n]; simpa using hb), if_neg (by rw [hs.n]; simpa using ha)]
      have e2 := lo_app ha hb
      have e3 := at_app ha hb
      have e4 := hi_app ha hb
      rw [e2] at e3
      refine ⟨?_, ?_, ?_, ?_⟩
      · simp only [hs.n, ht.n, List.length_append]; omega
      · simp only [hs.lo, ht.lo]; omega
      · simp only [hs.lo, ht.lo, hs.c, ht.c]
        rw [e3]
        by_cases p1 : Rp.lo a = min (Rp.lo a) (Rp.lo b) <;> by_cases p2 : Rp.lo b = min (Rp.lo a) (Rp.lo b)
        · rw [if_pos p1, if_pos p1, if_pos p2, if_pos p2]; omega
        · rw [if_pos p1, if_pos p1, if_neg p2, if_neg p2]; omega
        · rw [if_neg p1, if_neg p1, if_pos p2, if_pos p2]; omega
        · rw [if_neg p1, if_neg p1, if_neg p2, if_neg p2]; omega
      · simp only [hs.hi, ht.hi]; omega
theorem wSm_lv {s t : Sm} (h1 : t.n = 0 → t.lv = 0) (h2 : s.n = 0 → s.lv = 0) : (wSm s t).lv = s.lv + t.lv := by
  unfold wSm
  split
  · rename_i h; have := h1 h; omega
  · split
    · rename_i h; have := h2 h; omega
    · rfl
theorem tells_smT (t : T) : Tells (smT t) (cells t) := ⟨rfl, rfl, rfl, rfl⟩
def pcS (rs : List Int) (h : Int) : Sm := ⟨rs.length, 1, 0, h, rs.length, h⟩
theorem tells_pc {rs : List Int} (hn : rs ≠ []) (h : Int) : Tells (pcS rs h) (run rs h) := ⟨by simp [pcS, run_len], (lo_run hn h).symm, by rw [at_run hn]; rfl, (hi_run hn h).symm⟩
theorem lv_zero {t : T} (h : WF t) (h0 : (smT t).n = 0) : (smT t).lv = 0 := by
  have : cells t = [] := by
    have : ((cells t).length : Int) = 0 := h0
    exact List.length_eq_zero_iff.1 (by omega)
  rw [(cells_nil_iff h).1 this]; rfl
theorem smT_knot {l r : T} {rs : List Int} (h : Int) (hl : WF l) (hr : WF r) (hn : rs ≠ []) : smT (.node l rs h r 0) = { wSm (wSm (smT l) (pcS rs h)) (smT r) with h := 1 + max (smT l).h (smT r).h } := by
  have ht := ((tells_smT l).app (tells_pc hn h)).app (tells_smT r)
  rw [← cells_knot] at ht
  have hp := List.length_pos_iff.2 hn
  have hv1 := wSm_lv (s := smT l) (t := pcS rs h) (fun h0 => by simp only [pcS] at h0; omega) (lv_zero hl)
  have hn1 := ((tells_smT l).app (tells_pc hn h)).n
  rw [List.length_append, run_len] at hn1
  have hv2 := wSm_lv (s := wSm (smT l) (pcS rs h)) (t := smT r) (lv_zero hr) (fun h0 => by omega)
  obtain ⟨h1, h2, h3, h4⟩ := ht
  obtain ⟨s, hs⟩ : ∃ s, wSm (wSm (smT l) (pcS rs h)) (smT r) = s := ⟨_, rfl⟩
  rw [hs] at h1 h2 h3 h4 hv2 ⊢
  obtain ⟨a, b, c, d, e, f⟩ := s
  simp only at h1 h2 h3 h4 hv2
  unfold smT
  simp only [Sm.mk.injEq]
  refine ⟨h1.symm, ?_, ?_, h2.symm, h3.symm, h4.symm⟩
  · rw [hv2, hv1]; simp only [smT, pcS, lvs]; omega
  · simp only [hgt]; omega
theorem lt_alloc (w : World) (o : Obj) : w.heap.size < (w.alloc o).heap.size := by simp
theorem zeroB {w wR : World} {cs : Array Value} {T : TypeId} (h : Below (w.alloc (.cells cs T)).heap.size (w.alloc (.cells cs T)) wR) : wR.heap[w.heap.size]? = some (.cells cs T (0, 0)) := (h.block _ (lt_alloc _ _)).trans (heap_at rfl)
theorem zeroD {w wR : World} {cs : Array Value} {T : TypeId} (h : Below (w.alloc (.cells cs T)).drew.heap.size (w.alloc (.cells cs T)).drew wR) : wR.heap[w.heap.size]? = some (.cells cs T (0, 0)) := (h.block _ (lt_alloc _ _)).trans (heap_at rfl)
/-- A box of sums that lies fresh. -/
def Fresh6 (w : World) (b : Nat) : Prop := ∃ cs : Array Value, w.heap[b]? = some (.cells cs 97 (0, 0)) ∧ cs.size = 6
theorem info6 : (Tryz.prog.info? 97).map (·.size) = some 6 := by kernel_rfl
/-- The store of whole sums, folded. -/
def stS (x y : Value) : Sem Unit := Instr.storeAt 97 x y
theorem stS_fold (x y : Value) : Instr.storeAt 97 x y = stS x y := rfl
theorem stS_run {w : World} {b : Nat} (h : Fresh6 w b) (n v h' lo c hi : Int) : (stS (.pointer (some ⟨b, 0, none⟩)) (.agg #[.int .i64 n, .int .i64 v, .int .i64 h', .int .i64 lo, .int .i64 c, .int .i64 hi])).run Tryz.prog w = .ok () (w.setRow b #[.int .i64 n, .int .i64 v, .int .i64 h', .int .i64 lo, .int .i64 c, .int .i64 hi]) := by
  obtain ⟨cs, h1, h2⟩ := h
  have h9 := run_storeCells_at (P := Tryz.prog) b 0 _ [.int .i64 n, .int .i64 v, .int .i64 h', .int .i64 lo, .int .i64 c, .int .i64 hi] 0 cs w h1 (by simp [h2]) (by intro v hv; simp at hv; rcases hv with rfl | rfl | rfl | rfl | rfl | rfl <;> rfl)
  have e1 : cs.toList.drop 6 = [] := List.drop_eq_nil_iff.2 (by simp [h2])
  have hi2 := info6
  have e3 : (storeVar 97 ⟨b, 0, none⟩ (.agg #[.int .i64 n, .int .i64 v, .int .i64 h', .int .i64 lo, .int .i64 c, .int .i64 hi])).run Tryz.prog w = .ok () (w.setRow b #[.int .i64 n, .int .i64 v, .int .i64 h', .int .i64 lo, .int .i64 c, .int .i64 hi]) := by
    cases hq : Tryz.prog.info? 97 with
    | none => simp [hq] at hi2
    | some i =>
      have hs : i.size = 6 := by simpa [hq] using hi2
      simp [storeVar, sizeOf, typeInfo, hq, Value.cells, hs, h9, e1]
  unfold stS Instr.storeAt
  rw [Sem.run_bind]
  have e2 : (Instr.sureAddr (.pointer (some ⟨b, 0, none⟩))).run Tryz.prog w = .ok ⟨b, 0, none⟩ w := rfl
  rw [e2, Result.andThen_ok, e3]
/-- The load of whole sums, folded. -/
def ldS (x : Value) : Sem Value := Instr.loadAt 97 x
theorem ldS_fold (x : Value) : Instr.loadAt 97 x = ldS x := rfl
theorem ldS_run {w : World} {B : Nat} {n v h' lo c hi : Int} {fz : Nat × Nat} (h : w.heap[B]? = some (.cells #[.int .i64 n, .int .i64 v, .int .i64 h', .int .i64 lo, .int .i64 c, .int .i64 hi] 97 fz)) :
    (ldS (.pointer (some ⟨B, 0, none⟩))).run Tryz.prog w = .ok (.agg #[.int .i64 n, .int .i64 v, .int .i64 h', .int .i64 lo, .int .i64 c, .int .i64 hi]) w := by
  have hc := fun i => Lib.cell_of_heap h i
  have c0 := hc 0
  have c1 := hc 1
  have c2 := hc 2
  have c3 := hc 3
  have c4 := hc 4
  have c5 := hc 5
  simp at c0 c1 c2 c3 c4 c5
  clear hc h
  unfold ldS
  go_simp
theorem setRow_below {b : Nat} {a w : World} {B : Nat} {cs : Array Value} (h : Below b a w) (hB : b ≤ B) : Below b a (w.setRow B cs) := by
  refine ⟨h.os, h.tape, h.output, ?_, fun k hk => ?_⟩
  · have : (w.setRow B cs).heap.size = w.heap.size := by simp [World.setRow]
    rw [this]; exact h.size
  · rw [setRow_other w B k cs (by omega)]; exact h.block k hk
section
attribute [local go_sem ↓] stS_fold ldS_fold
attribute [local go_sem] stS_run

set_option maxRecDepth 100000 in
set_option maxHeartbeats 8000000 in
theorem knot_any (vl vr pv : Value) (l r : T) (rs : List Int) (hd : Int) (w : World) (hl : TrW w vl l) (hr : TrW w vr r) (hp : Pc w pv rs hd) (hn : rs ≠ []) (h0 : 0 ≤ hd ∧ hd ≤ M) (hlen : (cells l).length + rs.length + (cells r).length ≤ 2097152) :
    Calls Tryz.prog 66 #[vl, pv, vr] w (RetTr w (.node l rs hd r 0)) := by
  obtain ⟨A, c, rfl, hc, hcs⟩ := hp
  obtain ⟨al, rfl⟩ := hl.tr.ptr
  obtain ⟨ar, rfl⟩ := hr.tr.ptr
  have HL := Lib.hid hl
  have HR := Lib.hid hr
  have HCS := Lib.hid (And.intro hc hcs)
  have HWF := Lib.hid (WF.knot hl.wf hr.wf hn h0.1 h0.2)
  have HLEN := Lib.hid (show (cells (.node l rs hd r 0)).length ≤ 2097152 by rw [cells_knot, List.length_append, List.length_append, run_len]; exact hlen)
  have hok1 := smT_ok hl.wf hl.len
  have hok2 := smT_ok hr.wf hr.len
  have hrl : rs.length ≤ 2097152 := by omega
  have hM : M = 1048576 := rfl
  have hok3 : (pcS rs hd).Ok := ⟨⟨by simp only [pcS]; omega, by simp only [pcS]; omega⟩, ⟨by simp only [pcS]; omega, by simp only [pcS]; omega⟩, ⟨by simp only [pcS]; omega, by simp only [pcS]; omega⟩, ⟨by simp only [pcS]; omega, by simp only [pcS]; omega⟩, ⟨by simp only [pcS]; omega, by simp only [pcS]; omega⟩, ⟨by simp only [pcS]; omega, by simp only [pcS]; omega⟩⟩
  have hnl : (smT l).n ≤ 2097152 := by have := hl.len; simp only [smT]; omega
  have hnr : (smT r).n ≤ 2097152 := by have := hr.len; simp only [smT]; omega
  have hvl : (smT l).lv ≤ 2097152 := by have := lvs_le hl.wf; have := hl.len; simp only [smT]; omega
  have hcl : (smT l).c ≤ 2097152 := by have := at_len (cells l); have := hl.len; simp only [smT]; omega
  have hok4 := wSm_ok hok1 hok3 (by simp only [pcS]; omega) (by simp only [pcS]; omega) (by simp only [pcS]; omega)
  have hh1 := hok1.h
  have hh2 := hok2.h
  have HSM := Lib.hid (smT_knot hd hl.wf hr.wf hn)
  have HW1 := Lib.hid (fun W1 => with_any (smT l) (pcS rs hd) W1 hok1 hok3)
  have HW2 := Lib.hid (fun W1 => with_any (wSm (smT l) (pcS rs hd)) (smT r) W1 hok4 hok2)
  have HA1 := Lib.hid (fun W1 (h : Below w.heap.size w W1) => all_any (.pointer al) l W1 (hl.tr.below h))
  have HA2 := Lib.hid (fun W1 (h : Below w.heap.size w W1) => all_any (.pointer ar) r W1 (hr.tr.below h))
  obtain ⟨n, hn'⟩ : ∃ n, rs.length = n := ⟨_, rfl⟩
  have HN := Lib.hid hn'
  unfold pcS at HSM HW1 HW2
  rw [hn'] at HSM HW1 HW2 ⊢
  obtain ⟨sl, hsl⟩ : ∃ sl, smT l = sl := ⟨_, rfl⟩
  obtain ⟨sr, hsr⟩ : ∃ sr, smT r = sr := ⟨_, rfl⟩
  rw [hsl] at HSM HW1 HW2 HA1 hh1
  rw [hsr] at HSM HW2 HA2 hh2
  clear hl hr hc hcs hok1 hok2 hok3 hok4 hnl hnr hvl hcl hn h0 hlen hrl hn' hsl hsr hM
  go_enter Tryz.func66, Tryz.ntmps66
  go_wp2_with fail
  refine (HA1.out _ (below_alloc1 _ _)).mono ?_
  rintro e w1 ⟨rfl, hb1⟩
  have HB1 := Lib.hid ((below_alloc1 w (.cells #[.slice A n c, .int .i64 hd] 114)).trans (hb1.mono (by simp)))
  have HX1 := Lib.hid ((hb1.block w.heap.size (by simp)).trans (heap_at rfl))
  clear hb1
  go_wp2_with fail
  refine (HA2.out _ HB1.out).mono ?_
  rintro e w2 ⟨rfl, hb2⟩
  have HB2 := Lib.hid (HB1.out.trans (hb2.mono HB1.out.size))
  have HX2 := Lib.hid ((hb2.block w.heap.size (Array.getElem?_eq_some_iff.1 HX1.out).1).trans HX1.out)
  clear hb2
  obtain ⟨n1, v1, h1, lo1, c1, hi1⟩ := sl
  obtain ⟨n2, v2, h2, lo2, c2, hi2⟩ := sr
  unfold Sm.v
  simp only at hh1 hh2
  have hw1 := HW1.out
  have hw2 := HW2.out
  have hsm := HSM.out
  obtain ⟨s1, hs1⟩ : ∃ s1, wSm ⟨n1, v1, h1, lo1, c1, hi1⟩ ⟨n, 1, 0, hd, n, hd⟩ = s1 := ⟨_, rfl⟩
  rw [hs1] at hw1 hw2 hsm
  obtain ⟨s2, hs2⟩ : ∃ s2, wSm s1 ⟨n2, v2, h2, lo2, c2, hi2⟩ = s2 := ⟨_, rfl⟩
  rw [hs2] at hw2 hsm
  obtain ⟨n3, v3, h3, lo3, c3, hi3⟩ := s1
  obtain ⟨n4, v4, h4, lo4, c4, hi4⟩ := s2
  simp only [Sm.v] at hw1 hw2
  simp only at hsm
  have HSM2 := Lib.hid hsm
  have HV1 := Lib.hid hw1
  have HV2 := Lib.hid hw2
  clear hw1 hw2 hsm hs1 hs2 HW1 HW2 HSM
  have fz1 : Fresh6 ((w2.alloc (.cells #[.int .i64 0, .int .i64 0, .int .i64 0, .int .i64 0, .int .i64 0, .int .i64 0] 97)).alloc (.cells #[.int .i64 0, .int .i64 0, .int .i64 0, .int .i64 0, .int .i64 0, .int .i64 0] 97)) w2.heap.size := ⟨_, (Lib.alloc_old (w2.alloc _) _ _ (lt_alloc _ _)).trans (heap_at rfl), rfl⟩
  have fz2 : Fresh6 (((w2.alloc (.cells #[.int .i64 0, .int .i64 0, .int .i64 0, .int .i64 0, .int .i64 0, .int .i64 0] 97)).alloc (.cells #[.int .i64 0, .int .i64 0, .int .i64 0, .int .i64 0, .int .i64 0, .int .i64 0] 97)).setRow w2.heap.size #[.int .i64 n1, .int .i64 v1, .int .i64 h1, .int .i64 lo1, .int .i64 c1, .int .i64 hi1]) (w2.heap.size + 1) := ⟨_, (setRow_other _ _ _ _ (Nat.succ_ne_self _)).trans (heap_at (w := w2.alloc _) (by simp)), rfl⟩
  have FZ1 := Lib.hid fz1
  have FZ2 := Lib.hid fz2
  go_wp2_with fail
  obtain ⟨W0, hW0⟩ : ∃ W0, (((w2.alloc (.cells #[.int .i64 0, .int .i64 0, .int .i64 0, .int .i64 0, .int .i64 0, .int .i64 0] 97)).alloc (.cells #[.int .i64 0, .int .i64 0, .int .i64 0, .int .i64 0, .int .i64 0, .int .i64 0] 97)).setRow w2.heap.size #[.int .i64 n1, .int .i64 v1, .int .i64 h1, .int .i64 lo1, .int .i64 c1, .int .i64 hi1]).setRow (w2.heap.size + 1) #[.int .i64 n2, .int .i64 v2, .int .i64 h2, .int .i64 lo2, .int .i64 c2, .int .i64 hi2] = W0 := ⟨_, rfl⟩
  have hB0 : Below w2.heap.size w2 W0 := by rw [← hW0]; exact setRow_below (setRow_below (((Below.refl _ _).alloc (Nat.le_refl _) _).alloc (by simp) _) (Nat.le_refl _)) (Nat.le_succ _)
  have HB0 := Lib.hid hB0
  have HXA := Lib.hid (show W0.heap[w2.heap.size]? = some (.cells #[.int .i64 n1, .int .i64 v1, .int .i64 h1, .int .i64 lo1, .int .i64 c1, .int .i64 hi1] 97 (0, 0)) by
    obtain ⟨cs, h1, h2⟩ := FZ1.out
    rw [← hW0, setRow_other _ _ _ _ (Nat.ne_of_lt (Nat.lt_succ_self _))]
    exact setRow_heap _ _ _ _ _ _ h1)
  have HXB := Lib.hid (show W0.heap[w2.heap.size + 1]? = some (.cells #[.int .i64 n2, .int .i64 v2, .int .i64 h2, .int .i64 lo2, .int .i64 c2, .int .i64 hi2] 97 (0, 0)) by
    obtain ⟨cs, h1, h2⟩ := FZ2.out
    rw [← hW0]
    exact setRow_heap _ _ _ _ _ _ h1)
  have HXC := Lib.hid ((hB0.block _ (Array.getElem?_eq_some_iff.1 HX2.out).1).trans HX2.out)
  have HSS := Lib.hid (fun (W1 : World) (hW : Below W0.heap.size W0 W1) => (show (W1.cell? ⟨w.heap.size, 0, none⟩ = some (.slice A n c) ∧ W1.cell? ⟨w.heap.size, 1, none⟩ = some (.int .i64 hd)) ∧ (ldS (.pointer (some ⟨w2.heap.size, 0, none⟩))).run Tryz.prog W1 = .ok (.agg #[.int .i64 n1, .int .i64 v1, .int .i64 h1, .int .i64 lo1, .int .i64 c1, .int .i64 hi1]) W1 ∧ (ldS (.pointer (some ⟨w2.heap.size + 1, 0, none⟩))).run Tryz.prog W1 = .ok (.agg #[.int .i64 n2, .int .i64 v2, .int .i64 h2, .int .i64 lo2, .int .i64 c2, .int .i64 hi2]) W1 from by
    have eA := (hW.block _ (Array.getElem?_eq_some_iff.1 HXA.out).1).trans HXA.out
    have eB := (hW.block _ (Array.getElem?_eq_some_iff.1 HXB.out).1).trans HXB.out
    have eC := (hW.block _ (Array.getElem?_eq_some_iff.1 HXC.out).1).trans HXC.out
    exact ⟨⟨by rw [Lib.cell_of_heap eC]; rfl, by rw [Lib.cell_of_heap eC]; rfl⟩, ldS_run eA, ldS_run eB⟩))
  rw [hW0]
  clear hW0 hB0 fz1 fz2
  have CW1 := Lib.hid (fun (W1 : World) (hW : Below W0.heap.size W0 W1) => (HV1.out W1).mono (R' := fun e w' => e = .returned (.agg #[.int .i64 n3, .int .i64 v3, .int .i64 h3, .int .i64 lo3, .int .i64 c3, .int .i64 hi3]) ∧ Below W0.heap.size W0 w' ∧ Below W1.heap.size W1 w') fun e w' ⟨h1, h2⟩ => ⟨h1, hW.trans (h2.mono hW.size), h2⟩)
  have CW2 := Lib.hid (fun (W1 : World) (hW : Below W0.heap.size W0 W1) => (HV2.out W1).mono (R' := fun e w' => e = .returned (.agg #[.int .i64 n4, .int .i64 v4, .int .i64 h4, .int .i64 lo4, .int .i64 c4, .int .i64 hi4]) ∧ Below W0.heap.size W0 w' ∧ Below W1.heap.size W1 w') fun e w' ⟨h1, h2⟩ => ⟨h1, hW.trans (h2.mono hW.size), h2⟩)
  have HZ := Lib.hid (show Below W0.heap.size W0 (W0.alloc (.cells #[.int .i64 0, .int .i64 0, .int .i64 0, .int .i64 0, .int .i64 0, .int .i64 0] 97)).drew from ((Below.refl _ _).alloc (Nat.le_refl _) _).drew)
  obtain ⟨⟨p0, p1⟩, a0, b0⟩ := HSS.out _ (Below.refl _ _)
  go_cut [9] (fun v wx => ∃ B, v = .pointer (some ⟨B, 0, none⟩) ∧ wx.heap[B]? = some (.cells #[.int .i64 n4, .int .i64 v4, .int .i64 h4, .int .i64 lo4, .int .i64 c4, .int .i64 hi4] 97 (0, 0)) ∧ Below W0.heap.size W0 wx ∧ W0.heap.size ≤ B)
  case first =>
    go_region_held3 (fun w' => (w'.cell? ⟨w.heap.size, 0, none⟩ = some (.slice A n c) ∧ w'.cell? ⟨w.heap.size, 1, none⟩ = some (.int .i64 hd)) ∧ (ldS (.pointer (some ⟨w2.heap.size, 0, none⟩))).run Tryz.prog w' = .ok (.agg #[.int .i64 n1, .int .i64 v1, .int .i64 h1, .int .i64 lo1, .int .i64 c1, .int .i64 hi1]) w' ∧ (ldS (.pointer (some ⟨w2.heap.size + 1, 0, none⟩))).run Tryz.prog w' = .ok (.agg #[.int .i64 n2, .int .i64 v2, .int .i64 h2, .int .i64 lo2, .int .i64 c2, .int .i64 hi2]) w')
      (first | (with_reducible exact HSS.out _ hbR) | (with_reducible exact HSS.out _ (hbR.alloc hbR.size _)) | (with_reducible exact HSS.out _ hbL) | (with_reducible exact HSS.out _ (hbL.alloc hbL.size _)) | (with_reducible exact HSS.out _ (Below.refl _ _).drew) | (with_reducible exact HSS.out _ HZ.out) | (with_reducible exact HSS.out _ (setRow_below hbR (Nat.le_refl _))) | (with_reducible exact HSS.out _ (setRow_below hbR hbL.size)) | (with_reducible exact HSS.out _ (setRow_below (hbR.alloc hbR.size _) hbR.size)))
      (first
      | ((with_reducible refine (CW1.out W0.drew (Below.refl _ _).drew).mono ?_); rintro e wL ⟨rfl, hbL, hcL⟩; clear hcL)
      | ((with_reducible refine (CW1.out (W0.alloc (.cells #[.int .i64 0, .int .i64 0, .int .i64 0, .int .i64 0, .int .i64 0, .int .i64 0] 97)).drew HZ.out).mono ?_); rintro e wL ⟨rfl, hbL, hcL⟩; have zc := zeroD hcL; clear hcL)
      | ((with_reducible refine (CW2.out (wL.alloc (.cells #[.int .i64 0, .int .i64 0, .int .i64 0, .int .i64 0, .int .i64 0, .int .i64 0] 97)) (hbL.alloc hbL.size _)).mono ?_); rintro e wR ⟨rfl, hbR, hcR⟩; have zr : Fresh6 wR wL.heap.size := ⟨_, zeroB hcR, rfl⟩; clear hcR)
      | ((with_reducible refine (CW2.out wL hbL).mono ?_); rintro e wR ⟨rfl, hbR, hcR⟩; have zr : Fresh6 wR W0.heap.size := ⟨_, (hcR.block _ (Array.getElem?_eq_some_iff.1 zc).1).trans zc, rfl⟩; clear hcR)
      | ((with_reducible refine (CW2.out wL hbL).mono ?_); rintro e wR ⟨rfl, hbR, hcR⟩; have zr : Fresh6 (wR.alloc (.cells #[.int .i64 0, .int .i64 0, .int .i64 0, .int .i64 0, .int .i64 0, .int .i64 0] 97)) wR.heap.size := ⟨_, heap_at rfl, rfl⟩; clear hcR))
    all_goals go_wp2_with fail
    all_goals
      go_meet
      obtain ⟨cs, h1, h2⟩ := zr
      exact ⟨_, rfl, setRow_heap _ _ _ _ _ _ h1, setRow_below (by first | exact hbR | exact hbR.alloc hbR.size _) (by first | exact hbR.size | exact hbL.size | exact Nat.le_refl _), by first | exact hbR.size | exact hbL.size | exact Nat.le_refl _⟩
  case rest =>
    obtain ⟨B, rfl, hx, hb, hB⟩ := hcut
    have eA := (hb.block _ (Array.getElem?_eq_some_iff.1 HXA.out).1).trans HXA.out
    have eB := (hb.block _ (Array.getElem?_eq_some_iff.1 HXB.out).1).trans HXB.out
    have eC := (hb.block _ (Array.getElem?_eq_some_iff.1 HXC.out).1).trans HXC.out
    have y2 : wc.cell? ⟨w2.heap.size, 2, none⟩ = some (.int .i64 h1) := by rw [Lib.cell_of_heap eA]; rfl
    have z2 : wc.cell? ⟨w2.heap.size + 1, 2, none⟩ = some (.int .i64 h2) := by rw [Lib.cell_of_heap eB]; rfl
    have x2 : wc.cell? ⟨B, 2, none⟩ = some (.int .i64 h4) := by rw [Lib.cell_of_heap hx]; rfl
    have xf : wc.frozen? ⟨B, 2, none⟩ = false := Lib.frozen_of_heap hx 2
    have xs : B < wc.heap.size := (Array.getElem?_eq_some_iff.1 hx).1
    have m1 := max_if h1 h2
    obtain ⟨H, hH⟩ : ∃ H, 1 + max h1 h2 = H := ⟨_, rfl⟩
    have e1 : IntKind.i64.wrap (1 + max h1 h2) = H := by rw [hH]; exact IntWalk.i64_in _ (by omega)
    have hsm := HSM2.out
    rw [hH] at hsm
    have HSM3 := Lib.hid hsm
    have hneq : w.heap.size ≠ B := by have := (Array.getElem?_eq_some_iff.1 HXC.out).1; omega
    have h9 : (wc.setCell ⟨B, 2, none⟩ (.int .i64 H)).heap[B]? = some (.cells #[.int .i64 n4, .int .i64 v4, .int .i64 H, .int .i64 lo4, .int .i64 c4, .int .i64 hi4] 97 (0, 0)) := by simp [World.setCell, Array.getElem?_modify, hx]
    have x9 := ldS_run h9
    have p9 : (wc.setCell ⟨B, 2, none⟩ (.int .i64 H)).cell? ⟨w.heap.size, 0, none⟩ = some (.slice A n c) := (cell_setCell_far (a := ⟨w.heap.size, 0, none⟩) hneq).trans (by rw [Lib.cell_of_heap eC]; rfl)
    have q9 : (wc.setCell ⟨B, 2, none⟩ (.int .i64 H)).cell? ⟨w.heap.size, 1, none⟩ = some (.int .i64 hd) := (cell_setCell_far (a := ⟨w.heap.size, 1, none⟩) hneq).trans (by rw [Lib.cell_of_heap eC]; rfl)
    have HB9 := Lib.hid (show Below w.heap.size w (wc.setCell ⟨B, 2, none⟩ (.int .i64 H)) from ((HB2.out.trans (HB0.out.mono HB2.out.size)).trans (hb.mono (Nat.le_trans HB2.out.size HB0.out.size))).setCell (p := ⟨B, 2, none⟩) (Nat.le_trans (Nat.le_trans HB2.out.size HB0.out.size) hB) _)
    clear eA eB eC hx hb hB hsm h9 hneq a0 b0 p0 p1 hH
    go_wp2_with fail
    go_ret
    have hbb := HB9.out.alloc HB9.out.size (.cells #[.int .i64 n4, .int .i64 v4, .int .i64 H, .int .i64 lo4, .int .i64 c4, .int .i64 hi4, .pointer al, .pointer ar, .slice A n c, .int .i64 hd, .int .i64 0] 139)
    refine ⟨⟨_, rfl, Tr.mk (fz := (0, 0)) HSM3.out ?_ HCS.out.1 (HCS.out.2.below hbb) (HL.out.tr.below hbb) (HR.out.tr.below hbb), HWF.out, HLEN.out⟩, hbb⟩
    rw [HN.out]
    exact heap_at (by simp [World.setCell])
end
end Go.Proofs.YtkdhomiieenfnaaGreatDoor.Rp

namespace Go.Proofs.YtkdhomiieenfnaaGreatDoor.Rp
open Go.RowKit Go.Proofs Go.Proofs.YtkdhomiieenfnaaGreatDoor.U Go.Proofs.YtkdhomiieenfnaaGreatDoor.Txt
set_option linter.unusedVariables false
set_option linter.unusedSimpArgs false

/-- The load of a whole piece, folded. -/
def ldP (x : Value) : Sem Value := Instr.loadAt 114 x
theorem ldP_fold (x : Value) : Instr.loadAt 114 x = ldP x := rfl
theorem ldP_run {w : World} {B : Nat} {v u : Value} {fz : Nat × Nat} (h : w.heap[B]? = some (.cells #[v, u] 114 fz)) : (ldP (.pointer (some ⟨B, 0, none⟩))).run Tryz.prog w = .ok (.agg #[v, u]) w := by
  have c0 : w.cell? ⟨B, 0, none⟩ = some v := by rw [Lib.cell_of_heap h]; rfl
  have c1 : w.cell? ⟨B, 1, none⟩ = some u := by rw [Lib.cell_of_heap h]; rfl
  clear h
  unfold ldP
  go_simp
theorem fldN (n v h lo c hi : Int) (w : World) : (Instr.field 97 (.agg #[.int .i64 n, .int .i64 v, .int .i64 h, .int .i64 lo, .int .i64 c, .int .i64 hi]) 0).run Tryz.prog w = .ok (.int .i64 n) w := by kernel_rfl
theorem fldH (n v h lo c hi : Int) (w : World) : (Instr.field 97 (.agg #[.int .i64 n, .int .i64 v, .int .i64 h, .int .i64 lo, .int .i64 c, .int .i64 hi]) 2).run Tryz.prog w = .ok (.int .i64 h) w := by kernel_rfl
theorem fldLo (n v h lo c hi : Int) (w : World) : (Instr.field 97 (.agg #[.int .i64 n, .int .i64 v, .int .i64 h, .int .i64 lo, .int .i64 c, .int .i64 hi]) 3).run Tryz.prog w = .ok (.int .i64 lo) w := by kernel_rfl
theorem fldHi (n v h lo c hi : Int) (w : World) : (Instr.field 97 (.agg #[.int .i64 n, .int .i64 v, .int .i64 h, .int .i64 lo, .int .i64 c, .int .i64 hi]) 5).run Tryz.prog w = .ok (.int .i64 hi) w := by kernel_rfl
/-- What a function answers that makes a tree of these cells. -/
def RetC (cs : List Cl) (w : World) (e : Ending) (w' : World) : Prop := (∃ v t, e = .returned v ∧ TrW w' v t ∧ cells t = cs) ∧ Below w.heap.size w w'
/-- knot's contract, from a world on. -/
theorem knot_from {W0 : World} {vl vr pv : Value} {l r : T} {rs : List Int} {hd : Int} (hl : TrW W0 vl l) (hr : TrW W0 vr r) (hp : Pc W0 pv rs hd) (hn : rs ≠ []) (h0 : 0 ≤ hd ∧ hd ≤ M) (hlen : (cells l).length + rs.length + (cells r).length ≤ 2097152) (W : World) (hW : Below W0.heap.size W0 W) :
    Calls Tryz.prog 66 #[vl, pv, vr] W fun e w' => (∃ v, e = .returned v ∧ TrW w' v (.node l rs hd r 0)) ∧ Below W0.heap.size W0 w' ∧ Below W.heap.size W w' :=
  (knot_any vl vr pv l r rs hd W (hl.below hW) (hr.below hW) (hp.below hW) hn h0 hlen).mono fun e w' ⟨h1, h2⟩ => ⟨h1, hW.trans (h2.mono hW.size), h2⟩
/-- A tree's height is what it tells. -/
theorem tall_node {vl : Value} {t : T} {k : Nat} {w : World} (h : k < hgt t) : ∃ l rs hd r p, t = .node l rs hd r p := hgt_pos (by omega)
section
attribute [local go_sem ↓] ldP_fold
attribute [local go_sem] fldN fldH fldLo fldHi

set_option maxRecDepth 100000 in
set_option maxHeartbeats 8000000 in
theorem weigh_even (vl vr pv : Value) (l r : T) (rs : List Int) (hd : Int) (w : World) (hl : TrW w vl l) (hr : TrW w vr r) (hp : Pc w pv rs hd) (hn : rs ≠ []) (h0 : 0 ≤ hd ∧ hd ≤ M) (hlen : (cells l).length + rs.length + (cells r).length ≤ 2097152)
    (h1 : ¬ hgt r + 1 < hgt l) (h2 : ¬ hgt l + 1 < hgt r) :
    Calls Tryz.prog 142 #[vl, pv, vr] w (RetC (cells l ++ run rs hd ++ cells r) w) := by
  obtain ⟨A, c, rfl, hc, hcs⟩ := hp
  have HL := Lib.hid hl
  have HR := Lib.hid hr
  have hok1 := smT_ok hl.wf hl.len
  have hok2 := smT_ok hr.wf hr.len
  have HK := Lib.hid (fun (W : World) (hW : Below w.heap.size w W) => knot_from hl hr ⟨A, c, rfl, hc, hcs⟩ hn h0 hlen W hW)
  have HA1 := Lib.hid (fun W1 (h : Below w.heap.size w W1) => all_any vl l W1 (hl.tr.below h))
  have HA2 := Lib.hid (fun W1 (h : Below w.heap.size w W1) => all_any vr r W1 (hr.tr.below h))
  have hg1 : (smT l).h = (hgt l : Int) := rfl
  have hg2 : (smT r).h = (hgt r : Int) := rfl
  have b1 := hok1.h
  have b2 := hok2.h
  obtain ⟨n, hn'⟩ : ∃ n, rs.length = n := ⟨_, rfl⟩
  rw [hn'] at HK ⊢
  obtain ⟨sl, hsl⟩ : ∃ sl, smT l = sl := ⟨_, rfl⟩
  obtain ⟨sr, hsr⟩ : ∃ sr, smT r = sr := ⟨_, rfl⟩
  rw [hsl] at HA1 hg1 b1
  rw [hsr] at HA2 hg2 b2
  obtain ⟨n1, v1, h1', lo1, c1, hi1⟩ := sl
  obtain ⟨n2, v2, h2', lo2, c2, hi2⟩ := sr
  simp only at hg1 hg2 b1 b2
  have g1 : ¬ h2' + 1 < h1' := by omega
  have g2 : ¬ h1' + 1 < h2' := by omega
  clear hl hr hc hcs hn h0 hlen hok1 hok2 hg1 hg2 hn' hsl hsr h1 h2
  unfold Sm.v at HA1 HA2
  go_enter Tryz.func142, Tryz.ntmps142
  go_wp2_with fail
  refine (HA1.out _ (below_alloc1 _ _)).mono ?_
  rintro e w1 ⟨rfl, hb1⟩
  have HB1 := Lib.hid ((below_alloc1 w (.cells #[.slice A n c, .int .i64 hd] 114)).trans (hb1.mono (by simp)))
  have HX1 := Lib.hid ((hb1.block w.heap.size (by simp)).trans (heap_at rfl))
  clear hb1
  go_wp2_with fail
  refine (HA2.out _ HB1.out).mono ?_
  rintro e w2 ⟨rfl, hb2⟩
  have HB2 := Lib.hid (HB1.out.trans (hb2.mono HB1.out.size))
  have HX2 := Lib.hid ((hb2.block w.heap.size (Array.getElem?_eq_some_iff.1 HX1.out).1).trans HX1.out)
  have x2 := ldP_run HX2.out
  clear hb2
  go_wp2_with fail
  refine (HK.out _ HB2.out).mono ?_
  rintro e w3 ⟨⟨v3, rfl, ht3⟩, hb3, -⟩
  have HT3 := Lib.hid ht3
  have HB3 := Lib.hid hb3
  clear ht3 hb3
  go_wp2_with fail
  go_ret
  exact ⟨⟨_, _, rfl, HT3.out, cells_knot _ _ _ _⟩, HB3.out⟩
theorem node_len {l r : T} {rs : List Int} {h p : Int} : (cells (.node l rs h r p)).length = (cells (lift p l)).length + rs.length + (cells (lift p r)).length := by
  rw [cells_open, List.length_append, List.length_append, run_len]
set_option maxRecDepth 100000 in
set_option maxHeartbeats 8000000 in
theorem weigh_left1 (vl vr pv : Value) (l1 l2 r : T) (ls rs : List Int) (lh lp hd : Int) (w : World) (hl : TrW w vl (.node l1 ls lh l2 lp)) (hr : TrW w vr r) (hp : Pc w pv rs hd) (hn : rs ≠ []) (h0 : 0 ≤ hd ∧ hd ≤ M) (hlen : (cells (.node l1 ls lh l2 lp)).length + rs.length + (cells r).length ≤ 2097152)
    (h1 : hgt r + 1 < hgt (.node l1 ls lh l2 lp)) (h2 : hgt l2 ≤ hgt l1) :
    Calls Tryz.prog 142 #[vl, pv, vr] w (RetC (cells (.node l1 ls lh l2 lp) ++ run rs hd ++ cells r) w) := by
  obtain ⟨A, c, rfl, hc, hcs⟩ := hp
  have HR := Lib.hid hr
  have HP := Lib.hid (show Pc w (.agg #[.slice A rs.length c, .int .i64 hd]) rs hd from ⟨A, c, rfl, hc, hcs⟩)
  have hok1 := smT_ok hl.wf hl.len
  have hok2 := smT_ok hr.wf hr.len
  have hpt := hl.wf.parts
  have HPT := Lib.hid hpt
  have HLEN := Lib.hid hlen
  have HNE := Lib.hid hn
  have H0 := Lib.hid h0
  have HO := Lib.hid (fun (W : World) (hW : Below w.heap.size w W) => open_any vl l1 l2 ls lh lp W (hl.below hW))
  have HA1 := Lib.hid (fun W1 (h : Below w.heap.size w W1) => all_any vl (.node l1 ls lh l2 lp) W1 (hl.tr.below h))
  have HA2 := Lib.hid (fun W1 (h : Below w.heap.size w W1) => all_any vr r W1 (hr.tr.below h))
  have hg1 : (smT (.node l1 ls lh l2 lp)).h = (hgt (.node l1 ls lh l2 lp) : Int) := rfl
  have hg2 : (smT r).h = (hgt r : Int) := rfl
  have b1 := hok1.h
  have b2 := hok2.h
  obtain ⟨n, hn'⟩ : ∃ n, rs.length = n := ⟨_, rfl⟩
  rw [hn'] at HP ⊢
  obtain ⟨sl, hsl⟩ : ∃ sl, smT (.node l1 ls lh l2 lp) = sl := ⟨_, rfl⟩
  obtain ⟨sr, hsr⟩ : ∃ sr, smT r = sr := ⟨_, rfl⟩
  rw [hsl] at HA1 hg1 b1
  rw [hsr] at HA2 hg2 b2
  obtain ⟨n1, v1, h1', lo1, c1, hi1⟩ := sl
  obtain ⟨n2, v2, h2', lo2, c2, hi2⟩ := sr
  simp only at hg1 hg2 b1 b2
  have g1 : h2' + 1 < h1' := by omega
  have H2 := Lib.hid h2
  clear hl hr hc hcs hn h0 hlen hok1 hok2 hg1 hg2 hn' hsl hsr h1 h2 hpt
  unfold Sm.v at HA1 HA2
  go_enter Tryz.func142, Tryz.ntmps142
  go_wp2_with fail
  refine (HA1.out _ (below_alloc1 _ _)).mono ?_
  rintro e w1 ⟨rfl, hb1⟩
  have HB1 := Lib.hid ((below_alloc1 w (.cells #[.slice A n c, .int .i64 hd] 114)).trans (hb1.mono (by simp)))
  have HX1 := Lib.hid ((hb1.block w.heap.size (by simp)).trans (heap_at rfl))
  clear hb1
  go_wp2_with fail
  refine (HA2.out _ HB1.out).mono ?_
  rintro e w2 ⟨rfl, hb2⟩
  have HB2 := Lib.hid (HB1.out.trans (hb2.mono HB1.out.size))
  have HX2 := Lib.hid ((hb2.block w.heap.size (Array.getElem?_eq_some_iff.1 HX1.out).1).trans HX1.out)
  clear hb2
  go_wp2_with fail
  refine (HO.out _ HB2.out).mono ?_
  rintro e w3 ⟨⟨vl1, vlp, vl2, rfl, ht1, ht2, A', c', rfl, hc', hcs'⟩, hb3⟩
  have HB3 := Lib.hid (HB2.out.trans (hb3.mono HB2.out.size))
  have HX3 := Lib.hid ((hb3.block w.heap.size (Array.getElem?_eq_some_iff.1 HX2.out).1).trans HX2.out)
  obtain ⟨n', hn'⟩ : ∃ n', ls.length = n' := ⟨_, rfl⟩
  have HN' := Lib.hid hn'
  have HP' := Lib.hid (show Pc w3 (.agg #[.slice A' n' c', .int .i64 (lh + lp)]) ls (lh + lp) from ⟨A', c', by rw [hn'], hc', hcs'⟩)
  have HT1 := Lib.hid ht1
  have HT2 := Lib.hid ht2
  have q1 := smT_ok ht1.wf ht1.len
  have q2 := smT_ok ht2.wf ht2.len
  have HQ1 := Lib.hid (fun W1 (h : Below w3.heap.size w3 W1) => all_any vl1 (lift lp l1) W1 (ht1.tr.below h))
  have HQ2 := Lib.hid (fun W1 (h : Below w3.heap.size w3 W1) => all_any vl2 (lift lp l2) W1 (ht2.tr.below h))
  have hg1 : (smT (lift lp l1)).h = (hgt l1 : Int) := by rw [← hgt_lift lp l1]; rfl
  have hg2 : (smT (lift lp l2)).h = (hgt l2 : Int) := by rw [← hgt_lift lp l2]; rfl
  obtain ⟨sl, hsl⟩ : ∃ sl, smT (lift lp l1) = sl := ⟨_, rfl⟩
  obtain ⟨sr, hsr⟩ : ∃ sr, smT (lift lp l2) = sr := ⟨_, rfl⟩
  rw [hsl] at HQ1 hg1
  rw [hsr] at HQ2 hg2
  obtain ⟨n3, v3, h3', lo3, c3, hi3⟩ := sl
  obtain ⟨n4, v4, h4', lo4, c4, hi4⟩ := sr
  simp only at hg1 hg2
  have g2 : h4' ≤ h3' := by have := H2.out; omega
  unfold Sm.v at HQ1 HQ2
  rw [hn']
  clear hb3 ht1 ht2 hc' hcs' hn' q1 q2 hg1 hg2 hsl hsr
  go_wp2_with fail
  refine (HQ1.out _ (below_alloc1 _ _)).mono ?_
  rintro e w4 ⟨rfl, hb4⟩
  have HB4 := Lib.hid ((below_alloc1 w3 (.cells #[.slice A' n' c', .int .i64 (lh + lp)] 114)).trans (hb4.mono (by simp)))
  have HY4 := Lib.hid ((hb4.block w3.heap.size (by simp)).trans (heap_at rfl))
  clear hb4
  go_wp2_with fail
  refine (HQ2.out _ HB4.out).mono ?_
  rintro e w5 ⟨rfl, hb5⟩
  have HB5 := Lib.hid (HB4.out.trans (hb5.mono HB4.out.size))
  have HB6 := Lib.hid (HB3.out.trans (HB5.out.mono HB3.out.size))
  have HY5 := Lib.hid ((hb5.block w3.heap.size (Array.getElem?_eq_some_iff.1 HY4.out).1).trans HY4.out)
  have HX5 := Lib.hid ((HB5.out.block w.heap.size (Array.getElem?_eq_some_iff.1 HX3.out).1).trans HX3.out)
  have HSS := Lib.hid (fun (W1 : World) (hW : Below w5.heap.size w5 W1) => (show (ldP (.pointer (some ⟨w.heap.size, 0, none⟩))).run Tryz.prog W1 = .ok (.agg #[.slice A n c, .int .i64 hd]) W1 ∧ (ldP (.pointer (some ⟨w3.heap.size, 0, none⟩))).run Tryz.prog W1 = .ok (.agg #[.slice A' n' c', .int .i64 (lh + lp)]) W1 from
    ⟨ldP_run ((hW.block _ (Array.getElem?_eq_some_iff.1 HX5.out).1).trans HX5.out), ldP_run ((hW.block _ (Array.getElem?_eq_some_iff.1 HY5.out).1).trans HY5.out)⟩))
  have hlen2 := HLEN.out
  rw [node_len] at hlen2
  have C1 := Lib.hid (knot_from (HT2.out.below HB5.out) (HR.out.below HB6.out) (HP.out.below HB6.out) HNE.out H0.out (by omega))
  have C2 := Lib.hid (fun (W : World) (hW : Below w5.heap.size w5 W) (v : Value) (hv : TrW W v (.node (lift lp l2) rs hd r 0)) => knot_from ((HT1.out.below HB5.out).below hW) hv ((HP'.out.below HB5.out).below hW) HPT.out.2.2.2.1 HPT.out.2.2.2.2 (by rw [cells_knot, List.length_append, List.length_append, run_len]; omega) W (Below.refl _ _))
  clear hb5 hlen2
  obtain ⟨s1, s2⟩ := HSS.out _ (Below.refl _ _)
  go_wp2_with fail
  go_region_held3 (fun w' => (ldP (.pointer (some ⟨w.heap.size, 0, none⟩))).run Tryz.prog w' = .ok (.agg #[.slice A n c, .int .i64 hd]) w' ∧ (ldP (.pointer (some ⟨w3.heap.size, 0, none⟩))).run Tryz.prog w' = .ok (.agg #[.slice A' n' c', .int .i64 (lh + lp)]) w')
    (first | (with_reducible exact HSS.out _ (hbL.trans (hbR.mono hbL.size))) | (with_reducible exact HSS.out _ hbL) | (with_reducible exact HSS.out _ (Below.refl _ _).drew))
    (first
    | ((with_reducible refine (C1.out _ (Below.refl _ _).drew).mono ?_); rintro e wL ⟨⟨vL, rfl, htL⟩, hbL, -⟩)
    | ((with_reducible refine (C2.out _ hbL vL htL).mono ?_); rintro e wR ⟨⟨vR, rfl, htR⟩, hbR, -⟩))
  go_wp2_with fail
  go_ret
  refine ⟨⟨_, _, rfl, htR, ?_⟩, HB6.out.trans ((hbL.trans (hbR.mono hbL.size)).mono HB6.out.size)⟩
  rw [cells_knot, cells_knot, cells_open]
  simp
end
end Go.Proofs.YtkdhomiieenfnaaGreatDoor.Rp

namespace Go.Proofs.YtkdhomiieenfnaaGreatDoor.Rp
set_option linter.unusedVariables false
set_option linter.unusedSimpArgs false

/-- The places and runes of the visible cells. -/
def vpos : Nat → List Cl → List (Nat × Int)
  | _, [] => []
  | a, c :: l => if c.2 = 0 then (a, c.1) :: vpos (a + 1) l else vpos (a + 1) l
def vis (cs : List Cl) : List Int := (cs.filter fun c => decide (c.2 = 0)).map (·.1)
/-- The place of the p-th visible cell. -/
def plc : List Cl → Nat → Nat
  | [], _ => 0
  | c :: l, p => if c.2 = 0 then (if p = 0 then 0 else 1 + plc l (p - 1)) else 1 + plc l p
/-- How many cells are shown. -/
def shown (cs : List Cl) : Nat := cs.countP fun c => decide (c.2 = 0)
theorem shown_app (a b : List Cl) : shown (a ++ b) = shown a + shown b := List.countP_append
theorem shown_cons (c : Cl) (l : List Cl) : shown (c :: l) = shown l + if c.2 = 0 then 1 else 0 := by simp [shown, List.countP_cons]
theorem shown_le (l : List Cl) : shown l ≤ l.length := List.countP_le_length
theorem shown_run0 (rs : List Int) : shown (run rs 0) = rs.length := by
  unfold shown
  rw [List.countP_eq_length.2 (fun c hc => by rw [(run_mem hc).1]; simp), run_len]
theorem shown_run1 (rs : List Int) {h : Int} (hh : h ≠ 0) : shown (run rs h) = 0 := by
  unfold shown
  rw [List.countP_eq_zero]
  intro c hc
  rw [(run_mem hc).1]; simp [hh]
theorem vpos_len : ∀ (a : Nat) (cs : List Cl), (vpos a cs).length = shown cs
  | a, [] => rfl
  | a, c :: l => by rw [vpos, shown_cons]; split <;> simp [vpos_len (a + 1) l]
theorem vpos_vis : ∀ (a : Nat) (cs : List Cl), (vpos a cs).map (·.2) = vis cs
  | a, [] => rfl
  | a, c :: l => by
    have := vpos_vis (a + 1) l
    unfold vis at this ⊢
    rw [vpos, List.filter_cons]
    by_cases h : c.2 = 0 <;> simp [h, this]
theorem vis_len (cs : List Cl) : (vis cs).length = shown cs := by rw [← vpos_vis 0, List.length_map, vpos_len]
theorem vis_app (a b : List Cl) : vis (a ++ b) = vis a ++ vis b := by simp [vis]
theorem vis_run0 (rs : List Int) : vis (run rs 0) = rs := by
  induction rs with
  | nil => rfl
  | cons r l ih => unfold vis at ih; simpa [vis, run] using ih
theorem vpos_app : ∀ (a : Nat) (x y : List Cl), vpos a (x ++ y) = vpos a x ++ vpos (a + x.length) y
  | a, [], y => by simp [vpos]
  | a, c :: x, y => by
    rw [List.cons_append, vpos, vpos, vpos_app (a + 1) x y, List.length_cons, show a + 1 + x.length = a + (x.length + 1) by omega]
    split <;> simp
theorem vpos_run1 (rs : List Int) {h : Int} (hh : h ≠ 0) : ∀ a, vpos a (run rs h) = [] := by
  induction rs with
  | nil => intro a; rfl
  | cons r l ih =>
    intro a
    show vpos a ((r, h) :: run l h) = []
    rw [vpos, if_neg hh, ih]
theorem vpos_ge : ∀ (a : Nat) (cs : List Cl), ∀ x ∈ vpos a cs, a ≤ x.1 ∧ x.1 < a + cs.length
  | a, [], x, h => by cases h
  | a, c :: l, x, h => by
    rw [vpos] at h
    rw [List.length_cons]
    split at h
    · rcases List.mem_cons.1 h with rfl | h
      · constructor
        · exact Nat.le_refl _
        · show a < _; omega
      · have := vpos_ge _ _ x h; omega
    · have := vpos_ge _ _ x h; omega
theorem vpos_run0_take (rs : List Int) : ∀ (a k : Nat), (vpos a (run rs 0)).take k = vpos a (run (rs.take k) 0) := by
  induction rs with
  | nil => intro a k; simp [run, vpos]
  | cons r l ih =>
    intro a k
    cases k with
    | zero => simp [run, vpos]
    | succ k =>
      show (vpos a ((r, 0) :: run l 0)).take (k + 1) = vpos a ((r, 0) :: run (l.take k) 0)
      rw [vpos, vpos, if_pos rfl, if_pos rfl, List.take_succ_cons, ih]
theorem vpos_run0_drop (rs : List Int) : ∀ (a k : Nat), (vpos a (run rs 0)).drop k = vpos (a + k) (run (rs.drop k) 0) := by
  induction rs with
  | nil => intro a k; simp [run, vpos]
  | cons r l ih =>
    intro a k
    cases k with
    | zero => simp
    | succ k =>
      show (vpos a ((r, 0) :: run l 0)).drop (k + 1) = vpos (a + (k + 1)) (run (l.drop k) 0)
      rw [vpos, if_pos rfl, List.drop_succ_cons, ih, show a + 1 + k = a + (k + 1) by omega]
theorem vpos_run0_from (rs : List Int) : ∀ (a f : Nat), (vpos a (run rs 0)).filter (fun x => decide (f ≤ x.1)) = (vpos a (run rs 0)).drop (f - a) := by
  induction rs with
  | nil => intro a f; simp [run, vpos]
  | cons r l ih =>
    intro a f
    show (vpos a ((r, 0) :: run l 0)).filter _ = (vpos a ((r, 0) :: run l 0)).drop (f - a)
    rw [vpos, if_pos rfl, List.filter_cons, ih]
    by_cases h : f ≤ a
    · rw [if_pos (by simpa using h), show f - a = 0 by omega, show f - (a + 1) = 0 by omega]; rfl
    · rw [if_neg (by simpa using h), show f - a = (f - (a + 1)) + 1 by omega, List.drop_succ_cons]
/-- What stands at and behind the p-th visible cell. -/
theorem vpos_from : ∀ (cs : List Cl) (a p : Nat), (vpos a cs).filter (fun x => decide (a + plc cs p ≤ x.1)) = (vpos a cs).drop p
  | [], a, p => by simp [vpos]
  | c :: l, a, p => by
    rw [vpos, plc]
    by_cases h : c.2 = 0
    · rw [if_pos h, if_pos h]
      cases p with
      | zero =>
        rw [if_pos rfl, List.drop_zero]
        rw [List.filter_eq_self.2]
        intro x hx
        rcases List.mem_cons.1 hx with rfl | hx
        · simp
        · have := vpos_ge _ _ x hx; simp; omega
      | succ p =>
        rw [if_neg (by omega), List.drop_succ_cons, List.filter_cons, if_neg (by simp; omega), Nat.add_sub_cancel, ← vpos_from l (a + 1) p]
        simp only [Nat.add_assoc]
    · rw [if_neg h, if_neg h, ← vpos_from l (a + 1) p]
      simp only [Nat.add_assoc]
theorem plc_le : ∀ (cs : List Cl) (p : Nat), plc cs p ≤ cs.length
  | [], p => Nat.le_refl _
  | c :: l, p => by
    rw [plc, List.length_cons]
    have h1 := plc_le l p
    have h2 := plc_le l (p - 1)
    split
    · split <;> omega
    · omega
theorem plc_all : ∀ (cs : List Cl) (p : Nat), shown cs ≤ p → plc cs p = cs.length
  | [], p, _ => rfl
  | c :: l, p, h => by
    rw [shown_cons] at h
    rw [plc, List.length_cons]
    by_cases h0 : c.2 = 0
    · rw [if_pos h0] at h ⊢
      rw [if_neg (by omega), plc_all l _ (by omega)]; omega
    · rw [if_neg h0] at h ⊢
      rw [plc_all l _ (by omega)]; omega
theorem plc_left : ∀ (a b : List Cl) (p : Nat), p < shown a → plc (a ++ b) p = plc a p
  | [], b, p, h => by simp [shown] at h
  | c :: a, b, p, h => by
    rw [shown_cons] at h
    rw [List.cons_append, plc, plc]
    by_cases h0 : c.2 = 0
    · rw [if_pos h0] at h
      rw [if_pos h0, if_pos h0]
      by_cases hp : p = 0
      · rw [if_pos hp, if_pos hp]
      · rw [if_neg hp, if_neg hp, plc_left a b _ (by omega)]
    · rw [if_neg h0] at h
      rw [if_neg h0, if_neg h0, plc_left a b _ (by omega)]
theorem plc_right : ∀ (a b : List Cl) (p : Nat), shown a ≤ p → plc (a ++ b) p = a.length + plc b (p - shown a)
  | [], b, p, h => by simp [shown]
  | c :: a, b, p, h => by
    rw [shown_cons] at h ⊢
    rw [List.cons_append, plc, List.length_cons]
    by_cases h0 : c.2 = 0
    · rw [if_pos h0] at h ⊢
      rw [if_pos h0, if_neg (by omega), plc_right a b _ (by omega), show p - 1 - shown a = p - (shown a + 1) by omega]; omega
    · simp only [if_neg h0, Nat.add_zero] at h ⊢
      rw [plc_right a b _ (by omega)]; omega
theorem plc_run0 (rs : List Int) : ∀ (p : Nat), p < rs.length → plc (run rs 0) p = p := by
  induction rs with
  | nil => intro p h; simp at h
  | cons r l ih =>
    intro p h
    show plc ((r, 0) :: run l 0) p = p
    rw [List.length_cons] at h
    rw [plc, if_pos rfl]
    by_cases hp : p = 0
    · rw [if_pos hp, hp]
    · rw [if_neg hp, ih _ (by omega)]; omega
/-- The visible text with cells put in at the place of a visible one. -/
theorem vis_ins (cs : List Cl) (p : Nat) (rs : List Int) : vis (cs.take (plc cs p) ++ run rs 0 ++ cs.drop (plc cs p)) = (vis cs).take p ++ rs ++ (vis cs).drop p := by
  have h : ∀ (cs : List Cl) (p : Nat), vis (cs.take (plc cs p)) = (vis cs).take p ∧ vis (cs.drop (plc cs p)) = (vis cs).drop p := by
    intro cs
    induction cs with
    | nil => intro p; simp [vis]
    | cons c l ih =>
      intro p
      rw [plc]
      have hv : vis (c :: l) = (if c.2 = 0 then [c.1] else []) ++ vis l := by
        unfold vis; rw [List.filter_cons]; by_cases h : c.2 = 0 <;> simp [h]
      have hv' : ∀ l', vis (c :: l') = (if c.2 = 0 then [c.1] else []) ++ vis l' := by
        intro l'; unfold vis; rw [List.filter_cons]; by_cases h : c.2 = 0 <;> simp [h]
      by_cases h : c.2 = 0
      · rw [if_pos h]
        cases p with
        | zero => simp [vis]
        | succ p =>
          rw [if_neg (by omega), Nat.add_sub_cancel, Nat.add_comm 1, List.take_succ_cons, List.drop_succ_cons, hv', hv, if_pos h, (ih p).1, (ih p).2]
          simp
      · rw [if_neg h, Nat.add_comm 1, List.take_succ_cons, List.drop_succ_cons, hv', hv, if_neg h, (ih p).1, (ih p).2]
        simp
  rw [vis_app, vis_app, vis_run0, (h cs p).1, (h cs p).2]

/-! ### between -/
variable {σ : Type}
/-- The step of between: how many are still wanted, and what is made of them. -/
def stepB (inner : σ → Nat → List Int → σ) (f : Nat) (s : Nat × σ) (a : Nat) (q : Pce) : (Nat × σ) × Bool :=
  if 0 < q.2 then (s, true) else
    ((s.1 - ((q.1.drop (f - a)).take s.1).length, inner s.2 (a + (f - a)) ((q.1.drop (f - a)).take s.1)), decide (0 < s.1 - ((q.1.drop (f - a)).take s.1).length))
def inner1 (inner : σ → Nat → List Int → σ) (s : σ) (l : List (Nat × Int)) : σ := l.foldl (fun s x => inner s x.1 [x.2]) s
theorem walkB (inner : σ → Nat → List Int → σ) (hin : ∀ s a l, l ≠ [] → inner s a l = inner1 inner s (vpos a (run l 0))) (f : Nat) : ∀ (ps : List Pce) (a left : Nat) (s : σ), POk ps → 0 < left →
    walkF (stepB inner f) f a ps (left, s) = ((left - ((vpos a (flat ps)).filter (fun x => decide (f ≤ x.1))).length, inner1 inner s (((vpos a (flat ps)).filter (fun x => decide (f ≤ x.1))).take left)), decide (0 < left - ((vpos a (flat ps)).filter (fun x => decide (f ≤ x.1))).length))
  | [], a, left, s, _, hl => by simp [walkF, flat, vpos, inner1, hl]
  | q :: ps, a, left, s, hp, hl => by
    have hps : POk ps := fun x hx => hp x (by simp [hx])
    have hq := hp q (by simp)
    rw [walkF, flat_cons, vpos_app, run_len, List.filter_append]
    by_cases h : f < a + q.1.length
    · rw [if_pos h]
      by_cases h2 : 0 < q.2
      · have e : stepB inner f (left, s) a q = ((left, s), true) := if_pos h2
        rw [e, vpos_run1 _ (by omega), List.filter_nil, List.nil_append]
        simp only [if_true]
        exact walkB inner hin f ps _ left s hps hl
      · have h0 : q.2 = 0 := by omega
        have e : stepB inner f (left, s) a q = ((left - ((q.1.drop (f - a)).take left).length, inner s (a + (f - a)) ((q.1.drop (f - a)).take left)), decide (0 < left - ((q.1.drop (f - a)).take left).length)) := if_neg h2
        have hne : (q.1.drop (f - a)).take left ≠ [] := by
          intro e2
          have h5 := congrArg List.length e2
          simp only [List.length_take, List.length_drop, List.length_nil] at h5
          have h6 := List.length_pos_iff.2 hq.1
          omega
        rw [e, hin _ _ _ hne, h0, vpos_run0_from, vpos_run0_drop, ← vpos_run0_take]
        have hlen : (vpos (a + (f - a)) (run (q.1.drop (f - a)) 0)).length = (q.1.drop (f - a)).length := by rw [vpos_len, shown_run0]
        obtain ⟨X, hX⟩ : ∃ X, vpos (a + (f - a)) (run (q.1.drop (f - a)) 0) = X := ⟨_, rfl⟩
        rw [hX] at hlen ⊢
        obtain ⟨n, hn⟩ : ∃ n, (q.1.drop (f - a)).length = n := ⟨_, rfl⟩
        rw [hn] at hlen
        rw [List.length_take, hn]
        simp only
        by_cases h3 : n < left
        · rw [Nat.min_eq_right (Nat.le_of_lt h3), if_pos (by simp; omega), walkB inner hin f ps _ (left - n) _ hps (by omega), List.length_append, hlen,
            List.take_of_length_le (by omega : X.length ≤ left), List.take_append, List.take_of_length_le (by omega : X.length ≤ left), hlen]
          unfold inner1
          rw [List.foldl_append, Nat.sub_sub]
        · rw [Nat.min_eq_left (by omega), Nat.sub_self, if_neg (by simp), List.length_append, hlen, List.take_append_of_le_length (by omega)]
          have h4 : left - (n + ((vpos (a + q.1.length) (flat ps)).filter fun x => decide (f ≤ x.1)).length) = 0 := by omega
          rw [h4]; rfl
    · rw [if_neg h]
      have e : (vpos a (run q.1 q.2)).filter (fun x => decide (f ≤ x.1)) = [] := by
        rw [List.filter_eq_nil_iff]
        intro x hx
        have := vpos_ge _ _ x hx
        rw [run_len] at this
        simp; omega
      rw [e, List.nil_append]
      exact walkB inner hin f ps _ left s hps hl
/-- between over a row: the visible cells lo to hi - 1. -/
theorem between_all (inner : σ → Nat → List Int → σ) (hin : ∀ s a l, l ≠ [] → inner s a l = inner1 inner s (vpos a (run l 0))) (ps : List Pce) (lo hi : Nat) (s : σ) (hp : POk ps) (hl : lo < hi) :
    (walkF (stepB inner (plc (flat ps) lo)) (plc (flat ps) lo) 0 ps (hi - lo, s)).1.2 = inner1 inner s (((vpos 0 (flat ps)).drop lo).take (hi - lo)) := by
  rw [walkB inner hin _ ps 0 (hi - lo) s hp (by omega)]
  have := vpos_from (flat ps) 0 lo
  rw [Nat.zero_add] at this
  simp only [this]
/-- Slice's. -/
def innerT (s : List Int) (_ : Nat) (l : List Int) : List Int := s ++ l
theorem innerT_one (s : List Int) (x : List (Nat × Int)) : inner1 innerT s x = s ++ x.map (·.2) := by
  induction x generalizing s with
  | nil => simp [inner1]
  | cons y x ih =>
    show inner1 innerT (s ++ [y.2]) x = _
    rw [ih]; simp
theorem vpos_run0_snd (l : List Int) (a : Nat) : (vpos a (run l 0)).map (·.2) = l := by rw [vpos_vis, vis_run0]
theorem innerT_hin (s : List Int) (a : Nat) (l : List Int) (h : l ≠ []) : innerT s a l = inner1 innerT s (vpos a (run l 0)) := by
  rw [innerT_one, vpos_run0_snd]; rfl
/-- Visible's: stretches that touch are one. -/
def addR (s : List (Int × Int)) (a n : Nat) : List (Int × Int) := match s.getLast? with
  | some x => if x.2 = (a : Int) then s.dropLast ++ [(x.1, (a : Int) + n)] else s ++ [((a : Int), (a : Int) + n)]
  | none => s ++ [((a : Int), (a : Int) + n)]
def innerR (s : List (Int × Int)) (a : Nat) (l : List Int) : List (Int × Int) := addR s a l.length
theorem addR_snoc (s : List (Int × Int)) (x : Int × Int) (a n : Nat) : addR (s ++ [x]) a n = if x.2 = (a : Int) then s ++ [(x.1, (a : Int) + n)] else (s ++ [x]) ++ [((a : Int), (a : Int) + n)] := by
  simp [addR]
theorem addR_last (s : List (Int × Int)) (a n : Nat) : ∃ r x, addR s a n = r ++ [(x, (a : Int) + n)] := by
  rcases List.eq_nil_or_concat s with rfl | ⟨r, x, rfl⟩
  · exact ⟨[], a, rfl⟩
  · rw [List.concat_eq_append, addR_snoc]
    split
    · exact ⟨_, _, rfl⟩
    · exact ⟨_, _, rfl⟩
theorem addR_more (s : List (Int × Int)) (a n m : Nat) : addR (addR s a n) (a + n) m = addR s a (n + m) := by
  rcases List.eq_nil_or_concat s with rfl | ⟨r, x, rfl⟩
  · show addR ([] ++ [((a : Int), (a : Int) + n)]) (a + n) m = [((a : Int), (a : Int) + ((n + m : Nat) : Int))]
    rw [addR_snoc, if_pos (by simp)]
    simp [Int.add_assoc]
  · rw [List.concat_eq_append, addR_snoc, addR_snoc]
    split
    · rw [addR_snoc, if_pos (by simp)]; simp [Int.add_assoc]
    · rw [addR_snoc, if_pos (by simp)]; simp [Int.add_assoc]
theorem innerR_hin (s : List (Int × Int)) (a : Nat) (l : List Int) (h : l ≠ []) : innerR s a l = inner1 innerR s (vpos a (run l 0)) := by
  induction l generalizing s a with
  | nil => exact absurd rfl h
  | cons r l ih =>
    have e : vpos a (run (r :: l) 0) = (a, r) :: vpos (a + 1) (run l 0) := by
      show vpos a ((r, 0) :: run l 0) = _
      rw [vpos, if_pos rfl]
    rw [e]
    show innerR s a (r :: l) = inner1 innerR (innerR s a [r]) (vpos (a + 1) (run l 0))
    by_cases hl : l = []
    · subst hl; rfl
    · rw [← ih _ _ hl]
      show addR s a (l.length + 1) = addR (addR s a 1) (a + 1) l.length
      rw [addR_more, Nat.add_comm]
end Go.Proofs.YtkdhomiieenfnaaGreatDoor.Rp
