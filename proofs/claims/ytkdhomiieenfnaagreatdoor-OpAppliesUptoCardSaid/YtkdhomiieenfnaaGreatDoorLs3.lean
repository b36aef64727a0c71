/- The rope's trees in memory; what a node tells: all, with, lifted, shown. What two rows of cells tell together: sums.with. lift, open, knot. A node opened: its two trees and its piece. Counters of ranges raised or lowered, in plain Lean: one range after the other is cell by cell. -/
import Derived.Test.YtkdhomiieenfnaaGreatDoorLs1
import Derived.Test.YtkdhomiieenfnaaGreatDoorLs2
import Derived.Laws.StructEq
import Derived.Deep.QuietTactic
import Derived.BigQuiet
import Derived.Deep.DeepCutAuto
import Derived.Deep.RegionWith
import Derived.Deep.RegionHeld3
namespace Go.Proofs.YtkdhomiieenfnaaGreatDoor.Rp
open Go.RowKit Go.Proofs Go.Proofs.YtkdhomiieenfnaaGreatDoor.U Go.Proofs.YtkdhomiieenfnaaGreatDoor.Txt
set_option linter.unusedVariables false
set_option linter.unusedSimpArgs false

theorem below_alloc1 (w : World) (o : Obj) : Below w.heap.size w (w.alloc o) := (Below.refl _ _).alloc (Nat.le_refl _) _
/-- Runes that lie in a block of runes. -/
structure Rn (w : World) (A : Option Addr) (rs : List Int) : Prop where
  cells : Cells32 w A rs
  blk : ∀ ad, A = some ad → ∃ cs fz, w.heap[ad.block]? = some (.cells cs 21 fz)
theorem Rn.below {w w' : World} {A : Option Addr} {rs : List Int} (h : Rn w A rs) (hb : Below w.heap.size w w') : Rn w' A rs := ⟨h.cells.below hb, fun ad e => by
  obtain ⟨cs, fz, h1⟩ := h.blk ad e
  exact ⟨cs, fz, (hb.block _ (Array.getElem?_eq_some_iff.1 h1).1).trans h1⟩⟩
/-- What a node tells, as numbers. -/
structure Sm where
  n : Int
  lv : Int
  h : Int
  lo : Int
  c : Int
  hi : Int
def Sm.v (s : Sm) : Value := .agg #[.int .i64 s.n, .int .i64 s.lv, .int .i64 s.h, .int .i64 s.lo, .int .i64 s.c, .int .i64 s.hi]
structure Sm.Ok (s : Sm) : Prop where
  n : 0 ≤ s.n ∧ s.n ≤ 1099511627776
  lv : 0 ≤ s.lv ∧ s.lv ≤ 1099511627776
  h : 0 ≤ s.h ∧ s.h ≤ 1099511627776
  lo : -1099511627776 ≤ s.lo ∧ s.lo ≤ 1099511627776
  c : 0 ≤ s.c ∧ s.c ≤ 1099511627776
  hi : -1099511627776 ≤ s.hi ∧ s.hi ≤ 1099511627776
def wSm (s t : Sm) : Sm := if t.n = 0 then s else if s.n = 0 then t else
  ⟨s.n + t.n, s.lv + t.lv, 0, min s.lo t.lo, (if s.lo = min s.lo t.lo then s.c else 0) + (if t.lo = min s.lo t.lo then t.c else 0), max s.hi t.hi⟩
/-- What a tree tells. -/
def smT (t : T) : Sm := ⟨(cells t).length, lvs t, hgt t, lo (cells t), at_ (cells t), hi (cells t)⟩
/-- A tree in memory. -/
def Tr (w : World) : Value → T → Prop
  | v, .nil => v = .pointer none
  | v, .node l rs h r p => ∃ (b : Nat) (A : Option Addr) (c : Nat) (vl vr : Value), v = .pointer (some ⟨b, 0, none⟩) ∧
      w.cell? ⟨b, 0, none⟩ = some (.int .i64 (smT (.node l rs h r p)).n) ∧ w.cell? ⟨b, 1, none⟩ = some (.int .i64 (smT (.node l rs h r p)).lv) ∧ w.cell? ⟨b, 2, none⟩ = some (.int .i64 (smT (.node l rs h r p)).h) ∧
      w.cell? ⟨b, 3, none⟩ = some (.int .i64 (smT (.node l rs h r p)).lo) ∧ w.cell? ⟨b, 4, none⟩ = some (.int .i64 (smT (.node l rs h r p)).c) ∧ w.cell? ⟨b, 5, none⟩ = some (.int .i64 (smT (.node l rs h r p)).hi) ∧
      w.cell? ⟨b, 6, none⟩ = some vl ∧ w.cell? ⟨b, 7, none⟩ = some vr ∧ w.cell? ⟨b, 8, none⟩ = some (.slice A rs.length c) ∧ w.cell? ⟨b, 9, none⟩ = some (.int .i64 h) ∧ w.cell? ⟨b, 10, none⟩ = some (.int .i64 p) ∧
      rs.length ≤ c ∧ Rn w A rs ∧ Tr w vl l ∧ Tr w vr r ∧ ∃ cs fz, w.heap[b]? = some (.cells cs 139 fz)
theorem Tr.below {w w' : World} (hb : Below w.heap.size w w') : ∀ {t : T} {v : Value}, Tr w v t → Tr w' v t
  | .nil, v, h => h
  | .node l rs k r p, v, ⟨b, A, c, vl, vr, h, c0, c1, c2, c3, c4, c5, c6, c7, c8, c9, c10, hc, hr, hl, hrr, cs, fz, hnd⟩ =>
    ⟨b, A, c, vl, vr, h, cell_below hb c0, cell_below hb c1, cell_below hb c2, cell_below hb c3, cell_below hb c4, cell_below hb c5, cell_below hb c6, cell_below hb c7, cell_below hb c8, cell_below hb c9, cell_below hb c10, hc, hr.below hb, Tr.below hb hl, Tr.below hb hrr, cs, fz, (hb.block _ (Array.getElem?_eq_some_iff.1 hnd).1).trans hnd⟩
theorem Tr.ptr {w : World} {v : Value} {t : T} (h : Tr w v t) : ∃ a, v = .pointer a := by
  cases t with
  | nil => exact ⟨none, h⟩
  | node l rs k r p => obtain ⟨b, A, c, vl, vr, h, _⟩ := h; exact ⟨_, h⟩
/-- A tree that is as it should be, in memory, of a bounded size. -/
structure TrW (w : World) (v : Value) (t : T) : Prop where
  tr : Tr w v t
  wf : WF t
  len : (cells t).length ≤ 2097152
theorem TrW.below {w w' : World} {v : Value} {t : T} (h : TrW w v t) (hb : Below w.heap.size w w') : TrW w' v t := ⟨h.tr.below hb, h.wf, h.len⟩
theorem smT_ok {t : T} (h : WF t) (hl : (cells t).length ≤ 2097152) : (smT t).Ok := by
  have h1 := lvs_le h
  have h2 := hgt_le t
  have h3 := at_len (cells t)
  have h4 := lo_ge (m := 0) (by omega) (fun c hc => (h.ok c hc).1)
  have h5 := hi_le (m := M) (by decide) (fun c hc => (h.ok c hc).2)
  have h6 : lo (cells t) ≤ M := by
    by_cases e : cells t = []
    · rw [e]; decide
    · obtain ⟨c, hc, e2⟩ := lo_mem e; have := (h.ok c hc).2; omega
  have h7 : 0 ≤ hi (cells t) := by
    by_cases e : cells t = []
    · rw [e]; decide
    · obtain ⟨c, hc, e2⟩ := hi_mem e; have := (h.ok c hc).1; omega
  have h8 : M = 1048576 := rfl
  exact ⟨⟨by simp only [smT]; omega, by simp only [smT]; omega⟩, ⟨by simp only [smT]; omega, by simp only [smT]; omega⟩, ⟨by simp only [smT]; omega, by simp only [smT]; omega⟩, ⟨by simp only [smT]; omega, by simp only [smT]; omega⟩, ⟨by simp only [smT]; omega, by simp only [smT]; omega⟩, ⟨by simp only [smT]; omega, by simp only [smT]; omega⟩⟩

set_option maxRecDepth 100000 in
set_option maxHeartbeats 4000000 in
theorem all_any (v : Value) (t : T) (w : World) (h : Tr w v t) : Calls Tryz.prog 42 #[v] w fun e w' => e = .returned (smT t).v ∧ Below w.heap.size w w' := by
  cases t with
  | nil =>
    obtain rfl : v = .pointer none := h
    go_enter Tryz.func42, Tryz.ntmps42
    go_wp2_with fail
    exact bodyPost_ret (v := .agg #[.int .i64 0, .int .i64 0, .int .i64 0, .int .i64 0, .int .i64 0, .int .i64 0]) (by simp [results, Tryz.results42, go_sem]) rfl ⟨rfl, (Below.refl _ _).alloc (Nat.le_refl _) _⟩
  | node l rs k r p =>
    obtain ⟨b, A, c, vl, vr, rfl, c0, c1, c2, c3, c4, c5, -⟩ := h
    obtain ⟨s, hs⟩ : ∃ s, smT (.node l rs k r p) = s := ⟨_, rfl⟩
    rw [hs] at c0 c1 c2 c3 c4 c5 ⊢
    obtain ⟨n, lv, h, lo, c, hi⟩ := s
    clear hs
    simp only at c0 c1 c2 c3 c4 c5
    have d0 := fun o => cell_below (below_alloc1 w o) c0
    have d1 := fun o => cell_below (below_alloc1 w o) c1
    have d2 := fun o => cell_below (below_alloc1 w o) c2
    have d3 := fun o => cell_below (below_alloc1 w o) c3
    have d4 := fun o => cell_below (below_alloc1 w o) c4
    have d5 := fun o => cell_below (below_alloc1 w o) c5
    clear c0 c1 c2 c3 c4 c5
    go_enter Tryz.func42, Tryz.ntmps42
    go_wp2_with fail
    exact bodyPost_ret (v := .agg #[.int .i64 n, .int .i64 lv, .int .i64 h, .int .i64 lo, .int .i64 c, .int .i64 hi]) (by simp [results, Tryz.results42, go_sem]) rfl ⟨rfl, (Below.refl _ _).alloc (Nat.le_refl _) _⟩
set_option maxRecDepth 100000 in
set_option maxHeartbeats 4000000 in
theorem shown_any (s : Sm) (w : World) : Calls Tryz.prog 105 #[s.v] w fun e w' => e = .returned (.int .i64 (if s.lo = 0 then s.c else 0)) ∧ Below w.heap.size w w' := by
  obtain ⟨n, lv, h, lo, c, hi⟩ := s
  unfold Sm.v
  by_cases g : lo = 0
  · have b1 : (lo == 0) = true := by simp [g]
    have HG := Lib.hid g
    clear g
    go_enter Tryz.func105, Tryz.ntmps105
    go_wp2_with fail
    go_ret
    exact ⟨rfl, below_alloc1 _ _⟩
  · have b1 : (lo == 0) = false := by simp [g]
    have HG := Lib.hid g
    clear g
    go_enter Tryz.func105, Tryz.ntmps105
    go_wp2_with fail
    go_ret
    exact ⟨rfl, below_alloc1 _ _⟩
set_option maxRecDepth 100000 in
set_option maxHeartbeats 4000000 in
theorem lifted_any (s : Sm) (k : Int) (w : World) (hs : s.Ok) (hk : -1099511627776 ≤ k ∧ k ≤ 1099511627776) : Calls Tryz.prog 122 #[s.v, .int .i64 k] w fun e w' => e = .returned (Sm.v ⟨s.n, s.lv, s.h, s.lo + k, s.c, s.hi + k⟩) ∧ Below w.heap.size w w' := by
  have h1 := hs.lo
  have h2 := hs.hi
  obtain ⟨n, lv, h, lo, c, hi⟩ := s
  simp only at h1 h2
  unfold Sm.v
  have e1 : IntKind.i64.wrap (lo + k) = lo + k := IntWalk.i64_in _ (by omega)
  have e2 : IntKind.i64.wrap (hi + k) = hi + k := IntWalk.i64_in _ (by omega)
  clear hs h1 h2 hk
  go_enter Tryz.func122, Tryz.ntmps122
  go_wp2_with fail
  exact bodyPost_ret (v := .agg #[.int .i64 n, .int .i64 lv, .int .i64 h, .int .i64 (lo + k), .int .i64 c, .int .i64 (hi + k)]) (by simp [results, Tryz.results122, go_sem]) rfl ⟨rfl, ((Below.refl _ _).alloc (Nat.le_refl _) _).alloc (by simp) _⟩
end Go.Proofs.YtkdhomiieenfnaaGreatDoor.Rp

namespace Go.Proofs.YtkdhomiieenfnaaGreatDoor.Rp
open Go.RowKit Go.Proofs Go.Proofs.YtkdhomiieenfnaaGreatDoor.U Go.Proofs.YtkdhomiieenfnaaGreatDoor.Txt
set_option linter.unusedVariables false
set_option linter.unusedSimpArgs false

theorem wSm_right {s t : Sm} (h : t.n = 0) : wSm s t = s := by unfold wSm; rw [if_pos h]
theorem wSm_left {s t : Sm} (h : t.n ≠ 0) (h2 : s.n = 0) : wSm s t = t := by unfold wSm; rw [if_neg h, if_pos h2]
theorem wSm_ok {s t : Sm} (hs : s.Ok) (ht : t.Ok) (hn : s.n + t.n ≤ 1099511627776) (hl : s.lv + t.lv ≤ 1099511627776) (hc : s.c + t.c ≤ 1099511627776) : (wSm s t).Ok := by
  unfold wSm
  split
  · exact hs
  · split
    · exact ht
    · refine ⟨⟨?_, ?_⟩, ⟨?_, ?_⟩, ⟨?_, ?_⟩, ⟨?_, ?_⟩, ⟨?_, ?_⟩, ⟨?_, ?_⟩⟩ <;> simp only <;> (have a1 := hs.n; have a2 := ht.n; have a3 := hs.lv; have a4 := ht.lv; have a5 := hs.lo; have a6 := ht.lo; have a7 := hs.c; have a8 := ht.c; have a9 := hs.hi; have a10 := ht.hi) <;> (repeat' split) <;> omega
theorem min_if (a b : Int) : (if b < a then b else a) = min a b := by split <;> omega
theorem max_if (a b : Int) : (if a < b then b else a) = max a b := by split <;> omega
set_option maxRecDepth 100000 in
set_option maxHeartbeats 4000000 in
theorem with_any (s t : Sm) (w : World) (hs : s.Ok) (ht : t.Ok) : Calls Tryz.prog 102 #[s.v, t.v] w fun e w' => e = .returned (wSm s t).v ∧ Below w.heap.size w w' := by
  by_cases h1 : t.n = 0
  · rw [wSm_right h1]
    obtain ⟨n, lv, h, lo, c, hi⟩ := s
    obtain ⟨n', lv', h', lo', c', hi'⟩ := t
    simp only at h1
    have b1 : (n' == 0) = true := by simp [h1]
    clear h1 hs ht
    unfold Sm.v
    go_enter Tryz.func102, Tryz.ntmps102
    go_wp2_with fail
    exact bodyPost_ret (v := .agg #[.int .i64 n, .int .i64 lv, .int .i64 h, .int .i64 lo, .int .i64 c, .int .i64 hi]) (by simp [results, Tryz.results102, go_sem]) rfl ⟨rfl, (((Below.refl _ _).alloc (Nat.le_refl _) _).alloc (by simp) _).alloc (by simp; omega) _⟩
  · by_cases h2 : s.n = 0
    · rw [wSm_left h1 h2]
      obtain ⟨n, lv, h, lo, c, hi⟩ := s
      obtain ⟨n', lv', h', lo', c', hi'⟩ := t
      simp only at h1 h2
      have b1 : (n' == 0) = false := by simp [h1]
      have b2 : (n == 0) = true := by simp [h2]
      clear h1 h2 hs ht
      unfold Sm.v
      go_enter Tryz.func102, Tryz.ntmps102
      go_wp2_with fail
      exact bodyPost_ret (v := .agg #[.int .i64 n', .int .i64 lv', .int .i64 h', .int .i64 lo', .int .i64 c', .int .i64 hi']) (by simp [results, Tryz.results102, go_sem]) rfl ⟨rfl, (((Below.refl _ _).alloc (Nat.le_refl _) _).alloc (by simp) _).alloc (by simp; omega) _⟩
    · have hw : wSm s t = ⟨s.n + t.n, s.lv + t.lv, 0, min s.lo t.lo, (if s.lo = min s.lo t.lo then s.c else 0) + (if t.lo = min s.lo t.lo then t.c else 0), max s.hi t.hi⟩ := by unfold wSm; rw [if_neg h1, if_neg h2]
      rw [hw]
      have a1 := hs.n; have a2 := ht.n; have a3 := hs.lv; have a4 := ht.lv; have a7 := hs.c; have a8 := ht.c
      obtain ⟨n, lv, h, lo, c, hi⟩ := s
      obtain ⟨n', lv', h', lo', c', hi'⟩ := t
      simp only at h1 h2 a1 a2 a3 a4 a7 a8 ⊢
      have b1 : (n' == 0) = false := by simp [h1]
      have b2 : (n == 0) = false := by simp [h2]
      have e1 : IntKind.i64.wrap (n + n') = n + n' := IntWalk.i64_in _ (by omega)
      have e2 : IntKind.i64.wrap (lv + lv') = lv + lv' := IntWalk.i64_in _ (by omega)
      have e3 : IntKind.i64.wrap (c + c') = c + c' := IntWalk.i64_in _ (by omega)
      have m1 := min_if lo lo'
      have m2 := max_if hi hi'
      have hmm : lo = min lo lo' ∨ lo' = min lo lo' := by omega
      have hme : lo = min lo lo' → lo' = min lo lo' → lo' = lo := by omega
      obtain ⟨m, hm⟩ : ∃ m, min lo lo' = m := ⟨_, rfl⟩
      obtain ⟨x, hx⟩ : ∃ x, max hi hi' = x := ⟨_, rfl⟩
      rw [hm] at m1 hmm hme ⊢
      rw [hx] at m2 ⊢
      have HMM := Lib.hid hmm
      clear h1 h2 hs ht hw hm hx hmm hme
      unfold Sm.v
      by_cases g1 : lo = m
      · by_cases g2 : lo' = m
        · have c1 : (lo == m) = true := by simp [g1]
          have c2 : (lo' == m) = true := by simp [g2]
          have HG := Lib.hid (And.intro g1 g2)
          rw [if_pos g1, if_pos g2]
          clear g1 g2
          go_enter Tryz.func102, Tryz.ntmps102
          go_wp2_with fail
          exact bodyPost_ret (v := .agg #[.int .i64 (n + n'), .int .i64 (lv + lv'), .int .i64 0, .int .i64 m, .int .i64 (c + c'), .int .i64 x]) (by simp [results, Tryz.results102, go_sem]) rfl ⟨rfl, ((((Below.refl _ _).alloc (Nat.le_refl _) _).alloc (by simp) _).alloc (by simp; omega) _).alloc (by simp; omega) _⟩
        · have c1 : (lo == m) = true := by simp [g1]
          have c2 : (lo' == m) = false := by simp [g2]
          rw [if_pos g1, if_neg g2, Int.add_zero]
          clear g1 g2
          go_enter Tryz.func102, Tryz.ntmps102
          go_wp2_with fail
          exact bodyPost_ret (v := .agg #[.int .i64 (n + n'), .int .i64 (lv + lv'), .int .i64 0, .int .i64 m, .int .i64 c, .int .i64 x]) (by simp [results, Tryz.results102, go_sem]) rfl ⟨rfl, ((((Below.refl _ _).alloc (Nat.le_refl _) _).alloc (by simp) _).alloc (by simp; omega) _).alloc (by simp; omega) _⟩
      · have g2 : lo' = m := HMM.out.resolve_left g1
        have c1 : (lo == m) = false := by simp [g1]
        have c2 : (lo' == m) = true := by simp [g2]
        rw [if_neg g1, if_pos g2, Int.zero_add]
        clear g1 g2
        go_enter Tryz.func102, Tryz.ntmps102
        go_wp2_with fail
        exact bodyPost_ret (v := .agg #[.int .i64 (n + n'), .int .i64 (lv + lv'), .int .i64 0, .int .i64 m, .int .i64 c', .int .i64 x]) (by simp [results, Tryz.results102, go_sem]) rfl ⟨rfl, ((((Below.refl _ _).alloc (Nat.le_refl _) _).alloc (by simp) _).alloc (by simp; omega) _).alloc (by simp; omega) _⟩
end Go.Proofs.YtkdhomiieenfnaaGreatDoor.Rp

namespace Go.Proofs.YtkdhomiieenfnaaGreatDoor.Rp
open Go.RowKit Go.Proofs Go.Proofs.YtkdhomiieenfnaaGreatDoor.U Go.Proofs.YtkdhomiieenfnaaGreatDoor.Txt
set_option linter.unusedVariables false
set_option linter.unusedSimpArgs false

theorem smT_lift {l r : T} {rs : List Int} {h p : Int} (hn : rs ≠ []) (k : Int) : smT (.node l rs h r (p + k)) = ⟨(smT (.node l rs h r p)).n, (smT (.node l rs h r p)).lv, (smT (.node l rs h r p)).h, (smT (.node l rs h r p)).lo + k, (smT (.node l rs h r p)).c, (smT (.node l rs h r p)).hi + k⟩ := by
  have e : cells (.node l rs h r (p + k)) = up k (cells (.node l rs h r p)) := cells_lift k (.node l rs h r p)
  have hne : cells (.node l rs h r p) ≠ [] := by
    intro e2
    have h2 := congrArg List.length e2
    simp only [cells, up_len, List.length_append, run_len, List.length_nil] at h2
    have := List.length_pos_iff.2 hn
    omega
  unfold smT
  rw [e, up_len, lo_up hne, at_up, hi_up hne]
  rfl
/-- A node in memory. -/
theorem Tr.mk {w : World} {b c : Nat} {A : Option Addr} {vl vr : Value} {l r : T} {rs : List Int} {h p : Int} {fz : Nat × Nat} {s : Sm} (hs : smT (.node l rs h r p) = s)
    (hb : w.heap[b]? = some (.cells #[.int .i64 s.n, .int .i64 s.lv, .int .i64 s.h, .int .i64 s.lo, .int .i64 s.c, .int .i64 s.hi, vl, vr, .slice A rs.length c, .int .i64 h, .int .i64 p] 139 fz))
    (hc : rs.length ≤ c) (hr : Rn w A rs) (hl : Tr w vl l) (hrr : Tr w vr r) : Tr w (.pointer (some ⟨b, 0, none⟩)) (.node l rs h r p) := by
  subst hs
  exact ⟨b, A, c, vl, vr, rfl, by rw [Lib.cell_of_heap hb]; rfl, by rw [Lib.cell_of_heap hb]; rfl, by rw [Lib.cell_of_heap hb]; rfl, by rw [Lib.cell_of_heap hb]; rfl, by rw [Lib.cell_of_heap hb]; rfl, by rw [Lib.cell_of_heap hb]; rfl, by rw [Lib.cell_of_heap hb]; rfl, by rw [Lib.cell_of_heap hb]; rfl, by rw [Lib.cell_of_heap hb]; rfl, by rw [Lib.cell_of_heap hb]; rfl, by rw [Lib.cell_of_heap hb]; rfl, hc, hr, hl, hrr, _, _, hb⟩
theorem heap_at {w : World} {o : Obj} {n : Nat} (h : w.heap.size = n) : (w.alloc o).heap[n]? = some o := by subst h; exact heap_alloc_new w o
def RetTr (w : World) (t : T) (e : Ending) (w' : World) : Prop := (∃ v, e = .returned v ∧ TrW w' v t) ∧ Below w.heap.size w w'

theorem below_drewN {B : Nat} {a w : World} (h : Below B a w) (n : Nat) : Below B a (w.drewN n) := ⟨h.os, h.tape, h.output, h.size, h.block⟩
set_option maxRecDepth 100000 in
set_option maxHeartbeats 8000000 in
theorem lift_any (v : Value) (t : T) (k : Int) (w : World) (h : TrW w v t) (hk : Cok (up k (cells t))) (hk2 : -M ≤ k ∧ k ≤ M) : Calls Tryz.prog 82 #[v, .int .i64 k] w (RetTr w (lift k t)) := by
  cases t with
  | nil =>
    obtain rfl : v = .pointer none := h.tr
    clear hk hk2 h
    go_enter Tryz.func82, Tryz.ntmps82
    go_wp2_with fail
    go_ret
    exact ⟨⟨_, rfl, rfl, trivial, by simp [lift, cells]⟩, Below.refl _ _⟩
  | node l rs hd r p =>
    have hwf := h.wf.lift k hk
    have hne := h.wf.2.2.1
    have hok := smT_ok h.wf h.len
    have hpl := h.wf.plus
    have hM : M = 1048576 := rfl
    have hst := smT_lift (l := l) (r := r) (h := hd) (p := p) hne k
    have hlen := h.len
    obtain ⟨b, A, c, vl, vr, rfl, c0, c1, c2, c3, c4, c5, c6, c7, c8, c9, c10, hc, hr, hl, hrr, -⟩ := h.tr
    obtain ⟨al, rfl⟩ := hl.ptr
    obtain ⟨ar, rfl⟩ := hrr.ptr
    have HTW := Lib.hid h
    obtain ⟨s, hs⟩ : ∃ s, smT (.node l rs hd r p) = s := ⟨_, rfl⟩
    rw [hs] at c0 c1 c2 c3 c4 c5 hok hst
    have HL := Lib.hid (lifted_any s k w hok (by omega))
    obtain ⟨n, lv, hh, lo, cc, hi⟩ := s
    simp only at c0 c1 c2 c3 c4 c5 hst
    have HST := Lib.hid hst
    have HWF := Lib.hid hwf
    have HLEN := Lib.hid (show (cells (lift k (.node l rs hd r p))).length ≤ 2097152 by rw [cells_lift, up_len]; exact hlen)
    have HCS := Lib.hid (And.intro hc (And.intro hr (And.intro hl hrr)))
    have ep : IntKind.i64.wrap (p + k) = p + k := IntWalk.i64_in _ (by omega)
    clear hst hwf hlen hc hr hl hrr hs hok hk h hpl hM hk2 hne
    go_enter Tryz.func82, Tryz.ntmps82
    go_wp2_with fail
    refine HL.out.mono ?_
    rintro e w1 ⟨rfl, hb1⟩
    unfold Sm.v
    have HB1 := Lib.hid hb1
    have d0 := fun o => cell_below (hb1.trans ((below_alloc1 w1 o).mono hb1.size)) c0
    have d1 := fun o => cell_below (hb1.trans ((below_alloc1 w1 o).mono hb1.size)) c1
    have d2 := fun o => cell_below (hb1.trans ((below_alloc1 w1 o).mono hb1.size)) c2
    have d3 := fun o => cell_below (hb1.trans ((below_alloc1 w1 o).mono hb1.size)) c3
    have d4 := fun o => cell_below (hb1.trans ((below_alloc1 w1 o).mono hb1.size)) c4
    have d5 := fun o => cell_below (hb1.trans ((below_alloc1 w1 o).mono hb1.size)) c5
    have HC := Lib.hid (And.intro c6 (And.intro c7 (And.intro c8 (And.intro c9 c10))))
    clear hb1 c0 c1 c2 c3 c4 c5 c6 c7 c8 c9 c10
    by_cases hk0 : k = 0
    · subst hk0
      go_wp2_with fail
      go_quiet (fail)
      go_wp2_with fail
      go_ret
      rw [lift_zero]
      exact ⟨⟨_, rfl, HTW.out.below (below_drewN (HB1.out.trans ((below_alloc1 w1 _).mono HB1.out.size)) _)⟩, below_drewN (HB1.out.trans ((below_alloc1 w1 _).mono HB1.out.size)) _⟩
    · have b1 : (lo + k == lo) = false := by simp; omega
      obtain ⟨c6, c7, c8, c9, c10⟩ := HC.out
      have d6 := fun o => cell_below (HB1.out.trans ((below_alloc1 w1 o).mono HB1.out.size)) c6
      have d7 := fun o => cell_below (HB1.out.trans ((below_alloc1 w1 o).mono HB1.out.size)) c7
      have d8 := fun o => cell_below (HB1.out.trans ((below_alloc1 w1 o).mono HB1.out.size)) c8
      have d9 := fun o => cell_below (HB1.out.trans ((below_alloc1 w1 o).mono HB1.out.size)) c9
      have d10 := fun o => cell_below (HB1.out.trans ((below_alloc1 w1 o).mono HB1.out.size)) c10
      clear c6 c7 c8 c9 c10
      go_wp2_with fail
      go_quiet (fail)
      go_wp2_with fail
      go_ret
      have hb := ((below_drewN (HB1.out.trans ((below_alloc1 w1 (.cells #[.int .i64 n, .int .i64 lv, .int .i64 hh, .int .i64 (lo + k), .int .i64 cc, .int .i64 (hi + k)] 97)).mono HB1.out.size)) nq).alloc (by have := HB1.out.size; simp; omega) (.cells #[.int .i64 n, .int .i64 lv, .int .i64 hh, .int .i64 (lo + k), .int .i64 cc, .int .i64 (hi + k), .pointer al, .pointer ar, .slice A rs.length c, .int .i64 hd, .int .i64 (p + k)] 139))
      have hcs := HCS.out
      refine ⟨⟨_, rfl, Tr.mk HST.out (heap_at (by simp)) hcs.1 (hcs.2.1.below hb) (hcs.2.2.1.below hb) (hcs.2.2.2.below hb), HWF.out, HLEN.out⟩, hb⟩
end Go.Proofs.YtkdhomiieenfnaaGreatDoor.Rp

namespace Go.Proofs.YtkdhomiieenfnaaGreatDoor.Rp
open Go.RowKit Go.Proofs Go.Proofs.YtkdhomiieenfnaaGreatDoor.U Go.Proofs.YtkdhomiieenfnaaGreatDoor.Txt
set_option linter.unusedVariables false
set_option linter.unusedSimpArgs false

/-- A piece: its value, its runes, its counter. -/
def Pc (w : World) (v : Value) (rs : List Int) (h : Int) : Prop := ∃ A c, v = .agg #[.slice A rs.length c, .int .i64 h] ∧ rs.length ≤ c ∧ Rn w A rs
theorem Pc.below {w w' : World} {v : Value} {rs : List Int} {h : Int} (hp : Pc w v rs h) (hb : Below w.heap.size w w') : Pc w' v rs h := by
  obtain ⟨A, c, h1, h2, h3⟩ := hp
  exact ⟨A, c, h1, h2, h3.below hb⟩
theorem cell_setCell_far {w : World} {b i : Nat} {u : Value} {a : Addr} (h : a.block ≠ b) : (w.setCell ⟨b, i, none⟩ u).cell? a = w.cell? a := by
  have hh : (w.setCell ⟨b, i, none⟩ u).heap[a.block]? = w.heap[a.block]? := by simp [World.setCell, Array.getElem?_modify, Ne.symm h]
  unfold World.cell?
  rw [hh]
theorem cell_in {w : World} {a : Addr} {v : Value} {cs : Array Value} {T : TypeId} {fz : Nat × Nat} (hb : w.heap[a.block]? = some (.cells cs T fz)) (h : w.cell? a = some v) : cs[a.off]? = some v := by
  unfold World.cell? at h
  rw [hb] at h
  simp only at h
  split at h
  · cases h
  · exact h
/-- A block that holds no tree: few cells, none of them a rune. -/
def Few (w : World) (B : Nat) : Prop := ∃ cs T fz, w.heap[B]? = some (.cells cs T fz) ∧ cs.size < 7 ∧ ∀ (j : Nat) (r : Int), cs[j]? ≠ some (.int .i32 r)
theorem Few.ne {w : World} {B : Nat} (h : Few w B) {a : Addr} {v : Value} (hc : w.cell? a = some v) (h6 : 7 ≤ a.off ∨ ∃ r, v = .int .i32 r) : a.block ≠ B := by
  rintro rfl
  obtain ⟨cs, T, fz, hb, hs, hn⟩ := h
  have h1 := cell_in hb hc
  rcases h6 with h6 | ⟨r, rfl⟩
  · rw [Array.getElem?_eq_none (by omega)] at h1; cases h1
  · exact hn _ _ h1
theorem Cells32.put {w : World} {B : Nat} (h : Few w B) (i : Nat) (u : Value) {A : Option Addr} {rs : List Int} (hc : Cells32 w A rs) : Cells32 (w.setCell ⟨B, i, none⟩ u) A rs := fun h0 => by
  obtain ⟨ad, e, hcs⟩ := hc h0
  refine ⟨ad, e, fun j hj => ?_⟩
  have := hcs j hj
  rw [cell_setCell_far (h.ne this (.inr ⟨_, rfl⟩))]
  exact this
theorem Rn.put {w : World} {B : Nat} (h : Few w B) (i : Nat) (u : Value) {A : Option Addr} {rs : List Int} (hc : Rn w A rs) : Rn (w.setCell ⟨B, i, none⟩ u) A rs := ⟨Cells32.put h i u hc.cells, fun ad e => by
  obtain ⟨cs, fz, h1⟩ := hc.blk ad e
  by_cases hB : ad.block = B
  · subst hB; exact ⟨cs.setIfInBounds i u, fz, by simp [World.setCell, Array.getElem?_modify, h1]⟩
  · exact ⟨cs, fz, by simp [World.setCell, Array.getElem?_modify, Ne.symm hB, h1]⟩⟩
theorem Tr.put {w : World} {B : Nat} (h : Few w B) (i : Nat) (u : Value) : ∀ {t : T} {v : Value}, Tr w v t → Tr (w.setCell ⟨B, i, none⟩ u) v t
  | .nil, v, ht => ht
  | .node l rs k r p, v, ⟨b, A, c, vl, vr, e, c0, c1, c2, c3, c4, c5, c6, c7, c8, c9, c10, hc, hr, hl, hrr, cs, fz, hnd⟩ => by
    have hne : b ≠ B := h.ne c10 (.inl (by show 7 ≤ 10; omega))
    have f : ∀ k, (w.setCell ⟨B, i, none⟩ u).cell? ⟨b, k, none⟩ = w.cell? ⟨b, k, none⟩ := fun k => cell_setCell_far hne
    exact ⟨b, A, c, vl, vr, e, (f 0).trans c0, (f 1).trans c1, (f 2).trans c2, (f 3).trans c3, (f 4).trans c4, (f 5).trans c5, (f 6).trans c6, (f 7).trans c7, (f 8).trans c8, (f 9).trans c9, (f 10).trans c10, hc, Rn.put h i u hr, Tr.put h i u hl, Tr.put h i u hrr, cs, fz, by simp [World.setCell, Array.getElem?_modify, Ne.symm hne, hnd]⟩
theorem Few.put {w : World} {B : Nat} (h : Few w B) (i : Nat) {u : Value} (hu : ∀ r, u ≠ .int .i32 r) : Few (w.setCell ⟨B, i, none⟩ u) B := by
  obtain ⟨cs, T, fz, hb, hs, hn⟩ := h
  refine ⟨cs.setIfInBounds i u, T, fz, by simp [World.setCell, Array.getElem?_modify, hb], by simpa using hs, fun j r hj => ?_⟩
  rw [Array.getElem?_setIfInBounds] at hj
  split at hj
  · split at hj
    · exact hu r (Option.some.inj hj)
    · cases hj
  · exact hn j r hj
theorem TrW.put {w : World} {B : Nat} (h : Few w B) (i : Nat) (u : Value) {v : Value} {t : T} (ht : TrW w v t) : TrW (w.setCell ⟨B, i, none⟩ u) v t := ⟨ht.tr.put h i u, ht.wf, ht.len⟩
/-- What open answers. -/
def Opened (w : World) (l r : T) (rs : List Int) (h p : Int) (e : Ending) (w' : World) : Prop :=
  (∃ vl vp vr, e = .returned (.tuple #[vl, vp, vr]) ∧ TrW w' vl (lift p l) ∧ TrW w' vr (lift p r) ∧ Pc w' vp rs (h + p)) ∧ Below w.heap.size w w'

set_option maxRecDepth 100000 in
set_option maxHeartbeats 8000000 in
theorem open_any (v : Value) (l r : T) (rs : List Int) (hd p : Int) (w : World) (h : TrW w v (.node l rs hd r p)) : Calls Tryz.prog 90 #[v] w (Opened w l r rs hd p) := by
  have hpl := h.wf.plus
  have hpr := h.wf.parts
  have hM : M = 1048576 := rfl
  have hh0 := h.wf.2.2.2.1
  have hh1 := h.wf.2.2.2.2.1
  have hlen := h.len
  rw [cells_open, List.length_append, List.length_append] at hlen
  have hok := h.wf.ok
  rw [cells_open, cells_lift, cells_lift] at hok
  obtain ⟨b, A, c, vl, vr, rfl, c0, c1, c2, c3, c4, c5, c6, c7, c8, c9, c10, hc, hr, hl, hrr, -⟩ := h.tr
  obtain ⟨al, rfl⟩ := hl.ptr
  obtain ⟨ar, rfl⟩ := hrr.ptr
  have hwl : TrW w (.pointer al) l := ⟨hl, h.wf.1, by rw [cells_lift, up_len] at hlen; omega⟩
  have hwr : TrW w (.pointer ar) r := ⟨hrr, h.wf.2.1, by rw [cells_lift, up_len, cells_lift, up_len] at hlen; omega⟩
  have HKL := Lib.hid hok.left.left
  have HKR := Lib.hid hok.right
  have HWL := Lib.hid hwl
  have HWR := Lib.hid hwr
  have HP := Lib.hid hpl
  have ep : IntKind.i64.wrap (hd + p) = hd + p := IntWalk.i64_in _ (by omega)
  have HRS := Lib.hid (And.intro hc hr)
  obtain ⟨n, hn⟩ : ∃ n, rs.length = n := ⟨_, rfl⟩
  rw [hn] at c8
  have HN := Lib.hid hn
  have d6 := fun o => cell_below (below_alloc1 w o) c6
  have d7 := fun o => cell_below (below_alloc1 w o) c7
  have d8 := fun o => cell_below (below_alloc1 w o) c8
  have d9 := fun o => cell_below (below_alloc1 w o) c9
  have d10 := fun o => cell_below (below_alloc1 w o) c10
  have d10b := fun o o' => cell_below ((below_alloc1 w o).trans ((below_alloc1 (w.alloc o) o').mono (by simp))) c10
  have HC := Lib.hid (And.intro c6 (And.intro c7 c10))
  clear hpl hpr hM hh0 hh1 hlen hok c0 c1 c2 c3 c4 c5 c6 c7 c8 c9 c10 hc hr hl hrr hwl hwr h hn
  go_enter Tryz.func90, Tryz.ntmps90
  go_wp2_with fail
  go_region
  all_goals go_wp2_with fail
  clear d6 d7 d8 d9 d10 d10b
  obtain ⟨W0, hW0⟩ : ∃ W0, ((w.alloc (.cells #[.slice none 0 0, .int .i64 0] 114)).alloc (.cells #[.slice A n c, .int .i64 (hd + p)] 114)).drew = W0 := ⟨_, rfl⟩
  have hB0 : Below w.heap.size w W0 := by rw [← hW0]; exact (((Below.refl _ _).alloc (Nat.le_refl _) _).alloc (by simp) _).drew
  have hx : W0.heap[w.heap.size + 1]? = some (.cells #[.slice A n c, .int .i64 (hd + p)] 114 (0, 0)) := by rw [← hW0]; exact heap_at (w := w.alloc _) (by simp)
  have hy : W0.heap[w.heap.size]? = some (.cells #[.slice none 0 0, .int .i64 0] 114 (0, 0)) := by rw [← hW0]; exact (Lib.alloc_old (w.alloc _) _ _ (by simp)).trans (heap_at rfl)
  have HX := Lib.hid hx
  have HY := Lib.hid hy
  have HB0 := Lib.hid hB0
  clear hB0 hx hy
  have CL := Lib.hid (fun (W1 : World) (hW : Below W0.heap.size W0 W1) => (lift_any (.pointer al) l p W1 (HWL.out.below (HB0.out.trans (hW.mono HB0.out.size))) HKL.out HP.out).mono (R' := fun e w' => (∃ v, e = .returned v ∧ TrW w' v (lift p l)) ∧ Below W0.heap.size W0 w' ∧ Below W1.heap.size W1 w') fun e w' ⟨h1, h2⟩ => ⟨h1, hW.trans (h2.mono hW.size), h2⟩)
  have CR := Lib.hid (fun (W1 : World) (hW : Below W0.heap.size W0 W1) => (lift_any (.pointer ar) r p W1 (HWR.out.below (HB0.out.trans (hW.mono HB0.out.size))) HKR.out HP.out).mono (R' := fun e w' => (∃ v, e = .returned v ∧ TrW w' v (lift p r)) ∧ Below W0.heap.size W0 w' ∧ Below W1.heap.size W1 w') fun e w' ⟨h1, h2⟩ => ⟨h1, hW.trans (h2.mono hW.size), h2⟩)
  have HSS := Lib.hid (fun (W1 : World) (hW : Below W0.heap.size W0 W1) => (show (W1.cell? ⟨b, 6, none⟩ = some (.pointer al) ∧ W1.cell? ⟨b, 7, none⟩ = some (.pointer ar) ∧ W1.cell? ⟨b, 10, none⟩ = some (.int .i64 p)) ∧ W1.cell? ⟨w.heap.size + 1, 0, none⟩ = some (.slice A n c) ∧ W1.cell? ⟨w.heap.size + 1, 1, none⟩ = some (.int .i64 (hd + p)) from
    ⟨⟨cell_below (HB0.out.trans (hW.mono HB0.out.size)) HC.out.1, cell_below (HB0.out.trans (hW.mono HB0.out.size)) HC.out.2.1, cell_below (HB0.out.trans (hW.mono HB0.out.size)) HC.out.2.2⟩, by rw [Lib.cell_of_heap ((hW.block _ (Array.getElem?_eq_some_iff.1 HX.out).1).trans HX.out)]; rfl, by rw [Lib.cell_of_heap ((hW.block _ (Array.getElem?_eq_some_iff.1 HX.out).1).trans HX.out)]; rfl⟩))
  have hbw : b < w.heap.size := World.block_lt_of_cell? w _ HC.out.1
  have HSZ := Lib.hid (fun (W1 : World) (hW : Below W0.heap.size W0 W1) (u0 u1 : Value) => (show (((W1.setCell ⟨w.heap.size, 0, none⟩ u0).setCell ⟨w.heap.size, 1, none⟩ u1).cell? ⟨b, 6, none⟩ = some (.pointer al) ∧ ((W1.setCell ⟨w.heap.size, 0, none⟩ u0).setCell ⟨w.heap.size, 1, none⟩ u1).cell? ⟨b, 7, none⟩ = some (.pointer ar) ∧ ((W1.setCell ⟨w.heap.size, 0, none⟩ u0).setCell ⟨w.heap.size, 1, none⟩ u1).cell? ⟨b, 10, none⟩ = some (.int .i64 p)) ∧ ((W1.setCell ⟨w.heap.size, 0, none⟩ u0).setCell ⟨w.heap.size, 1, none⟩ u1).cell? ⟨w.heap.size + 1, 0, none⟩ = some (.slice A n c) ∧ ((W1.setCell ⟨w.heap.size, 0, none⟩ u0).setCell ⟨w.heap.size, 1, none⟩ u1).cell? ⟨w.heap.size + 1, 1, none⟩ = some (.int .i64 (hd + p)) from
    have h := HSS.out W1 hW
    have f : ∀ a : Addr, a.block ≠ w.heap.size → ((W1.setCell ⟨w.heap.size, 0, none⟩ u0).setCell ⟨w.heap.size, 1, none⟩ u1).cell? a = W1.cell? a := fun a ha => (cell_setCell_far ha).trans (cell_setCell_far ha)
    ⟨⟨(f ⟨b, 6, none⟩ (Nat.ne_of_lt hbw)).trans h.1.1, (f ⟨b, 7, none⟩ (Nat.ne_of_lt hbw)).trans h.1.2.1, (f ⟨b, 10, none⟩ (Nat.ne_of_lt hbw)).trans h.1.2.2⟩, (f ⟨w.heap.size + 1, 0, none⟩ (Nat.succ_ne_self _)).trans h.2.1, (f ⟨w.heap.size + 1, 1, none⟩ (Nat.succ_ne_self _)).trans h.2.2⟩))
  clear hbw
  have HSY := Lib.hid (fun (W1 : World) (hW : Below W0.heap.size W0 W1) => (show (W1.cell? ⟨w.heap.size, 0, none⟩ = some (.slice none 0 0) ∧ W1.cell? ⟨w.heap.size, 1, none⟩ = some (.int .i64 0)) ∧ W1.frozen? ⟨w.heap.size, 0, none⟩ = false ∧ W1.frozen? ⟨w.heap.size, 1, none⟩ = false ∧ w.heap.size < W1.heap.size from
    have e := (hW.block _ (Array.getElem?_eq_some_iff.1 HY.out).1).trans HY.out
    ⟨⟨by rw [Lib.cell_of_heap e]; rfl, by rw [Lib.cell_of_heap e]; rfl⟩, Lib.frozen_of_heap e 0, Lib.frozen_of_heap e 1, (Array.getElem?_eq_some_iff.1 e).1⟩))
  rw [hW0]
  clear hW0
  obtain ⟨⟨s6, s7, s10⟩, t0, t1⟩ := HSS.out _ (Below.refl _ _)
  go_region_held3 (fun w' => (w'.cell? ⟨b, 6, none⟩ = some (.pointer al) ∧ w'.cell? ⟨b, 7, none⟩ = some (.pointer ar) ∧ w'.cell? ⟨b, 10, none⟩ = some (.int .i64 p)) ∧ w'.cell? ⟨w.heap.size + 1, 0, none⟩ = some (.slice A n c) ∧ w'.cell? ⟨w.heap.size + 1, 1, none⟩ = some (.int .i64 (hd + p)))
    (first | exact HSZ.out _ hbR _ _ | exact HSS.out _ hbR | exact HSS.out _ hbL | exact HSS.out _ (Below.refl _ _).drew)
    (first
    | ((with_reducible refine (CL.out _ (Below.refl _ _).drew).mono ?_); rintro e wL ⟨⟨vL, rfl, hL⟩, hbL, hcL⟩)
    | ((with_reducible refine (CR.out _ hbL).mono ?_); rintro e wR ⟨⟨vR, rfl, hR⟩, hbR, hcR⟩; obtain ⟨⟨y0, y1⟩, y2, y3, y4⟩ := HSY.out _ hbR))
  go_wp2_with fail
  refine bodyPost_ret (v := .tuple #[vL, .agg #[.slice A n c, .int .i64 (hd + p)], vR]) (by simp [results, Tryz.results90, go_sem, y0, y1, y2, y3, y4]) rfl ?_
  have hf : Few wR w.heap.size := ⟨_, _, _, (hbR.block _ (Array.getElem?_eq_some_iff.1 HY.out).1).trans HY.out, by decide, fun j r hj => by
    match j, hj with
    | 0, hj => simp at hj
    | 1, hj => simp at hj
    | j + 2, hj => simp at hj⟩
  have hf2 := hf.put 0 (u := .slice A n c) (fun r => by simp)
  refine ⟨⟨vL, _, vR, rfl, ((hL.below hcR).put hf _ _).put hf2 _ _, (hR.put hf _ _).put hf2 _ _, A, c, by rw [HN.out], HRS.out.1, ?_⟩, ?_⟩
  · exact Rn.put hf2 _ _ (Rn.put hf _ _ (HRS.out.2.below (HB0.out.trans (hbR.mono HB0.out.size))))
  · exact ((HB0.out.trans (hbR.mono HB0.out.size)).setCell (p := ⟨w.heap.size, 0, none⟩) (Nat.le_refl _) _).setCell (p := ⟨w.heap.size, 1, none⟩) (Nat.le_refl _) _
end Go.Proofs.YtkdhomiieenfnaaGreatDoor.Rp

namespace Go.Proofs.YtkdhomiieenfnaaGreatDoor.Rp
set_option linter.unusedVariables false
set_option linter.unusedSimpArgs false

/-- Ranges in order, apart from each other, from m on. -/
def Nrm : Int → List (Int × Int) → Prop
  | _, [] => True
  | m, x :: r => m ≤ x.1 ∧ x.1 < x.2 ∧ Nrm (x.2 + 1) r
theorem Nrm.mono {m k : Int} {rs : List (Int × Int)} (h : Nrm m rs) (hk : k ≤ m) : Nrm k rs := by
  cases rs with
  | nil => trivial
  | cons x r => exact ⟨Int.le_trans hk h.1, h.2.1, h.2.2⟩
theorem Nrm.lo {m : Int} : ∀ {rs : List (Int × Int)}, Nrm m rs → ∀ x ∈ rs, m ≤ x.1
  | [], _, x, hx => by cases hx
  | y :: r, h, x, hx => by
    rcases List.mem_cons.1 hx with rfl | hx
    · exact h.1
    · have := Nrm.lo h.2.2 x hx; have := h.1; have := h.2.1; omega
/-- Does a range hold the place? -/
def cov (rs : List (Int × Int)) (i : Nat) : Bool := rs.any fun x => decide (x.1 ≤ (i : Int) ∧ (i : Int) < x.2)
theorem cov_nil (i : Nat) : cov [] i = false := rfl
theorem cov_cons (x : Int × Int) (r : List (Int × Int)) (i : Nat) : cov (x :: r) i = (decide (x.1 ≤ (i : Int) ∧ (i : Int) < x.2) || cov r i) := by simp [cov]
theorem cov_app (a b : List (Int × Int)) (i : Nat) : cov (a ++ b) i = (cov a i || cov b i) := by simp [cov]
theorem cov_lo {m : Int} {rs : List (Int × Int)} (h : Nrm m rs) {i : Nat} (hi : (i : Int) < m) : cov rs i = false := by
  unfold cov
  rw [List.any_eq_false]
  intro x hx
  have := h.lo x hx
  simp; omega
/-- The cells with d on each counter of the ranges. -/
def bumpC (d : Int) (rs : List (Int × Int)) (cs : List Cl) : List Cl := cs.mapIdx fun i c => if cov rs i then (c.1, c.2 + d) else c
/-- Does a cell of the ranges forbid the step? -/
def stopI (d : Int) (rs : List (Int × Int)) (cs : List Cl) (i : Nat) : Prop := cov rs i = true ∧ ∃ c, cs[i]? = some c ∧ ((d < 0 ∧ c.2 = 0) ∨ (0 < d ∧ c.2 = M))
def stopC (d : Int) (rs : List (Int × Int)) (cs : List Cl) : Prop := ∃ i, stopI d rs cs i
def midC (cs : List Cl) (lo hi : Nat) : List Cl := (cs.drop lo).take (hi - lo)
def bump1 (d : Int) (cs : List Cl) (lo hi : Nat) : List Cl := cs.take lo ++ up d (midC cs lo hi) ++ cs.drop hi
/-- What Bump does to one range after the other: its error, the cells. -/
def bumpR (d : Int) : List Cl → List (Int × Int) → Int × List Cl
  | cs, [] => (0, cs)
  | cs, (a, b) :: r => if d < 0 ∧ lo (midC cs a.toNat b.toNat) = 0 then (30, cs) else if 0 < d ∧ hi (midC cs a.toNat b.toNat) = M then (31, cs) else bumpR d (bump1 d cs a.toNat b.toNat) r
theorem bump1_len {d : Int} {cs : List Cl} {a b : Nat} (h : a ≤ b) (hb : b ≤ cs.length) : (bump1 d cs a b).length = cs.length := by
  simp only [bump1, midC, List.length_append, up_len, List.length_take, List.length_drop]
  omega
theorem midC_split {cs : List Cl} {a b : Nat} (h : a ≤ b) : cs.take a ++ midC cs a b ++ cs.drop b = cs := by
  have e : cs.drop b = (cs.drop a).drop (b - a) := by rw [List.drop_drop]; congr 1; omega
  rw [e, midC, List.append_assoc, List.take_append_drop, List.take_append_drop]
theorem midC_ne {cs : List Cl} {a b : Nat} (h : a < b) (hb : b ≤ cs.length) : midC cs a b ≠ [] := by
  intro e
  have := congrArg List.length e
  simp only [midC, List.length_take, List.length_drop, List.length_nil] at this
  omega
theorem midC_cok {cs : List Cl} {a b : Nat} (h : Cok cs) : Cok (midC cs a b) := fun c hc => h c (List.mem_of_mem_drop (List.mem_of_mem_take hc))
/-- Where no counter leaves its bounds. -/
theorem up_cok {l : List Cl} {d : Int} (hd : d = 1 ∨ d = -1) (h : Cok l) (h0 : ¬ (d < 0 ∧ lo l = 0)) (h1 : ¬ (0 < d ∧ hi l = M)) : Cok (up d l) := by
  intro c hc
  have hm := up_mem hc
  have hb := h _ hm
  have hlo := lo_le hm
  have hhi := le_hi hm
  simp only at hb hlo hhi
  have hne : l ≠ [] := by intro e; rw [e] at hm; cases hm
  obtain ⟨x, hx, hx2⟩ := lo_mem hne
  obtain ⟨y, hy, hy2⟩ := hi_mem hne
  have hx3 := (h x hx).1
  have hy3 := (h y hy).2
  rcases hd with rfl | rfl
  · have : hi l ≠ M := fun e => h1 ⟨by decide, e⟩
    omega
  · have : lo l ≠ 0 := fun e => h0 ⟨by decide, e⟩
    omega
theorem bump1_get {d : Int} {cs : List Cl} {a b : Nat} (h : a ≤ b) (hb : b ≤ cs.length) (i : Nat) : (bump1 d cs a b)[i]? = if a ≤ i ∧ i < b then (cs[i]?).map (fun c => (c.1, c.2 + d)) else cs[i]? := by
  unfold bump1
  by_cases h1 : i < a
  · rw [if_neg (by omega), List.append_assoc, List.getElem?_append_left (by rw [List.length_take]; omega), List.getElem?_take_of_lt h1]
  · by_cases h2 : i < b
    · rw [if_pos ⟨by omega, h2⟩, List.append_assoc, List.getElem?_append_right (by rw [List.length_take]; omega), List.length_take, Nat.min_eq_left (by omega),
        List.getElem?_append_left (by rw [up_len, midC, List.length_take, List.length_drop]; omega)]
      unfold up midC
      rw [List.getElem?_map, List.getElem?_take_of_lt (by omega), List.getElem?_drop, show a + (i - a) = i by omega]
    · rw [if_neg (by omega), List.getElem?_append_right (by rw [List.length_append, up_len, midC, List.length_take, List.length_take, List.length_drop]; omega),
        List.length_append, up_len, midC, List.length_take, List.length_take, List.length_drop, List.getElem?_drop]
      congr 1
      omega
theorem bumpC_get (d : Int) (rs : List (Int × Int)) (cs : List Cl) (i : Nat) : (bumpC d rs cs)[i]? = (cs[i]?).map fun c => if cov rs i then (c.1, c.2 + d) else c := by
  simp [bumpC]
theorem bumpC_len (d : Int) (rs : List (Int × Int)) (cs : List Cl) : (bumpC d rs cs).length = cs.length := by simp [bumpC]
theorem bumpC_nil (d : Int) (cs : List Cl) : bumpC d [] cs = cs := by
  apply List.ext_getElem?
  intro i
  rw [bumpC_get, cov_nil]
  simp
theorem mem_mid {cs : List Cl} {a b : Nat} {c : Cl} (h : c ∈ midC cs a b) : ∃ i, a ≤ i ∧ i < b ∧ cs[i]? = some c := by
  obtain ⟨k, hk⟩ := List.getElem?_of_mem h
  unfold midC at hk
  rw [List.getElem?_take] at hk
  split at hk
  · rw [List.getElem?_drop] at hk
    exact ⟨a + k, by omega, by omega, hk⟩
  · cases hk
theorem mid_mem {cs : List Cl} {a b i : Nat} {c : Cl} (h1 : a ≤ i) (h2 : i < b) (h : cs[i]? = some c) : c ∈ midC cs a b := by
  refine List.mem_of_getElem? (i := i - a) ?_
  unfold midC
  rw [List.getElem?_take_of_lt (by omega), List.getElem?_drop, show a + (i - a) = i by omega]
  exact h
/-- One range after the other is cell by cell. -/
theorem bumpR_spec {d : Int} (hd : d = 1 ∨ d = -1) : ∀ (rs : List (Int × Int)) (m : Int) (cs : List Cl), 0 ≤ m → Nrm m rs → (∀ x ∈ rs, x.2 ≤ (cs.length : Int)) → Cok cs →
    (stopC d rs cs → (bumpR d cs rs).1 = (if d < 0 then 30 else 31)) ∧ (¬ stopC d rs cs → bumpR d cs rs = (0, bumpC d rs cs) ∧ Cok (bumpC d rs cs))
  | [], m, cs, _, _, _, hk => by
    refine ⟨fun ⟨i, h, _⟩ => (by rw [cov_nil] at h; cases h), fun _ => ?_⟩
    rw [bumpC_nil]; exact ⟨rfl, hk⟩
  | (a, b) :: r, m, cs, hm, hn, hl, hk => by
    have ha : m ≤ a := hn.1
    have hab : a < b := hn.2.1
    have hbl : b ≤ cs.length := hl (a, b) (by simp)
    obtain ⟨A, rfl⟩ : ∃ A : Nat, a = A := ⟨a.toNat, by omega⟩
    obtain ⟨B, rfl⟩ : ∃ B : Nat, b = B := ⟨b.toNat, by omega⟩
    have hAB : A < B := by omega
    have hB : B ≤ cs.length := by omega
    have hne := midC_ne hAB hB
    have hmk := midC_cok (a := A) (b := B) hk
    have e0 : bumpR d cs (((A : Int), (B : Int)) :: r) = if d < 0 ∧ lo (midC cs A B) = 0 then (30, cs) else if 0 < d ∧ hi (midC cs A B) = M then (31, cs) else bumpR d (bump1 d cs A B) r := rfl
    by_cases h1 : d < 0 ∧ lo (midC cs A B) = 0
    · rw [e0, if_pos h1, if_pos h1.1]
      refine ⟨fun _ => rfl, fun hs => absurd ?_ hs⟩
      obtain ⟨c, hc, hc2⟩ := lo_mem hne
      obtain ⟨i, i1, i2, i3⟩ := mem_mid hc
      exact ⟨i, by rw [cov_cons]; simp; left; omega, c, i3, .inl ⟨h1.1, by rw [hc2]; exact h1.2⟩⟩
    by_cases h2 : 0 < d ∧ hi (midC cs A B) = M
    · rw [e0, if_neg h1, if_pos h2, if_neg (by omega)]
      refine ⟨fun _ => rfl, fun hs => absurd ?_ hs⟩
      obtain ⟨c, hc, hc2⟩ := hi_mem hne
      obtain ⟨i, i1, i2, i3⟩ := mem_mid hc
      exact ⟨i, by rw [cov_cons]; simp; left; omega, c, i3, .inr ⟨h2.1, by rw [hc2]; exact h2.2⟩⟩
    rw [e0, if_neg h1, if_neg h2]
    have hup := up_cok hd hmk h1 h2
    have hk2 : Cok (bump1 d cs A B) := by
      have := hk
      rw [← midC_split (cs := cs) (Nat.le_of_lt hAB)] at this
      exact (this.left.left.app hup).app this.right
    have hlen := bump1_len (d := d) (Nat.le_of_lt hAB) hB
    have IH := bumpR_spec hd r ((B : Int) + 1) (bump1 d cs A B) (by omega) hn.2.2 (fun x hx => by rw [hlen]; exact hl x (by simp [hx])) hk2
    have hg := fun i => bump1_get (d := d) (cs := cs) (Nat.le_of_lt hAB) hB i
    have hst : stopC d r (bump1 d cs A B) ↔ stopC d (((A : Int), (B : Int)) :: r) cs := by
      constructor
      · rintro ⟨i, i1, c, i2, i3⟩
        have hi : ¬ (i : Int) < (B : Int) + 1 := fun h => by rw [cov_lo hn.2.2 h] at i1; cases i1
        rw [hg, if_neg (by omega)] at i2
        exact ⟨i, by rw [cov_cons, i1]; simp, c, i2, i3⟩
      · rintro ⟨i, i1, c, i2, i3⟩
        rw [cov_cons] at i1
        by_cases hi : A ≤ i ∧ i < B
        · exfalso
          have hc := mid_mem hi.1 hi.2 i2
          rcases i3 with ⟨d0, c0⟩ | ⟨d0, c0⟩
          · have := lo_le hc
            have h0 := lo_ge (m := 0) (by omega) (fun c hc => (hmk c hc).1)
            exact h1 ⟨d0, by omega⟩
          · have := le_hi hc
            have h0 := hi_le (m := M) (by decide) (fun c hc => (hmk c hc).2)
            exact h2 ⟨d0, by omega⟩
        · have hi' : decide ((A : Int) ≤ (i : Int) ∧ (i : Int) < (B : Int)) = false := by simp; omega
          rw [hi', Bool.false_or] at i1
          exact ⟨i, i1, c, by rw [hg, if_neg hi]; exact i2, i3⟩
    have hbc : bumpC d r (bump1 d cs A B) = bumpC d (((A : Int), (B : Int)) :: r) cs := by
      apply List.ext_getElem?
      intro i
      rw [bumpC_get, bumpC_get, hg, cov_cons]
      by_cases hi : A ≤ i ∧ i < B
      · have h3 : cov r i = false := cov_lo hn.2.2 (by omega)
        have hi' : decide ((A : Int) ≤ (i : Int) ∧ (i : Int) < (B : Int)) = true := by simp; omega
        rw [if_pos hi, h3, hi']
        cases cs[i]? <;> simp
      · have hi' : decide ((A : Int) ≤ (i : Int) ∧ (i : Int) < (B : Int)) = false := by simp; omega
        rw [if_neg hi, hi', Bool.false_or]
    rw [hst, hbc] at IH
    exact IH
/-- The runes stay. -/
theorem bumpC_fst (d : Int) (rs : List (Int × Int)) (cs : List Cl) : (bumpC d rs cs).map (·.1) = cs.map (·.1) := by
  apply List.ext_getElem?
  intro i
  rw [List.getElem?_map, List.getElem?_map, bumpC_get]
  cases cs[i]? with
  | none => rfl
  | some c => simp only [Option.map_some]; split <;> rfl
/-- There and back. -/
theorem bumpC_back (d : Int) (rs : List (Int × Int)) (cs : List Cl) : bumpC (-d) rs (bumpC d rs cs) = cs := by
  apply List.ext_getElem?
  intro i
  rw [bumpC_get, bumpC_get]
  cases h : cs[i]? with
  | none => rfl
  | some c =>
    simp only [Option.map_some]
    split
    · show some (c.1, c.2 + d + -d) = _
      rw [Int.add_neg_cancel_right]
    · rfl
end Go.Proofs.YtkdhomiieenfnaaGreatDoor.Rp
