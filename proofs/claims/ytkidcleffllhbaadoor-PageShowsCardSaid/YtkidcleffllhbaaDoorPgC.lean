/- How many columns runes fill: the law's own count and the sheet's. -/
import Derived.Test.YtkidcleffllhbaaDoorPgW
import Derived.Laws.MakeOwn
import Derived.DataElems
import Derived.Laws.Slices
namespace Go.Proofs.YtkidcleffllhbaaDoor.Pg
open Go.RowKit Go.Proofs Go.Joins
set_option linter.unusedVariables false
set_option linter.unusedSimpArgs false
attribute [local go_sem] frozen?_alloc_cells

/-- These runes lie behind this slice's address. -/
def Runes (w : World) (A : Option Addr) (rs : List Int) : Prop := 0 < rs.length → ∃ ad, A = some ad ∧ ∀ j, j < rs.length → w.cell? (ad.add j) = some (.int .i32 (rs.getD j 0))
theorem Runes.below {w w' : World} {A : Option Addr} {xs : List Int} (h : Runes w A xs) (hb : Below w.heap.size w w') : Runes w' A xs := fun h0 => by
  obtain ⟨ad, e, hc⟩ := h h0
  exact ⟨ad, e, fun j hj => cell_below hb (hc j hj)⟩
theorem cut_len (rs : List Int) (lo hi : Nat) (h2 : hi ≤ rs.length) : (cut rs lo hi).length = hi - lo := by
  unfold cut; rw [List.length_take, List.length_drop]; omega
theorem cut_get (rs : List Int) (lo hi j : Nat) (hj : j < hi - lo) : (cut rs lo hi).getD j 0 = rs.getD (lo + j) 0 := by
  unfold cut
  simp [List.getD, List.getElem?_take, List.getElem?_drop, hj]
theorem cut_take (rs : List Int) (lo k : Nat) (n : Nat) (h : k ≤ n) : (cut rs lo (lo + n)).take k = cut rs lo (lo + k) := by
  unfold cut
  rw [List.take_take, show min k (lo + n - lo) = lo + k - lo by omega]
theorem Runes.cut {w : World} {A : Option Addr} {rs : List Int} (h : Runes w A rs) (lo hi c : Nat) (h1 : lo ≤ hi) (h2 : hi ≤ rs.length) (h3 : rs.length ≤ c) : Runes w (if c = lo then A else A.map (·.add (lo * 1))) (cut rs lo hi) := by
  intro h0
  rw [cut_len rs lo hi h2] at h0
  obtain ⟨ad, rfl, hc⟩ := h (by omega)
  rw [if_neg (by omega), Nat.mul_one]
  refine ⟨ad.add lo, rfl, fun j hj => ?_⟩
  rw [cut_len rs lo hi h2] at hj
  rw [Addr.add_add, cut_get rs lo hi j hj]
  exact hc _ (by omega)
theorem colsF_take {rs : List Int} {j : Nat} (h : j < rs.length) : colsF (rs.take (j + 1)) 0 = colsF (rs.take j) 0 + colR (rs.getD j 0) (colsF (rs.take j) 0) := by
  have e : rs.take (j + 1) = rs.take j ++ [rs.getD j 0] := by
    rw [List.take_add_one]
    simp [List.getD, List.getElem?_eq_getElem h]
  rw [e, colsF_append]
  rfl
theorem colsF_bound (rs : List Int) (j : Nat) (h : rs.length ≤ 1125899906842624) : 0 ≤ colsF (rs.take j) 0 ∧ colsF (rs.take j) 0 ≤ 4503599627370496 := by
  have h1 := colsF_le (rs.take j) 0
  have h2 := colsF_ge (rs.take j) 0
  rw [List.length_take] at h1
  omega

set_option maxRecDepth 100000 in
set_option maxHeartbeats 4000000 in
theorem cols_any (A : Option Addr) (c : Nat) (rs : List Int) (w : World) (hl : rs.length ≤ 1125899906842624) (hR : Runes w A rs) (hT : Tabs w) : Calls Tryd.prog 23 #[.slice A rs.length c] w fun e w' => e = .returned (.int .i64 (colsF rs 0)) ∧ Below w.heap.size w w' := by
  have HR := Lib.hid hR
  have HT := Lib.hid hT
  clear hR hT
  obtain ⟨n, hn⟩ : ∃ n, rs.length = n := ⟨_, rfl⟩
  rw [hn]
  have HN := Lib.hid hn
  have hl2 : n ≤ 1125899906842624 := by omega
  have HL := Lib.hid hl
  clear hn hl
  go_enter Tryd.func23, Tryd.ntmps23
  go_wp2_with fail
  go_loopw [3, 4] (fun m i wr => ∃ j : Nat, i = .int .i64 j ∧ j ≤ n ∧ m = .int .i64 (colsF (rs.take j) 0) ∧ Below w.heap.size w wr) (fun _ i _ => n - (intOf i).toNat)
  case atStart => exact ⟨0, rfl, Nat.zero_le _, rfl, Below.refl _ _⟩
  case round =>
    obtain ⟨j, rfl, hj, rfl, hb⟩ := hrel
    have HB := Lib.hid hb
    clear hb
    by_cases hlt : j < n
    · have hlt2 : j < rs.length := by have := HN.out; omega
      obtain ⟨ad, rfl, hc⟩ := HR.out (by omega)
      have d1 := cell_below HB.out (hc j hlt2)
      have hb0 := colsF_bound rs j HL.out
      have hst := colsF_take hlt2
      obtain ⟨r, hr⟩ : ∃ r, rs.getD j 0 = r := ⟨_, rfl⟩
      obtain ⟨m, hm⟩ : ∃ m, colsF (rs.take j) 0 = m := ⟨_, rfl⟩
      rw [hr] at d1 hst
      rw [hm] at hb0 hst ⊢
      have HST := Lib.hid hst
      have hc0 := colR_nonneg r m
      have hc1 := colR_le r m
      have e1 : IntKind.i64.wrap (m + colR r m) = m + colR r m := IntWalk.i64_in _ (by omega)
      have HH := Lib.hid (And.intro hb0 (And.intro hc0 hc1))
      clear hc hr hm hst hb0 hc0 hc1 hlt2
      go_wp2_with fail
      refine (Cols_any r m _ HH.out.1.1 (HT.out.below HB.out)).mono ?_
      rintro e w2 ⟨rfl, hb⟩
      have HB2 := Lib.hid (HB.out.trans (hb.mono HB.out.size))
      clear hb
      go_wp2_with fail
      go_roundw
      case rel => exact ⟨j + 1, by go_num, by omega, by rw [HST.out], HB2.out⟩
      case measure => simp [intOf]; omega
    · go_wp2_with fail
      go_ret
      exact ⟨by rw [show rs.take j = rs from List.take_of_length_le (by have := HN.out; omega)]; rfl, HB.out⟩
/-- A sheet's four cells. -/
structure Sheet (w : World) (P : Nat) (S : ByteArray) (A : Option Addr) (c : Nat) (rs : List Int) (W : Int) (rows : Value) : Prop where
  text : w.cell? ⟨P, 0, none⟩ = some (.string S)
  runes : w.cell? ⟨P, 1, none⟩ = some (.slice A rs.length c)
  width : w.cell? ⟨P, 2, none⟩ = some (.int .i64 W)
  rows : w.cell? ⟨P, 3, none⟩ = some rows
theorem Sheet.below {w w1 : World} {P : Nat} {S : ByteArray} {A : Option Addr} {c : Nat} {rs : List Int} {W : Int} {rows : Value} (h : Sheet w P S A c rs W rows) (hb : Below w.heap.size w w1) : Sheet w1 P S A c rs W rows :=
  ⟨cell_below hb h.text, cell_below hb h.runes, cell_below hb h.width, cell_below hb h.rows⟩
theorem cBytes : Tryd.prog.cellsOf 21 = 1 := by kernel_rfl
theorem slice_run (A : Option Addr) (n c lo hi : Nat) (h1 : lo ≤ hi) (h3 : hi ≤ c) (W : World) : (Instr.slice 22 (.slice A n c) (some (.int .i64 lo)) (some (.int .i64 hi)) none).run Tryd.prog W = .ok (.slice (if c = lo then A else A.map (·.add (lo * 1))) (hi - lo) (c - lo)) W := by
  rw [run_slice_lh W 22 A n c (by kernel_rfl) .i64 .i64 lo hi (by omega) (by omega) (by omega)]
  kernel_rfl

set_option maxRecDepth 100000 in
set_option maxHeartbeats 4000000 in
theorem scols_any (P : Nat) (S : ByteArray) (A : Option Addr) (c : Nat) (rs : List Int) (W : Int) (rows : Value) (lo hi : Nat) (w : World) (hl : rs.length ≤ 1125899906842624) (h1 : lo ≤ hi) (h2 : hi ≤ rs.length) (h3 : rs.length ≤ c) (hS : Sheet w P S A c rs W rows) (hR : Runes w A rs) (hT : Tabs w) : Calls Tryd.prog 41 #[.pointer (some ⟨P, 0, none⟩), .int .i64 lo, .int .i64 hi] w fun e w' => e = .returned (.int .i64 (wid rs lo hi)) ∧ Below w.heap.size w w' := by
  have HR := Lib.hid (hR.cut lo hi c h1 h2 h3)
  have hrun := slice_run A rs.length c lo hi h1 (by omega)
  have HT := Lib.hid hT
  have s1 := hS.runes
  have hlen := cut_len rs lo hi h2
  have HCL := Lib.hid (show (cut rs lo hi).length ≤ 1125899906842624 by omega)
  have hwid : wid rs lo hi = colsF (cut rs lo hi) 0 := rfl
  rw [hwid]
  clear hR hT hS hwid
  obtain ⟨V, hV⟩ : ∃ V, (if c = lo then A else A.map (·.add (lo * 1))) = V := ⟨_, rfl⟩
  rw [hV] at HR hrun
  obtain ⟨n, hn⟩ : ∃ n, hi - lo = n := ⟨_, rfl⟩
  rw [hn] at hrun hlen
  obtain ⟨rs', hrs⟩ : ∃ rs', cut rs lo hi = rs' := ⟨_, rfl⟩
  rw [hrs] at HR hlen HCL ⊢
  have HN := Lib.hid hlen
  have HL := HCL
  have hl2 : n ≤ 1125899906842624 := by have := HL.out; omega
  clear hV hn hrs hlen HCL
  go_enter Tryd.func41, Tryd.ntmps41
  go_wp2_with fail
  go_loopw [7, 18] (fun m i wr => ∃ j : Nat, i = .int .i64 j ∧ j ≤ n ∧ m = .int .i64 (colsF (rs'.take j) 0) ∧ Below w.heap.size w wr) (fun _ i _ => n - (intOf i).toNat)
  case atStart => exact ⟨0, rfl, Nat.zero_le _, rfl, Below.refl _ _⟩
  case round =>
    obtain ⟨j, rfl, hj, rfl, hb⟩ := hrel
    have HB := Lib.hid hb
    clear hb
    by_cases hlt : j < n
    · have hlt2 : j < rs'.length := by have := HN.out; omega
      obtain ⟨ad, rfl, hc⟩ := HR.out (by omega)
      have d1 := cell_below HB.out (hc j hlt2)
      have hb0 := colsF_bound rs' j HL.out
      have hst := colsF_take hlt2
      obtain ⟨r, hr⟩ : ∃ r, rs'.getD j 0 = r := ⟨_, rfl⟩
      obtain ⟨m, hm⟩ : ∃ m, colsF (rs'.take j) 0 = m := ⟨_, rfl⟩
      rw [hr] at d1 hst
      rw [hm] at hb0 hst ⊢
      have HST := Lib.hid hst
      have hc0 := colR_nonneg r m
      have hc1 := colR_le r m
      have e1 : IntKind.i64.wrap (m + colR r m) = m + colR r m := IntWalk.i64_in _ (by omega)
      have HH := Lib.hid (And.intro hb0 (And.intro hc0 hc1))
      clear hc hr hm hst hb0 hc0 hc1 hlt2 hrun s1
      go_wp2_with fail
      refine (Cols_any r m _ HH.out.1.1 (HT.out.below HB.out)).mono ?_
      rintro e w2 ⟨rfl, hb⟩
      have HB2 := Lib.hid (HB.out.trans (hb.mono HB.out.size))
      clear hb
      go_wp2_with fail
      go_roundw
      case rel => exact ⟨j + 1, by go_num, by omega, by rw [HST.out], HB2.out⟩
      case measure => simp [intOf]; omega
    · clear hrun s1
      go_wp2_with fail
      go_ret
      exact ⟨by rw [show rs'.take j = rs' from List.take_of_length_le (by have := HN.out; omega)]; rfl, HB.out⟩
end Go.Proofs.YtkidcleffllhbaaDoor.Pg
