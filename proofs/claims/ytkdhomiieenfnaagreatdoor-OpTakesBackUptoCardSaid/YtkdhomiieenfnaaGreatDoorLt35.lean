/- redraftlaw04.stops: does a counter in these ranges forbid the step? redraftlaw04.copied: an operation with ranges of its own, and two wrong ones behind them. -/
import Derived.Test.YtkdhomiieenfnaaGreatDoorLt33
namespace Go.Proofs.YtkdhomiieenfnaaGreatDoor.Lw
open Go.RowKit Go.Proofs Go.Proofs.YtkdhomiieenfnaaGreatDoor.U Go.Proofs.YtkdhomiieenfnaaGreatDoor.Txt Go.Proofs.YtkdhomiieenfnaaGreatDoor.Rp Go.Proofs.YtkdhomiieenfnaaGreatDoor.O
set_option linter.unusedVariables false
set_option linter.unusedSimpArgs false

/-- Does this counter forbid the step of this kind? -/
def stop1 (kd h : Int) : Prop := (kd = 3 ∧ h = 0) ∨ (kd = 2 ∧ h = 1048576)
/-- Does a counter of these ranges? -/
def stopsR (kd : Int) (rs : List (Int × Int)) (cs : List Cl) : Prop := ∃ (j : Nat) (hj : j < rs.length) (i : Nat) (hi : i < cs.length), rs[j].1 ≤ (i : Int) ∧ (i : Int) < rs[j].2 ∧ stop1 kd cs[i].2
theorem stopsR_iff {kd : Int} (hk : kd = 2 ∨ kd = 3) (rs : List (Int × Int)) (cs : List Cl) : stopsR kd rs cs ↔ stopC (if kd = 2 then 1 else -1) rs cs := by
  have hM : M = 1048576 := rfl
  unfold stopsR stopC stopI
  constructor
  · rintro ⟨j, hj, i, hi, h1, h2, h3⟩
    refine ⟨i, ?_, cs[i], List.getElem?_eq_getElem hi, ?_⟩
    · unfold cov
      rw [List.any_eq_true]
      exact ⟨rs[j], List.getElem_mem _, by simp [h1, h2]⟩
    · rcases h3 with ⟨rfl, h3⟩ | ⟨rfl, h3⟩
      · exact .inl ⟨by decide, h3⟩
      · exact .inr ⟨by decide, by rw [h3]⟩
  · rintro ⟨i, hc, c, hg, h⟩
    obtain ⟨hi, rfl⟩ := List.getElem?_eq_some_iff.1 hg
    unfold cov at hc
    rw [List.any_eq_true] at hc
    obtain ⟨x, hx, h2⟩ := hc
    obtain ⟨j, hj, rfl⟩ := List.mem_iff_getElem.1 hx
    have h2 : rs[j].1 ≤ (i : Int) ∧ (i : Int) < rs[j].2 := by simpa using h2
    refine ⟨j, hj, i, hi, h2.1, h2.2, ?_⟩
    rcases hk with rfl | rfl
    · rcases h with ⟨h, _⟩ | ⟨_, h⟩
      · exact absurd h (by decide)
      · exact .inr ⟨rfl, h⟩
    · rcases h with ⟨_, h⟩ | ⟨h, _⟩
      · exact .inl ⟨rfl, h⟩
      · exact absurd h (by decide)
/-- What stops answers. -/
def StopRes (kd : Int) (rs : List (Int × Int)) (cs : List Cl) (w : World) (e : Ending) (w' : World) : Prop := (∃ b : Bool, e = .returned (.bool b) ∧ (b = true ↔ stopsR kd rs cs)) ∧ Below w.heap.size w w'
set_option maxRecDepth 100000 in
set_option maxHeartbeats 8000000 in
theorem stops_gen (A1 A2 : Option Addr) (c1 n c2 : Nat) (cs : List Cl) (rs : List (Int × Int)) (i0 i1 kd a t0 t1 : Int) (tx : ByteArray) (on : Bool) (w : World) (hk0 : rs ≠ [] → kd = 2 ∨ kd = 3) (h1 : CellsIn w A1 cs) (h2 : Ranges w A2 n rs) (hlo : ∀ x ∈ rs, 0 ≤ x.1) (hhi : ∀ x ∈ rs, x.2 ≤ (cs.length : Int)) (hl : cs.length ≤ 1048576) (hl2 : rs.length ≤ 1048576) :
    Calls Tryz.prog 35 #[.slice A1 cs.length c1, opV i0 i1 kd a tx (.slice A2 n c2) t0 t1 on] w (StopRes kd rs cs w) := by
  obtain rfl := h2.len
  have HK0 := Lib.hid hk0
  clear hk0
  have H1 := Lib.hid h1
  have H2 := Lib.hid h2
  have HLO := Lib.hid hlo
  have HHI := Lib.hid hhi
  obtain ⟨n, hnn⟩ : ∃ n, cs.length = n := ⟨_, rfl⟩
  obtain ⟨m, hmm⟩ : ∃ m, rs.length = m := ⟨_, rfl⟩
  rw [hnn] at hl ⊢
  rw [hmm] at hl2 ⊢
  have HN := Lib.hid hnn
  have HM := Lib.hid hmm
  obtain ⟨w0, hw0⟩ : ∃ w0, w.alloc (.cells #[.int .i64 i0, .int .i64 i1, .int .i64 kd, .int .i64 a, .string tx, .slice A2 m c2, .int .i64 t0, .int .i64 t1, .bool on] 47) = w0 := ⟨_, rfl⟩
  have hB0 : Below w.heap.size w w0 := by rw [← hw0]; exact below_alloc1 _ _
  have hy0 : w0.heap[w.heap.size]? = some (.cells #[.int .i64 i0, .int .i64 i1, .int .i64 kd, .int .i64 a, .string tx, .slice A2 m c2, .int .i64 t0, .int .i64 t1, .bool on] 47 (0, 0)) := by rw [← hw0]; exact heap_at rfl
  have HW0 := Lib.hid hw0
  have HB0 := Lib.hid hB0
  obtain ⟨gr, hgr⟩ : ∃ gr, w.heap.size = gr := ⟨_, rfl⟩
  rw [hgr] at hy0
  have HGR := Lib.hid hgr
  have hglt := (Array.getElem?_eq_some_iff.1 hy0).1
  have HBX := Lib.hid (fun (W : World) (hW : Below w0.heap.size w0 W) => (show W.cell? ⟨gr, 2, none⟩ = some (.int .i64 kd) ∧ W.cell? ⟨gr, 5, none⟩ = some (.slice A2 m c2) from
    have e := (hW.block _ hglt).trans hy0
    ⟨by rw [Lib.cell_of_heap e]; rfl, by rw [Lib.cell_of_heap e]; rfl⟩))
  have HX := Lib.hid (fun (W : World) (hW : Below w0.heap.size w0 W) => hB0.trans (hW.mono hB0.size))
  clear h1 h2 hlo hhi hnn hmm hw0 hB0 hy0 hgr hglt
  unfold opV
  go_enter Tryz.func35, Tryz.ntmps35
  go_upto_region 1 with fail
  rw [HW0.out, HGR.out]
  go_wp2_with fail
  go_loopw [5] (fun i wr => ∃ j : Nat, j ≤ m ∧ i = .int .i64 j ∧ (∀ j' (h : j' < rs.length), j' < j → ∀ i (hi : i < cs.length), rs[j'].1 ≤ (i : Int) → (i : Int) < rs[j'].2 → ¬ stop1 kd cs[i].2) ∧ Below w0.heap.size w0 wr) (fun i _ => m - (intOf i).toNat)
  case atStart => exact ⟨0, Nat.zero_le _, rfl, fun j' h h' => absurd h' (by omega), Below.refl _ _⟩
  case round =>
    obtain ⟨j, hj, rfl, hno, hb⟩ := hrel
    have HNO := Lib.hid hno
    have HB := Lib.hid hb
    clear hno hb
    obtain ⟨x2, x5⟩ := HBX.out wr HB.out
    by_cases hlt : j < m
    · have hjl : j < rs.length := by have := HM.out; omega
      obtain ⟨g2, o2, rfl, hc2⟩ := H2.out.at_ (by omega)
      have f := hc2 j hjl
      have hl0 := HLO.out rs[j] (List.getElem_mem _)
      have hh0 := HHI.out rs[j] (List.getElem_mem _)
      obtain ⟨⟨lo, hi⟩, hra⟩ : ∃ x, rs[j] = x := ⟨_, rfl⟩
      rw [hra] at f hl0 hh0
      simp only at f hl0 hh0
      have HRA := Lib.hid hra
      have HF := Lib.hid (fun (W : World) (hW : Below w0.heap.size w0 W) => And.intro (U.cell_below (HX.out W hW) f.1) (U.cell_below (HX.out W hW) f.2))
      have hhn : hi ≤ (n : Int) := by rw [← HN.out]; exact hh0
      have z1 : (j : Int) < (m : Int) := by omega
      have z2 : (0 : Int) ≤ (j : Int) := by omega
      obtain ⟨f1, f2⟩ := HF.out wr HB.out
      obtain ⟨l, rfl⟩ : ∃ l : Nat, lo = l := ⟨lo.toNat, by omega⟩
      clear hc2 f hra hl0 hh0
      go_upto_region 5 with fail
      clear f1 f2 x2 x5
      go_loopw [6] (fun i wr2 => ∃ k : Nat, l ≤ k ∧ (k : Int) ≤ n + l ∧ i = .int .i64 k ∧ (∀ i (hi' : i < cs.length), l ≤ i → i < k → (i : Int) < hi → ¬ stop1 kd cs[i].2) ∧ Below w0.heap.size w0 wr2) (fun i _ => n - (intOf i).toNat)
      case atStart => exact ⟨l, Nat.le_refl _, by omega, rfl, fun i hi' h1 h2 => absurd h2 (by omega), HB.out⟩
      case round =>
        obtain ⟨k, hkl, hkn, rfl, hno2, hb2⟩ := hrel
        have HNO2 := Lib.hid hno2
        have HB2 := Lib.hid hb2
        clear hno2 hb2
        obtain ⟨x2, x5⟩ := HBX.out wr HB2.out
        obtain ⟨f1, f2⟩ := HF.out wr HB2.out
        by_cases hkh : (k : Int) < hi
        · have hkc : k < cs.length := by have := HN.out; omega
          obtain ⟨g1, o1, rfl, hc1⟩ := H1.out (by omega)
          have e := hc1 k hkc
          have HS := Lib.hid (fun (h : ¬ stop1 kd cs[k].2) (i : Nat) (hi' : i < cs.length) (h1 : l ≤ i) (h2 : i < k + 1) (h3 : (i : Int) < hi) => (show ¬ stop1 kd cs[i].2 by
            rcases Nat.lt_or_ge i k with h4 | h4
            · exact HNO2.out i hi' h1 h4 h3
            · obtain rfl : i = k := by omega
              exact h))
          have HT := Lib.hid (fun (h : stop1 kd cs[k].2) => (show stopsR kd rs cs from ⟨j, hjl, k, hkc, by rw [HRA.out]; simp only; omega, by rw [HRA.out]; exact hkh, h⟩))
          obtain ⟨⟨r, h⟩, hrh⟩ : ∃ c, cs[k] = c := ⟨_, rfl⟩
          rw [hrh] at e HS HT
          simp only at e HS HT
          have e1 := U.cell_below (HX.out wr HB2.out) e.1
          have e2 := U.cell_below (HX.out wr HB2.out) e.2
          have q1 : (k : Int) < (n : Int) := by omega
          have q1' : decide ((k : Int) < (n : Int)) = true := by simpa using q1
          have q2 : (0 : Int) ≤ (k : Int) := by omega
          clear hc1 e hrh
          rcases HK0.out (fun e => by rw [e] at hjl; exact absurd hjl (by simp)) with rfl | rfl
          · by_cases h8 : h = 1048576
            · subst h8
              have HYES := Lib.hid (HT.out (.inr ⟨rfl, rfl⟩))
              clear HS HT
              go_wp2_with fail
              go_ret
              exact ⟨⟨true, rfl, by simpa using HYES.out⟩, HX.out wr HB2.out⟩
            · have hnot := HS.out (by rintro (⟨h9, _⟩ | ⟨_, h9⟩); · exact absurd h9 (by decide)
                                      · exact h8 h9)
              have b8 : (h == 1048576) = false := by simpa using h8
              clear HS HT
              go_wp2_with fail
              go_roundw
              case rel => exact ⟨k + 1, by omega, by omega, by go_num, hnot, HB2.out⟩
              case measure => simp [intOf]; omega
          · by_cases h8 : h = 0
            · subst h8
              have HYES := Lib.hid (HT.out (.inl ⟨rfl, rfl⟩))
              clear HS HT
              go_wp2_with fail
              go_ret
              exact ⟨⟨true, rfl, by simpa using HYES.out⟩, HX.out wr HB2.out⟩
            · have hnot := HS.out (by rintro (⟨_, h9⟩ | ⟨h9, _⟩); · exact h8 h9
                                      · exact absurd h9 (by decide))
              have b8 : (h == 0) = false := by simpa using h8
              clear HS HT
              go_wp2_with fail
              go_roundw
              case rel => exact ⟨k + 1, by omega, by omega, by go_num, hnot, HB2.out⟩
              case measure => simp [intOf]; omega
        · have q1 : ¬ (k : Int) < hi := hkh
          go_wp2_with fail
          go_roundw
          case rel =>
            refine ⟨j + 1, by omega, by go_num, fun j' hj' hjj => ?_, HB2.out⟩
            rcases Nat.lt_or_ge j' j with h4 | h4
            · exact HNO.out j' hj' h4
            · obtain rfl : j' = j := by omega
              intro i hi' h5 h6
              rw [HRA.out] at h5 h6
              simp only at h5 h6
              exact HNO2.out i hi' (by omega) (by omega) h6
          case measure => simp [intOf]; omega
    · have hjm : j = m := by omega
      go_wp2_with fail
      go_ret
      refine ⟨⟨false, rfl, ?_⟩, HX.out wr HB.out⟩
      constructor
      · intro h; cases h
      · rintro ⟨j', hj', i, hi', h5, h6, h7⟩
        exact absurd h7 (HNO.out j' hj' (by have := HM.out; omega) i hi' h5 h6)
theorem stops_any (A1 A2 : Option Addr) (c1 n c2 : Nat) (cs : List Cl) (rs : List (Int × Int)) (i0 i1 kd a t0 t1 : Int) (tx : ByteArray) (on : Bool) (w : World) (hk : kd = 2 ∨ kd = 3) (h1 : CellsIn w A1 cs) (h2 : Ranges w A2 n rs) (hlo : ∀ x ∈ rs, 0 ≤ x.1) (hhi : ∀ x ∈ rs, x.2 ≤ (cs.length : Int)) (hl : cs.length ≤ 1048576) (hl2 : rs.length ≤ 1048576) :
    Calls Tryz.prog 35 #[.slice A1 cs.length c1, opV i0 i1 kd a tx (.slice A2 n c2) t0 t1 on] w fun e w' => (∃ b : Bool, e = .returned (.bool b) ∧ (b = true ↔ stopsR kd rs cs)) ∧ Below w.heap.size w w' :=
  stops_gen A1 A2 c1 n c2 cs rs i0 i1 kd a t0 t1 tx on w (fun _ => hk) h1 h2 hlo hhi hl hl2
end Go.Proofs.YtkdhomiieenfnaaGreatDoor.Lw

namespace Go.Proofs.YtkdhomiieenfnaaGreatDoor.Lw
open Go.RowKit Go.Proofs Go.Proofs.YtkdhomiieenfnaaGreatDoor.U Go.Proofs.YtkdhomiieenfnaaGreatDoor.Txt Go.Proofs.YtkdhomiieenfnaaGreatDoor.Rp Go.Proofs.YtkdhomiieenfnaaGreatDoor.O
set_option linter.unusedVariables false
set_option linter.unusedSimpArgs false

theorem head_rg (g n c m : Nat) (h : m ≤ c) (hc : 0 < c) : ∀ W : World, (Instr.slice 45 (.slice (some ⟨g, 0, none⟩) n c) none (some (.int .i64 m)) none).run Tryz.prog W = .ok (.slice (some ⟨g, 0, none⟩) m c) W := fun W => by
  rw [run_slice_h W 45 _ n c (by kernel_rfl) .i64 m (by omega) (by omega)]
  have e : (((sizeOf (Tryz.prog.elem 45)).run Tryz.prog W).andThen fun s w => (.ok (sliced (some ⟨g, 0, none⟩) 0 (m : Int).toNat c s) w : Result Value)) = .ok (.slice (if c = 0 then some ⟨g, 0, none⟩ else (some (⟨g, 0, none⟩ : Addr)).map (·.add (0 * 2))) m c) W := by kernel_rfl
  rw [e, if_neg (by omega)]
  rfl
theorem own_setOp {w : World} {B n g i : Nat} {u v : Value} {xs : List Value} (h : w.ownsRow B 102 2 v n xs) {c0 : Array Value} {fz : Nat × Nat} (hg : w.heap[g]? = some (.cells c0 47 fz)) : (w.setCell ⟨g, i, none⟩ u).ownsRow B 102 2 v n xs := by
  refine ⟨h.1, h.2.imp id ?_⟩
  rintro ⟨b, cap, cur, hv, hbg, hb, rest⟩
  refine ⟨b, cap, cur, hv, hbg, ?_, rest⟩
  have hne : b ≠ g := by
    rintro rfl
    rw [hb] at hg
    exact absurd (Obj.cells.inj (Option.some.inj hg)).2.1 (by decide)
  rw [← hb]
  simp [World.setCell, Array.getElem?_modify, Ne.symm hne]
theorem copy_cap {w : World} {B g n c : Nat} {xs : List Value} (h : w.ownsRow B 102 2 (.slice (some ⟨g, 0, none⟩) n c) n xs) : n ≤ c := by
  rcases h.2 with ⟨h1, _⟩ | ⟨_, cap, _, hv, _, _, hc, _⟩
  · cases h1
  · injection hv with _ _ h3
    omega
theorem copy_after {w0 wr w9 : World} {gr n : Nat} {v x : Value} {xs : List Value} {o : Obj} {i0 i1 kd a t0 t1 : Int} {tx : ByteArray} {on : Bool} (hX : w0.heap[gr]? = some (.cells (opC i0 i1 kd a tx x t0 t1 on) 47 (0, 0))) (hB : Below w0.heap.size w0 wr) (hO : wr.ownsRow w0.heap.size 102 2 v n xs) (hg : (wr.alloc o).grownBy w9 v.ownBlock) :
    Below w0.heap.size w0 w9 ∧ w9.heap[gr]? = some (.cells (opC i0 i1 kd a tx x t0 t1 on) 47 (0, 0)) ∧ w9.cell? ⟨gr, 5, none⟩ = some x ∧ w9.frozen? ⟨gr, 5, none⟩ = false ∧ gr < w9.heap.size := by
  have hb := (hB.alloc hB.size o).grown hg (by have := hB.size; simp; omega) (fun k hk => (hO.lt k hk).1)
  have hx := (hb.block _ (Array.getElem?_eq_some_iff.1 hX).1).trans hX
  exact ⟨hb, hx, by rw [Lib.cell_of_heap hx]; rfl, Lib.frozen_of_heap hx 5, (Array.getElem?_eq_some_iff.1 hx).1⟩
theorem copy_end {w9 : World} {gr n c : Nat} {A : Option Addr} {x : Value} {cs0 : Array Value} {i0 i1 kd a t0 t1 : Int} {tx : ByteArray} {on : Bool} (hX : w9.heap[gr]? = some (.cells (opC i0 i1 kd a tx x t0 t1 on) 47 (0, 0))) (hY : w9.heap[gr + 1]? = some (.cells cs0 47 (0, 0))) (hs : cs0.size = 9) :
    (ldO (.pointer (some ⟨gr, 0, none⟩))).run Tryz.prog (w9.setCell ⟨gr, 5, none⟩ (.slice A n c)) = .ok (.agg #[.int .i64 i0, .int .i64 i1, .int .i64 kd, .int .i64 a, .string tx, .slice A n c, .int .i64 t0, .int .i64 t1, .bool on]) (w9.setCell ⟨gr, 5, none⟩ (.slice A n c)) ∧ Fresh (w9.setCell ⟨gr, 5, none⟩ (.slice A n c)) (gr + 1) ∧ (w9.setCell ⟨gr, 5, none⟩ (.slice A n c)).heap[gr + 1]? = some (.cells cs0 47 (0, 0)) := by
  have h1 : (w9.setCell ⟨gr, 5, none⟩ (.slice A n c)).heap[gr]? = some (.cells (opC i0 i1 kd a tx (.slice A n c) t0 t1 on) 47 (0, 0)) := by simp [World.setCell, Array.getElem?_modify, hX, opC]
  have h2 : (w9.setCell ⟨gr, 5, none⟩ (.slice A n c)).heap[gr + 1]? = some (.cells cs0 47 (0, 0)) := by
    rw [← hY]
    simp [World.setCell, Array.getElem?_modify]
  exact ⟨ldO_run h1, ⟨cs0, h2, hs⟩, h2⟩
theorem own_weak1 {w : World} {B B' e size n : Nat} {v : Value} {xs : List Value} (h : w.ownsRow B e size v n xs) (hb : B' ≤ B) : w.ownsRow B' e size v n xs := by
  refine ⟨h.1, h.2.imp id ?_⟩
  rintro ⟨b, cap, cur, hv, hbg, rest⟩
  exact ⟨b, cap, cur, hv, Nat.le_trans hb hbg, rest⟩
/-- What copied hands back. -/
def CopyRes (i0 i1 kd a : Int) (tx : ByteArray) (rs : List (Int × Int)) (t0 t1 : Int) (on : Bool) (w : World) (e : Ending) (w' : World) : Prop :=
  (∃ g c, e = .returned (opV i0 i1 kd a tx (.slice (some ⟨g, 0, none⟩) rs.length c) t0 t1 on) ∧ w.heap.size ≤ g ∧ rs.length + 2 ≤ c ∧ w'.ownsRow w.heap.size 102 2 (.slice (some ⟨g, 0, none⟩) (rs.length + 2) c) (rs.length + 2) (rsCells (rs ++ [(-7, -8), (-9, -9)]))) ∧ Below w.heap.size w w'
section
attribute [local go_sem ↓] ldO_fold stO_fold
attribute [local go_sem] stO_run
set_option maxRecDepth 100000 in
set_option maxHeartbeats 8000000 in
theorem copied_any (i0 i1 kd a : Int) (tx : ByteArray) (A : Option Addr) (n c : Nat) (rs : List (Int × Int)) (t0 t1 : Int) (on : Bool) (w : World) (hR : Ranges w A n rs) (hn : n ≤ 8796093021952) :
    Calls Tryz.prog 17 #[opV i0 i1 kd a tx (.slice A n c) t0 t1 on] w (CopyRes i0 i1 kd a tx rs t0 t1 on w) := by
  have HR := Lib.hid hR
  have HLN := Lib.hid hR.len
  obtain ⟨j0, hj0, hz0, hz1, hz2⟩ := info_parts infoRg
  have HI := Lib.hid (And.intro hj0 (And.intro hz0 (And.intro hz1 hz2)))
  unfold opV
  obtain ⟨w0, hw0⟩ : ∃ w0, (w.alloc (.cells #[.int .i64 i0, .int .i64 i1, .int .i64 kd, .int .i64 a, .string tx, .slice A n c, .int .i64 t0, .int .i64 t1, .bool on] 47)).alloc (.cells #[.int .i64 0, .int .i64 0, .int .i64 0, .int .i64 0, .string ⟨#[]⟩, .slice none 0 0, .int .i64 0, .int .i64 0, .bool false] 47) = w0 := ⟨_, rfl⟩
  have hB0 : Below w.heap.size w w0 := by rw [← hw0]; exact ((Below.refl _ _).alloc (Nat.le_refl _) _).alloc (by simp) _
  have hx0 : w0.heap[w.heap.size]? = some (.cells (opC i0 i1 kd a tx (.slice A n c) t0 t1 on) 47 (0, 0)) := by rw [← hw0]; exact two_fst w _ _
  have hy0 : w0.heap[w.heap.size + 1]? = some (.cells #[.int .i64 0, .int .i64 0, .int .i64 0, .int .i64 0, .string ⟨#[]⟩, .slice none 0 0, .int .i64 0, .int .i64 0, .bool false] 47 (0, 0)) := by rw [← hw0]; exact two_new2 w _ _
  have hsz : w0.heap.size = w.heap.size + 2 := by rw [← hw0]; simp
  obtain ⟨gr, hgr⟩ : ∃ gr, w.heap.size = gr := ⟨_, rfl⟩
  rw [hgr] at hx0 hy0 hsz
  have HW0 := Lib.hid hw0
  have HB0 := Lib.hid hB0
  have HX := Lib.hid hx0
  have HY := Lib.hid hy0
  have HSZ := Lib.hid hsz
  have HGR := Lib.hid hgr
  have HBX := Lib.hid (fun (W : World) (hW : Below w0.heap.size w0 W) => (show W.cell? ⟨gr, 5, none⟩ = some (.slice A n c) from by
    rw [Lib.cell_of_heap ((hW.block _ (Array.getElem?_eq_some_iff.1 HX.out).1).trans HX.out)]; rfl))
  clear hR hj0 hz0 hz1 hz2 hw0 hB0 hx0 hy0 hsz hgr
  go_enter Tryz.func17, Tryz.ntmps17
  go_upto_region 1 with fail
  rw [HW0.out, HGR.out]
  go_wp2_with fail
  go_loopw [3, 4] (fun v i wr => ∃ k : Nat, k ≤ n ∧ i = .int .i64 k ∧ wr.ownsRow w0.heap.size 102 2 v k (rsCells (rs.take k)) ∧ Below w0.heap.size w0 wr) (fun _ i _ => n - (intOf i).toNat)
  case atStart => exact ⟨0, Nat.zero_le _, rfl, ⟨rfl, .inl ⟨rfl, rfl⟩⟩, Below.refl _ _⟩
  case round =>
    obtain ⟨k, hk, rfl, hown, hb⟩ := hrel
    have HO := Lib.hid hown
    have HB := Lib.hid hb
    clear hown hb
    have x5 := HBX.out wr HB.out
    by_cases hlt : k < n
    · have hkl : k < rs.length := by have := HLN.out; omega
      obtain ⟨g2, o2, rfl, hc2⟩ := HR.out.at_ (by omega)
      have f := hc2 k hkl
      have HTK := Lib.hid (show rs.take (k + 1) = rs.take k ++ [rs[k]] from List.take_succ_eq_append_getElem hkl)
      obtain ⟨⟨lo, hi⟩, hra⟩ : ∃ x, rs[k] = x := ⟨_, rfl⟩
      rw [hra] at f HTK
      simp only at f
      have HBW := Lib.hid (HB0.out.trans (HB.out.mono HB0.out.size))
      have f1 := U.cell_below HBW.out f.1
      have f2 := U.cell_below HBW.out f.2
      have z1 : (k : Int) < (n : Int) := by omega
      have z2 : (0 : Int) ≤ (k : Int) := by omega
      clear hc2 f hra
      go_wp2_with (at_builtin; refine wpList_append_lies _ rfl (.tmp 13) (.tmp 19) 45 rfl w0.heap.size 102 j0 (.agg #[.int .i64 0, .int .i64 0]) 2 16 Tryz.underlying45 HI.out.1 HI.out.2.1 HI.out.2.2.1 HI.out.2.2.2 rfl (by decide) _ _ _ rfl (own_below HO.out (below_alloc1 _ _)) _ 1 1 [.int .i64 lo, .int .i64 hi] rfl rfl (fun j u hj => news_alloc _ _ _ j u hj) (by simp [Value.oneCell']) (by decide) (by unfold maxLen; omega) (by omega) (by have h3 := HB.out.size; simp; omega) _ rfl ?_; intro g9 cap9 w9 hown hgrow hat hgl; have HO9 := Lib.hid hown; have HG9 := Lib.hid hgrow; clear hown hgrow hat hgl f1 f2 x5)
      go_roundw
      case rel =>
        refine ⟨k + 1, by omega, by go_num, ?_, ?_⟩
        · rw [HTK.out, rsCells_snoc]; exact HO9.out
        · exact (HB.out.alloc HB.out.size _).grown HG9.out (by have := HB.out.size; simp; omega) (fun k hk => (HO.out.lt k hk).1)
      case measure => simp [intOf]; omega
    · have hkn : k = n := by omega
      subst hkn
      have HT := Lib.hid (show rs.take k = rs by rw [HLN.out, List.take_length])
      rw [HT.out] at HO
      clear HT
      have hl0 : ∃ A0 c0, u3 = .slice A0 k c0 := by
        rcases HO.out.2 with ⟨h1, h0⟩ | ⟨g', cap, cur, hv, _⟩
        · exact ⟨none, 0, by rw [h1, h0]⟩
        · exact ⟨_, cap, hv⟩
      obtain ⟨A0, c0, rfl⟩ := hl0
      have z1 : ¬ (k : Int) < (k : Int) := by omega
      go_upto_region 7 with fail
      go_wp2_with (at_builtin; refine wpList_append_lies _ rfl (.tmp 23) (.tmp 26) 45 rfl w0.heap.size 102 j0 (.agg #[.int .i64 0, .int .i64 0]) 2 16 Tryz.underlying45 HI.out.1 HI.out.2.1 HI.out.2.2.1 HI.out.2.2.2 rfl (by decide) _ _ _ rfl (own_below HO.out (below_alloc1 _ _)) _ 2 2 [.int .i64 (-7), .int .i64 (-8), .int .i64 (-9), .int .i64 (-9)] rfl rfl (fun j u hj => news_alloc _ _ _ j u hj) (by simp [Value.oneCell']) (by decide) (by unfold maxLen; omega) (by omega) (by have h3 := HB.out.size; simp; omega) _ rfl ?_; intro g9 cap9 w9 hown hgrow hat hgl; have HO9 := Lib.hid hown; have HA := Lib.hid (copy_after HX.out HB.out HO.out hgrow); have y5 := HA.out.2.2.1; have yf := HA.out.2.2.2.1; have yb := HA.out.2.2.2.2; have HCP := Lib.hid (copy_cap hown); have sl := head_rg g9 (k + 2) cap9 k (by have := HCP.out; omega) (by have := HCP.out; omega); have HE := Lib.hid (copy_end (A := some ⟨g9, 0, none⟩) (n := k) (c := cap9) HA.out.2.1 ((HA.out.1.block _ (Array.getElem?_eq_some_iff.1 HY.out).1).trans HY.out) rfl); have ld := HE.out.1; have hf := HE.out.2.1; clear hown hgrow hat hgl x5)
      refine bodyPost_ret (v := opV i0 i1 kd a tx (.slice (some ⟨g9, 0, none⟩) k cap9) t0 t1 on) ?hr1 ?hd1 ?hb1
      case hd1 => rfl
      case hr1 => exact results_cell_row rfl _ _ (gr + 1) 47 _ (0, 0) _ rfl (setRow_heap _ _ _ _ _ _ HE.out.2.2) Tryz.underlying47 rfl (by kernel_rfl)
      case hb1 =>
        have hs : rsCells (rs ++ [(-7, -8), (-9, -9)]) = rsCells rs ++ [.int .i64 (-7), .int .i64 (-8), .int .i64 (-9), .int .i64 (-9)] := by simp [rsCells]
        have hg9 : w0.heap.size ≤ g9 := (HO9.out.lt _ rfl).1
        refine ⟨⟨g9, cap9, by rw [← HLN.out], ?_, ?_, ?_⟩, ?_⟩
        · have := HSZ.out; have := HGR.out; omega
        · rw [← HLN.out]; exact HCP.out
        · rw [hs, ← HLN.out]
          exact own_row9 (own_setOp (own_weak1 HO9.out (by have := HSZ.out; have := HGR.out; omega)) HA.out.2.1) HE.out.2.2
        · have hb9 := HB0.out.trans (HA.out.1.mono HB0.out.size)
          exact below_setRow (hb9.setCell (p := ⟨gr, 5, none⟩) (by rw [HGR.out]; exact Nat.le_refl _) _) (by rw [HGR.out]; omega) _
end
end Go.Proofs.YtkdhomiieenfnaaGreatDoor.Lw
