/- Splices in memory; delta.Cost; slices.Reverse on them. -/
import Derived.Test.YtkidcleffllhbaaDoorDtTexts
import Derived.BigRegion
import Derived.Deep.CutRange
import Derived.Deep.AppendLies
namespace Go.Proofs.YtkidcleffllhbaaDoor.Dt
open Go.RowKit Go.Proofs Go.Proofs.YtkidcleffllhbaaDoor.U Go.Proofs.YtkidcleffllhbaaDoor.Txt
set_option linter.unusedVariables false
set_option linter.unusedSimpArgs false

/-- A splice: where, how many go, which runes come. -/
structure Spl where
  at_ : Nat
  del : Nat
  ins : List Int
def splCell (s : Spl) : List Value := [.int .i64 s.at_, .int .i64 s.del, .string (Str s.ins)]
def splCells (l : List Spl) : List Value := l.flatMap splCell
theorem splCells_cons (s : Spl) (l : List Spl) : splCells (s :: l) = splCell s ++ splCells l := rfl
theorem splCells_snoc (ys : List Spl) (c : Spl) : splCells (ys ++ [c]) = splCells ys ++ splCell c := by simp [splCells]
theorem splCells_len (l : List Spl) : (splCells l).length = l.length * 3 := by
  induction l with
  | nil => rfl
  | cons c l ih =>
    rw [splCells_cons, List.length_append, ih]
    simp [splCell]; omega
theorem splCells_get : ∀ (l : List Spl) (j : Nat) (h : j < l.length), (splCells l)[j * 3]? = some (.int .i64 l[j].at_) ∧ (splCells l)[j * 3 + 1]? = some (.int .i64 l[j].del) ∧ (splCells l)[j * 3 + 2]? = some (.string (Str l[j].ins))
  | s :: l, 0, h => ⟨rfl, rfl, rfl⟩
  | s :: l, j + 1, h => by
    have := splCells_get l j (by simpa using h)
    rw [splCells_cons]
    have hl : (splCell s).length = 3 := rfl
    rw [List.getElem?_append_right (by omega), List.getElem?_append_right (by omega), List.getElem?_append_right (by omega), hl, show (j + 1) * 3 - 3 = j * 3 by omega, show (j + 1) * 3 + 1 - 3 = j * 3 + 1 by omega, show (j + 1) * 3 + 2 - 3 = j * 3 + 2 by omega]
    exact this
theorem splCells_set : ∀ (l : List Spl) (j : Nat) (s : Spl), j < l.length → (((splCells l).set (j * 3) (.int .i64 s.at_)).set (j * 3 + 1) (.int .i64 s.del)).set (j * 3 + 2) (.string (Str s.ins)) = splCells (l.set j s)
  | t :: l, 0, s, h => rfl
  | t :: l, j + 1, s, h => by
    have := splCells_set l j s (by simpa using h)
    have hl : (splCell t).length = 3 := rfl
    rw [splCells_cons, List.set_append_right _ _ (by omega), List.set_append_right _ _ (by omega), List.set_append_right _ _ (by omega), hl, show (j + 1) * 3 - 3 = j * 3 by omega, show (j + 1) * 3 + 1 - 3 = j * 3 + 1 by omega, show (j + 1) * 3 + 2 - 3 = j * 3 + 2 by omega, this]
    rfl
theorem infoSpl : (Tryd.prog.info? 37).map (fun i => (i.zero, i.size, i.bytes)) = some (some (.agg #[.int .i64 0, .int .i64 0, .string ⟨#[]⟩]), 3, 32) := by kernel_rfl
/-- How dear splices are. -/
def splCost : List Spl → Nat
  | [] => 0
  | s :: l => s.del + s.ins.length + splCost l
theorem splCost_app (a b : List Spl) : splCost (a ++ b) = splCost a + splCost b := by
  induction a with
  | nil => simp [splCost]
  | cons c r ih => simp only [List.cons_append, splCost, ih]; omega
theorem splCost_rev (a : List Spl) : splCost a.reverse = splCost a := by
  induction a with
  | nil => rfl
  | cons c r ih => rw [List.reverse_cons, splCost_app, ih]; simp [splCost]; omega
theorem splCost_take (l : List Spl) (k : Nat) (h : k < l.length) : splCost (l.take (k + 1)) = splCost (l.take k) + (l[k].del + l[k].ins.length) := by
  rw [List.take_succ_eq_append_getElem h, splCost_app]; simp [splCost]
theorem splCost_le (l : List Spl) (k : Nat) : splCost (l.take k) ≤ splCost l := by
  conv => rhs; rw [← List.take_append_drop k l, splCost_app]
  omega
/-- Splices that Cost takes. -/
def Small (l : List Spl) : Prop := l.length ≤ 100000 ∧ splCost l ≤ 1000000000 ∧ ∀ s ∈ l, s.at_ ≤ 1048576 ∧ s.del ≤ 1048576 ∧ s.ins.length ≤ 1048576 ∧ ∀ r ∈ s.ins, TxtRune r
theorem text_str {rs : List Int} (h : ∀ r ∈ rs, TxtRune r) (hl : rs.length ≤ 35184372087808) : Text (Str rs) rs := ⟨str_list rs, h, by rw [str_size]; have := enc_len_le rs; omega⟩
set_option maxRecDepth 100000 in
set_option maxHeartbeats 4000000 in
theorem Cost_any (v : Value) (l : List Spl) (B : Nat) (w : World) (ho : w.ownsRow B 37 3 v l.length (splCells l)) (hs : Small l) (hg : Bars w) :
    Calls Tryd.prog 10 #[v] w fun e w' => e = .returned (.tuple #[.int .i64 (splCost l), .int .i64 0]) ∧ Below w.heap.size w w' := by
  obtain ⟨A, c, rfl⟩ := own_shape ho
  have HO := Lib.hid ho
  have HS := Lib.hid hs
  have HG := Lib.hid hg
  have hnl := hs.1
  clear ho hs hg
  obtain ⟨n, hn⟩ : ∃ n, l.length = n := ⟨_, rfl⟩
  have HN := Lib.hid hn
  rw [hn] at HO hnl ⊢
  go_enter Tryd.func10, Tryd.ntmps10
  go_wp2_with fail
  go_loopw [4, 12] (fun s i wr => ∃ k : Nat, s = .int .i64 (splCost (l.take k)) ∧ i = .int .i64 k ∧ k ≤ n ∧ Below w.heap.size w wr) (fun _ i _ => n - (intOf i).toNat)
  case atStart => exact ⟨0, rfl, rfl, Nat.zero_le _, Below.refl _ _⟩
  case round =>
    obtain ⟨k, rfl, rfl, hk, hb⟩ := hrel
    have HB := Lib.hid hb
    clear hb
    by_cases hlt : k < n
    · have hkl : k < l.length := by rw [HN.out]; exact hlt
      obtain ⟨g, cap, hv⟩ := own_some HO.out (by omega)
      cases hv
      have hg3 := splCells_get l k hkl
      have hO2 := own_below HO.out HB.out
      have y0 := hO2.cellAt (k * 3) (by omega)
      have y1 := hO2.cellAt (k * 3 + 1) (by omega)
      have y2 := hO2.cellAt (k * 3 + 2) (by omega)
      rw [hg3.1] at y0
      rw [hg3.2.1] at y1
      rw [hg3.2.2] at y2
      have hc1 := splCost_take l k hkl
      have hc2 := splCost_le l (k + 1)
      obtain ⟨b1, b2, b3, b4⟩ := HS.out.2.2 l[k] (List.getElem_mem _)
      generalize l[k].at_ = at_ at y0 b1
      generalize l[k].del = dl at y1 b2 hc1
      generalize l[k].ins = ins at y2 b3 b4 hc1
      have HT := Lib.hid (text_str b4 (by omega))
      have hcs := HS.out.2.1
      obtain ⟨p, hp⟩ : ∃ p, splCost (l.take k) = p := ⟨_, rfl⟩
      rw [hp] at hc1 ⊢
      have HC1 := Lib.hid hc1
      have HPB := Lib.hid (show p + (dl + ins.length) ≤ 1000000000 by omega)
      clear hg3 hO2 b4 hc1 hc2 hcs hkl hp
      go_upto_region 5 with fail
      have HB1 := Lib.hid (HB.out.alloc HB.out.size (.cells #[.int .i64 at_, .int .i64 dl, .string (Str ins)] 37))
      have hx := heap_alloc_new wr (.cells #[.int .i64 at_, .int .i64 dl, .string (Str ins)] 37)
      generalize wr.alloc (.cells #[.int .i64 at_, .int .i64 dl, .string (Str ins)] 37) = wa at HB1 hx ⊢
      generalize wr.heap.size = b at hx ⊢
      have HXA := Lib.hid hx
      have z0 : wa.cell? ⟨b, 0, none⟩ = some (.int .i64 at_) := by rw [Lib.cell_of_heap hx]; rfl
      have z1 : wa.cell? ⟨b, 1, none⟩ = some (.int .i64 dl) := by rw [Lib.cell_of_heap hx]; rfl
      have z2 : wa.cell? ⟨b, 2, none⟩ = some (.string (Str ins)) := by rw [Lib.cell_of_heap hx]; rfl
      clear hx y0 y1 y2
      go_wp2_with fail
      refine (check_at (Str ins) ins.length 0 0 _ (by have := HT.out.size; unfold maxLen; omega) (HG.out.below HB1.out) HT.out.chk).mono ?_
      rintro e w1 ⟨rfl, hb1⟩
      have HB2 := Lib.hid (HB1.out.trans (hb1.mono HB1.out.size))
      have z1 := cell_below hb1 z1
      have HPB2 := HPB.out
      clear hb1 z0 z2 b1 b2 b3
      go_wp2_with fail
      go_roundw
      case rel => exact ⟨k + 1, by rw [HC1.out]; go_num, by go_num, by omega, HB2.out⟩
      case measure => simp [intOf]; omega
    · obtain rfl : k = n := by omega
      have he : splCost (l.take k) = splCost l := by rw [← HN.out, List.take_length]
      rw [he]
      go_wp2_with fail
      refine bodyPost_ret (results_tmp2 rfl _ _ _) rfl ?_
      exact ⟨rfl, HB.out⟩
end Go.Proofs.YtkidcleffllhbaaDoor.Dt
