/- The law's own look at the rows: they must be taken and have places within the text. -/
import Derived.Test.YtkidcleffllhbaaDoorPgMade
import Derived.Lib.SmallJoins
import Derived.Deep.QuietTactic
namespace Go.Proofs.YtkidcleffllhbaaDoor.Pg
open Go.RowKit Go.Proofs Go.Joins Go.Proofs.YtkidcleffllhbaaDoor.U Go.Proofs.YtkidcleffllhbaaDoor.Txt
set_option linter.unusedVariables false
set_option linter.unusedSimpArgs false
attribute [local go_sem] frozen?_alloc_cells

/-- The string of a list of runes. -/
def Str (xs : List Int) : ByteArray := runesBytes xs
theorem foldl_enc (xs : List Int) : ∀ s : ByteArray, (xs.foldl (fun r n => r ++ Utf8.encode n) s).data.toList = s.data.toList ++ enc xs := by
  induction xs with
  | nil => intro s; simp [enc]
  | cons x xs ih =>
    intro s
    rw [List.foldl_cons, ih, enc_cons]
    simp [encB]
theorem str_list (xs : List Int) : (Str xs).data.toList = enc xs := by
  unfold Str runesBytes
  rw [foldl_enc]
  simp
theorem conv_runes {W : World} {A : Option Addr} {c : Nat} {xs : List Int} (h : Runes W A xs) : (convert 22 9 (.slice A xs.length c)).run Tryd.prog W = .ok (.string (Str xs)) W := by
  rcases Nat.eq_zero_or_pos xs.length with h0 | h0
  · obtain rfl : xs = [] := List.length_eq_zero_iff.1 h0
    rw [run_convert_runes_string W _ _ _ _ _ _ Tryd.underlying22 Tryd.underlying21 Tryd.underlying9]
    cases A with
    | none => rfl
    | some a => exact run_runesToString W a 0 c [] (by rw [run_loadCells W a 0 (fun _ => .int .i32 0) (fun j hj => by omega)]; rfl)
  · obtain ⟨ad, rfl, hc⟩ := h h0
    have := run_convert_runes W 22 9 21 ad xs.length c xs (Nat.le_refl _) Tryd.underlying22 Tryd.underlying21 Tryd.underlying9 hc
    rwa [List.take_length] at this
/-- The rows' cells in a block. -/
def RowsAt (w : World) (g : Nat) (xs : List Row) : Prop := ∀ i (h : i < xs.length), w.cell? ⟨g, i * 4, none⟩ = some (.int .i64 xs[i].lo) ∧ w.cell? ⟨g, i * 4 + 1, none⟩ = some (.int .i64 xs[i].hi) ∧ w.cell? ⟨g, i * 4 + 2, none⟩ = some (.int .i64 xs[i].cols) ∧ w.cell? ⟨g, i * 4 + 3, none⟩ = some (.bool xs[i].hard)
theorem RowsAt.below {w w1 : World} {g : Nat} {xs : List Row} (h : RowsAt w g xs) (hb : Below w.heap.size w w1) : RowsAt w1 g xs := fun i hi =>
  ⟨cell_below hb (h i hi).1, cell_below hb (h i hi).2.1, cell_below hb (h i hi).2.2.1, cell_below hb (h i hi).2.2.2⟩
theorem rowCells_get : ∀ (xs : List Row) (i : Nat) (h : i < xs.length), (rowCells xs)[i * 4]? = some (.int .i64 xs[i].lo) ∧ (rowCells xs)[i * 4 + 1]? = some (.int .i64 xs[i].hi) ∧ (rowCells xs)[i * 4 + 2]? = some (.int .i64 xs[i].cols) ∧ (rowCells xs)[i * 4 + 3]? = some (.bool xs[i].hard)
  | [], i, h => by simp at h
  | x :: r, 0, h => ⟨rfl, rfl, rfl, rfl⟩
  | x :: r, i + 1, h => by
    have := rowCells_get r i (by simpa using h)
    rw [show (i + 1) * 4 = i * 4 + 4 by omega]
    simpa [rowCells, List.flatMap_cons] using this
theorem rows_of_own {w : World} {B : Nat} {v : Value} {xs : List Row} (h : w.ownsRow B 61 4 v xs.length (rowCells xs)) (hn : 0 < xs.length) : ∃ g cap, v = .slice (some ⟨g, 0, none⟩) xs.length cap ∧ RowsAt w g xs := by
  obtain ⟨g, cap, rfl, _, _⟩ := h.form hn
  refine ⟨g, cap, rfl, fun i hi => ?_⟩
  obtain ⟨a1, a2, a3, a4⟩ := rowCells_get xs i hi
  have hc : ∀ k u, (rowCells xs)[k]? = some u → w.cell? ⟨g, k, none⟩ = some u := fun k u hu => by
    have := h.cells (g := g) rfl k u hu
    rwa [Addr.add_lit, Nat.zero_add] at this
  exact ⟨hc _ _ a1, hc _ _ a2, hc _ _ a3, hc _ _ a4⟩
theorem Chain.ne {w : Int} {rs : List Int} {at_ : Nat} {l : List Row} (h : Chain w rs at_ l) : 0 < l.length := by cases h <;> simp
theorem Chain.all {w : Int} {rs : List Int} {at_ : Nat} {l : List Row} (h : Chain w rs at_ l) : ∀ x ∈ l, RowOk w rs x := by
  induction h with
  | last x h => intro y hy; simp at hy; subst hy; exact h
  | hard x l h _ _ _ _ ih => intro y hy; rcases List.mem_cons.1 hy with rfl | hy; exact h; exact ih y hy
  | soft x l h _ _ _ ih => intro y hy; rcases List.mem_cons.1 hy with rfl | hy; exact h; exact ih y hy

theorem rowsFrom_len (w : Int) (rs : List Int) : ∀ (f lo i : Nat), rs.length = i + f → lo ≤ i → (rowsFrom w rs f lo i).length ≤ rs.length - lo + 1
  | 0, lo, i, hf, hl => by
    have := lineRows_len w rs rs.length (rs.length - lo) lo
    simpa [rowsFrom] using this
  | f + 1, lo, i, hf, hl => by
    unfold rowsFrom
    split
    · have h1 := lineRows_len w rs i (i - lo) lo
      have h2 := rowsFrom_len w rs f (i + 1) (i + 1) (by omega) (Nat.le_refl _)
      rw [List.length_append]
      omega
    · exact rowsFrom_len w rs f lo (i + 1) (by omega) (by omega)
theorem below_drewN {B : Nat} {a w : World} (h : Below B a w) (n : Nat) : Below B a (w.drewN n) := ⟨h.os, h.tape, h.output, h.size, h.block⟩
set_option maxRecDepth 100000 in
set_option maxHeartbeats 4000000 in
theorem lawLaid_any (A : Option Addr) (c : Nat) (rs : List Int) (W : Int) (w : World) (hR : Runes w A rs) (hg : ∀ r ∈ rs, TxtRune r) (hl : rs.length ≤ 200) (hW : 1 ≤ W ∧ W ≤ 1024) (hB : 4 ≤ w.heap.size) (hT : Tabs w) (hb : Bars w) :
    Calls Tryd.prog 17 #[.slice A rs.length c, .int .i64 W] w fun e w' => (∃ g cap, e = .returned (.tuple #[.slice (some ⟨g, 0, none⟩) (pageRows W rs).length cap, .bool true]) ∧ RowsAt w' g (pageRows W rs)) ∧ Below w.heap.size w w' := by
  have hconv : ∀ c, (convert 22 9 (.slice A rs.length c)).run Tryd.prog w = .ok (.string (Str rs)) w := fun c => conv_runes hR
  have HCH := Lib.hid (page_chain W rs hW.1)
  have HG := Lib.hid hg
  have HL := Lib.hid hl
  have HW := Lib.hid hW
  have HT := Lib.hid hT
  have HBR := Lib.hid hb
  obtain ⟨n, hn⟩ : ∃ n, rs.length = n := ⟨_, rfl⟩
  rw [hn] at hconv ⊢
  have HN := Lib.hid hn
  clear hR hg hl hW hT hb hn
  go_enter Tryd.func17, Tryd.ntmps17
  go_wp2_with fail
  refine (Lay_any (Str rs) rs W _ (str_list rs) HG.out (by have := HL.out; omega) HW.out hB HT.out HBR.out).mono ?_
  rintro e w1 ⟨⟨v, rfl, hown⟩, hb1⟩
  obtain ⟨g, cap, rfl, hra⟩ := rows_of_own hown HCH.out.ne
  have HRA := Lib.hid hra
  have HB := Lib.hid hb1
  have hall := HCH.out.all
  have hne := HCH.out.ne
  obtain ⟨xs, hxs⟩ : ∃ xs, pageRows W rs = xs := ⟨_, rfl⟩
  rw [hxs] at HRA hall hne ⊢
  have HXS := Lib.hid hxs
  have HA := Lib.hid hall
  obtain ⟨m, hm⟩ : ∃ m, xs.length = m := ⟨_, rfl⟩
  rw [hm] at hne ⊢
  have HM := Lib.hid hm
  have b0 : ((m : Int) == 0) = false := by simp; omega
  have HML := Lib.hid (show m ≤ 201 by
    have h1 := rowsFrom_len W rs rs.length 0 0 (by omega) (Nat.le_refl _)
    have h2 := HL.out
    rw [show rowsFrom W rs rs.length 0 0 = xs from hxs, hm] at h1
    omega)
  clear hown hra hb1 hall hne hm hconv
  go_wp2_with fail
  go_loopw [8] (fun i wr => ∃ j : Nat, i = .int .i64 j ∧ j ≤ m ∧ Below w1.heap.size w1 wr) (fun i _ => m - (intOf i).toNat)
  case atStart => exact ⟨0, rfl, Nat.zero_le _, Below.refl _ _⟩
  case round =>
    obtain ⟨j, rfl, hj, hb⟩ := hrel
    have HB2 := Lib.hid hb
    have hm2 : m ≤ 201 := HML.out
    clear hb
    by_cases hlt : j < m
    · have hj2 : j < xs.length := by have := HM.out; omega
      obtain ⟨d0, d1, d2, d3⟩ := (HRA.out.below HB2.out) j hj2
      have hok := HA.out xs[j] (List.getElem_mem hj2)
      have o1 := hok.le
      have o2 : xs[j].hi ≤ n := by have := HN.out; have := hok.len; omega
      obtain ⟨lo, hlo⟩ : ∃ lo, xs[j].lo = lo := ⟨_, rfl⟩
      obtain ⟨hi, hhi⟩ : ∃ hi, xs[j].hi = hi := ⟨_, rfl⟩
      rw [hlo] at d0 o1
      rw [hhi] at d1 o1 o2
      have z1 : ¬ (lo : Int) < 0 := by omega
      have z2 : ¬ (hi : Int) < (lo : Int) := by omega
      have z3 : ¬ (n : Int) < (hi : Int) := by omega
      clear hok hlo hhi d2 d3
      have HJ2 := Lib.hid hj2
      clear hj2
      go_wp2_with fail
      go_quiet (fail)
      go_wp2_with fail
      go_roundw
      case rel => exact ⟨j + 1, by go_num, hlt, below_drewN HB2.out _⟩
      case measure => simp [intOf]; omega
    · go_wp2_with fail
      go_ret2
      refine ⟨⟨g, cap, ?_, ?_⟩, HB.out.trans (HB2.out.mono HB.out.size)⟩
      · rw [HXS.out, HM.out]; rfl
      · rw [HXS.out]; exact HRA.out.below HB2.out
end Go.Proofs.YtkidcleffllhbaaDoor.Pg
