/- Parts of op.Print: a number, an id, an operation's own error, its width. -/
import Derived.Test.YtnippaaiopgnaaaDoorOpL
import Derived.Test.YtnippaaiopgnaaaDoorOqShelf
import Derived.Test.YtnippaaiopgnaaaDoorOqP
import Derived.Test.YtnippaaiopgnaaaDoorUQuote
import Derived.Lib.AppendIntMem
import Derived.Deep.DeepCutAuto
import Derived.Deep.DrawnRows
import Derived.Deep.RegionWith
namespace Go.Proofs.YtnippaaiopgnaaaDoor.O
open Go.RowKit Go.Proofs Go.Joins Go.Proofs.YtnippaaiopgnaaaDoor.U Go.Proofs.YtnippaaiopgnaaaDoor.Txt
set_option linter.unusedVariables false
set_option linter.unusedSimpArgs false
attribute [local go_sem] id_eq
attribute [local go_sem ↓] Go.wp_at_zero Go.wp_at_succ

/-- What Print reads of memory. -/
structure EnvO (w : World) : Prop where
  bars : Bars w
  tz : Tz16 w
  pow : Lib.TabIs Tryd.prog w "internal/strconv.uint64pow10" .u64 Lib.pow10Tab
theorem EnvO.below {w w' : World} (h : EnvO w) (hb : Below w.heap.size w w') : EnvO w' :=
  ⟨h.bars.below hb, h.tz.below hb, Lib.tabBelow_of_tabIs h.pow w' hb⟩

theorem add_str (a b : ByteArray) (h : a.size + b.size ≤ 9223372036854775807) : ∀ W : World, (Op.stringOp .add a b).run Tryd.prog W = .ok (.string (a ++ b)) W := fun W => run_string_add_sum W a b h
def iL (n : Int) : ByteArray := ⟨(Lib.itoa n).toArray⟩
theorem Itoa_any (n : Int) (w : World) (h0 : -9223372036854775808 ≤ n) (h1 : n ≤ 9223372036854775807) (hE : EnvO w) : Calls Tryd.prog 28 #[.int .i64 n] w fun e w' => e = .returned (.string (iL n)) ∧ Below w.heap.size w w' := by
  refine (Tryd.strconv_Itoa n h0 h1 w hE.pow).mono ?_
  rintro e w' ⟨rfl, k, os, rfl⟩
  exact ⟨rfl, Lib.below_grow _ w (Nat.le_refl _) k os⟩
theorem iL_size (n : Int) (h0 : -9223372036854775808 ≤ n) (h1 : n ≤ 9223372036854775807) : (iL n).size ≤ 21 := Lib.itoa_length_le n h0 h1
theorem iL_list (n : Int) : (iL n).data.toList = Lib.itoa n := rfl

/-- A world behind w, with the id's own block. -/
structure IdBox (w W : World) (a b : Int) : Prop where
  below : Below w.heap.size w W
  box : ∃ t fr, W.heap[w.heap.size]? = some (.cells #[.int .i64 a, .int .i64 b] t fr)
theorem IdBox.new (w : World) (a b : Int) (t : TypeId) : IdBox w (w.alloc (.cells #[.int .i64 a, .int .i64 b] t)) a b := ⟨below_alloc1 w _, t, (0, 0), heap_alloc_new w _⟩
theorem IdBox.drew {w W : World} {a b : Int} (h : IdBox w W a b) : IdBox w W.drew a b := ⟨h.below.drew, h.box⟩
theorem IdBox.step {w W W' : World} {a b : Int} (h : IdBox w W a b) (hb : Below W.heap.size W W') : IdBox w W' a b :=
  ⟨h.below.trans (hb.mono h.below.size), by obtain ⟨t, fr, e⟩ := h.box; exact ⟨t, fr, by rw [hb.block _ (Array.getElem?_eq_some_iff.1 e).1]; exact e⟩⟩
theorem IdBox.c0 {w W : World} {a b : Int} (h : IdBox w W a b) : W.cell? ⟨w.heap.size, 0, none⟩ = some (.int .i64 a) := by obtain ⟨t, fr, e⟩ := h.box; simp [World.cell?, e]
theorem IdBox.c1 {w W : World} {a b : Int} (h : IdBox w W a b) : W.cell? ⟨w.heap.size, 1, none⟩ = some (.int .i64 b) := by obtain ⟨t, fr, e⟩ := h.box; simp [World.cell?, e]
set_option maxRecDepth 100000 in
set_option maxHeartbeats 4000000 in
theorem printID_any (a b : Int) (w : World) (ha0 : -9223372036854775808 ≤ a) (ha1 : a ≤ 9223372036854775807) (hb0 : -9223372036854775808 ≤ b) (hb1 : b ≤ 9223372036854775807) (hE : EnvO w) :
    Calls Tryd.prog 27 #[.agg #[.int .i64 a, .int .i64 b]] w fun e w' => e = .returned (.string ⟨(idL a b).toArray⟩) ∧ Below w.heap.size w w' := by
  have HE := Lib.hid hE
  clear hE
  by_cases hz : a = 0 ∧ b = 0
  · obtain ⟨rfl, rfl⟩ := hz
    go_enter Tryd.func27, Tryd.ntmps27
    go_wp2_with fail
    go_ret
    exact ⟨rfl, below_alloc1 _ _⟩
  · have hz' : (decide (a = 0) && decide (b = 0)) = false := by
      by_cases h : a = 0
      · simp [h]; exact fun h2 => hz ⟨h, h2⟩
      · simp [h]
    have e0 : idL a b = Lib.itoa a ++ 46 :: Lib.itoa b := if_neg hz
    have H0 := Lib.hid e0
    have s1 := iL_size a ha0 ha1
    have s2 := iL_size b hb0 hb1
    have HB := Lib.hid (IdBox.new w a b 25)
    have C : ∀ n : Int, -9223372036854775808 ≤ n → n ≤ 9223372036854775807 → ∀ W, IdBox w W a b → Calls Tryd.prog 28 #[.int .i64 n] W fun e w' => e = .returned (.string (iL n)) ∧ IdBox w w' a b ∧ w'.cell? ⟨w.heap.size, 0, none⟩ = some (.int .i64 a) ∧ w'.cell? ⟨w.heap.size, 1, none⟩ = some (.int .i64 b) := fun n h0 h1 W hW => by
      refine (Itoa_any n W h0 h1 (HE.out.below hW.below)).mono ?_
      rintro e w' ⟨rfl, hb⟩
      exact ⟨rfl, hW.step hb, (hW.step hb).c0, (hW.step hb).c1⟩
    have C1 := Lib.hid (C a ha0 ha1)
    have C2 := Lib.hid (C b hb0 hb1)
    clear C
    have hcat : (iL a ++ ⟨#[46]⟩) ++ iL b = (⟨(idL a b).toArray⟩ : ByteArray) := by
      apply ByteArray.ext
      rw [← Array.toList_inj]
      show ((iL a ++ ⟨#[46]⟩) ++ iL b).data.toList = _
      rw [app_list, app_list, iL_list, iL_list, H0.out]
      simp
    have q1 := add_str (iL a) ⟨#[46]⟩ (by show (iL a).size + 1 ≤ _; omega)
    have q2 := add_str (iL a ++ ⟨#[46]⟩) (iL b) (by rw [ByteArray.size_append]; show (iL a).size + 1 + (iL b).size ≤ _; omega)
    rw [hcat] at q2
    clear hcat e0
    generalize iL a ++ ⟨#[46]⟩ = m at q1 q2
    generalize iL a = x at C1 q1
    generalize iL b = y at C2 q2
    generalize (⟨(idL a b).toArray⟩ : ByteArray) = z at q2
    clear H0 HE hz s1 s2
    go_enter Tryd.func27, Tryd.ntmps27
    go_wp2_with fail
    go_cut [2] (fun x wx => x = .string z ∧ Below w.heap.size w wx)
    case first =>
      go_region_with (first
        | ((with_reducible refine (C1.out _ (by first | exact HB.out | exact HB.out.drew | assumption)).mono ?_); rintro e w5 ⟨rfl, hb5, x5, y5⟩)
        | ((with_reducible refine (C2.out _ (by first | exact HB.out | exact HB.out.drew | assumption)).mono ?_); rintro e w5 ⟨rfl, hb5, x5, y5⟩))
      all_goals (go_wp2_with fail)
      all_goals
        go_meet
        exact ⟨rfl, IdBox.below (by assumption)⟩
    case rest =>
      obtain ⟨rfl, hbx⟩ := hcut
      have HBX := Lib.hid hbx
      clear hbx
      go_wp2_with fail
      go_ret
      exact ⟨rfl, HBX.out⟩
end Go.Proofs.YtnippaaiopgnaaaDoor.O
