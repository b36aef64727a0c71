/- redraftlaw04.fixed; OpNames. -/
import Derived.Test.YtnippaaiopgnaaaDoorOqPr
namespace Go.Proofs.YtnippaaiopgnaaaDoor.O
open Go.RowKit Go.Proofs Go.Joins Go.Proofs.YtnippaaiopgnaaaDoor.U Go.Proofs.YtnippaaiopgnaaaDoor.Txt
set_option linter.unusedVariables false
set_option linter.unusedSimpArgs false
attribute [local go_sem] id_eq
attribute [local go_sem ↓] Go.wp_at_zero Go.wp_at_succ

theorem chk_ab' : chk (⟨#[97, 98]⟩ : ByteArray).data.toList = (2, 0, 0) := by decide +kernel
theorem line_fixed : lineL 1 1 1 0 (⟨#[97, 98]⟩ : ByteArray).data.toList [] 0 0 false = [49, 46, 49, 32, 105, 110, 115, 32, 48, 32, 34, 97, 98, 34] := by decide +kernel
set_option maxRecDepth 100000 in
set_option maxHeartbeats 4000000 in
theorem opFixed_any (w : World) (hE : EnvO w) : Calls Tryd.prog 12 #[] w fun e w' => e = .returned (.bool true) ∧ Below w.heap.size w w' := by
  have HX := Lib.hid (OpBox.new w 1 1 1 0 ⟨#[97, 98]⟩ (.slice none 0 0) 0 0 false 31)
  have HR := Lib.hid (Ranges.none w none)
  have HE := Lib.hid hE
  have e1 : opE 1 1 1 0 ⟨#[97, 98]⟩ 2 0 [] 0 0 false 0 = 0 := by decide +kernel
  have e2 : ownE 1 1 1 0 ⟨#[97, 98]⟩ 2 0 [] 0 0 false = 0 := by decide +kernel
  have C1 := Lib.hid (opCheck_any 1 1 1 0 ⟨#[97, 98]⟩ none 0 0 [] 0 0 false 0 2 0 0 chk_ab' _ (by decide) (by decide) (HR.out.below HX.out.below) (hE.bars.below HX.out.below))
  rw [e1] at C1
  have C2 := Lib.hid (fun W (hW : Below w.heap.size w W) => Width_any 1 1 1 0 ⟨#[97, 98]⟩ none 0 0 0 0 false 2 0 0 chk_ab' W (by decide) (hE.bars.below hW))
  have C3 := Lib.hid (fun W (hW : Below w.heap.size w W) => Print_ok 1 1 1 0 ⟨#[97, 98]⟩ none 0 0 [] 0 0 false 2 0 0 chk_ab' W (by decide) (by decide) (HR.out.below hW) (hE.below hW) e2)
  rw [line_fixed] at C3
  unfold opV at C1 C2 C3
  clear hE e1 e2 HR HE
  go_enter Tryd.func12, Tryd.ntmps12
  go_wp2_with fail
  refine C1.out.mono ?_
  rintro e w1 ⟨rfl, hb1⟩
  have HX1 := Lib.hid (HX.out.step hb1)
  obtain ⟨d0, d1, d2, d3, d4, d5, d6, d7, d8⟩ := HX1.out.at_
  clear hb1
  go_wp2_with fail
  refine (C2.out _ HX1.out.below).mono ?_
  rintro e w2 ⟨rfl, hb2⟩
  have HX2 := Lib.hid (HX1.out.step hb2)
  clear hb2 d0 d1 d2 d3 d4 d5 d6 d7 d8
  obtain ⟨d0, d1, d2, d3, d4, d5, d6, d7, d8⟩ := HX2.out.at_
  go_wp2_with fail
  refine (C3.out _ HX2.out.below).mono ?_
  rintro e w3 ⟨rfl, hb3⟩
  have HX3 := Lib.hid (HX2.out.step hb3)
  clear hb3 d0 d1 d2 d3 d4 d5 d6 d7 d8
  go_wp2_with fail
  go_ret
  exact ⟨rfl, HX3.out.below⟩
set_option maxRecDepth 100000 in
set_option maxHeartbeats 4000000 in
theorem names_walk (w : World) (hE : EnvO w) : Calls Tryd.prog 4 #[] w fun e w' => e = .returned (.bool true) ∧ Below w.heap.size w w' := by
  have HE := Lib.hid hE
  clear hE
  go_enter Tryd.func4, Tryd.ntmps4
  go_wp2_with fail
  refine (opFixed_any _ HE.out).mono ?_
  rintro e w1 ⟨rfl, hb1⟩
  have HB := Lib.hid hb1
  clear hb1
  go_wp2_with fail
  go_ret
  exact ⟨rfl, HB.out⟩
end Go.Proofs.YtnippaaiopgnaaaDoor.O
