/- DeltaNames answers true. -/
import Derived.Test.YtkidcleffllhbaaDoorDtFill
namespace Go.Proofs.YtkidcleffllhbaaDoor.Dt
open Go.RowKit Go.Proofs Go.Proofs.YtkidcleffllhbaaDoor.U Go.Proofs.YtkidcleffllhbaaDoor.Txt
set_option linter.unusedVariables false
set_option linter.unusedSimpArgs false

set_option maxRecDepth 100000 in
set_option maxHeartbeats 8000000 in
theorem fixed_any (w : World) (hg : Bars w) (hm : MaxIn w) :
    Calls Tryd.prog 13 #[] w fun e w' => e = .returned (.bool true) ∧ Below w.heap.size w w' := by
  have HG := Lib.hid hg
  have HM := Lib.hid hm
  have H1 := Lib.hid (Splices_any ⟨#[97, 98, 99, 97, 98, 98, 97]⟩ ⟨#[99, 98, 97, 98, 97, 99]⟩ _ _ w text_old text_new (by decide) (by decide) hg)
  have HSM := Lib.hid (splL_small (a := [97, 98, 99, 97, 98, 98, 97]) (b := [99, 98, 97, 98, 97, 99]) (by decide) (by decide) text_new.ok)
  obtain ⟨l1, l2⟩ := names_splices
  generalize splL [97, 98, 99, 97, 98, 98, 97] [99, 98, 97, 98, 97, 99] = L at *
  clear hg hm
  go_enter Tryd.func13, Tryd.ntmps13
  go_wp2_with fail
  refine H1.out.mono ?_
  rintro e w1 ⟨v, rfl, ho, hb1⟩
  have HB1 := Lib.hid hb1
  have HC := Lib.hid (Cost_any v L w.heap.size w1 ho HSM.out (HG.out.below hb1))
  rw [l2] at HC
  rw [l1] at ho
  obtain ⟨A, c, rfl⟩ := own_shape ho
  clear ho hb1 H1
  go_wp2_with fail
  refine HC.out.mono ?_
  rintro e w2 ⟨rfl, hb2⟩
  have HB2 := Lib.hid (HB1.out.trans (hb2.mono HB1.out.size))
  clear hb2 HC
  go_wp2_with fail
  refine (Hunks_any ⟨#[97]⟩ ⟨#[98]⟩ _ _ 0 w2 text_a text_b (by decide) (by decide) (by decide) (by rw [lines_a]; decide) (by rw [lines_b]; decide) (HG.out.below HB2.out) (HM.out.below HB2.out)).mono ?_
  rintro e w3 ⟨v3, P, rfl, hp, ho3, _, hb3⟩
  have HB3 := Lib.hid (HB2.out.trans (hb3.mono HB2.out.size))
  have hpl : P.length = 1 := by rw [← List.length_map (f := HP.h), hp, names_hunks]
  rw [hpl] at ho3
  obtain ⟨A3, c3, rfl⟩ := own_shape ho3
  clear hp ho3 hb3 hpl
  go_wp2_with fail
  go_ret
  exact ⟨rfl, HB3.out⟩

set_option maxRecDepth 100000 in
set_option maxHeartbeats 8000000 in
theorem names_walk (w : World) (hg : Bars w) (hm : MaxIn w) :
    Calls Tryd.prog 5 #[] w fun e w' => e = .returned (.bool true) ∧ Below w.heap.size w w' := by
  have HG := Lib.hid hg
  have HM := Lib.hid hm
  have HF := Lib.hid (fixed_any w hg hm)
  clear hg hm
  have hr := mk_runes 2048 (by decide)
  have hf := mk_bytes 2047 (by decide)
  rw [show ((2048 : Nat) : Int) = 2048 from rfl] at hr
  rw [show ((2047 : Nat) : Int) = 2047 from rfl] at hf
  go_enter Tryd.func5, Tryd.ntmps5
  go_wp2_with fail
  refine HF.out.mono ?_
  rintro e w1 ⟨rfl, hb1⟩
  have HB1 := Lib.hid hb1
  clear hb1 HF
  go_wp2_with fail
  clear hr hf
  go_loopw [4] (fun i wr => ∃ k : Nat, i = .int .i64 k ∧ k ≤ 2048 ∧ Fill w1 wr k (min k 2047)) (fun i _ => 2048 - (intOf i).toNat)
  case atStart => exact ⟨0, rfl, Nat.zero_le _, Fill.new w1⟩
  case round =>
    obtain ⟨k, rfl, hk, hF⟩ := hrel
    have HFL := Lib.hid hF
    clear hF
    by_cases h1 : k < 2048
    · have hki : (k : Int) < 2048 := by omega
      have fr := HFL.out.frozenR k
      have cr := HFL.out.cellR h1
      by_cases h2 : k < 2047
      · have hkj : (k : Int) < 2047 := by omega
        rw [Nat.min_eq_left (by omega)] at HFL
        have HR := Lib.hid (HFL.out.rune h1)
        have HE := Lib.hid (HR.out.feed h2)
        have ff := HR.out.frozenF k
        have cf := HR.out.cellF h2
        go_wp2_with fail
        go_roundw
        case rel => exact ⟨k + 1, by go_num, by omega, by rw [Nat.min_eq_left (by omega)]; exact HE.out⟩
        case measure => simp [intOf]; omega
      · obtain rfl : k = 2047 := by omega
        have HR := Lib.hid (HFL.out.rune h1)
        go_wp2_with fail
        go_roundw
        case rel => exact ⟨2048, by go_num, by omega, HR.out⟩
        case measure => simp [intOf]
    · obtain rfl : k = 2048 := by omega
      have HFE : Fill w1 wr 2048 2047 := HFL.out
      have c1 := HFE.runes
      have c2 := HFE.feeds
      have HB2 := Lib.hid (HB1.out.trans (HFE.below.mono HB1.out.size))
      have TS := Lib.hid (big_text 2048 (by decide))
      have TY := Lib.hid (big_y 2048 (by decide))
      have TF := Lib.hid (feeds_text 2047 (by decide))
      have TG := Lib.hid (feeds_text 2048 (by decide))
      have hfs : feeds 2047 ++ ⟨#[10]⟩ = feeds 2048 := feeds_snoc 2047
      have LS := Lib.hid (show (List.replicate 2048 (233 : Int)).length = 2048 from List.length_replicate)
      have LY := Lib.hid (show (List.replicate 2048 (233 : Int) ++ [121]).length = 2049 by rw [List.length_append, List.length_replicate]; rfl)
      have LF := Lib.hid (feeds_lines 2047)
      have LG := Lib.hid (feeds_lines 2048)
      have ZF := Lib.hid (feeds_size 2047)
      have ZG := Lib.hid (feeds_size 2048)
      generalize feeds 2048 = G at *
      generalize feeds 2047 = F at *
      generalize Str (List.replicate 2048 233) = S at *
      generalize List.replicate 2048 (233 : Int) = a at *
      have qs : ∀ W : World, (Op.stringOp .add S ⟨#[121]⟩).run Tryd.prog W = .ok (.string (S ++ ⟨#[121]⟩)) W := fun W => run_string_add_sum W S ⟨#[121]⟩ (by have := TS.out.size; show S.size + 1 ≤ _; omega)
      have qf : ∀ W : World, (Op.stringOp .add F ⟨#[10]⟩).run Tryd.prog W = .ok (.string G) W := fun W => by
        rw [← hfs]; exact run_string_add_sum W F ⟨#[10]⟩ (by have := ZF.out; show F.size + 1 ≤ _; omega)
      clear HFE HFL hfs
      go_wp2_with fail
      go_quiet (fail)
      have HB2 := Lib.hid (pw_below HB2.out nq)
      go_wp2_with fail
      refine (Splices_any S ⟨#[120]⟩ a [120] _ TS.out text_x (by rw [LS.out]; omega) (by decide) (HG.out.below HB2.out)).mono ?_
      rintro e w3 ⟨v1, rfl, _, hb⟩
      have HB3 := Lib.hid (HB2.out.trans (hb.mono HB2.out.size))
      clear hb
      go_wp2_with fail
      refine (Splices_long (S ++ ⟨#[121]⟩) ⟨#[120]⟩ (a ++ [121]) [120] _ TY.out text_x (by rw [LY.out]; omega) (by decide) (by rw [LY.out]; omega) (HG.out.below HB3.out)).mono ?_
      rintro e w4 ⟨rfl, hb⟩
      have HB4 := Lib.hid (HB3.out.trans (hb.mono HB3.out.size))
      clear hb
      go_wp2_with fail
      refine (Splices_long ⟨#[120]⟩ (S ++ ⟨#[121]⟩) [120] (a ++ [121]) _ text_x TY.out (by decide) (by rw [LY.out]; omega) (by rw [LY.out]; omega) (HG.out.below HB4.out)).mono ?_
      rintro e w5 ⟨rfl, hb⟩
      have HB5 := Lib.hid (HB4.out.trans (hb.mono HB4.out.size))
      clear hb
      go_wp2_with fail
      refine (Hunks_any F ⟨#[120]⟩ _ _ 1 _ TF.out text_x (by rw [ZF.out]; omega) (by decide) (by decide) (by rw [LF.out]; omega) (by rw [lines_x]; omega) (HG.out.below HB5.out) (HM.out.below HB5.out)).mono ?_
      rintro e w6 ⟨v2, P, rfl, _, _, _, hb⟩
      have HB6 := Lib.hid (HB5.out.trans (hb.mono HB5.out.size))
      clear hb
      go_wp2_with fail
      refine (Hunks_long G ⟨#[120]⟩ _ _ 1 _ TG.out text_x (by rw [ZG.out]; omega) (by decide) (by decide) (by rw [LG.out]; omega) (HG.out.below HB6.out) (HM.out.below HB6.out)).mono ?_
      rintro e w7 ⟨rfl, hb⟩
      have HB7 := Lib.hid (HB6.out.trans (hb.mono HB6.out.size))
      clear hb
      go_wp2_with fail
      refine (Hunks_long ⟨#[120]⟩ G _ _ 1 _ text_x TG.out (by decide) (by rw [ZG.out]; omega) (by decide) (by rw [LG.out]; omega) (HG.out.below HB7.out) (HM.out.below HB7.out)).mono ?_
      rintro e w8 ⟨rfl, hb⟩
      have HB8 := Lib.hid (HB7.out.trans (hb.mono HB7.out.size))
      clear hb
      go_wp2_with fail
      refine (Merge_any F ⟨#[120]⟩ F _ _ _ _ TF.out text_x TF.out (by rw [ZF.out]; omega) (by decide) (by rw [ZF.out]; omega) (by rw [LF.out]; omega) (by rw [lines_x]; omega) (by rw [LF.out]; omega) (HG.out.below HB8.out) (HM.out.below HB8.out)).mono ?_
      rintro e w9 ⟨rfl, hb⟩
      have HB9 := Lib.hid (HB8.out.trans (hb.mono HB8.out.size))
      clear hb
      generalize mergeL Q1 Q2 Q3 Q4 (linesB F) (linesB ⟨#[120]⟩) (linesB F) = MR
      go_wp2_with fail
      refine (Merge_long ⟨#[120]⟩ ⟨#[120]⟩ G _ _ _ _ text_x text_x TG.out (by decide) (by decide) (by rw [ZG.out]; omega) (by rw [LG.out]; omega) (HG.out.below HB9.out) (HM.out.below HB9.out)).mono ?_
      rintro e w10 ⟨rfl, hb⟩
      have HB10 := Lib.hid (HB9.out.trans (hb.mono HB9.out.size))
      clear hb
      go_wp2_with fail
      go_ret
      exact ⟨rfl, HB10.out⟩
end Go.Proofs.YtkidcleffllhbaaDoor.Dt
