/- Splices, Hunks and Merge where a row is longer than 2048. -/
import Derived.Test.YtkidcleffllhbaaDoorDtHunks
import Derived.Test.YtkidcleffllhbaaDoorDtMerge
namespace Go.Proofs.YtkidcleffllhbaaDoor.Dt
open Go.RowKit Go.Proofs Go.Proofs.YtkidcleffllhbaaDoor.U Go.Proofs.YtkidcleffllhbaaDoor.Txt
set_option linter.unusedVariables false
set_option linter.unusedSimpArgs false

set_option maxRecDepth 100000 in
set_option maxHeartbeats 8000000 in
theorem Splices_long (S1 S2 : ByteArray) (a b : List Int) (w : World) (t1 : Text S1 a) (t2 : Text S2 b) (hs1 : a.length ≤ 1000000) (hs2 : b.length ≤ 1000000) (hl : 2048 < a.length ∨ 2048 < b.length) (hg : Bars w) :
    Calls Tryd.prog 9 #[.string S1, .string S2] w fun e w' => e = .returned (.tuple #[.slice none 0 0, .int .i64 14]) ∧ Below w.heap.size w w' := by
  have HT1 := Lib.hid t1
  have HT2 := Lib.hid t2
  have HG := Lib.hid hg
  clear t1 t2 hg
  have CT := Lib.hid (fun (W : World) (A : Option Addr) (c : Nat) (hc : CellsS W A [S1, S2]) (hg : Bars W) => texts_ok A c [S1, S2] W hc (by simp) (fun s hs => by
    rcases List.mem_cons.1 hs with rfl | hs
    · exact ⟨_, HT1.out⟩
    · rw [List.mem_singleton.1 hs]; exact ⟨_, HT2.out⟩) hg)
  go_enter Tryd.func9, Tryd.ntmps9
  go_wp2_with fail
  refine (CT.out _ _ _ (cells_two w S1 S2) (HG.out.below ((Below.refl _ _).alloc (Nat.le_refl _) _))).mono ?_
  rintro e w1 ⟨rfl, hb1⟩
  have HB1 := Lib.hid (((Below.refl w.heap.size w).alloc (Nat.le_refl _) _).trans (hb1.mono (by simp)))
  clear hb1 CT
  obtain ⟨c1, w2, hcv1, hcap1, hb2, hcl1⟩ := conv_to_runes S1 a HT1.out (by omega) w1
  have HB2 := Lib.hid (HB1.out.trans (hb2.mono HB1.out.size))
  obtain ⟨c2, w3, hcv2, hcap2, hb3, hcl2⟩ := conv_to_runes S2 b HT2.out (by omega) w2
  have HB3 := Lib.hid (HB2.out.trans (hb3.mono HB2.out.size))
  clear hb2 hb3 hcl1 hcl2
  generalize (⟨w1.heap.size, 0, none⟩ : Addr) = q1 at hcv1
  generalize (⟨w2.heap.size, 0, none⟩ : Addr) = q2 at hcv2
  by_cases h1 : 2048 < a.length
  · have l1 : (2048 : Int) < a.length := by omega
    go_wp2_with fail
    refine bodyPost_ret (results_tmp2 rfl _ _ _) rfl ?_
    exact ⟨rfl, HB3.out⟩
  · have l1 : (a.length : Int) ≤ 2048 := by omega
    have l2 : (2048 : Int) < b.length := by omega
    go_wp2_with fail
    refine bodyPost_ret (results_tmp2 rfl _ _ _) rfl ?_
    exact ⟨rfl, HB3.out⟩

set_option maxRecDepth 100000 in
set_option maxHeartbeats 8000000 in
theorem Hunks_long (S T : ByteArray) (r1 r2 : List Int) (ar : Nat) (w : World) (t1 : Text S r1) (t2 : Text T r2) (hs1 : S.size ≤ 1000000000) (hs2 : T.size ≤ 1000000000)
    (har : ar ≤ 1048576) (hl : 2048 < (linesB S).length ∨ 2048 < (linesB T).length) (hg : Bars w) (hm : MaxIn w) :
    Calls Tryd.prog 14 #[.string S, .string T, .int .i64 ar] w fun e w' => e = .returned (.tuple #[.slice none 0 0, .int .i64 14]) ∧ Below w.heap.size w w' := by
  have CT := Lib.hid (fun (W : World) (A : Option Addr) (c : Nat) (hc : CellsS W A [S, T]) (hg : Bars W) => texts_ok A c [S, T] W hc (by simp) (fun s hs => by
    rcases List.mem_cons.1 hs with rfl | hs
    · exact ⟨_, t1⟩
    · rw [List.mem_singleton.1 hs]; exact ⟨_, t2⟩) hg)
  have HG := Lib.hid hg
  have HM := Lib.hid hm
  clear t1 t2 hg hm
  go_enter Tryd.func14, Tryd.ntmps14
  go_wp2_with fail
  refine (CT.out _ _ _ (cells_two w S T) (HG.out.below ((Below.refl _ _).alloc (Nat.le_refl _) _))).mono ?_
  rintro e w1 ⟨rfl, hb1⟩
  have HB1 := Lib.hid (((Below.refl w.heap.size w).alloc (Nat.le_refl _) _).trans (hb1.mono (by simp)))
  clear hb1 CT
  have har0 : (0 : Int) ≤ ar := by omega
  have har1 : (ar : Int) ≤ 1048576 := by omega
  go_wp2_with fail
  refine (lines_any S _ (by omega) (HM.out.below HB1.out) (lines_len S)).mono ?_
  rintro e w2 ⟨A1, c1, rfl, k1, n1, hc1, hb2⟩
  have HB2 := Lib.hid (HB1.out.trans (hb2.mono HB1.out.size))
  clear hc1 hb2
  go_wp2_with fail
  refine (lines_any T _ (by omega) (HM.out.below HB2.out) (lines_len T)).mono ?_
  rintro e w3 ⟨A2, c2, rfl, k2, n2, hc2, hb3⟩
  have HB3 := Lib.hid (HB2.out.trans (hb3.mono HB2.out.size))
  clear hc2 hb3 HB1 HB2 hs1 hs2
  generalize (linesB S).length = x at hl k1 ⊢
  generalize (linesB T).length = y at hl k2 ⊢
  by_cases h1 : 2048 < x
  · have l1 : (2048 : Int) < x := by omega
    go_wp2_with fail
    refine bodyPost_ret (results_tmp2 rfl _ _ _) rfl ?_
    exact ⟨rfl, HB3.out⟩
  · have l1 : (x : Int) ≤ 2048 := by omega
    have l2 : (2048 : Int) < y := by omega
    go_wp2_with fail
    refine bodyPost_ret (results_tmp2 rfl _ _ _) rfl ?_
    exact ⟨rfl, HB3.out⟩

set_option maxRecDepth 100000 in
set_option maxHeartbeats 8000000 in
theorem Merge_long (S T U : ByteArray) (r1 r2 r3 : List Int) (w : World) (t1 : Text S r1) (t2 : Text T r2) (t3 : Text U r3) (hs1 : S.size ≤ 1000000) (hs2 : T.size ≤ 1000000) (hs3 : U.size ≤ 1000000)
    (hl : 2048 < (linesB S).length ∨ 2048 < (linesB T).length ∨ 2048 < (linesB U).length) (hg : Bars w) (hm : MaxIn w) :
    Calls Tryd.prog 12 #[.string S, .string T, .string U] w fun e w' => e = .returned (.tuple #[.string ⟨#[]⟩, .int .i64 0, .int .i64 14]) ∧ Below w.heap.size w w' := by
  have CT := Lib.hid (fun (W : World) (A : Option Addr) (c : Nat) (hc : CellsS W A [S, T, U]) (hg : Bars W) => texts_ok A c [S, T, U] W hc (by simp) (fun s hs => by
    rcases List.mem_cons.1 hs with rfl | hs
    · exact ⟨_, t1⟩
    · rcases List.mem_cons.1 hs with rfl | hs
      · exact ⟨_, t2⟩
      · rw [List.mem_singleton.1 hs]; exact ⟨_, t3⟩) hg)
  have HG := Lib.hid hg
  have HM := Lib.hid hm
  clear t1 t2 t3 hg hm
  go_enter Tryd.func12, Tryd.ntmps12
  go_wp2_with fail
  refine (CT.out _ _ _ (cells_three w S T U) (HG.out.below ((Below.refl _ _).alloc (Nat.le_refl _) _))).mono ?_
  rintro e w1 ⟨rfl, hb1⟩
  have HB1 := Lib.hid (((Below.refl w.heap.size w).alloc (Nat.le_refl _) _).trans (hb1.mono (by simp)))
  clear hb1 CT
  go_wp2_with fail
  refine (lines_any S _ (by omega) (HM.out.below HB1.out) (lines_len S)).mono ?_
  rintro e w2 ⟨A1, c1, rfl, k1, n1, hc1, hb2⟩
  have HB2 := Lib.hid (HB1.out.trans (hb2.mono HB1.out.size))
  clear hc1 hb2
  go_wp2_with fail
  refine (lines_any T _ (by omega) (HM.out.below HB2.out) (lines_len T)).mono ?_
  rintro e w3 ⟨A2, c2, rfl, k2, n2, hc2, hb3⟩
  have HB3 := Lib.hid (HB2.out.trans (hb3.mono HB2.out.size))
  clear hc2 hb3
  go_wp2_with fail
  refine (lines_any U _ (by omega) (HM.out.below HB3.out) (lines_len U)).mono ?_
  rintro e w4 ⟨A3, c3, rfl, k3, n3, hc3, hb4⟩
  have HB4 := Lib.hid (HB3.out.trans (hb4.mono HB3.out.size))
  clear hc3 hb4 HB1 HB2 HB3 hs1 hs2 hs3
  generalize (linesB S).length = x at hl k1 ⊢
  generalize (linesB T).length = y at hl k2 ⊢
  generalize (linesB U).length = z at hl k3 ⊢
  by_cases h1 : 2048 < x
  · have l1 : (2048 : Int) < x := by omega
    go_wp2_with fail
    refine bodyPost_ret (results_tmp3 rfl _ _ _) rfl ?_
    exact ⟨rfl, HB4.out⟩
  · have l1 : (x : Int) ≤ 2048 := by omega
    by_cases h2 : 2048 < y
    · have l2 : (2048 : Int) < y := by omega
      go_wp2_with fail
      refine bodyPost_ret (results_tmp3 rfl _ _ _) rfl ?_
      exact ⟨rfl, HB4.out⟩
    · have l2 : (y : Int) ≤ 2048 := by omega
      have l3 : (2048 : Int) < z := by omega
      go_wp2_with fail
      refine bodyPost_ret (results_tmp3 rfl _ _ _) rfl ?_
      exact ⟨rfl, HB4.out⟩
end Go.Proofs.YtkidcleffllhbaaDoor.Dt
