/- DeltaMeets answers true. -/
import Derived.Test.YtkidcleffllhbaaDoorDtMerge
import Derived.Test.YtkidcleffllhbaaDoorDtCase
namespace Go.Proofs.YtkidcleffllhbaaDoor.Dt
open Go.RowKit Go.Proofs Go.Proofs.YtkidcleffllhbaaDoor.U Go.Proofs.YtkidcleffllhbaaDoor.Txt
set_option linter.unusedVariables false
set_option linter.unusedSimpArgs false

/-- A text of the law's, small enough for Merge. -/
structure Sm (S : ByteArray) (rs : List Int) : Prop where
  text : Text S rs
  size : S.size ≤ 1000000
  lines : (linesB S).length ≤ 2048
theorem sm_of {rs : List Int} (h : ∀ r ∈ rs, TxtRune r) (hl : rs.length ≤ 380) : Sm (Str rs) rs := by
  have h1 := enc_len_le rs
  have h2 : (Str rs).size ≤ 1520 := by rw [str_size]; omega
  refine ⟨text_str h (by omega), by omega, ?_⟩
  rw [lines_len]
  have := Lib.countB_le ⟨#[10]⟩ (by decide) _ (Str rs) (Nat.le_refl _)
  omega
theorem merge_at {S T U : ByteArray} {r1 r2 r3 : List Int} (w : World) (h1 : Sm S r1) (h2 : Sm T r2) (h3 : Sm U r3) (hg : Bars w) (hm : MaxIn w) :
    Calls Tryd.prog 12 #[.string S, .string T, .string U] w fun e w' => e = .returned (.tuple #[.string (joinB (mergeL Q1 Q2 Q3 Q4 (linesB S) (linesB T) (linesB U)).1), .int .i64 (mergeL Q1 Q2 Q3 Q4 (linesB S) (linesB T) (linesB U)).2, .int .i64 0]) ∧ Below w.heap.size w w' :=
  Merge_any S T U r1 r2 r3 w h1.text h2.text h3.text h1.size h2.size h3.size h1.lines h2.lines h3.lines hg hm
set_option maxRecDepth 100000 in
set_option maxHeartbeats 8000000 in
theorem meets_walk (v : Value) (A1 : Option Addr) (n1 c1 : Nat) (xs : List Int) (A2 : Option Addr) (n2 c2 : Nat) (A3 : Option Addr) (n3 c3 : Nat) (ar : Int) (w : World) (h : CaseIn w v A1 n1 c1 xs A2 n2 c2 A3 n3 c3 ar) (hg : Bars w) (hm : MaxIn w) :
    Calls Tryd.prog 4 #[v] w fun e w' => e = .returned (.bool true) ∧ Below w.heap.size w w' := by
  obtain ⟨rfl, r1, r2, r3⟩ := h
  have HG := Lib.hid hg
  have HM := Lib.hid hm
  obtain ⟨w0, hw0⟩ : ∃ w0, w.alloc (.cells #[.slice A1 n1 c1, .slice A2 n2 c2, .slice A3 n3 c3, .int .i64 ar] 25) = w0 := ⟨_, rfl⟩
  have hx := heap_alloc_new w (.cells #[.slice A1 n1 c1, .slice A2 n2 c2, .slice A3 n3 c3, .int .i64 ar] 25)
  have hb0 : Below w.heap.size w w0 := by rw [← hw0]; exact (Below.refl _ _).alloc (Nat.le_refl _) _
  rw [hw0] at hx
  have HW0 := Lib.hid hw0
  have HB0 := Lib.hid hb0
  have HCASE := Lib.hid (caseTexts_any _ A1 n1 c1 xs A2 n2 c2 A3 n3 c3 ar w0 ⟨rfl, r1.below hb0, r2.below hb0, r3.below hb0⟩)
  have x0 : w0.cell? ⟨w.heap.size, 0, none⟩ = some (.slice A1 n1 c1) := by rw [Lib.cell_of_heap hx]; rfl
  have x1 : w0.cell? ⟨w.heap.size, 1, none⟩ = some (.slice A2 n2 c2) := by rw [Lib.cell_of_heap hx]; rfl
  have x2 : w0.cell? ⟨w.heap.size, 2, none⟩ = some (.slice A3 n3 c3) := by rw [Lib.cell_of_heap hx]; rfl
  have x3 : w0.cell? ⟨w.heap.size, 3, none⟩ = some (.int .i64 ar) := by rw [Lib.cell_of_heap hx]; rfl
  clear hw0 hb0 hx r1 r2 r3 hg hm
  go_enter Tryd.func4, Tryd.ntmps4
  go_upto_region 1 with fail
  rw [HW0.out]
  go_wp2_with fail
  refine HCASE.out.mono ?_
  rintro e w1 ⟨b, m, t, q, rfl, hto, hb1⟩
  have HB1 := Lib.hid (HB0.out.trans (hb1.mono HB0.out.size))
  have HSB := Lib.hid (sm_of hto.hb.1 hto.hb.2)
  have HSM := Lib.hid (sm_of hto.hm.1 hto.hm.2)
  have HST := Lib.hid (sm_of hto.ht.1 hto.ht.2)
  generalize Str b = S at HSB ⊢
  generalize Str m = T at HSM ⊢
  generalize Str t = U at HST ⊢
  clear hto hb1 x0 x1 x2 x3 HCASE HW0
  have hu : (U.toList == U.toList) = true := by simp
  have htt : (T.toList == T.toList) = true := by simp
  go_wp2_with fail
  refine (merge_at _ HSB.out HSB.out HST.out (HG.out.below HB1.out) (HM.out.below HB1.out)).mono ?_
  rintro e w2 ⟨rfl, hb2⟩
  rw [merge_left, join_lines]
  have HB2 := Lib.hid (HB1.out.trans (hb2.mono HB1.out.size))
  clear hb2
  go_wp2_with fail
  refine (merge_at _ HSB.out HSM.out HSB.out (HG.out.below HB2.out) (HM.out.below HB2.out)).mono ?_
  rintro e w3 ⟨rfl, hb3⟩
  rw [merge_right, join_lines]
  have HB3 := Lib.hid (HB2.out.trans (hb3.mono HB2.out.size))
  clear hb3
  go_wp2_with fail
  refine (merge_at _ HSB.out HSM.out HSM.out (HG.out.below HB3.out) (HM.out.below HB3.out)).mono ?_
  rintro e w4 ⟨rfl, hb4⟩
  rw [merge_both, join_lines]
  have HB4 := Lib.hid (HB3.out.trans (hb4.mono HB3.out.size))
  clear hb4
  go_wp2_with fail
  refine (merge_at _ HSB.out HSM.out HST.out (HG.out.below HB4.out) (HM.out.below HB4.out)).mono ?_
  rintro e w5 ⟨rfl, hb5⟩
  have HB5 := Lib.hid (HB4.out.trans (hb5.mono HB4.out.size))
  clear hb5
  obtain ⟨s1, s2⟩ := merge_sym Q1 Q2 Q3 Q4 (linesB S) (linesB T) (linesB U)
  have HS1 := Lib.hid s1
  have HS2 := Lib.hid s2
  clear s1 s2
  go_wp2_with fail
  refine (merge_at _ HSB.out HST.out HSM.out (HG.out.below HB5.out) (HM.out.below HB5.out)).mono ?_
  rintro e w6 ⟨rfl, hb6⟩
  have HB6 := Lib.hid (HB5.out.trans (hb6.mono HB5.out.size))
  clear hb6
  rw [← HS1.out]
  have hS2 := HS2.out
  generalize mergeL Q1 Q2 Q3 Q4 (linesB S) (linesB T) (linesB U) = P at hS2 ⊢
  generalize mergeL Q1 Q2 Q3 Q4 (linesB S) (linesB U) (linesB T) = Q at hS2 ⊢
  obtain ⟨l1, n⟩ := P
  obtain ⟨l2, n'⟩ := Q
  simp only at hS2 ⊢
  clear HS1 HS2
  have hnn : ((n : Int) == n) = true := by simp
  have hn0 : (0 : Int) ≤ n := by omega
  by_cases h0 : n = 0
  · have hxy := hS2 h0
    subst hxy h0
    generalize joinB l1 = X
    have hx : (X.toList == X.toList) = true := by simp
    go_wp2_with fail
    go_ret
    exact ⟨rfl, HB6.out⟩
  · have hp : (0 : Int) < n := by omega
    have hp2 : decide ((n : Int) > 0) = true := by simp; omega
    clear hS2
    go_wp2_with fail
    go_ret
    exact ⟨rfl, HB6.out⟩
end Go.Proofs.YtkidcleffllhbaaDoor.Dt
