/- The plays of Splice and Diff, and UtextSplices. -/
import Derived.Test.YtfgekdefnbohbaaDoorRDiff
namespace Go.Proofs.YtfgekdefnbohbaaDoor.U
open Go.RowKit Go.Proofs.YtfgekdefnbohbaaDoor.Txt
set_option linter.unusedVariables false
set_option linter.unusedSimpArgs false
attribute [local go_sem] frozen?_alloc_cells

set_option maxRecDepth 100000 in
set_option maxHeartbeats 4000000 in
theorem cuts_splice (o : OpV) (ho : o.Small) (hk : o.kind = 5) (w : World) (hE : EnvU w) : Calls Tryd.prog 43 #[.agg #[.int .i64 o.kind, .string o.s, .string o.t, .int .i64 o.a, .int .i64 o.b]] w fun e w' => e = .returned (.bool true) ∧ Below w.heap.size w w' := by
  obtain ⟨k, S, T, a, b⟩ := o
  obtain rfl : k = 5 := hk
  simp only
  have hs : S.size ≤ 1048576 := ho.s
  have htt : T.size ≤ 1048576 := ho.t
  have ha0 : -9223372036854775808 ≤ a := ho.a0
  have ha1 : a ≤ 9223372036854775807 := ho.a1
  have hb0 : -9223372036854775808 ≤ b := ho.b0
  have hb1 : b ≤ 9223372036854775807 := ho.b1
  obtain ⟨rs, t, h⟩ := halves S
  obtain ⟨ri, ti, hi⟩ := halves T
  have H := Lib.hid h
  have HI := Lib.hid hi
  clear h hi
  obtain ⟨x, e, hp⟩ := splice_is rs t ri ti a b
  have HP := Lib.hid hp
  clear hp
  have HE := Lib.hid hE
  clear hE ho
  have HB0 := Lib.hid (show Below w.heap.size w (w.alloc (.cells #[.int .i64 5, .string S, .string T, .int .i64 a, .int .i64 b] 67)) from (Below.refl _ _).alloc (Nat.le_refl _) _)
  have hz := heap_alloc_new w (.cells #[.int .i64 5, .string S, .string T, .int .i64 a, .int .i64 b] 67)
  have d1 : (w.alloc (.cells #[.int .i64 5, .string S, .string T, .int .i64 a, .int .i64 b] 67)).cell? ⟨w.heap.size, 1, none⟩ = some (.string S) := by rw [Lib.cell_of_heap hz]; rfl
  have d2 : (w.alloc (.cells #[.int .i64 5, .string S, .string T, .int .i64 a, .int .i64 b] 67)).cell? ⟨w.heap.size, 2, none⟩ = some (.string T) := by rw [Lib.cell_of_heap hz]; rfl
  have d3 : (w.alloc (.cells #[.int .i64 5, .string S, .string T, .int .i64 a, .int .i64 b] 67)).cell? ⟨w.heap.size, 3, none⟩ = some (.int .i64 a) := by rw [Lib.cell_of_heap hz]; rfl
  have d4 : (w.alloc (.cells #[.int .i64 5, .string S, .string T, .int .i64 a, .int .i64 b] 67)).cell? ⟨w.heap.size, 4, none⟩ = some (.int .i64 b) := by rw [Lib.cell_of_heap hz]; rfl
  have HD := Lib.hid (And.intro d1 (And.intro d2 (And.intro d3 d4)))
  clear hz d1 d2 d3 d4
  go_enter Tryd.func43, Tryd.ntmps43
  go_wp2_with fail
  refine (Splice_is S T rs t ri ti a b x e _ H.out HI.out hs htt ha0 ha1 HP.out (HE.out.below HB0.out).bars).mono ?_
  rintro e' w1 ⟨rfl, hw1⟩
  have HB1 := Lib.hid (HB0.out.trans (hw1.mono HB0.out.size))
  have d1 := cell_below hw1 HD.out.1
  have d2 := cell_below hw1 HD.out.2.1
  have d3 := cell_below hw1 HD.out.2.2.1
  have d4 := cell_below hw1 HD.out.2.2.2
  clear hw1
  go_wp2_with fail
  refine (RefSplice_is S T rs t ri ti a b x e _ H.out HI.out hs htt ha0 ha1 HP.out).mono ?_
  rintro e' w2 ⟨rfl, hw2⟩
  have HB2 := Lib.hid (HB1.out.trans (hw2.mono HB1.out.size))
  clear hw2 d1 d2 d3 d4
  go_wp2_with fail
  go_ret
  exact ⟨rfl, HB2.out⟩

set_option maxRecDepth 100000 in
set_option maxHeartbeats 4000000 in
theorem cuts_diff (o : OpV) (ho : o.Small) (hk : o.kind = 6) (w : World) (hE : EnvU w) : Calls Tryd.prog 43 #[.agg #[.int .i64 o.kind, .string o.s, .string o.t, .int .i64 o.a, .int .i64 o.b]] w fun e w' => e = .returned (.bool true) ∧ Below w.heap.size w w' := by
  obtain ⟨k, S, T, a, b⟩ := o
  obtain rfl : k = 6 := hk
  simp only
  have hs : S.size ≤ 1048576 := ho.s
  have htt : T.size ≤ 1048576 := ho.t
  have ha0 : -9223372036854775808 ≤ a := ho.a0
  have ha1 : a ≤ 9223372036854775807 := ho.a1
  have hb0 : -9223372036854775808 ≤ b := ho.b0
  have hb1 : b ≤ 9223372036854775807 := ho.b1
  obtain ⟨rs, t, h⟩ := halves S
  obtain ⟨ri, ti, hi⟩ := halves T
  have H := Lib.hid h
  have HI := Lib.hid hi
  clear h hi
  have HE := Lib.hid hE
  clear hE ho
  have HB0 := Lib.hid (show Below w.heap.size w (w.alloc (.cells #[.int .i64 6, .string S, .string T, .int .i64 a, .int .i64 b] 67)) from (Below.refl _ _).alloc (Nat.le_refl _) _)
  have hz := heap_alloc_new w (.cells #[.int .i64 6, .string S, .string T, .int .i64 a, .int .i64 b] 67)
  have d1 : (w.alloc (.cells #[.int .i64 6, .string S, .string T, .int .i64 a, .int .i64 b] 67)).cell? ⟨w.heap.size, 1, none⟩ = some (.string S) := by rw [Lib.cell_of_heap hz]; rfl
  have d2 : (w.alloc (.cells #[.int .i64 6, .string S, .string T, .int .i64 a, .int .i64 b] 67)).cell? ⟨w.heap.size, 2, none⟩ = some (.string T) := by rw [Lib.cell_of_heap hz]; rfl
  have d3 : (w.alloc (.cells #[.int .i64 6, .string S, .string T, .int .i64 a, .int .i64 b] 67)).cell? ⟨w.heap.size, 3, none⟩ = some (.int .i64 a) := by rw [Lib.cell_of_heap hz]; rfl
  have d4 : (w.alloc (.cells #[.int .i64 6, .string S, .string T, .int .i64 a, .int .i64 b] 67)).cell? ⟨w.heap.size, 4, none⟩ = some (.int .i64 b) := by rw [Lib.cell_of_heap hz]; rfl
  have HD := Lib.hid (And.intro d1 (And.intro d2 (And.intro d3 d4)))
  clear hz d1 d2 d3 d4
  go_enter Tryd.func43, Tryd.ntmps43
  go_wp2_with fail
  refine (Diff_is S T rs t ri ti _ H.out HI.out hs htt (HE.out.below HB0.out).bars).mono ?_
  rintro e' w1 ⟨hp, hw1⟩
  obtain ⟨x1, x2, x3, x4, rfl, hu⟩ := diff_pair hp
  have HU := Lib.hid hu
  clear hp hu
  have HB1 := Lib.hid (HB0.out.trans (hw1.mono HB0.out.size))
  have d1 := cell_below hw1 HD.out.1
  have d2 := cell_below hw1 HD.out.2.1
  have d3 := cell_below hw1 HD.out.2.2.1
  have d4 := cell_below hw1 HD.out.2.2.2
  clear hw1
  go_wp2_with fail
  refine (RefDiff_is S T rs t ri ti _ H.out HI.out hs htt).mono ?_
  rintro e' w2 ⟨hp2, hw2⟩
  obtain rfl := HU.out _ hp2
  clear hp2
  have HB2 := Lib.hid (HB1.out.trans (hw2.mono HB1.out.size))
  clear hw2 d1 d2 d3 d4
  go_wp2_with fail
  go_ret
  exact ⟨rfl, HB2.out⟩

set_option maxRecDepth 100000 in
set_option maxHeartbeats 4000000 in
theorem plays_splice (o : OpV) (ho : o.Small) (hk : o.kind = 5) : PlaysWell o := by
  intro w hE
  have HI := Lib.hid (fun W hW => cuts_splice o ho hk W hW)
  obtain ⟨k, S, T, a, b⟩ := o
  obtain rfl : k = 5 := hk
  simp only at HI ⊢
  have HE := Lib.hid hE
  clear hE ho
  have HB0 := Lib.hid (show Below w.heap.size w (w.alloc (.cells #[.int .i64 5, .string S, .string T, .int .i64 a, .int .i64 b] 67)) from (Below.refl _ _).alloc (Nat.le_refl _) _)
  go_enter Tryd.func32, Tryd.ntmps32
  go_wp2_with fail
  refine (HI.out _ (HE.out.below HB0.out)).mono ?_
  rintro e' w1 ⟨rfl, hw1⟩
  have HB1 := Lib.hid (HB0.out.trans (hw1.mono HB0.out.size))
  clear hw1
  go_wp2_with fail
  go_ret
  exact ⟨rfl, HB1.out⟩

set_option maxRecDepth 100000 in
set_option maxHeartbeats 4000000 in
theorem plays_diff (o : OpV) (ho : o.Small) (hk : o.kind = 6) : PlaysWell o := by
  intro w hE
  have HI := Lib.hid (fun W hW => cuts_diff o ho hk W hW)
  obtain ⟨k, S, T, a, b⟩ := o
  obtain rfl : k = 6 := hk
  simp only at HI ⊢
  have HE := Lib.hid hE
  clear hE ho
  have HB0 := Lib.hid (show Below w.heap.size w (w.alloc (.cells #[.int .i64 6, .string S, .string T, .int .i64 a, .int .i64 b] 67)) from (Below.refl _ _).alloc (Nat.le_refl _) _)
  go_enter Tryd.func32, Tryd.ntmps32
  go_wp2_with fail
  refine (HI.out _ (HE.out.below HB0.out)).mono ?_
  rintro e' w1 ⟨rfl, hw1⟩
  have HB1 := Lib.hid (HB0.out.trans (hw1.mono HB0.out.size))
  clear hw1
  go_wp2_with fail
  go_ret
  exact ⟨rfl, HB1.out⟩

theorem splices_walk (w : World) (A : Option Addr) (c : Nat) (os : List OpV) (hS : Script w A os) (hn : os.length ≤ 1048576) (hsm : ∀ o ∈ os, o.Small) (hE : EnvU w) :
    Calls Tryd.prog 8 #[.slice A os.length c] w fun e w' => e = .returned (.bool true) ∧ Below w.heap.size w w' := by
  have HK := Lib.hid (kinds_any A c os 5 6 w hS hn hE fun o ho h1 h2 => by
    have hs := hsm o ho
    have : o.kind = 5 ∨ o.kind = 6 := by omega
    rcases this with h | h
    · exact plays_splice o hs h
    · exact plays_diff o hs h)
  clear hS hsm hE
  go_enter Tryd.func8, Tryd.ntmps8
  go_wp2_with fail
  refine HK.out.mono ?_
  rintro e w1 ⟨rfl, hb⟩
  have HB := Lib.hid hb
  clear hb
  go_wp2_with fail
  go_ret
  exact ⟨rfl, HB.out⟩
end Go.Proofs.YtfgekdefnbohbaaDoor.U
