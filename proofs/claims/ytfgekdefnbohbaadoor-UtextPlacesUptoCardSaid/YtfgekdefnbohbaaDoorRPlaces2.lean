/- The plays of Place, Index and Slice, and UtextPlaces. -/
import Derived.Test.YtfgekdefnbohbaaDoorRSlices
namespace Go.Proofs.YtfgekdefnbohbaaDoor.U
open Go.RowKit Go.Proofs.YtfgekdefnbohbaaDoor.Txt
set_option linter.unusedVariables false
set_option linter.unusedSimpArgs false
attribute [local go_sem] frozen?_alloc_cells

set_option maxRecDepth 100000 in
set_option maxHeartbeats 4000000 in
theorem plays_place (o : OpV) (ho : o.Small) (hk : o.kind = 2) : PlaysWell o := by
  obtain ⟨k, S, T, a, b⟩ := o
  obtain rfl : k = 2 := hk
  intro w hE
  have hs : S.size ≤ 1048576 := ho.s
  have htt : T.size ≤ 1048576 := ho.t
  have ha0 : -9223372036854775808 ≤ a := ho.a0
  have ha1 : a ≤ 9223372036854775807 := ho.a1
  have hb0 : -9223372036854775808 ≤ b := ho.b0
  have hb1 : b ≤ 9223372036854775807 := ho.b1
  obtain ⟨rs, t, h⟩ := halves S
  obtain ⟨x, e, hp⟩ := place_is rs t a
  have H := Lib.hid h
  have HP := Lib.hid hp
  clear h hp
  have HE := Lib.hid hE
  clear hE ho
  have HB0 := Lib.hid (show Below w.heap.size w (w.alloc (.cells #[.int .i64 2, .string S, .string T, .int .i64 a, .int .i64 b] 67)) from (Below.refl _ _).alloc (Nat.le_refl _) _)
  have hz := heap_alloc_new w (.cells #[.int .i64 2, .string S, .string T, .int .i64 a, .int .i64 b] 67)
  have d1 : (w.alloc (.cells #[.int .i64 2, .string S, .string T, .int .i64 a, .int .i64 b] 67)).cell? ⟨w.heap.size, 1, none⟩ = some (.string S) := by rw [Lib.cell_of_heap hz]; rfl
  have d2 : (w.alloc (.cells #[.int .i64 2, .string S, .string T, .int .i64 a, .int .i64 b] 67)).cell? ⟨w.heap.size, 2, none⟩ = some (.string T) := by rw [Lib.cell_of_heap hz]; rfl
  have d3 : (w.alloc (.cells #[.int .i64 2, .string S, .string T, .int .i64 a, .int .i64 b] 67)).cell? ⟨w.heap.size, 3, none⟩ = some (.int .i64 a) := by rw [Lib.cell_of_heap hz]; rfl
  have d4 : (w.alloc (.cells #[.int .i64 2, .string S, .string T, .int .i64 a, .int .i64 b] 67)).cell? ⟨w.heap.size, 4, none⟩ = some (.int .i64 b) := by rw [Lib.cell_of_heap hz]; rfl
  have HD := Lib.hid (And.intro d1 (And.intro d2 (And.intro d3 d4)))
  clear hz d1 d2 d3 d4
  go_enter Tryd.func32, Tryd.ntmps32
  go_wp2_with fail
  refine (Place_is S rs t a x e _ H.out hs ha0 ha1 HP.out (HE.out.below HB0.out).bars).mono ?_
  rintro e' w1 ⟨rfl, hw1⟩
  have HB1 := Lib.hid (HB0.out.trans (hw1.mono HB0.out.size))
  have d1 := cell_below hw1 HD.out.1
  have d2 := cell_below hw1 HD.out.2.1
  have d3 := cell_below hw1 HD.out.2.2.1
  have d4 := cell_below hw1 HD.out.2.2.2
  clear hw1
  go_wp2_with fail
  refine (RefPlace_is S rs t a x e _ H.out hs ha0 ha1 HP.out).mono ?_
  rintro e' w2 ⟨rfl, hw2⟩
  have HB2 := Lib.hid (HB1.out.trans (hw2.mono HB1.out.size))
  clear hw2 d1 d2 d3 d4
  go_wp2_with fail
  go_ret
  exact ⟨rfl, HB2.out⟩

set_option maxRecDepth 100000 in
set_option maxHeartbeats 4000000 in
theorem plays_index (o : OpV) (ho : o.Small) (hk : o.kind = 3) : PlaysWell o := by
  obtain ⟨k, S, T, a, b⟩ := o
  obtain rfl : k = 3 := hk
  intro w hE
  have hs : S.size ≤ 1048576 := ho.s
  have htt : T.size ≤ 1048576 := ho.t
  have ha0 : -9223372036854775808 ≤ a := ho.a0
  have ha1 : a ≤ 9223372036854775807 := ho.a1
  have hb0 : -9223372036854775808 ≤ b := ho.b0
  have hb1 : b ≤ 9223372036854775807 := ho.b1
  obtain ⟨rs, t, h⟩ := halves S
  obtain ⟨x, e, hp⟩ := index_is rs t a
  have H := Lib.hid h
  have HP := Lib.hid hp
  clear h hp
  have HE := Lib.hid hE
  clear hE ho
  have HB0 := Lib.hid (show Below w.heap.size w (w.alloc (.cells #[.int .i64 3, .string S, .string T, .int .i64 a, .int .i64 b] 67)) from (Below.refl _ _).alloc (Nat.le_refl _) _)
  have hz := heap_alloc_new w (.cells #[.int .i64 3, .string S, .string T, .int .i64 a, .int .i64 b] 67)
  have d1 : (w.alloc (.cells #[.int .i64 3, .string S, .string T, .int .i64 a, .int .i64 b] 67)).cell? ⟨w.heap.size, 1, none⟩ = some (.string S) := by rw [Lib.cell_of_heap hz]; rfl
  have d2 : (w.alloc (.cells #[.int .i64 3, .string S, .string T, .int .i64 a, .int .i64 b] 67)).cell? ⟨w.heap.size, 2, none⟩ = some (.string T) := by rw [Lib.cell_of_heap hz]; rfl
  have d3 : (w.alloc (.cells #[.int .i64 3, .string S, .string T, .int .i64 a, .int .i64 b] 67)).cell? ⟨w.heap.size, 3, none⟩ = some (.int .i64 a) := by rw [Lib.cell_of_heap hz]; rfl
  have d4 : (w.alloc (.cells #[.int .i64 3, .string S, .string T, .int .i64 a, .int .i64 b] 67)).cell? ⟨w.heap.size, 4, none⟩ = some (.int .i64 b) := by rw [Lib.cell_of_heap hz]; rfl
  have HD := Lib.hid (And.intro d1 (And.intro d2 (And.intro d3 d4)))
  clear hz d1 d2 d3 d4
  go_enter Tryd.func32, Tryd.ntmps32
  go_wp2_with fail
  refine (Index_is S rs t a x e _ H.out hs ha0 ha1 HP.out (HE.out.below HB0.out).bars).mono ?_
  rintro e' w1 ⟨rfl, hw1⟩
  have HB1 := Lib.hid (HB0.out.trans (hw1.mono HB0.out.size))
  have d1 := cell_below hw1 HD.out.1
  have d2 := cell_below hw1 HD.out.2.1
  have d3 := cell_below hw1 HD.out.2.2.1
  have d4 := cell_below hw1 HD.out.2.2.2
  clear hw1
  go_wp2_with fail
  refine (RefIndex_is S rs t a x e _ H.out hs ha0 ha1 HP.out).mono ?_
  rintro e' w2 ⟨rfl, hw2⟩
  have HB2 := Lib.hid (HB1.out.trans (hw2.mono HB1.out.size))
  clear hw2 d1 d2 d3 d4
  go_wp2_with fail
  go_ret
  exact ⟨rfl, HB2.out⟩

set_option maxRecDepth 100000 in
set_option maxHeartbeats 4000000 in
theorem plays_slice (o : OpV) (ho : o.Small) (hk : o.kind = 4) : PlaysWell o := by
  obtain ⟨k, S, T, a, b⟩ := o
  obtain rfl : k = 4 := hk
  intro w hE
  have hs : S.size ≤ 1048576 := ho.s
  have htt : T.size ≤ 1048576 := ho.t
  have ha0 : -9223372036854775808 ≤ a := ho.a0
  have ha1 : a ≤ 9223372036854775807 := ho.a1
  have hb0 : -9223372036854775808 ≤ b := ho.b0
  have hb1 : b ≤ 9223372036854775807 := ho.b1
  obtain ⟨rs, t, h⟩ := halves S
  obtain ⟨x, e, hp⟩ := slice_is rs t a b
  have H := Lib.hid h
  have HP := Lib.hid hp
  clear h hp
  have HE := Lib.hid hE
  clear hE ho
  have HB0 := Lib.hid (show Below w.heap.size w (w.alloc (.cells #[.int .i64 4, .string S, .string T, .int .i64 a, .int .i64 b] 67)) from (Below.refl _ _).alloc (Nat.le_refl _) _)
  have hz := heap_alloc_new w (.cells #[.int .i64 4, .string S, .string T, .int .i64 a, .int .i64 b] 67)
  have d1 : (w.alloc (.cells #[.int .i64 4, .string S, .string T, .int .i64 a, .int .i64 b] 67)).cell? ⟨w.heap.size, 1, none⟩ = some (.string S) := by rw [Lib.cell_of_heap hz]; rfl
  have d2 : (w.alloc (.cells #[.int .i64 4, .string S, .string T, .int .i64 a, .int .i64 b] 67)).cell? ⟨w.heap.size, 2, none⟩ = some (.string T) := by rw [Lib.cell_of_heap hz]; rfl
  have d3 : (w.alloc (.cells #[.int .i64 4, .string S, .string T, .int .i64 a, .int .i64 b] 67)).cell? ⟨w.heap.size, 3, none⟩ = some (.int .i64 a) := by rw [Lib.cell_of_heap hz]; rfl
  have d4 : (w.alloc (.cells #[.int .i64 4, .string S, .string T, .int .i64 a, .int .i64 b] 67)).cell? ⟨w.heap.size, 4, none⟩ = some (.int .i64 b) := by rw [Lib.cell_of_heap hz]; rfl
  have HD := Lib.hid (And.intro d1 (And.intro d2 (And.intro d3 d4)))
  clear hz d1 d2 d3 d4
  go_enter Tryd.func32, Tryd.ntmps32
  go_wp2_with fail
  refine (Slice_is S rs t a b x e _ H.out hs HP.out (HE.out.below HB0.out).bars).mono ?_
  rintro e' w1 ⟨rfl, hw1⟩
  have HB1 := Lib.hid (HB0.out.trans (hw1.mono HB0.out.size))
  have d1 := cell_below hw1 HD.out.1
  have d2 := cell_below hw1 HD.out.2.1
  have d3 := cell_below hw1 HD.out.2.2.1
  have d4 := cell_below hw1 HD.out.2.2.2
  clear hw1
  go_wp2_with fail
  refine (RefSlice_is S rs t a b x e _ H.out hs HP.out).mono ?_
  rintro e' w2 ⟨rfl, hw2⟩
  have HB2 := Lib.hid (HB1.out.trans (hw2.mono HB1.out.size))
  clear hw2 d1 d2 d3 d4
  go_wp2_with fail
  go_ret
  exact ⟨rfl, HB2.out⟩

theorem places_walk (w : World) (A : Option Addr) (c : Nat) (os : List OpV) (hS : Script w A os) (hn : os.length ≤ 1048576) (hsm : ∀ o ∈ os, o.Small) (hE : EnvU w) :
    Calls Tryd.prog 7 #[.slice A os.length c] w fun e w' => e = .returned (.bool true) ∧ Below w.heap.size w w' := by
  have HK := Lib.hid (kinds_any A c os 2 4 w hS hn hE fun o ho h1 h2 => by
    have hs := hsm o ho
    have : o.kind = 2 ∨ o.kind = 3 ∨ o.kind = 4 := by omega
    rcases this with h | h | h
    · exact plays_place o hs h
    · exact plays_index o hs h
    · exact plays_slice o hs h)
  clear hS hsm hE
  go_enter Tryd.func7, Tryd.ntmps7
  go_wp2_with fail
  refine HK.out.mono ?_
  rintro e w1 ⟨rfl, hb⟩
  have HB := Lib.hid hb
  clear hb
  go_wp2_with fail
  go_ret
  exact ⟨rfl, HB.out⟩
end Go.Proofs.YtfgekdefnbohbaaDoor.U
