/- The plays of Quote and Unquote, and UtextQuotes. -/
import Derived.Test.YtfgekdefnbohbaaDoorUAll19
namespace Go.Proofs.YtfgekdefnbohbaaDoor.U
open Go.RowKit Go.Proofs.YtfgekdefnbohbaaDoor.Txt
set_option linter.unusedVariables false
set_option linter.unusedSimpArgs false
attribute [local go_sem] frozen?_alloc_cells

theorem EnvU.q {w : World} (h : EnvU w) : EnvQ w := ⟨h.bars, h.tz, h.syn⟩
theorem unq_res (l : List UInt8) : ∃ (x : ByteArray) (n e : Int), ∀ e', UnqRes (unqL l) e' → e' = .returned (.tuple #[.string x, .int .i64 n, .int .i64 e]) := by
  cases unqL l with
  | none => exact ⟨_, _, _, fun e' h => h⟩
  | some p => obtain ⟨x, n⟩ := p; exact ⟨_, _, _, fun e' h => h⟩
theorem Unquote_res (S : ByteArray) (x : ByteArray) (n e : Int) (w : World) (hs : S.size ≤ 1048576) (hE : EnvQ w) (hU : ∀ e', UnqRes (unqL S.data.toList) e' → e' = .returned (.tuple #[.string x, .int .i64 n, .int .i64 e])) :
    Calls Tryd.prog 13 #[.string S] w fun e' w' => e' = .returned (.tuple #[.string x, .int .i64 n, .int .i64 e]) ∧ Below w.heap.size w w' :=
  (Unquote_any S w (by omega) hE).mono fun e' w' h => ⟨hU _ h.1, h.2⟩
theorem RefUnquote_res (S : ByteArray) (x : ByteArray) (n e : Int) (w : World) (hs : S.size ≤ 1048576) (hU : ∀ e', UnqRes (unqL S.data.toList) e' → e' = .returned (.tuple #[.string x, .int .i64 n, .int .i64 e])) :
    Calls Tryd.prog 45 #[.string S] w fun e' w' => e' = .returned (.tuple #[.string x, .int .i64 n, .int .i64 e]) ∧ Below w.heap.size w w' :=
  (RefUnquote_any S w (by omega)).mono fun e' w' h => ⟨hU _ (by rw [← ref_unq]; exact h.1), h.2⟩

set_option maxRecDepth 100000 in
set_option maxHeartbeats 4000000 in
theorem plays_quote (o : OpV) (ho : o.Small) (hk : o.kind = 7) : PlaysWell o := by
  obtain ⟨k, S, T, a, b⟩ := o
  obtain rfl : k = 7 := hk
  intro w hE
  have hs : S.size ≤ 1048576 := ho.s
  have htt : T.size ≤ 1048576 := ho.t
  have ha0 : -9223372036854775808 ≤ a := ho.a0
  have ha1 : a ≤ 9223372036854775807 := ho.a1
  have hb0 : -9223372036854775808 ≤ b := ho.b0
  have hb1 : b ≤ 9223372036854775807 := ho.b1

  have HE := Lib.hid hE
  clear hE ho
  have HB0 := Lib.hid (show Below w.heap.size w (w.alloc (.cells #[.int .i64 7, .string S, .string T, .int .i64 a, .int .i64 b] 67)) from (Below.refl _ _).alloc (Nat.le_refl _) _)
  have hz := heap_alloc_new w (.cells #[.int .i64 7, .string S, .string T, .int .i64 a, .int .i64 b] 67)
  have d1 : (w.alloc (.cells #[.int .i64 7, .string S, .string T, .int .i64 a, .int .i64 b] 67)).cell? ⟨w.heap.size, 1, none⟩ = some (.string S) := by rw [Lib.cell_of_heap hz]; rfl
  have d2 : (w.alloc (.cells #[.int .i64 7, .string S, .string T, .int .i64 a, .int .i64 b] 67)).cell? ⟨w.heap.size, 2, none⟩ = some (.string T) := by rw [Lib.cell_of_heap hz]; rfl
  have d3 : (w.alloc (.cells #[.int .i64 7, .string S, .string T, .int .i64 a, .int .i64 b] 67)).cell? ⟨w.heap.size, 3, none⟩ = some (.int .i64 a) := by rw [Lib.cell_of_heap hz]; rfl
  have d4 : (w.alloc (.cells #[.int .i64 7, .string S, .string T, .int .i64 a, .int .i64 b] 67)).cell? ⟨w.heap.size, 4, none⟩ = some (.int .i64 b) := by rw [Lib.cell_of_heap hz]; rfl
  have HD := Lib.hid (And.intro d1 (And.intro d2 (And.intro d3 d4)))
  clear hz d1 d2 d3 d4
  go_enter Tryd.func32, Tryd.ntmps32
  go_wp2_with fail
  refine (Quote_any S _ (by omega) (HE.out.below HB0.out).tz).mono ?_
  rintro e' w1 ⟨rfl, hw1⟩
  have HB1 := Lib.hid (HB0.out.trans (hw1.mono HB0.out.size))
  have d1 := cell_below hw1 HD.out.1
  have d2 := cell_below hw1 HD.out.2.1
  have d3 := cell_below hw1 HD.out.2.2.1
  have d4 := cell_below hw1 HD.out.2.2.2
  clear hw1
  go_wp2_with fail
  refine (RefQuote_any S _ (by omega)).mono ?_
  rintro e' w2 ⟨rfl, hw2⟩
  have HB2 := Lib.hid (HB1.out.trans (hw2.mono HB1.out.size))
  clear hw2 d1 d2 d3 d4
  go_wp2_with fail
  go_ret
  exact ⟨rfl, HB2.out⟩

set_option maxRecDepth 100000 in
set_option maxHeartbeats 4000000 in
theorem plays_unquote (o : OpV) (ho : o.Small) (hk : o.kind = 8) : PlaysWell o := by
  obtain ⟨k, S, T, a, b⟩ := o
  obtain rfl : k = 8 := hk
  intro w hE
  have hs : S.size ≤ 1048576 := ho.s
  have htt : T.size ≤ 1048576 := ho.t
  have ha0 : -9223372036854775808 ≤ a := ho.a0
  have ha1 : a ≤ 9223372036854775807 := ho.a1
  have hb0 : -9223372036854775808 ≤ b := ho.b0
  have hb1 : b ≤ 9223372036854775807 := ho.b1
  obtain ⟨x, n, e, hU⟩ := unq_res S.data.toList
  have HU := Lib.hid hU
  clear hU
  have HE := Lib.hid hE
  clear hE ho
  have HB0 := Lib.hid (show Below w.heap.size w (w.alloc (.cells #[.int .i64 8, .string S, .string T, .int .i64 a, .int .i64 b] 67)) from (Below.refl _ _).alloc (Nat.le_refl _) _)
  have hz := heap_alloc_new w (.cells #[.int .i64 8, .string S, .string T, .int .i64 a, .int .i64 b] 67)
  have d1 : (w.alloc (.cells #[.int .i64 8, .string S, .string T, .int .i64 a, .int .i64 b] 67)).cell? ⟨w.heap.size, 1, none⟩ = some (.string S) := by rw [Lib.cell_of_heap hz]; rfl
  have d2 : (w.alloc (.cells #[.int .i64 8, .string S, .string T, .int .i64 a, .int .i64 b] 67)).cell? ⟨w.heap.size, 2, none⟩ = some (.string T) := by rw [Lib.cell_of_heap hz]; rfl
  have d3 : (w.alloc (.cells #[.int .i64 8, .string S, .string T, .int .i64 a, .int .i64 b] 67)).cell? ⟨w.heap.size, 3, none⟩ = some (.int .i64 a) := by rw [Lib.cell_of_heap hz]; rfl
  have d4 : (w.alloc (.cells #[.int .i64 8, .string S, .string T, .int .i64 a, .int .i64 b] 67)).cell? ⟨w.heap.size, 4, none⟩ = some (.int .i64 b) := by rw [Lib.cell_of_heap hz]; rfl
  have HD := Lib.hid (And.intro d1 (And.intro d2 (And.intro d3 d4)))
  clear hz d1 d2 d3 d4
  go_enter Tryd.func32, Tryd.ntmps32
  go_wp2_with fail
  refine (Unquote_res S x n e _ hs (HE.out.below HB0.out).q HU.out).mono ?_
  rintro e' w1 ⟨rfl, hw1⟩
  have HB1 := Lib.hid (HB0.out.trans (hw1.mono HB0.out.size))
  have d1 := cell_below hw1 HD.out.1
  have d2 := cell_below hw1 HD.out.2.1
  have d3 := cell_below hw1 HD.out.2.2.1
  have d4 := cell_below hw1 HD.out.2.2.2
  clear hw1
  go_wp2_with fail
  refine (RefUnquote_res S x n e _ hs HU.out).mono ?_
  rintro e' w2 ⟨rfl, hw2⟩
  have HB2 := Lib.hid (HB1.out.trans (hw2.mono HB1.out.size))
  clear hw2 d1 d2 d3 d4
  go_wp2_with fail
  go_ret
  exact ⟨rfl, HB2.out⟩

theorem quotes_walk (w : World) (A : Option Addr) (c : Nat) (os : List OpV) (hS : Script w A os) (hn : os.length ≤ 1048576) (hsm : ∀ o ∈ os, o.Small) (hE : EnvU w) :
    Calls Tryd.prog 9 #[.slice A os.length c] w fun e w' => e = .returned (.bool true) ∧ Below w.heap.size w w' := by
  have HK := Lib.hid (kinds_any A c os 7 8 w hS hn hE fun o ho h1 h2 => by
    have hs := hsm o ho
    have : o.kind = 7 ∨ o.kind = 8 := by omega
    rcases this with h | h
    · exact plays_quote o hs h
    · exact plays_unquote o hs h)
  clear hS hsm hE
  go_enter Tryd.func9, Tryd.ntmps9
  go_wp2_with fail
  refine HK.out.mono ?_
  rintro e w1 ⟨rfl, hb⟩
  have HB := Lib.hid hb
  clear hb
  go_wp2_with fail
  go_ret
  exact ⟨rfl, HB.out⟩
end Go.Proofs.YtfgekdefnbohbaaDoor.U
