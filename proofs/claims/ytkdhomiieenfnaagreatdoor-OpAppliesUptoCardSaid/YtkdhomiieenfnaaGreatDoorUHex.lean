/- strconv.FormatInt at base 16. -/
import Derived.Test.YtkdhomiieenfnaaGreatDoorLs1
import Derived.Deep.DeepCutAuto
import Derived.IntWalk
import Derived.Laws.BitsLemmas
import Derived.Laws.IdiomStrings
import Derived.Lib.Builder
namespace Go.Proofs.YtkdhomiieenfnaaGreatDoor.U
open Go.RowKit Go.Proofs
set_option linter.unusedVariables false
set_option linter.unusedSimpArgs false

/-- The table of bits.TrailingZeros64, at the place that 16 is looked up at. -/
def Tz16 (w : World) : Prop := w.cell? ⟨6, 15, none⟩ = some (.int .u8 4)
theorem Tz16.below {w w' : World} (h : Tz16 w) (hb : Below w.heap.size w w') : Tz16 w' := (hb.cell (World.block_lt_of_cell? w _ h)).trans h

set_option maxRecDepth 100000 in
set_option maxHeartbeats 4000000 in
theorem tz16 (w : World) (h : Tz16 w) : Calls Tryz.prog 166 #[.int .u64 16] w fun e w' => e = .returned (.int .i64 4) ∧ w = w' := by
  unfold Tz16 at h
  have e1 : IntKind.u64.wrap (-16) = 18446744073709551600 := by kernel_rfl
  have e2 : bits BinOp.and IntKind.u64 16 18446744073709551600 = 16 := by kernel_rfl
  have e3 : IntKind.u64.wrap (16 * 285870213051353865) = 4573923408821661840 := by kernel_rfl
  have e4 : (4573923408821661840 / 288230376151711744 : Int) = 15 := by kernel_rfl
  go_enter Tryz.func166, Tryz.ntmps166
  go_wp2
  go_ret
  exact ⟨rfl, rfl⟩

theorem wraps_u64 (n : Int) (h₀ : 0 ≤ n) (h₁ : n < 2 ^ 32) : IntKind.u64.wrap n = n := by simp [IntKind.wrap, IntKind.bits, IntKind.signed]; omega
theorem u64_and15 (v : Nat) (h : v < 16777216) : bits .and .u64 v 15 = ((v % 16 : Nat) : Int) := by
  refine (bits_mask .u64 32 (by decide) wraps_u64 4 (by decide) v (by omega) (by omega)).trans ?_
  omega
def digs : ByteArray := ⟨#[48, 49, 50, 51, 52, 53, 54, 55, 56, 57, 97, 98, 99, 100, 101, 102, 103, 104, 105, 106, 107, 108, 109, 110, 111, 112, 113, 114, 115, 116, 117, 118, 119, 120, 121, 122]⟩
set_option maxRecDepth 100000 in
theorem dig_index (m : Nat) (h : m < 16) : ∀ w, (Instr.index 9 (.string digs) (.int .u64 m)).run Tryz.prog w = .ok (.int .u8 (dig m).toNat) w := by
  have hm : m = 0 ∨ m = 1 ∨ m = 2 ∨ m = 3 ∨ m = 4 ∨ m = 5 ∨ m = 6 ∨ m = 7 ∨ m = 8 ∨ m = 9 ∨ m = 10 ∨ m = 11 ∨ m = 12 ∨ m = 13 ∨ m = 14 ∨ m = 15 := by omega
  rcases hm with rfl | rfl | rfl | rfl | rfl | rfl | rfl | rfl | rfl | rfl | rfl | rfl | rfl | rfl | rfl | rfl
  all_goals exact fun _ => by kernel_rfl
theorem next_bound (v n : Nat) (hn : n ≤ 5) (hv : v < 16 ^ (6 - n)) (h : 16 ≤ v) : n + 1 ≤ 5 ∧ v / 16 < 16 ^ (6 - (n + 1)) := by
  match n, hn with
  | 0, _ => simp at hv ⊢; omega
  | 1, _ => simp at hv ⊢; omega
  | 2, _ => simp at hv ⊢; omega
  | 3, _ => simp at hv ⊢; omega
  | 4, _ => simp at hv ⊢; omega
  | 5, _ => simp at hv; omega
/-- One digit more, in front. -/
structure Tail (w : World) (b : Nat) (L : List UInt8) : Prop where
  row : ∃ cs, w.heap[b]? = some (.cells cs 224 (0, 0)) ∧ cs.size = 65 ∧ cs.toList.drop (65 - L.length) = L.map (fun b => Value.int .u8 (b.toNat : Int))
theorem Tail.cell {w : World} {b : Nat} {L : List UInt8} (h : Tail w b L) (k : Nat) (hk : k < 65) : (∃ x, w.cell? ⟨b, k, none⟩ = some x) ∧ w.frozen? ⟨b, k, none⟩ = false := by
  obtain ⟨cs, hb, hs, _⟩ := h.row
  exact ⟨⟨cs[k], by rw [Lib.cell_of_heap hb, Array.getElem?_eq_getElem (by omega)]⟩, Lib.frozen_of_heap hb k⟩
theorem Tail.at {w : World} {b : Nat} {L : List UInt8} (h : Tail w b L) (j : Nat) (hj : j < L.length) : w.cell? ⟨b, 65 - L.length + j, none⟩ = some (.int .u8 (L[j].toNat : Int)) := by
  obtain ⟨cs, hb, hs, hd⟩ := h.row
  rw [Lib.cell_of_heap hb]
  have e := congrArg (fun l => l[j]?) hd
  simp only [List.getElem?_drop, List.getElem?_map, List.getElem?_eq_getElem hj, Option.map_some] at e
  rw [← e, Array.getElem?_toList]
theorem Tail.put {w : World} {b : Nat} {L : List UInt8} (h : Tail w b L) (hL : L.length < 65) (d : UInt8) : Tail (w.setCell ⟨b, 64 - L.length, none⟩ (.int .u8 (d.toNat : Int))) b (d :: L) := by
  obtain ⟨cs, hb, hs, hd⟩ := h.row
  refine ⟨⟨cs.setIfInBounds (64 - L.length) (.int .u8 (d.toNat : Int)), ?_, by simp [hs], ?_⟩⟩
  · simp [World.setCell, Array.getElem?_modify, hb]
  · rw [Array.toList_setIfInBounds]
    have e1 : 65 - (d :: L).length = 64 - L.length := by simp
    rw [e1]
    have hl : cs.toList.length = 65 := by simpa using hs
    rw [List.drop_eq_getElem_cons (by simp [hl]; omega), List.drop_set_of_lt (by omega)]
    simp only [List.getElem_set_self, List.map_cons]
    rw [show 64 - L.length + 1 = 65 - L.length by omega, hd]

set_option maxRecDepth 100000 in
set_option maxHeartbeats 4000000 in
theorem pow2_16 (w : World) : Calls Tryz.prog 165 #[.int .i64 16] w fun e w' => e = .returned (.bool true) ∧ w = w' := by
  have e1 : bits BinOp.and IntKind.i64 16 15 = 0 := by kernel_rfl
  go_enter Tryz.func165, Tryz.ntmps165
  go_wp2
  go_ret
  exact ⟨rfl, rfl⟩

set_option maxRecDepth 100000 in
set_option maxHeartbeats 4000000 in
theorem formatBits16 (u : Nat) (w : World) (hu : u < 16777216) (h : Tz16 w) :
    Calls Tryz.prog 147 #[.slice none 0 0, .int .u64 u, .int .i64 16, .bool false, .bool false] w fun e w' => e = .returned (.tuple #[.slice none 0 0, .string ⟨(hexL u).toArray⟩]) ∧ Below w.heap.size w w' := by
  go_enter Tryz.func147, Tryz.ntmps147
  go_upto_region 4 with fail
  go_cut [12, 13] (fun p i wx => ∃ b cs, p = .pointer (some ⟨b, 0, none⟩) ∧ i = .int .i64 65 ∧ w.heap.size ≤ b ∧ wx.heap[b]? = some (.cells cs 224 (0, 0)) ∧ cs.size = 65 ∧ Below w.heap.size w wx)
  case first =>
    go_wp2_with fail
    go_meet
    exact ⟨_, _, rfl, rfl, Nat.le_refl _, heap_alloc_new w _, by kernel_rfl, (Below.refl _ _).alloc (Nat.le_refl _) _⟩
  case rest =>
    obtain ⟨b, cs, rfl, rfl, hb, hbk, hcs, hbe⟩ := hcut
    have HT := Lib.hid (h.below hbe)
    have HBE := Lib.hid hbe
    have HBK := Lib.hid hbk
    clear h hbe hbk
    go_wp2_with fail
    refine (pow2_16 _).mono ?_
    rintro e w1 ⟨rfl, rfl⟩
    go_wp2_with fail
    refine (tz16 _ HT.out).mono ?_
    rintro e w1 ⟨rfl, rfl⟩
    go_wp2_with fail
    go_loopw [1, 13] (fun x i wr => ∃ (v : Nat) (L : List UInt8), x = .int .u64 v ∧ i = .int .i64 (65 - L.length : Int) ∧ L.length ≤ 5 ∧ v < 16 ^ (6 - L.length) ∧ hexL v ++ L = hexL u ∧ Tail wr b L ∧ Below w.heap.size w wr) (fun x _ _ => (intOf x).toNat)
    case atStart => exact ⟨u, [], rfl, rfl, by simp, by simpa using hu, by simp, ⟨cs, HBK.out, hcs, by simp [hcs]⟩, HBE.out⟩
    case round =>
      obtain ⟨v, L, rfl, rfl, hL, hv, hx, ht, hb2⟩ := hrel
      have hv6 : v < 16777216 := Nat.lt_of_lt_of_le hv (Nat.pow_le_pow_right (n := 16) (j := 6) (by decide) (by omega))
      obtain ⟨⟨x0, hc0⟩, hf0⟩ := ht.cell (64 - L.length) (by omega)
      have HX := Lib.hid hx
      have HTL := Lib.hid ht
      have HB2 := Lib.hid hb2
      have HV := Lib.hid hv
      clear hx ht hb2 hv HBE HBK hcs
      have e1 : IntKind.i64.wrap (65 - (L.length : Int) - 1) = ((64 - L.length : Nat) : Int) := by rw [IntWalk.i64_in _ (by omega)]; omega
      by_cases hlt : 16 ≤ v
      · have hi : (16 : Int) ≤ v := by omega
        have e2 := u64_and15 v hv6
        have hm : v % 16 < 16 := by omega
        have e3 := dig_index (v % 16) hm
        have hp : 64 - L.length < 65 := by omega
        generalize hk : 64 - L.length = k at e1 hc0 hf0 hp
        generalize hmm : v % 16 = m at e2 e3
        unfold digs at e3
        go_wp2_with fail
        go_roundw
        case rel =>
          refine ⟨v / 16, dig m :: L, by congr 1, ?_, (next_bound v _ hL HV.out hlt).1, (next_bound v _ hL HV.out hlt).2, ?_, ?_, HB2.out.setCell (p := ⟨b, k, none⟩) hb _⟩
          · congr 1; simp; omega
          · rw [← HX.out, hexL.eq_1 v, if_neg (by omega), hmm]; simp
          · have := HTL.out.put (by omega) (dig m)
            rwa [hk] at this
        case measure => simp [intOf]; omega
      · have hi : ¬ (16 : Int) ≤ v := by omega
        have e3 := dig_index v (by omega)
        have hp : 64 - L.length < 65 := by omega
        generalize hk : 64 - L.length = k at e1 hc0 hf0 hp
        unfold digs at e3
        have hsl : ∀ w', (Instr.sliceAt 224 (.pointer (some ⟨b, 0, none⟩)) (some (.int .i64 k)) none none).run Tryz.prog w' = .ok (.slice (some ⟨b, k, none⟩) (65 - k) (65 - k)) w' := fun w' => by
          rw [run_sliceAt_array_l w' 224 ⟨b, 0, none⟩ (by kernel_rfl) .i64 k (by omega) (by show (k : Int) ≤ 65; omega)]
          rw [show Tryz.prog.elem 224 = 5 by kernel_rfl, Tryz.sizeOf5, show Tryz.prog.arrayLen 224 = 65 by kernel_rfl]
          simp only [Result.andThen, slicedAt]
          rw [if_neg (by omega), Addr.add_lit]
          simp
        have htl := HTL.out.put (by omega) (dig v)
        rw [hk] at htl
        have hxu : hexL u = dig v :: L := by rw [← HX.out, hexL.eq_1 v, if_pos (by omega)]; rfl
        have hcv : (convert 109 9 (.slice (some ⟨b, k, none⟩) (65 - k) (65 - k))).run Tryz.prog (wr.setCell ⟨b, k, none⟩ (.int .u8 ((dig v).toNat : Int))) = .ok (.string ⟨(hexL u).toArray⟩) (wr.setCell ⟨b, k, none⟩ (.int .u8 ((dig v).toNat : Int))) := by
          have := run_convert_bytes_back (P := Tryz.prog) (wr.setCell ⟨b, k, none⟩ (.int .u8 ((dig v).toNat : Int))) 109 9 5 ⟨b, k, none⟩ (65 - k) (dig v :: L) Tryz.underlying109 Tryz.underlying5 Tryz.underlying9 (fun j hj => by
            have hc := htl.at j hj
            rw [Addr.add_lit]
            rw [show 65 - (dig v :: L).length + j = k + j by simp; omega] at hc
            exact hc)
          rw [hxu]
          rwa [show (dig v :: L).length = 65 - k by simp; omega] at this
        clear htl hxu
        go_wp2_with fail
        go_ret2
        exact ⟨rfl, HB2.out.setCell (p := ⟨b, k, none⟩) hb _⟩

set_option maxRecDepth 100000 in
set_option maxHeartbeats 4000000 in
theorem FormatInt16' (u : Nat) (w : World) (hu : u < 16777216) (h : Tz16 w) :
    Calls Tryz.prog 134 #[.int .i64 u, .int .i64 16] w fun e w' => e = .returned (.string ⟨(hexL u).toArray⟩) ∧ Below w.heap.size w w' := by
  have e1 : IntKind.u64.wrap u = u := wraps_u64 _ (by omega) (by omega)
  have e2 : decide ((u : Int) < 0) = false := by simp
  have HT := Lib.hid h
  clear h
  go_enter Tryz.func134, Tryz.ntmps134
  go_wp2_with fail
  refine (formatBits16 u _ hu HT.out).mono ?_
  rintro e w' ⟨rfl, hb⟩
  have HB := Lib.hid hb
  clear hb HT
  go_wp2_with fail
  go_ret
  exact ⟨rfl, HB.out⟩

set_option maxRecDepth 100000 in
set_option maxHeartbeats 4000000 in
/-- strconv.FormatInt of a number that is no negative one, at base 16. -/
theorem FormatInt16 (u : Nat) (w : World) (hu : u < 16777216) (h : Tz16 w) :
    Calls Tryz.prog 110 #[.int .i64 u, .int .i64 16] w fun e w' => e = .returned (.string ⟨(hexL u).toArray⟩) ∧ Below w.heap.size w w' := by
  have HT := Lib.hid h
  clear h
  go_enter Tryz.func110, Tryz.ntmps110
  go_wp2_with fail
  refine (FormatInt16' u _ hu HT.out).mono ?_
  rintro e w' ⟨rfl, hb⟩
  have HB := Lib.hid hb
  clear hb HT
  go_wp2_with fail
  go_ret
  exact ⟨rfl, HB.out⟩
end Go.Proofs.YtkdhomiieenfnaaGreatDoor.U
