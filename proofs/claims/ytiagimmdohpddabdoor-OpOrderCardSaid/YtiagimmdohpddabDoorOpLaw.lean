/- OpOrder answers true. -/
import Derived.Test.YtiagimmdohpddabDoorOpW
namespace Go.Proofs.YtiagimmdohpddabDoor.O
open Go.RowKit Go.Proofs Go.Joins Go.Proofs.YtiagimmdohpddabDoor.U Go.Proofs.YtiagimmdohpddabDoor.Txt
set_option linter.unusedVariables false
set_option linter.unusedSimpArgs false
attribute [local go_sem] frozen?_alloc_cells

theorem chk_z : chk (⟨#[122]⟩ : ByteArray).data.toList = (1, 0, 0) := by decide +kernel
theorem txt233 : TxtRune 233 := ⟨by decide, by decide⟩
theorem txt122 : TxtRune 122 := ⟨by decide, by decide⟩
theorem enc233 : enc [233] = [195, 169] := by decide +kernel
theorem enc122 : enc [122] = [122] := by decide +kernel
theorem chk_es {tx : ByteArray} {j : Nat} (h : tx.data.toList = enc (List.replicate j 233)) : chk tx.data.toList = (j, 0, 0) := by
  rw [h, chk_text _ (fun r hr => by rw [List.eq_of_mem_replicate hr]; exact txt233), List.length_replicate]
theorem es_succ {tx : ByteArray} {j : Nat} (h : tx.data.toList = enc (List.replicate j 233)) : (tx ++ ⟨#[195, 169]⟩ : ByteArray).data.toList = enc (List.replicate (j + 1) 233) := by
  rw [List.replicate_succ', enc_append, enc233, ← h]
  simp
theorem es_z {tx : ByteArray} {j : Nat} (h : tx.data.toList = enc (List.replicate j 233)) : chk (tx ++ ⟨#[122]⟩ : ByteArray).data.toList = (j + 1, 0, 0) := by
  have e : (tx ++ ⟨#[122]⟩ : ByteArray).data.toList = enc (List.replicate j 233 ++ [122]) := by
    rw [enc_append, enc122, ← h]
    simp
  rw [e, chk_text _ (fun r hr => by
    rcases List.mem_append.1 hr with h2 | h2
    · rw [List.eq_of_mem_replicate h2]; exact txt233
    · rw [List.mem_singleton.1 h2]; exact txt122)]
  simp
theorem es_size {tx : ByteArray} {j : Nat} (h : tx.data.toList = enc (List.replicate j 233)) : tx.size ≤ 4 * j := by
  have := enc_len_le (List.replicate j 233)
  rw [← h, List.length_replicate] at this
  exact this
theorem insE_at {a : Int} {tx : ByteArray} {k : Nat} {total : Int} (h1 : 0 ≤ total ∧ total ≤ 1048576) : opE 2 3 1 a tx k 0 [] 0 0 false total = insE k 0 a total := by
  rw [opE_past h1 (by decide) good23, if_neg (by simp [extraB]), if_pos (by decide)]

set_option maxRecDepth 100000 in
set_option maxHeartbeats 8000000 in
theorem law_any (t c n : Int) (w : World) (hg : Bars w) : Calls Tryd.prog 3 #[.int .i64 t, .int .i64 c, .int .i64 n] w fun e w' => e = .returned (.bool true) ∧ Below w.heap.size w w' := by
  have HG := Lib.hid hg
  clear hg
  go_enter Tryd.func3, Tryd.ntmps3
  go_wp2_with fail
  refine (pick_any t 1000000 _ (by decide)).mono ?_
  rintro e w1 ⟨⟨r, rfl, hr0, hr1⟩, rfl⟩
  have e1 : IntKind.i64.wrap (1 + r) = 1 + r := IntWalk.i64_in _ (by omega)
  obtain ⟨T, hT⟩ : ∃ T, 1 + r = T := ⟨_, rfl⟩
  rw [hT] at e1
  have e0 : IntKind.i64.wrap (1 + r) = T := by rw [hT]; exact e1
  have hT2 : 1 ≤ T ∧ T ≤ 1000000 := by omega
  have HT := Lib.hid hT2
  clear hT hT2 hr0 hr1 e1
  go_wp2_with fail
  go_loopw [7] (fun i wr => ∃ j : Nat, i = .int .i64 j ∧ j ≤ 4 ∧ Below w1.heap.size w1 wr) (fun i _ => 4 - (intOf i).toNat)
  case atStart => exact ⟨0, rfl, by decide, Below.refl _ _⟩
  case round =>
    obtain ⟨j, rfl, hj, hb⟩ := hrel
    have HB := Lib.hid hb
    clear hb
    by_cases hlt : j < 4
    · have i1 : (j : Int) < 4 := by omega
      go_wp2_with fail
      refine (orders_any j T c n (by omega) HT.out _ (HG.out.below HB.out)).mono ?_
      rintro e w2 ⟨rfl, hb⟩
      have HB2 := Lib.hid (HB.out.trans (hb.mono HB.out.size))
      clear hb
      go_wp2_with fail
      go_roundw
      case rel => exact ⟨j + 1, by go_num, by omega, HB2.out⟩
      case measure => simp [intOf]; omega
    · have i1 : ¬ (j : Int) < 4 := by omega
      clear hj hlt
      go_wp2_with fail
      refine (base0 T _).mono ?_
      rintro e w3 ⟨rfl, hb⟩
      unfold opV
      have S1 := Lib.hid (St.new (vs := #[.int .i64 2, .int .i64 3, .int .i64 1, .int .i64 T, .string ⟨#[]⟩, .slice none 0 0, .int .i64 0, .int .i64 0, .bool false]) (HB.out.trans (hb.mono HB.out.size)) (Ranges.none _ none) (fun h => absurd h (by decide)))
      clear hb
      go_wp2_with fail
      obtain ⟨B, hB⟩ : ∃ B, w3.heap.size = B := ⟨_, rfl⟩
      rw [hB] at S1 ⊢
      clear hB
      go_loopw [10] (fun i wr => ∃ (k : Nat) (tx : ByteArray), i = .int .i64 k ∧ k ≤ 256 ∧ St w1 wr B #[.int .i64 2, .int .i64 3, .int .i64 1, .int .i64 T, .string tx, .slice none 0 0, .int .i64 0, .int .i64 0, .bool false] none 0 [] ∧ tx.data.toList = enc (List.replicate k 233)) (fun i _ => 256 - (intOf i).toNat)
      case atStart => exact ⟨0, ⟨#[]⟩, rfl, by decide, S1.out, rfl⟩
      case round =>
        obtain ⟨k, tx, rfl, hk, hS, htx⟩ := hrel
        have S2 := Lib.hid hS
        have HTX := Lib.hid htx
        clear hS htx S1
        obtain ⟨c0, c1, c2, c3, c4, c5, c6, c7, c8⟩ := S2.out.nine
        obtain ⟨f0, f1, f2, f3, f4, f5, f6, f7, f8⟩ := S2.out.fz
        by_cases hlt : k < 256
        · have i2 : (k : Int) < 256 := by omega
          have hsz := es_size HTX.out
          go_wp2_with fail
          go_roundw
          case rel => exact ⟨k + 1, _, by go_num, by omega, S2.out.put 4 (.string (tx ++ ⟨#[195, 169]⟩)), es_succ HTX.out⟩
          case measure => simp [intOf]; omega
        · have i2 : ¬ (k : Int) < 256 := by omega
          obtain rfl : k = 256 := by omega
          clear hk hlt
          have HSZ := Lib.hid (Nat.le_trans (es_size HTX.out) (by decide : 4 * 256 ≤ 1024))
          have HSZ2 := Lib.hid (show (tx ++ ⟨#[122]⟩ : ByteArray).size ≤ 2048 by have := HSZ.out; have h1 : (⟨#[122]⟩ : ByteArray).size = 1 := rfl; rw [ByteArray.size_append, h1]; omega)
          go_wp2_with fail
          refine (asked_any 2 3 1 T tx none 0 _ [] 0 0 false T 0 256 0 0 ((chk_es HTX.out)) _ (small_le HSZ.out) (by decide) S2.out.rng (HG.out.below S2.out.below) (by have := HT.out; rw [insE_at (by omega)]; unfold insE; rw [if_neg (by decide), if_neg (by decide), if_neg (by decide), if_neg (by omega), if_neg (by omega), if_neg (by omega)])).mono ?_
          rintro e w5 ⟨rfl, hb⟩
          have hS5 : St w1 w5 B #[.int .i64 2, .int .i64 3, .int .i64 1, .int .i64 T, .string tx, (.slice none 0 0), .int .i64 0, .int .i64 0, .bool false] none 0 [] := S2.out.step hb
          have S5 := Lib.hid hS5
          clear hb hS5 c0 c1 c2 c3 c4 c5 c6 c7 c8 f0 f1 f2 f3 f4 f5 f6 f7 f8 S2
          obtain ⟨c0, c1, c2, c3, c4, c5, c6, c7, c8⟩ := S5.out.nine
          obtain ⟨f0, f1, f2, f3, f4, f5, f6, f7, f8⟩ := S5.out.fz
          go_wp2_with fail
          refine (asked_any 2 3 1 T tx none 0 _ [] 0 0 false 1048320 0 256 0 0 ((chk_es HTX.out)) _ (small_le HSZ.out) (by decide) S5.out.rng (HG.out.below S5.out.below) (by have := HT.out; rw [insE_at (by omega)]; unfold insE; rw [if_neg (by decide), if_neg (by decide), if_neg (by decide), if_neg (by omega), if_neg (by omega), if_neg (by omega)])).mono ?_
          rintro e w6 ⟨rfl, hb⟩
          have hS6 : St w1 w6 B #[.int .i64 2, .int .i64 3, .int .i64 1, .int .i64 T, .string tx, (.slice none 0 0), .int .i64 0, .int .i64 0, .bool false] none 0 [] := S5.out.step hb
          have S6 := Lib.hid hS6
          clear hb hS6 c0 c1 c2 c3 c4 c5 c6 c7 c8 f0 f1 f2 f3 f4 f5 f6 f7 f8 S5
          obtain ⟨c0, c1, c2, c3, c4, c5, c6, c7, c8⟩ := S6.out.nine
          obtain ⟨f0, f1, f2, f3, f4, f5, f6, f7, f8⟩ := S6.out.fz
          go_wp2_with fail
          refine (asked_any 2 3 1 T tx none 0 _ [] 0 0 false 1048321 24 256 0 0 ((chk_es HTX.out)) _ (small_le HSZ.out) (by decide) S6.out.rng (HG.out.below S6.out.below) (by have := HT.out; rw [insE_at (by omega)]; unfold insE; rw [if_neg (by decide), if_neg (by decide), if_neg (by decide), if_neg (by omega), if_neg (by omega), if_pos (by omega)])).mono ?_
          rintro e w7 ⟨rfl, hb⟩
          have hS7 : St w1 w7 B #[.int .i64 2, .int .i64 3, .int .i64 1, .int .i64 T, .string tx, (.slice none 0 0), .int .i64 0, .int .i64 0, .bool false] none 0 [] := S6.out.step hb
          have S7 := Lib.hid hS7
          clear hb hS7 c0 c1 c2 c3 c4 c5 c6 c7 c8 f0 f1 f2 f3 f4 f5 f6 f7 f8 S6
          obtain ⟨c0, c1, c2, c3, c4, c5, c6, c7, c8⟩ := S7.out.nine
          obtain ⟨f0, f1, f2, f3, f4, f5, f6, f7, f8⟩ := S7.out.fz
          go_wp2_with fail
          refine (asked_any 2 3 1 T tx none 0 _ [] 0 0 false 1048576 24 256 0 0 ((chk_es HTX.out)) _ (small_le HSZ.out) (by decide) S7.out.rng (HG.out.below S7.out.below) (by have := HT.out; rw [insE_at (by omega)]; unfold insE; rw [if_neg (by decide), if_neg (by decide), if_neg (by decide), if_neg (by omega), if_neg (by omega), if_pos (by omega)])).mono ?_
          rintro e w8 ⟨rfl, hb⟩
          have hS8 : St w1 w8 B #[.int .i64 2, .int .i64 3, .int .i64 1, .int .i64 T, .string tx, (.slice none 0 0), .int .i64 0, .int .i64 0, .bool false] none 0 [] := S7.out.step hb
          have S8 := Lib.hid hS8
          clear hb hS8 c0 c1 c2 c3 c4 c5 c6 c7 c8 f0 f1 f2 f3 f4 f5 f6 f7 f8 S7
          obtain ⟨c0, c1, c2, c3, c4, c5, c6, c7, c8⟩ := S8.out.nine
          obtain ⟨f0, f1, f2, f3, f4, f5, f6, f7, f8⟩ := S8.out.fz
          have hsz3 : tx.size ≤ 1024 := HSZ.out
          go_wp2_with fail
          refine (asked_any 2 3 1 (-1) (tx ++ ⟨#[122]⟩) none 0 _ [] 0 0 false 1048576 14 257 0 0 ((es_z HTX.out)) _ (Nat.le_trans HSZ2.out (by decide)) (by decide) ((S8.out.put 4 (.string (tx ++ ⟨#[122]⟩))).put 3 (.int .i64 (-1))).rng (HG.out.below ((S8.out.put 4 (.string (tx ++ ⟨#[122]⟩))).put 3 (.int .i64 (-1))).below) (by rw [insE_at (by decide)]; rfl)).mono ?_
          rintro e w9 ⟨rfl, hb⟩
          have hS9 : St w1 w9 B #[.int .i64 2, .int .i64 3, .int .i64 1, .int .i64 (-1), .string (tx ++ ⟨#[122]⟩), (.slice none 0 0), .int .i64 0, .int .i64 0, .bool false] none 0 [] := ((S8.out.put 4 (.string (tx ++ ⟨#[122]⟩))).put 3 (.int .i64 (-1))).step hb
          have S9 := Lib.hid hS9
          clear hb hS9 c0 c1 c2 c3 c4 c5 c6 c7 c8 f0 f1 f2 f3 f4 f5 f6 f7 f8 S8
          obtain ⟨c0, c1, c2, c3, c4, c5, c6, c7, c8⟩ := S9.out.nine
          obtain ⟨f0, f1, f2, f3, f4, f5, f6, f7, f8⟩ := S9.out.fz
          go_wp2_with fail
          refine (asked_any 2 3 1 (-1) ⟨#[122]⟩ none 0 _ [] 0 0 false 1048576 12 1 0 0 (chk_z) _ (small_le (by decide)) (by decide) (S9.out.put 4 (.string ⟨#[122]⟩)).rng (HG.out.below (S9.out.put 4 (.string ⟨#[122]⟩)).below) (by rw [insE_at (by decide)]; rfl)).mono ?_
          rintro e w10 ⟨rfl, hb⟩
          have hS10 : St w1 w10 B #[.int .i64 2, .int .i64 3, .int .i64 1, .int .i64 (-1), .string ⟨#[122]⟩, (.slice none 0 0), .int .i64 0, .int .i64 0, .bool false] none 0 [] := (S9.out.put 4 (.string ⟨#[122]⟩)).step hb
          have S10 := Lib.hid hS10
          clear hb hS10 c0 c1 c2 c3 c4 c5 c6 c7 c8 f0 f1 f2 f3 f4 f5 f6 f7 f8 S9
          obtain ⟨c0, c1, c2, c3, c4, c5, c6, c7, c8⟩ := S10.out.nine
          obtain ⟨f0, f1, f2, f3, f4, f5, f6, f7, f8⟩ := S10.out.fz
          go_wp2_with fail
          go_ret
          exact ⟨rfl, S10.out.below⟩
end Go.Proofs.YtiagimmdohpddabDoor.O
