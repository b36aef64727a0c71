/- The walk of UtextLetsIn: for every byte and every number it answers true. -/
import Derived.Test.YtekibfhlkocdlaaDoorULet
namespace Go.Proofs.YtekibfhlkocdlaaDoor.U
open Go.RowKit Go.Proofs.YtekibfhlkocdlaaDoor.Txt
set_option linter.unusedVariables false
set_option linter.unusedSimpArgs false

/-- Check's answer where it is known. -/
theorem check_at (s : ByteArray) (n a e : Int) (w : World) (hs : s.size ≤ maxLen) (hg : Bars w) (h : ((chk s.data.toList).1 : Int) = n ∧ ((chk s.data.toList).2.1 : Int) = a ∧ ((chk s.data.toList).2.2 : Int) = e) :
    Calls Tryd.prog 15 #[.string s] w fun e' w' => e' = .returned (.tuple #[.int .i64 n, .int .i64 a, .int .i64 e]) ∧ Below w.heap.size w w' := by
  refine (check_any s w hs hg).mono ?_
  rintro e' w' ⟨rfl, hb⟩
  rw [chkOut, h.1, h.2.1, h.2.2]
  exact ⟨rfl, hb⟩

theorem pick_any (k n : Int) (w : World) (h0 : 0 < n) (h1 : n ≤ 9223372036854775807) (h2 : -9223372036854775808 ≤ k) (h3 : k ≤ 9223372036854775807) :
    Calls Tryd.prog 16 #[.int .i64 k, .int .i64 n] w fun e w' => e = .returned (.int .i64 (k % n)) ∧ w = w' := by
  have hb1 : k.tmod n < n := Int.tmod_lt_of_pos k h0
  have hb2 : -n < k.tmod n := Int.lt_tmod_of_pos k h0
  have he := Int.emod_nonneg k (show n ≠ 0 by omega)
  have he2 := Int.emod_lt_of_pos k h0
  have hd := Int.tmod_eq_emod (a := k) (b := n)
  have ha : (n.natAbs : Int) = n := by omega
  by_cases hk : k.tmod n < 0
  · have e : k.tmod n + n = k % n := by
      rw [hd] at hk ⊢
      split at hk <;> rename_i hc <;> simp only [hc, if_true, if_false] at * <;> omega
    have HE := Lib.hid e
    clear e he he2 hd
    go_enter Tryd.func16, Tryd.ntmps16
    go_wp2
    go_ret
    exact ⟨ret_int HE.out, rfl⟩
  · have e : k.tmod n = k % n := by
      rw [hd] at hk ⊢
      split at hk <;> rename_i hc <;> simp only [hc, if_true, if_false] at * <;> omega
    have HE := Lib.hid e
    clear e he he2 hd
    go_enter Tryd.func16, Tryd.ntmps16
    go_wp2
    go_ret
    exact ⟨ret_int HE.out, rfl⟩

theorem run_bytes (W : World) (ad : Addr) (c : Nat) (ns : List Int) (h : ∀ j, j < ns.length → W.cell? (ad.add j) = some (.int .u8 (ns.getD j 0))) :
    (convert 30 9 (.slice (some ad) ns.length c)).run Tryd.prog W = .ok (.string (ns.foldl (fun r n => r.push (UInt8.ofNat n.toNat)) ByteArray.empty)) W := by
  rw [run_convert_bytes_string W _ _ _ _ _ _ Tryd.underlying30 Tryd.underlying5 Tryd.underlying9]
  apply run_bytesToString
  rw [run_loadCells W ad ns.length (fun j => .int .u8 (ns.getD j 0)) h, range_map_take _ ns ns.length (Nat.le_refl _), List.take_length]
theorem conv1 (w : World) (a : Int) : (convert 30 9 (.slice (some ⟨w.heap.size, 0, none⟩) 1 1)).run Tryd.prog (w.alloc (.cells #[.int .u8 a] 5)) =
    .ok (.string ⟨#[UInt8.ofNat a.toNat]⟩) (w.alloc (.cells #[.int .u8 a] 5)) :=
  run_bytes _ _ 1 [a] fun j hj => by
    obtain rfl : j = 0 := by simp at hj; omega
    exact World.cell?_alloc_at _ _ _ _ rfl
theorem conv2 (w : World) (a b : Int) : (convert 30 9 (.slice (some ⟨w.heap.size, 0, none⟩) 2 2)).run Tryd.prog (w.alloc (.cells #[.int .u8 a, .int .u8 b] 5)) =
    .ok (.string ⟨#[UInt8.ofNat a.toNat, UInt8.ofNat b.toNat]⟩) (w.alloc (.cells #[.int .u8 a, .int .u8 b] 5)) :=
  run_bytes _ _ 2 [a, b] fun j hj => by
    obtain rfl | rfl : j = 0 ∨ j = 1 := by simp at hj; omega
    · exact World.cell?_alloc_at _ _ _ _ rfl
    · exact World.cell?_alloc_at _ _ _ _ rfl
theorem conv3 (w : World) (a b c : Int) : (convert 30 9 (.slice (some ⟨w.heap.size, 0, none⟩) 3 3)).run Tryd.prog (w.alloc (.cells #[.int .u8 a, .int .u8 b, .int .u8 c] 5)) =
    .ok (.string ⟨#[UInt8.ofNat a.toNat, UInt8.ofNat b.toNat, UInt8.ofNat c.toNat]⟩) (w.alloc (.cells #[.int .u8 a, .int .u8 b, .int .u8 c] 5)) :=
  run_bytes _ _ 3 [a, b, c] fun j hj => by
    obtain rfl | rfl | rfl : j = 0 ∨ j = 1 ∨ j = 2 := by simp at hj; omega
    · exact World.cell?_alloc_at _ _ _ _ rfl
    · exact World.cell?_alloc_at _ _ _ _ rfl
    · exact World.cell?_alloc_at _ _ _ _ rfl

def b8 (n : Int) : UInt8 := UInt8.ofNat n.toNat
theorem one_all : ∀ b : Fin 256, chk [UInt8.ofNat b.val] = if b.val = 9 ∨ b.val = 10 ∨ (32 ≤ b.val ∧ b.val ≤ 126) then (1, 0, 0) else if 128 ≤ b.val then (0, 0, 10) else (0, 0, 11) := by decide +kernel
theorem two_all : ∀ d : Fin 2048, chk [237, UInt8.ofNat (160 + d.val / 64), UInt8.ofNat (128 + d.val % 64)] = (0, 0, 10) ∧ chk [224, UInt8.ofNat (128 + d.val / 64), UInt8.ofNat (128 + d.val % 64)] = (0, 0, 10) ∧ chk [UInt8.ofNat (192 + d.val % 128 / 64), UInt8.ofNat (128 + d.val % 64)] = (0, 0, 10) := by decide +kernel

/-- A byte's class: what Check says of it. -/
structure Cls (b n e : Int) : Prop where
  out : ((chk [UInt8.ofNat b.toNat]).1 : Int) = n ∧ ((chk [UInt8.ofNat b.toNat]).2.1 : Int) = 0 ∧ ((chk [UInt8.ofNat b.toNat]).2.2 : Int) = e
theorem cls_good (b : Int) (h : b = 9 ∨ b = 10 ∨ (32 ≤ b ∧ b ≤ 126)) : Cls b 1 0 := by
  have H := one_all ⟨b.toNat, by omega⟩
  rw [if_pos (by simp only []; omega)] at H
  exact ⟨by rw [H]; exact ⟨rfl, rfl, rfl⟩⟩
theorem cls_high (b : Int) (h : 128 ≤ b ∧ b < 256) : Cls b 0 10 := by
  have H := one_all ⟨b.toNat, by omega⟩
  rw [if_neg (by simp only []; omega), if_pos (by simp only []; omega)] at H
  exact ⟨by rw [H]; exact ⟨rfl, rfl, rfl⟩⟩
theorem cls_bad (b : Int) (h0 : 0 ≤ b) (h : b < 9 ∨ (10 < b ∧ b < 32) ∨ b = 127) : Cls b 0 11 := by
  have H := one_all ⟨b.toNat, by omega⟩
  rw [if_neg (by simp only []; omega), if_neg (by simp only []; omega)] at H
  exact ⟨by rw [H]; exact ⟨rfl, rfl, rfl⟩⟩

theorem two_at (d : Int) (h0 : 0 ≤ d) (h1 : d < 2048) :
    (((chk [237, UInt8.ofNat (160 + d / 64).toNat, UInt8.ofNat (128 + d % 64).toNat]).1 : Int) = 0 ∧ ((chk [237, UInt8.ofNat (160 + d / 64).toNat, UInt8.ofNat (128 + d % 64).toNat]).2.1 : Int) = 0 ∧ ((chk [237, UInt8.ofNat (160 + d / 64).toNat, UInt8.ofNat (128 + d % 64).toNat]).2.2 : Int) = 10) ∧
    (((chk [224, UInt8.ofNat (128 + d / 64).toNat, UInt8.ofNat (128 + d % 64).toNat]).1 : Int) = 0 ∧ ((chk [224, UInt8.ofNat (128 + d / 64).toNat, UInt8.ofNat (128 + d % 64).toNat]).2.1 : Int) = 0 ∧ ((chk [224, UInt8.ofNat (128 + d / 64).toNat, UInt8.ofNat (128 + d % 64).toNat]).2.2 : Int) = 10) ∧
    (((chk [UInt8.ofNat (192 + d % 128 / 64).toNat, UInt8.ofNat (128 + d % 64).toNat]).1 : Int) = 0 ∧ ((chk [UInt8.ofNat (192 + d % 128 / 64).toNat, UInt8.ofNat (128 + d % 64).toNat]).2.1 : Int) = 0 ∧ ((chk [UInt8.ofNat (192 + d % 128 / 64).toNat, UInt8.ofNat (128 + d % 64).toNat]).2.2 : Int) = 10) := by
  have H := two_all ⟨d.toNat, by omega⟩
  simp only [] at H
  rw [show (160 + d / 64).toNat = 160 + d.toNat / 64 by omega, show (128 + d % 64).toNat = 128 + d.toNat % 64 by omega, show (128 + d / 64).toNat = 128 + d.toNat / 64 by omega, show (192 + d % 128 / 64).toNat = 192 + d.toNat % 128 / 64 by omega, H.1, H.2.1, H.2.2]
  exact ⟨⟨rfl, rfl, rfl⟩, ⟨rfl, rfl, rfl⟩, ⟨rfl, rfl, rfl⟩⟩

set_option maxRecDepth 100000 in
set_option maxHeartbeats 8000000 in
theorem letsIn_walk (b r : Int) (w : World) (hb : 0 ≤ b ∧ b < 256) (hr : -9223372036854775808 ≤ r ∧ r ≤ 9223372036854775807) (hg : Bars w) :
    Calls Tryd.prog 4 #[.int .u8 b, .int .i64 r] w fun e w' => e = .returned (.bool true) ∧ Below w.heap.size w w' := by
  obtain ⟨hb0, hb1⟩ := hb
  obtain ⟨hr0, hr1⟩ := hr
  have HG := Lib.hid hg
  clear hg
  have c1 := conv1
  have c2 := conv2
  have c3 := conv3
  have HC : (b < 9 ∨ (10 < b ∧ b < 32)) ∨ (32 ≤ b ∧ b ≤ 126) ∨ 128 ≤ b ∨ b = 127 ∨ b = 9 ∨ b = 10 := by omega
  rcases HC with h | h | h | rfl | rfl | rfl
  · have b9 : (b == 9) = false := by simp; omega
    have b10 : (b == 10) = false := by simp; omega
    have HC := cls_bad b hb0 (by omega)
    go_enter Tryd.func4, Tryd.ntmps4
    go_wp2_with fail
    refine (check_at _ 0 0 11 _ (by show 1 ≤ maxLen; unfold maxLen; omega) (HG.out.below ((Below.refl _ _).alloc (Nat.le_refl _) _)) HC.out).mono ?_
    rintro e w1 ⟨rfl, hb1⟩
    have HB1 := Lib.hid (((Below.refl w.heap.size w).alloc (Nat.le_refl _) _).trans (hb1.mono (by simp)))
    clear hb1
    go_wp2_with fail
    refine (pick_any r 2048 _ (by omega) (by omega) hr0 hr1).mono ?_
    rintro e w' ⟨rfl, rfl⟩
    have hd0 := Int.emod_nonneg r (show (2048 : Int) ≠ 0 by omega)
    have hd1 := Int.emod_lt_of_pos r (show (0 : Int) < 2048 by omega)
    generalize r % 2048 = d at *
    have HT := Lib.hid (two_at d hd0 hd1)
    go_wp2_with fail
    refine (check_at _ 0 0 10 _ (by show 3 ≤ maxLen; unfold maxLen; omega) (HG.out.below (HB1.out.alloc HB1.out.size _)) HT.out.1).mono ?_
    rintro e w2 ⟨rfl, hb2⟩
    have HB2 := Lib.hid ((HB1.out.alloc HB1.out.size _).trans (hb2.mono (by have := HB1.out.size; simp; omega)))
    clear hb2
    go_wp2_with fail
    refine (check_at _ 0 0 10 _ (by show 3 ≤ maxLen; unfold maxLen; omega) (HG.out.below (HB2.out.alloc HB2.out.size _)) HT.out.2.1).mono ?_
    rintro e w3 ⟨rfl, hb3⟩
    have HB3 := Lib.hid ((HB2.out.alloc HB2.out.size _).trans (hb3.mono (by have := HB2.out.size; simp; omega)))
    clear hb3
    go_wp2_with fail
    refine (check_at _ 0 0 10 _ (by show 2 ≤ maxLen; unfold maxLen; omega) (HG.out.below (HB3.out.alloc HB3.out.size _)) HT.out.2.2).mono ?_
    rintro e w4 ⟨rfl, hb4⟩
    have HB4 := Lib.hid ((HB3.out.alloc HB3.out.size _).trans (hb4.mono (by have := HB3.out.size; simp; omega)))
    clear hb4
    go_wp2_with fail
    go_ret
    exact ⟨rfl, HB4.out⟩
  · have b9 : (b == 9) = false := by simp; omega
    have b10 : (b == 10) = false := by simp; omega
    have HC := cls_good b (by omega)
    go_enter Tryd.func4, Tryd.ntmps4
    go_wp2_with fail
    refine (check_at _ 1 0 0 _ (by show 1 ≤ maxLen; unfold maxLen; omega) (HG.out.below ((Below.refl _ _).alloc (Nat.le_refl _) _)) HC.out).mono ?_
    rintro e w1 ⟨rfl, hb1⟩
    have HB1 := Lib.hid (((Below.refl w.heap.size w).alloc (Nat.le_refl _) _).trans (hb1.mono (by simp)))
    clear hb1
    go_wp2_with fail
    refine (pick_any r 2048 _ (by omega) (by omega) hr0 hr1).mono ?_
    rintro e w' ⟨rfl, rfl⟩
    have hd0 := Int.emod_nonneg r (show (2048 : Int) ≠ 0 by omega)
    have hd1 := Int.emod_lt_of_pos r (show (0 : Int) < 2048 by omega)
    generalize r % 2048 = d at *
    have HT := Lib.hid (two_at d hd0 hd1)
    go_wp2_with fail
    refine (check_at _ 0 0 10 _ (by show 3 ≤ maxLen; unfold maxLen; omega) (HG.out.below (HB1.out.alloc HB1.out.size _)) HT.out.1).mono ?_
    rintro e w2 ⟨rfl, hb2⟩
    have HB2 := Lib.hid ((HB1.out.alloc HB1.out.size _).trans (hb2.mono (by have := HB1.out.size; simp; omega)))
    clear hb2
    go_wp2_with fail
    refine (check_at _ 0 0 10 _ (by show 3 ≤ maxLen; unfold maxLen; omega) (HG.out.below (HB2.out.alloc HB2.out.size _)) HT.out.2.1).mono ?_
    rintro e w3 ⟨rfl, hb3⟩
    have HB3 := Lib.hid ((HB2.out.alloc HB2.out.size _).trans (hb3.mono (by have := HB2.out.size; simp; omega)))
    clear hb3
    go_wp2_with fail
    refine (check_at _ 0 0 10 _ (by show 2 ≤ maxLen; unfold maxLen; omega) (HG.out.below (HB3.out.alloc HB3.out.size _)) HT.out.2.2).mono ?_
    rintro e w4 ⟨rfl, hb4⟩
    have HB4 := Lib.hid ((HB3.out.alloc HB3.out.size _).trans (hb4.mono (by have := HB3.out.size; simp; omega)))
    clear hb4
    go_wp2_with fail
    go_ret
    exact ⟨rfl, HB4.out⟩
  · have b9 : (b == 9) = false := by simp; omega
    have b10 : (b == 10) = false := by simp; omega
    have HC := cls_high b (by omega)
    go_enter Tryd.func4, Tryd.ntmps4
    go_wp2_with fail
    refine (check_at _ 0 0 10 _ (by show 1 ≤ maxLen; unfold maxLen; omega) (HG.out.below ((Below.refl _ _).alloc (Nat.le_refl _) _)) HC.out).mono ?_
    rintro e w1 ⟨rfl, hb1⟩
    have HB1 := Lib.hid (((Below.refl w.heap.size w).alloc (Nat.le_refl _) _).trans (hb1.mono (by simp)))
    clear hb1
    go_wp2_with fail
    refine (pick_any r 2048 _ (by omega) (by omega) hr0 hr1).mono ?_
    rintro e w' ⟨rfl, rfl⟩
    have hd0 := Int.emod_nonneg r (show (2048 : Int) ≠ 0 by omega)
    have hd1 := Int.emod_lt_of_pos r (show (0 : Int) < 2048 by omega)
    generalize r % 2048 = d at *
    have HT := Lib.hid (two_at d hd0 hd1)
    go_wp2_with fail
    refine (check_at _ 0 0 10 _ (by show 3 ≤ maxLen; unfold maxLen; omega) (HG.out.below (HB1.out.alloc HB1.out.size _)) HT.out.1).mono ?_
    rintro e w2 ⟨rfl, hb2⟩
    have HB2 := Lib.hid ((HB1.out.alloc HB1.out.size _).trans (hb2.mono (by have := HB1.out.size; simp; omega)))
    clear hb2
    go_wp2_with fail
    refine (check_at _ 0 0 10 _ (by show 3 ≤ maxLen; unfold maxLen; omega) (HG.out.below (HB2.out.alloc HB2.out.size _)) HT.out.2.1).mono ?_
    rintro e w3 ⟨rfl, hb3⟩
    have HB3 := Lib.hid ((HB2.out.alloc HB2.out.size _).trans (hb3.mono (by have := HB2.out.size; simp; omega)))
    clear hb3
    go_wp2_with fail
    refine (check_at _ 0 0 10 _ (by show 2 ≤ maxLen; unfold maxLen; omega) (HG.out.below (HB3.out.alloc HB3.out.size _)) HT.out.2.2).mono ?_
    rintro e w4 ⟨rfl, hb4⟩
    have HB4 := Lib.hid ((HB3.out.alloc HB3.out.size _).trans (hb4.mono (by have := HB3.out.size; simp; omega)))
    clear hb4
    go_wp2_with fail
    go_ret
    exact ⟨rfl, HB4.out⟩
  · have HC := cls_bad 127 hb0 (by omega)
    go_enter Tryd.func4, Tryd.ntmps4
    go_wp2_with fail
    refine (check_at _ 0 0 11 _ (by show 1 ≤ maxLen; unfold maxLen; omega) (HG.out.below ((Below.refl _ _).alloc (Nat.le_refl _) _)) HC.out).mono ?_
    rintro e w1 ⟨rfl, hb1⟩
    have HB1 := Lib.hid (((Below.refl w.heap.size w).alloc (Nat.le_refl _) _).trans (hb1.mono (by simp)))
    clear hb1
    go_wp2_with fail
    refine (pick_any r 2048 _ (by omega) (by omega) hr0 hr1).mono ?_
    rintro e w' ⟨rfl, rfl⟩
    have hd0 := Int.emod_nonneg r (show (2048 : Int) ≠ 0 by omega)
    have hd1 := Int.emod_lt_of_pos r (show (0 : Int) < 2048 by omega)
    generalize r % 2048 = d at *
    have HT := Lib.hid (two_at d hd0 hd1)
    go_wp2_with fail
    refine (check_at _ 0 0 10 _ (by show 3 ≤ maxLen; unfold maxLen; omega) (HG.out.below (HB1.out.alloc HB1.out.size _)) HT.out.1).mono ?_
    rintro e w2 ⟨rfl, hb2⟩
    have HB2 := Lib.hid ((HB1.out.alloc HB1.out.size _).trans (hb2.mono (by have := HB1.out.size; simp; omega)))
    clear hb2
    go_wp2_with fail
    refine (check_at _ 0 0 10 _ (by show 3 ≤ maxLen; unfold maxLen; omega) (HG.out.below (HB2.out.alloc HB2.out.size _)) HT.out.2.1).mono ?_
    rintro e w3 ⟨rfl, hb3⟩
    have HB3 := Lib.hid ((HB2.out.alloc HB2.out.size _).trans (hb3.mono (by have := HB2.out.size; simp; omega)))
    clear hb3
    go_wp2_with fail
    refine (check_at _ 0 0 10 _ (by show 2 ≤ maxLen; unfold maxLen; omega) (HG.out.below (HB3.out.alloc HB3.out.size _)) HT.out.2.2).mono ?_
    rintro e w4 ⟨rfl, hb4⟩
    have HB4 := Lib.hid ((HB3.out.alloc HB3.out.size _).trans (hb4.mono (by have := HB3.out.size; simp; omega)))
    clear hb4
    go_wp2_with fail
    go_ret
    exact ⟨rfl, HB4.out⟩
  · have HC := cls_good 9 (by omega)
    go_enter Tryd.func4, Tryd.ntmps4
    go_wp2_with fail
    refine (check_at _ 1 0 0 _ (by show 1 ≤ maxLen; unfold maxLen; omega) (HG.out.below ((Below.refl _ _).alloc (Nat.le_refl _) _)) HC.out).mono ?_
    rintro e w1 ⟨rfl, hb1⟩
    have HB1 := Lib.hid (((Below.refl w.heap.size w).alloc (Nat.le_refl _) _).trans (hb1.mono (by simp)))
    clear hb1
    go_wp2_with fail
    refine (pick_any r 2048 _ (by omega) (by omega) hr0 hr1).mono ?_
    rintro e w' ⟨rfl, rfl⟩
    have hd0 := Int.emod_nonneg r (show (2048 : Int) ≠ 0 by omega)
    have hd1 := Int.emod_lt_of_pos r (show (0 : Int) < 2048 by omega)
    generalize r % 2048 = d at *
    have HT := Lib.hid (two_at d hd0 hd1)
    go_wp2_with fail
    refine (check_at _ 0 0 10 _ (by show 3 ≤ maxLen; unfold maxLen; omega) (HG.out.below (HB1.out.alloc HB1.out.size _)) HT.out.1).mono ?_
    rintro e w2 ⟨rfl, hb2⟩
    have HB2 := Lib.hid ((HB1.out.alloc HB1.out.size _).trans (hb2.mono (by have := HB1.out.size; simp; omega)))
    clear hb2
    go_wp2_with fail
    refine (check_at _ 0 0 10 _ (by show 3 ≤ maxLen; unfold maxLen; omega) (HG.out.below (HB2.out.alloc HB2.out.size _)) HT.out.2.1).mono ?_
    rintro e w3 ⟨rfl, hb3⟩
    have HB3 := Lib.hid ((HB2.out.alloc HB2.out.size _).trans (hb3.mono (by have := HB2.out.size; simp; omega)))
    clear hb3
    go_wp2_with fail
    refine (check_at _ 0 0 10 _ (by show 2 ≤ maxLen; unfold maxLen; omega) (HG.out.below (HB3.out.alloc HB3.out.size _)) HT.out.2.2).mono ?_
    rintro e w4 ⟨rfl, hb4⟩
    have HB4 := Lib.hid ((HB3.out.alloc HB3.out.size _).trans (hb4.mono (by have := HB3.out.size; simp; omega)))
    clear hb4
    go_wp2_with fail
    go_ret
    exact ⟨rfl, HB4.out⟩
  · have HC := cls_good 10 (by omega)
    go_enter Tryd.func4, Tryd.ntmps4
    go_wp2_with fail
    refine (check_at _ 1 0 0 _ (by show 1 ≤ maxLen; unfold maxLen; omega) (HG.out.below ((Below.refl _ _).alloc (Nat.le_refl _) _)) HC.out).mono ?_
    rintro e w1 ⟨rfl, hb1⟩
    have HB1 := Lib.hid (((Below.refl w.heap.size w).alloc (Nat.le_refl _) _).trans (hb1.mono (by simp)))
    clear hb1
    go_wp2_with fail
    refine (pick_any r 2048 _ (by omega) (by omega) hr0 hr1).mono ?_
    rintro e w' ⟨rfl, rfl⟩
    have hd0 := Int.emod_nonneg r (show (2048 : Int) ≠ 0 by omega)
    have hd1 := Int.emod_lt_of_pos r (show (0 : Int) < 2048 by omega)
    generalize r % 2048 = d at *
    have HT := Lib.hid (two_at d hd0 hd1)
    go_wp2_with fail
    refine (check_at _ 0 0 10 _ (by show 3 ≤ maxLen; unfold maxLen; omega) (HG.out.below (HB1.out.alloc HB1.out.size _)) HT.out.1).mono ?_
    rintro e w2 ⟨rfl, hb2⟩
    have HB2 := Lib.hid ((HB1.out.alloc HB1.out.size _).trans (hb2.mono (by have := HB1.out.size; simp; omega)))
    clear hb2
    go_wp2_with fail
    refine (check_at _ 0 0 10 _ (by show 3 ≤ maxLen; unfold maxLen; omega) (HG.out.below (HB2.out.alloc HB2.out.size _)) HT.out.2.1).mono ?_
    rintro e w3 ⟨rfl, hb3⟩
    have HB3 := Lib.hid ((HB2.out.alloc HB2.out.size _).trans (hb3.mono (by have := HB2.out.size; simp; omega)))
    clear hb3
    go_wp2_with fail
    refine (check_at _ 0 0 10 _ (by show 2 ≤ maxLen; unfold maxLen; omega) (HG.out.below (HB3.out.alloc HB3.out.size _)) HT.out.2.2).mono ?_
    rintro e w4 ⟨rfl, hb4⟩
    have HB4 := Lib.hid ((HB3.out.alloc HB3.out.size _).trans (hb4.mono (by have := HB3.out.size; simp; omega)))
    clear hb4
    go_wp2_with fail
    go_ret
    exact ⟨rfl, HB4.out⟩
end Go.Proofs.YtekibfhlkocdlaaDoor.U
