/- Exact laws, quotes: the reference's piece, at \u. -/
import Derived.Test.YtfgekdefnbohbaaDoorRPiece2
namespace Go.Proofs.YtfgekdefnbohbaaDoor.U
open Go.RowKit Go.Proofs.YtfgekdefnbohbaaDoor.Txt
set_option linter.unusedVariables false
set_option linter.unusedSimpArgs false
attribute [local go_sem] frozen?_alloc_cells

set_option maxRecDepth 100000 in
set_option maxHeartbeats 4000000 in
theorem refpiece_u (s : ByteArray) (i : Nat) (t : List UInt8) (w : World) (hs : s.size ≤ 1000000000000) (hd : s.data.toList.drop i = 92 :: 117 :: 123 :: t) :
    Calls Tryd.prog 64 #[.string s, .int .i64 i] w fun e w' => PieceRes w (s.data.toList.drop i) e w' ∧ Below w.heap.size w w' := by
  have hi : ∀ w, (Instr.index 9 (.string s) (.int .i64 i)).run Tryd.prog w = .ok (.int .u8 92) w := byte_at s i 92 _ hd
  have j0 : ∀ w, (Instr.index 9 (.string s) (.int .i64 ((i : Int) + 1))).run Tryd.prog w = .ok (.int .u8 117) w := byte_plus s i 1 117 _ (by rw [hd]; rfl)
  have j2 : ∀ w, (Instr.index 9 (.string s) (.int .i64 ((i : Int) + 2))).run Tryd.prog w = .ok (.int .u8 123) w := byte_plus s i 2 123 _ (by rw [hd]; rfl)
  have hsz : s.size = i + 3 + t.length := by
    have := congrArg List.length hd
    rw [List.length_drop, size_toList] at this
    simp at this; omega
  have HJ := Lib.hid (fun (j : Nat) (c : UInt8) (u : List UInt8) (h : t.drop j = c :: u) => byte_at s (i + 3 + j) c u (by
    rw [show i + 3 + j = i + (3 + j) by omega, ← List.drop_drop, hd, ← List.drop_drop]; exact h))
  have hp : pieceL (92 :: 117 :: 123 :: t) = match uF 7 0 t 0 with | none => ([], 0) | some (r, k) => (bytesR r, k + 4) := by cases h : uF 7 0 t 0 <;> simp [pieceL, h]
  have HP := Lib.hid hp
  have g1 : ¬ s.size ≤ i + 1 := by omega
  have g2 : i ≤ 1000000000000 := by omega
  have g3 : (i : Int) + 2 < s.size := by omega
  have g3' : i + 2 < s.size := by omega
  have HSZ := Lib.hid hsz
  rw [hd]
  clear hd hp hsz
  go_enter Tryd.func64, Tryd.ntmps64
  go_wp2_with fail
  go_loop [8, 9] (fun v k => ∃ (j r : Nat), k = .int .i64 ((i + 3 + j : Nat) : Int) ∧ v = .int .i64 r ∧ j ≤ 7 ∧ r < 16 ^ j ∧ uF 7 0 t 0 = uF (7 - j) r (t.drop j) j) (fun _ k => i + 10 - (intOf k).toNat)
  case atStart => exact ⟨0, 0, by go_num, rfl, by decide, by decide, rfl⟩
  case round =>
    obtain ⟨j, r, rfl, rfl, hj, hr, hu⟩ := hrel
    have hr6 : r < 268435456 := Nat.lt_of_lt_of_le hr (by have : 16 ^ j ≤ 16 ^ 7 := Nat.pow_le_pow_right (by decide) hj; omega)
    obtain ⟨k, hk⟩ : ∃ k, i + 3 + j = k := ⟨_, rfl⟩
    have HK := Lib.hid hk
    rw [hk]
    have hkb : k ≤ 1000000000010 := by omega
    by_cases hj7 : j = 7
    · have HN := Lib.hid (show pieceL (92 :: 117 :: 123 :: t) = ([], 0) by rw [HP.out, hu, hj7]; rfl)
      have e1 : ¬ (k : Int) < (i : Int) + 10 := by omega
      clear hu hr hk
      by_cases hl : k < s.size
      all_goals
        go_wp2_with fail
        go_ret2
        exact ⟨piece_none HN.out, Below.refl _ _⟩
    obtain ⟨f, hf⟩ : ∃ f, 7 - j = f + 1 := ⟨6 - j, by omega⟩
    rw [hf] at hu
    have e1 : (k : Int) < (i : Int) + 10 := by omega
    cases hdj : t.drop j with
    | nil =>
      rw [hdj] at hu
      have HN := Lib.hid (show pieceL (92 :: 117 :: 123 :: t) = ([], 0) by rw [HP.out, hu]; rfl)
      have hl : ¬ k < s.size := by
        have := congrArg List.length hdj
        rw [List.length_drop] at this
        have := HSZ.out
        simp at *; omega
      clear hu hr hk hdj
      go_wp2_with fail
      go_ret2
      exact ⟨piece_none HN.out, Below.refl _ _⟩
    | cons c u =>
      have hl : k < s.size := by
        have := congrArg List.length hdj
        rw [List.length_drop] at this
        have := HSZ.out
        simp at *; omega
      have hc := HJ.out j c u hdj
      rw [hk] at hc
      have hdj1 : t.drop (j + 1) = u := by rw [← List.drop_drop, hdj]; rfl
      rw [hdj] at hu
      simp only [uF] at hu
      by_cases h125 : c = 125
      · subst h125
        rw [if_pos rfl] at hu
        have hc2 : ∀ w, (Instr.index 9 (.string s) (.int .i64 k)).run Tryd.prog w = .ok (.int .u8 125) w := hc
        clear hc
        by_cases hj0 : j = 0
        · rw [if_pos (.inl hj0)] at hu
          have HN := Lib.hid (show pieceL (92 :: 117 :: 123 :: t) = ([], 0) by rw [HP.out, hu])
          have e2 : (k : Int) = (i : Int) + 3 := by omega
          have e3 : ((k : Int) == (i : Int) + 3) = true := by simp [e2]
          clear hu hr hk hdj hdj1 hj0 e2
          go_wp2_with fail
          go_ret2
          exact ⟨piece_none HN.out, Below.refl _ _⟩
        have e3 : ((k : Int) == (i : Int) + 3) = false := by simp; omega
        by_cases hbig : 1114111 < r
        · rw [if_pos (.inr hbig)] at hu
          have HN := Lib.hid (show pieceL (92 :: 117 :: 123 :: t) = ([], 0) by rw [HP.out, hu])
          clear hu hr hk hdj hdj1 hj0
          go_wp2_with fail
          go_ret2
          exact ⟨piece_none HN.out, Below.refl _ _⟩
        · rw [if_neg (by omega)] at hu
          have HN := Lib.hid (show pieceL (92 :: 117 :: 123 :: t) = (bytesR r, j + 4) by rw [HP.out, hu])
          have HKJ := Lib.hid (show (k : Int) + 1 - (i : Int) = ((j + 4 : Nat) : Int) by omega)
          clear hu hr hk hdj hdj1 hj0
          go_wp2_with fail
          refine (Bytes_any r _ (by omega)).mono ?_
          rintro e w2 ⟨rfl, rfl⟩
          go_wp2_with fail
          go_ret2
          have P := piece_some (w := w) (w1 := w) 5 HN.out (by omega) (Nat.le_refl _)
          exact ⟨by rw [← HKJ.out] at P; exact P, (Below.refl _ _).alloc (Nat.le_refl _) _⟩
      · rw [if_neg h125] at hu
        have hcn : ¬ c.toNat = 125 := fun e => h125 (UInt8.toNat_inj.1 e)
        have b125 : ((c.toNat : Int) == 125) = false := by simp; omega
        have ho : hexO c = match hexW c with | none => -1 | some d => (d : Int) := rfl
        cases hw : hexW c with
        | none =>
          rw [hw] at hu ho
          have HN := Lib.hid (show pieceL (92 :: 117 :: 123 :: t) = ([], 0) by rw [HP.out, hu])
          have HO := Lib.hid (show hexO c = -1 from ho)
          clear hu hr hk hdj hdj1 ho hw hcn h125
          go_wp2_with fail
          refine (hex_any c _).mono ?_
          rintro e w2 ⟨rfl, rfl⟩
          rw [HO.out]
          go_wp2_with fail
          go_ret2
          exact ⟨piece_none HN.out, Below.refl _ _⟩
        | some d =>
          rw [hw] at hu ho
          have hd16 := hexW_lt c d hw
          have HO := Lib.hid (show hexO c = (d : Int) from ho)
          have HU := Lib.hid (show uF 7 0 t 0 = uF (7 - (j + 1)) (16 * r + d) (t.drop (j + 1)) (j + 1) by rw [hu, hdj1, show 7 - (j + 1) = f by omega])
          have HR := Lib.hid (show 16 * r + d < 16 ^ (j + 1) by rw [Nat.pow_succ]; omega)
          have d0 : ¬ (d : Int) < 0 := by omega
          clear hu hr hk hdj hdj1 ho hw hcn h125
          go_wp2_with fail
          refine (hex_any c _).mono ?_
          rintro e w2 ⟨rfl, rfl⟩
          rw [HO.out]
          go_wp2_with fail
          go_round
          case rel => exact ⟨j + 1, 16 * r + d, by rw [show i + 3 + (j + 1) = k + 1 by have := HK.out; omega]; go_num, by go_num, by omega, HR.out, HU.out⟩
          case measure => have := HK.out; simp [intOf]; omega

set_option maxRecDepth 100000 in
set_option maxHeartbeats 4000000 in
theorem refpiece_u0 (s : ByteArray) (i : Nat) (t : List UInt8) (w : World) (hs : s.size ≤ 1000000000000) (hd : s.data.toList.drop i = 92 :: 117 :: t) (ht : t = [] ∨ ∃ o u, t = o :: u ∧ o ≠ 123) :
    Calls Tryd.prog 64 #[.string s, .int .i64 i] w fun e w' => PieceRes w (s.data.toList.drop i) e w' ∧ Below w.heap.size w w' := by
  have hi : ∀ w, (Instr.index 9 (.string s) (.int .i64 i)).run Tryd.prog w = .ok (.int .u8 92) w := byte_at s i 92 _ hd
  have j0 : ∀ w, (Instr.index 9 (.string s) (.int .i64 ((i : Int) + 1))).run Tryd.prog w = .ok (.int .u8 117) w := byte_plus s i 1 117 _ (by rw [hd]; rfl)
  have hsz : s.size = i + 2 + t.length := by
    have := congrArg List.length hd
    rw [List.length_drop, size_toList] at this
    simp at this; omega
  have g1 : ¬ s.size ≤ i + 1 := by omega
  have g2 : i ≤ 1000000000000 := by omega
  rcases ht with rfl | ⟨o, u, rfl, ho⟩
  · have HP := Lib.hid (show pieceL [92, 117] = ([], 0) by simp [pieceL])
    have g3 : ¬ (i : Int) + 2 < s.size := by simp at hsz; omega
    have g3' : ¬ i + 2 < s.size := by simp at hsz; omega
    rw [hd]
    clear hd hsz
    go_enter Tryd.func64, Tryd.ntmps64
    go_wp2_with fail
    go_loop [8, 9] (fun v k => v = .int .i64 0 ∧ k = .int .i64 ((i : Int) + 3)) (fun _ k => (intOf k).toNat)
    case atStart => exact ⟨rfl, rfl⟩
    case round =>
      obtain ⟨rfl, rfl⟩ := hrel
      go_wp2_with fail
      go_ret2
      exact ⟨piece_none HP.out, Below.refl _ _⟩
  · have HP := Lib.hid (show pieceL (92 :: 117 :: o :: u) = ([], 0) by simp [pieceL, ho])
    have j2 : ∀ w, (Instr.index 9 (.string s) (.int .i64 ((i : Int) + 2))).run Tryd.prog w = .ok (.int .u8 (o.toNat : Int)) w := byte_plus s i 2 o _ (by rw [hd]; rfl)
    have hon : ¬ o.toNat = 123 := fun e => ho (UInt8.toNat_inj.1 e)
    have bo : ((o.toNat : Int) == 123) = false := by simp; omega
    have g3 : (i : Int) + 2 < s.size := by simp at hsz; omega
    have g3' : i + 2 < s.size := by simp at hsz; omega
    rw [hd]
    clear hd hsz ho hon
    go_enter Tryd.func64, Tryd.ntmps64
    go_wp2_with fail
    go_loop [8, 9] (fun v k => v = .int .i64 0 ∧ k = .int .i64 ((i : Int) + 3)) (fun _ k => (intOf k).toNat)
    case atStart => exact ⟨rfl, rfl⟩
    case round =>
      obtain ⟨rfl, rfl⟩ := hrel
      go_wp2_with fail
      go_ret2
      exact ⟨piece_none HP.out, Below.refl _ _⟩
/-- The reference's piece. -/
theorem piece_any (s : ByteArray) (i : Nat) (w : World) (hs : s.size ≤ 1000000000000) (hi : i < s.size) :
    Calls Tryd.prog 64 #[.string s, .int .i64 i] w fun e w' => PieceRes w (s.data.toList.drop i) e w' ∧ Below w.heap.size w w' := by
  cases hd : s.data.toList.drop i with
  | nil => exact absurd (congrArg List.length hd) (by rw [List.length_drop, size_toList]; simp; omega)
  | cons c t =>
    rw [← hd]
    by_cases hc : c = 92
    case neg => exact piece_plain s i c t w hs hd hc
    subst hc
    cases t with
    | nil => exact piece_end s i w hs hd
    | cons d t =>
      by_cases hx : d = 120
      · subst hx
        by_cases ht : t.length < 2
        · exact refpiece_x0 s i t w hs hd ht
        · match t, ht with
          | [], h => simp at h
          | [a], h => simp at h
          | a :: b :: t, _ => exact refpiece_x s i a b t w hs hd
      by_cases hu : d = 117
      · subst hu
        cases t with
        | nil => exact refpiece_u0 s i [] w hs hd (.inl rfl)
        | cons o t =>
          by_cases ho : o = 123
          · subst ho; exact refpiece_u s i t w hs hd
          · exact refpiece_u0 s i (o :: t) w hs hd (.inr ⟨o, t, rfl, ho⟩)
      exact piece_short s i d t w hs hd hx hu
end Go.Proofs.YtfgekdefnbohbaaDoor.U
