/- Exact laws, quotes: the reference's piece, at \x. -/
import Derived.Test.YtfgekdefnbohbaaDoorRPiece
namespace Go.Proofs.YtfgekdefnbohbaaDoor.U
open Go.RowKit Go.Proofs.YtfgekdefnbohbaaDoor.Txt
set_option linter.unusedVariables false
set_option linter.unusedSimpArgs false
attribute [local go_sem] frozen?_alloc_cells

theorem hexW_lt (c : UInt8) (d : Nat) (h : hexW c = some d) : d < 16 := by
  unfold hexW at h
  split at h
  · cases h; omega
  · split at h
    · cases h; omega
    · cases h
set_option maxRecDepth 100000 in
set_option maxHeartbeats 4000000 in
theorem refpiece_x0 (s : ByteArray) (i : Nat) (t : List UInt8) (w : World) (hs : s.size ≤ 1000000000000) (hd : s.data.toList.drop i = 92 :: 120 :: t) (ht : t.length < 2) :
    Calls Tryd.prog 64 #[.string s, .int .i64 i] w fun e w' => PieceRes w (s.data.toList.drop i) e w' ∧ Below w.heap.size w w' := by
  have hi : ∀ w, (Instr.index 9 (.string s) (.int .i64 i)).run Tryd.prog w = .ok (.int .u8 92) w := byte_at s i 92 _ hd
  have j0 : ∀ w, (Instr.index 9 (.string s) (.int .i64 ((i : Int) + 1))).run Tryd.prog w = .ok (.int .u8 120) w := byte_plus s i 1 120 t (by rw [hd]; rfl)
  have hsz : s.size = i + 2 + t.length := by
    have := congrArg List.length hd
    rw [List.length_drop, size_toList] at this
    simp at this; omega
  have g1 : ¬ s.size ≤ i + 1 := by omega
  have g2 : i ≤ 1000000000000 := by omega
  have g3 : ¬ (i : Int) + 3 < s.size := by omega
  rw [hd]
  have HP := Lib.hid (show pieceL (92 :: 120 :: t) = ([], 0) by
    match t, ht with
    | [], _ => simp [pieceL]
    | [a], _ => simp [pieceL]
    | _ :: _ :: _, h => simp at h; omega)
  clear hd hsz ht
  go_enter Tryd.func64, Tryd.ntmps64
  go_wp2
  go_ret2
  exact ⟨piece_none HP.out, Below.refl _ _⟩
set_option maxRecDepth 100000 in
set_option maxHeartbeats 4000000 in
theorem refpiece_x (s : ByteArray) (i : Nat) (a b : UInt8) (t : List UInt8) (w : World) (hs : s.size ≤ 1000000000000) (hd : s.data.toList.drop i = 92 :: 120 :: a :: b :: t) :
    Calls Tryd.prog 64 #[.string s, .int .i64 i] w fun e w' => PieceRes w (s.data.toList.drop i) e w' ∧ Below w.heap.size w w' := by
  have hi : ∀ w, (Instr.index 9 (.string s) (.int .i64 i)).run Tryd.prog w = .ok (.int .u8 92) w := byte_at s i 92 _ hd
  have j0 : ∀ w, (Instr.index 9 (.string s) (.int .i64 ((i : Int) + 1))).run Tryd.prog w = .ok (.int .u8 120) w := byte_plus s i 1 120 _ (by rw [hd]; rfl)
  have j2 : ∀ w, (Instr.index 9 (.string s) (.int .i64 ((i : Int) + 2))).run Tryd.prog w = .ok (.int .u8 (a.toNat : Int)) w := byte_plus s i 2 a _ (by rw [hd]; rfl)
  have j3 : ∀ w, (Instr.index 9 (.string s) (.int .i64 ((i : Int) + 3))).run Tryd.prog w = .ok (.int .u8 (b.toNat : Int)) w := byte_plus s i 3 b _ (by rw [hd]; rfl)
  have hsz : i + 4 ≤ s.size := by
    have := congrArg List.length hd
    rw [List.length_drop, size_toList] at this
    simp at this; omega
  have g1 : ¬ s.size ≤ i + 1 := by omega
  have g2 : i ≤ 1000000000000 := by omega
  have g3 : (i : Int) + 3 < s.size := by omega
  rw [hd]
  have hp : pieceL (92 :: 120 :: a :: b :: t) = match hexW a, hexW b with | some x, some y => ([UInt8.ofNat (16 * x + y)], 4) | _, _ => ([], 0) := by cases h1 : hexW a <;> cases h2 : hexW b <;> simp [pieceL, h1, h2]
  have C1 := Lib.hid (hex_any a)
  have C2 := Lib.hid (hex_any b)
  have ha : hexO a = match hexW a with | none => -1 | some d => (d : Int) := rfl
  have hb : hexO b = match hexW b with | none => -1 | some d => (d : Int) := rfl
  have la := hexW_lt a
  have lb := hexW_lt b
  obtain ⟨oa, hoa⟩ : ∃ oa, hexO a = oa := ⟨_, rfl⟩
  obtain ⟨ob, hob⟩ : ∃ ob, hexO b = ob := ⟨_, rfl⟩
  rw [hoa] at ha
  rw [hob] at hb
  have HOA := Lib.hid hoa
  have HOB := Lib.hid hob
  have n0 : (0 : Int) ≤ (i : Int) + 2 := by omega
  have n1 : (0 : Int) ≤ (i : Int) + 3 := by omega
  have w2 : IntKind.i64.wrap ((i : Int) + 2) = (i : Int) + 2 := IntWalk.i64_in _ (by omega)
  have w3 : IntKind.i64.wrap ((i : Int) + 3) = (i : Int) + 3 := IntWalk.i64_in _ (by omega)
  have k2 : (i : Int) + 2 < s.size := by omega
  have k2' : i + 2 < s.size := by omega
  have k3' : i + 3 < s.size := by omega
  clear hoa hob
  clear hd
  go_enter Tryd.func64, Tryd.ntmps64
  go_upto_region 15 with fail
  go_cut [6, 7] (fun x y wx => x = .int .i64 oa ∧ y = .int .i64 ob ∧ Below w.heap.size w wx)
  case first =>
    go_region_with ((with_reducible refine (hex_any _ _).mono ?_); rintro e w5 ⟨rfl, rfl⟩)
    all_goals (go_wp2_with fail)
    all_goals
      go_meet
      exact ⟨by rw [HOA.out], by rw [HOB.out], by first | exact Below.refl _ _ | exact (Below.refl _ _).drew | exact pw_below (Below.refl _ _) _⟩
  case rest =>
    obtain ⟨rfl, rfl, hbx⟩ := hcut
    have HBX := Lib.hid hbx
    clear hbx j0 j2 j3 hi C1 C2 g3
    cases hwa : hexW a with
    | none =>
      rw [hwa] at ha hp
      have HP := Lib.hid (show pieceL (92 :: 120 :: a :: b :: t) = ([], 0) from hp)
      simp only at ha
      subst ha
      clear hp hwa hb
      go_wp2_with fail
      go_ret2
      exact ⟨piece_none HP.out, HBX.out⟩
    | some x =>
      cases hwb : hexW b with
      | none =>
        rw [hwa] at ha
        rw [hwa, hwb] at hp
        rw [hwb] at hb
        have HP := Lib.hid (show pieceL (92 :: 120 :: a :: b :: t) = ([], 0) from hp)
        simp only at ha hb
        subst ha hb
        clear hp hwa hwb
        go_wp2_with fail
        go_ret2
        exact ⟨piece_none HP.out, HBX.out⟩
      | some y =>
        have l1 := la x hwa
        have l2 := lb y hwb
        rw [hwa] at ha
        rw [hwa, hwb] at hp
        rw [hwb] at hb
        have HP := Lib.hid (show pieceL (92 :: 120 :: a :: b :: t) = ([UInt8.ofNat (16 * x + y)], 4) from hp)
        have HV := Lib.hid (show ((UInt8.ofNat (16 * x + y)).toNat : Int) = 16 * (x : Int) + (y : Int) by
          have : (UInt8.ofNat (16 * x + y)).toNat = 16 * x + y := by simp; omega
          rw [this]; omega)
        simp only at ha hb
        subst ha hb
        clear hp hwa hwb la lb
        go_wp2_with fail
        go_ret2
        have P := piece_some (w := w) (w1 := wc) 5 HP.out (by decide) HBX.out.size
        simp only [Lib.byteCells, List.map, HV.out] at P
        exact ⟨P, HBX.out.alloc HBX.out.size _⟩
end Go.Proofs.YtfgekdefnbohbaaDoor.U
