/- Exact laws, quotes: the reference's hex and piece. Exact laws, quotes: the reference's piece, at \x. Exact laws, quotes: the reference's piece, at \u. The program's Unquote. Exact laws, quotes: the reference's Unquote. -/
import Derived.Test.YtfgekdefnbohbaaDoorUAll18
namespace Go.Proofs.YtfgekdefnbohbaaDoor.U
open Go.RowKit Go.Proofs.YtfgekdefnbohbaaDoor.Txt
set_option linter.unusedVariables false
set_option linter.unusedSimpArgs false
attribute [local go_sem] frozen?_alloc_cells

def hexO (c : UInt8) : Int := match hexW c with | none => -1 | some d => (d : Int)
set_option maxHeartbeats 4000000 in
theorem hex_any (c : UInt8) (w : World) : Calls Tryd.prog 84 #[.int .u8 (c.toNat : Int)] w fun e w' => e = .returned (.int .i64 (hexO c)) ∧ w = w' := by
  have hcl := c.toNat_lt
  have hd : (48 ≤ c.toNat ∧ c.toNat ≤ 57 ∧ hexO c = (c.toNat : Int) - 48) ∨ (97 ≤ c.toNat ∧ c.toNat ≤ 102 ∧ hexO c = (c.toNat : Int) - 97 + 10) ∨ ((c.toNat < 48 ∨ 57 < c.toNat ∧ c.toNat < 97 ∨ 102 < c.toNat) ∧ hexO c = -1) := by
    unfold hexO hexW
    by_cases h1 : 48 ≤ c.toNat ∧ c.toNat ≤ 57
    · rw [if_pos h1]; exact .inl ⟨h1.1, h1.2, by show ((c.toNat - 48 : Nat) : Int) = _; omega⟩
    · rw [if_neg h1]
      by_cases h2 : 97 ≤ c.toNat ∧ c.toNat ≤ 102
      · rw [if_pos h2]; exact .inr (.inl ⟨h2.1, h2.2, by show ((c.toNat - 87 : Nat) : Int) = _; omega⟩)
      · rw [if_neg h2]; exact .inr (.inr ⟨by omega, rfl⟩)
  generalize hexO c = o at hd
  generalize c.toNat = x at hd hcl
  rcases hd with ⟨h1, h2, rfl⟩ | ⟨h1, h2, rfl⟩ | ⟨h1 | h1 | h1, rfl⟩
  all_goals
    go_enter Tryd.func84, Tryd.ntmps84
    go_wp2
    go_ret
    exact ⟨rfl, rfl⟩
/-- What piece hands back. -/
def PieceRes (w : World) (l : List UInt8) (e : Ending) (w' : World) : Prop :=
  ((pieceL l).2 = 0 ∧ e = .returned (.tuple #[.slice none 0 0, .int .i64 0])) ∨
  ∃ Q t fr, e = .returned (.tuple #[.slice (some ⟨Q, 0, none⟩) (pieceL l).1.length (pieceL l).1.length, .int .i64 (pieceL l).2]) ∧ w.heap.size ≤ Q ∧ w'.heap[Q]? = some (.cells (Lib.byteCells (pieceL l).1).toArray t fr) ∧ 0 < (pieceL l).2
theorem piece_none {w w' : World} {l : List UInt8} (h : pieceL l = ([], 0)) : PieceRes w l (.returned (.tuple #[.slice none 0 0, .int .i64 0])) w' := .inl ⟨by rw [h], rfl⟩
theorem piece_some {w w1 : World} {l x : List UInt8} {k : Nat} (T : TypeId) (h : pieceL l = (x, k)) (hk : 0 < k) (hw : w.heap.size ≤ w1.heap.size) : PieceRes w l (.returned (.tuple #[.slice (some ⟨w1.heap.size, 0, none⟩) x.length x.length, .int .i64 k])) (w1.alloc (.cells (Lib.byteCells x).toArray T)) :=
  .inr ⟨w1.heap.size, T, _, by rw [h], hw, by rw [h]; exact heap_alloc_new w1 _, by rw [h]; exact hk⟩
theorem byte_plus (s : ByteArray) (i k : Nat) (x : UInt8) (t : List UInt8) (h : (s.data.toList.drop i).drop k = x :: t) : ∀ w, (Instr.index 9 (.string s) (.int .i64 ((i : Int) + (k : Int)))).run Tryd.prog w = .ok (.int .u8 (x.toNat : Int)) w := by
  have := byte_at s (i + k) x t (by rw [← List.drop_drop]; exact h)
  rw [show ((i + k : Nat) : Int) = (i : Int) + (k : Int) by omega] at this
  exact this

set_option maxRecDepth 100000 in
set_option maxHeartbeats 4000000 in
theorem piece_plain (s : ByteArray) (i : Nat) (c : UInt8) (t : List UInt8) (w : World) (hs : s.size ≤ 1000000000000) (hd : s.data.toList.drop i = c :: t) (hc : c ≠ 92) :
    Calls Tryd.prog 64 #[.string s, .int .i64 i] w fun e w' => PieceRes w (s.data.toList.drop i) e w' ∧ Below w.heap.size w w' := by
  have hi := byte_at s i c t hd
  have hp : pieceL (c :: t) = ([c], 1) := by
    cases t with
    | nil => simp [pieceL, hc]
    | cons d t => simp [pieceL, hc]
  have HP := Lib.hid hp
  have hcn : ¬ c.toNat = 92 := fun e => hc (UInt8.toNat_inj.1 e)
  have b92 : ((c.toNat : Int) != 92) = true := by simp; omega
  rw [hd]
  clear hd hp hcn hc
  go_enter Tryd.func64, Tryd.ntmps64
  go_wp2
  go_ret2
  exact ⟨piece_some _ HP.out (by decide) (Nat.le_refl _), (Below.refl _ _).alloc (Nat.le_refl _) _⟩
set_option maxRecDepth 100000 in
set_option maxHeartbeats 4000000 in
theorem piece_end (s : ByteArray) (i : Nat) (w : World) (hs : s.size ≤ 1000000000000) (hd : s.data.toList.drop i = [92]) :
    Calls Tryd.prog 64 #[.string s, .int .i64 i] w fun e w' => PieceRes w (s.data.toList.drop i) e w' ∧ Below w.heap.size w w' := by
  have hi : ∀ w, (Instr.index 9 (.string s) (.int .i64 i)).run Tryd.prog w = .ok (.int .u8 92) w := byte_at s i 92 [] hd
  have HP := Lib.hid (show pieceL [92] = ([], 0) by simp [pieceL])
  have hsz : s.size = i + 1 := by
    have := congrArg List.length hd
    rw [List.length_drop, size_toList] at this
    simp at this; omega
  rw [hd]
  have g1 : s.size ≤ i + 1 := by omega
  have g2 : i ≤ 1000000000000 := by omega
  clear hd hsz
  go_enter Tryd.func64, Tryd.ntmps64
  go_wp2
  go_ret2
  exact ⟨piece_none HP.out, Below.refl _ _⟩
set_option maxRecDepth 100000 in
set_option maxHeartbeats 4000000 in
theorem piece_short (s : ByteArray) (i : Nat) (d : UInt8) (t : List UInt8) (w : World) (hs : s.size ≤ 1000000000000) (hd : s.data.toList.drop i = 92 :: d :: t) (hx : d ≠ 120) (hu : d ≠ 117) :
    Calls Tryd.prog 64 #[.string s, .int .i64 i] w fun e w' => PieceRes w (s.data.toList.drop i) e w' ∧ Below w.heap.size w w' := by
  have hi : ∀ w, (Instr.index 9 (.string s) (.int .i64 i)).run Tryd.prog w = .ok (.int .u8 92) w := byte_at s i 92 _ hd
  have j0 : ∀ w, (Instr.index 9 (.string s) (.int .i64 ((i : Int) + 1))).run Tryd.prog w = .ok (.int .u8 (d.toNat : Int)) w := byte_plus s i 1 d t (by rw [hd]; rfl)
  have hsz : i + 2 ≤ s.size := by
    have := congrArg List.length hd
    rw [List.length_drop, size_toList] at this
    simp at this; omega
  have g1 : ¬ s.size ≤ i + 1 := by omega
  have g2 : i ≤ 1000000000000 := by omega
  rw [hd]
  have hn : ∀ c : UInt8, d ≠ c → ¬ d.toNat = c.toNat := fun c hc e => hc (UInt8.toNat_inj.1 e)
  clear hd
  by_cases h34 : d = 34
  · subst h34
    have HP := Lib.hid (show pieceL (92 :: 34 :: t) = ([34], 2) by simp [pieceL])
    have j1 : ∀ w, (Instr.index 9 (.string s) (.int .i64 ((i : Int) + 1))).run Tryd.prog w = .ok (.int .u8 34) w := j0
    clear j0 hn
    go_enter Tryd.func64, Tryd.ntmps64
    go_wp2
    go_ret2
    exact ⟨piece_some _ HP.out (by decide) (Nat.le_refl _), (Below.refl _ _).alloc (Nat.le_refl _) _⟩
  by_cases h92 : d = 92
  · subst h92
    have HP := Lib.hid (show pieceL (92 :: 92 :: t) = ([92], 2) by simp [pieceL])
    have j1 : ∀ w, (Instr.index 9 (.string s) (.int .i64 ((i : Int) + 1))).run Tryd.prog w = .ok (.int .u8 92) w := j0
    clear j0 hn
    go_enter Tryd.func64, Tryd.ntmps64
    go_wp2
    go_ret2
    exact ⟨piece_some _ HP.out (by decide) (Nat.le_refl _), (Below.refl _ _).alloc (Nat.le_refl _) _⟩
  by_cases h110 : d = 110
  · subst h110
    have HP := Lib.hid (show pieceL (92 :: 110 :: t) = ([10], 2) by simp [pieceL])
    have j1 : ∀ w, (Instr.index 9 (.string s) (.int .i64 ((i : Int) + 1))).run Tryd.prog w = .ok (.int .u8 110) w := j0
    clear j0 hn
    go_enter Tryd.func64, Tryd.ntmps64
    go_wp2
    go_ret2
    exact ⟨piece_some _ HP.out (by decide) (Nat.le_refl _), (Below.refl _ _).alloc (Nat.le_refl _) _⟩
  by_cases h116 : d = 116
  · subst h116
    have HP := Lib.hid (show pieceL (92 :: 116 :: t) = ([9], 2) by simp [pieceL])
    have j1 : ∀ w, (Instr.index 9 (.string s) (.int .i64 ((i : Int) + 1))).run Tryd.prog w = .ok (.int .u8 116) w := j0
    clear j0 hn
    go_enter Tryd.func64, Tryd.ntmps64
    go_wp2
    go_ret2
    exact ⟨piece_some _ HP.out (by decide) (Nat.le_refl _), (Below.refl _ _).alloc (Nat.le_refl _) _⟩
  have HP := Lib.hid (show pieceL (92 :: d :: t) = ([], 0) by simp [pieceL, h34, h92, h110, h116, hx, hu])
  have n1 : ¬ d.toNat = 34 := hn 34 h34
  have n2 : ¬ d.toNat = 92 := hn 92 h92
  have n3 : ¬ d.toNat = 110 := hn 110 h110
  have n4 : ¬ d.toNat = 116 := hn 116 h116
  have n5 : ¬ d.toNat = 120 := hn 120 hx
  have n6 : ¬ d.toNat = 117 := hn 117 hu
  obtain ⟨y, hy⟩ : ∃ y, d.toNat = y := ⟨_, rfl⟩
  rw [hy] at j0 n1 n2 n3 n4 n5 n6
  have b1 : ((y : Int) == 34) = false := by simp; omega
  have b2 : ((y : Int) == 92) = false := by simp; omega
  have b3 : ((y : Int) == 110) = false := by simp; omega
  have b4 : ((y : Int) == 116) = false := by simp; omega
  have b5 : ((y : Int) == 120) = false := by simp; omega
  have b6 : ((y : Int) == 117) = false := by simp; omega
  clear hn n1 n2 n3 n4 n5 n6 hy h34 h92 h110 h116 hx hu
  go_enter Tryd.func64, Tryd.ntmps64
  go_wp2
  go_ret2
  exact ⟨piece_none HP.out, Below.refl _ _⟩
end Go.Proofs.YtfgekdefnbohbaaDoor.U

namespace Go.Proofs.YtfgekdefnbohbaaDoor.U
open Go.RowKit Go.Proofs.YtfgekdefnbohbaaDoor.Txt
set_option linter.unusedVariables false
set_option linter.unusedSimpArgs false
attribute [local go_sem] frozen?_alloc_cells

theorem hexW_lt (c : UInt8) (d : Nat) (h : hexW c = some d) : d < 16 := by
  unfold hexW at h
  split at h
  · cases h; omega
  · split at h
    · cases h; omega
    · cases h
set_option maxRecDepth 100000 in
set_option maxHeartbeats 4000000 in
theorem refpiece_x0 (s : ByteArray) (i : Nat) (t : List UInt8) (w : World) (hs : s.size ≤ 1000000000000) (hd : s.data.toList.drop i = 92 :: 120 :: t) (ht : t.length < 2) :
    Calls Tryd.prog 64 #[.string s, .int .i64 i] w fun e w' => PieceRes w (s.data.toList.drop i) e w' ∧ Below w.heap.size w w' := by
  have hi : ∀ w, (Instr.index 9 (.string s) (.int .i64 i)).run Tryd.prog w = .ok (.int .u8 92) w := byte_at s i 92 _ hd
  have j0 : ∀ w, (Instr.index 9 (.string s) (.int .i64 ((i : Int) + 1))).run Tryd.prog w = .ok (.int .u8 120) w := byte_plus s i 1 120 t (by rw [hd]; rfl)
  have hsz : s.size = i + 2 + t.length := by
    have := congrArg List.length hd
    rw [List.length_drop, size_toList] at this
    simp at this; omega
  have g1 : ¬ s.size ≤ i + 1 := by omega
  have g2 : i ≤ 1000000000000 := by omega
  have g3 : ¬ (i : Int) + 3 < s.size := by omega
  rw [hd]
  have HP := Lib.hid (show pieceL (92 :: 120 :: t) = ([], 0) by
    match t, ht with
    | [], _ => simp [pieceL]
    | [a], _ => simp [pieceL]
    | _ :: _ :: _, h => simp at h; omega)
  clear hd hsz ht
  go_enter Tryd.func64, Tryd.ntmps64
  go_wp2
  go_ret2
  exact ⟨piece_none HP.out, Below.refl _ _⟩
set_option maxRecDepth 100000 in
set_option maxHeartbeats 4000000 in
theorem refpiece_x (s : ByteArray) (i : Nat) (a b : UInt8) (t : List UInt8) (w : World) (hs : s.size ≤ 1000000000000) (hd : s.data.toList.drop i = 92 :: 120 :: a :: b :: t) :
    Calls Tryd.prog 64 #[.string s, .int .i64 i] w fun e w' => PieceRes w (s.data.toList.drop i) e w' ∧ Below w.heap.size w w' := by
  have hi : ∀ w, (Instr.index 9 (.string s) (.int .i64 i)).run Tryd.prog w = .ok (.int .u8 92) w := byte_at s i 92 _ hd
  have j0 : ∀ w, (Instr.index 9 (.string s) (.int .i64 ((i : Int) + 1))).run Tryd.prog w = .ok (.int .u8 120) w := byte_plus s i 1 120 _ (by rw [hd]; rfl)
  have j2 : ∀ w, (Instr.index 9 (.string s) (.int .i64 ((i : Int) + 2))).run Tryd.prog w = .ok (.int .u8 (a.toNat : Int)) w := byte_plus s i 2 a _ (by rw [hd]; rfl)
  have j3 : ∀ w, (Instr.index 9 (.string s) (.int .i64 ((i : Int) + 3))).run Tryd.prog w = .ok (.int .u8 (b.toNat : Int)) w := byte_plus s i 3 b _ (by rw [hd]; rfl)
  have hsz : i + 4 ≤ s.size := by
    have := congrArg List.length hd
    rw [List.length_drop, size_toList] at this
    simp at this; omega
  have g1 : ¬ s.size ≤ i + 1 := by omega
  have g2 : i ≤ 1000000000000 := by omega
  have g3 : (i : Int) + 3 < s.size := by omega
  rw [hd]
  have hp : pieceL (92 :: 120 :: a :: b :: t) = match hexW a, hexW b with | some x, some y => ([UInt8.ofNat (16 * x + y)], 4) | _, _ => ([], 0) := by cases h1 : hexW a <;> cases h2 : hexW b <;> simp [pieceL, h1, h2]
  have C1 := Lib.hid (hex_any a)
  have C2 := Lib.hid (hex_any b)
  have ha : hexO a = match hexW a with | none => -1 | some d => (d : Int) := rfl
  have hb : hexO b = match hexW b with | none => -1 | some d => (d : Int) := rfl
  have la := hexW_lt a
  have lb := hexW_lt b
  obtain ⟨oa, hoa⟩ : ∃ oa, hexO a = oa := ⟨_, rfl⟩
  obtain ⟨ob, hob⟩ : ∃ ob, hexO b = ob := ⟨_, rfl⟩
  rw [hoa] at ha
  rw [hob] at hb
  have HOA := Lib.hid hoa
  have HOB := Lib.hid hob
  have n0 : (0 : Int) ≤ (i : Int) + 2 := by omega
  have n1 : (0 : Int) ≤ (i : Int) + 3 := by omega
  have w2 : IntKind.i64.wrap ((i : Int) + 2) = (i : Int) + 2 := IntWalk.i64_in _ (by omega)
  have w3 : IntKind.i64.wrap ((i : Int) + 3) = (i : Int) + 3 := IntWalk.i64_in _ (by omega)
  have k2 : (i : Int) + 2 < s.size := by omega
  have k2' : i + 2 < s.size := by omega
  have k3' : i + 3 < s.size := by omega
  clear hoa hob
  clear hd
  go_enter Tryd.func64, Tryd.ntmps64
  go_upto_region 15 with fail
  go_cut [6, 7] (fun x y wx => x = .int .i64 oa ∧ y = .int .i64 ob ∧ Below w.heap.size w wx)
  case first =>
    go_region_with ((with_reducible refine (hex_any _ _).mono ?_); rintro e w5 ⟨rfl, rfl⟩)
    all_goals (go_wp2_with fail)
    all_goals
      go_meet
      exact ⟨by rw [HOA.out], by rw [HOB.out], by first | exact Below.refl _ _ | exact (Below.refl _ _).drew | exact pw_below (Below.refl _ _) _⟩
  case rest =>
    obtain ⟨rfl, rfl, hbx⟩ := hcut
    have HBX := Lib.hid hbx
    clear hbx j0 j2 j3 hi C1 C2 g3
    cases hwa : hexW a with
    | none =>
      rw [hwa] at ha hp
      have HP := Lib.hid (show pieceL (92 :: 120 :: a :: b :: t) = ([], 0) from hp)
      simp only at ha
      subst ha
      clear hp hwa hb
      go_wp2_with fail
      go_ret2
      exact ⟨piece_none HP.out, HBX.out⟩
    | some x =>
      cases hwb : hexW b with
      | none =>
        rw [hwa] at ha
        rw [hwa, hwb] at hp
        rw [hwb] at hb
        have HP := Lib.hid (show pieceL (92 :: 120 :: a :: b :: t) = ([], 0) from hp)
        simp only at ha hb
        subst ha hb
        clear hp hwa hwb
        go_wp2_with fail
        go_ret2
        exact ⟨piece_none HP.out, HBX.out⟩
      | some y =>
        have l1 := la x hwa
        have l2 := lb y hwb
        rw [hwa] at ha
        rw [hwa, hwb] at hp
        rw [hwb] at hb
        have HP := Lib.hid (show pieceL (92 :: 120 :: a :: b :: t) = ([UInt8.ofNat (16 * x + y)], 4) from hp)
        have HV := Lib.hid (show ((UInt8.ofNat (16 * x + y)).toNat : Int) = 16 * (x : Int) + (y : Int) by
          have : (UInt8.ofNat (16 * x + y)).toNat = 16 * x + y := by simp; omega
          rw [this]; omega)
        simp only at ha hb
        subst ha hb
        clear hp hwa hwb la lb
        go_wp2_with fail
        go_ret2
        have P := piece_some (w := w) (w1 := wc) 5 HP.out (by decide) HBX.out.size
        simp only [Lib.byteCells, List.map, HV.out] at P
        exact ⟨P, HBX.out.alloc HBX.out.size _⟩
end Go.Proofs.YtfgekdefnbohbaaDoor.U

namespace Go.Proofs.YtfgekdefnbohbaaDoor.U
open Go.RowKit Go.Proofs.YtfgekdefnbohbaaDoor.Txt
set_option linter.unusedVariables false
set_option linter.unusedSimpArgs false
attribute [local go_sem] frozen?_alloc_cells

set_option maxRecDepth 100000 in
set_option maxHeartbeats 4000000 in
theorem refpiece_u (s : ByteArray) (i : Nat) (t : List UInt8) (w : World) (hs : s.size ≤ 1000000000000) (hd : s.data.toList.drop i = 92 :: 117 :: 123 :: t) :
    Calls Tryd.prog 64 #[.string s, .int .i64 i] w fun e w' => PieceRes w (s.data.toList.drop i) e w' ∧ Below w.heap.size w w' := by
  have hi : ∀ w, (Instr.index 9 (.string s) (.int .i64 i)).run Tryd.prog w = .ok (.int .u8 92) w := byte_at s i 92 _ hd
  have j0 : ∀ w, (Instr.index 9 (.string s) (.int .i64 ((i : Int) + 1))).run Tryd.prog w = .ok (.int .u8 117) w := byte_plus s i 1 117 _ (by rw [hd]; rfl)
  have j2 : ∀ w, (Instr.index 9 (.string s) (.int .i64 ((i : Int) + 2))).run Tryd.prog w = .ok (.int .u8 123) w := byte_plus s i 2 123 _ (by rw [hd]; rfl)
  have hsz : s.size = i + 3 + t.length := by
    have := congrArg List.length hd
    rw [List.length_drop, size_toList] at this
    simp at this; omega
  have HJ := Lib.hid (fun (j : Nat) (c : UInt8) (u : List UInt8) (h : t.drop j = c :: u) => byte_at s (i + 3 + j) c u (by
    rw [show i + 3 + j = i + (3 + j) by omega, ← List.drop_drop, hd, ← List.drop_drop]; exact h))
  have hp : pieceL (92 :: 117 :: 123 :: t) = match uF 7 0 t 0 with | none => ([], 0) | some (r, k) => (bytesR r, k + 4) := by cases h : uF 7 0 t 0 <;> simp [pieceL, h]
  have HP := Lib.hid hp
  have g1 : ¬ s.size ≤ i + 1 := by omega
  have g2 : i ≤ 1000000000000 := by omega
  have g3 : (i : Int) + 2 < s.size := by omega
  have g3' : i + 2 < s.size := by omega
  have HSZ := Lib.hid hsz
  rw [hd]
  clear hd hp hsz
  go_enter Tryd.func64, Tryd.ntmps64
  go_wp2_with fail
  go_loop [8, 9] (fun v k => ∃ (j r : Nat), k = .int .i64 ((i + 3 + j : Nat) : Int) ∧ v = .int .i64 r ∧ j ≤ 7 ∧ r < 16 ^ j ∧ uF 7 0 t 0 = uF (7 - j) r (t.drop j) j) (fun _ k => i + 10 - (intOf k).toNat)
  case atStart => exact ⟨0, 0, by go_num, rfl, by decide, by decide, rfl⟩
  case round =>
    obtain ⟨j, r, rfl, rfl, hj, hr, hu⟩ := hrel
    have hr6 : r < 268435456 := Nat.lt_of_lt_of_le hr (by have : 16 ^ j ≤ 16 ^ 7 := Nat.pow_le_pow_right (by decide) hj; omega)
    obtain ⟨k, hk⟩ : ∃ k, i + 3 + j = k := ⟨_, rfl⟩
    have HK := Lib.hid hk
    rw [hk]
    have hkb : k ≤ 1000000000010 := by omega
    by_cases hj7 : j = 7
    · have HN := Lib.hid (show pieceL (92 :: 117 :: 123 :: t) = ([], 0) by rw [HP.out, hu, hj7]; rfl)
      have e1 : ¬ (k : Int) < (i : Int) + 10 := by omega
      clear hu hr hk
      by_cases hl : k < s.size
      all_goals
        go_wp2_with fail
        go_ret2
        exact ⟨piece_none HN.out, Below.refl _ _⟩
    obtain ⟨f, hf⟩ : ∃ f, 7 - j = f + 1 := ⟨6 - j, by omega⟩
    rw [hf] at hu
    have e1 : (k : Int) < (i : Int) + 10 := by omega
    cases hdj : t.drop j with
    | nil =>
      rw [hdj] at hu
      have HN := Lib.hid (show pieceL (92 :: 117 :: 123 :: t) = ([], 0) by rw [HP.out, hu]; rfl)
      have hl : ¬ k < s.size := by
        have := congrArg List.length hdj
        rw [List.length_drop] at this
        have := HSZ.out
        simp at *; omega
      clear hu hr hk hdj
      go_wp2_with fail
      go_ret2
      exact ⟨piece_none HN.out, Below.refl _ _⟩
    | cons c u =>
      have hl : k < s.size := by
        have := congrArg List.length hdj
        rw [List.length_drop] at this
        have := HSZ.out
        simp at *; omega
      have hc := HJ.out j c u hdj
      rw [hk] at hc
      have hdj1 : t.drop (j + 1) = u := by rw [← List.drop_drop, hdj]; rfl
      rw [hdj] at hu
      simp only [uF] at hu
      by_cases h125 : c = 125
      · subst h125
        rw [if_pos rfl] at hu
        have hc2 : ∀ w, (Instr.index 9 (.string s) (.int .i64 k)).run Tryd.prog w = .ok (.int .u8 125) w := hc
        clear hc
        by_cases hj0 : j = 0
        · rw [if_pos (.inl hj0)] at hu
          have HN := Lib.hid (show pieceL (92 :: 117 :: 123 :: t) = ([], 0) by rw [HP.out, hu])
          have e2 : (k : Int) = (i : Int) + 3 := by omega
          have e3 : ((k : Int) == (i : Int) + 3) = true := by simp [e2]
          clear hu hr hk hdj hdj1 hj0 e2
          go_wp2_with fail
          go_ret2
          exact ⟨piece_none HN.out, Below.refl _ _⟩
        have e3 : ((k : Int) == (i : Int) + 3) = false := by simp; omega
        by_cases hbig : 1114111 < r
        · rw [if_pos (.inr hbig)] at hu
          have HN := Lib.hid (show pieceL (92 :: 117 :: 123 :: t) = ([], 0) by rw [HP.out, hu])
          clear hu hr hk hdj hdj1 hj0
          go_wp2_with fail
          go_ret2
          exact ⟨piece_none HN.out, Below.refl _ _⟩
        · rw [if_neg (by omega)] at hu
          have HN := Lib.hid (show pieceL (92 :: 117 :: 123 :: t) = (bytesR r, j + 4) by rw [HP.out, hu])
          have HKJ := Lib.hid (show (k : Int) + 1 - (i : Int) = ((j + 4 : Nat) : Int) by omega)
          clear hu hr hk hdj hdj1 hj0
          go_wp2_with fail
          refine (Bytes_any r _ (by omega)).mono ?_
          rintro e w2 ⟨rfl, rfl⟩
          go_wp2_with fail
          go_ret2
          have P := piece_some (w := w) (w1 := w) 5 HN.out (by omega) (Nat.le_refl _)
          exact ⟨by rw [← HKJ.out] at P; exact P, (Below.refl _ _).alloc (Nat.le_refl _) _⟩
      · rw [if_neg h125] at hu
        have hcn : ¬ c.toNat = 125 := fun e => h125 (UInt8.toNat_inj.1 e)
        have b125 : ((c.toNat : Int) == 125) = false := by simp; omega
        have ho : hexO c = match hexW c with | none => -1 | some d => (d : Int) := rfl
        cases hw : hexW c with
        | none =>
          rw [hw] at hu ho
          have HN := Lib.hid (show pieceL (92 :: 117 :: 123 :: t) = ([], 0) by rw [HP.out, hu])
          have HO := Lib.hid (show hexO c = -1 from ho)
          clear hu hr hk hdj hdj1 ho hw hcn h125
          go_wp2_with fail
          refine (hex_any c _).mono ?_
          rintro e w2 ⟨rfl, rfl⟩
          rw [HO.out]
          go_wp2_with fail
          go_ret2
          exact ⟨piece_none HN.out, Below.refl _ _⟩
        | some d =>
          rw [hw] at hu ho
          have hd16 := hexW_lt c d hw
          have HO := Lib.hid (show hexO c = (d : Int) from ho)
          have HU := Lib.hid (show uF 7 0 t 0 = uF (7 - (j + 1)) (16 * r + d) (t.drop (j + 1)) (j + 1) by rw [hu, hdj1, show 7 - (j + 1) = f by omega])
          have HR := Lib.hid (show 16 * r + d < 16 ^ (j + 1) by rw [Nat.pow_succ]; omega)
          have d0 : ¬ (d : Int) < 0 := by omega
          clear hu hr hk hdj hdj1 ho hw hcn h125
          go_wp2_with fail
          refine (hex_any c _).mono ?_
          rintro e w2 ⟨rfl, rfl⟩
          rw [HO.out]
          go_wp2_with fail
          go_round
          case rel => exact ⟨j + 1, 16 * r + d, by rw [show i + 3 + (j + 1) = k + 1 by have := HK.out; omega]; go_num, by go_num, by omega, HR.out, HU.out⟩
          case measure => have := HK.out; simp [intOf]; omega

set_option maxRecDepth 100000 in
set_option maxHeartbeats 4000000 in
theorem refpiece_u0 (s : ByteArray) (i : Nat) (t : List UInt8) (w : World) (hs : s.size ≤ 1000000000000) (hd : s.data.toList.drop i = 92 :: 117 :: t) (ht : t = [] ∨ ∃ o u, t = o :: u ∧ o ≠ 123) :
    Calls Tryd.prog 64 #[.string s, .int .i64 i] w fun e w' => PieceRes w (s.data.toList.drop i) e w' ∧ Below w.heap.size w w' := by
  have hi : ∀ w, (Instr.index 9 (.string s) (.int .i64 i)).run Tryd.prog w = .ok (.int .u8 92) w := byte_at s i 92 _ hd
  have j0 : ∀ w, (Instr.index 9 (.string s) (.int .i64 ((i : Int) + 1))).run Tryd.prog w = .ok (.int .u8 117) w := byte_plus s i 1 117 _ (by rw [hd]; rfl)
  have hsz : s.size = i + 2 + t.length := by
    have := congrArg List.length hd
    rw [List.length_drop, size_toList] at this
    simp at this; omega
  have g1 : ¬ s.size ≤ i + 1 := by omega
  have g2 : i ≤ 1000000000000 := by omega
  rcases ht with rfl | ⟨o, u, rfl, ho⟩
  · have HP := Lib.hid (show pieceL [92, 117] = ([], 0) by simp [pieceL])
    have g3 : ¬ (i : Int) + 2 < s.size := by simp at hsz; omega
    have g3' : ¬ i + 2 < s.size := by simp at hsz; omega
    rw [hd]
    clear hd hsz
    go_enter Tryd.func64, Tryd.ntmps64
    go_wp2_with fail
    go_loop [8, 9] (fun v k => v = .int .i64 0 ∧ k = .int .i64 ((i : Int) + 3)) (fun _ k => (intOf k).toNat)
    case atStart => exact ⟨rfl, rfl⟩
    case round =>
      obtain ⟨rfl, rfl⟩ := hrel
      go_wp2_with fail
      go_ret2
      exact ⟨piece_none HP.out, Below.refl _ _⟩
  · have HP := Lib.hid (show pieceL (92 :: 117 :: o :: u) = ([], 0) by simp [pieceL, ho])
    have j2 : ∀ w, (Instr.index 9 (.string s) (.int .i64 ((i : Int) + 2))).run Tryd.prog w = .ok (.int .u8 (o.toNat : Int)) w := byte_plus s i 2 o _ (by rw [hd]; rfl)
    have hon : ¬ o.toNat = 123 := fun e => ho (UInt8.toNat_inj.1 e)
    have bo : ((o.toNat : Int) == 123) = false := by simp; omega
    have g3 : (i : Int) + 2 < s.size := by simp at hsz; omega
    have g3' : i + 2 < s.size := by simp at hsz; omega
    rw [hd]
    clear hd hsz ho hon
    go_enter Tryd.func64, Tryd.ntmps64
    go_wp2_with fail
    go_loop [8, 9] (fun v k => v = .int .i64 0 ∧ k = .int .i64 ((i : Int) + 3)) (fun _ k => (intOf k).toNat)
    case atStart => exact ⟨rfl, rfl⟩
    case round =>
      obtain ⟨rfl, rfl⟩ := hrel
      go_wp2_with fail
      go_ret2
      exact ⟨piece_none HP.out, Below.refl _ _⟩
/-- The reference's piece. -/
theorem piece_any (s : ByteArray) (i : Nat) (w : World) (hs : s.size ≤ 1000000000000) (hi : i < s.size) :
    Calls Tryd.prog 64 #[.string s, .int .i64 i] w fun e w' => PieceRes w (s.data.toList.drop i) e w' ∧ Below w.heap.size w w' := by
  cases hd : s.data.toList.drop i with
  | nil => exact absurd (congrArg List.length hd) (by rw [List.length_drop, size_toList]; simp; omega)
  | cons c t =>
    rw [← hd]
    by_cases hc : c = 92
    case neg => exact piece_plain s i c t w hs hd hc
    subst hc
    cases t with
    | nil => exact piece_end s i w hs hd
    | cons d t =>
      by_cases hx : d = 120
      · subst hx
        by_cases ht : t.length < 2
        · exact refpiece_x0 s i t w hs hd ht
        · match t, ht with
          | [], h => simp at h
          | [a], h => simp at h
          | a :: b :: t, _ => exact refpiece_x s i a b t w hs hd
      by_cases hu : d = 117
      · subst hu
        cases t with
        | nil => exact refpiece_u0 s i [] w hs hd (.inl rfl)
        | cons o t =>
          by_cases ho : o = 123
          · subst ho; exact refpiece_u s i t w hs hd
          · exact refpiece_u0 s i (o :: t) w hs hd (.inr ⟨o, t, rfl, ho⟩)
      exact piece_short s i d t w hs hd hx hu
end Go.Proofs.YtfgekdefnbohbaaDoor.U

namespace Go.Proofs.YtfgekdefnbohbaaDoor.U
open Go.RowKit Go.Proofs.YtfgekdefnbohbaaDoor.Txt
set_option linter.unusedVariables false
set_option linter.unusedSimpArgs false

set_option maxHeartbeats 4000000 in
theorem escape_nil (s : ByteArray) (w : World) (hL : s.data.toList = []) :
    Calls Tryd.prog 29 #[.string s] w fun e w' => EscRes s.data.toList e ∧ Below w.heap.size w w' := by
  have HE := Lib.hid (show escL s.data.toList = ([], 0) by rw [hL]; rfl)
  obtain rfl : s = ⟨#[]⟩ := by
    apply ByteArray.ext
    rw [← Array.toList_inj, hL]
  go_enter Tryd.func29, Tryd.ntmps29
  go_wp2
  go_ret2
  exact ⟨.none HE.out, Below.refl _ _⟩
theorem escape_any (s : ByteArray) (w : World) (hE : EnvQ w) (hs : s.size ≤ 1000000000000) :
    Calls Tryd.prog 29 #[.string s] w fun e w' => EscRes s.data.toList e ∧ Below w.heap.size w w' := by
  cases hL : s.data.toList with
  | nil => have := escape_nil s w hL; rw [hL] at this; exact this
  | cons h t =>
    rw [← hL]
    by_cases hx : h = 120
    · subst hx; exact escape_x s w t hL hE
    by_cases hu : h = 117
    · subst hu; exact escape_u s w t hL hE hs
    exact escape_plain s w h t hL hx hu
theorem escL_four (l : List UInt8) : (escL l).1.length ≤ 4 := by
  have e4 : ∀ n : Int, (encB n).length ≤ 4 := fun n => (encB_len n).2
  generalize hE : encB = E at e4
  unfold escL
  rw [hE]
  split
  · simp
  · repeat' split
    all_goals first | exact e4 _ | simp
theorem endT_two : ∀ (k : Bool) (l : List UInt8) (i : Nat), endT k l i ≠ 0 → i + 1 ≤ endT k l i
  | k, [], i, h => by cases k <;> exact absurd rfl h
  | true, _ :: t, i, h => by have := endT_two false t (i + 1) h; show i + 1 ≤ endT false t (i + 1); omega
  | false, c :: t, i, h => by
    have h1 := endT_two true t (i + 1)
    have h2 := endT_two false t (i + 1)
    simp only [endT] at h ⊢
    split
    · exact Nat.le_refl _
    · split
      · rename_i a b; rw [if_neg a, if_pos b] at h; have := h1 h; omega
      · rename_i a b; rw [if_neg a, if_neg b] at h; have := h2 h; omega
theorem endL_two (l : List UInt8) (h : endL l ≠ 0) : 2 ≤ endL l := by
  cases l with
  | nil => exact absurd rfl h
  | cons c t =>
    simp only [endL] at h ⊢
    by_cases hc : c = 34
    · rw [if_pos hc] at h ⊢; exact endT_two false t 1 h
    · rw [if_neg hc] at h; exact absurd rfl h

/-- What Unquote hands back. -/
def UnqRes (o : Option (List UInt8 × Nat)) (e : Ending) : Prop := match o with
  | none => e = .returned (.tuple #[.string ⟨#[]⟩, .int .i64 0, .int .i64 13])
  | some (x, n) => e = .returned (.tuple #[.string ⟨x.toArray⟩, .int .i64 n, .int .i64 0])
/-- Where Unquote's loop stands. -/
structure UAt (W : World) (l : List UInt8) (n : Nat) (wr : World) (j : Nat) (acc : List UInt8) : Prop where
  lo : 1 ≤ j
  hi : j + 1 ≤ n
  bld : Bld W.heap.size W.heap.size (Lib.byteCells acc) wr
  below : Below W.heap.size W wr
  len : acc.length ≤ 4 * j
  eq : bodyL ((l.take (n - 1)).drop 1) = (bodyF (n - 1 - j) ((l.take (n - 1)).drop j)).map (acc ++ ·)

set_option maxRecDepth 100000 in
set_option maxHeartbeats 8000000 in
theorem Unquote_any (s : ByteArray) (w : World) (hs : s.size ≤ 1000000000000) (hE : EnvQ w) :
    Calls Tryd.prog 13 #[.string s] w fun e w' => UnqRes (unqL s.data.toList) e ∧ Below w.heap.size w w' := by
  obtain ⟨l, hl⟩ : ∃ l, s.data.toList = l := ⟨_, rfl⟩
  have hlen : s.size = l.length := by rw [← hl]; rfl
  have HEN := Lib.hid (ending_any s w hs)
  rw [hl] at HEN ⊢
  have HE := Lib.hid hE
  have HL := Lib.hid hl
  have hend := endL_le l
  rw [← hlen] at hend
  clear hE hl
  by_cases h0 : endL l = 0
  · have HU := Lib.hid (show unqL l = none by unfold unqL; rw [if_pos h0])
    rw [h0] at HEN
    clear h0 hend hlen
    go_enter Tryd.func13, Tryd.ntmps13
    go_wp2_with fail
    refine HEN.out.mono ?_
    rintro e w1 ⟨rfl, rfl⟩
    go_wp2_with fail
    go_ret3
    exact ⟨by rw [HU.out]; exact rfl, Below.refl _ _⟩
  have h2 := endL_two l h0
  have hu : unqL l = match bodyL ((l.take (endL l - 1)).drop 1) with
      | none => none
      | some x => if quoteL x = l.take (endL l) then some (x, endL l) else none := by unfold unqL; rw [if_neg h0]; rfl
  obtain ⟨n, hn⟩ : ∃ n, endL l = n := ⟨_, rfl⟩
  rw [hn] at HEN hend h2 hu
  have HU := Lib.hid hu
  have b0 : ((n : Int) == 0) = false := by simp; omega
  have HLN := Lib.hid hlen
  clear h0 hu hn hlen
  go_enter Tryd.func13, Tryd.ntmps13
  go_wp2_with fail
  refine HEN.out.mono ?_
  rintro e w1 ⟨rfl, rfl⟩
  go_wp2_with fail
  clear b0
  go_loopw [7] (fun v wr => ∃ (j : Nat) (acc : List UInt8), v = .int .i64 j ∧ UAt w l n wr j acc) (fun v _ => n - (intOf v).toNat)
  case atStart =>
    refine ⟨1, [], rfl, Nat.le_refl _, h2, Bld.new w, (Below.refl _ _).alloc (Nat.le_refl _) _, Nat.zero_le _, ?_⟩
    have : ((l.take (n - 1)).drop 1).length = n - 1 - 1 := by rw [List.length_drop, List.length_take]; have := HLN.out; omega
    unfold bodyL
    rw [this]
    cases bodyF (n - 1 - 1) ((l.take (n - 1)).drop 1) <;> rfl
  case round =>
    obtain ⟨j, acc, rfl, hq⟩ := hrel
    have HQ := Lib.hid hq
    have hj1 := hq.lo
    have hj2 := hq.hi
    clear hq
    by_cases hlt : j < n - 1
    case neg =>
      have hjn : (n : Int) - 1 = j := by omega
      have hbody : bodyL ((l.take (n - 1)).drop 1) = some acc := by
        have := HQ.out.eq
        rw [show n - 1 - j = 0 by omega] at this
        rw [this]
        simp [bodyF]
      have hu := HU.out
      rw [hbody] at hu
      simp only at hu
      have hal := HQ.out.len
      obtain ⟨x, hx⟩ : ∃ x : ByteArray, x = ⟨acc.toArray⟩ := ⟨_, rfl⟩
      have hxl : x.data.toList = acc := by rw [hx]
      have hxs : x.size ≤ 14073748835000 := by rw [← size_toList, hxl]; omega
      have HS := Lib.hid (String_any w.heap.size w.heap.size acc wr HQ.out.bld HQ.out.below.size)
      rw [← hx] at HS
      obtain ⟨Q, hQ⟩ : ∃ Q : ByteArray, Q = ⟨(quoteL acc).toArray⟩ := ⟨_, rfl⟩
      have C1 := Lib.hid (show ∀ w2, Below w.heap.size w w2 → ∀ W, Below w2.heap.size w2 W → Calls Tryd.prog 12 #[.string x] W fun e w' => e = .returned (.string Q) ∧ Below w2.heap.size w2 w' from fun w2 hw2 W hW => by
        have := Quote_any x W hxs ((HE.out.below (hw2.trans (hW.mono hw2.size))).tz)
        rw [hxl, ← hQ] at this
        exact this.mono fun e w' ⟨h1, h2⟩ => ⟨h1, hW.trans (h2.mono hW.size)⟩)
      obtain ⟨P, hP⟩ : ∃ P, s.extract 0 n = P := ⟨_, rfl⟩
      have hsl : ∀ W : World, (Instr.slice 9 (.string s) none (some (.int .i64 n)) none).run Tryd.prog W = .ok (.string P) W := fun W => by
        rw [run_slice_string_h W 9 s Tryd.underlying9 .i64 n (by omega) (by omega), show ((n : Int)).toNat = n by omega, hP]
      have hPl : P.data.toList = l.take n := by rw [← hP, take_list, HL.out]
      by_cases hqp : Q = P
      case pos =>
        have hun : unqL l = some (acc, n) := by
          rw [hu, if_pos]
          rw [← hPl, ← hqp, hQ]
        have HUN := Lib.hid hun
        have HX := Lib.hid hx
        subst hqp
        clear hu hbody hxl hxs hx hQ hP hPl hun hal
        go_wp2_with fail
        refine HS.out.mono ?_
        rintro e w2 ⟨rfl, hb2⟩
        have HB2 := Lib.hid (HQ.out.below.trans hb2)
        clear hb2
        go_upto_region 16 with fail
        go_cut [53] (fun v wx => v = .bool false ∧ Below w2.heap.size w2 wx)
        case first =>
          go_region_with ((with_reducible refine (C1.out _ HB2.out _ (by first | exact Below.refl _ _ | exact (Below.refl _ _).drew | assumption | exact Below.drew (by assumption))).mono ?_); rintro e w5 ⟨rfl, hb5⟩)
          all_goals (go_wp2_with fail)
          all_goals
            go_meet
            exact ⟨rfl, by assumption⟩
        case rest =>
          obtain ⟨rfl, hbx⟩ := hcut
          have HBX := Lib.hid (HB2.out.trans (hbx.mono HB2.out.size))
          clear hbx
          go_wp2_with fail
          go_ret3
          exact ⟨by rw [HUN.out, HX.out]; exact rfl, HBX.out⟩
      case neg =>
        have hun : unqL l = none := by
          rw [hu, if_neg]
          intro he
          apply hqp
          rw [hQ, he, ← hPl]
        have HUN := Lib.hid hun
        have g0 : ¬ Q.toList = P.toList := fun he => hqp (by
          apply ByteArray.ext
          rw [← Array.toList_inj, ← toList_eq, ← toList_eq, he])
        have g1 : (Q.toList == P.toList) = false := by simpa using g0
        clear hu hbody hxl hxs hx hQ hP hPl hun hal
        go_wp2_with fail
        refine HS.out.mono ?_
        rintro e w2 ⟨rfl, hb2⟩
        have HB2 := Lib.hid (HQ.out.below.trans hb2)
        clear hb2
        go_upto_region 16 with fail
        go_cut [53] (fun v wx => v = .bool true ∧ Below w2.heap.size w2 wx)
        case first =>
          go_region_with ((with_reducible refine (C1.out _ HB2.out _ (by first | exact Below.refl _ _ | exact (Below.refl _ _).drew | assumption | exact Below.drew (by assumption))).mono ?_); rintro e w5 ⟨rfl, hb5⟩)
          all_goals (go_wp2_with fail)
          all_goals
            go_meet
            exact ⟨by first | rfl | (simp [g0]; done) | (simp [g1]; done), by assumption⟩
        case rest =>
          obtain ⟨rfl, hbx⟩ := hcut
          have HBX := Lib.hid (HB2.out.trans (hbx.mono HB2.out.size))
          clear hbx
          go_wp2_with fail
          go_ret3
          exact ⟨by rw [HUN.out]; exact rfl, HBX.out⟩
    case pos =>
      obtain ⟨c, u, hcu⟩ : ∃ c u, l.drop j = c :: u := by
        cases h : l.drop j with
        | nil => exact absurd (congrArg List.length h) (by rw [List.length_drop, ← HLN.out]; simp; omega)
        | cons c u => exact ⟨c, u, rfl⟩
      obtain ⟨m, hm⟩ : ∃ m, n - 1 - j = m + 1 := ⟨n - 1 - j - 1, by omega⟩
      have hBj : (l.take (n - 1)).drop j = c :: u.take m := by rw [List.drop_take, hcu, hm]; rfl
      have hBj1 : (l.take (n - 1)).drop (j + 1) = u.take m := by rw [← List.drop_drop, hBj]; rfl
      have hi := byte_at s j c u (by rw [HL.out, hcu])
      have heq := HQ.out.eq
      rw [hm, hBj] at heq
      have hal := HQ.out.len
      have hul : (u.take m).length = m := by
        rw [← hBj1, List.length_drop, List.length_take, ← HLN.out]; omega
      by_cases hc : c = 92
      case neg =>
        have hcn : ¬ c.toNat = 92 := fun e => hc (UInt8.toNat_inj.1 e)
        have b92 : ((c.toNat : Int) != 92) = true := by simp; omega
        have HN := Lib.hid (show bodyL ((l.take (n - 1)).drop 1) = (bodyF (n - 1 - (j + 1)) ((l.take (n - 1)).drop (j + 1))).map ((acc ++ [c]) ++ ·) by
          rw [heq, hBj1, show n - 1 - (j + 1) = m by omega]
          simp only [bodyF]
          rw [if_pos hc]
          cases bodyF m (u.take m) with
          | none => rfl
          | some y => simp)
        have hlt2 : (j : Int) < (n : Int) - 1 := by omega
        clear heq hBj hBj1 hul hc hcn hcu
        go_wp2_with fail
        refine (WByte _ _ acc c _ HQ.out.bld (by omega) HQ.out.below.size).mono ?_
        rintro e w2 ⟨rfl, hb, hl, hk⟩
        have HB := Lib.hid hb
        have HLB := Lib.hid (HQ.out.below.trans hl)
        clear hb hl hk
        go_wp2_with fail
        go_roundw
        case rel => exact ⟨j + 1, acc ++ [c], by go_num, by omega, by omega, HB.out, HLB.out, by simp; omega, HN.out⟩
        case measure => simp [intOf]; omega
      case pos =>
        subst hc
        have hi92 : ∀ w, (Instr.index 9 (.string s) (.int .i64 j)).run Tryd.prog w = .ok (.int .u8 92) w := fun w => (hi w).trans (by rfl)
        obtain ⟨E, hE⟩ : ∃ E, s.extract (j + 1) (n - 1) = E := ⟨_, rfl⟩
        have hEl : E.data.toList = u.take m := by rw [← hE, extract_list s (j + 1) (n - 1) (by omega), HL.out, hBj1]
        have hsl : ∀ W : World, (Instr.slice 9 (.string s) (some (.int .i64 ((j : Int) + 1))) (some (.int .i64 ((n : Int) - 1))) none).run Tryd.prog W = .ok (.string E) W := fun W => by
          rw [run_slice_string W 9 s .i64 .i64 ((j : Int) + 1) ((n : Int) - 1) Tryd.underlying9 (by omega) (by omega) (by omega), show ((j : Int) + 1).toNat = j + 1 by omega, show ((n : Int) - 1).toNat = n - 1 by omega, hE]
        have hEs : E.size ≤ 1000000000000 := by rw [← size_toList, hEl, hul]; omega
        have HX := Lib.hid (escape_any E wr (HE.out.below HQ.out.below) hEs)
        rw [hEl] at HX
        have hkl := escL_le (u.take m)
        have hfour := escL_four (u.take m)
        simp only [bodyF] at heq
        rw [if_neg (by simp)] at heq
        rw [hul] at hkl
        obtain ⟨k, hk⟩ : ∃ k, (escL (u.take m)).2 = k := ⟨_, rfl⟩
        have hlt2 : (j : Int) < (n : Int) - 1 := by omega
        rw [hk] at heq hkl
        have HK := Lib.hid hk
        clear hi
        by_cases hk0 : k = 0
        · rw [if_pos hk0] at heq
          have hun : unqL l = none := by
            rw [HU.out, heq]; rfl
          have HUN := Lib.hid hun
          have HK0 := Lib.hid (hk.trans hk0)
          clear heq hBj hBj1 hul hcu hE hEl hk hk0 hkl hfour hun HK
          go_wp2_with fail
          refine HX.out.mono ?_
          rintro e w2 ⟨⟨Wb, rfl, hW⟩, hb⟩
          have HB := Lib.hid (HQ.out.below.trans (hb.mono HQ.out.below.size))
          rw [HK0.out]
          clear hb hW
          go_wp2_with fail
          go_ret3
          exact ⟨by rw [HUN.out]; exact rfl, HB.out⟩
        · rw [if_neg hk0] at heq
          have b0 : ((k : Int) == 0) = false := by simp; omega
          have HN := Lib.hid (show ∀ Wl : List UInt8, Wl = (escL (u.take m)).1 → bodyL ((l.take (n - 1)).drop 1) = (bodyF (n - 1 - (j + 1 + k)) ((l.take (n - 1)).drop (j + 1 + k))).map ((acc ++ Wl) ++ ·) from fun Wl hWl => by
            rw [heq, ← List.drop_drop, hBj1, hWl]
            have hf := bodyF_fuel m (n - 1 - (j + 1 + k)) ((u.take m).drop k) (by rw [List.length_drop, hul]; omega) (by rw [List.length_drop, hul]; omega)
            rw [hf]
            cases bodyF (n - 1 - (j + 1 + k)) ((u.take m).drop k) with
            | none => rfl
            | some y => simp)
          clear heq hBj hBj1 hul hcu hE hEl hk hk0
          go_wp2_with fail
          refine HX.out.mono ?_
          rintro e w2 ⟨⟨Wb, rfl, hW⟩, hb⟩
          have HB0 := Lib.hid (HQ.out.bld.below (hb))
          have HBL := Lib.hid (HQ.out.below.trans (hb.mono HQ.out.below.size))
          have hWs : Wb.size ≤ 4 := by rw [← size_toList, hW]; exact hfour
          have HWE := Lib.hid (HN.out _ hW)
          rw [HK.out]
          clear hb hW hfour
          go_wp2_with fail
          refine (WString _ _ acc Wb _ HB0.out (by omega) HBL.out.size).mono ?_
          rintro e w3 ⟨rfl, hb, hl, hk⟩
          have HB := Lib.hid hb
          have HLB := Lib.hid (HBL.out.trans hl)
          clear hb hl hk
          go_wp2_with fail
          go_roundw
          case rel => exact ⟨j + 1 + k, acc ++ Wb.data.toList, by go_num, by omega, by omega, HB.out, HLB.out, by rw [List.length_append, size_toList]; omega, HWE.out⟩
          case measure => simp [intOf]; omega
end Go.Proofs.YtfgekdefnbohbaaDoor.U

namespace Go.Proofs.YtfgekdefnbohbaaDoor.U
open Go.RowKit Go.Proofs.YtfgekdefnbohbaaDoor.Txt
set_option linter.unusedVariables false
set_option linter.unusedSimpArgs false
attribute [local go_sem] frozen?_alloc_cells

theorem uF_small : ∀ (f r : Nat) (l : List UInt8) (k r' k' : Nat), uF f r l k = some (r', k') → k' ≤ k + f
  | 0, r, l, k, r', k', h => by cases h
  | f + 1, r, [], k, r', k', h => by cases h
  | f + 1, r, c :: t, k, r', k', h => by
    simp only [uF] at h
    split at h
    · split at h
      · cases h
      · cases h; omega
    · split at h
      · cases h
      · have := uF_small f _ t _ _ _ h; omega
theorem bytesR_four (r : Nat) : (bytesR r).length ≤ 4 := by
  unfold bytesR
  repeat' split
  all_goals simp
theorem pieceL_small (l : List UInt8) : (pieceL l).2 ≤ 11 ∧ (pieceL l).1.length ≤ 4 := by
  have hb := bytesR_four
  generalize hB : bytesR = B at hb
  unfold pieceL
  rw [hB]
  split
  · simp
  · split <;> simp
  · repeat' split
    all_goals first
      | (simp; done)
      | exact ⟨by have := uF_small _ _ _ _ _ _ ‹_›; simp; omega, hb _⟩

/-- Where the reference's Unquote stands. -/
structure RUAt (W : World) (s : ByteArray) (F : Option (List UInt8 × Nat)) (wr : World) (v : Value) (pos : Nat) (acc : List UInt8) : Prop where
  hi : pos ≤ s.size + 11
  own : wr.ownsRow W.heap.size 5 1 v acc.length (Lib.byteCells acc)
  below : Below W.heap.size W wr
  len : acc.length ≤ 4 * pos
  eq : ∃ f, s.size < f + pos ∧ F = rbF f (s.data.toList.drop pos) acc pos

set_option maxRecDepth 100000 in
set_option maxHeartbeats 8000000 in
theorem RefUnquote_any (s : ByteArray) (w : World) (hs : s.size ≤ 1000000000) :
    Calls Tryd.prog 45 #[.string s] w fun e w' => UnqRes (refU s.data.toList) e ∧ Below w.heap.size w w' := by
  obtain ⟨i0, hi, hz0, hz1, hz2⟩ := info_parts info8'
  have hsl := Tryd.underlying45
  obtain ⟨L, hL⟩ : ∃ L, s.data.toList = L := ⟨_, rfl⟩
  have hlen : s.size = L.length := by rw [← hL]; rfl
  rw [hL]
  cases L with
  | nil =>
    obtain rfl : s = ⟨#[]⟩ := by
      apply ByteArray.ext
      rw [← Array.toList_inj, hL]
    go_enter Tryd.func45, Tryd.ntmps45
    go_wp2
    go_ret3
    exact ⟨rfl, Below.refl _ _⟩
  | cons c t =>
    have hn0 : s.size ≠ 0 := by rw [hlen]; simp
    have b0 : ((s.size : Int) == 0) = false := by rw [beq_eq_false_iff_ne]; omega
    have x0 : ∀ w, (Instr.index 9 (.string s) (.int .i64 0)).run Tryd.prog w = .ok (.int .u8 (c.toNat : Int)) w := byte_at s 0 c t (by rw [hL]; rfl)
    by_cases hc : c = 34
    case neg =>
      have HU := Lib.hid (show refU (c :: t) = none from if_neg hc)
      have hcn : ¬ c.toNat = 34 := fun e => hc (UInt8.toNat_inj.1 e)
      have b34 : ((c.toNat : Int) != 34) = true := by simp; omega
      clear hL hlen hc hcn
      go_enter Tryd.func45, Tryd.ntmps45
      go_wp2
      go_ret3
      exact ⟨by rw [HU.out]; exact rfl, Below.refl _ _⟩
    subst hc
    have x34 : ∀ w, (Instr.index 9 (.string s) (.int .i64 0)).run Tryd.prog w = .ok (.int .u8 34) w := x0
    have HRU := Lib.hid (show refU (34 :: t) = match rbF (t.length + 1) t [] 1 with | none => none | some (x, i) => if quoteL x = (34 :: t).take (i + 1) then some (x, i + 1) else none by cases h : rbF (t.length + 1) t [] 1 <;> simp [refU, h])
    obtain ⟨F, hF⟩ : ∃ F, rbF (t.length + 1) t [] 1 = F := ⟨_, rfl⟩
    rw [hF] at HRU
    have HF := Lib.hid (show ∃ f, s.size < f + 1 ∧ F = rbF f (s.data.toList.drop 1) [] 1 from ⟨t.length + 1, by rw [hlen]; simp, by rw [hL]; exact hF.symm⟩)
    have HL := Lib.hid hL
    clear hL hlen x0 hF
    go_enter Tryd.func45, Tryd.ntmps45
    go_wp2_with fail
    clear x34 b0
    go_loopw [5, 6] (fun v i wr => ∃ (pos : Nat) (acc : List UInt8), i = .int .i64 pos ∧ RUAt w s F wr v pos acc) (fun _ i _ => s.size + 12 - (intOf i).toNat)
    case atStart => exact ⟨1, [], rfl, by omega, ⟨rfl, .inl ⟨rfl, rfl⟩⟩, Below.refl _ _, Nat.zero_le _, HF.out⟩
    case round =>
      obtain ⟨pos, acc, rfl, hq⟩ := hrel
      have HQ := Lib.hid hq
      have hph := hq.hi
      obtain ⟨f, hf1, hf2⟩ := hq.eq
      clear hq HF
      obtain ⟨wo, rfl⟩ : ∃ wo : World, wo = wr := ⟨_, rfl⟩
      have hpb : pos ≤ 1000000011 := by omega
      by_cases hlt : pos < s.size
      case neg =>
        have hnil : s.data.toList.drop pos = [] := List.drop_eq_nil_of_le (by rw [size_toList]; omega)
        have HUN := Lib.hid (show refU (34 :: t) = none by
          rw [HRU.out, hf2, hnil]
          cases f <;> rfl)
        clear hf2 hnil
        go_wp2_with fail
        go_ret3
        exact ⟨by rw [HUN.out]; exact rfl, HQ.out.below⟩
      case pos =>
        obtain ⟨g, rfl⟩ : ∃ g, f = g + 1 := ⟨f - 1, by omega⟩
        obtain ⟨c, u, hd⟩ : ∃ c u, s.data.toList.drop pos = c :: u := by
          cases h : s.data.toList.drop pos with
          | nil => exact absurd (congrArg List.length h) (by rw [List.length_drop, size_toList]; simp; omega)
          | cons c u => exact ⟨c, u, rfl⟩
        have hx := byte_at s pos c u hd
        rw [hd] at hf2
        simp only [rbF] at hf2
        by_cases hc : c = 34
        · subst hc
          rw [if_pos rfl] at hf2
          have hx2 : ∀ w, (Instr.index 9 (.string s) (.int .i64 pos)).run Tryd.prog w = .ok (.int .u8 34) w := hx
          have hu : refU (34 :: t) = if quoteL acc = (34 :: t).take (pos + 1) then some (acc, pos + 1) else none := by rw [HRU.out, hf2]
          have hal := HQ.out.len
          obtain ⟨A', c', hv, hcap, hcb⟩ := own_bytes HQ.out.own
          have hcv := conv_bytes (c := c') hcb
          obtain ⟨x, hxx⟩ : ∃ x : ByteArray, x = ⟨acc.toArray⟩ := ⟨_, rfl⟩
          rw [← hxx] at hcv
          have hxl : x.data.toList = acc := by rw [hxx]
          have hxs : x.size ≤ 1000000000000 := by rw [← size_toList, hxl]; omega
          have HRQ := Lib.hid (fun W => RefQuote_any x W hxs)
          rw [hxl] at HRQ
          obtain ⟨Q, hQ⟩ : ∃ Q : ByteArray, Q = ⟨(quoteL acc).toArray⟩ := ⟨_, rfl⟩
          rw [← hQ] at HRQ
          obtain ⟨P, hP⟩ : ∃ P, s.extract 0 (pos + 1) = P := ⟨_, rfl⟩
          have hsl2 : ∀ W : World, (Instr.slice 9 (.string s) none (some (.int .i64 ((pos : Int) + 1))) none).run Tryd.prog W = .ok (.string P) W := fun W => by
            rw [run_slice_string_h W 9 s Tryd.underlying9 .i64 ((pos : Int) + 1) (by omega) (by omega), show ((pos : Int) + 1).toNat = pos + 1 by omega, hP]
          have hPl : P.data.toList = (34 :: t).take (pos + 1) := by rw [← hP, take_list, HL.out]
          have HXX := Lib.hid hxx
          have HB := Lib.hid HQ.out.below
          obtain ⟨n, hn⟩ : ∃ n, acc.length = n := ⟨_, rfl⟩
          rw [hn] at hcv hv
          by_cases hqp : Q = P
          · have HUN := Lib.hid (show refU (34 :: t) = some (acc, pos + 1) by
              rw [hu, if_pos]
              rw [← hPl, ← hqp, hQ])
            subst hqp
            subst hv
            clear hu hf2 hal hcap hcb hxx hxl hxs hQ hP hPl hd hn HQ hx
            go_wp2_with fail
            refine (HRQ.out _).mono ?_
            rintro e w2 ⟨rfl, hb2⟩
            have HB2 := Lib.hid (HB.out.trans (hb2.mono HB.out.size))
            clear hb2
            go_wp2_with fail
            go_ret3
            exact ⟨by rw [HUN.out, HXX.out]; exact rfl, HB2.out⟩
          · have HUN := Lib.hid (show refU (34 :: t) = none by
              rw [hu, if_neg]
              intro he
              apply hqp
              rw [hQ, he, ← hPl])
            have g0 : ¬ Q.toList = P.toList := fun he => hqp (by
              apply ByteArray.ext
              rw [← Array.toList_inj, ← toList_eq, ← toList_eq, he])
            have g1 : (Q.toList == P.toList) = false := by simpa using g0
            subst hv
            clear hu hf2 hal hcap hcb hxx hxl hxs hQ hP hPl hd hn HQ hx hqp
            go_wp2_with fail
            refine (HRQ.out _).mono ?_
            rintro e w2 ⟨rfl, hb2⟩
            have HB2 := Lib.hid (HB.out.trans (hb2.mono HB.out.size))
            clear hb2
            go_wp2_with fail
            go_ret3
            exact ⟨by rw [HUN.out]; exact rfl, HB2.out⟩
        · rw [if_neg hc] at hf2
          have HPA := Lib.hid (fun W => piece_any s pos W (by omega) hlt)
          rw [hd] at HPA
          have hcn : ¬ c.toNat = 34 := fun e => hc (UInt8.toNat_inj.1 e)
          have b34 : ((c.toNat : Int) != 34) = true := by simp; omega
          have hsm := pieceL_small (c :: u)
          have hdr : ∀ k, s.data.toList.drop (pos + k) = (c :: u).drop k := fun k => by rw [← List.drop_drop, hd]
          clear hd
          generalize hPC : pieceL (c :: u) = PC at hf2 hsm
          have HPC := Lib.hid hPC
          obtain ⟨p, k⟩ := PC
          simp only at hf2 hsm
          have hlt2 : (pos : Int) < s.size := by omega
          clear hPC hcn hc
          go_wp2_with fail
          refine (HPA.out _).mono ?_
          rintro e w2 ⟨hp, hb2⟩
          unfold PieceRes at hp
          rw [HPC.out] at hp
          have HB2 := Lib.hid hb2
          rcases hp with ⟨hk0, rfl⟩ | ⟨Q, ty, fr, rfl, hQl, hQb, hkp⟩
          · simp only at hk0
            rw [if_pos hk0] at hf2
            have HUN := Lib.hid (show refU (34 :: t) = none by rw [HRU.out, hf2])
            have HBX := Lib.hid (HQ.out.below.trans (hb2.mono HQ.out.below.size))
            clear hf2 hb2 hk0 hsm hdr
            go_wp2_with fail
            go_ret3
            exact ⟨by rw [HUN.out]; exact rfl, HBX.out⟩
          · simp only at hkp hQb ⊢
            rw [if_neg (by omega)] at hf2
            have HGA := Lib.hid (show Gath w.heap.size w2 Q p _ acc from ⟨own_alloc HQ.out.own hb2, ⟨ty, fr, hQb⟩, fun e => by have := (HQ.out.own.lt _ e).2; omega⟩)
            have HBW := Lib.hid (HQ.out.below.trans (hb2.mono HQ.out.below.size))
            have HFE := Lib.hid (show ∃ f, s.size < f + (pos + k) ∧ F = rbF f (s.data.toList.drop (pos + k)) (acc ++ p) (pos + k) from ⟨g, by omega, by rw [hdr k]; exact hf2⟩)
            have hal := HQ.out.len
            have HAL := Lib.hid (show acc.length ≤ 20000000000000 by omega)
            obtain ⟨Ln, hLn⟩ : ∃ Ln, p.length = Ln := ⟨_, rfl⟩
            rw [hLn] at hsm ⊢
            have HLN := Lib.hid hLn
            have b0 : ((k : Int) == 0) = false := by rw [beq_eq_false_iff_ne]; omega
            clear hf2 hb2 hQl hQb hdr hLn
            go_wp2_with fail
            go_loopw [5, 9] (fun v j wy => ∃ m : Nat, j = .int .i64 m ∧ m ≤ Ln ∧ Gath w.heap.size wy Q p v (acc ++ p.take m) ∧ Below w.heap.size w wy) (fun _ j _ => Ln - (intOf j).toNat)
            case atStart => exact ⟨0, rfl, Nat.zero_le _, by simpa using HGA.out, HBW.out⟩
            case round =>
              obtain ⟨m, rfl, hm, hga, hby⟩ := hrel
              have HBY := Lib.hid hby
              clear hby
              by_cases hml : m < Ln
              · have hmq : m < p.length := by have := HLN.out; omega
                have d1 := hga.cell m hmq
                have HTK := Lib.hid (show acc ++ p.take (m + 1) = acc ++ p.take m ++ [p.getD m 0] by
                  rw [List.take_add_one, List.getElem?_eq_getElem hmq, ← List.append_assoc]
                  simp [List.getD, List.getElem?_eq_getElem hmq])
                have hall : (acc ++ p.take m).length ≤ 20000000000000 + 4 := by have := HAL.out; rw [List.length_append, List.length_take]; omega
                have hao := hga.own
                obtain ⟨cc, hcc⟩ : ∃ cc, p.getD m 0 = cc := ⟨_, rfl⟩
                rw [hcc] at d1 HTK
                obtain ⟨ac, hac⟩ : ∃ ac, acc ++ p.take m = ac := ⟨_, rfl⟩
                rw [hac] at HTK hall hao hga
                have HGB := Lib.hid hga
                have HAO := Lib.hid hao
                have HALL := Lib.hid hall
                have HML := Lib.hid hml
                obtain ⟨ci, hci⟩ : ∃ ci : Int, (cc.toNat : Int) = ci := ⟨_, rfl⟩
                rw [hci] at d1
                have HCI := Lib.hid hci
                have z0 : (0 : Int) ≤ (m : Int) := by omega
                clear hcc hac hall hao hci hga hmq hal
                go_wp2_with (at_builtin; refine wpList_append_lies _ rfl (.tmp 44) (.tmp 49) 45 rfl w.heap.size 5 i0 (.int .u8 0) 1 1 hsl hi hz0 hz1 hz2 rfl (by decide) _ _ (Lib.byteCells ac) rfl (own_alloc HAO.out ((Below.refl _ _).alloc (Nat.le_refl _) _)) _ 1 1 [.int .u8 ci] rfl rfl (fun j u hj => news_at _ _ _ j u hj) (by intro u hu; simp at hu; subst hu; rfl) (by decide) (by have := HALL.out; unfold maxLen; omega) (by have := HALL.out; omega) (by have := HBY.out.size; simp; omega) _ rfl ?_; intro g cap w9 hown hgrow hat hgl; have HPU := Lib.hid (HGB.out.push (b := cc) (by rw [HCI.out]; exact hown) hgrow hat); have HB9 := Lib.hid ((HBY.out.alloc HBY.out.size _).grown hgrow (by have := HBY.out.size; simp; omega) (fun k hk => (HAO.out.lt k hk).1)); clear hown hgrow hat hgl)
                go_roundw
                case rel => exact ⟨m + 1, by go_num, HML.out, by rw [HTK.out]; have := HPU.out; exact this, HB9.out⟩
                case measure => have := HML.out; simp [intOf]; omega
              · have hmL : m = p.length := by have := HLN.out; omega
                have HE := Lib.hid (show Gath w.heap.size wr Q p _ (acc ++ p) by rw [hmL, List.take_length] at hga; exact hga)
                clear hga hmL
                go_wp2_with fail
                go_roundw
                case rel => exact ⟨pos + k, acc ++ p, by go_num, by omega, HE.out.own, HBY.out, by rw [List.length_append, HLN.out]; omega, HFE.out⟩
                case measure => simp [intOf]; omega
end Go.Proofs.YtfgekdefnbohbaaDoor.U
