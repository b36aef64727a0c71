/- Exact laws, quotes: the reference's hex and piece. -/
import Derived.Test.YtfgekdefnbohbaaDoorRQuote2
namespace Go.Proofs.YtfgekdefnbohbaaDoor.U
open Go.RowKit Go.Proofs.YtfgekdefnbohbaaDoor.Txt
set_option linter.unusedVariables false
set_option linter.unusedSimpArgs false
attribute [local go_sem] frozen?_alloc_cells

def hexO (c : UInt8) : Int := match hexW c with | none => -1 | some d => (d : Int)
set_option maxHeartbeats 4000000 in
theorem hex_any (c : UInt8) (w : World) : Calls Tryd.prog 84 #[.int .u8 (c.toNat : Int)] w fun e w' => e = .returned (.int .i64 (hexO c)) ∧ w = w' := by
  have hcl := c.toNat_lt
  have hd : (48 ≤ c.toNat ∧ c.toNat ≤ 57 ∧ hexO c = (c.toNat : Int) - 48) ∨ (97 ≤ c.toNat ∧ c.toNat ≤ 102 ∧ hexO c = (c.toNat : Int) - 97 + 10) ∨ ((c.toNat < 48 ∨ 57 < c.toNat ∧ c.toNat < 97 ∨ 102 < c.toNat) ∧ hexO c = -1) := by
    unfold hexO hexW
    by_cases h1 : 48 ≤ c.toNat ∧ c.toNat ≤ 57
    · rw [if_pos h1]; exact .inl ⟨h1.1, h1.2, by show ((c.toNat - 48 : Nat) : Int) = _; omega⟩
    · rw [if_neg h1]
      by_cases h2 : 97 ≤ c.toNat ∧ c.toNat ≤ 102
      · rw [if_pos h2]; exact .inr (.inl ⟨h2.1, h2.2, by show ((c.toNat - 87 : Nat) : Int) = _; omega⟩)
      · rw [if_neg h2]; exact .inr (.inr ⟨by omega, rfl⟩)
  generalize hexO c = o at hd
  generalize c.toNat = x at hd hcl
  rcases hd with ⟨h1, h2, rfl⟩ | ⟨h1, h2, rfl⟩ | ⟨h1 | h1 | h1, rfl⟩
  all_goals
    go_enter Tryd.func84, Tryd.ntmps84
    go_wp2
    go_ret
    exact ⟨rfl, rfl⟩
/-- What piece hands back. -/
def PieceRes (w : World) (l : List UInt8) (e : Ending) (w' : World) : Prop :=
  ((pieceL l).2 = 0 ∧ e = .returned (.tuple #[.slice none 0 0, .int .i64 0])) ∨
  ∃ Q t fr, e = .returned (.tuple #[.slice (some ⟨Q, 0, none⟩) (pieceL l).1.length (pieceL l).1.length, .int .i64 (pieceL l).2]) ∧ w.heap.size ≤ Q ∧ w'.heap[Q]? = some (.cells (Lib.byteCells (pieceL l).1).toArray t fr) ∧ 0 < (pieceL l).2
theorem piece_none {w w' : World} {l : List UInt8} (h : pieceL l = ([], 0)) : PieceRes w l (.returned (.tuple #[.slice none 0 0, .int .i64 0])) w' := .inl ⟨by rw [h], rfl⟩
theorem piece_some {w w1 : World} {l x : List UInt8} {k : Nat} (T : TypeId) (h : pieceL l = (x, k)) (hk : 0 < k) (hw : w.heap.size ≤ w1.heap.size) : PieceRes w l (.returned (.tuple #[.slice (some ⟨w1.heap.size, 0, none⟩) x.length x.length, .int .i64 k])) (w1.alloc (.cells (Lib.byteCells x).toArray T)) :=
  .inr ⟨w1.heap.size, T, _, by rw [h], hw, by rw [h]; exact heap_alloc_new w1 _, by rw [h]; exact hk⟩
theorem byte_plus (s : ByteArray) (i k : Nat) (x : UInt8) (t : List UInt8) (h : (s.data.toList.drop i).drop k = x :: t) : ∀ w, (Instr.index 9 (.string s) (.int .i64 ((i : Int) + (k : Int)))).run Tryd.prog w = .ok (.int .u8 (x.toNat : Int)) w := by
  have := byte_at s (i + k) x t (by rw [← List.drop_drop]; exact h)
  rw [show ((i + k : Nat) : Int) = (i : Int) + (k : Int) by omega] at this
  exact this

set_option maxRecDepth 100000 in
set_option maxHeartbeats 4000000 in
theorem piece_plain (s : ByteArray) (i : Nat) (c : UInt8) (t : List UInt8) (w : World) (hs : s.size ≤ 1000000000000) (hd : s.data.toList.drop i = c :: t) (hc : c ≠ 92) :
    Calls Tryd.prog 64 #[.string s, .int .i64 i] w fun e w' => PieceRes w (s.data.toList.drop i) e w' ∧ Below w.heap.size w w' := by
  have hi := byte_at s i c t hd
  have hp : pieceL (c :: t) = ([c], 1) := by
    cases t with
    | nil => simp [pieceL, hc]
    | cons d t => simp [pieceL, hc]
  have HP := Lib.hid hp
  have hcn : ¬ c.toNat = 92 := fun e => hc (UInt8.toNat_inj.1 e)
  have b92 : ((c.toNat : Int) != 92) = true := by simp; omega
  rw [hd]
  clear hd hp hcn hc
  go_enter Tryd.func64, Tryd.ntmps64
  go_wp2
  go_ret2
  exact ⟨piece_some _ HP.out (by decide) (Nat.le_refl _), (Below.refl _ _).alloc (Nat.le_refl _) _⟩
set_option maxRecDepth 100000 in
set_option maxHeartbeats 4000000 in
theorem piece_end (s : ByteArray) (i : Nat) (w : World) (hs : s.size ≤ 1000000000000) (hd : s.data.toList.drop i = [92]) :
    Calls Tryd.prog 64 #[.string s, .int .i64 i] w fun e w' => PieceRes w (s.data.toList.drop i) e w' ∧ Below w.heap.size w w' := by
  have hi : ∀ w, (Instr.index 9 (.string s) (.int .i64 i)).run Tryd.prog w = .ok (.int .u8 92) w := byte_at s i 92 [] hd
  have HP := Lib.hid (show pieceL [92] = ([], 0) by simp [pieceL])
  have hsz : s.size = i + 1 := by
    have := congrArg List.length hd
    rw [List.length_drop, size_toList] at this
    simp at this; omega
  rw [hd]
  have g1 : s.size ≤ i + 1 := by omega
  have g2 : i ≤ 1000000000000 := by omega
  clear hd hsz
  go_enter Tryd.func64, Tryd.ntmps64
  go_wp2
  go_ret2
  exact ⟨piece_none HP.out, Below.refl _ _⟩
set_option maxRecDepth 100000 in
set_option maxHeartbeats 4000000 in
theorem piece_short (s : ByteArray) (i : Nat) (d : UInt8) (t : List UInt8) (w : World) (hs : s.size ≤ 1000000000000) (hd : s.data.toList.drop i = 92 :: d :: t) (hx : d ≠ 120) (hu : d ≠ 117) :
    Calls Tryd.prog 64 #[.string s, .int .i64 i] w fun e w' => PieceRes w (s.data.toList.drop i) e w' ∧ Below w.heap.size w w' := by
  have hi : ∀ w, (Instr.index 9 (.string s) (.int .i64 i)).run Tryd.prog w = .ok (.int .u8 92) w := byte_at s i 92 _ hd
  have j0 : ∀ w, (Instr.index 9 (.string s) (.int .i64 ((i : Int) + 1))).run Tryd.prog w = .ok (.int .u8 (d.toNat : Int)) w := byte_plus s i 1 d t (by rw [hd]; rfl)
  have hsz : i + 2 ≤ s.size := by
    have := congrArg List.length hd
    rw [List.length_drop, size_toList] at this
    simp at this; omega
  have g1 : ¬ s.size ≤ i + 1 := by omega
  have g2 : i ≤ 1000000000000 := by omega
  rw [hd]
  have hn : ∀ c : UInt8, d ≠ c → ¬ d.toNat = c.toNat := fun c hc e => hc (UInt8.toNat_inj.1 e)
  clear hd
  by_cases h34 : d = 34
  · subst h34
    have HP := Lib.hid (show pieceL (92 :: 34 :: t) = ([34], 2) by simp [pieceL])
    have j1 : ∀ w, (Instr.index 9 (.string s) (.int .i64 ((i : Int) + 1))).run Tryd.prog w = .ok (.int .u8 34) w := j0
    clear j0 hn
    go_enter Tryd.func64, Tryd.ntmps64
    go_wp2
    go_ret2
    exact ⟨piece_some _ HP.out (by decide) (Nat.le_refl _), (Below.refl _ _).alloc (Nat.le_refl _) _⟩
  by_cases h92 : d = 92
  · subst h92
    have HP := Lib.hid (show pieceL (92 :: 92 :: t) = ([92], 2) by simp [pieceL])
    have j1 : ∀ w, (Instr.index 9 (.string s) (.int .i64 ((i : Int) + 1))).run Tryd.prog w = .ok (.int .u8 92) w := j0
    clear j0 hn
    go_enter Tryd.func64, Tryd.ntmps64
    go_wp2
    go_ret2
    exact ⟨piece_some _ HP.out (by decide) (Nat.le_refl _), (Below.refl _ _).alloc (Nat.le_refl _) _⟩
  by_cases h110 : d = 110
  · subst h110
    have HP := Lib.hid (show pieceL (92 :: 110 :: t) = ([10], 2) by simp [pieceL])
    have j1 : ∀ w, (Instr.index 9 (.string s) (.int .i64 ((i : Int) + 1))).run Tryd.prog w = .ok (.int .u8 110) w := j0
    clear j0 hn
    go_enter Tryd.func64, Tryd.ntmps64
    go_wp2
    go_ret2
    exact ⟨piece_some _ HP.out (by decide) (Nat.le_refl _), (Below.refl _ _).alloc (Nat.le_refl _) _⟩
  by_cases h116 : d = 116
  · subst h116
    have HP := Lib.hid (show pieceL (92 :: 116 :: t) = ([9], 2) by simp [pieceL])
    have j1 : ∀ w, (Instr.index 9 (.string s) (.int .i64 ((i : Int) + 1))).run Tryd.prog w = .ok (.int .u8 116) w := j0
    clear j0 hn
    go_enter Tryd.func64, Tryd.ntmps64
    go_wp2
    go_ret2
    exact ⟨piece_some _ HP.out (by decide) (Nat.le_refl _), (Below.refl _ _).alloc (Nat.le_refl _) _⟩
  have HP := Lib.hid (show pieceL (92 :: d :: t) = ([], 0) by simp [pieceL, h34, h92, h110, h116, hx, hu])
  have n1 : ¬ d.toNat = 34 := hn 34 h34
  have n2 : ¬ d.toNat = 92 := hn 92 h92
  have n3 : ¬ d.toNat = 110 := hn 110 h110
  have n4 : ¬ d.toNat = 116 := hn 116 h116
  have n5 : ¬ d.toNat = 120 := hn 120 hx
  have n6 : ¬ d.toNat = 117 := hn 117 hu
  obtain ⟨y, hy⟩ : ∃ y, d.toNat = y := ⟨_, rfl⟩
  rw [hy] at j0 n1 n2 n3 n4 n5 n6
  have b1 : ((y : Int) == 34) = false := by simp; omega
  have b2 : ((y : Int) == 92) = false := by simp; omega
  have b3 : ((y : Int) == 110) = false := by simp; omega
  have b4 : ((y : Int) == 116) = false := by simp; omega
  have b5 : ((y : Int) == 120) = false := by simp; omega
  have b6 : ((y : Int) == 117) = false := by simp; omega
  clear hn n1 n2 n3 n4 n5 n6 hy h34 h92 h110 h116 hx hu
  go_enter Tryd.func64, Tryd.ntmps64
  go_wp2
  go_ret2
  exact ⟨piece_none HP.out, Below.refl _ _⟩
end Go.Proofs.YtfgekdefnbohbaaDoor.U
