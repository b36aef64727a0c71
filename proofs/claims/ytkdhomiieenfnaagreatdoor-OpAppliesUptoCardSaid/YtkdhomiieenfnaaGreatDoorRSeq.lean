/- The reference's Sequence and LetIn, walked: the rune of the sequence that begins at a byte, and its bytes. -/
import Derived.Test.YtkdhomiieenfnaaGreatDoorLs1
import Derived.Laws.IdiomStrings
import Derived.IntWalk
namespace Go.Proofs.YtkdhomiieenfnaaGreatDoor.U
open Go.RowKit Go.Proofs.YtkdhomiieenfnaaGreatDoor.Txt
set_option linter.unusedVariables false
set_option linter.unusedSimpArgs false

/-- The byte of a string that stands k behind place i. -/
theorem idx_at (s : ByteArray) (i k : Nat) (h : i + k < s.size) : ∀ w, (Instr.index 9 (.string s) (.int .i64 ((i : Int) + (k : Int)))).run Tryz.prog w = .ok (.int .u8 (bAt (s.data.toList.drop i) k)) w := by
  intro w
  have e : (i : Int) + (k : Int) = ((i + k : Nat) : Int) := by omega
  have hb : bAt (s.data.toList.drop i) k = (s[i + k]).toNat := by
    have hlt : i + k < s.data.toList.length := by simpa using h
    unfold bAt
    rw [List.getD_eq_getElem?_getD, List.getElem?_drop, List.getElem?_eq_getElem hlt]
    rfl
  rw [hb]
  have h0 : 0 ≤ (i : Int) + (k : Int) ∧ (i : Int) + (k : Int) < (s.size : Int) := by omega
  have ht : ((i : Int) + (k : Int)).toNat = i + k := by omega
  simp only [go_sem, Tryz.underlying9]
  rw [dif_pos h0]
  simp only [ht]
/-- The number of the bits that stand behind k bytes. -/
def accB (l : List UInt8) (m : Nat) : Nat → Nat
  | 0 => m
  | 1 => m
  | k + 2 => accB l m (k + 1) * 64 + bAt l (k + 1) % 64
theorem accB_succ (l : List UInt8) (m k : Nat) (h : 1 ≤ k) : accB l m (k + 1) = accB l m k * 64 + bAt l k % 64 := by
  obtain ⟨j, rfl⟩ : ∃ j, k = j + 1 := ⟨k - 1, by omega⟩
  rfl
theorem accB_lt (l : List UInt8) (m k : Nat) (hm : m < 32) (hk : k ≤ 4) : accB l m k < 8388608 := by
  have h1 : accB l m 1 < 32 := hm
  have h2 : accB l m 2 = accB l m 1 * 64 + bAt l 1 % 64 := rfl
  have h3 : accB l m 3 = accB l m 2 * 64 + bAt l 2 % 64 := rfl
  have h4 : accB l m 4 = accB l m 3 * 64 + bAt l 3 % 64 := rfl
  have h0 : accB l m 0 < 32 := hm
  match k, hk with
  | 0, _ => omega
  | 1, _ => omega
  | 2, _ => omega
  | 3, _ => omega
  | 4, _ => omega
/-- What Sequence answers. -/
def seqO (l : List UInt8) : Int × Int := match seqR l with | none => (0, 0) | some n => ((n : Int), ((encB n).length : Int))
theorem width2 (n : Nat) (h : 128 ≤ n) (h2 : n < 2048) : (encB (n : Int)).length = 2 := by
  rcases encB_cases (n : Int) ((valid_iff _).2 (by omega)) with ⟨h1, e⟩ | ⟨_, _, e⟩ | ⟨h1, _, _⟩ | ⟨h1, _, _⟩
  · omega
  · rw [e]; rfl
  · omega
  · omega
theorem width3 (n : Nat) (h : 2048 ≤ n) (h2 : n < 65536) (hv : ¬ (55296 ≤ n ∧ n ≤ 57343)) : (encB (n : Int)).length = 3 := by
  rcases encB_cases (n : Int) ((valid_iff _).2 (by omega)) with ⟨h1, e⟩ | ⟨h1, _, _⟩ | ⟨_, _, e⟩ | ⟨h1, _, _⟩
  · omega
  · omega
  · rw [e]; rfl
  · omega
theorem width4 (n : Nat) (h : 65536 ≤ n) (h2 : n ≤ 1114111) : (encB (n : Int)).length = 4 := by
  rcases encB_cases (n : Int) ((valid_iff _).2 (by omega)) with ⟨h1, e⟩ | ⟨h1, _, _⟩ | ⟨h1, _, _⟩ | ⟨_, _, e⟩
  · omega
  · omega
  · omega
  · rw [e]; rfl
theorem width1 (n : Nat) (h : n < 128) : (encB (n : Int)).length = 1 := by
  rcases encB_cases (n : Int) ((valid_iff _).2 (by omega)) with ⟨_, e⟩ | ⟨h1, _, _⟩ | ⟨h1, _, _⟩ | ⟨h1, _, _⟩
  · rw [e]; rfl
  all_goals omega
/-- A class of first bytes: how many bytes, the bits of the first, the least number. -/
structure Cls3 (l : List UInt8) (N m least : Nat) : Prop where
  two : 2 ≤ N
  four : N ≤ 4
  few : m < 32
  least3 : least ≤ 65536
  bad : ∀ k, 1 ≤ k → k < N → ¬ goesOn l k → seqR l = none
  off : (∀ k, 1 ≤ k → k < N → goesOn l k) → ¬ runeOk least (accB l m N) → seqR l = none
  good : (∀ k, 1 ≤ k → k < N → goesOn l k) → runeOk least (accB l m N) → seqR l = some (accB l m N) ∧ (encB (accB l m N : Int)).length = N
theorem cls2 (l : List UInt8) (h0 : ¬ bAt l 0 < 128) (h : bAt l 0 / 32 = 6) : Cls3 l 2 (bAt l 0 % 32) 128 := by
  have e : seqR l = if goesOn l 1 ∧ runeOk 128 (r2 l) then some (r2 l) else none := by unfold seqR; rw [if_neg h0, if_pos h]
  have ea : accB l (bAt l 0 % 32) 2 = r2 l := rfl
  refine ⟨by omega, by omega, by omega, by omega, fun k a b hg => ?_, fun hg hr => ?_, fun hg hr => ?_⟩
  · obtain rfl : k = 1 := by omega
    rw [e, if_neg (fun h => hg h.1)]
  · rw [e, if_neg (fun h => hr h.2)]
  · rw [ea] at hr ⊢
    rw [e, if_pos ⟨hg 1 (by omega) (by omega), hr⟩]
    exact ⟨rfl, width2 _ hr.1 (by unfold r2; omega)⟩
theorem cls3 (l : List UInt8) (h0 : ¬ bAt l 0 < 128) (h2 : ¬ bAt l 0 / 32 = 6) (h : bAt l 0 / 16 = 14) : Cls3 l 3 (bAt l 0 % 16) 2048 := by
  have e : seqR l = if goesOn l 1 ∧ goesOn l 2 ∧ runeOk 2048 (r3 l) then some (r3 l) else none := by unfold seqR; rw [if_neg h0, if_neg h2, if_pos h]
  have ea : accB l (bAt l 0 % 16) 3 = r3 l := rfl
  refine ⟨by omega, by omega, by omega, by omega, fun k a b hg => ?_, fun hg hr => ?_, fun hg hr => ?_⟩
  · rw [e, if_neg]
    rintro ⟨g1, g2, _⟩
    obtain rfl | rfl : k = 1 ∨ k = 2 := by omega
    · exact hg g1
    · exact hg g2
  · rw [e, if_neg (fun h => hr h.2.2)]
  · rw [ea] at hr ⊢
    rw [e, if_pos ⟨hg 1 (by omega) (by omega), hg 2 (by omega) (by omega), hr⟩]
    exact ⟨rfl, width3 _ hr.1 (by unfold r3; omega) hr.2.2⟩
theorem cls4 (l : List UInt8) (h0 : ¬ bAt l 0 < 128) (h2 : ¬ bAt l 0 / 32 = 6) (h3 : ¬ bAt l 0 / 16 = 14) (h : bAt l 0 / 8 = 30) : Cls3 l 4 (bAt l 0 % 8) 65536 := by
  have e : seqR l = if goesOn l 1 ∧ goesOn l 2 ∧ goesOn l 3 ∧ runeOk 65536 (r4 l) then some (r4 l) else none := by unfold seqR; rw [if_neg h0, if_neg h2, if_neg h3, if_pos h]
  have ea : accB l (bAt l 0 % 8) 4 = r4 l := rfl
  refine ⟨by omega, by omega, by omega, by omega, fun k a b hg => ?_, fun hg hr => ?_, fun hg hr => ?_⟩
  · rw [e, if_neg]
    rintro ⟨g1, g2, g3, _⟩
    obtain rfl | rfl | rfl : k = 1 ∨ k = 2 ∨ k = 3 := by omega
    · exact hg g1
    · exact hg g2
    · exact hg g3
  · rw [e, if_neg (fun h => hr h.2.2.2)]
  · rw [ea] at hr ⊢
    rw [e, if_pos ⟨hg 1 (by omega) (by omega), hg 2 (by omega) (by omega), hg 3 (by omega) (by omega), hr⟩]
    exact ⟨rfl, width4 _ hr.1 hr.2.1⟩

set_option maxRecDepth 100000 in
set_option maxHeartbeats 4000000 in
theorem LetIn_any (r : Nat) (w : World) (hr : r ≤ 1114111) : Calls Tryz.prog 89 #[.int .i64 r] w fun e w' => e = .returned (.bool (letInB r)) ∧ w = w' := by
  obtain ⟨x, hx⟩ : ∃ x : Int, (r : Int) = x := ⟨_, rfl⟩
  rw [hx]
  have x0 : 0 ≤ x := by omega
  have x1 : x ≤ 1114111 := by omega
  clear hx hr
  have e0 : letInB x = (!(decide (0 ≤ x ∧ x ≤ 8) || decide (11 ≤ x ∧ x ≤ 31) || decide (127 ≤ x ∧ x ≤ 159) || decide (64976 ≤ x ∧ x ≤ 65007) || decide (65279 ≤ x ∧ x ≤ 65279)) && decide (x % 65536 < 65534)) := rfl
  by_cases h1 : x = 9
  · have E := Lib.hid (show letInB x = true by rw [e0, h1]; rfl)
    have b1 : (x == 9) = true := by simp [h1]
    clear h1 e0
    go_enter Tryz.func89, Tryz.ntmps89
    go_wp2_with fail
    go_ret
    exact ⟨by rw [E.out]; rfl, rfl⟩
  by_cases h2 : x = 10
  · have E := Lib.hid (show letInB x = true by rw [e0, h2]; rfl)
    have b1 : (x == 9) = false := by simp [h1]
    have b2 : (x == 10) = true := by simp [h2]
    clear h1 h2 e0
    go_enter Tryz.func89, Tryz.ntmps89
    go_wp2_with fail
    go_ret
    exact ⟨by rw [E.out]; rfl, rfl⟩
  have b1 : (x == 9) = false := by simp [h1]
  have b2 : (x == 10) = false := by simp [h2]
  by_cases h3 : x < 32 ∨ (127 ≤ x ∧ x < 160) ∨ x = 65279 ∨ (64976 ≤ x ∧ x ≤ 65007)
  · have E := Lib.hid (show letInB x = false by
      rw [e0]
      rcases h3 with h | h | h | h
      · have : (0 ≤ x ∧ x ≤ 8) ∨ (11 ≤ x ∧ x ≤ 31) := by omega
        rcases this with h | h <;> simp [h]
      · have : 127 ≤ x ∧ x ≤ 159 := by omega
        simp [this]
      · have : 65279 ≤ x ∧ x ≤ 65279 := by omega
        simp [this]
      · simp [h])
    by_cases c1 : x < 32
    · clear h1 h2 h3 e0
      go_enter Tryz.func89, Tryz.ntmps89
      go_wp2_with fail
      go_ret
      exact ⟨by rw [E.out]; rfl, rfl⟩
    by_cases c2 : 127 ≤ x ∧ x < 160
    · obtain ⟨c2, c3⟩ := c2
      clear h1 h2 h3 e0
      go_enter Tryz.func89, Tryz.ntmps89
      go_wp2_with fail
      go_ret
      exact ⟨by rw [E.out]; rfl, rfl⟩
    have c4 : 160 ≤ x := by omega
    have c5 : 127 ≤ x := by omega
    have c6 : ¬ x < 160 := by omega
    by_cases c7 : x = 65279
    · have b3 : (x == 65279) = true := by simp [c7]
      clear h1 h2 h3 e0 c7 c2
      go_enter Tryz.func89, Tryz.ntmps89
      go_wp2_with fail
      go_ret
      exact ⟨by rw [E.out]; rfl, rfl⟩
    · have b3 : (x == 65279) = false := by simp [c7]
      have c8 : 64976 ≤ x := by omega
      have c9 : x ≤ 65007 := by omega
      clear h1 h2 h3 e0 c7 c2
      go_enter Tryz.func89, Tryz.ntmps89
      go_wp2_with fail
      go_ret
      exact ⟨by rw [E.out]; rfl, rfl⟩
  · have E := Lib.hid (show letInB x = decide (x % 65536 < 65534) by
      rw [e0]
      have n1 : ¬ (0 ≤ x ∧ x ≤ 8) := by omega
      have n2 : ¬ (11 ≤ x ∧ x ≤ 31) := by omega
      have n3 : ¬ (127 ≤ x ∧ x ≤ 159) := by omega
      have n4 : ¬ (64976 ≤ x ∧ x ≤ 65007) := by omega
      have n5 : ¬ (65279 ≤ x ∧ x ≤ 65279) := by omega
      rw [decide_eq_false n1, decide_eq_false n2, decide_eq_false n3, decide_eq_false n4, decide_eq_false n5]
      rfl)
    have c1 : ¬ x < 32 := by omega
    have b3 : (x == 65279) = false := by simp; omega
    by_cases c2 : 127 ≤ x
    · have c3 : ¬ x < 160 := by omega
      by_cases c4 : 64976 ≤ x
      · have c5 : ¬ x ≤ 65007 := by omega
        clear h1 h2 h3 e0
        go_enter Tryz.func89, Tryz.ntmps89
        go_wp2_with fail
        go_ret
        exact ⟨by rw [E.out]; rfl, rfl⟩
      · clear h1 h2 h3 e0
        go_enter Tryz.func89, Tryz.ntmps89
        go_wp2_with fail
        go_ret
        exact ⟨by rw [E.out]; rfl, rfl⟩
    · have c4 : ¬ 64976 ≤ x := by omega
      clear h1 h2 h3 e0
      go_enter Tryz.func89, Tryz.ntmps89
      go_wp2_with fail
      go_ret
      exact ⟨by rw [E.out]; rfl, rfl⟩
end Go.Proofs.YtkdhomiieenfnaaGreatDoor.U
