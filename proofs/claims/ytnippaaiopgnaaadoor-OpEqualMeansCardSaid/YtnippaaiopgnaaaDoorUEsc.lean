/- The program's ending and escape. -/
import Derived.Test.YtnippaaiopgnaaaDoorUErr
import Derived.Test.YtnippaaiopgnaaaDoorUBuild
import Derived.Test.YtnippaaiopgnaaaDoorUQuote
import Derived.Test.YtnippaaiopgnaaaDoorUConv
import Derived.Laws.Strings2
namespace Go.Proofs.YtnippaaiopgnaaaDoor.U
open Go.RowKit Go.Proofs.YtnippaaiopgnaaaDoor.Txt
set_option linter.unusedVariables false
set_option linter.unusedSimpArgs false

theorem byte_at (s : ByteArray) (i : Nat) (x : UInt8) (t : List UInt8) (h : s.data.toList.drop i = x :: t) : ∀ w, (Instr.index 9 (.string s) (.int .i64 i)).run Tryd.prog w = .ok (.int .u8 (x.toNat : Int)) w := by
  have hlt : i < s.size := by
    have := congrArg List.length h
    rw [List.length_drop, size_toList] at this
    simp at this; omega
  have := byte_index s i hlt
  rw [h] at this
  exact this
theorem nonempty {s : ByteArray} (h : s.size ≠ 0) : s.toList.isEmpty = false := by
  rw [← decide_eq_emptyBytes]
  exact decide_eq_false (fun e => h (by rw [e]; rfl))

set_option maxRecDepth 100000 in
set_option maxHeartbeats 4000000 in
theorem ending_any (s : ByteArray) (w : World) (hs : s.size ≤ 1000000000000) :
    Calls Tryd.prog 60 #[.string s] w fun e w' => e = .returned (.int .i64 (endL s.data.toList)) ∧ w = w' := by
  obtain ⟨L, hL⟩ : ∃ L, s.data.toList = L := ⟨_, rfl⟩
  have hlen : s.size = L.length := by rw [← hL]; rfl
  rw [hL]
  cases L with
  | nil =>
    obtain rfl : s = ⟨#[]⟩ := by
      apply ByteArray.ext
      rw [← Array.toList_inj, hL]
    go_enter Tryd.func60, Tryd.ntmps60
    go_wp2
    go_ret
    exact ⟨rfl, rfl⟩
  | cons c t =>
    have hemp := nonempty (s := s) (by rw [hlen]; simp)
    have i0 : ∀ w, (Instr.index 9 (.string s) (.int .i64 0)).run Tryd.prog w = .ok (.int .u8 (c.toNat : Int)) w := byte_at s 0 c t (by rw [hL]; rfl)
    by_cases hc : c = 34
    case neg =>
      have hx : ¬ c.toNat = 34 := fun e => hc (by rw [← UInt8.toNat_inj, e]; rfl)
      have HE := Lib.hid (show endL (c :: t) = 0 from if_neg hc)
      generalize c.toNat = x at i0 hx
      have b : ((x : Int) != 34) = true := by simp; omega
      clear hlen hc
      go_enter Tryd.func60, Tryd.ntmps60
      go_wp2
      go_ret
      exact ⟨by rw [HE.out]; rfl, rfl⟩
    subst hc
    have i34 : ∀ w, (Instr.index 9 (.string s) (.int .i64 0)).run Tryd.prog w = .ok (.int .u8 34) w := fun w => (i0 w).trans (by rfl)
    have HL := Lib.hid hL
    have HN := Lib.hid hlen
    have HE := Lib.hid (show endL (34 :: t) = endT false t 1 by simp [endL])
    clear i0 hlen hL
    go_enter Tryd.func60, Tryd.ntmps60
    go_wp2
    clear i34 hemp
    go_loop [3] (fun v => ∃ i : Nat, v = .int .i64 i ∧ 1 ≤ i ∧ i ≤ s.size + 1 ∧ endT false t 1 = endT false ((34 :: t).drop i) i) (fun v => s.size + 1 - (intOf v).toNat)
    case atStart => exact ⟨1, rfl, by omega, by omega, rfl⟩
    case round =>
      obtain ⟨i, rfl, h1, h2, hh⟩ := hrel
      by_cases hlt : i < s.size
      case neg =>
        have HF := Lib.hid (show endL (34 :: t) = 0 by rw [HE.out, hh, List.drop_eq_nil_of_le (by rw [← HN.out]; omega)]; rfl)
        clear hh
        go_wp2_with fail
        go_ret
        exact ⟨by rw [HF.out]; rfl, rfl⟩
      case pos =>
        obtain ⟨x, u, hd⟩ : ∃ x u, (34 :: t).drop i = x :: u := by
          cases h : (34 :: t).drop i with
          | nil => exact absurd (congrArg List.length h) (by rw [List.length_drop, ← HN.out]; simp; omega)
          | cons x u => exact ⟨x, u, rfl⟩
        have hi := byte_at s i x u (by rw [HL.out, hd])
        have hd1 : (34 :: t).drop (i + 1) = u := by rw [← List.drop_drop, hd]; rfl
        rw [hd] at hh
        simp only [endT] at hh
        by_cases hx : x = 34
        · subst hx
          rw [if_pos rfl] at hh
          have hi2 : ∀ w, (Instr.index 9 (.string s) (.int .i64 i)).run Tryd.prog w = .ok (.int .u8 34) w := fun w => (hi w).trans (by rfl)
          have HF := Lib.hid (HE.out.trans hh)
          clear hh hi hd hd1
          go_wp2_with fail
          go_ret
          exact ⟨by rw [HF.out]; rfl, rfl⟩
        rw [if_neg hx] at hh
        by_cases hy : x = 92
        · subst hy
          rw [if_pos rfl] at hh
          have hi2 : ∀ w, (Instr.index 9 (.string s) (.int .i64 i)).run Tryd.prog w = .ok (.int .u8 92) w := fun w => (hi w).trans (by rfl)
          have HF := Lib.hid (show endT false t 1 = endT false ((34 :: t).drop (i + 2)) (i + 2) by
            rw [hh, show i + 2 = (i + 1) + 1 from rfl, ← List.drop_drop, hd1]
            cases u with
            | nil => rfl
            | cons z u => simp [endT])
          clear hh hi hd hd1 hx
          go_wp2_with fail
          go_round
          case rel => exact ⟨i + 2, by go_num, by omega, by omega, HF.out⟩
          case measure => simp [intOf]; omega
        · rw [if_neg hy] at hh
          have hx1 : ¬ x.toNat = 34 := fun e => hx (by rw [← UInt8.toNat_inj, e]; rfl)
          have hy1 : ¬ x.toNat = 92 := fun e => hy (by rw [← UInt8.toNat_inj, e]; rfl)
          have HF := Lib.hid (show endT false t 1 = endT false ((34 :: t).drop (i + 1)) (i + 1) by rw [hh, hd1])
          generalize x.toNat = y at hi hx1 hy1
          have b1 : ((y : Int) == 34) = false := by simp; omega
          have b2 : ((y : Int) == 92) = false := by simp; omega
          clear hh hd hd1 hx hy hx1 hy1
          go_wp2_with fail
          go_round
          case rel => exact ⟨i + 1, by go_num, by omega, by omega, HF.out⟩
          case measure => simp [intOf]; omega

theorem parseF_lt : ∀ (l : List UInt8) (a n : Nat), parseF a l = some n → n < (a + 1) * 16 ^ l.length
  | [], a, n, h => by simp only [parseF, Option.some.injEq] at h; simp; omega
  | c :: t, a, n, h => by
    simp only [parseF] at h
    cases hv : hexV c with
    | none => rw [hv] at h; cases h
    | some d =>
      rw [hv] at h
      have hd : d < 16 := by
        unfold hexV at hv
        repeat' split at hv
        all_goals (first | cases hv; omega | cases hv)
      have := parseF_lt t _ n h
      have h2 : (a * 16 + d + 1) * 16 ^ t.length ≤ ((a + 1) * 16) * 16 ^ t.length := Nat.mul_le_mul_right _ (by omega)
      rw [List.length_cons, Nat.pow_succ, Nat.mul_comm (16 ^ t.length) 16, ← Nat.mul_assoc]
      omega
theorem index_idx : ∀ (l : List UInt8) (c : UInt8), Lib.indexByte l c = match idxL c l with | none => -1 | some e => (e : Int)
  | [], c => rfl
  | b :: l, c => by
    have ih := index_idx l c
    unfold Lib.indexByte idxL
    by_cases h : b = c
    · rw [if_pos h, if_pos (by simpa using h)]; rfl
    · rw [if_neg h, if_neg (by simpa using h), ih]
      cases idxL c l with
      | none => rfl
      | some e => simp <;> omega
theorem idxL_lt : ∀ (l : List UInt8) (c : UInt8) (e : Nat), idxL c l = some e → e < l.length
  | [], c, e, h => by cases h
  | x :: t, c, e, h => by
    unfold idxL at h
    split at h
    · cases h; simp
    · cases hi : idxL c t with
      | none => rw [hi] at h; cases h
      | some k => rw [hi] at h; cases h; have := idxL_lt t c k hi; simp; omega
end Go.Proofs.YtnippaaiopgnaaaDoor.U
