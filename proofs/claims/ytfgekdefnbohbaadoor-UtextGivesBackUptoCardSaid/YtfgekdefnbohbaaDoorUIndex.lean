/- utext.Index on a text. -/
import Derived.Test.YtfgekdefnbohbaaDoorUPlace
namespace Go.Proofs.YtfgekdefnbohbaaDoor.U
open Go.RowKit Go.Proofs.YtfgekdefnbohbaaDoor.Txt
set_option linter.unusedVariables false
set_option linter.unusedSimpArgs false

set_option maxRecDepth 100000 in
set_option maxHeartbeats 2000000 in
theorem index_at (S : ByteArray) (rs : List Int) (a : Nat) (w : World) (h : Text S rs) (ha : a ≤ rs.length) (hg : Bars w) :
    Calls Tryd.prog 40 #[.string S, .int .i64 (psz rs a)] w fun e w' => e = .returned (.tuple #[.int .i64 a, .int .i64 0]) ∧ Below w.heap.size w w' := by
  have hsz := h.size
  have hle := h.le
  have hpa := psz_le rs a
  rw [← h.len] at hpa
  have HT := Lib.hid h
  have HG := Lib.hid hg
  clear h hg
  by_cases hae : a = rs.length
  · have he : ((psz rs a : Nat) : Int) = S.size := by rw [HT.out.len, hae, psz_all]
    generalize ((psz rs a : Nat) : Int) = p at he ⊢
    subst he
    go_enter Tryd.func40, Tryd.ntmps40
    go_wp2_with fail
    refine (check_at S rs.length 0 0 _ (by unfold maxLen; omega) HG.out HT.out.chk).mono ?_
    rintro e w1 ⟨rfl, hb1⟩
    have HB1 := Lib.hid hb1
    clear hb1
    go_wp2_with fail
    go_ret2
    subst hae
    exact ⟨rfl, HB1.out⟩
  · have hlt0 : psz rs a < S.size := by rw [HT.out.len]; exact psz_lt rs a (by omega)
    have hne : (((psz rs a : Nat) : Int) == (S.size : Int)) = false := by simp; omega
    go_enter Tryd.func40, Tryd.ntmps40
    go_wp2_with fail
    refine (check_at S rs.length 0 0 _ (by unfold maxLen; omega) HG.out HT.out.chk).mono ?_
    rintro e w1 ⟨rfl, hb1⟩
    have HB1 := Lib.hid hb1
    clear hb1
    go_wp2_with fail
    go_loopw [9] (fun n wr => ∃ k : Nat, n = .int .i64 k ∧ k ≤ a ∧ AtRune S rs w1 k wr) (fun _ wr => S.size - wr.iterPos w1.heap.size)
    case atStart => exact ⟨0, rfl, Nat.zero_le _, by unfold AtRune; rw [psz_zero]⟩
    case round =>
      obtain ⟨k, rfl, hk, rfl⟩ := hrel
      have hkn : k < rs.length := by omega
      have hlt : psz rs k < S.size := by rw [HT.out.len]; exact psz_lt rs k hkn
      have hnx := fun ty => run_next_any (P := Tryd.prog) w1 S (psz rs k) ty hlt
      simp only [HT.out.dec k hkn] at hnx
      have hps := psz_succ rs k hkn
      have hwd := (encB_len (rs.getD k 0)).1
      generalize rs.getD k 0 = r at hnx hps hwd
      have HPS := Lib.hid hps
      have HWD := Lib.hid hwd
      clear hps hwd
      by_cases hka : k = a
      · subst hka
        go_wp2_with fail
        go_ret2
        exact ⟨rfl, HB1.out.trans ((Below.refl _ _).alloc HB1.out.size _)⟩
      · have hm := psz_mono rs k a (by omega) (by omega)
        have hke : (((psz rs k : Nat) : Int) == ((psz rs a : Nat) : Int)) = false := by simp; omega
        go_wp2_with fail
        go_roundw
        case rel => exact ⟨k + 1, by go_num, by omega, by unfold AtRune; rw [HPS.out]⟩
        case measure =>
          rw [World.iterPos_iter, World.iterPos_iter]
          have := HWD.out
          omega

/-- No rune begins there. -/
theorem index_out (S : ByteArray) (rs : List Int) (a : Int) (w : World) (h : Text S rs) (ha : ∀ k, k ≤ rs.length → ((psz rs k : Nat) : Int) ≠ a) (h0 : -9223372036854775808 ≤ a) (h1 : a ≤ 9223372036854775807) (hg : Bars w) :
    Calls Tryd.prog 40 #[.string S, .int .i64 a] w fun e w' => e = .returned (.tuple #[.int .i64 0, .int .i64 12]) ∧ Below w.heap.size w w' := by
  have hsz := h.size
  have hle := h.le
  have hne : (a == (S.size : Int)) = false := by
    have := ha rs.length (Nat.le_refl _)
    rw [psz_all, ← h.len] at this
    simp; omega
  have HA := Lib.hid ha
  have HT := Lib.hid h
  have HG := Lib.hid hg
  clear h hg ha
  go_enter Tryd.func40, Tryd.ntmps40
  go_wp2_with fail
  refine (check_at S rs.length 0 0 _ (by unfold maxLen; omega) HG.out HT.out.chk).mono ?_
  rintro e w1 ⟨rfl, hb1⟩
  have HB1 := Lib.hid hb1
  clear hb1
  go_wp2_with fail
  go_loopw [9] (fun n wr => ∃ k : Nat, n = .int .i64 k ∧ k ≤ rs.length ∧ AtRune S rs w1 k wr) (fun _ wr => S.size - wr.iterPos w1.heap.size)
  case atStart => exact ⟨0, rfl, Nat.zero_le _, by unfold AtRune; rw [psz_zero]⟩
  case round =>
    obtain ⟨k, rfl, hk, rfl⟩ := hrel
    by_cases hkn : k < rs.length
    · have hlt : psz rs k < S.size := by rw [HT.out.len]; exact psz_lt rs k hkn
      have hnx := fun ty => run_next_any (P := Tryd.prog) w1 S (psz rs k) ty hlt
      simp only [HT.out.dec k hkn] at hnx
      have hps := psz_succ rs k hkn
      have hwd := (encB_len (rs.getD k 0)).1
      generalize rs.getD k 0 = r at hnx hps hwd
      have HPS := Lib.hid hps
      have HWD := Lib.hid hwd
      clear hps hwd
      have hke : (((psz rs k : Nat) : Int) == a) = false := by have := HA.out k (by omega); simp; omega
      go_wp2_with fail
      go_roundw
      case rel => exact ⟨k + 1, by go_num, by omega, by unfold AtRune; rw [HPS.out]⟩
      case measure =>
        rw [World.iterPos_iter, World.iterPos_iter]
        have := HWD.out
        omega
    · have hlt : ¬ psz rs k < S.size := by rw [HT.out.len, show k = rs.length by omega, psz_all]; omega
      have hnx := fun ty => run_next_end (P := Tryd.prog) w1 S (psz rs k) ty hlt
      go_wp2_with fail
      go_ret2
      exact ⟨rfl, HB1.out.trans ((Below.refl _ _).alloc HB1.out.size _)⟩
end Go.Proofs.YtfgekdefnbohbaaDoor.U
