/- The laws' own pick: a number from 0 to n - 1. -/
import Derived.Test.YtfgekdefnbohbaaDoorULet
namespace Go.Proofs.YtfgekdefnbohbaaDoor.U
open Go.RowKit Go.Proofs.YtfgekdefnbohbaaDoor.Txt
set_option linter.unusedVariables false
set_option linter.unusedSimpArgs false

theorem pick_any (k n : Int) (w : World) (h0 : 0 < n) (h1 : n ≤ 9223372036854775807) (h2 : -9223372036854775808 ≤ k) (h3 : k ≤ 9223372036854775807) :
    Calls Tryd.prog 17 #[.int .i64 k, .int .i64 n] w fun e w' => e = .returned (.int .i64 (k % n)) ∧ w = w' := by
  have hb1 : k.tmod n < n := Int.tmod_lt_of_pos k h0
  have hb2 : -n < k.tmod n := Int.lt_tmod_of_pos k h0
  have he := Int.emod_nonneg k (show n ≠ 0 by omega)
  have he2 := Int.emod_lt_of_pos k h0
  have hd := Int.tmod_eq_emod (a := k) (b := n)
  have ha : (n.natAbs : Int) = n := by omega
  by_cases hk : k.tmod n < 0
  · have e : k.tmod n + n = k % n := by
      rw [hd] at hk ⊢
      split at hk <;> rename_i hc <;> simp only [hc, if_true, if_false] at * <;> omega
    have HE := Lib.hid e
    clear e he he2 hd
    go_enter Tryd.func17, Tryd.ntmps17
    go_wp2
    go_ret
    exact ⟨ret_int HE.out, rfl⟩
  · have e : k.tmod n = k % n := by
      rw [hd] at hk ⊢
      split at hk <;> rename_i hc <;> simp only [hc, if_true, if_false] at * <;> omega
    have HE := Lib.hid e
    clear e he he2 hd
    go_enter Tryd.func17, Tryd.ntmps17
    go_wp2
    go_ret
    exact ⟨ret_int HE.out, rfl⟩
end Go.Proofs.YtfgekdefnbohbaaDoor.U
