/- []rune(s) of a text. -/
import Derived.Test.YtkdhomiieenfnaaDoorXLm3
import Derived.Laws.IdiomStrings
namespace Go.Proofs.YtkdhomiieenfnaaDoor.U
open Go.RowKit Go.Proofs.YtkdhomiieenfnaaDoor.Txt
set_option linter.unusedVariables false
set_option linter.unusedSimpArgs false

/-! ### []rune(s) -/
theorem runesFrom_text (S : ByteArray) (rs : List Int) (h : Text S rs) : ∀ (m k : Nat) (acc : Array Value), rs.length - k ≤ m → k ≤ rs.length → Conv.runesFrom S m (psz rs k) acc = acc ++ (i32s (rs.drop k)).toArray := by
  intro m
  induction m with
  | zero =>
    intro k acc hm hk
    have : k = rs.length := by omega
    subst this
    simp [Conv.runesFrom, i32s]
  | succ m ih =>
    intro k acc hm hk
    unfold Conv.runesFrom
    by_cases hlt : k < rs.length
    · have h1 : psz rs k < S.size := by rw [h.len]; exact psz_lt rs k hlt
      have h2 := h.dec k hlt
      rw [if_pos h1, h2]
      simp only []
      rw [← psz_succ rs k hlt, ih (k + 1) _ (by omega) (by omega), List.drop_eq_getElem_cons hlt]
      have e : rs.getD k 0 = rs[k] := by simp [List.getD, hlt]
      have e2 := getD_nonneg rs h.ok k hlt
      rw [e] at e2
      rw [e, show Int.ofNat rs[k].toNat = rs[k] from e2, ← Array.toList_inj]
      clear e2 e h2 ih
      generalize rs[k] = x
      generalize List.drop (k + 1) rs = t
      simp [i32s]
    · have : k = rs.length := by omega
      subst this
      rw [if_neg (by rw [h.len, psz_all]; omega)]
      simp [i32s]
/-- A fresh row of a text's runes. -/
theorem conv_to_runes (S : ByteArray) (rs : List Int) (h : Text S rs) (hl : rs.length ≤ 35184372087808) (w : World) :
    ∃ (c : Nat) (w' : World), (convert 9 34 (.string S)).run Tryd.prog w = .ok (.slice (some ⟨w.heap.size, 0, none⟩) rs.length c) w' ∧ rs.length ≤ c ∧ Below w.heap.size w w' ∧ Cells32 w' (some ⟨w.heap.size, 0, none⟩) rs := by
  have hr : Conv.runesFrom S S.size 0 #[] = (i32s rs).toArray := by
    have := runesFrom_text S rs h S.size 0 #[] (by have := h.le; omega) (Nat.zero_le _)
    rw [psz_zero] at this
    rw [this]
    simp
  have hz : (i32s rs).toArray.size = rs.length := by simp [i32s]
  have hrun := run_runes_of_string (P := Tryd.prog) w 9 34 21 S Tryd.underlying9 Tryd.underlying34 Tryd.underlying21 (by rw [hr, hz]; omega)
  rw [hr, hz] at hrun
  have hc := grownCap_ge w rs.length 0 21
  refine ⟨_, _, hrun, by omega, (Below.refl _ _).drew.alloc (Nat.le_refl _) _, fun _ => ⟨_, rfl, fun j hj => ?_⟩⟩
  have e : (⟨w.heap.size, 0, none⟩ : Addr).add j = ⟨w.heap.size, j, none⟩ := by unfold Addr.add; split <;> simp_all
  rw [e]
  refine (World.cell?_alloc_at _ _ _ _ rfl).trans ?_
  rw [Array.getElem?_append_left (by rw [hz]; exact hj)]
  simp [i32s, List.getElem?_eq_getElem hj, List.getD, hj]

end Go.Proofs.YtkdhomiieenfnaaDoor.U
