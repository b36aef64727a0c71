/- []rune(s) of a text. Rows of ints. -/
import Derived.Test.YtkdhomiieenfnaaGreatDoorLs2
import Derived.Laws.IdiomStrings
import Derived.Deep.QuietTactic
import Derived.BigQuiet
import Derived.IntWalk
namespace Go.Proofs.YtkdhomiieenfnaaGreatDoor.U
open Go.RowKit Go.Proofs.YtkdhomiieenfnaaGreatDoor.Txt
set_option linter.unusedVariables false
set_option linter.unusedSimpArgs false

/-! ### []rune(s) -/
theorem runesFrom_text (S : ByteArray) (rs : List Int) (h : Text S rs) : ∀ (m k : Nat) (acc : Array Value), rs.length - k ≤ m → k ≤ rs.length → Conv.runesFrom S m (psz rs k) acc = acc ++ (i32s (rs.drop k)).toArray := by
  intro m
  induction m with
  | zero =>
    intro k acc hm hk
    have : k = rs.length := by omega
    subst this
    simp [Conv.runesFrom, i32s]
  | succ m ih =>
    intro k acc hm hk
    unfold Conv.runesFrom
    by_cases hlt : k < rs.length
    · have h1 : psz rs k < S.size := by rw [h.len]; exact psz_lt rs k hlt
      have h2 := h.dec k hlt
      rw [if_pos h1, h2]
      simp only []
      rw [← psz_succ rs k hlt, ih (k + 1) _ (by omega) (by omega), List.drop_eq_getElem_cons hlt]
      have e : rs.getD k 0 = rs[k] := by simp [List.getD, hlt]
      have e2 := getD_nonneg rs h.ok k hlt
      rw [e] at e2
      rw [e, show Int.ofNat rs[k].toNat = rs[k] from e2, ← Array.toList_inj]
      clear e2 e h2 ih
      generalize rs[k] = x
      generalize List.drop (k + 1) rs = t
      simp [i32s]
    · have : k = rs.length := by omega
      subst this
      rw [if_neg (by rw [h.len, psz_all]; omega)]
      simp [i32s]
/-- A fresh row of a text's runes. -/
theorem conv_to_runes (S : ByteArray) (rs : List Int) (h : Text S rs) (hl : rs.length ≤ 35184372087808) (w : World) :
    ∃ (c : Nat) (w' : World), (convert 9 49 (.string S)).run Tryz.prog w = .ok (.slice (some ⟨w.heap.size, 0, none⟩) rs.length c) w' ∧ rs.length ≤ c ∧ Below w.heap.size w w' ∧ Cells32 w' (some ⟨w.heap.size, 0, none⟩) rs := by
  have hr : Conv.runesFrom S S.size 0 #[] = (i32s rs).toArray := by
    have := runesFrom_text S rs h S.size 0 #[] (by have := h.le; omega) (Nat.zero_le _)
    rw [psz_zero] at this
    rw [this]
    simp
  have hz : (i32s rs).toArray.size = rs.length := by simp [i32s]
  have hrun := run_runes_of_string (P := Tryz.prog) w 9 49 21 S Tryz.underlying9 Tryz.underlying49 Tryz.underlying21 (by rw [hr, hz]; omega)
  rw [hr, hz] at hrun
  have hc := grownCap_ge w rs.length 0 21
  refine ⟨_, _, hrun, by omega, (Below.refl _ _).drew.alloc (Nat.le_refl _) _, fun _ => ⟨_, rfl, fun j hj => ?_⟩⟩
  have e : (⟨w.heap.size, 0, none⟩ : Addr).add j = ⟨w.heap.size, j, none⟩ := by unfold Addr.add; split <;> simp_all
  rw [e]
  refine (World.cell?_alloc_at _ _ _ _ rfl).trans ?_
  rw [Array.getElem?_append_left (by rw [hz]; exact hj)]
  simp [i32s, List.getElem?_eq_getElem hj, List.getD, hj]

end Go.Proofs.YtkdhomiieenfnaaGreatDoor.U

namespace Go.Proofs.YtkdhomiieenfnaaGreatDoor.U
open Go.RowKit Go.Proofs.YtkdhomiieenfnaaGreatDoor.Txt
set_option linter.unusedVariables false
set_option linter.unusedSimpArgs false

def i64s (xs : List Int) : List Value := xs.map (Value.int .i64)
theorem info64 : (Tryz.prog.info? 3).map (fun i => (i.zero, i.size, i.bytes)) = some (some (.int .i64 0), 1, 8) := by kernel_rfl
theorem own_one (w : World) (x : Int) (T : TypeId) : (w.alloc (.cells #[.int .i64 x] T)).ownsRow w.heap.size T 1 (.slice (some ⟨w.heap.size, 0, none⟩) 1 1) 1 (i64s [x]) :=
  ⟨rfl, .inr ⟨w.heap.size, 1, _, rfl, Nat.le_refl _, heap_alloc_new w _, Nat.le_refl _, by unfold maxLen; omega, rfl, rfl⟩⟩
theorem round_below' {w wr w1 : World} {e k sz : Nat} {v : Value} {xs : List Value} {o : Obj} (hb : Below w.heap.size w wr) (ho : wr.ownsRow w.heap.size e sz v k xs) (hg : (wr.alloc o).grownBy w1 v.ownBlock) : Below w.heap.size w w1 :=
  (hb.alloc hb.size o).grown hg (by have := hb.size; simp; omega) fun j hj => (ho.lt j hj).1

theorem pw_below {B : Nat} {w W : World} (h : Below B w W) (n : Nat) : Below B w (W.drewN n) := ⟨h.os, h.tape, h.output, h.size, h.block⟩
/-- A slice of ints whose cells are these numbers. -/
def Cells64 (w : World) (A : Option Addr) (xs : List Int) : Prop := 0 < xs.length → ∃ ad, A = some ad ∧ ∀ j, j < xs.length → w.cell? (ad.add j) = some (.int .i64 (xs.getD j 0))
theorem own_ints {W : World} {base e : Nat} {v : Value} {xs : List Int} (h : W.ownsRow base e 1 v xs.length (i64s xs)) : ∃ A c, v = .slice A xs.length c ∧ xs.length ≤ c ∧ Cells64 W A xs := by
  rcases h.2 with ⟨rfl, h0⟩ | ⟨g, cap, cur, rfl, _, _, hcap, _⟩
  · exact ⟨none, 0, by rw [h0], by omega, fun hp => by omega⟩
  · refine ⟨_, cap, rfl, hcap, fun _ => ⟨_, rfl, fun j hj => h.cells (g := g) rfl j _ ?_⟩⟩
    simp [i64s, List.getElem?_eq_getElem (show j < xs.length by omega), List.getD_eq_getElem?_getD]
end Go.Proofs.YtkdhomiieenfnaaGreatDoor.U
