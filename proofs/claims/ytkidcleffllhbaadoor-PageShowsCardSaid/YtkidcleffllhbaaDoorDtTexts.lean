/- delta.texts. -/
import Derived.Test.YtkidcleffllhbaaDoorDtCells
import Derived.Test.YtkidcleffllhbaaDoorUDiff
namespace Go.Proofs.YtkidcleffllhbaaDoor.Dt
open Go.RowKit Go.Proofs Go.Proofs.YtkidcleffllhbaaDoor.U Go.Proofs.YtkidcleffllhbaaDoor.Txt
set_option linter.unusedVariables false
set_option linter.unusedSimpArgs false

/-- A list of strings that is read. -/
def CellsS (w : World) (A : Option Addr) (ss : List ByteArray) : Prop := 0 < ss.length → ∃ ad, A = some ad ∧ ∀ j, j < ss.length → w.cell? (ad.add j) = some (.string (ss.getD j ⟨#[]⟩))
theorem CellsS.below {w w' : World} {A : Option Addr} {ss : List ByteArray} (h : CellsS w A ss) (hb : Below w.heap.size w w') : CellsS w' A ss := fun h0 => by
  obtain ⟨ad, e, hc⟩ := h h0
  exact ⟨ad, e, fun j hj => cell_below hb (hc j hj)⟩
set_option maxRecDepth 100000 in
set_option maxHeartbeats 4000000 in
theorem texts_ok (A : Option Addr) (c : Nat) (ss : List ByteArray) (w : World) (hc : CellsS w A ss) (hl : ss.length ≤ 1000) (ht : ∀ s ∈ ss, ∃ rs, Text s rs) (hg : Bars w) :
    Calls Tryd.prog 28 #[.slice A ss.length c] w fun e w' => e = .returned (.int .i64 0) ∧ Below w.heap.size w w' := by
  have HC := Lib.hid hc
  have HT := Lib.hid ht
  have HG := Lib.hid hg
  clear hc ht hg
  obtain ⟨n, hn⟩ : ∃ n, ss.length = n := ⟨_, rfl⟩
  have HN := Lib.hid hn
  rw [hn] at hl ⊢
  go_enter Tryd.func28, Tryd.ntmps28
  go_wp2_with fail
  go_loopw [10] (fun i wr => ∃ k : Nat, i = .int .i64 k ∧ k ≤ n ∧ Below w.heap.size w wr) (fun i _ => n - (intOf i).toNat)
  case atStart => exact ⟨0, rfl, Nat.zero_le _, Below.refl _ _⟩
  case round =>
    obtain ⟨k, rfl, hk, hb⟩ := hrel
    have HB := Lib.hid hb
    clear hb
    by_cases hlt : k < n
    · obtain ⟨ad, rfl, hcs⟩ := (HC.out.below HB.out) (by rw [HN.out]; omega)
      have y1 := hcs k (by rw [HN.out]; exact hlt)
      obtain ⟨rs, hrs⟩ := HT.out (ss.getD k ⟨#[]⟩) (by
        rw [List.getD_eq_getElem?_getD, List.getElem?_eq_getElem (by rw [HN.out]; exact hlt)]
        exact List.getElem_mem _)
      generalize ss.getD k ⟨#[]⟩ = s at y1 hrs
      clear hcs
      have HRS := Lib.hid hrs
      clear hrs
      go_wp2_with fail
      refine (check_at s rs.length 0 0 _ (by have := HRS.out.size; unfold maxLen; omega) (HG.out.below HB.out) HRS.out.chk).mono ?_
      rintro e w1 ⟨rfl, hb1⟩
      have HB1 := Lib.hid (HB.out.trans (hb1.mono HB.out.size))
      clear hb1 y1
      go_wp2_with fail
      go_roundw
      case rel => exact ⟨k + 1, by go_num, by omega, HB1.out⟩
      case measure => simp [intOf]; omega
    · obtain rfl : k = n := by omega
      go_wp2_with fail
      go_ret
      exact ⟨rfl, HB.out⟩
end Go.Proofs.YtkidcleffllhbaaDoor.Dt
