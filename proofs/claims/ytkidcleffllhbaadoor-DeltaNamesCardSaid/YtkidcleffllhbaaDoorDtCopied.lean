/- delta.copied. -/
import Derived.Test.YtkidcleffllhbaaDoorDtRes
namespace Go.Proofs.YtkidcleffllhbaaDoor.Dt
open Go.RowKit Go.Proofs Go.Proofs.YtkidcleffllhbaaDoor.U Go.Proofs.YtkidcleffllhbaaDoor.Txt
set_option linter.unusedVariables false
set_option linter.unusedSimpArgs false

set_option maxRecDepth 100000 in
theorem copied_any (A : Option Addr) (c : Nat) (ss : List ByteArray) (w : World) (h : SIn w (.slice A ss.length c) ss) (hl : ss.length ≤ 1000000) :
    Calls Tryd.prog 37 #[.slice A ss.length c] w fun e w' => ∃ v, e = .returned v ∧ w'.ownsRow w.heap.size 9 1 v ss.length (strs ss) ∧ Below w.heap.size w w' := by
  obtain ⟨_, _, he, _, hA, hc⟩ := h
  cases he
  have HA := Lib.hid hA
  have HC := Lib.hid hc
  clear hA hc
  go_enter Tryd.func37, Tryd.ntmps37
  go_wp2_with (at_builtin; refine wpList_appS rfl (.const (.slice none 0 0)) (.tmp 3) rfl w.heap.size (.slice none 0 0) [] ss rfl ⟨rfl, .inl ⟨rfl, rfl⟩⟩ A ss.length c rfl rfl HA.out HC.out (by simp; omega) (Nat.le_refl _) ?_; intro v1 w1 ho hg; have HO := Lib.hid ho; have HB := Lib.hid (show Below w.heap.size w w1 from grown_from (Below.refl _ _) (v := .slice none 0 0) (xs := []) (e := 9) (size := 1) (n := 0) ⟨rfl, .inl ⟨rfl, rfl⟩⟩ hg); clear ho hg)
  go_ret
  exact ⟨_, rfl, HO.out, HB.out⟩
end Go.Proofs.YtkidcleffllhbaaDoor.Dt
