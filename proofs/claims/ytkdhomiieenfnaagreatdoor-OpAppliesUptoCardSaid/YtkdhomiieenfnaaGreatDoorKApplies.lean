/- OpApplies walked. -/
import Derived.Test.YtkdhomiieenfnaaGreatDoorLs48
import Derived.Test.YtkdhomiieenfnaaGreatDoorKsQ
namespace Go.Proofs.YtkdhomiieenfnaaGreatDoor.K
open Go.RowKit Go.Proofs Go.Proofs.YtkdhomiieenfnaaGreatDoor.U Go.Proofs.YtkdhomiieenfnaaGreatDoor.Txt Go.Proofs.YtkdhomiieenfnaaGreatDoor.O Go.Proofs.YtkdhomiieenfnaaGreatDoor.Rp Go.Proofs.YtkdhomiieenfnaaGreatDoor.Lw
set_option linter.unusedVariables false
set_option linter.unusedSimpArgs false

set_option maxRecDepth 100000 in
theorem applies_walk (Ac : Option Addr) (nc cc : Nat) (As : Option Addr) (ns cs0 : Nat) (St : List StepV) (w : World) (hC : ReadsC w Ac nc) (hS : ScriptIn w As ns St) (hE : EnvP w) :
    Calls Tryz.prog 5 #[.agg #[.slice Ac nc cc, .slice As ns cs0]] w fun e w' => e = .returned (.bool true) ∧ Below w.heap.size w w' := by
  have HK := Lib.hid (fun (W0 : World) (hW0 : Below w.heap.size w W0) => kinds_all Ac nc cc As ns cs0 St 7 7 W0 (readsC_below hC hW0) (hS.below hW0) (hE.below hW0).o (fun s _ h7 h1 h2 => absurd (by omega) h7))
  clear hC hS hE
  go_enter Tryz.func5, Tryz.ntmps5
  go_wp2_with fail
  refine (HK.out _ (below_alloc1 _ _)).mono ?_
  rintro e w1 ⟨rfl, hb⟩
  have HB := Lib.hid ((below_alloc1 w (.cells #[.slice Ac nc cc, .slice As ns cs0] 25)).trans (hb.mono (by simp)))
  clear hb
  go_wp2_with fail
  go_ret
  exact ⟨rfl, HB.out⟩
end Go.Proofs.YtkdhomiieenfnaaGreatDoor.K
