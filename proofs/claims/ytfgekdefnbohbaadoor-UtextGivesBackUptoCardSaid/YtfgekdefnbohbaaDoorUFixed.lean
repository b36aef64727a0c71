/- The walk of fixed: calls whose answers the document fixes. -/
import Derived.Test.YtfgekdefnbohbaaDoorUQuote
import Derived.Test.YtfgekdefnbohbaaDoorUPlace
namespace Go.Proofs.YtfgekdefnbohbaaDoor.U
open Go.RowKit Go.Proofs.YtfgekdefnbohbaaDoor.Txt
set_option linter.unusedVariables false
set_option linter.unusedSimpArgs false

def sAb : ByteArray := ⟨#[97, 98]⟩
theorem text_ab : Text sAb [97, 98] := ⟨by decide +kernel, fun r h => by
  have : r = 97 ∨ r = 98 := by simpa using h
  rcases this with rfl | rfl <;> exact ⟨rfl, rfl⟩, by decide⟩
theorem quote_ab : quoteL sAb.data.toList = [34, 97, 98, 34] := by decide +kernel
set_option maxRecDepth 100000 in
set_option maxHeartbeats 4000000 in
theorem fixed_any (w : World) (hg : Bars w) (ht : Tz16 w) : Calls Tryd.prog 14 #[] w fun e w' => e = .returned (.bool true) ∧ Below w.heap.size w w' := by
  have HG := Lib.hid hg
  have HT := Lib.hid ht
  clear hg ht
  go_enter Tryd.func14, Tryd.ntmps14
  go_wp2_with fail
  refine (check_at sAb 2 0 0 _ (by decide) HG.out text_ab.chk).mono ?_
  rintro e w1 ⟨rfl, hb1⟩
  have HB1 := Lib.hid hb1
  clear hb1
  go_wp2_with fail
  refine (Quote_any sAb _ (by decide) (HT.out.below HB1.out)).mono ?_
  rintro e w2 ⟨rfl, hb2⟩
  have HB2 := Lib.hid (HB1.out.trans (hb2.mono HB1.out.size))
  clear hb2
  rw [quote_ab]
  go_wp2_with fail
  go_ret
  exact ⟨rfl, HB2.out⟩

end Go.Proofs.YtfgekdefnbohbaaDoor.U
