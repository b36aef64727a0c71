/-
  DERIVED. GIVEN WITH THE SEED: THE PROGRAM's TIES (one call each: nine closed facts by the kernel) AND EACH ROW's TIE, after the 31st guide's Derived/Test/Toyas{Tie, Card}.lean. No idea stands in it: it is a product of the set-up. Laid BY PROGRAM, IN A SANDBOX (cutbox-door.mjs). By AI agents, Wed Nov 11 2026. No macro, syntax, notation, axiom, sorry.
-/
import Derived.Test.YthbfkmfinalfdaaDoorRows
import Derived.LaidByTextLater
import Derived.SevenTiedAt
import Derived.LaidSub
import Derived.LaidOnce
namespace Go.Proofs.YthbfkmfinalfdaaDoor
open Go
set_option maxRecDepth 100000
theorem seatTie1 : Tryd.prog.laidByTextLater [("redraft/utext.bars", Rows.laid_redraft_utext_bars), ("redraft/utext.walks", Rows.laid_redraft_utext_walks), ("redraft/page.none", Rows.laid_redraft_page_none), ("redraft/page.wide", Rows.laid_redraft_page_wide), ("redraft/page.walks", Rows.laid_redraft_page_walks)] [.data, .funcs, .widerDeep, .widerDeep, .funcs] true :=
  Program.laidByTextLater_by_one 52 8 21 (by kernel_rfl) (by kernel_rfl) (by kernel_rfl) (by kernel_rfl) (by kernel_rfl) (by kernel_rfl) (fun _ _ => by kernel_rfl)
theorem noOwnUnsafe : Tryd.pinned.checked.prog.headLifts.contains "ownunsafe" = false := by kernel_rfl
theorem tie : Tryd.prog.laidByTextLater [("redraft/utext.bars", Rows.laid_redraft_utext_bars), ("redraft/page.none", Rows.laid_redraft_page_none), ("redraft/page.wide", Rows.laid_redraft_page_wide)] [.data, .widerDeep, .widerDeep] true :=
  Program.laidByTextLater.sub seatTie1 ["redraft/utext.bars", "redraft/page.none", "redraft/page.wide"] (by kernel_rfl) (by kernel_rfl)
theorem pageKeeps_row_tie : Rows.pageKeepsRow.laidByTextAt .later Tryd.pinned [.data, .widerDeep, .widerDeep] true :=
  OpenClaim.laidByTextAt_later rfl rfl tie noOwnUnsafe
theorem pageFull_row_tie : Rows.pageFullRow.laidByTextAt .later Tryd.pinned [.data, .widerDeep, .widerDeep] true :=
  OpenClaim.laidByTextAt_later rfl rfl tie noOwnUnsafe
theorem pageSpots_row_tie : Rows.pageSpotsRow.laidByTextAt .later Tryd.pinned [.data, .widerDeep, .widerDeep] true :=
  OpenClaim.laidByTextAt_later rfl rfl tie noOwnUnsafe
theorem tie2 : Tryd.prog.laidByTextLater [("redraft/utext.bars", Rows.laid_redraft_utext_bars), ("redraft/utext.walks", Rows.laid_redraft_utext_walks), ("redraft/page.none", Rows.laid_redraft_page_none), ("redraft/page.wide", Rows.laid_redraft_page_wide), ("redraft/page.walks", Rows.laid_redraft_page_walks)] [.data, .funcs, .widerDeep, .widerDeep, .funcs] true :=
  Program.laidByTextLater.sub seatTie1 ["redraft/utext.bars", "redraft/utext.walks", "redraft/page.none", "redraft/page.wide", "redraft/page.walks"] (by kernel_rfl) (by kernel_rfl)
theorem pageWalks_row_tie : Rows.pageWalksRow.laidByTextAt .later Tryd.pinned [.data, .funcs, .widerDeep, .widerDeep, .funcs] true :=
  OpenClaim.laidByTextAt_later rfl rfl tie2 noOwnUnsafe
theorem pageKeepsUpto_row_tie : Rows.pageKeepsUptoRow.laidByTextAt .later Tryd.pinned [.data, .widerDeep, .widerDeep] true :=
  OpenClaim.laidByTextAt_later rfl rfl tie noOwnUnsafe
theorem pageFullUpto_row_tie : Rows.pageFullUptoRow.laidByTextAt .later Tryd.pinned [.data, .widerDeep, .widerDeep] true :=
  OpenClaim.laidByTextAt_later rfl rfl tie noOwnUnsafe
theorem pageSpotsUpto_row_tie : Rows.pageSpotsUptoRow.laidByTextAt .later Tryd.pinned [.data, .widerDeep, .widerDeep] true :=
  OpenClaim.laidByTextAt_later rfl rfl tie noOwnUnsafe
theorem pageWalksUpto_row_tie : Rows.pageWalksUptoRow.laidByTextAt .later Tryd.pinned [.data, .funcs, .widerDeep, .widerDeep, .funcs] true :=
  OpenClaim.laidByTextAt_later rfl rfl tie2 noOwnUnsafe
end Go.Proofs.YthbfkmfinalfdaaDoor
