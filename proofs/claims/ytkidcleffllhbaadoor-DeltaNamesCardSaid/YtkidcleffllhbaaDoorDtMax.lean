/- The longest needle that the search takes at once holds a number in every world that start-up shapes. -/
import Derived.Test.YtkidcleffllhbaaDoorDtLines
import Derived.Shelf.Strings.SplitShaped
namespace Go.Proofs.YtkidcleffllhbaaDoor.Dt
open Go.RowKit Go.Proofs

theorem max_of_shape {W : World} (h : W.ShapedOpen Tryd.prog) : MaxIn W := Go.Proofs.cell_of_shapedOpen_int (zero := #[.int .i64 0]) (t := 3) h (of_decide_eq_true (by kernel_rfl)) (by kernel_rfl) rfl (by kernel_rfl) (by kernel_rfl) Tryd.underlying3
end Go.Proofs.YtkidcleffllhbaaDoor.Dt
