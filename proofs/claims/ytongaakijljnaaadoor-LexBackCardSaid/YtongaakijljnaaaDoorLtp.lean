/- What the rows' listed variables give: the table of powers of ten. -/
import Derived.Test.YtongaakijljnaaaDoorLbd
import Derived.Test.YtongaakijljnaaaDoorRows
import Derived.MakeChecks
import Derived.Stop.LaidErr
import Derived.Lib.LaidTab
import Derived.Stop.Joined
namespace Go.Proofs.YtongaakijljnaaaDoor
open Go.RowKit Go.ChangeShapes
theorem gPw : Tryd.prog.globalNamed "internal/strconv.uint64pow10" = some 2 := by kernel_rfl
theorem gPwT : (Tryd.prog.globals[2]?).map (·.type) = some 113 := by kernel_rfl
set_option maxRecDepth 100000 in
theorem pow_of {W : World} (h : laidMetH Tryd.prog Rows.lexPlacesRow.laid W) : Pow W := by
  rw [MakeChecks.laidMetH_plain _ _ _ (by kernel_rfl)] at h
  have h1 : laidMet Tryd.prog _ W := h.tail.tail
  exact Lib.tabIs_of_head gPw gPwT Tryd.underlying113 Tryd.underlying92 (by kernel_rfl) (by kernel_rfl) (by first | exact h1 | (rw [MakeChecks.laidMetH_plain _ _ _ (by kernel_rfl)]; exact h1))
end Go.Proofs.YtongaakijljnaaaDoor
