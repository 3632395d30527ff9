/- What the rows' listed variables give: the table of powers of ten, and the range error. -/
import Derived.Test.YtihlnciknnddkaaDoorRows
import Derived.Test.YtihlnciknnddkaaDoorTb
import Derived.MakeChecks
import Derived.Stop.LaidErr
import Derived.Lib.LaidTab
import Derived.Stop.Joined
namespace Go.Proofs.YtihlnciknnddkaaDoor
open Go.RowKit Go.ChangeShapes

theorem gTab : Tryd.prog.globalNamed tabName = some 2 := by kernel_rfl
theorem gTabT : (Tryd.prog.globals[2]?).map (·.type) = some 67 := by kernel_rfl
theorem gErr : Tryd.prog.globalNamed "strconv.ErrRange" = some 1 := by kernel_rfl
theorem gErrT : (Tryd.prog.globals[1]?).map (·.type) = some 38 := by kernel_rfl
theorem starErr : Tryd.prog.typeName? 3 73 = some "*errors.errorString" := by kernel_rfl
theorem rowErr (u : TypeId) (h : Tryd.prog.typeName? 3 u = some "*errors.errorString") : u = 73 :=
  typeName_ptr_named (nm := "errors.errorString") (by kernel_rfl) (by kernel_rfl) (by decide) u h

theorem libOk_of {W : World} (h : laidMetH Tryd.prog Rows.tickBackRow.laid W) : LibOk W := by
  rw [MakeChecks.laidMetH_plain _ _ _ (by kernel_rfl)] at h
  have h2 : laidMet Tryd.prog _ W := h.tail.tail
  refine ⟨?_, Lib.tabIs_of_head gTab gTabT Tryd.underlying67 Tryd.underlying44 (by kernel_rfl) (by kernel_rfl) (by first | exact h2 | (rw [MakeChecks.laidMetH_plain _ _ _ (by kernel_rfl)]; exact h2))⟩
  obtain ⟨a, s, hv, -⟩ := laid_sentinel h2.tail gErr gErrT Tryd.underlying38 rowErr Tryd.underlying73 Tryd.underlying75 rfl rfl Tryd.underlying9 (by kernel_rfl) (by kernel_rfl)
  exact ⟨_, _, by simpa using World.var?_cell gErr hv 0⟩
end Go.Proofs.YtihlnciknnddkaaDoor
