/- What the rows' listed variable gives: the library's table of blanks. -/
import Derived.Test.YtkagfddkfpeddaaDoorNx
import Derived.Test.YtkagfddkfpeddaaDoorRows
import Derived.MakeChecks
import Derived.Stop.LaidErr
import Derived.Lib.LaidTab
import Derived.Lib.Space
import Derived.Stop.Joined
namespace Go.Proofs.YtkagfddkfpeddaaDoor
open Go.RowKit Go.ChangeShapes

def spName : String := (Rows.internNilRow.named).headD ""
theorem gSp : Tryd.prog.globalNamed spName = some 0 := by kernel_rfl
theorem gSpT : (Tryd.prog.globals[0]?).map (·.type) = some 75 := by kernel_rfl
theorem spData : (Rows.laid_strings_asciiSpace : DataW Unit) = Lib.tabData .u8 Lib.asciiSpaceTab := by kernel_rfl
set_option maxRecDepth 100000 in
theorem tabs_of {W : World} (h : laidMetH Tryd.prog Rows.internNilRow.laid W) : Tabs W := by
  rw [MakeChecks.laidMetH_plain _ _ _ (by kernel_rfl)] at h
  have h2 : laidMet Tryd.prog [(spName, Rows.laid_strings_asciiSpace)] W := h.tail
  rw [spData] at h2
  have ht : Lib.TabIs Tryd.prog W spName .u8 Lib.asciiSpaceTab := Lib.tabIs_of_head gSp gSpT Tryd.underlying75 Tryd.underlying5 (by kernel_rfl) (by kernel_rfl) h2
  have key : ∀ c : Nat, c < 256 → W.cell? ⟨0, c, none⟩ = some (.int .u8 (if Lib.isSp (UInt8.ofNat c) then 1 else 0)) := fun c hc => by
    have h1 := ht.cell gSp c (by rw [Lib.asciiSpaceTab_length]; exact hc)
    rw [Lib.asciiSpaceTab_at c hc] at h1
    exact h1
  exact ⟨key, World.block_lt_of_cell? W _ (key 0 (by decide))⟩
end Go.Proofs.YtkagfddkfpeddaaDoor
