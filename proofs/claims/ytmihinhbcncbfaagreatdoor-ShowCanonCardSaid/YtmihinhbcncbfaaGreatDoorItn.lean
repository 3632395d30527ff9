/- What ShowCanon' listed variables give: the library's table of blanks, and the table of powers of ten. -/
import Derived.Test.YtmihinhbcncbfaaGreatDoorBd
import Derived.Test.YtmihinhbcncbfaaGreatDoorRows
import Derived.MakeChecks
import Derived.Stop.LaidErr
import Derived.Lib.LaidTab
import Derived.Lib.Space
import Derived.Stop.Joined
namespace Go.Proofs.YtmihinhbcncbfaaGreatDoor
open Go.RowKit Go.ChangeShapes

theorem gSp : Tryz.prog.globalNamed "strings.asciiSpace" = some 1 := by kernel_rfl
theorem gSpT : (Tryz.prog.globals[1]?).map (·.type) = some 161 := by kernel_rfl
theorem spData : (Rows.laid_strings_asciiSpace : DataW Unit) = Lib.tabData .u8 Lib.asciiSpaceTab := by kernel_rfl
theorem gPw : Tryz.prog.globalNamed "internal/strconv.uint64pow10" = some 2 := by kernel_rfl
theorem gPwT : (Tryz.prog.globals[2]?).map (·.type) = some 166 := by kernel_rfl
set_option maxRecDepth 100000 in
theorem tabs_of {W : World} (h : laidMetH Tryz.prog Rows.showCanonRow.laid W) : Tabs W ∧ Pow W := by
  rw [MakeChecks.laidMetH_plain _ _ _ (by kernel_rfl)] at h
  have h1 : laidMet Tryz.prog _ W := h.tail.tail
  have h2 : laidMet Tryz.prog [("strings.asciiSpace", Rows.laid_strings_asciiSpace)] W := h1.tail.tail
  have hp : Pow W := Lib.tabIs_of_head gPw gPwT Tryz.underlying166 Tryz.underlying151 (by kernel_rfl) (by kernel_rfl) (by first | exact h1 | (rw [MakeChecks.laidMetH_plain _ _ _ (by kernel_rfl)]; exact h1))
  rw [spData] at h2
  have ht : Lib.TabIs Tryz.prog W "strings.asciiSpace" .u8 Lib.asciiSpaceTab := Lib.tabIs_of_head gSp gSpT Tryz.underlying161 Tryz.underlying5 (by kernel_rfl) (by kernel_rfl) h2
  have key : ∀ c : Nat, c < 256 → W.cell? ⟨1, c, none⟩ = some (.int .u8 (if Lib.isSp (UInt8.ofNat c) then 1 else 0)) := fun c hc => by
    have h1 := ht.cell gSp c (by rw [Lib.asciiSpaceTab_length]; exact hc)
    rw [Lib.asciiSpaceTab_at c hc] at h1
    exact h1
  exact ⟨⟨key, World.block_lt_of_cell? W _ (key 0 (by decide))⟩, hp⟩
end Go.Proofs.YtmihinhbcncbfaaGreatDoor
