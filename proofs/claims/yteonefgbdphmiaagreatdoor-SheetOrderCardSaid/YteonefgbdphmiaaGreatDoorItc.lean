/- What the rows' listed variables give: the table of blanks, the range error. -/
import Derived.Test.YteonefgbdphmiaaGreatDoorNb
import Derived.Test.YteonefgbdphmiaaGreatDoorLo
import Derived.Test.YteonefgbdphmiaaGreatDoorRows
import Derived.MakeChecks
import Derived.Stop.LaidErr
import Derived.Lib.LaidTab
import Derived.Lib.Space
import Derived.Stop.Joined
namespace Go.Proofs.YteonefgbdphmiaaGreatDoor
open Go.RowKit Go.ChangeShapes

theorem gSp : Tryz.prog.globalNamed "strings.asciiSpace" = some 0 := by kernel_rfl
theorem gSpT : (Tryz.prog.globals[0]?).map (·.type) = some 147 := by kernel_rfl
theorem spData : (Rows.laid_strings_asciiSpace : DataW Unit) = Lib.tabData .u8 Lib.asciiSpaceTab := by kernel_rfl
theorem gErr : Tryz.prog.globalNamed "strconv.ErrRange" = some 3 := by kernel_rfl
theorem gErrT : (Tryz.prog.globals[3]?).map (·.type) = some 153 := by kernel_rfl
theorem starErr : Tryz.prog.typeName? 3 192 = some "*errors.errorString" := by kernel_rfl
theorem rowErr (u : TypeId) (h : Tryz.prog.typeName? 3 u = some "*errors.errorString") : u = 192 :=
  typeName_ptr_named (nm := "errors.errorString") (by kernel_rfl) (by kernel_rfl) (by decide) u h
set_option maxRecDepth 100000 in
theorem laid_of {W : World} (h : laidMetH Tryz.prog Rows.sheetCutsRow.laid W) : Tabs W ∧ LibOk W := by
  rw [MakeChecks.laidMetH_plain _ _ _ (by kernel_rfl)] at h
  have h1 : laidMet Tryz.prog _ W := h.tail.tail
  have h2 : laidMet Tryz.prog [("strings.asciiSpace", Rows.laid_strings_asciiSpace)] W := h1.tail.tail.tail.tail
  rw [spData] at h2
  have ht : Lib.TabIs Tryz.prog W "strings.asciiSpace" .u8 Lib.asciiSpaceTab := Lib.tabIs_of_head gSp gSpT Tryz.underlying147 Tryz.underlying5 (by kernel_rfl) (by kernel_rfl) h2
  have key : ∀ c : Nat, c < 256 → W.cell? ⟨0, c, none⟩ = some (.int .u8 (if Lib.isSp (UInt8.ofNat c) then 1 else 0)) := fun c hc => by
    have h1 := ht.cell gSp c (by rw [Lib.asciiSpaceTab_length]; exact hc)
    rw [Lib.asciiSpaceTab_at c hc] at h1
    exact h1
  refine ⟨⟨key, World.block_lt_of_cell? W _ (key 0 (by decide))⟩, ?_⟩
  obtain ⟨a, s, hv, -⟩ := laid_sentinel h1.tail gErr gErrT Tryz.underlying153 rowErr Tryz.underlying192 Tryz.underlying194 rfl rfl Tryz.underlying9 (by kernel_rfl) (by kernel_rfl)
  exact ⟨_, _, by simpa using World.var?_cell gErr hv 0⟩
end Go.Proofs.YteonefgbdphmiaaGreatDoor
