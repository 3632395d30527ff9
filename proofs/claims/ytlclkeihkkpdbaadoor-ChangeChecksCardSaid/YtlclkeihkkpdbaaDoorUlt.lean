/- What the rows' listed variables give: the table of blanks, the range error. -/
import Derived.Test.YtlclkeihkkpdbaaDoorLx
import Derived.Test.YtlclkeihkkpdbaaDoorPy
import Derived.Test.YtlclkeihkkpdbaaDoorRows
import Derived.MakeChecks
import Derived.Stop.LaidErr
import Derived.Lib.LaidTab
import Derived.Lib.Space
import Derived.Stop.Joined
namespace Go.Proofs.YtlclkeihkkpdbaaDoor
open Go.RowKit Go.ChangeShapes

theorem gSp : Tryd.prog.globalNamed "strings.asciiSpace" = some 0 := by kernel_rfl
theorem gSpT : (Tryd.prog.globals[0]?).map (·.type) = some 103 := by kernel_rfl
theorem spData : (Rows.laid_strings_asciiSpace : DataW Unit) = Lib.tabData .u8 Lib.asciiSpaceTab := by kernel_rfl
theorem gErr : Tryd.prog.globalNamed "strconv.ErrRange" = some 7 := by kernel_rfl
theorem gErrT : (Tryd.prog.globals[7]?).map (·.type) = some 87 := by kernel_rfl
theorem starErr : Tryd.prog.typeName? 3 165 = some "*errors.errorString" := by kernel_rfl
theorem rowErr (u : TypeId) (h : Tryd.prog.typeName? 3 u = some "*errors.errorString") : u = 165 :=
  typeName_ptr_named (nm := "errors.errorString") (by kernel_rfl) (by kernel_rfl) (by decide) u h
set_option maxRecDepth 100000 in
theorem laid_of {W : World} (h : laidMetH Tryd.prog Rows.changeLinesRow.laid W) : Tabs W ∧ LibOk W := by
  rw [MakeChecks.laidMetH_plain _ _ _ (by kernel_rfl)] at h
  have h1 : laidMet Tryd.prog _ W := h.tail.tail
  have h2 : laidMet Tryd.prog [("strings.asciiSpace", Rows.laid_strings_asciiSpace)] W := h1.tail.tail.tail.tail
  rw [spData] at h2
  have ht : Lib.TabIs Tryd.prog W "strings.asciiSpace" .u8 Lib.asciiSpaceTab := Lib.tabIs_of_head gSp gSpT Tryd.underlying103 Tryd.underlying5 (by kernel_rfl) (by kernel_rfl) h2
  have key : ∀ c : Nat, c < 256 → W.cell? ⟨0, c, none⟩ = some (.int .u8 (if Lib.isSp (UInt8.ofNat c) then 1 else 0)) := fun c hc => by
    have h1 := ht.cell gSp c (by rw [Lib.asciiSpaceTab_length]; exact hc)
    rw [Lib.asciiSpaceTab_at c hc] at h1
    exact h1
  refine ⟨⟨key, World.block_lt_of_cell? W _ (key 0 (by decide))⟩, ?_⟩
  obtain ⟨a, s, hv, -⟩ := laid_sentinel h1.tail gErr gErrT Tryd.underlying87 rowErr Tryd.underlying165 Tryd.underlying167 rfl rfl Tryd.underlying9 (by kernel_rfl) (by kernel_rfl)
  exact ⟨_, _, by simpa using World.var?_cell gErr hv 0⟩
end Go.Proofs.YtlclkeihkkpdbaaDoor
