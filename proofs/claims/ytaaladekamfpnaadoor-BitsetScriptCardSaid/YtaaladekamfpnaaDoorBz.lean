/- What the rows' listed variable gives: the table of the library's bits. -/
import Derived.Test.YtaaladekamfpnaaDoorBn
import Derived.MakeChecks
import Derived.Stop.LaidErr
import Derived.Lib.LaidTab
import Derived.Stop.Joined
namespace Go.Proofs.YtaaladekamfpnaaDoor
open Go.RowKit Go.ChangeShapes

def tabName : String := Rows.bitsetWideRow.named.headD ""
def tabZ : List Int := Lib.deBruijn64tab.map fun (x : Nat) => (x : Int)
theorem gTab : Tryd.prog.globalNamed tabName = some 0 := by kernel_rfl
theorem gTabT : (Tryd.prog.globals[0]?).map (·.type) = some 69 := by kernel_rfl
theorem tab_of {W : World} (h : laidMetH Tryd.prog Rows.bitsetWideRow.laid W) : Tab W ∧ 0 < W.heap.size := by
  rw [MakeChecks.laidMetH_plain _ _ _ (by kernel_rfl)] at h
  have ht : Lib.TabIs Tryd.prog W tabName .u8 tabZ := Lib.tabIs_of_head gTab gTabT Tryd.underlying69 Tryd.underlying5 (by kernel_rfl) (by kernel_rfl) h
  have key : Tab W := fun j hj => by
    have h1 := ht.cell gTab j (by simpa [tabZ] using hj)
    have h2 : tabZ.getD j 0 = ((Lib.deBruijn64tab.getD j 0 : Nat) : Int) := by
      unfold tabZ
      rw [List.getD_eq_getElem?_getD, List.getD_eq_getElem?_getD, List.getElem?_map, List.getElem?_eq_getElem hj]
      rfl
    rw [h2] at h1
    exact h1
  exact ⟨key, World.block_lt_of_cell? W _ (key 0 (by decide))⟩
end Go.Proofs.YtaaladekamfpnaaDoor
