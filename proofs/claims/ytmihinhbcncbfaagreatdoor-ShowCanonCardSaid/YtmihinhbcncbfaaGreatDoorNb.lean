/- Names in memory: bytes as a Go string, one cell each. -/
import Derived.Test.YtmihinhbcncbfaaGreatDoorLx
import Derived.Test.YtmihinhbcncbfaaGreatDoorSi0
namespace Go.Proofs.YtmihinhbcncbfaaGreatDoor
open Go.RowKit Go

/-- Bytes as a Go string. -/
def ba (x : List UInt8) : ByteArray := ⟨x.toArray⟩
theorem ba_list (x : List UInt8) : (ba x).data.toList = x := by simp [ba]
theorem ba_toList (x : List UInt8) : (ba x).toList = x := by rw [ByteArray.toList_eq, ba_list]
theorem ba_size (x : List UInt8) : (ba x).size = x.length := by rw [← Nm.len_size, ba_list]
theorem ba_of (s : ByteArray) : ba s.data.toList = s := by simp [ba]
theorem ba_inj {x y : List UInt8} (h : ba x = ba y) : x = y := by rw [← ba_list x, h, ba_list]
abbrev Nms := List (List UInt8)
/-- A name in memory: one cell. -/
def nc (x : List UInt8) : List Value := [.string (ba x)]
theorem nc_len : ∀ x, (nc x).length = 1 := fun _ => rfl
theorem nc_one : ∀ x, ∀ u ∈ nc x, u.oneCell' = true := by intro x u hu; simp [nc] at hu; subst hu; rfl
theorem info_string : (Tryz.prog.info? 9).map (fun i => (i.zero, i.size, i.bytes)) = some (some (.string ByteArray.empty), 1, 16) := by kernel_rfl
end Go.Proofs.YtmihinhbcncbfaaGreatDoor
