/- Plain: the texts that the reference puts together are the lines. -/
import Derived.Test.YteonefgbdphmiaaGreatDoorQk
namespace Go.Proofs.YteonefgbdphmiaaGreatDoor
open Go.RowKit
theorem ba_appZ (x y : List UInt8) : ba x ++ ba y = ba (x ++ y) := by
  apply ByteArray.ext
  apply Array.ext'
  simp [ba]
theorem cZ (l : List UInt8) : (⟨l.toArray⟩ : ByteArray) = ba l := rfl
theorem path_sum (p : PathD) : (⟨#[112, 97, 116, 104, 32]⟩ : ByteArray) ++ ba p.name ++ ⟨#[32]⟩ ++ ba p.a ++ ⟨#[32]⟩ ++ ba p.b ++ ⟨#[32]⟩ ++ ba (dec p.len) = ba (pathL p) := by
  rw [cZ [112, 97, 116, 104, 32], cZ [32]]
  simp only [ba_appZ]
  congr 1
  simp [pathL, pathW, line, kPath, Wd.t]
theorem times_sum (t : TimesD) (k : List UInt8) : (⟨#[32, 102, 114, 111, 109, 32]⟩ : ByteArray) ++ ba (dec t.start) ++ ⟨#[32, 101, 118, 101, 114, 121, 32]⟩ ++ ba (dec t.every) ++ ⟨#[32]⟩ ++ ba k ++ ⟨#[32]⟩ ++ ba (dec t.len) = ba (32 :: timesL t k) := by
  rw [cZ [32, 102, 114, 111, 109, 32], cZ [32, 101, 118, 101, 114, 121, 32], cZ [32]]
  simp only [ba_appZ]
  congr 1
  simp [timesL, timesW, line, kFrom, kEvery, Wd.t]
theorem door_sum (p : DoorD) : (⟨#[100, 111, 111, 114, 32]⟩ : ByteArray) ++ ba p.name ++ ⟨#[32]⟩ ++ ba p.a ++ ⟨#[32]⟩ ++ ba p.b ++ ⟨#[32]⟩ ++ ba (dec p.len) ++ ba (32 :: timesL p.times kOpen) = ba (doorL p) := by
  rw [cZ [100, 111, 111, 114, 32], cZ [32]]
  simp only [ba_appZ]
  congr 1
  simp [doorL, doorW, line, kDoor, Wd.t]
theorem trip_sum (t : TripD) : (⟨#[116, 114, 105, 112, 32]⟩ : ByteArray) ++ ba t.name ++ ⟨#[32, 111, 102, 32]⟩ ++ ba t.route ++ ⟨#[32, 102, 114, 111, 109, 32]⟩ ++ ba (dec t.start) ++ ⟨#[32, 101, 118, 101, 114, 121, 32]⟩ ++ ba (dec t.every) ++ ⟨#[32, 117, 110, 116, 105, 108, 32]⟩ ++ ba (dec t.stop) = ba (tripL t) := by
  rw [cZ [116, 114, 105, 112, 32], cZ [32, 111, 102, 32], cZ [32, 102, 114, 111, 109, 32], cZ [32, 101, 118, 101, 114, 121, 32], cZ [32, 117, 110, 116, 105, 108, 32]]
  simp only [ba_appZ]
  congr 1
  simp [tripL, tripW, line, kTrip, kOf, kFrom, kEvery, kUntil, Wd.t]
theorem haz_sum (t : HazD) : (⟨#[104, 97, 122, 97, 114, 100, 32]⟩ : ByteArray) ++ ba t.name ++ ⟨#[32, 111, 110, 32]⟩ ++ ba t.on ++ ba (32 :: timesL t.times kClosed) = ba (hazL t) := by
  rw [cZ [104, 97, 122, 97, 114, 100, 32], cZ [32, 111, 110, 32]]
  simp only [ba_appZ]
  congr 1
  simp [hazL, hazW, line, kHazard, kOn, Wd.t]
theorem stop_sum (s : List UInt8) : (⟨#[115, 116, 111, 112, 32]⟩ : ByteArray) ++ ba s = ba (stopL s) := by
  rw [cZ [115, 116, 111, 112, 32]]
  simp only [ba_appZ]
  congr 1
  simp [stopL, line, kStop, Wd.t]
theorem hor_sum (n : Int) : (⟨#[104, 111, 114, 105, 122, 111, 110, 32]⟩ : ByteArray) ++ ba (dec n) = ba (horL n) := by
  rw [cZ [104, 111, 114, 105, 122, 111, 110, 32]]
  simp only [ba_appZ]
  congr 1
  simp [horL, line, kHorizon, Wd.t]
theorem dec_len24 {n : Int} (h : I64 n) : (dec n).length ≤ 24 := dec_le h
theorem line_long (ws : List Wd) (m k : Nat) (hk : ws.length ≤ k) (h : ∀ y ∈ ws, y.t.length ≤ m) : (line ws).length ≤ (m + 1) * k :=
  Nat.le_trans (line_le ws m h) (Nat.mul_le_mul_left _ hk)
end Go.Proofs.YteonefgbdphmiaaGreatDoor
