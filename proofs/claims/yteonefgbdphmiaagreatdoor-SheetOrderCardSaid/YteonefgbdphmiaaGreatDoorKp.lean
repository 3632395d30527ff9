/- Plain: what is said of a sheet's lines (chapter 05's laws). -/
import Derived.Test.YteonefgbdphmiaaGreatDoorKg
import Derived.Test.YteonefgbdphmiaaGreatDoorPc
import Derived.Test.YteonefgbdphmiaaGreatDoorWt
namespace Go.Proofs.YteonefgbdphmiaaGreatDoor
open Go.RowKit
theorem lines_len (x : SheetD) : (linesD x).length = thingsD x + 1 := by
  unfold linesD thingsD
  simp only [List.length_append, List.length_map, List.length_cons, List.length_nil]
  omega
theorem erase_at {α : Type} (D : List α) (a : Nat) : (D.take (a + 1)).eraseIdx a = (D.take a).eraseIdx a := by
  rw [List.eraseIdx_of_length_le (l := D.take a) (by rw [List.length_take]; omega)]
  by_cases h : a < D.length
  · rw [take_succ_eq D a h, List.eraseIdx_append_of_length_le (by rw [List.length_take]; omega), List.length_take, Nat.min_eq_left (by omega), Nat.sub_self]
    simp
  · rw [List.eraseIdx_of_length_le (by rw [List.length_take]; omega), List.take_of_length_le (by omega), List.take_of_length_le (by omega)]
theorem erase_ne {α : Type} (D : List α) (a k : Nat) (h : k < D.length) (hn : k ≠ a) : (D.take (k + 1)).eraseIdx a = (D.take k).eraseIdx a ++ [D[k]] := by
  rw [take_succ_eq D k h]
  by_cases hk : k < a
  · rw [List.eraseIdx_of_length_le (by rw [List.length_append, List.length_take]; simp; omega), List.eraseIdx_of_length_le (by rw [List.length_take]; omega)]
  · rw [List.eraseIdx_append_of_lt_length (by rw [List.length_take]; omega)]
theorem text_snoc (l : Nms) (s : List UInt8) : ba (textL l) ++ ba s ++ ⟨#[10]⟩ = ba (textL (l ++ [s])) := by
  rw [cZ [10], ba_appZ, ba_appZ]
  congr 1
  simp [textL]
theorem linesD_items (x : SheetD) : linesD x = horL x.hor :: (itemsD x).map fun p => line p.P.1 := by
  rw [← linesP_D, linesP_items, List.map_cons, List.map_map]
  rfl
theorem items_len (x : SheetD) : (itemsD x).length = thingsD x := by
  have := lines_len x
  rw [linesD_items, List.length_cons, List.length_map] at this
  omega
theorem map_erase {α β : Type} (f : α → β) : ∀ (l : List α) (j : Nat), (l.eraseIdx j).map f = (l.map f).eraseIdx j
  | [], _ => rfl
  | _ :: _, 0 => rfl
  | a :: l, j + 1 => by simp only [List.eraseIdx_cons_succ, List.map_cons, map_erase f l j]
theorem less_plain {x : SheetD} (hc : checkD x = 0) (j : Nat) : ∃ y, checkD y = 0 ∧ linesD y = (linesD x).eraseIdx (j + 1) := by
  obtain ⟨y, hs, hi⟩ := sub_items (x := x) (l := (itemsD x).eraseIdx j) (List.eraseIdx_sublist ..)
  refine ⟨y, hs.check hc, ?_⟩
  rw [linesD_items, hi, linesD_items, List.eraseIdx_cons_succ, hs.h]
  congr 1
  exact map_erase _ _ _
theorem er_small (D : Nms) (h : ∀ s ∈ D, s.length ≤ 4000) (hl : D.length ≤ 6201) (a k : Nat) : (ba (textL ((D.take k).eraseIdx a))).size ≤ 24810201 := by
  rw [ba_size]
  have h1 := textL_le ((D.take k).eraseIdx a) (B := 4000) fun s hs => h s (List.mem_of_mem_take (List.mem_of_mem_eraseIdx hs))
  have h2 : ((D.take k).eraseIdx a).length ≤ 6201 := by
    have := List.length_eraseIdx_le (D.take k) a
    rw [List.length_take] at this
    omega
  have h3 : ((D.take k).eraseIdx a).length * (4000 + 1) ≤ 6201 * (4000 + 1) := Nat.mul_le_mul_right _ h2
  omega
end Go.Proofs.YteonefgbdphmiaaGreatDoor
