/- The walk of timetablelaw01.TickNames: true. -/
import Derived.Test.YtihlnciknnddkaaDoorTb
namespace Go.Proofs.YtihlnciknnddkaaDoor
open Go.RowKit

theorem text40 : Tk.textB 40 = [52, 48] := by
  unfold Tk.textB
  rw [if_neg (by decide), if_pos (by decide), show (40 : Int) = ((40 : Nat) : Int) from rfl, Lib.itoa_nonneg, Tk.dec_more (by decide), Tk.dec_one (by decide)]
  decide
set_option maxHeartbeats 2000000 in
set_option maxRecDepth 10000 in
theorem names_any (w : World) (hL : LibOk w) :
    Calls Tryd.prog 4 #[] w fun r w' => r = .returned (.bool true) ∧ Below w.heap.size w w' := by
  have HK := Lib.hid (Kept.refl hL)
  have e1 : Tk.subE 3 4 = 9 := by decide
  have e2 : Tk.subE 3 4611686018427387904 = 9 := by decide
  have e3 : Tk.mulE 4611686018427387904 0 = 0 := by decide
  have e4 : Tk.mulV 4611686018427387904 0 = 0 := by decide
  have e5 : Tk.mulE 549755813888 3 = 9 := by decide
  have e6 : Tk.atE 5 0 1 = 9 := by decide
  have e7 : Tk.atE 5 10 2 = 0 := by decide
  have e8 : Tk.atV 5 10 2 = 25 := by decide
  have e9 : Tk.parseE [48, 48, 55] = 7 := by decide
  have e10 : Tk.parseE [49, 48, 57, 57, 53, 49, 49, 54, 50, 55, 55, 55, 55] = 9 := by decide
  have e11 : Tk.parseE [105, 110, 102] = 0 := by decide
  have e12 : Tk.parseV [105, 110, 102] = 4611686018427387904 := by decide
  have e13 : Tk.textB 4611686018427387904 = [105, 110, 102] := by decide
  have e14 : Tk.textB (-1) = [] := Tk.text_no (by decide)
  have e15 := text40
  have e16 : Tk.chk 4611686018427387904 = 9 := by decide
  have e17 : Tk.isT 4611686018427387904 = true := by decide
  have e18 : Tk.isT 1099511627777 = false := by decide
  clear hL
  go_enter Tryd.func4, Tryd.ntmps4
  go_wp2_with (first | (go_at_call 6; refine (lives_any _).mono ?_; rintro e w' ⟨rfl, rfl⟩) | (go_at_call 9; refine (is_any _ _).mono ?_; rintro e w' ⟨rfl, rfl⟩) | (go_at_call 13; refine (check_any _ _).mono ?_; rintro e w' ⟨rfl, rfl⟩) | (go_at_call 10; refine (sub_any _ _ _).mono ?_; rintro e w' ⟨rfl, rfl⟩) | (go_at_call 11; refine (mul_any _ _ _).mono ?_; rintro e w' ⟨rfl, rfl⟩) | (go_at_call 12; refine (at_any _ _ _ _).mono ?_; rintro e w' ⟨rfl, rfl⟩) | (go_at_call 8; refine (parse_any _ _ (by decide) HK.out.2).mono ?_; rintro e w1 ⟨rfl, hw⟩; replace HK := Lib.hid (HK.out.step hw); clear hw) | (go_at_call 7; refine (text_any _ _ HK.out.2).mono ?_; rintro e w1 ⟨rfl, hw⟩; replace HK := Lib.hid (HK.out.step hw); clear hw))
  go_ret
  exact ⟨rfl, HK.out.1⟩

end Go.Proofs.YtihlnciknnddkaaDoor
