/- The walk of timetablelaw01.lives: true. -/
import Derived.Test.YtihlnciknnddkaaDoorTx
namespace Go.Proofs.YtihlnciknnddkaaDoor
open Go.RowKit

set_option maxHeartbeats 400000 in
theorem lives_any (w : World) :
    Calls Tryd.prog 6 #[] w fun r w' => r = .returned (.bool true) ∧ w = w' := by
  have h1 : Tk.addV 4611686018427387904 3 = 4611686018427387904 := (Tk.add_inf Tk.isT_inf (Tk.isT_tick (by omega)) (.inl rfl)).2
  have h2 : Tk.addE 4611686018427387904 3 = 0 := (Tk.add_inf Tk.isT_inf (Tk.isT_tick (by omega)) (.inl rfl)).1
  have h3 : Tk.addE 1099511627776 1 = 9 := (Tk.add_over (by omega) (by omega) (by omega)).1
  have h4 : Tk.cnt 5 10 25 = 3 := Tk.cnt_of (Tk.chk_ok (by omega)) (Tk.chk_ok (by omega)) (Tk.chk_ok (by omega)) (by omega) (by omega)
  have h5 : Tk.cnt 5 0 25 = 1 := Tk.cnt_one (Tk.chk_ok (by omega)) (Tk.chk_ok (by omega)) (Tk.chk_ok (by omega)) (by omega)
  go_enter Tryd.func6, Tryd.ntmps6
  go_wp2_with (first | (go_at_call 14; refine (add_any _ _ _).mono ?_; rintro e w' ⟨rfl, rfl⟩) | (go_at_call 22; refine (count_any _ _ _ _).mono ?_; rintro e w' ⟨rfl, rfl⟩))
  go_ret
  exact ⟨rfl, rfl⟩

end Go.Proofs.YtihlnciknnddkaaDoor
