/- The walk of timetablelaw01.TickBack: true. -/
import Derived.Test.YtihlnciknnddkaaDoorTq
import Derived.Test.YtihlnciknnddkaaDoorTz
namespace Go.Proofs.YtihlnciknnddkaaDoor
open Go.RowKit

theorem bytes_back (s : ByteArray) : (⟨s.data.toList.toArray⟩ : ByteArray) = s := by cases s; simp
theorem textB_len (t : Int) : (Tk.textB t).length ≤ 21 := by
  unfold Tk.textB
  by_cases h1 : t = 4611686018427387904
  · rw [if_pos h1]; decide
  · rw [if_neg h1]
    by_cases h2 : Tk.isT t = true
    · rw [if_pos h2]
      rcases Tk.kinds t with ⟨h3, -, -⟩ | h3 | ⟨h3, h4⟩
      · rw [h2] at h3; exact absurd h3 (by decide)
      · exact absurd h3 h1
      · exact Lib.itoa_length_le t (by omega) (by omega)
    · rw [if_neg h2]; decide

/-- A step that keeps what the library holds, and the callers' memory. -/
def Kept (w w' : World) : Prop := Below w.heap.size w w' ∧ LibOk w'
theorem Kept.refl {w : World} (h : LibOk w) : Kept w w := ⟨Below.refl _ _, h⟩
theorem Kept.step {a b c : World} (h : Kept a b) (k : Below b.heap.size b c) : Kept a c := ⟨Below.lift h.1 k, h.2.below k⟩

set_option maxHeartbeats 1000000 in
theorem back_any (t : Int) (s : ByteArray) (w : World) (hL : LibOk w) :
    Calls Tryd.prog 3 #[.int .i64 t, .string s] w fun r w' => r = .returned (.bool true) ∧ Below w.heap.size w w' := by
  by_cases h60 : (s.size : Int) > 60
  · go_enter Tryd.func3, Tryd.ntmps3
    go_wp2_with (first | (go_at_call 6; refine (lives_any _).mono ?_; rintro e w' ⟨rfl, rfl⟩) | (go_at_call 9; refine (is_any _ _).mono ?_; rintro e w' ⟨rfl, rfl⟩))
    go_ret
    exact ⟨rfl, Below.refl _ _⟩
  have h60 : (s.size : Int) ≤ 60 := by omega
  have H1 := Lib.hid (text_any t w hL)
  obtain ⟨X, hX⟩ : ∃ X : ByteArray, Hid ((⟨(Tk.textB t).toArray⟩ : ByteArray) = X) := ⟨_, Lib.hid rfl⟩
  have hXl : X.data.toList = Tk.textB t := by rw [← hX.out]
  have hXs : X.size ≤ 1099511627776 := by
    have := textB_len t
    rw [← hXl] at this
    simp at this
    omega
  rw [hX.out] at H1
  by_cases hi : Tk.isT t = true
  · obtain ⟨p1, p2⟩ := Tk.parse_text hi
    have H2 := fun W h => Lib.hid (parse_any X W hXs h)
    rw [hXl, p1, p2] at H2
    clear hXl p1 p2
    go_enter Tryd.func3, Tryd.ntmps3
    go_wp2_with (first | (go_at_call 6; refine (lives_any _).mono ?_; rintro e w' ⟨rfl, rfl⟩) | (go_at_call 9; refine (is_any _ _).mono ?_; rintro e w' ⟨rfl, rfl⟩))
    refine H1.out.mono ?_
    rintro e w1 ⟨rfl, hw1⟩
    have HK := Lib.hid ((Kept.refl hL).step hw1)
    clear hw1 H1
    go_wp2_with (first | (go_at_call 6; refine (lives_any _).mono ?_; rintro e w' ⟨rfl, rfl⟩) | (go_at_call 9; refine (is_any _ _).mono ?_; rintro e w' ⟨rfl, rfl⟩))
    refine (H2 _ HK.out.2).out.mono ?_
    rintro e w2 ⟨rfl, hw2⟩
    replace HK := Lib.hid (HK.out.step hw2)
    clear hw2 H2
    go_wp2_with (first | (go_at_call 6; refine (lives_any _).mono ?_; rintro e w' ⟨rfl, rfl⟩) | (go_at_call 9; refine (is_any _ _).mono ?_; rintro e w' ⟨rfl, rfl⟩))
    refine (parse_any s _ (by omega) HK.out.2).mono ?_
    rintro e w4 ⟨rfl, hw4⟩
    replace HK := Lib.hid (HK.out.step hw4)
    clear hw4
    rcases Tk.text_parse s.data.toList with ⟨f1, f2⟩ | ⟨f1, f2, f3⟩
    · have hf : (Tk.parseE s.data.toList == 0) = false := beq_eq_false_iff_ne.2 f1
      rw [f2]
      clear f2
      go_wp2_with (first | (go_at_call 6; refine (lives_any _).mono ?_; rintro e w' ⟨rfl, rfl⟩) | (go_at_call 9; refine (is_any _ _).mono ?_; rintro e w' ⟨rfl, rfl⟩))
      go_ret
      exact ⟨rfl, HK.out.1⟩
    · rw [f1]
      have H3 := fun W h => Lib.hid (text_any (Tk.parseV s.data.toList) W h)
      rw [f3, bytes_back] at H3
      clear f1 f3
      go_wp2_with (first | (go_at_call 6; refine (lives_any _).mono ?_; rintro e w' ⟨rfl, rfl⟩) | (go_at_call 9; refine (is_any _ _).mono ?_; rintro e w' ⟨rfl, rfl⟩))
      refine (H3 _ HK.out.2).out.mono ?_
      rintro e w3 ⟨rfl, hw3⟩
      replace HK := Lib.hid (HK.out.step hw3)
      clear hw3
      go_wp2_with fail
      go_ret
      exact ⟨rfl, HK.out.1⟩
  · have hi : Tk.isT t = false := by simpa using hi
    have hX0 : X.data.toList = [] := by rw [hXl, Tk.text_no hi]
    have H2 := fun W h => Lib.hid (parse_any X W hXs h)
    rw [hX0, Tk.parse_nil.1, Tk.parse_nil.2] at H2
    have hX1 : X.toList = [] := by rw [ByteArray.toList_eq, hX0]
    clear hXl hX0
    go_enter Tryd.func3, Tryd.ntmps3
    go_wp2_with (first | (go_at_call 6; refine (lives_any _).mono ?_; rintro e w' ⟨rfl, rfl⟩) | (go_at_call 9; refine (is_any _ _).mono ?_; rintro e w' ⟨rfl, rfl⟩))
    refine H1.out.mono ?_
    rintro e w1 ⟨rfl, hw1⟩
    have HK := Lib.hid ((Kept.refl hL).step hw1)
    clear hw1 H1
    go_wp2_with (first | (go_at_call 6; refine (lives_any _).mono ?_; rintro e w' ⟨rfl, rfl⟩) | (go_at_call 9; refine (is_any _ _).mono ?_; rintro e w' ⟨rfl, rfl⟩))
    refine (H2 _ HK.out.2).out.mono ?_
    rintro e w2 ⟨rfl, hw2⟩
    replace HK := Lib.hid (HK.out.step hw2)
    clear hw2 H2
    go_wp2_with (first | (go_at_call 6; refine (lives_any _).mono ?_; rintro e w' ⟨rfl, rfl⟩) | (go_at_call 9; refine (is_any _ _).mono ?_; rintro e w' ⟨rfl, rfl⟩))
    refine (parse_any s _ (by omega) HK.out.2).mono ?_
    rintro e w4 ⟨rfl, hw4⟩
    replace HK := Lib.hid (HK.out.step hw4)
    clear hw4
    rcases Tk.text_parse s.data.toList with ⟨f1, f2⟩ | ⟨f1, f2, f3⟩
    · have hf : (Tk.parseE s.data.toList == 0) = false := beq_eq_false_iff_ne.2 f1
      rw [f2]
      clear f2
      go_wp2_with (first | (go_at_call 6; refine (lives_any _).mono ?_; rintro e w' ⟨rfl, rfl⟩) | (go_at_call 9; refine (is_any _ _).mono ?_; rintro e w' ⟨rfl, rfl⟩))
      go_ret
      exact ⟨rfl, HK.out.1⟩
    · rw [f1]
      have H3 := fun W h => Lib.hid (text_any (Tk.parseV s.data.toList) W h)
      rw [f3, bytes_back] at H3
      clear f1 f3
      go_wp2_with (first | (go_at_call 6; refine (lives_any _).mono ?_; rintro e w' ⟨rfl, rfl⟩) | (go_at_call 9; refine (is_any _ _).mono ?_; rintro e w' ⟨rfl, rfl⟩))
      refine (H3 _ HK.out.2).out.mono ?_
      rintro e w3 ⟨rfl, hw3⟩
      replace HK := Lib.hid (HK.out.step hw3)
      clear hw3
      go_wp2_with fail
      go_ret
      exact ⟨rfl, HK.out.1⟩

end Go.Proofs.YtihlnciknnddkaaDoor
