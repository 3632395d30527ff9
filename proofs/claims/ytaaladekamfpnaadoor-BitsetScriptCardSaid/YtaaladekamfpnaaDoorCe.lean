/- BitsetScript: the walk of the law where a width is none. -/
import Derived.Test.YtaaladekamfpnaaDoorCd
namespace Go.Proofs.YtaaladekamfpnaaDoor
open Go.RowKit Bs

set_option maxRecDepth 100000 in
set_option maxHeartbeats 1000000 in
theorem script_bad (n m : Int) (va : Value) (len : Nat) (cap : Nat) (A : Option Addr) (w : World) (hT : Tab w) (hg : 0 < w.heap.size) (e : va = .slice A len cap) (hlen : len ≤ 150) (hn : n < 0 ∨ 1048576 < n) (hm : m < 0 ∨ 1048576 < m) :
    Calls Tryd.prog 7 #[.int .i64 n, .int .i64 m, va] w fun e w' => e = .returned (.bool true) ∧ Below w.heap.size w w' := by
  subst e
  have HL := Lib.hid (lives_any w hT hg)
  have HN := Lib.hid (fun w => new_bad n w hn)
  have HM := Lib.hid (fun w => new_bad m w hm)
  have RN := Lib.hid (fun w => rnew_bad n w hn)
  have RM := Lib.hid (fun w => rnew_bad m w hm)
  have q0 : ¬ (150 : Int) < (len : Int) := by omega
  have a1 : (2000 < n ∧ ¬ n ≤ 1048576) ∨ ¬ 2000 < n := by omega
  have a2 : (2000 < m ∧ ¬ m ≤ 1048576) ∨ ¬ 2000 < m := by omega
  clear hn hm
  rcases a1 with ⟨a11, a12⟩ | a1 <;> rcases a2 with ⟨a21, a22⟩ | a2
  all_goals
    go_enter Tryd.func7, Tryd.ntmps7
    go_wp2_with fail
    refine HL.out.mono ?_
    rintro e w1 ⟨rfl, hb⟩
    have Hb := Lib.hid hb
    clear hb
    go_wp2_with fail
    refine (HN.out w1).mono ?_
    rintro e w' ⟨rfl, rfl⟩
    go_wp2_with fail
    refine (HM.out w1).mono ?_
    rintro e w' ⟨rfl, rfl⟩
    go_wp2_with fail
    refine (RN.out w1).mono ?_
    rintro e w' ⟨rfl, rfl⟩
    go_wp2_with fail
    refine (RM.out w1).mono ?_
    rintro e w' ⟨rfl, rfl⟩
    go_wp2_with fail
    go_loopw [15] (fun s wr => s = .int .i64 0 ∧ wr = w1) (fun _ _ => 0)
    case atStart => exact ⟨rfl, rfl⟩
    case round =>
      obtain ⟨rfl, rfl⟩ := hrel
      rcases Nat.eq_zero_or_pos len with h0 | h0
      · subst h0
        go_wp2_with fail
        go_ret
        exact ⟨rfl, Hb.out⟩
      · have q1 : (0 : Int) < (len : Int) := by omega
        go_wp2_with fail
        go_ret
        exact ⟨rfl, Hb.out⟩
end Go.Proofs.YtaaladekamfpnaaDoor
