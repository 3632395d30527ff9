/- BitsetScript: the walk of the law where the second width is none. -/
import Derived.Test.YtaaladekamfpnaaDoorCf
namespace Go.Proofs.YtaaladekamfpnaaDoor
open Go.RowKit Bs

set_option maxRecDepth 100000 in
set_option maxHeartbeats 1000000 in
theorem script_badm (n : Nat) (m : Int) (va : Value) (len : Nat) (cap : Nat) (A : Option Addr) (w : World) (hT : Tab w) (hg : 0 < w.heap.size) (e : va = .slice A len cap) (hlen : len ≤ 150) (hn : n ≤ 2000) (hm : m < 0 ∨ 1048576 < m) :
    Calls Tryd.prog 7 #[.int .i64 (n : Int), .int .i64 m, va] w fun e w' => e = .returned (.bool true) ∧ Below w.heap.size w w' := by
  subst e
  have HL := Lib.hid (lives_any w hT hg)
  have HN := Lib.hid (fun w => new_ok n w (by omega))
  have HM := Lib.hid (fun w => new_bad m w hm)
  have RN := Lib.hid (fun w => rnew_ok n w (by omega))
  have RM := Lib.hid (fun w => rnew_bad m w hm)
  have q0 : ¬ (150 : Int) < (len : Int) := by omega
  have a1 : ¬ (2000 : Int) < (n : Int) := by omega
  have a2 : (2000 < m ∧ ¬ m ≤ 1048576) ∨ ¬ 2000 < m := by omega
  clear hn hm
  rcases a2 with ⟨a21, a22⟩ | a2
  all_goals
    go_enter Tryd.func7, Tryd.ntmps7
    go_wp2_with fail
    refine HL.out.mono ?_
    rintro e w1 ⟨rfl, hb⟩
    have Hb := Lib.hid hb
    clear hb
    go_wp2_with fail
    refine (HN.out w1).mono ?_
    rintro e w2 ⟨ps, rfl, hs, hb2⟩
    have Hb2 := Lib.hid hb2
    clear hs hb2
    go_wp2_with fail
    refine (HM.out w2).mono ?_
    rintro e w' ⟨rfl, rfl⟩
    go_wp2_with fail
    refine (RN.out w2).mono ?_
    rintro e w3 ⟨px, gx, rfl, hx, _, _, hb3⟩
    have Hb3 := Lib.hid (Below.lift (Below.lift Hb.out Hb2.out) hb3)
    clear hx hb3
    go_wp2_with fail
    refine (RM.out w3).mono ?_
    rintro e w' ⟨rfl, rfl⟩
    go_wp2_with fail
    go_loopw [13, 15] (fun s13 s wr => s13 = .pointer none ∧ s = .int .i64 0 ∧ wr = w3) (fun _ _ _ => 0)
    case atStart => exact ⟨rfl, rfl, rfl⟩
    case round =>
      obtain ⟨rfl, rfl, rfl⟩ := hrel
      rcases Nat.eq_zero_or_pos len with h0 | h0
      · subst h0
        go_wp2_with fail
        go_ret
        exact ⟨rfl, Hb3.out⟩
      · have q1 : (0 : Int) < (len : Int) := by omega
        go_wp2_with fail
        go_ret
        exact ⟨rfl, Hb3.out⟩
end Go.Proofs.YtaaladekamfpnaaDoor
