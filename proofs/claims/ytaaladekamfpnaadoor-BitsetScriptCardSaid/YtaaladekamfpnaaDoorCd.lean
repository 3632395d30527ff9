/- BitsetScript: the walk of the law: the inputs that are passed by. -/
import Derived.Test.YtaaladekamfpnaaDoorCc
namespace Go.Proofs.YtaaladekamfpnaaDoor
open Go.RowKit Bs

set_option maxRecDepth 100000 in
set_option maxHeartbeats 800000 in
theorem script_long (n m : Int) (va : Value) (len : Nat) (cap : Nat) (A : Option Addr) (w : World) (hT : Tab w) (hg : 0 < w.heap.size) (e : va = .slice A len cap) (hlen : 150 < len) :
    Calls Tryd.prog 7 #[.int .i64 n, .int .i64 m, va] w fun e w' => e = .returned (.bool true) ∧ Below w.heap.size w w' := by
  subst e
  have HL := Lib.hid (lives_any w hT hg)
  have q0 : (150 : Int) < (len : Int) := by omega
  go_enter Tryd.func7, Tryd.ntmps7
  go_wp2_with fail
  refine HL.out.mono ?_
  rintro e w1 ⟨rfl, hb⟩
  have Hb := Lib.hid hb
  clear hb
  go_wp2_with fail
  go_ret
  exact ⟨rfl, Hb.out⟩

set_option maxRecDepth 100000 in
set_option maxHeartbeats 800000 in
theorem script_n (n m : Int) (va : Value) (len : Nat) (cap : Nat) (A : Option Addr) (w : World) (hT : Tab w) (hg : 0 < w.heap.size) (e : va = .slice A len cap) (hlen : len ≤ 150) (h1 : 2000 < n) (h2 : n ≤ 1048576) :
    Calls Tryd.prog 7 #[.int .i64 n, .int .i64 m, va] w fun e w' => e = .returned (.bool true) ∧ Below w.heap.size w w' := by
  subst e
  have HL := Lib.hid (lives_any w hT hg)
  have q0 : ¬ (150 : Int) < (len : Int) := by omega
  go_enter Tryd.func7, Tryd.ntmps7
  go_wp2_with fail
  refine HL.out.mono ?_
  rintro e w1 ⟨rfl, hb⟩
  have Hb := Lib.hid hb
  clear hb
  go_wp2_with fail
  go_ret
  exact ⟨rfl, Hb.out⟩

set_option maxRecDepth 100000 in
set_option maxHeartbeats 800000 in
theorem script_m1 (n m : Int) (va : Value) (len : Nat) (cap : Nat) (A : Option Addr) (w : World) (hT : Tab w) (hg : 0 < w.heap.size) (e : va = .slice A len cap) (hlen : len ≤ 150) (h0 : n ≤ 2000) (h1 : 2000 < m) (h2 : m ≤ 1048576) :
    Calls Tryd.prog 7 #[.int .i64 n, .int .i64 m, va] w fun e w' => e = .returned (.bool true) ∧ Below w.heap.size w w' := by
  subst e
  have HL := Lib.hid (lives_any w hT hg)
  have q0 : ¬ (150 : Int) < (len : Int) := by omega
  have h00 : ¬ 2000 < n := by omega
  go_enter Tryd.func7, Tryd.ntmps7
  go_wp2_with fail
  refine HL.out.mono ?_
  rintro e w1 ⟨rfl, hb⟩
  have Hb := Lib.hid hb
  clear hb
  go_wp2_with fail
  go_ret
  exact ⟨rfl, Hb.out⟩

set_option maxRecDepth 100000 in
set_option maxHeartbeats 800000 in
theorem script_m2 (n m : Int) (va : Value) (len : Nat) (cap : Nat) (A : Option Addr) (w : World) (hT : Tab w) (hg : 0 < w.heap.size) (e : va = .slice A len cap) (hlen : len ≤ 150) (h0 : 1048576 < n) (h1 : 2000 < m) (h2 : m ≤ 1048576) :
    Calls Tryd.prog 7 #[.int .i64 n, .int .i64 m, va] w fun e w' => e = .returned (.bool true) ∧ Below w.heap.size w w' := by
  subst e
  have HL := Lib.hid (lives_any w hT hg)
  have q0 : ¬ (150 : Int) < (len : Int) := by omega
  have h00 : 2000 < n := by omega
  have h01 : ¬ n ≤ 1048576 := by omega
  go_enter Tryd.func7, Tryd.ntmps7
  go_wp2_with fail
  refine HL.out.mono ?_
  rintro e w1 ⟨rfl, hb⟩
  have Hb := Lib.hid hb
  clear hb
  go_wp2_with fail
  go_ret
  exact ⟨rfl, Hb.out⟩
end Go.Proofs.YtaaladekamfpnaaDoor
