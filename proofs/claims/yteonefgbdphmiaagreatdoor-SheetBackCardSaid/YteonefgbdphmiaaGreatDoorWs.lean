/- slices.Equal at the rows of a sheet, slices.EqualFunc at routes, sheet.Same, sheet.Things. Printed by wip/bin/gensm.py. -/
import Derived.Test.YteonefgbdphmiaaGreatDoorQs
import Derived.Test.YteonefgbdphmiaaGreatDoorKl
import Derived.Deep.CutBlock
import Derived.Deep.CutRange
import Derived.Deep.DeepCutAuto
namespace Go.Proofs.YteonefgbdphmiaaGreatDoor
open Go.RowKit
set_option maxHeartbeats 1000000 in
theorem eqStr_any (va vb : Value) (la lb : Nms) (w : World) {P Q : Nat → Prop} (ha : Sl nc 1 w va la P) (hb : Sl nc 1 w vb lb Q) (h1 : la.length ≤ 1048576) :
    Calls Tryz.prog 55 #[va, vb] w (Quiet (.bool (decide (la = lb))) w) := by
  obtain ⟨A, capa, rfl, ha1, ha2⟩ := ha.shape
  obtain ⟨B, capb, e, hb1, hb2⟩ := hb.shape
  by_cases hlen : la.length = lb.length
  · rw [← hlen] at e hb1
    subst e
    go_enter Tryz.func55, Tryz.ntmps55
    have Hlen := Lib.hid hlen
    clear hlen
    go_wp2
    go_loopw [13] (fun s wr => SameRel la lb w s wr) (fun s _ => la.length - (intOf s).toNat)
    case atStart => exact ⟨0, 0, Nat.zero_le _, rfl, rfl, rfl⟩
    case round =>
      obtain ⟨k, n, hk, rfl, hkk, rfl⟩ := hrel
      by_cases hlt : k < la.length
      · have hlt2 : k < lb.length := by rw [← Hlen.out]; exact hlt
        obtain ⟨b1, o1, c1, e1, _, _, hl1, _, hx⟩ := ha.at_ hlt
        obtain ⟨b2, o2, c2, e2, _, _, hl2, _, hy⟩ := hb.at_ hlt2
        injection e1 with e1 e1' e1''
        injection e2 with e2 e2' e2''
        subst e1 e2
        obtain ⟨x, Hx⟩ : ∃ x, Hid (la[k] = x) := ⟨_, Lib.hid rfl⟩
        obtain ⟨y, Hy⟩ : ∃ y, Hid (lb[k] = y) := ⟨_, Lib.hid rfl⟩
        rw [Hx.out] at hx
        rw [Hy.out] at hy
        have hx0 : w.cell? ⟨b1, o1 + k, none⟩ = some (.string (ba x)) := by simpa using hx 0 _ rfl
        have hy0 : w.cell? ⟨b2, o2 + k, none⟩ = some (.string (ba y)) := by simpa using hy 0 _ rfl
        have Hkk := Lib.hid hkk
        clear hkk hx hy e1' e1'' e2' e2''
        have q1 : (0 : Int) ≤ (k : Int) := by omega
        have q2 : (k : Int) < (la.length : Int) := by omega
        by_cases hxy : x = y
        · have hb0 : ((ba x).toList == (ba y).toList) = true := by rw [hxy, beq_self_eq_true]
          have Hxy := Lib.hid hxy
          clear hxy
          go_wp2
          go_quiet (fail)
          go_wp2
          go_roundw
          case rel => exact ⟨k + 1, _, by omega, by go_num, same_step hlt hlt2 Hkk.out (by rw [Hx.out, Hy.out]; exact Hxy.out), by first | rfl | exact World.drewN_drewN _ _ _⟩
          case measure => simp [intOf]; omega
        · have hb0 : ((ba x).toList == (ba y).toList) = false := by rw [ba_toList, ba_toList]; exact beq_eq_false_iff_ne.2 hxy
          have hne := same_ne hlt hlt2 (by rw [Hx.out, Hy.out]; exact hxy)
          have Hne := Lib.hid hne
          clear hne hxy
          go_wp2
          go_quiet (fail)
          go_wp2
          go_ret
          exact ⟨ret_bool (decide_eq_false Hne.out).symm, _, by first | rfl | exact World.drewN_drewN _ _ _⟩
      · have hkl : k = la.length := by omega
        subst hkl
        have Heq := Lib.hid (same_eq Hlen.out hkk)
        clear hkk
        go_wp2
        go_ret
        exact ⟨ret_bool (decide_eq_true Heq.out).symm, n, rfl⟩
  · have hne : la ≠ lb := fun h => hlen (by rw [h])
    rw [decide_eq_false hne]
    obtain rfl := e
    have hd : ((la.length : Int) == (lb.length : Int)) = false := beq_eq_false_iff_ne.2 (by omega)
    clear hne hlen
    go_enter Tryz.func55, Tryz.ntmps55
    go_wp2
    go_ret
    exact ⟨rfl, 0, rfl⟩


set_option maxHeartbeats 1000000 in
theorem eqPath_any (va vb : Value) (la lb : List PathD) (w : World) {P Q : Nat → Prop} (ha : Sl pc 4 w va la P) (hb : Sl pc 4 w vb lb Q) (h1 : la.length ≤ 1048576) :
    Calls Tryz.prog 57 #[va, vb] w (Quiet (.bool (decide (la = lb))) w) := by
  obtain ⟨A, capa, rfl, ha1, ha2⟩ := ha.shape
  obtain ⟨B, capb, e, hb1, hb2⟩ := hb.shape
  by_cases hlen : la.length = lb.length
  · rw [← hlen] at e hb1
    subst e
    go_enter Tryz.func57, Tryz.ntmps57
    have Hlen := Lib.hid hlen
    clear hlen
    go_wp2
    go_loopw [13] (fun s wr => SameRel la lb w s wr) (fun s _ => la.length - (intOf s).toNat)
    case atStart => exact ⟨0, 0, Nat.zero_le _, rfl, rfl, rfl⟩
    case round =>
      obtain ⟨k, n, hk, rfl, hkk, rfl⟩ := hrel
      by_cases hlt : k < la.length
      · have hlt2 : k < lb.length := by rw [← Hlen.out]; exact hlt
        obtain ⟨b1, o1, c1, e1, _, _, hl1, _, hx⟩ := ha.at_ hlt
        obtain ⟨b2, o2, c2, e2, _, _, hl2, _, hy⟩ := hb.at_ hlt2
        injection e1 with e1 e1' e1''
        injection e2 with e2 e2' e2''
        subst e1 e2
        obtain ⟨x, Hx⟩ : ∃ x, Hid (la[k] = x) := ⟨_, Lib.hid rfl⟩
        obtain ⟨y, Hy⟩ : ∃ y, Hid (lb[k] = y) := ⟨_, Lib.hid rfl⟩
        rw [Hx.out] at hx
        rw [Hy.out] at hy
        have hx0 : w.cell? ⟨b1, o1 + k * 4, none⟩ = some (.string (ba x.name)) := by simpa using hx 0 _ rfl
        have hx1 : w.cell? ⟨b1, o1 + k * 4 + 1, none⟩ = some (.string (ba x.a)) := by simpa using hx 1 _ rfl
        have hx2 : w.cell? ⟨b1, o1 + k * 4 + 2, none⟩ = some (.string (ba x.b)) := by simpa using hx 2 _ rfl
        have hx3 : w.cell? ⟨b1, o1 + k * 4 + 3, none⟩ = some (.int .i64 x.len) := by simpa using hx 3 _ rfl
        have hy0 : w.cell? ⟨b2, o2 + k * 4, none⟩ = some (.string (ba y.name)) := by simpa using hy 0 _ rfl
        have hy1 : w.cell? ⟨b2, o2 + k * 4 + 1, none⟩ = some (.string (ba y.a)) := by simpa using hy 1 _ rfl
        have hy2 : w.cell? ⟨b2, o2 + k * 4 + 2, none⟩ = some (.string (ba y.b)) := by simpa using hy 2 _ rfl
        have hy3 : w.cell? ⟨b2, o2 + k * 4 + 3, none⟩ = some (.int .i64 y.len) := by simpa using hy 3 _ rfl
        have Hkk := Lib.hid hkk
        clear hkk hx hy e1' e1'' e2' e2''
        have q1 : (0 : Int) ≤ (k : Int) := by omega
        have q2 : (k : Int) < (la.length : Int) := by omega
        have hne := neqPath x y
        by_cases hxy : x = y
        · rw [decide_eq_true hxy] at hne
          have Hxy := Lib.hid hxy
          clear hxy
          go_wp2
          go_quiet (fail)
          go_wp2
          go_roundw
          case rel => exact ⟨k + 1, _, by omega, by go_num, same_step hlt hlt2 Hkk.out (by rw [Hx.out, Hy.out]; exact Hxy.out), by first | rfl | exact World.drewN_drewN _ _ _⟩
          case measure => simp [intOf]; omega
        · rw [decide_eq_false hxy] at hne
          have hun := same_ne hlt hlt2 (by rw [Hx.out, Hy.out]; exact hxy)
          have Hun := Lib.hid hun
          clear hun hxy
          go_wp2
          go_quiet (fail)
          go_wp2
          go_ret
          exact ⟨ret_bool (decide_eq_false Hun.out).symm, _, by first | rfl | exact World.drewN_drewN _ _ _⟩
      · have hkl : k = la.length := by omega
        subst hkl
        have Heq := Lib.hid (same_eq Hlen.out hkk)
        clear hkk
        go_wp2
        go_ret
        exact ⟨ret_bool (decide_eq_true Heq.out).symm, n, rfl⟩
  · have hne : la ≠ lb := fun h => hlen (by rw [h])
    rw [decide_eq_false hne]
    obtain rfl := e
    have hd : ((la.length : Int) == (lb.length : Int)) = false := beq_eq_false_iff_ne.2 (by omega)
    clear hne hlen
    go_enter Tryz.func57, Tryz.ntmps57
    go_wp2
    go_ret
    exact ⟨rfl, 0, rfl⟩

set_option maxHeartbeats 1000000 in
theorem eqDoor_any (va vb : Value) (la lb : List DoorD) (w : World) {P Q : Nat → Prop} (ha : Sl dc 7 w va la P) (hb : Sl dc 7 w vb lb Q) (h1 : la.length ≤ 1048576) :
    Calls Tryz.prog 58 #[va, vb] w (Quiet (.bool (decide (la = lb))) w) := by
  obtain ⟨A, capa, rfl, ha1, ha2⟩ := ha.shape
  obtain ⟨B, capb, e, hb1, hb2⟩ := hb.shape
  by_cases hlen : la.length = lb.length
  · rw [← hlen] at e hb1
    subst e
    go_enter Tryz.func58, Tryz.ntmps58
    have Hlen := Lib.hid hlen
    clear hlen
    go_wp2
    go_loopw [13] (fun s wr => SameRel la lb w s wr) (fun s _ => la.length - (intOf s).toNat)
    case atStart => exact ⟨0, 0, Nat.zero_le _, rfl, rfl, rfl⟩
    case round =>
      obtain ⟨k, n, hk, rfl, hkk, rfl⟩ := hrel
      by_cases hlt : k < la.length
      · have hlt2 : k < lb.length := by rw [← Hlen.out]; exact hlt
        obtain ⟨b1, o1, c1, e1, _, _, hl1, _, hx⟩ := ha.at_ hlt
        obtain ⟨b2, o2, c2, e2, _, _, hl2, _, hy⟩ := hb.at_ hlt2
        injection e1 with e1 e1' e1''
        injection e2 with e2 e2' e2''
        subst e1 e2
        obtain ⟨x, Hx⟩ : ∃ x, Hid (la[k] = x) := ⟨_, Lib.hid rfl⟩
        obtain ⟨y, Hy⟩ : ∃ y, Hid (lb[k] = y) := ⟨_, Lib.hid rfl⟩
        rw [Hx.out] at hx
        rw [Hy.out] at hy
        have hx0 : w.cell? ⟨b1, o1 + k * 7, none⟩ = some (.string (ba x.name)) := by simpa using hx 0 _ rfl
        have hx1 : w.cell? ⟨b1, o1 + k * 7 + 1, none⟩ = some (.string (ba x.a)) := by simpa using hx 1 _ rfl
        have hx2 : w.cell? ⟨b1, o1 + k * 7 + 2, none⟩ = some (.string (ba x.b)) := by simpa using hx 2 _ rfl
        have hx3 : w.cell? ⟨b1, o1 + k * 7 + 3, none⟩ = some (.int .i64 x.len) := by simpa using hx 3 _ rfl
        have hx4 : w.cell? ⟨b1, o1 + k * 7 + 4, none⟩ = some (.int .i64 x.times.start) := by simpa using hx 4 _ rfl
        have hx5 : w.cell? ⟨b1, o1 + k * 7 + 5, none⟩ = some (.int .i64 x.times.every) := by simpa using hx 5 _ rfl
        have hx6 : w.cell? ⟨b1, o1 + k * 7 + 6, none⟩ = some (.int .i64 x.times.len) := by simpa using hx 6 _ rfl
        have hy0 : w.cell? ⟨b2, o2 + k * 7, none⟩ = some (.string (ba y.name)) := by simpa using hy 0 _ rfl
        have hy1 : w.cell? ⟨b2, o2 + k * 7 + 1, none⟩ = some (.string (ba y.a)) := by simpa using hy 1 _ rfl
        have hy2 : w.cell? ⟨b2, o2 + k * 7 + 2, none⟩ = some (.string (ba y.b)) := by simpa using hy 2 _ rfl
        have hy3 : w.cell? ⟨b2, o2 + k * 7 + 3, none⟩ = some (.int .i64 y.len) := by simpa using hy 3 _ rfl
        have hy4 : w.cell? ⟨b2, o2 + k * 7 + 4, none⟩ = some (.int .i64 y.times.start) := by simpa using hy 4 _ rfl
        have hy5 : w.cell? ⟨b2, o2 + k * 7 + 5, none⟩ = some (.int .i64 y.times.every) := by simpa using hy 5 _ rfl
        have hy6 : w.cell? ⟨b2, o2 + k * 7 + 6, none⟩ = some (.int .i64 y.times.len) := by simpa using hy 6 _ rfl
        have Hkk := Lib.hid hkk
        clear hkk hx hy e1' e1'' e2' e2''
        have q1 : (0 : Int) ≤ (k : Int) := by omega
        have q2 : (k : Int) < (la.length : Int) := by omega
        have hne := neqDoor x y
        by_cases hxy : x = y
        · rw [decide_eq_true hxy] at hne
          have Hxy := Lib.hid hxy
          clear hxy
          go_wp2
          go_quiet (fail)
          go_wp2
          go_roundw
          case rel => exact ⟨k + 1, _, by omega, by go_num, same_step hlt hlt2 Hkk.out (by rw [Hx.out, Hy.out]; exact Hxy.out), by first | rfl | exact World.drewN_drewN _ _ _⟩
          case measure => simp [intOf]; omega
        · rw [decide_eq_false hxy] at hne
          have hun := same_ne hlt hlt2 (by rw [Hx.out, Hy.out]; exact hxy)
          have Hun := Lib.hid hun
          clear hun hxy
          go_wp2
          go_quiet (fail)
          go_wp2
          go_ret
          exact ⟨ret_bool (decide_eq_false Hun.out).symm, _, by first | rfl | exact World.drewN_drewN _ _ _⟩
      · have hkl : k = la.length := by omega
        subst hkl
        have Heq := Lib.hid (same_eq Hlen.out hkk)
        clear hkk
        go_wp2
        go_ret
        exact ⟨ret_bool (decide_eq_true Heq.out).symm, n, rfl⟩
  · have hne : la ≠ lb := fun h => hlen (by rw [h])
    rw [decide_eq_false hne]
    obtain rfl := e
    have hd : ((la.length : Int) == (lb.length : Int)) = false := beq_eq_false_iff_ne.2 (by omega)
    clear hne hlen
    go_enter Tryz.func58, Tryz.ntmps58
    go_wp2
    go_ret
    exact ⟨rfl, 0, rfl⟩

set_option maxHeartbeats 1000000 in
theorem eqTrip_any (va vb : Value) (la lb : List TripD) (w : World) {P Q : Nat → Prop} (ha : Sl trc 5 w va la P) (hb : Sl trc 5 w vb lb Q) (h1 : la.length ≤ 1048576) :
    Calls Tryz.prog 60 #[va, vb] w (Quiet (.bool (decide (la = lb))) w) := by
  obtain ⟨A, capa, rfl, ha1, ha2⟩ := ha.shape
  obtain ⟨B, capb, e, hb1, hb2⟩ := hb.shape
  by_cases hlen : la.length = lb.length
  · rw [← hlen] at e hb1
    subst e
    go_enter Tryz.func60, Tryz.ntmps60
    have Hlen := Lib.hid hlen
    clear hlen
    go_wp2
    go_loopw [13] (fun s wr => SameRel la lb w s wr) (fun s _ => la.length - (intOf s).toNat)
    case atStart => exact ⟨0, 0, Nat.zero_le _, rfl, rfl, rfl⟩
    case round =>
      obtain ⟨k, n, hk, rfl, hkk, rfl⟩ := hrel
      by_cases hlt : k < la.length
      · have hlt2 : k < lb.length := by rw [← Hlen.out]; exact hlt
        obtain ⟨b1, o1, c1, e1, _, _, hl1, _, hx⟩ := ha.at_ hlt
        obtain ⟨b2, o2, c2, e2, _, _, hl2, _, hy⟩ := hb.at_ hlt2
        injection e1 with e1 e1' e1''
        injection e2 with e2 e2' e2''
        subst e1 e2
        obtain ⟨x, Hx⟩ : ∃ x, Hid (la[k] = x) := ⟨_, Lib.hid rfl⟩
        obtain ⟨y, Hy⟩ : ∃ y, Hid (lb[k] = y) := ⟨_, Lib.hid rfl⟩
        rw [Hx.out] at hx
        rw [Hy.out] at hy
        have hx0 : w.cell? ⟨b1, o1 + k * 5, none⟩ = some (.string (ba x.name)) := by simpa using hx 0 _ rfl
        have hx1 : w.cell? ⟨b1, o1 + k * 5 + 1, none⟩ = some (.string (ba x.route)) := by simpa using hx 1 _ rfl
        have hx2 : w.cell? ⟨b1, o1 + k * 5 + 2, none⟩ = some (.int .i64 x.start) := by simpa using hx 2 _ rfl
        have hx3 : w.cell? ⟨b1, o1 + k * 5 + 3, none⟩ = some (.int .i64 x.every) := by simpa using hx 3 _ rfl
        have hx4 : w.cell? ⟨b1, o1 + k * 5 + 4, none⟩ = some (.int .i64 x.stop) := by simpa using hx 4 _ rfl
        have hy0 : w.cell? ⟨b2, o2 + k * 5, none⟩ = some (.string (ba y.name)) := by simpa using hy 0 _ rfl
        have hy1 : w.cell? ⟨b2, o2 + k * 5 + 1, none⟩ = some (.string (ba y.route)) := by simpa using hy 1 _ rfl
        have hy2 : w.cell? ⟨b2, o2 + k * 5 + 2, none⟩ = some (.int .i64 y.start) := by simpa using hy 2 _ rfl
        have hy3 : w.cell? ⟨b2, o2 + k * 5 + 3, none⟩ = some (.int .i64 y.every) := by simpa using hy 3 _ rfl
        have hy4 : w.cell? ⟨b2, o2 + k * 5 + 4, none⟩ = some (.int .i64 y.stop) := by simpa using hy 4 _ rfl
        have Hkk := Lib.hid hkk
        clear hkk hx hy e1' e1'' e2' e2''
        have q1 : (0 : Int) ≤ (k : Int) := by omega
        have q2 : (k : Int) < (la.length : Int) := by omega
        have hne := neqTrip x y
        by_cases hxy : x = y
        · rw [decide_eq_true hxy] at hne
          have Hxy := Lib.hid hxy
          clear hxy
          go_wp2
          go_quiet (fail)
          go_wp2
          go_roundw
          case rel => exact ⟨k + 1, _, by omega, by go_num, same_step hlt hlt2 Hkk.out (by rw [Hx.out, Hy.out]; exact Hxy.out), by first | rfl | exact World.drewN_drewN _ _ _⟩
          case measure => simp [intOf]; omega
        · rw [decide_eq_false hxy] at hne
          have hun := same_ne hlt hlt2 (by rw [Hx.out, Hy.out]; exact hxy)
          have Hun := Lib.hid hun
          clear hun hxy
          go_wp2
          go_quiet (fail)
          go_wp2
          go_ret
          exact ⟨ret_bool (decide_eq_false Hun.out).symm, _, by first | rfl | exact World.drewN_drewN _ _ _⟩
      · have hkl : k = la.length := by omega
        subst hkl
        have Heq := Lib.hid (same_eq Hlen.out hkk)
        clear hkk
        go_wp2
        go_ret
        exact ⟨ret_bool (decide_eq_true Heq.out).symm, n, rfl⟩
  · have hne : la ≠ lb := fun h => hlen (by rw [h])
    rw [decide_eq_false hne]
    obtain rfl := e
    have hd : ((la.length : Int) == (lb.length : Int)) = false := beq_eq_false_iff_ne.2 (by omega)
    clear hne hlen
    go_enter Tryz.func60, Tryz.ntmps60
    go_wp2
    go_ret
    exact ⟨rfl, 0, rfl⟩

set_option maxHeartbeats 1000000 in
theorem eqHaz_any (va vb : Value) (la lb : List HazD) (w : World) {P Q : Nat → Prop} (ha : Sl hc 5 w va la P) (hb : Sl hc 5 w vb lb Q) (h1 : la.length ≤ 1048576) :
    Calls Tryz.prog 61 #[va, vb] w (Quiet (.bool (decide (la = lb))) w) := by
  obtain ⟨A, capa, rfl, ha1, ha2⟩ := ha.shape
  obtain ⟨B, capb, e, hb1, hb2⟩ := hb.shape
  by_cases hlen : la.length = lb.length
  · rw [← hlen] at e hb1
    subst e
    go_enter Tryz.func61, Tryz.ntmps61
    have Hlen := Lib.hid hlen
    clear hlen
    go_wp2
    go_loopw [13] (fun s wr => SameRel la lb w s wr) (fun s _ => la.length - (intOf s).toNat)
    case atStart => exact ⟨0, 0, Nat.zero_le _, rfl, rfl, rfl⟩
    case round =>
      obtain ⟨k, n, hk, rfl, hkk, rfl⟩ := hrel
      by_cases hlt : k < la.length
      · have hlt2 : k < lb.length := by rw [← Hlen.out]; exact hlt
        obtain ⟨b1, o1, c1, e1, _, _, hl1, _, hx⟩ := ha.at_ hlt
        obtain ⟨b2, o2, c2, e2, _, _, hl2, _, hy⟩ := hb.at_ hlt2
        injection e1 with e1 e1' e1''
        injection e2 with e2 e2' e2''
        subst e1 e2
        obtain ⟨x, Hx⟩ : ∃ x, Hid (la[k] = x) := ⟨_, Lib.hid rfl⟩
        obtain ⟨y, Hy⟩ : ∃ y, Hid (lb[k] = y) := ⟨_, Lib.hid rfl⟩
        rw [Hx.out] at hx
        rw [Hy.out] at hy
        have hx0 : w.cell? ⟨b1, o1 + k * 5, none⟩ = some (.string (ba x.name)) := by simpa using hx 0 _ rfl
        have hx1 : w.cell? ⟨b1, o1 + k * 5 + 1, none⟩ = some (.string (ba x.on)) := by simpa using hx 1 _ rfl
        have hx2 : w.cell? ⟨b1, o1 + k * 5 + 2, none⟩ = some (.int .i64 x.times.start) := by simpa using hx 2 _ rfl
        have hx3 : w.cell? ⟨b1, o1 + k * 5 + 3, none⟩ = some (.int .i64 x.times.every) := by simpa using hx 3 _ rfl
        have hx4 : w.cell? ⟨b1, o1 + k * 5 + 4, none⟩ = some (.int .i64 x.times.len) := by simpa using hx 4 _ rfl
        have hy0 : w.cell? ⟨b2, o2 + k * 5, none⟩ = some (.string (ba y.name)) := by simpa using hy 0 _ rfl
        have hy1 : w.cell? ⟨b2, o2 + k * 5 + 1, none⟩ = some (.string (ba y.on)) := by simpa using hy 1 _ rfl
        have hy2 : w.cell? ⟨b2, o2 + k * 5 + 2, none⟩ = some (.int .i64 y.times.start) := by simpa using hy 2 _ rfl
        have hy3 : w.cell? ⟨b2, o2 + k * 5 + 3, none⟩ = some (.int .i64 y.times.every) := by simpa using hy 3 _ rfl
        have hy4 : w.cell? ⟨b2, o2 + k * 5 + 4, none⟩ = some (.int .i64 y.times.len) := by simpa using hy 4 _ rfl
        have Hkk := Lib.hid hkk
        clear hkk hx hy e1' e1'' e2' e2''
        have q1 : (0 : Int) ≤ (k : Int) := by omega
        have q2 : (k : Int) < (la.length : Int) := by omega
        have hne := neqHaz x y
        by_cases hxy : x = y
        · rw [decide_eq_true hxy] at hne
          have Hxy := Lib.hid hxy
          clear hxy
          go_wp2
          go_quiet (fail)
          go_wp2
          go_roundw
          case rel => exact ⟨k + 1, _, by omega, by go_num, same_step hlt hlt2 Hkk.out (by rw [Hx.out, Hy.out]; exact Hxy.out), by first | rfl | exact World.drewN_drewN _ _ _⟩
          case measure => simp [intOf]; omega
        · rw [decide_eq_false hxy] at hne
          have hun := same_ne hlt hlt2 (by rw [Hx.out, Hy.out]; exact hxy)
          have Hun := Lib.hid hun
          clear hun hxy
          go_wp2
          go_quiet (fail)
          go_wp2
          go_ret
          exact ⟨ret_bool (decide_eq_false Hun.out).symm, _, by first | rfl | exact World.drewN_drewN _ _ _⟩
      · have hkl : k = la.length := by omega
        subst hkl
        have Heq := Lib.hid (same_eq Hlen.out hkk)
        clear hkk
        go_wp2
        go_ret
        exact ⟨ret_bool (decide_eq_true Heq.out).symm, n, rfl⟩
  · have hne : la ≠ lb := fun h => hlen (by rw [h])
    rw [decide_eq_false hne]
    obtain rfl := e
    have hd : ((la.length : Int) == (lb.length : Int)) = false := beq_eq_false_iff_ne.2 (by omega)
    clear hne hlen
    go_enter Tryz.func61, Tryz.ntmps61
    go_wp2
    go_ret
    exact ⟨rfl, 0, rfl⟩

set_option maxHeartbeats 1000000 in
theorem eqInt_any (va vb : Value) (la lb : List Int) (w : World) {P Q : Nat → Prop} (ha : Sl ic 1 w va la P) (hb : Sl ic 1 w vb lb Q) (h1 : la.length ≤ 1048576) :
    Calls Tryz.prog 56 #[va, vb] w (Quiet (.bool (decide (la = lb))) w) := by
  obtain ⟨A, capa, rfl, ha1, ha2⟩ := ha.shape
  obtain ⟨B, capb, e, hb1, hb2⟩ := hb.shape
  by_cases hlen : la.length = lb.length
  · rw [← hlen] at e hb1
    subst e
    go_enter Tryz.func56, Tryz.ntmps56
    have Hlen := Lib.hid hlen
    clear hlen
    go_wp2
    go_loopw [13] (fun s wr => SameRel la lb w s wr) (fun s _ => la.length - (intOf s).toNat)
    case atStart => exact ⟨0, 0, Nat.zero_le _, rfl, rfl, rfl⟩
    case round =>
      obtain ⟨k, n, hk, rfl, hkk, rfl⟩ := hrel
      by_cases hlt : k < la.length
      · have hlt2 : k < lb.length := by rw [← Hlen.out]; exact hlt
        obtain ⟨b1, o1, c1, e1, _, _, hl1, _, hx⟩ := ha.at_ hlt
        obtain ⟨b2, o2, c2, e2, _, _, hl2, _, hy⟩ := hb.at_ hlt2
        injection e1 with e1 e1' e1''
        injection e2 with e2 e2' e2''
        subst e1 e2
        obtain ⟨x, Hx⟩ : ∃ x, Hid (la[k] = x) := ⟨_, Lib.hid rfl⟩
        obtain ⟨y, Hy⟩ : ∃ y, Hid (lb[k] = y) := ⟨_, Lib.hid rfl⟩
        rw [Hx.out] at hx
        rw [Hy.out] at hy
        have hx0 : w.cell? ⟨b1, o1 + k, none⟩ = some (.int .i64 x) := by simpa using hx 0 _ rfl
        have hy0 : w.cell? ⟨b2, o2 + k, none⟩ = some (.int .i64 y) := by simpa using hy 0 _ rfl
        have Hkk := Lib.hid hkk
        clear hkk hx hy e1' e1'' e2' e2''
        have q1 : (0 : Int) ≤ (k : Int) := by omega
        have q2 : (k : Int) < (la.length : Int) := by omega
        by_cases hxy : x = y
        · have hb0 : (x == y) = true := by rw [hxy, beq_self_eq_true]
          have hb1 : (x != y) = false := by rw [bne, hb0]; rfl
          have Hxy := Lib.hid hxy
          clear hxy
          go_wp2
          go_quiet (fail)
          go_wp2
          go_roundw
          case rel => exact ⟨k + 1, _, by omega, by go_num, same_step hlt hlt2 Hkk.out (by rw [Hx.out, Hy.out]; exact Hxy.out), by first | rfl | exact World.drewN_drewN _ _ _⟩
          case measure => simp [intOf]; omega
        · have hb0 : (x == y) = false := beq_eq_false_iff_ne.2 hxy
          have hb1 : (x != y) = true := by rw [bne, hb0]; rfl
          have hne := same_ne hlt hlt2 (by rw [Hx.out, Hy.out]; exact hxy)
          have Hne := Lib.hid hne
          clear hne hxy
          go_wp2
          go_quiet (fail)
          go_wp2
          go_ret
          exact ⟨ret_bool (decide_eq_false Hne.out).symm, _, by first | rfl | exact World.drewN_drewN _ _ _⟩
      · have hkl : k = la.length := by omega
        subst hkl
        have Heq := Lib.hid (same_eq Hlen.out hkk)
        clear hkk
        go_wp2
        go_ret
        exact ⟨ret_bool (decide_eq_true Heq.out).symm, n, rfl⟩
  · have hne : la ≠ lb := fun h => hlen (by rw [h])
    rw [decide_eq_false hne]
    obtain rfl := e
    have hd : ((la.length : Int) == (lb.length : Int)) = false := beq_eq_false_iff_ne.2 (by omega)
    clear hne hlen
    go_enter Tryz.func56, Tryz.ntmps56
    go_wp2
    go_ret
    exact ⟨rfl, 0, rfl⟩

end Go.Proofs.YteonefgbdphmiaaGreatDoor
/- timetablekit.Route and Sheet: are they the same? Printed by wip/bin/genqt.py. -/
namespace Go.Proofs.YteonefgbdphmiaaGreatDoor
open Go.RowKit

set_option maxHeartbeats 4000000 in
set_option maxRecDepth 100000 in
theorem eqR_any (a b : RouteM) (w : World) {P Q : Nat → Prop} (ha : a.Good w P) (hb : b.Good w Q) (hs : a.Small) :
    Calls Tryz.prog 54 #[a.v, b.v] w fun e w' => e = .returned (.bool (decide (a.d = b.d))) ∧ Below w.heap.size w w' := by
  obtain ⟨w1, hw1⟩ : ∃ w1, (w.alloc (.cells #[.string (ba a.name), a.vs, a.vr, a.vy] 57)).alloc (.cells #[.string (ba b.name), b.vs, b.vr, b.vy] 57) = w1 := ⟨_, rfl⟩
  have hb1 : Below w.heap.size w w1 := by rw [← hw1]; exact ((Below.refl _ _).alloc (Nat.le_refl _) _).alloc (by simp) _
  have hz1 : w1.heap.size = w.heap.size + 2 := by rw [← hw1]; simp
  have hA : w1.heap[w.heap.size]? = some (.cells #[.string (ba a.name), a.vs, a.vr, a.vy] 57 (0, 0)) := by rw [← hw1, Below.heap_alloc _ _ _ (by simp)]; exact heap_alloc_new _ _
  have hB : w1.heap[w.heap.size + 1]? = some (.cells #[.string (ba b.name), b.vs, b.vr, b.vy] 57 (0, 0)) := by
    rw [← hw1]
    have h := heap_alloc_new (w.alloc (.cells #[.string (ba a.name), a.vs, a.vr, a.vy] 57)) (.cells #[.string (ba b.name), b.vs, b.vr, b.vy] 57)
    rw [show (w.alloc (.cells #[.string (ba a.name), a.vs, a.vr, a.vy] 57)).heap.size = w.heap.size + 1 by simp] at h
    exact h
  have HBF := Lib.hid (fun (wy : World) (h : Below w1.heap.size w1 wy) => (show Below w.heap.size w wy from hb1.trans (h.mono hb1.size)))
  have H1 := Lib.hid (fun (wy : World) (h : Below w1.heap.size w1 wy) => eqStr_any a.vs b.vs a.stops b.stops wy (ha.below_ (HBF.out wy h |>.mono (Nat.le_refl _))).stops (hb.below_ (HBF.out wy h)).stops hs.st)
  have H2 := Lib.hid (fun (wy : World) (h : Below w1.heap.size w1 wy) => eqInt_any a.vr b.vr a.rides b.rides wy (ha.below_ (HBF.out wy h)).rides (hb.below_ (HBF.out wy h)).rides hs.ri)
  have H3 := Lib.hid (fun (wy : World) (h : Below w1.heap.size w1 wy) => eqInt_any a.vy b.vy a.stays b.stays wy (ha.below_ (HBF.out wy h)).stays (hb.below_ (HBF.out wy h)).stays hs.sy)
  obtain ⟨A1, p1, e1, _, _⟩ := ha.stops.shape
  obtain ⟨A2, p2, e2, _, _⟩ := ha.rides.shape
  obtain ⟨A3, p3, e3, _, _⟩ := ha.stays.shape
  obtain ⟨B1, q1, f1, _, _⟩ := hb.stops.shape
  obtain ⟨B2, q2, f2, _, _⟩ := hb.rides.shape
  obtain ⟨B3, q3, f3, _, _⟩ := hb.stays.shape
  have EL := Lib.hid (show decide (a.d = b.d) = ((((ba a.name).toList == (ba b.name).toList) && decide (a.stops = b.stops)) && decide (a.rides = b.rides) && decide (a.stays = b.stays)) by
    rw [ba_toList, ba_toList, Bool.eq_iff_iff]
    simp [RouteM.d, and_assoc])
  rw [e1, f1] at H1
  rw [e2, f2] at H2
  rw [e3, f3] at H3
  rw [e1, e2, e3] at hw1 hA
  rw [f1, f2, f3] at hw1 hB
  unfold RouteM.v
  rw [e1, e2, e3, f1, f2, f3]
  have CE := Lib.hid (fun (wy : World) (hy : Below w1.heap.size w1 wy) => (show wy.cell? ⟨w.heap.size, 0, none⟩ = some (.string (ba a.name)) ∧ wy.cell? ⟨w.heap.size, 1, none⟩ = some (.slice A1 a.stops.length p1) ∧ wy.cell? ⟨w.heap.size, 2, none⟩ = some (.slice A2 a.rides.length p2) ∧ wy.cell? ⟨w.heap.size, 3, none⟩ = some (.slice A3 a.stays.length p3) ∧ wy.cell? ⟨w.heap.size + 1, 0, none⟩ = some (.string (ba b.name)) ∧ wy.cell? ⟨w.heap.size + 1, 1, none⟩ = some (.slice B1 b.stops.length q1) ∧ wy.cell? ⟨w.heap.size + 1, 2, none⟩ = some (.slice B2 b.rides.length q2) ∧ wy.cell? ⟨w.heap.size + 1, 3, none⟩ = some (.slice B3 b.stays.length q3) from
    ⟨(hy.cell (p := ⟨w.heap.size, 0, none⟩) (by show w.heap.size < _; omega)).trans (Lib.cell_of_heap hA 0), (hy.cell (p := ⟨w.heap.size, 1, none⟩) (by show w.heap.size < _; omega)).trans (Lib.cell_of_heap hA 1), (hy.cell (p := ⟨w.heap.size, 2, none⟩) (by show w.heap.size < _; omega)).trans (Lib.cell_of_heap hA 2), (hy.cell (p := ⟨w.heap.size, 3, none⟩) (by show w.heap.size < _; omega)).trans (Lib.cell_of_heap hA 3), (hy.cell (p := ⟨w.heap.size + 1, 0, none⟩) (by show w.heap.size + 1 < _; omega)).trans (Lib.cell_of_heap hB 0), (hy.cell (p := ⟨w.heap.size + 1, 1, none⟩) (by show w.heap.size + 1 < _; omega)).trans (Lib.cell_of_heap hB 1), (hy.cell (p := ⟨w.heap.size + 1, 2, none⟩) (by show w.heap.size + 1 < _; omega)).trans (Lib.cell_of_heap hB 2), (hy.cell (p := ⟨w.heap.size + 1, 3, none⟩) (by show w.heap.size + 1 < _; omega)).trans (Lib.cell_of_heap hB 3)⟩))
  have HW1 := Lib.hid hw1
  clear hb1 hz1 hA hB hw1 e1 e2 e3 f1 f2 f3 ha hb hs
  generalize decide (a.stops = b.stops) = c1 at *
  generalize decide (a.rides = b.rides) = c2 at *
  generalize decide (a.stays = b.stays) = c3 at *
  obtain ⟨c0, h0⟩ : ∃ c, ((ba a.name).toList == (ba b.name).toList) = c := ⟨_, rfl⟩
  rw [h0] at EL
  go_enter Tryz.func54, Tryz.ntmps54
  go_upto_region 1 with fail
  rw [HW1.out]
  clear HW1
  obtain ⟨x0, x1, x2, x3, y0, y1, y2, y3⟩ := CE.out w1 (Below.refl _ _)
  cases c0
  · go_wp2_with fail
    go_ret
    exact ⟨ret_bool (by rw [EL.out]; simp), HBF.out _ (Below.refl _ _)⟩
  go_wp2_with fail
  refine (H1.out w1 (Below.refl w1.heap.size w1)).mono ?_
  intro e w3 hq0
  obtain ⟨rfl, hq⟩ := quiet_below hq0
  have HBw3 := Lib.hid ((Below.refl w1.heap.size w1).trans (hq.mono ((Below.refl w1.heap.size w1)).size))
  clear hq hq0 x0 x1 x2 x3 y0 y1 y2 y3
  obtain ⟨x0, x1, x2, x3, y0, y1, y2, y3⟩ := CE.out w3 HBw3.out
  cases c1
  · go_wp2_with fail
    go_ret
    exact ⟨ret_bool (by rw [EL.out]; simp), HBF.out _ HBw3.out⟩
  go_wp2_with fail
  refine (H2.out w3 HBw3.out).mono ?_
  intro e w4 hq0
  obtain ⟨rfl, hq⟩ := quiet_below hq0
  have HBw4 := Lib.hid (HBw3.out.trans (hq.mono (HBw3.out).size))
  clear hq hq0 x0 x1 x2 x3 y0 y1 y2 y3
  obtain ⟨x0, x1, x2, x3, y0, y1, y2, y3⟩ := CE.out w4 HBw4.out
  cases c2
  · go_wp2_with fail
    go_ret
    exact ⟨ret_bool (by rw [EL.out]; simp), HBF.out _ HBw4.out⟩
  go_wp2_with fail
  refine (H3.out w4 HBw4.out).mono ?_
  intro e w5 hq0
  obtain ⟨rfl, hq⟩ := quiet_below hq0
  have HBw5 := Lib.hid (HBw4.out.trans (hq.mono (HBw4.out).size))
  clear hq hq0 x0 x1 x2 x3 y0 y1 y2 y3
  obtain ⟨x0, x1, x2, x3, y0, y1, y2, y3⟩ := CE.out w5 HBw5.out
  cases c3
  · go_wp2_with fail
    go_ret
    exact ⟨ret_bool (by rw [EL.out]; simp), HBF.out _ HBw5.out⟩
  go_wp2_with fail
  go_ret
  exact ⟨ret_bool (by rw [EL.out]; simp), HBF.out _ HBw5.out⟩


theorem map_step {la lb : List RouteM} {k : Nat} (h1 : k < la.length) (h2 : k < lb.length) (h : (la.take k).map RouteM.d = (lb.take k).map RouteM.d) (hx : la[k].d = lb[k].d) : (la.take (k + 1)).map RouteM.d = (lb.take (k + 1)).map RouteM.d := by
  rw [take_succ_eq la k h1, take_succ_eq lb k h2, List.map_append, List.map_append, h, List.map_cons, List.map_cons, hx]
theorem map_ne {la lb : List RouteM} {k : Nat} (h1 : k < la.length) (h2 : k < lb.length) (hx : la[k].d ≠ lb[k].d) : la.map RouteM.d ≠ lb.map RouteM.d := fun h => hx (by
  have h3 := congrArg (fun l => l[k]?) h
  simp only [List.getElem?_map, List.getElem?_eq_getElem h1, List.getElem?_eq_getElem h2, Option.map_some] at h3
  exact Option.some.inj h3)
set_option maxHeartbeats 4000000 in
set_option maxRecDepth 100000 in
theorem eqRs_any (va vb : Value) (la lb : List RouteM) (w : World) {P Q : Nat → Prop} (ha : Sl rc 4 w va la P) (hb : Sl rc 4 w vb lb Q) (ga : ∀ r ∈ la, r.Good w P) (gb : ∀ r ∈ lb, r.Good w Q) (h1 : la.length ≤ 1048576) (hs : ∀ r ∈ la, r.Small) :
    Calls Tryz.prog 59 #[va, vb, .func (.func 54) #[] #[]] w fun e w' => e = .returned (.bool (decide (la.map RouteM.d = lb.map RouteM.d))) ∧ Below w.heap.size w w' := by
  obtain ⟨A, capa, rfl, ha1, ha2⟩ := ha.shape
  obtain ⟨B, capb, e, hb1, hb2⟩ := hb.shape
  by_cases hlen : la.length = lb.length
  · rw [← hlen] at e hb1
    subst e
    have HGA := Lib.hid ga
    have HGB := Lib.hid gb
    have HSM := Lib.hid hs
    have Hlen := Lib.hid hlen
    clear hlen ga gb hs
    go_enter Tryz.func59, Tryz.ntmps59
    go_wp2
    go_loopg [17] la.length (fun gg s wr => ∃ k : Nat, k ≤ la.length ∧ la.length - k ≤ gg ∧ s = .int .i64 k ∧ Hid ((la.take k).map RouteM.d = (lb.take k).map RouteM.d ∧ Below w.heap.size w wr))
    case atStart => exact ⟨0, Nat.zero_le _, Nat.le_refl _, rfl, Lib.hid ⟨rfl, Below.refl _ _⟩⟩
    case round =>
      obtain ⟨k, hk, hgg, rfl, hkk⟩ := hrel
      by_cases hlt : k < la.length
      · have hlt2 : k < lb.length := by rw [← Hlen.out]; exact hlt
        obtain ⟨b1, o1, c1, e1, _, _, hl1, _, hx⟩ := ha.at_ hlt
        obtain ⟨b2, o2, c2, e2, _, _, hl2, _, hy⟩ := hb.at_ hlt2
        injection e1 with e1 e1' e1''
        injection e2 with e2 e2' e2''
        subst e1 e2
        have hgx := HGA.out la[k] (List.getElem_mem hlt)
        have hgy := HGB.out lb[k] (List.getElem_mem hlt2)
        have hsx := HSM.out la[k] (List.getElem_mem hlt)
        obtain ⟨x, hxe⟩ : ∃ x, la[k] = x := ⟨_, rfl⟩
        obtain ⟨y, hye⟩ : ∃ y, lb[k] = y := ⟨_, rfl⟩
        rw [hxe] at hx hgx hsx
        rw [hye] at hy hgy
        have Hx := Lib.hid hxe
        have Hy := Lib.hid hye
        obtain ⟨X1, p1, f1, _, _⟩ := hgx.stops.shape
        obtain ⟨X2, p2, f2, _, _⟩ := hgx.rides.shape
        obtain ⟨X3, p3, f3, _, _⟩ := hgx.stays.shape
        obtain ⟨Y1, q1, g1, _, _⟩ := hgy.stops.shape
        obtain ⟨Y2, q2, g2, _, _⟩ := hgy.rides.shape
        obtain ⟨Y3, q3, g3, _, _⟩ := hgy.stays.shape
        have HRX := Lib.hid (show x.v = .agg #[.string (ba x.name), .slice X1 x.stops.length p1, .slice X2 x.rides.length p2, .slice X3 x.stays.length p3] by unfold RouteM.v; rw [f1, f2, f3])
        have HRY := Lib.hid (show y.v = .agg #[.string (ba y.name), .slice Y1 y.stops.length q1, .slice Y2 y.rides.length q2, .slice Y3 y.stays.length q3] by unfold RouteM.v; rw [g1, g2, g3])
        have CXY := Lib.hid (fun (wy : World) (h : Below w.heap.size w wy) => (show wy.cell? ⟨b1, o1 + k * 4, none⟩ = some (.string (ba x.name)) ∧ wy.cell? ⟨b1, o1 + k * 4 + 1, none⟩ = some (.slice X1 x.stops.length p1) ∧ wy.cell? ⟨b1, o1 + k * 4 + 2, none⟩ = some (.slice X2 x.rides.length p2) ∧ wy.cell? ⟨b1, o1 + k * 4 + 3, none⟩ = some (.slice X3 x.stays.length p3) ∧ wy.cell? ⟨b2, o2 + k * 4, none⟩ = some (.string (ba y.name)) ∧ wy.cell? ⟨b2, o2 + k * 4 + 1, none⟩ = some (.slice Y1 y.stops.length q1) ∧ wy.cell? ⟨b2, o2 + k * 4 + 2, none⟩ = some (.slice Y2 y.rides.length q2) ∧ wy.cell? ⟨b2, o2 + k * 4 + 3, none⟩ = some (.slice Y3 y.stays.length q3) from
          ⟨(h.cell (p := ⟨b1, o1 + k * 4, none⟩) hl1).trans (by simpa using hx 0 _ rfl), (h.cell (p := ⟨b1, o1 + k * 4 + 1, none⟩) hl1).trans (by rw [← f1]; simpa using hx 1 _ rfl), (h.cell (p := ⟨b1, o1 + k * 4 + 2, none⟩) hl1).trans (by rw [← f2]; simpa using hx 2 _ rfl), (h.cell (p := ⟨b1, o1 + k * 4 + 3, none⟩) hl1).trans (by rw [← f3]; simpa using hx 3 _ rfl), (h.cell (p := ⟨b2, o2 + k * 4, none⟩) hl2).trans (by simpa using hy 0 _ rfl), (h.cell (p := ⟨b2, o2 + k * 4 + 1, none⟩) hl2).trans (by rw [← g1]; simpa using hy 1 _ rfl), (h.cell (p := ⟨b2, o2 + k * 4 + 2, none⟩) hl2).trans (by rw [← g2]; simpa using hy 2 _ rfl), (h.cell (p := ⟨b2, o2 + k * 4 + 3, none⟩) hl2).trans (by rw [← g3]; simpa using hy 3 _ rfl)⟩))
        have HC := Lib.hid (fun (wy : World) (h : Below w.heap.size w wy) => eqR_any x y wy (hgx.below_ h) (hgy.below_ h) hsx)
        have q0 : (0 : Int) ≤ (k : Int) := by omega
        have qk : (k : Int) < (la.length : Int) := by omega
        rw [HRX.out, HRY.out] at HC
        clear hx hy hgx hgy hsx f1 f2 f3 g1 g2 g3 e1' e1'' e2' e2'' hl1 hl2 hxe hye HRX HRY
        obtain ⟨x0, x1, x2, x3, y0, y1, y2, y3⟩ := CXY.out wr hkk.out.2
        go_upto_region 6 with fail
        obtain ⟨wa, hwa⟩ : ∃ wa, wr.alloc (.cells #[.string (ba x.name), .slice X1 x.stops.length p1, .slice X2 x.rides.length p2, .slice X3 x.stays.length p3] 57) = wa := ⟨_, rfl⟩
        have NA := Lib.hid (show Below wr.heap.size wr wa by rw [← hwa]; exact (Below.refl _ _).alloc (Nat.le_refl _) _)
        have HA := Lib.hid (show wa.heap[wr.heap.size]? = some (.cells #[.string (ba x.name), .slice X1 x.stops.length p1, .slice X2 x.rides.length p2, .slice X3 x.stays.length p3] 57 (0, 0)) by rw [← hwa]; exact heap_alloc_new _ _)
        have HNA := Lib.hid (hkk.out.2.trans (NA.out.mono hkk.out.2.size))
        try rw [hwa]
        clear hwa x0 x1 x2 x3 y0 y1 y2 y3
        obtain ⟨x0, x1, x2, x3, y0, y1, y2, y3⟩ := CXY.out wa HNA.out
        go_upto_region 7 with fail
        obtain ⟨wb, hwb⟩ : ∃ wb, wa.alloc (.cells #[.string (ba y.name), .slice Y1 y.stops.length q1, .slice Y2 y.rides.length q2, .slice Y3 y.stays.length q3] 57) = wb := ⟨_, rfl⟩
        have NB := Lib.hid (show Below wa.heap.size wa wb by rw [← hwb]; exact (Below.refl _ _).alloc (Nat.le_refl _) _)
        have hA := (NB.out.block wr.heap.size (Array.getElem?_eq_some_iff.1 HA.out).1).trans HA.out
        have hB : wb.heap[wa.heap.size]? = some (.cells #[.string (ba y.name), .slice Y1 y.stops.length q1, .slice Y2 y.rides.length q2, .slice Y3 y.stays.length q3] 57 (0, 0)) := by rw [← hwb]; exact heap_alloc_new _ _
        have HNB := Lib.hid (HNA.out.trans (NB.out.mono HNA.out.size))
        try rw [hwb]
        clear hwb x0 x1 x2 x3 y0 y1 y2 y3
        have x0 : wb.cell? ⟨wr.heap.size, 0, none⟩ = some (.string (ba x.name)) := Lib.cell_of_heap hA 0
        have x1 : wb.cell? ⟨wr.heap.size, 1, none⟩ = some (.slice X1 x.stops.length p1) := Lib.cell_of_heap hA 1
        have x2 : wb.cell? ⟨wr.heap.size, 2, none⟩ = some (.slice X2 x.rides.length p2) := Lib.cell_of_heap hA 2
        have x3 : wb.cell? ⟨wr.heap.size, 3, none⟩ = some (.slice X3 x.stays.length p3) := Lib.cell_of_heap hA 3
        have y0 : wb.cell? ⟨wa.heap.size, 0, none⟩ = some (.string (ba y.name)) := Lib.cell_of_heap hB 0
        have y1 : wb.cell? ⟨wa.heap.size, 1, none⟩ = some (.slice Y1 y.stops.length q1) := Lib.cell_of_heap hB 1
        have y2 : wb.cell? ⟨wa.heap.size, 2, none⟩ = some (.slice Y2 y.rides.length q2) := Lib.cell_of_heap hB 2
        have y3 : wb.cell? ⟨wa.heap.size, 3, none⟩ = some (.slice Y3 y.stays.length q3) := Lib.cell_of_heap hB 3
        clear hA hB
        go_wp2_with fail
        refine (HC.out wb HNB.out).mono ?_
        rintro e w5 ⟨rfl, hbb⟩
        have HN5 := Lib.hid (HNB.out.trans (hbb.mono HNB.out.size))
        clear hbb HC x0 x1 x2 x3 y0 y1 y2 y3
        by_cases hxy : x.d = y.d
        · rw [decide_eq_true hxy]
          have HK := Lib.hid (show (la.take (k + 1)).map RouteM.d = (lb.take (k + 1)).map RouteM.d ∧ Below w.heap.size w w5 from ⟨map_step hlt hlt2 hkk.out.1 (by rw [Hx.out, Hy.out]; exact hxy), HN5.out⟩)
          clear hxy
          go_wp2_with fail
          go_roundg (la.length - (k + 1))
          case measure => omega
          case rel => exact ⟨k + 1, by omega, Nat.le_refl _, by go_num, HK⟩
        · rw [decide_eq_false hxy]
          have HNE := Lib.hid (map_ne hlt hlt2 (by rw [Hx.out, Hy.out]; exact hxy))
          clear hxy
          go_wp2_with fail
          go_ret
          exact ⟨ret_bool (decide_eq_false HNE.out).symm, HN5.out⟩
      · have hkl : k = la.length := by omega
        subst hkl
        have HEQ := Lib.hid (show la.map RouteM.d = lb.map RouteM.d by
          have h := hkk.out.1
          rw [List.take_length, Hlen.out, List.take_length] at h
          exact h)
        go_wp2_with fail
        go_ret
        exact ⟨ret_bool (decide_eq_true HEQ.out).symm, hkk.out.2⟩
  · have hne : la.map RouteM.d ≠ lb.map RouteM.d := fun h => hlen (by have := congrArg List.length h; rwa [List.length_map, List.length_map] at this)
    rw [decide_eq_false hne]
    obtain rfl := e
    have hd : ((la.length : Int) == (lb.length : Int)) = false := beq_eq_false_iff_ne.2 (by omega)
    clear hne hlen
    go_enter Tryz.func59, Tryz.ntmps59
    go_wp2
    go_ret
    exact ⟨rfl, Below.refl _ _⟩
set_option maxHeartbeats 8000000 in
set_option maxRecDepth 100000 in
theorem ssame_any (a b : SheetM) (w : World) {P Q : Nat → Prop} (ha : a.Good w P) (hb : b.Good w Q) (hs : a.Small) :
    Calls Tryz.prog 21 #[a.v, b.v] w fun e w' => e = .returned (.bool (decide (a.d = b.d))) ∧ Below w.heap.size w w' := by
  obtain ⟨As, cs, Ap, cp, Ad, cd, Ar, cr, At, ct, Ah, ch, es, ep, ed, er, et, eh⟩ := SheetAt.forms ha
  obtain ⟨Bs, ds, Bp, dp, Bd, dd, Br, dr, Bt, dt, Bh, dh, fs, fp, fd, fr, ft, fh⟩ := SheetAt.forms hb
  obtain ⟨w1, hw1⟩ : ∃ w1, (w.alloc (.cells #[.int .i64 a.hor, .slice As a.stops.length cs, .slice Ap a.paths.length cp, .slice Ad a.doors.length cd, .slice Ar a.routes.length cr, .slice At a.trips.length ct, .slice Ah a.hazs.length ch] 29)).alloc (.cells #[.int .i64 b.hor, .slice Bs b.stops.length ds, .slice Bp b.paths.length dp, .slice Bd b.doors.length dd, .slice Br b.routes.length dr, .slice Bt b.trips.length dt, .slice Bh b.hazs.length dh] 29) = w1 := ⟨_, rfl⟩
  have hb1 : Below w.heap.size w w1 := by rw [← hw1]; exact ((Below.refl _ _).alloc (Nat.le_refl _) _).alloc (by simp) _
  have hz1 : w1.heap.size = w.heap.size + 2 := by rw [← hw1]; simp
  have hA : w1.heap[w.heap.size]? = some (.cells #[.int .i64 a.hor, .slice As a.stops.length cs, .slice Ap a.paths.length cp, .slice Ad a.doors.length cd, .slice Ar a.routes.length cr, .slice At a.trips.length ct, .slice Ah a.hazs.length ch] 29 (0, 0)) := by rw [← hw1, Below.heap_alloc _ _ _ (by simp)]; exact heap_alloc_new _ _
  have hB : w1.heap[w.heap.size + 1]? = some (.cells #[.int .i64 b.hor, .slice Bs b.stops.length ds, .slice Bp b.paths.length dp, .slice Bd b.doors.length dd, .slice Br b.routes.length dr, .slice Bt b.trips.length dt, .slice Bh b.hazs.length dh] 29 (0, 0)) := by
    rw [← hw1]
    have h := heap_alloc_new (w.alloc (.cells #[.int .i64 a.hor, .slice As a.stops.length cs, .slice Ap a.paths.length cp, .slice Ad a.doors.length cd, .slice Ar a.routes.length cr, .slice At a.trips.length ct, .slice Ah a.hazs.length ch] 29)) (.cells #[.int .i64 b.hor, .slice Bs b.stops.length ds, .slice Bp b.paths.length dp, .slice Bd b.doors.length dd, .slice Br b.routes.length dr, .slice Bt b.trips.length dt, .slice Bh b.hazs.length dh] 29)
    rw [show (w.alloc (.cells #[.int .i64 a.hor, .slice As a.stops.length cs, .slice Ap a.paths.length cp, .slice Ad a.doors.length cd, .slice Ar a.routes.length cr, .slice At a.trips.length ct, .slice Ah a.hazs.length ch] 29)).heap.size = w.heap.size + 1 by simp] at h
    exact h
  have HBF := Lib.hid (fun (wy : World) (h : Below w1.heap.size w1 wy) => (show Below w.heap.size w wy from hb1.trans (h.mono hb1.size)))
  have Hs := Lib.hid (fun (wy : World) (h : Below w1.heap.size w1 wy) => eqStr_any a.vs b.vs a.stops b.stops wy (ha.below_ (HBF.out wy h)).stops (hb.below_ (HBF.out wy h)).stops hs.st)
  rw [es, fs] at Hs
  have Hp := Lib.hid (fun (wy : World) (h : Below w1.heap.size w1 wy) => eqPath_any a.vp b.vp a.paths b.paths wy (ha.below_ (HBF.out wy h)).paths (hb.below_ (HBF.out wy h)).paths hs.pa)
  rw [ep, fp] at Hp
  have Hd := Lib.hid (fun (wy : World) (h : Below w1.heap.size w1 wy) => eqDoor_any a.vd b.vd a.doors b.doors wy (ha.below_ (HBF.out wy h)).doors (hb.below_ (HBF.out wy h)).doors hs.dr)
  rw [ed, fd] at Hd
  have Hr := Lib.hid (fun (wy : World) (h : Below w1.heap.size w1 wy) => eqRs_any a.vr b.vr a.routes b.routes wy (ha.below_ (HBF.out wy h)).routes (hb.below_ (HBF.out wy h)).routes (ha.below_ (HBF.out wy h)).each (hb.below_ (HBF.out wy h)).each hs.ro hs.each)
  rw [er, fr] at Hr
  have Ht := Lib.hid (fun (wy : World) (h : Below w1.heap.size w1 wy) => eqTrip_any a.vt b.vt a.trips b.trips wy (ha.below_ (HBF.out wy h)).trips (hb.below_ (HBF.out wy h)).trips hs.tr)
  rw [et, ft] at Ht
  have Hh := Lib.hid (fun (wy : World) (h : Below w1.heap.size w1 wy) => eqHaz_any a.vh b.vh a.hazs b.hazs wy (ha.below_ (HBF.out wy h)).hazs (hb.below_ (HBF.out wy h)).hazs hs.hz)
  rw [eh, fh] at Hh
  have EL := Lib.hid (show decide (a.d = b.d) = ((((((a.hor == b.hor) && decide (a.stops = b.stops)) && decide (a.paths = b.paths)) && decide (a.doors = b.doors)) && decide (a.routes.map RouteM.d = b.routes.map RouteM.d)) && decide (a.trips = b.trips) && decide (a.hazs = b.hazs)) by
    rw [Bool.eq_iff_iff]
    simp [SheetM.d, and_assoc])
  unfold SheetM.v
  rw [es, ep, ed, er, et, eh, fs, fp, fd, fr, ft, fh]
  have CE := Lib.hid (fun (wy : World) (hy : Below w1.heap.size w1 wy) => (show wy.cell? ⟨w.heap.size, 0, none⟩ = some (.int .i64 a.hor) ∧ wy.cell? ⟨w.heap.size, 1, none⟩ = some (.slice As a.stops.length cs) ∧ wy.cell? ⟨w.heap.size, 2, none⟩ = some (.slice Ap a.paths.length cp) ∧ wy.cell? ⟨w.heap.size, 3, none⟩ = some (.slice Ad a.doors.length cd) ∧ wy.cell? ⟨w.heap.size, 4, none⟩ = some (.slice Ar a.routes.length cr) ∧ wy.cell? ⟨w.heap.size, 5, none⟩ = some (.slice At a.trips.length ct) ∧ wy.cell? ⟨w.heap.size, 6, none⟩ = some (.slice Ah a.hazs.length ch) ∧ wy.cell? ⟨w.heap.size + 1, 0, none⟩ = some (.int .i64 b.hor) ∧ wy.cell? ⟨w.heap.size + 1, 1, none⟩ = some (.slice Bs b.stops.length ds) ∧ wy.cell? ⟨w.heap.size + 1, 2, none⟩ = some (.slice Bp b.paths.length dp) ∧ wy.cell? ⟨w.heap.size + 1, 3, none⟩ = some (.slice Bd b.doors.length dd) ∧ wy.cell? ⟨w.heap.size + 1, 4, none⟩ = some (.slice Br b.routes.length dr) ∧ wy.cell? ⟨w.heap.size + 1, 5, none⟩ = some (.slice Bt b.trips.length dt) ∧ wy.cell? ⟨w.heap.size + 1, 6, none⟩ = some (.slice Bh b.hazs.length dh) from ⟨(hy.cell (p := ⟨w.heap.size, 0, none⟩) (by show w.heap.size < _; omega)).trans (Lib.cell_of_heap hA 0), (hy.cell (p := ⟨w.heap.size, 1, none⟩) (by show w.heap.size < _; omega)).trans (Lib.cell_of_heap hA 1), (hy.cell (p := ⟨w.heap.size, 2, none⟩) (by show w.heap.size < _; omega)).trans (Lib.cell_of_heap hA 2), (hy.cell (p := ⟨w.heap.size, 3, none⟩) (by show w.heap.size < _; omega)).trans (Lib.cell_of_heap hA 3), (hy.cell (p := ⟨w.heap.size, 4, none⟩) (by show w.heap.size < _; omega)).trans (Lib.cell_of_heap hA 4), (hy.cell (p := ⟨w.heap.size, 5, none⟩) (by show w.heap.size < _; omega)).trans (Lib.cell_of_heap hA 5), (hy.cell (p := ⟨w.heap.size, 6, none⟩) (by show w.heap.size < _; omega)).trans (Lib.cell_of_heap hA 6), (hy.cell (p := ⟨w.heap.size + 1, 0, none⟩) (by show w.heap.size + 1 < _; omega)).trans (Lib.cell_of_heap hB 0), (hy.cell (p := ⟨w.heap.size + 1, 1, none⟩) (by show w.heap.size + 1 < _; omega)).trans (Lib.cell_of_heap hB 1), (hy.cell (p := ⟨w.heap.size + 1, 2, none⟩) (by show w.heap.size + 1 < _; omega)).trans (Lib.cell_of_heap hB 2), (hy.cell (p := ⟨w.heap.size + 1, 3, none⟩) (by show w.heap.size + 1 < _; omega)).trans (Lib.cell_of_heap hB 3), (hy.cell (p := ⟨w.heap.size + 1, 4, none⟩) (by show w.heap.size + 1 < _; omega)).trans (Lib.cell_of_heap hB 4), (hy.cell (p := ⟨w.heap.size + 1, 5, none⟩) (by show w.heap.size + 1 < _; omega)).trans (Lib.cell_of_heap hB 5), (hy.cell (p := ⟨w.heap.size + 1, 6, none⟩) (by show w.heap.size + 1 < _; omega)).trans (Lib.cell_of_heap hB 6)⟩))
  have HW1 := Lib.hid hw1
  clear hb1 hz1 hA hB hw1 es ep ed er et eh fs fp fd fr ft fh ha hb hs
  generalize decide (a.stops = b.stops) = c1 at *
  generalize decide (a.paths = b.paths) = c2 at *
  generalize decide (a.doors = b.doors) = c3 at *
  generalize decide (a.routes.map RouteM.d = b.routes.map RouteM.d) = c4 at *
  generalize decide (a.trips = b.trips) = c5 at *
  generalize decide (a.hazs = b.hazs) = c6 at *
  obtain ⟨c0, h0⟩ : ∃ c, (a.hor == b.hor) = c := ⟨_, rfl⟩
  rw [h0] at EL
  go_enter Tryz.func21, Tryz.ntmps21
  go_upto_region 1 with fail
  try rw [HW1.out]
  clear HW1
  obtain ⟨x0, x1, x2, x3, x4, x5, x6, y0, y1, y2, y3, y4, y5, y6⟩ := CE.out w1 (Below.refl _ _)
  cases c0
  · go_wp2_with fail
    go_ret
    exact ⟨ret_bool (by rw [EL.out]; simp), HBF.out _ (Below.refl _ _)⟩
  go_wp2_with fail
  refine (Hs.out w1 (Below.refl w1.heap.size w1)).mono ?_
  intro e u1 hq0
  obtain ⟨rfl, hq⟩ := quiet_below hq0
  clear hq0
  have HBu1 := Lib.hid ((Below.refl w1.heap.size w1).trans (hq.mono ((Below.refl w1.heap.size w1)).size))
  clear hq x0 x1 x2 x3 x4 x5 x6 y0 y1 y2 y3 y4 y5 y6
  obtain ⟨x0, x1, x2, x3, x4, x5, x6, y0, y1, y2, y3, y4, y5, y6⟩ := CE.out u1 HBu1.out
  cases c1
  · go_wp2_with fail
    go_ret
    exact ⟨ret_bool (by rw [EL.out]; simp), HBF.out _ HBu1.out⟩
  go_wp2_with fail
  refine (Hp.out u1 HBu1.out).mono ?_
  intro e u2 hq0
  obtain ⟨rfl, hq⟩ := quiet_below hq0
  clear hq0
  have HBu2 := Lib.hid (HBu1.out.trans (hq.mono (HBu1.out).size))
  clear hq x0 x1 x2 x3 x4 x5 x6 y0 y1 y2 y3 y4 y5 y6
  obtain ⟨x0, x1, x2, x3, x4, x5, x6, y0, y1, y2, y3, y4, y5, y6⟩ := CE.out u2 HBu2.out
  cases c2
  · go_wp2_with fail
    go_ret
    exact ⟨ret_bool (by rw [EL.out]; simp), HBF.out _ HBu2.out⟩
  go_wp2_with fail
  refine (Hd.out u2 HBu2.out).mono ?_
  intro e u3 hq0
  obtain ⟨rfl, hq⟩ := quiet_below hq0
  clear hq0
  have HBu3 := Lib.hid (HBu2.out.trans (hq.mono (HBu2.out).size))
  clear hq x0 x1 x2 x3 x4 x5 x6 y0 y1 y2 y3 y4 y5 y6
  obtain ⟨x0, x1, x2, x3, x4, x5, x6, y0, y1, y2, y3, y4, y5, y6⟩ := CE.out u3 HBu3.out
  cases c3
  · go_wp2_with fail
    go_ret
    exact ⟨ret_bool (by rw [EL.out]; simp), HBF.out _ HBu3.out⟩
  go_wp2_with fail
  refine (Hr.out u3 HBu3.out).mono ?_
  rintro e u4 ⟨rfl, hq⟩
  have HBu4 := Lib.hid (HBu3.out.trans (hq.mono (HBu3.out).size))
  clear hq x0 x1 x2 x3 x4 x5 x6 y0 y1 y2 y3 y4 y5 y6
  obtain ⟨x0, x1, x2, x3, x4, x5, x6, y0, y1, y2, y3, y4, y5, y6⟩ := CE.out u4 HBu4.out
  cases c4
  · go_wp2_with fail
    go_ret
    exact ⟨ret_bool (by rw [EL.out]; simp), HBF.out _ HBu4.out⟩
  go_wp2_with fail
  refine (Ht.out u4 HBu4.out).mono ?_
  intro e u5 hq0
  obtain ⟨rfl, hq⟩ := quiet_below hq0
  clear hq0
  have HBu5 := Lib.hid (HBu4.out.trans (hq.mono (HBu4.out).size))
  clear hq x0 x1 x2 x3 x4 x5 x6 y0 y1 y2 y3 y4 y5 y6
  obtain ⟨x0, x1, x2, x3, x4, x5, x6, y0, y1, y2, y3, y4, y5, y6⟩ := CE.out u5 HBu5.out
  cases c5
  · go_wp2_with fail
    go_ret
    exact ⟨ret_bool (by rw [EL.out]; simp), HBF.out _ HBu5.out⟩
  go_wp2_with fail
  refine (Hh.out u5 HBu5.out).mono ?_
  intro e u6 hq0
  obtain ⟨rfl, hq⟩ := quiet_below hq0
  clear hq0
  have HBu6 := Lib.hid (HBu5.out.trans (hq.mono (HBu5.out).size))
  clear hq x0 x1 x2 x3 x4 x5 x6 y0 y1 y2 y3 y4 y5 y6
  obtain ⟨x0, x1, x2, x3, x4, x5, x6, y0, y1, y2, y3, y4, y5, y6⟩ := CE.out u6 HBu6.out
  cases c6
  · go_wp2_with fail
    go_ret
    exact ⟨ret_bool (by rw [EL.out]; simp), HBF.out _ HBu6.out⟩
  go_wp2_with fail
  go_ret
  exact ⟨ret_bool (by rw [EL.out]; simp), HBF.out _ HBu6.out⟩
set_option maxHeartbeats 1000000 in
theorem sthings_any (w : World) (x : SheetM) {P : Nat → Prop} (hg : x.Good w P) (hf : x.Few) :
    Calls Tryz.prog 13 #[x.v] w fun e w' => e = .returned (.int .i64 (thingsD x.d : Nat)) ∧ Below w.heap.size w w' := by
  have h1 := hf.stops
  have h2 := hf.paths
  have h3 := hf.doors
  have h4 := hf.routes
  have h5 := hf.trips
  have h6 := hf.hazs
  obtain ⟨w1, hw1⟩ : ∃ w1, w.alloc (.cells x.c.toArray 29) = w1 := ⟨_, rfl⟩
  have hS1 : SheetAt w.heap.size x w1 := by rw [← hw1]; exact SheetAt.of (heap_alloc_new _ _)
  have hb1 : Below w.heap.size w w1 := by rw [← hw1]; exact (Below.refl _ _).alloc (Nat.le_refl _) _
  have hlt : w.heap.size < w1.heap.size := by rw [← hw1]; simp
  have HB1 := Lib.hid hb1
  have HG1 := Lib.hid (hg.below_ hb1)
  have HS1 := Lib.hid hS1
  have HLT := Lib.hid hlt
  obtain ⟨As, cs, Ap, cp, Ad, cd, Ar, cr, At, ct, Ah, ch, es, ep, ed, er, et, eh⟩ := SheetAt.forms hg
  have cells : ∀ wx, SheetAt w.heap.size x wx → wx.cell? ⟨w.heap.size, 1, none⟩ = some (.slice As x.stops.length cs) ∧ wx.cell? ⟨w.heap.size, 2, none⟩ = some (.slice Ap x.paths.length cp) ∧ wx.cell? ⟨w.heap.size, 3, none⟩ = some (.slice Ad x.doors.length cd) ∧ wx.cell? ⟨w.heap.size, 4, none⟩ = some (.slice Ar x.routes.length cr) ∧ wx.cell? ⟨w.heap.size, 5, none⟩ = some (.slice At x.trips.length ct) ∧ wx.cell? ⟨w.heap.size, 6, none⟩ = some (.slice Ah x.hazs.length ch) := by
    rintro wx ⟨s0, s1, s2, s3, s4, s5, s6⟩
    rw [es] at s1
    rw [ep] at s2
    rw [ed] at s3
    rw [er] at s4
    rw [et] at s5
    rw [eh] at s6
    exact ⟨s1, s2, s3, s4, s5, s6⟩
  have CELLS := Lib.hid cells
  have HER := Lib.hid er
  unfold SheetM.v
  unfold SheetM.c at hw1
  rw [es, ep, ed, er, et, eh] at hw1
  rw [es, ep, ed, er, et, eh]
  obtain ⟨c1, c2, c3, c4, c5, c6⟩ := cells w1 hS1
  clear es ep ed er et eh hS1 hb1 hlt cells
  have E : thingsD x.d = x.stops.length + x.paths.length + x.doors.length + x.routes.length + x.trips.length + x.hazs.length := by simp [thingsD, SheetM.d]
  rw [E]
  clear E hg hf HG1 HER
  go_enter Tryz.func13, Tryz.ntmps13
  go_wp2_with fail
  go_ret
  exact ⟨ret_i64 (by omega), HB1.out⟩


end Go.Proofs.YteonefgbdphmiaaGreatDoor
