/- timetablekit.Same at the rows of a sheet. Printed by wip/bin/genqs.py. -/
import Derived.Test.YteonefgbdphmiaaGreatDoorBd
import Derived.Test.YteonefgbdphmiaaGreatDoorSk
import Derived.Test.YteonefgbdphmiaaGreatDoorKl
namespace Go.Proofs.YteonefgbdphmiaaGreatDoor
open Go.RowKit
theorem neqPath (a b : PathD) (W : World) : (Go.binOp BinOp.neq 61 (.agg #[.string (ba a.name), .string (ba a.a), .string (ba a.b), .int .i64 a.len]) (.agg #[.string (ba b.name), .string (ba b.a), .string (ba b.b), .int .i64 b.len])).run Tryz.prog W = .ok (.bool (!decide (a = b))) W := by
  obtain ⟨a0, a1, a2, a3⟩ := a
  obtain ⟨b0, b1, b2, b3⟩ := b
  rw [show decide (PathD.mk a0 a1 a2 a3 = PathD.mk b0 b1 b2 b3) = ((a0 == b0) && ((a1 == b1) && ((a2 == b2) && ((a3 == b3))))) by
    rw [Bool.eq_iff_iff]; simp]
  go_simp
  simp only [ba_toList]
  by_cases h0 : a0 = b0 <;> by_cases h1 : a1 = b1 <;> by_cases h2 : a2 = b2 <;> by_cases h3 : a3 = b3 <;> simp [h0, h1, h2, h3]
theorem neqDoor (a b : DoorD) (W : World) : (Go.binOp BinOp.neq 50 (.agg #[.string (ba a.name), .string (ba a.a), .string (ba a.b), .int .i64 a.len, .int .i64 a.times.start, .int .i64 a.times.every, .int .i64 a.times.len]) (.agg #[.string (ba b.name), .string (ba b.a), .string (ba b.b), .int .i64 b.len, .int .i64 b.times.start, .int .i64 b.times.every, .int .i64 b.times.len])).run Tryz.prog W = .ok (.bool (!decide (a = b))) W := by
  obtain ⟨a0, a1, a2, a3, ⟨a4, a5, a6⟩⟩ := a
  obtain ⟨b0, b1, b2, b3, ⟨b4, b5, b6⟩⟩ := b
  rw [show decide (DoorD.mk a0 a1 a2 a3 ⟨a4, a5, a6⟩ = DoorD.mk b0 b1 b2 b3 ⟨b4, b5, b6⟩) = ((a0 == b0) && ((a1 == b1) && ((a2 == b2) && ((a3 == b3) && ((a4 == b4) && ((a5 == b5) && ((a6 == b6)))))))) by
    rw [Bool.eq_iff_iff]; simp]
  go_simp
  simp only [ba_toList]
  by_cases h0 : a0 = b0 <;> by_cases h1 : a1 = b1 <;> by_cases h2 : a2 = b2 <;> by_cases h3 : a3 = b3 <;> by_cases h4 : a4 = b4 <;> by_cases h5 : a5 = b5 <;> by_cases h6 : a6 = b6 <;> simp [h0, h1, h2, h3, h4, h5, h6]
theorem neqTrip (a b : TripD) (W : World) : (Go.binOp BinOp.neq 52 (.agg #[.string (ba a.name), .string (ba a.route), .int .i64 a.start, .int .i64 a.every, .int .i64 a.stop]) (.agg #[.string (ba b.name), .string (ba b.route), .int .i64 b.start, .int .i64 b.every, .int .i64 b.stop])).run Tryz.prog W = .ok (.bool (!decide (a = b))) W := by
  obtain ⟨a0, a1, a2, a3, a4⟩ := a
  obtain ⟨b0, b1, b2, b3, b4⟩ := b
  rw [show decide (TripD.mk a0 a1 a2 a3 a4 = TripD.mk b0 b1 b2 b3 b4) = ((a0 == b0) && ((a1 == b1) && ((a2 == b2) && ((a3 == b3) && ((a4 == b4)))))) by
    rw [Bool.eq_iff_iff]; simp]
  go_simp
  simp only [ba_toList]
  by_cases h0 : a0 = b0 <;> by_cases h1 : a1 = b1 <;> by_cases h2 : a2 = b2 <;> by_cases h3 : a3 = b3 <;> by_cases h4 : a4 = b4 <;> simp [h0, h1, h2, h3, h4]
theorem neqHaz (a b : HazD) (W : World) : (Go.binOp BinOp.neq 54 (.agg #[.string (ba a.name), .string (ba a.on), .int .i64 a.times.start, .int .i64 a.times.every, .int .i64 a.times.len]) (.agg #[.string (ba b.name), .string (ba b.on), .int .i64 b.times.start, .int .i64 b.times.every, .int .i64 b.times.len])).run Tryz.prog W = .ok (.bool (!decide (a = b))) W := by
  obtain ⟨a0, a1, ⟨a2, a3, a4⟩⟩ := a
  obtain ⟨b0, b1, ⟨b2, b3, b4⟩⟩ := b
  rw [show decide (HazD.mk a0 a1 ⟨a2, a3, a4⟩ = HazD.mk b0 b1 ⟨b2, b3, b4⟩) = ((a0 == b0) && ((a1 == b1) && ((a2 == b2) && ((a3 == b3) && ((a4 == b4)))))) by
    rw [Bool.eq_iff_iff]; simp]
  go_simp
  simp only [ba_toList]
  by_cases h0 : a0 = b0 <;> by_cases h1 : a1 = b1 <;> by_cases h2 : a2 = b2 <;> by_cases h3 : a3 = b3 <;> by_cases h4 : a4 = b4 <;> simp [h0, h1, h2, h3, h4]
set_option maxHeartbeats 1000000 in
theorem samePath_any (va vb : Value) (la lb : List PathD) (w : World) {P Q : Nat → Prop} (ha : Sl pc 4 w va la P) (hb : Sl pc 4 w vb lb Q) (h1 : la.length ≤ 1048576) :
    Calls Tryz.prog 23 #[va, vb] w (Quiet (.bool (decide (la = lb))) w) := by
  obtain ⟨A, capa, rfl, ha1, ha2⟩ := ha.shape
  obtain ⟨B, capb, e, hb1, hb2⟩ := hb.shape
  by_cases hlen : la.length = lb.length
  · rw [← hlen] at e hb1
    subst e
    go_enter Tryz.func23, Tryz.ntmps23
    have Hlen := Lib.hid hlen
    clear hlen
    go_wp2
    go_loopw [5] (fun s wr => SameRel la lb w s wr) (fun s _ => la.length - (intOf s).toNat)
    case atStart => exact ⟨0, 0, Nat.zero_le _, rfl, rfl, rfl⟩
    case round =>
      obtain ⟨k, n, hk, rfl, hkk, rfl⟩ := hrel
      by_cases hlt : k < la.length
      · have hlt2 : k < lb.length := by rw [← Hlen.out]; exact hlt
        obtain ⟨b1, o1, c1, e1, _, _, hl1, _, hx⟩ := ha.at_ hlt
        obtain ⟨b2, o2, c2, e2, _, _, hl2, _, hy⟩ := hb.at_ hlt2
        injection e1 with e1 e1' e1''
        injection e2 with e2 e2' e2''
        subst e1 e2
        obtain ⟨x, Hx⟩ : ∃ x, Hid (la[k] = x) := ⟨_, Lib.hid rfl⟩
        obtain ⟨y, Hy⟩ : ∃ y, Hid (lb[k] = y) := ⟨_, Lib.hid rfl⟩
        rw [Hx.out] at hx
        rw [Hy.out] at hy
        have hx0 : w.cell? ⟨b1, o1 + k * 4, none⟩ = some (.string (ba x.name)) := by simpa using hx 0 _ rfl
        have hx1 : w.cell? ⟨b1, o1 + k * 4 + 1, none⟩ = some (.string (ba x.a)) := by simpa using hx 1 _ rfl
        have hx2 : w.cell? ⟨b1, o1 + k * 4 + 2, none⟩ = some (.string (ba x.b)) := by simpa using hx 2 _ rfl
        have hx3 : w.cell? ⟨b1, o1 + k * 4 + 3, none⟩ = some (.int .i64 x.len) := by simpa using hx 3 _ rfl
        have hy0 : w.cell? ⟨b2, o2 + k * 4, none⟩ = some (.string (ba y.name)) := by simpa using hy 0 _ rfl
        have hy1 : w.cell? ⟨b2, o2 + k * 4 + 1, none⟩ = some (.string (ba y.a)) := by simpa using hy 1 _ rfl
        have hy2 : w.cell? ⟨b2, o2 + k * 4 + 2, none⟩ = some (.string (ba y.b)) := by simpa using hy 2 _ rfl
        have hy3 : w.cell? ⟨b2, o2 + k * 4 + 3, none⟩ = some (.int .i64 y.len) := by simpa using hy 3 _ rfl
        have Hkk := Lib.hid hkk
        clear hkk hx hy e1' e1'' e2' e2''
        have q1 : (0 : Int) ≤ (k : Int) := by omega
        have q2 : (k : Int) < (la.length : Int) := by omega
        have hne := neqPath x y
        by_cases hxy : x = y
        · rw [decide_eq_true hxy] at hne
          have Hxy := Lib.hid hxy
          clear hxy
          go_wp2
          go_quiet (fail)
          go_wp2
          go_roundw
          case rel => exact ⟨k + 1, _, by omega, by go_num, same_step hlt hlt2 Hkk.out (by rw [Hx.out, Hy.out]; exact Hxy.out), by first | rfl | exact World.drewN_drewN _ _ _⟩
          case measure => simp [intOf]; omega
        · rw [decide_eq_false hxy] at hne
          have hun := same_ne hlt hlt2 (by rw [Hx.out, Hy.out]; exact hxy)
          have Hun := Lib.hid hun
          clear hun hxy
          go_wp2
          go_quiet (fail)
          go_wp2
          go_ret
          exact ⟨ret_bool (decide_eq_false Hun.out).symm, _, by first | rfl | exact World.drewN_drewN _ _ _⟩
      · have hkl : k = la.length := by omega
        subst hkl
        have Heq := Lib.hid (same_eq Hlen.out hkk)
        clear hkk
        go_wp2
        go_ret
        exact ⟨ret_bool (decide_eq_true Heq.out).symm, n, rfl⟩
  · have hne : la ≠ lb := fun h => hlen (by rw [h])
    rw [decide_eq_false hne]
    obtain rfl := e
    have hd : ((la.length : Int) == (lb.length : Int)) = false := beq_eq_false_iff_ne.2 (by omega)
    clear hne hlen
    go_enter Tryz.func23, Tryz.ntmps23
    go_wp2
    go_ret
    exact ⟨rfl, 0, rfl⟩
set_option maxHeartbeats 1000000 in
theorem sameDoor_any (va vb : Value) (la lb : List DoorD) (w : World) {P Q : Nat → Prop} (ha : Sl dc 7 w va la P) (hb : Sl dc 7 w vb lb Q) (h1 : la.length ≤ 1048576) :
    Calls Tryz.prog 36 #[va, vb] w (Quiet (.bool (decide (la = lb))) w) := by
  obtain ⟨A, capa, rfl, ha1, ha2⟩ := ha.shape
  obtain ⟨B, capb, e, hb1, hb2⟩ := hb.shape
  by_cases hlen : la.length = lb.length
  · rw [← hlen] at e hb1
    subst e
    go_enter Tryz.func36, Tryz.ntmps36
    have Hlen := Lib.hid hlen
    clear hlen
    go_wp2
    go_loopw [5] (fun s wr => SameRel la lb w s wr) (fun s _ => la.length - (intOf s).toNat)
    case atStart => exact ⟨0, 0, Nat.zero_le _, rfl, rfl, rfl⟩
    case round =>
      obtain ⟨k, n, hk, rfl, hkk, rfl⟩ := hrel
      by_cases hlt : k < la.length
      · have hlt2 : k < lb.length := by rw [← Hlen.out]; exact hlt
        obtain ⟨b1, o1, c1, e1, _, _, hl1, _, hx⟩ := ha.at_ hlt
        obtain ⟨b2, o2, c2, e2, _, _, hl2, _, hy⟩ := hb.at_ hlt2
        injection e1 with e1 e1' e1''
        injection e2 with e2 e2' e2''
        subst e1 e2
        obtain ⟨x, Hx⟩ : ∃ x, Hid (la[k] = x) := ⟨_, Lib.hid rfl⟩
        obtain ⟨y, Hy⟩ : ∃ y, Hid (lb[k] = y) := ⟨_, Lib.hid rfl⟩
        rw [Hx.out] at hx
        rw [Hy.out] at hy
        have hx0 : w.cell? ⟨b1, o1 + k * 7, none⟩ = some (.string (ba x.name)) := by simpa using hx 0 _ rfl
        have hx1 : w.cell? ⟨b1, o1 + k * 7 + 1, none⟩ = some (.string (ba x.a)) := by simpa using hx 1 _ rfl
        have hx2 : w.cell? ⟨b1, o1 + k * 7 + 2, none⟩ = some (.string (ba x.b)) := by simpa using hx 2 _ rfl
        have hx3 : w.cell? ⟨b1, o1 + k * 7 + 3, none⟩ = some (.int .i64 x.len) := by simpa using hx 3 _ rfl
        have hx4 : w.cell? ⟨b1, o1 + k * 7 + 4, none⟩ = some (.int .i64 x.times.start) := by simpa using hx 4 _ rfl
        have hx5 : w.cell? ⟨b1, o1 + k * 7 + 5, none⟩ = some (.int .i64 x.times.every) := by simpa using hx 5 _ rfl
        have hx6 : w.cell? ⟨b1, o1 + k * 7 + 6, none⟩ = some (.int .i64 x.times.len) := by simpa using hx 6 _ rfl
        have hy0 : w.cell? ⟨b2, o2 + k * 7, none⟩ = some (.string (ba y.name)) := by simpa using hy 0 _ rfl
        have hy1 : w.cell? ⟨b2, o2 + k * 7 + 1, none⟩ = some (.string (ba y.a)) := by simpa using hy 1 _ rfl
        have hy2 : w.cell? ⟨b2, o2 + k * 7 + 2, none⟩ = some (.string (ba y.b)) := by simpa using hy 2 _ rfl
        have hy3 : w.cell? ⟨b2, o2 + k * 7 + 3, none⟩ = some (.int .i64 y.len) := by simpa using hy 3 _ rfl
        have hy4 : w.cell? ⟨b2, o2 + k * 7 + 4, none⟩ = some (.int .i64 y.times.start) := by simpa using hy 4 _ rfl
        have hy5 : w.cell? ⟨b2, o2 + k * 7 + 5, none⟩ = some (.int .i64 y.times.every) := by simpa using hy 5 _ rfl
        have hy6 : w.cell? ⟨b2, o2 + k * 7 + 6, none⟩ = some (.int .i64 y.times.len) := by simpa using hy 6 _ rfl
        have Hkk := Lib.hid hkk
        clear hkk hx hy e1' e1'' e2' e2''
        have q1 : (0 : Int) ≤ (k : Int) := by omega
        have q2 : (k : Int) < (la.length : Int) := by omega
        have hne := neqDoor x y
        by_cases hxy : x = y
        · rw [decide_eq_true hxy] at hne
          have Hxy := Lib.hid hxy
          clear hxy
          go_wp2
          go_quiet (fail)
          go_wp2
          go_roundw
          case rel => exact ⟨k + 1, _, by omega, by go_num, same_step hlt hlt2 Hkk.out (by rw [Hx.out, Hy.out]; exact Hxy.out), by first | rfl | exact World.drewN_drewN _ _ _⟩
          case measure => simp [intOf]; omega
        · rw [decide_eq_false hxy] at hne
          have hun := same_ne hlt hlt2 (by rw [Hx.out, Hy.out]; exact hxy)
          have Hun := Lib.hid hun
          clear hun hxy
          go_wp2
          go_quiet (fail)
          go_wp2
          go_ret
          exact ⟨ret_bool (decide_eq_false Hun.out).symm, _, by first | rfl | exact World.drewN_drewN _ _ _⟩
      · have hkl : k = la.length := by omega
        subst hkl
        have Heq := Lib.hid (same_eq Hlen.out hkk)
        clear hkk
        go_wp2
        go_ret
        exact ⟨ret_bool (decide_eq_true Heq.out).symm, n, rfl⟩
  · have hne : la ≠ lb := fun h => hlen (by rw [h])
    rw [decide_eq_false hne]
    obtain rfl := e
    have hd : ((la.length : Int) == (lb.length : Int)) = false := beq_eq_false_iff_ne.2 (by omega)
    clear hne hlen
    go_enter Tryz.func36, Tryz.ntmps36
    go_wp2
    go_ret
    exact ⟨rfl, 0, rfl⟩
set_option maxHeartbeats 1000000 in
theorem sameTrip_any (va vb : Value) (la lb : List TripD) (w : World) {P Q : Nat → Prop} (ha : Sl trc 5 w va la P) (hb : Sl trc 5 w vb lb Q) (h1 : la.length ≤ 1048576) :
    Calls Tryz.prog 22 #[va, vb] w (Quiet (.bool (decide (la = lb))) w) := by
  obtain ⟨A, capa, rfl, ha1, ha2⟩ := ha.shape
  obtain ⟨B, capb, e, hb1, hb2⟩ := hb.shape
  by_cases hlen : la.length = lb.length
  · rw [← hlen] at e hb1
    subst e
    go_enter Tryz.func22, Tryz.ntmps22
    have Hlen := Lib.hid hlen
    clear hlen
    go_wp2
    go_loopw [5] (fun s wr => SameRel la lb w s wr) (fun s _ => la.length - (intOf s).toNat)
    case atStart => exact ⟨0, 0, Nat.zero_le _, rfl, rfl, rfl⟩
    case round =>
      obtain ⟨k, n, hk, rfl, hkk, rfl⟩ := hrel
      by_cases hlt : k < la.length
      · have hlt2 : k < lb.length := by rw [← Hlen.out]; exact hlt
        obtain ⟨b1, o1, c1, e1, _, _, hl1, _, hx⟩ := ha.at_ hlt
        obtain ⟨b2, o2, c2, e2, _, _, hl2, _, hy⟩ := hb.at_ hlt2
        injection e1 with e1 e1' e1''
        injection e2 with e2 e2' e2''
        subst e1 e2
        obtain ⟨x, Hx⟩ : ∃ x, Hid (la[k] = x) := ⟨_, Lib.hid rfl⟩
        obtain ⟨y, Hy⟩ : ∃ y, Hid (lb[k] = y) := ⟨_, Lib.hid rfl⟩
        rw [Hx.out] at hx
        rw [Hy.out] at hy
        have hx0 : w.cell? ⟨b1, o1 + k * 5, none⟩ = some (.string (ba x.name)) := by simpa using hx 0 _ rfl
        have hx1 : w.cell? ⟨b1, o1 + k * 5 + 1, none⟩ = some (.string (ba x.route)) := by simpa using hx 1 _ rfl
        have hx2 : w.cell? ⟨b1, o1 + k * 5 + 2, none⟩ = some (.int .i64 x.start) := by simpa using hx 2 _ rfl
        have hx3 : w.cell? ⟨b1, o1 + k * 5 + 3, none⟩ = some (.int .i64 x.every) := by simpa using hx 3 _ rfl
        have hx4 : w.cell? ⟨b1, o1 + k * 5 + 4, none⟩ = some (.int .i64 x.stop) := by simpa using hx 4 _ rfl
        have hy0 : w.cell? ⟨b2, o2 + k * 5, none⟩ = some (.string (ba y.name)) := by simpa using hy 0 _ rfl
        have hy1 : w.cell? ⟨b2, o2 + k * 5 + 1, none⟩ = some (.string (ba y.route)) := by simpa using hy 1 _ rfl
        have hy2 : w.cell? ⟨b2, o2 + k * 5 + 2, none⟩ = some (.int .i64 y.start) := by simpa using hy 2 _ rfl
        have hy3 : w.cell? ⟨b2, o2 + k * 5 + 3, none⟩ = some (.int .i64 y.every) := by simpa using hy 3 _ rfl
        have hy4 : w.cell? ⟨b2, o2 + k * 5 + 4, none⟩ = some (.int .i64 y.stop) := by simpa using hy 4 _ rfl
        have Hkk := Lib.hid hkk
        clear hkk hx hy e1' e1'' e2' e2''
        have q1 : (0 : Int) ≤ (k : Int) := by omega
        have q2 : (k : Int) < (la.length : Int) := by omega
        have hne := neqTrip x y
        by_cases hxy : x = y
        · rw [decide_eq_true hxy] at hne
          have Hxy := Lib.hid hxy
          clear hxy
          go_wp2
          go_quiet (fail)
          go_wp2
          go_roundw
          case rel => exact ⟨k + 1, _, by omega, by go_num, same_step hlt hlt2 Hkk.out (by rw [Hx.out, Hy.out]; exact Hxy.out), by first | rfl | exact World.drewN_drewN _ _ _⟩
          case measure => simp [intOf]; omega
        · rw [decide_eq_false hxy] at hne
          have hun := same_ne hlt hlt2 (by rw [Hx.out, Hy.out]; exact hxy)
          have Hun := Lib.hid hun
          clear hun hxy
          go_wp2
          go_quiet (fail)
          go_wp2
          go_ret
          exact ⟨ret_bool (decide_eq_false Hun.out).symm, _, by first | rfl | exact World.drewN_drewN _ _ _⟩
      · have hkl : k = la.length := by omega
        subst hkl
        have Heq := Lib.hid (same_eq Hlen.out hkk)
        clear hkk
        go_wp2
        go_ret
        exact ⟨ret_bool (decide_eq_true Heq.out).symm, n, rfl⟩
  · have hne : la ≠ lb := fun h => hlen (by rw [h])
    rw [decide_eq_false hne]
    obtain rfl := e
    have hd : ((la.length : Int) == (lb.length : Int)) = false := beq_eq_false_iff_ne.2 (by omega)
    clear hne hlen
    go_enter Tryz.func22, Tryz.ntmps22
    go_wp2
    go_ret
    exact ⟨rfl, 0, rfl⟩
set_option maxHeartbeats 1000000 in
theorem sameHaz_any (va vb : Value) (la lb : List HazD) (w : World) {P Q : Nat → Prop} (ha : Sl hc 5 w va la P) (hb : Sl hc 5 w vb lb Q) (h1 : la.length ≤ 1048576) :
    Calls Tryz.prog 37 #[va, vb] w (Quiet (.bool (decide (la = lb))) w) := by
  obtain ⟨A, capa, rfl, ha1, ha2⟩ := ha.shape
  obtain ⟨B, capb, e, hb1, hb2⟩ := hb.shape
  by_cases hlen : la.length = lb.length
  · rw [← hlen] at e hb1
    subst e
    go_enter Tryz.func37, Tryz.ntmps37
    have Hlen := Lib.hid hlen
    clear hlen
    go_wp2
    go_loopw [5] (fun s wr => SameRel la lb w s wr) (fun s _ => la.length - (intOf s).toNat)
    case atStart => exact ⟨0, 0, Nat.zero_le _, rfl, rfl, rfl⟩
    case round =>
      obtain ⟨k, n, hk, rfl, hkk, rfl⟩ := hrel
      by_cases hlt : k < la.length
      · have hlt2 : k < lb.length := by rw [← Hlen.out]; exact hlt
        obtain ⟨b1, o1, c1, e1, _, _, hl1, _, hx⟩ := ha.at_ hlt
        obtain ⟨b2, o2, c2, e2, _, _, hl2, _, hy⟩ := hb.at_ hlt2
        injection e1 with e1 e1' e1''
        injection e2 with e2 e2' e2''
        subst e1 e2
        obtain ⟨x, Hx⟩ : ∃ x, Hid (la[k] = x) := ⟨_, Lib.hid rfl⟩
        obtain ⟨y, Hy⟩ : ∃ y, Hid (lb[k] = y) := ⟨_, Lib.hid rfl⟩
        rw [Hx.out] at hx
        rw [Hy.out] at hy
        have hx0 : w.cell? ⟨b1, o1 + k * 5, none⟩ = some (.string (ba x.name)) := by simpa using hx 0 _ rfl
        have hx1 : w.cell? ⟨b1, o1 + k * 5 + 1, none⟩ = some (.string (ba x.on)) := by simpa using hx 1 _ rfl
        have hx2 : w.cell? ⟨b1, o1 + k * 5 + 2, none⟩ = some (.int .i64 x.times.start) := by simpa using hx 2 _ rfl
        have hx3 : w.cell? ⟨b1, o1 + k * 5 + 3, none⟩ = some (.int .i64 x.times.every) := by simpa using hx 3 _ rfl
        have hx4 : w.cell? ⟨b1, o1 + k * 5 + 4, none⟩ = some (.int .i64 x.times.len) := by simpa using hx 4 _ rfl
        have hy0 : w.cell? ⟨b2, o2 + k * 5, none⟩ = some (.string (ba y.name)) := by simpa using hy 0 _ rfl
        have hy1 : w.cell? ⟨b2, o2 + k * 5 + 1, none⟩ = some (.string (ba y.on)) := by simpa using hy 1 _ rfl
        have hy2 : w.cell? ⟨b2, o2 + k * 5 + 2, none⟩ = some (.int .i64 y.times.start) := by simpa using hy 2 _ rfl
        have hy3 : w.cell? ⟨b2, o2 + k * 5 + 3, none⟩ = some (.int .i64 y.times.every) := by simpa using hy 3 _ rfl
        have hy4 : w.cell? ⟨b2, o2 + k * 5 + 4, none⟩ = some (.int .i64 y.times.len) := by simpa using hy 4 _ rfl
        have Hkk := Lib.hid hkk
        clear hkk hx hy e1' e1'' e2' e2''
        have q1 : (0 : Int) ≤ (k : Int) := by omega
        have q2 : (k : Int) < (la.length : Int) := by omega
        have hne := neqHaz x y
        by_cases hxy : x = y
        · rw [decide_eq_true hxy] at hne
          have Hxy := Lib.hid hxy
          clear hxy
          go_wp2
          go_quiet (fail)
          go_wp2
          go_roundw
          case rel => exact ⟨k + 1, _, by omega, by go_num, same_step hlt hlt2 Hkk.out (by rw [Hx.out, Hy.out]; exact Hxy.out), by first | rfl | exact World.drewN_drewN _ _ _⟩
          case measure => simp [intOf]; omega
        · rw [decide_eq_false hxy] at hne
          have hun := same_ne hlt hlt2 (by rw [Hx.out, Hy.out]; exact hxy)
          have Hun := Lib.hid hun
          clear hun hxy
          go_wp2
          go_quiet (fail)
          go_wp2
          go_ret
          exact ⟨ret_bool (decide_eq_false Hun.out).symm, _, by first | rfl | exact World.drewN_drewN _ _ _⟩
      · have hkl : k = la.length := by omega
        subst hkl
        have Heq := Lib.hid (same_eq Hlen.out hkk)
        clear hkk
        go_wp2
        go_ret
        exact ⟨ret_bool (decide_eq_true Heq.out).symm, n, rfl⟩
  · have hne : la ≠ lb := fun h => hlen (by rw [h])
    rw [decide_eq_false hne]
    obtain rfl := e
    have hd : ((la.length : Int) == (lb.length : Int)) = false := beq_eq_false_iff_ne.2 (by omega)
    clear hne hlen
    go_enter Tryz.func37, Tryz.ntmps37
    go_wp2
    go_ret
    exact ⟨rfl, 0, rfl⟩
set_option maxHeartbeats 1000000 in
theorem sameInt_any (va vb : Value) (la lb : List Int) (w : World) {P Q : Nat → Prop} (ha : Sl ic 1 w va la P) (hb : Sl ic 1 w vb lb Q) (h1 : la.length ≤ 1048576) :
    Calls Tryz.prog 24 #[va, vb] w (Quiet (.bool (decide (la = lb))) w) := by
  obtain ⟨A, capa, rfl, ha1, ha2⟩ := ha.shape
  obtain ⟨B, capb, e, hb1, hb2⟩ := hb.shape
  by_cases hlen : la.length = lb.length
  · rw [← hlen] at e hb1
    subst e
    go_enter Tryz.func24, Tryz.ntmps24
    have Hlen := Lib.hid hlen
    clear hlen
    go_wp2
    go_loopw [5] (fun s wr => SameRel la lb w s wr) (fun s _ => la.length - (intOf s).toNat)
    case atStart => exact ⟨0, 0, Nat.zero_le _, rfl, rfl, rfl⟩
    case round =>
      obtain ⟨k, n, hk, rfl, hkk, rfl⟩ := hrel
      by_cases hlt : k < la.length
      · have hlt2 : k < lb.length := by rw [← Hlen.out]; exact hlt
        obtain ⟨b1, o1, c1, e1, _, _, hl1, _, hx⟩ := ha.at_ hlt
        obtain ⟨b2, o2, c2, e2, _, _, hl2, _, hy⟩ := hb.at_ hlt2
        injection e1 with e1 e1' e1''
        injection e2 with e2 e2' e2''
        subst e1 e2
        obtain ⟨x, Hx⟩ : ∃ x, Hid (la[k] = x) := ⟨_, Lib.hid rfl⟩
        obtain ⟨y, Hy⟩ : ∃ y, Hid (lb[k] = y) := ⟨_, Lib.hid rfl⟩
        rw [Hx.out] at hx
        rw [Hy.out] at hy
        have hx0 : w.cell? ⟨b1, o1 + k, none⟩ = some (.int .i64 x) := by simpa using hx 0 _ rfl
        have hy0 : w.cell? ⟨b2, o2 + k, none⟩ = some (.int .i64 y) := by simpa using hy 0 _ rfl
        have Hkk := Lib.hid hkk
        clear hkk hx hy e1' e1'' e2' e2''
        have q1 : (0 : Int) ≤ (k : Int) := by omega
        have q2 : (k : Int) < (la.length : Int) := by omega
        by_cases hxy : x = y
        · have hb0 : (x == y) = true := by rw [hxy, beq_self_eq_true]
          have hb1 : (x != y) = false := by rw [bne, hb0]; rfl
          have Hxy := Lib.hid hxy
          clear hxy
          go_wp2
          go_quiet (fail)
          go_wp2
          go_roundw
          case rel => exact ⟨k + 1, _, by omega, by go_num, same_step hlt hlt2 Hkk.out (by rw [Hx.out, Hy.out]; exact Hxy.out), by first | rfl | exact World.drewN_drewN _ _ _⟩
          case measure => simp [intOf]; omega
        · have hb0 : (x == y) = false := beq_eq_false_iff_ne.2 hxy
          have hb1 : (x != y) = true := by rw [bne, hb0]; rfl
          have hne := same_ne hlt hlt2 (by rw [Hx.out, Hy.out]; exact hxy)
          have Hne := Lib.hid hne
          clear hne hxy
          go_wp2
          go_quiet (fail)
          go_wp2
          go_ret
          exact ⟨ret_bool (decide_eq_false Hne.out).symm, _, by first | rfl | exact World.drewN_drewN _ _ _⟩
      · have hkl : k = la.length := by omega
        subst hkl
        have Heq := Lib.hid (same_eq Hlen.out hkk)
        clear hkk
        go_wp2
        go_ret
        exact ⟨ret_bool (decide_eq_true Heq.out).symm, n, rfl⟩
  · have hne : la ≠ lb := fun h => hlen (by rw [h])
    rw [decide_eq_false hne]
    obtain rfl := e
    have hd : ((la.length : Int) == (lb.length : Int)) = false := beq_eq_false_iff_ne.2 (by omega)
    clear hne hlen
    go_enter Tryz.func24, Tryz.ntmps24
    go_wp2
    go_ret
    exact ⟨rfl, 0, rfl⟩

end Go.Proofs.YteonefgbdphmiaaGreatDoor
/- timetablekit.Route and Sheet: are they the same? Printed by wip/bin/genqt.py. -/
namespace Go.Proofs.YteonefgbdphmiaaGreatDoor
open Go.RowKit
theorem quiet_below {v : Value} {w w' : World} {e : Ending} (h : Quiet v w e w') : e = .returned v ∧ Below w.heap.size w w' := by
  obtain ⟨rfl, n, rfl⟩ := h
  exact ⟨rfl, below_drewN (Below.refl _ _) n⟩
structure RouteM.Small (r : RouteM) : Prop where
  st : r.stops.length ≤ 1048576
  ri : r.rides.length ≤ 1048576
  sy : r.stays.length ≤ 1048576
set_option maxHeartbeats 4000000 in
set_option maxRecDepth 100000 in
theorem sameR_any (a b : RouteM) (w : World) {P Q : Nat → Prop} (ha : a.Good w P) (hb : b.Good w Q) (hs : a.Small) :
    Calls Tryz.prog 38 #[a.v, b.v] w fun e w' => e = .returned (.bool (decide (a.d = b.d))) ∧ Below w.heap.size w w' := by
  obtain ⟨w1, hw1⟩ : ∃ w1, (w.alloc (.cells #[.string (ba a.name), a.vs, a.vr, a.vy] 57)).alloc (.cells #[.string (ba b.name), b.vs, b.vr, b.vy] 57) = w1 := ⟨_, rfl⟩
  have hb1 : Below w.heap.size w w1 := by rw [← hw1]; exact ((Below.refl _ _).alloc (Nat.le_refl _) _).alloc (by simp) _
  have hz1 : w1.heap.size = w.heap.size + 2 := by rw [← hw1]; simp
  have hA : w1.heap[w.heap.size]? = some (.cells #[.string (ba a.name), a.vs, a.vr, a.vy] 57 (0, 0)) := by rw [← hw1, Below.heap_alloc _ _ _ (by simp)]; exact heap_alloc_new _ _
  have hB : w1.heap[w.heap.size + 1]? = some (.cells #[.string (ba b.name), b.vs, b.vr, b.vy] 57 (0, 0)) := by
    rw [← hw1]
    have h := heap_alloc_new (w.alloc (.cells #[.string (ba a.name), a.vs, a.vr, a.vy] 57)) (.cells #[.string (ba b.name), b.vs, b.vr, b.vy] 57)
    rw [show (w.alloc (.cells #[.string (ba a.name), a.vs, a.vr, a.vy] 57)).heap.size = w.heap.size + 1 by simp] at h
    exact h
  have HBF := Lib.hid (fun (wy : World) (h : Below w1.heap.size w1 wy) => (show Below w.heap.size w wy from hb1.trans (h.mono hb1.size)))
  have H1 := Lib.hid (fun (wy : World) (h : Below w1.heap.size w1 wy) => sameStr_any a.vs b.vs a.stops b.stops wy (ha.below_ (HBF.out wy h |>.mono (Nat.le_refl _))).stops (hb.below_ (HBF.out wy h)).stops hs.st)
  have H2 := Lib.hid (fun (wy : World) (h : Below w1.heap.size w1 wy) => sameInt_any a.vr b.vr a.rides b.rides wy (ha.below_ (HBF.out wy h)).rides (hb.below_ (HBF.out wy h)).rides hs.ri)
  have H3 := Lib.hid (fun (wy : World) (h : Below w1.heap.size w1 wy) => sameInt_any a.vy b.vy a.stays b.stays wy (ha.below_ (HBF.out wy h)).stays (hb.below_ (HBF.out wy h)).stays hs.sy)
  obtain ⟨A1, p1, e1, _, _⟩ := ha.stops.shape
  obtain ⟨A2, p2, e2, _, _⟩ := ha.rides.shape
  obtain ⟨A3, p3, e3, _, _⟩ := ha.stays.shape
  obtain ⟨B1, q1, f1, _, _⟩ := hb.stops.shape
  obtain ⟨B2, q2, f2, _, _⟩ := hb.rides.shape
  obtain ⟨B3, q3, f3, _, _⟩ := hb.stays.shape
  have EL := Lib.hid (show decide (a.d = b.d) = ((((ba a.name).toList == (ba b.name).toList) && decide (a.stops = b.stops)) && decide (a.rides = b.rides) && decide (a.stays = b.stays)) by
    rw [ba_toList, ba_toList, Bool.eq_iff_iff]
    simp [RouteM.d, and_assoc])
  rw [e1, f1] at H1
  rw [e2, f2] at H2
  rw [e3, f3] at H3
  rw [e1, e2, e3] at hw1 hA
  rw [f1, f2, f3] at hw1 hB
  unfold RouteM.v
  rw [e1, e2, e3, f1, f2, f3]
  have CE := Lib.hid (fun (wy : World) (hy : Below w1.heap.size w1 wy) => (show wy.cell? ⟨w.heap.size, 0, none⟩ = some (.string (ba a.name)) ∧ wy.cell? ⟨w.heap.size, 1, none⟩ = some (.slice A1 a.stops.length p1) ∧ wy.cell? ⟨w.heap.size, 2, none⟩ = some (.slice A2 a.rides.length p2) ∧ wy.cell? ⟨w.heap.size, 3, none⟩ = some (.slice A3 a.stays.length p3) ∧ wy.cell? ⟨w.heap.size + 1, 0, none⟩ = some (.string (ba b.name)) ∧ wy.cell? ⟨w.heap.size + 1, 1, none⟩ = some (.slice B1 b.stops.length q1) ∧ wy.cell? ⟨w.heap.size + 1, 2, none⟩ = some (.slice B2 b.rides.length q2) ∧ wy.cell? ⟨w.heap.size + 1, 3, none⟩ = some (.slice B3 b.stays.length q3) from
    ⟨(hy.cell (p := ⟨w.heap.size, 0, none⟩) (by show w.heap.size < _; omega)).trans (Lib.cell_of_heap hA 0), (hy.cell (p := ⟨w.heap.size, 1, none⟩) (by show w.heap.size < _; omega)).trans (Lib.cell_of_heap hA 1), (hy.cell (p := ⟨w.heap.size, 2, none⟩) (by show w.heap.size < _; omega)).trans (Lib.cell_of_heap hA 2), (hy.cell (p := ⟨w.heap.size, 3, none⟩) (by show w.heap.size < _; omega)).trans (Lib.cell_of_heap hA 3), (hy.cell (p := ⟨w.heap.size + 1, 0, none⟩) (by show w.heap.size + 1 < _; omega)).trans (Lib.cell_of_heap hB 0), (hy.cell (p := ⟨w.heap.size + 1, 1, none⟩) (by show w.heap.size + 1 < _; omega)).trans (Lib.cell_of_heap hB 1), (hy.cell (p := ⟨w.heap.size + 1, 2, none⟩) (by show w.heap.size + 1 < _; omega)).trans (Lib.cell_of_heap hB 2), (hy.cell (p := ⟨w.heap.size + 1, 3, none⟩) (by show w.heap.size + 1 < _; omega)).trans (Lib.cell_of_heap hB 3)⟩))
  have HW1 := Lib.hid hw1
  clear hb1 hz1 hA hB hw1 e1 e2 e3 f1 f2 f3 ha hb hs
  generalize decide (a.stops = b.stops) = c1 at *
  generalize decide (a.rides = b.rides) = c2 at *
  generalize decide (a.stays = b.stays) = c3 at *
  obtain ⟨c0, h0⟩ : ∃ c, ((ba a.name).toList == (ba b.name).toList) = c := ⟨_, rfl⟩
  rw [h0] at EL
  go_enter Tryz.func38, Tryz.ntmps38
  go_upto_region 1 with fail
  rw [HW1.out]
  clear HW1
  obtain ⟨x0, x1, x2, x3, y0, y1, y2, y3⟩ := CE.out w1 (Below.refl _ _)
  cases c0
  · go_wp2_with fail
    go_ret
    exact ⟨ret_bool (by rw [EL.out]; simp), HBF.out _ (Below.refl _ _)⟩
  go_wp2_with fail
  refine (H1.out w1 (Below.refl w1.heap.size w1)).mono ?_
  intro e w3 hq0
  obtain ⟨rfl, hq⟩ := quiet_below hq0
  have HBw3 := Lib.hid ((Below.refl w1.heap.size w1).trans (hq.mono ((Below.refl w1.heap.size w1)).size))
  clear hq hq0 x0 x1 x2 x3 y0 y1 y2 y3
  obtain ⟨x0, x1, x2, x3, y0, y1, y2, y3⟩ := CE.out w3 HBw3.out
  cases c1
  · go_wp2_with fail
    go_ret
    exact ⟨ret_bool (by rw [EL.out]; simp), HBF.out _ HBw3.out⟩
  go_wp2_with fail
  refine (H2.out w3 HBw3.out).mono ?_
  intro e w4 hq0
  obtain ⟨rfl, hq⟩ := quiet_below hq0
  have HBw4 := Lib.hid (HBw3.out.trans (hq.mono (HBw3.out).size))
  clear hq hq0 x0 x1 x2 x3 y0 y1 y2 y3
  obtain ⟨x0, x1, x2, x3, y0, y1, y2, y3⟩ := CE.out w4 HBw4.out
  cases c2
  · go_wp2_with fail
    go_ret
    exact ⟨ret_bool (by rw [EL.out]; simp), HBF.out _ HBw4.out⟩
  go_wp2_with fail
  refine (H3.out w4 HBw4.out).mono ?_
  intro e w5 hq0
  obtain ⟨rfl, hq⟩ := quiet_below hq0
  have HBw5 := Lib.hid (HBw4.out.trans (hq.mono (HBw4.out).size))
  clear hq hq0 x0 x1 x2 x3 y0 y1 y2 y3
  obtain ⟨x0, x1, x2, x3, y0, y1, y2, y3⟩ := CE.out w5 HBw5.out
  cases c3
  · go_wp2_with fail
    go_ret
    exact ⟨ret_bool (by rw [EL.out]; simp), HBF.out _ HBw5.out⟩
  go_wp2_with fail
  go_ret
  exact ⟨ret_bool (by rw [EL.out]; simp), HBF.out _ HBw5.out⟩

structure SheetM.Small (x : SheetM) : Prop where
  st : x.stops.length ≤ 1048576
  pa : x.paths.length ≤ 1048576
  dr : x.doors.length ≤ 1048576
  tr : x.trips.length ≤ 1048576
  hz : x.hazs.length ≤ 1048576
  ro : x.routes.length ≤ 1048576
  each : ∀ r ∈ x.routes, r.Small
set_option maxHeartbeats 8000000 in
set_option maxRecDepth 100000 in
theorem sameSh_any (a b : SheetM) (w : World) {P Q : Nat → Prop} (ha : a.Good w P) (hb : b.Good w Q) (hs : a.Small) :
    Calls Tryz.prog 16 #[a.v, b.v] w fun e w' => e = .returned (.bool (decide (a.d = b.d))) ∧ Below w.heap.size w w' := by
  obtain ⟨w1, hw1⟩ : ∃ w1, (w.alloc (.cells a.c.toArray 29)).alloc (.cells b.c.toArray 29) = w1 := ⟨_, rfl⟩
  have hb1 : Below w.heap.size w w1 := by rw [← hw1]; exact ((Below.refl _ _).alloc (Nat.le_refl _) _).alloc (by simp) _
  have hz1 : w1.heap.size = w.heap.size + 2 := by rw [← hw1]; simp
  have hA : SheetAt w.heap.size a w1 := SheetAt.of (t := 29) (fr := (0, 0)) (by rw [← hw1, Below.heap_alloc _ _ _ (by simp)]; exact heap_alloc_new _ _)
  have hB : SheetAt (w.heap.size + 1) b w1 := SheetAt.of (t := 29) (fr := (0, 0)) (by
    rw [← hw1]
    have h := heap_alloc_new (w.alloc (.cells a.c.toArray 29)) (.cells b.c.toArray 29)
    rw [show (w.alloc (.cells a.c.toArray 29)).heap.size = w.heap.size + 1 by simp] at h
    exact h)
  have HBF := Lib.hid (fun (wy : World) (h : Below w1.heap.size w1 wy) => (show Below w.heap.size w wy from hb1.trans (h.mono hb1.size)))
  have H1 := Lib.hid (fun (wy : World) (h : Below w1.heap.size w1 wy) => sameStr_any a.vs b.vs a.stops b.stops wy (ha.below_ (HBF.out wy h)).stops (hb.below_ (HBF.out wy h)).stops hs.st)
  have H2 := Lib.hid (fun (wy : World) (h : Below w1.heap.size w1 wy) => samePath_any a.vp b.vp a.paths b.paths wy (ha.below_ (HBF.out wy h)).paths (hb.below_ (HBF.out wy h)).paths hs.pa)
  have H3 := Lib.hid (fun (wy : World) (h : Below w1.heap.size w1 wy) => sameDoor_any a.vd b.vd a.doors b.doors wy (ha.below_ (HBF.out wy h)).doors (hb.below_ (HBF.out wy h)).doors hs.dr)
  have H4 := Lib.hid (fun (wy : World) (h : Below w1.heap.size w1 wy) => sameTrip_any a.vt b.vt a.trips b.trips wy (ha.below_ (HBF.out wy h)).trips (hb.below_ (HBF.out wy h)).trips hs.tr)
  have H5 := Lib.hid (fun (wy : World) (h : Below w1.heap.size w1 wy) => sameHaz_any a.vh b.vh a.hazs b.hazs wy (ha.below_ (HBF.out wy h)).hazs (hb.below_ (HBF.out wy h)).hazs hs.hz)
  have HGA := Lib.hid (fun (wy : World) (h : Below w1.heap.size w1 wy) => ha.below_ (HBF.out wy h))
  have HGB := Lib.hid (fun (wy : World) (h : Below w1.heap.size w1 wy) => hb.below_ (HBF.out wy h))
  have HSM := Lib.hid hs.each
  have hro := hs.ro
  obtain ⟨As, cs, Ap, cp, Ad, cd, Ar, cr, At, ct, Ah, ch, es, ep, ed, er, et, eh⟩ := SheetAt.forms ha
  obtain ⟨Bs, ds, Bp, dp, Bd, dd, Br, dr, Bt, dt, Bh, dh, fs, fp, fd, fr, ft, fh⟩ := SheetAt.forms hb
  have EL := Lib.hid (show decide (a.d = b.d) = (((((((a.hor == b.hor) && decide (a.stops = b.stops)) && decide (a.paths = b.paths)) && decide (a.doors = b.doors)) && decide (a.trips = b.trips)) && decide (a.hazs = b.hazs)) && decide (a.d.routes = b.d.routes)) by
    rw [Bool.eq_iff_iff]
    simp [SheetM.d, and_assoc]
    intro _ _ _ _
    exact ⟨fun ⟨h5, h6, h7⟩ => ⟨h6, h7, decide_eq_true h5⟩, fun ⟨h6, h7, h5⟩ => ⟨of_decide_eq_true h5, h6, h7⟩⟩)
  have CE := Lib.hid (fun (wy : World) (hy : Below w1.heap.size w1 wy) => (show (wy.cell? ⟨w.heap.size, 0, none⟩ = some (.int .i64 a.hor) ∧ wy.cell? ⟨w.heap.size, 1, none⟩ = some (.slice As a.stops.length cs) ∧ wy.cell? ⟨w.heap.size, 2, none⟩ = some (.slice Ap a.paths.length cp) ∧ wy.cell? ⟨w.heap.size, 3, none⟩ = some (.slice Ad a.doors.length cd) ∧ wy.cell? ⟨w.heap.size, 4, none⟩ = some (.slice Ar a.routes.length cr) ∧ wy.cell? ⟨w.heap.size, 5, none⟩ = some (.slice At a.trips.length ct) ∧ wy.cell? ⟨w.heap.size, 6, none⟩ = some (.slice Ah a.hazs.length ch)) ∧
      (wy.cell? ⟨w.heap.size + 1, 0, none⟩ = some (.int .i64 b.hor) ∧ wy.cell? ⟨w.heap.size + 1, 1, none⟩ = some (.slice Bs b.stops.length ds) ∧ wy.cell? ⟨w.heap.size + 1, 2, none⟩ = some (.slice Bp b.paths.length dp) ∧ wy.cell? ⟨w.heap.size + 1, 3, none⟩ = some (.slice Bd b.doors.length dd) ∧ wy.cell? ⟨w.heap.size + 1, 4, none⟩ = some (.slice Br b.routes.length dr) ∧ wy.cell? ⟨w.heap.size + 1, 5, none⟩ = some (.slice Bt b.trips.length dt) ∧ wy.cell? ⟨w.heap.size + 1, 6, none⟩ = some (.slice Bh b.hazs.length dh)) by
    have h1 := hA.below hy (by omega)
    have h2 := hB.below hy (by omega)
    unfold SheetAt at h1 h2
    rw [es, ep, ed, er, et, eh] at h1
    rw [fs, fp, fd, fr, ft, fh] at h2
    exact ⟨h1, h2⟩))
  unfold SheetM.c at hw1
  rw [es, ep, ed, er, et, eh, fs, fp, fd, fr, ft, fh] at hw1
  unfold SheetM.v
  rw [es, fs] at H1
  rw [ep, fp] at H2
  rw [ed, fd] at H3
  rw [et, ft] at H4
  rw [eh, fh] at H5
  rw [es, ep, ed, er, et, eh, fs, fp, fd, fr, ft, fh]
  have HER := Lib.hid er
  have HFR := Lib.hid fr
  have HW1 := Lib.hid hw1
  have HZ1 := Lib.hid hz1
  clear hb1 hz1 hA hB hw1 es ep ed er et eh fs fp fd fr ft fh ha hb hs
  have LA : a.d.routes.length = a.routes.length := by simp [SheetM.d]
  have LB : b.d.routes.length = b.routes.length := by simp [SheetM.d]
  have HLA := Lib.hid LA
  have HLB := Lib.hid LB
  clear LA LB
  generalize decide (a.stops = b.stops) = c1 at *
  generalize decide (a.paths = b.paths) = c2 at *
  generalize decide (a.doors = b.doors) = c3 at *
  generalize decide (a.trips = b.trips) = c4 at *
  generalize decide (a.hazs = b.hazs) = c5 at *
  obtain ⟨c0, h0⟩ : ∃ c, (a.hor == b.hor) = c := ⟨_, rfl⟩
  have h0' : (a.hor != b.hor) = !c0 := by rw [bne, h0]
  rw [h0] at EL
  go_enter Tryz.func16, Tryz.ntmps16
  go_upto_region 1 with fail
  rw [HW1.out]
  clear HW1
  obtain ⟨⟨x0, x1, x2, x3, x4, x5, x6⟩, y0, y1, y2, y3, y4, y5, y6⟩ := CE.out w1 (Below.refl _ _)
  cases c0
  · simp only [Bool.not_false] at h0'
    go_wp2_with fail
    go_ret
    exact ⟨ret_bool (by rw [EL.out]; simp), HBF.out _ (Below.refl _ _)⟩
  simp only [Bool.not_true] at h0'
  go_wp2_with fail
  refine (H1.out w1 (Below.refl w1.heap.size w1)).mono ?_
  intro e w3 hq0
  obtain ⟨rfl, hq⟩ := quiet_below hq0
  have HBw3 := Lib.hid ((Below.refl w1.heap.size w1).trans (hq.mono ((Below.refl w1.heap.size w1)).size))
  clear hq hq0 x0 x1 x2 x3 x4 x5 x6 y0 y1 y2 y3 y4 y5 y6
  obtain ⟨⟨x0, x1, x2, x3, x4, x5, x6⟩, y0, y1, y2, y3, y4, y5, y6⟩ := CE.out w3 HBw3.out
  cases c1
  · go_wp2_with fail
    go_ret
    exact ⟨ret_bool (by rw [EL.out]; simp), HBF.out _ HBw3.out⟩
  go_wp2_with fail
  refine (H2.out w3 HBw3.out).mono ?_
  intro e w4 hq0
  obtain ⟨rfl, hq⟩ := quiet_below hq0
  have HBw4 := Lib.hid (HBw3.out.trans (hq.mono (HBw3.out).size))
  clear hq hq0 x0 x1 x2 x3 x4 x5 x6 y0 y1 y2 y3 y4 y5 y6
  obtain ⟨⟨x0, x1, x2, x3, x4, x5, x6⟩, y0, y1, y2, y3, y4, y5, y6⟩ := CE.out w4 HBw4.out
  cases c2
  · go_wp2_with fail
    go_ret
    exact ⟨ret_bool (by rw [EL.out]; simp), HBF.out _ HBw4.out⟩
  go_wp2_with fail
  refine (H3.out w4 HBw4.out).mono ?_
  intro e w5 hq0
  obtain ⟨rfl, hq⟩ := quiet_below hq0
  have HBw5 := Lib.hid (HBw4.out.trans (hq.mono (HBw4.out).size))
  clear hq hq0 x0 x1 x2 x3 x4 x5 x6 y0 y1 y2 y3 y4 y5 y6
  obtain ⟨⟨x0, x1, x2, x3, x4, x5, x6⟩, y0, y1, y2, y3, y4, y5, y6⟩ := CE.out w5 HBw5.out
  cases c3
  · go_wp2_with fail
    go_ret
    exact ⟨ret_bool (by rw [EL.out]; simp), HBF.out _ HBw5.out⟩
  go_wp2_with fail
  refine (H4.out w5 HBw5.out).mono ?_
  intro e w6 hq0
  obtain ⟨rfl, hq⟩ := quiet_below hq0
  have HBw6 := Lib.hid (HBw5.out.trans (hq.mono (HBw5.out).size))
  clear hq hq0 x0 x1 x2 x3 x4 x5 x6 y0 y1 y2 y3 y4 y5 y6
  obtain ⟨⟨x0, x1, x2, x3, x4, x5, x6⟩, y0, y1, y2, y3, y4, y5, y6⟩ := CE.out w6 HBw6.out
  cases c4
  · go_wp2_with fail
    go_ret
    exact ⟨ret_bool (by rw [EL.out]; simp), HBF.out _ HBw6.out⟩
  go_wp2_with fail
  refine (H5.out w6 HBw6.out).mono ?_
  intro e w7 hq0
  obtain ⟨rfl, hq⟩ := quiet_below hq0
  have HB7 := Lib.hid (HBw6.out.trans (hq.mono HBw6.out.size))
  clear hq hq0 x0 x1 x2 x3 x4 x5 x6 y0 y1 y2 y3 y4 y5 y6 HBw3 HBw4 HBw5 HBw6
  obtain ⟨⟨x0, x1, x2, x3, x4, x5, x6⟩, y0, y1, y2, y3, y4, y5, y6⟩ := CE.out w7 HB7.out
  cases c5
  · go_wp2_with fail
    go_ret
    exact ⟨ret_bool (by rw [EL.out]; simp), HBF.out _ HB7.out⟩
  simp only [Bool.true_and, Bool.and_true] at EL
  clear H1 H2 H3 H4 H5
  by_cases hlen : a.routes.length = b.routes.length
  · have hd : ((a.routes.length : Int) == (b.routes.length : Int)) = true := beq_iff_eq.2 (by omega)
    have hd' : ((a.routes.length : Int) != (b.routes.length : Int)) = false := by rw [bne, hd]; rfl
    have Hlen := Lib.hid hlen
    clear hlen
    go_wp2_with fail
    clear x0 x1 x2 x3 x5 x6 y0 y1 y2 y3 y5 y6 x4 y4 hd hd'
    go_loopw [5] (fun s wr => ∃ k : Nat, k ≤ a.routes.length ∧ s = .int .i64 k ∧ Hid (a.d.routes.take k = b.d.routes.take k) ∧ Below w1.heap.size w1 wr) (fun s _ => a.routes.length - (intOf s).toNat)
    case atStart => exact ⟨0, Nat.zero_le _, rfl, Lib.hid rfl, HB7.out⟩
    case round =>
      clear HB7
      obtain ⟨k, hk, rfl, hkk, hbl⟩ := hrel
      have HBL := Lib.hid hbl
      clear hbl
      obtain ⟨⟨_, _, _, _, x4, _, _⟩, _, _, _, _, y4, _, _⟩ := CE.out wr HBL.out
      by_cases hlt : k < a.routes.length
      · have hlt2 : k < b.routes.length := by rw [← Hlen.out]; exact hlt
        have hra := (HGA.out wr HBL.out).routes
        have hrb := (HGB.out wr HBL.out).routes
        rw [HER.out] at hra
        rw [HFR.out] at hrb
        obtain ⟨b1, o1, p1, e1, _, _, hl1, _, hx⟩ := hra.at_ hlt
        obtain ⟨b2, o2, p2, e2, _, _, hl2, _, hy⟩ := hrb.at_ hlt2
        injection e1 with e1 e1' e1''
        injection e2 with e2 e2' e2''
        subst e1 e2
        clear e1' e1'' e2' e2''
        have gx := (HGA.out wr HBL.out).each a.routes[k] (List.getElem_mem hlt)
        have gy := (HGB.out wr HBL.out).each b.routes[k] (List.getElem_mem hlt2)
        have sx := HSM.out a.routes[k] (List.getElem_mem hlt)
        have la2 : k < a.d.routes.length := by rw [HLA.out]; exact hlt
        have lb2 : k < b.d.routes.length := by rw [HLB.out]; exact hlt2
        have ax : a.d.routes[k] = a.routes[k].d := by simp [SheetM.d]
        have bx : b.d.routes[k] = b.routes[k].d := by simp [SheetM.d]
        have SS := Lib.hid (show a.routes[k].d = b.routes[k].d → a.d.routes.take (k + 1) = b.d.routes.take (k + 1) from fun h => same_step la2 lb2 hkk.out (by rw [ax, bx]; exact h))
        have SN := Lib.hid (show a.routes[k].d ≠ b.routes[k].d → a.d.routes ≠ b.d.routes from fun h => same_ne la2 lb2 (by rw [ax, bx]; exact h))
        generalize a.routes[k] = x at *
        generalize b.routes[k] = y at *
        have HC := fun (wy : World) (h : Below wr.heap.size wr wy) => sameR_any x y wy (gx.below_ h) (gy.below_ h) sx
        obtain ⟨A1, z1, g1, _, _⟩ := gx.stops.shape
        obtain ⟨A2, z2, g2, _, _⟩ := gx.rides.shape
        obtain ⟨A3, z3, g3, _, _⟩ := gx.stays.shape
        obtain ⟨B1, t1, k1, _, _⟩ := gy.stops.shape
        obtain ⟨B2, t2, k2, _, _⟩ := gy.rides.shape
        obtain ⟨B3, t3, k3, _, _⟩ := gy.stays.shape
        unfold RouteM.v at HC
        rw [g1, g2, g3, k1, k2, k3] at HC
        have hx0 : wr.cell? ⟨b1, o1 + k * 4, none⟩ = some (.string (ba x.name)) := by simpa using hx 0 _ rfl
        have hx1 : wr.cell? ⟨b1, o1 + k * 4 + 1, none⟩ = some x.vs := by simpa using hx 1 _ rfl
        have hx2 : wr.cell? ⟨b1, o1 + k * 4 + 2, none⟩ = some x.vr := by simpa using hx 2 _ rfl
        have hx3 : wr.cell? ⟨b1, o1 + k * 4 + 3, none⟩ = some x.vy := by simpa using hx 3 _ rfl
        have hy0 : wr.cell? ⟨b2, o2 + k * 4, none⟩ = some (.string (ba y.name)) := by simpa using hy 0 _ rfl
        have hy1 : wr.cell? ⟨b2, o2 + k * 4 + 1, none⟩ = some y.vs := by simpa using hy 1 _ rfl
        have hy2 : wr.cell? ⟨b2, o2 + k * 4 + 2, none⟩ = some y.vr := by simpa using hy 2 _ rfl
        have hy3 : wr.cell? ⟨b2, o2 + k * 4 + 3, none⟩ = some y.vy := by simpa using hy 3 _ rfl
        rw [g1] at hx1
        rw [g2] at hx2
        rw [g3] at hx3
        rw [k1] at hy1
        rw [k2] at hy2
        rw [k3] at hy3
        have hzr : w.heap.size + 1 < wr.heap.size := by have := HBL.out.size; have := HZ1.out; omega
        have HX := Lib.hid (fun (wy : World) (h : Below wr.heap.size wr wy) => (show wy.cell? ⟨w.heap.size, 4, none⟩ = some (.slice (some ⟨b1, o1, none⟩) a.routes.length cr) ∧ wy.cell? ⟨w.heap.size + 1, 4, none⟩ = some (.slice (some ⟨b2, o2, none⟩) b.routes.length dr) ∧ wy.cell? ⟨b1, o1 + k * 4, none⟩ = some (.string (ba x.name)) ∧ wy.cell? ⟨b1, o1 + k * 4 + 1, none⟩ = some (.slice A1 x.stops.length z1) ∧ wy.cell? ⟨b1, o1 + k * 4 + 2, none⟩ = some (.slice A2 x.rides.length z2) ∧ wy.cell? ⟨b1, o1 + k * 4 + 3, none⟩ = some (.slice A3 x.stays.length z3) ∧ wy.cell? ⟨b2, o2 + k * 4, none⟩ = some (.string (ba y.name)) ∧ wy.cell? ⟨b2, o2 + k * 4 + 1, none⟩ = some (.slice B1 y.stops.length t1) ∧ wy.cell? ⟨b2, o2 + k * 4 + 2, none⟩ = some (.slice B2 y.rides.length t2) ∧ wy.cell? ⟨b2, o2 + k * 4 + 3, none⟩ = some (.slice B3 y.stays.length t3) from
          ⟨(h.cell (p := ⟨w.heap.size, 4, none⟩) (by show w.heap.size < _; omega)).trans x4, (h.cell (p := ⟨w.heap.size + 1, 4, none⟩) hzr).trans y4, (h.cell (p := ⟨b1, _, none⟩) hl1).trans hx0, (h.cell (p := ⟨b1, _, none⟩) hl1).trans hx1, (h.cell (p := ⟨b1, _, none⟩) hl1).trans hx2, (h.cell (p := ⟨b1, _, none⟩) hl1).trans hx3, (h.cell (p := ⟨b2, _, none⟩) hl2).trans hy0, (h.cell (p := ⟨b2, _, none⟩) hl2).trans hy1, (h.cell (p := ⟨b2, _, none⟩) hl2).trans hy2, (h.cell (p := ⟨b2, _, none⟩) hl2).trans hy3⟩))
        have HCC := Lib.hid HC
        have q1 : (0 : Int) ≤ (k : Int) := by omega
        have q2 : (k : Int) < (a.routes.length : Int) := by omega
        have q3 : (k : Int) < (b.routes.length : Int) := by omega
        have HLT2 := Lib.hid hlt
        clear HC hx hy hra hrb gx gy sx g1 g2 g3 k1 k2 k3 hx0 hx1 hx2 hx3 hy0 hy1 hy2 hy3 ax bx hkk la2 lb2 hlt hlt2 hl1 hl2 y4
        go_upto_region 6 with fail
        have hSw : Below wr.heap.size wr wr := Below.refl _ _
        refine wp_region_kinds (fun wy => Below wr.heap.size wr wy) [10] [] [1, 4, 6, 9] [0, 2, 3, 5, 7, 8, 11] [0, 1, 2, 3, 4, 5, 6, 7, 8, 9, 10, 11] (by kernel_rfl) (by kernel_rfl) (fun w n h => below_drewN h n) ?_
        repeat (first | (refine wpKind_free (v := ?_) (by rfl) rfl (by rfl) ?_ ?_; rotate_left 1; (focus (intro wy; go_simp; try with_reducible rfl; done)); try simp only [Act.put, List.setIfInBounds_toArray, List.set_cons_zero, List.set_cons_succ]) | (refine wpKind_held (v := ?_) (by rfl) rfl (by rfl) hSw ?_ ?_; rotate_left 1; (focus (intro wy hSy; obtain ⟨s0, s1, s2, s3, s4, s5, s6, s7, s8, s9⟩ := HX.out wy hSy; go_simp; try with_reducible rfl; done)); try simp only [Act.put, List.setIfInBounds_toArray, List.set_cons_zero, List.set_cons_succ]))
        clear hSw
        refine wpKind_keeps (by rfl) rfl (fun n1 => ?_)
        go_wp2_with fail
        refine (HCC.out (wr.drewN n1) (below_drewN (Below.refl _ _) n1)).mono ?_
        rintro e w8 ⟨rfl, hb8⟩
        have hSw : Below wr.heap.size wr w8 := (below_drewN (Below.refl _ _) n1).trans hb8
        obtain ⟨cv, hv⟩ : ∃ cv, decide (x.d = y.d) = cv := ⟨_, rfl⟩
        rw [hv]
        go_wp2_with fail
        show _ ∧ _
        refine ⟨hSw, ?_⟩
        cases cv
        · have E := Lib.hid (decide_eq_false (SN.out (of_decide_eq_false hv)))
          clear hv
          repeat (first | (refine wpKind_free (v := ?_) (by rfl) rfl (by rfl) ?_ ?_; rotate_left 1; (focus (intro wy; go_simp; try with_reducible rfl; done)); try simp only [Act.put, List.setIfInBounds_toArray, List.set_cons_zero, List.set_cons_succ]) | (refine wpKind_held (v := ?_) (by rfl) rfl (by rfl) hSw ?_ ?_; rotate_left 1; (focus (intro wy hSy; obtain ⟨s0, s1, s2, s3, s4, s5, s6, s7, s8, s9⟩ := HX.out wy hSy; go_simp; try with_reducible rfl; done)); try simp only [Act.put, List.setIfInBounds_toArray, List.set_cons_zero, List.set_cons_succ]))
          refine wpKind_nil fun n2 => ?_
          have HB9 := Lib.hid (HBL.out.trans ((below_drewN hSw n2).mono HBL.out.size))
          clear hSw
          go_wp2_with fail
          go_ret
          exact ⟨ret_bool (EL.out.trans E.out).symm, HBF.out _ HB9.out⟩
        · have E := Lib.hid (SS.out (of_decide_eq_true hv))
          clear hv
          repeat (first | (refine wpKind_free (v := ?_) (by rfl) rfl (by rfl) ?_ ?_; rotate_left 1; (focus (intro wy; go_simp; try with_reducible rfl; done)); try simp only [Act.put, List.setIfInBounds_toArray, List.set_cons_zero, List.set_cons_succ]) | (refine wpKind_held (v := ?_) (by rfl) rfl (by rfl) hSw ?_ ?_; rotate_left 1; (focus (intro wy hSy; obtain ⟨s0, s1, s2, s3, s4, s5, s6, s7, s8, s9⟩ := HX.out wy hSy; go_simp; try with_reducible rfl; done)); try simp only [Act.put, List.setIfInBounds_toArray, List.set_cons_zero, List.set_cons_succ]))
          refine wpKind_nil fun n2 => ?_
          have HB9 := Lib.hid (HBL.out.trans ((below_drewN hSw n2).mono HBL.out.size))
          clear hSw
          go_wp2_with fail
          go_roundw
          case rel =>
            exact ⟨k + 1, by have := HLT2.out; omega, by go_num, E, HB9.out⟩
          case measure => have := HLT2.out; simp [intOf]; omega
      · have hke : k = a.routes.length := by omega
        subst hke
        have E := Lib.hid (same_eq (la := a.d.routes) (lb := b.d.routes) (by rw [HLA.out, HLB.out]; exact Hlen.out) (by rw [HLA.out]; exact hkk.out))
        clear hkk
        go_wp2_with fail
        go_ret
        exact ⟨ret_bool (EL.out.trans (decide_eq_true E.out)).symm, HBF.out _ HBL.out⟩
  · have hne : a.d.routes ≠ b.d.routes := fun h => hlen (by rw [← HLA.out, ← HLB.out, h])
    have E := Lib.hid (EL.out.trans (decide_eq_false hne))
    have hd : ((a.routes.length : Int) == (b.routes.length : Int)) = false := beq_eq_false_iff_ne.2 (by omega)
    have hd' : ((a.routes.length : Int) != (b.routes.length : Int)) = true := by rw [bne, hd]; rfl
    clear hne hlen
    go_wp2_with fail
    go_ret
    exact ⟨ret_bool E.out.symm, HBF.out _ HB7.out⟩
end Go.Proofs.YteonefgbdphmiaaGreatDoor
