/- The law SheetNames: its walk. Printed by wip/bin/genwn.py. -/
import Derived.Test.YteonefgbdphmiaaGreatDoorWl
import Derived.Test.YteonefgbdphmiaaGreatDoorWs
import Derived.Test.YteonefgbdphmiaaGreatDoorPm
import Derived.Test.YteonefgbdphmiaaGreatDoorCk
namespace Go.Proofs.YteonefgbdphmiaaGreatDoor
open Go.RowKit
theorem parn0 : parseS ⟨#[]⟩ = (zeroD, ⟨7, 1, 1⟩) := by decide +kernel
theorem parn1 : parseS ⟨#[104, 111, 114, 105, 122, 111, 110, 32, 57, 10, 104, 111, 114, 105, 122, 111, 110, 32, 57]⟩ = (zeroD, ⟨7, 2, 1⟩) := by decide +kernel
theorem parn2 : parseS ⟨#[104, 111, 114, 105, 122, 111, 110, 32, 57, 10, 115, 116, 111, 112]⟩ = (zeroD, ⟨7, 2, 5⟩) := by decide +kernel
theorem parn3 : parseS ⟨#[104, 111, 114, 105, 122, 111, 110, 32, 57, 10, 114, 111, 117, 116, 101, 32, 114, 32, 97, 32, 53, 32, 98, 32, 115, 116, 97, 121, 32, 50]⟩ = (zeroD, ⟨7, 2, 21⟩) := by decide +kernel
theorem parn4 : parseS ⟨#[104, 111, 114, 105, 122, 111, 110, 32, 57, 10, 112, 97, 116, 104, 32, 112, 32, 97, 32, 98, 32, 51, 32, 52]⟩ = (zeroD, ⟨7, 2, 14⟩) := by decide +kernel
theorem parn5 : parseS ⟨#[104, 111, 114, 105, 122, 111, 110, 32, 57, 32, 35, 32, 110, 105, 110, 101, 10, 10, 100, 111, 111, 114, 32, 100, 32, 97, 32, 98, 32, 51, 32, 102, 114, 111, 109, 32, 49, 32, 101, 118, 101, 114, 121, 32, 48, 32, 111, 112, 101, 110, 32, 50, 10, 116, 114, 105, 112, 32, 116, 32, 111, 102, 32, 114, 32, 102, 114, 111, 109, 32, 49, 32, 101, 118, 101, 114, 121, 32, 50, 32, 117, 110, 116, 105, 108, 32, 51, 10, 104, 97, 122, 97, 114, 100, 32, 104, 32, 111, 110, 32, 97, 32, 102, 114, 111, 109, 32, 52, 32, 101, 118, 101, 114, 121, 32, 53, 32, 99, 108, 111, 115, 101, 100, 32, 53]⟩ = (⟨9, [], [], [⟨[100], [97], [98], 3, ⟨1, 0, 2⟩⟩], [], [⟨[116], [114], 1, 2, 3⟩], [⟨[104], [97], ⟨4, 5, 5⟩⟩]⟩, ⟨0, 0, 0⟩) := by decide +kernel
theorem fen0 (W : World) : (Go.binOp BinOp.eql 39 (.agg #[.int .i64 7, .int .i64 1, .int .i64 1]) (.agg #[.int .i64 7, .int .i64 1, .int .i64 1])).run Tryz.prog W = .ok (.bool true) W := by kernel_rfl
theorem fen1 (W : World) : (Go.binOp BinOp.eql 39 (.agg #[.int .i64 7, .int .i64 2, .int .i64 1]) (.agg #[.int .i64 7, .int .i64 2, .int .i64 1])).run Tryz.prog W = .ok (.bool true) W := by kernel_rfl
theorem fen2 (W : World) : (Go.binOp BinOp.eql 39 (.agg #[.int .i64 7, .int .i64 2, .int .i64 5]) (.agg #[.int .i64 7, .int .i64 2, .int .i64 5])).run Tryz.prog W = .ok (.bool true) W := by kernel_rfl
theorem fen3 (W : World) : (Go.binOp BinOp.eql 39 (.agg #[.int .i64 7, .int .i64 2, .int .i64 21]) (.agg #[.int .i64 7, .int .i64 2, .int .i64 21])).run Tryz.prog W = .ok (.bool true) W := by kernel_rfl
theorem fen4 (W : World) : (Go.binOp BinOp.eql 39 (.agg #[.int .i64 7, .int .i64 2, .int .i64 14]) (.agg #[.int .i64 7, .int .i64 2, .int .i64 14])).run Tryz.prog W = .ok (.bool true) W := by kernel_rfl
theorem te (W : World) : (Go.binOp BinOp.eql 48 (.agg #[.int .i64 1, .int .i64 0, .int .i64 2]) (.agg #[.int .i64 1, .int .i64 0, .int .i64 2])).run Tryz.prog W = .ok (.bool true) W := by kernel_rfl
def lm1 : SheetM := { zeroM with hor := -1 }
def lm2 (v : Value) : SheetM := { zeroM with stops := [[111, 112, 101, 110]], vs := v }
def lr3 (v : Value) : RouteM := ⟨[114], v, .slice none 0 0, .slice none 0 0, [[97]], [], []⟩
def lm3 (u v : Value) : SheetM := { zeroM with routes := [lr3 u], vr := v }
theorem lm1_any (W : World) (hT : Tabs W) : Calls Tryz.prog 20 #[lm1.v] W fun e w' => e = .returned (.int .i64 9) ∧ Below W.heap.size W w' := by
  have h := check_any W lm1 (P := fun _ => True) ⟨Sl.nil_, Sl.nil_, Sl.nil_, Sl.nil_, (fun r hr => by cases hr), Sl.nil_, Sl.nil_⟩ ⟨by decide, by decide, by decide, by decide, by decide, by decide, fun r hr => by cases hr⟩ (by decide) hT (fun s hs => by cases hs)
  rw [show checkD lm1.d = 9 by decide] at h
  exact h
theorem lm2_any (W : World) (v : Value) (hT : Tabs W) (hs : Sl nc 1 W v [[111, 112, 101, 110]] (fun _ => True)) : Calls Tryz.prog 20 #[(lm2 v).v] W fun e w' => e = .returned (.int .i64 7) ∧ Below W.heap.size W w' := by
  have e : (lm2 v).d = ⟨0, [[111, 112, 101, 110]], [], [], [], [], []⟩ := rfl
  have h := check_any W (lm2 v) (P := fun _ => True) ⟨hs, Sl.nil_, Sl.nil_, Sl.nil_, (fun r hr => by cases hr), Sl.nil_, Sl.nil_⟩ ⟨by simp [lm2], Nat.zero_le _, Nat.zero_le _, Nat.zero_le _, Nat.zero_le _, Nat.zero_le _, fun r hr => by cases hr⟩ (by rw [e]; decide) hT (fun s hs => by rw [e] at hs; revert s; decide)
  rw [e, show checkD ⟨0, [[111, 112, 101, 110]], [], [], [], [], []⟩ = 7 by decide] at h
  exact h
theorem lm3_any (W : World) (u v : Value) (hT : Tabs W) (hs : Sl nc 1 W u [[97]] (fun _ => True)) (hr : Sl rc 4 W v [lr3 u] (fun _ => True)) : Calls Tryz.prog 20 #[(lm3 u v).v] W fun e w' => e = .returned (.int .i64 2) ∧ Below W.heap.size W w' := by
  have e : (lm3 u v).d = ⟨0, [], [], [], [⟨[114], [[97]], [], []⟩], [], []⟩ := rfl
  have h := check_any W (lm3 u v) (P := fun _ => True) ⟨Sl.nil_, Sl.nil_, Sl.nil_, hr, (fun r hr => by rw [show (lm3 u v).routes = [lr3 u] from rfl, List.mem_singleton] at hr; subst hr; exact ⟨hs, Sl.nil_, Sl.nil_⟩), Sl.nil_, Sl.nil_⟩ ⟨Nat.zero_le _, Nat.zero_le _, Nat.zero_le _, by simp [lm3], Nat.zero_le _, Nat.zero_le _, fun r hr => by rw [show (lm3 u v).routes = [lr3 u] from rfl, List.mem_singleton] at hr; subst hr; simp [lr3]⟩ (by rw [e]; decide) hT (fun s hs => by rw [e] at hs; revert s; decide)
  rw [e, show checkD ⟨0, [], [], [], [⟨[114], [[97]], [], []⟩], [], []⟩ = 2 by decide] at h
  exact h
set_option maxHeartbeats 8000000 in
set_option maxRecDepth 100000 in
theorem snames_any (w : World) (hT : Tabs w) (hL : LibOk w) : Calls Tryz.prog 6 #[] w fun e w' => e = .returned (.bool true) ∧ Below w.heap.size w w' := by
  have HT := Lib.hid hT
  have HL := Lib.hid hL
  clear hT hL
  have HP0 := Lib.hid (fun W h1 h2 => sparse_any ⟨#[]⟩ W h1 h2)
  rw [parn0] at HP0
  dsimp only [FaultD.v] at HP0
  have HP1 := Lib.hid (fun W h1 h2 => sparse_any ⟨#[104, 111, 114, 105, 122, 111, 110, 32, 57, 10, 104, 111, 114, 105, 122, 111, 110, 32, 57]⟩ W h1 h2)
  rw [parn1] at HP1
  dsimp only [FaultD.v] at HP1
  have HP2 := Lib.hid (fun W h1 h2 => sparse_any ⟨#[104, 111, 114, 105, 122, 111, 110, 32, 57, 10, 115, 116, 111, 112]⟩ W h1 h2)
  rw [parn2] at HP2
  dsimp only [FaultD.v] at HP2
  have HP3 := Lib.hid (fun W h1 h2 => sparse_any ⟨#[104, 111, 114, 105, 122, 111, 110, 32, 57, 10, 114, 111, 117, 116, 101, 32, 114, 32, 97, 32, 53, 32, 98, 32, 115, 116, 97, 121, 32, 50]⟩ W h1 h2)
  rw [parn3] at HP3
  dsimp only [FaultD.v] at HP3
  have HP4 := Lib.hid (fun W h1 h2 => sparse_any ⟨#[104, 111, 114, 105, 122, 111, 110, 32, 57, 10, 112, 97, 116, 104, 32, 112, 32, 97, 32, 98, 32, 51, 32, 52]⟩ W h1 h2)
  rw [parn4] at HP4
  dsimp only [FaultD.v] at HP4
  have HP5 := Lib.hid (fun W h1 h2 => sparse_any ⟨#[104, 111, 114, 105, 122, 111, 110, 32, 57, 32, 35, 32, 110, 105, 110, 101, 10, 10, 100, 111, 111, 114, 32, 100, 32, 97, 32, 98, 32, 51, 32, 102, 114, 111, 109, 32, 49, 32, 101, 118, 101, 114, 121, 32, 48, 32, 111, 112, 101, 110, 32, 50, 10, 116, 114, 105, 112, 32, 116, 32, 111, 102, 32, 114, 32, 102, 114, 111, 109, 32, 49, 32, 101, 118, 101, 114, 121, 32, 50, 32, 117, 110, 116, 105, 108, 32, 51, 10, 104, 97, 122, 97, 114, 100, 32, 104, 32, 111, 110, 32, 97, 32, 102, 114, 111, 109, 32, 52, 32, 101, 118, 101, 114, 121, 32, 53, 32, 99, 108, 111, 115, 101, 100, 32, 53]⟩ W h1 h2)
  rw [parn5] at HP5
  dsimp only [FaultD.v] at HP5
  go_enter Tryz.func6, Tryz.ntmps6
  go_wp2_with fail
  refine (HP0.out w HT.out HL.out).mono ?_
  rintro e w1 ⟨k, hxd, rfl, hgx, hb⟩
  have HBw1 := Lib.hid hb
  clear hb hxd HP0
  obtain ⟨Ks, Ks_, Kp, Kp_, Kd, Kd_, Kr, Kr_, Kt, Kt_, Kh, Kh_, eks, ekp, ekd, ekr, ekt, ekh⟩ := SheetAt.forms hgx
  have Vk : k.v = .agg #[.int .i64 k.hor, .slice Ks k.stops.length Ks_, .slice Kp k.paths.length Kp_, .slice Kd k.doors.length Kd_, .slice Kr k.routes.length Kr_, .slice Kt k.trips.length Kt_, .slice Kh k.hazs.length Kh_] := by
    unfold SheetM.v; rw [eks, ekp, ekd, ekr, ekt, ekh]
  rw [Vk]
  have HVk := Lib.hid Vk
  have HGk := Lib.hid hgx
  have HFk := Lib.hid (show k.vs = .slice Ks k.stops.length Ks_ ∧ k.vp = .slice Kp k.paths.length Kp_ ∧ k.vd = .slice Kd k.doors.length Kd_ ∧ k.vr = .slice Kr k.routes.length Kr_ ∧ k.vt = .slice Kt k.trips.length Kt_ ∧ k.vh = .slice Kh k.hazs.length Kh_ from ⟨eks, ekp, ekd, ekr, ekt, ekh⟩)
  clear Vk hgx eks ekp ekd ekr ekt ekh
  go_upto_region 2 with fail
  obtain ⟨w2, hwa⟩ : ∃ wa, (w1.alloc (.cells #[.int .i64 k.hor, .slice Ks k.stops.length Ks_, .slice Kp k.paths.length Kp_, .slice Kd k.doors.length Kd_, .slice Kr k.routes.length Kr_, .slice Kt k.trips.length Kt_, .slice Kh k.hazs.length Kh_] 29)).alloc (.cells #[.int .i64 7, .int .i64 1, .int .i64 1] 39) = wa := ⟨_, rfl⟩
  have hba : Below w1.heap.size w1 w2 := by rw [← hwa]; exact ((Below.refl _ _).alloc (Nat.le_refl _) _).alloc (by simp) _
  have hza : w2.heap.size = w1.heap.size + 2 := by rw [← hwa]; simp
  have hA : w2.heap[w1.heap.size]? = some (.cells #[.int .i64 k.hor, .slice Ks k.stops.length Ks_, .slice Kp k.paths.length Kp_, .slice Kd k.doors.length Kd_, .slice Kr k.routes.length Kr_, .slice Kt k.trips.length Kt_, .slice Kh k.hazs.length Kh_] 29 (0, 0)) := by rw [← hwa, Below.heap_alloc _ _ _ (by simp)]; exact heap_alloc_new _ _
  have hB : w2.heap[w1.heap.size + 1]? = some (.cells #[.int .i64 7, .int .i64 1, .int .i64 1] 39 (0, 0)) := by
    rw [← hwa]
    have h := heap_alloc_new (w1.alloc (.cells #[.int .i64 k.hor, .slice Ks k.stops.length Ks_, .slice Kp k.paths.length Kp_, .slice Kd k.doors.length Kd_, .slice Kr k.routes.length Kr_, .slice Kt k.trips.length Kt_, .slice Kh k.hazs.length Kh_] 29)) (.cells #[.int .i64 7, .int .i64 1, .int .i64 1] 39)
    rw [show (w1.alloc (.cells #[.int .i64 k.hor, .slice Ks k.stops.length Ks_, .slice Kp k.paths.length Kp_, .slice Kd k.doors.length Kd_, .slice Kr k.routes.length Kr_, .slice Kt k.trips.length Kt_, .slice Kh k.hazs.length Kh_] 29)).heap.size = w1.heap.size + 1 by simp] at h
    exact h
  have Ck := Lib.hid (fun (wy : World) (h : Below w2.heap.size w2 wy) => (show wy.cell? ⟨w1.heap.size, 0, none⟩ = some (.int .i64 k.hor) ∧ wy.cell? ⟨w1.heap.size, 1, none⟩ = some (.slice Ks k.stops.length Ks_) ∧ wy.cell? ⟨w1.heap.size, 2, none⟩ = some (.slice Kp k.paths.length Kp_) ∧ wy.cell? ⟨w1.heap.size, 3, none⟩ = some (.slice Kd k.doors.length Kd_) ∧ wy.cell? ⟨w1.heap.size, 4, none⟩ = some (.slice Kr k.routes.length Kr_) ∧ wy.cell? ⟨w1.heap.size, 5, none⟩ = some (.slice Kt k.trips.length Kt_) ∧ wy.cell? ⟨w1.heap.size, 6, none⟩ = some (.slice Kh k.hazs.length Kh_) from ⟨(h.cell (p := ⟨w1.heap.size, 0, none⟩) (by show w1.heap.size < _; omega)).trans (Lib.cell_of_heap hA 0), (h.cell (p := ⟨w1.heap.size, 1, none⟩) (by show w1.heap.size < _; omega)).trans (Lib.cell_of_heap hA 1), (h.cell (p := ⟨w1.heap.size, 2, none⟩) (by show w1.heap.size < _; omega)).trans (Lib.cell_of_heap hA 2), (h.cell (p := ⟨w1.heap.size, 3, none⟩) (by show w1.heap.size < _; omega)).trans (Lib.cell_of_heap hA 3), (h.cell (p := ⟨w1.heap.size, 4, none⟩) (by show w1.heap.size < _; omega)).trans (Lib.cell_of_heap hA 4), (h.cell (p := ⟨w1.heap.size, 5, none⟩) (by show w1.heap.size < _; omega)).trans (Lib.cell_of_heap hA 5), (h.cell (p := ⟨w1.heap.size, 6, none⟩) (by show w1.heap.size < _; omega)).trans (Lib.cell_of_heap hA 6)⟩))
  have Fk := Lib.hid (fun (wy : World) (h : Below w2.heap.size w2 wy) => (show wy.cell? ⟨w1.heap.size + 1, 0, none⟩ = some (.int .i64 7) ∧ wy.cell? ⟨w1.heap.size + 1, 1, none⟩ = some (.int .i64 1) ∧ wy.cell? ⟨w1.heap.size + 1, 2, none⟩ = some (.int .i64 1) from ⟨(h.cell (p := ⟨w1.heap.size + 1, 0, none⟩) (by show w1.heap.size + 1 < _; omega)).trans (Lib.cell_of_heap hB 0), (h.cell (p := ⟨w1.heap.size + 1, 1, none⟩) (by show w1.heap.size + 1 < _; omega)).trans (Lib.cell_of_heap hB 1), (h.cell (p := ⟨w1.heap.size + 1, 2, none⟩) (by show w1.heap.size + 1 < _; omega)).trans (Lib.cell_of_heap hB 2)⟩))
  have HBw2 := Lib.hid (HBw1.out.trans (hba.mono HBw1.out.size))
  have HGk2 := Lib.hid (HGk.out.below_ hba)
  clear HGk
  have HGk := Lib.hid HGk2.out
  clear HGk2
  have HNw2 := Lib.hid hba
  try rw [hwa]
  clear hwa hba hza hA hB
  clear HGk Ck HVk HFk
  go_wp2_with fail
  refine (HP1.out w2 (HT.out.below HBw2.out) (HL.out.below HBw2.out)).mono ?_
  rintro e w3 ⟨l, hxd, rfl, hgx, hb⟩
  have HBw3 := Lib.hid (HBw2.out.trans (hb.mono HBw2.out.size))
  have HNw3 := Lib.hid hb
  clear hb hxd HP1
  obtain ⟨Ls, Ls_, Lp, Lp_, Ld, Ld_, Lr, Lr_, Lt, Lt_, Lh, Lh_, els, elp, eld, elr, elt, elh⟩ := SheetAt.forms hgx
  have Vl : l.v = .agg #[.int .i64 l.hor, .slice Ls l.stops.length Ls_, .slice Lp l.paths.length Lp_, .slice Ld l.doors.length Ld_, .slice Lr l.routes.length Lr_, .slice Lt l.trips.length Lt_, .slice Lh l.hazs.length Lh_] := by
    unfold SheetM.v; rw [els, elp, eld, elr, elt, elh]
  rw [Vl]
  have HVl := Lib.hid Vl
  have HGl := Lib.hid hgx
  have HFl := Lib.hid (show l.vs = .slice Ls l.stops.length Ls_ ∧ l.vp = .slice Lp l.paths.length Lp_ ∧ l.vd = .slice Ld l.doors.length Ld_ ∧ l.vr = .slice Lr l.routes.length Lr_ ∧ l.vt = .slice Lt l.trips.length Lt_ ∧ l.vh = .slice Lh l.hazs.length Lh_ from ⟨els, elp, eld, elr, elt, elh⟩)
  clear Vl hgx els elp eld elr elt elh
  go_upto_region 3 with fail
  obtain ⟨w4, hwa⟩ : ∃ wa, (w3.alloc (.cells #[.int .i64 l.hor, .slice Ls l.stops.length Ls_, .slice Lp l.paths.length Lp_, .slice Ld l.doors.length Ld_, .slice Lr l.routes.length Lr_, .slice Lt l.trips.length Lt_, .slice Lh l.hazs.length Lh_] 29)).alloc (.cells #[.int .i64 7, .int .i64 2, .int .i64 1] 39) = wa := ⟨_, rfl⟩
  have hba : Below w3.heap.size w3 w4 := by rw [← hwa]; exact ((Below.refl _ _).alloc (Nat.le_refl _) _).alloc (by simp) _
  have hza : w4.heap.size = w3.heap.size + 2 := by rw [← hwa]; simp
  have hA : w4.heap[w3.heap.size]? = some (.cells #[.int .i64 l.hor, .slice Ls l.stops.length Ls_, .slice Lp l.paths.length Lp_, .slice Ld l.doors.length Ld_, .slice Lr l.routes.length Lr_, .slice Lt l.trips.length Lt_, .slice Lh l.hazs.length Lh_] 29 (0, 0)) := by rw [← hwa, Below.heap_alloc _ _ _ (by simp)]; exact heap_alloc_new _ _
  have hB : w4.heap[w3.heap.size + 1]? = some (.cells #[.int .i64 7, .int .i64 2, .int .i64 1] 39 (0, 0)) := by
    rw [← hwa]
    have h := heap_alloc_new (w3.alloc (.cells #[.int .i64 l.hor, .slice Ls l.stops.length Ls_, .slice Lp l.paths.length Lp_, .slice Ld l.doors.length Ld_, .slice Lr l.routes.length Lr_, .slice Lt l.trips.length Lt_, .slice Lh l.hazs.length Lh_] 29)) (.cells #[.int .i64 7, .int .i64 2, .int .i64 1] 39)
    rw [show (w3.alloc (.cells #[.int .i64 l.hor, .slice Ls l.stops.length Ls_, .slice Lp l.paths.length Lp_, .slice Ld l.doors.length Ld_, .slice Lr l.routes.length Lr_, .slice Lt l.trips.length Lt_, .slice Lh l.hazs.length Lh_] 29)).heap.size = w3.heap.size + 1 by simp] at h
    exact h
  have Cl := Lib.hid (fun (wy : World) (h : Below w4.heap.size w4 wy) => (show wy.cell? ⟨w3.heap.size, 0, none⟩ = some (.int .i64 l.hor) ∧ wy.cell? ⟨w3.heap.size, 1, none⟩ = some (.slice Ls l.stops.length Ls_) ∧ wy.cell? ⟨w3.heap.size, 2, none⟩ = some (.slice Lp l.paths.length Lp_) ∧ wy.cell? ⟨w3.heap.size, 3, none⟩ = some (.slice Ld l.doors.length Ld_) ∧ wy.cell? ⟨w3.heap.size, 4, none⟩ = some (.slice Lr l.routes.length Lr_) ∧ wy.cell? ⟨w3.heap.size, 5, none⟩ = some (.slice Lt l.trips.length Lt_) ∧ wy.cell? ⟨w3.heap.size, 6, none⟩ = some (.slice Lh l.hazs.length Lh_) from ⟨(h.cell (p := ⟨w3.heap.size, 0, none⟩) (by show w3.heap.size < _; omega)).trans (Lib.cell_of_heap hA 0), (h.cell (p := ⟨w3.heap.size, 1, none⟩) (by show w3.heap.size < _; omega)).trans (Lib.cell_of_heap hA 1), (h.cell (p := ⟨w3.heap.size, 2, none⟩) (by show w3.heap.size < _; omega)).trans (Lib.cell_of_heap hA 2), (h.cell (p := ⟨w3.heap.size, 3, none⟩) (by show w3.heap.size < _; omega)).trans (Lib.cell_of_heap hA 3), (h.cell (p := ⟨w3.heap.size, 4, none⟩) (by show w3.heap.size < _; omega)).trans (Lib.cell_of_heap hA 4), (h.cell (p := ⟨w3.heap.size, 5, none⟩) (by show w3.heap.size < _; omega)).trans (Lib.cell_of_heap hA 5), (h.cell (p := ⟨w3.heap.size, 6, none⟩) (by show w3.heap.size < _; omega)).trans (Lib.cell_of_heap hA 6)⟩))
  have Fl := Lib.hid (fun (wy : World) (h : Below w4.heap.size w4 wy) => (show wy.cell? ⟨w3.heap.size + 1, 0, none⟩ = some (.int .i64 7) ∧ wy.cell? ⟨w3.heap.size + 1, 1, none⟩ = some (.int .i64 2) ∧ wy.cell? ⟨w3.heap.size + 1, 2, none⟩ = some (.int .i64 1) from ⟨(h.cell (p := ⟨w3.heap.size + 1, 0, none⟩) (by show w3.heap.size + 1 < _; omega)).trans (Lib.cell_of_heap hB 0), (h.cell (p := ⟨w3.heap.size + 1, 1, none⟩) (by show w3.heap.size + 1 < _; omega)).trans (Lib.cell_of_heap hB 1), (h.cell (p := ⟨w3.heap.size + 1, 2, none⟩) (by show w3.heap.size + 1 < _; omega)).trans (Lib.cell_of_heap hB 2)⟩))
  have HBw4 := Lib.hid (HBw3.out.trans (hba.mono HBw3.out.size))
  have HGl2 := Lib.hid (HGl.out.below_ hba)
  clear HGl
  have HGl := Lib.hid HGl2.out
  clear HGl2
  have HNw4 := Lib.hid hba
  try rw [hwa]
  clear hwa hba hza hA hB
  clear HGl Cl HVl HFl
  go_wp2_with fail
  refine (HP2.out w4 (HT.out.below HBw4.out) (HL.out.below HBw4.out)).mono ?_
  rintro e w5 ⟨m, hxd, rfl, hgx, hb⟩
  have HBw5 := Lib.hid (HBw4.out.trans (hb.mono HBw4.out.size))
  have HNw5 := Lib.hid hb
  clear hb hxd HP2
  obtain ⟨Ms, Ms_, Mp, Mp_, Md, Md_, Mr, Mr_, Mt, Mt_, Mh, Mh_, ems, emp, emd, emr, emt, emh⟩ := SheetAt.forms hgx
  have Vm : m.v = .agg #[.int .i64 m.hor, .slice Ms m.stops.length Ms_, .slice Mp m.paths.length Mp_, .slice Md m.doors.length Md_, .slice Mr m.routes.length Mr_, .slice Mt m.trips.length Mt_, .slice Mh m.hazs.length Mh_] := by
    unfold SheetM.v; rw [ems, emp, emd, emr, emt, emh]
  rw [Vm]
  have HVm := Lib.hid Vm
  have HGm := Lib.hid hgx
  have HFm := Lib.hid (show m.vs = .slice Ms m.stops.length Ms_ ∧ m.vp = .slice Mp m.paths.length Mp_ ∧ m.vd = .slice Md m.doors.length Md_ ∧ m.vr = .slice Mr m.routes.length Mr_ ∧ m.vt = .slice Mt m.trips.length Mt_ ∧ m.vh = .slice Mh m.hazs.length Mh_ from ⟨ems, emp, emd, emr, emt, emh⟩)
  clear Vm hgx ems emp emd emr emt emh
  go_upto_region 4 with fail
  obtain ⟨w6, hwa⟩ : ∃ wa, (w5.alloc (.cells #[.int .i64 m.hor, .slice Ms m.stops.length Ms_, .slice Mp m.paths.length Mp_, .slice Md m.doors.length Md_, .slice Mr m.routes.length Mr_, .slice Mt m.trips.length Mt_, .slice Mh m.hazs.length Mh_] 29)).alloc (.cells #[.int .i64 7, .int .i64 2, .int .i64 5] 39) = wa := ⟨_, rfl⟩
  have hba : Below w5.heap.size w5 w6 := by rw [← hwa]; exact ((Below.refl _ _).alloc (Nat.le_refl _) _).alloc (by simp) _
  have hza : w6.heap.size = w5.heap.size + 2 := by rw [← hwa]; simp
  have hA : w6.heap[w5.heap.size]? = some (.cells #[.int .i64 m.hor, .slice Ms m.stops.length Ms_, .slice Mp m.paths.length Mp_, .slice Md m.doors.length Md_, .slice Mr m.routes.length Mr_, .slice Mt m.trips.length Mt_, .slice Mh m.hazs.length Mh_] 29 (0, 0)) := by rw [← hwa, Below.heap_alloc _ _ _ (by simp)]; exact heap_alloc_new _ _
  have hB : w6.heap[w5.heap.size + 1]? = some (.cells #[.int .i64 7, .int .i64 2, .int .i64 5] 39 (0, 0)) := by
    rw [← hwa]
    have h := heap_alloc_new (w5.alloc (.cells #[.int .i64 m.hor, .slice Ms m.stops.length Ms_, .slice Mp m.paths.length Mp_, .slice Md m.doors.length Md_, .slice Mr m.routes.length Mr_, .slice Mt m.trips.length Mt_, .slice Mh m.hazs.length Mh_] 29)) (.cells #[.int .i64 7, .int .i64 2, .int .i64 5] 39)
    rw [show (w5.alloc (.cells #[.int .i64 m.hor, .slice Ms m.stops.length Ms_, .slice Mp m.paths.length Mp_, .slice Md m.doors.length Md_, .slice Mr m.routes.length Mr_, .slice Mt m.trips.length Mt_, .slice Mh m.hazs.length Mh_] 29)).heap.size = w5.heap.size + 1 by simp] at h
    exact h
  have Cm := Lib.hid (fun (wy : World) (h : Below w6.heap.size w6 wy) => (show wy.cell? ⟨w5.heap.size, 0, none⟩ = some (.int .i64 m.hor) ∧ wy.cell? ⟨w5.heap.size, 1, none⟩ = some (.slice Ms m.stops.length Ms_) ∧ wy.cell? ⟨w5.heap.size, 2, none⟩ = some (.slice Mp m.paths.length Mp_) ∧ wy.cell? ⟨w5.heap.size, 3, none⟩ = some (.slice Md m.doors.length Md_) ∧ wy.cell? ⟨w5.heap.size, 4, none⟩ = some (.slice Mr m.routes.length Mr_) ∧ wy.cell? ⟨w5.heap.size, 5, none⟩ = some (.slice Mt m.trips.length Mt_) ∧ wy.cell? ⟨w5.heap.size, 6, none⟩ = some (.slice Mh m.hazs.length Mh_) from ⟨(h.cell (p := ⟨w5.heap.size, 0, none⟩) (by show w5.heap.size < _; omega)).trans (Lib.cell_of_heap hA 0), (h.cell (p := ⟨w5.heap.size, 1, none⟩) (by show w5.heap.size < _; omega)).trans (Lib.cell_of_heap hA 1), (h.cell (p := ⟨w5.heap.size, 2, none⟩) (by show w5.heap.size < _; omega)).trans (Lib.cell_of_heap hA 2), (h.cell (p := ⟨w5.heap.size, 3, none⟩) (by show w5.heap.size < _; omega)).trans (Lib.cell_of_heap hA 3), (h.cell (p := ⟨w5.heap.size, 4, none⟩) (by show w5.heap.size < _; omega)).trans (Lib.cell_of_heap hA 4), (h.cell (p := ⟨w5.heap.size, 5, none⟩) (by show w5.heap.size < _; omega)).trans (Lib.cell_of_heap hA 5), (h.cell (p := ⟨w5.heap.size, 6, none⟩) (by show w5.heap.size < _; omega)).trans (Lib.cell_of_heap hA 6)⟩))
  have Fm := Lib.hid (fun (wy : World) (h : Below w6.heap.size w6 wy) => (show wy.cell? ⟨w5.heap.size + 1, 0, none⟩ = some (.int .i64 7) ∧ wy.cell? ⟨w5.heap.size + 1, 1, none⟩ = some (.int .i64 2) ∧ wy.cell? ⟨w5.heap.size + 1, 2, none⟩ = some (.int .i64 5) from ⟨(h.cell (p := ⟨w5.heap.size + 1, 0, none⟩) (by show w5.heap.size + 1 < _; omega)).trans (Lib.cell_of_heap hB 0), (h.cell (p := ⟨w5.heap.size + 1, 1, none⟩) (by show w5.heap.size + 1 < _; omega)).trans (Lib.cell_of_heap hB 1), (h.cell (p := ⟨w5.heap.size + 1, 2, none⟩) (by show w5.heap.size + 1 < _; omega)).trans (Lib.cell_of_heap hB 2)⟩))
  have HBw6 := Lib.hid (HBw5.out.trans (hba.mono HBw5.out.size))
  have HGm2 := Lib.hid (HGm.out.below_ hba)
  clear HGm
  have HGm := Lib.hid HGm2.out
  clear HGm2
  have HNw6 := Lib.hid hba
  try rw [hwa]
  clear hwa hba hza hA hB
  clear HGm Cm HVm HFm
  go_wp2_with fail
  refine (HP3.out w6 (HT.out.below HBw6.out) (HL.out.below HBw6.out)).mono ?_
  rintro e w7 ⟨u, hxd, rfl, hgx, hb⟩
  have HBw7 := Lib.hid (HBw6.out.trans (hb.mono HBw6.out.size))
  have HNw7 := Lib.hid hb
  clear hb hxd HP3
  obtain ⟨Us, Us_, Up, Up_, Ud, Ud_, Ur, Ur_, Ut, Ut_, Uh, Uh_, eus, eup, eud, eur, eut, euh⟩ := SheetAt.forms hgx
  have Vu : u.v = .agg #[.int .i64 u.hor, .slice Us u.stops.length Us_, .slice Up u.paths.length Up_, .slice Ud u.doors.length Ud_, .slice Ur u.routes.length Ur_, .slice Ut u.trips.length Ut_, .slice Uh u.hazs.length Uh_] := by
    unfold SheetM.v; rw [eus, eup, eud, eur, eut, euh]
  rw [Vu]
  have HVu := Lib.hid Vu
  have HGu := Lib.hid hgx
  have HFu := Lib.hid (show u.vs = .slice Us u.stops.length Us_ ∧ u.vp = .slice Up u.paths.length Up_ ∧ u.vd = .slice Ud u.doors.length Ud_ ∧ u.vr = .slice Ur u.routes.length Ur_ ∧ u.vt = .slice Ut u.trips.length Ut_ ∧ u.vh = .slice Uh u.hazs.length Uh_ from ⟨eus, eup, eud, eur, eut, euh⟩)
  clear Vu hgx eus eup eud eur eut euh
  go_upto_region 5 with fail
  obtain ⟨w8, hwa⟩ : ∃ wa, (w7.alloc (.cells #[.int .i64 u.hor, .slice Us u.stops.length Us_, .slice Up u.paths.length Up_, .slice Ud u.doors.length Ud_, .slice Ur u.routes.length Ur_, .slice Ut u.trips.length Ut_, .slice Uh u.hazs.length Uh_] 29)).alloc (.cells #[.int .i64 7, .int .i64 2, .int .i64 21] 39) = wa := ⟨_, rfl⟩
  have hba : Below w7.heap.size w7 w8 := by rw [← hwa]; exact ((Below.refl _ _).alloc (Nat.le_refl _) _).alloc (by simp) _
  have hza : w8.heap.size = w7.heap.size + 2 := by rw [← hwa]; simp
  have hA : w8.heap[w7.heap.size]? = some (.cells #[.int .i64 u.hor, .slice Us u.stops.length Us_, .slice Up u.paths.length Up_, .slice Ud u.doors.length Ud_, .slice Ur u.routes.length Ur_, .slice Ut u.trips.length Ut_, .slice Uh u.hazs.length Uh_] 29 (0, 0)) := by rw [← hwa, Below.heap_alloc _ _ _ (by simp)]; exact heap_alloc_new _ _
  have hB : w8.heap[w7.heap.size + 1]? = some (.cells #[.int .i64 7, .int .i64 2, .int .i64 21] 39 (0, 0)) := by
    rw [← hwa]
    have h := heap_alloc_new (w7.alloc (.cells #[.int .i64 u.hor, .slice Us u.stops.length Us_, .slice Up u.paths.length Up_, .slice Ud u.doors.length Ud_, .slice Ur u.routes.length Ur_, .slice Ut u.trips.length Ut_, .slice Uh u.hazs.length Uh_] 29)) (.cells #[.int .i64 7, .int .i64 2, .int .i64 21] 39)
    rw [show (w7.alloc (.cells #[.int .i64 u.hor, .slice Us u.stops.length Us_, .slice Up u.paths.length Up_, .slice Ud u.doors.length Ud_, .slice Ur u.routes.length Ur_, .slice Ut u.trips.length Ut_, .slice Uh u.hazs.length Uh_] 29)).heap.size = w7.heap.size + 1 by simp] at h
    exact h
  have Cu := Lib.hid (fun (wy : World) (h : Below w8.heap.size w8 wy) => (show wy.cell? ⟨w7.heap.size, 0, none⟩ = some (.int .i64 u.hor) ∧ wy.cell? ⟨w7.heap.size, 1, none⟩ = some (.slice Us u.stops.length Us_) ∧ wy.cell? ⟨w7.heap.size, 2, none⟩ = some (.slice Up u.paths.length Up_) ∧ wy.cell? ⟨w7.heap.size, 3, none⟩ = some (.slice Ud u.doors.length Ud_) ∧ wy.cell? ⟨w7.heap.size, 4, none⟩ = some (.slice Ur u.routes.length Ur_) ∧ wy.cell? ⟨w7.heap.size, 5, none⟩ = some (.slice Ut u.trips.length Ut_) ∧ wy.cell? ⟨w7.heap.size, 6, none⟩ = some (.slice Uh u.hazs.length Uh_) from ⟨(h.cell (p := ⟨w7.heap.size, 0, none⟩) (by show w7.heap.size < _; omega)).trans (Lib.cell_of_heap hA 0), (h.cell (p := ⟨w7.heap.size, 1, none⟩) (by show w7.heap.size < _; omega)).trans (Lib.cell_of_heap hA 1), (h.cell (p := ⟨w7.heap.size, 2, none⟩) (by show w7.heap.size < _; omega)).trans (Lib.cell_of_heap hA 2), (h.cell (p := ⟨w7.heap.size, 3, none⟩) (by show w7.heap.size < _; omega)).trans (Lib.cell_of_heap hA 3), (h.cell (p := ⟨w7.heap.size, 4, none⟩) (by show w7.heap.size < _; omega)).trans (Lib.cell_of_heap hA 4), (h.cell (p := ⟨w7.heap.size, 5, none⟩) (by show w7.heap.size < _; omega)).trans (Lib.cell_of_heap hA 5), (h.cell (p := ⟨w7.heap.size, 6, none⟩) (by show w7.heap.size < _; omega)).trans (Lib.cell_of_heap hA 6)⟩))
  have Fu := Lib.hid (fun (wy : World) (h : Below w8.heap.size w8 wy) => (show wy.cell? ⟨w7.heap.size + 1, 0, none⟩ = some (.int .i64 7) ∧ wy.cell? ⟨w7.heap.size + 1, 1, none⟩ = some (.int .i64 2) ∧ wy.cell? ⟨w7.heap.size + 1, 2, none⟩ = some (.int .i64 21) from ⟨(h.cell (p := ⟨w7.heap.size + 1, 0, none⟩) (by show w7.heap.size + 1 < _; omega)).trans (Lib.cell_of_heap hB 0), (h.cell (p := ⟨w7.heap.size + 1, 1, none⟩) (by show w7.heap.size + 1 < _; omega)).trans (Lib.cell_of_heap hB 1), (h.cell (p := ⟨w7.heap.size + 1, 2, none⟩) (by show w7.heap.size + 1 < _; omega)).trans (Lib.cell_of_heap hB 2)⟩))
  have HBw8 := Lib.hid (HBw7.out.trans (hba.mono HBw7.out.size))
  have HGu2 := Lib.hid (HGu.out.below_ hba)
  clear HGu
  have HGu := Lib.hid HGu2.out
  clear HGu2
  have HNw8 := Lib.hid hba
  try rw [hwa]
  clear hwa hba hza hA hB
  clear HGu Cu HVu HFu
  go_wp2_with fail
  refine (HP4.out w8 (HT.out.below HBw8.out) (HL.out.below HBw8.out)).mono ?_
  rintro e w9 ⟨q, hxd, rfl, hgx, hb⟩
  have HBw9 := Lib.hid (HBw8.out.trans (hb.mono HBw8.out.size))
  have HNw9 := Lib.hid hb
  clear hb hxd HP4
  obtain ⟨Qs, Qs_, Qp, Qp_, Qd, Qd_, Qr, Qr_, Qt, Qt_, Qh, Qh_, eqs, eqp, eqd, eqr, eqt, eqh⟩ := SheetAt.forms hgx
  have Vq : q.v = .agg #[.int .i64 q.hor, .slice Qs q.stops.length Qs_, .slice Qp q.paths.length Qp_, .slice Qd q.doors.length Qd_, .slice Qr q.routes.length Qr_, .slice Qt q.trips.length Qt_, .slice Qh q.hazs.length Qh_] := by
    unfold SheetM.v; rw [eqs, eqp, eqd, eqr, eqt, eqh]
  rw [Vq]
  have HVq := Lib.hid Vq
  have HGq := Lib.hid hgx
  have HFq := Lib.hid (show q.vs = .slice Qs q.stops.length Qs_ ∧ q.vp = .slice Qp q.paths.length Qp_ ∧ q.vd = .slice Qd q.doors.length Qd_ ∧ q.vr = .slice Qr q.routes.length Qr_ ∧ q.vt = .slice Qt q.trips.length Qt_ ∧ q.vh = .slice Qh q.hazs.length Qh_ from ⟨eqs, eqp, eqd, eqr, eqt, eqh⟩)
  clear Vq hgx eqs eqp eqd eqr eqt eqh
  go_upto_region 6 with fail
  obtain ⟨w10, hwa⟩ : ∃ wa, (w9.alloc (.cells #[.int .i64 q.hor, .slice Qs q.stops.length Qs_, .slice Qp q.paths.length Qp_, .slice Qd q.doors.length Qd_, .slice Qr q.routes.length Qr_, .slice Qt q.trips.length Qt_, .slice Qh q.hazs.length Qh_] 29)).alloc (.cells #[.int .i64 7, .int .i64 2, .int .i64 14] 39) = wa := ⟨_, rfl⟩
  have hba : Below w9.heap.size w9 w10 := by rw [← hwa]; exact ((Below.refl _ _).alloc (Nat.le_refl _) _).alloc (by simp) _
  have hza : w10.heap.size = w9.heap.size + 2 := by rw [← hwa]; simp
  have hA : w10.heap[w9.heap.size]? = some (.cells #[.int .i64 q.hor, .slice Qs q.stops.length Qs_, .slice Qp q.paths.length Qp_, .slice Qd q.doors.length Qd_, .slice Qr q.routes.length Qr_, .slice Qt q.trips.length Qt_, .slice Qh q.hazs.length Qh_] 29 (0, 0)) := by rw [← hwa, Below.heap_alloc _ _ _ (by simp)]; exact heap_alloc_new _ _
  have hB : w10.heap[w9.heap.size + 1]? = some (.cells #[.int .i64 7, .int .i64 2, .int .i64 14] 39 (0, 0)) := by
    rw [← hwa]
    have h := heap_alloc_new (w9.alloc (.cells #[.int .i64 q.hor, .slice Qs q.stops.length Qs_, .slice Qp q.paths.length Qp_, .slice Qd q.doors.length Qd_, .slice Qr q.routes.length Qr_, .slice Qt q.trips.length Qt_, .slice Qh q.hazs.length Qh_] 29)) (.cells #[.int .i64 7, .int .i64 2, .int .i64 14] 39)
    rw [show (w9.alloc (.cells #[.int .i64 q.hor, .slice Qs q.stops.length Qs_, .slice Qp q.paths.length Qp_, .slice Qd q.doors.length Qd_, .slice Qr q.routes.length Qr_, .slice Qt q.trips.length Qt_, .slice Qh q.hazs.length Qh_] 29)).heap.size = w9.heap.size + 1 by simp] at h
    exact h
  have Cq := Lib.hid (fun (wy : World) (h : Below w10.heap.size w10 wy) => (show wy.cell? ⟨w9.heap.size, 0, none⟩ = some (.int .i64 q.hor) ∧ wy.cell? ⟨w9.heap.size, 1, none⟩ = some (.slice Qs q.stops.length Qs_) ∧ wy.cell? ⟨w9.heap.size, 2, none⟩ = some (.slice Qp q.paths.length Qp_) ∧ wy.cell? ⟨w9.heap.size, 3, none⟩ = some (.slice Qd q.doors.length Qd_) ∧ wy.cell? ⟨w9.heap.size, 4, none⟩ = some (.slice Qr q.routes.length Qr_) ∧ wy.cell? ⟨w9.heap.size, 5, none⟩ = some (.slice Qt q.trips.length Qt_) ∧ wy.cell? ⟨w9.heap.size, 6, none⟩ = some (.slice Qh q.hazs.length Qh_) from ⟨(h.cell (p := ⟨w9.heap.size, 0, none⟩) (by show w9.heap.size < _; omega)).trans (Lib.cell_of_heap hA 0), (h.cell (p := ⟨w9.heap.size, 1, none⟩) (by show w9.heap.size < _; omega)).trans (Lib.cell_of_heap hA 1), (h.cell (p := ⟨w9.heap.size, 2, none⟩) (by show w9.heap.size < _; omega)).trans (Lib.cell_of_heap hA 2), (h.cell (p := ⟨w9.heap.size, 3, none⟩) (by show w9.heap.size < _; omega)).trans (Lib.cell_of_heap hA 3), (h.cell (p := ⟨w9.heap.size, 4, none⟩) (by show w9.heap.size < _; omega)).trans (Lib.cell_of_heap hA 4), (h.cell (p := ⟨w9.heap.size, 5, none⟩) (by show w9.heap.size < _; omega)).trans (Lib.cell_of_heap hA 5), (h.cell (p := ⟨w9.heap.size, 6, none⟩) (by show w9.heap.size < _; omega)).trans (Lib.cell_of_heap hA 6)⟩))
  have Fq := Lib.hid (fun (wy : World) (h : Below w10.heap.size w10 wy) => (show wy.cell? ⟨w9.heap.size + 1, 0, none⟩ = some (.int .i64 7) ∧ wy.cell? ⟨w9.heap.size + 1, 1, none⟩ = some (.int .i64 2) ∧ wy.cell? ⟨w9.heap.size + 1, 2, none⟩ = some (.int .i64 14) from ⟨(h.cell (p := ⟨w9.heap.size + 1, 0, none⟩) (by show w9.heap.size + 1 < _; omega)).trans (Lib.cell_of_heap hB 0), (h.cell (p := ⟨w9.heap.size + 1, 1, none⟩) (by show w9.heap.size + 1 < _; omega)).trans (Lib.cell_of_heap hB 1), (h.cell (p := ⟨w9.heap.size + 1, 2, none⟩) (by show w9.heap.size + 1 < _; omega)).trans (Lib.cell_of_heap hB 2)⟩))
  have HBw10 := Lib.hid (HBw9.out.trans (hba.mono HBw9.out.size))
  have HGq2 := Lib.hid (HGq.out.below_ hba)
  clear HGq
  have HGq := Lib.hid HGq2.out
  clear HGq2
  have HNw10 := Lib.hid hba
  try rw [hwa]
  clear hwa hba hza hA hB
  clear HGq Cq HVq HFq
  go_wp2_with fail
  refine (HP5.out w10 (HT.out.below HBw10.out) (HL.out.below HBw10.out)).mono ?_
  rintro e w11 ⟨x, hxd, rfl, hgx, hb⟩
  have HBw11 := Lib.hid (HBw10.out.trans (hb.mono HBw10.out.size))
  have HNw11 := Lib.hid hb
  have HDx := Lib.hid hxd
  clear hb hxd HP5
  obtain ⟨Xs, Xs_, Xp, Xp_, Xd, Xd_, Xr, Xr_, Xt, Xt_, Xh, Xh_, exs, exp, exd, exr, ext, exh⟩ := SheetAt.forms hgx
  have Vx : x.v = .agg #[.int .i64 x.hor, .slice Xs x.stops.length Xs_, .slice Xp x.paths.length Xp_, .slice Xd x.doors.length Xd_, .slice Xr x.routes.length Xr_, .slice Xt x.trips.length Xt_, .slice Xh x.hazs.length Xh_] := by
    unfold SheetM.v; rw [exs, exp, exd, exr, ext, exh]
  rw [Vx]
  have HVx := Lib.hid Vx
  have HGx := Lib.hid hgx
  have HFx := Lib.hid (show x.vs = .slice Xs x.stops.length Xs_ ∧ x.vp = .slice Xp x.paths.length Xp_ ∧ x.vd = .slice Xd x.doors.length Xd_ ∧ x.vr = .slice Xr x.routes.length Xr_ ∧ x.vt = .slice Xt x.trips.length Xt_ ∧ x.vh = .slice Xh x.hazs.length Xh_ from ⟨exs, exp, exd, exr, ext, exh⟩)
  clear Vx hgx exs exp exd exr ext exh
  go_upto_region 7 with fail
  obtain ⟨w12, hwa⟩ : ∃ wa, (w11.alloc (.cells #[.int .i64 x.hor, .slice Xs x.stops.length Xs_, .slice Xp x.paths.length Xp_, .slice Xd x.doors.length Xd_, .slice Xr x.routes.length Xr_, .slice Xt x.trips.length Xt_, .slice Xh x.hazs.length Xh_] 29)).alloc (.cells #[.int .i64 0, .int .i64 0, .int .i64 0] 39) = wa := ⟨_, rfl⟩
  have hba : Below w11.heap.size w11 w12 := by rw [← hwa]; exact ((Below.refl _ _).alloc (Nat.le_refl _) _).alloc (by simp) _
  have hza : w12.heap.size = w11.heap.size + 2 := by rw [← hwa]; simp
  have hA : w12.heap[w11.heap.size]? = some (.cells #[.int .i64 x.hor, .slice Xs x.stops.length Xs_, .slice Xp x.paths.length Xp_, .slice Xd x.doors.length Xd_, .slice Xr x.routes.length Xr_, .slice Xt x.trips.length Xt_, .slice Xh x.hazs.length Xh_] 29 (0, 0)) := by rw [← hwa, Below.heap_alloc _ _ _ (by simp)]; exact heap_alloc_new _ _
  have hB : w12.heap[w11.heap.size + 1]? = some (.cells #[.int .i64 0, .int .i64 0, .int .i64 0] 39 (0, 0)) := by
    rw [← hwa]
    have h := heap_alloc_new (w11.alloc (.cells #[.int .i64 x.hor, .slice Xs x.stops.length Xs_, .slice Xp x.paths.length Xp_, .slice Xd x.doors.length Xd_, .slice Xr x.routes.length Xr_, .slice Xt x.trips.length Xt_, .slice Xh x.hazs.length Xh_] 29)) (.cells #[.int .i64 0, .int .i64 0, .int .i64 0] 39)
    rw [show (w11.alloc (.cells #[.int .i64 x.hor, .slice Xs x.stops.length Xs_, .slice Xp x.paths.length Xp_, .slice Xd x.doors.length Xd_, .slice Xr x.routes.length Xr_, .slice Xt x.trips.length Xt_, .slice Xh x.hazs.length Xh_] 29)).heap.size = w11.heap.size + 1 by simp] at h
    exact h
  have Cx := Lib.hid (fun (wy : World) (h : Below w12.heap.size w12 wy) => (show wy.cell? ⟨w11.heap.size, 0, none⟩ = some (.int .i64 x.hor) ∧ wy.cell? ⟨w11.heap.size, 1, none⟩ = some (.slice Xs x.stops.length Xs_) ∧ wy.cell? ⟨w11.heap.size, 2, none⟩ = some (.slice Xp x.paths.length Xp_) ∧ wy.cell? ⟨w11.heap.size, 3, none⟩ = some (.slice Xd x.doors.length Xd_) ∧ wy.cell? ⟨w11.heap.size, 4, none⟩ = some (.slice Xr x.routes.length Xr_) ∧ wy.cell? ⟨w11.heap.size, 5, none⟩ = some (.slice Xt x.trips.length Xt_) ∧ wy.cell? ⟨w11.heap.size, 6, none⟩ = some (.slice Xh x.hazs.length Xh_) from ⟨(h.cell (p := ⟨w11.heap.size, 0, none⟩) (by show w11.heap.size < _; omega)).trans (Lib.cell_of_heap hA 0), (h.cell (p := ⟨w11.heap.size, 1, none⟩) (by show w11.heap.size < _; omega)).trans (Lib.cell_of_heap hA 1), (h.cell (p := ⟨w11.heap.size, 2, none⟩) (by show w11.heap.size < _; omega)).trans (Lib.cell_of_heap hA 2), (h.cell (p := ⟨w11.heap.size, 3, none⟩) (by show w11.heap.size < _; omega)).trans (Lib.cell_of_heap hA 3), (h.cell (p := ⟨w11.heap.size, 4, none⟩) (by show w11.heap.size < _; omega)).trans (Lib.cell_of_heap hA 4), (h.cell (p := ⟨w11.heap.size, 5, none⟩) (by show w11.heap.size < _; omega)).trans (Lib.cell_of_heap hA 5), (h.cell (p := ⟨w11.heap.size, 6, none⟩) (by show w11.heap.size < _; omega)).trans (Lib.cell_of_heap hA 6)⟩))
  have Fx := Lib.hid (fun (wy : World) (h : Below w12.heap.size w12 wy) => (show wy.cell? ⟨w11.heap.size + 1, 0, none⟩ = some (.int .i64 0) ∧ wy.cell? ⟨w11.heap.size + 1, 1, none⟩ = some (.int .i64 0) ∧ wy.cell? ⟨w11.heap.size + 1, 2, none⟩ = some (.int .i64 0) from ⟨(h.cell (p := ⟨w11.heap.size + 1, 0, none⟩) (by show w11.heap.size + 1 < _; omega)).trans (Lib.cell_of_heap hB 0), (h.cell (p := ⟨w11.heap.size + 1, 1, none⟩) (by show w11.heap.size + 1 < _; omega)).trans (Lib.cell_of_heap hB 1), (h.cell (p := ⟨w11.heap.size + 1, 2, none⟩) (by show w11.heap.size + 1 < _; omega)).trans (Lib.cell_of_heap hB 2)⟩))
  have HBw12 := Lib.hid (HBw11.out.trans (hba.mono HBw11.out.size))
  have HGx2 := Lib.hid (HGx.out.below_ hba)
  clear HGx
  have HGx := Lib.hid HGx2.out
  clear HGx2
  have HNw12 := Lib.hid hba
  try rw [hwa]
  clear hwa hba hza hA hB
  have M10 := Lib.hid (HNw11.out.trans (HNw12.out.mono HNw11.out.size))
  have M8 := Lib.hid ((HNw9.out.trans (HNw10.out.mono HNw9.out.size)).trans (M10.out.mono (HNw9.out.trans (HNw10.out.mono HNw9.out.size)).size))
  have M6 := Lib.hid ((HNw7.out.trans (HNw8.out.mono HNw7.out.size)).trans (M8.out.mono (HNw7.out.trans (HNw8.out.mono HNw7.out.size)).size))
  have M4 := Lib.hid ((HNw5.out.trans (HNw6.out.mono HNw5.out.size)).trans (M6.out.mono (HNw5.out.trans (HNw6.out.mono HNw5.out.size)).size))
  have M2 := Lib.hid ((HNw3.out.trans (HNw4.out.mono HNw3.out.size)).trans (M4.out.mono (HNw3.out.trans (HNw4.out.mono HNw3.out.size)).size))
  have HFA := Lib.hid (fun (wy : World) (h : Below w12.heap.size w12 wy) => And.intro (Fk.out wy (M2.out.trans (h.mono M2.out.size))) (And.intro (Fl.out wy (M4.out.trans (h.mono M4.out.size))) (And.intro (Fm.out wy (M6.out.trans (h.mono M6.out.size))) (And.intro (Fu.out wy (M8.out.trans (h.mono M8.out.size))) (And.intro (Fq.out wy (M10.out.trans (h.mono M10.out.size))) (Fx.out wy h))))))
  clear Fk Fl Fm Fu Fq Fx M2 M4 M6 M8 M10
  have HTH := Lib.hid (fun (wy : World) (h : Below w12.heap.size w12 wy) => HVx.out ▸ sthings_any wy x (HGx.out.below_ h) (may_few (show checkD x.d = 0 by rw [HDx.out]; decide)))
  rw [show ((thingsD x.d : Nat) : Int) = 3 by rw [HDx.out]; decide] at HTH
  have HCK := Lib.hid (fun (wy : World) (h : Below w12.heap.size w12 wy) => HVx.out ▸ check_any wy x (HGx.out.below_ h) (may_few (show checkD x.d = 0 by rw [HDx.out]; decide)) (by rw [HDx.out]; decide) (HT.out.below (HBw12.out.trans (h.mono HBw12.out.size))) (may_names (show checkD x.d = 0 by rw [HDx.out]; decide)))
  rw [show checkD x.d = 0 by rw [HDx.out]; decide] at HCK
  have kd : x.doors = [⟨[100], [97], [98], 3, ⟨1, 0, 2⟩⟩] := (d_parts HDx.out).2.2.2.1
  have kt : x.trips = [⟨[116], [114], 1, 2, 3⟩] := (d_parts HDx.out).2.2.2.2.2.1
  have kh : x.hazs = [⟨[104], [97], ⟨4, 5, 5⟩⟩] := (d_parts HDx.out).2.2.2.2.2.2
  have ld : x.doors.length = 1 := by rw [kd]; rfl
  have lt : x.trips.length = 1 := by rw [kt]; rfl
  have lh : x.hazs.length = 1 := by rw [kh]; rfl
  obtain ⟨b1, o1, p1, e1, _, _, hl3, _, hx⟩ := HGx.out.doors.at_ (show 0 < x.doors.length by omega)
  rw [HFx.out.2.2.1] at e1
  injection e1 with e1 ea eb
  clear ea eb
  subst e1
  rw [show x.doors[0]'(by omega) = ⟨[100], [97], [98], 3, ⟨1, 0, 2⟩⟩ by simp [kd]] at hx
  have CD := Lib.hid (fun (wy : World) (h : Below w12.heap.size w12 wy) => (show wy.cell? ⟨b1, o1 + 4, none⟩ = some (.int .i64 1) ∧ wy.cell? ⟨b1, o1 + 4 + 1, none⟩ = some (.int .i64 0) ∧ wy.cell? ⟨b1, o1 + 4 + 2, none⟩ = some (.int .i64 2) from
    ⟨(h.cell (p := ⟨b1, o1 + 4, none⟩) hl3).trans (by simpa using hx 4 _ rfl), (h.cell (p := ⟨b1, o1 + 4 + 1, none⟩) hl3).trans (by simpa using hx 5 _ rfl), (h.cell (p := ⟨b1, o1 + 4 + 2, none⟩) hl3).trans (by simpa using hx 6 _ rfl)⟩))
  clear hx hl3
  obtain ⟨b2, o2, p2, e2, _, _, hl3, _, hx⟩ := HGx.out.trips.at_ (show 0 < x.trips.length by omega)
  rw [HFx.out.2.2.2.2.1] at e2
  injection e2 with e2 ea eb
  clear ea eb
  subst e2
  rw [show x.trips[0]'(by omega) = ⟨[116], [114], 1, 2, 3⟩ by simp [kt]] at hx
  have CT := Lib.hid (fun (wy : World) (h : Below w12.heap.size w12 wy) => (show wy.cell? ⟨b2, o2 + 4, none⟩ = some (.int .i64 3) from (h.cell (p := ⟨b2, o2 + 4, none⟩) hl3).trans (by simpa using hx 4 _ rfl)))
  clear hx hl3
  obtain ⟨b3, o3, p3, e3, _, _, hl3, _, hx⟩ := HGx.out.hazs.at_ (show 0 < x.hazs.length by omega)
  rw [HFx.out.2.2.2.2.2] at e3
  injection e3 with e3 ea eb
  clear ea eb
  subst e3
  rw [show x.hazs[0]'(by omega) = ⟨[104], [97], ⟨4, 5, 5⟩⟩ by simp [kh]] at hx
  have CH := Lib.hid (fun (wy : World) (h : Below w12.heap.size w12 wy) => (show wy.cell? ⟨b3, o3 + 2 + 2, none⟩ = some (.int .i64 5) from (h.cell (p := ⟨b3, o3 + 2 + 2, none⟩) hl3).trans (by simpa using hx 4 _ rfl)))
  clear hx hl3 kd kt kh
  have HLD := Lib.hid (And.intro ld (And.intro lt lh))
  clear ld lt lh
  have q0 := fe0
  have q1 := fen0
  have q2 := fen1
  have q3 := fen2
  have q4 := fen3
  have q5 := fen4
  have q6 := te
  dsimp only [List.append]
  go_wp2_with fail
  refine (lives_any w12 (HT.out.below HBw12.out) (HL.out.below HBw12.out)).mono ?_
  rintro e w13 ⟨rfl, hb⟩
  have N13 := Lib.hid hb
  clear hb
  obtain ⟨⟨fa0, fa1, fa2⟩, ⟨fb0, fb1, fb2⟩, ⟨fc0, fc1, fc2⟩, ⟨fd0, fd1, fd2⟩, ⟨ff0, ff1, ff2⟩, ⟨fx0, fx1, fx2⟩⟩ := HFA.out w13 N13.out
  obtain ⟨x0, x1, x2, x3, x4, x5, x6⟩ := Cx.out w13 N13.out
  go_wp2_with fail
  refine (HTH.out w13 N13.out).mono ?_
  rintro e w14 ⟨rfl, hb⟩
  have N14 := Lib.hid (N13.out.trans (hb.mono N13.out.size))
  clear hb fa0 fa1 fa2 fb0 fb1 fb2 fc0 fc1 fc2 fd0 fd1 fd2 ff0 ff1 ff2 fx0 fx1 fx2 x0 x1 x2 x3 x4 x5 x6 HTH
  obtain ⟨x0, x1, x2, x3, x4, x5, x6⟩ := Cx.out w14 N14.out
  go_wp2_with fail
  refine (HCK.out w14 N14.out).mono ?_
  rintro e w15 ⟨rfl, hb⟩
  have N15 := Lib.hid (N14.out.trans (hb.mono N14.out.size))
  clear hb x0 x1 x2 x3 x4 x5 x6 HCK
  obtain ⟨_, _, _, x3, _, x5, x6⟩ := Cx.out w15 N15.out
  rw [HLD.out.1] at x3
  rw [HLD.out.2.1] at x5
  rw [HLD.out.2.2] at x6
  obtain ⟨d4, d5, d6⟩ := CD.out w15 N15.out
  have t4 := CT.out w15 N15.out
  have h4 := CH.out w15 N15.out
  go_wp2_with fail
  refine (lm1_any w15 (HT.out.below (HBw12.out.trans (N15.out.mono HBw12.out.size)))).mono ?_
  rintro e w16 ⟨rfl, hb⟩
  have N16 := Lib.hid (HBw12.out.trans ((N15.out.trans (hb.mono N15.out.size)).mono HBw12.out.size))
  clear hb x3 x5 x6 d4 d5 d6 t4 h4 N13 N14 N15
  go_wp2_with fail
  obtain ⟨w17, hw7⟩ : ∃ w7, w16.alloc (.cells #[.string ⟨#[111, 112, 101, 110]⟩] 9) = w7 := ⟨_, rfl⟩
  have N17 := Lib.hid (show Below w.heap.size w w17 by rw [← hw7]; exact N16.out.alloc N16.out.size _)
  have hs2 : Sl nc 1 w17 (.slice (some ⟨w16.heap.size, 0, none⟩) 1 1) [[111, 112, 101, 110]] (fun _ => True) := by rw [← hw7]; exact (Sl.new1 (c := nc) [111, 112, 101, 110] rfl).mono fun _ _ => trivial
  try rw [hw7]
  clear hw7
  refine (lm2_any w17 _ (HT.out.below N17.out) hs2).mono ?_
  rintro e w18 ⟨rfl, hb⟩
  have N18 := Lib.hid (N17.out.trans (hb.mono N17.out.size))
  clear hb hs2
  go_wp2_with fail
  obtain ⟨w19, hw7⟩ : ∃ w7, w18.alloc (.cells #[.string ⟨#[97]⟩] 9) = w7 := ⟨_, rfl⟩
  have hz : w19.heap.size = w18.heap.size + 1 := by rw [← hw7]; simp
  have N19 := Lib.hid (show Below w.heap.size w w19 by rw [← hw7]; exact N18.out.alloc N18.out.size _)
  have hs2 : Sl nc 1 w19 (.slice (some ⟨w18.heap.size, 0, none⟩) 1 1) [[97]] (fun _ => True) := by rw [← hw7]; exact (Sl.new1 (c := nc) [97] rfl).mono fun _ _ => trivial
  try rw [hw7]
  clear hw7
  obtain ⟨w20, hw7⟩ : ∃ w7, w19.alloc (.cells #[.string ⟨#[114]⟩, .slice (some ⟨w18.heap.size, 0, none⟩) 1 1, .slice none 0 0, .slice none 0 0] 57) = w7 := ⟨_, rfl⟩
  have N20 := Lib.hid (show Below w.heap.size w w20 by rw [← hw7]; exact N19.out.alloc N19.out.size _)
  have hs3 : Sl nc 1 w20 (.slice (some ⟨w18.heap.size, 0, none⟩) 1 1) [[97]] (fun _ => True) := by rw [← hw7]; exact hs2.below_ ((Below.refl _ _).alloc (Nat.le_refl _) _)
  have hr3 : Sl rc 4 w20 (.slice (some ⟨w19.heap.size, 0, none⟩) 1 1) [lr3 (.slice (some ⟨w18.heap.size, 0, none⟩) 1 1)] (fun _ => True) := by rw [← hw7]; exact (Sl.new1 (c := rc) (lr3 (.slice (some ⟨w18.heap.size, 0, none⟩) 1 1)) rfl).mono fun _ _ => trivial
  rw [hz] at hr3
  try rw [hw7]
  clear hw7 hs2
  refine (lm3_any w20 _ _ (HT.out.below N20.out) hs3 hr3).mono ?_
  rintro e w21 ⟨rfl, hb⟩
  have N21 := Lib.hid (N20.out.trans (hb.mono N20.out.size))
  clear hb hs3 hr3
  go_wp2_with fail
  go_ret
  exact ⟨rfl, N21.out⟩
end Go.Proofs.YteonefgbdphmiaaGreatDoor
