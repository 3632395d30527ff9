/- The lines of all things of a kind: show.each at six types. Printed by wip/bin/genea.py. -/
import Derived.Test.YtmihinhbcncbfaaGreatDoorSg
import Derived.Test.YtmihinhbcncbfaaGreatDoorSr
namespace Go.Proofs.YtmihinhbcncbfaaGreatDoor
open Go.RowKit

set_option maxHeartbeats 2000000 in
set_option maxRecDepth 100000 in
theorem each_str (w : World) (v : Value) (l : List (List UInt8)) {P : Nat → Prop} (hs : Sl nc 1 w v l P) (hn : l.length ≤ 1048576) (hT : Pow w) (hp : ∀ x ∈ l, (stopL x).length ≤ 140737488355328) :
    Calls Tryz.prog 78 #[v, .func (.func 79) #[] #[]] w (Made nc 1 9 (l.map stopL) w) := by
  obtain ⟨i0, hi0, hz0, hz1, hz2⟩ := info_parts info_string
  obtain ⟨A, cap, rfl, h1, h2⟩ := hs.shape
  have HT := Lib.hid hT
  have HPR := Lib.hid hp
  have HS := Lib.hid hs
  clear hT hp hs
  go_enter Tryz.func78, Tryz.ntmps78
  go_wp2_with fail
  go_loopg [9, 4] l.length (fun gg s v wr => ∃ k : Nat, k ≤ l.length ∧ l.length - k ≤ gg ∧ s = .int .i64 k ∧ Ow nc 1 wr w.heap.size 9 v ((l.take k).map stopL) ∧ Below w.heap.size w wr)
  case atStart => exact ⟨0, Nat.zero_le _, by omega, rfl, by rw [List.take_zero]; exact Ow.nil_, Below.refl _ _⟩
  case round =>
    obtain ⟨k, hk, hgg, rfl, ho, hb⟩ := hrel
    by_cases hlt : k < l.length
    · obtain ⟨b1, o1, c1, e1, _, _, hl1, _, hxx⟩ := (HS.out.below_ hb).at_ hlt
      injection e1 with e1 e2 e3
      subst e1
      obtain ⟨x, hxe⟩ : ∃ x, l[k] = x := ⟨_, rfl⟩
      have hx := HPR.out _ (List.getElem_mem hlt)
      rw [hxe] at hx hxx
      have hx0 : wr.cell? ⟨b1, o1 + k, none⟩ = some (.string (ba x)) := by simpa using hxx 0 _ rfl
      have HB := Lib.hid hb
      have HO := Lib.hid ho
      have HSZ := Lib.hid (show w.heap.size ≤ wr.heap.size from hb.size)
      have E := Lib.hid (show (l.take (k + 1)).map stopL = (l.take k).map stopL ++ [stopL x] by rw [take_succ_eq l k hlt, List.map_append, hxe]; rfl)
      have HP := Lib.hid (HT.out.below hb)
      have hlen : ((l.take k).map stopL).length = k := by rw [List.length_map, List.length_take]; omega
      clear hb ho e2 e3 hxx
      have q1 : (0 : Int) ≤ (k : Int) := by omega
      have q2 : (k : Int) < (l.length : Int) := by omega
      have HC := Lib.hid (stop_any wr x HP.out (hx))
      clear hx HP
      go_wp2_with fail
      refine HC.out.mono ?_
      rintro e w3 ⟨rfl, hb3⟩
      have HO3 := Lib.hid (Ow.below HO.out hb3 fun q hq => (HO.out.lt hq).2)
      have HB3 := Lib.hid (HB.out.trans (hb3.mono HSZ.out))
      have HSZ3 := Lib.hid (show w.heap.size ≤ w3.heap.size from Nat.le_trans HSZ.out hb3.size)
      clear hb3
      go_wp2_with (at_builtin; refine wpList_append_sl _ rfl _ _ _ rfl w.heap.size 9 i0 _ 16 Tryz.underlying22 hi0 hz0 hz1 hz2 rfl (by omega) nc_len nc_one _ _ ((l.take k).map stopL) [stopL x] rfl rfl (HO3.out.alloc _) (Sl.new1 (stopL x) rfl) (by rw [hlen]; simp only [maxLen, List.length_cons, List.length_nil]; omega) (by rw [hlen]; simp only [List.length_cons, List.length_nil]; omega) (by have := HSZ3.out; simp; omega) ?_; intro v1 w4 hown1 hg1 hmv1)
      go_roundg (l.length - (k + 1))
      case measure => omega
      case rel => exact ⟨k + 1, by omega, by omega, by go_num, by rw [E.out]; exact hown1, app_keep HB3.out HSZ3.out HO3.out hg1⟩
    · have hke : k = l.length := by omega
      subst hke
      rw [List.take_length] at ho
      have HO := Lib.hid ho
      have HB := Lib.hid hb
      clear ho hb
      go_wp2_with fail
      go_ret
      exact ⟨_, rfl, HO.out, HB.out⟩
set_option maxHeartbeats 2000000 in
set_option maxRecDepth 100000 in
theorem each_path (w : World) (v : Value) (l : List PathD) {P : Nat → Prop} (hs : Sl pc 4 w v l P) (hn : l.length ≤ 1048576) (hT : Pow w) (hp : ∀ x ∈ l, I64 x.len ∧ (pathL x).length ≤ 140737488355328) :
    Calls Tryz.prog 80 #[v, .func (.func 15) #[] #[]] w (Made nc 1 9 (l.map pathL) w) := by
  obtain ⟨i0, hi0, hz0, hz1, hz2⟩ := info_parts info_string
  obtain ⟨A, cap, rfl, h1, h2⟩ := hs.shape
  have HT := Lib.hid hT
  have HPR := Lib.hid hp
  have HS := Lib.hid hs
  clear hT hp hs
  go_enter Tryz.func80, Tryz.ntmps80
  go_wp2_with fail
  go_loopg [9, 4] l.length (fun gg s v wr => ∃ k : Nat, k ≤ l.length ∧ l.length - k ≤ gg ∧ s = .int .i64 k ∧ Ow nc 1 wr w.heap.size 9 v ((l.take k).map pathL) ∧ Below w.heap.size w wr)
  case atStart => exact ⟨0, Nat.zero_le _, by omega, rfl, by rw [List.take_zero]; exact Ow.nil_, Below.refl _ _⟩
  case round =>
    obtain ⟨k, hk, hgg, rfl, ho, hb⟩ := hrel
    by_cases hlt : k < l.length
    · obtain ⟨b1, o1, c1, e1, _, _, hl1, _, hxx⟩ := (HS.out.below_ hb).at_ hlt
      injection e1 with e1 e2 e3
      subst e1
      obtain ⟨x, hxe⟩ : ∃ x, l[k] = x := ⟨_, rfl⟩
      have hx := HPR.out _ (List.getElem_mem hlt)
      rw [hxe] at hx hxx
      have hx0 : wr.cell? ⟨b1, o1 + k * 4, none⟩ = some (.string (ba x.name)) := by simpa using hxx 0 _ rfl
      have hx1 : wr.cell? ⟨b1, o1 + k * 4 + 1, none⟩ = some (.string (ba x.a)) := by simpa using hxx 1 _ rfl
      have hx2 : wr.cell? ⟨b1, o1 + k * 4 + 2, none⟩ = some (.string (ba x.b)) := by simpa using hxx 2 _ rfl
      have hx3 : wr.cell? ⟨b1, o1 + k * 4 + 3, none⟩ = some (.int .i64 x.len) := by simpa using hxx 3 _ rfl
      have HB := Lib.hid hb
      have HO := Lib.hid ho
      have HSZ := Lib.hid (show w.heap.size ≤ wr.heap.size from hb.size)
      have E := Lib.hid (show (l.take (k + 1)).map pathL = (l.take k).map pathL ++ [pathL x] by rw [take_succ_eq l k hlt, List.map_append, hxe]; rfl)
      have HP := Lib.hid (HT.out.below hb)
      have hlen : ((l.take k).map pathL).length = k := by rw [List.length_map, List.length_take]; omega
      clear hb ho e2 e3 hxx
      have q1 : (0 : Int) ≤ (k : Int) := by omega
      have q2 : (k : Int) < (l.length : Int) := by omega
      obtain ⟨wy, hwy⟩ : ∃ wy, wr.alloc (.cells (pc x).toArray 31) = wy := ⟨_, rfl⟩
      have hy0 : wy.cell? ⟨wr.heap.size, 0, none⟩ = some (.string (ba x.name)) := by rw [← hwy]; exact Lib.cell_of_heap (heap_alloc_new _ _) 0
      have hy1 : wy.cell? ⟨wr.heap.size, 1, none⟩ = some (.string (ba x.a)) := by rw [← hwy]; exact Lib.cell_of_heap (heap_alloc_new _ _) 1
      have hy2 : wy.cell? ⟨wr.heap.size, 2, none⟩ = some (.string (ba x.b)) := by rw [← hwy]; exact Lib.cell_of_heap (heap_alloc_new _ _) 2
      have hy3 : wy.cell? ⟨wr.heap.size, 3, none⟩ = some (.int .i64 x.len) := by rw [← hwy]; exact Lib.cell_of_heap (heap_alloc_new _ _) 3
      have hby : Below wr.heap.size wr wy := by rw [← hwy]; exact (Below.refl _ _).alloc (Nat.le_refl _) _
      replace HP := Lib.hid (HP.out.below hby)
      replace HB := Lib.hid (HB.out.trans (hby.mono HSZ.out))
      replace HO := Lib.hid (Ow.below HO.out hby fun q hq => (HO.out.lt hq).2)
      replace HSZ := Lib.hid (Nat.le_trans HSZ.out hby.size)
      have HC := Lib.hid (path_any wy x HP.out hx.1 hx.2)
      unfold pc at hwy
      have HC2 := HC.out
      unfold pc at HC2
      replace HC := Lib.hid HC2
      clear HC2 hx HP hby
      go_wp2_with fail
      clear hwy
      refine HC.out.mono ?_
      rintro e w3 ⟨rfl, hb3⟩
      have HO3 := Lib.hid (Ow.below HO.out hb3 fun q hq => (HO.out.lt hq).2)
      have HB3 := Lib.hid (HB.out.trans (hb3.mono HSZ.out))
      have HSZ3 := Lib.hid (show w.heap.size ≤ w3.heap.size from Nat.le_trans HSZ.out hb3.size)
      clear hb3
      go_wp2_with (at_builtin; refine wpList_append_sl _ rfl _ _ _ rfl w.heap.size 9 i0 _ 16 Tryz.underlying22 hi0 hz0 hz1 hz2 rfl (by omega) nc_len nc_one _ _ ((l.take k).map pathL) [pathL x] rfl rfl (HO3.out.alloc _) (Sl.new1 (pathL x) rfl) (by rw [hlen]; simp only [maxLen, List.length_cons, List.length_nil]; omega) (by rw [hlen]; simp only [List.length_cons, List.length_nil]; omega) (by have := HSZ3.out; simp; omega) ?_; intro v1 w4 hown1 hg1 hmv1)
      go_roundg (l.length - (k + 1))
      case measure => omega
      case rel => exact ⟨k + 1, by omega, by omega, by go_num, by rw [E.out]; exact hown1, app_keep HB3.out HSZ3.out HO3.out hg1⟩
    · have hke : k = l.length := by omega
      subst hke
      rw [List.take_length] at ho
      have HO := Lib.hid ho
      have HB := Lib.hid hb
      clear ho hb
      go_wp2_with fail
      go_ret
      exact ⟨_, rfl, HO.out, HB.out⟩
set_option maxHeartbeats 2000000 in
set_option maxRecDepth 100000 in
theorem each_door (w : World) (v : Value) (l : List DoorD) {P : Nat → Prop} (hs : Sl dc 7 w v l P) (hn : l.length ≤ 1048576) (hT : Pow w) (hp : ∀ x ∈ l, (I64 x.len ∧ x.times.Fit) ∧ (doorL x).length ≤ 140737488355328 ∧ (timesL x.times kOpen).length ≤ 140737488355328) :
    Calls Tryz.prog 81 #[v, .func (.func 17) #[] #[]] w (Made nc 1 9 (l.map doorL) w) := by
  obtain ⟨i0, hi0, hz0, hz1, hz2⟩ := info_parts info_string
  obtain ⟨A, cap, rfl, h1, h2⟩ := hs.shape
  have HT := Lib.hid hT
  have HPR := Lib.hid hp
  have HS := Lib.hid hs
  clear hT hp hs
  go_enter Tryz.func81, Tryz.ntmps81
  go_wp2_with fail
  go_loopg [9, 4] l.length (fun gg s v wr => ∃ k : Nat, k ≤ l.length ∧ l.length - k ≤ gg ∧ s = .int .i64 k ∧ Ow nc 1 wr w.heap.size 9 v ((l.take k).map doorL) ∧ Below w.heap.size w wr)
  case atStart => exact ⟨0, Nat.zero_le _, by omega, rfl, by rw [List.take_zero]; exact Ow.nil_, Below.refl _ _⟩
  case round =>
    obtain ⟨k, hk, hgg, rfl, ho, hb⟩ := hrel
    by_cases hlt : k < l.length
    · obtain ⟨b1, o1, c1, e1, _, _, hl1, _, hxx⟩ := (HS.out.below_ hb).at_ hlt
      injection e1 with e1 e2 e3
      subst e1
      obtain ⟨x, hxe⟩ : ∃ x, l[k] = x := ⟨_, rfl⟩
      have hx := HPR.out _ (List.getElem_mem hlt)
      rw [hxe] at hx hxx
      have hx0 : wr.cell? ⟨b1, o1 + k * 7, none⟩ = some (.string (ba x.name)) := by simpa using hxx 0 _ rfl
      have hx1 : wr.cell? ⟨b1, o1 + k * 7 + 1, none⟩ = some (.string (ba x.a)) := by simpa using hxx 1 _ rfl
      have hx2 : wr.cell? ⟨b1, o1 + k * 7 + 2, none⟩ = some (.string (ba x.b)) := by simpa using hxx 2 _ rfl
      have hx3 : wr.cell? ⟨b1, o1 + k * 7 + 3, none⟩ = some (.int .i64 x.len) := by simpa using hxx 3 _ rfl
      have hx4 : wr.cell? ⟨b1, o1 + k * 7 + 4, none⟩ = some (.int .i64 x.times.start) := by simpa using hxx 4 _ rfl
      have hx5 : wr.cell? ⟨b1, o1 + k * 7 + 5, none⟩ = some (.int .i64 x.times.every) := by simpa using hxx 5 _ rfl
      have hx6 : wr.cell? ⟨b1, o1 + k * 7 + 6, none⟩ = some (.int .i64 x.times.len) := by simpa using hxx 6 _ rfl
      have HB := Lib.hid hb
      have HO := Lib.hid ho
      have HSZ := Lib.hid (show w.heap.size ≤ wr.heap.size from hb.size)
      have E := Lib.hid (show (l.take (k + 1)).map doorL = (l.take k).map doorL ++ [doorL x] by rw [take_succ_eq l k hlt, List.map_append, hxe]; rfl)
      have HP := Lib.hid (HT.out.below hb)
      have hlen : ((l.take k).map doorL).length = k := by rw [List.length_map, List.length_take]; omega
      clear hb ho e2 e3 hxx
      have q1 : (0 : Int) ≤ (k : Int) := by omega
      have q2 : (k : Int) < (l.length : Int) := by omega
      obtain ⟨wy, hwy⟩ : ∃ wy, wr.alloc (.cells (dc x).toArray 35) = wy := ⟨_, rfl⟩
      have hy0 : wy.cell? ⟨wr.heap.size, 0, none⟩ = some (.string (ba x.name)) := by rw [← hwy]; exact Lib.cell_of_heap (heap_alloc_new _ _) 0
      have hy1 : wy.cell? ⟨wr.heap.size, 1, none⟩ = some (.string (ba x.a)) := by rw [← hwy]; exact Lib.cell_of_heap (heap_alloc_new _ _) 1
      have hy2 : wy.cell? ⟨wr.heap.size, 2, none⟩ = some (.string (ba x.b)) := by rw [← hwy]; exact Lib.cell_of_heap (heap_alloc_new _ _) 2
      have hy3 : wy.cell? ⟨wr.heap.size, 3, none⟩ = some (.int .i64 x.len) := by rw [← hwy]; exact Lib.cell_of_heap (heap_alloc_new _ _) 3
      have hy4 : wy.cell? ⟨wr.heap.size, 4, none⟩ = some (.int .i64 x.times.start) := by rw [← hwy]; exact Lib.cell_of_heap (heap_alloc_new _ _) 4
      have hy5 : wy.cell? ⟨wr.heap.size, 5, none⟩ = some (.int .i64 x.times.every) := by rw [← hwy]; exact Lib.cell_of_heap (heap_alloc_new _ _) 5
      have hy6 : wy.cell? ⟨wr.heap.size, 6, none⟩ = some (.int .i64 x.times.len) := by rw [← hwy]; exact Lib.cell_of_heap (heap_alloc_new _ _) 6
      have hby : Below wr.heap.size wr wy := by rw [← hwy]; exact (Below.refl _ _).alloc (Nat.le_refl _) _
      replace HP := Lib.hid (HP.out.below hby)
      replace HB := Lib.hid (HB.out.trans (hby.mono HSZ.out))
      replace HO := Lib.hid (Ow.below HO.out hby fun q hq => (HO.out.lt hq).2)
      replace HSZ := Lib.hid (Nat.le_trans HSZ.out hby.size)
      have HC := Lib.hid (door_any wy x HP.out hx.1.1 hx.1.2 hx.2.1 hx.2.2)
      unfold dc at hwy
      have HC2 := HC.out
      unfold dc at HC2
      replace HC := Lib.hid HC2
      clear HC2 hx HP hby
      go_wp2_with fail
      clear hwy
      refine HC.out.mono ?_
      rintro e w3 ⟨rfl, hb3⟩
      have HO3 := Lib.hid (Ow.below HO.out hb3 fun q hq => (HO.out.lt hq).2)
      have HB3 := Lib.hid (HB.out.trans (hb3.mono HSZ.out))
      have HSZ3 := Lib.hid (show w.heap.size ≤ w3.heap.size from Nat.le_trans HSZ.out hb3.size)
      clear hb3
      go_wp2_with (at_builtin; refine wpList_append_sl _ rfl _ _ _ rfl w.heap.size 9 i0 _ 16 Tryz.underlying22 hi0 hz0 hz1 hz2 rfl (by omega) nc_len nc_one _ _ ((l.take k).map doorL) [doorL x] rfl rfl (HO3.out.alloc _) (Sl.new1 (doorL x) rfl) (by rw [hlen]; simp only [maxLen, List.length_cons, List.length_nil]; omega) (by rw [hlen]; simp only [List.length_cons, List.length_nil]; omega) (by have := HSZ3.out; simp; omega) ?_; intro v1 w4 hown1 hg1 hmv1)
      go_roundg (l.length - (k + 1))
      case measure => omega
      case rel => exact ⟨k + 1, by omega, by omega, by go_num, by rw [E.out]; exact hown1, app_keep HB3.out HSZ3.out HO3.out hg1⟩
    · have hke : k = l.length := by omega
      subst hke
      rw [List.take_length] at ho
      have HO := Lib.hid ho
      have HB := Lib.hid hb
      clear ho hb
      go_wp2_with fail
      go_ret
      exact ⟨_, rfl, HO.out, HB.out⟩
set_option maxHeartbeats 2000000 in
set_option maxRecDepth 100000 in
theorem each_route (w : World) (v : Value) (l : List RouteM) {P : Nat → Prop} (hs : Sl rc 4 w v l P) (hn : l.length ≤ 1048576) (hT : Pow w) (hp : ∀ x ∈ l, x.Good w (fun _ => True) ∧ x.d.Fit ∧ x.stops.length ≤ 1000 ∧ (routeL x.d).length ≤ 140737488355328) :
    Calls Tryz.prog 82 #[v, .func (.func 19) #[] #[]] w (Made nc 1 9 (l.map (fun x => routeL x.d)) w) := by
  obtain ⟨i0, hi0, hz0, hz1, hz2⟩ := info_parts info_string
  obtain ⟨A, cap, rfl, h1, h2⟩ := hs.shape
  have HT := Lib.hid hT
  have HPR := Lib.hid hp
  have HS := Lib.hid hs
  clear hT hp hs
  go_enter Tryz.func82, Tryz.ntmps82
  go_wp2_with fail
  go_loopg [9, 4] l.length (fun gg s v wr => ∃ k : Nat, k ≤ l.length ∧ l.length - k ≤ gg ∧ s = .int .i64 k ∧ Ow nc 1 wr w.heap.size 9 v ((l.take k).map (fun x => routeL x.d)) ∧ Below w.heap.size w wr)
  case atStart => exact ⟨0, Nat.zero_le _, by omega, rfl, by rw [List.take_zero]; exact Ow.nil_, Below.refl _ _⟩
  case round =>
    obtain ⟨k, hk, hgg, rfl, ho, hb⟩ := hrel
    by_cases hlt : k < l.length
    · obtain ⟨b1, o1, c1, e1, _, _, hl1, _, hxx⟩ := (HS.out.below_ hb).at_ hlt
      injection e1 with e1 e2 e3
      subst e1
      obtain ⟨x, hxe⟩ : ∃ x, l[k] = x := ⟨_, rfl⟩
      have hx := HPR.out _ (List.getElem_mem hlt)
      rw [hxe] at hx hxx
      have hx0 : wr.cell? ⟨b1, o1 + k * 4, none⟩ = some (.string (ba x.name)) := by simpa using hxx 0 _ rfl
      have hx1 : wr.cell? ⟨b1, o1 + k * 4 + 1, none⟩ = some (x.vs) := by simpa using hxx 1 _ rfl
      have hx2 : wr.cell? ⟨b1, o1 + k * 4 + 2, none⟩ = some (x.vr) := by simpa using hxx 2 _ rfl
      have hx3 : wr.cell? ⟨b1, o1 + k * 4 + 3, none⟩ = some (x.vy) := by simpa using hxx 3 _ rfl
      obtain ⟨Ax1, cx1, ex1, _, _⟩ := hx.1.stops.shape
      obtain ⟨Ax2, cx2, ex2, _, _⟩ := hx.1.rides.shape
      obtain ⟨Ax3, cx3, ex3, _, _⟩ := hx.1.stays.shape
      rw [ex1] at hx1
      rw [ex2] at hx2
      rw [ex3] at hx3
      have HCE := Lib.hid (And.intro ex1 (And.intro ex2 ex3))
      have HB := Lib.hid hb
      have HO := Lib.hid ho
      have HSZ := Lib.hid (show w.heap.size ≤ wr.heap.size from hb.size)
      have E := Lib.hid (show (l.take (k + 1)).map (fun x => routeL x.d) = (l.take k).map (fun x => routeL x.d) ++ [routeL x.d] by rw [take_succ_eq l k hlt, List.map_append, hxe]; rfl)
      have HP := Lib.hid (HT.out.below hb)
      have hlen : ((l.take k).map (fun x => routeL x.d)).length = k := by rw [List.length_map, List.length_take]; omega
      clear hb ho e2 e3 hxx
      have q1 : (0 : Int) ≤ (k : Int) := by omega
      have q2 : (k : Int) < (l.length : Int) := by omega
      obtain ⟨wy, hwy⟩ : ∃ wy, wr.alloc (.cells (rc x).toArray 38) = wy := ⟨_, rfl⟩
      have hy0 : wy.cell? ⟨wr.heap.size, 0, none⟩ = some (.string (ba x.name)) := by rw [← hwy]; exact Lib.cell_of_heap (heap_alloc_new _ _) 0
      have hy1 : wy.cell? ⟨wr.heap.size, 1, none⟩ = some (x.vs) := by rw [← hwy]; exact Lib.cell_of_heap (heap_alloc_new _ _) 1
      have hy2 : wy.cell? ⟨wr.heap.size, 2, none⟩ = some (x.vr) := by rw [← hwy]; exact Lib.cell_of_heap (heap_alloc_new _ _) 2
      have hy3 : wy.cell? ⟨wr.heap.size, 3, none⟩ = some (x.vy) := by rw [← hwy]; exact Lib.cell_of_heap (heap_alloc_new _ _) 3
      rw [ex1] at hy1
      rw [ex2] at hy2
      rw [ex3] at hy3
      have hby : Below wr.heap.size wr wy := by rw [← hwy]; exact (Below.refl _ _).alloc (Nat.le_refl _) _
      replace HP := Lib.hid (HP.out.below hby)
      replace HB := Lib.hid (HB.out.trans (hby.mono HSZ.out))
      replace HO := Lib.hid (Ow.below HO.out hby fun q hq => (HO.out.lt hq).2)
      replace HSZ := Lib.hid (Nat.le_trans HSZ.out hby.size)
      have HC := Lib.hid (route_any wy x (hx.1.below_ HB.out) HP.out hx.2.1 hx.2.2.1 hx.2.2.2)
      unfold rc at hwy
      rw [ex1, ex2, ex3] at hwy
      have HC2 := HC.out
      unfold rc at HC2
      rw [ex1, ex2, ex3] at HC2
      replace HC := Lib.hid HC2
      clear HC2 hx HP hby
      go_wp2_with fail
      clear hwy
      refine HC.out.mono ?_
      rintro e w3 ⟨rfl, hb3⟩
      have HO3 := Lib.hid (Ow.below HO.out hb3 fun q hq => (HO.out.lt hq).2)
      have HB3 := Lib.hid (HB.out.trans (hb3.mono HSZ.out))
      have HSZ3 := Lib.hid (show w.heap.size ≤ w3.heap.size from Nat.le_trans HSZ.out hb3.size)
      clear hb3
      go_wp2_with (at_builtin; refine wpList_append_sl _ rfl _ _ _ rfl w.heap.size 9 i0 _ 16 Tryz.underlying22 hi0 hz0 hz1 hz2 rfl (by omega) nc_len nc_one _ _ ((l.take k).map (fun x => routeL x.d)) [routeL x.d] rfl rfl (HO3.out.alloc _) (Sl.new1 (routeL x.d) rfl) (by rw [hlen]; simp only [maxLen, List.length_cons, List.length_nil]; omega) (by rw [hlen]; simp only [List.length_cons, List.length_nil]; omega) (by have := HSZ3.out; simp; omega) ?_; intro v1 w4 hown1 hg1 hmv1)
      go_roundg (l.length - (k + 1))
      case measure => omega
      case rel => exact ⟨k + 1, by omega, by omega, by go_num, by rw [E.out]; exact hown1, app_keep HB3.out HSZ3.out HO3.out hg1⟩
    · have hke : k = l.length := by omega
      subst hke
      rw [List.take_length] at ho
      have HO := Lib.hid ho
      have HB := Lib.hid hb
      clear ho hb
      go_wp2_with fail
      go_ret
      exact ⟨_, rfl, HO.out, HB.out⟩
set_option maxHeartbeats 2000000 in
set_option maxRecDepth 100000 in
theorem each_trip (w : World) (v : Value) (l : List TripD) {P : Nat → Prop} (hs : Sl trc 5 w v l P) (hn : l.length ≤ 1048576) (hT : Pow w) (hp : ∀ x ∈ l, (I64 x.start ∧ I64 x.every ∧ I64 x.stop) ∧ (tripL x).length ≤ 140737488355328) :
    Calls Tryz.prog 83 #[v, .func (.func 21) #[] #[]] w (Made nc 1 9 (l.map tripL) w) := by
  obtain ⟨i0, hi0, hz0, hz1, hz2⟩ := info_parts info_string
  obtain ⟨A, cap, rfl, h1, h2⟩ := hs.shape
  have HT := Lib.hid hT
  have HPR := Lib.hid hp
  have HS := Lib.hid hs
  clear hT hp hs
  go_enter Tryz.func83, Tryz.ntmps83
  go_wp2_with fail
  go_loopg [9, 4] l.length (fun gg s v wr => ∃ k : Nat, k ≤ l.length ∧ l.length - k ≤ gg ∧ s = .int .i64 k ∧ Ow nc 1 wr w.heap.size 9 v ((l.take k).map tripL) ∧ Below w.heap.size w wr)
  case atStart => exact ⟨0, Nat.zero_le _, by omega, rfl, by rw [List.take_zero]; exact Ow.nil_, Below.refl _ _⟩
  case round =>
    obtain ⟨k, hk, hgg, rfl, ho, hb⟩ := hrel
    by_cases hlt : k < l.length
    · obtain ⟨b1, o1, c1, e1, _, _, hl1, _, hxx⟩ := (HS.out.below_ hb).at_ hlt
      injection e1 with e1 e2 e3
      subst e1
      obtain ⟨x, hxe⟩ : ∃ x, l[k] = x := ⟨_, rfl⟩
      have hx := HPR.out _ (List.getElem_mem hlt)
      rw [hxe] at hx hxx
      have hx0 : wr.cell? ⟨b1, o1 + k * 5, none⟩ = some (.string (ba x.name)) := by simpa using hxx 0 _ rfl
      have hx1 : wr.cell? ⟨b1, o1 + k * 5 + 1, none⟩ = some (.string (ba x.route)) := by simpa using hxx 1 _ rfl
      have hx2 : wr.cell? ⟨b1, o1 + k * 5 + 2, none⟩ = some (.int .i64 x.start) := by simpa using hxx 2 _ rfl
      have hx3 : wr.cell? ⟨b1, o1 + k * 5 + 3, none⟩ = some (.int .i64 x.every) := by simpa using hxx 3 _ rfl
      have hx4 : wr.cell? ⟨b1, o1 + k * 5 + 4, none⟩ = some (.int .i64 x.stop) := by simpa using hxx 4 _ rfl
      have HB := Lib.hid hb
      have HO := Lib.hid ho
      have HSZ := Lib.hid (show w.heap.size ≤ wr.heap.size from hb.size)
      have E := Lib.hid (show (l.take (k + 1)).map tripL = (l.take k).map tripL ++ [tripL x] by rw [take_succ_eq l k hlt, List.map_append, hxe]; rfl)
      have HP := Lib.hid (HT.out.below hb)
      have hlen : ((l.take k).map tripL).length = k := by rw [List.length_map, List.length_take]; omega
      clear hb ho e2 e3 hxx
      have q1 : (0 : Int) ≤ (k : Int) := by omega
      have q2 : (k : Int) < (l.length : Int) := by omega
      obtain ⟨wy, hwy⟩ : ∃ wy, wr.alloc (.cells (trc x).toArray 40) = wy := ⟨_, rfl⟩
      have hy0 : wy.cell? ⟨wr.heap.size, 0, none⟩ = some (.string (ba x.name)) := by rw [← hwy]; exact Lib.cell_of_heap (heap_alloc_new _ _) 0
      have hy1 : wy.cell? ⟨wr.heap.size, 1, none⟩ = some (.string (ba x.route)) := by rw [← hwy]; exact Lib.cell_of_heap (heap_alloc_new _ _) 1
      have hy2 : wy.cell? ⟨wr.heap.size, 2, none⟩ = some (.int .i64 x.start) := by rw [← hwy]; exact Lib.cell_of_heap (heap_alloc_new _ _) 2
      have hy3 : wy.cell? ⟨wr.heap.size, 3, none⟩ = some (.int .i64 x.every) := by rw [← hwy]; exact Lib.cell_of_heap (heap_alloc_new _ _) 3
      have hy4 : wy.cell? ⟨wr.heap.size, 4, none⟩ = some (.int .i64 x.stop) := by rw [← hwy]; exact Lib.cell_of_heap (heap_alloc_new _ _) 4
      have hby : Below wr.heap.size wr wy := by rw [← hwy]; exact (Below.refl _ _).alloc (Nat.le_refl _) _
      replace HP := Lib.hid (HP.out.below hby)
      replace HB := Lib.hid (HB.out.trans (hby.mono HSZ.out))
      replace HO := Lib.hid (Ow.below HO.out hby fun q hq => (HO.out.lt hq).2)
      replace HSZ := Lib.hid (Nat.le_trans HSZ.out hby.size)
      have HC := Lib.hid (trip_any wy x HP.out hx.1.1 hx.1.2.1 hx.1.2.2 hx.2)
      unfold trc at hwy
      have HC2 := HC.out
      unfold trc at HC2
      replace HC := Lib.hid HC2
      clear HC2 hx HP hby
      go_wp2_with fail
      clear hwy
      refine HC.out.mono ?_
      rintro e w3 ⟨rfl, hb3⟩
      have HO3 := Lib.hid (Ow.below HO.out hb3 fun q hq => (HO.out.lt hq).2)
      have HB3 := Lib.hid (HB.out.trans (hb3.mono HSZ.out))
      have HSZ3 := Lib.hid (show w.heap.size ≤ w3.heap.size from Nat.le_trans HSZ.out hb3.size)
      clear hb3
      go_wp2_with (at_builtin; refine wpList_append_sl _ rfl _ _ _ rfl w.heap.size 9 i0 _ 16 Tryz.underlying22 hi0 hz0 hz1 hz2 rfl (by omega) nc_len nc_one _ _ ((l.take k).map tripL) [tripL x] rfl rfl (HO3.out.alloc _) (Sl.new1 (tripL x) rfl) (by rw [hlen]; simp only [maxLen, List.length_cons, List.length_nil]; omega) (by rw [hlen]; simp only [List.length_cons, List.length_nil]; omega) (by have := HSZ3.out; simp; omega) ?_; intro v1 w4 hown1 hg1 hmv1)
      go_roundg (l.length - (k + 1))
      case measure => omega
      case rel => exact ⟨k + 1, by omega, by omega, by go_num, by rw [E.out]; exact hown1, app_keep HB3.out HSZ3.out HO3.out hg1⟩
    · have hke : k = l.length := by omega
      subst hke
      rw [List.take_length] at ho
      have HO := Lib.hid ho
      have HB := Lib.hid hb
      clear ho hb
      go_wp2_with fail
      go_ret
      exact ⟨_, rfl, HO.out, HB.out⟩
set_option maxHeartbeats 2000000 in
set_option maxRecDepth 100000 in
theorem each_haz (w : World) (v : Value) (l : List HazD) {P : Nat → Prop} (hs : Sl hc 5 w v l P) (hn : l.length ≤ 1048576) (hT : Pow w) (hp : ∀ x ∈ l, x.times.Fit ∧ (hazL x).length ≤ 140737488355328 ∧ (timesL x.times kClosed).length ≤ 140737488355328) :
    Calls Tryz.prog 84 #[v, .func (.func 23) #[] #[]] w (Made nc 1 9 (l.map hazL) w) := by
  obtain ⟨i0, hi0, hz0, hz1, hz2⟩ := info_parts info_string
  obtain ⟨A, cap, rfl, h1, h2⟩ := hs.shape
  have HT := Lib.hid hT
  have HPR := Lib.hid hp
  have HS := Lib.hid hs
  clear hT hp hs
  go_enter Tryz.func84, Tryz.ntmps84
  go_wp2_with fail
  go_loopg [9, 4] l.length (fun gg s v wr => ∃ k : Nat, k ≤ l.length ∧ l.length - k ≤ gg ∧ s = .int .i64 k ∧ Ow nc 1 wr w.heap.size 9 v ((l.take k).map hazL) ∧ Below w.heap.size w wr)
  case atStart => exact ⟨0, Nat.zero_le _, by omega, rfl, by rw [List.take_zero]; exact Ow.nil_, Below.refl _ _⟩
  case round =>
    obtain ⟨k, hk, hgg, rfl, ho, hb⟩ := hrel
    by_cases hlt : k < l.length
    · obtain ⟨b1, o1, c1, e1, _, _, hl1, _, hxx⟩ := (HS.out.below_ hb).at_ hlt
      injection e1 with e1 e2 e3
      subst e1
      obtain ⟨x, hxe⟩ : ∃ x, l[k] = x := ⟨_, rfl⟩
      have hx := HPR.out _ (List.getElem_mem hlt)
      rw [hxe] at hx hxx
      have hx0 : wr.cell? ⟨b1, o1 + k * 5, none⟩ = some (.string (ba x.name)) := by simpa using hxx 0 _ rfl
      have hx1 : wr.cell? ⟨b1, o1 + k * 5 + 1, none⟩ = some (.string (ba x.on)) := by simpa using hxx 1 _ rfl
      have hx2 : wr.cell? ⟨b1, o1 + k * 5 + 2, none⟩ = some (.int .i64 x.times.start) := by simpa using hxx 2 _ rfl
      have hx3 : wr.cell? ⟨b1, o1 + k * 5 + 3, none⟩ = some (.int .i64 x.times.every) := by simpa using hxx 3 _ rfl
      have hx4 : wr.cell? ⟨b1, o1 + k * 5 + 4, none⟩ = some (.int .i64 x.times.len) := by simpa using hxx 4 _ rfl
      have HB := Lib.hid hb
      have HO := Lib.hid ho
      have HSZ := Lib.hid (show w.heap.size ≤ wr.heap.size from hb.size)
      have E := Lib.hid (show (l.take (k + 1)).map hazL = (l.take k).map hazL ++ [hazL x] by rw [take_succ_eq l k hlt, List.map_append, hxe]; rfl)
      have HP := Lib.hid (HT.out.below hb)
      have hlen : ((l.take k).map hazL).length = k := by rw [List.length_map, List.length_take]; omega
      clear hb ho e2 e3 hxx
      have q1 : (0 : Int) ≤ (k : Int) := by omega
      have q2 : (k : Int) < (l.length : Int) := by omega
      obtain ⟨wy, hwy⟩ : ∃ wy, wr.alloc (.cells (hc x).toArray 42) = wy := ⟨_, rfl⟩
      have hy0 : wy.cell? ⟨wr.heap.size, 0, none⟩ = some (.string (ba x.name)) := by rw [← hwy]; exact Lib.cell_of_heap (heap_alloc_new _ _) 0
      have hy1 : wy.cell? ⟨wr.heap.size, 1, none⟩ = some (.string (ba x.on)) := by rw [← hwy]; exact Lib.cell_of_heap (heap_alloc_new _ _) 1
      have hy2 : wy.cell? ⟨wr.heap.size, 2, none⟩ = some (.int .i64 x.times.start) := by rw [← hwy]; exact Lib.cell_of_heap (heap_alloc_new _ _) 2
      have hy3 : wy.cell? ⟨wr.heap.size, 3, none⟩ = some (.int .i64 x.times.every) := by rw [← hwy]; exact Lib.cell_of_heap (heap_alloc_new _ _) 3
      have hy4 : wy.cell? ⟨wr.heap.size, 4, none⟩ = some (.int .i64 x.times.len) := by rw [← hwy]; exact Lib.cell_of_heap (heap_alloc_new _ _) 4
      have hby : Below wr.heap.size wr wy := by rw [← hwy]; exact (Below.refl _ _).alloc (Nat.le_refl _) _
      replace HP := Lib.hid (HP.out.below hby)
      replace HB := Lib.hid (HB.out.trans (hby.mono HSZ.out))
      replace HO := Lib.hid (Ow.below HO.out hby fun q hq => (HO.out.lt hq).2)
      replace HSZ := Lib.hid (Nat.le_trans HSZ.out hby.size)
      have HC := Lib.hid (haz_any wy x HP.out hx.1 hx.2.1 hx.2.2)
      unfold hc at hwy
      have HC2 := HC.out
      unfold hc at HC2
      replace HC := Lib.hid HC2
      clear HC2 hx HP hby
      go_wp2_with fail
      clear hwy
      refine HC.out.mono ?_
      rintro e w3 ⟨rfl, hb3⟩
      have HO3 := Lib.hid (Ow.below HO.out hb3 fun q hq => (HO.out.lt hq).2)
      have HB3 := Lib.hid (HB.out.trans (hb3.mono HSZ.out))
      have HSZ3 := Lib.hid (show w.heap.size ≤ w3.heap.size from Nat.le_trans HSZ.out hb3.size)
      clear hb3
      go_wp2_with (at_builtin; refine wpList_append_sl _ rfl _ _ _ rfl w.heap.size 9 i0 _ 16 Tryz.underlying22 hi0 hz0 hz1 hz2 rfl (by omega) nc_len nc_one _ _ ((l.take k).map hazL) [hazL x] rfl rfl (HO3.out.alloc _) (Sl.new1 (hazL x) rfl) (by rw [hlen]; simp only [maxLen, List.length_cons, List.length_nil]; omega) (by rw [hlen]; simp only [List.length_cons, List.length_nil]; omega) (by have := HSZ3.out; simp; omega) ?_; intro v1 w4 hown1 hg1 hmv1)
      go_roundg (l.length - (k + 1))
      case measure => omega
      case rel => exact ⟨k + 1, by omega, by omega, by go_num, by rw [E.out]; exact hown1, app_keep HB3.out HSZ3.out HO3.out hg1⟩
    · have hke : k = l.length := by omega
      subst hke
      rw [List.take_length] at ho
      have HO := Lib.hid ho
      have HB := Lib.hid hb
      clear ho hb
      go_wp2_with fail
      go_ret
      exact ⟨_, rfl, HO.out, HB.out⟩
end Go.Proofs.YtmihinhbcncbfaaGreatDoor
