/- timetablekit.Own at five types. Printed by wip/bin/genow.py. -/
import Derived.Test.YteonefgbdphmiaaGreatDoorSk
import Derived.Test.YteonefgbdphmiaaGreatDoorSy
namespace Go.Proofs.YteonefgbdphmiaaGreatDoor
open Go.RowKit
set_option maxHeartbeats 400000 in
theorem own_i64 (w : World) (v : Value) (l : List Int) {P : Nat → Prop} (hs : Sl ic 1 w v l P) (hsz : l.length ≤ 1048576) :
    Calls Tryz.prog 70 #[v] w (Made ic 1 2 l w) := by
  obtain ⟨i0, hi0, hz0, hz1, hz2⟩ := info_parts info_i64
  obtain ⟨A, cap, rfl, h1, h2⟩ := hs.shape
  have hz1' : ∀ o, (w.alloc o).heap.size = w.heap.size + 1 := fun o => by simp
  go_enter Tryz.func70, Tryz.ntmps70
  go_wp2_with (at_builtin; refine wpList_append_sl _ rfl _ _ _ rfl w.heap.size 2 i0 _ 8 Tryz.underlying55 hi0 hz0 hz1 hz2 (by rfl) (by omega) ic_len ic_one (.slice (some ⟨w.heap.size, 0, none⟩) 0 0) _ [] l rfl rfl (Ow.empty (Nat.le_refl _)) (hs.alloc _) (by simp only [maxLen, List.length_nil]; omega) (by simp only [List.length_nil]; omega) (by rw [hz1']; omega) ?_; intro v1 w1 hown1 hg1 hmv1)
  go_ret
  exact ⟨v1, rfl, hown1, ((Below.refl _ _).alloc (Nat.le_refl _) _).grown hg1 (by rw [hz1']; omega) fun k hk => by
    have : w.heap.size = k := by simpa [Value.ownBlock] using hk
    omega⟩
theorem info_path : (Tryz.prog.info? 61).map (fun i => (i.zero, i.size, i.bytes)) = some (some (.agg #[.string ByteArray.empty, .string ByteArray.empty, .string ByteArray.empty, .int .i64 0]), 4, 56) := by kernel_rfl
set_option maxHeartbeats 400000 in
theorem own_path (w : World) (v : Value) (l : List PathD) {P : Nat → Prop} (hs : Sl pc 4 w v l P) (hsz : l.length ≤ 1048576) :
    Calls Tryz.prog 39 #[v] w (Made pc 4 61 l w) := by
  obtain ⟨i0, hi0, hz0, hz1, hz2⟩ := info_parts info_path
  obtain ⟨A, cap, rfl, h1, h2⟩ := hs.shape
  have hz1' : ∀ o, (w.alloc o).heap.size = w.heap.size + 1 := fun o => by simp
  go_enter Tryz.func39, Tryz.ntmps39
  go_wp2_with (at_builtin; refine wpList_append_sl _ rfl _ _ _ rfl w.heap.size 61 i0 _ 56 Tryz.underlying23 hi0 hz0 hz1 hz2 (by rfl) (by omega) pc_len pc_one (.slice (some ⟨w.heap.size, 0, none⟩) 0 0) _ [] l rfl rfl (Ow.empty (Nat.le_refl _)) (hs.alloc _) (by simp only [maxLen, List.length_nil]; omega) (by simp only [List.length_nil]; omega) (by rw [hz1']; omega) ?_; intro v1 w1 hown1 hg1 hmv1)
  go_ret
  exact ⟨v1, rfl, hown1, ((Below.refl _ _).alloc (Nat.le_refl _) _).grown hg1 (by rw [hz1']; omega) fun k hk => by
    have : w.heap.size = k := by simpa [Value.ownBlock] using hk
    omega⟩
theorem info_door : (Tryz.prog.info? 50).map (fun i => (i.zero, i.size, i.bytes)) = some (some (.agg #[.string ByteArray.empty, .string ByteArray.empty, .string ByteArray.empty, .int .i64 0, .int .i64 0, .int .i64 0, .int .i64 0]), 7, 80) := by kernel_rfl
set_option maxHeartbeats 400000 in
theorem own_door (w : World) (v : Value) (l : List DoorD) {P : Nat → Prop} (hs : Sl dc 7 w v l P) (hsz : l.length ≤ 1048576) :
    Calls Tryz.prog 40 #[v] w (Made dc 7 50 l w) := by
  obtain ⟨i0, hi0, hz0, hz1, hz2⟩ := info_parts info_door
  obtain ⟨A, cap, rfl, h1, h2⟩ := hs.shape
  have hz1' : ∀ o, (w.alloc o).heap.size = w.heap.size + 1 := fun o => by simp
  go_enter Tryz.func40, Tryz.ntmps40
  go_wp2_with (at_builtin; refine wpList_append_sl _ rfl _ _ _ rfl w.heap.size 50 i0 _ 80 Tryz.underlying24 hi0 hz0 hz1 hz2 (by rfl) (by omega) dc_len dc_one (.slice (some ⟨w.heap.size, 0, none⟩) 0 0) _ [] l rfl rfl (Ow.empty (Nat.le_refl _)) (hs.alloc _) (by simp only [maxLen, List.length_nil]; omega) (by simp only [List.length_nil]; omega) (by rw [hz1']; omega) ?_; intro v1 w1 hown1 hg1 hmv1)
  go_ret
  exact ⟨v1, rfl, hown1, ((Below.refl _ _).alloc (Nat.le_refl _) _).grown hg1 (by rw [hz1']; omega) fun k hk => by
    have : w.heap.size = k := by simpa [Value.ownBlock] using hk
    omega⟩
theorem info_trip : (Tryz.prog.info? 52).map (fun i => (i.zero, i.size, i.bytes)) = some (some (.agg #[.string ByteArray.empty, .string ByteArray.empty, .int .i64 0, .int .i64 0, .int .i64 0]), 5, 56) := by kernel_rfl
set_option maxHeartbeats 400000 in
theorem own_trip (w : World) (v : Value) (l : List TripD) {P : Nat → Prop} (hs : Sl trc 5 w v l P) (hsz : l.length ≤ 1048576) :
    Calls Tryz.prog 41 #[v] w (Made trc 5 52 l w) := by
  obtain ⟨i0, hi0, hz0, hz1, hz2⟩ := info_parts info_trip
  obtain ⟨A, cap, rfl, h1, h2⟩ := hs.shape
  have hz1' : ∀ o, (w.alloc o).heap.size = w.heap.size + 1 := fun o => by simp
  go_enter Tryz.func41, Tryz.ntmps41
  go_wp2_with (at_builtin; refine wpList_append_sl _ rfl _ _ _ rfl w.heap.size 52 i0 _ 56 Tryz.underlying26 hi0 hz0 hz1 hz2 (by rfl) (by omega) trc_len trc_one (.slice (some ⟨w.heap.size, 0, none⟩) 0 0) _ [] l rfl rfl (Ow.empty (Nat.le_refl _)) (hs.alloc _) (by simp only [maxLen, List.length_nil]; omega) (by simp only [List.length_nil]; omega) (by rw [hz1']; omega) ?_; intro v1 w1 hown1 hg1 hmv1)
  go_ret
  exact ⟨v1, rfl, hown1, ((Below.refl _ _).alloc (Nat.le_refl _) _).grown hg1 (by rw [hz1']; omega) fun k hk => by
    have : w.heap.size = k := by simpa [Value.ownBlock] using hk
    omega⟩
theorem info_haz : (Tryz.prog.info? 54).map (fun i => (i.zero, i.size, i.bytes)) = some (some (.agg #[.string ByteArray.empty, .string ByteArray.empty, .int .i64 0, .int .i64 0, .int .i64 0]), 5, 56) := by kernel_rfl
set_option maxHeartbeats 400000 in
theorem own_haz (w : World) (v : Value) (l : List HazD) {P : Nat → Prop} (hs : Sl hc 5 w v l P) (hsz : l.length ≤ 1048576) :
    Calls Tryz.prog 42 #[v] w (Made hc 5 54 l w) := by
  obtain ⟨i0, hi0, hz0, hz1, hz2⟩ := info_parts info_haz
  obtain ⟨A, cap, rfl, h1, h2⟩ := hs.shape
  have hz1' : ∀ o, (w.alloc o).heap.size = w.heap.size + 1 := fun o => by simp
  go_enter Tryz.func42, Tryz.ntmps42
  go_wp2_with (at_builtin; refine wpList_append_sl _ rfl _ _ _ rfl w.heap.size 54 i0 _ 56 Tryz.underlying27 hi0 hz0 hz1 hz2 (by rfl) (by omega) hc_len hc_one (.slice (some ⟨w.heap.size, 0, none⟩) 0 0) _ [] l rfl rfl (Ow.empty (Nat.le_refl _)) (hs.alloc _) (by simp only [maxLen, List.length_nil]; omega) (by simp only [List.length_nil]; omega) (by rw [hz1']; omega) ?_; intro v1 w1 hown1 hg1 hmv1)
  go_ret
  exact ⟨v1, rfl, hown1, ((Below.refl _ _).alloc (Nat.le_refl _) _).grown hg1 (by rw [hz1']; omega) fun k hk => by
    have : w.heap.size = k := by simpa [Value.ownBlock] using hk
    omega⟩
end Go.Proofs.YteonefgbdphmiaaGreatDoor
