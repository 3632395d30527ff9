/- Walks: slices of names (Clone, Own, Same). -/
import Derived.Test.YteonefgbdphmiaaGreatDoorNb
import Derived.Lib.SliceRun
import Derived.Deep.QuietTactic
import Derived.BigQuiet
import Derived.Lib.AppendIntMem
namespace Go.Proofs.YteonefgbdphmiaaGreatDoor
open Go.RowKit

/-- It returns a row of its own that holds l, and writes nothing that was there. -/
def Made {α : Type} (c : α → List Value) (size : Nat) (t : TypeId) (l : List α) (w : World) (e : Ending) (w' : World) : Prop :=
  ∃ v, e = .returned v ∧ Ow c size w' w.heap.size t v l ∧ Below w.heap.size w w'
set_option maxHeartbeats 400000 in
theorem nclone_any (w : World) (v : Value) (l : Nms) {P : Nat → Prop} (hs : Sl nc 1 w v l P) (hsz : l.length ≤ 1048576) :
    Calls Tryz.prog 72 #[v] w (Made nc 1 9 l w) := by
  obtain ⟨i0, hi0, hz0, hz1, hz2⟩ := info_parts info_string
  obtain ⟨A, cap, rfl, h1, h2⟩ := hs.shape
  rcases A with _ | ad
  · have h0 : l = [] := by
      rcases Nat.eq_zero_or_pos l.length with h0 | h0
      · exact List.eq_nil_of_length_eq_zero h0
      · obtain ⟨b, off, c, e, _⟩ := hs.form h0
        cases e
    subst h0
    have hnil := fun wx => Lib.run_eql_slice_nil (P := Tryz.prog) wx 22 9 none 0 cap 0 0 Tryz.underlying22
    go_enter Tryz.func72, Tryz.ntmps72
    go_wp2
    go_ret
    exact ⟨_, rfl, Ow.nil_, Below.refl _ _⟩
  · have hz1' : ∀ o, (w.alloc o).heap.size = w.heap.size + 1 := fun o => by simp
    have hnil := fun wx => Lib.run_eql_slice_nil (P := Tryz.prog) wx 22 9 (some ad) l.length cap 0 0 Tryz.underlying22
    go_enter Tryz.func72, Tryz.ntmps72
    go_wp2_with (at_builtin; refine wpList_append_sl _ rfl _ _ _ rfl w.heap.size 9 i0 _ 16 Tryz.underlying22 hi0 hz0 hz1 hz2 rfl (by omega) nc_len nc_one (.slice (some ⟨w.heap.size, 0, none⟩) 0 0) _ [] l rfl rfl (Ow.empty (Nat.le_refl _)) (hs.alloc _) (by simp only [maxLen, List.length_nil]; omega) (by simp only [List.length_nil]; omega) (by rw [hz1']; omega) ?_; intro v1 w1 hown1 hg1 hmv1)
    go_ret
    exact ⟨v1, rfl, hown1, ((Below.refl _ _).alloc (Nat.le_refl _) _).grown hg1 (by rw [hz1']; omega) fun k hk => by
      have : w.heap.size = k := by simpa [Value.ownBlock] using hk
      omega⟩
set_option maxHeartbeats 400000 in
theorem nown_any (w : World) (v : Value) (l : Nms) {P : Nat → Prop} (hs : Sl nc 1 w v l P) (hsz : l.length ≤ 1048576) :
    Calls Tryz.prog 19 #[v] w (Made nc 1 9 l w) := by
  obtain ⟨i0, hi0, hz0, hz1, hz2⟩ := info_parts info_string
  obtain ⟨A, cap, rfl, h1, h2⟩ := hs.shape
  have hz1' : ∀ o, (w.alloc o).heap.size = w.heap.size + 1 := fun o => by simp
  go_enter Tryz.func19, Tryz.ntmps19
  go_wp2_with (at_builtin; refine wpList_append_sl _ rfl _ _ _ rfl w.heap.size 9 i0 _ 16 Tryz.underlying22 hi0 hz0 hz1 hz2 rfl (by omega) nc_len nc_one (.slice (some ⟨w.heap.size, 0, none⟩) 0 0) _ [] l rfl rfl (Ow.empty (Nat.le_refl _)) (hs.alloc _) (by simp only [maxLen, List.length_nil]; omega) (by simp only [List.length_nil]; omega) (by rw [hz1']; omega) ?_; intro v1 w1 hown1 hg1 hmv1)
  go_ret
  exact ⟨v1, rfl, hown1, ((Below.refl _ _).alloc (Nat.le_refl _) _).grown hg1 (by rw [hz1']; omega) fun k hk => by
    have : w.heap.size = k := by simpa [Value.ownBlock] using hk
    omega⟩
set_option maxHeartbeats 1000000 in
theorem sameStr_any (va vb : Value) (la lb : Nms) (w : World) {P Q : Nat → Prop} (ha : Sl nc 1 w va la P) (hb : Sl nc 1 w vb lb Q) (h1 : la.length ≤ 1048576) :
    Calls Tryz.prog 18 #[va, vb] w (Quiet (.bool (decide (la = lb))) w) := by
  obtain ⟨A, capa, rfl, ha1, ha2⟩ := ha.shape
  obtain ⟨B, capb, e, hb1, hb2⟩ := hb.shape
  by_cases hlen : la.length = lb.length
  · rw [← hlen] at e hb1
    subst e
    go_enter Tryz.func18, Tryz.ntmps18
    have Hlen := Lib.hid hlen
    clear hlen
    go_wp2
    go_loopw [5] (fun s wr => SameRel la lb w s wr) (fun s _ => la.length - (intOf s).toNat)
    case atStart => exact ⟨0, 0, Nat.zero_le _, rfl, rfl, rfl⟩
    case round =>
      obtain ⟨k, n, hk, rfl, hkk, rfl⟩ := hrel
      by_cases hlt : k < la.length
      · have hlt2 : k < lb.length := by rw [← Hlen.out]; exact hlt
        obtain ⟨b1, o1, c1, e1, _, _, hl1, _, hx⟩ := ha.at_ hlt
        obtain ⟨b2, o2, c2, e2, _, _, hl2, _, hy⟩ := hb.at_ hlt2
        injection e1 with e1 e1' e1''
        injection e2 with e2 e2' e2''
        subst e1 e2
        obtain ⟨x, Hx⟩ : ∃ x, Hid (la[k] = x) := ⟨_, Lib.hid rfl⟩
        obtain ⟨y, Hy⟩ : ∃ y, Hid (lb[k] = y) := ⟨_, Lib.hid rfl⟩
        rw [Hx.out] at hx
        rw [Hy.out] at hy
        have hx0 : w.cell? ⟨b1, o1 + k, none⟩ = some (.string (ba x)) := by simpa using hx 0 _ rfl
        have hy0 : w.cell? ⟨b2, o2 + k, none⟩ = some (.string (ba y)) := by simpa using hy 0 _ rfl
        have Hkk := Lib.hid hkk
        clear hkk hx hy e1' e1'' e2' e2''
        have q1 : (0 : Int) ≤ (k : Int) := by omega
        have q2 : (k : Int) < (la.length : Int) := by omega
        by_cases hxy : x = y
        · have hb0 : ((ba x).toList == (ba y).toList) = true := by rw [hxy, beq_self_eq_true]
          have Hxy := Lib.hid hxy
          clear hxy
          go_wp2
          go_quiet (fail)
          go_wp2
          go_roundw
          case rel => exact ⟨k + 1, _, by omega, by go_num, same_step hlt hlt2 Hkk.out (by rw [Hx.out, Hy.out]; exact Hxy.out), by first | rfl | exact World.drewN_drewN _ _ _⟩
          case measure => simp [intOf]; omega
        · have hb0 : ((ba x).toList == (ba y).toList) = false := by rw [ba_toList, ba_toList]; exact beq_eq_false_iff_ne.2 hxy
          have hne := same_ne hlt hlt2 (by rw [Hx.out, Hy.out]; exact hxy)
          have Hne := Lib.hid hne
          clear hne hxy
          go_wp2
          go_quiet (fail)
          go_wp2
          go_ret
          exact ⟨ret_bool (decide_eq_false Hne.out).symm, _, by first | rfl | exact World.drewN_drewN _ _ _⟩
      · have hkl : k = la.length := by omega
        subst hkl
        have Heq := Lib.hid (same_eq Hlen.out hkk)
        clear hkk
        go_wp2
        go_ret
        exact ⟨ret_bool (decide_eq_true Heq.out).symm, n, rfl⟩
  · have hne : la ≠ lb := fun h => hlen (by rw [h])
    rw [decide_eq_false hne]
    obtain rfl := e
    have hd : ((la.length : Int) == (lb.length : Int)) = false := beq_eq_false_iff_ne.2 (by omega)
    clear hne hlen
    go_enter Tryz.func18, Tryz.ntmps18
    go_wp2
    go_ret
    exact ⟨rfl, 0, rfl⟩

theorem sameStr_self (va vb : Value) (l : Nms) (w : World) {P Q : Nat → Prop} (ha : Sl nc 1 w va l P) (hb : Sl nc 1 w vb l Q) (h1 : l.length ≤ 1048576) :
    Calls Tryz.prog 18 #[va, vb] w (Quiet (.bool true) w) := by
  have h := sameStr_any va vb l l w ha hb h1
  rwa [show decide (l = l) = true from decide_eq_true rfl] at h

end Go.Proofs.YteonefgbdphmiaaGreatDoor
/- Bytes as cells; a number's digits (plain). -/
namespace Go.Proofs.YteonefgbdphmiaaGreatDoor
open Go.RowKit
theorem byteCells_app (l m : List UInt8) : Lib.byteCells (l ++ m) = Lib.byteCells l ++ Lib.byteCells m := by unfold Lib.byteCells; rw [List.map_append]
theorem byteCells_len (l : List UInt8) : (Lib.byteCells l).length = l.length := by unfold Lib.byteCells; rw [List.length_map]
/-- A number's digits. -/
def dec (n : Int) : List UInt8 := Lib.itoa n
end Go.Proofs.YteonefgbdphmiaaGreatDoor
