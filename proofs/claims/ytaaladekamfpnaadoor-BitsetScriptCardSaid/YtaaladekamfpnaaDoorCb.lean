/- The walk of timetableref03.Set's Minus. -/
import Derived.Test.YtaaladekamfpnaaDoorCa
namespace Go.Proofs.YtaaladekamfpnaaDoor
open Go.RowKit Bs
attribute [local irreducible] wpStill

set_option maxHeartbeats 1500000 in
theorem rMinus_any (w : World) (p g p' g' : Nat) (l m : List Bool) (h : RSet w p g l) (k : RSet w p' g' m) (hlm : l.length = m.length) :
    Calls Tryd.prog 30 #[.pointer (some ⟨p, 0, none⟩), .pointer (some ⟨p', 0, none⟩)] w (ROp (List.zipWith (fun a b => a && !b) l m) p g w) := by
  obtain ⟨cap, c0, _, _⟩ := h.open_
  obtain ⟨cap', d0, hd1, hd2, hs⟩ := k.sl
  have hle := h.le
  have hlt0 := h.lt
  have hml := k.le
  have hpl := k.lt.1
  obtain ⟨i0, hi0, hz0, hz1, hz2⟩ := info_parts info_bool
  have hq : ((l.length : Int) != (m.length : Int)) = false := by simp; omega
  have d1 : ∀ n, ((w.drewN n).alloc (.cells #[] 4)).cell? ⟨p', 0, none⟩ = some (.slice (some ⟨g', 0, none⟩) m.length cap') := fun n => (World.cell?_alloc_lt (w.drewN n) (.cells #[] 4) ⟨p', 0, none⟩ hpl).trans d0
  have hz1' : ∀ n o, ((w.drewN n).alloc o).heap.size = w.heap.size + 1 := fun n o => by simp [World.drewN]
  have Hlen := Lib.hid hlm
  clear hlm
  go_enter Tryd.func30, Tryd.ntmps30
  go_wp2
  go_quiet (fail)
  go_wp2_with (at_builtin; refine wpList_append_sl _ rfl _ _ _ rfl w.heap.size 4 i0 _ 1 Tryd.underlying54 hi0 hz0 hz1 hz2 rfl (by omega) bc_len bc_one (.slice (some ⟨w.heap.size, 0, none⟩) 0 0) _ [] m rfl rfl (Ow.empty (Nat.le_refl _)) (hs.alloc _) (by simp only [maxLen, List.length_nil]; omega) (by simp only [List.length_nil]; omega) (by simp [World.alloc]) ?_; intro v1 w1 hown1 hg1 hmv1; rw [List.nil_append] at hown1; obtain ⟨A1, cp1, rfl, hd3, hd4⟩ := hown1.shape)
  have hb : Below w.heap.size w w1 := ((Below.refl w.heap.size w).alloc (Nat.le_refl _) (.cells #[] 4)).grown (w' := w1) ⟨hg1.os, hg1.tape, hg1.output, hg1.size, hg1.block⟩ (by simp) fun k hk => by
    have : w.heap.size = k := by simpa [Value.ownBlock] using hk
    omega
  have h1 := h.below_ hb
  have hs1 := (hown1.sl bc_len).mono (P' := fun b => w.heap.size ≤ b) fun b hb => hb.2
  go_loopw [6] (fun s wr => ∃ j : Nat, j ≤ l.length ∧ s = .int .i64 (j : Int) ∧ RSet wr p g (bmix (fun a b => a && !b) l m j) ∧ w1.grownBy wr (some g)) (fun s _ => l.length - (intOf s).toNat)
  case atStart => exact ⟨0, Nat.zero_le _, rfl, h1, grown_refl _ _⟩
  case round =>
    obtain ⟨j, hj, rfl, hr, hgr⟩ := hrel
    have ho := hs1.grown hgr (fun b hb => by intro e; injection e with e; have := hlt0.2; omega)
    obtain ⟨capr, cr, _, _⟩ := hr.open_
    have hbl := bmix_length (f := fun a b => a && !b) Hlen.out j hj
    rw [hbl] at cr
    by_cases hlt : j < l.length
    · have hlt2 : j < m.length := by rw [← Hlen.out]; exact hlt
      obtain ⟨hx, hfx⟩ := hr.bit (i := j) (by rw [hbl]; exact hlt)
      obtain ⟨b2, o2, c2, e2, _, _, hl2, _, hy⟩ := ho.at_ hlt2
      injection e2 with e2 _ e4
      subst e2 e4
      have hy := hy 0 _ rfl
      rw [← at_lt hlt2] at hy
      rw [bmix_at Hlen.out hlt] at hx
      have HS := Lib.hid (hr.store (i := j) (by rw [hbl]; exact hlt) ((fun a b => a && !b) (at_ l j) (at_ m j)) 1)
      rw [bmix_set Hlen.out hlt] at HS
      generalize at_ l j = x at *
      generalize at_ m j = y at *
      have hy0 : wr.cell? ⟨b2, o2 + j, none⟩ = some (.bool y) := by simpa using hy
      clear hy
      have q1 : (0 : Int) ≤ (j : Int) := by omega
      have q2 : (j : Int) < (l.length : Int) := by omega
      have q3 : (j : Int) < (m.length : Int) := by omega
      have e : x = true ∨ x = false := by cases x <;> simp
      go_wp2
      refine wp_region_still_tail 20 (by kernel_rfl) (by kernel_rfl) ?_
      simp only [List.take_succ_cons, List.take_zero, List.drop_succ_cons, List.drop_zero]
      iterate 13 still2_step
      rcases e with rfl | rfl
      · iterate 5 still2_step
        iterate 2 still2_step
        apply wpStill_nil
        change wpList _ _ _ _ _ wr.drew
        go_wp2
        have R := HS.out
        rw [Bool.true_and] at R
        have R' : ∃ j' : Nat, j' ≤ l.length ∧ Value.int .i64 ((j : Int) + 1) = .int .i64 (j' : Int) ∧ RSet _ p g (bmix (fun a b => a && !b) l m j') ∧ w1.grownBy _ (some g) := ⟨j + 1, hlt, by go_num, R.1, hgr.trans R.2⟩
        go_roundw
        case rel => first | exact R' | ((repeat apply Exists.intro); exact ⟨R', rfl⟩)
        case measure => simp [intOf]; omega
      · iterate 5 skip_step
        iterate 2 still2_step
        apply wpStill_nil
        change wpList _ _ _ _ _ wr.drew
        go_wp2
        have R := HS.out
        rw [Bool.false_and] at R
        have R' : ∃ j' : Nat, j' ≤ l.length ∧ Value.int .i64 ((j : Int) + 1) = .int .i64 (j' : Int) ∧ RSet _ p g (bmix (fun a b => a && !b) l m j') ∧ w1.grownBy _ (some g) := ⟨j + 1, hlt, by go_num, R.1, hgr.trans R.2⟩
        go_roundw
        case rel => first | exact R' | ((repeat apply Exists.intro); exact ⟨R', rfl⟩)
        case measure => simp [intOf]; omega
    · obtain rfl : j = l.length := by omega
      rw [bmix_end Hlen.out] at hr
      have HR := Lib.hid hr
      clear hr
      go_wp2
      go_ret
      exact ⟨rfl, HR.out, ⟨hgr.os.trans hb.os, hgr.tape.trans hb.tape, hgr.output.trans hb.output, Nat.le_trans hb.size hgr.size, fun i hi hn => (hgr.block i (Nat.lt_of_lt_of_le hi hb.size) hn).trans (hb.block i hi)⟩⟩
set_option maxHeartbeats 1000000 in
theorem rMinus_arg (w : World) (p g p' g' : Nat) (l m : List Bool) (h : RSet w p g l) (k : RSet w p' g' m) (hlm : l.length ≠ m.length) :
    Calls Tryd.prog 30 #[.pointer (some ⟨p, 0, none⟩), .pointer (some ⟨p', 0, none⟩)] w (Quiet (.int .i64 2) w) := by
  obtain ⟨cap, c0, _, _⟩ := h.open_
  obtain ⟨cap', d0, _, _⟩ := k.open_
  have hq : ((l.length : Int) != (m.length : Int)) = true := by simp; omega
  clear hlm
  go_enter Tryd.func30, Tryd.ntmps30
  go_wp2
  go_quiet (fail)
  go_wp2
  go_ret
  exact ⟨rfl, _, rfl⟩
end Go.Proofs.YtaaladekamfpnaaDoor
