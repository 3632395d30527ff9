/- The walks of timetableref03.Set's Or, And, Minus (printed by wip/bin/genca.py). -/
import Derived.Test.YtaaladekamfpnaaDoorBy
namespace Go.Proofs.YtaaladekamfpnaaDoor
open Go.RowKit Bs

def bmix (f : Bool → Bool → Bool) (l m : List Bool) (k : Nat) : List Bool := (List.zipWith f l m).take k ++ l.drop k
theorem bmix_length {f : Bool → Bool → Bool} {l m : List Bool} (h : l.length = m.length) (k : Nat) (hk : k ≤ l.length) : (bmix f l m k).length = l.length := by
  unfold bmix
  rw [List.length_append, List.length_take, List.length_zipWith, List.length_drop]; omega
theorem bmix_at {f : Bool → Bool → Bool} {l m : List Bool} (h : l.length = m.length) {k : Nat} (hk : k < l.length) : at_ (bmix f l m k) k = at_ l k := by
  have hl : ((List.zipWith f l m).take k).length = k := by rw [List.length_take, List.length_zipWith]; omega
  have hlt : k < (bmix f l m k).length := by rw [bmix_length h k (by omega)]; exact hk
  have e : (bmix f l m k)[k]? = some l[k] := by
    unfold bmix
    rw [List.getElem?_append_right (by omega), hl, Nat.sub_self, List.getElem?_drop, Nat.add_zero, List.getElem?_eq_getElem hk]
  rw [at_lt hlt, at_lt hk]
  rw [List.getElem?_eq_getElem hlt] at e
  injection e
theorem bmix_set {f : Bool → Bool → Bool} {l m : List Bool} (h : l.length = m.length) {k : Nat} (hk : k < l.length) : (bmix f l m k).set k (f (at_ l k) (at_ m k)) = bmix f l m (k + 1) := by
  have hl : ((List.zipWith f l m).take k).length = k := by rw [List.length_take, List.length_zipWith]; omega
  have hz : k < (List.zipWith f l m).length := by rw [List.length_zipWith]; omega
  rw [at_lt hk, at_lt (show k < m.length by omega)]
  unfold bmix
  rw [List.set_append_right _ _ (by omega), hl, Nat.sub_self, take_succ_eq _ k hz, List.drop_eq_getElem_cons hk, List.set_cons_zero, List.getElem_zipWith, List.append_assoc]
  rfl
theorem bmix_end {f : Bool → Bool → Bool} {l m : List Bool} (h : l.length = m.length) : bmix f l m l.length = List.zipWith f l m := by
  unfold bmix
  rw [List.drop_length, List.append_nil, List.take_of_length_le (by rw [List.length_zipWith]; omega)]
theorem still_skip {P : Program} {ops : Array Oper} {w : World} {Q : Act → Prop} {a : Act} {o : Oper} {rest : List Oper} (hw : Region.wanted o (yielded ops a.tmps) = false) (h : ∀ K : Act → Prop, (∀ a, wpStill P ops w Q rest a → K a) → K (a.put o.dst undef)) : wpStill P ops w Q (o :: rest) a := by
  show if Region.wanted o (yielded ops a.tmps) then _ else _
  rw [hw]
  exact h _ fun _ h => h
attribute [local irreducible] wpStill
macro "skip_step" : tactic => `(tactic| (apply still_skip; kernel_rfl; intro K hK; go_simp; refine hK _ ?_; clear hK K))
macro "still2_step" : tactic => `(tactic| (apply wpStill_step; intro K hK; go_simp; refine hK _ ?_; clear hK K))
def ROp (r : List Bool) (p g : Nat) (w : World) (e : Ending) (w' : World) : Prop := e = .returned (.int .i64 0) ∧ RSet w' p g r ∧ w.grownBy w' (some g)
theorem grown_refl (w : World) (row : Option Nat) : w.grownBy w row := ⟨rfl, rfl, rfl, Nat.le_refl _, fun _ _ _ => rfl⟩
theorem RSet.ne_far {w : World} {p g p' g' : Nat} {l m : List Bool} (h : RSet w p g l) (k : RSet w p' g' m) : p' ≠ g := by
  obtain ⟨cap, cs, h1, _, _, _, h2, _⟩ := h
  obtain ⟨cap', cs', k1, _⟩ := k
  rintro rfl
  rw [k1] at h2
  injection h2 with h2
  injection h2 with _ h2
  exact absurd h2 (by decide)

set_option maxHeartbeats 1000000 in
theorem rOr_arg (w : World) (p g p' g' : Nat) (l m : List Bool) (h : RSet w p g l) (k : RSet w p' g' m) (hlm : l.length ≠ m.length) :
    Calls Tryd.prog 28 #[.pointer (some ⟨p, 0, none⟩), .pointer (some ⟨p', 0, none⟩)] w (Quiet (.int .i64 2) w) := by
  obtain ⟨cap, c0, _, _⟩ := h.open_
  obtain ⟨cap', d0, _, _⟩ := k.open_
  have hq : ((l.length : Int) != (m.length : Int)) = true := by simp; omega
  clear hlm
  go_enter Tryd.func28, Tryd.ntmps28
  go_wp2
  go_quiet (fail)
  go_wp2
  go_ret
  exact ⟨rfl, _, rfl⟩

set_option maxHeartbeats 1500000 in
theorem rOr_any (w : World) (p g p' g' : Nat) (l m : List Bool) (h : RSet w p g l) (k : RSet w p' g' m) (hlm : l.length = m.length) (hg : g' ≠ g) :
    Calls Tryd.prog 28 #[.pointer (some ⟨p, 0, none⟩), .pointer (some ⟨p', 0, none⟩)] w (ROp (List.zipWith (fun a b => a || b) l m) p g w) := by
  obtain ⟨cap, c0, _, _⟩ := h.open_
  obtain ⟨cap', d0, _, _⟩ := k.open_
  have hle := h.le
  have hq : ((l.length : Int) != (m.length : Int)) = false := by simp; omega
  have hpg := h.ne_far k
  have Hlen := Lib.hid hlm
  clear hlm
  go_enter Tryd.func28, Tryd.ntmps28
  go_wp2
  go_quiet (fail)
  go_wp2
  go_loopw [5] (fun s wr => ∃ j : Nat, j ≤ l.length ∧ s = .int .i64 (j : Int) ∧ RSet wr p g (bmix (fun a b => a || b) l m j) ∧ w.grownBy wr (some g)) (fun s _ => l.length - (intOf s).toNat)
  case atStart => exact ⟨0, Nat.zero_le _, rfl, h, ⟨rfl, rfl, rfl, Nat.le_refl _, fun _ _ _ => rfl⟩⟩
  case round =>
    obtain ⟨j, hj, rfl, hr, hgr⟩ := hrel
    have ko := k.far hgr hpg hg
    obtain ⟨capr, cr, _, _⟩ := hr.open_
    obtain ⟨capo, co, _, _⟩ := ko.open_
    have hbl := bmix_length (f := fun a b => a || b) Hlen.out j hj
    rw [hbl] at cr
    by_cases hlt : j < l.length
    · have hlt2 : j < m.length := by rw [← Hlen.out]; exact hlt
      obtain ⟨hx, hfx⟩ := hr.bit (i := j) (by rw [hbl]; exact hlt)
      obtain ⟨hy, _⟩ := ko.bit hlt2
      rw [bmix_at Hlen.out hlt] at hx
      have HS := Lib.hid (hr.store (i := j) (by rw [hbl]; exact hlt) ((fun a b => a || b) (at_ l j) (at_ m j)) 1)
      rw [bmix_set Hlen.out hlt] at HS
      generalize at_ l j = x at *
      generalize at_ m j = y at *
      have q1 : (0 : Int) ≤ (j : Int) := by omega
      have q2 : (j : Int) < (l.length : Int) := by omega
      have q3 : (j : Int) < (m.length : Int) := by omega
      have e : x = true ∨ x = false := by cases x <;> simp
      go_wp2
      refine wp_region_still_tail 22 (by kernel_rfl) (by kernel_rfl) ?_
      simp only [List.take_succ_cons, List.take_zero, List.drop_succ_cons, List.drop_zero]
      iterate 13 still2_step
      rcases e with rfl | rfl
      · iterate 7 skip_step
        iterate 2 still2_step
        apply wpStill_nil
        change wpList _ _ _ _ _ wr.drew
        go_wp2
        have R := HS.out
        try rw [Bool.true_or] at R
        try rw [Bool.false_or] at R
        try rw [Bool.true_and] at R
        try rw [Bool.false_and] at R
        go_roundw
        case rel => exact ⟨j + 1, hlt, by go_num, R.1, hgr.trans R.2⟩
        case measure => simp [intOf]; omega
      · iterate 7 still2_step
        iterate 2 still2_step
        apply wpStill_nil
        change wpList _ _ _ _ _ wr.drew
        go_wp2
        have R := HS.out
        try rw [Bool.true_or] at R
        try rw [Bool.false_or] at R
        try rw [Bool.true_and] at R
        try rw [Bool.false_and] at R
        go_roundw
        case rel => exact ⟨j + 1, hlt, by go_num, R.1, hgr.trans R.2⟩
        case measure => simp [intOf]; omega
    · obtain rfl : j = l.length := by omega
      rw [bmix_end Hlen.out] at hr
      have HR := Lib.hid hr
      clear hr
      go_wp2
      go_ret
      exact ⟨rfl, HR.out, hgr⟩

set_option maxHeartbeats 1000000 in
theorem rAnd_arg (w : World) (p g p' g' : Nat) (l m : List Bool) (h : RSet w p g l) (k : RSet w p' g' m) (hlm : l.length ≠ m.length) :
    Calls Tryd.prog 29 #[.pointer (some ⟨p, 0, none⟩), .pointer (some ⟨p', 0, none⟩)] w (Quiet (.int .i64 2) w) := by
  obtain ⟨cap, c0, _, _⟩ := h.open_
  obtain ⟨cap', d0, _, _⟩ := k.open_
  have hq : ((l.length : Int) != (m.length : Int)) = true := by simp; omega
  clear hlm
  go_enter Tryd.func29, Tryd.ntmps29
  go_wp2
  go_quiet (fail)
  go_wp2
  go_ret
  exact ⟨rfl, _, rfl⟩

set_option maxHeartbeats 1500000 in
theorem rAnd_any (w : World) (p g p' g' : Nat) (l m : List Bool) (h : RSet w p g l) (k : RSet w p' g' m) (hlm : l.length = m.length) (hg : g' ≠ g) :
    Calls Tryd.prog 29 #[.pointer (some ⟨p, 0, none⟩), .pointer (some ⟨p', 0, none⟩)] w (ROp (List.zipWith (fun a b => a && b) l m) p g w) := by
  obtain ⟨cap, c0, _, _⟩ := h.open_
  obtain ⟨cap', d0, _, _⟩ := k.open_
  have hle := h.le
  have hq : ((l.length : Int) != (m.length : Int)) = false := by simp; omega
  have hpg := h.ne_far k
  have Hlen := Lib.hid hlm
  clear hlm
  go_enter Tryd.func29, Tryd.ntmps29
  go_wp2
  go_quiet (fail)
  go_wp2
  go_loopw [5] (fun s wr => ∃ j : Nat, j ≤ l.length ∧ s = .int .i64 (j : Int) ∧ RSet wr p g (bmix (fun a b => a && b) l m j) ∧ w.grownBy wr (some g)) (fun s _ => l.length - (intOf s).toNat)
  case atStart => exact ⟨0, Nat.zero_le _, rfl, h, ⟨rfl, rfl, rfl, Nat.le_refl _, fun _ _ _ => rfl⟩⟩
  case round =>
    obtain ⟨j, hj, rfl, hr, hgr⟩ := hrel
    have ko := k.far hgr hpg hg
    obtain ⟨capr, cr, _, _⟩ := hr.open_
    obtain ⟨capo, co, _, _⟩ := ko.open_
    have hbl := bmix_length (f := fun a b => a && b) Hlen.out j hj
    rw [hbl] at cr
    by_cases hlt : j < l.length
    · have hlt2 : j < m.length := by rw [← Hlen.out]; exact hlt
      obtain ⟨hx, hfx⟩ := hr.bit (i := j) (by rw [hbl]; exact hlt)
      obtain ⟨hy, _⟩ := ko.bit hlt2
      rw [bmix_at Hlen.out hlt] at hx
      have HS := Lib.hid (hr.store (i := j) (by rw [hbl]; exact hlt) ((fun a b => a && b) (at_ l j) (at_ m j)) 1)
      rw [bmix_set Hlen.out hlt] at HS
      generalize at_ l j = x at *
      generalize at_ m j = y at *
      have q1 : (0 : Int) ≤ (j : Int) := by omega
      have q2 : (j : Int) < (l.length : Int) := by omega
      have q3 : (j : Int) < (m.length : Int) := by omega
      have e : x = true ∨ x = false := by cases x <;> simp
      go_wp2
      refine wp_region_still_tail 22 (by kernel_rfl) (by kernel_rfl) ?_
      simp only [List.take_succ_cons, List.take_zero, List.drop_succ_cons, List.drop_zero]
      iterate 13 still2_step
      rcases e with rfl | rfl
      · iterate 7 still2_step
        iterate 2 still2_step
        apply wpStill_nil
        change wpList _ _ _ _ _ wr.drew
        go_wp2
        have R := HS.out
        try rw [Bool.true_or] at R
        try rw [Bool.false_or] at R
        try rw [Bool.true_and] at R
        try rw [Bool.false_and] at R
        go_roundw
        case rel => exact ⟨j + 1, hlt, by go_num, R.1, hgr.trans R.2⟩
        case measure => simp [intOf]; omega
      · iterate 7 skip_step
        iterate 2 still2_step
        apply wpStill_nil
        change wpList _ _ _ _ _ wr.drew
        go_wp2
        have R := HS.out
        try rw [Bool.true_or] at R
        try rw [Bool.false_or] at R
        try rw [Bool.true_and] at R
        try rw [Bool.false_and] at R
        go_roundw
        case rel => exact ⟨j + 1, hlt, by go_num, R.1, hgr.trans R.2⟩
        case measure => simp [intOf]; omega
    · obtain rfl : j = l.length := by omega
      rw [bmix_end Hlen.out] at hr
      have HR := Lib.hid hr
      clear hr
      go_wp2
      go_ret
      exact ⟨rfl, HR.out, hgr⟩
end Go.Proofs.YtaaladekamfpnaaDoor
