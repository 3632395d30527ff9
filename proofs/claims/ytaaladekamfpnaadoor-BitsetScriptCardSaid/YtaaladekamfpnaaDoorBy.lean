/- The walks of timetableref03.Set's Clone, Same, Or, And, Minus. -/
import Derived.Test.YtaaladekamfpnaaDoorBv
namespace Go.Proofs.YtaaladekamfpnaaDoor
open Go.RowKit Bs

def bc (x : Bool) : List Value := [.bool x]
theorem bc_len : ∀ x, (bc x).length = 1 := fun _ => rfl
theorem bc_one : ∀ x, ∀ u ∈ bc x, u.oneCell' = true := by intro x u hu; simp [bc] at hu; subst hu; rfl
theorem RSet.sl {w : World} {p g : Nat} {l : List Bool} (h : RSet w p g l) : ∃ cap, w.cell? ⟨p, 0, none⟩ = some (.slice (some ⟨g, 0, none⟩) l.length cap) ∧ l.length ≤ cap ∧ cap ≤ maxLen ∧ Sl bc 1 w (.slice (some ⟨g, 0, none⟩) l.length cap) l (fun b => b = g) := by
  obtain ⟨cap, c0, h1, h2⟩ := h.open_
  refine ⟨cap, c0, h1, h2, _, cap, rfl, h1, h2, fun _ => ⟨g, 0, rfl, h.lt.2, rfl, fun i x hx j u hu => ?_⟩⟩
  have hlt := (List.getElem?_eq_some_iff.1 hx).1
  match j, hu with
  | 0, hu =>
    injection hu with hu
    subst hu
    have := (h.bit hlt).1
    rw [at_lt hlt] at this
    rw [List.getElem?_eq_getElem hlt] at hx
    injection hx with hx
    rw [hx] at this
    simpa using this
  | j + 1, hu => simp [bc] at hu
def RMade (w : World) (l : List Bool) (e : Ending) (w' : World) : Prop :=
  ∃ p g, e = .returned (.pointer (some ⟨p, 0, none⟩)) ∧ RSet w' p g l ∧ w.heap.size ≤ p ∧ w.heap.size ≤ g ∧ Below w.heap.size w w'
theorem RSet.made {w w1 : World} {A : Option Addr} {n c : Nat} {l : List Bool} (ho : Ow bc 1 w1 w.heap.size 4 (.slice A n c) l) (hA : (Value.slice A n c).ownBlock ≠ none) (hl : l.length ≤ 1048576) :
    ∃ g, A = some ⟨g, 0, none⟩ ∧ w.heap.size ≤ g ∧ RSet (w1.alloc (.cells #[.slice A n c] 56)) w1.heap.size g l := by
  have hs := ho.sl bc_len
  rcases ho.2 with ⟨e, _⟩ | ⟨g, cap, cur, e, hB, hg, hn, hm, hsz, ht⟩
  · rw [e] at hA
    exact absurd rfl hA
  · injection e with e1 e2 e3
    subst e1 e2 e3
    refine ⟨g, rfl, hB, c, cur, heap_alloc_new _ _, hn, hm, hl, (Below.heap_alloc _ _ _ (Array.getElem?_eq_some_iff.1 hg).1).trans hg, fun i b hi => ?_⟩
    obtain ⟨b', off, cap', e, _, _, _, _, hc⟩ := hs.form (by have := (List.getElem?_eq_some_iff.1 hi).1; omega)
    injection e with e _ _
    injection e with e
    injection e with e1 e2
    subst e1 e2
    have := hc i b hi 0 _ rfl
    rw [cell_of_row w1 g _ cur _ (0, 0) hg] at this
    simpa using this

set_option maxHeartbeats 1000000 in
theorem rclone_any (w : World) (p g : Nat) (l : List Bool) (h : RSet w p g l) : Calls Tryd.prog 33 #[.pointer (some ⟨p, 0, none⟩)] w (RMade w l) := by
  obtain ⟨cap, c0, hc1, hc2, hs⟩ := h.sl
  have hle := h.le
  obtain ⟨i0, hi0, hz0, hz1, hz2⟩ := info_parts info_bool
  have hpl := h.lt.1
  have c1 := (World.cell?_alloc_lt w (.cells #[] 4) ⟨p, 0, none⟩ hpl).trans c0
  have hz1' : ∀ o, (w.alloc o).heap.size = w.heap.size + 1 := fun o => by simp
  go_enter Tryd.func33, Tryd.ntmps33
  go_wp2_with (at_builtin; refine wpList_append_sl _ rfl _ _ _ rfl w.heap.size 4 i0 _ 1 Tryd.underlying54 hi0 hz0 hz1 hz2 rfl (by omega) bc_len bc_one (.slice (some ⟨w.heap.size, 0, none⟩) 0 0) _ [] l rfl rfl (Ow.empty (Nat.le_refl _)) (hs.alloc _) (by simp only [maxLen, List.length_nil]; omega) (by simp only [List.length_nil]; omega) (by rw [hz1']; omega) ?_; intro v1 w1 hown1 hg1 hmv1; obtain ⟨A1, cp1, rfl, hd1, hd2⟩ := hown1.shape; rw [List.nil_append] at hown1 hd1; dsimp only [List.nil_append])
  go_ret
  have hb : Below w.heap.size w w1 := ((Below.refl _ _).alloc (Nat.le_refl _) _).grown hg1 (by rw [hz1']; omega) fun k hk => by
    have : w.heap.size = k := by simpa [Value.ownBlock] using hk
    omega
  have hA : (Value.slice A1 l.length cp1).ownBlock ≠ none := by
    rw [List.nil_append] at hmv1
    rcases hmv1 with e | ⟨k, e, _⟩
    · rw [e]; intro x; cases x
    · rw [e]; intro x; cases x
  obtain ⟨g', rfl, hg', hr⟩ := RSet.made hown1 hA hle
  exact ⟨w1.heap.size, g', rfl, hr, hb.size, hg', hb.alloc hb.size _⟩

/-! Same -/
theorem same_off {l m : List Bool} (h : l.length ≠ m.length) : decide (l = m) = false := decide_eq_false fun e => h (by rw [e])
set_option maxHeartbeats 1000000 in
theorem rsame_any (w : World) (p g p' g' : Nat) (l m : List Bool) (h : RSet w p g l) (k : RSet w p' g' m) :
    Calls Tryd.prog 37 #[.pointer (some ⟨p, 0, none⟩), .pointer (some ⟨p', 0, none⟩)] w (Quiet (.bool (decide (l = m))) w) := by
  obtain ⟨cap, c0, _, _⟩ := h.open_
  obtain ⟨cap', d0, _, _⟩ := k.open_
  have hle := h.le
  by_cases hlm : l.length = m.length
  · have hq : ((l.length : Int) != (m.length : Int)) = false := by simp; omega
    have Hlen := Lib.hid hlm
    clear hlm
    go_enter Tryd.func37, Tryd.ntmps37
    go_wp2
    go_quiet (fail)
    go_wp2
    go_loopw [5] (fun s wr => SameRel l m w s wr) (fun s _ => l.length - (intOf s).toNat)
    case atStart => exact ⟨0, _, Nat.zero_le _, rfl, rfl, rfl⟩
    case round =>
      obtain ⟨j, n, hk, rfl, hkk, rfl⟩ := hrel
      by_cases hlt : j < l.length
      · have hlt2 : j < m.length := by rw [← Hlen.out]; exact hlt
        obtain ⟨hx, _⟩ := h.bit hlt
        obtain ⟨hy, _⟩ := k.bit hlt2
        rw [at_lt hlt] at hx
        rw [at_lt hlt2] at hy
        obtain ⟨x, Hx⟩ : ∃ x, Hid (l[j] = x) := ⟨_, Lib.hid rfl⟩
        obtain ⟨y, Hy⟩ : ∃ y, Hid (m[j] = y) := ⟨_, Lib.hid rfl⟩
        rw [Hx.out] at hx
        rw [Hy.out] at hy
        have Hkk := Lib.hid hkk
        clear hkk
        have q1 : (0 : Int) ≤ (j : Int) := by omega
        have q2 : (j : Int) < (l.length : Int) := by omega
        have q3 : (j : Int) < (m.length : Int) := by omega
        by_cases hxy : x = y
        · subst hxy
          have Hxy := Lib.hid (same_step hlt hlt2 Hkk.out (by rw [Hx.out, Hy.out]))
          have e : ∀ b, b = x → b = false ∨ b = true := fun b _ => by cases b <;> simp
          rcases e x rfl with rfl | rfl
          all_goals
            clear e
            go_wp2
            go_quiet (fail)
            go_wp2
            go_roundw
            case rel => exact ⟨j + 1, _, by omega, by go_num, Hxy.out, by first | rfl | exact World.drewN_drewN _ _ _⟩
            case measure => simp [intOf]; omega
        · have Hne := Lib.hid (same_ne hlt hlt2 (by rw [Hx.out, Hy.out]; exact hxy))
          have e : (x = false ∧ y = true) ∨ (x = true ∧ y = false) := by revert hxy; cases x <;> cases y <;> simp
          clear hxy
          rcases e with ⟨rfl, rfl⟩ | ⟨rfl, rfl⟩
          all_goals
            go_wp2
            go_quiet (fail)
            go_wp2
            go_ret
            exact ⟨ret_bool (decide_eq_false Hne.out).symm, _, by first | rfl | exact World.drewN_drewN _ _ _⟩
      · have hkl : j = l.length := by omega
        subst hkl
        have Heq := Lib.hid (same_eq Hlen.out hkk)
        clear hkk
        go_wp2
        go_ret
        exact ⟨ret_bool (decide_eq_true Heq.out).symm, n, rfl⟩
  · have hq : ((l.length : Int) != (m.length : Int)) = true := by simp; omega
    rw [same_off hlm]
    clear hlm
    go_enter Tryd.func37, Tryd.ntmps37
    go_wp2
    go_quiet (fail)
    go_wp2
    go_ret
    exact ⟨rfl, _, rfl⟩
end Go.Proofs.YtaaladekamfpnaaDoor
