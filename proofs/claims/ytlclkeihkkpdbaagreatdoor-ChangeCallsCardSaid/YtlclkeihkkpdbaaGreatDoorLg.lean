/- Walk of the cursor: remark. -/
import Derived.Test.YtlclkeihkkpdbaaGreatDoorLf
namespace Go.Proofs.YtlclkeihkkpdbaaGreatDoor
open Go.RowKit
theorem pre_spec (p : UInt8 → Bool) (l : List UInt8) : (∀ j (h : j < l.length), j < Nm.pre p l → p l[j] = true) ∧ ∀ h : Nm.pre p l < l.length, p (l[Nm.pre p l]'h) = false := by
  unfold Nm.pre
  induction l with
  | nil => exact ⟨fun j h => absurd h (by simp), fun h => absurd h (by simp)⟩
  | cons a l ih =>
    obtain ⟨h1, h2⟩ := ih
    rw [List.takeWhile_cons]
    rcases ha : p a
    · simp only [Bool.false_eq_true, if_false, List.length_nil]
      exact ⟨fun j _ h => absurd h (by omega), fun _ => by simpa using ha⟩
    · simp only [if_true, List.length_cons]
      refine ⟨fun j hj hk => ?_, fun h => ?_⟩
      · cases j with
        | zero => simpa using ha
        | succ j => exact h1 j (by simpa using hj) (by omega)
      · have := h2 (by omega)
        simpa using this
/-- Up to the line's end no byte is one; there one is, or the text ends. -/
theorem eol_spec (c : Cur) (hp : c.pos ≤ c.s.size) : c.eol ≤ c.s.size ∧ (∀ p (h : p < c.s.size), c.pos ≤ p → p < c.eol → (c.s[p]).toNat ≠ 10) ∧ ∀ h : c.eol < c.s.size, (c.s[c.eol]).toNat = 10 := by
  obtain ⟨h1, h2⟩ := pre_spec (fun b => b != 10) (c.s.data.toList.drop c.pos)
  have hlen : (c.s.data.toList.drop c.pos).length = c.s.size - c.pos := by rw [List.length_drop, Nm.len_size]
  have hle := Nm.pre_le (fun b => b != 10) (c.s.data.toList.drop c.pos)
  unfold Cur.eol
  refine ⟨by omega, fun p hp2 h3 h4 => ?_, fun h3 => ?_⟩
  · have := h1 (p - c.pos) (by omega) (by omega)
    rw [List.getElem_drop] at this
    simp only [bne_iff_ne, ne_eq, show c.pos + (p - c.pos) = p from by omega] at this
    intro e
    exact this (UInt8.toNat_inj.1 (by rw [Nm.byte_at c.s hp2]; exact e))
  · have := h2 (by omega)
    rw [List.getElem_drop] at this
    simp only [bne_eq_false_iff_eq] at this
    rw [← Nm.byte_at c.s h3, this]
    rfl
set_option maxHeartbeats 4000000 in
set_option maxRecDepth 100000 in
theorem remark_any (w : World) (B b : Nat) (c : Cur) (h : CurAt B b c w) (hc : c.Ok) :
    Calls Tryz.prog 62 #[.pointer (some ⟨b, 0, none⟩)] w fun r w' => r = .returned (stepRemark c).1.v ∧ CurAt B b (stepRemark c).2 w' ∧ Below B w w' := by
  have k1 := hc.size
  have k2 := hc.pos
  obtain ⟨he1, he2, he3⟩ := eol_spec c hc.pos
  have HE2 := Lib.hid he2
  have HE3 := Lib.hid he3
  have HH := Lib.hid h
  have hB := h.1
  have hpe : c.pos ≤ c.eol := by unfold Cur.eol; omega
  have E := Lib.hid (show stepRemark c = (.any, c.go c.eol) from rfl)
  generalize c.eol = q at *
  clear h hc he2 he3
  go_enter Tryz.func62, Tryz.ntmps62
  go_wp2_with fail
  go_loopg [] (q - c.pos) (fun gg wr => ∃ p : Nat, c.pos ≤ p ∧ p ≤ q ∧ q - p ≤ gg ∧ CurAt B b (c.go p) wr ∧ Below B w wr)
  case atStart => exact ⟨c.pos, Nat.le_refl _, hpe, Nat.le_refl _, HH.out, Below.refl _ _⟩
  case round =>
    obtain ⟨p, hp1, hp2, hgg, ⟨_, v, hb, hov⟩, hbw⟩ := hrel
    have HB0 := Lib.hid hb
    have HO0 := Lib.hid hov
    have HBW := Lib.hid hbw
    have HNE := Lib.hid (ow_ne hov hb (by decide))
    have c0 : wr.cell? ⟨b, 0, none⟩ = some (.string c.s) := Lib.cell_of_heap hb 0
    have c3 : wr.cell? ⟨b, 3, none⟩ = some (.int .i64 p) := Lib.cell_of_heap hb 3
    have g3 : wr.frozen? ⟨b, 3, none⟩ = false := Lib.frozen_of_heap hb 3
    clear hb hov hbw
    have r1 : (0 : Int) ≤ (p : Int) := by omega
    by_cases hlt : p < c.s.size
    · have t1 : ¬ (c.s.size : Int) ≤ (p : Int) := by omega
      have r2 : (p : Int) < (c.s.size : Int) := by omega
      obtain ⟨y, hy⟩ : ∃ y, c.s[p] = y := ⟨_, rfl⟩
      by_cases hpq : p < q
      · have hy10 : y.toNat ≠ 10 := by rw [← hy]; exact HE2.out p hlt hp1 hpq
        have t10 : ((y.toNat : Int) == 10) = false := beq_eq_false_iff_ne.2 (by omega)
        have t11 : ((y.toNat : Int) != 10) = true := by rw [bne, t10]; rfl
        go_wp2_with fail
        go_quiet (fail)
        go_wp2_with fail
        go_roundg (q - (p + 1))
        case measure => omega
        case rel => exact ⟨p + 1, by omega, by omega, Nat.le_refl _, ⟨hB, v, heap_setCell_same _ b 3 _ _ (.int .i64 ((p : Int) + 1)) HB0.out, (HO0.out.drewN _).set HNE.out⟩, (below_drewN HBW.out _).setCell (p := ⟨b, 3, none⟩) hB _⟩
      · have HPQ := Lib.hid (show p = q by omega)
        have hy10 : y.toNat = 10 := by
          have hpe2 := HPQ.out
          rw [← hy]; subst hpe2; exact HE3.out hlt
        have t10 : ((y.toNat : Int) == 10) = true := beq_iff_eq.2 (by omega)
        have t11 : ((y.toNat : Int) != 10) = false := by rw [bne, t10]; rfl
        go_wp2_with fail
        go_quiet (fail)
        go_wp2_with fail
        go_ret
        rw [E.out]
        have hpe2 := HPQ.out
        subst hpe2
        exact ⟨rfl, ⟨hB, v, HB0.out, HO0.out.drewN _⟩, below_drewN HBW.out _⟩
    · have HPQ := Lib.hid (show p = q by omega)
      have t1 : ¬ (p : Int) < (c.s.size : Int) := by omega
      have t2 : decide ((p : Int) < (c.s.size : Int)) = false := decide_eq_false t1
      go_wp2_with fail
      go_quiet (fail)
      go_wp2_with fail
      go_ret
      rw [E.out]
      have hpe2 := HPQ.out
      subst hpe2
      exact ⟨rfl, ⟨hB, v, HB0.out, HO0.out.drewN _⟩, below_drewN HBW.out _⟩
end Go.Proofs.YtlclkeihkkpdbaaGreatDoor
