/- The walk of New, and of the law's own examples (lives). -/
import Derived.Test.YtkagfddkfpeddaaDoorIc
import Derived.LoopTactic
namespace Go.Proofs.YtkagfddkfpeddaaDoor
open Go.RowKit Go.Maps It

namespace It
theorem newE_zero : ∀ (r l : Nms), newE l r = 0 → newL l r = l ++ r
  | [], l, _ => by simp [newL]
  | x :: r, l, h => by
    by_cases h0 : addE l x = 0
    · rw [newE, if_pos h0] at h
      have := newE_zero r (l ++ [x]) h
      show newL (addL l x) r = _
      unfold addL
      rw [if_pos h0, this]; simp
    · rw [newE, if_neg h0] at h
      exact absurd h h0
theorem newE_step {r : Nms} {k : Nat} (hk : k < r.length) : newE (r.take k) (r.drop k) = if addE (r.take k) r[k] = 0 then newE (r.take (k + 1)) (r.drop (k + 1)) else addE (r.take k) r[k] := by
  rw [List.drop_eq_getElem_cons hk, newE, List.take_succ_eq_append_getElem hk]
theorem addL_step {r : Nms} {k : Nat} (hk : k < r.length) (h : addE (r.take k) r[k] = 0) : addL (r.take k) r[k] = r.take (k + 1) := by
  unfold addL; rw [if_pos h, List.take_succ_eq_append_getElem hk]
end It
/-- What Add leaves is below the table's first block as it was. -/
theorem Added.below {W w w' : World} {B p b : Nat} {v : Value} {l : Nms} {x : List UInt8} {e : Ending} (h : Added w B p b v l x e w') (ht : Tbl w B p b v l) (hb : Below B W w) : Below B W w' := by
  obtain ⟨v', _, _, hs, hk, _, h1, h2, h3⟩ := h
  refine ⟨h1.trans hb.os, h2.trans hb.tape, h3.trans hb.output, Nat.le_trans hb.size hs, fun k hk' => ?_⟩
  refine (hk k (Nat.lt_of_lt_of_le hk' (Nat.le_of_lt (Nat.lt_of_le_of_lt ht.bp ht.lt))) fun hin => ?_).trans (hb.block k hk')
  have := (ht.in_lt hin).1
  omega
/-- What New gives: a table of the names, or the first error. -/
def Newed (r : Nms) (w : World) (e : Ending) (w' : World) : Prop :=
  (newE [] r = 0 ∧ ∃ p b v, e = .returned (.tuple #[.pointer (some ⟨p, 0, none⟩), .int .i64 0]) ∧ Tbl w' w.heap.size p b v r ∧ Below w.heap.size w w') ∨
  (newE [] r ≠ 0 ∧ e = .returned (.tuple #[.pointer none, .int .i64 (newE [] r)]) ∧ Below w.heap.size w w')
def NewRel (w : World) (r : Nms) (p b : Nat) (s : Value) (wr : World) : Prop :=
  ∃ (k : Nat) (v : Value), k ≤ r.length ∧ s = .int .i64 (k : Int) ∧ newE [] r = newE (r.take k) (r.drop k) ∧ Tbl wr w.heap.size p b v (r.take k) ∧ Below w.heap.size w wr
theorem Tbl.made (w : World) : Tbl ((w.alloc (.map #[] 0)).alloc (.cells #[.slice none 0 0, .map (some w.heap.size)] 56)) w.heap.size (w.heap.size + 1) w.heap.size (.slice none 0 0) [] := by
  have h := heap_alloc_new (w.alloc (.map #[] 0)) (.cells #[.slice none 0 0, .map (some w.heap.size)] 56)
  rw [show (w.alloc (.map #[] 0)).heap.size = w.heap.size + 1 from by simp] at h
  exact ⟨h, Ow.nil_, (TMap.made w).keep (Below.heap_alloc _ _ _ (by simp)), Nat.le_succ _, Nat.le_refl _, by simp [Value.ownBlock], Ok.nil_⟩
set_option maxRecDepth 100000 in
set_option maxHeartbeats 1000000 in
theorem new_any (w : World) (vr : Value) (r : Nms) {P : Nat → Prop} (hs : Sl nc 1 w vr r P) (hx : ∀ x ∈ r, x.length ≤ maxLen) (hT : Tabs w) :
    Calls Tryd.prog 11 #[vr] w (Newed r w) := by
  obtain ⟨A, cap, rfl, h1, h2⟩ := hs.shape
  have hmm := @run_makeMap Tryd.prog
  have HT := Lib.hid hT
  have hle : r.length ≤ 9223372036854775807 := by unfold maxLen at h2; omega
  have R0 := Lib.hid (show NewRel w r (w.heap.size + 1) w.heap.size (.int .i64 ((0 : Nat) : Int)) _ from ⟨0, _, Nat.zero_le _, rfl, rfl, Tbl.made w, ((Below.refl _ _).alloc (Nat.le_refl _) _).alloc (by simp) _⟩)
  have HX := Lib.hid hx
  clear hT hx
  go_enter Tryd.func11, Tryd.ntmps11
  go_wp2_with fail
  go_loopw [15] (fun s wr => NewRel w r (w.heap.size + 1) w.heap.size s wr) (fun s _ => r.length - (intOf s).toNat)
  case atStart => exact R0.out
  case round =>
    clear R0
    obtain ⟨k, v, hk, rfl, he, ht, hb⟩ := hrel
    by_cases hlt : k < r.length
    · obtain ⟨b', off, c, e, _, _, _, _, h5⟩ := (hs.below_ hb).at_ hlt
      injection e with e e' e''
      subst e
      have HA := Lib.hid (fun (h : r[k].length ≤ maxLen) => add_any wr w.heap.size (w.heap.size + 1) w.heap.size v (r.take k) r[k] ht h (HT.out.below hb) hb.size)
      have hst := newE_step hlt
      have hal := addL_step hlt
      have hxk := HX.out r[k] (List.getElem_mem hlt)
      generalize r[k] = x at *
      have hx0 : wr.cell? ⟨b', off + k, none⟩ = some (.string (ba x)) := by simpa using h5 0 _ rfl
      have q1 : (0 : Int) ≤ (k : Int) := by omega
      have q2 : (k : Int) < (r.length : Int) := by omega
      have HTb := Lib.hid ht
      have HB := Lib.hid hb
      have HE := Lib.hid he
      have HS := Lib.hid hst
      have HL := Lib.hid hal
      have HXk := Lib.hid hxk
      clear h5 ht hb he hst hal hxk e' e''
      go_wp2_with fail
      refine (HA.out HXk.out).mono ?_
      rintro e w1 hadd
      have hb1 := hadd.below HTb.out HB.out
      obtain ⟨v', rfl, ht1, _⟩ := hadd
      have HT1 := Lib.hid ht1
      have HB1 := Lib.hid hb1
      clear ht1 hb1
      by_cases h0 : addE (r.take k) x = 0
      · have hv : addV (r.take k) x = ((r.take k).length : Int) := by unfold addV; rw [if_pos h0]
        rw [h0]
        have H0 := Lib.hid h0
        clear hv h0
        generalize addV (r.take k) x = av at *
        go_wp2_with fail
        have R : NewRel w r (w.heap.size + 1) w.heap.size (.int .i64 ((k : Int) + 1)) w1 := ⟨k + 1, v', by omega, by go_num, by rw [HE.out, HS.out, if_pos H0.out], by have := HT1.out; rwa [HL.out H0.out] at this, HB1.out⟩
        go_roundw
        case rel => first | exact R | ((repeat apply Exists.intro); exact ⟨R, rfl⟩)
        case measure => simp [intOf]; omega
      · have hne : (addE (r.take k) x != 0) = true := by simp [h0]
        have R := Lib.hid (show Newed r w (.returned (.tuple #[.pointer none, .int .i64 (addE (r.take k) x)])) w1 from by
          have e1 : newE [] r = addE (r.take k) x := by rw [HE.out, HS.out, if_neg h0]
          exact .inr ⟨by rw [e1]; exact h0, by rw [e1], HB1.out⟩)
        clear h0
        generalize addV (r.take k) x = av at *
        generalize addE (r.take k) x = ae at *
        go_wp2_with fail
        go_ret2
        exact R.out
    · have hkr : k = r.length := by omega
      have q1 : ¬ (k : Int) < (r.length : Int) := by omega
      have R := Lib.hid (show Newed r w (.returned (.tuple #[.pointer (some ⟨w.heap.size + 1, 0, none⟩), .int .i64 0])) wr from .inl ⟨by
        rw [he, List.drop_of_length_le (by omega)]; rfl, _, _, v, rfl, by rwa [List.take_of_length_le (by omega)] at ht, hb⟩)
      clear ht hb he hkr
      go_wp2_with fail
      go_ret2
      exact R.out
end Go.Proofs.YtkagfddkfpeddaaDoor
