/- The walks of timetableref07's Clone, New and Sorted. -/
import Derived.Test.YtkagfddkfpeddaaDoorIr
import Derived.Test.YtkagfddkfpeddaaDoorIc
import Derived.WalkLawsBesides
import Derived.IntWalk
namespace Go.Proofs.YtkagfddkfpeddaaDoor
open Go.RowKit Go.Maps It

def RCopied (w : World) (l : Nms) (e : Ending) (w' : World) : Prop := ∃ p v, e = .returned (.pointer (some ⟨p, 0, none⟩)) ∧ RTb w' w.heap.size p v l ∧ Below w.heap.size w w'
theorem RTb.made {w : World} {B : Nat} {v : Value} {l : Nms} (h : Ow nc 1 w B 9 v l) (hB : B ≤ w.heap.size) (hok : Ok l) : RTb (w.alloc (.cells #[v] 49)) B w.heap.size v l :=
  ⟨heap_alloc_new w _, h.alloc _, hB, fun e => by have := (h.lt e).2; omega, hok⟩
set_option maxHeartbeats 400000 in
theorem rclone_any (w : World) (B p : Nat) (v : Value) (l : Nms) (h : RTb w B p v l) : Calls Tryd.prog 23 #[.pointer (some ⟨p, 0, none⟩)] w (RCopied w l) := by
  obtain ⟨i0, hi0, hz0, hz1, hz2⟩ := info_parts info_string
  have hle := h.ok.le
  have HH := Lib.hid h
  have HS := Lib.hid (h.row.sl nc_len)
  obtain ⟨A, cap, rfl, h1, h2, c0, _⟩ := h.open_
  have hz1' : ∀ o, (w.alloc o).heap.size = w.heap.size + 1 := fun o => by simp
  have g0 := fun o => (World.cell?_alloc_lt w o ⟨p, 0, none⟩ HH.out.lt).trans c0
  go_enter Tryd.func23, Tryd.ntmps23
  go_wp2_with (at_builtin; refine wpList_append_sl _ rfl _ _ _ rfl w.heap.size 9 i0 _ 16 Tryd.underlying22 hi0 hz0 hz1 hz2 rfl (by omega) nc_len nc_one (.slice (some ⟨w.heap.size, 0, none⟩) 0 0) _ [] l rfl rfl (Ow.empty (Nat.le_refl _)) (HS.out.alloc _) (by simp only [maxLen, List.length_nil]; omega) (by simp only [List.length_nil]; omega) (by rw [hz1']; omega) ?_; intro v1 w1 hown1 hg1 hmv1; obtain ⟨A1, cp1, rfl, _, _⟩ := hown1.shape; have hb1 : Below w.heap.size w w1 := ((Below.refl _ _).alloc (Nat.le_refl _) _).grown hg1 (by rw [hz1']; omega) (fun k hk => by have hk' : w.heap.size = k := (by simpa [Value.ownBlock] using hk); omega); have R := Lib.hid (RTb.made hown1 hb1.size HH.out.ok); have HB := Lib.hid hb1; clear hown1 hg1 hmv1 hb1)
  go_ret
  exact ⟨_, _, rfl, R.out, HB.out.alloc HB.out.size _⟩
/-- What New gives: a table of the names, or the first error. -/
def RNewed (r : Nms) (w : World) (e : Ending) (w' : World) : Prop :=
  (newE [] r = 0 ∧ ∃ p v, e = .returned (.tuple #[.pointer (some ⟨p, 0, none⟩), .int .i64 0]) ∧ RTb w' w.heap.size p v r ∧ Below w.heap.size w w') ∨
  (newE [] r ≠ 0 ∧ e = .returned (.tuple #[.pointer none, .int .i64 (newE [] r)]) ∧ Below w.heap.size w w')
def RNewRel (w : World) (r : Nms) (p : Nat) (s : Value) (wr : World) : Prop :=
  ∃ (k : Nat) (v : Value), k ≤ r.length ∧ s = .int .i64 (k : Int) ∧ newE [] r = newE (r.take k) (r.drop k) ∧ RTb wr w.heap.size p v (r.take k) ∧ Below w.heap.size w wr
set_option maxRecDepth 100000 in
set_option maxHeartbeats 1000000 in
theorem rnew_any (w : World) (vr : Value) (r : Nms) {P : Nat → Prop} (hs : Sl nc 1 w vr r P) (hx : ∀ x ∈ r, x.length ≤ maxLen) :
    Calls Tryd.prog 22 #[vr] w (RNewed r w) := by
  obtain ⟨A, cap, rfl, h1, h2⟩ := hs.shape
  have hle : r.length ≤ 9223372036854775807 := by unfold maxLen at h2; omega
  have R0 := Lib.hid (show RNewRel w r w.heap.size (.int .i64 ((0 : Nat) : Int)) (w.alloc (.cells #[.slice none 0 0] 49)) from ⟨0, .slice none 0 0, Nat.zero_le _, rfl, rfl, RTb.made Ow.nil_ (Nat.le_refl _) Ok.nil_, (Below.refl _ _).alloc (Nat.le_refl _) _⟩)
  have HX := Lib.hid hx
  have HS := Lib.hid hs
  clear hx hs
  go_enter Tryd.func22, Tryd.ntmps22
  go_wp2_with fail
  go_loopw [5] (fun s wr => RNewRel w r w.heap.size s wr) (fun s _ => r.length - (intOf s).toNat)
  case atStart => exact R0.out
  case round =>
    clear R0
    obtain ⟨k, v, hk, rfl, he, ht, hb⟩ := hrel
    by_cases hlt : k < r.length
    · obtain ⟨b', off, rfl⟩ := HS.out.addr hlt
      have hc := (HS.out.below_ hb).name hlt
      have hst := newE_step hlt
      have hal := addL_step hlt
      have hxk := HX.out r[k] (List.getElem_mem hlt)
      generalize r[k] = x at *
      have HA := Lib.hid (radd_any wr w.heap.size w.heap.size v (r.take k) x ht hxk hb.size)
      have q1 : (0 : Int) ≤ (k : Int) := by omega
      have q2 : (k : Int) < (r.length : Int) := by omega
      have HTb := Lib.hid ht
      have HB := Lib.hid hb
      have HE := Lib.hid he
      have HSt := Lib.hid hst
      have HL := Lib.hid hal
      clear ht hb he hst hal hxk
      go_wp2_with fail
      refine HA.out.mono ?_
      rintro e w1 hadd
      have hb1 := hadd.below HTb.out HB.out
      obtain ⟨v', rfl, ht1, _⟩ := hadd
      have HT1 := Lib.hid ht1
      have HB1 := Lib.hid hb1
      clear ht1 hb1 hc
      by_cases h0 : addE (r.take k) x = 0
      · rw [h0]
        have H0 := Lib.hid h0
        clear h0
        generalize addV (r.take k) x = av at *
        go_wp2_with fail
        have R : RNewRel w r w.heap.size (.int .i64 ((k : Int) + 1)) w1 := ⟨k + 1, v', by omega, by go_num, by rw [HE.out, HSt.out, if_pos H0.out], by have := HT1.out; rwa [HL.out H0.out] at this, HB1.out⟩
        go_roundw
        case rel => first | exact R | ((repeat apply Exists.intro); exact ⟨R, rfl⟩)
        case measure => simp [intOf]; omega
      · have hne : (addE (r.take k) x != 0) = true := by simp [h0]
        have R := Lib.hid (show RNewed r w (.returned (.tuple #[.pointer none, .int .i64 (addE (r.take k) x)])) w1 from by
          have e1 : newE [] r = addE (r.take k) x := by rw [HE.out, HSt.out, if_neg h0]
          exact .inr ⟨by rw [e1]; exact h0, by rw [e1], HB1.out⟩)
        clear h0
        generalize addV (r.take k) x = av at *
        generalize addE (r.take k) x = ae at *
        go_wp2_with fail
        go_ret2
        exact R.out
    · have hkr : k = r.length := by omega
      have q1 : ¬ (k : Int) < (r.length : Int) := by omega
      have R := Lib.hid (show RNewed r w (.returned (.tuple #[.pointer (some ⟨w.heap.size, 0, none⟩), .int .i64 0])) wr from .inl ⟨by
        rw [he, List.drop_of_length_le (by omega)]; rfl, _, v, rfl, by rwa [List.take_of_length_le (by omega)] at ht, hb⟩)
      clear ht hb he hkr
      go_wp2_with fail
      go_ret2
      exact R.out
end Go.Proofs.YtkagfddkfpeddaaDoor
