/- The walks of timetableref03.Set's New, in, Put, Take, Has, Next, List, Clear, Clone, Same. -/
import Derived.Test.YtaaladekamfpnaaDoorBk
namespace Go.Proofs.YtaaladekamfpnaaDoor
open Go.RowKit Bs

/-- Block p is the document's set l; its bools lie in block g. -/
def RSet (w : World) (p g : Nat) (l : List Bool) : Prop :=
  ∃ (cap : Nat) (cs : Array Value), w.heap[p]? = some (.cells #[Value.slice (some ⟨g, 0, none⟩) l.length cap] 56 (0, 0)) ∧ l.length ≤ cap ∧ cap ≤ maxLen ∧ l.length ≤ 1048576 ∧
    w.heap[g]? = some (.cells cs 4 (0, 0)) ∧ ∀ (i : Nat) (b : Bool), l[i]? = some b → cs[i]? = some (.bool b)
theorem RSet.lt {w : World} {p g : Nat} {l : List Bool} (h : RSet w p g l) : p < w.heap.size ∧ g < w.heap.size := by
  obtain ⟨cap, cs, h1, _, _, _, h2, _⟩ := h
  exact ⟨(Array.getElem?_eq_some_iff.1 h1).1, (Array.getElem?_eq_some_iff.1 h2).1⟩
theorem RSet.le {w : World} {p g : Nat} {l : List Bool} (h : RSet w p g l) : l.length ≤ 1048576 := by
  obtain ⟨cap, cs, h1, _, _, h3, _⟩ := h; exact h3
theorem RSet.ne {w : World} {p g : Nat} {l : List Bool} (h : RSet w p g l) : p ≠ g := by
  obtain ⟨cap, cs, h1, _, _, _, h2, _⟩ := h
  rintro rfl
  rw [h1] at h2
  injection h2 with h2
  injection h2 with _ h2
  exact absurd h2 (by decide)
theorem RSet.keep {w w' : World} {p g : Nat} {l : List Bool} (h : RSet w p g l) (hp : w'.heap[p]? = w.heap[p]?) (hg : w'.heap[g]? = w.heap[g]?) : RSet w' p g l := by
  obtain ⟨cap, cs, h1, h2, h3, h4, h5, h6⟩ := h
  exact ⟨cap, cs, hp.trans h1, h2, h3, h4, hg.trans h5, h6⟩
theorem RSet.below_ {w w' : World} {p g : Nat} {l : List Bool} (h : RSet w p g l) (hb : Below w.heap.size w w') : RSet w' p g l := h.keep (hb.block p h.lt.1) (hb.block g h.lt.2)
theorem RSet.drewN {w : World} {p g : Nat} {l : List Bool} (h : RSet w p g l) (n : Nat) : RSet (w.drewN n) p g l := h
theorem RSet.chg {w w' : World} {p g lo hi : Nat} {l : List Bool} (h : RSet w p g l) (hc : Chg lo hi w w') (hp : p < lo ∨ hi ≤ p) (hg : g < lo ∨ hi ≤ g) : RSet w' p g l := h.keep (hc.block p hp) (hc.block g hg)
theorem RSet.far {w w' : World} {p g x : Nat} {l : List Bool} (h : RSet w p g l) (hg : w.grownBy w' (some x)) (h1 : p ≠ x) (h2 : g ≠ x) : RSet w' p g l :=
  h.keep (hg.block p h.lt.1 (by intro e; injection e with e; exact h1 e)) (hg.block g h.lt.2 (by intro e; injection e with e; exact h2 e))
theorem BSet.far {w w' : World} {lo hi p g : Nat} {l : List Bool} (h : BSet w lo hi p l) (hg : w.grownBy w' (some g)) (hd : g < lo ∨ hi ≤ g) : BSet w' lo hi p l :=
  h.keep hg.size fun b h1 h2 => hg.block b (by have := h.hi_le; omega) (by intro e; injection e with e; omega)
theorem far_below {w w' : World} {g B : Nat} (hg : w.grownBy w' (some g)) (hB : B ≤ g) (hs : B ≤ w.heap.size) : Below B w w' :=
  (Below.refl B w).grown hg hs fun k hk => by injection hk with hk; omega
/-- What a walk reads. -/
theorem RSet.open_ {w : World} {p g : Nat} {l : List Bool} (h : RSet w p g l) : ∃ cap, w.cell? ⟨p, 0, none⟩ = some (.slice (some ⟨g, 0, none⟩) l.length cap) ∧ l.length ≤ cap ∧ cap ≤ maxLen := by
  obtain ⟨cap, cs, h1, h2, h3, h4, h5, h6⟩ := h
  exact ⟨cap, by rw [cell_of_row w p 0 _ _ (0, 0) h1]; rfl, h2, h3⟩
theorem RSet.bit {w : World} {p g : Nat} {l : List Bool} (h : RSet w p g l) {i : Nat} (hi : i < l.length) : w.cell? ⟨g, i, none⟩ = some (.bool (at_ l i)) ∧ w.frozen? ⟨g, i, none⟩ = false := by
  obtain ⟨cap, cs, h1, h2, h3, h4, h5, h6⟩ := h
  refine ⟨?_, by simp [World.frozen?, h5]⟩
  rw [cell_of_row w g i cs _ (0, 0) h5, at_lt hi]
  exact h6 i _ (List.getElem?_eq_getElem hi)
theorem RSet.store {w : World} {p g : Nat} {l : List Bool} (h : RSet w p g l) {i : Nat} (hi : i < l.length) (b : Bool) (n : Nat) : RSet ((w.drewN n).setCell ⟨g, i, none⟩ (.bool b)) p g (l.set i b) ∧ w.grownBy ((w.drewN n).setCell ⟨g, i, none⟩ (.bool b)) (some g) := by
  have hne := h.ne
  obtain ⟨cap, cs, h1, h2, h3, h4, h5, h6⟩ := h
  refine ⟨⟨cap, cs.setIfInBounds i (.bool b), ?_, by rw [List.length_set]; exact h2, h3, by rw [List.length_set]; exact h4, ?_, fun j c hj => ?_⟩, ?_⟩
  · rw [List.length_set]
    exact (Below.heap_setCell (w.drewN n) _ _ p hne).trans h1
  · simp [World.setCell, Array.getElem?_modify, h5]
  · rw [List.getElem?_set] at hj
    rw [Array.getElem?_setIfInBounds]
    by_cases he : i = j
    · subst he
      rw [if_pos rfl, if_pos hi] at hj
      have hlt := (Array.getElem?_eq_some_iff.1 (h6 _ _ (List.getElem?_eq_getElem hi))).1
      rw [if_pos rfl, if_pos hlt]
      injection hj with hj
      rw [hj]
    · rw [if_neg he] at hj
      rw [if_neg he]
      exact h6 j c hj
  · exact ⟨rfl, rfl, rfl, by simp [World.setCell], fun k _ hk => Below.heap_setCell (w.drewN n) _ _ k (by intro e; exact hk (by rw [e]))⟩

set_option maxHeartbeats 400000 in
theorem rin_in (w : World) (p g : Nat) (l : List Bool) (i : Nat) (h : RSet w p g l) (hi : i < l.length) : Calls Tryd.prog 47 #[.pointer (some ⟨p, 0, none⟩), .int .i64 (i : Int)] w fun e w' => e = .returned (.bool true) ∧ w = w' := by
  obtain ⟨cap, c0, _, _⟩ := h.open_
  have q1 : (0 : Int) ≤ (i : Int) := by omega
  have d : decide (i < l.length) = true := decide_eq_true hi
  go_enter Tryd.func47, Tryd.ntmps47
  go_wp2
  go_ret
  exact ⟨rfl, rfl⟩
set_option maxHeartbeats 400000 in
theorem rin_out (w : World) (p g : Nat) (l : List Bool) (i : Int) (h : RSet w p g l) (hi : i < 0 ∨ (l.length : Int) ≤ i) : Calls Tryd.prog 47 #[.pointer (some ⟨p, 0, none⟩), .int .i64 i] w fun e w' => e = .returned (.bool false) ∧ w = w' := by
  obtain ⟨cap, c0, _, _⟩ := h.open_
  by_cases h0 : i < 0
  · have d : decide (0 ≤ i) = false := decide_eq_false (by omega)
    clear hi
    go_enter Tryd.func47, Tryd.ntmps47
    go_wp2
    go_ret
    exact ⟨rfl, rfl⟩
  · have d : 0 ≤ i := by omega
    have d2 : decide (i < (l.length : Int)) = false := decide_eq_false (by omega)
    clear hi h0
    go_enter Tryd.func47, Tryd.ntmps47
    go_wp2
    go_ret
    exact ⟨rfl, rfl⟩
set_option maxHeartbeats 400000 in
theorem rhas_in (w : World) (p g : Nat) (l : List Bool) (i : Nat) (h : RSet w p g l) (hi : i < l.length) : Calls Tryd.prog 36 #[.pointer (some ⟨p, 0, none⟩), .int .i64 (i : Int)] w fun e w' => e = .returned (.bool (at_ l i)) ∧ w = w' := by
  obtain ⟨cap, c0, _, _⟩ := h.open_
  obtain ⟨c1, _⟩ := h.bit hi
  have H := Lib.hid (rin_in w p g l i h hi)
  have q1 : (0 : Int) ≤ (i : Int) := by omega
  have q2 : (i : Int) < (l.length : Int) := by omega
  go_enter Tryd.func36, Tryd.ntmps36
  go_wp2_with (go_at_call 47; refine H.out.mono ?_; rintro e w' ⟨rfl, rfl⟩)
  go_ret
  exact ⟨rfl, rfl⟩
set_option maxHeartbeats 400000 in
theorem rhas_out (w : World) (p g : Nat) (l : List Bool) (i : Int) (h : RSet w p g l) (hi : i < 0 ∨ (l.length : Int) ≤ i) : Calls Tryd.prog 36 #[.pointer (some ⟨p, 0, none⟩), .int .i64 i] w fun e w' => e = .returned (.bool false) ∧ w = w' := by
  have H := Lib.hid (rin_out w p g l i h hi)
  clear hi
  go_enter Tryd.func36, Tryd.ntmps36
  go_wp2_with (go_at_call 47; refine H.out.mono ?_; rintro e w' ⟨rfl, rfl⟩)
  go_ret
  exact ⟨rfl, rfl⟩

def RTurned (b r : Bool) (l : List Bool) (p g i : Nat) (w : World) (e : Ending) (w' : World) : Prop := e = .returned (.tuple #[.bool r, .int .i64 0]) ∧ RSet w' p g (l.set i b) ∧ w.grownBy w' (some g)
set_option maxHeartbeats 400000 in
theorem rput_any (w : World) (p g : Nat) (l : List Bool) (i : Nat) (h : RSet w p g l) (hi : i < l.length) : Calls Tryd.prog 26 #[.pointer (some ⟨p, 0, none⟩), .int .i64 (i : Int)] w (RTurned true (!at_ l i) l p g i w) := by
  obtain ⟨cap, c0, _, _⟩ := h.open_
  obtain ⟨c1, c2⟩ := h.bit hi
  have hne := h.ne
  have H := Lib.hid (rin_in w p g l i h hi)
  have HS := Lib.hid (h.store hi true 0)
  have q1 : (0 : Int) ≤ (i : Int) := by omega
  have q2 : (i : Int) < (l.length : Int) := by omega
  go_enter Tryd.func26, Tryd.ntmps26
  go_wp2_with (go_at_call 47; refine H.out.mono ?_; rintro e w' ⟨rfl, rfl⟩)
  go_ret2
  exact ⟨rfl, HS.out.1, HS.out.2⟩
set_option maxHeartbeats 400000 in
theorem rput_out (w : World) (p g : Nat) (l : List Bool) (i : Int) (h : RSet w p g l) (hi : i < 0 ∨ (l.length : Int) ≤ i) : Calls Tryd.prog 26 #[.pointer (some ⟨p, 0, none⟩), .int .i64 i] w fun e w' => e = .returned (.tuple #[.bool false, .int .i64 2]) ∧ w = w' := by
  have H := Lib.hid (rin_out w p g l i h hi)
  clear hi
  go_enter Tryd.func26, Tryd.ntmps26
  go_wp2_with (go_at_call 47; refine H.out.mono ?_; rintro e w' ⟨rfl, rfl⟩)
  go_ret2
  exact ⟨rfl, rfl⟩
set_option maxHeartbeats 400000 in
theorem rtake_any (w : World) (p g : Nat) (l : List Bool) (i : Nat) (h : RSet w p g l) (hi : i < l.length) : Calls Tryd.prog 27 #[.pointer (some ⟨p, 0, none⟩), .int .i64 (i : Int)] w (RTurned false (at_ l i) l p g i w) := by
  obtain ⟨cap, c0, _, _⟩ := h.open_
  obtain ⟨c1, c2⟩ := h.bit hi
  have hne := h.ne
  have H := Lib.hid (rin_in w p g l i h hi)
  have HS := Lib.hid (h.store hi false 0)
  have q1 : (0 : Int) ≤ (i : Int) := by omega
  have q2 : (i : Int) < (l.length : Int) := by omega
  go_enter Tryd.func27, Tryd.ntmps27
  go_wp2_with (go_at_call 47; refine H.out.mono ?_; rintro e w' ⟨rfl, rfl⟩)
  go_ret2
  exact ⟨rfl, HS.out.1, HS.out.2⟩
set_option maxHeartbeats 400000 in
theorem rtake_out (w : World) (p g : Nat) (l : List Bool) (i : Int) (h : RSet w p g l) (hi : i < 0 ∨ (l.length : Int) ≤ i) : Calls Tryd.prog 27 #[.pointer (some ⟨p, 0, none⟩), .int .i64 i] w fun e w' => e = .returned (.tuple #[.bool false, .int .i64 2]) ∧ w = w' := by
  have H := Lib.hid (rin_out w p g l i h hi)
  clear hi
  go_enter Tryd.func27, Tryd.ntmps27
  go_wp2_with (go_at_call 47; refine H.out.mono ?_; rintro e w' ⟨rfl, rfl⟩)
  go_ret2
  exact ⟨rfl, rfl⟩
end Go.Proofs.YtaaladekamfpnaaDoor
