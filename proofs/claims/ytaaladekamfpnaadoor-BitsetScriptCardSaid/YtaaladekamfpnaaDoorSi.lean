/- The walk of timetablekit.Same at ints; what Put and Take do; the law's lives. -/
import Derived.Test.YtaaladekamfpnaaDoorBo
import Derived.Test.YtaaladekamfpnaaDoorPk
namespace Go.Proofs.YtaaladekamfpnaaDoor
open Go.RowKit Bs

theorem Sl.at_ {α : Type} {c : α → List Value} {size : Nat} {w : World} {v : Value} {l : List α} {P : Nat → Prop} (h : Sl c size w v l P) {i : Nat} (hi : i < l.length) :
    ∃ b off cap, v = .slice (some ⟨b, off, none⟩) l.length cap ∧ l.length ≤ cap ∧ cap ≤ maxLen ∧ b < w.heap.size ∧ P b ∧ ∀ j u, (c l[i])[j]? = some u → w.cell? ⟨b, off + i * size + j, none⟩ = some u := by
  obtain ⟨b, off, cap, e, h1, h2, h3, h4, h5⟩ := h.form (by omega)
  exact ⟨b, off, cap, e, h1, h2, h3, h4, fun j u hu => h5 i l[i] (List.getElem?_eq_getElem hi) j u hu⟩
set_option maxHeartbeats 1000000 in
theorem sameInt_any (va vb : Value) (la lb : List Int) (w : World) {P Q : Nat → Prop} (ha : Sl ic 1 w va la P) (hb : Sl ic 1 w vb lb Q) (h1 : la.length ≤ 1048576) :
    Calls Tryd.prog 13 #[va, vb] w (Quiet (.bool (decide (la = lb))) w) := by
  obtain ⟨A, capa, rfl, ha1, ha2⟩ := ha.shape
  obtain ⟨B, capb, e, hb1, hb2⟩ := hb.shape
  by_cases hlen : la.length = lb.length
  · rw [← hlen] at e hb1
    subst e
    go_enter Tryd.func13, Tryd.ntmps13
    have Hlen := Lib.hid hlen
    clear hlen
    go_wp2
    go_loopw [5] (fun s wr => SameRel la lb w s wr) (fun s _ => la.length - (intOf s).toNat)
    case atStart => exact ⟨0, 0, Nat.zero_le _, rfl, rfl, rfl⟩
    case round =>
      obtain ⟨k, n, hk, rfl, hkk, rfl⟩ := hrel
      by_cases hlt : k < la.length
      · have hlt2 : k < lb.length := by rw [← Hlen.out]; exact hlt
        obtain ⟨b1, o1, c1, e1, _, _, hl1, _, hx⟩ := ha.at_ hlt
        obtain ⟨b2, o2, c2, e2, _, _, hl2, _, hy⟩ := hb.at_ hlt2
        injection e1 with e1 e1' e1''
        injection e2 with e2 e2' e2''
        subst e1 e2
        obtain ⟨x, Hx⟩ : ∃ x, Hid (la[k] = x) := ⟨_, Lib.hid rfl⟩
        obtain ⟨y, Hy⟩ : ∃ y, Hid (lb[k] = y) := ⟨_, Lib.hid rfl⟩
        rw [Hx.out] at hx
        rw [Hy.out] at hy
        have hx0 : w.cell? ⟨b1, o1 + k, none⟩ = some (.int .i64 x) := by simpa using hx 0 _ rfl
        have hy0 : w.cell? ⟨b2, o2 + k, none⟩ = some (.int .i64 y) := by simpa using hy 0 _ rfl
        have Hkk := Lib.hid hkk
        clear hkk hx hy e1' e1'' e2' e2''
        have q1 : (0 : Int) ≤ (k : Int) := by omega
        have q2 : (k : Int) < (la.length : Int) := by omega
        by_cases hxy : x = y
        · have hb0 : (x == y) = true := beq_iff_eq.2 hxy
          have Hxy := Lib.hid hxy
          clear hxy
          go_wp2
          go_quiet (fail)
          go_wp2
          go_roundw
          case rel => exact ⟨k + 1, _, by omega, by go_num, same_step hlt hlt2 Hkk.out (by rw [Hx.out, Hy.out]; exact Hxy.out), by first | rfl | exact World.drewN_drewN _ _ _⟩
          case measure => simp [intOf]; omega
        · have hb0 : (x == y) = false := beq_eq_false_iff_ne.2 hxy
          have hne := same_ne hlt hlt2 (by rw [Hx.out, Hy.out]; exact hxy)
          have Hne := Lib.hid hne
          clear hne
          go_wp2
          go_quiet (fail)
          go_wp2
          go_ret
          exact ⟨ret_bool (decide_eq_false Hne.out).symm, _, by first | rfl | exact World.drewN_drewN _ _ _⟩
      · have hkl : k = la.length := by omega
        subst hkl
        have Heq := Lib.hid (same_eq Hlen.out hkk)
        clear hkk
        go_wp2
        go_ret
        exact ⟨ret_bool (decide_eq_true Heq.out).symm, n, rfl⟩
  · have hne : la ≠ lb := fun h => hlen (by rw [h])
    rw [decide_eq_false hne]
    obtain rfl := e
    have hd : ((la.length : Int) == (lb.length : Int)) = false := beq_eq_false_iff_ne.2 (by omega)
    clear hne hlen
    go_enter Tryd.func13, Tryd.ntmps13
    go_wp2
    go_ret
    exact ⟨rfl, 0, rfl⟩

theorem sameInt_self (va vb : Value) (l : List Int) (w : World) {P Q : Nat → Prop} (ha : Sl ic 1 w va l P) (hb : Sl ic 1 w vb l Q) (h1 : l.length ≤ 1048576) :
    Calls Tryd.prog 13 #[va, vb] w (Quiet (.bool true) w) := by
  have h := sameInt_any va vb l l w ha hb h1
  rwa [show decide (l = l) = true from decide_eq_true rfl] at h
theorem Below.lift {a b c : World} (h : Below a.heap.size a b) (k : Below b.heap.size b c) : Below a.heap.size a c := h.trans (k.mono h.size)

/-- What Put, Take leave of a number that is below the width. -/
def Turned (b r : Bool) (l : List Bool) (lo hi p i : Nat) (w : World) (e : Ending) (w' : World) : Prop := e = .returned (.tuple #[.bool r, .int .i64 0]) ∧ BSet w' lo hi p (l.set i b) ∧ Chg lo hi w w'
theorem set_same {l : List Bool} {i : Nat} {b : Bool} (h : i < l.length) (hb : at_ l i = b) : l.set i b = l := by
  apply ext (by rw [List.length_set])
  intro k
  rw [at_set l i b h]
  split
  · rename_i e; rw [e, hb]
  · rfl
theorem put_any (w : World) (lo hi p : Nat) (l : List Bool) (i : Nat) (h : BSet w lo hi p l) (hi_ : i < l.length) : Calls Tryd.prog 12 #[.pointer (some ⟨p, 0, none⟩), .int .i64 (i : Int)] w (Turned true (!at_ l i) l lo hi p i w) := by
  refine put_of w _ _ ?_ fun _ _ h => ⟨_, _, h.1⟩
  cases hb : at_ l i
  · exact (turn_new w lo hi p l i true h hi_ hb).mono fun e w' ⟨h1, h2, h3⟩ => ⟨h1, h2, h3⟩
  · refine (turn_same w lo hi p l i true h hi_ hb).mono ?_
    rintro e w' ⟨h1, rfl⟩
    exact ⟨h1, by rw [set_same hi_ hb]; exact h, Chg.refl _ _ _⟩
theorem take_any (w : World) (lo hi p : Nat) (l : List Bool) (i : Nat) (h : BSet w lo hi p l) (hi_ : i < l.length) : Calls Tryd.prog 20 #[.pointer (some ⟨p, 0, none⟩), .int .i64 (i : Int)] w (Turned false (at_ l i) l lo hi p i w) := by
  refine take_of w _ _ ?_ fun _ _ h => ⟨_, _, h.1⟩
  cases hb : at_ l i
  · refine (turn_same w lo hi p l i false h hi_ hb).mono ?_
    rintro e w' ⟨h1, rfl⟩
    exact ⟨h1, by rw [set_same hi_ hb]; exact h, Chg.refl _ _ _⟩
  · exact (turn_new w lo hi p l i false h hi_ hb).mono fun e w' ⟨h1, h2, h3⟩ => ⟨h1, h2, h3⟩
theorem put_out (w : World) (lo hi p : Nat) (l : List Bool) (i : Int) (h : BSet w lo hi p l) (hi_ : i < 0 ∨ (l.length : Int) ≤ i) : Calls Tryd.prog 12 #[.pointer (some ⟨p, 0, none⟩), .int .i64 i] w fun e w' => e = .returned (.tuple #[.bool false, .int .i64 2]) ∧ w = w' :=
  put_of w _ _ (turn_out w lo hi p l i true h hi_) fun _ _ h => ⟨_, _, h.1⟩
theorem take_out (w : World) (lo hi p : Nat) (l : List Bool) (i : Int) (h : BSet w lo hi p l) (hi_ : i < 0 ∨ (l.length : Int) ≤ i) : Calls Tryd.prog 20 #[.pointer (some ⟨p, 0, none⟩), .int .i64 i] w fun e w' => e = .returned (.tuple #[.bool false, .int .i64 2]) ∧ w = w' :=
  take_of w _ _ (turn_out w lo hi p l i false h hi_) fun _ _ h => ⟨_, _, h.1⟩
theorem put_nil (w : World) (i : Int) : Calls Tryd.prog 12 #[.pointer none, .int .i64 i] w fun e w' => e = .returned (.tuple #[.bool false, .int .i64 1]) ∧ w = w' :=
  put_of w _ _ (turn_nil w i true) fun _ _ h => ⟨_, _, h.1⟩
theorem take_nil (w : World) (i : Int) : Calls Tryd.prog 20 #[.pointer none, .int .i64 i] w fun e w' => e = .returned (.tuple #[.bool false, .int .i64 1]) ∧ w = w' :=
  take_of w _ _ (turn_nil w i false) fun _ _ h => ⟨_, _, h.1⟩

theorem lv_put0 : (!at_ (List.replicate 70 false) 3) = true := by decide
theorem lv_put1 : (!at_ ((List.replicate 70 false).set 3 true) 69) = true := by decide
theorem lv_put2 : (!at_ (((List.replicate 70 false).set 3 true).set 69 true) 3) = false := by decide
theorem lv_next : next ((((List.replicate 70 false).set 3 true).set 69 true).set 3 true) 4 = 69 := by decide +kernel
theorem lv_count : Bs.count ((((List.replicate 70 false).set 3 true).set 69 true).set 3 true) = 2 := by decide +kernel
set_option maxHeartbeats 1000000 in
theorem lives_any (w : World) (hT : Tab w) (hg : 0 < w.heap.size) :
    Calls Tryd.prog 9 #[] w fun r w' => r = .returned (.bool true) ∧ Below w.heap.size w w' := by
  have HT := Lib.hid hT
  clear hT
  go_enter Tryd.func9, Tryd.ntmps9
  go_wp2_with fail
  refine (new_ok 70 w (by decide)).mono ?_
  rintro e w1 ⟨p, rfl, hs, hb⟩
  go_wp2_with fail
  refine (put_any w1 _ _ p _ 3 hs (by rw [List.length_replicate]; decide)).mono ?_
  rintro e w2 ⟨rfl, hs, c2⟩
  rw [lv_put0]
  go_wp2_with fail
  refine (put_any w2 _ _ p _ 69 hs (by rw [List.length_set, List.length_replicate]; decide)).mono ?_
  rintro e w3 ⟨rfl, hs, c3⟩
  rw [lv_put1]
  go_wp2_with fail
  refine (put_any w3 _ _ p _ 3 hs (by rw [List.length_set, List.length_set, List.length_replicate]; decide)).mono ?_
  rintro e w4 ⟨rfl, hs, c4⟩
  rw [lv_put2]
  have hb4 : Below w.heap.size w w4 := ((hb.trans (c2.below (Nat.le_refl _))).trans (c3.below (Nat.le_refl _))).trans (c4.below (Nat.le_refl _))
  go_wp2_with fail
  refine (next_any w4 _ _ p _ 4 hs (HT.out.below hb4 hg)).mono ?_
  rintro e w' ⟨rfl, rfl⟩
  rw [lv_next]
  go_wp2_with fail
  refine (count_any w4 _ _ p _ hs).mono ?_
  rintro e w' ⟨rfl, rfl⟩
  rw [lv_count]
  go_wp2_with fail
  go_ret
  exact ⟨rfl, hb4⟩
end Go.Proofs.YtaaladekamfpnaaDoor
