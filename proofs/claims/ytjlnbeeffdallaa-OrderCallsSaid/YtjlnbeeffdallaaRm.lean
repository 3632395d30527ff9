/- The walk of timetableref02.Merge. -/
import Derived.Test.YtjlnbeeffdallaaRo
import Derived.Test.YtjlnbeeffdallaaMv
namespace Go.Proofs.Ytjlnbeeffdallaa
open Go.RowKit

/-- The loop's state: so many of both are out. -/
def RMRel (la lb : List (Int × Int)) (w : World) (s3 s4 s5 : Value) (wr : World) : Prop :=
  ∃ i k : Nat, ∃ lo, s4 = .int .i64 i ∧ s5 = .int .i64 k ∧ i ≤ la.length ∧ k ≤ lb.length ∧ lo.length = i + k ∧ lo ++ (la.drop i).merge (lb.drop k) leK = la.merge lb leK ∧
    Ow kc 2 wr w.heap.size 27 s3 lo ∧ Below w.heap.size w wr

theorem rm_step {la lb lo : List (Int × Int)} {w wr w3 : World} {s3 v3 s4 s5 : Value} {x : Int × Int} {n i k : Nat} {o : Obj} (hown : Ow kc 2 wr w.heap.size 27 s3 lo) (hbel : Below w.heap.size w wr) (h3 : Ow kc 2 w3 w.heap.size 27 v3 (lo ++ [x]))
    (hg : ((wr.drewN n).alloc o).grownBy w3 s3.ownBlock) (h4 : s4 = .int .i64 i) (h5 : s5 = .int .i64 k) (hi : i ≤ la.length) (hk : k ≤ lb.length) (hl : (lo ++ [x]).length = i + k) (hm : Hid ((lo ++ [x]) ++ (la.drop i).merge (lb.drop k) leK = la.merge lb leK)) : RMRel la lb w v3 s4 s5 w3 := by
  have h2 : Below w.heap.size w ((wr.drewN n).alloc o) := (below_drewN hbel n).alloc hbel.size o
  exact ⟨i, k, _, h4, h5, hi, hk, hl, hm.out, h3, h2.grown hg h2.size fun g hg => (hown.lt hg).1⟩

set_option maxHeartbeats 2000000 in
theorem rmerge_any (va vb : Value) (la lb : List (Int × Int)) (w : World) {P Q : Nat → Prop} (ha : Sl kc 2 w va la P) (hb : Sl kc 2 w vb lb Q) (hsz : la.length + lb.length ≤ 1048576) :
    Calls Try.prog 23 #[va, vb] w (Made kc 2 27 (la.merge lb leK) w) := by
  obtain ⟨i0, hi0, hz0, hz1, hz2⟩ := info_parts info_Key
  obtain ⟨A, ca, rfl, ha1, ha2⟩ := ha.shape
  obtain ⟨B, cb, rfl, hb1, hb2⟩ := hb.shape
  go_enter Try.func23, Try.ntmps23
  go_wp2
  go_loopw [5, 6, 7] (fun s5 s6 s7 wr => RMRel la lb w s5 s6 s7 wr) (fun _ s6 s7 _ => (la.length - (intOf s6).toNat) + (lb.length - (intOf s7).toNat))
  case atStart => exact ⟨0, 0, [], rfl, rfl, Nat.zero_le _, Nat.zero_le _, rfl, rfl, Ow.nil_, Below.refl _ _⟩
  case round =>
    obtain ⟨i, k, lo, rfl, rfl, hi, hk, hlo, hm, hown, hbel⟩ := hrel
    have Hm := Lib.hid hm
    have Hlo := Lib.hid hlo
    have hloL : lo.length ≤ 1048576 := by omega
    clear hm hlo
    by_cases hia : i < la.length
    · by_cases hkb : k < lb.length
      · obtain ⟨b1, o1, c1, e1, _, _, hl1, _, hx⟩ := (ha.below_ hbel).at_ hia
        injection e1 with e1 e1' e1''
        subst e1
        obtain ⟨x, Hx⟩ : ∃ x, Hid (la[i] = x) := ⟨_, Lib.hid rfl⟩
        rw [Hx.out] at hx
        have x1 : wr.cell? ⟨b1, o1 + i * 2, none⟩ = some (.int .i64 x.1) := by simpa using hx 0 _ rfl
        have x2 : wr.cell? ⟨b1, o1 + i * 2 + 1, none⟩ = some (.int .i64 x.2) := by simpa using hx 1 _ rfl
        have hda := Lib.hid (show la.drop i = x :: la.drop (i + 1) by rw [List.drop_eq_getElem_cons hia, Hx.out])
        have p1 : (0 : Int) ≤ (i : Int) := by omega
        have p2 : (i : Int) < (la.length : Int) := by omega
        clear hx e1' e1''
        obtain ⟨b2, o2, c2, e2, _, _, hl2, _, hy⟩ := (hb.below_ hbel).at_ hkb
        injection e2 with e2 e2' e2''
        subst e2
        obtain ⟨y, Hy⟩ : ∃ y, Hid (lb[k] = y) := ⟨_, Lib.hid rfl⟩
        rw [Hy.out] at hy
        have y1 : wr.cell? ⟨b2, o2 + k * 2, none⟩ = some (.int .i64 y.1) := by simpa using hy 0 _ rfl
        have y2 : wr.cell? ⟨b2, o2 + k * 2 + 1, none⟩ = some (.int .i64 y.2) := by simpa using hy 1 _ rfl
        have hdb := Lib.hid (show lb.drop k = y :: lb.drop (k + 1) by rw [List.drop_eq_getElem_cons hkb, Hy.out])
        have p3 : (0 : Int) ≤ (k : Int) := by omega
        have p4 : (k : Int) < (lb.length : Int) := by omega
        clear hy e2' e2''
        by_cases hlt : y.1 < x.1
        · have hd : decide (y.1 < x.1) = true := decide_eq_true hlt
          have hne : ((i : Int) == (la.length : Int)) = false := beq_eq_false_iff_ne.2 (by omega)
          have HQ := Lib.hid (show (lo ++ [y]) ++ (la.drop i).merge (lb.drop (k + 1)) leK = la.merge lb leK by rw [← Hm.out, hda.out, hdb.out, List.cons_merge_cons, if_neg (by unfold leK; simp only [decide_eq_true_eq]; omega), ← hda.out]; simp)
          go_wp2_with fail
          try go_quiet (fail)
          go_wp2_with (at_builtin; refine wpList_append_sl _ rfl _ _ _ rfl w.heap.size 27 i0 _ 16 Try.underlying22 hi0 hz0 hz1 hz2 rfl (by omega) kc_len kc_one _ _ lo [y] rfl rfl ((hown.drewN _).alloc _) (Sl.new1 y (by first | rfl | simp)) (by simp only [maxLen, List.length_cons, List.length_nil]; omega) (by simp only [List.length_cons, List.length_nil]; omega) (by have := hbel.size; simp; omega) ?_; intro v3 w3 hown3 hg3 hmv3)
          have R : RMRel la lb w v3 (.int .i64 i) (.int .i64 ((k : Int) + 1)) w3 := rm_step hown hbel hown3 hg3 (i := i) (k := k + 1) rfl (by go_num) (by omega) (by omega) (by have := Hlo.out; simp only [List.length_append, List.length_cons, List.length_nil]; omega) HQ
          go_roundw
          case rel => first | exact R | ((repeat apply Exists.intro); exact ⟨R, rfl⟩)
          case measure => simp [intOf]; omega
        · have hd : decide (y.1 < x.1) = false := decide_eq_false hlt
          have hne : ((i : Int) == (la.length : Int)) = false := beq_eq_false_iff_ne.2 (by omega)
          have HQ := Lib.hid (show (lo ++ [x]) ++ (la.drop (i + 1)).merge (lb.drop k) leK = la.merge lb leK by rw [← Hm.out, hda.out, hdb.out, List.cons_merge_cons, if_pos (by unfold leK; simp only [decide_eq_true_eq]; omega), ← hdb.out]; simp)
          go_wp2_with fail
          try go_quiet (fail)
          go_wp2_with (at_builtin; refine wpList_append_sl _ rfl _ _ _ rfl w.heap.size 27 i0 _ 16 Try.underlying22 hi0 hz0 hz1 hz2 rfl (by omega) kc_len kc_one _ _ lo [x] rfl rfl ((hown.drewN _).alloc _) (Sl.new1 x (by first | rfl | simp)) (by simp only [maxLen, List.length_cons, List.length_nil]; omega) (by simp only [List.length_cons, List.length_nil]; omega) (by have := hbel.size; simp; omega) ?_; intro v3 w3 hown3 hg3 hmv3)
          have R : RMRel la lb w v3 (.int .i64 ((i : Int) + 1)) (.int .i64 k) w3 := rm_step hown hbel hown3 hg3 (i := i + 1) (k := k) (by go_num) rfl (by omega) (by omega) (by have := Hlo.out; simp only [List.length_append, List.length_cons, List.length_nil]; omega) HQ
          go_roundw
          case rel => first | exact R | ((repeat apply Exists.intro); exact ⟨R, rfl⟩)
          case measure => simp [intOf]; omega
      · have hkE : k = lb.length := by omega
        subst hkE
        obtain ⟨b1, o1, c1, e1, _, _, hl1, _, hx⟩ := (ha.below_ hbel).at_ hia
        injection e1 with e1 e1' e1''
        subst e1
        obtain ⟨x, Hx⟩ : ∃ x, Hid (la[i] = x) := ⟨_, Lib.hid rfl⟩
        rw [Hx.out] at hx
        have x1 : wr.cell? ⟨b1, o1 + i * 2, none⟩ = some (.int .i64 x.1) := by simpa using hx 0 _ rfl
        have x2 : wr.cell? ⟨b1, o1 + i * 2 + 1, none⟩ = some (.int .i64 x.2) := by simpa using hx 1 _ rfl
        have hda := Lib.hid (show la.drop i = x :: la.drop (i + 1) by rw [List.drop_eq_getElem_cons hia, Hx.out])
        have p1 : (0 : Int) ≤ (i : Int) := by omega
        have p2 : (i : Int) < (la.length : Int) := by omega
        clear hx e1' e1''
        have HQ := Lib.hid (show (lo ++ [x]) ++ (la.drop (i + 1)).merge (lb.drop lb.length) leK = la.merge lb leK by rw [← Hm.out, hda.out, List.drop_of_length_le (Nat.le_refl _), List.merge_right, List.merge_right]; simp)
        go_wp2_with fail
        try go_quiet (fail)
        go_wp2_with (at_builtin; refine wpList_append_sl _ rfl _ _ _ rfl w.heap.size 27 i0 _ 16 Try.underlying22 hi0 hz0 hz1 hz2 rfl (by omega) kc_len kc_one _ _ lo [x] rfl rfl ((hown.drewN _).alloc _) (Sl.new1 x (by first | rfl | simp)) (by simp only [maxLen, List.length_cons, List.length_nil]; omega) (by simp only [List.length_cons, List.length_nil]; omega) (by have := hbel.size; simp; omega) ?_; intro v3 w3 hown3 hg3 hmv3)
        have R : RMRel la lb w v3 (.int .i64 ((i : Int) + 1)) (.int .i64 lb.length) w3 := rm_step hown hbel hown3 hg3 (i := i + 1) (k := lb.length) (by go_num) rfl (by omega) (by omega) (by have := Hlo.out; simp only [List.length_append, List.length_cons, List.length_nil]; omega) HQ
        go_roundw
        case rel => first | exact R | ((repeat apply Exists.intro); exact ⟨R, rfl⟩)
        case measure => simp [intOf]; omega
    · by_cases hkb : k < lb.length
      · have hiE : i = la.length := by omega
        subst hiE
        obtain ⟨b2, o2, c2, e2, _, _, hl2, _, hy⟩ := (hb.below_ hbel).at_ hkb
        injection e2 with e2 e2' e2''
        subst e2
        obtain ⟨y, Hy⟩ : ∃ y, Hid (lb[k] = y) := ⟨_, Lib.hid rfl⟩
        rw [Hy.out] at hy
        have y1 : wr.cell? ⟨b2, o2 + k * 2, none⟩ = some (.int .i64 y.1) := by simpa using hy 0 _ rfl
        have y2 : wr.cell? ⟨b2, o2 + k * 2 + 1, none⟩ = some (.int .i64 y.2) := by simpa using hy 1 _ rfl
        have hdb := Lib.hid (show lb.drop k = y :: lb.drop (k + 1) by rw [List.drop_eq_getElem_cons hkb, Hy.out])
        have p3 : (0 : Int) ≤ (k : Int) := by omega
        have p4 : (k : Int) < (lb.length : Int) := by omega
        clear hy e2' e2''
        have HQ := Lib.hid (show (lo ++ [y]) ++ (la.drop la.length).merge (lb.drop (k + 1)) leK = la.merge lb leK by rw [← Hm.out, hdb.out, List.drop_of_length_le (Nat.le_refl _), List.nil_merge, List.nil_merge]; simp)
        go_wp2_with fail
        try go_quiet (fail)
        go_wp2_with (at_builtin; refine wpList_append_sl _ rfl _ _ _ rfl w.heap.size 27 i0 _ 16 Try.underlying22 hi0 hz0 hz1 hz2 rfl (by omega) kc_len kc_one _ _ lo [y] rfl rfl ((hown.drewN _).alloc _) (Sl.new1 y (by first | rfl | simp)) (by simp only [maxLen, List.length_cons, List.length_nil]; omega) (by simp only [List.length_cons, List.length_nil]; omega) (by have := hbel.size; simp; omega) ?_; intro v3 w3 hown3 hg3 hmv3)
        have R : RMRel la lb w v3 (.int .i64 la.length) (.int .i64 ((k : Int) + 1)) w3 := rm_step hown hbel hown3 hg3 (i := la.length) (k := k + 1) rfl (by go_num) (by omega) (by omega) (by have := Hlo.out; simp only [List.length_append, List.length_cons, List.length_nil]; omega) HQ
        go_roundw
        case rel => first | exact R | ((repeat apply Exists.intro); exact ⟨R, rfl⟩)
        case measure => simp [intOf]; omega
      · have hiE : i = la.length := by omega
        have hkE : k = lb.length := by omega
        subst hiE hkE
        have hfin : lo = la.merge lb leK := by
          have := Hm.out
          rw [List.drop_of_length_le (Nat.le_refl _), List.drop_of_length_le (Nat.le_refl _)] at this
          simpa using this
        go_wp2
        go_ret
        rw [hfin] at hown
        exact ⟨_, rfl, hown, hbel⟩
end Go.Proofs.Ytjlnbeeffdallaa
