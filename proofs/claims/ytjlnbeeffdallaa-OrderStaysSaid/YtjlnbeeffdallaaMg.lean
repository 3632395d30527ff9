/- The walk of order.merge. -/
import Derived.Test.YtjlnbeeffdallaaRows
import Derived.Test.YtjlnbeeffdallaaSl
import Derived.Test.YtjlnbeeffdallaaMs
import Derived.WalkSpells
import Derived.WalkLawsBesides
import Derived.Deep.QuietTactic
import Derived.BigQuiet
import Derived.Deep.RegionHeld3
namespace Go.Proofs.Ytjlnbeeffdallaa
open Go.RowKit

/-- The cells of a key. -/
def kc (k : Int × Int) : List Value := [.int .i64 k.1, .int .i64 k.2]
theorem kc_len : ∀ k, (kc k).length = 2 := fun _ => rfl
theorem kc_one : ∀ k, ∀ u ∈ kc k, u.oneCell' = true := by intro k u hu; simp [kc] at hu; rcases hu with rfl | rfl <;> rfl

theorem info_Key : (Try.prog.info? 27).map (fun i => (i.zero, i.size, i.bytes)) = some (some (.agg #[.int .i64 0, .int .i64 0]), 2, 16) := by kernel_rfl

/-- What order.merge leaves. -/
def MgPost (base : Nat) (v : Value) (l : List (Int × Int)) (w : World) (e : Ending) (w' : World) : Prop :=
  ∃ v', e = .returned v' ∧ Ow kc 2 w' base 27 v' l ∧ w.grownBy w' v.ownBlock ∧ Moved w v v'
/-- What holds at the head of its loop. -/
def MgRel (base : Nat) (v : Value) (l la lb : List (Int × Int)) (w : World) (s0 s1 s2 : Value) (wr : World) : Prop :=
  ∃ l' la' lb', l' ++ la'.merge lb' leK = l ++ la.merge lb leK ∧ l'.length + la'.length + lb'.length = l.length + la.length + lb.length ∧
    Ow kc 2 wr base 27 s0 l' ∧ Sl kc 2 wr s1 la' (fun b => some b ≠ s0.ownBlock) ∧ Sl kc 2 wr s2 lb' (fun b => some b ≠ s0.ownBlock) ∧ w.grownBy wr v.ownBlock ∧ Moved w v s0

theorem MgRel.of {base : Nat} {v : Value} {l la lb : List (Int × Int)} {w : World} {s0 s1 s2 : Value} {wr : World} (l' la' lb' : List (Int × Int)) (h1 : l' ++ la'.merge lb' leK = l ++ la.merge lb leK) (h2 : l'.length + la'.length + lb'.length = l.length + la.length + lb.length)
    (h3 : Ow kc 2 wr base 27 s0 l') (h4 : Sl kc 2 wr s1 la' (fun b => some b ≠ s0.ownBlock)) (h5 : Sl kc 2 wr s2 lb' (fun b => some b ≠ s0.ownBlock)) (h6 : w.grownBy wr v.ownBlock) (h7 : Moved w v s0) : MgRel base v l la lb w s0 s1 s2 wr :=
  ⟨l', la', lb', h1, h2, h3, h4, h5, h6, h7⟩

set_option maxHeartbeats 1000000 in
theorem merge_any (base : Nat) (v va vb : Value) (l la lb : List (Int × Int)) (w : World) (hown : Ow kc 2 w base 27 v l)
    (ha : Sl kc 2 w va la (fun b => some b ≠ v.ownBlock)) (hb : Sl kc 2 w vb lb (fun b => some b ≠ v.ownBlock)) (hbase : base ≤ w.heap.size) (hsz : l.length + la.length + lb.length ≤ 1048576) :
    Calls Try.prog 30 #[v, va, vb] w (MgPost base v (l ++ la.merge lb leK) w) := by
  obtain ⟨i0, hi0, hz0, hz1, hz2⟩ := info_parts info_Key
  obtain ⟨A, capa, rfl, ha1, ha2⟩ := ha.shape
  obtain ⟨B, capb, rfl, hb1, hb2⟩ := hb.shape
  go_enter Try.func30, Try.ntmps30
  go_wp2
  go_loopw [0, 1, 2] (fun s0 s1 s2 wr => MgRel base v l la lb w s0 s1 s2 wr) (fun _ s1 s2 _ => lenV s1 + lenV s2)
  case atStart => exact ⟨l, la, lb, rfl, rfl, hown, ha, hb, World.grownBy.refl _ _, Moved.refl _ _⟩
  case round =>
    obtain ⟨l', la', lb', hm, hlen, hown', ha', hb', hg, hmv⟩ := hrel
    rcases la' with _ | ⟨x, xs⟩
    · obtain ⟨A1, c1, rfl, hc1, hm1⟩ := ha'.shape
      obtain ⟨A2, c2, rfl, hc2, hm2⟩ := hb'.shape
      simp only [List.length_nil] at *
      have hb63 : l'.length + lb'.length ≤ 1048576 := by omega
      have hwr : w.heap.size ≤ wr.heap.size := hg.size
      have Hm := Lib.hid hm
      have Hlen := Lib.hid hlen
      clear hm hlen
      go_wp2_with (first | (at_builtin; refine wpList_append_sl _ rfl (.tmp 40) (.tmp 41) _ rfl base 27 i0 _ 16 Try.underlying22 hi0 hz0 hz1 hz2 rfl (by omega) kc_len kc_one u0 _ l' [] rfl rfl hown' ha' (by simp only [maxLen, List.length_nil]; omega) (by simp only [List.length_nil]; omega) (by omega) ?_; intro v1 w1 hown1 hg1 hmv1) | (at_builtin; refine wpList_append_sl _ rfl (.tmp 42) (.tmp 43) _ rfl base 27 i0 _ 16 Try.underlying22 hi0 hz0 hz1 hz2 rfl (by omega) kc_len kc_one v1 _ (l' ++ []) lb' rfl rfl hown1 (hb'.moved hg1 hmv1) (by simp only [maxLen, List.append_nil]; omega) (by simp only [List.append_nil]; omega) (by have := hg1.size; omega) ?_; intro v2 w2 hown2 hg2 hmv2))
      go_ret
      refine ⟨v2, rfl, ?_, grown_chain hg hmv (grown_chain hg1 hmv1 hg2), Moved.trans hg.size hmv (Moved.trans hg1.size hmv1 hmv2)⟩
      rw [← Hm.out, List.nil_merge]
      simpa using hown2
    rcases lb' with _ | ⟨y, ys⟩
    · obtain ⟨b1, o1, c1, rfl, hc1, hm1, hlt1, hne1, hcell1⟩ := ha'.form (by simp)
      obtain ⟨A2, c2, rfl, hc2, hm2⟩ := hb'.shape
      simp only [List.length_cons, List.length_nil] at *
      have hb63 : l'.length + (xs.length + 1) ≤ 1048576 := by omega
      have hwr : w.heap.size ≤ wr.heap.size := hg.size
      have Hm := Lib.hid hm
      have Hlen := Lib.hid hlen
      clear hm hlen hcell1
      go_wp2_with (first | (at_builtin; refine wpList_append_sl _ rfl (.tmp 40) (.tmp 41) _ rfl base 27 i0 _ 16 Try.underlying22 hi0 hz0 hz1 hz2 rfl (by omega) kc_len kc_one u0 _ l' (x :: xs) rfl rfl hown' ha' (by simp only [maxLen, List.length_cons]; omega) (by simp only [List.length_cons]; omega) (by omega) ?_; intro v1 w1 hown1 hg1 hmv1) | (at_builtin; refine wpList_append_sl _ rfl (.tmp 42) (.tmp 43) _ rfl base 27 i0 _ 16 Try.underlying22 hi0 hz0 hz1 hz2 rfl (by omega) kc_len kc_one v1 _ (l' ++ x :: xs) [] rfl rfl hown1 (hb'.moved hg1 hmv1) (by simp only [maxLen, List.length_append, List.length_cons, List.length_nil]; omega) (by simp only [List.length_append, List.length_cons, List.length_nil]; omega) (by have := hg1.size; omega) ?_; intro v2 w2 hown2 hg2 hmv2))
      go_ret
      refine ⟨v2, rfl, ?_, grown_chain hg hmv (grown_chain hg1 hmv1 hg2), Moved.trans hg.size hmv (Moved.trans hg1.size hmv1 hmv2)⟩
      rw [← Hm.out, List.merge_right]
      simpa using hown2
    obtain ⟨b1, o1, c1, rfl, hc1, hm1, hlt1, hne1, hcell1⟩ := ha'.form (by simp)
    obtain ⟨b2, o2, c2, rfl, hc2, hm2, hlt2, hne2, hcell2⟩ := hb'.form (by simp)
    have x1 : wr.cell? ⟨b1, o1, none⟩ = some (.int .i64 x.1) := by simpa using hcell1 0 x rfl 0 _ rfl
    have x2 : wr.cell? ⟨b1, o1 + 1, none⟩ = some (.int .i64 x.2) := by simpa using hcell1 0 x rfl 1 _ rfl
    have y1 : wr.cell? ⟨b2, o2, none⟩ = some (.int .i64 y.1) := by simpa using hcell2 0 y rfl 0 _ rfl
    have y2 : wr.cell? ⟨b2, o2 + 1, none⟩ = some (.int .i64 y.2) := by simpa using hcell2 0 y rfl 1 _ rfl
    simp only [List.length_cons] at *
    have hl' : l'.length + (xs.length + 1) + (ys.length + 1) ≤ 1048576 := by omega
    have p1 : (1 : Int) ≤ (xs.length : Int) + 1 := by omega
    have p2 : (1 : Int) ≤ (ys.length : Int) + 1 := by omega
    have p3 : (1 : Int) ≤ ((xs.length + 1 : Nat) : Int) := by omega
    have p4 : (1 : Int) ≤ ((ys.length + 1 : Nat) : Int) := by omega
    have hwr : w.heap.size ≤ wr.heap.size := hg.size
    have Hm := Lib.hid hm
    have Hlen := Lib.hid hlen
    clear hm hlen hcell1 hcell2
    by_cases hlt : y.1 < x.1
    · go_wp2
      go_quiet (fail)
      go_wp2
      go_region_held3 (fun w' => w'.cell? ⟨b1, o1, none⟩ = some (.int .i64 x.1) ∧ w'.cell? ⟨b1, o1 + 1, none⟩ = some (.int .i64 x.2) ∧ w'.cell? ⟨b2, o2, none⟩ = some (.int .i64 y.1) ∧ w'.cell? ⟨b2, o2 + 1, none⟩ = some (.int .i64 y.2))
        (first | go_keep | exact ⟨far_cell hg1 x1 hne1, far_cell hg1 x2 hne1, far_cell hg1 y1 hne2, far_cell hg1 y2 hne2⟩)
        ((refine step_append_sl _ (by rfl) _ _ _ (by rfl) base 27 i0 _ 16 Try.underlying22 hi0 hz0 hz1 hz2 rfl (by omega) kc_len kc_one u0 _ l' [y] (by rfl) (by rfl) ((hown'.drewN _).alloc _) (Sl.one y (heap_alloc_new _ _) (P := fun _ => True) trivial) (by simp only [maxLen, List.length_cons, List.length_nil]; omega) (by simp only [List.length_cons, List.length_nil]; omega) (by simp; omega) ?_; intro v1 w1 hown1 hg1 hmv1))
      have hg' := grown_of_alloc hg1
      have hm' := moved_of_alloc hmv1
      clear hg1 hmv1 x1 x2 y1 y2 p1 p2 p3 p4
      have R := MgRel.of (l := l) (la := la) (lb := lb) (l' ++ [y]) (x :: xs) ys (by rw [← Hm.out, List.cons_merge_cons, if_neg (by unfold leK; simp only [decide_eq_true_eq]; omega)]; simp) (by have := Hlen.out; simp only [List.length_append, List.length_cons, List.length_nil]; omega)
        hown1 (ha'.moved hg' hm') ((hb'.tail (by omega)).moved hg' hm') (grown_chain hg hmv hg') (Moved.trans hg.size hmv hm')
      go_roundw
      case rel => first | exact R | ((repeat apply Exists.intro); exact ⟨R, rfl⟩)
      case measure => simp [lenV]
    · go_wp2
      go_quiet (fail)
      go_wp2
      go_region_held3 (fun w' => w'.cell? ⟨b1, o1, none⟩ = some (.int .i64 x.1) ∧ w'.cell? ⟨b1, o1 + 1, none⟩ = some (.int .i64 x.2) ∧ w'.cell? ⟨b2, o2, none⟩ = some (.int .i64 y.1) ∧ w'.cell? ⟨b2, o2 + 1, none⟩ = some (.int .i64 y.2))
        (first | go_keep | exact ⟨far_cell hg1 x1 hne1, far_cell hg1 x2 hne1, far_cell hg1 y1 hne2, far_cell hg1 y2 hne2⟩)
        ((refine step_append_sl _ (by rfl) _ _ _ (by rfl) base 27 i0 _ 16 Try.underlying22 hi0 hz0 hz1 hz2 rfl (by omega) kc_len kc_one u0 _ l' [x] (by rfl) (by rfl) ((hown'.drewN _).alloc _) (Sl.one x (heap_alloc_new _ _) (P := fun _ => True) trivial) (by simp only [maxLen, List.length_cons, List.length_nil]; omega) (by simp only [List.length_cons, List.length_nil]; omega) (by simp; omega) ?_; intro v1 w1 hown1 hg1 hmv1))
      have hg' := grown_of_alloc hg1
      have hm' := moved_of_alloc hmv1
      clear hg1 hmv1 x1 x2 y1 y2 p1 p2 p3 p4
      have R := MgRel.of (l := l) (la := la) (lb := lb) (l' ++ [x]) xs (y :: ys) (by rw [← Hm.out, List.cons_merge_cons, if_pos (by unfold leK; simp only [decide_eq_true_eq]; omega)]; simp) (by have := Hlen.out; simp only [List.length_append, List.length_cons, List.length_nil]; omega)
        hown1 ((ha'.tail (by omega)).moved hg' hm') (hb'.moved hg' hm') (grown_chain hg hmv hg') (Moved.trans hg.size hmv hm')
      go_roundw
      case rel => first | exact R | ((repeat apply Exists.intro); exact ⟨R, rfl⟩)
      case measure => simp [lenV]

end Go.Proofs.Ytjlnbeeffdallaa
