/- The walk of timetableref02.Sorted. -/
import Derived.Test.YtjlnbeeffdallaaRm
namespace Go.Proofs.Ytjlnbeeffdallaa
open Go.RowKit

theorem merge_one {cur : List (Int × Int)} {x : Int × Int} : ∀ {k : Nat}, (∀ j (_ : j < cur.length), j < k → cur[j].1 ≤ x.1) → (∀ j (_ : j < cur.length), k ≤ j → x.1 < cur[j].1) → cur.merge [x] leK = cur.take k ++ x :: cur.drop k := by
  induction cur with
  | nil => intro k _ _; simp
  | cons y ys ih =>
    intro k h1 h2
    rw [List.cons_merge_cons]
    match k with
    | 0 =>
      have := h2 0 (by simp) (Nat.le_refl _)
      rw [if_neg (by rw [leK_not]; exact this)]
      simp
    | k + 1 =>
      have := h1 0 (by simp) (by omega)
      rw [if_pos (by rw [leK_iff]; exact this), ih (k := k) (fun j hj hk => h1 (j + 1) (by simp; omega) (by omega)) (fun j hj hk => h2 (j + 1) (by simp; omega) (by omega))]
      simp
theorem up_le {l : List (Int × Int)} (h : Ms.Up l) {i j : Nat} (hij : i ≤ j) (hj : j < l.length) : (l[i]'(by omega)).1 ≤ l[j].1 := by
  induction l generalizing i j with
  | nil => simp at hj
  | cons a r ih =>
    match i, j with
    | 0, 0 => exact Int.le_refl _
    | 0, j + 1 => exact h.le _ (List.getElem_mem _)
    | i + 1, j + 1 => exact ih h.tail (by omega) (by simpa using hj)
/-- The loop's state. -/
def RSRel (l : List (Int × Int)) (w : World) (s3 s4 : Value) (wr : World) : Prop :=
  ∃ i : Nat, s4 = .int .i64 i ∧ i ≤ l.length ∧ Ow kc 2 wr w.heap.size 27 s3 (Ms.srt (l.take i)) ∧ Below w.heap.size w wr

/-- s[k:] of a slice whose place is known. -/
theorem Sl.from_ {α : Type} {c : α → List Value} {size : Nat} {w : World} {b o cap k : Nat} {l : List α} {P : Nat → Prop} (h : Sl c size w (.slice (some ⟨b, o, none⟩) l.length cap) l P) (hk : k ≤ l.length) :
    Sl c size w (.slice (if cap = k then some ⟨b, o, none⟩ else some ⟨b, o + k * size, none⟩) (l.length - k) (cap - k)) (l.drop k) P := by
  obtain ⟨A, cap', e, h1, h2⟩ := h.shape
  injection e with e1 e2 e3
  subst e3
  have := Sl.part (i := k) (j := l.length) (A' := if cap = k then some ⟨b, o, none⟩ else some ⟨b, o + k * size, none⟩) (cap' := cap - k) h hk (Nat.le_refl _)
    (fun hlt => by rw [if_neg (by omega)]; simp [Addr.add]) (by omega) (Nat.le_trans (Nat.sub_le _ _) h2)
  rwa [List.take_length] at this
theorem Sl.newEq {α : Type} {c : α → List Value} {size : Nat} {w : World} {H : Nat} {t : TypeId} (x : α) (hH : w.heap.size = H) : Sl c size (w.alloc (.cells (c x).toArray t)) (.slice (some ⟨H, 0, none⟩) 1 1) [x] (fun b => b = H) := by
  subst hH
  exact Sl.one x (heap_alloc_new _ _) rfl
/-- At the end of a round: out[:k], x, out[k:] stand behind one another in a row of the round's own. -/
theorem RSRel.next {l lo : List (Int × Int)} {w wr w3 : World} {v3 : Value} {i : Nat} (hi : i < l.length) (hbel : Below w.heap.size w wr) (hb3 : Below wr.heap.size wr w3) (h3 : Ow kc 2 w3 wr.heap.size 27 v3 lo) (HS : Hid (Ms.srt (l.take (i + 1)) = lo)) :
    RSRel l w v3 (.int .i64 ((i : Int) + 1)) w3 :=
  ⟨i + 1, by go_num, hi, by rw [HS.out]; exact h3.lower hbel.size, hbel.trans (hb3.mono hbel.size)⟩

set_option maxHeartbeats 2000000 in
theorem rsorted_any (vl : Value) (l : List (Int × Int)) (w : World) {P : Nat → Prop} (hl : Sl kc 2 w vl l P) (hsz : l.length ≤ 524288) :
    Calls Try.prog 22 #[vl] w (Made kc 2 27 (Ms.srt l) w) := by
  obtain ⟨i0, hi0, hz0, hz1, hz2⟩ := info_parts info_Key
  obtain ⟨A, ca, rfl, ha1, ha2⟩ := hl.shape
  go_enter Try.func22, Try.ntmps22
  go_wp2
  go_loopw [3, 4, 5] (fun s3 s4 _ wr => RSRel l w s3 s4 wr) (fun _ s4 _ _ => l.length - (intOf s4).toNat)
  case atStart => exact ⟨0, rfl, Nat.zero_le _, Ow.nil_, Below.refl _ _⟩
  case round =>
    obtain ⟨i, rfl, hi, hown, hbel⟩ := hrel
    by_cases hlt : i < l.length
    · have hcl : (Ms.srt (l.take i)).length = i := by rw [Ms.srt_length, List.length_take]; omega
      have hup := Lib.hid (Ms.srt_up (l.take i))
      have Hcl := Lib.hid hcl
      generalize hcur : Ms.srt (l.take i) = cur at *
      obtain ⟨A3, c3, rfl, hf1, hf2⟩ := hown.shape
      obtain ⟨b1, o1, c1, e1, _, _, hl1, _, hx⟩ := (hl.below_ hbel).at_ hlt
      injection e1 with e1 e1' e1''
      subst e1
      obtain ⟨x, Hx⟩ : ∃ x, Hid (l[i] = x) := ⟨_, Lib.hid rfl⟩
      rw [Hx.out] at hx
      have x1 : wr.cell? ⟨b1, o1 + i * 2, none⟩ = some (.int .i64 x.1) := by simpa using hx 0 _ rfl
      have x2 : wr.cell? ⟨b1, o1 + i * 2 + 1, none⟩ = some (.int .i64 x.2) := by simpa using hx 1 _ rfl
      have p1 : (0 : Int) ≤ (i : Int) := by omega
      have p2 : (i : Int) < (l.length : Int) := by omega
      have hil : i ≤ cur.length := by omega
      have hil2 : cur.length ≤ i := by omega
      have HS := Lib.hid (show Ms.srt (l.take (i + 1)) = cur.merge [x] leK by rw [take_succ_eq l i hlt, Hx.out, Ms.srt_snoc, hcur])
      clear hx e1' e1'' hcur hcl
      obtain ⟨wr0, rfl⟩ : ∃ wr0 : World, wr0 = wr := ⟨_, rfl⟩
      go_wp2_with fail
      go_loopw [5] (fun s5 wx => ∃ k n : Nat, k ≤ cur.length ∧ s5 = .int .i64 k ∧ Hid (∀ j (_ : j < cur.length), k ≤ j → x.1 < cur[j].1) ∧ wx = wr0.drewN n) (fun s5 _ => (intOf s5).toNat)
      case atStart => exact ⟨cur.length, 0, by omega, rfl, Lib.hid (fun j hj hk => absurd hk (by omega)), rfl⟩
      case round =>
        obtain ⟨k, n, hk, rfl, hab, rfl⟩ := hrel
        by_cases hk0 : k = 0
        · subst hk0
          go_wp2
          go_quiet (fail)
          have HLE := Lib.hid (show ∀ j (_ : j < cur.length), j < 0 → cur[j].1 ≤ x.1 from fun j hj h => absurd h (by omega))
          have HAB := hab
          have hM := merge_one (cur := cur) (x := x) HLE.out HAB.out
          have HS' := Lib.hid (HS.out.trans hM)
          have s3 : (cur.length : Int) ≤ (c3 : Int) := by omega
          have s4 : (0 : Int) ≤ (c3 : Int) := by omega
          have s5 : (0 : Int) ≤ (cur.length : Int) := by omega
          have t1 : (cur.take 0).length = 0 := rfl
          have t2 : (cur.take 0 ++ [x]).length = 0 + 1 := rfl
          have t3 : (cur.drop 0).length = cur.length - 0 := List.length_drop
          have T1 := Lib.hid t1
          have T2 := Lib.hid t2
          have T3 := Lib.hid t3
          have HB := Lib.hid ((Ow.begin kc_len hown (Nat.zero_le _)).sl kc_len)
          have HD := Lib.hid (show Sl kc 2 wr0 (.slice A3 cur.length c3) (cur.drop 0) _ from hown.sl kc_len)
          clear hM t1 t2 t3
          go_wp2_with fail
          go_region_held3 (fun w' => w'.cell? ⟨b1, o1 + i * 2, none⟩ = some (.int .i64 x.1) ∧ w'.cell? ⟨b1, o1 + i * 2 + 1, none⟩ = some (.int .i64 x.2))
            (first | go_keep | exact ⟨(hb1.cell (p := ⟨b1, o1 + i * 2, none⟩) hl1).trans x1, (hb1.cell (p := ⟨b1, o1 + i * 2 + 1, none⟩) hl1).trans x2⟩ | exact ⟨(hb3.cell (p := ⟨b1, o1 + i * 2, none⟩) hl1).trans x1, (hb3.cell (p := ⟨b1, o1 + i * 2 + 1, none⟩) hl1).trans x2⟩ | exact ⟨(hb2.cell (p := ⟨b1, o1 + i * 2, none⟩) hl1).trans x1, (hb2.cell (p := ⟨b1, o1 + i * 2 + 1, none⟩) hl1).trans x2⟩)
            (first
            | ((refine step_append_sl (o := ⟨some 36, _, _, _, _, _⟩) ((wr0.drewN _).alloc (.cells #[] _)) (by rfl) (.tmp 32) (.tmp 35) _ (by rfl) wr0.heap.size 27 i0 _ 16 Try.underlying22 hi0 hz0 hz1 hz2 rfl (by omega) kc_len kc_one (.slice (some ⟨wr0.heap.size, 0, none⟩) 0 0) _ [] (cur.take 0) (by rfl) (by rfl) (Ow.empty (Nat.le_refl _)) ((HB.out.drewN _).alloc _) (by simp only [maxLen, List.length_nil]; rw [T1.out]; omega) (by simp only [List.length_nil]; rw [T1.out]; omega) (by simp <;> omega) ?_; intro v1 w1 hown1 hg1 hmv1; have hb1 : Below wr0.heap.size wr0 w1 := ((below_drewN (Below.refl wr0.heap.size wr0) _).alloc (Nat.le_refl _) _).grown hg1 (by simp <;> omega) (fun k hk => by have hk' : wr0.heap.size = k := (by simpa [Value.ownBlock] using hk); omega)))
            | ((refine step_append_sl (o := ⟨some 36, _, _, _, _, _⟩) (((wr0.drewN _).alloc (.cells #[] _)).alloc (.cells #[.int .i64 x.1, .int .i64 x.2] _)) (by rfl) (.tmp 32) (.tmp 35) _ (by rfl) wr0.heap.size 27 i0 _ 16 Try.underlying22 hi0 hz0 hz1 hz2 rfl (by omega) kc_len kc_one (.slice (some ⟨wr0.heap.size, 0, none⟩) 0 0) _ [] (cur.take 0) (by rfl) (by rfl) ((Ow.empty (Nat.le_refl _)).alloc _) (((HB.out.drewN _).alloc _).alloc _) (by simp only [maxLen, List.length_nil]; rw [T1.out]; omega) (by simp only [List.length_nil]; rw [T1.out]; omega) (by simp <;> omega) ?_; intro v1 w1 hown1 hg1 hmv1; have hb1 : Below wr0.heap.size wr0 w1 := (((below_drewN (Below.refl wr0.heap.size wr0) _).alloc (Nat.le_refl _) _).alloc (by simp) _).grown hg1 (by simp <;> omega) (fun k hk => by have hk' : wr0.heap.size = k := (by simpa [Value.ownBlock] using hk); omega); have hx1 : Sl kc 2 w1 _ [x] _ := (Sl.newEq x (H := wr0.heap.size + 1) (by simp)).grown hg1 (fun b hb => by subst hb; simp [Value.ownBlock])))
            | ((refine step_append_sl (o := ⟨some 36, _, _, _, _, _⟩) (((wr0.drewN _).alloc (.cells #[.int .i64 x.1, .int .i64 x.2] _)).alloc (.cells #[] _)) (by rfl) (.tmp 32) (.tmp 35) _ (by rfl) wr0.heap.size 27 i0 _ 16 Try.underlying22 hi0 hz0 hz1 hz2 rfl (by omega) kc_len kc_one (.slice (some ⟨wr0.heap.size + 1, 0, none⟩) 0 0) _ [] (cur.take 0) (by rfl) (by rfl) (Ow.empty' (by simp) (Nat.le_succ _)) (((HB.out.drewN _).alloc _).alloc _) (by simp only [maxLen, List.length_nil]; rw [T1.out]; omega) (by simp only [List.length_nil]; rw [T1.out]; omega) (by simp <;> omega) ?_; intro v1 w1 hown1 hg1 hmv1; have hb1 : Below wr0.heap.size wr0 w1 := (((below_drewN (Below.refl wr0.heap.size wr0) _).alloc (Nat.le_refl _) _).alloc (by simp) _).grown hg1 (by simp <;> omega) (fun k hk => by have hk' : wr0.heap.size + 1 = k := (by simpa [Value.ownBlock] using hk); omega); have hx1 : Sl kc 2 w1 _ [x] _ := ((Sl.newEq x rfl).alloc _).grown hg1 (fun b hb => by subst hb; simp [Value.ownBlock])))
            | ((refine step_append_sl (o := ⟨some 42, _, _, _, _, _⟩) (w1.alloc _) (by rfl) (.tmp 36) (.tmp 41) _ (by rfl) wr0.heap.size 27 i0 _ 16 Try.underlying22 hi0 hz0 hz1 hz2 rfl (by omega) kc_len kc_one v1 _ (cur.take 0) [x] (by rfl) (by rfl) (hown1.alloc _) (Sl.new1 x rfl) (by rw [T1.out]; simp only [maxLen, List.length_cons, List.length_nil]; omega) (by rw [T1.out]; simp only [List.length_cons, List.length_nil]; omega) (by have := hb1.size; first | omega | (simp <;> omega)) ?_; intro v2 w2 hown2 hg2 hmv2; have hb2 : Below wr0.heap.size wr0 w2 := (hb1.alloc hb1.size _).grown hg2 (by have := hb1.size; first | omega | (simp <;> omega)) (fun k hk => (hown1.lt hk).1)))
            | ((refine step_append_sl (o := ⟨some 42, _, _, _, _, _⟩) w1 (by rfl) (.tmp 36) (.tmp 41) _ (by rfl) wr0.heap.size 27 i0 _ 16 Try.underlying22 hi0 hz0 hz1 hz2 rfl (by omega) kc_len kc_one v1 _ (cur.take 0) [x] (by rfl) (by rfl) (hown1) (hx1) (by rw [T1.out]; simp only [maxLen, List.length_cons, List.length_nil]; omega) (by rw [T1.out]; simp only [List.length_cons, List.length_nil]; omega) (by have := hb1.size; first | omega | (simp <;> omega)) ?_; intro v2 w2 hown2 hg2 hmv2; have hb2 : Below wr0.heap.size wr0 w2 := (hb1).grown hg2 (by have := hb1.size; first | omega | (simp <;> omega)) (fun k hk => (hown1.lt hk).1)))
            | ((refine step_append_sl (o := ⟨some 46, _, _, _, _, _⟩) w2 (by rfl) (.tmp 42) (.tmp 45) _ (by rfl) wr0.heap.size 27 i0 _ 16 Try.underlying22 hi0 hz0 hz1 hz2 rfl (by omega) kc_len kc_one v2 _ (cur.take 0 ++ [x]) (cur.drop 0) (by rfl) (by rfl) (hown2) (HD.out.below_ hb2) (by rw [T2.out, T3.out]; simp only [maxLen]; omega) (by rw [T2.out, T3.out]; omega) (by have := hb2.size; first | omega | (simp <;> omega)) ?_; intro v3 w3 hown3 hg3 hmv3; have hb3 : Below wr0.heap.size wr0 w3 := (hb2).grown hg3 (by have := hb2.size; first | omega | (simp <;> omega)) (fun k hk => (hown2.lt hk).1))))
          all_goals
            go_wp2_with fail
            have R : RSRel l w v3 (.int .i64 ((i : Int) + 1)) w3 := RSRel.next hlt hbel hb3 (by simpa using hown3) HS'
            go_roundw
            case rel => first | exact R | ((repeat apply Exists.intro); exact ⟨R, rfl⟩)
            case measure => simp [intOf]; omega
        · obtain ⟨b3, o3, c3', e, _, _, hl3, _, hy⟩ := (hown.sl kc_len).at_ (i := k - 1) (by omega)
          injection e with e e' e''
          subst e
          obtain ⟨y, Hy⟩ : ∃ y, Hid (cur[k - 1]'(by omega) = y) := ⟨_, Lib.hid rfl⟩
          rw [Hy.out] at hy
          have y1 : wr0.cell? ⟨b3, o3 + (k - 1) * 2, none⟩ = some (.int .i64 y.1) := by simpa using hy 0 _ rfl
          have r1 : (0 : Int) < (k : Int) := by omega
          have r0 : decide (0 < k) = true := decide_eq_true (by omega)
          have r3 : ((k : Int) - 1).toNat = k - 1 := by omega
          have r4 : IntKind.i64.wrap ((k : Int) - 1) = (k : Int) - 1 := IntWalk.i64_in _ (by omega)
          have r5 : (0 : Int) ≤ (k : Int) - 1 := by omega
          have r6 : (k : Int) - 1 < (cur.length : Int) := by omega
          have r7 : k - 1 < cur.length := by omega
          clear hy e' e''
          by_cases hg : x.1 < y.1
          · have hd : decide (x.1 < y.1) = true := decide_eq_true hg
            have HAB := Lib.hid (show ∀ j (_ : j < cur.length), k - 1 ≤ j → x.1 < cur[j].1 from fun j hj h => by
              by_cases he : j = k - 1
              · subst he; rw [Hy.out]; exact hg
              · exact hab.out j hj (by omega))
            go_wp2
            go_quiet (fail)
            go_wp2_with fail
            go_roundw
            case rel => exact ⟨k - 1, _, by omega, by go_num, HAB, rfl⟩
            case measure => simp [intOf]; omega
          · have hd : decide (x.1 < y.1) = false := decide_eq_false hg
            have HLE := Lib.hid (show ∀ j (_ : j < cur.length), j < k → cur[j].1 ≤ x.1 from fun j hj h => by
              have := up_le hup.out (show j ≤ k - 1 by omega) r7
              rw [Hy.out] at this
              omega)
            have HAB := hab
            go_wp2
            go_quiet (fail)
            have HD := Lib.hid (Sl.from_ (hown.sl kc_len) hk)
            have hM := merge_one (cur := cur) (x := x) HLE.out HAB.out
            have HS' := Lib.hid (HS.out.trans hM)
            have s2 : (k : Int) ≤ (cur.length : Int) := by omega
            have s3 : (cur.length : Int) ≤ (c3 : Int) := by omega
            have s4 : (k : Int) ≤ (c3 : Int) := by omega
            have s5 : (0 : Int) ≤ (k : Int) := by omega
            have t1 : (cur.take k).length = k := by rw [List.length_take]; omega
            have t2 : (cur.take k ++ [x]).length = k + 1 := by rw [List.length_append, t1]; rfl
            have t3 : (cur.drop k).length = cur.length - k := List.length_drop
            have T1 := Lib.hid t1
            have T2 := Lib.hid t2
            have T3 := Lib.hid t3
            have HB := Lib.hid ((Ow.begin kc_len hown hk).sl kc_len)
            clear hM t1 t2 t3
            go_wp2_with fail
            go_region_held3 (fun w' => w'.cell? ⟨b1, o1 + i * 2, none⟩ = some (.int .i64 x.1) ∧ w'.cell? ⟨b1, o1 + i * 2 + 1, none⟩ = some (.int .i64 x.2))
              (first | go_keep | exact ⟨(hb1.cell (p := ⟨b1, o1 + i * 2, none⟩) hl1).trans x1, (hb1.cell (p := ⟨b1, o1 + i * 2 + 1, none⟩) hl1).trans x2⟩ | exact ⟨(hb3.cell (p := ⟨b1, o1 + i * 2, none⟩) hl1).trans x1, (hb3.cell (p := ⟨b1, o1 + i * 2 + 1, none⟩) hl1).trans x2⟩ | exact ⟨(hb2.cell (p := ⟨b1, o1 + i * 2, none⟩) hl1).trans x1, (hb2.cell (p := ⟨b1, o1 + i * 2 + 1, none⟩) hl1).trans x2⟩)
              (first
              | ((refine step_append_sl (o := ⟨some 36, _, _, _, _, _⟩) ((wr0.drewN _).alloc (.cells #[] _)) (by rfl) (.tmp 32) (.tmp 35) _ (by rfl) wr0.heap.size 27 i0 _ 16 Try.underlying22 hi0 hz0 hz1 hz2 rfl (by omega) kc_len kc_one (.slice (some ⟨wr0.heap.size, 0, none⟩) 0 0) _ [] (cur.take k) (by rfl) (by rfl) (Ow.empty (Nat.le_refl _)) ((HB.out.drewN _).alloc _) (by simp only [maxLen, List.length_nil]; rw [T1.out]; omega) (by simp only [List.length_nil]; rw [T1.out]; omega) (by simp <;> omega) ?_; intro v1 w1 hown1 hg1 hmv1; have hb1 : Below wr0.heap.size wr0 w1 := ((below_drewN (Below.refl wr0.heap.size wr0) _).alloc (Nat.le_refl _) _).grown hg1 (by simp <;> omega) (fun k hk => by have hk' : wr0.heap.size = k := (by simpa [Value.ownBlock] using hk); omega)))
              | ((refine step_append_sl (o := ⟨some 36, _, _, _, _, _⟩) (((wr0.drewN _).alloc (.cells #[] _)).alloc (.cells #[.int .i64 x.1, .int .i64 x.2] _)) (by rfl) (.tmp 32) (.tmp 35) _ (by rfl) wr0.heap.size 27 i0 _ 16 Try.underlying22 hi0 hz0 hz1 hz2 rfl (by omega) kc_len kc_one (.slice (some ⟨wr0.heap.size, 0, none⟩) 0 0) _ [] (cur.take k) (by rfl) (by rfl) ((Ow.empty (Nat.le_refl _)).alloc _) (((HB.out.drewN _).alloc _).alloc _) (by simp only [maxLen, List.length_nil]; rw [T1.out]; omega) (by simp only [List.length_nil]; rw [T1.out]; omega) (by simp <;> omega) ?_; intro v1 w1 hown1 hg1 hmv1; have hb1 : Below wr0.heap.size wr0 w1 := (((below_drewN (Below.refl wr0.heap.size wr0) _).alloc (Nat.le_refl _) _).alloc (by simp) _).grown hg1 (by simp <;> omega) (fun k hk => by have hk' : wr0.heap.size = k := (by simpa [Value.ownBlock] using hk); omega); have hx1 : Sl kc 2 w1 _ [x] _ := (Sl.newEq x (H := wr0.heap.size + 1) (by simp)).grown hg1 (fun b hb => by subst hb; simp [Value.ownBlock])))
              | ((refine step_append_sl (o := ⟨some 36, _, _, _, _, _⟩) (((wr0.drewN _).alloc (.cells #[.int .i64 x.1, .int .i64 x.2] _)).alloc (.cells #[] _)) (by rfl) (.tmp 32) (.tmp 35) _ (by rfl) wr0.heap.size 27 i0 _ 16 Try.underlying22 hi0 hz0 hz1 hz2 rfl (by omega) kc_len kc_one (.slice (some ⟨wr0.heap.size + 1, 0, none⟩) 0 0) _ [] (cur.take k) (by rfl) (by rfl) (Ow.empty' (by simp) (Nat.le_succ _)) (((HB.out.drewN _).alloc _).alloc _) (by simp only [maxLen, List.length_nil]; rw [T1.out]; omega) (by simp only [List.length_nil]; rw [T1.out]; omega) (by simp <;> omega) ?_; intro v1 w1 hown1 hg1 hmv1; have hb1 : Below wr0.heap.size wr0 w1 := (((below_drewN (Below.refl wr0.heap.size wr0) _).alloc (Nat.le_refl _) _).alloc (by simp) _).grown hg1 (by simp <;> omega) (fun k hk => by have hk' : wr0.heap.size + 1 = k := (by simpa [Value.ownBlock] using hk); omega); have hx1 : Sl kc 2 w1 _ [x] _ := ((Sl.newEq x rfl).alloc _).grown hg1 (fun b hb => by subst hb; simp [Value.ownBlock])))
              | ((refine step_append_sl (o := ⟨some 42, _, _, _, _, _⟩) (w1.alloc _) (by rfl) (.tmp 36) (.tmp 41) _ (by rfl) wr0.heap.size 27 i0 _ 16 Try.underlying22 hi0 hz0 hz1 hz2 rfl (by omega) kc_len kc_one v1 _ (cur.take k) [x] (by rfl) (by rfl) (hown1.alloc _) (Sl.new1 x rfl) (by rw [T1.out]; simp only [maxLen, List.length_cons, List.length_nil]; omega) (by rw [T1.out]; simp only [List.length_cons, List.length_nil]; omega) (by have := hb1.size; first | omega | (simp <;> omega)) ?_; intro v2 w2 hown2 hg2 hmv2; have hb2 : Below wr0.heap.size wr0 w2 := (hb1.alloc hb1.size _).grown hg2 (by have := hb1.size; first | omega | (simp <;> omega)) (fun k hk => (hown1.lt hk).1)))
              | ((refine step_append_sl (o := ⟨some 42, _, _, _, _, _⟩) w1 (by rfl) (.tmp 36) (.tmp 41) _ (by rfl) wr0.heap.size 27 i0 _ 16 Try.underlying22 hi0 hz0 hz1 hz2 rfl (by omega) kc_len kc_one v1 _ (cur.take k) [x] (by rfl) (by rfl) (hown1) (hx1) (by rw [T1.out]; simp only [maxLen, List.length_cons, List.length_nil]; omega) (by rw [T1.out]; simp only [List.length_cons, List.length_nil]; omega) (by have := hb1.size; first | omega | (simp <;> omega)) ?_; intro v2 w2 hown2 hg2 hmv2; have hb2 : Below wr0.heap.size wr0 w2 := (hb1).grown hg2 (by have := hb1.size; first | omega | (simp <;> omega)) (fun k hk => (hown1.lt hk).1)))
              | ((refine step_append_sl (o := ⟨some 46, _, _, _, _, _⟩) w2 (by rfl) (.tmp 42) (.tmp 45) _ (by rfl) wr0.heap.size 27 i0 _ 16 Try.underlying22 hi0 hz0 hz1 hz2 rfl (by omega) kc_len kc_one v2 _ (cur.take k ++ [x]) (cur.drop k) (by rfl) (by rfl) (hown2) (HD.out.below_ hb2) (by rw [T2.out, T3.out]; simp only [maxLen]; omega) (by rw [T2.out, T3.out]; omega) (by have := hb2.size; first | omega | (simp <;> omega)) ?_; intro v3 w3 hown3 hg3 hmv3; have hb3 : Below wr0.heap.size wr0 w3 := (hb2).grown hg3 (by have := hb2.size; first | omega | (simp <;> omega)) (fun k hk => (hown2.lt hk).1))))
            all_goals
              go_wp2_with fail
              have R : RSRel l w v3 (.int .i64 ((i : Int) + 1)) w3 := RSRel.next hlt hbel hb3 (by simpa using hown3) HS'
              go_roundw
              case rel => first | exact R | ((repeat apply Exists.intro); exact ⟨R, rfl⟩)
              case measure => simp [intOf]; omega
    · have hE : i = l.length := by omega
      subst hE
      rw [List.take_of_length_le (Nat.le_refl _)] at hown
      go_wp2
      go_ret
      exact ⟨_, rfl, hown, hbel⟩
end Go.Proofs.Ytjlnbeeffdallaa
