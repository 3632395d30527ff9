/- The walk of timetableref07's Sorted. -/
import Derived.Test.YtkagfddkfpeddaaDoorIs
namespace Go.Proofs.YtkagfddkfpeddaaDoor
open Go.RowKit Go.Maps It

namespace It
theorem srt_eq {l l' : Nms} (hs : l'.Pairwise (fun a b => leB a b = true)) (hp : l.Perm l') : srt l = l' := by
  have tr : ∀ a b c : List UInt8, leB a b = true → leB b c = true → leB a c = true := fun a b c h1 h2 => by simp only [leB, decide_eq_true_eq] at *; exact List.le_trans h1 h2
  have tt : ∀ a b : List UInt8, (leB a b || leB b a) = true := fun a b => by simp only [leB, Bool.or_eq_true, decide_eq_true_eq]; exact List.le_total a b
  refine List.Perm.eq_of_pairwise (le := fun a b => leB a b = true) (fun a b _ _ h1 h2 => ?_) (List.pairwise_mergeSort tr tt l) hs ((List.mergeSort_perm l leB).trans hp)
  simp only [leB, decide_eq_true_eq] at h1 h2
  exact List.le_antisymm h1 h2
theorem srt_up (l : Nms) : (srt l).Pairwise (fun a b => leB a b = true) := by
  have tr : ∀ a b c : List UInt8, leB a b = true → leB b c = true → leB a c = true := fun a b c h1 h2 => by simp only [leB, decide_eq_true_eq] at *; exact List.le_trans h1 h2
  have tt : ∀ a b : List UInt8, (leB a b || leB b a) = true := fun a b => by simp only [leB, Bool.or_eq_true, decide_eq_true_eq]; exact List.le_total a b
  exact List.pairwise_mergeSort tr tt l
/-- Put in at its place. -/
theorem ins_sorted {cur : Nms} {x : List UInt8} {k : Nat} (hs : cur.Pairwise (fun a b => leB a b = true)) (h1 : ∀ j (_ : j < cur.length), j < k → cur[j] ≤ x) (h2 : ∀ j (_ : j < cur.length), k ≤ j → x < cur[j]) :
    srt (cur ++ [x]) = cur.take k ++ x :: cur.drop k := by
  refine srt_eq ?_ ?_
  · rw [List.pairwise_append]
    refine ⟨hs.sublist (List.take_sublist _ _), List.pairwise_cons.2 ⟨fun y hy => ?_, hs.sublist (List.drop_sublist _ _)⟩, fun a ha b hb => ?_⟩
    · obtain ⟨j, hj, rfl⟩ := List.getElem_of_mem hy
      rw [List.getElem_drop]
      rw [List.length_drop] at hj
      simp only [leB, decide_eq_true_eq]
      exact List.le_of_lt (h2 (k + j) (by omega) (by omega))
    · have hax : a ≤ x := by
        obtain ⟨j, hj, rfl⟩ := List.getElem_of_mem ha
        rw [List.length_take] at hj
        rw [List.getElem_take]
        exact h1 j (by omega) (by omega)
      simp only [leB, decide_eq_true_eq]
      rcases List.mem_cons.1 hb with rfl | hb
      · exact hax
      · obtain ⟨j, hj, rfl⟩ := List.getElem_of_mem hb
        rw [List.length_drop] at hj
        rw [List.getElem_drop]
        exact List.le_trans hax (List.le_of_lt (h2 (k + j) (by omega) (by omega)))
  · have h3 : cur.Perm (cur.take k ++ cur.drop k) := by rw [List.take_append_drop]
    exact ((h3.append_right [x]).trans (by rw [List.append_assoc]; exact (List.perm_append_comm (l₁ := cur.drop k) (l₂ := [x])).append_left _))
theorem srt_snoc (l : Nms) (x : List UInt8) : srt (l ++ [x]) = srt (srt l ++ [x]) := srt_perm ((List.mergeSort_perm l leB).symm.append_right [x])
theorem up_le {l : Nms} (h : l.Pairwise (fun a b => leB a b = true)) {i j : Nat} (hij : i ≤ j) (hj : j < l.length) : l[i]'(by omega) ≤ l[j] := by
  rcases Nat.lt_or_ge i j with hlt | hge
  · have := List.pairwise_iff_getElem.1 h i j (by omega) hj hlt
    simpa only [leB, decide_eq_true_eq] using this
  · have : i = j := by omega
    subst this
    exact List.le_refl _
end It
/-- The loop's state. -/
def RSRel (l : Nms) (w : World) (s3 s4 : Value) (wr : World) : Prop :=
  ∃ i : Nat, s4 = .int .i64 i ∧ i ≤ l.length ∧ Ow nc 1 wr w.heap.size 9 s3 (srt (l.take i)) ∧ Below w.heap.size w wr
theorem RSRel.drewN {l : Nms} {w : World} {s3 s4 : Value} {wr : World} (h : RSRel l w s3 s4 wr) (n : Nat) : RSRel l w s3 s4 (wr.drewN n) := by
  obtain ⟨i, h1, h2, h3, h4⟩ := h
  exact ⟨i, h1, h2, h3.drewN n, below_drewN h4 n⟩
/-- s[k:] of a slice whose place is known. -/
theorem Sl.from_ {α : Type} {c : α → List Value} {size : Nat} {w : World} {b o cap k : Nat} {l : List α} {P : Nat → Prop} (h : Sl c size w (.slice (some ⟨b, o, none⟩) l.length cap) l P) (hk : k ≤ l.length) :
    Sl c size w (.slice (if cap = k then some ⟨b, o, none⟩ else some ⟨b, o + k * size, none⟩) (l.length - k) (cap - k)) (l.drop k) P := by
  obtain ⟨A, cap', e, h1, h2⟩ := h.shape
  injection e with e1 e2 e3
  subst e3
  have := Sl.part (i := k) (j := l.length) (A' := if cap = k then some ⟨b, o, none⟩ else some ⟨b, o + k * size, none⟩) (cap' := cap - k) h hk (Nat.le_refl _)
    (fun hlt => by rw [if_neg (by omega)]; simp [Addr.add]) (by omega) (Nat.le_trans (Nat.sub_le _ _) h2)
  rwa [List.take_length] at this
theorem Sl.newEq {α : Type} {c : α → List Value} {size : Nat} {w : World} {H : Nat} {t : TypeId} (x : α) (hH : w.heap.size = H) : Sl c size (w.alloc (.cells (c x).toArray t)) (.slice (some ⟨H, 0, none⟩) 1 1) [x] (fun b => b = H) := by
  subst hH
  exact Sl.one x (heap_alloc_new _ _) rfl
theorem RSRel.next {l lo : Nms} {w wr w3 : World} {v3 : Value} {i : Nat} (hi : i < l.length) (hbel : Below w.heap.size w wr) (hb3 : Below wr.heap.size wr w3) (h3 : Ow nc 1 w3 wr.heap.size 9 v3 lo) (HS : Hid (srt (l.take (i + 1)) = lo)) :
    RSRel l w v3 (.int .i64 ((i : Int) + 1)) w3 :=
  ⟨i + 1, by go_num, hi, by rw [HS.out]; exact h3.lower hbel.size, hbel.trans (hb3.mono hbel.size)⟩
set_option maxRecDepth 100000 in
set_option maxHeartbeats 4000000 in
theorem rsorted_any (w : World) (B p : Nat) (v : Value) (l : Nms) (h : RTb w B p v l) :
    Calls Tryd.prog 27 #[.pointer (some ⟨p, 0, none⟩)] w (Made nc 1 9 (srt l) w) := by
  obtain ⟨i0, hi0, hz0, hz1, hz2⟩ := info_parts info_string
  have hsz := h.ok.le
  have HH := Lib.hid h
  have Hl := Lib.hid (h.row.sl nc_len)
  obtain ⟨A, ca, rfl, ha1, ha2, c0, _⟩ := h.open_
  have HC0 := Lib.hid c0
  clear c0 h
  have hcp0 := HC0.out
  go_enter Tryd.func27, Tryd.ntmps27
  go_wp2_with fail
  clear hcp0
  go_loopw [3, 4, 5] (fun s3 s4 _ wr => RSRel l w s3 s4 wr) (fun _ s4 _ _ => l.length - (intOf s4).toNat)
  case atStart => exact ⟨0, rfl, Nat.zero_le _, by rw [List.take_zero, show srt [] = [] from by simp [srt]]; exact Ow.nil_, Below.refl _ _⟩
  case round =>
    obtain ⟨i, rfl, hi, hown, hbel⟩ := hrel
    have hcp : wr.cell? ⟨p, 0, none⟩ = some (.slice A l.length ca) := (hbel.cell (p := ⟨p, 0, none⟩) HH.out.lt).trans HC0.out
    have Hplt := Lib.hid (Nat.lt_of_lt_of_le HH.out.lt hbel.size)
    by_cases hlt : i < l.length
    · have hcl : (srt (l.take i)).length = i := by rw [srt_len, List.length_take]; omega
      have hup := srt_up (l.take i)
      obtain ⟨b1, o1, rfl⟩ := Hl.out.addr hlt
      have hcx := (Hl.out.below_ hbel).name hlt
      have hsn := srt_snoc (l.take i) l[i]
      rw [← List.take_succ_eq_append_getElem hlt] at hsn
      generalize l[i] = x at *
      generalize hcur : srt (l.take i) = cur at *
      obtain ⟨A3, c3, rfl, hf1, hf2⟩ := hown.shape
      have p1 : (0 : Int) ≤ (i : Int) := by omega
      have p2 : (i : Int) < (l.length : Int) := by omega
      have hil : i ≤ cur.length := by omega
      have hil2 : cur.length ≤ i := by omega
      have Hblt := Lib.hid (World.block_lt_of_cell? wr _ hcx)
      have HS := Lib.hid hsn
      have HUp := Lib.hid hup
      have Hown := Lib.hid hown
      have Hbel := Lib.hid hbel
      clear hcur hcl hsn hup hown hbel
      obtain ⟨wr0, rfl⟩ : ∃ wr0 : World, wr0 = wr := ⟨_, rfl⟩
      go_wp2_with fail
      go_loopw [5] (fun s5 wx => ∃ k nd : Nat, k ≤ cur.length ∧ s5 = .int .i64 k ∧ Hid (∀ j (_ : j < cur.length), k ≤ j → x < cur[j]) ∧ wx = wr0.drewN nd) (fun s5 _ => (intOf s5).toNat)
      case atStart => exact ⟨cur.length, 0, by omega, rfl, Lib.hid (fun j hj hk => absurd hk (by omega)), rfl⟩
      case round =>
        obtain ⟨k, nd, hk, rfl, hab, rfl⟩ := hrel
        by_cases hk0 : k = 0
        · have r0 : decide ((0 : Int) < (k : Int)) = false := decide_eq_false (by omega)
          have r1 : decide (0 < k) = false := decide_eq_false (by omega)
          rcases A3 with _ | ad
          · have hc0 : cur.length = 0 ∧ c3 = 0 := by
              rcases Hown.out.2 with ⟨e, h0⟩ | ⟨g, cap, q, e, _⟩
              · injection e with e1 e2 e3; exact ⟨h0, e3⟩
              · injection e with e; cases e
            have hcn : cur = [] := List.eq_nil_of_length_eq_zero hc0.1
            obtain ⟨_, rfl⟩ := hc0
            subst hk0 hcn
            have Hown0 := Lib.hid (show Ow nc 1 wr0 w.heap.size 9 (.slice none 0 0) ([] : Nms) from Hown.out)
            go_wp2_with fail
            go_quiet (fail)
            have hM := ins_sorted (x := x) (k := 0) HUp.out (fun j hj => absurd hj (by simp)) (fun j hj => absurd hj (by simp))
            have HS' := Lib.hid (HS.out.trans hM)
            have T1 := Lib.hid (show ([] : Nms).length = 0 from rfl)
            have T2 := Lib.hid (show (([] : Nms) ++ [x]).length = 1 from rfl)
            have T3 := Lib.hid (show ([] : Nms).length = 0 - 0 from rfl)
            have HB := Lib.hid (Hown0.out.sl nc_len)
            have HD := Lib.hid (Hown0.out.sl nc_len)
            clear hM
            have HSW := Lib.hid (fun (wy : World) (h : Below wr0.heap.size wr0 wy) => And.intro ((h.cell (p := ⟨p, 0, none⟩) Hplt.out).trans hcp) ((h.cell (p := ⟨b1, o1 + i, none⟩) Hblt.out).trans hcx))
            have hSw := And.intro hcp hcx
            go_wp2_with fail
            refine wp_region_goon (fun w' => w'.cell? ⟨p, 0, none⟩ = some (.slice (some ⟨b1, o1, none⟩) l.length ca) ∧ w'.cell? ⟨b1, o1 + i, none⟩ = some (.string (ba x))) [0, 4, 12, 13, 17] [] [8, 11] [1, 2, 3, 5, 6, 7, 9, 10, 14, 15, 16, 18] (by kernel_rfl) ?_
            refine goon_walk [1, 2, 3, 5, 6, 7, 8, 9, 10, 11, 14, 15, 16] 6 rfl (by kernel_rfl) (by kernel_rfl) (fun w n h => h) ?_
            repeat (first | (refine wpKind_free (v := ?_) (by rfl) rfl (by rfl) ?_ ?_; rotate_left 1; (focus (intro wy; go_simp; try with_reducible rfl; done)); try simp only [Act.put, List.setIfInBounds_toArray, List.set_cons_zero, List.set_cons_succ]) | (refine wpKind_held (v := ?_) (by rfl) rfl (by rfl) hSw ?_ ?_; rotate_left 1; (focus (intro wy hSy; obtain ⟨s0, s1⟩ := hSy; go_simp; try with_reducible rfl; done)); try simp only [Act.put, List.setIfInBounds_toArray, List.set_cons_zero, List.set_cons_succ]))
            refine wpKind_fin ?_
            refine goon_two 0 12 (by kernel_rfl) ?_ ?_
            · refine hOp_keeps (by rfl) rfl (fun n1 => ?_)
              go_wp2_with fail
              generalize hwe : World.alloc _ (.cells #[] 9) = we
              have HE := Lib.hid (show Ow nc 1 we wr0.heap.size 9 (.slice (some ⟨wr0.heap.size, 0, none⟩) 0 0) [] from by rw [← hwe]; exact Ow.empty' (by first | rfl | simp) (by exact Nat.le_refl _))
              have Hbe := Lib.hid (show Below wr0.heap.size wr0 we from by rw [← hwe]; exact (below_drewN (Below.refl wr0.heap.size wr0) _).alloc (by exact Nat.le_refl _) _)
              have Hze := Lib.hid (show we.heap.size = wr0.heap.size + 1 from by rw [← hwe]; simp)
              clear hwe
              have hSw := HSW.out we Hbe.out
              show _ ∧ _
              refine ⟨hSw, ?_⟩
              refine goon_two 4 12 (by kernel_rfl) ?_ ?_
              · refine hOp_keeps (by rfl) rfl (fun n2 => ?_)
                go_wp2_with (at_builtin; refine wpList_append_sl _ rfl _ _ _ rfl wr0.heap.size 9 i0 _ 16 Tryd.underlying22 hi0 hz0 hz1 hz2 rfl (by omega) nc_len nc_one (.slice (some ⟨wr0.heap.size, 0, none⟩) 0 0) _ [] (([] : Nms)) rfl rfl (by exact HE.out.drewN n2) (by exact (HB.out.below_ Hbe.out).drewN n2) (by simp only [maxLen, List.length_nil]; omega) (by simp only [List.length_nil]; omega) (by exact (Hbe.out).size) ?_; intro vt wt hownt hgt hmvt)
                have hbt : Below wr0.heap.size wr0 wt := (below_drewN Hbe.out n2).grown hgt (Hbe.out).size (fun k hk => by have hk' : wr0.heap.size = k := (by simpa [Value.ownBlock] using hk); omega)
                obtain ⟨At, cpt, et, _, _⟩ := hownt.shape
                rw [List.nil_append, T1.out] at et
                subst et
                rw [List.nil_append] at hownt
                have HBt := Lib.hid hbt
                have HT1 := Lib.hid hownt
                have hSw := HSW.out wt hbt
                clear hownt hgt hmvt hbt
                show _ ∧ _
                refine ⟨hSw, ?_⟩
                refine goon_walk [12, 13, 17, 18] 0 rfl (by kernel_rfl) (by kernel_rfl) (fun w n h => h) ?_
                refine wpKind_keeps (by rfl) rfl (fun n3 => ?_)
                go_wp2_with fail
                generalize hwx : World.alloc _ (.cells #[.string (ba x)] 9) = wx
                have HX := Lib.hid (show Sl nc 1 wx (.slice (some ⟨wt.heap.size, 0, none⟩) 1 1) [x] (fun b => b = wt.heap.size) from by rw [← hwx]; exact Sl.newEq (c := nc) (size := 1) x (by first | rfl | simp))
                have Hbx := Lib.hid (show Below wr0.heap.size wr0 wx from by rw [← hwx]; exact (below_drewN HBt.out _).alloc (by exact HBt.out.size) _)
                have Hzx := Lib.hid (show wx.heap.size = wt.heap.size + 1 from by rw [← hwx]; simp)
                have HT2 := Lib.hid (show Ow nc 1 wx wr0.heap.size 9 (.slice At 0 cpt) (([] : Nms)) from by rw [← hwx]; exact (HT1.out.drewN _).alloc _)
                clear hwx
                have hSw := HSW.out wx Hbx.out
                show _ ∧ _
                refine ⟨hSw, ?_⟩
                clear HT1 HBt Hzx Hze
                have HX1 := HX
                have HT1 := HT2
                have HBt := Hbx
                clear HX HT2 Hbx
                refine wpKind_keeps (by rfl) rfl (fun n8 => ?_)
                go_wp2_with (at_builtin; refine wpList_append_sl _ rfl _ _ _ rfl wr0.heap.size 9 i0 _ 16 Tryd.underlying22 hi0 hz0 hz1 hz2 rfl (by omega) nc_len nc_one (.slice At 0 cpt) _ (([] : Nms)) [x] rfl rfl (by exact HT1.out.drewN n8) (by exact HX1.out.drewN n8) (by rw [T1.out]; simp only [maxLen, List.length_cons, List.length_nil]; omega) (by rw [T1.out]; simp only [List.length_cons, List.length_nil]; omega) (by exact HBt.out.size) ?_; intro v2 w2 hown2 hg2 hmv2)
                have hb2 : Below wr0.heap.size wr0 w2 := (below_drewN HBt.out n8).grown hg2 HBt.out.size (fun k hk => (HT1.out.lt hk).1)
                have HB2 := Lib.hid hb2
                have HO2 := Lib.hid hown2
                obtain ⟨A2, cp2, e2, _, _⟩ := hown2.shape
                rw [T2.out] at e2
                subst e2
                clear hown2 hg2 hmv2 hb2 HT1 HX1 HBt
                show _ ∧ _
                refine ⟨HSW.out w2 HB2.out, ?_⟩
                refine wpKind_keeps (by rfl) rfl (fun n9 => ?_)
                go_wp2_with (at_builtin; refine wpList_append_sl _ rfl _ _ _ rfl wr0.heap.size 9 i0 _ 16 Tryd.underlying22 hi0 hz0 hz1 hz2 rfl (by omega) nc_len nc_one _ _ (([] : Nms) ++ [x]) (([] : Nms)) rfl rfl (by exact HO2.out.drewN n9) (by exact (HD.out.below_ HB2.out).drewN n9) (by rw [T2.out, T3.out]; simp only [maxLen]; omega) (by rw [T2.out, T3.out]; omega) (by exact HB2.out.size) ?_; intro v3 w3 hown3 hg3 hmv3)
                have hb3 : Below wr0.heap.size wr0 w3 := (below_drewN HB2.out n9).grown hg3 HB2.out.size (fun k hk => (HO2.out.lt hk).1)
                have R : RSRel l w v3 (.int .i64 ((i : Int) + 1)) w3 := RSRel.next hlt Hbel.out hb3 (by simpa using hown3) HS'
                have HR := Lib.hid R
                have HW3 := Lib.hid (HSW.out w3 hb3)
                clear hown3 hg3 hmv3 hb3 R HB2 HO2
                show _ ∧ _
                refine ⟨HW3.out, ?_⟩
                repeat (refine wpKind_free (v := ?_) (by rfl) rfl (by rfl) ?_ ?_; rotate_left 1; (focus (intro wy; go_simp; try with_reducible rfl; done)); try simp only [Act.put, List.setIfInBounds_toArray, List.set_cons_zero, List.set_cons_succ])
                refine wpKind_fin ?_
                refine goon_end (by kernel_rfl) (fun n10 => ?_)
                clear hSw
                go_wp2_with fail
                go_roundw
                case rel => first | exact HR.out.drewN n10 | ((repeat apply Exists.intro); exact ⟨HR.out.drewN n10, rfl⟩)
                case measure => simp [intOf]; omega
              · refine hOp_keeps (by rfl) rfl (fun n2 => ?_)
                go_wp2_with fail
                generalize hwx : World.alloc _ (.cells #[.string (ba x)] 9) = wx
                have HX := Lib.hid (show Sl nc 1 wx (.slice (some ⟨we.heap.size, 0, none⟩) 1 1) [x] (fun b => b = we.heap.size) from by rw [← hwx]; exact Sl.newEq (c := nc) (size := 1) x (by first | rfl | simp))
                have Hbx := Lib.hid (show Below wr0.heap.size wr0 wx from by rw [← hwx]; exact (below_drewN Hbe.out _).alloc (by exact Hbe.out.size) _)
                have Hzx := Lib.hid (show wx.heap.size = we.heap.size + 1 from by rw [← hwx]; simp)
                have HE2 := Lib.hid (show Ow nc 1 wx wr0.heap.size 9 (.slice (some ⟨wr0.heap.size, 0, none⟩) 0 0) [] from by rw [← hwx]; exact (HE.out.drewN _).alloc _)
                clear hwx
                have hSw := HSW.out wx Hbx.out
                show _ ∧ _
                refine ⟨hSw, ?_⟩
                refine goon_walk [4, 13, 17, 18] 0 rfl (by kernel_rfl) (by kernel_rfl) (fun w n h => h) ?_
                refine wpKind_keeps (by rfl) rfl (fun n3 => ?_)
                go_wp2_with (at_builtin; refine wpList_append_sl _ rfl _ _ _ rfl wr0.heap.size 9 i0 _ 16 Tryd.underlying22 hi0 hz0 hz1 hz2 rfl (by omega) nc_len nc_one (.slice (some ⟨wr0.heap.size, 0, none⟩) 0 0) _ [] (([] : Nms)) rfl rfl (by exact HE2.out.drewN n3) (by exact (HB.out.below_ Hbx.out).drewN n3) (by simp only [maxLen, List.length_nil]; omega) (by simp only [List.length_nil]; omega) (by exact (Hbx.out).size) ?_; intro vt wt hownt hgt hmvt)
                have hbt : Below wr0.heap.size wr0 wt := (below_drewN Hbx.out n3).grown hgt (Hbx.out).size (fun k hk => by have hk' : wr0.heap.size = k := (by simpa [Value.ownBlock] using hk); omega)
                obtain ⟨At, cpt, et, _, _⟩ := hownt.shape
                rw [List.nil_append, T1.out] at et
                subst et
                rw [List.nil_append] at hownt
                have HX1 := Lib.hid ((HX.out.drewN n3).grown hgt (fun b hb => by subst hb; have := Hze.out; simp [Value.ownBlock]; omega))
                have HBt := Lib.hid hbt
                have HT1 := Lib.hid hownt
                have hSw := HSW.out wt hbt
                clear hownt hgt hmvt hbt
                show _ ∧ _
                refine ⟨hSw, ?_⟩
                clear HX HE2 Hbx Hzx Hze
                refine wpKind_keeps (by rfl) rfl (fun n8 => ?_)
                go_wp2_with (at_builtin; refine wpList_append_sl _ rfl _ _ _ rfl wr0.heap.size 9 i0 _ 16 Tryd.underlying22 hi0 hz0 hz1 hz2 rfl (by omega) nc_len nc_one (.slice At 0 cpt) _ (([] : Nms)) [x] rfl rfl (by exact HT1.out.drewN n8) (by exact HX1.out.drewN n8) (by rw [T1.out]; simp only [maxLen, List.length_cons, List.length_nil]; omega) (by rw [T1.out]; simp only [List.length_cons, List.length_nil]; omega) (by exact HBt.out.size) ?_; intro v2 w2 hown2 hg2 hmv2)
                have hb2 : Below wr0.heap.size wr0 w2 := (below_drewN HBt.out n8).grown hg2 HBt.out.size (fun k hk => (HT1.out.lt hk).1)
                have HB2 := Lib.hid hb2
                have HO2 := Lib.hid hown2
                obtain ⟨A2, cp2, e2, _, _⟩ := hown2.shape
                rw [T2.out] at e2
                subst e2
                clear hown2 hg2 hmv2 hb2 HT1 HX1 HBt
                show _ ∧ _
                refine ⟨HSW.out w2 HB2.out, ?_⟩
                refine wpKind_keeps (by rfl) rfl (fun n9 => ?_)
                go_wp2_with (at_builtin; refine wpList_append_sl _ rfl _ _ _ rfl wr0.heap.size 9 i0 _ 16 Tryd.underlying22 hi0 hz0 hz1 hz2 rfl (by omega) nc_len nc_one _ _ (([] : Nms) ++ [x]) (([] : Nms)) rfl rfl (by exact HO2.out.drewN n9) (by exact (HD.out.below_ HB2.out).drewN n9) (by rw [T2.out, T3.out]; simp only [maxLen]; omega) (by rw [T2.out, T3.out]; omega) (by exact HB2.out.size) ?_; intro v3 w3 hown3 hg3 hmv3)
                have hb3 : Below wr0.heap.size wr0 w3 := (below_drewN HB2.out n9).grown hg3 HB2.out.size (fun k hk => (HO2.out.lt hk).1)
                have R : RSRel l w v3 (.int .i64 ((i : Int) + 1)) w3 := RSRel.next hlt Hbel.out hb3 (by simpa using hown3) HS'
                have HR := Lib.hid R
                have HW3 := Lib.hid (HSW.out w3 hb3)
                clear hown3 hg3 hmv3 hb3 R HB2 HO2
                show _ ∧ _
                refine ⟨HW3.out, ?_⟩
                repeat (refine wpKind_free (v := ?_) (by rfl) rfl (by rfl) ?_ ?_; rotate_left 1; (focus (intro wy; go_simp; try with_reducible rfl; done)); try simp only [Act.put, List.setIfInBounds_toArray, List.set_cons_zero, List.set_cons_succ])
                refine wpKind_fin ?_
                refine goon_end (by kernel_rfl) (fun n10 => ?_)
                clear hSw
                go_wp2_with fail
                go_roundw
                case rel => first | exact HR.out.drewN n10 | ((repeat apply Exists.intro); exact ⟨HR.out.drewN n10, rfl⟩)
                case measure => simp [intOf]; omega
            · refine hOp_keeps (by rfl) rfl (fun n1 => ?_)
              go_wp2_with fail
              generalize hwx : World.alloc _ (.cells #[.string (ba x)] 9) = wx
              have HX := Lib.hid (show Sl nc 1 wx (.slice (some ⟨wr0.heap.size, 0, none⟩) 1 1) [x] (fun b => b = wr0.heap.size) from by rw [← hwx]; exact Sl.newEq (c := nc) (size := 1) x (by first | rfl | simp))
              have Hbx := Lib.hid (show Below wr0.heap.size wr0 wx from by rw [← hwx]; exact (below_drewN (Below.refl wr0.heap.size wr0) _).alloc (by exact Nat.le_refl _) _)
              have Hzx := Lib.hid (show wx.heap.size = wr0.heap.size + 1 from by rw [← hwx]; simp)
              clear hwx
              have hSw := HSW.out wx Hbx.out
              show _ ∧ _
              refine ⟨hSw, ?_⟩
              refine goon_walk [0, 4, 13, 17, 18] 0 rfl (by kernel_rfl) (by kernel_rfl) (fun w n h => h) ?_
              refine wpKind_keeps (by rfl) rfl (fun n2 => ?_)
              go_wp2_with fail
              generalize hwe : World.alloc _ (.cells #[] 9) = we
              have HE := Lib.hid (show Ow nc 1 we wr0.heap.size 9 (.slice (some ⟨wx.heap.size, 0, none⟩) 0 0) [] from by rw [← hwe]; exact Ow.empty' (by first | rfl | simp) (by exact Hbx.out.size))
              have Hbe := Lib.hid (show Below wr0.heap.size wr0 we from by rw [← hwe]; exact (below_drewN Hbx.out _).alloc (by exact Hbx.out.size) _)
              have Hze := Lib.hid (show we.heap.size = wx.heap.size + 1 from by rw [← hwe]; simp)
              have HX2 := Lib.hid (show Sl nc 1 we (.slice (some ⟨wr0.heap.size, 0, none⟩) 1 1) [x] (fun b => b = wr0.heap.size) from by rw [← hwe]; exact (HX.out.drewN _).alloc _)
              clear hwe
              have hSw := HSW.out we Hbe.out
              show _ ∧ _
              refine ⟨hSw, ?_⟩
              refine wpKind_keeps (by rfl) rfl (fun n3 => ?_)
              go_wp2_with (at_builtin; refine wpList_append_sl _ rfl _ _ _ rfl wr0.heap.size 9 i0 _ 16 Tryd.underlying22 hi0 hz0 hz1 hz2 rfl (by omega) nc_len nc_one (.slice (some ⟨wx.heap.size, 0, none⟩) 0 0) _ [] (([] : Nms)) rfl rfl (by exact HE.out.drewN n3) (by exact (HB.out.below_ Hbe.out).drewN n3) (by simp only [maxLen, List.length_nil]; omega) (by simp only [List.length_nil]; omega) (by exact (Hbe.out).size) ?_; intro vt wt hownt hgt hmvt)
              have hbt : Below wr0.heap.size wr0 wt := (below_drewN Hbe.out n3).grown hgt (Hbe.out).size (fun k hk => by have hk' : wx.heap.size = k := (by simpa [Value.ownBlock] using hk); have := Hbx.out.size; omega)
              obtain ⟨At, cpt, et, _, _⟩ := hownt.shape
              rw [List.nil_append, T1.out] at et
              subst et
              rw [List.nil_append] at hownt
              have HX1 := Lib.hid ((HX2.out.drewN n3).grown hgt (fun b hb => by subst hb; have := Hzx.out; simp [Value.ownBlock]; omega))
              have HBt := Lib.hid hbt
              have HT1 := Lib.hid hownt
              have hSw := HSW.out wt hbt
              clear hownt hgt hmvt hbt
              show _ ∧ _
              refine ⟨hSw, ?_⟩
              clear HX HX2 HE Hbe Hbx Hzx Hze
              refine wpKind_keeps (by rfl) rfl (fun n8 => ?_)
              go_wp2_with (at_builtin; refine wpList_append_sl _ rfl _ _ _ rfl wr0.heap.size 9 i0 _ 16 Tryd.underlying22 hi0 hz0 hz1 hz2 rfl (by omega) nc_len nc_one (.slice At 0 cpt) _ (([] : Nms)) [x] rfl rfl (by exact HT1.out.drewN n8) (by exact HX1.out.drewN n8) (by rw [T1.out]; simp only [maxLen, List.length_cons, List.length_nil]; omega) (by rw [T1.out]; simp only [List.length_cons, List.length_nil]; omega) (by exact HBt.out.size) ?_; intro v2 w2 hown2 hg2 hmv2)
              have hb2 : Below wr0.heap.size wr0 w2 := (below_drewN HBt.out n8).grown hg2 HBt.out.size (fun k hk => (HT1.out.lt hk).1)
              have HB2 := Lib.hid hb2
              have HO2 := Lib.hid hown2
              obtain ⟨A2, cp2, e2, _, _⟩ := hown2.shape
              rw [T2.out] at e2
              subst e2
              clear hown2 hg2 hmv2 hb2 HT1 HX1 HBt
              show _ ∧ _
              refine ⟨HSW.out w2 HB2.out, ?_⟩
              refine wpKind_keeps (by rfl) rfl (fun n9 => ?_)
              go_wp2_with (at_builtin; refine wpList_append_sl _ rfl _ _ _ rfl wr0.heap.size 9 i0 _ 16 Tryd.underlying22 hi0 hz0 hz1 hz2 rfl (by omega) nc_len nc_one _ _ (([] : Nms) ++ [x]) (([] : Nms)) rfl rfl (by exact HO2.out.drewN n9) (by exact (HD.out.below_ HB2.out).drewN n9) (by rw [T2.out, T3.out]; simp only [maxLen]; omega) (by rw [T2.out, T3.out]; omega) (by exact HB2.out.size) ?_; intro v3 w3 hown3 hg3 hmv3)
              have hb3 : Below wr0.heap.size wr0 w3 := (below_drewN HB2.out n9).grown hg3 HB2.out.size (fun k hk => (HO2.out.lt hk).1)
              have R : RSRel l w v3 (.int .i64 ((i : Int) + 1)) w3 := RSRel.next hlt Hbel.out hb3 (by simpa using hown3) HS'
              have HR := Lib.hid R
              have HW3 := Lib.hid (HSW.out w3 hb3)
              clear hown3 hg3 hmv3 hb3 R HB2 HO2
              show _ ∧ _
              refine ⟨HW3.out, ?_⟩
              repeat (refine wpKind_free (v := ?_) (by rfl) rfl (by rfl) ?_ ?_; rotate_left 1; (focus (intro wy; go_simp; try with_reducible rfl; done)); try simp only [Act.put, List.setIfInBounds_toArray, List.set_cons_zero, List.set_cons_succ])
              refine wpKind_fin ?_
              refine goon_end (by kernel_rfl) (fun n10 => ?_)
              clear hSw
              go_wp2_with fail
              go_roundw
              case rel => first | exact HR.out.drewN n10 | ((repeat apply Exists.intro); exact ⟨HR.out.drewN n10, rfl⟩)
              case measure => simp [intOf]; omega
          · obtain ⟨b3, o3, e3⟩ : ∃ b3 o3, ad = ⟨b3, o3, none⟩ := by
              rcases Hown.out.2 with ⟨e, _⟩ | ⟨g, cap, q, e, _⟩
              · injection e with e; cases e
              · injection e with e; injection e with e; exact ⟨g, 0, e⟩
            subst e3
            have HLE := Lib.hid (show ∀ j (_ : j < cur.length), j < k → cur[j] ≤ x from fun j hj h => absurd h (by omega))
            have HAB := hab
            clear hk0
            go_wp2_with fail
            go_quiet (fail)
            have s3 : (cur.length : Int) ≤ (c3 : Int) := by omega
            have s4 : (k : Int) ≤ (c3 : Int) := by omega
            have hfr := Sl.from_ (Hown.out.sl nc_len) hk
            rw [Nat.mul_one] at hfr
            by_cases hck : c3 = k
            · obtain rfl : k = c3 := hck.symm
              rw [if_pos rfl, Nat.sub_self, show cur.length - k = 0 from by omega] at hfr
              have HD := Lib.hid hfr
              clear hfr hck
              have hM := ins_sorted HUp.out HLE.out HAB.out
              have HS' := Lib.hid (HS.out.trans hM)
              have s2 : (k : Int) ≤ (cur.length : Int) := by omega
              have s5 : (0 : Int) ≤ (k : Int) := by omega
              have t1 : (cur.take k).length = k := by rw [List.length_take]; omega
              have t2 : (cur.take k ++ [x]).length = k + 1 := by rw [List.length_append, t1]; rfl
              have t3 : (cur.drop k).length = cur.length - k := List.length_drop
              have T1 := Lib.hid t1
              have T2 := Lib.hid t2
              have T3 := Lib.hid t3
              have HB := Lib.hid ((Ow.begin nc_len Hown.out (k := k) (by omega)).sl nc_len)
              have HSW := Lib.hid (fun (wy : World) (h : Below wr0.heap.size wr0 wy) => And.intro ((h.cell (p := ⟨p, 0, none⟩) Hplt.out).trans hcp) ((h.cell (p := ⟨b1, o1 + i, none⟩) Hblt.out).trans hcx))
              have hSw := And.intro hcp hcx
              clear hM t1 t2 t3
              go_wp2_with fail
              refine wp_region_goon (fun w' => w'.cell? ⟨p, 0, none⟩ = some (.slice (some ⟨b1, o1, none⟩) l.length ca) ∧ w'.cell? ⟨b1, o1 + i, none⟩ = some (.string (ba x))) [0, 4, 12, 13, 17] [] [8, 11] [1, 2, 3, 5, 6, 7, 9, 10, 14, 15, 16, 18] (by kernel_rfl) ?_
              refine goon_walk [1, 2, 3, 5, 6, 7, 8, 9, 10, 11, 14, 15, 16] 6 rfl (by kernel_rfl) (by kernel_rfl) (fun w n h => h) ?_
              repeat (first | (refine wpKind_free (v := ?_) (by rfl) rfl (by rfl) ?_ ?_; rotate_left 1; (focus (intro wy; go_simp; try with_reducible rfl; done)); try simp only [Act.put, List.setIfInBounds_toArray, List.set_cons_zero, List.set_cons_succ]) | (refine wpKind_held (v := ?_) (by rfl) rfl (by rfl) hSw ?_ ?_; rotate_left 1; (focus (intro wy hSy; obtain ⟨s0, s1⟩ := hSy; go_simp; try with_reducible rfl; done)); try simp only [Act.put, List.setIfInBounds_toArray, List.set_cons_zero, List.set_cons_succ]))
              refine wpKind_fin ?_
              refine goon_two 0 12 (by kernel_rfl) ?_ ?_
              · refine hOp_keeps (by rfl) rfl (fun n1 => ?_)
                go_wp2_with fail
                generalize hwe : World.alloc _ (.cells #[] 9) = we
                have HE := Lib.hid (show Ow nc 1 we wr0.heap.size 9 (.slice (some ⟨wr0.heap.size, 0, none⟩) 0 0) [] from by rw [← hwe]; exact Ow.empty' (by first | rfl | simp) (by exact Nat.le_refl _))
                have Hbe := Lib.hid (show Below wr0.heap.size wr0 we from by rw [← hwe]; exact (below_drewN (Below.refl wr0.heap.size wr0) _).alloc (by exact Nat.le_refl _) _)
                have Hze := Lib.hid (show we.heap.size = wr0.heap.size + 1 from by rw [← hwe]; simp)
                clear hwe
                have hSw := HSW.out we Hbe.out
                show _ ∧ _
                refine ⟨hSw, ?_⟩
                refine goon_two 4 12 (by kernel_rfl) ?_ ?_
                · refine hOp_keeps (by rfl) rfl (fun n2 => ?_)
                  go_wp2_with (at_builtin; refine wpList_append_sl _ rfl _ _ _ rfl wr0.heap.size 9 i0 _ 16 Tryd.underlying22 hi0 hz0 hz1 hz2 rfl (by omega) nc_len nc_one (.slice (some ⟨wr0.heap.size, 0, none⟩) 0 0) _ [] (cur.take k) rfl rfl (by exact HE.out.drewN n2) (by exact (HB.out.below_ Hbe.out).drewN n2) (by simp only [maxLen, List.length_nil]; rw [T1.out]; omega) (by simp only [List.length_nil]; rw [T1.out]; omega) (by exact (Hbe.out).size) ?_; intro vt wt hownt hgt hmvt)
                  have hbt : Below wr0.heap.size wr0 wt := (below_drewN Hbe.out n2).grown hgt (Hbe.out).size (fun k hk => by have hk' : wr0.heap.size = k := (by simpa [Value.ownBlock] using hk); omega)
                  obtain ⟨At, cpt, et, _, _⟩ := hownt.shape
                  rw [List.nil_append, T1.out] at et
                  subst et
                  rw [List.nil_append] at hownt
                  have HBt := Lib.hid hbt
                  have HT1 := Lib.hid hownt
                  have hSw := HSW.out wt hbt
                  clear hownt hgt hmvt hbt
                  show _ ∧ _
                  refine ⟨hSw, ?_⟩
                  refine goon_walk [12, 13, 17, 18] 0 rfl (by kernel_rfl) (by kernel_rfl) (fun w n h => h) ?_
                  refine wpKind_keeps (by rfl) rfl (fun n3 => ?_)
                  go_wp2_with fail
                  generalize hwx : World.alloc _ (.cells #[.string (ba x)] 9) = wx
                  have HX := Lib.hid (show Sl nc 1 wx (.slice (some ⟨wt.heap.size, 0, none⟩) 1 1) [x] (fun b => b = wt.heap.size) from by rw [← hwx]; exact Sl.newEq (c := nc) (size := 1) x (by first | rfl | simp))
                  have Hbx := Lib.hid (show Below wr0.heap.size wr0 wx from by rw [← hwx]; exact (below_drewN HBt.out _).alloc (by exact HBt.out.size) _)
                  have Hzx := Lib.hid (show wx.heap.size = wt.heap.size + 1 from by rw [← hwx]; simp)
                  have HT2 := Lib.hid (show Ow nc 1 wx wr0.heap.size 9 (.slice At k cpt) (cur.take k) from by rw [← hwx]; exact (HT1.out.drewN _).alloc _)
                  clear hwx
                  have hSw := HSW.out wx Hbx.out
                  show _ ∧ _
                  refine ⟨hSw, ?_⟩
                  clear HT1 HBt Hzx Hze
                  have HX1 := HX
                  have HT1 := HT2
                  have HBt := Hbx
                  clear HX HT2 Hbx
                  refine wpKind_keeps (by rfl) rfl (fun n8 => ?_)
                  go_wp2_with (at_builtin; refine wpList_append_sl _ rfl _ _ _ rfl wr0.heap.size 9 i0 _ 16 Tryd.underlying22 hi0 hz0 hz1 hz2 rfl (by omega) nc_len nc_one (.slice At k cpt) _ (cur.take k) [x] rfl rfl (by exact HT1.out.drewN n8) (by exact HX1.out.drewN n8) (by rw [T1.out]; simp only [maxLen, List.length_cons, List.length_nil]; omega) (by rw [T1.out]; simp only [List.length_cons, List.length_nil]; omega) (by exact HBt.out.size) ?_; intro v2 w2 hown2 hg2 hmv2)
                  have hb2 : Below wr0.heap.size wr0 w2 := (below_drewN HBt.out n8).grown hg2 HBt.out.size (fun k hk => (HT1.out.lt hk).1)
                  have HB2 := Lib.hid hb2
                  have HO2 := Lib.hid hown2
                  obtain ⟨A2, cp2, e2, _, _⟩ := hown2.shape
                  rw [T2.out] at e2
                  subst e2
                  clear hown2 hg2 hmv2 hb2 HT1 HX1 HBt
                  show _ ∧ _
                  refine ⟨HSW.out w2 HB2.out, ?_⟩
                  refine wpKind_keeps (by rfl) rfl (fun n9 => ?_)
                  go_wp2_with (at_builtin; refine wpList_append_sl _ rfl _ _ _ rfl wr0.heap.size 9 i0 _ 16 Tryd.underlying22 hi0 hz0 hz1 hz2 rfl (by omega) nc_len nc_one _ _ (cur.take k ++ [x]) (cur.drop k) rfl rfl (by exact HO2.out.drewN n9) (by exact (HD.out.below_ HB2.out).drewN n9) (by rw [T2.out, T3.out]; simp only [maxLen]; omega) (by rw [T2.out, T3.out]; omega) (by exact HB2.out.size) ?_; intro v3 w3 hown3 hg3 hmv3)
                  have hb3 : Below wr0.heap.size wr0 w3 := (below_drewN HB2.out n9).grown hg3 HB2.out.size (fun k hk => (HO2.out.lt hk).1)
                  have R : RSRel l w v3 (.int .i64 ((i : Int) + 1)) w3 := RSRel.next hlt Hbel.out hb3 (by simpa using hown3) HS'
                  have HR := Lib.hid R
                  have HW3 := Lib.hid (HSW.out w3 hb3)
                  clear hown3 hg3 hmv3 hb3 R HB2 HO2
                  show _ ∧ _
                  refine ⟨HW3.out, ?_⟩
                  repeat (refine wpKind_free (v := ?_) (by rfl) rfl (by rfl) ?_ ?_; rotate_left 1; (focus (intro wy; go_simp; try with_reducible rfl; done)); try simp only [Act.put, List.setIfInBounds_toArray, List.set_cons_zero, List.set_cons_succ])
                  refine wpKind_fin ?_
                  refine goon_end (by kernel_rfl) (fun n10 => ?_)
                  clear hSw
                  go_wp2_with fail
                  go_roundw
                  case rel => first | exact HR.out.drewN n10 | ((repeat apply Exists.intro); exact ⟨HR.out.drewN n10, rfl⟩)
                  case measure => simp [intOf]; omega
                · refine hOp_keeps (by rfl) rfl (fun n2 => ?_)
                  go_wp2_with fail
                  generalize hwx : World.alloc _ (.cells #[.string (ba x)] 9) = wx
                  have HX := Lib.hid (show Sl nc 1 wx (.slice (some ⟨we.heap.size, 0, none⟩) 1 1) [x] (fun b => b = we.heap.size) from by rw [← hwx]; exact Sl.newEq (c := nc) (size := 1) x (by first | rfl | simp))
                  have Hbx := Lib.hid (show Below wr0.heap.size wr0 wx from by rw [← hwx]; exact (below_drewN Hbe.out _).alloc (by exact Hbe.out.size) _)
                  have Hzx := Lib.hid (show wx.heap.size = we.heap.size + 1 from by rw [← hwx]; simp)
                  have HE2 := Lib.hid (show Ow nc 1 wx wr0.heap.size 9 (.slice (some ⟨wr0.heap.size, 0, none⟩) 0 0) [] from by rw [← hwx]; exact (HE.out.drewN _).alloc _)
                  clear hwx
                  have hSw := HSW.out wx Hbx.out
                  show _ ∧ _
                  refine ⟨hSw, ?_⟩
                  refine goon_walk [4, 13, 17, 18] 0 rfl (by kernel_rfl) (by kernel_rfl) (fun w n h => h) ?_
                  refine wpKind_keeps (by rfl) rfl (fun n3 => ?_)
                  go_wp2_with (at_builtin; refine wpList_append_sl _ rfl _ _ _ rfl wr0.heap.size 9 i0 _ 16 Tryd.underlying22 hi0 hz0 hz1 hz2 rfl (by omega) nc_len nc_one (.slice (some ⟨wr0.heap.size, 0, none⟩) 0 0) _ [] (cur.take k) rfl rfl (by exact HE2.out.drewN n3) (by exact (HB.out.below_ Hbx.out).drewN n3) (by simp only [maxLen, List.length_nil]; rw [T1.out]; omega) (by simp only [List.length_nil]; rw [T1.out]; omega) (by exact (Hbx.out).size) ?_; intro vt wt hownt hgt hmvt)
                  have hbt : Below wr0.heap.size wr0 wt := (below_drewN Hbx.out n3).grown hgt (Hbx.out).size (fun k hk => by have hk' : wr0.heap.size = k := (by simpa [Value.ownBlock] using hk); omega)
                  obtain ⟨At, cpt, et, _, _⟩ := hownt.shape
                  rw [List.nil_append, T1.out] at et
                  subst et
                  rw [List.nil_append] at hownt
                  have HX1 := Lib.hid ((HX.out.drewN n3).grown hgt (fun b hb => by subst hb; have := Hze.out; simp [Value.ownBlock]; omega))
                  have HBt := Lib.hid hbt
                  have HT1 := Lib.hid hownt
                  have hSw := HSW.out wt hbt
                  clear hownt hgt hmvt hbt
                  show _ ∧ _
                  refine ⟨hSw, ?_⟩
                  clear HX HE2 Hbx Hzx Hze
                  refine wpKind_keeps (by rfl) rfl (fun n8 => ?_)
                  go_wp2_with (at_builtin; refine wpList_append_sl _ rfl _ _ _ rfl wr0.heap.size 9 i0 _ 16 Tryd.underlying22 hi0 hz0 hz1 hz2 rfl (by omega) nc_len nc_one (.slice At k cpt) _ (cur.take k) [x] rfl rfl (by exact HT1.out.drewN n8) (by exact HX1.out.drewN n8) (by rw [T1.out]; simp only [maxLen, List.length_cons, List.length_nil]; omega) (by rw [T1.out]; simp only [List.length_cons, List.length_nil]; omega) (by exact HBt.out.size) ?_; intro v2 w2 hown2 hg2 hmv2)
                  have hb2 : Below wr0.heap.size wr0 w2 := (below_drewN HBt.out n8).grown hg2 HBt.out.size (fun k hk => (HT1.out.lt hk).1)
                  have HB2 := Lib.hid hb2
                  have HO2 := Lib.hid hown2
                  obtain ⟨A2, cp2, e2, _, _⟩ := hown2.shape
                  rw [T2.out] at e2
                  subst e2
                  clear hown2 hg2 hmv2 hb2 HT1 HX1 HBt
                  show _ ∧ _
                  refine ⟨HSW.out w2 HB2.out, ?_⟩
                  refine wpKind_keeps (by rfl) rfl (fun n9 => ?_)
                  go_wp2_with (at_builtin; refine wpList_append_sl _ rfl _ _ _ rfl wr0.heap.size 9 i0 _ 16 Tryd.underlying22 hi0 hz0 hz1 hz2 rfl (by omega) nc_len nc_one _ _ (cur.take k ++ [x]) (cur.drop k) rfl rfl (by exact HO2.out.drewN n9) (by exact (HD.out.below_ HB2.out).drewN n9) (by rw [T2.out, T3.out]; simp only [maxLen]; omega) (by rw [T2.out, T3.out]; omega) (by exact HB2.out.size) ?_; intro v3 w3 hown3 hg3 hmv3)
                  have hb3 : Below wr0.heap.size wr0 w3 := (below_drewN HB2.out n9).grown hg3 HB2.out.size (fun k hk => (HO2.out.lt hk).1)
                  have R : RSRel l w v3 (.int .i64 ((i : Int) + 1)) w3 := RSRel.next hlt Hbel.out hb3 (by simpa using hown3) HS'
                  have HR := Lib.hid R
                  have HW3 := Lib.hid (HSW.out w3 hb3)
                  clear hown3 hg3 hmv3 hb3 R HB2 HO2
                  show _ ∧ _
                  refine ⟨HW3.out, ?_⟩
                  repeat (refine wpKind_free (v := ?_) (by rfl) rfl (by rfl) ?_ ?_; rotate_left 1; (focus (intro wy; go_simp; try with_reducible rfl; done)); try simp only [Act.put, List.setIfInBounds_toArray, List.set_cons_zero, List.set_cons_succ])
                  refine wpKind_fin ?_
                  refine goon_end (by kernel_rfl) (fun n10 => ?_)
                  clear hSw
                  go_wp2_with fail
                  go_roundw
                  case rel => first | exact HR.out.drewN n10 | ((repeat apply Exists.intro); exact ⟨HR.out.drewN n10, rfl⟩)
                  case measure => simp [intOf]; omega
              · refine hOp_keeps (by rfl) rfl (fun n1 => ?_)
                go_wp2_with fail
                generalize hwx : World.alloc _ (.cells #[.string (ba x)] 9) = wx
                have HX := Lib.hid (show Sl nc 1 wx (.slice (some ⟨wr0.heap.size, 0, none⟩) 1 1) [x] (fun b => b = wr0.heap.size) from by rw [← hwx]; exact Sl.newEq (c := nc) (size := 1) x (by first | rfl | simp))
                have Hbx := Lib.hid (show Below wr0.heap.size wr0 wx from by rw [← hwx]; exact (below_drewN (Below.refl wr0.heap.size wr0) _).alloc (by exact Nat.le_refl _) _)
                have Hzx := Lib.hid (show wx.heap.size = wr0.heap.size + 1 from by rw [← hwx]; simp)
                clear hwx
                have hSw := HSW.out wx Hbx.out
                show _ ∧ _
                refine ⟨hSw, ?_⟩
                refine goon_walk [0, 4, 13, 17, 18] 0 rfl (by kernel_rfl) (by kernel_rfl) (fun w n h => h) ?_
                refine wpKind_keeps (by rfl) rfl (fun n2 => ?_)
                go_wp2_with fail
                generalize hwe : World.alloc _ (.cells #[] 9) = we
                have HE := Lib.hid (show Ow nc 1 we wr0.heap.size 9 (.slice (some ⟨wx.heap.size, 0, none⟩) 0 0) [] from by rw [← hwe]; exact Ow.empty' (by first | rfl | simp) (by exact Hbx.out.size))
                have Hbe := Lib.hid (show Below wr0.heap.size wr0 we from by rw [← hwe]; exact (below_drewN Hbx.out _).alloc (by exact Hbx.out.size) _)
                have Hze := Lib.hid (show we.heap.size = wx.heap.size + 1 from by rw [← hwe]; simp)
                have HX2 := Lib.hid (show Sl nc 1 we (.slice (some ⟨wr0.heap.size, 0, none⟩) 1 1) [x] (fun b => b = wr0.heap.size) from by rw [← hwe]; exact (HX.out.drewN _).alloc _)
                clear hwe
                have hSw := HSW.out we Hbe.out
                show _ ∧ _
                refine ⟨hSw, ?_⟩
                refine wpKind_keeps (by rfl) rfl (fun n3 => ?_)
                go_wp2_with (at_builtin; refine wpList_append_sl _ rfl _ _ _ rfl wr0.heap.size 9 i0 _ 16 Tryd.underlying22 hi0 hz0 hz1 hz2 rfl (by omega) nc_len nc_one (.slice (some ⟨wx.heap.size, 0, none⟩) 0 0) _ [] (cur.take k) rfl rfl (by exact HE.out.drewN n3) (by exact (HB.out.below_ Hbe.out).drewN n3) (by simp only [maxLen, List.length_nil]; rw [T1.out]; omega) (by simp only [List.length_nil]; rw [T1.out]; omega) (by exact (Hbe.out).size) ?_; intro vt wt hownt hgt hmvt)
                have hbt : Below wr0.heap.size wr0 wt := (below_drewN Hbe.out n3).grown hgt (Hbe.out).size (fun k hk => by have hk' : wx.heap.size = k := (by simpa [Value.ownBlock] using hk); have := Hbx.out.size; omega)
                obtain ⟨At, cpt, et, _, _⟩ := hownt.shape
                rw [List.nil_append, T1.out] at et
                subst et
                rw [List.nil_append] at hownt
                have HX1 := Lib.hid ((HX2.out.drewN n3).grown hgt (fun b hb => by subst hb; have := Hzx.out; simp [Value.ownBlock]; omega))
                have HBt := Lib.hid hbt
                have HT1 := Lib.hid hownt
                have hSw := HSW.out wt hbt
                clear hownt hgt hmvt hbt
                show _ ∧ _
                refine ⟨hSw, ?_⟩
                clear HX HX2 HE Hbe Hbx Hzx Hze
                refine wpKind_keeps (by rfl) rfl (fun n8 => ?_)
                go_wp2_with (at_builtin; refine wpList_append_sl _ rfl _ _ _ rfl wr0.heap.size 9 i0 _ 16 Tryd.underlying22 hi0 hz0 hz1 hz2 rfl (by omega) nc_len nc_one (.slice At k cpt) _ (cur.take k) [x] rfl rfl (by exact HT1.out.drewN n8) (by exact HX1.out.drewN n8) (by rw [T1.out]; simp only [maxLen, List.length_cons, List.length_nil]; omega) (by rw [T1.out]; simp only [List.length_cons, List.length_nil]; omega) (by exact HBt.out.size) ?_; intro v2 w2 hown2 hg2 hmv2)
                have hb2 : Below wr0.heap.size wr0 w2 := (below_drewN HBt.out n8).grown hg2 HBt.out.size (fun k hk => (HT1.out.lt hk).1)
                have HB2 := Lib.hid hb2
                have HO2 := Lib.hid hown2
                obtain ⟨A2, cp2, e2, _, _⟩ := hown2.shape
                rw [T2.out] at e2
                subst e2
                clear hown2 hg2 hmv2 hb2 HT1 HX1 HBt
                show _ ∧ _
                refine ⟨HSW.out w2 HB2.out, ?_⟩
                refine wpKind_keeps (by rfl) rfl (fun n9 => ?_)
                go_wp2_with (at_builtin; refine wpList_append_sl _ rfl _ _ _ rfl wr0.heap.size 9 i0 _ 16 Tryd.underlying22 hi0 hz0 hz1 hz2 rfl (by omega) nc_len nc_one _ _ (cur.take k ++ [x]) (cur.drop k) rfl rfl (by exact HO2.out.drewN n9) (by exact (HD.out.below_ HB2.out).drewN n9) (by rw [T2.out, T3.out]; simp only [maxLen]; omega) (by rw [T2.out, T3.out]; omega) (by exact HB2.out.size) ?_; intro v3 w3 hown3 hg3 hmv3)
                have hb3 : Below wr0.heap.size wr0 w3 := (below_drewN HB2.out n9).grown hg3 HB2.out.size (fun k hk => (HO2.out.lt hk).1)
                have R : RSRel l w v3 (.int .i64 ((i : Int) + 1)) w3 := RSRel.next hlt Hbel.out hb3 (by simpa using hown3) HS'
                have HR := Lib.hid R
                have HW3 := Lib.hid (HSW.out w3 hb3)
                clear hown3 hg3 hmv3 hb3 R HB2 HO2
                show _ ∧ _
                refine ⟨HW3.out, ?_⟩
                repeat (refine wpKind_free (v := ?_) (by rfl) rfl (by rfl) ?_ ?_; rotate_left 1; (focus (intro wy; go_simp; try with_reducible rfl; done)); try simp only [Act.put, List.setIfInBounds_toArray, List.set_cons_zero, List.set_cons_succ])
                refine wpKind_fin ?_
                refine goon_end (by kernel_rfl) (fun n10 => ?_)
                clear hSw
                go_wp2_with fail
                go_roundw
                case rel => first | exact HR.out.drewN n10 | ((repeat apply Exists.intro); exact ⟨HR.out.drewN n10, rfl⟩)
                case measure => simp [intOf]; omega
            · rw [if_neg hck] at hfr
              have HD := Lib.hid hfr
              clear hfr
              have hM := ins_sorted HUp.out HLE.out HAB.out
              have HS' := Lib.hid (HS.out.trans hM)
              have s2 : (k : Int) ≤ (cur.length : Int) := by omega
              have s5 : (0 : Int) ≤ (k : Int) := by omega
              have t1 : (cur.take k).length = k := by rw [List.length_take]; omega
              have t2 : (cur.take k ++ [x]).length = k + 1 := by rw [List.length_append, t1]; rfl
              have t3 : (cur.drop k).length = cur.length - k := List.length_drop
              have T1 := Lib.hid t1
              have T2 := Lib.hid t2
              have T3 := Lib.hid t3
              have HB := Lib.hid ((Ow.begin nc_len Hown.out (k := k) (by omega)).sl nc_len)
              have HSW := Lib.hid (fun (wy : World) (h : Below wr0.heap.size wr0 wy) => And.intro ((h.cell (p := ⟨p, 0, none⟩) Hplt.out).trans hcp) ((h.cell (p := ⟨b1, o1 + i, none⟩) Hblt.out).trans hcx))
              have hSw := And.intro hcp hcx
              clear hM t1 t2 t3
              go_wp2_with fail
              refine wp_region_goon (fun w' => w'.cell? ⟨p, 0, none⟩ = some (.slice (some ⟨b1, o1, none⟩) l.length ca) ∧ w'.cell? ⟨b1, o1 + i, none⟩ = some (.string (ba x))) [0, 4, 12, 13, 17] [] [8, 11] [1, 2, 3, 5, 6, 7, 9, 10, 14, 15, 16, 18] (by kernel_rfl) ?_
              refine goon_walk [1, 2, 3, 5, 6, 7, 8, 9, 10, 11, 14, 15, 16] 6 rfl (by kernel_rfl) (by kernel_rfl) (fun w n h => h) ?_
              repeat (first | (refine wpKind_free (v := ?_) (by rfl) rfl (by rfl) ?_ ?_; rotate_left 1; (focus (intro wy; go_simp; try with_reducible rfl; done)); try simp only [Act.put, List.setIfInBounds_toArray, List.set_cons_zero, List.set_cons_succ]) | (refine wpKind_held (v := ?_) (by rfl) rfl (by rfl) hSw ?_ ?_; rotate_left 1; (focus (intro wy hSy; obtain ⟨s0, s1⟩ := hSy; go_simp; try with_reducible rfl; done)); try simp only [Act.put, List.setIfInBounds_toArray, List.set_cons_zero, List.set_cons_succ]))
              refine wpKind_fin ?_
              refine goon_two 0 12 (by kernel_rfl) ?_ ?_
              · refine hOp_keeps (by rfl) rfl (fun n1 => ?_)
                go_wp2_with fail
                generalize hwe : World.alloc _ (.cells #[] 9) = we
                have HE := Lib.hid (show Ow nc 1 we wr0.heap.size 9 (.slice (some ⟨wr0.heap.size, 0, none⟩) 0 0) [] from by rw [← hwe]; exact Ow.empty' (by first | rfl | simp) (by exact Nat.le_refl _))
                have Hbe := Lib.hid (show Below wr0.heap.size wr0 we from by rw [← hwe]; exact (below_drewN (Below.refl wr0.heap.size wr0) _).alloc (by exact Nat.le_refl _) _)
                have Hze := Lib.hid (show we.heap.size = wr0.heap.size + 1 from by rw [← hwe]; simp)
                clear hwe
                have hSw := HSW.out we Hbe.out
                show _ ∧ _
                refine ⟨hSw, ?_⟩
                refine goon_two 4 12 (by kernel_rfl) ?_ ?_
                · refine hOp_keeps (by rfl) rfl (fun n2 => ?_)
                  go_wp2_with (at_builtin; refine wpList_append_sl _ rfl _ _ _ rfl wr0.heap.size 9 i0 _ 16 Tryd.underlying22 hi0 hz0 hz1 hz2 rfl (by omega) nc_len nc_one (.slice (some ⟨wr0.heap.size, 0, none⟩) 0 0) _ [] (cur.take k) rfl rfl (by exact HE.out.drewN n2) (by exact (HB.out.below_ Hbe.out).drewN n2) (by simp only [maxLen, List.length_nil]; rw [T1.out]; omega) (by simp only [List.length_nil]; rw [T1.out]; omega) (by exact (Hbe.out).size) ?_; intro vt wt hownt hgt hmvt)
                  have hbt : Below wr0.heap.size wr0 wt := (below_drewN Hbe.out n2).grown hgt (Hbe.out).size (fun k hk => by have hk' : wr0.heap.size = k := (by simpa [Value.ownBlock] using hk); omega)
                  obtain ⟨At, cpt, et, _, _⟩ := hownt.shape
                  rw [List.nil_append, T1.out] at et
                  subst et
                  rw [List.nil_append] at hownt
                  have HBt := Lib.hid hbt
                  have HT1 := Lib.hid hownt
                  have hSw := HSW.out wt hbt
                  clear hownt hgt hmvt hbt
                  show _ ∧ _
                  refine ⟨hSw, ?_⟩
                  refine goon_walk [12, 13, 17, 18] 0 rfl (by kernel_rfl) (by kernel_rfl) (fun w n h => h) ?_
                  refine wpKind_keeps (by rfl) rfl (fun n3 => ?_)
                  go_wp2_with fail
                  generalize hwx : World.alloc _ (.cells #[.string (ba x)] 9) = wx
                  have HX := Lib.hid (show Sl nc 1 wx (.slice (some ⟨wt.heap.size, 0, none⟩) 1 1) [x] (fun b => b = wt.heap.size) from by rw [← hwx]; exact Sl.newEq (c := nc) (size := 1) x (by first | rfl | simp))
                  have Hbx := Lib.hid (show Below wr0.heap.size wr0 wx from by rw [← hwx]; exact (below_drewN HBt.out _).alloc (by exact HBt.out.size) _)
                  have Hzx := Lib.hid (show wx.heap.size = wt.heap.size + 1 from by rw [← hwx]; simp)
                  have HT2 := Lib.hid (show Ow nc 1 wx wr0.heap.size 9 (.slice At k cpt) (cur.take k) from by rw [← hwx]; exact (HT1.out.drewN _).alloc _)
                  clear hwx
                  have hSw := HSW.out wx Hbx.out
                  show _ ∧ _
                  refine ⟨hSw, ?_⟩
                  clear HT1 HBt Hzx Hze
                  have HX1 := HX
                  have HT1 := HT2
                  have HBt := Hbx
                  clear HX HT2 Hbx
                  refine wpKind_keeps (by rfl) rfl (fun n8 => ?_)
                  go_wp2_with (at_builtin; refine wpList_append_sl _ rfl _ _ _ rfl wr0.heap.size 9 i0 _ 16 Tryd.underlying22 hi0 hz0 hz1 hz2 rfl (by omega) nc_len nc_one (.slice At k cpt) _ (cur.take k) [x] rfl rfl (by exact HT1.out.drewN n8) (by exact HX1.out.drewN n8) (by rw [T1.out]; simp only [maxLen, List.length_cons, List.length_nil]; omega) (by rw [T1.out]; simp only [List.length_cons, List.length_nil]; omega) (by exact HBt.out.size) ?_; intro v2 w2 hown2 hg2 hmv2)
                  have hb2 : Below wr0.heap.size wr0 w2 := (below_drewN HBt.out n8).grown hg2 HBt.out.size (fun k hk => (HT1.out.lt hk).1)
                  have HB2 := Lib.hid hb2
                  have HO2 := Lib.hid hown2
                  obtain ⟨A2, cp2, e2, _, _⟩ := hown2.shape
                  rw [T2.out] at e2
                  subst e2
                  clear hown2 hg2 hmv2 hb2 HT1 HX1 HBt
                  show _ ∧ _
                  refine ⟨HSW.out w2 HB2.out, ?_⟩
                  refine wpKind_keeps (by rfl) rfl (fun n9 => ?_)
                  go_wp2_with (at_builtin; refine wpList_append_sl _ rfl _ _ _ rfl wr0.heap.size 9 i0 _ 16 Tryd.underlying22 hi0 hz0 hz1 hz2 rfl (by omega) nc_len nc_one _ _ (cur.take k ++ [x]) (cur.drop k) rfl rfl (by exact HO2.out.drewN n9) (by exact (HD.out.below_ HB2.out).drewN n9) (by rw [T2.out, T3.out]; simp only [maxLen]; omega) (by rw [T2.out, T3.out]; omega) (by exact HB2.out.size) ?_; intro v3 w3 hown3 hg3 hmv3)
                  have hb3 : Below wr0.heap.size wr0 w3 := (below_drewN HB2.out n9).grown hg3 HB2.out.size (fun k hk => (HO2.out.lt hk).1)
                  have R : RSRel l w v3 (.int .i64 ((i : Int) + 1)) w3 := RSRel.next hlt Hbel.out hb3 (by simpa using hown3) HS'
                  have HR := Lib.hid R
                  have HW3 := Lib.hid (HSW.out w3 hb3)
                  clear hown3 hg3 hmv3 hb3 R HB2 HO2
                  show _ ∧ _
                  refine ⟨HW3.out, ?_⟩
                  repeat (refine wpKind_free (v := ?_) (by rfl) rfl (by rfl) ?_ ?_; rotate_left 1; (focus (intro wy; go_simp; try with_reducible rfl; done)); try simp only [Act.put, List.setIfInBounds_toArray, List.set_cons_zero, List.set_cons_succ])
                  refine wpKind_fin ?_
                  refine goon_end (by kernel_rfl) (fun n10 => ?_)
                  clear hSw
                  go_wp2_with fail
                  go_roundw
                  case rel => first | exact HR.out.drewN n10 | ((repeat apply Exists.intro); exact ⟨HR.out.drewN n10, rfl⟩)
                  case measure => simp [intOf]; omega
                · refine hOp_keeps (by rfl) rfl (fun n2 => ?_)
                  go_wp2_with fail
                  generalize hwx : World.alloc _ (.cells #[.string (ba x)] 9) = wx
                  have HX := Lib.hid (show Sl nc 1 wx (.slice (some ⟨we.heap.size, 0, none⟩) 1 1) [x] (fun b => b = we.heap.size) from by rw [← hwx]; exact Sl.newEq (c := nc) (size := 1) x (by first | rfl | simp))
                  have Hbx := Lib.hid (show Below wr0.heap.size wr0 wx from by rw [← hwx]; exact (below_drewN Hbe.out _).alloc (by exact Hbe.out.size) _)
                  have Hzx := Lib.hid (show wx.heap.size = we.heap.size + 1 from by rw [← hwx]; simp)
                  have HE2 := Lib.hid (show Ow nc 1 wx wr0.heap.size 9 (.slice (some ⟨wr0.heap.size, 0, none⟩) 0 0) [] from by rw [← hwx]; exact (HE.out.drewN _).alloc _)
                  clear hwx
                  have hSw := HSW.out wx Hbx.out
                  show _ ∧ _
                  refine ⟨hSw, ?_⟩
                  refine goon_walk [4, 13, 17, 18] 0 rfl (by kernel_rfl) (by kernel_rfl) (fun w n h => h) ?_
                  refine wpKind_keeps (by rfl) rfl (fun n3 => ?_)
                  go_wp2_with (at_builtin; refine wpList_append_sl _ rfl _ _ _ rfl wr0.heap.size 9 i0 _ 16 Tryd.underlying22 hi0 hz0 hz1 hz2 rfl (by omega) nc_len nc_one (.slice (some ⟨wr0.heap.size, 0, none⟩) 0 0) _ [] (cur.take k) rfl rfl (by exact HE2.out.drewN n3) (by exact (HB.out.below_ Hbx.out).drewN n3) (by simp only [maxLen, List.length_nil]; rw [T1.out]; omega) (by simp only [List.length_nil]; rw [T1.out]; omega) (by exact (Hbx.out).size) ?_; intro vt wt hownt hgt hmvt)
                  have hbt : Below wr0.heap.size wr0 wt := (below_drewN Hbx.out n3).grown hgt (Hbx.out).size (fun k hk => by have hk' : wr0.heap.size = k := (by simpa [Value.ownBlock] using hk); omega)
                  obtain ⟨At, cpt, et, _, _⟩ := hownt.shape
                  rw [List.nil_append, T1.out] at et
                  subst et
                  rw [List.nil_append] at hownt
                  have HX1 := Lib.hid ((HX.out.drewN n3).grown hgt (fun b hb => by subst hb; have := Hze.out; simp [Value.ownBlock]; omega))
                  have HBt := Lib.hid hbt
                  have HT1 := Lib.hid hownt
                  have hSw := HSW.out wt hbt
                  clear hownt hgt hmvt hbt
                  show _ ∧ _
                  refine ⟨hSw, ?_⟩
                  clear HX HE2 Hbx Hzx Hze
                  refine wpKind_keeps (by rfl) rfl (fun n8 => ?_)
                  go_wp2_with (at_builtin; refine wpList_append_sl _ rfl _ _ _ rfl wr0.heap.size 9 i0 _ 16 Tryd.underlying22 hi0 hz0 hz1 hz2 rfl (by omega) nc_len nc_one (.slice At k cpt) _ (cur.take k) [x] rfl rfl (by exact HT1.out.drewN n8) (by exact HX1.out.drewN n8) (by rw [T1.out]; simp only [maxLen, List.length_cons, List.length_nil]; omega) (by rw [T1.out]; simp only [List.length_cons, List.length_nil]; omega) (by exact HBt.out.size) ?_; intro v2 w2 hown2 hg2 hmv2)
                  have hb2 : Below wr0.heap.size wr0 w2 := (below_drewN HBt.out n8).grown hg2 HBt.out.size (fun k hk => (HT1.out.lt hk).1)
                  have HB2 := Lib.hid hb2
                  have HO2 := Lib.hid hown2
                  obtain ⟨A2, cp2, e2, _, _⟩ := hown2.shape
                  rw [T2.out] at e2
                  subst e2
                  clear hown2 hg2 hmv2 hb2 HT1 HX1 HBt
                  show _ ∧ _
                  refine ⟨HSW.out w2 HB2.out, ?_⟩
                  refine wpKind_keeps (by rfl) rfl (fun n9 => ?_)
                  go_wp2_with (at_builtin; refine wpList_append_sl _ rfl _ _ _ rfl wr0.heap.size 9 i0 _ 16 Tryd.underlying22 hi0 hz0 hz1 hz2 rfl (by omega) nc_len nc_one _ _ (cur.take k ++ [x]) (cur.drop k) rfl rfl (by exact HO2.out.drewN n9) (by exact (HD.out.below_ HB2.out).drewN n9) (by rw [T2.out, T3.out]; simp only [maxLen]; omega) (by rw [T2.out, T3.out]; omega) (by exact HB2.out.size) ?_; intro v3 w3 hown3 hg3 hmv3)
                  have hb3 : Below wr0.heap.size wr0 w3 := (below_drewN HB2.out n9).grown hg3 HB2.out.size (fun k hk => (HO2.out.lt hk).1)
                  have R : RSRel l w v3 (.int .i64 ((i : Int) + 1)) w3 := RSRel.next hlt Hbel.out hb3 (by simpa using hown3) HS'
                  have HR := Lib.hid R
                  have HW3 := Lib.hid (HSW.out w3 hb3)
                  clear hown3 hg3 hmv3 hb3 R HB2 HO2
                  show _ ∧ _
                  refine ⟨HW3.out, ?_⟩
                  repeat (refine wpKind_free (v := ?_) (by rfl) rfl (by rfl) ?_ ?_; rotate_left 1; (focus (intro wy; go_simp; try with_reducible rfl; done)); try simp only [Act.put, List.setIfInBounds_toArray, List.set_cons_zero, List.set_cons_succ])
                  refine wpKind_fin ?_
                  refine goon_end (by kernel_rfl) (fun n10 => ?_)
                  clear hSw
                  go_wp2_with fail
                  go_roundw
                  case rel => first | exact HR.out.drewN n10 | ((repeat apply Exists.intro); exact ⟨HR.out.drewN n10, rfl⟩)
                  case measure => simp [intOf]; omega
              · refine hOp_keeps (by rfl) rfl (fun n1 => ?_)
                go_wp2_with fail
                generalize hwx : World.alloc _ (.cells #[.string (ba x)] 9) = wx
                have HX := Lib.hid (show Sl nc 1 wx (.slice (some ⟨wr0.heap.size, 0, none⟩) 1 1) [x] (fun b => b = wr0.heap.size) from by rw [← hwx]; exact Sl.newEq (c := nc) (size := 1) x (by first | rfl | simp))
                have Hbx := Lib.hid (show Below wr0.heap.size wr0 wx from by rw [← hwx]; exact (below_drewN (Below.refl wr0.heap.size wr0) _).alloc (by exact Nat.le_refl _) _)
                have Hzx := Lib.hid (show wx.heap.size = wr0.heap.size + 1 from by rw [← hwx]; simp)
                clear hwx
                have hSw := HSW.out wx Hbx.out
                show _ ∧ _
                refine ⟨hSw, ?_⟩
                refine goon_walk [0, 4, 13, 17, 18] 0 rfl (by kernel_rfl) (by kernel_rfl) (fun w n h => h) ?_
                refine wpKind_keeps (by rfl) rfl (fun n2 => ?_)
                go_wp2_with fail
                generalize hwe : World.alloc _ (.cells #[] 9) = we
                have HE := Lib.hid (show Ow nc 1 we wr0.heap.size 9 (.slice (some ⟨wx.heap.size, 0, none⟩) 0 0) [] from by rw [← hwe]; exact Ow.empty' (by first | rfl | simp) (by exact Hbx.out.size))
                have Hbe := Lib.hid (show Below wr0.heap.size wr0 we from by rw [← hwe]; exact (below_drewN Hbx.out _).alloc (by exact Hbx.out.size) _)
                have Hze := Lib.hid (show we.heap.size = wx.heap.size + 1 from by rw [← hwe]; simp)
                have HX2 := Lib.hid (show Sl nc 1 we (.slice (some ⟨wr0.heap.size, 0, none⟩) 1 1) [x] (fun b => b = wr0.heap.size) from by rw [← hwe]; exact (HX.out.drewN _).alloc _)
                clear hwe
                have hSw := HSW.out we Hbe.out
                show _ ∧ _
                refine ⟨hSw, ?_⟩
                refine wpKind_keeps (by rfl) rfl (fun n3 => ?_)
                go_wp2_with (at_builtin; refine wpList_append_sl _ rfl _ _ _ rfl wr0.heap.size 9 i0 _ 16 Tryd.underlying22 hi0 hz0 hz1 hz2 rfl (by omega) nc_len nc_one (.slice (some ⟨wx.heap.size, 0, none⟩) 0 0) _ [] (cur.take k) rfl rfl (by exact HE.out.drewN n3) (by exact (HB.out.below_ Hbe.out).drewN n3) (by simp only [maxLen, List.length_nil]; rw [T1.out]; omega) (by simp only [List.length_nil]; rw [T1.out]; omega) (by exact (Hbe.out).size) ?_; intro vt wt hownt hgt hmvt)
                have hbt : Below wr0.heap.size wr0 wt := (below_drewN Hbe.out n3).grown hgt (Hbe.out).size (fun k hk => by have hk' : wx.heap.size = k := (by simpa [Value.ownBlock] using hk); have := Hbx.out.size; omega)
                obtain ⟨At, cpt, et, _, _⟩ := hownt.shape
                rw [List.nil_append, T1.out] at et
                subst et
                rw [List.nil_append] at hownt
                have HX1 := Lib.hid ((HX2.out.drewN n3).grown hgt (fun b hb => by subst hb; have := Hzx.out; simp [Value.ownBlock]; omega))
                have HBt := Lib.hid hbt
                have HT1 := Lib.hid hownt
                have hSw := HSW.out wt hbt
                clear hownt hgt hmvt hbt
                show _ ∧ _
                refine ⟨hSw, ?_⟩
                clear HX HX2 HE Hbe Hbx Hzx Hze
                refine wpKind_keeps (by rfl) rfl (fun n8 => ?_)
                go_wp2_with (at_builtin; refine wpList_append_sl _ rfl _ _ _ rfl wr0.heap.size 9 i0 _ 16 Tryd.underlying22 hi0 hz0 hz1 hz2 rfl (by omega) nc_len nc_one (.slice At k cpt) _ (cur.take k) [x] rfl rfl (by exact HT1.out.drewN n8) (by exact HX1.out.drewN n8) (by rw [T1.out]; simp only [maxLen, List.length_cons, List.length_nil]; omega) (by rw [T1.out]; simp only [List.length_cons, List.length_nil]; omega) (by exact HBt.out.size) ?_; intro v2 w2 hown2 hg2 hmv2)
                have hb2 : Below wr0.heap.size wr0 w2 := (below_drewN HBt.out n8).grown hg2 HBt.out.size (fun k hk => (HT1.out.lt hk).1)
                have HB2 := Lib.hid hb2
                have HO2 := Lib.hid hown2
                obtain ⟨A2, cp2, e2, _, _⟩ := hown2.shape
                rw [T2.out] at e2
                subst e2
                clear hown2 hg2 hmv2 hb2 HT1 HX1 HBt
                show _ ∧ _
                refine ⟨HSW.out w2 HB2.out, ?_⟩
                refine wpKind_keeps (by rfl) rfl (fun n9 => ?_)
                go_wp2_with (at_builtin; refine wpList_append_sl _ rfl _ _ _ rfl wr0.heap.size 9 i0 _ 16 Tryd.underlying22 hi0 hz0 hz1 hz2 rfl (by omega) nc_len nc_one _ _ (cur.take k ++ [x]) (cur.drop k) rfl rfl (by exact HO2.out.drewN n9) (by exact (HD.out.below_ HB2.out).drewN n9) (by rw [T2.out, T3.out]; simp only [maxLen]; omega) (by rw [T2.out, T3.out]; omega) (by exact HB2.out.size) ?_; intro v3 w3 hown3 hg3 hmv3)
                have hb3 : Below wr0.heap.size wr0 w3 := (below_drewN HB2.out n9).grown hg3 HB2.out.size (fun k hk => (HO2.out.lt hk).1)
                have R : RSRel l w v3 (.int .i64 ((i : Int) + 1)) w3 := RSRel.next hlt Hbel.out hb3 (by simpa using hown3) HS'
                have HR := Lib.hid R
                have HW3 := Lib.hid (HSW.out w3 hb3)
                clear hown3 hg3 hmv3 hb3 R HB2 HO2
                show _ ∧ _
                refine ⟨HW3.out, ?_⟩
                repeat (refine wpKind_free (v := ?_) (by rfl) rfl (by rfl) ?_ ?_; rotate_left 1; (focus (intro wy; go_simp; try with_reducible rfl; done)); try simp only [Act.put, List.setIfInBounds_toArray, List.set_cons_zero, List.set_cons_succ])
                refine wpKind_fin ?_
                refine goon_end (by kernel_rfl) (fun n10 => ?_)
                clear hSw
                go_wp2_with fail
                go_roundw
                case rel => first | exact HR.out.drewN n10 | ((repeat apply Exists.intro); exact ⟨HR.out.drewN n10, rfl⟩)
                case measure => simp [intOf]; omega
        · obtain ⟨b3, o3, rfl⟩ := (Hown.out.sl nc_len).addr (i := k - 1) (by omega)
          have hcy := (Hown.out.sl nc_len).name (i := k - 1) (by omega)
          obtain ⟨y, Hy⟩ : ∃ y, Hid (cur[k - 1]'(by omega) = y) := ⟨_, Lib.hid rfl⟩
          rw [Hy.out] at hcy
          have r1 : (0 : Int) < (k : Int) := by omega
          have r0 : decide (0 < k) = true := decide_eq_true (by omega)
          have r3 : ((k : Int) - 1).toNat = k - 1 := by omega
          have r4 : IntKind.i64.wrap ((k : Int) - 1) = (k : Int) - 1 := IntWalk.i64_in _ (by omega)
          have r5 : (0 : Int) ≤ (k : Int) - 1 := by omega
          have r6 : (k : Int) - 1 < (cur.length : Int) := by omega
          have r7 : k - 1 < cur.length := by omega
          by_cases hg : x < y
          · have hd : Op.bytesLess (ba y).toList (ba x).toList = false := by rw [ba_toList, ba_toList, bytesLess_eq]; exact decide_eq_false (fun h => List.lt_irrefl _ (List.lt_trans h hg))
            have hd2 : ((ba y).toList == (ba x).toList) = false := by rw [ba_toList, ba_toList]; exact beq_eq_false_iff_ne.2 (fun e => by rw [e] at hg; exact List.lt_irrefl _ hg)
            have HAB := Lib.hid (show ∀ j (_ : j < cur.length), k - 1 ≤ j → x < cur[j] from fun j hj h => by
              by_cases he : j = k - 1
              · subst he; rw [Hy.out]; exact hg
              · exact hab.out j hj (by omega))
            clear hg
            go_wp2_with fail
            go_quiet (fail)
            go_wp2_with fail
            go_roundw
            case rel => exact ⟨k - 1, _, by omega, by go_num, HAB, by first | rfl | exact World.drewN_drewN _ _ _⟩
            case measure => simp [intOf]; omega
          · have HLE := Lib.hid (show ∀ j (_ : j < cur.length), j < k → cur[j] ≤ x from fun j hj h => by
              have := up_le HUp.out (show j ≤ k - 1 by omega) r7
              rw [Hy.out] at this
              exact List.le_trans this (List.not_lt.1 hg))
            have HAB := hab
            have hd : (Op.bytesLess (ba y).toList (ba x).toList || (ba y).toList == (ba x).toList) = true := by
              rw [ba_toList, ba_toList, bytesLess_eq, Bool.or_eq_true, decide_eq_true_eq, beq_iff_eq]
              by_cases e : y = x
              · exact .inr e
              · refine .inl (List.not_le.1 fun h => e (List.le_antisymm (List.not_lt.1 hg) h))
            clear hg
            go_wp2_with fail
            go_quiet (fail)
            have s3 : (cur.length : Int) ≤ (c3 : Int) := by omega
            have s4 : (k : Int) ≤ (c3 : Int) := by omega
            have hfr := Sl.from_ (Hown.out.sl nc_len) hk
            rw [Nat.mul_one] at hfr
            by_cases hck : c3 = k
            · obtain rfl : k = c3 := hck.symm
              rw [if_pos rfl, Nat.sub_self, show cur.length - k = 0 from by omega] at hfr
              have HD := Lib.hid hfr
              clear hfr hck
              have hM := ins_sorted HUp.out HLE.out HAB.out
              have HS' := Lib.hid (HS.out.trans hM)
              have s2 : (k : Int) ≤ (cur.length : Int) := by omega
              have s5 : (0 : Int) ≤ (k : Int) := by omega
              have t1 : (cur.take k).length = k := by rw [List.length_take]; omega
              have t2 : (cur.take k ++ [x]).length = k + 1 := by rw [List.length_append, t1]; rfl
              have t3 : (cur.drop k).length = cur.length - k := List.length_drop
              have T1 := Lib.hid t1
              have T2 := Lib.hid t2
              have T3 := Lib.hid t3
              have HB := Lib.hid ((Ow.begin nc_len Hown.out (k := k) (by omega)).sl nc_len)
              have HSW := Lib.hid (fun (wy : World) (h : Below wr0.heap.size wr0 wy) => And.intro ((h.cell (p := ⟨p, 0, none⟩) Hplt.out).trans hcp) ((h.cell (p := ⟨b1, o1 + i, none⟩) Hblt.out).trans hcx))
              have hSw := And.intro hcp hcx
              clear hM t1 t2 t3
              go_wp2_with fail
              refine wp_region_goon (fun w' => w'.cell? ⟨p, 0, none⟩ = some (.slice (some ⟨b1, o1, none⟩) l.length ca) ∧ w'.cell? ⟨b1, o1 + i, none⟩ = some (.string (ba x))) [0, 4, 12, 13, 17] [] [8, 11] [1, 2, 3, 5, 6, 7, 9, 10, 14, 15, 16, 18] (by kernel_rfl) ?_
              refine goon_walk [1, 2, 3, 5, 6, 7, 8, 9, 10, 11, 14, 15, 16] 6 rfl (by kernel_rfl) (by kernel_rfl) (fun w n h => h) ?_
              repeat (first | (refine wpKind_free (v := ?_) (by rfl) rfl (by rfl) ?_ ?_; rotate_left 1; (focus (intro wy; go_simp; try with_reducible rfl; done)); try simp only [Act.put, List.setIfInBounds_toArray, List.set_cons_zero, List.set_cons_succ]) | (refine wpKind_held (v := ?_) (by rfl) rfl (by rfl) hSw ?_ ?_; rotate_left 1; (focus (intro wy hSy; obtain ⟨s0, s1⟩ := hSy; go_simp; try with_reducible rfl; done)); try simp only [Act.put, List.setIfInBounds_toArray, List.set_cons_zero, List.set_cons_succ]))
              refine wpKind_fin ?_
              refine goon_two 0 12 (by kernel_rfl) ?_ ?_
              · refine hOp_keeps (by rfl) rfl (fun n1 => ?_)
                go_wp2_with fail
                generalize hwe : World.alloc _ (.cells #[] 9) = we
                have HE := Lib.hid (show Ow nc 1 we wr0.heap.size 9 (.slice (some ⟨wr0.heap.size, 0, none⟩) 0 0) [] from by rw [← hwe]; exact Ow.empty' (by first | rfl | simp) (by exact Nat.le_refl _))
                have Hbe := Lib.hid (show Below wr0.heap.size wr0 we from by rw [← hwe]; exact (below_drewN (Below.refl wr0.heap.size wr0) _).alloc (by exact Nat.le_refl _) _)
                have Hze := Lib.hid (show we.heap.size = wr0.heap.size + 1 from by rw [← hwe]; simp)
                clear hwe
                have hSw := HSW.out we Hbe.out
                show _ ∧ _
                refine ⟨hSw, ?_⟩
                refine goon_two 4 12 (by kernel_rfl) ?_ ?_
                · refine hOp_keeps (by rfl) rfl (fun n2 => ?_)
                  go_wp2_with (at_builtin; refine wpList_append_sl _ rfl _ _ _ rfl wr0.heap.size 9 i0 _ 16 Tryd.underlying22 hi0 hz0 hz1 hz2 rfl (by omega) nc_len nc_one (.slice (some ⟨wr0.heap.size, 0, none⟩) 0 0) _ [] (cur.take k) rfl rfl (by exact HE.out.drewN n2) (by exact (HB.out.below_ Hbe.out).drewN n2) (by simp only [maxLen, List.length_nil]; rw [T1.out]; omega) (by simp only [List.length_nil]; rw [T1.out]; omega) (by exact (Hbe.out).size) ?_; intro vt wt hownt hgt hmvt)
                  have hbt : Below wr0.heap.size wr0 wt := (below_drewN Hbe.out n2).grown hgt (Hbe.out).size (fun k hk => by have hk' : wr0.heap.size = k := (by simpa [Value.ownBlock] using hk); omega)
                  obtain ⟨At, cpt, et, _, _⟩ := hownt.shape
                  rw [List.nil_append, T1.out] at et
                  subst et
                  rw [List.nil_append] at hownt
                  have HBt := Lib.hid hbt
                  have HT1 := Lib.hid hownt
                  have hSw := HSW.out wt hbt
                  clear hownt hgt hmvt hbt
                  show _ ∧ _
                  refine ⟨hSw, ?_⟩
                  refine goon_walk [12, 13, 17, 18] 0 rfl (by kernel_rfl) (by kernel_rfl) (fun w n h => h) ?_
                  refine wpKind_keeps (by rfl) rfl (fun n3 => ?_)
                  go_wp2_with fail
                  generalize hwx : World.alloc _ (.cells #[.string (ba x)] 9) = wx
                  have HX := Lib.hid (show Sl nc 1 wx (.slice (some ⟨wt.heap.size, 0, none⟩) 1 1) [x] (fun b => b = wt.heap.size) from by rw [← hwx]; exact Sl.newEq (c := nc) (size := 1) x (by first | rfl | simp))
                  have Hbx := Lib.hid (show Below wr0.heap.size wr0 wx from by rw [← hwx]; exact (below_drewN HBt.out _).alloc (by exact HBt.out.size) _)
                  have Hzx := Lib.hid (show wx.heap.size = wt.heap.size + 1 from by rw [← hwx]; simp)
                  have HT2 := Lib.hid (show Ow nc 1 wx wr0.heap.size 9 (.slice At k cpt) (cur.take k) from by rw [← hwx]; exact (HT1.out.drewN _).alloc _)
                  clear hwx
                  have hSw := HSW.out wx Hbx.out
                  show _ ∧ _
                  refine ⟨hSw, ?_⟩
                  clear HT1 HBt Hzx Hze
                  have HX1 := HX
                  have HT1 := HT2
                  have HBt := Hbx
                  clear HX HT2 Hbx
                  refine wpKind_keeps (by rfl) rfl (fun n8 => ?_)
                  go_wp2_with (at_builtin; refine wpList_append_sl _ rfl _ _ _ rfl wr0.heap.size 9 i0 _ 16 Tryd.underlying22 hi0 hz0 hz1 hz2 rfl (by omega) nc_len nc_one (.slice At k cpt) _ (cur.take k) [x] rfl rfl (by exact HT1.out.drewN n8) (by exact HX1.out.drewN n8) (by rw [T1.out]; simp only [maxLen, List.length_cons, List.length_nil]; omega) (by rw [T1.out]; simp only [List.length_cons, List.length_nil]; omega) (by exact HBt.out.size) ?_; intro v2 w2 hown2 hg2 hmv2)
                  have hb2 : Below wr0.heap.size wr0 w2 := (below_drewN HBt.out n8).grown hg2 HBt.out.size (fun k hk => (HT1.out.lt hk).1)
                  have HB2 := Lib.hid hb2
                  have HO2 := Lib.hid hown2
                  obtain ⟨A2, cp2, e2, _, _⟩ := hown2.shape
                  rw [T2.out] at e2
                  subst e2
                  clear hown2 hg2 hmv2 hb2 HT1 HX1 HBt
                  show _ ∧ _
                  refine ⟨HSW.out w2 HB2.out, ?_⟩
                  refine wpKind_keeps (by rfl) rfl (fun n9 => ?_)
                  go_wp2_with (at_builtin; refine wpList_append_sl _ rfl _ _ _ rfl wr0.heap.size 9 i0 _ 16 Tryd.underlying22 hi0 hz0 hz1 hz2 rfl (by omega) nc_len nc_one _ _ (cur.take k ++ [x]) (cur.drop k) rfl rfl (by exact HO2.out.drewN n9) (by exact (HD.out.below_ HB2.out).drewN n9) (by rw [T2.out, T3.out]; simp only [maxLen]; omega) (by rw [T2.out, T3.out]; omega) (by exact HB2.out.size) ?_; intro v3 w3 hown3 hg3 hmv3)
                  have hb3 : Below wr0.heap.size wr0 w3 := (below_drewN HB2.out n9).grown hg3 HB2.out.size (fun k hk => (HO2.out.lt hk).1)
                  have R : RSRel l w v3 (.int .i64 ((i : Int) + 1)) w3 := RSRel.next hlt Hbel.out hb3 (by simpa using hown3) HS'
                  have HR := Lib.hid R
                  have HW3 := Lib.hid (HSW.out w3 hb3)
                  clear hown3 hg3 hmv3 hb3 R HB2 HO2
                  show _ ∧ _
                  refine ⟨HW3.out, ?_⟩
                  repeat (refine wpKind_free (v := ?_) (by rfl) rfl (by rfl) ?_ ?_; rotate_left 1; (focus (intro wy; go_simp; try with_reducible rfl; done)); try simp only [Act.put, List.setIfInBounds_toArray, List.set_cons_zero, List.set_cons_succ])
                  refine wpKind_fin ?_
                  refine goon_end (by kernel_rfl) (fun n10 => ?_)
                  clear hSw
                  go_wp2_with fail
                  go_roundw
                  case rel => first | exact HR.out.drewN n10 | ((repeat apply Exists.intro); exact ⟨HR.out.drewN n10, rfl⟩)
                  case measure => simp [intOf]; omega
                · refine hOp_keeps (by rfl) rfl (fun n2 => ?_)
                  go_wp2_with fail
                  generalize hwx : World.alloc _ (.cells #[.string (ba x)] 9) = wx
                  have HX := Lib.hid (show Sl nc 1 wx (.slice (some ⟨we.heap.size, 0, none⟩) 1 1) [x] (fun b => b = we.heap.size) from by rw [← hwx]; exact Sl.newEq (c := nc) (size := 1) x (by first | rfl | simp))
                  have Hbx := Lib.hid (show Below wr0.heap.size wr0 wx from by rw [← hwx]; exact (below_drewN Hbe.out _).alloc (by exact Hbe.out.size) _)
                  have Hzx := Lib.hid (show wx.heap.size = we.heap.size + 1 from by rw [← hwx]; simp)
                  have HE2 := Lib.hid (show Ow nc 1 wx wr0.heap.size 9 (.slice (some ⟨wr0.heap.size, 0, none⟩) 0 0) [] from by rw [← hwx]; exact (HE.out.drewN _).alloc _)
                  clear hwx
                  have hSw := HSW.out wx Hbx.out
                  show _ ∧ _
                  refine ⟨hSw, ?_⟩
                  refine goon_walk [4, 13, 17, 18] 0 rfl (by kernel_rfl) (by kernel_rfl) (fun w n h => h) ?_
                  refine wpKind_keeps (by rfl) rfl (fun n3 => ?_)
                  go_wp2_with (at_builtin; refine wpList_append_sl _ rfl _ _ _ rfl wr0.heap.size 9 i0 _ 16 Tryd.underlying22 hi0 hz0 hz1 hz2 rfl (by omega) nc_len nc_one (.slice (some ⟨wr0.heap.size, 0, none⟩) 0 0) _ [] (cur.take k) rfl rfl (by exact HE2.out.drewN n3) (by exact (HB.out.below_ Hbx.out).drewN n3) (by simp only [maxLen, List.length_nil]; rw [T1.out]; omega) (by simp only [List.length_nil]; rw [T1.out]; omega) (by exact (Hbx.out).size) ?_; intro vt wt hownt hgt hmvt)
                  have hbt : Below wr0.heap.size wr0 wt := (below_drewN Hbx.out n3).grown hgt (Hbx.out).size (fun k hk => by have hk' : wr0.heap.size = k := (by simpa [Value.ownBlock] using hk); omega)
                  obtain ⟨At, cpt, et, _, _⟩ := hownt.shape
                  rw [List.nil_append, T1.out] at et
                  subst et
                  rw [List.nil_append] at hownt
                  have HX1 := Lib.hid ((HX.out.drewN n3).grown hgt (fun b hb => by subst hb; have := Hze.out; simp [Value.ownBlock]; omega))
                  have HBt := Lib.hid hbt
                  have HT1 := Lib.hid hownt
                  have hSw := HSW.out wt hbt
                  clear hownt hgt hmvt hbt
                  show _ ∧ _
                  refine ⟨hSw, ?_⟩
                  clear HX HE2 Hbx Hzx Hze
                  refine wpKind_keeps (by rfl) rfl (fun n8 => ?_)
                  go_wp2_with (at_builtin; refine wpList_append_sl _ rfl _ _ _ rfl wr0.heap.size 9 i0 _ 16 Tryd.underlying22 hi0 hz0 hz1 hz2 rfl (by omega) nc_len nc_one (.slice At k cpt) _ (cur.take k) [x] rfl rfl (by exact HT1.out.drewN n8) (by exact HX1.out.drewN n8) (by rw [T1.out]; simp only [maxLen, List.length_cons, List.length_nil]; omega) (by rw [T1.out]; simp only [List.length_cons, List.length_nil]; omega) (by exact HBt.out.size) ?_; intro v2 w2 hown2 hg2 hmv2)
                  have hb2 : Below wr0.heap.size wr0 w2 := (below_drewN HBt.out n8).grown hg2 HBt.out.size (fun k hk => (HT1.out.lt hk).1)
                  have HB2 := Lib.hid hb2
                  have HO2 := Lib.hid hown2
                  obtain ⟨A2, cp2, e2, _, _⟩ := hown2.shape
                  rw [T2.out] at e2
                  subst e2
                  clear hown2 hg2 hmv2 hb2 HT1 HX1 HBt
                  show _ ∧ _
                  refine ⟨HSW.out w2 HB2.out, ?_⟩
                  refine wpKind_keeps (by rfl) rfl (fun n9 => ?_)
                  go_wp2_with (at_builtin; refine wpList_append_sl _ rfl _ _ _ rfl wr0.heap.size 9 i0 _ 16 Tryd.underlying22 hi0 hz0 hz1 hz2 rfl (by omega) nc_len nc_one _ _ (cur.take k ++ [x]) (cur.drop k) rfl rfl (by exact HO2.out.drewN n9) (by exact (HD.out.below_ HB2.out).drewN n9) (by rw [T2.out, T3.out]; simp only [maxLen]; omega) (by rw [T2.out, T3.out]; omega) (by exact HB2.out.size) ?_; intro v3 w3 hown3 hg3 hmv3)
                  have hb3 : Below wr0.heap.size wr0 w3 := (below_drewN HB2.out n9).grown hg3 HB2.out.size (fun k hk => (HO2.out.lt hk).1)
                  have R : RSRel l w v3 (.int .i64 ((i : Int) + 1)) w3 := RSRel.next hlt Hbel.out hb3 (by simpa using hown3) HS'
                  have HR := Lib.hid R
                  have HW3 := Lib.hid (HSW.out w3 hb3)
                  clear hown3 hg3 hmv3 hb3 R HB2 HO2
                  show _ ∧ _
                  refine ⟨HW3.out, ?_⟩
                  repeat (refine wpKind_free (v := ?_) (by rfl) rfl (by rfl) ?_ ?_; rotate_left 1; (focus (intro wy; go_simp; try with_reducible rfl; done)); try simp only [Act.put, List.setIfInBounds_toArray, List.set_cons_zero, List.set_cons_succ])
                  refine wpKind_fin ?_
                  refine goon_end (by kernel_rfl) (fun n10 => ?_)
                  clear hSw
                  go_wp2_with fail
                  go_roundw
                  case rel => first | exact HR.out.drewN n10 | ((repeat apply Exists.intro); exact ⟨HR.out.drewN n10, rfl⟩)
                  case measure => simp [intOf]; omega
              · refine hOp_keeps (by rfl) rfl (fun n1 => ?_)
                go_wp2_with fail
                generalize hwx : World.alloc _ (.cells #[.string (ba x)] 9) = wx
                have HX := Lib.hid (show Sl nc 1 wx (.slice (some ⟨wr0.heap.size, 0, none⟩) 1 1) [x] (fun b => b = wr0.heap.size) from by rw [← hwx]; exact Sl.newEq (c := nc) (size := 1) x (by first | rfl | simp))
                have Hbx := Lib.hid (show Below wr0.heap.size wr0 wx from by rw [← hwx]; exact (below_drewN (Below.refl wr0.heap.size wr0) _).alloc (by exact Nat.le_refl _) _)
                have Hzx := Lib.hid (show wx.heap.size = wr0.heap.size + 1 from by rw [← hwx]; simp)
                clear hwx
                have hSw := HSW.out wx Hbx.out
                show _ ∧ _
                refine ⟨hSw, ?_⟩
                refine goon_walk [0, 4, 13, 17, 18] 0 rfl (by kernel_rfl) (by kernel_rfl) (fun w n h => h) ?_
                refine wpKind_keeps (by rfl) rfl (fun n2 => ?_)
                go_wp2_with fail
                generalize hwe : World.alloc _ (.cells #[] 9) = we
                have HE := Lib.hid (show Ow nc 1 we wr0.heap.size 9 (.slice (some ⟨wx.heap.size, 0, none⟩) 0 0) [] from by rw [← hwe]; exact Ow.empty' (by first | rfl | simp) (by exact Hbx.out.size))
                have Hbe := Lib.hid (show Below wr0.heap.size wr0 we from by rw [← hwe]; exact (below_drewN Hbx.out _).alloc (by exact Hbx.out.size) _)
                have Hze := Lib.hid (show we.heap.size = wx.heap.size + 1 from by rw [← hwe]; simp)
                have HX2 := Lib.hid (show Sl nc 1 we (.slice (some ⟨wr0.heap.size, 0, none⟩) 1 1) [x] (fun b => b = wr0.heap.size) from by rw [← hwe]; exact (HX.out.drewN _).alloc _)
                clear hwe
                have hSw := HSW.out we Hbe.out
                show _ ∧ _
                refine ⟨hSw, ?_⟩
                refine wpKind_keeps (by rfl) rfl (fun n3 => ?_)
                go_wp2_with (at_builtin; refine wpList_append_sl _ rfl _ _ _ rfl wr0.heap.size 9 i0 _ 16 Tryd.underlying22 hi0 hz0 hz1 hz2 rfl (by omega) nc_len nc_one (.slice (some ⟨wx.heap.size, 0, none⟩) 0 0) _ [] (cur.take k) rfl rfl (by exact HE.out.drewN n3) (by exact (HB.out.below_ Hbe.out).drewN n3) (by simp only [maxLen, List.length_nil]; rw [T1.out]; omega) (by simp only [List.length_nil]; rw [T1.out]; omega) (by exact (Hbe.out).size) ?_; intro vt wt hownt hgt hmvt)
                have hbt : Below wr0.heap.size wr0 wt := (below_drewN Hbe.out n3).grown hgt (Hbe.out).size (fun k hk => by have hk' : wx.heap.size = k := (by simpa [Value.ownBlock] using hk); have := Hbx.out.size; omega)
                obtain ⟨At, cpt, et, _, _⟩ := hownt.shape
                rw [List.nil_append, T1.out] at et
                subst et
                rw [List.nil_append] at hownt
                have HX1 := Lib.hid ((HX2.out.drewN n3).grown hgt (fun b hb => by subst hb; have := Hzx.out; simp [Value.ownBlock]; omega))
                have HBt := Lib.hid hbt
                have HT1 := Lib.hid hownt
                have hSw := HSW.out wt hbt
                clear hownt hgt hmvt hbt
                show _ ∧ _
                refine ⟨hSw, ?_⟩
                clear HX HX2 HE Hbe Hbx Hzx Hze
                refine wpKind_keeps (by rfl) rfl (fun n8 => ?_)
                go_wp2_with (at_builtin; refine wpList_append_sl _ rfl _ _ _ rfl wr0.heap.size 9 i0 _ 16 Tryd.underlying22 hi0 hz0 hz1 hz2 rfl (by omega) nc_len nc_one (.slice At k cpt) _ (cur.take k) [x] rfl rfl (by exact HT1.out.drewN n8) (by exact HX1.out.drewN n8) (by rw [T1.out]; simp only [maxLen, List.length_cons, List.length_nil]; omega) (by rw [T1.out]; simp only [List.length_cons, List.length_nil]; omega) (by exact HBt.out.size) ?_; intro v2 w2 hown2 hg2 hmv2)
                have hb2 : Below wr0.heap.size wr0 w2 := (below_drewN HBt.out n8).grown hg2 HBt.out.size (fun k hk => (HT1.out.lt hk).1)
                have HB2 := Lib.hid hb2
                have HO2 := Lib.hid hown2
                obtain ⟨A2, cp2, e2, _, _⟩ := hown2.shape
                rw [T2.out] at e2
                subst e2
                clear hown2 hg2 hmv2 hb2 HT1 HX1 HBt
                show _ ∧ _
                refine ⟨HSW.out w2 HB2.out, ?_⟩
                refine wpKind_keeps (by rfl) rfl (fun n9 => ?_)
                go_wp2_with (at_builtin; refine wpList_append_sl _ rfl _ _ _ rfl wr0.heap.size 9 i0 _ 16 Tryd.underlying22 hi0 hz0 hz1 hz2 rfl (by omega) nc_len nc_one _ _ (cur.take k ++ [x]) (cur.drop k) rfl rfl (by exact HO2.out.drewN n9) (by exact (HD.out.below_ HB2.out).drewN n9) (by rw [T2.out, T3.out]; simp only [maxLen]; omega) (by rw [T2.out, T3.out]; omega) (by exact HB2.out.size) ?_; intro v3 w3 hown3 hg3 hmv3)
                have hb3 : Below wr0.heap.size wr0 w3 := (below_drewN HB2.out n9).grown hg3 HB2.out.size (fun k hk => (HO2.out.lt hk).1)
                have R : RSRel l w v3 (.int .i64 ((i : Int) + 1)) w3 := RSRel.next hlt Hbel.out hb3 (by simpa using hown3) HS'
                have HR := Lib.hid R
                have HW3 := Lib.hid (HSW.out w3 hb3)
                clear hown3 hg3 hmv3 hb3 R HB2 HO2
                show _ ∧ _
                refine ⟨HW3.out, ?_⟩
                repeat (refine wpKind_free (v := ?_) (by rfl) rfl (by rfl) ?_ ?_; rotate_left 1; (focus (intro wy; go_simp; try with_reducible rfl; done)); try simp only [Act.put, List.setIfInBounds_toArray, List.set_cons_zero, List.set_cons_succ])
                refine wpKind_fin ?_
                refine goon_end (by kernel_rfl) (fun n10 => ?_)
                clear hSw
                go_wp2_with fail
                go_roundw
                case rel => first | exact HR.out.drewN n10 | ((repeat apply Exists.intro); exact ⟨HR.out.drewN n10, rfl⟩)
                case measure => simp [intOf]; omega
            · rw [if_neg hck] at hfr
              have HD := Lib.hid hfr
              clear hfr
              have hM := ins_sorted HUp.out HLE.out HAB.out
              have HS' := Lib.hid (HS.out.trans hM)
              have s2 : (k : Int) ≤ (cur.length : Int) := by omega
              have s5 : (0 : Int) ≤ (k : Int) := by omega
              have t1 : (cur.take k).length = k := by rw [List.length_take]; omega
              have t2 : (cur.take k ++ [x]).length = k + 1 := by rw [List.length_append, t1]; rfl
              have t3 : (cur.drop k).length = cur.length - k := List.length_drop
              have T1 := Lib.hid t1
              have T2 := Lib.hid t2
              have T3 := Lib.hid t3
              have HB := Lib.hid ((Ow.begin nc_len Hown.out (k := k) (by omega)).sl nc_len)
              have HSW := Lib.hid (fun (wy : World) (h : Below wr0.heap.size wr0 wy) => And.intro ((h.cell (p := ⟨p, 0, none⟩) Hplt.out).trans hcp) ((h.cell (p := ⟨b1, o1 + i, none⟩) Hblt.out).trans hcx))
              have hSw := And.intro hcp hcx
              clear hM t1 t2 t3
              go_wp2_with fail
              refine wp_region_goon (fun w' => w'.cell? ⟨p, 0, none⟩ = some (.slice (some ⟨b1, o1, none⟩) l.length ca) ∧ w'.cell? ⟨b1, o1 + i, none⟩ = some (.string (ba x))) [0, 4, 12, 13, 17] [] [8, 11] [1, 2, 3, 5, 6, 7, 9, 10, 14, 15, 16, 18] (by kernel_rfl) ?_
              refine goon_walk [1, 2, 3, 5, 6, 7, 8, 9, 10, 11, 14, 15, 16] 6 rfl (by kernel_rfl) (by kernel_rfl) (fun w n h => h) ?_
              repeat (first | (refine wpKind_free (v := ?_) (by rfl) rfl (by rfl) ?_ ?_; rotate_left 1; (focus (intro wy; go_simp; try with_reducible rfl; done)); try simp only [Act.put, List.setIfInBounds_toArray, List.set_cons_zero, List.set_cons_succ]) | (refine wpKind_held (v := ?_) (by rfl) rfl (by rfl) hSw ?_ ?_; rotate_left 1; (focus (intro wy hSy; obtain ⟨s0, s1⟩ := hSy; go_simp; try with_reducible rfl; done)); try simp only [Act.put, List.setIfInBounds_toArray, List.set_cons_zero, List.set_cons_succ]))
              refine wpKind_fin ?_
              refine goon_two 0 12 (by kernel_rfl) ?_ ?_
              · refine hOp_keeps (by rfl) rfl (fun n1 => ?_)
                go_wp2_with fail
                generalize hwe : World.alloc _ (.cells #[] 9) = we
                have HE := Lib.hid (show Ow nc 1 we wr0.heap.size 9 (.slice (some ⟨wr0.heap.size, 0, none⟩) 0 0) [] from by rw [← hwe]; exact Ow.empty' (by first | rfl | simp) (by exact Nat.le_refl _))
                have Hbe := Lib.hid (show Below wr0.heap.size wr0 we from by rw [← hwe]; exact (below_drewN (Below.refl wr0.heap.size wr0) _).alloc (by exact Nat.le_refl _) _)
                have Hze := Lib.hid (show we.heap.size = wr0.heap.size + 1 from by rw [← hwe]; simp)
                clear hwe
                have hSw := HSW.out we Hbe.out
                show _ ∧ _
                refine ⟨hSw, ?_⟩
                refine goon_two 4 12 (by kernel_rfl) ?_ ?_
                · refine hOp_keeps (by rfl) rfl (fun n2 => ?_)
                  go_wp2_with (at_builtin; refine wpList_append_sl _ rfl _ _ _ rfl wr0.heap.size 9 i0 _ 16 Tryd.underlying22 hi0 hz0 hz1 hz2 rfl (by omega) nc_len nc_one (.slice (some ⟨wr0.heap.size, 0, none⟩) 0 0) _ [] (cur.take k) rfl rfl (by exact HE.out.drewN n2) (by exact (HB.out.below_ Hbe.out).drewN n2) (by simp only [maxLen, List.length_nil]; rw [T1.out]; omega) (by simp only [List.length_nil]; rw [T1.out]; omega) (by exact (Hbe.out).size) ?_; intro vt wt hownt hgt hmvt)
                  have hbt : Below wr0.heap.size wr0 wt := (below_drewN Hbe.out n2).grown hgt (Hbe.out).size (fun k hk => by have hk' : wr0.heap.size = k := (by simpa [Value.ownBlock] using hk); omega)
                  obtain ⟨At, cpt, et, _, _⟩ := hownt.shape
                  rw [List.nil_append, T1.out] at et
                  subst et
                  rw [List.nil_append] at hownt
                  have HBt := Lib.hid hbt
                  have HT1 := Lib.hid hownt
                  have hSw := HSW.out wt hbt
                  clear hownt hgt hmvt hbt
                  show _ ∧ _
                  refine ⟨hSw, ?_⟩
                  refine goon_walk [12, 13, 17, 18] 0 rfl (by kernel_rfl) (by kernel_rfl) (fun w n h => h) ?_
                  refine wpKind_keeps (by rfl) rfl (fun n3 => ?_)
                  go_wp2_with fail
                  generalize hwx : World.alloc _ (.cells #[.string (ba x)] 9) = wx
                  have HX := Lib.hid (show Sl nc 1 wx (.slice (some ⟨wt.heap.size, 0, none⟩) 1 1) [x] (fun b => b = wt.heap.size) from by rw [← hwx]; exact Sl.newEq (c := nc) (size := 1) x (by first | rfl | simp))
                  have Hbx := Lib.hid (show Below wr0.heap.size wr0 wx from by rw [← hwx]; exact (below_drewN HBt.out _).alloc (by exact HBt.out.size) _)
                  have Hzx := Lib.hid (show wx.heap.size = wt.heap.size + 1 from by rw [← hwx]; simp)
                  have HT2 := Lib.hid (show Ow nc 1 wx wr0.heap.size 9 (.slice At k cpt) (cur.take k) from by rw [← hwx]; exact (HT1.out.drewN _).alloc _)
                  clear hwx
                  have hSw := HSW.out wx Hbx.out
                  show _ ∧ _
                  refine ⟨hSw, ?_⟩
                  clear HT1 HBt Hzx Hze
                  have HX1 := HX
                  have HT1 := HT2
                  have HBt := Hbx
                  clear HX HT2 Hbx
                  refine wpKind_keeps (by rfl) rfl (fun n8 => ?_)
                  go_wp2_with (at_builtin; refine wpList_append_sl _ rfl _ _ _ rfl wr0.heap.size 9 i0 _ 16 Tryd.underlying22 hi0 hz0 hz1 hz2 rfl (by omega) nc_len nc_one (.slice At k cpt) _ (cur.take k) [x] rfl rfl (by exact HT1.out.drewN n8) (by exact HX1.out.drewN n8) (by rw [T1.out]; simp only [maxLen, List.length_cons, List.length_nil]; omega) (by rw [T1.out]; simp only [List.length_cons, List.length_nil]; omega) (by exact HBt.out.size) ?_; intro v2 w2 hown2 hg2 hmv2)
                  have hb2 : Below wr0.heap.size wr0 w2 := (below_drewN HBt.out n8).grown hg2 HBt.out.size (fun k hk => (HT1.out.lt hk).1)
                  have HB2 := Lib.hid hb2
                  have HO2 := Lib.hid hown2
                  obtain ⟨A2, cp2, e2, _, _⟩ := hown2.shape
                  rw [T2.out] at e2
                  subst e2
                  clear hown2 hg2 hmv2 hb2 HT1 HX1 HBt
                  show _ ∧ _
                  refine ⟨HSW.out w2 HB2.out, ?_⟩
                  refine wpKind_keeps (by rfl) rfl (fun n9 => ?_)
                  go_wp2_with (at_builtin; refine wpList_append_sl _ rfl _ _ _ rfl wr0.heap.size 9 i0 _ 16 Tryd.underlying22 hi0 hz0 hz1 hz2 rfl (by omega) nc_len nc_one _ _ (cur.take k ++ [x]) (cur.drop k) rfl rfl (by exact HO2.out.drewN n9) (by exact (HD.out.below_ HB2.out).drewN n9) (by rw [T2.out, T3.out]; simp only [maxLen]; omega) (by rw [T2.out, T3.out]; omega) (by exact HB2.out.size) ?_; intro v3 w3 hown3 hg3 hmv3)
                  have hb3 : Below wr0.heap.size wr0 w3 := (below_drewN HB2.out n9).grown hg3 HB2.out.size (fun k hk => (HO2.out.lt hk).1)
                  have R : RSRel l w v3 (.int .i64 ((i : Int) + 1)) w3 := RSRel.next hlt Hbel.out hb3 (by simpa using hown3) HS'
                  have HR := Lib.hid R
                  have HW3 := Lib.hid (HSW.out w3 hb3)
                  clear hown3 hg3 hmv3 hb3 R HB2 HO2
                  show _ ∧ _
                  refine ⟨HW3.out, ?_⟩
                  repeat (refine wpKind_free (v := ?_) (by rfl) rfl (by rfl) ?_ ?_; rotate_left 1; (focus (intro wy; go_simp; try with_reducible rfl; done)); try simp only [Act.put, List.setIfInBounds_toArray, List.set_cons_zero, List.set_cons_succ])
                  refine wpKind_fin ?_
                  refine goon_end (by kernel_rfl) (fun n10 => ?_)
                  clear hSw
                  go_wp2_with fail
                  go_roundw
                  case rel => first | exact HR.out.drewN n10 | ((repeat apply Exists.intro); exact ⟨HR.out.drewN n10, rfl⟩)
                  case measure => simp [intOf]; omega
                · refine hOp_keeps (by rfl) rfl (fun n2 => ?_)
                  go_wp2_with fail
                  generalize hwx : World.alloc _ (.cells #[.string (ba x)] 9) = wx
                  have HX := Lib.hid (show Sl nc 1 wx (.slice (some ⟨we.heap.size, 0, none⟩) 1 1) [x] (fun b => b = we.heap.size) from by rw [← hwx]; exact Sl.newEq (c := nc) (size := 1) x (by first | rfl | simp))
                  have Hbx := Lib.hid (show Below wr0.heap.size wr0 wx from by rw [← hwx]; exact (below_drewN Hbe.out _).alloc (by exact Hbe.out.size) _)
                  have Hzx := Lib.hid (show wx.heap.size = we.heap.size + 1 from by rw [← hwx]; simp)
                  have HE2 := Lib.hid (show Ow nc 1 wx wr0.heap.size 9 (.slice (some ⟨wr0.heap.size, 0, none⟩) 0 0) [] from by rw [← hwx]; exact (HE.out.drewN _).alloc _)
                  clear hwx
                  have hSw := HSW.out wx Hbx.out
                  show _ ∧ _
                  refine ⟨hSw, ?_⟩
                  refine goon_walk [4, 13, 17, 18] 0 rfl (by kernel_rfl) (by kernel_rfl) (fun w n h => h) ?_
                  refine wpKind_keeps (by rfl) rfl (fun n3 => ?_)
                  go_wp2_with (at_builtin; refine wpList_append_sl _ rfl _ _ _ rfl wr0.heap.size 9 i0 _ 16 Tryd.underlying22 hi0 hz0 hz1 hz2 rfl (by omega) nc_len nc_one (.slice (some ⟨wr0.heap.size, 0, none⟩) 0 0) _ [] (cur.take k) rfl rfl (by exact HE2.out.drewN n3) (by exact (HB.out.below_ Hbx.out).drewN n3) (by simp only [maxLen, List.length_nil]; rw [T1.out]; omega) (by simp only [List.length_nil]; rw [T1.out]; omega) (by exact (Hbx.out).size) ?_; intro vt wt hownt hgt hmvt)
                  have hbt : Below wr0.heap.size wr0 wt := (below_drewN Hbx.out n3).grown hgt (Hbx.out).size (fun k hk => by have hk' : wr0.heap.size = k := (by simpa [Value.ownBlock] using hk); omega)
                  obtain ⟨At, cpt, et, _, _⟩ := hownt.shape
                  rw [List.nil_append, T1.out] at et
                  subst et
                  rw [List.nil_append] at hownt
                  have HX1 := Lib.hid ((HX.out.drewN n3).grown hgt (fun b hb => by subst hb; have := Hze.out; simp [Value.ownBlock]; omega))
                  have HBt := Lib.hid hbt
                  have HT1 := Lib.hid hownt
                  have hSw := HSW.out wt hbt
                  clear hownt hgt hmvt hbt
                  show _ ∧ _
                  refine ⟨hSw, ?_⟩
                  clear HX HE2 Hbx Hzx Hze
                  refine wpKind_keeps (by rfl) rfl (fun n8 => ?_)
                  go_wp2_with (at_builtin; refine wpList_append_sl _ rfl _ _ _ rfl wr0.heap.size 9 i0 _ 16 Tryd.underlying22 hi0 hz0 hz1 hz2 rfl (by omega) nc_len nc_one (.slice At k cpt) _ (cur.take k) [x] rfl rfl (by exact HT1.out.drewN n8) (by exact HX1.out.drewN n8) (by rw [T1.out]; simp only [maxLen, List.length_cons, List.length_nil]; omega) (by rw [T1.out]; simp only [List.length_cons, List.length_nil]; omega) (by exact HBt.out.size) ?_; intro v2 w2 hown2 hg2 hmv2)
                  have hb2 : Below wr0.heap.size wr0 w2 := (below_drewN HBt.out n8).grown hg2 HBt.out.size (fun k hk => (HT1.out.lt hk).1)
                  have HB2 := Lib.hid hb2
                  have HO2 := Lib.hid hown2
                  obtain ⟨A2, cp2, e2, _, _⟩ := hown2.shape
                  rw [T2.out] at e2
                  subst e2
                  clear hown2 hg2 hmv2 hb2 HT1 HX1 HBt
                  show _ ∧ _
                  refine ⟨HSW.out w2 HB2.out, ?_⟩
                  refine wpKind_keeps (by rfl) rfl (fun n9 => ?_)
                  go_wp2_with (at_builtin; refine wpList_append_sl _ rfl _ _ _ rfl wr0.heap.size 9 i0 _ 16 Tryd.underlying22 hi0 hz0 hz1 hz2 rfl (by omega) nc_len nc_one _ _ (cur.take k ++ [x]) (cur.drop k) rfl rfl (by exact HO2.out.drewN n9) (by exact (HD.out.below_ HB2.out).drewN n9) (by rw [T2.out, T3.out]; simp only [maxLen]; omega) (by rw [T2.out, T3.out]; omega) (by exact HB2.out.size) ?_; intro v3 w3 hown3 hg3 hmv3)
                  have hb3 : Below wr0.heap.size wr0 w3 := (below_drewN HB2.out n9).grown hg3 HB2.out.size (fun k hk => (HO2.out.lt hk).1)
                  have R : RSRel l w v3 (.int .i64 ((i : Int) + 1)) w3 := RSRel.next hlt Hbel.out hb3 (by simpa using hown3) HS'
                  have HR := Lib.hid R
                  have HW3 := Lib.hid (HSW.out w3 hb3)
                  clear hown3 hg3 hmv3 hb3 R HB2 HO2
                  show _ ∧ _
                  refine ⟨HW3.out, ?_⟩
                  repeat (refine wpKind_free (v := ?_) (by rfl) rfl (by rfl) ?_ ?_; rotate_left 1; (focus (intro wy; go_simp; try with_reducible rfl; done)); try simp only [Act.put, List.setIfInBounds_toArray, List.set_cons_zero, List.set_cons_succ])
                  refine wpKind_fin ?_
                  refine goon_end (by kernel_rfl) (fun n10 => ?_)
                  clear hSw
                  go_wp2_with fail
                  go_roundw
                  case rel => first | exact HR.out.drewN n10 | ((repeat apply Exists.intro); exact ⟨HR.out.drewN n10, rfl⟩)
                  case measure => simp [intOf]; omega
              · refine hOp_keeps (by rfl) rfl (fun n1 => ?_)
                go_wp2_with fail
                generalize hwx : World.alloc _ (.cells #[.string (ba x)] 9) = wx
                have HX := Lib.hid (show Sl nc 1 wx (.slice (some ⟨wr0.heap.size, 0, none⟩) 1 1) [x] (fun b => b = wr0.heap.size) from by rw [← hwx]; exact Sl.newEq (c := nc) (size := 1) x (by first | rfl | simp))
                have Hbx := Lib.hid (show Below wr0.heap.size wr0 wx from by rw [← hwx]; exact (below_drewN (Below.refl wr0.heap.size wr0) _).alloc (by exact Nat.le_refl _) _)
                have Hzx := Lib.hid (show wx.heap.size = wr0.heap.size + 1 from by rw [← hwx]; simp)
                clear hwx
                have hSw := HSW.out wx Hbx.out
                show _ ∧ _
                refine ⟨hSw, ?_⟩
                refine goon_walk [0, 4, 13, 17, 18] 0 rfl (by kernel_rfl) (by kernel_rfl) (fun w n h => h) ?_
                refine wpKind_keeps (by rfl) rfl (fun n2 => ?_)
                go_wp2_with fail
                generalize hwe : World.alloc _ (.cells #[] 9) = we
                have HE := Lib.hid (show Ow nc 1 we wr0.heap.size 9 (.slice (some ⟨wx.heap.size, 0, none⟩) 0 0) [] from by rw [← hwe]; exact Ow.empty' (by first | rfl | simp) (by exact Hbx.out.size))
                have Hbe := Lib.hid (show Below wr0.heap.size wr0 we from by rw [← hwe]; exact (below_drewN Hbx.out _).alloc (by exact Hbx.out.size) _)
                have Hze := Lib.hid (show we.heap.size = wx.heap.size + 1 from by rw [← hwe]; simp)
                have HX2 := Lib.hid (show Sl nc 1 we (.slice (some ⟨wr0.heap.size, 0, none⟩) 1 1) [x] (fun b => b = wr0.heap.size) from by rw [← hwe]; exact (HX.out.drewN _).alloc _)
                clear hwe
                have hSw := HSW.out we Hbe.out
                show _ ∧ _
                refine ⟨hSw, ?_⟩
                refine wpKind_keeps (by rfl) rfl (fun n3 => ?_)
                go_wp2_with (at_builtin; refine wpList_append_sl _ rfl _ _ _ rfl wr0.heap.size 9 i0 _ 16 Tryd.underlying22 hi0 hz0 hz1 hz2 rfl (by omega) nc_len nc_one (.slice (some ⟨wx.heap.size, 0, none⟩) 0 0) _ [] (cur.take k) rfl rfl (by exact HE.out.drewN n3) (by exact (HB.out.below_ Hbe.out).drewN n3) (by simp only [maxLen, List.length_nil]; rw [T1.out]; omega) (by simp only [List.length_nil]; rw [T1.out]; omega) (by exact (Hbe.out).size) ?_; intro vt wt hownt hgt hmvt)
                have hbt : Below wr0.heap.size wr0 wt := (below_drewN Hbe.out n3).grown hgt (Hbe.out).size (fun k hk => by have hk' : wx.heap.size = k := (by simpa [Value.ownBlock] using hk); have := Hbx.out.size; omega)
                obtain ⟨At, cpt, et, _, _⟩ := hownt.shape
                rw [List.nil_append, T1.out] at et
                subst et
                rw [List.nil_append] at hownt
                have HX1 := Lib.hid ((HX2.out.drewN n3).grown hgt (fun b hb => by subst hb; have := Hzx.out; simp [Value.ownBlock]; omega))
                have HBt := Lib.hid hbt
                have HT1 := Lib.hid hownt
                have hSw := HSW.out wt hbt
                clear hownt hgt hmvt hbt
                show _ ∧ _
                refine ⟨hSw, ?_⟩
                clear HX HX2 HE Hbe Hbx Hzx Hze
                refine wpKind_keeps (by rfl) rfl (fun n8 => ?_)
                go_wp2_with (at_builtin; refine wpList_append_sl _ rfl _ _ _ rfl wr0.heap.size 9 i0 _ 16 Tryd.underlying22 hi0 hz0 hz1 hz2 rfl (by omega) nc_len nc_one (.slice At k cpt) _ (cur.take k) [x] rfl rfl (by exact HT1.out.drewN n8) (by exact HX1.out.drewN n8) (by rw [T1.out]; simp only [maxLen, List.length_cons, List.length_nil]; omega) (by rw [T1.out]; simp only [List.length_cons, List.length_nil]; omega) (by exact HBt.out.size) ?_; intro v2 w2 hown2 hg2 hmv2)
                have hb2 : Below wr0.heap.size wr0 w2 := (below_drewN HBt.out n8).grown hg2 HBt.out.size (fun k hk => (HT1.out.lt hk).1)
                have HB2 := Lib.hid hb2
                have HO2 := Lib.hid hown2
                obtain ⟨A2, cp2, e2, _, _⟩ := hown2.shape
                rw [T2.out] at e2
                subst e2
                clear hown2 hg2 hmv2 hb2 HT1 HX1 HBt
                show _ ∧ _
                refine ⟨HSW.out w2 HB2.out, ?_⟩
                refine wpKind_keeps (by rfl) rfl (fun n9 => ?_)
                go_wp2_with (at_builtin; refine wpList_append_sl _ rfl _ _ _ rfl wr0.heap.size 9 i0 _ 16 Tryd.underlying22 hi0 hz0 hz1 hz2 rfl (by omega) nc_len nc_one _ _ (cur.take k ++ [x]) (cur.drop k) rfl rfl (by exact HO2.out.drewN n9) (by exact (HD.out.below_ HB2.out).drewN n9) (by rw [T2.out, T3.out]; simp only [maxLen]; omega) (by rw [T2.out, T3.out]; omega) (by exact HB2.out.size) ?_; intro v3 w3 hown3 hg3 hmv3)
                have hb3 : Below wr0.heap.size wr0 w3 := (below_drewN HB2.out n9).grown hg3 HB2.out.size (fun k hk => (HO2.out.lt hk).1)
                have R : RSRel l w v3 (.int .i64 ((i : Int) + 1)) w3 := RSRel.next hlt Hbel.out hb3 (by simpa using hown3) HS'
                have HR := Lib.hid R
                have HW3 := Lib.hid (HSW.out w3 hb3)
                clear hown3 hg3 hmv3 hb3 R HB2 HO2
                show _ ∧ _
                refine ⟨HW3.out, ?_⟩
                repeat (refine wpKind_free (v := ?_) (by rfl) rfl (by rfl) ?_ ?_; rotate_left 1; (focus (intro wy; go_simp; try with_reducible rfl; done)); try simp only [Act.put, List.setIfInBounds_toArray, List.set_cons_zero, List.set_cons_succ])
                refine wpKind_fin ?_
                refine goon_end (by kernel_rfl) (fun n10 => ?_)
                clear hSw
                go_wp2_with fail
                go_roundw
                case rel => first | exact HR.out.drewN n10 | ((repeat apply Exists.intro); exact ⟨HR.out.drewN n10, rfl⟩)
                case measure => simp [intOf]; omega
    · have hE : i = l.length := by omega
      have q1 : ¬ (i : Int) < (l.length : Int) := by omega
      subst hE
      rw [List.take_of_length_le (Nat.le_refl _)] at hown
      have HO := Lib.hid hown
      have HB := Lib.hid hbel
      clear hown hbel
      go_wp2_with fail
      go_ret
      exact ⟨_, rfl, HO.out, HB.out⟩
end Go.Proofs.YtkagfddkfpeddaaDoor
