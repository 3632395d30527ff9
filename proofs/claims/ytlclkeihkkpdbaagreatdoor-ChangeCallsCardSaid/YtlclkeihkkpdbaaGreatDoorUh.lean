/- The walk of change.line. -/
import Derived.Test.YtlclkeihkkpdbaaGreatDoorUg
namespace Go.Proofs.YtlclkeihkkpdbaaGreatDoor
open Go.RowKit
variable {P : Program} {Q : Exit → Act → World → Prop} {S : World → Prop} {fin : Act → World → Prop} {s1 s2 hd fr rest : List Nat} {k : Nat} {o : Oper} {l : List Oper} {a : Act} {w : World}
theorem wpKind_free_no (hs : kdL s1 s2 hd fr k = 4) (ho : l[k]? = some o) (hw : Region.wanted o (yielded l.toArray a.tmps) = false)
    (h : wpKind P l.toArray Q S (kdL s1 s2 hd fr) fin rest (a.put o.dst undef) w) : wpKind P l.toArray Q S (kdL s1 s2 hd fr) fin (k :: rest) a w := by
  unfold wpKind
  rw [if_neg (by rw [hs]; decide), if_pos hs]
  exact ⟨o, undef, by simpa using ho, .inr ⟨hw, rfl⟩, h⟩
theorem wpKind_held_no (hs : kdL s1 s2 hd fr k = 3) (ho : l[k]? = some o) (hw : Region.wanted o (yielded l.toArray a.tmps) = false) (hS : S w)
    (h : wpKind P l.toArray Q S (kdL s1 s2 hd fr) fin rest (a.put o.dst undef) w) : wpKind P l.toArray Q S (kdL s1 s2 hd fr) fin (k :: rest) a w := by
  unfold wpKind
  rw [if_neg (by rw [hs]; decide), if_neg (by rw [hs]; decide)]
  exact ⟨o, undef, by simpa using ho, hS, .inr ⟨hw, rfl⟩, h⟩
/-- The first word of a kind's line. -/
def headW (k : Nat) : List UInt8 := (wordsD k).headD []
theorem headW_at (k : Nat) : (wordsD k)[0]? = some (headW k) := by
  unfold headW wordsD
  (repeat' split) <;> rfl
theorem kindU_hit {t : TokD} {j : Nat} (h1 : 1 ≤ j) (h5 : j ≤ 5) (hk : t.kind ≠ 4) (hno : ∀ i, 1 ≤ i → i < j → headW i ≠ t.text) (he : headW j = t.text) : kindU t = j := by
  have e1 : headW 1 = kDelay := rfl
  have e2 : headW 2 = kCancel := rfl
  have e3 : headW 3 = kRestore := rfl
  have e4 : headW 4 = kDoor := rfl
  have e5 : headW 5 = kHazard := rfl
  unfold kindU
  rw [if_neg hk]
  have hj : j = 1 ∨ j = 2 ∨ j = 3 ∨ j = 4 ∨ j = 5 := by omega
  rcases hj with rfl | rfl | rfl | rfl | rfl
  · rw [if_pos (he.symm.trans e1)]; rfl
  · rw [if_neg (fun h => hno 1 (by omega) (by omega) (e1.trans h.symm)), if_pos (he.symm.trans e2)]; rfl
  · rw [if_neg (fun h => hno 1 (by omega) (by omega) (e1.trans h.symm)), if_neg (fun h => hno 2 (by omega) (by omega) (e2.trans h.symm)), if_pos (he.symm.trans e3)]; rfl
  · rw [if_neg (fun h => hno 1 (by omega) (by omega) (e1.trans h.symm)), if_neg (fun h => hno 2 (by omega) (by omega) (e2.trans h.symm)), if_neg (fun h => hno 3 (by omega) (by omega) (e3.trans h.symm)), if_pos (he.symm.trans e4)]; rfl
  · rw [if_neg (fun h => hno 1 (by omega) (by omega) (e1.trans h.symm)), if_neg (fun h => hno 2 (by omega) (by omega) (e2.trans h.symm)), if_neg (fun h => hno 3 (by omega) (by omega) (e3.trans h.symm)), if_neg (fun h => hno 4 (by omega) (by omega) (e4.trans h.symm)), if_pos (he.symm.trans e5)]; rfl
theorem kindU_miss {t : TokD} (hno : t.kind = 4 ∨ ∀ i, 1 ≤ i → i < 6 → headW i ≠ t.text) : kindU t = 6 := by
  unfold kindU
  rcases hno with h | hno
  · rw [if_pos h]
  · have e1 : headW 1 = kDelay := rfl
    have e2 : headW 2 = kCancel := rfl
    have e3 : headW 3 = kRestore := rfl
    have e4 : headW 4 = kDoor := rfl
    have e5 : headW 5 = kHazard := rfl
    by_cases hk : t.kind = 4
    · rw [if_pos hk]
    · rw [if_neg hk, if_neg (fun h => hno 1 (by omega) (by omega) (e1.trans h.symm)), if_neg (fun h => hno 2 (by omega) (by omega) (e2.trans h.symm)), if_neg (fun h => hno 3 (by omega) (by omega) (e3.trans h.symm)), if_neg (fun h => hno 4 (by omega) (by omega) (e4.trans h.symm)), if_neg (fun h => hno 5 (by omega) (by omega) (e5.trans h.symm))]
/-- A line's update, or where it is none. -/
def lineU (l : List TokD) : UpD × Int × Int × Int :=
  match l with
  | [] => (zeroU, 0, 0, 0)
  | t :: l =>
    if kindU t = 6 then (zeroU, 7, t.line, t.col)
    else match runU (formD (kindU t)) (t :: l) (blankU (kindU t)) with
      | (_, some x) => (zeroU, 7, x.line, x.col)
      | (f, none) => ({ f.u with no := f.no, pos := f.pos }, 0, 0, 0)
/-- Both results written. -/
theorem res_put {w w0 : World} {h B : Nat} {x0 x1 x2 x3 x4 x5 x6 x7 z0 z1 z2 : Value} {t t2 : TypeId} (v0 v1 v2 v3 v4 v5 v6 v7 y0 y1 y2 : Value) (hu : w.heap[h]? = some (.cells #[x0, x1, x2, x3, x4, x5, x6, x7] t (0, 0))) (hf : w.heap[h + 1]? = some (.cells #[z0, z1, z2] t2 (0, 0))) (hb : Below B w0 w) (hB : B ≤ h) :
    (((((((((((w.setCell ⟨h, 0, none⟩ v0).setCell ⟨h, 1, none⟩ v1).setCell ⟨h, 2, none⟩ v2).setCell ⟨h, 3, none⟩ v3).setCell ⟨h, 4, none⟩ v4).setCell ⟨h, 5, none⟩ v5).setCell ⟨h, 6, none⟩ v6).setCell ⟨h, 7, none⟩ v7).setCell ⟨h + 1, 0, none⟩ y0).setCell ⟨h + 1, 1, none⟩ y1).setCell ⟨h + 1, 2, none⟩ y2).heap[h]? = some (.cells #[v0, v1, v2, v3, v4, v5, v6, v7] t (0, 0)) ∧ (((((((((((w.setCell ⟨h, 0, none⟩ v0).setCell ⟨h, 1, none⟩ v1).setCell ⟨h, 2, none⟩ v2).setCell ⟨h, 3, none⟩ v3).setCell ⟨h, 4, none⟩ v4).setCell ⟨h, 5, none⟩ v5).setCell ⟨h, 6, none⟩ v6).setCell ⟨h, 7, none⟩ v7).setCell ⟨h + 1, 0, none⟩ y0).setCell ⟨h + 1, 1, none⟩ y1).setCell ⟨h + 1, 2, none⟩ y2).heap[h + 1]? = some (.cells #[y0, y1, y2] t2 (0, 0)) ∧ Below B w0 (((((((((((w.setCell ⟨h, 0, none⟩ v0).setCell ⟨h, 1, none⟩ v1).setCell ⟨h, 2, none⟩ v2).setCell ⟨h, 3, none⟩ v3).setCell ⟨h, 4, none⟩ v4).setCell ⟨h, 5, none⟩ v5).setCell ⟨h, 6, none⟩ v6).setCell ⟨h, 7, none⟩ v7).setCell ⟨h + 1, 0, none⟩ y0).setCell ⟨h + 1, 1, none⟩ y1).setCell ⟨h + 1, 2, none⟩ y2) := by
  have hne : h + 1 ≠ h := Nat.succ_ne_self h
  have a0 := heap_setCell_same w h 0 _ _ v0 hu
  simp only [List.setIfInBounds_toArray, List.set_cons_zero] at a0
  have a1 := heap_setCell_same (w.setCell ⟨h, 0, none⟩ v0) h 1 _ _ v1 a0
  simp only [List.setIfInBounds_toArray, List.set_cons_zero, List.set_cons_succ] at a1
  have a2 := heap_setCell_same ((w.setCell ⟨h, 0, none⟩ v0).setCell ⟨h, 1, none⟩ v1) h 2 _ _ v2 a1
  simp only [List.setIfInBounds_toArray, List.set_cons_zero, List.set_cons_succ] at a2
  have a3 := heap_setCell_same (((w.setCell ⟨h, 0, none⟩ v0).setCell ⟨h, 1, none⟩ v1).setCell ⟨h, 2, none⟩ v2) h 3 _ _ v3 a2
  simp only [List.setIfInBounds_toArray, List.set_cons_zero, List.set_cons_succ] at a3
  have a4 := heap_setCell_same ((((w.setCell ⟨h, 0, none⟩ v0).setCell ⟨h, 1, none⟩ v1).setCell ⟨h, 2, none⟩ v2).setCell ⟨h, 3, none⟩ v3) h 4 _ _ v4 a3
  simp only [List.setIfInBounds_toArray, List.set_cons_zero, List.set_cons_succ] at a4
  have a5 := heap_setCell_same (((((w.setCell ⟨h, 0, none⟩ v0).setCell ⟨h, 1, none⟩ v1).setCell ⟨h, 2, none⟩ v2).setCell ⟨h, 3, none⟩ v3).setCell ⟨h, 4, none⟩ v4) h 5 _ _ v5 a4
  simp only [List.setIfInBounds_toArray, List.set_cons_zero, List.set_cons_succ] at a5
  have a6 := heap_setCell_same ((((((w.setCell ⟨h, 0, none⟩ v0).setCell ⟨h, 1, none⟩ v1).setCell ⟨h, 2, none⟩ v2).setCell ⟨h, 3, none⟩ v3).setCell ⟨h, 4, none⟩ v4).setCell ⟨h, 5, none⟩ v5) h 6 _ _ v6 a5
  simp only [List.setIfInBounds_toArray, List.set_cons_zero, List.set_cons_succ] at a6
  have a7 := heap_setCell_same (((((((w.setCell ⟨h, 0, none⟩ v0).setCell ⟨h, 1, none⟩ v1).setCell ⟨h, 2, none⟩ v2).setCell ⟨h, 3, none⟩ v3).setCell ⟨h, 4, none⟩ v4).setCell ⟨h, 5, none⟩ v5).setCell ⟨h, 6, none⟩ v6) h 7 _ _ v7 a6
  simp only [List.setIfInBounds_toArray, List.set_cons_zero, List.set_cons_succ] at a7
  have b0 : ((((((((w.setCell ⟨h, 0, none⟩ v0).setCell ⟨h, 1, none⟩ v1).setCell ⟨h, 2, none⟩ v2).setCell ⟨h, 3, none⟩ v3).setCell ⟨h, 4, none⟩ v4).setCell ⟨h, 5, none⟩ v5).setCell ⟨h, 6, none⟩ v6).setCell ⟨h, 7, none⟩ v7).heap[h + 1]? = w.heap[h + 1]? := by
    repeat rw [Below.heap_setCell _ _ _ _ (by show h + 1 ≠ h; exact hne)]
  have c0 := heap_setCell_same ((((((((w.setCell ⟨h, 0, none⟩ v0).setCell ⟨h, 1, none⟩ v1).setCell ⟨h, 2, none⟩ v2).setCell ⟨h, 3, none⟩ v3).setCell ⟨h, 4, none⟩ v4).setCell ⟨h, 5, none⟩ v5).setCell ⟨h, 6, none⟩ v6).setCell ⟨h, 7, none⟩ v7) (h + 1) 0 _ _ y0 (b0.trans hf)
  simp only [List.setIfInBounds_toArray, List.set_cons_zero] at c0
  have c1 := heap_setCell_same (((((((((w.setCell ⟨h, 0, none⟩ v0).setCell ⟨h, 1, none⟩ v1).setCell ⟨h, 2, none⟩ v2).setCell ⟨h, 3, none⟩ v3).setCell ⟨h, 4, none⟩ v4).setCell ⟨h, 5, none⟩ v5).setCell ⟨h, 6, none⟩ v6).setCell ⟨h, 7, none⟩ v7).setCell ⟨h + 1, 0, none⟩ y0) (h + 1) 1 _ _ y1 c0
  simp only [List.setIfInBounds_toArray, List.set_cons_zero, List.set_cons_succ] at c1
  have c2 := heap_setCell_same ((((((((((w.setCell ⟨h, 0, none⟩ v0).setCell ⟨h, 1, none⟩ v1).setCell ⟨h, 2, none⟩ v2).setCell ⟨h, 3, none⟩ v3).setCell ⟨h, 4, none⟩ v4).setCell ⟨h, 5, none⟩ v5).setCell ⟨h, 6, none⟩ v6).setCell ⟨h, 7, none⟩ v7).setCell ⟨h + 1, 0, none⟩ y0).setCell ⟨h + 1, 1, none⟩ y1) (h + 1) 2 _ _ y2 c1
  simp only [List.setIfInBounds_toArray, List.set_cons_zero, List.set_cons_succ] at c2
  refine ⟨?_, c2, (((((((((((hb.setCell (p := ⟨h, 0, none⟩) hB v0).setCell (p := ⟨h, 1, none⟩) hB v1).setCell (p := ⟨h, 2, none⟩) hB v2).setCell (p := ⟨h, 3, none⟩) hB v3).setCell (p := ⟨h, 4, none⟩) hB v4).setCell (p := ⟨h, 5, none⟩) hB v5).setCell (p := ⟨h, 6, none⟩) hB v6).setCell (p := ⟨h, 7, none⟩) hB v7).setCell (p := ⟨h + 1, 0, none⟩) (Nat.le_succ_of_le hB) y0).setCell (p := ⟨h + 1, 1, none⟩) (Nat.le_succ_of_le hB) y1).setCell (p := ⟨h + 1, 2, none⟩) (Nat.le_succ_of_le hB) y2)⟩
  repeat rw [Below.heap_setCell _ _ _ _ (by show h ≠ h + 1; exact hne.symm)]
  exact a7
set_option maxHeartbeats 4000000 in
set_option maxRecDepth 100000 in
theorem line_any (v : Value) (t : TokD) (ts : List TokD) (w : World) {Pr : Nat → Prop} (hs : Sl tkc 5 w v (t :: ts) Pr) (hl : (t :: ts).length ≤ 1048576) (hlast : ∀ x, (t :: ts).getLast? = some x → x.kind = 4) (hT : Tabs w) :
    Calls Tryz.prog 32 #[v] w fun e w' => e = .returned (.tuple #[.agg (upc (lineU (t :: ts)).1).toArray, .agg #[.int .i64 (lineU (t :: ts)).2.1, .int .i64 (lineU (t :: ts)).2.2.1, .int .i64 (lineU (t :: ts)).2.2.2]]) ∧ Below w.heap.size w w' := by
  obtain ⟨bl, ol, cl, rfl, hc1, hc2, hbl, _, hcell⟩ := hs.form (Nat.succ_pos _)
  have HLAST := Lib.hid hlast
  clear hlast
  obtain ⟨kd, tx, nu, li, co⟩ := t
  have hk0 : w.cell? ⟨bl, ol, none⟩ = some (.int .i64 kd) := by simpa using hcell 0 _ rfl 0 _ rfl
  have hk1 : w.cell? ⟨bl, ol + 1, none⟩ = some (.string (ba tx)) := by simpa using hcell 0 _ rfl 1 _ rfl
  have HC := Lib.hid (fun (wy : World) (hy : Below w.heap.size w wy) => (show wy.cell? ⟨bl, ol, none⟩ = some (.int .i64 kd) ∧ wy.cell? ⟨bl, ol + 1, none⟩ = some (.string (ba tx)) ∧ wy.cell? ⟨bl, ol + 2, none⟩ = some (.int .i64 nu) ∧ wy.cell? ⟨bl, ol + 3, none⟩ = some (.int .i64 li) ∧ wy.cell? ⟨bl, ol + 4, none⟩ = some (.int .i64 co) from ⟨(hy.cell (p := ⟨bl, ol, none⟩) hbl).trans hk0, (hy.cell (p := ⟨bl, ol + 1, none⟩) hbl).trans hk1, (hy.cell (p := ⟨bl, ol + 2, none⟩) hbl).trans (by simpa using hcell 0 _ rfl 2 _ rfl), (hy.cell (p := ⟨bl, ol + 3, none⟩) hbl).trans (by simpa using hcell 0 _ rfl 3 _ rfl), (hy.cell (p := ⟨bl, ol + 4, none⟩) hbl).trans (by simpa using hcell 0 _ rfl 4 _ rfl)⟩))
  have HS := Lib.hid hs
  have HT := Lib.hid hT
  have HK0 := Lib.hid hk0
  have HK1 := Lib.hid hk1
  have hll : (0 : Int) < ((ts.length + 1 : Nat) : Int) := by omega
  clear hs hT hcell hk0 hk1
  go_enter Tryz.func32, Tryz.ntmps32
  go_wp2_with fail
  obtain ⟨w1, hw1⟩ : ∃ w1, (w.alloc (.cells #[.int .i64 0, .string ⟨#[]⟩, .int .i64 0, .int .i64 0, .int .i64 0, .int .i64 0, .int .i64 0, .int .i64 0] 25)).alloc (.cells #[.int .i64 0, .int .i64 0, .int .i64 0] 30) = w1 := ⟨_, rfl⟩
  have hz1 : w1.heap.size = w.heap.size + 2 := by rw [← hw1]; simp
  have HB1 := Lib.hid (show Below w.heap.size w w1 by rw [← hw1]; exact ((Below.refl _ _).alloc (Nat.le_refl _) _).alloc (by simp) _)
  have HR1 := Lib.hid (show w1.heap[w.heap.size]? = some (.cells #[.int .i64 0, .string ⟨#[]⟩, .int .i64 0, .int .i64 0, .int .i64 0, .int .i64 0, .int .i64 0, .int .i64 0] 25 (0, 0)) by rw [← hw1, heap_alloc_old _ _ (by simp)]; exact heap_alloc_new _ _)
  have HF1 := Lib.hid (show w1.heap[w.heap.size + 1]? = some (.cells #[.int .i64 0, .int .i64 0, .int .i64 0] 30 (0, 0)) by rw [← hw1]; exact alloc2_new _ _ _)
  rw [hw1]
  clear hw1
  go_loopg [4] 7 (fun gg i wr => ∃ j : Nat, 1 ≤ j ∧ j ≤ 6 ∧ 7 - j ≤ gg ∧ i = .int .i64 j ∧ (kd = 4 ∨ ∀ i, 1 ≤ i → i < j → headW i ≠ tx) ∧ Below (w.heap.size + 2) w1 wr)
  case atStart => exact ⟨1, by omega, by omega, by omega, rfl, .inr fun i h1 h2 => by omega, Below.refl _ _⟩
  case round =>
    obtain ⟨j, hj1, hj6, hgj, rfl, hno, hb⟩ := hrel
    have hbw := HB1.out.trans (hb.mono (Nat.le_add_right _ _))
    have hSw : (fun wy => wy.cell? ⟨bl, ol, none⟩ = some (.int .i64 kd) ∧ wy.cell? ⟨bl, ol + 1, none⟩ = some (.string (ba tx))) wr := ⟨(hbw.cell (p := ⟨bl, ol, none⟩) hbl).trans HK0.out, (hbw.cell (p := ⟨bl, ol + 1, none⟩) hbl).trans HK1.out⟩
    have HNO := Lib.hid hno
    have HB := Lib.hid hb
    have HBW := Lib.hid hbw
    clear hno hb hbw
    dsimp only at hSw
    by_cases hj : j ≤ 5
    · have q1 : (j : Int) ≤ 5 := by omega
      by_cases h4 : kd = 4
      · have k1 : (kd == 4) = true := beq_iff_eq.2 h4
        clear h4
        go_wp2_with fail
        refine wp_region_kinds (fun wy => wy.cell? ⟨bl, ol, none⟩ = some (.int .i64 kd) ∧ wy.cell? ⟨bl, ol + 1, none⟩ = some (.string (ba tx))) [10, 12] [] [6, 16] [0, 1, 2, 3, 4, 5, 7, 8, 9, 11, 13, 14, 15, 17, 18, 19] [0, 1, 2, 3, 4, 5, 6, 7, 8, 9, 13, 14, 15, 16, 10, 11, 12, 17, 18, 19] (by kernel_rfl) (by kernel_rfl) (fun w n h => h) ?_
        repeat (first | (refine wpKind_free (v := ?_) (by rfl) rfl (by rfl) ?_ ?_; rotate_left 1; (focus (intro wy; go_simp; try with_reducible rfl; done)); try simp only [Act.put, List.setIfInBounds_toArray, List.set_cons_zero, List.set_cons_succ]) | (refine wpKind_held (v := ?_) (by rfl) rfl (by rfl) hSw ?_ ?_; rotate_left 1; (focus (intro wy hSy; obtain ⟨s0, s1⟩ := hSy; go_simp; try with_reducible rfl; done)); try simp only [Act.put, List.setIfInBounds_toArray, List.set_cons_zero, List.set_cons_succ]) | (refine wpKind_free_no (by rfl) rfl (by rfl) ?_; try simp only [Act.put, List.setIfInBounds_toArray, List.set_cons_zero, List.set_cons_succ]) | (refine wpKind_held_no (by rfl) rfl (by rfl) hSw ?_; try simp only [Act.put, List.setIfInBounds_toArray, List.set_cons_zero, List.set_cons_succ]))
        (refine wpKind_keeps (by rfl) rfl (fun _ => ?_); go_wp2_with fail; show _ ∧ _; refine ⟨hSw, ?_⟩)
        repeat (first | (refine wpKind_free (v := ?_) (by rfl) rfl (by rfl) ?_ ?_; rotate_left 1; (focus (intro wy; go_simp; try with_reducible rfl; done)); try simp only [Act.put, List.setIfInBounds_toArray, List.set_cons_zero, List.set_cons_succ]) | (refine wpKind_free_no (by rfl) rfl (by rfl) ?_; try simp only [Act.put, List.setIfInBounds_toArray, List.set_cons_zero, List.set_cons_succ]))
        (refine wpKind_keeps (by rfl) rfl (fun _ => ?_); go_wp2_with fail; show _ ∧ _; refine ⟨hSw, ?_⟩)
        repeat (first | (refine wpKind_free (v := ?_) (by rfl) rfl (by rfl) ?_ ?_; rotate_left 1; (focus (intro wy; go_simp; try with_reducible rfl; done)); try simp only [Act.put, List.setIfInBounds_toArray, List.set_cons_zero, List.set_cons_succ]) | (refine wpKind_free_no (by rfl) rfl (by rfl) ?_; try simp only [Act.put, List.setIfInBounds_toArray, List.set_cons_zero, List.set_cons_succ]))
        refine wpKind_nil fun n9 => ?_
        clear hSw
        go_wp2_with fail
        go_roundg (7 - (j + 1))
        case measure => omega
        case rel => exact ⟨j + 1, by omega, by omega, by omega, by go_num, .inl (beq_iff_eq.1 k1), below_drewN HB.out _⟩
      · have k1 : (kd == 4) = false := beq_eq_false_iff_ne.2 h4
        have HK4 := Lib.hid h4
        clear h4
        have hwl0 : 0 < (wordsD j).length := by unfold wordsD; (repeat' split) <;> decide
        have hwl1 : (0 : Int) < ((wordsD j).length : Int) := by omega
        go_wp2_with fail
        refine wp_region_kinds (fun wy => wy.cell? ⟨bl, ol, none⟩ = some (.int .i64 kd) ∧ wy.cell? ⟨bl, ol + 1, none⟩ = some (.string (ba tx))) [10, 12] [] [6, 16] [0, 1, 2, 3, 4, 5, 7, 8, 9, 11, 13, 14, 15, 17, 18, 19] [0, 1, 2, 3, 4, 5, 6, 7, 8, 9, 13, 14, 15, 16, 10, 11, 12, 17, 18, 19] (by kernel_rfl) (by kernel_rfl) (fun w n h => h) ?_
        repeat (first | (refine wpKind_free (v := ?_) (by rfl) rfl (by rfl) ?_ ?_; rotate_left 1; (focus (intro wy; go_simp; try with_reducible rfl; done)); try simp only [Act.put, List.setIfInBounds_toArray, List.set_cons_zero, List.set_cons_succ]) | (refine wpKind_held (v := ?_) (by rfl) rfl (by rfl) hSw ?_ ?_; rotate_left 1; (focus (intro wy hSy; obtain ⟨s0, s1⟩ := hSy; go_simp; try with_reducible rfl; done)); try simp only [Act.put, List.setIfInBounds_toArray, List.set_cons_zero, List.set_cons_succ]) | (refine wpKind_free_no (by rfl) rfl (by rfl) ?_; try simp only [Act.put, List.setIfInBounds_toArray, List.set_cons_zero, List.set_cons_succ]) | (refine wpKind_held_no (by rfl) rfl (by rfl) hSw ?_; try simp only [Act.put, List.setIfInBounds_toArray, List.set_cons_zero, List.set_cons_succ]))
        refine wpKind_keeps (by rfl) rfl (fun n1 => ?_)
        go_wp2_with fail
        refine (words_any j (wr.drewN n1) ((HT.out.below HBW.out).drewN n1)).mono ?_
        rintro e w3 ⟨rfl, hw3⟩
        have hb3 : Below wr.heap.size wr w3 := by rw [hw3]; exact (below_drewN (Below.refl _ _) n1).alloc (Nat.le_refl _) _
        have hS3 : (fun wy => wy.cell? ⟨bl, ol, none⟩ = some (.int .i64 kd) ∧ wy.cell? ⟨bl, ol + 1, none⟩ = some (.string (ba tx))) w3 := ⟨(hb3.cell (p := ⟨bl, ol, none⟩) (World.block_lt_of_cell? wr _ hSw.1)).trans hSw.1, (hb3.cell (p := ⟨bl, ol + 1, none⟩) (World.block_lt_of_cell? wr _ hSw.2)).trans hSw.2⟩
        have hw0 : w3.cell? ⟨wr.heap.size, 0, none⟩ = some (.string (ba (headW j))) := by
          have h9 := (Sl.newl (w := wr.drewN n1) (t := 9) (cs := ((wordsD j).flatMap nc).toArray) (H := wr.heap.size) (wordsD j) nc_len rfl rfl (Nat.le_trans (wordsD_len j) (by decide)) rfl).at_ (show 0 < (wordsD j).length by omega)
          obtain ⟨b9, o9, c9, e9, _, _, _, _, hx9⟩ := h9
          have e5 := Option.some.inj (Value.slice.inj e9).1
          have e6 := (Addr.mk.inj e5).1
          have e7 := (Addr.mk.inj e5).2.1
          subst e6 e7
          have h8 := headW_at j
          rw [List.getElem?_eq_getElem (show 0 < (wordsD j).length by omega)] at h8
          rw [hw3]
          have h7 := hx9 0 _ rfl
          rw [Option.some.inj h8] at h7
          simpa using h7
        have HB3 := Lib.hid hb3
        clear hw3 hb3 hSw
        dsimp only at hS3
        have hSw := hS3
        clear hS3
        go_wp2_with fail
        show _ ∧ _
        refine ⟨hSw, ?_⟩
        repeat (first | (refine wpKind_free (v := ?_) (by rfl) rfl (by rfl) ?_ ?_; rotate_left 1; (focus (intro wy; go_simp; try with_reducible rfl; done)); try simp only [Act.put, List.setIfInBounds_toArray, List.set_cons_zero, List.set_cons_succ]) | (refine wpKind_free_no (by rfl) rfl (by rfl) ?_; try simp only [Act.put, List.setIfInBounds_toArray, List.set_cons_zero, List.set_cons_succ]))
        refine wpKind_keeps (by rfl) rfl (fun n4 => ?_)
        go_wp2_with fail
        show _ ∧ _
        refine ⟨hSw, ?_⟩
        by_cases hx : headW j = tx
        · have hb2 : ((ba (headW j)).toList == (ba tx).toList) = true := by rw [ba_toList, ba_toList]; exact beq_iff_eq.2 hx
          have HX := Lib.hid hx
          clear hx
          repeat (first | (refine wpKind_free (v := ?_) (by rfl) rfl (by rfl) ?_ ?_; rotate_left 1; (focus (intro wy; go_simp; try with_reducible rfl; done)); try simp only [Act.put, List.setIfInBounds_toArray, List.set_cons_zero, List.set_cons_succ]) | (refine wpKind_free_no (by rfl) rfl (by rfl) ?_; try simp only [Act.put, List.setIfInBounds_toArray, List.set_cons_zero, List.set_cons_succ]))
          refine wpKind_nil fun n9 => ?_
          have hkh : kindU ⟨kd, tx, nu, li, co⟩ = j := kindU_hit hj1 hj HK4.out (fun i h1 h2 => HNO.out.resolve_left HK4.out i h1 h2) HX.out
          have HKH := Lib.hid hkh
          have HB4 := Lib.hid (HB.out.trans (HB3.out.mono (by have := HB.out.size; omega)))
          clear hkh hSw hw0
          go_wp2_with fail
          refine (blank_any j [] 0 0 0 0 0 0 _ ((HT.out.below (HB1.out.trans (HB4.out.mono (Nat.le_add_right _ _)))).drewN _)).mono ?_
          rintro e w6 ⟨rfl, hfa, hb6⟩
          have hzs : ∀ n, (w3.drewN n).heap.size = w3.heap.size := fun _ => rfl
          rw [hzs] at hfa hb6 ⊢
          obtain ⟨vf, hform, hov⟩ := hfa
          obtain ⟨Av, nv, cv, rfl⟩ := ow_form hov
          have hnv : nv = (formD j).length := by
            obtain ⟨A, cap, e, _⟩ := hov.shape
            injection e
          subst hnv
          have HB6 := Lib.hid (show Below (w.heap.size + 2) w1 w6 from HB4.out.trans (show Below (w.heap.size + 2) w3 w6 from (below_drewN (Below.refl _ w3) _).trans (hb6.mono (by have := HB4.out.size; show w.heap.size + 2 ≤ w3.heap.size; omega))))
          have hg3 : w.heap.size + 2 ≤ w3.heap.size := by have := HB4.out.size; omega
          have y10 : w6.cell? ⟨w3.heap.size + 1, 10, none⟩ = some (.slice Av (formD j).length cv) := Lib.cell_of_heap hform 10
          have HFO := Lib.hid hform
          have HOV := Lib.hid hov
          have HFA := Lib.hid (show FormAt (w3.heap.size + 2) (w3.heap.size + 1) (blankU j) (formD j) w6 from ⟨_, hform, hov⟩)
          clear hzs hform hov hb6
          go_wp2_with fail
          clear y10
          obtain ⟨L, hL⟩ : ∃ L, (⟨kd, tx, nu, li, co⟩ : TokD) :: ts = L := ⟨_, rfl⟩
          have hLl : L.length = ts.length + 1 := by rw [← hL]; rfl
          go_loopg [47] (formD j).length (fun gg i wx => ∃ (m : Nat) (f : FormU), m ≤ (formD j).length ∧ (formD j).length - m ≤ gg ∧ i = .int .i64 m ∧ m < L.length ∧ runU (formD j) L (blankU j) = runU ((formD j).drop m) (L.drop m) f ∧ FormAt (w3.heap.size + 2) (w3.heap.size + 1) f (formD j) wx ∧ Ow (fdc (w3.heap.size + 1)) 4 wx (w3.heap.size + 2) 61 (.slice Av (formD j).length cv) (formD j) ∧ Below (w.heap.size + 2) w1 wx)
          case atStart => exact ⟨0, blankU j, Nat.zero_le _, by omega, rfl, by omega, rfl, HFA.out, HOV.out, HB6.out⟩
          case round =>
            obtain ⟨m, f, hm, hgm, rfl, hmL, hru, hfa, hov, hbx⟩ := hrel
            obtain ⟨wo, rfl⟩ : ∃ wo, wo = wr := ⟨_, rfl⟩
            have hbw := HB1.out.trans (hbx.mono (Nat.le_add_right _ _))
            have hfl : (formD j).length ≤ 8 := by unfold formD; rw [List.length_map]; exact wordsD_len j
            have hzo : w3.heap.size + 2 ≤ wo.heap.size := by have := hfa.lt; omega
            have HRU := Lib.hid hru
            have HFR := Lib.hid hfa
            have HOR := Lib.hid hov
            have HBX := Lib.hid hbx
            have HBY := Lib.hid hbw
            by_cases hmf : m < (formD j).length
            · have hfs := (hov.sl (fdc_len _)).at_ hmf
              obtain ⟨b4, o4, c4, e4, _, _, _, _, hx4⟩ := hfs
              have e5 := (Value.slice.inj e4).1
              obtain ⟨x, hx⟩ : ∃ x, (formD j)[m] = x := ⟨_, rfl⟩
              have hok : okF x := form_ok j x (by rw [← hx]; exact List.getElem_mem hmf)
              rw [hx] at hx4
              obtain ⟨sv, p1, p2, low, hfd⟩ : ∃ sv p1 p2 low, fdc (w3.heap.size + 1) x = [.string sv, .pointer p1, .pointer p2, .int .i64 low] := by
                cases x <;> exact ⟨_, _, _, _, rfl⟩
              rw [hfd] at hx4
              subst e5
              have a0 : wo.cell? ⟨b4, o4 + m * 4, none⟩ = some (.string sv) := by simpa using hx4 0 _ rfl
              have a1 : wo.cell? ⟨b4, o4 + m * 4 + 1, none⟩ = some (.pointer p1) := by simpa using hx4 1 _ rfl
              have a2 : wo.cell? ⟨b4, o4 + m * 4 + 2, none⟩ = some (.pointer p2) := by simpa using hx4 2 _ rfl
              have a3 : wo.cell? ⟨b4, o4 + m * 4 + 3, none⟩ = some (.int .i64 low) := by simpa using hx4 3 _ rfl
              have hrun : runU (formD j) L (blankU j) = if takeD x L[m] = true then runU ((formD j).drop (m + 1)) (L.drop (m + 1)) (setF x L[m] f) else (f, some L[m]) := by
                rw [hru, List.drop_eq_getElem_cons hmf, List.drop_eq_getElem_cons hmL, hx]; rfl
              have hLw := (HS.out.below_ hbw)
              rw [hL] at hLw
              obtain ⟨b5, o5, c5, e6, _, _, _, _, hy5⟩ := hLw.at_ hmL
              have e7 := Option.some.inj (Value.slice.inj e6).1
              have e8 := (Addr.mk.inj e7).1
              have e9 := (Addr.mk.inj e7).2.1
              subst e8 e9
              obtain ⟨y, hy⟩ : ∃ y, L[m] = y := ⟨_, rfl⟩
              rw [hy] at hy5 hrun
              have q1 : (0 : Int) ≤ (m : Int) := by omega
              have q2 : (m : Int) < ((formD j).length : Int) := by omega
              have q3 : (m : Int) < (ts.length : Int) + 1 := by omega
              have HRUN := Lib.hid hrun
              have HFD := Lib.hid hfd
              have HY := Lib.hid hy
              have HLW := Lib.hid hLw
              have HY5 := Lib.hid hy5
              clear hrun hfd hy hLw hx4 hx e4 e6 e7 hru hfa hov hbx hbw hy5
              go_wp2_with fail
              obtain ⟨wA, hwA⟩ : ∃ wA, wo.alloc (.cells #[.string sv, .pointer p1, .pointer p2, .int .i64 low] 61) = wA := ⟨_, rfl⟩
              have hbA : Below wo.heap.size wo wA := by rw [← hwA]; exact (Below.refl _ _).alloc (Nat.le_refl _) _
              have hxA : wA.heap[wo.heap.size]? = some (.cells #[.string sv, .pointer p1, .pointer p2, .int .i64 low] 61 (0, 0)) := by rw [← hwA]; exact heap_alloc_new _ _
              obtain ⟨b8, o8, c8, e8, _, _, _, _, hy8⟩ := (HLW.out.below_ hbA).at_ hmL
              have e7 := Option.some.inj (Value.slice.inj e8).1
              have e8 := (Addr.mk.inj e7).1
              have e9 := (Addr.mk.inj e7).2.1
              subst e8 e9
              rw [HY.out] at hy8
              have hSw : (fun wy => wy.cell? ⟨wo.heap.size, 0, none⟩ = some (.string sv) ∧ wy.cell? ⟨wo.heap.size, 1, none⟩ = some (.pointer p1) ∧ wy.cell? ⟨wo.heap.size, 2, none⟩ = some (.pointer p2) ∧ wy.cell? ⟨wo.heap.size, 3, none⟩ = some (.int .i64 low) ∧ wy.cell? ⟨bl, ol + m * 5, none⟩ = some (.int .i64 y.kind) ∧ wy.cell? ⟨bl, ol + m * 5 + 1, none⟩ = some (.string (ba y.text)) ∧ wy.cell? ⟨bl, ol + m * 5 + 2, none⟩ = some (.int .i64 y.num) ∧ wy.cell? ⟨bl, ol + m * 5 + 3, none⟩ = some (.int .i64 y.line) ∧ wy.cell? ⟨bl, ol + m * 5 + 4, none⟩ = some (.int .i64 y.col)) wA := ⟨Lib.cell_of_heap hxA 0, Lib.cell_of_heap hxA 1, Lib.cell_of_heap hxA 2, Lib.cell_of_heap hxA 3, by simpa using hy8 0 _ rfl, by simpa using hy8 1 _ rfl, by simpa using hy8 2 _ rfl, by simpa using hy8 3 _ rfl, by simpa using hy8 4 _ rfl⟩
              have HFA2 := Lib.hid (HFR.out.keep fun c hc => hbA.block c hc)
              have HOA2 := Lib.hid (HOR.out.keepB fun c _ hc => hbA.block c hc)
              have HBA2 := Lib.hid (HBX.out.trans (hbA.mono (by omega)))
              have HLA2 := Lib.hid (HLW.out.below_ hbA)
              have hzA : w3.heap.size + 2 ≤ wA.heap.size := by have := hbA.size; omega
              rw [hwA]
              clear hwA hbA hxA hy8 a0 a1 a2 a3 HFR HOR HBX HLW HY5 e7
              dsimp only at hSw
              refine wp_region_kinds (fun wy => wy.cell? ⟨wo.heap.size, 0, none⟩ = some (.string sv) ∧ wy.cell? ⟨wo.heap.size, 1, none⟩ = some (.pointer p1) ∧ wy.cell? ⟨wo.heap.size, 2, none⟩ = some (.pointer p2) ∧ wy.cell? ⟨wo.heap.size, 3, none⟩ = some (.int .i64 low) ∧ wy.cell? ⟨bl, ol + m * 5, none⟩ = some (.int .i64 y.kind) ∧ wy.cell? ⟨bl, ol + m * 5 + 1, none⟩ = some (.string (ba y.text)) ∧ wy.cell? ⟨bl, ol + m * 5 + 2, none⟩ = some (.int .i64 y.num) ∧ wy.cell? ⟨bl, ol + m * 5 + 3, none⟩ = some (.int .i64 y.line) ∧ wy.cell? ⟨bl, ol + m * 5 + 4, none⟩ = some (.int .i64 y.col)) [] [5] [0, 4] [1, 2, 3, 6] [0, 1, 2, 3, 4, 5, 6] (by kernel_rfl) (by kernel_rfl) (fun w n h => h) ?_
              repeat (first | (refine wpKind_free (v := ?_) (by rfl) rfl (by rfl) ?_ ?_; rotate_left 1; (focus (intro wy; go_simp; try with_reducible rfl; done)); try simp only [Act.put, List.setIfInBounds_toArray, List.set_cons_zero, List.set_cons_succ]) | (refine wpKind_held (v := ?_) (by rfl) rfl (by rfl) hSw ?_ ?_; rotate_left 1; (focus (intro wy hSy; obtain ⟨s0, s1, s2, s3, s4, s5, s6, s7, s8⟩ := hSy; go_simp; try with_reducible rfl; done)); try simp only [Act.put, List.setIfInBounds_toArray, List.set_cons_zero, List.set_cons_succ]))
              refine wpKind_serial (by rfl) rfl (fun n1 => ?_)
              go_wp2_with fail
              clear hSw
              have htk := take_any (w3.heap.size + 2) (w3.heap.size + 1) x hok y f (formD j) (wA.drewN n1) (HFA2.out.keep fun _ _ => rfl) (Nat.lt_succ_self _)
              rw [HFD.out] at htk
              refine htk.mono ?_
              clear htk
              rintro e w8 ⟨rfl, hfa8, hk8, hb8⟩
              have HF8 := Lib.hid hfa8
              have HO8 := Lib.hid (HOA2.out.keepB (w' := w8) fun c hc hc2 => hk8 c (by omega) hc2)
              have HB8 := Lib.hid (show Below (w.heap.size + 2) w1 w8 from (below_drewN HBA2.out n1).trans (hb8.mono (by omega)))
              clear hfa8 hk8 hb8
              go_wp2_with fail
              show wpKind _ _ _ _ _ _ _ _ _
              repeat (first | (refine wpKind_free (v := ?_) (by rfl) rfl (by rfl) ?_ ?_; rotate_left 1; (focus (intro wy; go_simp; try with_reducible rfl; done)); try simp only [Act.put, List.setIfInBounds_toArray, List.set_cons_zero, List.set_cons_succ]))
              refine wpKind_nil fun n9 => ?_
              cases htd : takeD x y
              · obtain ⟨b9, o9, c9, e9, _, _, _, _, hy9⟩ := (HLA2.out.below_ (show Below wA.heap.size wA wA from Below.refl _ _)).at_ hmL
                have HLU := Lib.hid (show lineU (⟨kd, tx, nu, li, co⟩ :: ts) = (zeroU, 7, y.line, y.col) by
                  show (if kindU _ = 6 then _ else _) = _
                  rw [HKH.out, if_neg (by omega), hL, HRUN.out, htd]; rfl)
                have HLX := Lib.hid (HS.out.below_ (HB1.out.trans (HB8.out.mono (Nat.le_add_right _ _))))
                rw [hL] at HLX
                obtain ⟨b8, o8, c8, e8, _, _, _, _, hy8⟩ := HLX.out.at_ hmL
                have e7 := Option.some.inj (Value.slice.inj e8).1
                have e8 := (Addr.mk.inj e7).1
                have e9 := (Addr.mk.inj e7).2.1
                subst e8 e9
                rw [HY.out] at hy8
                have z0 : w8.cell? ⟨bl, ol + m * 5, none⟩ = some (.int .i64 y.kind) := by simpa using hy8 0 _ rfl
                have z1 : w8.cell? ⟨bl, ol + m * 5 + 1, none⟩ = some (.string (ba y.text)) := by simpa using hy8 1 _ rfl
                have z2 : w8.cell? ⟨bl, ol + m * 5 + 2, none⟩ = some (.int .i64 y.num) := by simpa using hy8 2 _ rfl
                have z3 : w8.cell? ⟨bl, ol + m * 5 + 3, none⟩ = some (.int .i64 y.line) := by simpa using hy8 3 _ rfl
                have z4 : w8.cell? ⟨bl, ol + m * 5 + 4, none⟩ = some (.int .i64 y.col) := by simpa using hy8 4 _ rfl
                clear hy8 hy9 e7
                go_wp2_with fail
                clear z0 z1 z2 z3 z4
                refine (at_any y _).mono ?_
                rintro e wz ⟨rfl, hbz⟩
                have hbz : Below (w.heap.size + 2) w1 wz := (below_drewN HB8.out n9).trans (hbz.mono (by have := HB8.out.size; show w.heap.size + 2 ≤ w8.heap.size; omega))
                have BZ := Lib.hid (HB1.out.trans (hbz.mono (Nat.le_add_right _ _)))
                have rr := (hbz.block w.heap.size (by omega)).trans HR1.out
                have rf := (hbz.block (w.heap.size + 1) (by omega)).trans HF1.out
                have u0 : wz.cell? ⟨w.heap.size, 0, none⟩ = some (.int .i64 0) := Lib.cell_of_heap rr 0
                have g0 : wz.frozen? ⟨w.heap.size, 0, none⟩ = false := Lib.frozen_of_heap rr 0
                have u1 : wz.cell? ⟨w.heap.size, 1, none⟩ = some (.string ⟨#[]⟩) := Lib.cell_of_heap rr 1
                have g1 : wz.frozen? ⟨w.heap.size, 1, none⟩ = false := Lib.frozen_of_heap rr 1
                have u2 : wz.cell? ⟨w.heap.size, 2, none⟩ = some (.int .i64 0) := Lib.cell_of_heap rr 2
                have g2 : wz.frozen? ⟨w.heap.size, 2, none⟩ = false := Lib.frozen_of_heap rr 2
                have u3 : wz.cell? ⟨w.heap.size, 3, none⟩ = some (.int .i64 0) := Lib.cell_of_heap rr 3
                have g3 : wz.frozen? ⟨w.heap.size, 3, none⟩ = false := Lib.frozen_of_heap rr 3
                have u4 : wz.cell? ⟨w.heap.size, 4, none⟩ = some (.int .i64 0) := Lib.cell_of_heap rr 4
                have g4 : wz.frozen? ⟨w.heap.size, 4, none⟩ = false := Lib.frozen_of_heap rr 4
                have u5 : wz.cell? ⟨w.heap.size, 5, none⟩ = some (.int .i64 0) := Lib.cell_of_heap rr 5
                have g5 : wz.frozen? ⟨w.heap.size, 5, none⟩ = false := Lib.frozen_of_heap rr 5
                have u6 : wz.cell? ⟨w.heap.size, 6, none⟩ = some (.int .i64 0) := Lib.cell_of_heap rr 6
                have g6 : wz.frozen? ⟨w.heap.size, 6, none⟩ = false := Lib.frozen_of_heap rr 6
                have u7 : wz.cell? ⟨w.heap.size, 7, none⟩ = some (.int .i64 0) := Lib.cell_of_heap rr 7
                have g7 : wz.frozen? ⟨w.heap.size, 7, none⟩ = false := Lib.frozen_of_heap rr 7
                have m0 : wz.cell? ⟨w.heap.size + 1, 0, none⟩ = some (.int .i64 0) := Lib.cell_of_heap rf 0
                have o0 : wz.frozen? ⟨w.heap.size + 1, 0, none⟩ = false := Lib.frozen_of_heap rf 0
                have m1 : wz.cell? ⟨w.heap.size + 1, 1, none⟩ = some (.int .i64 0) := Lib.cell_of_heap rf 1
                have o1 : wz.frozen? ⟨w.heap.size + 1, 1, none⟩ = false := Lib.frozen_of_heap rf 1
                have m2 : wz.cell? ⟨w.heap.size + 1, 2, none⟩ = some (.int .i64 0) := Lib.cell_of_heap rf 2
                have o2 : wz.frozen? ⟨w.heap.size + 1, 2, none⟩ = false := Lib.frozen_of_heap rf 2
                have RR := Lib.hid rr
                have RF := Lib.hid rf
                clear rr rf
                clear hbz
                go_wp2_with fail
                clear u0 u1 u2 u3 u4 u5 u6 u7 g0 g1 g2 g3 g4 g5 g6 g7 m0 m1 m2 o0 o1 o2
                obtain ⟨ra, rb, rc⟩ := res_put _ _ _ _ _ _ _ _ _ _ _ RR.out RF.out BZ.out (Nat.le_refl w.heap.size)
                refine bodyPost_ret (results_cc rfl _ _ w.heap.size (w.heap.size + 1) _ _ _ _ (0, 0) (0, 0) _ _ rfl ra Tryz.underlying25 rfl (by kernel_rfl) rfl rb Tryz.underlying30 rfl (by kernel_rfl)) rfl ⟨?_, rc⟩
                rw [HLU.out]; rfl
              · go_wp2_with fail
                go_roundg ((formD j).length - (m + 1))
                case measure => omega
                case rel =>
                  have h4 : y.kind ≠ 4 := by
                    intro h4
                    cases x <;> simp [takeD, h4] at htd
                  have hm1 : m + 1 < L.length := by
                    rcases Nat.lt_or_ge (m + 1) L.length with h | h
                    · exact h
                    · exfalso
                      have h9 := HLAST.out y
                      rw [hL, List.getLast?_eq_getElem?, show L.length - 1 = m by omega, List.getElem?_eq_getElem hmL, HY.out] at h9
                      exact h4 (h9 rfl)
                  refine ⟨m + 1, setF x y f, by omega, by omega, by go_num, hm1, ?_, HF8.out.keep fun _ _ => rfl, HO8.out.drewN n9, below_drewN HB8.out n9⟩
                  rw [HRUN.out, htd, if_pos rfl]
            · have hmm : m = (formD j).length := by omega
              have hrun : runU (formD j) L (blankU j) = if L[m].kind = 4 then (f, none) else (f, some L[m]) := by
                rw [hru, List.drop_of_length_le (by omega), List.drop_eq_getElem_cons hmL]; rfl
              have hLw := (HS.out.below_ hbw)
              rw [hL] at hLw
              obtain ⟨b5, o5, c5, e6, _, _, _, _, hy5⟩ := hLw.at_ hmL
              have e7 := Option.some.inj (Value.slice.inj e6).1
              have e8 := (Addr.mk.inj e7).1
              have e9 := (Addr.mk.inj e7).2.1
              subst e8 e9
              obtain ⟨y, hy⟩ : ∃ y, L[m] = y := ⟨_, rfl⟩
              rw [hy] at hy5 hrun
              obtain ⟨vg, hform, hovg⟩ := hfa
              obtain ⟨Ag, ng, cg, rfl⟩ := ow_form hovg
              have hng : ng = m := by
                obtain ⟨A, cap, e, _⟩ := hovg.shape
                injection e with _ e _
                omega
              subst hng
              have q2 : ¬ (ng : Int) < ((formD j).length : Int) := by omega
              have q3 : (ng : Int) < (ts.length : Int) + 1 := by omega
              have q1 : (0 : Int) ≤ (ng : Int) := by omega
              have HRUN := Lib.hid hrun
              have HY := Lib.hid hy
              have HFO2 := Lib.hid hform
              have s10 : wo.cell? ⟨w3.heap.size + 1, 10, none⟩ = some (.slice Ag ng cg) := Lib.cell_of_heap hform 10
              have z0 : wo.cell? ⟨bl, ol + ng * 5, none⟩ = some (.int .i64 y.kind) := by simpa using hy5 0 _ rfl
              have z1 : wo.cell? ⟨bl, ol + ng * 5 + 1, none⟩ = some (.string (ba y.text)) := by simpa using hy5 1 _ rfl
              have z2 : wo.cell? ⟨bl, ol + ng * 5 + 2, none⟩ = some (.int .i64 y.num) := by simpa using hy5 2 _ rfl
              have z3 : wo.cell? ⟨bl, ol + ng * 5 + 3, none⟩ = some (.int .i64 y.line) := by simpa using hy5 3 _ rfl
              have z4 : wo.cell? ⟨bl, ol + ng * 5 + 4, none⟩ = some (.int .i64 y.col) := by simpa using hy5 4 _ rfl
              clear hrun hy hy5 hLw e6 e7 hru hov hovg hbx hbw hmm hform
              by_cases hy4 : y.kind = 4
              · have k9 : (y.kind == 4) = true := beq_iff_eq.2 hy4
                have HY4 := Lib.hid hy4
                clear hy4
                have hbA : Below wo.heap.size wo (wo.alloc (.cells #[.int .i64 y.kind, .string (ba y.text), .int .i64 y.num, .int .i64 y.line, .int .i64 y.col] 51)) := (Below.refl _ _).alloc (Nat.le_refl _) _
                obtain ⟨wA, hwA⟩ : ∃ wA, wo.alloc (.cells #[.int .i64 y.kind, .string (ba y.text), .int .i64 y.num, .int .i64 y.line, .int .i64 y.col] 51) = wA := ⟨_, rfl⟩
                have htA : wA.heap[wo.heap.size]? = some (.cells #[.int .i64 y.kind, .string (ba y.text), .int .i64 y.num, .int .i64 y.line, .int .i64 y.col] 51 (0, 0)) := by rw [← hwA]; exact heap_alloc_new _ _
                rw [hwA] at hbA
                have HFA3 := Lib.hid ((hbA.block (w3.heap.size + 1) (by omega)).trans HFO2.out)
                have HBA3 := Lib.hid (HBX.out.trans (hbA.mono (by omega)))
                have hzA : w3.heap.size + 2 ≤ wA.heap.size := by have := hbA.size; omega
                have y0 : wA.cell? ⟨wo.heap.size, 0, none⟩ = some (.int .i64 y.kind) := Lib.cell_of_heap htA 0
                have y1 : wA.cell? ⟨wo.heap.size, 1, none⟩ = some (.string (ba y.text)) := Lib.cell_of_heap htA 1
                have y2 : wA.cell? ⟨wo.heap.size, 2, none⟩ = some (.int .i64 y.num) := Lib.cell_of_heap htA 2
                have y3 : wA.cell? ⟨wo.heap.size, 3, none⟩ = some (.int .i64 y.line) := Lib.cell_of_heap htA 3
                have y4 : wA.cell? ⟨wo.heap.size, 4, none⟩ = some (.int .i64 y.col) := Lib.cell_of_heap htA 4
                clear hbA htA
                have HLU := Lib.hid (show lineU (⟨kd, tx, nu, li, co⟩ :: ts) = ({ f.u with no := f.no, pos := f.pos }, 0, 0, 0) by
                  show (if kindU _ = 6 then _ else _) = _
                  rw [HKH.out, if_neg (by omega), hL, HRUN.out, if_pos HY4.out])
                have n0 : wA.cell? ⟨w3.heap.size + 1, 0, none⟩ = some (.int .i64 f.u.kind) := Lib.cell_of_heap HFA3.out 0
                have n1 : wA.cell? ⟨w3.heap.size + 1, 1, none⟩ = some (.string (ba f.u.name)) := Lib.cell_of_heap HFA3.out 1
                have n2 : wA.cell? ⟨w3.heap.size + 1, 2, none⟩ = some (.int .i64 f.u.no) := Lib.cell_of_heap HFA3.out 2
                have n3 : wA.cell? ⟨w3.heap.size + 1, 3, none⟩ = some (.int .i64 f.u.pos) := Lib.cell_of_heap HFA3.out 3
                have n4 : wA.cell? ⟨w3.heap.size + 1, 4, none⟩ = some (.int .i64 f.u.by_) := Lib.cell_of_heap HFA3.out 4
                have n5 : wA.cell? ⟨w3.heap.size + 1, 5, none⟩ = some (.int .i64 f.u.from_) := Lib.cell_of_heap HFA3.out 5
                have n6 : wA.cell? ⟨w3.heap.size + 1, 6, none⟩ = some (.int .i64 f.u.every) := Lib.cell_of_heap HFA3.out 6
                have n7 : wA.cell? ⟨w3.heap.size + 1, 7, none⟩ = some (.int .i64 f.u.len) := Lib.cell_of_heap HFA3.out 7
                go_wp2_with fail
                clear n0 n1 n2 n3 n4 n5 n6 n7 y0 y1 y2 y3 y4 z0 z1 z2 z3 z4 s10 hwA
                have hbB : Below wA.heap.size wA (wA.alloc (.cells #[.int .i64 f.u.kind, .string (ba f.u.name), .int .i64 f.u.no, .int .i64 f.u.pos, .int .i64 f.u.by_, .int .i64 f.u.from_, .int .i64 f.u.every, .int .i64 f.u.len] 25)) := (Below.refl _ _).alloc (Nat.le_refl _) _
                obtain ⟨wB, hwB⟩ : ∃ wB, wA.alloc (.cells #[.int .i64 f.u.kind, .string (ba f.u.name), .int .i64 f.u.no, .int .i64 f.u.pos, .int .i64 f.u.by_, .int .i64 f.u.from_, .int .i64 f.u.every, .int .i64 f.u.len] 25) = wB := ⟨_, rfl⟩
                have huB : wB.heap[wA.heap.size]? = some (.cells #[.int .i64 f.u.kind, .string (ba f.u.name), .int .i64 f.u.no, .int .i64 f.u.pos, .int .i64 f.u.by_, .int .i64 f.u.from_, .int .i64 f.u.every, .int .i64 f.u.len] 25 (0, 0)) := by rw [← hwB]; exact heap_alloc_new _ _
                rw [hwB] at hbB ⊢
                have hfB := (hbB.block (w3.heap.size + 1) (by omega)).trans HFA3.out
                have HBB := Lib.hid (HBA3.out.trans (hbB.mono (by omega)))
                have hSw : (fun wy => wy.cell? ⟨w3.heap.size + 1, 8, none⟩ = some (.int .i64 f.no) ∧ wy.cell? ⟨w3.heap.size + 1, 9, none⟩ = some (.int .i64 f.pos)) wB := ⟨Lib.cell_of_heap hfB 8, Lib.cell_of_heap hfB 9⟩
                have HUB := Lib.hid huB
                have HFB2 := Lib.hid hfB
                have x2 : wB.cell? ⟨wA.heap.size, 2, none⟩ = some (.int .i64 f.u.no) := Lib.cell_of_heap huB 2
                have f2 : wB.frozen? ⟨wA.heap.size, 2, none⟩ = false := Lib.frozen_of_heap huB 2
                clear hwB hbB huB hfB
                dsimp only at hSw
                refine wp_region_kinds (fun wy => wy.cell? ⟨w3.heap.size + 1, 8, none⟩ = some (.int .i64 f.no) ∧ wy.cell? ⟨w3.heap.size + 1, 9, none⟩ = some (.int .i64 f.pos)) [9, 11] [] [3, 7] [0, 1, 2, 4, 5, 6, 8, 10] [0, 1, 2, 3, 4, 5, 6, 7, 8, 9, 10, 11] (by kernel_rfl) (by kernel_rfl) (fun w n h => h) ?_
                repeat (first | (refine wpKind_free (v := ?_) (by rfl) rfl (by rfl) ?_ ?_; rotate_left 1; (focus (intro wy; go_simp; try with_reducible rfl; done)); try simp only [Act.put, List.setIfInBounds_toArray, List.set_cons_zero, List.set_cons_succ]) | (refine wpKind_held (v := ?_) (by rfl) rfl (by rfl) hSw ?_ ?_; rotate_left 1; (focus (intro wy hSy; obtain ⟨s0, s1⟩ := hSy; go_simp; try with_reducible rfl; done)); try simp only [Act.put, List.setIfInBounds_toArray, List.set_cons_zero, List.set_cons_succ]))
                refine wpKind_keeps (by rfl) rfl (fun n4 => ?_)
                go_wp2_with fail
                obtain ⟨w7, hw7⟩ : ∃ w7, (wB.drewN n4).setCell ⟨wA.heap.size, 2, none⟩ (.int .i64 f.no) = w7 := ⟨_, rfl⟩
                have hu7 : w7.heap[wA.heap.size]? = some (.cells #[.int .i64 f.u.kind, .string (ba f.u.name), .int .i64 f.no, .int .i64 f.u.pos, .int .i64 f.u.by_, .int .i64 f.u.from_, .int .i64 f.u.every, .int .i64 f.u.len] 25 (0, 0)) := by rw [← hw7]; exact heap_setCell_same (wB.drewN n4) wA.heap.size 2 _ _ _ HUB.out
                have hf7 := (show w7.heap[w3.heap.size + 1]? = wB.heap[w3.heap.size + 1]? by rw [← hw7]; exact Below.heap_setCell (wB.drewN n4) _ _ _ (by show w3.heap.size + 1 ≠ wA.heap.size; omega)).trans HFB2.out
                have HB7 := Lib.hid (show Below (w.heap.size + 2) w1 w7 by rw [← hw7]; exact (below_drewN HBB.out n4).setCell (p := ⟨wA.heap.size, 2, none⟩) (by show w.heap.size + 2 ≤ wA.heap.size; omega) _)
                rw [hw7]
                clear hw7 x2 f2 hSw HBB HFB2
                show _ ∧ _
                have hSw : (fun wy => wy.cell? ⟨w3.heap.size + 1, 8, none⟩ = some (.int .i64 f.no) ∧ wy.cell? ⟨w3.heap.size + 1, 9, none⟩ = some (.int .i64 f.pos)) w7 := ⟨Lib.cell_of_heap hf7 8, Lib.cell_of_heap hf7 9⟩
                dsimp only at hSw
                refine ⟨hSw, ?_⟩
                repeat (first | (refine wpKind_free (v := ?_) (by rfl) rfl (by rfl) ?_ ?_; rotate_left 1; (focus (intro wy; go_simp; try with_reducible rfl; done)); try simp only [Act.put, List.setIfInBounds_toArray, List.set_cons_zero, List.set_cons_succ]) | (refine wpKind_held (v := ?_) (by rfl) rfl (by rfl) hSw ?_ ?_; rotate_left 1; (focus (intro wy hSy; obtain ⟨s0, s1⟩ := hSy; go_simp; try with_reducible rfl; done)); try simp only [Act.put, List.setIfInBounds_toArray, List.set_cons_zero, List.set_cons_succ]))
                have x3 : w7.cell? ⟨wA.heap.size, 3, none⟩ = some (.int .i64 f.u.pos) := Lib.cell_of_heap hu7 3
                have f3 : w7.frozen? ⟨wA.heap.size, 3, none⟩ = false := Lib.frozen_of_heap hu7 3
                have HU7 := Lib.hid hu7
                have HF7 := Lib.hid hf7
                clear hu7 hf7
                refine wpKind_keeps (by rfl) rfl (fun n5 => ?_)
                go_wp2_with fail
                obtain ⟨wq, hw9⟩ : ∃ w9, (w7.drewN n5).setCell ⟨wA.heap.size, 3, none⟩ (.int .i64 f.pos) = w9 := ⟨_, rfl⟩
                have hu8 : wq.heap[wA.heap.size]? = some (.cells #[.int .i64 f.u.kind, .string (ba f.u.name), .int .i64 f.no, .int .i64 f.pos, .int .i64 f.u.by_, .int .i64 f.u.from_, .int .i64 f.u.every, .int .i64 f.u.len] 25 (0, 0)) := by rw [← hw9]; exact heap_setCell_same (w7.drewN n5) wA.heap.size 3 _ _ _ HU7.out
                have hf9 := (show wq.heap[w3.heap.size + 1]? = w7.heap[w3.heap.size + 1]? by rw [← hw9]; exact Below.heap_setCell (w7.drewN n5) _ _ _ (by show w3.heap.size + 1 ≠ wA.heap.size; omega)).trans HF7.out
                have hbq : Below (w.heap.size + 2) w1 wq := by rw [← hw9]; exact (below_drewN HB7.out n5).setCell (p := ⟨wA.heap.size, 3, none⟩) (by show w.heap.size + 2 ≤ wA.heap.size; omega) _
                rw [hw9]
                clear hw9 x3 f3 hSw HB7 HU7 HF7
                show _ ∧ _
                have hSw : (fun wy => wy.cell? ⟨w3.heap.size + 1, 8, none⟩ = some (.int .i64 f.no) ∧ wy.cell? ⟨w3.heap.size + 1, 9, none⟩ = some (.int .i64 f.pos)) wq := ⟨Lib.cell_of_heap hf9 8, Lib.cell_of_heap hf9 9⟩
                dsimp only at hSw
                refine ⟨hSw, ?_⟩
                refine wpKind_nil fun n9 => ?_
                clear hSw hf9
                obtain ⟨wz, hwz⟩ : ∃ wz, wq.drewN n9 = wz := ⟨_, rfl⟩
                have hu9 : wz.heap[wA.heap.size]? = wq.heap[wA.heap.size]? := by rw [← hwz]; rfl
                have hu9 := hu9.trans hu8
                have hbz : Below (w.heap.size + 2) w1 wz := by rw [← hwz]; exact below_drewN hbq n9
                rw [hwz]
                clear hwz hu8 hbq
                have BZ := Lib.hid (HB1.out.trans (hbz.mono (Nat.le_add_right _ _)))
                have rr := (hbz.block w.heap.size (by omega)).trans HR1.out
                have rf := (hbz.block (w.heap.size + 1) (by omega)).trans HF1.out
                have u0 : wz.cell? ⟨w.heap.size, 0, none⟩ = some (.int .i64 0) := Lib.cell_of_heap rr 0
                have g0 : wz.frozen? ⟨w.heap.size, 0, none⟩ = false := Lib.frozen_of_heap rr 0
                have u1 : wz.cell? ⟨w.heap.size, 1, none⟩ = some (.string ⟨#[]⟩) := Lib.cell_of_heap rr 1
                have g1 : wz.frozen? ⟨w.heap.size, 1, none⟩ = false := Lib.frozen_of_heap rr 1
                have u2 : wz.cell? ⟨w.heap.size, 2, none⟩ = some (.int .i64 0) := Lib.cell_of_heap rr 2
                have g2 : wz.frozen? ⟨w.heap.size, 2, none⟩ = false := Lib.frozen_of_heap rr 2
                have u3 : wz.cell? ⟨w.heap.size, 3, none⟩ = some (.int .i64 0) := Lib.cell_of_heap rr 3
                have g3 : wz.frozen? ⟨w.heap.size, 3, none⟩ = false := Lib.frozen_of_heap rr 3
                have u4 : wz.cell? ⟨w.heap.size, 4, none⟩ = some (.int .i64 0) := Lib.cell_of_heap rr 4
                have g4 : wz.frozen? ⟨w.heap.size, 4, none⟩ = false := Lib.frozen_of_heap rr 4
                have u5 : wz.cell? ⟨w.heap.size, 5, none⟩ = some (.int .i64 0) := Lib.cell_of_heap rr 5
                have g5 : wz.frozen? ⟨w.heap.size, 5, none⟩ = false := Lib.frozen_of_heap rr 5
                have u6 : wz.cell? ⟨w.heap.size, 6, none⟩ = some (.int .i64 0) := Lib.cell_of_heap rr 6
                have g6 : wz.frozen? ⟨w.heap.size, 6, none⟩ = false := Lib.frozen_of_heap rr 6
                have u7 : wz.cell? ⟨w.heap.size, 7, none⟩ = some (.int .i64 0) := Lib.cell_of_heap rr 7
                have g7 : wz.frozen? ⟨w.heap.size, 7, none⟩ = false := Lib.frozen_of_heap rr 7
                have m0 : wz.cell? ⟨w.heap.size + 1, 0, none⟩ = some (.int .i64 0) := Lib.cell_of_heap rf 0
                have o0 : wz.frozen? ⟨w.heap.size + 1, 0, none⟩ = false := Lib.frozen_of_heap rf 0
                have m1 : wz.cell? ⟨w.heap.size + 1, 1, none⟩ = some (.int .i64 0) := Lib.cell_of_heap rf 1
                have o1 : wz.frozen? ⟨w.heap.size + 1, 1, none⟩ = false := Lib.frozen_of_heap rf 1
                have m2 : wz.cell? ⟨w.heap.size + 1, 2, none⟩ = some (.int .i64 0) := Lib.cell_of_heap rf 2
                have o2 : wz.frozen? ⟨w.heap.size + 1, 2, none⟩ = false := Lib.frozen_of_heap rf 2
                have RR := Lib.hid rr
                have RF := Lib.hid rf
                clear rr rf
                clear hbz
                have n0 : wz.cell? ⟨wA.heap.size, 0, none⟩ = some (.int .i64 f.u.kind) := Lib.cell_of_heap hu9 0
                have n1 : wz.cell? ⟨wA.heap.size, 1, none⟩ = some (.string (ba f.u.name)) := Lib.cell_of_heap hu9 1
                have n2 : wz.cell? ⟨wA.heap.size, 2, none⟩ = some (.int .i64 f.no) := Lib.cell_of_heap hu9 2
                have n3 : wz.cell? ⟨wA.heap.size, 3, none⟩ = some (.int .i64 f.pos) := Lib.cell_of_heap hu9 3
                have n4 : wz.cell? ⟨wA.heap.size, 4, none⟩ = some (.int .i64 f.u.by_) := Lib.cell_of_heap hu9 4
                have n5 : wz.cell? ⟨wA.heap.size, 5, none⟩ = some (.int .i64 f.u.from_) := Lib.cell_of_heap hu9 5
                have n6 : wz.cell? ⟨wA.heap.size, 6, none⟩ = some (.int .i64 f.u.every) := Lib.cell_of_heap hu9 6
                have n7 : wz.cell? ⟨wA.heap.size, 7, none⟩ = some (.int .i64 f.u.len) := Lib.cell_of_heap hu9 7
                clear hu9
                go_wp2_with fail
                clear u0 u1 u2 u3 u4 u5 u6 u7 g0 g1 g2 g3 g4 g5 g6 g7 m0 m1 m2 o0 o1 o2
                obtain ⟨ra, rb, rc⟩ := res_put _ _ _ _ _ _ _ _ _ _ _ RR.out RF.out BZ.out (Nat.le_refl w.heap.size)
                refine bodyPost_ret (results_cc rfl _ _ w.heap.size (w.heap.size + 1) _ _ _ _ (0, 0) (0, 0) _ _ rfl ra Tryz.underlying25 rfl (by kernel_rfl) rfl rb Tryz.underlying30 rfl (by kernel_rfl)) rfl ⟨?_, rc⟩
                rw [HLU.out]; rfl
              · have k9 : (y.kind == 4) = false := beq_eq_false_iff_ne.2 hy4
                have HLU := Lib.hid (show lineU (⟨kd, tx, nu, li, co⟩ :: ts) = (zeroU, 7, y.line, y.col) by
                  show (if kindU _ = 6 then _ else _) = _
                  rw [HKH.out, if_neg (by omega), hL, HRUN.out, if_neg hy4])
                clear hy4
                have hbA : Below wo.heap.size wo (wo.alloc (.cells #[.int .i64 y.kind, .string (ba y.text), .int .i64 y.num, .int .i64 y.line, .int .i64 y.col] 51)) := (Below.refl _ _).alloc (Nat.le_refl _) _
                obtain ⟨wA, hwA⟩ : ∃ wA, wo.alloc (.cells #[.int .i64 y.kind, .string (ba y.text), .int .i64 y.num, .int .i64 y.line, .int .i64 y.col] 51) = wA := ⟨_, rfl⟩
                have htA : wA.heap[wo.heap.size]? = some (.cells #[.int .i64 y.kind, .string (ba y.text), .int .i64 y.num, .int .i64 y.line, .int .i64 y.col] 51 (0, 0)) := by rw [← hwA]; exact heap_alloc_new _ _
                rw [hwA] at hbA
                have HFA3 := Lib.hid ((hbA.block (w3.heap.size + 1) (by omega)).trans HFO2.out)
                have HBA3 := Lib.hid (HBX.out.trans (hbA.mono (by omega)))
                have hzA : w3.heap.size + 2 ≤ wA.heap.size := by have := hbA.size; omega
                have y0 : wA.cell? ⟨wo.heap.size, 0, none⟩ = some (.int .i64 y.kind) := Lib.cell_of_heap htA 0
                have y1 : wA.cell? ⟨wo.heap.size, 1, none⟩ = some (.string (ba y.text)) := Lib.cell_of_heap htA 1
                have y2 : wA.cell? ⟨wo.heap.size, 2, none⟩ = some (.int .i64 y.num) := Lib.cell_of_heap htA 2
                have y3 : wA.cell? ⟨wo.heap.size, 3, none⟩ = some (.int .i64 y.line) := Lib.cell_of_heap htA 3
                have y4 : wA.cell? ⟨wo.heap.size, 4, none⟩ = some (.int .i64 y.col) := Lib.cell_of_heap htA 4
                clear hbA htA
                go_wp2_with fail
                clear y0 y1 y2 y3 y4 z0 z1 z2 z3 z4 s10 hwA
                refine (at_any y _).mono ?_
                rintro e wz ⟨rfl, hbz⟩
                have hbz : Below (w.heap.size + 2) w1 wz := HBA3.out.trans (hbz.mono (by omega))
                have BZ := Lib.hid (HB1.out.trans (hbz.mono (Nat.le_add_right _ _)))
                have rr := (hbz.block w.heap.size (by omega)).trans HR1.out
                have rf := (hbz.block (w.heap.size + 1) (by omega)).trans HF1.out
                have u0 : wz.cell? ⟨w.heap.size, 0, none⟩ = some (.int .i64 0) := Lib.cell_of_heap rr 0
                have g0 : wz.frozen? ⟨w.heap.size, 0, none⟩ = false := Lib.frozen_of_heap rr 0
                have u1 : wz.cell? ⟨w.heap.size, 1, none⟩ = some (.string ⟨#[]⟩) := Lib.cell_of_heap rr 1
                have g1 : wz.frozen? ⟨w.heap.size, 1, none⟩ = false := Lib.frozen_of_heap rr 1
                have u2 : wz.cell? ⟨w.heap.size, 2, none⟩ = some (.int .i64 0) := Lib.cell_of_heap rr 2
                have g2 : wz.frozen? ⟨w.heap.size, 2, none⟩ = false := Lib.frozen_of_heap rr 2
                have u3 : wz.cell? ⟨w.heap.size, 3, none⟩ = some (.int .i64 0) := Lib.cell_of_heap rr 3
                have g3 : wz.frozen? ⟨w.heap.size, 3, none⟩ = false := Lib.frozen_of_heap rr 3
                have u4 : wz.cell? ⟨w.heap.size, 4, none⟩ = some (.int .i64 0) := Lib.cell_of_heap rr 4
                have g4 : wz.frozen? ⟨w.heap.size, 4, none⟩ = false := Lib.frozen_of_heap rr 4
                have u5 : wz.cell? ⟨w.heap.size, 5, none⟩ = some (.int .i64 0) := Lib.cell_of_heap rr 5
                have g5 : wz.frozen? ⟨w.heap.size, 5, none⟩ = false := Lib.frozen_of_heap rr 5
                have u6 : wz.cell? ⟨w.heap.size, 6, none⟩ = some (.int .i64 0) := Lib.cell_of_heap rr 6
                have g6 : wz.frozen? ⟨w.heap.size, 6, none⟩ = false := Lib.frozen_of_heap rr 6
                have u7 : wz.cell? ⟨w.heap.size, 7, none⟩ = some (.int .i64 0) := Lib.cell_of_heap rr 7
                have g7 : wz.frozen? ⟨w.heap.size, 7, none⟩ = false := Lib.frozen_of_heap rr 7
                have m0 : wz.cell? ⟨w.heap.size + 1, 0, none⟩ = some (.int .i64 0) := Lib.cell_of_heap rf 0
                have o0 : wz.frozen? ⟨w.heap.size + 1, 0, none⟩ = false := Lib.frozen_of_heap rf 0
                have m1 : wz.cell? ⟨w.heap.size + 1, 1, none⟩ = some (.int .i64 0) := Lib.cell_of_heap rf 1
                have o1 : wz.frozen? ⟨w.heap.size + 1, 1, none⟩ = false := Lib.frozen_of_heap rf 1
                have m2 : wz.cell? ⟨w.heap.size + 1, 2, none⟩ = some (.int .i64 0) := Lib.cell_of_heap rf 2
                have o2 : wz.frozen? ⟨w.heap.size + 1, 2, none⟩ = false := Lib.frozen_of_heap rf 2
                have RR := Lib.hid rr
                have RF := Lib.hid rf
                clear rr rf
                clear hbz
                go_wp2_with fail
                clear u0 u1 u2 u3 u4 u5 u6 u7 g0 g1 g2 g3 g4 g5 g6 g7 m0 m1 m2 o0 o1 o2
                obtain ⟨ra, rb, rc⟩ := res_put _ _ _ _ _ _ _ _ _ _ _ RR.out RF.out BZ.out (Nat.le_refl w.heap.size)
                refine bodyPost_ret (results_cc rfl _ _ w.heap.size (w.heap.size + 1) _ _ _ _ (0, 0) (0, 0) _ _ rfl ra Tryz.underlying25 rfl (by kernel_rfl) rfl rb Tryz.underlying30 rfl (by kernel_rfl)) rfl ⟨?_, rc⟩
                rw [HLU.out]; rfl
        · have hb2 : ((ba (headW j)).toList == (ba tx).toList) = false := by rw [ba_toList, ba_toList]; exact beq_eq_false_iff_ne.2 hx
          have HX := Lib.hid hx
          clear hx
          repeat (first | (refine wpKind_free (v := ?_) (by rfl) rfl (by rfl) ?_ ?_; rotate_left 1; (focus (intro wy; go_simp; try with_reducible rfl; done)); try simp only [Act.put, List.setIfInBounds_toArray, List.set_cons_zero, List.set_cons_succ]) | (refine wpKind_free_no (by rfl) rfl (by rfl) ?_; try simp only [Act.put, List.setIfInBounds_toArray, List.set_cons_zero, List.set_cons_succ]))
          refine wpKind_nil fun n9 => ?_
          clear hSw
          go_wp2_with fail
          go_roundg (7 - (j + 1))
          case measure => omega
          case rel =>
            refine ⟨j + 1, by omega, by omega, by omega, by go_num, .inr fun i h1 h2 => ?_, ?_⟩
            · rcases Nat.lt_or_ge i j with h | h
              · exact (HNO.out.resolve_left HK4.out) i h1 h
              · rw [show i = j by omega]; exact HX.out
            · refine below_drewN ?_ _
              exact HB.out.trans (HB3.out.mono (by have := HB.out.size; omega))
    · have hj6' : j = 6 := by omega
      have q1 : decide ((j : Int) ≤ 5) = false := decide_eq_false (by omega)
      have q2 : decide (j ≤ 5) = false := decide_eq_false (by omega)
      have hkm : kindU ⟨kd, tx, nu, li, co⟩ = 6 := kindU_miss (by rw [hj6'] at HNO; exact HNO.out)
      have HKM := Lib.hid hkm
      clear hkm hj6'
      go_wp2_with fail
      refine wp_region_kinds (fun wy => wy.cell? ⟨bl, ol, none⟩ = some (.int .i64 kd) ∧ wy.cell? ⟨bl, ol + 1, none⟩ = some (.string (ba tx))) [10, 12] [] [6, 16] [0, 1, 2, 3, 4, 5, 7, 8, 9, 11, 13, 14, 15, 17, 18, 19] [0, 1, 2, 3, 4, 5, 6, 7, 8, 9, 13, 14, 15, 16, 10, 11, 12, 17, 18, 19] (by kernel_rfl) (by kernel_rfl) (fun w n h => h) ?_
      repeat (first | (refine wpKind_free (v := ?_) (by rfl) rfl (by rfl) ?_ ?_; rotate_left 1; (focus (intro wy; go_simp; try with_reducible rfl; done)); try simp only [Act.put, List.setIfInBounds_toArray, List.set_cons_zero, List.set_cons_succ]) | (refine wpKind_held (v := ?_) (by rfl) rfl (by rfl) hSw ?_ ?_; rotate_left 1; (focus (intro wy hSy; obtain ⟨s0, s1⟩ := hSy; go_simp; try with_reducible rfl; done)); try simp only [Act.put, List.setIfInBounds_toArray, List.set_cons_zero, List.set_cons_succ]) | (refine wpKind_free_no (by rfl) rfl (by rfl) ?_; try simp only [Act.put, List.setIfInBounds_toArray, List.set_cons_zero, List.set_cons_succ]) | (refine wpKind_held_no (by rfl) rfl (by rfl) hSw ?_; try simp only [Act.put, List.setIfInBounds_toArray, List.set_cons_zero, List.set_cons_succ]))
      (refine wpKind_keeps (by rfl) rfl (fun _ => ?_); go_wp2_with fail; show _ ∧ _; refine ⟨hSw, ?_⟩)
      repeat (first | (refine wpKind_free (v := ?_) (by rfl) rfl (by rfl) ?_ ?_; rotate_left 1; (focus (intro wy; go_simp; try with_reducible rfl; done)); try simp only [Act.put, List.setIfInBounds_toArray, List.set_cons_zero, List.set_cons_succ]) | (refine wpKind_free_no (by rfl) rfl (by rfl) ?_; try simp only [Act.put, List.setIfInBounds_toArray, List.set_cons_zero, List.set_cons_succ]))
      (refine wpKind_keeps (by rfl) rfl (fun _ => ?_); go_wp2_with fail; show _ ∧ _; refine ⟨hSw, ?_⟩)
      repeat (first | (refine wpKind_free (v := ?_) (by rfl) rfl (by rfl) ?_ ?_; rotate_left 1; (focus (intro wy; go_simp; try with_reducible rfl; done)); try simp only [Act.put, List.setIfInBounds_toArray, List.set_cons_zero, List.set_cons_succ]) | (refine wpKind_free_no (by rfl) rfl (by rfl) ?_; try simp only [Act.put, List.setIfInBounds_toArray, List.set_cons_zero, List.set_cons_succ]))
      refine wpKind_nil fun n9 => ?_
      have q3 : (5 : Int) < (j : Int) := by omega
      obtain ⟨z0, z1, z2, z3, z4⟩ := HC.out wr HBW.out
      clear hSw
      go_wp2_with fail
      clear z0 z1 z2 z3 z4
      refine (at_any ⟨kd, tx, nu, li, co⟩ _).mono ?_
      rintro e wz ⟨rfl, hbz⟩
      have hbz : Below (w.heap.size + 2) w1 wz := (below_drewN HB.out _).trans (hbz.mono (by have := HB.out.size; show w.heap.size + 2 ≤ wr.heap.size; omega))
      have BZ := Lib.hid (HB1.out.trans (hbz.mono (Nat.le_add_right _ _)))
      have rr := (hbz.block w.heap.size (by omega)).trans HR1.out
      have rf := (hbz.block (w.heap.size + 1) (by omega)).trans HF1.out
      have u0 : wz.cell? ⟨w.heap.size, 0, none⟩ = some (.int .i64 0) := Lib.cell_of_heap rr 0
      have g0 : wz.frozen? ⟨w.heap.size, 0, none⟩ = false := Lib.frozen_of_heap rr 0
      have u1 : wz.cell? ⟨w.heap.size, 1, none⟩ = some (.string ⟨#[]⟩) := Lib.cell_of_heap rr 1
      have g1 : wz.frozen? ⟨w.heap.size, 1, none⟩ = false := Lib.frozen_of_heap rr 1
      have u2 : wz.cell? ⟨w.heap.size, 2, none⟩ = some (.int .i64 0) := Lib.cell_of_heap rr 2
      have g2 : wz.frozen? ⟨w.heap.size, 2, none⟩ = false := Lib.frozen_of_heap rr 2
      have u3 : wz.cell? ⟨w.heap.size, 3, none⟩ = some (.int .i64 0) := Lib.cell_of_heap rr 3
      have g3 : wz.frozen? ⟨w.heap.size, 3, none⟩ = false := Lib.frozen_of_heap rr 3
      have u4 : wz.cell? ⟨w.heap.size, 4, none⟩ = some (.int .i64 0) := Lib.cell_of_heap rr 4
      have g4 : wz.frozen? ⟨w.heap.size, 4, none⟩ = false := Lib.frozen_of_heap rr 4
      have u5 : wz.cell? ⟨w.heap.size, 5, none⟩ = some (.int .i64 0) := Lib.cell_of_heap rr 5
      have g5 : wz.frozen? ⟨w.heap.size, 5, none⟩ = false := Lib.frozen_of_heap rr 5
      have u6 : wz.cell? ⟨w.heap.size, 6, none⟩ = some (.int .i64 0) := Lib.cell_of_heap rr 6
      have g6 : wz.frozen? ⟨w.heap.size, 6, none⟩ = false := Lib.frozen_of_heap rr 6
      have u7 : wz.cell? ⟨w.heap.size, 7, none⟩ = some (.int .i64 0) := Lib.cell_of_heap rr 7
      have g7 : wz.frozen? ⟨w.heap.size, 7, none⟩ = false := Lib.frozen_of_heap rr 7
      have m0 : wz.cell? ⟨w.heap.size + 1, 0, none⟩ = some (.int .i64 0) := Lib.cell_of_heap rf 0
      have o0 : wz.frozen? ⟨w.heap.size + 1, 0, none⟩ = false := Lib.frozen_of_heap rf 0
      have m1 : wz.cell? ⟨w.heap.size + 1, 1, none⟩ = some (.int .i64 0) := Lib.cell_of_heap rf 1
      have o1 : wz.frozen? ⟨w.heap.size + 1, 1, none⟩ = false := Lib.frozen_of_heap rf 1
      have m2 : wz.cell? ⟨w.heap.size + 1, 2, none⟩ = some (.int .i64 0) := Lib.cell_of_heap rf 2
      have o2 : wz.frozen? ⟨w.heap.size + 1, 2, none⟩ = false := Lib.frozen_of_heap rf 2
      have RR := Lib.hid rr
      have RF := Lib.hid rf
      clear rr rf
      clear hbz
      go_wp2_with fail
      clear u0 u1 u2 u3 u4 u5 u6 u7 g0 g1 g2 g3 g4 g5 g6 g7 m0 m1 m2 o0 o1 o2
      obtain ⟨ra, rb, rc⟩ := res_put _ _ _ _ _ _ _ _ _ _ _ RR.out RF.out BZ.out (Nat.le_refl w.heap.size)
      refine bodyPost_ret (results_cc rfl _ _ w.heap.size (w.heap.size + 1) _ _ _ _ (0, 0) (0, 0) _ _ rfl ra Tryz.underlying25 rfl (by kernel_rfl) rfl rb Tryz.underlying30 rfl (by kernel_rfl)) rfl ⟨?_, rc⟩
      have hlu : lineU (⟨kd, tx, nu, li, co⟩ :: ts) = (zeroU, 7, li, co) := by show (if kindU _ = 6 then _ else _) = _; rw [if_pos HKM.out]
      rw [hlu]; rfl
end Go.Proofs.YtlclkeihkkpdbaaGreatDoor
