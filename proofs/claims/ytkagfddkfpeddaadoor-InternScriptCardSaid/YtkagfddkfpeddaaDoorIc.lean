/- The walks of a table's Clone, and of New. -/
import Derived.Test.YtkagfddkfpeddaaDoorIb
import Derived.WalkLawsBesides
namespace Go.Proofs.YtkagfddkfpeddaaDoor
open Go.RowKit Go.Maps It

/-- A copy of the table, all its blocks new. -/
def Copied (w : World) (l : Nms) (e : Ending) (w' : World) : Prop := ∃ p b v, e = .returned (.pointer (some ⟨p, 0, none⟩)) ∧ Tbl w' w.heap.size p b v l ∧ Below w.heap.size w w'
theorem Tbl.of_parts {w1 w2 w3 : World} {B b k : Nat} {v : Value} {l : Nms} (hrow : Ow nc 1 w1 B 9 v l) (h12 : Below w1.heap.size w1 w2) (hmap : TMap w3 b l) (h23 : Below w2.heap.size w2 w3) (hb : w2.heap.size ≤ b) (hB : B ≤ w1.heap.size) (hok : Ok l) :
    Tbl ((w3.drewN k).alloc (.cells #[v, .map (some b)] 56)) B w3.heap.size b v l := by
  have hv : ∀ g, v.ownBlock = some g → g < w1.heap.size := fun g hg => (hrow.lt hg).2
  refine ⟨heap_alloc_new (w3.drewN k) _, ((hrow.below h12 hv).below h23 fun g hg => Nat.lt_of_lt_of_le (hv g hg) h12.size).drewN k |>.alloc _, hmap.keep (Below.heap_alloc _ _ b hmap.lt), ?_, ?_, ?_, hok⟩
  · have := h12.size; have := h23.size; omega
  · have := h12.size; omega
  · intro e
    have := hv _ e
    have := h12.size; have := h23.size; omega
set_option maxRecDepth 100000 in
set_option maxHeartbeats 1000000 in
theorem clone_any (w : World) (B p b : Nat) (v : Value) (l : Nms) (h : Tbl w B p b v l) : Calls Tryd.prog 20 #[.pointer (some ⟨p, 0, none⟩)] w (Copied w l) := by
  have HC := Lib.hid (fun n => nclone_any (w.drewN n) v l ((h.row.sl nc_len).drewN n) (Nat.le_trans h.ok.le (by decide)))
  have HM := Lib.hid (fun w' b' h => mclone_any w' b' l h)
  have HH := Lib.hid h
  obtain ⟨A, cap, rfl, h1, h2, c0, c1, _⟩ := h.open_
  go_enter Tryd.func20, Tryd.ntmps20
  go_wp2_with fail
  have hSw := And.intro c0 c1
  refine wp_region_kinds (fun w' => w'.cell? ⟨p, 0, none⟩ = some (.slice A l.length cap) ∧ w'.cell? ⟨p, 1, none⟩ = some (.map (some b))) [5, 11, 12, 13, 14] [] [4, 10] [0, 1, 2, 3, 6, 7, 8, 9, 15] [0, 1, 2, 3, 4, 6, 7, 8, 9, 10, 5, 11, 12, 13, 14, 15] (by kernel_rfl) (by kernel_rfl) (fun w n h => h) ?_
  repeat (first | (refine wpKind_free (v := ?_) (by rfl) rfl (by rfl) ?_ ?_; rotate_left 1; (focus (intro wy; go_simp; try with_reducible rfl; done)); try simp only [Act.put, List.setIfInBounds_toArray, List.set_cons_zero, List.set_cons_succ]) | (refine wpKind_held (v := ?_) (by rfl) rfl (by rfl) hSw ?_ ?_; rotate_left 1; (focus (intro wy hSy; obtain ⟨s0, s1⟩ := hSy; go_simp; try with_reducible rfl; done)); try simp only [Act.put, List.setIfInBounds_toArray, List.set_cons_zero, List.set_cons_succ]))
  refine wpKind_keeps (by rfl) rfl (fun n1 => ?_)
  go_wp2_with fail
  refine (HC.out n1).mono ?_
  rintro e w1 ⟨v1, rfl, ho, hb⟩
  obtain ⟨A1, cp1, rfl, _, _⟩ := ho.shape
  have hT1 := (HH.out.drewN n1).below_ hb
  have HO := Lib.hid ho
  have HB := Lib.hid (show Below w.heap.size w w1 from Below.lift (below_drewN (Below.refl _ _) n1) hb)
  clear ho hb c0 c1 hSw
  obtain ⟨_, _, _, _, _, d0, d1, _⟩ := hT1.open_
  have H1 := Lib.hid hT1
  clear hT1
  go_wp2_with fail
  show _ ∧ _
  have hSw := And.intro d0 d1
  refine ⟨hSw, ?_⟩
  refine wpKind_keeps (by rfl) rfl (fun n2 => ?_)
  go_wp2_with fail
  refine (HM.out _ _ (H1.out.drewN n2).map).mono ?_
  rintro e w2 ⟨rfl, hm2, hb2⟩
  have hT2 := (H1.out.drewN n2).below_ hb2
  have HM2 := Lib.hid hm2
  have HB2 := Lib.hid (show Below w1.heap.size w1 w2 from Below.lift (below_drewN (Below.refl _ _) n2) hb2)
  clear hm2 hb2 hSw d0 d1
  obtain ⟨_, _, _, _, _, d0, d1, _⟩ := hT2.open_
  clear hT2
  go_wp2_with fail
  show _ ∧ _
  have hSw := And.intro d0 d1
  refine ⟨hSw, ?_⟩
  refine wpKind_keeps (by rfl) rfl (fun n3a => ?_)
  go_wp2_with fail
  show _ ∧ _
  refine ⟨hSw, ?_⟩
  refine wpKind_keeps (by rfl) rfl (fun n3b => ?_)
  go_wp2_with fail
  show _ ∧ _
  refine ⟨hSw, ?_⟩
  refine wpKind_keeps (by rfl) rfl (fun n3 => ?_)
  go_wp2_with fail
  show _ ∧ _
  refine ⟨⟨(World.cell?_alloc_lt _ _ _ (World.block_lt_of_cell? _ _ d0)).trans d0, (World.cell?_alloc_lt _ _ _ (World.block_lt_of_cell? _ _ d1)).trans d1⟩, ?_⟩
  repeat (first | (refine wpKind_free (v := ?_) (by rfl) rfl (by rfl) ?_ ?_; rotate_left 1; (focus (intro wy; go_simp; try with_reducible rfl; done)); try simp only [Act.put, List.setIfInBounds_toArray, List.set_cons_zero, List.set_cons_succ]) | (refine wpKind_held (v := ?_) (by rfl) rfl (by rfl) hSw ?_ ?_; rotate_left 1; (focus (intro wy hSy; obtain ⟨s0, s1⟩ := hSy; go_simp; try with_reducible rfl; done)); try simp only [Act.put, List.setIfInBounds_toArray, List.set_cons_zero, List.set_cons_succ]))
  refine wpKind_nil (fun n4 => ?_)
  clear hSw d0 d1
  have R := Lib.hid ((Tbl.of_parts (k := n3a + n3b + n3) HO.out (Below.refl _ _) HM2.out HB2.out (Nat.le_refl _) HB.out.size HH.out.ok).drewN n4)
  have RB := Lib.hid (show Below w.heap.size w (((w2.drewN (n3a + n3b + n3)).alloc (.cells #[.slice A1 l.length cp1, .map (some w1.heap.size)] 56)).drewN n4) from
    below_drewN ((below_drewN (Below.lift HB.out HB2.out) (n3a + n3b + n3)).alloc (Nat.le_trans HB.out.size HB2.out.size) _) n4)
  go_wp2_with fail
  go_ret
  exact ⟨_, _, _, rfl, R.out, RB.out⟩
end Go.Proofs.YtkagfddkfpeddaaDoor
