/- The walk of a table's Add. -/
import Derived.Test.YtkagfddkfpeddaaDoorIw
import Derived.Test.YtkagfddkfpeddaaDoorMh
import Derived.Deep.DeepCutAuto
namespace Go.Proofs.YtkagfddkfpeddaaDoor
open Go.RowKit Go.Maps It

/-- What Add leaves: the table with the name, if it is let in. -/
def Added (w : World) (B p b : Nat) (v : Value) (l : Nms) (x : List UInt8) (e : Ending) (w' : World) : Prop :=
  ∃ v', e = .returned (.tuple #[.int .i64 (addV l x), .int .i64 (addE l x)]) ∧ Tbl w' B p b v' (addL l x) ∧ w.heap.size ≤ w'.heap.size ∧ (∀ k, k < w.heap.size → ¬ Tbl.In p b v k → w'.heap[k]? = w.heap[k]?) ∧ (v' = v ∨ v'.ownBlock = v.ownBlock ∨ ∃ g, v'.ownBlock = some g ∧ w.heap.size ≤ g) ∧ w'.os = w.os ∧ w'.tape = w.tape ∧ w'.output = w.output
theorem Added.same {w w' : World} {B p b : Nat} {v : Value} {l : Nms} {x : List UInt8} {e : Ending} (h : Tbl w B p b v l) (he : e = .returned (.tuple #[.int .i64 (addV l x), .int .i64 (addE l x)])) (hl : addL l x = l) (hb : Below w.heap.size w w') : Added w B p b v l x e w' :=
  ⟨v, he, by rw [hl]; exact h.below_ hb, hb.size, fun k hk _ => hb.block k hk, .inl rfl, hb.os, hb.tape, hb.output⟩
set_option maxRecDepth 100000 in
set_option maxHeartbeats 2000000 in
theorem add_any (w : World) (B p b : Nat) (v : Value) (l : Nms) (x : List UInt8) (h : Tbl w B p b v l) (hx : x.length ≤ maxLen) (hT : Tabs w) (hB : B ≤ w.heap.size) :
    Calls Tryd.prog 12 #[.pointer (some ⟨p, 0, none⟩), .string (ba x)] w (Added w B p b v l x) := by
  obtain ⟨i0, hi0, hz0, hz1, hz2⟩ := info_parts info_string
  have hN := lname_any (ba x) w (by rw [ba_size]; exact hx) hT
  rw [ba_list] at hN
  have HH := Lib.hid h
  obtain ⟨A, cap, rfl, h1, h2, c0, c1, c2⟩ := h.open_
  have hL := h.map.look hx
  rcases add_cases l x with n1 | ⟨n1, n2⟩ | ⟨n1, n2, n3⟩ | ⟨n1, n2, n3'⟩
  · obtain ⟨r1, r2, r3⟩ := add_name n1
    have R := Lib.hid (fun e w' => Added.same (e := e) (w' := w') (x := x) h)
    rw [r1, r2] at R
    rw [n1] at hN
    have HN := Lib.hid hN
    have HR3 := Lib.hid r3
    generalize l.contains x = c at *
    generalize num l x = n at *
    clear hN r1 r2 r3 h n1
    go_enter Tryd.func12, Tryd.ntmps12
    go_wp2_with fail
    refine HN.out.mono ?_
    rintro e w1 ⟨rfl, hb⟩
    have Hb := Lib.hid hb
    clear hb
    go_wp2_with fail
    go_ret2
    exact R.out _ _ rfl HR3.out Hb.out
  · obtain ⟨r1, r2, r3⟩ := add_there n1 n2
    have R := Lib.hid (fun e w' => Added.same (e := e) (w' := w') (x := x) h)
    rw [r1, r2] at R
    rw [n1] at hN
    rw [n2] at hL
    have HN := Lib.hid hN
    have HR3 := Lib.hid r3
    generalize num l x = n at *
    clear hN r1 r2 r3 h n1 n2
    go_enter Tryd.func12, Tryd.ntmps12
    go_wp2_with fail
    refine HN.out.mono ?_
    rintro e w1 ⟨rfl, hb⟩
    have Hb := Lib.hid hb
    clear hb
    go_wp2_with fail
    go_ret2
    exact R.out _ _ rfl HR3.out Hb.out
  · obtain ⟨r1, r2, r3⟩ := add_long n1 n2 n3
    have R := Lib.hid (fun e w' => Added.same (e := e) (w' := w') (x := x) h)
    rw [r1, r2] at R
    rw [n1] at hN
    rw [n2] at hL
    have HN := Lib.hid hN
    have HR3 := Lib.hid r3
    generalize num l x = n at *
    have q1 : decide (4096 ≤ l.length) = true := decide_eq_true n3
    clear hN r1 r2 r3 h n1 n2
    go_enter Tryd.func12, Tryd.ntmps12
    go_wp2_with fail
    refine HN.out.mono ?_
    rintro e w1 ⟨rfl, hb⟩
    have Hb := Lib.hid hb
    obtain ⟨_, _, _, _, _, d0, d1, d2⟩ := (HH.out.below_ hb).open_
    clear hb
    go_wp2_with fail
    go_ret2
    exact R.out _ _ rfl HR3.out Hb.out
  · have HB := Lib.hid hB
    have HX := Lib.hid hx
    have hLen : ∀ o, (w.alloc o).heap.size = w.heap.size + 1 := fun o => by simp
    obtain ⟨r1, r2, r3⟩ := add_ok n1 n2 n3'
    rw [n1] at hN
    rw [n2] at hL
    have HN := Lib.hid hN
    have HR := Lib.hid (And.intro r1 (And.intro r2 r3))
    have H2 := Lib.hid n2
    have HOk := Lib.hid (show Ok (l ++ [x]) by have := HH.out.ok.add x; rwa [HR.out.2.2] at this)
    have q1 : decide (4096 ≤ l.length) = false := decide_eq_false (by omega)
    generalize num l x = n at *
    clear hN r1 r2 r3 h n1 n2 hx hB
    go_enter Tryd.func12, Tryd.ntmps12
    go_wp2_with fail
    refine HN.out.mono ?_
    rintro e w1 ⟨rfl, hb⟩
    have Hb := Lib.hid hb
    have H1 := Lib.hid (HH.out.below_ hb)
    obtain ⟨_, _, _, _, _, d0, d1, d2⟩ := H1.out.open_
    clear hb c0 c1 c2 hL
    go_wp2_with fail
    obtain ⟨s2, hs2⟩ : ∃ s2, Hid (s2 = w1) := ⟨_, Lib.hid rfl⟩
    go_cut [] (fun wx => ∃ v1, Tbl wx B p b v1 (l ++ [x]) ∧ w1.heap.size ≤ wx.heap.size ∧ (∀ j, j < w1.heap.size → ¬ Tbl.In p b (.slice A l.length cap) j → wx.heap[j]? = w1.heap[j]?) ∧ (v1.ownBlock = (Value.slice A l.length cap).ownBlock ∨ ∃ g, v1.ownBlock = some g ∧ w1.heap.size ≤ g) ∧ wx.os = w1.os ∧ wx.tape = w1.tape ∧ wx.output = w1.output)
    case first =>
      have g0 := fun o => (World.cell?_alloc_lt w1 o ⟨p, 0, none⟩ H1.out.lt).trans d0
      have g1 := fun o => (World.cell?_alloc_lt w1 o ⟨p, 1, none⟩ H1.out.lt).trans d1
      have hSw := And.intro d0 d1
      refine wp_region_kinds (fun w' => w'.cell? ⟨p, 0, none⟩ = some (.slice A l.length cap) ∧ w'.cell? ⟨p, 1, none⟩ = some (.map (some b))) [13, 14] [24, 25, 27] [5, 11, 19] [0, 1, 2, 3, 4, 6, 7, 8, 9, 10, 12, 15, 16, 17, 18, 20, 21, 22, 23, 26] [0, 1, 2, 3, 4, 5, 6, 7, 8, 9, 10, 11, 12, 15, 16, 17, 18, 19, 20, 13, 14, 21, 22, 23, 24, 25, 26, 27] (by kernel_rfl) (by kernel_rfl) (fun w n h => h) ?_
      repeat (first | (refine wpKind_free (v := ?_) (by rfl) rfl (by rfl) ?_ ?_; rotate_left 1; (focus (intro wy; go_simp; try with_reducible rfl; done)); try simp only [Act.put, List.setIfInBounds_toArray, List.set_cons_zero, List.set_cons_succ]) | (refine wpKind_held (v := ?_) (by rfl) rfl (by rfl) hSw ?_ ?_; rotate_left 1; (focus (intro wy hSy; obtain ⟨s0, s1⟩ := hSy; go_simp; try with_reducible rfl; done)); try simp only [Act.put, List.setIfInBounds_toArray, List.set_cons_zero, List.set_cons_succ]))
      refine wpKind_keeps (by rfl) rfl (fun n1 => ?_)
      go_wp2_with fail
      show _ ∧ _
      refine ⟨⟨(World.cell?_alloc_lt _ _ _ H1.out.lt).trans d0, (World.cell?_alloc_lt _ _ _ H1.out.lt).trans d1⟩, ?_⟩
      refine wpKind_keeps (by rfl) rfl (fun n2 => ?_)
      go_wp2_with (at_builtin; refine wpList_append_sl _ rfl _ _ _ rfl B 9 i0 _ 16 Tryd.underlying22 hi0 hz0 hz1 hz2 rfl (by omega) nc_len nc_one (.slice A l.length cap) _ l [x] rfl rfl (by exact (((H1.out.row.drewN n1).alloc _).drewN n2)) (by exact (Sl.new1 (c := nc) (size := 1) (w := w1.drewN n1) x rfl).drewN n2) (by simp only [maxLen, List.length_cons, List.length_nil]; omega) (by simp only [List.length_cons, List.length_nil]; omega) (by have := HB.out; have := Hb.out.size; simp; omega) ?_; intro v1 w2 hown1 hg1 hmv1)
      obtain ⟨A1, cp1, e1, _, _⟩ := hown1.shape
      rw [show (l ++ [x]).length = l.length + 1 from by simp] at e1
      subst e1
      replace hg1 : ((w1.drewN n1).alloc (.cells #[.string (ba x)] 9)).grownBy w2 (Value.slice A l.length cap).ownBlock := ⟨hg1.os, hg1.tape, hg1.output, hg1.size, hg1.block⟩
      replace hmv1 : Moved ((w1.drewN n1).alloc (.cells #[.string (ba x)] 9)) (.slice A l.length cap) (.slice A1 (l.length + 1) cp1) := hmv1
      have hst := H1.out.step (k := n1) hg1
      have f0 : w2.cell? ⟨p, 0, none⟩ = some (.slice A l.length cap) := (World.cell?_of_block (a := ⟨p, 0, none⟩) hst.1).trans d0
      have f1 : w2.cell? ⟨p, 1, none⟩ = some (.map (some b)) := (World.cell?_of_block (a := ⟨p, 1, none⟩) hst.1).trans d1
      have f2 : w2.frozen? ⟨p, 0, none⟩ = false := (by rw [← d2]; simp only [World.frozen?, hst.1])
      show _ ∧ _
      refine ⟨⟨f0, f1⟩, ?_⟩
      repeat (refine wpKind_free (v := ?_) (by rfl) rfl (by rfl) ?_ ?_; rotate_left 1; (focus (intro wy; go_simp; try with_reducible rfl; done)); try simp only [Act.put, List.setIfInBounds_toArray, List.set_cons_zero, List.set_cons_succ])
      refine wpKind_serial (by rfl) rfl (fun n3 => ?_)
      go_wp2_with fail
      show wpKind _ _ _ _ _ _ _ _ _
      refine wpKind_serial (by rfl) rfl (fun n4 => ?_)
      obtain ⟨v0, st, w4, e1, HE⟩ := (H1.out.map.keep (w' := ((w2.drewN n3).setCell ⟨p, 0, none⟩ (.slice A1 (l.length + 1) cp1)).drewN n4) ((Below.heap_setCell (w2.drewN n3) ⟨p, 0, none⟩ (.slice A1 (l.length + 1) cp1) b (Ne.symm H1.out.pb)).trans hst.2)).entry HX.out H2.out n3'
      replace HE := Lib.hid HE
      go_wp2_with fail
      show wpKind _ _ _ _ _ _ _ _ _
      repeat (refine wpKind_free (v := ?_) (by rfl) rfl (by rfl) ?_ ?_; rotate_left 1; (focus (intro wy; go_simp; try with_reducible rfl; done)); try simp only [Act.put, List.setIfInBounds_toArray, List.set_cons_zero, List.set_cons_succ])
      refine wpKind_serial (by rfl) rfl (fun n5 => ?_)
      obtain ⟨w5, e2, t5, g5⟩ := HE.out n5
      have R := Lib.hid (Tbl.added (k := n1) H1.out hg1 hown1 hmv1 (w5 := w5) ⟨g5.os, g5.tape, g5.output, g5.size, g5.block⟩ t5 HOk.out)
      clear t5 g5 HE hst f0 f1 f2 hg1 hown1 hmv1
      go_wp2_with fail
      show wpKind _ _ _ _ _ _ _ _ _
      refine wpKind_nil (fun n6 => ?_)
      clear e1 e2 hSw g0 g1
      go_wp2_with fail
      go_meet
      exact ⟨_, R.out.1.drewN n6, R.out.2⟩
    case rest =>
      obtain ⟨v1, T1, hsz, hfr, hvb, ho1, ho2, ho3⟩ := hcut
      obtain ⟨A1, cp1, rfl, u1, u2, k0, k1, k2⟩ := T1.open_
      rw [show (l ++ [x]).length = l.length + 1 from by simp] at *
      have hb := Hb.out
      have R := Lib.hid (show Added w B p b (.slice A l.length cap) l x (.returned (.tuple #[.int .i64 (l.length : Nat), .int .i64 0])) wc from
        ⟨.slice A1 (l.length + 1) cp1, by rw [HR.out.2.1, HR.out.1], by rw [HR.out.2.2]; exact T1, Nat.le_trans hb.size hsz, fun k hk hn => (hfr k (Nat.lt_of_lt_of_le hk hb.size) hn).trans (hb.block k hk), .inr (or_both id (fun ⟨g, e, hg⟩ => ⟨g, e, Nat.le_trans hb.size hg⟩) hvb), ho1.trans hb.os, ho2.trans hb.tape, ho3.trans hb.output⟩)
      clear T1 hsz hfr hvb ho1 ho2 ho3 hb
      go_wp2_with fail
      go_ret2
      exact R.out
end Go.Proofs.YtkagfddkfpeddaaDoor
