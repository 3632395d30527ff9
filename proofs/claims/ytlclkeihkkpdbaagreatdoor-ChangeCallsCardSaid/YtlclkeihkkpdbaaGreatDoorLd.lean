/- Walks of the cursor: col, fail, any. -/
import Derived.Test.YtlclkeihkkpdbaaGreatDoorLc
import Derived.Test.YtlclkeihkkpdbaaGreatDoorMh
import Derived.Lib.SliceRun
namespace Go.Proofs.YtlclkeihkkpdbaaGreatDoor
open Go.RowKit
/-- A row of one's own lies in no block of another type. -/
theorem ow_ne {α : Type} {c : α → List Value} {size base : Nat} {e t : TypeId} {v : Value} {l : List α} {w : World} {p : Nat} {cs : Array Value} {fr : Nat × Nat} (ho : Ow c size w base e v l) (hp : w.heap[p]? = some (.cells cs t fr)) (hne : t ≠ e) : v.ownBlock ≠ some p := by
  intro h
  rcases ho.2 with ⟨rfl, _⟩ | ⟨g, cap, cur, rfl, _, hg, _⟩
  · cases h
  · have : g = p := by simpa [Value.ownBlock] using h
    subst this
    rw [hg] at hp
    injection hp with hp
    injection hp with _ h2 _
    exact hne h2.symm
theorem Ow.set {α : Type} {c : α → List Value} {size base : Nat} {t : TypeId} {v : Value} {l : List α} {w : World} (h : Ow c size w base t v l) {p i : Nat} {u : Value} (hne : v.ownBlock ≠ some p) : Ow c size (w.setCell ⟨p, i, none⟩ u) base t v l :=
  Ow.kept (row := some p) h ⟨rfl, rfl, rfl, by simp [World.setCell], fun k _ hk => Below.heap_setCell _ _ _ _ (fun e => hk (by simp [e]))⟩ (.inr hne)
theorem ow_form {α : Type} {c : α → List Value} {size base : Nat} {t : TypeId} {v : Value} {l : List α} {w : World} (h : Ow c size w base t v l) : ∃ A n cap, v = .slice A n cap := by
  obtain ⟨A, cap, e, _⟩ := h.shape
  exact ⟨A, _, cap, e⟩
theorem CurAt.drewN {B b : Nat} {c : Cur} {w : World} (h : CurAt B b c w) (n : Nat) : CurAt B b c (w.drewN n) := h
set_option maxHeartbeats 400000 in
theorem col_any (w : World) (B b : Nat) (c : Cur) (h : CurAt B b c w) (p : Nat) (hp : p ≤ 1000000) (hc : c.org ≤ 1000000) :
    Calls Tryz.prog 78 #[.pointer (some ⟨b, 0, none⟩), .int .i64 p] w fun e w' => e = .returned (.int .i64 (c.col p)) ∧ w = w' := by
  obtain ⟨_, v, hb, _⟩ := h
  have c2 : w.cell? ⟨b, 2, none⟩ = some (.int .i64 c.org) := Lib.cell_of_heap hb 2
  unfold Cur.col
  clear hb
  go_enter Tryz.func78, Tryz.ntmps78
  go_wp2
  go_ret
  exact ⟨rfl, rfl⟩
set_option maxHeartbeats 1000000 in
set_option maxRecDepth 100000 in
theorem fail_any (w : World) (B b : Nat) (c : Cur) (h : CurAt B b c w) (e : Int) (p : Nat) (hp : p ≤ 1000000) (hc : c.org ≤ 1000000) :
    Calls Tryz.prog 65 #[.pointer (some ⟨b, 0, none⟩), .int .i64 e, .int .i64 p] w fun r w' => r = .returned St.none.v ∧ CurAt B b (c.fail e p) w' ∧ Below B w w' := by
  have HC := Lib.hid fun n => col_any (w.drewN n) B b c (h.drewN n) p hp hc
  obtain ⟨hB, v, hb, ho⟩ := h
  have hSw := hb
  have HB := Lib.hid hb
  have HO := Lib.hid ho
  obtain ⟨Av, nv, cv, ev⟩ := ow_form ho
  subst ev
  have f6 := fun n => Lib.frozen_of_heap (show (w.drewN n).heap[b]? = _ from hb) 6
  have f7 := fun n => Lib.frozen_of_heap (show (w.drewN n).heap[b]? = _ from hb) 7
  have f8 := fun n => Lib.frozen_of_heap (show (w.drewN n).heap[b]? = _ from hb) 8
  have x6 : ∀ n, (w.drewN n).cell? ⟨b, 6, none⟩ = some (.int .i64 c.err) := fun n => Lib.cell_of_heap (show (w.drewN n).heap[b]? = _ from hb) 6
  have x7 : ∀ n, (w.drewN n).cell? ⟨b, 7, none⟩ = some (.int .i64 c.fl) := fun n => Lib.cell_of_heap (show (w.drewN n).heap[b]? = _ from hb) 7
  have x8 : ∀ n, (w.drewN n).cell? ⟨b, 8, none⟩ = some (.int .i64 c.fc) := fun n => Lib.cell_of_heap (show (w.drewN n).heap[b]? = _ from hb) 8
  clear hb ho
  go_enter Tryz.func65, Tryz.ntmps65
  go_wp2_with fail
  refine wp_region_kinds (fun wy => wy.heap[b]? = some (.cells (c.cells (.slice Av nv cv)) 98 (0, 0))) [8] [12] [5] [0, 1, 2, 3, 4, 6, 7, 9, 10, 11] [0, 1, 2, 3, 4, 5, 6, 7, 8, 9, 10, 11, 12] (by kernel_rfl) (by kernel_rfl) (fun w n h => h) ?_
  repeat (first | (refine wpKind_free (v := ?_) (by rfl) rfl (by rfl) ?_ ?_; rotate_left 1; (focus (intro wy; go_simp; try with_reducible rfl; done)); try simp only [Act.put, List.setIfInBounds_toArray, List.set_cons_zero, List.set_cons_succ]) | (refine wpKind_held (v := ?_) (by rfl) rfl (by rfl) hSw ?_ ?_; rotate_left 1; (focus (intro wy hSy; have s1 : wy.cell? ⟨b, 1, none⟩ = some (.int .i64 c.line) := Lib.cell_of_heap hSy 1; have s3 : wy.cell? ⟨b, 3, none⟩ = some (.int .i64 c.pos) := Lib.cell_of_heap hSy 3; have s4 : wy.cell? ⟨b, 4, none⟩ = some (.slice Av nv cv) := Lib.cell_of_heap hSy 4; go_simp; try with_reducible rfl; done)); try simp only [Act.put, List.setIfInBounds_toArray, List.set_cons_zero, List.set_cons_succ]))
  refine wpKind_keeps (by rfl) rfl (fun n1 => ?_)
  go_wp2_with fail
  refine (HC.out n1).mono ?_
  rintro e w2 ⟨rfl, rfl⟩
  go_wp2_with fail
  show _ ∧ _
  refine ⟨hSw, ?_⟩
  have hSw : (w.drewN n1).heap[b]? = some (.cells (c.cells (.slice Av nv cv)) 98 (0, 0)) := HB.out
  repeat (first | (refine wpKind_free (v := ?_) (by rfl) rfl (by rfl) ?_ ?_; rotate_left 1; (focus (intro wy; go_simp; try with_reducible rfl; done)); try simp only [Act.put, List.setIfInBounds_toArray, List.set_cons_zero, List.set_cons_succ]) | (refine wpKind_held (v := ?_) (by rfl) rfl (by rfl) hSw ?_ ?_; rotate_left 1; (focus (intro wy hSy; have s1 : wy.cell? ⟨b, 1, none⟩ = some (.int .i64 c.line) := Lib.cell_of_heap hSy 1; have s3 : wy.cell? ⟨b, 3, none⟩ = some (.int .i64 c.pos) := Lib.cell_of_heap hSy 3; have s4 : wy.cell? ⟨b, 4, none⟩ = some (.slice Av nv cv) := Lib.cell_of_heap hSy 4; go_simp; try with_reducible rfl; done)); try simp only [Act.put, List.setIfInBounds_toArray, List.set_cons_zero, List.set_cons_succ]))
  refine wpKind_serial (by rfl) rfl (fun n2 => ?_)
  go_wp2_with fail
  clear f6 f7 f8 x6 x7 x8
  show wpKind _ _ _ _ _ _ _ _ _
  refine wpKind_nil fun n3 => ?_
  go_wp2_with fail
  go_ret
  have hne := ow_ne HO.out HB.out (by decide)
  refine ⟨rfl, ⟨hB, .slice Av nv cv, heap_setCell_same _ b 8 _ _ (.int .i64 (c.col p)) (heap_setCell_same _ b 7 _ _ (.int .i64 c.line) (heap_setCell_same _ b 6 _ _ (.int .i64 e) HB.out)), ?_⟩, ?_⟩
  · exact (((HO.out.drewN _).set hne).set hne).set hne |>.drewN n3
  · exact below_drewN ((((below_drewN (Below.refl _ _) _).setCell (p := ⟨b, 6, none⟩) hB _).setCell (p := ⟨b, 7, none⟩) hB _).setCell (p := ⟨b, 8, none⟩) hB _) n3
set_option maxHeartbeats 4000000 in
set_option maxRecDepth 100000 in
theorem any_any (w : World) (B b : Nat) (c : Cur) (h : CurAt B b c w) (hc : c.Ok) :
    Calls Tryz.prog 51 #[.pointer (some ⟨b, 0, none⟩)] w fun r w' => r = .returned (stepAny c).1.v ∧ CurAt B b (stepAny c).2 w' ∧ Below B w w' := by
  have hH := h
  have HF := Lib.hid fun n => fail_any (w.drewN n) B b c (h.drewN n) 7 c.pos (by have := hc.pos; have := hc.size; omega) (by have := hc.pos; have := hc.size; have := hc.org; omega)
  have k1 := hc.size
  have k2 := hc.pos
  obtain ⟨hB, v, hb, ho⟩ := h
  have HB := Lib.hid hb
  have HO := Lib.hid ho
  have c0 : w.cell? ⟨b, 0, none⟩ = some (.string c.s) := Lib.cell_of_heap hb 0
  have c3 : w.cell? ⟨b, 3, none⟩ = some (.int .i64 c.pos) := Lib.cell_of_heap hb 3
  have g3 := Lib.frozen_of_heap hb 3
  have HH := Lib.hid hH
  clear hb ho hH hc
  by_cases he : c.pos = c.s.size
  · have he1 : ((c.pos : Int) == (c.s.size : Int)) = true := beq_iff_eq.2 (by omega)
    have E : Hid (stepAny c = (.end_, c)) := Lib.hid (by unfold stepAny; rw [if_pos (.inl he)])
    go_enter Tryz.func51, Tryz.ntmps51
    go_wp2_with fail
    go_quiet (fail)
    go_wp2_with fail
    go_ret
    rw [E.out]
    exact ⟨rfl, HH.out.drewN _, below_drewN (Below.refl _ _) _⟩
  · have hlt : c.pos < c.s.size := by omega
    have he1 : ((c.pos : Int) == (c.s.size : Int)) = false := beq_eq_false_iff_ne.2 (by omega)
    have r1 : (0 : Int) ≤ (c.pos : Int) := by omega
    have r2 : (c.pos : Int) < (c.s.size : Int) := by omega
    obtain ⟨y, hy⟩ : ∃ y, c.s[c.pos] = y := ⟨_, rfl⟩
    have hby : c.byte = y := by
      unfold Cur.byte
      rw [List.getD_eq_getElem?_getD, List.getElem?_eq_getElem (by simpa using hlt)]
      exact hy
    have ne : ∀ m : Nat, m < 256 → y.toNat ≠ m → y ≠ UInt8.ofNat m := fun m hm h e => h (by rw [e, UInt8.toNat_ofNat', Nat.mod_eq_of_lt hm])
    by_cases h10 : y.toNat = 10
    · have t10 : ((y.toNat : Int) == 10) = true := beq_iff_eq.2 (by omega)
      have E : Hid (stepAny c = (.end_, c)) := Lib.hid (by unfold stepAny; rw [if_pos (.inr (by rw [hby]; exact UInt8.toNat_inj.1 h10))])
      clear ne hby
      go_enter Tryz.func51, Tryz.ntmps51
      go_wp2_with fail
      go_quiet (fail)
      go_wp2_with fail
      go_ret
      rw [E.out]
      exact ⟨rfl, HH.out.drewN _, below_drewN (Below.refl _ _) _⟩
    · have t10 : ((y.toNat : Int) == 10) = false := beq_eq_false_iff_ne.2 (by omega)
      have a10 : ¬ (c.pos = c.s.size ∨ c.byte = 10) := by rw [hby]; rintro (h | h); exact he h; exact ne 10 (by decide) h10 h
      by_cases h35 : y.toNat = 35
      · have t35 : ((y.toNat : Int) == 35) = true := beq_iff_eq.2 (by omega)
        have E : Hid (stepAny c = (.remark, c)) := Lib.hid (by unfold stepAny; rw [if_neg a10, if_pos (by rw [hby]; exact UInt8.toNat_inj.1 h35)])
        clear ne hby a10
        go_enter Tryz.func51, Tryz.ntmps51
        go_wp2_with fail
        go_quiet (fail)
        go_wp2_with fail
        go_quiet (fail)
        go_wp2_with fail
        go_ret
        rw [E.out]
        exact ⟨rfl, HH.out.drewN _, below_drewN (Below.refl _ _) _⟩
      · have t35 : ((y.toNat : Int) == 35) = false := beq_eq_false_iff_ne.2 (by omega)
        have a35 : ¬ c.byte = 35 := by rw [hby]; exact ne 35 (by decide) h35
        by_cases h32 : y.toNat = 32 ∨ y.toNat = 9
        · have E : Hid (stepAny c = (.any, { c with pos := c.pos + 1 })) := Lib.hid (by
            unfold stepAny
            rw [if_neg a10, if_neg a35, if_pos (by rw [hby]; exact h32.imp (fun h => UInt8.toNat_inj.1 h) (fun h => UInt8.toNat_inj.1 h))])
          have t32 : ((y.toNat : Int) == 32) = true ∨ ((y.toNat : Int) == 32) = false ∧ ((y.toNat : Int) == 9) = true := by
            rcases h32 with h | h
            · exact .inl (beq_iff_eq.2 (by omega))
            · exact .inr ⟨beq_eq_false_iff_ne.2 (by omega), beq_iff_eq.2 (by omega)⟩
          clear ne hby a10 a35 h32
          rcases t32 with t32 | ⟨t32, t9⟩
          · skip
            go_enter Tryz.func51, Tryz.ntmps51
            go_wp2_with fail
            go_quiet (fail)
            go_wp2_with fail
            go_quiet (fail)
            go_wp2_with fail
            go_ret
            rw [E.out]
            exact ⟨rfl, ⟨hB, v, heap_setCell_same _ b 3 _ _ (.int .i64 ((c.pos : Int) + 1)) HB.out, (HO.out.drewN _).set (ow_ne HO.out HB.out (by decide))⟩, (below_drewN (Below.refl _ _) _).setCell (p := ⟨b, 3, none⟩) hB _⟩
          · skip
            go_enter Tryz.func51, Tryz.ntmps51
            go_wp2_with fail
            go_quiet (fail)
            go_wp2_with fail
            go_quiet (fail)
            go_wp2_with fail
            go_ret
            rw [E.out]
            exact ⟨rfl, ⟨hB, v, heap_setCell_same _ b 3 _ _ (.int .i64 ((c.pos : Int) + 1)) HB.out, (HO.out.drewN _).set (ow_ne HO.out HB.out (by decide))⟩, (below_drewN (Below.refl _ _) _).setCell (p := ⟨b, 3, none⟩) hB _⟩
        · have t32 : ((y.toNat : Int) == 32) = false := beq_eq_false_iff_ne.2 (by omega)
          have t9 : ((y.toNat : Int) == 9) = false := beq_eq_false_iff_ne.2 (by omega)
          have a32 : ¬ (c.byte = 32 ∨ c.byte = 9) := by rw [hby]; rintro (h | h); exact ne 32 (by decide) (fun e => h32 (.inl e)) h; exact ne 9 (by decide) (fun e => h32 (.inr e)) h
          have E0 : Hid (stepAny c = if Nm.cls y = 1 then (.word, c) else if Nm.cls y = 2 then (.number, c) else (.none, c.fail 7 c.pos)) := Lib.hid (by unfold stepAny; rw [if_neg a10, if_neg a35, if_neg a32, hby])
          have HCL := Lib.hid fun wx => class_any y wx
          clear ne hby a10 a35 a32 h32 h35 h10
          generalize Nm.cls y = z at *
          by_cases k1' : z = 1
          · have t1 : (z == 1) = true := beq_iff_eq.2 k1'
            have E : Hid (stepAny c = (.word, c)) := Lib.hid (by rw [E0.out, if_pos k1'])
            clear k1' E0
            go_enter Tryz.func51, Tryz.ntmps51
            go_wp2_with fail
            go_quiet (fail)
            go_wp2_with fail
            go_quiet (fail)
            go_wp2_with fail
            refine (HCL.out _).mono ?_
            rintro e w2 ⟨rfl, rfl⟩
            go_wp2_with fail
            go_ret
            rw [E.out]
            exact ⟨rfl, (HH.out.drewN _), (below_drewN (Below.refl _ _) _)⟩
          · have t1 : (z == 1) = false := beq_eq_false_iff_ne.2 k1'
            by_cases k2' : z = 2
            · have t2 : (z == 2) = true := beq_iff_eq.2 k2'
              have E : Hid (stepAny c = (.number, c)) := Lib.hid (by rw [E0.out, if_neg k1', if_pos k2'])
              clear k1' k2' E0
              go_enter Tryz.func51, Tryz.ntmps51
              go_wp2_with fail
              go_quiet (fail)
              go_wp2_with fail
              go_quiet (fail)
              go_wp2_with fail
              refine (HCL.out _).mono ?_
              rintro e w2 ⟨rfl, rfl⟩
              go_wp2_with fail
              refine (HCL.out _).mono ?_
              rintro e w2 ⟨rfl, rfl⟩
              go_wp2_with fail
              go_ret
              rw [E.out]
              exact ⟨rfl, (HH.out.drewN _), (below_drewN (Below.refl _ _) _)⟩
            · have t2 : (z == 2) = false := beq_eq_false_iff_ne.2 k2'
              have E : Hid (stepAny c = (.none, c.fail 7 c.pos)) := Lib.hid (by rw [E0.out, if_neg k1', if_neg k2'])
              clear k1' k2' E0
              go_enter Tryz.func51, Tryz.ntmps51
              go_wp2_with fail
              go_quiet (fail)
              go_wp2_with fail
              go_quiet (fail)
              go_wp2_with fail
              refine (HCL.out _).mono ?_
              rintro e w2 ⟨rfl, rfl⟩
              go_wp2_with fail
              refine (HCL.out _).mono ?_
              rintro e w2 ⟨rfl, rfl⟩
              go_wp2_with fail
              refine (HF.out _).mono ?_
              rintro e w2 ⟨rfl, hc2, hb2⟩
              have HC2 := Lib.hid hc2
              have HB2 := Lib.hid hb2
              clear hc2 hb2
              go_wp2_with fail
              go_ret
              rw [E.out]
              exact ⟨rfl, HC2.out, (below_drewN (Below.refl _ _) _).trans HB2.out⟩
end Go.Proofs.YtlclkeihkkpdbaaGreatDoor
