/- The lexer's cursor: plain words, and the block in which it lies. -/
import Derived.Test.YteonefgbdphmiaaGreatDoorNb
import Derived.Test.YteonefgbdphmiaaGreatDoorMh
import Derived.Lib.SliceRun
namespace Go.Proofs.YteonefgbdphmiaaGreatDoor
open Go.RowKit

structure TokD where
  kind : Int
  text : List UInt8
  num : Int
  line : Int
  col : Int
deriving DecidableEq
/-- A token's cells. -/
def tkc (t : TokD) : List Value := [.int .i64 t.kind, .string (ba t.text), .int .i64 t.num, .int .i64 t.line, .int .i64 t.col]
theorem tkc_len : ∀ x, (tkc x).length = 5 := fun _ => rfl
theorem tkc_one : ∀ x, ∀ u ∈ tkc x, u.oneCell' = true := by intro x u hu; simp [tkc] at hu; rcases hu with rfl | rfl | rfl | rfl | rfl <;> rfl
structure Cur where
  s : ByteArray
  line : Nat
  org : Nat
  pos : Nat
  out : List TokD
  some : Bool
  err : Int
  fl : Int
  fc : Int
/-- The states: any, end, remark, word, number, none. -/
inductive St where
  | any | end_ | remark | word | number | none
deriving DecidableEq
def St.v : St → Value
  | .any => .func (.func 64) #[] #[]
  | .end_ => .func (.func 83) #[] #[]
  | .remark => .func (.func 84) #[] #[]
  | .word => .func (.func 85) #[] #[]
  | .number => .func (.func 86) #[] #[]
  | .none => .nilFunc
def Cur.col (c : Cur) (p : Nat) : Int := (p : Int) - c.org + 1
def Cur.fail (c : Cur) (e : Int) (p : Nat) : Cur := { c with err := e, fl := c.line, fc := c.col p }
def Cur.put (c : Cur) (kind : Int) (text : List UInt8) (num : Int) (n : Nat) : Cur := { c with out := c.out ++ [⟨kind, text, num, c.line, c.col c.pos⟩], pos := c.pos + n, some := true }
def Cur.byte (c : Cur) : UInt8 := c.s.data.toList.getD c.pos 0
def stepAny (c : Cur) : St × Cur :=
  if c.pos = c.s.size ∨ c.byte = 10 then (.end_, c) else if c.byte = 35 then (.remark, c) else if c.byte = 32 ∨ c.byte = 9 then (.any, { c with pos := c.pos + 1 })
  else if Nm.cls c.byte = 1 then (.word, c) else if Nm.cls c.byte = 2 then (.number, c) else (.none, c.fail 7 c.pos)
def Cur.down (c : Cur) : Cur := { c with line := c.line + 1, org := c.pos + 1, pos := c.pos + 1, some := false }
def Cur.close (c : Cur) : Cur := if c.some = true then c.put 4 [] 0 0 else c
def stepEnd (c : Cur) : St × Cur := if c.pos = c.s.size then (.none, c.close) else (.any, c.close.down)
/-- Where the line's end is. -/
def Cur.eol (c : Cur) : Nat := c.pos + Nm.pre (fun b => b != 10) (c.s.data.toList.drop c.pos)
def stepRemark (c : Cur) : St × Cur := (.any, { c with pos := c.eol })
def Cur.rest (c : Cur) : List UInt8 := c.s.data.toList.drop c.pos
def stepWord (c : Cur) : St × Cur :=
  let n := Nm.pre Nm.more c.rest
  if 24 < n then (.none, c.fail 3 c.pos) else (.any, c.put (if Nm.res (c.rest.take n) = true then 2 else 1) (c.rest.take n) 0 n)
/-- A cursor's cells. -/
def Cur.cells (c : Cur) (v : Value) : Array Value := #[.string c.s, .int .i64 c.line, .int .i64 c.org, .int .i64 c.pos, v, .bool c.some, .int .i64 c.err, .int .i64 c.fl, .int .i64 c.fc]
/-- Block b holds the cursor; its row lies at B or behind. -/
def CurAt (B b : Nat) (c : Cur) (w : World) : Prop := B ≤ b ∧ ∃ v, w.heap[b]? = Option.some (.cells (c.cells v) 95 (0, 0)) ∧ Ow tkc 5 w B 101 v c.out
/-- What may be: places are in the text, and the text is not too long. -/
structure Cur.Ok (c : Cur) : Prop where
  size : c.s.size ≤ 65536
  pos : c.pos ≤ c.s.size
  org : c.org ≤ c.pos
  line : c.line ≤ c.pos + 1
end Go.Proofs.YteonefgbdphmiaaGreatDoor
/- Walks of the cursor: col, fail, any. -/
namespace Go.Proofs.YteonefgbdphmiaaGreatDoor
open Go.RowKit
/-- A row of one's own lies in no block of another type. -/
theorem ow_ne {α : Type} {c : α → List Value} {size base : Nat} {e t : TypeId} {v : Value} {l : List α} {w : World} {p : Nat} {cs : Array Value} {fr : Nat × Nat} (ho : Ow c size w base e v l) (hp : w.heap[p]? = some (.cells cs t fr)) (hne : t ≠ e) : v.ownBlock ≠ some p := by
  intro h
  rcases ho.2 with ⟨rfl, _⟩ | ⟨g, cap, cur, rfl, _, hg, _⟩
  · cases h
  · have : g = p := by simpa [Value.ownBlock] using h
    subst this
    rw [hg] at hp
    injection hp with hp
    injection hp with _ h2 _
    exact hne h2.symm
theorem Ow.set {α : Type} {c : α → List Value} {size base : Nat} {t : TypeId} {v : Value} {l : List α} {w : World} (h : Ow c size w base t v l) {p i : Nat} {u : Value} (hne : v.ownBlock ≠ some p) : Ow c size (w.setCell ⟨p, i, none⟩ u) base t v l :=
  Ow.kept (row := some p) h ⟨rfl, rfl, rfl, by simp [World.setCell], fun k _ hk => Below.heap_setCell _ _ _ _ (fun e => hk (by simp [e]))⟩ (.inr hne)
theorem ow_form {α : Type} {c : α → List Value} {size base : Nat} {t : TypeId} {v : Value} {l : List α} {w : World} (h : Ow c size w base t v l) : ∃ A n cap, v = .slice A n cap := by
  obtain ⟨A, cap, e, _⟩ := h.shape
  exact ⟨A, _, cap, e⟩
theorem CurAt.drewN {B b : Nat} {c : Cur} {w : World} (h : CurAt B b c w) (n : Nat) : CurAt B b c (w.drewN n) := h
set_option maxHeartbeats 400000 in
theorem col_any (w : World) (B b : Nat) (c : Cur) (h : CurAt B b c w) (p : Nat) (hp : p ≤ 1000000) (hc : c.org ≤ 1000000) :
    Calls Tryz.prog 103 #[.pointer (some ⟨b, 0, none⟩), .int .i64 p] w fun e w' => e = .returned (.int .i64 (c.col p)) ∧ w = w' := by
  obtain ⟨_, v, hb, _⟩ := h
  have c2 : w.cell? ⟨b, 2, none⟩ = some (.int .i64 c.org) := Lib.cell_of_heap hb 2
  unfold Cur.col
  clear hb
  go_enter Tryz.func103, Tryz.ntmps103
  go_wp2
  go_ret
  exact ⟨rfl, rfl⟩
set_option maxHeartbeats 1000000 in
set_option maxRecDepth 100000 in
theorem fail_any (w : World) (B b : Nat) (c : Cur) (h : CurAt B b c w) (e : Int) (p : Nat) (hp : p ≤ 1000000) (hc : c.org ≤ 1000000) :
    Calls Tryz.prog 87 #[.pointer (some ⟨b, 0, none⟩), .int .i64 e, .int .i64 p] w fun r w' => r = .returned St.none.v ∧ CurAt B b (c.fail e p) w' ∧ Below B w w' := by
  have HC := Lib.hid fun n => col_any (w.drewN n) B b c (h.drewN n) p hp hc
  obtain ⟨hB, v, hb, ho⟩ := h
  have hSw := hb
  have HB := Lib.hid hb
  have HO := Lib.hid ho
  obtain ⟨Av, nv, cv, ev⟩ := ow_form ho
  subst ev
  have f6 := fun n => Lib.frozen_of_heap (show (w.drewN n).heap[b]? = _ from hb) 6
  have f7 := fun n => Lib.frozen_of_heap (show (w.drewN n).heap[b]? = _ from hb) 7
  have f8 := fun n => Lib.frozen_of_heap (show (w.drewN n).heap[b]? = _ from hb) 8
  have x6 : ∀ n, (w.drewN n).cell? ⟨b, 6, none⟩ = some (.int .i64 c.err) := fun n => Lib.cell_of_heap (show (w.drewN n).heap[b]? = _ from hb) 6
  have x7 : ∀ n, (w.drewN n).cell? ⟨b, 7, none⟩ = some (.int .i64 c.fl) := fun n => Lib.cell_of_heap (show (w.drewN n).heap[b]? = _ from hb) 7
  have x8 : ∀ n, (w.drewN n).cell? ⟨b, 8, none⟩ = some (.int .i64 c.fc) := fun n => Lib.cell_of_heap (show (w.drewN n).heap[b]? = _ from hb) 8
  clear hb ho
  go_enter Tryz.func87, Tryz.ntmps87
  go_wp2_with fail
  refine wp_region_kinds (fun wy => wy.heap[b]? = some (.cells (c.cells (.slice Av nv cv)) 95 (0, 0))) [8] [12] [5] [0, 1, 2, 3, 4, 6, 7, 9, 10, 11] [0, 1, 2, 3, 4, 5, 6, 7, 8, 9, 10, 11, 12] (by kernel_rfl) (by kernel_rfl) (fun w n h => h) ?_
  repeat (first | (refine wpKind_free (v := ?_) (by rfl) rfl (by rfl) ?_ ?_; rotate_left 1; (focus (intro wy; go_simp; try with_reducible rfl; done)); try simp only [Act.put, List.setIfInBounds_toArray, List.set_cons_zero, List.set_cons_succ]) | (refine wpKind_held (v := ?_) (by rfl) rfl (by rfl) hSw ?_ ?_; rotate_left 1; (focus (intro wy hSy; have s1 : wy.cell? ⟨b, 1, none⟩ = some (.int .i64 c.line) := Lib.cell_of_heap hSy 1; have s3 : wy.cell? ⟨b, 3, none⟩ = some (.int .i64 c.pos) := Lib.cell_of_heap hSy 3; have s4 : wy.cell? ⟨b, 4, none⟩ = some (.slice Av nv cv) := Lib.cell_of_heap hSy 4; go_simp; try with_reducible rfl; done)); try simp only [Act.put, List.setIfInBounds_toArray, List.set_cons_zero, List.set_cons_succ]))
  refine wpKind_keeps (by rfl) rfl (fun n1 => ?_)
  go_wp2_with fail
  refine (HC.out n1).mono ?_
  rintro e w2 ⟨rfl, rfl⟩
  go_wp2_with fail
  show _ ∧ _
  refine ⟨hSw, ?_⟩
  have hSw : (w.drewN n1).heap[b]? = some (.cells (c.cells (.slice Av nv cv)) 95 (0, 0)) := HB.out
  repeat (first | (refine wpKind_free (v := ?_) (by rfl) rfl (by rfl) ?_ ?_; rotate_left 1; (focus (intro wy; go_simp; try with_reducible rfl; done)); try simp only [Act.put, List.setIfInBounds_toArray, List.set_cons_zero, List.set_cons_succ]) | (refine wpKind_held (v := ?_) (by rfl) rfl (by rfl) hSw ?_ ?_; rotate_left 1; (focus (intro wy hSy; have s1 : wy.cell? ⟨b, 1, none⟩ = some (.int .i64 c.line) := Lib.cell_of_heap hSy 1; have s3 : wy.cell? ⟨b, 3, none⟩ = some (.int .i64 c.pos) := Lib.cell_of_heap hSy 3; have s4 : wy.cell? ⟨b, 4, none⟩ = some (.slice Av nv cv) := Lib.cell_of_heap hSy 4; go_simp; try with_reducible rfl; done)); try simp only [Act.put, List.setIfInBounds_toArray, List.set_cons_zero, List.set_cons_succ]))
  refine wpKind_serial (by rfl) rfl (fun n2 => ?_)
  go_wp2_with fail
  clear f6 f7 f8 x6 x7 x8
  show wpKind _ _ _ _ _ _ _ _ _
  refine wpKind_nil fun n3 => ?_
  go_wp2_with fail
  go_ret
  have hne := ow_ne HO.out HB.out (by decide)
  refine ⟨rfl, ⟨hB, .slice Av nv cv, heap_setCell_same _ b 8 _ _ (.int .i64 (c.col p)) (heap_setCell_same _ b 7 _ _ (.int .i64 c.line) (heap_setCell_same _ b 6 _ _ (.int .i64 e) HB.out)), ?_⟩, ?_⟩
  · exact (((HO.out.drewN _).set hne).set hne).set hne |>.drewN n3
  · exact below_drewN ((((below_drewN (Below.refl _ _) _).setCell (p := ⟨b, 6, none⟩) hB _).setCell (p := ⟨b, 7, none⟩) hB _).setCell (p := ⟨b, 8, none⟩) hB _) n3
set_option maxHeartbeats 4000000 in
set_option maxRecDepth 100000 in
theorem any_any (w : World) (B b : Nat) (c : Cur) (h : CurAt B b c w) (hc : c.Ok) :
    Calls Tryz.prog 64 #[.pointer (some ⟨b, 0, none⟩)] w fun r w' => r = .returned (stepAny c).1.v ∧ CurAt B b (stepAny c).2 w' ∧ Below B w w' := by
  have hH := h
  have HF := Lib.hid fun n => fail_any (w.drewN n) B b c (h.drewN n) 7 c.pos (by have := hc.pos; have := hc.size; omega) (by have := hc.pos; have := hc.size; have := hc.org; omega)
  have k1 := hc.size
  have k2 := hc.pos
  obtain ⟨hB, v, hb, ho⟩ := h
  have HB := Lib.hid hb
  have HO := Lib.hid ho
  have c0 : w.cell? ⟨b, 0, none⟩ = some (.string c.s) := Lib.cell_of_heap hb 0
  have c3 : w.cell? ⟨b, 3, none⟩ = some (.int .i64 c.pos) := Lib.cell_of_heap hb 3
  have g3 := Lib.frozen_of_heap hb 3
  have HH := Lib.hid hH
  clear hb ho hH hc
  by_cases he : c.pos = c.s.size
  · have he1 : ((c.pos : Int) == (c.s.size : Int)) = true := beq_iff_eq.2 (by omega)
    have E : Hid (stepAny c = (.end_, c)) := Lib.hid (by unfold stepAny; rw [if_pos (.inl he)])
    go_enter Tryz.func64, Tryz.ntmps64
    go_wp2_with fail
    go_quiet (fail)
    go_wp2_with fail
    go_ret
    rw [E.out]
    exact ⟨rfl, HH.out.drewN _, below_drewN (Below.refl _ _) _⟩
  · have hlt : c.pos < c.s.size := by omega
    have he1 : ((c.pos : Int) == (c.s.size : Int)) = false := beq_eq_false_iff_ne.2 (by omega)
    have r1 : (0 : Int) ≤ (c.pos : Int) := by omega
    have r2 : (c.pos : Int) < (c.s.size : Int) := by omega
    obtain ⟨y, hy⟩ : ∃ y, c.s[c.pos] = y := ⟨_, rfl⟩
    have hby : c.byte = y := by
      unfold Cur.byte
      rw [List.getD_eq_getElem?_getD, List.getElem?_eq_getElem (by simpa using hlt)]
      exact hy
    have ne : ∀ m : Nat, m < 256 → y.toNat ≠ m → y ≠ UInt8.ofNat m := fun m hm h e => h (by rw [e, UInt8.toNat_ofNat', Nat.mod_eq_of_lt hm])
    by_cases h10 : y.toNat = 10
    · have t10 : ((y.toNat : Int) == 10) = true := beq_iff_eq.2 (by omega)
      have E : Hid (stepAny c = (.end_, c)) := Lib.hid (by unfold stepAny; rw [if_pos (.inr (by rw [hby]; exact UInt8.toNat_inj.1 h10))])
      clear ne hby
      go_enter Tryz.func64, Tryz.ntmps64
      go_wp2_with fail
      go_quiet (fail)
      go_wp2_with fail
      go_ret
      rw [E.out]
      exact ⟨rfl, HH.out.drewN _, below_drewN (Below.refl _ _) _⟩
    · have t10 : ((y.toNat : Int) == 10) = false := beq_eq_false_iff_ne.2 (by omega)
      have a10 : ¬ (c.pos = c.s.size ∨ c.byte = 10) := by rw [hby]; rintro (h | h); exact he h; exact ne 10 (by decide) h10 h
      by_cases h35 : y.toNat = 35
      · have t35 : ((y.toNat : Int) == 35) = true := beq_iff_eq.2 (by omega)
        have E : Hid (stepAny c = (.remark, c)) := Lib.hid (by unfold stepAny; rw [if_neg a10, if_pos (by rw [hby]; exact UInt8.toNat_inj.1 h35)])
        clear ne hby a10
        go_enter Tryz.func64, Tryz.ntmps64
        go_wp2_with fail
        go_quiet (fail)
        go_wp2_with fail
        go_quiet (fail)
        go_wp2_with fail
        go_ret
        rw [E.out]
        exact ⟨rfl, HH.out.drewN _, below_drewN (Below.refl _ _) _⟩
      · have t35 : ((y.toNat : Int) == 35) = false := beq_eq_false_iff_ne.2 (by omega)
        have a35 : ¬ c.byte = 35 := by rw [hby]; exact ne 35 (by decide) h35
        by_cases h32 : y.toNat = 32 ∨ y.toNat = 9
        · have E : Hid (stepAny c = (.any, { c with pos := c.pos + 1 })) := Lib.hid (by
            unfold stepAny
            rw [if_neg a10, if_neg a35, if_pos (by rw [hby]; exact h32.imp (fun h => UInt8.toNat_inj.1 h) (fun h => UInt8.toNat_inj.1 h))])
          have t32 : ((y.toNat : Int) == 32) = true ∨ ((y.toNat : Int) == 32) = false ∧ ((y.toNat : Int) == 9) = true := by
            rcases h32 with h | h
            · exact .inl (beq_iff_eq.2 (by omega))
            · exact .inr ⟨beq_eq_false_iff_ne.2 (by omega), beq_iff_eq.2 (by omega)⟩
          clear ne hby a10 a35 h32
          rcases t32 with t32 | ⟨t32, t9⟩
          · skip
            go_enter Tryz.func64, Tryz.ntmps64
            go_wp2_with fail
            go_quiet (fail)
            go_wp2_with fail
            go_quiet (fail)
            go_wp2_with fail
            go_ret
            rw [E.out]
            exact ⟨rfl, ⟨hB, v, heap_setCell_same _ b 3 _ _ (.int .i64 ((c.pos : Int) + 1)) HB.out, (HO.out.drewN _).set (ow_ne HO.out HB.out (by decide))⟩, (below_drewN (Below.refl _ _) _).setCell (p := ⟨b, 3, none⟩) hB _⟩
          · skip
            go_enter Tryz.func64, Tryz.ntmps64
            go_wp2_with fail
            go_quiet (fail)
            go_wp2_with fail
            go_quiet (fail)
            go_wp2_with fail
            go_ret
            rw [E.out]
            exact ⟨rfl, ⟨hB, v, heap_setCell_same _ b 3 _ _ (.int .i64 ((c.pos : Int) + 1)) HB.out, (HO.out.drewN _).set (ow_ne HO.out HB.out (by decide))⟩, (below_drewN (Below.refl _ _) _).setCell (p := ⟨b, 3, none⟩) hB _⟩
        · have t32 : ((y.toNat : Int) == 32) = false := beq_eq_false_iff_ne.2 (by omega)
          have t9 : ((y.toNat : Int) == 9) = false := beq_eq_false_iff_ne.2 (by omega)
          have a32 : ¬ (c.byte = 32 ∨ c.byte = 9) := by rw [hby]; rintro (h | h); exact ne 32 (by decide) (fun e => h32 (.inl e)) h; exact ne 9 (by decide) (fun e => h32 (.inr e)) h
          have E0 : Hid (stepAny c = if Nm.cls y = 1 then (.word, c) else if Nm.cls y = 2 then (.number, c) else (.none, c.fail 7 c.pos)) := Lib.hid (by unfold stepAny; rw [if_neg a10, if_neg a35, if_neg a32, hby])
          have HCL := Lib.hid fun wx => class_any y wx
          clear ne hby a10 a35 a32 h32 h35 h10
          generalize Nm.cls y = z at *
          by_cases k1' : z = 1
          · have t1 : (z == 1) = true := beq_iff_eq.2 k1'
            have E : Hid (stepAny c = (.word, c)) := Lib.hid (by rw [E0.out, if_pos k1'])
            clear k1' E0
            go_enter Tryz.func64, Tryz.ntmps64
            go_wp2_with fail
            go_quiet (fail)
            go_wp2_with fail
            go_quiet (fail)
            go_wp2_with fail
            refine (HCL.out _).mono ?_
            rintro e w2 ⟨rfl, rfl⟩
            go_wp2_with fail
            go_ret
            rw [E.out]
            exact ⟨rfl, (HH.out.drewN _), (below_drewN (Below.refl _ _) _)⟩
          · have t1 : (z == 1) = false := beq_eq_false_iff_ne.2 k1'
            by_cases k2' : z = 2
            · have t2 : (z == 2) = true := beq_iff_eq.2 k2'
              have E : Hid (stepAny c = (.number, c)) := Lib.hid (by rw [E0.out, if_neg k1', if_pos k2'])
              clear k1' k2' E0
              go_enter Tryz.func64, Tryz.ntmps64
              go_wp2_with fail
              go_quiet (fail)
              go_wp2_with fail
              go_quiet (fail)
              go_wp2_with fail
              refine (HCL.out _).mono ?_
              rintro e w2 ⟨rfl, rfl⟩
              go_wp2_with fail
              refine (HCL.out _).mono ?_
              rintro e w2 ⟨rfl, rfl⟩
              go_wp2_with fail
              go_ret
              rw [E.out]
              exact ⟨rfl, (HH.out.drewN _), (below_drewN (Below.refl _ _) _)⟩
            · have t2 : (z == 2) = false := beq_eq_false_iff_ne.2 k2'
              have E : Hid (stepAny c = (.none, c.fail 7 c.pos)) := Lib.hid (by rw [E0.out, if_neg k1', if_neg k2'])
              clear k1' k2' E0
              go_enter Tryz.func64, Tryz.ntmps64
              go_wp2_with fail
              go_quiet (fail)
              go_wp2_with fail
              go_quiet (fail)
              go_wp2_with fail
              refine (HCL.out _).mono ?_
              rintro e w2 ⟨rfl, rfl⟩
              go_wp2_with fail
              refine (HCL.out _).mono ?_
              rintro e w2 ⟨rfl, rfl⟩
              go_wp2_with fail
              refine (HF.out _).mono ?_
              rintro e w2 ⟨rfl, hc2, hb2⟩
              have HC2 := Lib.hid hc2
              have HB2 := Lib.hid hb2
              clear hc2 hb2
              go_wp2_with fail
              go_ret
              rw [E.out]
              exact ⟨rfl, HC2.out, (below_drewN (Below.refl _ _) _).trans HB2.out⟩
end Go.Proofs.YteonefgbdphmiaaGreatDoor
/- Walk of the cursor: put. -/
namespace Go.Proofs.YteonefgbdphmiaaGreatDoor
open Go.RowKit
theorem info_tok : (Tryz.prog.info? 101).map (fun i => (i.zero, i.size, i.bytes)) = some (some (.agg #[.int .i64 0, .string ByteArray.empty, .int .i64 0, .int .i64 0, .int .i64 0]), 5, 48) := by kernel_rfl
set_option maxHeartbeats 4000000 in
set_option maxRecDepth 100000 in
theorem put_any (w : World) (B b : Nat) (c : Cur) (h : CurAt B b c w) (hBw : B ≤ w.heap.size) (kind : Int) (text : List UInt8) (num : Int) (n : Nat) (hn : n ≤ 100000) (hc : c.Ok) (ho : c.out.length ≤ 200000) :
    Calls Tryz.prog 99 #[.pointer (some ⟨b, 0, none⟩), .agg #[.int .i64 kind, .string (ba text), .int .i64 num, .int .i64 0, .int .i64 0], .int .i64 n] w fun r w' => r = .returned St.any.v ∧ CurAt B b (c.put kind text num n) w' ∧ Below B w w' := by
  obtain ⟨i0, hi0, hz0, hz1, hz2⟩ := info_parts info_tok
  have k1 := hc.size
  have k2 := hc.pos
  have k3 := hc.org
  obtain ⟨w1, hw1⟩ : ∃ w1, w.alloc (.cells #[.int .i64 kind, .string (ba text), .int .i64 num, .int .i64 0, .int .i64 0] 101) = w1 := ⟨_, rfl⟩
  obtain ⟨hB, v, hb, hov⟩ := h
  have hlt : b < w.heap.size := (Array.getElem?_eq_some_iff.1 hb).1
  have hb1 : w1.heap[b]? = some (.cells (c.cells v) 95 (0, 0)) := by rw [← hw1, heap_alloc_old _ _ hlt]; exact hb
  have hq1 : w1.heap[w.heap.size]? = some (.cells #[.int .i64 kind, .string (ba text), .int .i64 num, .int .i64 0, .int .i64 0] 101 (0, 0)) := by rw [← hw1]; exact heap_alloc_new _ _
  have ho1 : Ow tkc 5 w1 B 101 v c.out := by rw [← hw1]; exact hov.alloc _
  have hB1 : Below B w w1 := by rw [← hw1]; exact (Below.refl _ _).alloc hBw _
  have hk1 : CurAt B b c w1 := ⟨hB, v, hb1, ho1⟩
  have HC := Lib.hid fun n => col_any (w1.drewN n) B b c (hk1.drewN n) c.pos (by omega) (by omega)
  obtain ⟨Av, nv, cv, ev⟩ := ow_form hov
  subst ev
  have HB := Lib.hid hb1
  have HQ := Lib.hid hq1
  have HO := Lib.hid ho1
  have HB1 := Lib.hid hB1
  have HLT := Lib.hid hlt
  have hSw := hb1
  have hqn : w.heap.size ≠ b := by omega
  have HQN := Lib.hid hqn
  have HOV := Lib.hid (show (Value.slice Av nv cv).ownBlock ≠ some w.heap.size from fun e => by have := (hov.lt e).2; omega)
  clear hb hov hb1 hq1 ho1 hB1 hk1 hlt hqn
  go_enter Tryz.func99, Tryz.ntmps99
  go_wp2_with fail
  clear hw1
  refine wp_region_kinds (fun wy => wy.heap[b]? = some (.cells (c.cells (.slice Av nv cv)) 95 (0, 0))) [9, 11, 13] [] [3, 8] [0, 1, 2, 4, 5, 6, 7, 10, 12] [0, 1, 2, 3, 4, 5, 6, 7, 8, 10, 9, 11, 12, 13] (by kernel_rfl) (by kernel_rfl) (fun w n h => h) ?_
  repeat (first | (refine wpKind_free (v := ?_) (by rfl) rfl (by rfl) ?_ ?_; rotate_left 1; (focus (intro wy; go_simp; try with_reducible rfl; done)); try simp only [Act.put, List.setIfInBounds_toArray, List.set_cons_zero, List.set_cons_succ]) | (refine wpKind_held (v := ?_) (by rfl) rfl (by rfl) hSw ?_ ?_; rotate_left 1; (focus (intro wy hSy; have s1 : wy.cell? ⟨b, 1, none⟩ = some (.int .i64 c.line) := Lib.cell_of_heap hSy 1; have s3 : wy.cell? ⟨b, 3, none⟩ = some (.int .i64 c.pos) := Lib.cell_of_heap hSy 3; have s4 : wy.cell? ⟨b, 4, none⟩ = some (.slice Av nv cv) := Lib.cell_of_heap hSy 4; go_simp; try with_reducible rfl; done)); try simp only [Act.put, List.setIfInBounds_toArray, List.set_cons_zero, List.set_cons_succ]))
  refine wpKind_keeps (by rfl) rfl (fun n1 => ?_)
  go_wp2_with fail
  refine (HC.out n1).mono ?_
  rintro e w2 ⟨rfl, rfl⟩
  go_wp2_with fail
  show _ ∧ _
  refine ⟨hSw, ?_⟩
  clear hSw
  have x3 : w1.cell? ⟨w.heap.size, 3, none⟩ = some (.int .i64 0) := Lib.cell_of_heap HQ.out 3
  have f3 : w1.frozen? ⟨w.heap.size, 3, none⟩ = false := Lib.frozen_of_heap HQ.out 3
  refine wpKind_keeps (by rfl) rfl (fun n2 => ?_)
  go_wp2_with fail
  clear x3 f3
  generalize hw2 : World.setCell _ ⟨w.heap.size, 3, none⟩ (.int .i64 (c.line : Int)) = w2
  have hq2 : w2.heap[w.heap.size]? = some (.cells #[.int .i64 kind, .string (ba text), .int .i64 num, .int .i64 c.line, .int .i64 0] 101 (0, 0)) := by rw [← hw2]; exact heap_setCell_same _ _ 3 _ _ _ HQ.out
  have hSw : w2.heap[b]? = some (.cells (c.cells (.slice Av nv cv)) 95 (0, 0)) := by rw [← hw2, heap_setCell_other _ _ _ _ (fun e => HQN.out e.symm)]; exact HB.out
  have ho2 : Ow tkc 5 w2 B 101 (.slice Av nv cv) c.out := by rw [← hw2]; first | exact HO.out.set HOV.out | exact (HO.out.drewN (n1 + n2)).set HOV.out
  have hB2 : Below B w w2 := by rw [← hw2]; first | exact HB1.out.setCell (p := ⟨w.heap.size, 3, none⟩) hBw _ | exact (below_drewN HB1.out _).setCell (p := ⟨w.heap.size, 3, none⟩) hBw _
  have HB2 := Lib.hid hSw
  have HQ2 := Lib.hid hq2
  have HO2 := Lib.hid ho2
  have HBB2 := Lib.hid hB2
  clear hw2 hq2 ho2 hB2
  show _ ∧ _
  refine ⟨hSw, ?_⟩
  repeat (first | (refine wpKind_free (v := ?_) (by rfl) rfl (by rfl) ?_ ?_; rotate_left 1; (focus (intro wy; go_simp; try with_reducible rfl; done)); try simp only [Act.put, List.setIfInBounds_toArray, List.set_cons_zero, List.set_cons_succ]) | (refine wpKind_held (v := ?_) (by rfl) rfl (by rfl) hSw ?_ ?_; rotate_left 1; (focus (intro wy hSy; have s1 : wy.cell? ⟨b, 1, none⟩ = some (.int .i64 c.line) := Lib.cell_of_heap hSy 1; have s3 : wy.cell? ⟨b, 3, none⟩ = some (.int .i64 c.pos) := Lib.cell_of_heap hSy 3; have s4 : wy.cell? ⟨b, 4, none⟩ = some (.slice Av nv cv) := Lib.cell_of_heap hSy 4; go_simp; try with_reducible rfl; done)); try simp only [Act.put, List.setIfInBounds_toArray, List.set_cons_zero, List.set_cons_succ]))
  have x4 : w2.cell? ⟨w.heap.size, 4, none⟩ = some (.int .i64 0) := Lib.cell_of_heap HQ2.out 4
  have f4 : w2.frozen? ⟨w.heap.size, 4, none⟩ = false := Lib.frozen_of_heap HQ2.out 4
  clear hSw
  refine wpKind_keeps (by rfl) rfl (fun n3 => ?_)
  go_wp2_with fail
  clear x4 f4
  generalize hw3 : World.setCell _ ⟨w.heap.size, 4, none⟩ (.int .i64 (c.col c.pos)) = w3
  have hq3 : w3.heap[w.heap.size]? = some (.cells #[.int .i64 kind, .string (ba text), .int .i64 num, .int .i64 c.line, .int .i64 (c.col c.pos)] 101 (0, 0)) := by rw [← hw3]; exact heap_setCell_same _ _ 4 _ _ _ HQ2.out
  have hb3 : w3.heap[b]? = some (.cells (c.cells (.slice Av nv cv)) 95 (0, 0)) := by rw [← hw3, heap_setCell_other _ _ _ _ (fun e => HQN.out e.symm)]; exact HB2.out
  have ho3 : Ow tkc 5 w3 B 101 (.slice Av nv cv) c.out := by rw [← hw3]; first | exact HO2.out.set HOV.out | exact (HO2.out.drewN n3).set HOV.out
  have hB3 : Below B w w3 := by rw [← hw3]; first | exact HBB2.out.setCell (p := ⟨w.heap.size, 4, none⟩) hBw _ | exact (below_drewN HBB2.out _).setCell (p := ⟨w.heap.size, 4, none⟩) hBw _
  show _ ∧ _
  refine ⟨hb3, ?_⟩
  refine wpKind_nil fun n4 => ?_
  obtain ⟨w4, hw4⟩ : ∃ w4, w3.drewN n4 = w4 := ⟨_, rfl⟩
  have HB4 := Lib.hid (show w4.heap[b]? = some (.cells (c.cells (.slice Av nv cv)) 95 (0, 0)) by rw [← hw4]; exact hb3)
  have HQ4 := Lib.hid (show w4.heap[w.heap.size]? = some (.cells #[.int .i64 kind, .string (ba text), .int .i64 num, .int .i64 c.line, .int .i64 (c.col c.pos)] 101 (0, 0)) by rw [← hw4]; exact hq3)
  have HO4 := Lib.hid (show Ow tkc 5 w4 B 101 (.slice Av nv cv) c.out by rw [← hw4]; exact ho3.drewN n4)
  have HBB4 := Lib.hid (show Below B w w4 by rw [← hw4]; exact below_drewN hB3 n4)
  rw [hw4]
  clear hw3 hq3 hb3 ho3 hB3 hw4 HB HQ HO HB1 HB2 HQ2 HO2 HBB2 HC
  go_wp2_with fail
  have hSw : w4.heap[b]? = some (.cells (c.cells (.slice Av nv cv)) 95 (0, 0)) ∧ w4.heap[w.heap.size]? = some (.cells #[.int .i64 kind, .string (ba text), .int .i64 num, .int .i64 c.line, .int .i64 (c.col c.pos)] 101 (0, 0)) := ⟨HB4.out, HQ4.out⟩
  have HSZ4 := Lib.hid (Nat.le_trans hBw HBB4.out.size)
  refine wp_region_kinds (fun wy => wy.heap[b]? = some (.cells (c.cells (.slice Av nv cv)) 95 (0, 0)) ∧ wy.heap[w.heap.size]? = some (.cells #[.int .i64 kind, .string (ba text), .int .i64 num, .int .i64 c.line, .int .i64 (c.col c.pos)] 101 (0, 0))) [8, 9] [18, 21, 24] [6, 7, 13] [0, 1, 2, 3, 4, 5, 10, 11, 12, 14, 15, 16, 17, 19, 20, 22, 23] [0, 1, 2, 3, 4, 5, 6, 7, 10, 11, 12, 13, 14, 15, 8, 9, 16, 17, 18, 19, 20, 21, 22, 23, 24] (by kernel_rfl) (by kernel_rfl) (fun w n h => h) ?_
  repeat (first | (refine wpKind_free (v := ?_) (by rfl) rfl (by rfl) ?_ ?_; rotate_left 1; (focus (intro wy; go_simp; try with_reducible rfl; done)); try simp only [Act.put, List.setIfInBounds_toArray, List.set_cons_zero, List.set_cons_succ]) | (refine wpKind_held (v := ?_) (by rfl) rfl (by rfl) hSw ?_ ?_; rotate_left 1; (focus (intro wy hSy; obtain ⟨hSb, hSq⟩ := hSy; have s1 : wy.cell? ⟨b, 1, none⟩ = some (.int .i64 c.line) := Lib.cell_of_heap hSb 1; have s3 : wy.cell? ⟨b, 3, none⟩ = some (.int .i64 c.pos) := Lib.cell_of_heap hSb 3; have s4 : wy.cell? ⟨b, 4, none⟩ = some (.slice Av nv cv) := Lib.cell_of_heap hSb 4; have q0 : wy.cell? ⟨w.heap.size, 0, none⟩ = some (.int .i64 kind) := Lib.cell_of_heap hSq 0; have q1 : wy.cell? ⟨w.heap.size, 1, none⟩ = some (.string (ba text)) := Lib.cell_of_heap hSq 1; have q2 : wy.cell? ⟨w.heap.size, 2, none⟩ = some (.int .i64 num) := Lib.cell_of_heap hSq 2; have q3 : wy.cell? ⟨w.heap.size, 3, none⟩ = some (.int .i64 c.line) := Lib.cell_of_heap hSq 3; have q4 : wy.cell? ⟨w.heap.size, 4, none⟩ = some (.int .i64 (c.col c.pos)) := Lib.cell_of_heap hSq 4; go_simp; try with_reducible rfl; done)); try simp only [Act.put, List.setIfInBounds_toArray, List.set_cons_zero, List.set_cons_succ]))
  refine wpKind_keeps (by rfl) rfl (fun n5 => ?_)
  go_wp2_with fail
  generalize hw5 : World.alloc _ (.cells #[.int .i64 kind, .string (ba text), .int .i64 num, .int .i64 (c.line : Int), .int .i64 (c.col c.pos)] 101) = w5
  have hlb : b < w4.heap.size := (Array.getElem?_eq_some_iff.1 HB4.out).1
  have hlq : w.heap.size < w4.heap.size := (Array.getElem?_eq_some_iff.1 HQ4.out).1
  have hb5 : w5.heap[b]? = some (.cells (c.cells (.slice Av nv cv)) 95 (0, 0)) := by rw [← hw5]; exact (heap_alloc_old (w4.drewN n5) _ hlb).trans HB4.out
  have hq5 : w5.heap[w.heap.size]? = some (.cells #[.int .i64 kind, .string (ba text), .int .i64 num, .int .i64 c.line, .int .i64 (c.col c.pos)] 101 (0, 0)) := by rw [← hw5]; exact (heap_alloc_old (w4.drewN n5) _ hlq).trans HQ4.out
  have hx5 : Sl tkc 5 w5 (.slice (some ⟨w4.heap.size, 0, none⟩) 1 1) [⟨kind, text, num, c.line, c.col c.pos⟩] (fun _ => True) := by rw [← hw5]; exact Sl.newl [⟨kind, text, num, c.line, c.col c.pos⟩] tkc_len rfl rfl (by show 1 ≤ maxLen; decide) rfl
  have ho5 : Ow tkc 5 w5 B 101 (.slice Av nv cv) c.out := by rw [← hw5]; exact (HO4.out.drewN n5).alloc _
  have hB5 : Below B w w5 := by rw [← hw5]; exact (below_drewN HBB4.out n5).alloc (by exact HSZ4.out) _
  have HB5 := Lib.hid hb5
  have HQ5 := Lib.hid hq5
  have HX5 := Lib.hid hx5
  have HO5 := Lib.hid ho5
  have HBB5 := Lib.hid hB5
  have HSZ5 := Lib.hid (Nat.le_trans hBw hB5.size)
  clear hw5 hlb hlq hx5 ho5 hB5 hSw HB4 HQ4 HO4 HBB4
  show _ ∧ _
  refine ⟨⟨hb5, hq5⟩, ?_⟩
  have hSw := And.intro hb5 hq5
  clear hb5 hq5
  repeat (first | (refine wpKind_free (v := ?_) (by rfl) rfl (by rfl) ?_ ?_; rotate_left 1; (focus (intro wy; go_simp; try with_reducible rfl; done)); try simp only [Act.put, List.setIfInBounds_toArray, List.set_cons_zero, List.set_cons_succ]) | (refine wpKind_held (v := ?_) (by rfl) rfl (by rfl) hSw ?_ ?_; rotate_left 1; (focus (intro wy hSy; obtain ⟨hSb, hSq⟩ := hSy; have s1 : wy.cell? ⟨b, 1, none⟩ = some (.int .i64 c.line) := Lib.cell_of_heap hSb 1; have s3 : wy.cell? ⟨b, 3, none⟩ = some (.int .i64 c.pos) := Lib.cell_of_heap hSb 3; have s4 : wy.cell? ⟨b, 4, none⟩ = some (.slice Av nv cv) := Lib.cell_of_heap hSb 4; have q0 : wy.cell? ⟨w.heap.size, 0, none⟩ = some (.int .i64 kind) := Lib.cell_of_heap hSq 0; have q1 : wy.cell? ⟨w.heap.size, 1, none⟩ = some (.string (ba text)) := Lib.cell_of_heap hSq 1; have q2 : wy.cell? ⟨w.heap.size, 2, none⟩ = some (.int .i64 num) := Lib.cell_of_heap hSq 2; have q3 : wy.cell? ⟨w.heap.size, 3, none⟩ = some (.int .i64 c.line) := Lib.cell_of_heap hSq 3; have q4 : wy.cell? ⟨w.heap.size, 4, none⟩ = some (.int .i64 (c.col c.pos)) := Lib.cell_of_heap hSq 4; go_simp; try with_reducible rfl; done)); try simp only [Act.put, List.setIfInBounds_toArray, List.set_cons_zero, List.set_cons_succ]))
  refine wpKind_keeps (by rfl) rfl (fun n6 => ?_)
  go_wp2_with (at_builtin; refine wpList_append_sl _ rfl _ _ _ rfl B 101 i0 _ 48 Tryz.underlying71 hi0 hz0 hz1 hz2 (by rfl) (by omega) tkc_len tkc_one _ _ c.out [⟨kind, text, num, c.line, c.col c.pos⟩] rfl rfl (HO5.out.drewN _) (HX5.out.drewN _) (by simp only [maxLen, List.length_cons, List.length_nil]; omega) (by simp only [List.length_cons, List.length_nil]; omega) (by exact HSZ5.out) ?_; intro v6 w6 hown6 hg6 hmv6; obtain ⟨Aw, nw, cw, ew⟩ := ow_form hown6; subst ew)
  have hbn : some b ≠ (Value.slice Av nv cv).ownBlock := fun e => ow_ne HO5.out HB5.out (by decide) e.symm
  have hqn : some w.heap.size ≠ (Value.slice Av nv cv).ownBlock := fun e => HOV.out e.symm
  have hb6 : w6.heap[b]? = some (.cells (c.cells (.slice Av nv cv)) 95 (0, 0)) := (hg6.block b (Array.getElem?_eq_some_iff.1 HB5.out).1 hbn).trans HB5.out
  have hq6 : w6.heap[w.heap.size]? = some (.cells #[.int .i64 kind, .string (ba text), .int .i64 num, .int .i64 c.line, .int .i64 (c.col c.pos)] 101 (0, 0)) := (hg6.block _ (Array.getElem?_eq_some_iff.1 HQ5.out).1 hqn).trans HQ5.out
  have hB6 : Below B w w6 := (below_drewN HBB5.out _).grown hg6 HSZ5.out fun k hk => (HO5.out.lt hk).1
  have HB6 := Lib.hid hb6
  have HO6 := Lib.hid hown6
  have HBB6 := Lib.hid hB6
  show _ ∧ _
  refine ⟨⟨hb6, hq6⟩, ?_⟩
  have hne6 := ow_ne hown6 hb6 (by decide)
  clear hb6 hq6 hbn hqn hB6 hown6 hg6 hmv6 hSw HB5 HQ5 HX5 HO5 HBB5
  repeat (first | (refine wpKind_free (v := ?_) (by rfl) rfl (by rfl) ?_ ?_; rotate_left 1; (focus (intro wy; go_simp; try with_reducible rfl; done)); try simp only [Act.put, List.setIfInBounds_toArray, List.set_cons_zero, List.set_cons_succ]) | (refine wpKind_held (v := ?_) (by rfl) rfl (by rfl) hSw ?_ ?_; rotate_left 1; (focus (intro wy hSy; obtain ⟨hSb, hSq⟩ := hSy; have s1 : wy.cell? ⟨b, 1, none⟩ = some (.int .i64 c.line) := Lib.cell_of_heap hSb 1; have s3 : wy.cell? ⟨b, 3, none⟩ = some (.int .i64 c.pos) := Lib.cell_of_heap hSb 3; have s4 : wy.cell? ⟨b, 4, none⟩ = some (.slice Av nv cv) := Lib.cell_of_heap hSb 4; have q0 : wy.cell? ⟨w.heap.size, 0, none⟩ = some (.int .i64 kind) := Lib.cell_of_heap hSq 0; have q1 : wy.cell? ⟨w.heap.size, 1, none⟩ = some (.string (ba text)) := Lib.cell_of_heap hSq 1; have q2 : wy.cell? ⟨w.heap.size, 2, none⟩ = some (.int .i64 num) := Lib.cell_of_heap hSq 2; have q3 : wy.cell? ⟨w.heap.size, 3, none⟩ = some (.int .i64 c.line) := Lib.cell_of_heap hSq 3; have q4 : wy.cell? ⟨w.heap.size, 4, none⟩ = some (.int .i64 (c.col c.pos)) := Lib.cell_of_heap hSq 4; go_simp; try with_reducible rfl; done)); try simp only [Act.put, List.setIfInBounds_toArray, List.set_cons_zero, List.set_cons_succ]))
  have x4 : w6.cell? ⟨b, 4, none⟩ = some (.slice Av nv cv) := Lib.cell_of_heap HB6.out 4
  have f4 : w6.frozen? ⟨b, 4, none⟩ = false := Lib.frozen_of_heap HB6.out 4
  refine wpKind_serial (by rfl) rfl (fun n7 => ?_)
  go_wp2_with fail
  generalize hw7 : World.setCell _ ⟨b, 4, none⟩ (.slice Aw nw cw) = w7
  have hb7 : w7.heap[b]? = some (.cells (c.cells (.slice Aw nw cw)) 95 (0, 0)) := by rw [← hw7]; exact heap_setCell_same _ b 4 _ _ (.slice Aw nw cw) HB6.out
  have ho7 : Ow tkc 5 w7 B 101 (.slice Aw nw cw) (c.out ++ [⟨kind, text, num, c.line, c.col c.pos⟩]) := by rw [← hw7]; first | exact HO6.out.set hne6 | exact (HO6.out.drewN n7).set hne6
  have hB7 : Below B w w7 := by rw [← hw7]; first | exact HBB6.out.setCell (p := ⟨b, 4, none⟩) hB _ | exact (below_drewN HBB6.out _).setCell (p := ⟨b, 4, none⟩) hB _
  have HB7 := Lib.hid hb7
  have HO7 := Lib.hid ho7
  have HBB7 := Lib.hid hB7
  clear hw7 hb7 ho7 hB7 x4 f4 HB6 HO6 HBB6
  show wpKind _ _ _ _ _ _ _ _ _
  repeat (refine wpKind_free (v := ?_) (by rfl) rfl (by rfl) ?_ ?_; rotate_left 1; (focus (intro wy; go_simp; try with_reducible rfl; done)); try simp only [Act.put, List.setIfInBounds_toArray, List.set_cons_zero, List.set_cons_succ])
  have x3 : w7.cell? ⟨b, 3, none⟩ = some (.int .i64 c.pos) := Lib.cell_of_heap HB7.out 3
  have f3 : w7.frozen? ⟨b, 3, none⟩ = false := Lib.frozen_of_heap HB7.out 3
  refine wpKind_serial (by rfl) rfl (fun n8 => ?_)
  go_wp2_with fail
  generalize hw8 : World.setCell _ ⟨b, 3, none⟩ (.int .i64 ((c.pos : Int) + (n : Int))) = w8
  have hb8 : w8.heap[b]? = some (.cells ({ c with pos := c.pos + n }.cells (.slice Aw nw cw)) 95 (0, 0)) := by rw [← hw8]; exact heap_setCell_same _ b 3 _ _ (.int .i64 ((c.pos : Int) + (n : Int))) HB7.out
  have ho8 : Ow tkc 5 w8 B 101 (.slice Aw nw cw) (c.out ++ [⟨kind, text, num, c.line, c.col c.pos⟩]) := by rw [← hw8]; first | exact HO7.out.set hne6 | exact (HO7.out.drewN n8).set hne6
  have hB8 : Below B w w8 := by rw [← hw8]; first | exact HBB7.out.setCell (p := ⟨b, 3, none⟩) hB _ | exact (below_drewN HBB7.out _).setCell (p := ⟨b, 3, none⟩) hB _
  have HB8 := Lib.hid hb8
  have HO8 := Lib.hid ho8
  have HBB8 := Lib.hid hB8
  clear hw8 hb8 ho8 hB8 x3 f3 HB7 HO7 HBB7
  show wpKind _ _ _ _ _ _ _ _ _
  repeat (refine wpKind_free (v := ?_) (by rfl) rfl (by rfl) ?_ ?_; rotate_left 1; (focus (intro wy; go_simp; try with_reducible rfl; done)); try simp only [Act.put, List.setIfInBounds_toArray, List.set_cons_zero, List.set_cons_succ])
  have x5 : w8.cell? ⟨b, 5, none⟩ = some (.bool c.some) := Lib.cell_of_heap HB8.out 5
  have f5 : w8.frozen? ⟨b, 5, none⟩ = false := Lib.frozen_of_heap HB8.out 5
  refine wpKind_serial (by rfl) rfl (fun n9 => ?_)
  go_wp2_with fail
  clear x5 f5
  show wpKind _ _ _ _ _ _ _ _ _
  refine wpKind_nil fun n10 => ?_
  go_wp2_with fail
  go_ret
  exact ⟨rfl, ⟨hB, .slice Aw nw cw, heap_setCell_same _ b 5 _ _ (.bool true) HB8.out, ((HO8.out.drewN n9).set hne6).drewN n10⟩, below_drewN ((below_drewN HBB8.out n9).setCell (p := ⟨b, 5, none⟩) hB _) n10⟩
end Go.Proofs.YteonefgbdphmiaaGreatDoor
/- Walks of the cursor: end, remark. -/
namespace Go.Proofs.YteonefgbdphmiaaGreatDoor
open Go.RowKit
def Cur.go (c : Cur) (p : Nat) : Cur := { c with pos := p }
set_option maxHeartbeats 4000000 in
set_option maxRecDepth 100000 in
theorem end_any (w : World) (B b : Nat) (c : Cur) (h : CurAt B b c w) (hBw : B ≤ w.heap.size) (hc : c.Ok) (ho : c.out.length ≤ 200000) :
    Calls Tryz.prog 83 #[.pointer (some ⟨b, 0, none⟩)] w fun r w' => r = .returned (stepEnd c).1.v ∧ CurAt B b (stepEnd c).2 w' ∧ Below B w w' := by
  have k1 := hc.size
  have k2 := hc.pos
  have k3 := hc.org
  have k4 := hc.line
  have hB := h.1
  have HP := Lib.hid (put_any w B b c h hBw 4 [] 0 0 (by decide) hc ho)
  have hH := h
  obtain ⟨_, v0, hb0, _⟩ := h
  have c5 : w.cell? ⟨b, 5, none⟩ = some (.bool c.some) := Lib.cell_of_heap hb0 5
  rcases hs : c.some
  · rw [hs] at c5
    have hcl : c.close = c := by unfold Cur.close; rw [hs]; rfl
    obtain ⟨d, hd⟩ : ∃ d, c = d := ⟨_, rfl⟩
    have HD := Lib.hid (show CurAt B b d w by rw [← hd]; exact hH)
    have HBv := Lib.hid (Below.refl B w)
    have E := Lib.hid (show stepEnd c = if d.pos = d.s.size then (.none, d) else (.any, d.down) by unfold stepEnd; rw [hcl, hd])
    have l1 : d.pos ≤ 65536 := by rw [← hd]; omega
    have l2 : d.line ≤ 65537 := by rw [← hd]; omega
    clear hb0 hH HP hcl hd
    go_enter Tryz.func83, Tryz.ntmps83
    go_wp2_with fail
    obtain ⟨_, v, hb, hov⟩ := HD.out
    have HB0 := Lib.hid hb
    have HO0 := Lib.hid hov
    have c0 : w.cell? ⟨b, 0, none⟩ = some (.string d.s) := Lib.cell_of_heap hb 0
    have c3 : w.cell? ⟨b, 3, none⟩ = some (.int .i64 d.pos) := Lib.cell_of_heap hb 3
    have g3 : w.frozen? ⟨b, 3, none⟩ = false := Lib.frozen_of_heap hb 3
    have hne0 := ow_ne hov hb (by decide)
    have HNE := Lib.hid hne0
    clear hb hov hne0
    by_cases he : d.pos = d.s.size
    · have he1 : ((d.pos : Int) == (d.s.size : Int)) = true := beq_iff_eq.2 (by omega)
      go_wp2_with fail
      go_quiet (fail)
      go_wp2_with fail
      go_ret
      rw [E.out, if_pos he]
      exact ⟨rfl, HD.out.drewN _, below_drewN HBv.out _⟩
    · have he1 : ((d.pos : Int) == (d.s.size : Int)) = false := beq_eq_false_iff_ne.2 (by omega)
      go_wp2_with fail
      go_quiet (fail)
      go_wp2_with fail
      generalize hw5 : World.setCell _ ⟨b, 3, none⟩ (.int .i64 ((d.pos : Int) + 1)) = w5
      have hb5 : w5.heap[b]? = some (.cells ((d.go (d.pos + 1)).cells v) 95 (0, 0)) := by rw [← hw5]; exact heap_setCell_same _ b 3 _ _ (.int .i64 ((d.pos : Int) + 1)) HB0.out
      have ho5 : Ow tkc 5 w5 B 101 v d.out := by rw [← hw5]; first | exact HO0.out.set HNE.out | exact (HO0.out.drewN _).set HNE.out
      have hB5 : Below B w w5 := by rw [← hw5]; first | exact HBv.out.setCell (p := ⟨b, 3, none⟩) hB _ | exact (below_drewN HBv.out _).setCell (p := ⟨b, 3, none⟩) hB _
      have HB5 := Lib.hid hb5
      have HO5 := Lib.hid ho5
      have HBB5 := Lib.hid hB5
      have hSw := hb5
      clear hw5 hb5 ho5 hB5 c0 c3 g3
      refine wp_region_kinds (fun wy => wy.heap[b]? = some (.cells ((d.go (d.pos + 1)).cells v) 95 (0, 0))) [] [14, 17, 20] [6, 11] [0, 1, 2, 3, 4, 5, 7, 8, 9, 10, 12, 13, 15, 16, 18, 19] [0, 1, 2, 3, 4, 5, 6, 7, 8, 9, 10, 11, 12, 13, 14, 15, 16, 17, 18, 19, 20] (by kernel_rfl) (by kernel_rfl) (fun w n h => h) ?_
      repeat (first | (refine wpKind_free (v := ?_) (by rfl) rfl (by rfl) ?_ ?_; rotate_left 1; (focus (intro wy; go_simp; try with_reducible rfl; done)); try simp only [Act.put, List.setIfInBounds_toArray, List.set_cons_zero, List.set_cons_succ]) | (refine wpKind_held (v := ?_) (by rfl) rfl (by rfl) hSw ?_ ?_; rotate_left 1; (focus (intro wy hSy; have s1 : wy.cell? ⟨b, 1, none⟩ = some (.int .i64 d.line) := Lib.cell_of_heap hSy 1; have s3 : wy.cell? ⟨b, 3, none⟩ = some (.int .i64 ((d.pos + 1 : Nat) : Int)) := Lib.cell_of_heap hSy 3; go_simp; try with_reducible rfl; done)); try simp only [Act.put, List.setIfInBounds_toArray, List.set_cons_zero, List.set_cons_succ]))
      have s14 : w5.cell? ⟨b, 1, none⟩ = some (.int .i64 d.line) := Lib.cell_of_heap HB5.out 1
      have f14 : w5.frozen? ⟨b, 1, none⟩ = false := Lib.frozen_of_heap HB5.out 1
      refine wpKind_serial (by rfl) rfl (fun n1 => ?_)
      go_wp2_with fail
      clear s14 f14
      generalize hw6 : World.setCell _ ⟨b, 1, none⟩ (.int .i64 ((d.line : Int) + 1)) = w6
      have hb6 := heap_setCell_same (w5.drewN n1) b 1 _ _ (.int .i64 ((d.line : Int) + 1)) HB5.out
      have ho6 := (HO5.out.drewN n1).set (i := 1) (u := .int .i64 ((d.line : Int) + 1)) HNE.out
      have hB6 := (below_drewN HBB5.out n1).setCell (p := ⟨b, 1, none⟩) hB (.int .i64 ((d.line : Int) + 1))
      rw [hw6] at hb6 ho6 hB6
      have HB6 := Lib.hid hb6
      have HO6 := Lib.hid ho6
      have HBB6 := Lib.hid hB6
      clear hw6 ho6 hB6 hSw HB5 HO5 HBB5
      show wpKind _ _ _ _ _ _ _ _ _
      repeat (refine wpKind_free (v := ?_) (by rfl) rfl (by rfl) ?_ ?_; rotate_left 1; (focus (intro wy; go_simp; try with_reducible rfl; done)); try simp only [Act.put, List.setIfInBounds_toArray, List.set_cons_zero, List.set_cons_succ])
      have s24 : w6.cell? ⟨b, 2, none⟩ = some (.int .i64 d.org) := Lib.cell_of_heap hb6 2
      have f24 : w6.frozen? ⟨b, 2, none⟩ = false := Lib.frozen_of_heap hb6 2
      clear hb6
      refine wpKind_serial (by rfl) rfl (fun n2 => ?_)
      go_wp2_with fail
      clear s24 f24
      generalize hw7 : World.setCell _ ⟨b, 2, none⟩ (.int .i64 ((d.pos : Int) + 1)) = w7
      have hb7 := heap_setCell_same (w6.drewN n2) b 2 _ _ (.int .i64 ((d.pos : Int) + 1)) HB6.out
      have ho7 := (HO6.out.drewN n2).set (i := 2) (u := .int .i64 ((d.pos : Int) + 1)) HNE.out
      have hB7 := (below_drewN HBB6.out n2).setCell (p := ⟨b, 2, none⟩) hB (.int .i64 ((d.pos : Int) + 1))
      rw [hw7] at hb7 ho7 hB7
      have HB7 := Lib.hid hb7
      have HO7 := Lib.hid ho7
      have HBB7 := Lib.hid hB7
      clear hw7 ho7 hB7 HB6 HO6 HBB6
      show wpKind _ _ _ _ _ _ _ _ _
      repeat (refine wpKind_free (v := ?_) (by rfl) rfl (by rfl) ?_ ?_; rotate_left 1; (focus (intro wy; go_simp; try with_reducible rfl; done)); try simp only [Act.put, List.setIfInBounds_toArray, List.set_cons_zero, List.set_cons_succ])
      have s34 : w7.cell? ⟨b, 5, none⟩ = some (.bool d.some) := Lib.cell_of_heap hb7 5
      have f34 : w7.frozen? ⟨b, 5, none⟩ = false := Lib.frozen_of_heap hb7 5
      clear hb7
      refine wpKind_serial (by rfl) rfl (fun n3 => ?_)
      go_wp2_with fail
      clear s34 f34
      show wpKind _ _ _ _ _ _ _ _ _
      refine wpKind_nil fun n4 => ?_
      go_wp2_with fail
      go_ret
      rw [E.out, if_neg he]
      exact ⟨rfl, ⟨hB, v, heap_setCell_same (w7.drewN n3) b 5 _ _ (.bool false) HB7.out, ((HO7.out.drewN n3).set HNE.out).drewN n4⟩, below_drewN ((below_drewN HBB7.out n3).setCell (p := ⟨b, 5, none⟩) hB _) n4⟩
  · rw [hs] at c5
    have hcl : c.close = c.put 4 [] 0 0 := by unfold Cur.close; rw [hs]; rfl
    obtain ⟨d, hd⟩ : ∃ d, c.put 4 [] 0 0 = d := ⟨_, rfl⟩
    have E := Lib.hid (show stepEnd c = if d.pos = d.s.size then (.none, d) else (.any, d.down) by unfold stepEnd; rw [hcl, ← hd]; rfl)
    have l1 : d.pos ≤ 65536 := by rw [← hd]; show c.pos + 0 ≤ _; omega
    have l2 : d.line ≤ 65537 := by rw [← hd]; show c.line ≤ _; omega
    rw [hd] at HP
    clear hb0 hH hcl hd
    go_enter Tryz.func83, Tryz.ntmps83
    go_wp2_with fail
    refine HP.out.mono ?_
    rintro e wv ⟨rfl, hcv, hbv⟩
    have HD := Lib.hid hcv
    have HBv := Lib.hid hbv
    clear hcv hbv c5
    obtain ⟨_, v, hb, hov⟩ := HD.out
    have HB0 := Lib.hid hb
    have HO0 := Lib.hid hov
    have c0 : wv.cell? ⟨b, 0, none⟩ = some (.string d.s) := Lib.cell_of_heap hb 0
    have c3 : wv.cell? ⟨b, 3, none⟩ = some (.int .i64 d.pos) := Lib.cell_of_heap hb 3
    have g3 : wv.frozen? ⟨b, 3, none⟩ = false := Lib.frozen_of_heap hb 3
    have hne0 := ow_ne hov hb (by decide)
    have HNE := Lib.hid hne0
    clear hb hov hne0
    by_cases he : d.pos = d.s.size
    · have he1 : ((d.pos : Int) == (d.s.size : Int)) = true := beq_iff_eq.2 (by omega)
      go_wp2_with fail
      go_quiet (fail)
      go_wp2_with fail
      go_ret
      rw [E.out, if_pos he]
      exact ⟨rfl, HD.out.drewN _, below_drewN HBv.out _⟩
    · have he1 : ((d.pos : Int) == (d.s.size : Int)) = false := beq_eq_false_iff_ne.2 (by omega)
      go_wp2_with fail
      go_quiet (fail)
      go_wp2_with fail
      generalize hw5 : World.setCell _ ⟨b, 3, none⟩ (.int .i64 ((d.pos : Int) + 1)) = w5
      have hb5 : w5.heap[b]? = some (.cells ((d.go (d.pos + 1)).cells v) 95 (0, 0)) := by rw [← hw5]; exact heap_setCell_same _ b 3 _ _ (.int .i64 ((d.pos : Int) + 1)) HB0.out
      have ho5 : Ow tkc 5 w5 B 101 v d.out := by rw [← hw5]; first | exact HO0.out.set HNE.out | exact (HO0.out.drewN _).set HNE.out
      have hB5 : Below B w w5 := by rw [← hw5]; first | exact HBv.out.setCell (p := ⟨b, 3, none⟩) hB _ | exact (below_drewN HBv.out _).setCell (p := ⟨b, 3, none⟩) hB _
      have HB5 := Lib.hid hb5
      have HO5 := Lib.hid ho5
      have HBB5 := Lib.hid hB5
      have hSw := hb5
      clear hw5 hb5 ho5 hB5 c0 c3 g3
      refine wp_region_kinds (fun wy => wy.heap[b]? = some (.cells ((d.go (d.pos + 1)).cells v) 95 (0, 0))) [] [14, 17, 20] [6, 11] [0, 1, 2, 3, 4, 5, 7, 8, 9, 10, 12, 13, 15, 16, 18, 19] [0, 1, 2, 3, 4, 5, 6, 7, 8, 9, 10, 11, 12, 13, 14, 15, 16, 17, 18, 19, 20] (by kernel_rfl) (by kernel_rfl) (fun w n h => h) ?_
      repeat (first | (refine wpKind_free (v := ?_) (by rfl) rfl (by rfl) ?_ ?_; rotate_left 1; (focus (intro wy; go_simp; try with_reducible rfl; done)); try simp only [Act.put, List.setIfInBounds_toArray, List.set_cons_zero, List.set_cons_succ]) | (refine wpKind_held (v := ?_) (by rfl) rfl (by rfl) hSw ?_ ?_; rotate_left 1; (focus (intro wy hSy; have s1 : wy.cell? ⟨b, 1, none⟩ = some (.int .i64 d.line) := Lib.cell_of_heap hSy 1; have s3 : wy.cell? ⟨b, 3, none⟩ = some (.int .i64 ((d.pos + 1 : Nat) : Int)) := Lib.cell_of_heap hSy 3; go_simp; try with_reducible rfl; done)); try simp only [Act.put, List.setIfInBounds_toArray, List.set_cons_zero, List.set_cons_succ]))
      have s14 : w5.cell? ⟨b, 1, none⟩ = some (.int .i64 d.line) := Lib.cell_of_heap HB5.out 1
      have f14 : w5.frozen? ⟨b, 1, none⟩ = false := Lib.frozen_of_heap HB5.out 1
      refine wpKind_serial (by rfl) rfl (fun n1 => ?_)
      go_wp2_with fail
      clear s14 f14
      generalize hw6 : World.setCell _ ⟨b, 1, none⟩ (.int .i64 ((d.line : Int) + 1)) = w6
      have hb6 := heap_setCell_same (w5.drewN n1) b 1 _ _ (.int .i64 ((d.line : Int) + 1)) HB5.out
      have ho6 := (HO5.out.drewN n1).set (i := 1) (u := .int .i64 ((d.line : Int) + 1)) HNE.out
      have hB6 := (below_drewN HBB5.out n1).setCell (p := ⟨b, 1, none⟩) hB (.int .i64 ((d.line : Int) + 1))
      rw [hw6] at hb6 ho6 hB6
      have HB6 := Lib.hid hb6
      have HO6 := Lib.hid ho6
      have HBB6 := Lib.hid hB6
      clear hw6 ho6 hB6 hSw HB5 HO5 HBB5
      show wpKind _ _ _ _ _ _ _ _ _
      repeat (refine wpKind_free (v := ?_) (by rfl) rfl (by rfl) ?_ ?_; rotate_left 1; (focus (intro wy; go_simp; try with_reducible rfl; done)); try simp only [Act.put, List.setIfInBounds_toArray, List.set_cons_zero, List.set_cons_succ])
      have s24 : w6.cell? ⟨b, 2, none⟩ = some (.int .i64 d.org) := Lib.cell_of_heap hb6 2
      have f24 : w6.frozen? ⟨b, 2, none⟩ = false := Lib.frozen_of_heap hb6 2
      clear hb6
      refine wpKind_serial (by rfl) rfl (fun n2 => ?_)
      go_wp2_with fail
      clear s24 f24
      generalize hw7 : World.setCell _ ⟨b, 2, none⟩ (.int .i64 ((d.pos : Int) + 1)) = w7
      have hb7 := heap_setCell_same (w6.drewN n2) b 2 _ _ (.int .i64 ((d.pos : Int) + 1)) HB6.out
      have ho7 := (HO6.out.drewN n2).set (i := 2) (u := .int .i64 ((d.pos : Int) + 1)) HNE.out
      have hB7 := (below_drewN HBB6.out n2).setCell (p := ⟨b, 2, none⟩) hB (.int .i64 ((d.pos : Int) + 1))
      rw [hw7] at hb7 ho7 hB7
      have HB7 := Lib.hid hb7
      have HO7 := Lib.hid ho7
      have HBB7 := Lib.hid hB7
      clear hw7 ho7 hB7 HB6 HO6 HBB6
      show wpKind _ _ _ _ _ _ _ _ _
      repeat (refine wpKind_free (v := ?_) (by rfl) rfl (by rfl) ?_ ?_; rotate_left 1; (focus (intro wy; go_simp; try with_reducible rfl; done)); try simp only [Act.put, List.setIfInBounds_toArray, List.set_cons_zero, List.set_cons_succ])
      have s34 : w7.cell? ⟨b, 5, none⟩ = some (.bool d.some) := Lib.cell_of_heap hb7 5
      have f34 : w7.frozen? ⟨b, 5, none⟩ = false := Lib.frozen_of_heap hb7 5
      clear hb7
      refine wpKind_serial (by rfl) rfl (fun n3 => ?_)
      go_wp2_with fail
      clear s34 f34
      show wpKind _ _ _ _ _ _ _ _ _
      refine wpKind_nil fun n4 => ?_
      go_wp2_with fail
      go_ret
      rw [E.out, if_neg he]
      exact ⟨rfl, ⟨hB, v, heap_setCell_same (w7.drewN n3) b 5 _ _ (.bool false) HB7.out, ((HO7.out.drewN n3).set HNE.out).drewN n4⟩, below_drewN ((below_drewN HBB7.out n3).setCell (p := ⟨b, 5, none⟩) hB _) n4⟩
end Go.Proofs.YteonefgbdphmiaaGreatDoor
/- Walk of the cursor: remark. -/
namespace Go.Proofs.YteonefgbdphmiaaGreatDoor
open Go.RowKit
theorem pre_spec (p : UInt8 → Bool) (l : List UInt8) : (∀ j (h : j < l.length), j < Nm.pre p l → p l[j] = true) ∧ ∀ h : Nm.pre p l < l.length, p (l[Nm.pre p l]'h) = false := by
  unfold Nm.pre
  induction l with
  | nil => exact ⟨fun j h => absurd h (by simp), fun h => absurd h (by simp)⟩
  | cons a l ih =>
    obtain ⟨h1, h2⟩ := ih
    rw [List.takeWhile_cons]
    rcases ha : p a
    · simp only [Bool.false_eq_true, if_false, List.length_nil]
      exact ⟨fun j _ h => absurd h (by omega), fun _ => by simpa using ha⟩
    · simp only [if_true, List.length_cons]
      refine ⟨fun j hj hk => ?_, fun h => ?_⟩
      · cases j with
        | zero => simpa using ha
        | succ j => exact h1 j (by simpa using hj) (by omega)
      · have := h2 (by omega)
        simpa using this
/-- Up to the line's end no byte is one; there one is, or the text ends. -/
theorem eol_spec (c : Cur) (hp : c.pos ≤ c.s.size) : c.eol ≤ c.s.size ∧ (∀ p (h : p < c.s.size), c.pos ≤ p → p < c.eol → (c.s[p]).toNat ≠ 10) ∧ ∀ h : c.eol < c.s.size, (c.s[c.eol]).toNat = 10 := by
  obtain ⟨h1, h2⟩ := pre_spec (fun b => b != 10) (c.s.data.toList.drop c.pos)
  have hlen : (c.s.data.toList.drop c.pos).length = c.s.size - c.pos := by rw [List.length_drop, Nm.len_size]
  have hle := Nm.pre_le (fun b => b != 10) (c.s.data.toList.drop c.pos)
  unfold Cur.eol
  refine ⟨by omega, fun p hp2 h3 h4 => ?_, fun h3 => ?_⟩
  · have := h1 (p - c.pos) (by omega) (by omega)
    rw [List.getElem_drop] at this
    simp only [bne_iff_ne, ne_eq, show c.pos + (p - c.pos) = p from by omega] at this
    intro e
    exact this (UInt8.toNat_inj.1 (by rw [Nm.byte_at c.s hp2]; exact e))
  · have := h2 (by omega)
    rw [List.getElem_drop] at this
    simp only [bne_eq_false_iff_eq] at this
    rw [← Nm.byte_at c.s h3, this]
    rfl
set_option maxHeartbeats 4000000 in
set_option maxRecDepth 100000 in
theorem remark_any (w : World) (B b : Nat) (c : Cur) (h : CurAt B b c w) (hc : c.Ok) :
    Calls Tryz.prog 84 #[.pointer (some ⟨b, 0, none⟩)] w fun r w' => r = .returned (stepRemark c).1.v ∧ CurAt B b (stepRemark c).2 w' ∧ Below B w w' := by
  have k1 := hc.size
  have k2 := hc.pos
  obtain ⟨he1, he2, he3⟩ := eol_spec c hc.pos
  have HE2 := Lib.hid he2
  have HE3 := Lib.hid he3
  have HH := Lib.hid h
  have hB := h.1
  have hpe : c.pos ≤ c.eol := by unfold Cur.eol; omega
  have E := Lib.hid (show stepRemark c = (.any, c.go c.eol) from rfl)
  generalize c.eol = q at *
  clear h hc he2 he3
  go_enter Tryz.func84, Tryz.ntmps84
  go_wp2_with fail
  go_loopg [] (q - c.pos) (fun gg wr => ∃ p : Nat, c.pos ≤ p ∧ p ≤ q ∧ q - p ≤ gg ∧ CurAt B b (c.go p) wr ∧ Below B w wr)
  case atStart => exact ⟨c.pos, Nat.le_refl _, hpe, Nat.le_refl _, HH.out, Below.refl _ _⟩
  case round =>
    obtain ⟨p, hp1, hp2, hgg, ⟨_, v, hb, hov⟩, hbw⟩ := hrel
    have HB0 := Lib.hid hb
    have HO0 := Lib.hid hov
    have HBW := Lib.hid hbw
    have HNE := Lib.hid (ow_ne hov hb (by decide))
    have c0 : wr.cell? ⟨b, 0, none⟩ = some (.string c.s) := Lib.cell_of_heap hb 0
    have c3 : wr.cell? ⟨b, 3, none⟩ = some (.int .i64 p) := Lib.cell_of_heap hb 3
    have g3 : wr.frozen? ⟨b, 3, none⟩ = false := Lib.frozen_of_heap hb 3
    clear hb hov hbw
    have r1 : (0 : Int) ≤ (p : Int) := by omega
    by_cases hlt : p < c.s.size
    · have t1 : ¬ (c.s.size : Int) ≤ (p : Int) := by omega
      have r2 : (p : Int) < (c.s.size : Int) := by omega
      obtain ⟨y, hy⟩ : ∃ y, c.s[p] = y := ⟨_, rfl⟩
      by_cases hpq : p < q
      · have hy10 : y.toNat ≠ 10 := by rw [← hy]; exact HE2.out p hlt hp1 hpq
        have t10 : ((y.toNat : Int) == 10) = false := beq_eq_false_iff_ne.2 (by omega)
        have t11 : ((y.toNat : Int) != 10) = true := by rw [bne, t10]; rfl
        go_wp2_with fail
        go_quiet (fail)
        go_wp2_with fail
        go_roundg (q - (p + 1))
        case measure => omega
        case rel => exact ⟨p + 1, by omega, by omega, Nat.le_refl _, ⟨hB, v, heap_setCell_same _ b 3 _ _ (.int .i64 ((p : Int) + 1)) HB0.out, (HO0.out.drewN _).set HNE.out⟩, (below_drewN HBW.out _).setCell (p := ⟨b, 3, none⟩) hB _⟩
      · have HPQ := Lib.hid (show p = q by omega)
        have hy10 : y.toNat = 10 := by
          have hpe2 := HPQ.out
          rw [← hy]; subst hpe2; exact HE3.out hlt
        have t10 : ((y.toNat : Int) == 10) = true := beq_iff_eq.2 (by omega)
        have t11 : ((y.toNat : Int) != 10) = false := by rw [bne, t10]; rfl
        go_wp2_with fail
        go_quiet (fail)
        go_wp2_with fail
        go_ret
        rw [E.out]
        have hpe2 := HPQ.out
        subst hpe2
        exact ⟨rfl, ⟨hB, v, HB0.out, HO0.out.drewN _⟩, below_drewN HBW.out _⟩
    · have HPQ := Lib.hid (show p = q by omega)
      have t1 : ¬ (p : Int) < (c.s.size : Int) := by omega
      have t2 : decide ((p : Int) < (c.s.size : Int)) = false := decide_eq_false t1
      go_wp2_with fail
      go_quiet (fail)
      go_wp2_with fail
      go_ret
      rw [E.out]
      have hpe2 := HPQ.out
      subst hpe2
      exact ⟨rfl, ⟨hB, v, HB0.out, HO0.out.drewN _⟩, below_drewN HBW.out _⟩
end Go.Proofs.YteonefgbdphmiaaGreatDoor
/- lex.run with the classes that go on a word, and a number. Printed by wip/bin/genrn.py. -/
namespace Go.Proofs.YteonefgbdphmiaaGreatDoor
open Go.RowKit
set_option maxHeartbeats 400000 in
theorem wmore_any (c : UInt8) (w : World) : Calls Tryz.prog 100 #[.int .i64 (Nm.cls c)] w fun e w' => e = .returned (.bool (Nm.more c)) ∧ w = w' := by
  rw [← Nm.cls_more]
  generalize Nm.cls c = x
  go_enter Tryz.func100, Tryz.ntmps100
  go_wp2
  go_ret
  exact ⟨rfl, rfl⟩
set_option maxHeartbeats 400000 in
theorem ndig_any (c : UInt8) (w : World) : Calls Tryz.prog 101 #[.int .i64 (Nm.cls c)] w fun e w' => e = .returned (.bool (Nm.dig c)) ∧ w = w' := by
  rw [← Nm.cls_dig]
  generalize Nm.cls c = x
  go_enter Tryz.func101, Tryz.ntmps101
  go_wp2
  go_ret
  exact ⟨rfl, rfl⟩
set_option maxHeartbeats 1000000 in
theorem wrun_any (s : ByteArray) (w : World) (hs : s.size ≤ maxLen) : Calls Tryz.prog 75 #[.string s, .func (.func 100) #[] #[]] w fun e w' => e = .returned (.int .i64 (Nm.pre Nm.more s.data.toList : Nat)) ∧ w = w' := by
  unfold maxLen at hs
  obtain ⟨r, hr⟩ : ∃ r : Nat, Nm.pre Nm.more s.data.toList = r := ⟨_, rfl⟩
  have HR := Lib.hid hr
  rw [hr]
  clear hr
  go_enter Tryz.func75, Tryz.ntmps75
  go_wp2_with fail
  go_loop [5] (fun i => ∃ k : Nat, k ≤ s.size ∧ i = .int .i64 k ∧ Hid (∀ j (hj : j < s.size), j < k → Nm.more s[j] = true)) (fun i => s.size - (intOf i).toNat)
  case atStart => exact ⟨0, Nat.zero_le _, rfl, Lib.hid fun j _ h => absurd h (Nat.not_lt_zero _)⟩
  case round =>
    obtain ⟨k, hk, rfl, hall⟩ := hrel
    by_cases hlt : k < s.size
    · cases hm : Nm.more s[k]
      · have E := Lib.hid (HR.out.symm.trans (Nm.pre_stop Nm.more s.data.toList k (by simpa using hlt) (fun j hj => hall.out j (by omega) hj) hm))
        go_wp2_with (first | (go_at_call 73; refine (class_any _ _).mono ?_; rintro e w' ⟨rfl, rfl⟩) | (go_at_call 100; refine (wmore_any _ _).mono ?_; rintro e w' ⟨rfl, rfl⟩))
        go_ret
        exact ⟨ret_i64 (by rw [E.out]), rfl⟩
      · go_wp2_with (first | (go_at_call 73; refine (class_any _ _).mono ?_; rintro e w' ⟨rfl, rfl⟩) | (go_at_call 100; refine (wmore_any _ _).mono ?_; rintro e w' ⟨rfl, rfl⟩))
        go_round
        case rel =>
          refine ⟨k + 1, by omega, by go_num, Lib.hid fun j hj h => ?_⟩
          rcases Nat.lt_or_eq_of_le (Nat.le_of_lt_succ h) with h | rfl
          · exact hall.out j hj h
          · exact hm
        case measure => simp [intOf]; omega
    · have E := Lib.hid (HR.out.symm.trans (Nm.pre_end Nm.more s.data.toList fun j hj => hall.out j (by rw [← Nm.len_size]; exact hj) (by have := Nm.len_size s; omega)))
      have hks := Lib.hid (show k = s.data.toList.length by have := Nm.len_size s; omega)
      go_wp2_with fail
      go_ret
      exact ⟨ret_i64 (by rw [E.out, hks.out]), rfl⟩
set_option maxHeartbeats 1000000 in
theorem nrun_any (s : ByteArray) (w : World) (hs : s.size ≤ maxLen) : Calls Tryz.prog 75 #[.string s, .func (.func 101) #[] #[]] w fun e w' => e = .returned (.int .i64 (Nm.pre Nm.dig s.data.toList : Nat)) ∧ w = w' := by
  unfold maxLen at hs
  obtain ⟨r, hr⟩ : ∃ r : Nat, Nm.pre Nm.dig s.data.toList = r := ⟨_, rfl⟩
  have HR := Lib.hid hr
  rw [hr]
  clear hr
  go_enter Tryz.func75, Tryz.ntmps75
  go_wp2_with fail
  go_loop [5] (fun i => ∃ k : Nat, k ≤ s.size ∧ i = .int .i64 k ∧ Hid (∀ j (hj : j < s.size), j < k → Nm.dig s[j] = true)) (fun i => s.size - (intOf i).toNat)
  case atStart => exact ⟨0, Nat.zero_le _, rfl, Lib.hid fun j _ h => absurd h (Nat.not_lt_zero _)⟩
  case round =>
    obtain ⟨k, hk, rfl, hall⟩ := hrel
    by_cases hlt : k < s.size
    · cases hm : Nm.dig s[k]
      · have E := Lib.hid (HR.out.symm.trans (Nm.pre_stop Nm.dig s.data.toList k (by simpa using hlt) (fun j hj => hall.out j (by omega) hj) hm))
        go_wp2_with (first | (go_at_call 73; refine (class_any _ _).mono ?_; rintro e w' ⟨rfl, rfl⟩) | (go_at_call 101; refine (ndig_any _ _).mono ?_; rintro e w' ⟨rfl, rfl⟩))
        go_ret
        exact ⟨ret_i64 (by rw [E.out]), rfl⟩
      · go_wp2_with (first | (go_at_call 73; refine (class_any _ _).mono ?_; rintro e w' ⟨rfl, rfl⟩) | (go_at_call 101; refine (ndig_any _ _).mono ?_; rintro e w' ⟨rfl, rfl⟩))
        go_round
        case rel =>
          refine ⟨k + 1, by omega, by go_num, Lib.hid fun j hj h => ?_⟩
          rcases Nat.lt_or_eq_of_le (Nat.le_of_lt_succ h) with h | rfl
          · exact hall.out j hj h
          · exact hm
        case measure => simp [intOf]; omega
    · have E := Lib.hid (HR.out.symm.trans (Nm.pre_end Nm.dig s.data.toList fun j hj => hall.out j (by rw [← Nm.len_size]; exact hj) (by have := Nm.len_size s; omega)))
      have hks := Lib.hid (show k = s.data.toList.length by have := Nm.len_size s; omega)
      go_wp2_with fail
      go_ret
      exact ⟨ret_i64 (by rw [E.out, hks.out]), rfl⟩
end Go.Proofs.YteonefgbdphmiaaGreatDoor
/- Walk of the cursor: word. -/
namespace Go.Proofs.YteonefgbdphmiaaGreatDoor
open Go.RowKit
theorem CurAt.below {B b : Nat} {c : Cur} {w w' : World} (h : CurAt B b c w) (hb : Below w.heap.size w w') : CurAt B b c w' := by
  obtain ⟨hB, v, h1, h2⟩ := h
  exact ⟨hB, v, (hb.block b (Array.getElem?_eq_some_iff.1 h1).1).trans h1, Ow.below h2 hb fun k hk => (h2.lt hk).2⟩
theorem ba_cut (l : List UInt8) (n : Nat) : (ba l).extract 0 n = ba (l.take n) := by
  apply ByteArray.ext
  rw [ByteArray.data_extract]
  apply Array.ext'
  simp [ba]
theorem rest_cut (c : Cur) : c.s.extract c.pos c.s.size = ba c.rest := by
  apply ByteArray.ext
  rw [ByteArray.data_extract]
  apply Array.ext'
  unfold Cur.rest ba
  simp only [Array.toList_extract, List.extract_eq_take_drop]
  exact List.take_of_length_le (by rw [List.length_drop, Nm.len_size]; exact Nat.le_refl _)
set_option maxHeartbeats 4000000 in
set_option maxRecDepth 100000 in
theorem word_any (w : World) (B b : Nat) (c : Cur) (h : CurAt B b c w) (hBw : B ≤ w.heap.size) (hc : c.Ok) (ho : c.out.length ≤ 200000) (hT : Tabs w) :
    Calls Tryz.prog 85 #[.pointer (some ⟨b, 0, none⟩)] w fun r w' => r = .returned (stepWord c).1.v ∧ CurAt B b (stepWord c).2 w' ∧ Below B w w' := by
  have k1 := hc.size
  have k2 := hc.pos
  have k3 := hc.org
  have hB := h.1
  have HH := Lib.hid h
  have HT := Lib.hid hT
  have HF := Lib.hid fun n => fail_any (w.drewN n) B b c (h.drewN n) 3 c.pos (by omega) (by omega)
  have HPU := Lib.hid fun wx (hx : CurAt B b c wx) (hs : B ≤ wx.heap.size) k t n (hn : n ≤ 100000) => put_any wx B b c hx hs k t 0 n hn hc ho
  obtain ⟨_, v, hb, _⟩ := h
  have c0 : w.cell? ⟨b, 0, none⟩ = some (.string c.s) := Lib.cell_of_heap hb 0
  have c3 : w.cell? ⟨b, 3, none⟩ = some (.int .i64 c.pos) := Lib.cell_of_heap hb 3
  have r1 : (0 : Int) ≤ (c.pos : Int) := by omega
  have r2 : (c.pos : Int) ≤ (c.s.size : Int) := by omega
  have ht := rest_cut c
  have hrl : c.rest.length = c.s.size - c.pos := by unfold Cur.rest; rw [List.length_drop, Nm.len_size]
  obtain ⟨n, hn⟩ : ∃ n, Nm.pre Nm.more c.rest = n := ⟨_, rfl⟩
  have hnl : n ≤ c.rest.length := by rw [← hn]; exact Nm.pre_le _ _
  have HR := Lib.hid fun wx => (show Calls Tryz.prog 75 #[.string (ba c.rest), .func (.func 100) #[] #[]] wx fun e w' => e = .returned (.int .i64 (n : Int)) ∧ wx = w' by
    have := wrun_any (ba c.rest) wx (by rw [ba_size]; simp only [maxLen]; omega)
    rw [ba_list, hn] at this
    exact this)
  have hu := ba_cut c.rest n
  have E := Lib.hid (show stepWord c = if 24 < n then (.none, c.fail 3 c.pos) else (.any, c.put (if Nm.res (c.rest.take n) = true then 2 else 1) (c.rest.take n) 0 n) by unfold stepWord; rw [hn])
  have s1 : (ba c.rest).size = c.rest.length := ba_size _
  have r3 : (n : Int) ≤ (c.rest.length : Int) := by omega
  have r4 : (0 : Int) ≤ (n : Int) := by omega
  have HRV := Lib.hid fun wx (hx : Tabs wx) => (show Calls Tryz.prog 74 #[.string (ba (c.rest.take n))] wx fun e w' => e = .returned (.bool (Nm.res (c.rest.take n))) ∧ Below wx.heap.size wx w' by
    have := lres_any (ba (c.rest.take n)) wx hx
    rw [ba_list] at this
    exact this)
  have HN := Lib.hid hn
  clear hb hT hn
  by_cases h24 : 24 < n
  · have t24 : ¬ (n : Int) ≤ 24 := by omega
    go_enter Tryz.func85, Tryz.ntmps85
    go_wp2_with fail
    go_quiet (fail)
    go_wp2_with fail
    refine (HR.out _).mono ?_
    rintro e w2 ⟨rfl, rfl⟩
    go_wp2_with fail
    refine (HF.out _).mono ?_
    rintro e w2 ⟨rfl, hc2, hb2⟩
    have HC2 := Lib.hid hc2
    have HB2 := Lib.hid hb2
    clear hc2 hb2
    go_wp2_with fail
    go_ret
    rw [E.out, if_pos h24]
    exact ⟨rfl, HC2.out, (below_drewN (Below.refl _ _) _).trans HB2.out⟩
  · have t24 : (n : Int) ≤ 24 := by omega
    rw [if_neg h24] at E
    go_enter Tryz.func85, Tryz.ntmps85
    go_wp2_with fail
    go_quiet (fail)
    go_wp2_with fail
    refine (HR.out _).mono ?_
    rintro e w2 ⟨rfl, rfl⟩
    go_wp2_with fail
    refine (HRV.out _ (HT.out.drewN _)).mono ?_
    rintro e w3 ⟨rfl, hb3⟩
    have hb3 : Below w.heap.size w w3 := Below.lift (below_drewN (Below.refl _ _) _) hb3
    have HC3 := Lib.hid (HH.out.below hb3)
    have HB3 := Lib.hid (hb3.mono hBw)
    have HS3 := Lib.hid (Nat.le_trans hBw hb3.size)
    clear hb3
    cases hres : Nm.res (c.rest.take n)
    · rw [hres] at E
      go_wp2_with fail
      refine (HPU.out w3 HC3.out HS3.out 1 (c.rest.take n) n (by omega)).mono ?_
      rintro e w4 ⟨rfl, hc4, hb4⟩
      have HC4 := Lib.hid hc4
      have HB4 := Lib.hid (HB3.out.trans hb4)
      clear hc4 hb4
      go_wp2_with fail
      go_ret
      rw [E.out]
      exact ⟨rfl, HC4.out, HB4.out⟩
    · rw [hres] at E
      go_wp2_with fail
      refine (HPU.out w3 HC3.out HS3.out 2 (c.rest.take n) n (by omega)).mono ?_
      rintro e w4 ⟨rfl, hc4, hb4⟩
      have HC4 := Lib.hid hc4
      have HB4 := Lib.hid (HB3.out.trans hb4)
      clear hc4 hb4
      go_wp2_with fail
      go_ret
      rw [E.out]
      exact ⟨rfl, HC4.out, HB4.out⟩
end Go.Proofs.YteonefgbdphmiaaGreatDoor
