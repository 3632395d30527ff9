/- The walks of change.field's take, of change.at. -/
import Derived.Test.YtlclkeihkkpdbaaGreatDoorUf
namespace Go.Proofs.YtlclkeihkkpdbaaGreatDoor
open Go.RowKit
theorem FormAt.keep {B b : Nat} {f : FormU} {fs : List Fld} {w w' : World} (h : FormAt B b f fs w) (hk : ∀ c, c < w.heap.size → w'.heap[c]? = w.heap[c]?) : FormAt B b f fs w' := by
  obtain ⟨v, h1, h2⟩ := h
  exact ⟨v, (hk b (Array.getElem?_eq_some_iff.1 h1).1).trans h1, h2.keepB fun c _ hc => hk c hc⟩
theorem FormAt.lt {B b : Nat} {f : FormU} {fs : List Fld} {w : World} (h : FormAt B b f fs w) : b < w.heap.size := by
  obtain ⟨v, h1, _⟩ := h
  exact (Array.getElem?_eq_some_iff.1 h1).1
theorem form_name {B b : Nat} {f : FormU} {fs : List Fld} {w : World} (h : FormAt B b f fs w) (hB : b < B) (t : TokD) :
    w.cell? ⟨b, 1, none⟩ = some (.string (ba f.u.name)) ∧ w.frozen? ⟨b, 1, none⟩ = false ∧ FormAt B b (setF .name t f) fs (w.setCell ⟨b, 1, none⟩ (.string (ba t.text))) := by
  obtain ⟨v, h1, h2⟩ := h
  exact ⟨Lib.cell_of_heap h1 1, Lib.frozen_of_heap h1 1, v, heap_setCell_same w b 1 _ _ _ h1, h2.keepB fun c hc _ => Below.heap_setCell _ _ _ _ (by show c ≠ b; omega)⟩
theorem form_num {B b off : Nat} {low : Int} {f : FormU} {fs : List Fld} {w : World} (h : FormAt B b f fs w) (hB : b < B) (hoff : off ∈ [4, 5, 6, 7, 8, 9]) (t : TokD) :
    (∃ old, w.cell? ⟨b, off, none⟩ = some (.int .i64 old)) ∧ w.frozen? ⟨b, off, none⟩ = false ∧ FormAt B b (setF (.num off low) t f) fs (w.setCell ⟨b, off, none⟩ (.int .i64 t.num)) := by
  obtain ⟨v, h1, h2⟩ := h
  have h3 : ∀ c, B ≤ c → c < w.heap.size → (w.setCell ⟨b, off, none⟩ (.int .i64 t.num)).heap[c]? = w.heap[c]? := fun c hc _ => Below.heap_setCell _ _ _ _ (by show c ≠ b; omega)
  simp only [List.mem_cons, List.not_mem_nil, or_false] at hoff
  rcases hoff with rfl | rfl | rfl | rfl | rfl | rfl <;>
    exact ⟨⟨_, Lib.cell_of_heap h1 _⟩, Lib.frozen_of_heap h1 _, v, heap_setCell_same w b _ _ _ _ h1, h2.keepB h3⟩
/-- What take leaves. -/
def TakePost (B b : Nat) (x : Fld) (t : TokD) (f : FormU) (fs : List Fld) (w : World) (e : Ending) (w' : World) : Prop :=
  e = .returned (.bool (takeD x t)) ∧ FormAt B b (setF x t f) fs w' ∧ (∀ c, c ≠ b → c < w.heap.size → w'.heap[c]? = w.heap[c]?) ∧ Below b w w'
set_option maxHeartbeats 1000000 in
set_option maxRecDepth 100000 in
theorem take_word (B b : Nat) (wd : List UInt8) (t : TokD) (f : FormU) (fs : List Fld) (w : World) (h : FormAt B b f fs w) :
    Calls Tryz.prog 52 #[.agg #[.string (ba wd), .pointer none, .pointer none, .int .i64 0], .agg #[.int .i64 t.kind, .string (ba t.text), .int .i64 t.num, .int .i64 t.line, .int .i64 t.col]] w (TakePost B b (.word wd) t f fs w) := by
  obtain ⟨kd, tx, nu, li, co⟩ := t
  dsimp only
  obtain ⟨wA, hwA⟩ : ∃ wA, (w.alloc (.cells #[.string (ba wd), .pointer none, .pointer none, .int .i64 0] 61)).alloc (.cells #[.int .i64 kd, .string (ba tx), .int .i64 nu, .int .i64 li, .int .i64 co] 51) = wA := ⟨_, rfl⟩
  have hsz : (w.alloc (.cells #[.string (ba wd), .pointer none, .pointer none, .int .i64 0] 61)).heap.size = w.heap.size + 1 := by simp
  have hlt := h.lt
  have hkeep : ∀ c, c < w.heap.size → wA.heap[c]? = w.heap[c]? := fun c hc => by rw [← hwA, heap_alloc_old _ _ (by omega), heap_alloc_old _ _ hc]
  have hXA : wA.heap[w.heap.size]? = some (.cells #[.string (ba wd), .pointer none, .pointer none, .int .i64 0] 61 (0, 0)) := by rw [← hwA, heap_alloc_old _ _ (by omega)]; exact heap_alloc_new _ _
  have hTA : wA.heap[w.heap.size + 1]? = some (.cells #[.int .i64 kd, .string (ba tx), .int .i64 nu, .int .i64 li, .int .i64 co] 51 (0, 0)) := by rw [← hwA]; exact alloc2_new _ _ _
  have HFA := Lib.hid (h.keep hkeep)
  have HKA := Lib.hid hkeep
  have HBA := Lib.hid (show Below b w wA by rw [← hwA]; exact ((Below.refl _ _).alloc (by omega) _).alloc (by simp; omega) _)
  have x0 : wA.cell? ⟨w.heap.size, 0, none⟩ = some (.string (ba wd)) := Lib.cell_of_heap hXA 0
  have x1 : wA.cell? ⟨w.heap.size, 1, none⟩ = some (.pointer none) := Lib.cell_of_heap hXA 1
  have x2 : wA.cell? ⟨w.heap.size, 2, none⟩ = some (.pointer none) := Lib.cell_of_heap hXA 2
  have x3 : wA.cell? ⟨w.heap.size, 3, none⟩ = some (.int .i64 0) := Lib.cell_of_heap hXA 3
  have t0 : wA.cell? ⟨w.heap.size + 1, 0, none⟩ = some (.int .i64 kd) := Lib.cell_of_heap hTA 0
  have t1 : wA.cell? ⟨w.heap.size + 1, 1, none⟩ = some (.string (ba tx)) := Lib.cell_of_heap hTA 1
  have t2 : wA.cell? ⟨w.heap.size + 1, 2, none⟩ = some (.int .i64 nu) := Lib.cell_of_heap hTA 2
  have HXA := Lib.hid hXA
  have HTA := Lib.hid hTA
  have HLT := Lib.hid hlt
  clear hkeep hXA hTA hsz h
  have hin : takeD (.word wd) ⟨kd, tx, nu, li, co⟩ = ((kd == 1 || kd == 2) && tx == wd) := rfl
  unfold TakePost
  rw [hin]
  clear hin
  by_cases ht : tx = wd
  · subst ht
    have hb : (tx == tx) = true := beq_self_eq_true _
    rw [hb]
    cases k1 : kd == 1
    · cases k2 : kd == 2
      · skip
        go_enter Tryz.func52, Tryz.ntmps52
        go_wp2_with fail
        go_ret
        exact ⟨rfl, HFA.out, fun c _ hc => HKA.out c hc, HBA.out⟩
      · skip
        go_enter Tryz.func52, Tryz.ntmps52
        go_wp2_with fail
        go_ret
        exact ⟨rfl, HFA.out, fun c _ hc => HKA.out c hc, HBA.out⟩
    · skip
      go_enter Tryz.func52, Tryz.ntmps52
      go_wp2_with fail
      go_ret
      exact ⟨rfl, HFA.out, fun c _ hc => HKA.out c hc, HBA.out⟩
  · have hb : (tx == wd) = false := beq_eq_false_iff_ne.2 ht
    rw [hb]
    have hb2 : ((ba tx).toList == (ba wd).toList) = false := by rw [ba_toList, ba_toList]; exact hb
    cases k1 : kd == 1
    · cases k2 : kd == 2
      · skip
        go_enter Tryz.func52, Tryz.ntmps52
        go_wp2_with fail
        go_ret
        exact ⟨rfl, HFA.out, fun c _ hc => HKA.out c hc, HBA.out⟩
      · skip
        go_enter Tryz.func52, Tryz.ntmps52
        go_wp2_with fail
        go_ret
        exact ⟨rfl, HFA.out, fun c _ hc => HKA.out c hc, HBA.out⟩
    · skip
      go_enter Tryz.func52, Tryz.ntmps52
      go_wp2_with fail
      go_ret
      exact ⟨rfl, HFA.out, fun c _ hc => HKA.out c hc, HBA.out⟩
set_option maxHeartbeats 1000000 in
set_option maxRecDepth 100000 in
theorem take_name (B b : Nat) (t : TokD) (f : FormU) (fs : List Fld) (w : World) (h : FormAt B b f fs w) (hB : b < B) :
    Calls Tryz.prog 52 #[.agg #[.string ⟨#[]⟩, .pointer (some ⟨b, 1, none⟩), .pointer none, .int .i64 0], .agg #[.int .i64 t.kind, .string (ba t.text), .int .i64 t.num, .int .i64 t.line, .int .i64 t.col]] w (TakePost B b .name t f fs w) := by
  obtain ⟨kd, tx, nu, li, co⟩ := t
  dsimp only
  obtain ⟨wA, hwA⟩ : ∃ wA, (w.alloc (.cells #[.string ⟨#[]⟩, .pointer (some ⟨b, 1, none⟩), .pointer none, .int .i64 0] 61)).alloc (.cells #[.int .i64 kd, .string (ba tx), .int .i64 nu, .int .i64 li, .int .i64 co] 51) = wA := ⟨_, rfl⟩
  have hsz : (w.alloc (.cells #[.string ⟨#[]⟩, .pointer (some ⟨b, 1, none⟩), .pointer none, .int .i64 0] 61)).heap.size = w.heap.size + 1 := by simp
  have hlt := h.lt
  have hkeep : ∀ c, c < w.heap.size → wA.heap[c]? = w.heap[c]? := fun c hc => by rw [← hwA, heap_alloc_old _ _ (by omega), heap_alloc_old _ _ hc]
  have hXA : wA.heap[w.heap.size]? = some (.cells #[.string ⟨#[]⟩, .pointer (some ⟨b, 1, none⟩), .pointer none, .int .i64 0] 61 (0, 0)) := by rw [← hwA, heap_alloc_old _ _ (by omega)]; exact heap_alloc_new _ _
  have hTA : wA.heap[w.heap.size + 1]? = some (.cells #[.int .i64 kd, .string (ba tx), .int .i64 nu, .int .i64 li, .int .i64 co] 51 (0, 0)) := by rw [← hwA]; exact alloc2_new _ _ _
  have HFA := Lib.hid (h.keep hkeep)
  have HKA := Lib.hid hkeep
  have HBA := Lib.hid (show Below b w wA by rw [← hwA]; exact ((Below.refl _ _).alloc (by omega) _).alloc (by simp; omega) _)
  have x0 : wA.cell? ⟨w.heap.size, 0, none⟩ = some (.string ⟨#[]⟩) := Lib.cell_of_heap hXA 0
  have x1 : wA.cell? ⟨w.heap.size, 1, none⟩ = some (.pointer (some ⟨b, 1, none⟩)) := Lib.cell_of_heap hXA 1
  have x2 : wA.cell? ⟨w.heap.size, 2, none⟩ = some (.pointer none) := Lib.cell_of_heap hXA 2
  have x3 : wA.cell? ⟨w.heap.size, 3, none⟩ = some (.int .i64 0) := Lib.cell_of_heap hXA 3
  have t0 : wA.cell? ⟨w.heap.size + 1, 0, none⟩ = some (.int .i64 kd) := Lib.cell_of_heap hTA 0
  have t1 : wA.cell? ⟨w.heap.size + 1, 1, none⟩ = some (.string (ba tx)) := Lib.cell_of_heap hTA 1
  have t2 : wA.cell? ⟨w.heap.size + 1, 2, none⟩ = some (.int .i64 nu) := Lib.cell_of_heap hTA 2
  have HXA := Lib.hid hXA
  have HTA := Lib.hid hTA
  have HLT := Lib.hid hlt
  clear hkeep hXA hTA hsz h
  have hin : takeD .name ⟨kd, tx, nu, li, co⟩ = (kd == 1) := rfl
  unfold TakePost
  rw [hin]
  have hfn := form_name HFA.out hB ⟨kd, tx, nu, li, co⟩
  have HFN := Lib.hid hfn.2.2
  have c1 := hfn.1
  have f1 := hfn.2.1
  have hne1 : ¬ w.heap.size = b := by have := HLT.out; omega
  have hne2 : ¬ w.heap.size + 1 = b := by have := HLT.out; omega
  clear hin hfn
  cases k1 : kd == 1
  · skip
    go_enter Tryz.func52, Tryz.ntmps52
    go_wp2_with fail
    go_ret
    exact ⟨rfl, HFN.out, fun c hcb hc => (Below.heap_setCell _ _ _ _ hcb).trans (HKA.out c hc), HBA.out.setCell (Nat.le_refl _) _⟩
  · skip
    go_enter Tryz.func52, Tryz.ntmps52
    go_wp2_with fail
    go_ret
    exact ⟨rfl, HFN.out, fun c hcb hc => (Below.heap_setCell _ _ _ _ hcb).trans (HKA.out c hc), HBA.out.setCell (Nat.le_refl _) _⟩
set_option maxHeartbeats 1000000 in
set_option maxRecDepth 100000 in
theorem take_num (B b off : Nat) (low : Int) (hoff : off ∈ [4, 5, 6, 7, 8, 9]) (t : TokD) (f : FormU) (fs : List Fld) (w : World) (h : FormAt B b f fs w) (hB : b < B) :
    Calls Tryz.prog 52 #[.agg #[.string ⟨#[]⟩, .pointer none, .pointer (some ⟨b, off, none⟩), .int .i64 low], .agg #[.int .i64 t.kind, .string (ba t.text), .int .i64 t.num, .int .i64 t.line, .int .i64 t.col]] w (TakePost B b (.num off low) t f fs w) := by
  obtain ⟨kd, tx, nu, li, co⟩ := t
  dsimp only
  obtain ⟨wA, hwA⟩ : ∃ wA, (w.alloc (.cells #[.string ⟨#[]⟩, .pointer none, .pointer (some ⟨b, off, none⟩), .int .i64 low] 61)).alloc (.cells #[.int .i64 kd, .string (ba tx), .int .i64 nu, .int .i64 li, .int .i64 co] 51) = wA := ⟨_, rfl⟩
  have hsz : (w.alloc (.cells #[.string ⟨#[]⟩, .pointer none, .pointer (some ⟨b, off, none⟩), .int .i64 low] 61)).heap.size = w.heap.size + 1 := by simp
  have hlt := h.lt
  have hkeep : ∀ c, c < w.heap.size → wA.heap[c]? = w.heap[c]? := fun c hc => by rw [← hwA, heap_alloc_old _ _ (by omega), heap_alloc_old _ _ hc]
  have hXA : wA.heap[w.heap.size]? = some (.cells #[.string ⟨#[]⟩, .pointer none, .pointer (some ⟨b, off, none⟩), .int .i64 low] 61 (0, 0)) := by rw [← hwA, heap_alloc_old _ _ (by omega)]; exact heap_alloc_new _ _
  have hTA : wA.heap[w.heap.size + 1]? = some (.cells #[.int .i64 kd, .string (ba tx), .int .i64 nu, .int .i64 li, .int .i64 co] 51 (0, 0)) := by rw [← hwA]; exact alloc2_new _ _ _
  have HFA := Lib.hid (h.keep hkeep)
  have HKA := Lib.hid hkeep
  have HBA := Lib.hid (show Below b w wA by rw [← hwA]; exact ((Below.refl _ _).alloc (by omega) _).alloc (by simp; omega) _)
  have x0 : wA.cell? ⟨w.heap.size, 0, none⟩ = some (.string ⟨#[]⟩) := Lib.cell_of_heap hXA 0
  have x1 : wA.cell? ⟨w.heap.size, 1, none⟩ = some (.pointer none) := Lib.cell_of_heap hXA 1
  have x2 : wA.cell? ⟨w.heap.size, 2, none⟩ = some (.pointer (some ⟨b, off, none⟩)) := Lib.cell_of_heap hXA 2
  have x3 : wA.cell? ⟨w.heap.size, 3, none⟩ = some (.int .i64 low) := Lib.cell_of_heap hXA 3
  have t0 : wA.cell? ⟨w.heap.size + 1, 0, none⟩ = some (.int .i64 kd) := Lib.cell_of_heap hTA 0
  have t1 : wA.cell? ⟨w.heap.size + 1, 1, none⟩ = some (.string (ba tx)) := Lib.cell_of_heap hTA 1
  have t2 : wA.cell? ⟨w.heap.size + 1, 2, none⟩ = some (.int .i64 nu) := Lib.cell_of_heap hTA 2
  have HXA := Lib.hid hXA
  have HTA := Lib.hid hTA
  have HLT := Lib.hid hlt
  clear hkeep hXA hTA hsz h
  have hin : takeD (.num off low) ⟨kd, tx, nu, li, co⟩ = (kd == 3 && decide (low ≤ nu)) := rfl
  unfold TakePost
  rw [hin]
  have hfn := form_num (low := low) HFA.out hB hoff ⟨kd, tx, nu, li, co⟩
  have HFN := Lib.hid hfn.2.2
  obtain ⟨old, c1⟩ := hfn.1
  have f1 := hfn.2.1
  have hne1 : ¬ w.heap.size = b := by have := HLT.out; omega
  have hne2 : ¬ w.heap.size + 1 = b := by have := HLT.out; omega
  clear hin hfn hoff
  cases k1 : kd == 3
  · skip
    go_enter Tryz.func52, Tryz.ntmps52
    go_wp2_with fail
    go_ret
    exact ⟨rfl, HFN.out, fun c hcb hc => (Below.heap_setCell _ _ _ _ hcb).trans (HKA.out c hc), HBA.out.setCell (Nat.le_refl _) _⟩
  · by_cases hl : low ≤ nu
    · rw [decide_eq_true hl]
      go_enter Tryz.func52, Tryz.ntmps52
      go_wp2_with fail
      go_ret
      exact ⟨rfl, HFN.out, fun c hcb hc => (Below.heap_setCell _ _ _ _ hcb).trans (HKA.out c hc), HBA.out.setCell (Nat.le_refl _) _⟩
    · rw [decide_eq_false hl]
      go_enter Tryz.func52, Tryz.ntmps52
      go_wp2_with fail
      go_ret
      exact ⟨rfl, HFN.out, fun c hcb hc => (Below.heap_setCell _ _ _ _ hcb).trans (HKA.out c hc), HBA.out.setCell (Nat.le_refl _) _⟩
set_option maxHeartbeats 1000000 in
theorem at_any (t : TokD) (w : World) : Calls Tryz.prog 19 #[.agg #[.int .i64 t.kind, .string (ba t.text), .int .i64 t.num, .int .i64 t.line, .int .i64 t.col]] w fun e w' => e = .returned (.agg #[.int .i64 7, .int .i64 t.line, .int .i64 t.col]) ∧ Below w.heap.size w w' := by
  go_enter Tryz.func19, Tryz.ntmps19
  go_wp2_with fail
  exact bodyPost_ret (results_cell_row rfl _ _ (w.heap.size + 1) _ _ (0, 0) _ rfl (alloc2_new _ _ _) Tryz.underlying30 rfl (by kernel_rfl)) rfl ⟨rfl, ((Below.refl _ _).alloc (Nat.le_refl _) _).alloc (by simp) _⟩
/-- A part that may be. -/
def okF : Fld → Prop
  | .num off _ => off ∈ [4, 5, 6, 7, 8, 9]
  | _ => True
theorem take_any (B b : Nat) (x : Fld) (hx : okF x) (t : TokD) (f : FormU) (fs : List Fld) (w : World) (h : FormAt B b f fs w) (hB : b < B) :
    Calls Tryz.prog 52 #[.agg (fdc b x).toArray, .agg #[.int .i64 t.kind, .string (ba t.text), .int .i64 t.num, .int .i64 t.line, .int .i64 t.col]] w (TakePost B b x t f fs w) := by
  cases x with
  | word wd => exact take_word B b wd t f fs w h
  | name => exact take_name B b t f fs w h hB
  | num off low => exact take_num B b off low hx t f fs w h hB
theorem form_ok (k : Int) : ∀ x ∈ formD k, okF x := by
  unfold formD wordsD
  intro x hx
  have h : ∀ wd, okF (fldOf wd) := fun wd => by
    unfold fldOf
    (repeat' split) <;> first | trivial | (show _ ∈ _; decide)
  obtain ⟨wd, _, rfl⟩ := List.mem_map.1 hx
  exact h wd
end Go.Proofs.YtlclkeihkkpdbaaGreatDoor
