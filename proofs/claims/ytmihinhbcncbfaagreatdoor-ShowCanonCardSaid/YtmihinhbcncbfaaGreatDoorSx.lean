/- A row of numbers in a variable that a closure holds; the walk of sheet.numbers's closure. -/
import Derived.Test.YtmihinhbcncbfaaGreatDoorSn
namespace Go.Proofs.YtmihinhbcncbfaaGreatDoor
open Go.RowKit

theorem info_i64 : (Tryz.prog.info? 2).map (fun i => (i.zero, i.size, i.bytes)) = some (some (.int .i64 0), 1, 8) := by kernel_rfl
theorem ow_form {α : Type} {c : α → List Value} {size base : Nat} {t : TypeId} {v : Value} {l : List α} {w : World} (h : Ow c size w base t v l) : ∃ A n cap, v = .slice A n cap := by
  obtain ⟨A, cap, e, _⟩ := h.shape
  exact ⟨A, _, cap, e⟩
/-- Block p is a variable that holds the row of these numbers, at B or behind. -/
def NV (B p : Nat) (l : List Int) (w : World) : Prop := ∃ v, w.heap[p]? = some (.cells #[v] 36 (0, 0)) ∧ Ow ic 1 w B 2 v l
theorem nv_ne {B p : Nat} {l : List Int} {w : World} {v u : Value} (hp : w.heap[p]? = some (.cells #[u] 36 (0, 0))) (ho : Ow ic 1 w B 2 v l) : v.ownBlock ≠ some p := by
  intro h
  rcases ho.2 with ⟨rfl, _⟩ | ⟨g, cap, cur, rfl, _, hg, _⟩
  · cases h
  · have : g = p := by simpa [Value.ownBlock] using h
    subst this
    rw [hg] at hp
    injection hp with hp
    injection hp with _ h2 _
    exact absurd h2 (by decide)
theorem NV.step {B p : Nat} {l l' : List Int} {w0 w w4 : World} {u v v4 : Value} (hp : w.heap[p]? = some (.cells #[u] 36 (0, 0))) (ho : Ow ic 1 w B 2 v l) (h0 : Below B w0 w) (hBw : B ≤ w.heap.size) (hBp : B ≤ p)
    (hg : w.grownBy w4 v.ownBlock) (ho4 : Ow ic 1 w4 B 2 v4 l') : NV B p l' (w4.setCell ⟨p, 0, none⟩ v4) ∧ Below B w0 (w4.setCell ⟨p, 0, none⟩ v4) := by
  have hlt : p < w.heap.size := (Array.getElem?_eq_some_iff.1 hp).1
  have hp4 : w4.heap[p]? = some (.cells #[u] 36 (0, 0)) := (hg.block p hlt (fun h => nv_ne hp ho h.symm)).trans hp
  have hne := nv_ne hp4 ho4
  refine ⟨⟨v4, ?_, ?_⟩, (h0.grown hg hBw fun k hk => (ho.lt hk).1).setCell (p := ⟨p, 0, none⟩) hBp v4⟩
  · simp [World.setCell, Array.getElem?_modify, hp4]
  · exact Ow.kept (row := some p) ho4 ⟨rfl, rfl, rfl, by simp [World.setCell], fun k _ hk => Below.heap_setCell _ _ _ _ (fun e => hk (by simp [e]))⟩ (.inr hne)
theorem nv_at {p : Nat} {w w4 : World} {u v : Value} {l : List Int} {B : Nat} (hp : w.heap[p]? = some (.cells #[u] 36 (0, 0))) (ho : Ow ic 1 w B 2 v l) (hg : w.grownBy w4 v.ownBlock) : w4.cell? ⟨p, 0, none⟩ = some u ∧ w4.frozen? ⟨p, 0, none⟩ = false := by
  have hlt : p < w.heap.size := (Array.getElem?_eq_some_iff.1 hp).1
  have hp4 : w4.heap[p]? = some (.cells #[u] 36 (0, 0)) := (hg.block p hlt (fun h => nv_ne hp ho h.symm)).trans hp
  exact ⟨by rw [Lib.cell_of_heap hp4]; rfl, Lib.frozen_of_heap hp4 0⟩
theorem NV.below {B B' p : Nat} {l : List Int} {w w' : World} (h : NV B p l w) (hb : Below B' w w') (hB : w.heap.size ≤ B') : NV B p l w' := by
  obtain ⟨v, hp, ho⟩ := h
  refine ⟨v, (hb.block p (Nat.lt_of_lt_of_le (Array.getElem?_eq_some_iff.1 hp).1 hB)).trans hp, Ow.below ho hb fun k hk => Nat.lt_of_lt_of_le (ho.lt hk).2 hB⟩
set_option maxHeartbeats 1000000 in
set_option maxRecDepth 100000 in
theorem times1_any (w : World) (B p : Nat) (t : TimesD) (l : List Int) (h : NV B p l w) (hB : B ≤ w.heap.size) (hBp : B ≤ p) (hl : l.length ≤ 10000000) :
    Calls Tryz.prog 107 #[.agg (tc t).toArray, .pointer (some ⟨p, 0, none⟩)] w fun e w' => e = .returned (.tuple #[]) ∧ NV B p (l ++ timesN t) w' ∧ Below B w w' := by
  obtain ⟨i0, hi0, hz0, hz1, hz2⟩ := info_parts info_i64
  obtain ⟨v, hp, ho⟩ := h
  have hlt : p < w.heap.size := (Array.getElem?_eq_some_iff.1 hp).1
  obtain ⟨w1, hw1⟩ : ∃ w1, w.alloc (.cells (tc t).toArray 33) = w1 := ⟨_, rfl⟩
  have hy0 : w1.cell? ⟨w.heap.size, 0, none⟩ = some (.int .i64 t.start) := by rw [← hw1]; exact Lib.cell_of_heap (heap_alloc_new _ _) 0
  have hy1 : w1.cell? ⟨w.heap.size, 1, none⟩ = some (.int .i64 t.every) := by rw [← hw1]; exact Lib.cell_of_heap (heap_alloc_new _ _) 1
  have hy2 : w1.cell? ⟨w.heap.size, 2, none⟩ = some (.int .i64 t.len) := by rw [← hw1]; exact Lib.cell_of_heap (heap_alloc_new _ _) 2
  have hb1 : Below w.heap.size w w1 := by rw [← hw1]; exact (Below.refl _ _).alloc (Nat.le_refl _) _
  have hp1 : w1.heap[p]? = some (.cells #[v] 36 (0, 0)) := (hb1.block p hlt).trans hp
  have hc1 : w1.cell? ⟨p, 0, none⟩ = some v := by rw [Lib.cell_of_heap hp1]; rfl
  have HO1 := Lib.hid (Ow.below ho hb1 fun q hq => (ho.lt hq).2)
  have HP1 := Lib.hid (fun o : Obj => (Below.heap_alloc w1 o p (by have := hb1.size; omega)).trans hp1)
  have HB1 := Lib.hid (show Below B w w1 from hb1.mono hB)
  have HS1 := Lib.hid (Nat.le_trans hB hb1.size)
  unfold tc at hw1
  clear hb1 hp ho hp1
  unfold tc
  go_enter Tryz.func107, Tryz.ntmps107
  go_wp2_with (at_builtin; refine wpList_append_sl _ rfl _ _ _ rfl B 2 i0 _ 8 Tryz.underlying36 hi0 hz0 hz1 hz2 rfl (by omega) ic_len ic_one _ _ l (timesN t) rfl rfl (HO1.out.alloc _) (Sl.newl (timesN t) ic_len rfl rfl (by show 3 ≤ maxLen; decide) rfl) (by simp only [maxLen, timesN, List.length_cons, List.length_nil]; omega) (by simp only [timesN, List.length_cons, List.length_nil]; omega) (by have := HS1.out; simp; omega) ?_; intro v4 w4 hown4 hg4 hmv4; have hcf := nv_at (HP1.out _) (HO1.out.alloc _) hg4; obtain ⟨hc4, hf4⟩ := hcf; obtain ⟨A4, n4, cp4, ev4⟩ := ow_form hown4; subst ev4)
  have hst := NV.step (HP1.out _) (HO1.out.alloc _) (HB1.out.alloc HS1.out _) (by have := HS1.out; simp; omega) hBp hg4 hown4
  have HST := Lib.hid hst
  go_end0
  exact ⟨rfl, HST.out⟩
end Go.Proofs.YtmihinhbcncbfaaGreatDoor
