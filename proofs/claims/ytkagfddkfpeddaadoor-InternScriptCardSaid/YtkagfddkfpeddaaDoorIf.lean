/- Two tables side by side; what is in a table after many names (plain). -/
import Derived.Test.YtkagfddkfpeddaaDoorIe
import Derived.Test.YtkagfddkfpeddaaDoorPk
namespace Go.Proofs.YtkagfddkfpeddaaDoor
open Go.RowKit Go.Maps It

namespace It
theorem newL_le (r l : Nms) : (newL l r).length ≤ l.length + r.length := by
  induction r generalizing l with
  | nil => simp [newL]
  | cons x r ih =>
    show (newL (addL l x) r).length ≤ _
    have h1 := ih (addL l x)
    have h2 : (addL l x).length ≤ l.length + 1 := by unfold addL; split <;> simp
    simp only [List.length_cons]; omega
theorem newL_snoc (r l : Nms) (x : List UInt8) : newL l (r ++ [x]) = addL (newL l r) x := by unfold newL; rw [List.foldl_append]; rfl
theorem mem_addL {l : Nms} {x y : List UInt8} (h : l.length < 4096) : y ∈ addL l x ↔ y ∈ l ∨ (y = x ∧ Nm.name x = true) := by
  rcases add_cases l x with h1 | ⟨h1, h2⟩ | ⟨h1, h2, h3⟩ | ⟨h1, h2, h3⟩
  · rw [(add_name h1).2.2]; simp [h1]
  · rw [(add_there h1 h2).2.2]
    rw [List.contains_iff_mem] at h2
    exact ⟨.inl, fun h => h.elim id fun ⟨e, _⟩ => e ▸ h2⟩
  · omega
  · rw [(add_ok h1 h2 h3).2.2, List.mem_append, List.mem_singleton]; simp [h1]
/-- What is in a table after the names r: those of them that are names. -/
theorem mem_newL {r : Nms} : ∀ {l : Nms}, l.length + r.length ≤ 4096 → ∀ y, y ∈ newL l r ↔ y ∈ l ∨ (y ∈ r ∧ Nm.name y = true) := by
  induction r with
  | nil => intro l _ y; simp [newL]
  | cons x r ih =>
    intro l h y
    simp only [List.length_cons] at h
    have hl2 : (addL l x).length ≤ l.length + 1 := by unfold addL; split <;> simp
    show y ∈ newL (addL l x) r ↔ _
    rw [ih (by omega) y, mem_addL (by omega), List.mem_cons]
    constructor
    · rintro ((h | ⟨rfl, h⟩) | ⟨h1, h2⟩)
      · exact .inl h
      · exact .inr ⟨.inl rfl, h⟩
      · exact .inr ⟨.inr h1, h2⟩
    · rintro (h | ⟨rfl | h1, h2⟩)
      · exact .inl (.inl h)
      · exact .inl (.inr ⟨rfl, h2⟩)
      · exact .inr ⟨h1, h2⟩
theorem perm_newL {r r' : Nms} (h : r.length ≤ 4096) (h' : r'.length ≤ 4096) (hm : ∀ x, x ∈ r ↔ x ∈ r') : (newL [] r).Perm (newL [] r') :=
  (List.perm_ext_iff_of_nodup (Ok.nil_.fold r).nd (Ok.nil_.fold r').nd).2 fun x => by
    rw [mem_newL (by simpa using h), mem_newL (by simpa using h'), hm x]
theorem contains_perm {l l' : Nms} (h : l.Perm l') (x : List UInt8) : l.contains x = l'.contains x := by
  rw [Bool.eq_iff_iff, List.contains_iff_mem, List.contains_iff_mem, h.mem_iff]
/-- The first k of the names, turned about by some places. -/
def rot (l : Nms) (by_ k : Nat) : Nms := (List.range k).map fun i => l.getD ((i + by_) % l.length) []
theorem rot_succ (l : Nms) (by_ k : Nat) : rot l by_ (k + 1) = rot l by_ k ++ [l.getD ((k + by_) % l.length) []] := by
  unfold rot; rw [List.range_succ, List.map_append]; rfl
theorem rot_len (l : Nms) (by_ k : Nat) : (rot l by_ k).length = k := by simp [rot]
theorem mem_rot (l : Nms) (by_ : Nat) (x : List UInt8) : x ∈ rot l by_ l.length ↔ x ∈ l := by
  unfold rot
  rw [List.mem_map]
  constructor
  · rintro ⟨i, hi, rfl⟩
    rw [List.mem_range] at hi
    have hlt : (i + by_) % l.length < l.length := Nat.mod_lt _ (by omega)
    rw [List.getD_eq_getElem?_getD, List.getElem?_eq_getElem hlt]
    exact List.getElem_mem hlt
  · intro hx
    obtain ⟨j, hj, rfl⟩ := List.getElem_of_mem hx
    refine ⟨(j + (l.length - by_ % l.length)) % l.length, List.mem_range.2 (Nat.mod_lt _ (by omega)), ?_⟩
    have hb : by_ % l.length < l.length := Nat.mod_lt _ (by omega)
    have e : ((j + (l.length - by_ % l.length)) % l.length + by_) % l.length = j := by
      rw [Nat.add_mod, Nat.mod_mod, ← Nat.add_mod, Nat.add_mod _ by_]
      have h1 : (j + (l.length - by_ % l.length)) % l.length + by_ % l.length = j ∨ (j + (l.length - by_ % l.length)) % l.length + by_ % l.length = j + l.length := by
        by_cases h : j + (l.length - by_ % l.length) < l.length
        · right; rw [Nat.mod_eq_of_lt h]; omega
        · left; rw [Nat.mod_eq_sub_mod (by omega), Nat.mod_eq_of_lt (by omega)]; omega
      rcases h1 with h1 | h1
      · rw [h1, Nat.mod_eq_of_lt hj]
      · rw [h1, Nat.add_mod_right, Nat.mod_eq_of_lt hj]
    rw [e, List.getD_eq_getElem?_getD, List.getElem?_eq_getElem hj]; rfl
end It

/-- A slice of names that is not empty: its address, and its cells. -/
theorem Sl.addr {w : World} {A : Option Addr} {n cap : Nat} {l : Nms} {P : Nat → Prop} (h : Sl nc 1 w (.slice A n cap) l P) {i : Nat} (hi : i < l.length) : ∃ b off, A = some ⟨b, off, none⟩ := by
  obtain ⟨b', off', c, e, _⟩ := h.at_ hi
  injection e with e
  exact ⟨b', off', e⟩
theorem Sl.name {w : World} {b off n cap : Nat} {l : Nms} {P : Nat → Prop} (h : Sl nc 1 w (.slice (some ⟨b, off, none⟩) n cap) l P) {i : Nat} (hi : i < l.length) : w.cell? ⟨b, off + i, none⟩ = some (.string (ba l[i])) := by
  obtain ⟨b', off', c, e, _, _, _, _, h5⟩ := h.at_ hi
  injection e with e
  injection e with e
  injection e with e1 e2
  subst e1 e2
  simpa using h5 0 _ rfl
/-- Two tables, no block in common. -/
structure Two (w : World) (B pa ba : Nat) (va : Value) (la : Nms) (pb bb : Nat) (vb : Value) (lb : Nms) : Prop where
  a : Tbl w B pa ba va la
  b : Tbl w B pb bb vb lb
  ap : ∀ k, Tbl.In pa ba va k → ¬ Tbl.In pb bb vb k
theorem Tbl.lower {w : World} {B B' p b : Nat} {v : Value} {l : Nms} (h : Tbl w B p b v l) (hb : B' ≤ B) : Tbl w B' p b v l :=
  { h with row := h.row.lower hb, bp := Nat.le_trans hb h.bp, bb := Nat.le_trans hb h.bb }
section
variable {w w' : World} {B pa ba : Nat} {va : Value} {la : Nms} {pb bb : Nat} {vb : Value} {lb : Nms}
theorem Two.swap (h : Two w B pa ba va la pb bb vb lb) : Two w B pb bb vb lb pa ba va la := ⟨h.b, h.a, fun k h1 h2 => h.ap k h2 h1⟩
theorem Two.below_ (h : Two w B pa ba va la pb bb vb lb) (hb : Below w.heap.size w w') : Two w' B pa ba va la pb bb vb lb := ⟨h.a.below_ hb, h.b.below_ hb, h.ap⟩
theorem Two.drewN (h : Two w B pa ba va la pb bb vb lb) (n : Nat) : Two (w.drewN n) B pa ba va la pb bb vb lb := ⟨h.a.drewN n, h.b.drewN n, h.ap⟩
/-- A table that was there, and a new one. -/
theorem Two.start {B' : Nat} (ha : Tbl w B pa ba va la) (hb : Below w.heap.size w w') (hn : Tbl w' B' pb bb vb lb) (hB : w.heap.size ≤ B') : Two w' B pa ba va la pb bb vb lb :=
  ⟨ha.below_ hb, hn.lower (Nat.le_trans (Nat.le_trans ha.bp (Nat.le_of_lt ha.lt)) hB), fun k h1 h2 => by have := (ha.in_lt h1).2; have := (hn.in_lt h2).1; omega⟩
/-- Add at the first one. -/
theorem Two.addA {x : List UInt8} {e : Ending} (h : Two w B pa ba va la pb bb vb lb) (hA : Added w B pa ba va la x e w') :
    ∃ va', e = .returned (.tuple #[.int .i64 (addV la x), .int .i64 (addE la x)]) ∧ Two w' B pa ba va' (addL la x) pb bb vb lb := by
  obtain ⟨va', he, ht, hs, hk, hv, _⟩ := hA
  refine ⟨va', he, ht, h.b.keep fun k hk1 hk2 => hk k hk1 fun h1 => h.ap k h1 hk2, fun k h1 h2 => ?_⟩
  have hlt := (h.b.in_lt h2).2
  rcases h1 with h1 | h1 | h1
  · exact h.ap k (.inl h1) h2
  · exact h.ap k (.inr (.inl h1)) h2
  · rcases hv with rfl | hv | ⟨g, hg, hge⟩
    · exact h.ap k (.inr (.inr h1)) h2
    · exact h.ap k (.inr (.inr (by rw [← hv]; exact h1))) h2
    · rw [hg] at h1; injection h1 with h1; omega
end
end Go.Proofs.YtkagfddkfpeddaaDoor
