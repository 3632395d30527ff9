/- A table of names, as a list; plain laws (nothing of the program). -/
import Derived.Test.YtkagfddkfpeddaaDoorNm
import Derived.Maps.OwnSet
import Derived.Sort.KeysCollected
namespace Go.Proofs.YtkagfddkfpeddaaDoor
open Go Go.Maps

/-- Bytes as a Go string. -/
def ba (x : List UInt8) : ByteArray := ⟨x.toArray⟩
theorem ba_list (x : List UInt8) : (ba x).data.toList = x := by simp [ba]
theorem ba_toList (x : List UInt8) : (ba x).toList = x := by rw [ByteArray.toList_eq, ba_list]
theorem ba_size (x : List UInt8) : (ba x).size = x.length := by rw [← Nm.len_size, ba_list]
theorem ba_of (s : ByteArray) : ba s.data.toList = s := by simp [ba]
theorem ba_inj {x y : List UInt8} (h : ba x = ba y) : x = y := by rw [← ba_list x, h, ba_list]
namespace It
abbrev Nms := List (List UInt8)
/-- A name's number. -/
def num (l : Nms) (x : List UInt8) : Nat := if l.contains x = true then l.idxOf x else 0
theorem num_lt {l : Nms} {x : List UInt8} (h : l.contains x = true) : num l x < l.length := by
  unfold num; rw [if_pos h]; exact List.idxOf_lt_length_of_mem (List.contains_iff_mem.1 h)
theorem num_le (l : Nms) (x : List UInt8) : num l x ≤ l.length := by
  unfold num; split
  · exact List.idxOf_le_length
  · exact Nat.zero_le _
theorem num_at {l : Nms} (hn : l.Nodup) {i : Nat} (hi : i < l.length) : num l l[i] = i := by
  unfold num
  rw [if_pos (List.contains_iff_mem.2 (List.getElem_mem hi))]
  exact List.Nodup.idxOf_getElem hn i hi
theorem num_snoc_new {l : Nms} {x : List UInt8} (h : l.contains x = false) : num (l ++ [x]) x = l.length := by
  have hx : x ∉ l := fun hm => by rw [List.contains_iff_mem.2 hm] at h; cases h
  unfold num
  rw [if_pos (by rw [List.contains_iff_mem]; simp), List.idxOf_append, if_neg hx]
  simp
theorem num_snoc_old {l : Nms} {x y : List UInt8} (hne : y ≠ x) : num (l ++ [x]) y = num l y := by
  unfold num
  have e : (l ++ [x]).contains y = l.contains y := by
    rw [Bool.eq_iff_iff, List.contains_iff_mem, List.contains_iff_mem, List.mem_append, List.mem_singleton]
    exact ⟨fun h => h.resolve_right hne, .inl⟩
  rw [e]
  split
  · rename_i h
    rw [List.idxOf_append, if_pos (List.contains_iff_mem.1 h)]
  · rfl
/-- What Add answers, and leaves. -/
def addE (l : Nms) (x : List UInt8) : Int := if Nm.name x = false then 7 else if l.contains x = true then 6 else if 4096 ≤ l.length then 3 else 0
def addV (l : Nms) (x : List UInt8) : Int := if addE l x = 0 then (l.length : Int) else 0
def addL (l : Nms) (x : List UInt8) : Nms := if addE l x = 0 then l ++ [x] else l
theorem add_name {l : Nms} {x : List UInt8} (h : Nm.name x = false) : addE l x = 7 ∧ addV l x = 0 ∧ addL l x = l := by
  have e : addE l x = 7 := by unfold addE; rw [if_pos h]
  refine ⟨e, ?_, ?_⟩
  · unfold addV; rw [e, if_neg (by decide)]
  · unfold addL; rw [e, if_neg (by decide)]
theorem add_there {l : Nms} {x : List UInt8} (h : Nm.name x = true) (h2 : l.contains x = true) : addE l x = 6 ∧ addV l x = 0 ∧ addL l x = l := by
  have e : addE l x = 6 := by unfold addE; rw [if_neg (by rw [h]; decide), if_pos h2]
  refine ⟨e, ?_, ?_⟩
  · unfold addV; rw [e, if_neg (by decide)]
  · unfold addL; rw [e, if_neg (by decide)]
theorem add_long {l : Nms} {x : List UInt8} (h : Nm.name x = true) (h2 : l.contains x = false) (h3 : 4096 ≤ l.length) : addE l x = 3 ∧ addV l x = 0 ∧ addL l x = l := by
  have e : addE l x = 3 := by unfold addE; rw [if_neg (by rw [h]; decide), if_neg (by rw [h2]; decide), if_pos h3]
  refine ⟨e, ?_, ?_⟩
  · unfold addV; rw [e, if_neg (by decide)]
  · unfold addL; rw [e, if_neg (by decide)]
theorem add_ok {l : Nms} {x : List UInt8} (h : Nm.name x = true) (h2 : l.contains x = false) (h3 : l.length < 4096) : addE l x = 0 ∧ addV l x = (l.length : Int) ∧ addL l x = l ++ [x] := by
  have e : addE l x = 0 := by unfold addE; rw [if_neg (by rw [h]; decide), if_neg (by rw [h2]; decide), if_neg (by omega)]
  refine ⟨e, ?_, ?_⟩
  · unfold addV; rw [e, if_pos rfl]
  · unfold addL; rw [e, if_pos rfl]
theorem add_cases (l : Nms) (x : List UInt8) : Nm.name x = false ∨ (Nm.name x = true ∧ l.contains x = true) ∨ (Nm.name x = true ∧ l.contains x = false ∧ 4096 ≤ l.length) ∨ (Nm.name x = true ∧ l.contains x = false ∧ l.length < 4096) := by
  cases Nm.name x
  · exact .inl rfl
  · cases l.contains x
    · rcases Nat.lt_or_ge l.length 4096 with h | h
      · exact .inr (.inr (.inr ⟨rfl, rfl, h⟩))
      · exact .inr (.inr (.inl ⟨rfl, rfl, h⟩))
    · exact .inr (.inl ⟨rfl, rfl⟩)
/-- What a table may hold. -/
structure Ok (l : Nms) : Prop where
  nd : l.Nodup
  nm : ∀ x ∈ l, Nm.name x = true
  le : l.length ≤ 4096
theorem Ok.nil_ : Ok [] := ⟨List.nodup_nil, (fun x h => by cases h), Nat.zero_le _⟩
theorem Ok.add {l : Nms} (h : Ok l) (x : List UInt8) : Ok (addL l x) := by
  rcases add_cases l x with h1 | ⟨h1, h2⟩ | ⟨h1, h2, h3⟩ | ⟨h1, h2, h3⟩
  · rw [(add_name h1).2.2]; exact h
  · rw [(add_there h1 h2).2.2]; exact h
  · rw [(add_long h1 h2 h3).2.2]; exact h
  · rw [(add_ok h1 h2 h3).2.2]
    have hx : x ∉ l := fun hm => by rw [List.contains_iff_mem.2 hm] at h2; cases h2
    refine ⟨?_, fun y hy => ?_, by rw [List.length_append]; exact h3⟩
    · rw [List.nodup_append]
      exact ⟨h.nd, by simp, fun a ha b hb => by rw [List.mem_singleton] at hb; subst hb; exact fun e => hx (e ▸ ha)⟩
    · rw [List.mem_append, List.mem_singleton] at hy
      rcases hy with hy | rfl
      · exact h.nm y hy
      · exact h1
/-- New: the first error, and all names till there. -/
def newE : Nms → Nms → Int
  | _, [] => 0
  | l, x :: r => if addE l x = 0 then newE (l ++ [x]) r else addE l x
def newL (l r : Nms) : Nms := r.foldl addL l
theorem newE_cons_ok {l r : Nms} {x : List UInt8} (h : addE l x = 0) : newE l (x :: r) = newE (addL l x) r := by
  rw [newE, if_pos h]; unfold addL; rw [if_pos h]
theorem newE_cons_bad {l r : Nms} {x : List UInt8} (h : addE l x ≠ 0) : newE l (x :: r) = addE l x := by
  rw [newE, if_neg h]
theorem Ok.fold {l : Nms} (h : Ok l) (r : Nms) : Ok (newL l r) := by
  induction r generalizing l with
  | nil => exact h
  | cons x r ih => exact ih (h.add x)

/-- The datum of the map from names to numbers. -/
def MapOf (D : DataW Unit) (l : Nms) : Prop := Tidy D ∧ (∀ x, Maps.has D (.string x) = l.contains x) ∧ ∀ x, D.atKey (.string x) (.lit (.int .i64 0)) = .lit (.int .i64 (num l x : Nat))
theorem MapOf.nil_ : MapOf (.map []) [] := ⟨tidy_empty, fun _ => rfl, fun _ => rfl⟩
theorem MapOf.put {D : DataW Unit} {l : Nms} {x : List UInt8} (h : MapOf D l) (hx : l.contains x = false) : MapOf (D.put (.string x) (.lit (.int .i64 (l.length : Nat)))) (l ++ [x]) := by
  refine ⟨h.1.put (by trivial) _, fun y => ?_, fun y => ?_⟩
  · by_cases hy : y = x
    · subst hy
      rw [has_put_same h.1.isMap (by trivial), eq_comm, List.contains_iff_mem]; simp
    · rw [has_put_other (fun e => hy (by injection e)), h.2.1 y, Bool.eq_iff_iff, List.contains_iff_mem, List.contains_iff_mem, List.mem_append, List.mem_singleton]
      exact ⟨.inl, fun h => h.resolve_right hy⟩
  · by_cases hy : y = x
    · subst hy
      rw [atKey_put_same h.1.isMap (by trivial), num_snoc_new hx]
    · rw [atKey_put_other (fun e => hy (by injection e)), h.2.2 y, num_snoc_old hy]
end It
end Go.Proofs.YtkagfddkfpeddaaDoor
