/- Small words on slices (nothing of the program). -/
import Derived.Test.YtmihinhbcncbfaaGreatDoorSl
namespace Go.Proofs.YtmihinhbcncbfaaGreatDoor
open Go.RowKit
theorem Sl.at_ {α : Type} {c : α → List Value} {size : Nat} {w : World} {v : Value} {l : List α} {P : Nat → Prop} (h : Sl c size w v l P) {i : Nat} (hi : i < l.length) :
    ∃ b off cap, v = .slice (some ⟨b, off, none⟩) l.length cap ∧ l.length ≤ cap ∧ cap ≤ maxLen ∧ b < w.heap.size ∧ P b ∧ ∀ j u, (c l[i])[j]? = some u → w.cell? ⟨b, off + i * size + j, none⟩ = some u := by
  obtain ⟨b, off, cap, e, h1, h2, h3, h4, h5⟩ := h.form (by omega)
  exact ⟨b, off, cap, e, h1, h2, h3, h4, fun j u hu => h5 i l[i] (List.getElem?_eq_getElem hi) j u hu⟩
theorem Below.lift {a b c : World} (h : Below a.heap.size a b) (k : Below b.heap.size b c) : Below a.heap.size a c := h.trans (k.mono h.size)
def Quiet (v : Value) (w : World) (e : Ending) (w' : World) : Prop := e = .returned v ∧ ∃ n, w' = w.drewN n
theorem take_succ_eq {α : Type} (l : List α) (k : Nat) (h : k < l.length) : l.take (k + 1) = l.take k ++ [l[k]] := by rw [List.take_succ_eq_append_getElem h]
def SameRel {α : Type} (la lb : List α) (w : World) (s : Value) (wr : World) : Prop := ∃ k n : Nat, k ≤ la.length ∧ s = .int .i64 k ∧ la.take k = lb.take k ∧ wr = w.drewN n
theorem same_ne {α : Type} {la lb : List α} {k : Nat} (h1 : k < la.length) (h2 : k < lb.length) (h : la[k] ≠ lb[k]) : la ≠ lb := by
  rintro rfl
  exact h rfl
theorem same_eq {α : Type} {la lb : List α} (hl : la.length = lb.length) (h : la.take la.length = lb.take la.length) : la = lb := by
  rw [List.take_of_length_le (Nat.le_refl _), List.take_of_length_le (by omega)] at h
  exact h
theorem same_step {α : Type} {la lb : List α} {k : Nat} (h1 : k < la.length) (h2 : k < lb.length) (h : la.take k = lb.take k) (he : la[k] = lb[k]) : la.take (k + 1) = lb.take (k + 1) := by
  rw [take_succ_eq la k h1, take_succ_eq lb k h2, h, he]

end Go.Proofs.YtmihinhbcncbfaaGreatDoor
