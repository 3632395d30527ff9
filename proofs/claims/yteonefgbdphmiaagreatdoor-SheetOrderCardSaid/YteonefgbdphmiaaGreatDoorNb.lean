/- Names: plain functions on bytes (nothing of the program). -/
import Derived.Lib.Fields
import Derived.Lib.Slices
import Derived.Lib.Strings
import Derived.Lib.Hide
import Derived.WalkKit
import Derived.Deep.AppendLies
import Derived.Deep.Draws
import Derived.Maps.AppendAt
import Derived.Test.YteonefgbdphmiaaGreatDoorChecked
import Derived.Test.YteonefgbdphmiaaGreatDoorShelf
namespace Go.Proofs.YteonefgbdphmiaaGreatDoor.Nm
open Go

def low (c : UInt8) : Bool := decide (97 ≤ c.toNat ∧ c.toNat ≤ 122)
def dig (c : UInt8) : Bool := decide (48 ≤ c.toNat ∧ c.toNat ≤ 57)
def joinB (c : UInt8) : Bool := decide (c.toNat = 45 ∨ c.toNat = 95)
def more (c : UInt8) : Bool := low c || dig c || joinB c
/-- A byte's class. -/
def cls (c : UInt8) : Int := if low c = true then 1 else if dig c = true then 2 else if joinB c = true then 3 else 0
theorem cls_more (c : UInt8) : (cls c != 0) = more c := by
  unfold cls more
  cases low c <;> cases dig c <;> cases joinB c <;> rfl
theorem cls_low (c : UInt8) : (cls c != 1) = !low c := by
  unfold cls
  cases low c <;> cases dig c <;> cases joinB c <;> rfl
theorem cls_dig (c : UInt8) : (cls c == 2) = dig c := by
  unfold cls
  have : low c = true → dig c = false := by
    unfold low dig; intro h; rw [decide_eq_true_eq] at h; exact decide_eq_false (by omega)
  cases h : low c
  · cases dig c <;> cases joinB c <;> rfl
  · rw [this h]; rfl
/-- The reserved words. -/
def resW : List (List UInt8) := [[104, 111, 114, 105, 122, 111, 110], [115, 116, 111, 112], [112, 97, 116, 104], [100, 111, 111, 114], [114, 111, 117, 116, 101], [116, 114, 105, 112], [104, 97, 122, 97, 114, 100], [102, 114, 111, 109], [101, 118, 101, 114, 121], [111, 112, 101, 110], [99, 108, 111, 115, 101, 100], [111, 102], [111, 110], [117, 110, 116, 105, 108], [115, 116, 97, 121]]
def resT : List UInt8 := [104, 111, 114, 105, 122, 111, 110, 32, 115, 116, 111, 112, 32, 112, 97, 116, 104, 32, 100, 111, 111, 114, 32, 114, 111, 117, 116, 101, 32, 116, 114, 105, 112, 32, 104, 97, 122, 97, 114, 100, 32, 102, 114, 111, 109, 32, 101, 118, 101, 114, 121, 32, 111, 112, 101, 110, 32, 99, 108, 111, 115, 101, 100, 32, 111, 102, 32, 111, 110, 32, 117, 110, 116, 105, 108, 32, 115, 116, 97, 121]
theorem fields_res : Lib.fields resT = resW := by decide +kernel
/-- Do all bytes go on a word? -/
def tailB (l : List UInt8) : Bool := l.all more
def res (l : List UInt8) : Bool := resW.contains l
def word (l : List UInt8) : Bool := decide (0 < l.length) && decide (l.length ≤ 24) && low (l.headD 0) && l.all more
def name (l : List UInt8) : Bool := word l && !res l
theorem word_len {l : List UInt8} (h : word l = true) : 0 < l.length ∧ l.length ≤ 24 := by
  unfold word at h
  simp only [Bool.and_eq_true, decide_eq_true_eq] at h
  exact ⟨h.1.1.1, h.1.1.2⟩
theorem name_len {l : List UInt8} (h : name l = true) : 0 < l.length ∧ l.length ≤ 24 := by
  unfold name at h
  rw [Bool.and_eq_true] at h
  exact word_len h.1
/-- How many bytes from the first on have p. -/
def pre (p : UInt8 → Bool) (l : List UInt8) : Nat := (l.takeWhile p).length
theorem pre_le (p : UInt8 → Bool) (l : List UInt8) : pre p l ≤ l.length := by
  unfold pre; exact (List.takeWhile_prefix p).length_le
theorem pre_all (p : UInt8 → Bool) (l : List UInt8) : (pre p l = l.length) ↔ l.all p = true := by
  unfold pre
  induction l with
  | nil => simp
  | cons a l ih =>
    rw [List.takeWhile_cons]
    cases h : p a
    · simp [h]
    · simp [h, ih]
theorem pre_stop (p : UInt8 → Bool) (l : List UInt8) (k : Nat) (hk : k < l.length) (h1 : ∀ j (hj : j < k), p (l[j]'(by omega)) = true) (h2 : p l[k] = false) : pre p l = k := by
  unfold pre
  induction l generalizing k with
  | nil => simp at hk
  | cons a l ih =>
    match k with
    | 0 => rw [List.takeWhile_cons, show p a = false from h2]; rfl
    | k + 1 =>
      have ha : p a = true := h1 0 (by omega)
      rw [List.takeWhile_cons, ha]
      simp only [if_true, List.length_cons]
      rw [ih k (by simpa using hk) (fun j hj => h1 (j + 1) (by omega)) h2]
theorem pre_end (p : UInt8 → Bool) (l : List UInt8) (h1 : ∀ j (hj : j < l.length), p l[j] = true) : pre p l = l.length := by
  rw [pre_all, List.all_eq_true]
  intro x hx
  obtain ⟨j, hj, rfl⟩ := List.getElem_of_mem hx
  exact h1 j hj
theorem len_size (s : ByteArray) : s.data.toList.length = s.size := by simp
theorem byte_at (s : ByteArray) {k : Nat} (h : k < s.size) : s.data.toList[k]'(by simpa using h) = s[k] := rfl
theorem head_at (s : ByteArray) (h : 0 < s.size) : s.data.toList.headD 0 = s[0] := by
  have : s.data.toList.head? = some s[0] := by rw [List.head?_eq_getElem?]; simp [h]; rfl
  rw [List.headD_eq_head?_getD, this]; rfl
theorem all_of (s : ByteArray) (p : UInt8 → Bool) (h1 : ∀ j (hj : j < s.size), p s[j] = true) : s.data.toList.all p = true := by
  rw [List.all_eq_true]
  intro x hx
  obtain ⟨j, hj, rfl⟩ := List.getElem_of_mem hx
  exact h1 j (by simpa using hj)
theorem all_no (s : ByteArray) (p : UInt8 → Bool) {k : Nat} (hk : k < s.size) (h : p s[k] = false) : s.data.toList.all p = false := by
  rw [List.all_eq_false]
  exact ⟨s[k], List.mem_iff_getElem.2 ⟨k, by simpa using hk, rfl⟩, by rw [h]; simp⟩
end Go.Proofs.YteonefgbdphmiaaGreatDoor.Nm
/- Slices that read as lists, and rows of the call's own that hold lists: words for memory, and what keeps them (nothing of the program). -/
namespace Go.Proofs.YteonefgbdphmiaaGreatDoor
open Go.RowKit

section
variable {α : Type} {c : α → List Value} {size : Nat} {w w' : World} {v : Value} {l : List α} {P P' : Nat → Prop}

/-- The slice value v reads as the list l (each element x as the cells c x, size of them), in a block that has P. -/
def Sl (c : α → List Value) (size : Nat) (w : World) (v : Value) (l : List α) (P : Nat → Prop) : Prop :=
  ∃ A cap, v = .slice A l.length cap ∧ l.length ≤ cap ∧ cap ≤ maxLen ∧
    (0 < l.length → ∃ b off, A = some ⟨b, off, none⟩ ∧ b < w.heap.size ∧ P b ∧
      ∀ i x, l[i]? = some x → ∀ j u, (c x)[j]? = some u → w.cell? ⟨b, off + i * size + j, none⟩ = some u)

theorem Sl.nil_ : Sl c size w (.slice none 0 0) [] P := ⟨none, 0, rfl, Nat.le_refl _, Nat.zero_le _, fun h => absurd h (by simp)⟩
theorem Sl.mono (h : Sl c size w v l P) (hp : ∀ b, P b → P' b) : Sl c size w v l P' := by
  obtain ⟨A, cap, e, h1, h2, h3⟩ := h
  refine ⟨A, cap, e, h1, h2, fun hn => ?_⟩
  obtain ⟨b, off, ea, hb, hP, hc⟩ := h3 hn
  exact ⟨b, off, ea, hb, hp b hP, hc⟩
/-- It reads the same where its blocks are as they were. -/
theorem Sl.keep (h : Sl c size w v l P) (hs : w.heap.size ≤ w'.heap.size) (hk : ∀ b, b < w.heap.size → P b → w'.heap[b]? = w.heap[b]?) : Sl c size w' v l P := by
  obtain ⟨A, cap, e, h1, h2, h3⟩ := h
  refine ⟨A, cap, e, h1, h2, fun hn => ?_⟩
  obtain ⟨b, off, ea, hb, hP, hc⟩ := h3 hn
  exact ⟨b, off, ea, by omega, hP, fun i x hx j u hu => (World.cell?_of_block (a := ⟨b, _, none⟩) (hk b hb hP)).trans (hc i x hx j u hu)⟩
theorem Sl.drewN (h : Sl c size w v l P) (n : Nat) : Sl c size (w.drewN n) v l P := h
theorem Sl.drew (h : Sl c size w v l P) : Sl c size w.drew v l P := h
theorem Sl.grown (h : Sl c size w v l P) {row : Option Nat} (hg : w.grownBy w' row) (hr : ∀ b, P b → some b ≠ row) : Sl c size w' v l P :=
  h.keep hg.size fun b hb hP => hg.block b hb (hr b hP)
theorem Sl.below (h : Sl c size w v l P) {B : Nat} (hb : Below B w w') (hP : ∀ b, P b → b < B) : Sl c size w' v l P :=
  h.keep hb.size fun b _ hp => hb.block b (hP b hp)
theorem Sl.below_ (h : Sl c size w v l P) (hb : Below w.heap.size w w') : Sl c size w' v l P :=
  h.keep hb.size fun b h1 _ => hb.block b h1
theorem Sl.alloc (h : Sl c size w v l P) (o : Obj) : Sl c size (w.alloc o) v l P :=
  h.keep (by simp) fun b hb _ => Below.heap_alloc w o b hb
theorem Sl.shape (h : Sl c size w v l P) : ∃ A cap, v = .slice A l.length cap ∧ l.length ≤ cap ∧ cap ≤ maxLen := by
  obtain ⟨A, cap, e, h1, h2, _⟩ := h
  exact ⟨A, cap, e, h1, h2⟩
/-- The form of a slice that is not empty. -/
theorem Sl.form (h : Sl c size w v l P) (hn : 0 < l.length) : ∃ b off cap, v = .slice (some ⟨b, off, none⟩) l.length cap ∧ l.length ≤ cap ∧ cap ≤ maxLen ∧ b < w.heap.size ∧ P b ∧
    ∀ i x, l[i]? = some x → ∀ j u, (c x)[j]? = some u → w.cell? ⟨b, off + i * size + j, none⟩ = some u := by
  obtain ⟨A, cap, e, h1, h2, h3⟩ := h
  obtain ⟨b, off, rfl, hb, hP, hc⟩ := h3 hn
  exact ⟨b, off, cap, e, h1, h2, hb, hP, hc⟩
/-- A part of it, from element i on up to element j. -/
theorem Sl.part {A A' : Option Addr} {n cap cap' i j : Nat} (h : Sl c size w (.slice A n cap) l P) (hi : i ≤ j) (hj : j ≤ l.length)
    (hA : i < j → A' = A.map (·.add (i * size))) (hc1 : j - i ≤ cap') (hc2 : cap' ≤ maxLen) : Sl c size w (.slice A' (j - i) cap') ((l.take j).drop i) P := by
  obtain ⟨A0, cap0, e, h1, h2, h3⟩ := h
  have hl : ((l.take j).drop i).length = j - i := by rw [List.length_drop, List.length_take, Nat.min_eq_left hj]
  injection e with e1 e2 e3
  subst e1
  refine ⟨A', cap', by rw [hl], by rw [hl]; exact hc1, hc2, fun hn => ?_⟩
  rw [hl] at hn
  obtain ⟨b, off, rfl, hb, hP, hc⟩ := h3 (by omega)
  refine ⟨b, off + i * size, ?_, hb, hP, fun k x hx q u hu => ?_⟩
  · rw [hA (by omega)]
    by_cases h0 : i * size = 0
    · simp [Addr.add, h0]
    · simp [Addr.add, h0]
  · rw [List.getElem?_drop, List.getElem?_take] at hx
    split at hx
    · have := hc (i + k) x hx q u hu
      rw [show off + i * size + k * size + q = off + (i + k) * size + q from by rw [Nat.add_mul]; omega]
      exact this
    · cases hx

/-- s[i:j], as the walk writes it. -/
theorem Sl.cut {A : Option Addr} {n m cap i j : Nat} (h : Sl c size w (.slice A n cap) l P) (hi : i ≤ j) (hj : j ≤ l.length) (hm : m = j - i) :
    Sl c size w (.slice (if cap = i then A else A.map (fun x => x.add (i * size))) m (cap - i)) ((l.take j).drop i) P := by
  subst hm
  obtain ⟨A', cap', e, h1, h2⟩ := h.shape
  injection e with e1 e2 e3
  refine Sl.part h hi hj (fun hlt => if_neg (by omega)) (by omega) (Nat.le_trans (Nat.sub_le _ _) (by rw [e3]; exact h2))

/-- The row that v owns holds the list l. -/
def Ow (c : α → List Value) (size : Nat) (w : World) (base : Nat) (e : TypeId) (v : Value) (l : List α) : Prop := w.ownsRow base e size v l.length (l.flatMap c)

theorem flat_at (hc : ∀ a, (c a).length = size) (l : List α) (i : Nat) (x : α) (hx : l[i]? = some x) (j : Nat) (u : Value) (hu : (c x)[j]? = some u) : (l.flatMap c)[i * size + j]? = some u := by
  induction l generalizing i with
  | nil => simp at hx
  | cons a l ih =>
    rw [List.flatMap_cons]
    match i, hx with
    | 0, hx =>
      simp at hx
      subst hx
      rw [List.getElem?_append_left (by have := (List.getElem?_eq_some_iff.1 hu).1; omega)]
      simpa using hu
    | i + 1, hx =>
      have h1 := ih i (by simpa using hx)
      rw [List.getElem?_append_right (by rw [hc, Nat.add_mul]; omega), hc]
      rw [show (i + 1) * size + j - size = i * size + j from by rw [Nat.add_mul]; omega]
      exact h1
theorem flat_length (hc : ∀ a, (c a).length = size) (l : List α) : (l.flatMap c).length = l.length * size := by
  induction l with
  | nil => simp
  | cons a l ih => rw [List.flatMap_cons, List.length_append, hc, ih, List.length_cons, Nat.add_mul]; omega

/-- What a row of one's own reads as. -/
theorem Ow.sl {base : Nat} {e : TypeId} (hc : ∀ a, (c a).length = size) (h : Ow c size w base e v l) : Sl c size w v l (fun b => v.ownBlock = some b ∧ base ≤ b) := by
  rcases h.2 with ⟨rfl, h0⟩ | ⟨g, cap, cur, rfl, hb, hg, hn, hm, hs, ht⟩
  · have : l = [] := List.eq_nil_of_length_eq_zero h0
    subst this
    exact Sl.nil_
  · refine ⟨_, cap, rfl, hn, hm, fun hp => ⟨g, 0, rfl, (Array.getElem?_eq_some_iff.1 hg).1, ⟨rfl, hb⟩, fun i x hx j u hu => ?_⟩⟩
    have := World.ownsRow.cells h (g := g) rfl (i * size + j) u (flat_at hc l i x hx j u hu)
    rw [Addr.add] at this
    split at this
    · rename_i h0
      simpa [h0] using this
    · simpa using this
theorem Ow.lower {base base' : Nat} {e : TypeId} (h : Ow c size w base e v l) (hb : base' ≤ base) : Ow c size w base' e v l := by
  refine ⟨h.1, ?_⟩
  rcases h.2 with h0 | ⟨g, cap, cur, e1, h1, h2⟩
  · exact .inl h0
  · exact .inr ⟨g, cap, cur, e1, Nat.le_trans hb h1, h2⟩
theorem Ow.drewN {base : Nat} {e : TypeId} (h : Ow c size w base e v l) (n : Nat) : Ow c size (w.drewN n) base e v l := h
theorem Ow.drew {base : Nat} {e : TypeId} (h : Ow c size w base e v l) : Ow c size w.drew base e v l := h
theorem Ow.alloc {base : Nat} {e : TypeId} (h : Ow c size w base e v l) (o : Obj) : Ow c size (w.alloc o) base e v l := World.ownsRow.alloc h o
theorem Ow.nil_ {base : Nat} {e : TypeId} : Ow c size w base e (.slice none 0 0) ([] : List α) := World.ownsRow_nil _ _ _ _
theorem Ow.lt {base : Nat} {e : TypeId} (h : Ow c size w base e v l) {k : Nat} (hk : v.ownBlock = some k) : base ≤ k ∧ k < w.heap.size := World.ownsRow.lt h k hk
theorem Ow.kept {base : Nat} {e : TypeId} (h : Ow c size w base e v l) {row : Option Nat} (hg : w.grownBy w' row) (hne : v.ownBlock = none ∨ v.ownBlock ≠ row) : Ow c size w' base e v l := World.ownsRow.kept h hg hne
theorem Ow.below {base B : Nat} {e : TypeId} (h : Ow c size w base e v l) (hb : Below B w w') (hlt : ∀ k, v.ownBlock = some k → k < B) : Ow c size w' base e v l := by
  refine ⟨h.1, ?_⟩
  rcases h.2 with h0 | ⟨g, cap, cur, rfl, h1, h2, h3⟩
  · exact .inl h0
  · exact .inr ⟨g, cap, cur, rfl, h1, (hb.block g (hlt g rfl)).trans h2, h3⟩
theorem Ow.shape {base : Nat} {e : TypeId} (h : Ow c size w base e v l) : ∃ A cap, v = .slice A l.length cap ∧ l.length ≤ cap ∧ cap ≤ maxLen := by
  rcases h.2 with ⟨rfl, h0⟩ | ⟨g, cap, cur, rfl, _, _, h3, h4, _⟩
  · exact ⟨none, 0, by rw [h0], by omega, by omega⟩
  · exact ⟨_, cap, rfl, h3, h4⟩
/-- Its beginning, as long as it is the same block: s[:k]. -/
theorem Ow.begin {base : Nat} {e : TypeId} {A : Option Addr} {n cap k : Nat} (hc : ∀ a, (c a).length = size) (h : Ow c size w base e (.slice A n cap) l) (hk : k ≤ l.length) :
    Ow c size w base e (.slice A k cap) (l.take k) := by
  have hlen : (l.take k).length = k := by rw [List.length_take, Nat.min_eq_left hk]
  unfold Ow
  rw [hlen]
  refine ⟨by rw [flat_length hc, hlen], ?_⟩
  rcases h.2 with ⟨e1, h0⟩ | ⟨g, cap0, cur, e1, hb, hg, hn, hm, hs, ht⟩
  · injection e1 with e2 e3 e4
    subst e2 e4
    exact .inl ⟨by rw [show k = 0 from by omega], by omega⟩
  · injection e1 with e2 e3 e4
    subst e2 e4
    refine .inr ⟨g, cap, cur, rfl, hb, hg, by omega, hm, hs, ?_⟩
    have h1 : (l.flatMap c).take (k * size) = (l.take k).flatMap c := by
      have : l.flatMap c = (l.take k).flatMap c ++ (l.drop k).flatMap c := by rw [← List.flatMap_append, List.take_append_drop]
      rw [this, List.take_left' (by rw [flat_length hc, hlen])]
    rw [← h1, ← ht, List.take_take, Nat.min_eq_left]
    exact Nat.mul_le_mul_right _ hk

end

/-- Where an append leaves the row: in the block in which it was, or in a new one. -/
def Moved (w : World) (v v' : Value) : Prop := v'.ownBlock = v.ownBlock ∨ ∃ g, v'.ownBlock = some g ∧ w.heap.size ≤ g
theorem Moved.refl (w : World) (v : Value) : Moved w v v := .inl rfl
theorem Moved.of {w : World} {v v' : Value} (h : v'.ownBlock = v.ownBlock ∨ v'.ownBlock = some w.heap.size) : Moved w v v' := by
  rcases h with h | h
  · exact .inl h
  · exact .inr ⟨_, h, Nat.le_refl _⟩
theorem Moved.trans {w w1 : World} {v v1 v2 : Value} (hs : w.heap.size ≤ w1.heap.size) (h : Moved w v v1) (k : Moved w1 v1 v2) : Moved w v v2 := by
  rcases k with k | ⟨g, k, hg⟩
  · rcases h with h | ⟨g, h, hg⟩
    · exact .inl (k.trans h)
    · exact .inr ⟨g, k.trans h, hg⟩
  · exact .inr ⟨g, k, by omega⟩
/-- Two steps, the second one on the row to which the first one has moved. -/
theorem grown_chain {w w1 w2 : World} {v v1 : Value} (h : w.grownBy w1 v.ownBlock) (hm : Moved w v v1) (k : w1.grownBy w2 v1.ownBlock) : w.grownBy w2 v.ownBlock :=
  ⟨k.os.trans h.os, k.tape.trans h.tape, k.output.trans h.output, Nat.le_trans h.size k.size, fun i hi hne => by
    refine (k.block i (Nat.lt_of_lt_of_le hi h.size) ?_).trans (h.block i hi hne)
    rcases hm with hm | ⟨g, hm, hg⟩
    · rw [hm]; exact hne
    · rw [hm]; intro e; injection e with e; omega⟩
theorem grown_drewN {a w : World} {row : Option Nat} (h : a.grownBy w row) (n : Nat) : a.grownBy (w.drewN n) row := ⟨h.os, h.tape, h.output, h.size, h.block⟩
theorem grown_drew {a w : World} {row : Option Nat} (h : a.grownBy w row) : a.grownBy w.drew row := ⟨h.os, h.tape, h.output, h.size, h.block⟩
theorem grown_alloc {a w : World} {row : Option Nat} (h : a.grownBy w row) (o : Obj) : a.grownBy (w.alloc o) row :=
  ⟨h.os, h.tape, h.output, Nat.le_trans h.size (by simp), fun i hi hne => (Below.heap_alloc w o i (Nat.lt_of_lt_of_le hi h.size)).trans (h.block i hi hne)⟩
theorem below_drewN {B : Nat} {a w : World} (h : Below B a w) (n : Nat) : Below B a (w.drewN n) := ⟨h.os, h.tape, h.output, h.size, h.block⟩

/-! ### append onto a row of one's own, from whatever slice -/
section
variable {Pr : Program} (w : World) {α : Type} {c : α → List Value} {size : Nat}

theorem run_append_empty (base : Nat) (t ty e : TypeId) (i : TypeInfo) (ht : Pr.underlying t = some (.slice e)) (hi : Pr.info? e = some i)
    (v : Value) (l : List α) (hown : Ow c size w base e v l) (k : Nat) : (Builtin.append_ #[t, t] ty #[v, .slice none 0 k]).run Pr w = .ok v w := by
  rcases hown.2 with ⟨rfl, _⟩ | ⟨g, cap, cur, rfl, _, _, hn, _⟩
  · simp [Builtin.append_, run_underlying ht, sizeOf, typeInfo, hi, Builtin.lenOf, Builtin.firstCells]
  · simp [Builtin.append_, run_underlying ht, sizeOf, typeInfo, hi, Builtin.lenOf, Builtin.firstCells, hn, storeCells]

theorem run_append_sl (base : Nat) (t ty e : TypeId) (i : TypeInfo) (z : Value) (bytes : Nat) (ht : Pr.underlying t = some (.slice e)) (hi : Pr.info? e = some i) (hz : i.zero = some z)
    (hsize : i.size = size) (hby : i.bytes = bytes) (hzs : z.cells.size = size) (hsz : 0 < size) (hc : ∀ a, (c a).length = size) (h1 : ∀ a, ∀ u ∈ c a, u.oneCell' = true)
    (v vx : Value) (l lx : List α) (hown : Ow c size w base e v l) {Q : Nat → Prop} (hx : Sl c size w vx lx Q)
    (h63 : l.length + lx.length ≤ maxLen) (hbytes : (l.length + lx.length) * bytes ≤ 140737488355328) (hbase : base ≤ w.heap.size) :
    ∃ v' w', (Builtin.append_ #[t, t] ty #[v, vx]).run Pr w = .ok v' w' ∧ Ow c size w' base e v' (l ++ lx) ∧ w.grownBy w' v.ownBlock ∧ Moved w v v' := by
  obtain ⟨A, cap, rfl, _, _, hcells⟩ := hx
  have key : ∀ ad, A = some ad → ∃ v' w', (Builtin.append_ #[t, t] ty #[v, .slice A lx.length cap]).run Pr w = .ok v' w' ∧ Ow c size w' base e v' (l ++ lx) ∧ w.grownBy w' v.ownBlock ∧ Moved w v v' := by
    intro ad hA
    subst hA
    have hnews : ∀ j u, (lx.flatMap c)[j]? = some u → w.cell? (ad.add j) = some u := by
      intro j u hj
      have hlt : j < lx.length * size := by rw [← flat_length hc]; exact (List.getElem?_eq_some_iff.1 hj).1
      have hpos : 0 < lx.length := by
        rcases Nat.eq_zero_or_pos lx.length with h0 | h0
        · rw [h0, Nat.zero_mul] at hlt; omega
        · exact h0
      obtain ⟨b, off, ea, _, _, hcc⟩ := hcells hpos
      injection ea with ea
      subst ea
      have hq : j / size < lx.length := (Nat.div_lt_iff_lt_mul hsz).2 hlt
      have hr : j % size < size := Nat.mod_lt _ hsz
      have hxx : lx[j / size]? = some (lx[j / size]) := List.getElem?_eq_getElem hq
      have huu : (c lx[j / size])[j % size]? = some ((c lx[j / size])[j % size]'(by rw [hc]; exact hr)) := List.getElem?_eq_getElem _
      have e1 : j / size * size + j % size = j := Nat.div_add_mod' j size
      have h2 := flat_at hc lx (j / size) _ hxx (j % size) _ huu
      rw [e1, hj] at h2
      injection h2 with h2
      have h3 := hcc (j / size) _ hxx (j % size) _ huu
      rw [Nat.add_assoc, e1, ← h2] at h3
      by_cases h0 : j = 0
      · subst h0; simpa [Addr.add] using h3
      · simpa [Addr.add, h0] using h3
    have hone : ∀ u ∈ lx.flatMap c, u.oneCell' = true := by
      intro u hu
      obtain ⟨a, _, ha⟩ := List.mem_flatMap.1 hu
      exact h1 a u ha
    obtain ⟨v', w', hrun, h2, h3, _, h5⟩ := run_append_own_at (P := Pr) w base t ty e i z size bytes ht hi hz hsize hby hzs hsz v l.length (l.flatMap c) hown ad lx.length cap (lx.flatMap c) (flat_length hc lx) hnews hone h63 hbytes hbase
    refine ⟨v', w', hrun, ?_, h3, Moved.of h5⟩
    unfold Ow
    rw [List.length_append, List.flatMap_append]
    exact h2
  rcases A with _ | ad
  · have hl : lx.length = 0 := by
      rcases Nat.eq_zero_or_pos lx.length with h0 | h0
      · exact h0
      · obtain ⟨b, off, ea, _⟩ := hcells h0
        cases ea
    have hn : lx = [] := List.eq_nil_of_length_eq_zero hl
    subst hn
    exact ⟨v, w, run_append_empty w base t ty e i ht hi v l hown cap, by simpa using hown, World.grownBy.refl w _, Moved.refl w v⟩
  · exact key ad rfl

theorem wp_append_sl {o : Oper} {a : Act} {K : Act → World → Prop} {Q : Exit → Act → World → Prop} (s x : Operand) (t : TypeId)
    (ho : o.op = .call { callee := .builtin .append, args := #[s, x], argTypes := #[t, t] })
    (base : Nat) (e : TypeId) (i : TypeInfo) (z : Value) (bytes : Nat) (ht : Pr.underlying t = some (.slice e)) (hi : Pr.info? e = some i) (hz : i.zero = some z)
    (hsize : i.size = size) (hby : i.bytes = bytes) (hzs : z.cells.size = size) (hsz : 0 < size) (hc : ∀ a, (c a).length = size) (h1 : ∀ a, ∀ u ∈ c a, u.oneCell' = true)
    (v vx : Value) (l lx : List α) (hs : a.eval s = v) (hxe : a.eval x = vx) (hown : Ow c size w base e v l) {R : Nat → Prop} (hx : Sl c size w vx lx R)
    (h63 : l.length + lx.length ≤ maxLen) (hbytes : (l.length + lx.length) * bytes ≤ 140737488355328) (hbase : base ≤ w.heap.size)
    (h : ∀ v' w', Ow c size w' base e v' (l ++ lx) → w.grownBy w' v.ownBlock → Moved w v v' → K (a.put o.dst v') w') : o.wp Pr a w K Q := by
  obtain ⟨v', w', hrun, h2, h3, h4⟩ := run_append_sl (Pr := Pr) w base t o.type e i z bytes ht hi hz hsize hby hzs hsz hc h1 v vx l lx hown hx h63 hbytes hbase
  unfold Oper.wp execOp
  simp only [ho, resolve, invoke, builtin, Sem.run_bind, Sem.run_pure, Result.andThen_ok, List.map_toArray, List.map_cons, List.map_nil, hs, hxe, hrun]
  exact h v' w' h2 h3 h4

theorem wpList_append_sl {ops : Array Oper} {rest : List Oper} {o : Oper} {a : Act} {Q : Exit → Act → World → Prop} (hgd : o.guard = none) (s x : Operand) (t : TypeId)
    (ho : o.op = .call { callee := .builtin .append, args := #[s, x], argTypes := #[t, t] })
    (base : Nat) (e : TypeId) (i : TypeInfo) (z : Value) (bytes : Nat) (ht : Pr.underlying t = some (.slice e)) (hi : Pr.info? e = some i) (hz : i.zero = some z)
    (hsize : i.size = size) (hby : i.bytes = bytes) (hzs : z.cells.size = size) (hsz : 0 < size) (hc : ∀ a, (c a).length = size) (h1 : ∀ a, ∀ u ∈ c a, u.oneCell' = true)
    (v vx : Value) (l lx : List α) (hs : a.eval s = v) (hxe : a.eval x = vx) (hown : Ow c size w base e v l) {R : Nat → Prop} (hx : Sl c size w vx lx R)
    (h63 : l.length + lx.length ≤ maxLen) (hbytes : (l.length + lx.length) * bytes ≤ 140737488355328) (hbase : base ≤ w.heap.size)
    (h : ∀ v' w', Ow c size w' base e v' (l ++ lx) → w.grownBy w' v.ownBlock → Moved w v v' → wpList Pr ops Q rest (a.put o.dst v') w') : wpList Pr ops Q (o :: rest) a w :=
  wpList_plain hgd fun _ hK => wp_append_sl w s x t ho base e i z bytes ht hi hz hsize hby hzs hsz hc h1 v vx l lx hs hxe hown hx h63 hbytes hbase fun v' w' h2 h3 h4 => hK _ _ (h v' w' h2 h3 h4)

theorem step_append_sl {ops : Array Oper} {o : Oper} {a : Act} {K : Act → World → Prop} {Q : Exit → Act → World → Prop} {E : Prop} (hgd : o.guard = none) (s x : Operand) (t : TypeId)
    (ho : o.op = .call { callee := .builtin .append, args := #[s, x], argTypes := #[t, t] })
    (base : Nat) (e : TypeId) (i : TypeInfo) (z : Value) (bytes : Nat) (ht : Pr.underlying t = some (.slice e)) (hi : Pr.info? e = some i) (hz : i.zero = some z)
    (hsize : i.size = size) (hby : i.bytes = bytes) (hzs : z.cells.size = size) (hsz : 0 < size) (hc : ∀ a, (c a).length = size) (h1 : ∀ a, ∀ u ∈ c a, u.oneCell' = true)
    (v vx : Value) (l lx : List α) (hs : a.eval s = v) (hxe : a.eval x = vx) (hown : Ow c size w base e v l) {R : Nat → Prop} (hx : Sl c size w vx lx R)
    (h63 : l.length + lx.length ≤ maxLen) (hbytes : (l.length + lx.length) * bytes ≤ 140737488355328) (hbase : base ≤ w.heap.size)
    (h : ∀ v' w', Ow c size w' base e v' (l ++ lx) → w.grownBy w' v.ownBlock → Moved w v v' → K (a.put o.dst v') w') :
    if Region.wanted o (yielded ops a.tmps) = true then Oper.wp Pr o a w K Q else E := by
  have hw : Region.wanted o (yielded ops a.tmps) = true := by simp [Region.wanted, hgd]
  rw [if_pos hw]
  exact wp_append_sl w s x t ho base e i z bytes ht hi hz hsize hby hzs hsz hc h1 v vx l lx hs hxe hown hx h63 hbytes hbase h
end

/-- A cell behind a new block and an append to another row. -/
theorem far_cell {w w1 : World} {k : Nat} {o : Obj} {row : Option Nat} (hg : ((w.drewN k).alloc o).grownBy w1 row) {p : Addr} {u : Value} (h : w.cell? p = some u) (hne : some p.block ≠ row) : w1.cell? p = some u := by
  have hlt := World.block_lt_of_cell? w _ h
  refine (hg.cell_far p (Nat.lt_of_lt_of_le hlt (by simp)) hne).trans ?_
  exact (World.cell?_alloc_lt (w.drewN k) o p hlt).trans h

theorem grown_of_alloc {w w1 : World} {k : Nat} {o : Obj} {row : Option Nat} (hg : ((w.drewN k).alloc o).grownBy w1 row) : w.grownBy w1 row :=
  ⟨hg.os, hg.tape, hg.output, Nat.le_trans (by simp) hg.size, fun i hi hne => (hg.block i (Nat.lt_of_lt_of_le hi (by simp)) hne).trans (Below.heap_alloc (w.drewN k) o i hi)⟩
theorem moved_of_alloc {w : World} {k : Nat} {o : Obj} {v v1 : Value} (h : Moved ((w.drewN k).alloc o) v v1) : Moved w v v1 :=
  by
  rcases h with h | ⟨g, h1, h2⟩
  · exact .inl h
  · exact .inr ⟨g, h1, Nat.le_trans (by simp) h2⟩
/-- A slice apart from a row stays apart from it where the row moves. -/
theorem Sl.moved {α : Type} {c : α → List Value} {size : Nat} {w w1 : World} {s v v1 : Value} {l : List α} (h : Sl c size w s l (fun b => some b ≠ v.ownBlock)) (hg : w.grownBy w1 v.ownBlock) (hm : Moved w v v1) :
    Sl c size w1 s l (fun b => some b ≠ v1.ownBlock) := by
  obtain ⟨A, cap, e, h1, h2, h3⟩ := h
  refine ⟨A, cap, e, h1, h2, fun hn => ?_⟩
  obtain ⟨b, off, ea, hb, hP, hc⟩ := h3 hn
  refine ⟨b, off, ea, Nat.lt_of_lt_of_le hb hg.size, ?_, fun i x hx j u hu => (World.cell?_of_block (a := ⟨b, _, none⟩) (hg.block b hb hP)).trans (hc i x hx j u hu)⟩
  rcases hm with hm | ⟨g, hm, hge⟩
  · show some b ≠ v1.ownBlock
    rw [hm]; exact hP
  · show some b ≠ v1.ownBlock
    rw [hm]; intro e; injection e with e; omega
/-- s[1:]. -/
theorem Sl.tail {α : Type} {c : α → List Value} {size : Nat} {w : World} {x : α} {xs : List α} {b off cap : Nat} {P : Nat → Prop} (h : Sl c size w (.slice (some ⟨b, off, none⟩) (xs.length + 1) cap) (x :: xs) P) (hs : 0 < size) :
    Sl c size w (.slice (if cap = 1 then some ⟨b, off, none⟩ else some ⟨b, off + size, none⟩) xs.length (cap - 1)) xs P := by
  obtain ⟨A, cap', e, h1, h2⟩ := h.shape
  injection e with e1 e2 e3
  rw [← e3, List.length_cons] at h1
  rw [← e3] at h2
  have := Sl.part (i := 1) (j := (x :: xs).length) (A' := if cap = 1 then some ⟨b, off, none⟩ else some ⟨b, off + size, none⟩) (cap' := cap - 1) h (by simp) (Nat.le_refl _) (fun hlt => by
    rw [List.length_cons] at hlt
    rw [if_neg (by omega)]
    have : ¬ size = 0 := by omega
    simp [Addr.add, this]) (by rw [List.length_cons]; omega) (Nat.le_trans (Nat.sub_le _ _) h2)
  simpa using this

/-- The block that 'make([]T, 0, n)' makes: n elements of size cells of the zero z, of type e. -/
def freshRow (z : Value) (size n : Nat) (e : TypeId) : Obj := .cells (madeCells z.cells (n * size)) e
theorem run_make_fresh {Pr : Program} (t e : TypeId) (i : TypeInfo) (z : Value) (size bytes : Nat) (ht : Pr.underlying t = some (.slice e)) (hi : Pr.info? e = some i) (hz : i.zero = some z) (hs : i.size = size) (hb : i.bytes = bytes)
    (l n : Nat) (hl : l ≤ n) (hbytes : bytes * n ≤ 281474976710656) (h63 : n ≤ 9223372036854775807) (w : World) :
    (Instr.makeSlice t (.int .i64 (l : Int)) (.int .i64 (n : Int))).run Pr w = .ok (.slice (some ⟨w.heap.size, 0, none⟩) l n) (w.alloc (freshRow z size n e)) := by
  have hbb : (i.bytes : Int) * (n : Int) ≤ 281474976710656 := by
    have h : ((bytes * n : Nat) : Int) ≤ 281474976710656 := by omega
    rwa [Int.natCast_mul, ← hb] at h
  have hr := run_make (P := Pr) w t e i z ht hi hz .i64 .i64 l n (by omega) (by omega) hbb (by omega)
  simp only [Int.toNat_natCast] at hr
  rw [hr, hs]
  rfl
theorem Ow.fresh {α : Type} {c : α → List Value} {w : World} {base : Nat} {e : TypeId} {z : Value} {size n : Nat} (hb : base ≤ w.heap.size) (hn : n ≤ maxLen) : Ow c size (w.alloc (freshRow z size n e)) base e (.slice (some ⟨w.heap.size, 0, none⟩) 0 n) ([] : List α) :=
  World.ownsRow_made w _ n hb hn (size_madeCells _ _)
theorem Ow.empty {α : Type} {c : α → List Value} {w : World} {base : Nat} {e : TypeId} {size : Nat} (hb : base ≤ w.heap.size) : Ow c size (w.alloc (.cells #[] e)) base e (.slice (some ⟨w.heap.size, 0, none⟩) 0 0) ([] : List α) :=
  World.ownsRow_made w #[] 0 hb (Nat.zero_le _) (by simp)

theorem Ow.fresh' {α : Type} {c : α → List Value} {w : World} {base H : Nat} {e : TypeId} {z : Value} {size n : Nat} (hH : w.heap.size = H) (hb : base ≤ H) (hn : n ≤ maxLen) : Ow c size (w.alloc (freshRow z size n e)) base e (.slice (some ⟨H, 0, none⟩) 0 n) ([] : List α) := by
  subst hH; exact Ow.fresh hb hn
theorem Ow.empty' {α : Type} {c : α → List Value} {w : World} {base H : Nat} {e : TypeId} {size : Nat} (hH : w.heap.size = H) (hb : base ≤ H) : Ow c size (w.alloc (.cells #[] e)) base e (.slice (some ⟨H, 0, none⟩) 0 0) ([] : List α) := by
  subst hH; exact Ow.empty hb

theorem ownBlock_len (A : Option Addr) (n m c d : Nat) : (Value.slice A n c).ownBlock = (Value.slice A m d).ownBlock := by cases A <;> rfl

/-- A slice value's length. -/
def lenV : Value → Nat
  | .slice _ n _ => n
  | _ => 0

/-- A new block that holds one element reads as a slice of that element. -/
theorem Sl.one {α : Type} {c : α → List Value} {size : Nat} {w : World} {B : Nat} {t : TypeId} {fr : Nat × Nat} (x : α) (hb : w.heap[B]? = some (.cells (c x).toArray t fr)) {P : Nat → Prop} (hP : P B) :
    Sl c size w (.slice (some ⟨B, 0, none⟩) 1 1) [x] P := by
  refine ⟨_, 1, rfl, Nat.le_refl _, by unfold maxLen; omega, fun _ => ⟨B, 0, rfl, (Array.getElem?_eq_some_iff.1 hb).1, hP, fun i y hy j u hu => ?_⟩⟩
  match i, hy with
  | 0, hy =>
    simp at hy
    subst hy
    rw [cell_of_row w B _ _ t fr hb]
    simpa using hu

theorem Sl.new1 {α : Type} {c : α → List Value} {size : Nat} {w : World} {H : Nat} {t : TypeId} (x : α) (hH : w.heap.size = H) : Sl c size (w.alloc (.cells (c x).toArray t)) (.slice (some ⟨H, 0, none⟩) 1 1) [x] (fun _ => True) := by
  subst hH
  exact Sl.one x (heap_alloc_new _ _) trivial
/-- A new block that holds a list. -/
theorem Sl.newl {α : Type} {c : α → List Value} {size : Nat} {w : World} {H n : Nat} {t : TypeId} {cs : Array Value} (l : List α) (hc : ∀ a, (c a).length = size) (hcs : cs.toList = l.flatMap c) (hn : l.length = n) (hm : n ≤ maxLen) (hH : w.heap.size = H) :
    Sl c size (w.alloc (.cells cs t)) (.slice (some ⟨H, 0, none⟩) n n) l (fun _ => True) := by
  subst hH hn
  refine ⟨_, l.length, rfl, Nat.le_refl _, hm, fun _ => ⟨w.heap.size, 0, rfl, by simp, trivial, fun i x hx j u hu => ?_⟩⟩
  rw [cell_of_row _ w.heap.size _ cs t (0, 0) (heap_alloc_new w _), ← Array.getElem?_toList, hcs, Nat.zero_add]
  exact flat_at hc l i x hx j u hu

end Go.Proofs.YteonefgbdphmiaaGreatDoor
/- Small words on slices (nothing of the program). -/
namespace Go.Proofs.YteonefgbdphmiaaGreatDoor
open Go.RowKit
theorem Sl.at_ {α : Type} {c : α → List Value} {size : Nat} {w : World} {v : Value} {l : List α} {P : Nat → Prop} (h : Sl c size w v l P) {i : Nat} (hi : i < l.length) :
    ∃ b off cap, v = .slice (some ⟨b, off, none⟩) l.length cap ∧ l.length ≤ cap ∧ cap ≤ maxLen ∧ b < w.heap.size ∧ P b ∧ ∀ j u, (c l[i])[j]? = some u → w.cell? ⟨b, off + i * size + j, none⟩ = some u := by
  obtain ⟨b, off, cap, e, h1, h2, h3, h4, h5⟩ := h.form (by omega)
  exact ⟨b, off, cap, e, h1, h2, h3, h4, fun j u hu => h5 i l[i] (List.getElem?_eq_getElem hi) j u hu⟩
theorem Below.lift {a b c : World} (h : Below a.heap.size a b) (k : Below b.heap.size b c) : Below a.heap.size a c := h.trans (k.mono h.size)
def Quiet (v : Value) (w : World) (e : Ending) (w' : World) : Prop := e = .returned v ∧ ∃ n, w' = w.drewN n
theorem take_succ_eq {α : Type} (l : List α) (k : Nat) (h : k < l.length) : l.take (k + 1) = l.take k ++ [l[k]] := by rw [List.take_succ_eq_append_getElem h]
def SameRel {α : Type} (la lb : List α) (w : World) (s : Value) (wr : World) : Prop := ∃ k n : Nat, k ≤ la.length ∧ s = .int .i64 k ∧ la.take k = lb.take k ∧ wr = w.drewN n
theorem same_ne {α : Type} {la lb : List α} {k : Nat} (h1 : k < la.length) (h2 : k < lb.length) (h : la[k] ≠ lb[k]) : la ≠ lb := by
  rintro rfl
  exact h rfl
theorem same_eq {α : Type} {la lb : List α} (hl : la.length = lb.length) (h : la.take la.length = lb.take la.length) : la = lb := by
  rw [List.take_of_length_le (Nat.le_refl _), List.take_of_length_le (by omega)] at h
  exact h
theorem same_step {α : Type} {la lb : List α} {k : Nat} (h1 : k < la.length) (h2 : k < lb.length) (h : la.take k = lb.take k) (he : la[k] = lb[k]) : la.take (k + 1) = lb.take (k + 1) := by
  rw [take_succ_eq la k h1, take_succ_eq lb k h2, h, he]

end Go.Proofs.YteonefgbdphmiaaGreatDoor
/- The walks of names: lex.class, lex.run; the reserved words as a row. -/
namespace Go.Proofs.YteonefgbdphmiaaGreatDoor
open Go.RowKit

theorem ret_i64 {a b : Int} (h : a = b) : Ending.returned (.int .i64 a) = .returned (.int .i64 b) := by rw [h]
theorem ret_bool {a b : Bool} (h : a = b) : Ending.returned (.bool a) = .returned (.bool b) := by rw [h]

set_option maxHeartbeats 1000000 in
theorem class_any (c : UInt8) (w : World) : Calls Tryz.prog 73 #[.int .u8 (c.toNat : Int)] w fun e w' => e = .returned (.int .i64 (Nm.cls c)) ∧ w = w' := by
  have hlow : Nm.low c = decide (97 ≤ (c.toNat : Int) ∧ (c.toNat : Int) ≤ 122) := by unfold Nm.low; apply decide_eq_decide.2; omega
  have hdig : Nm.dig c = decide (48 ≤ (c.toNat : Int) ∧ (c.toNat : Int) ≤ 57) := by unfold Nm.dig; apply decide_eq_decide.2; omega
  have hjoin : Nm.joinB c = decide ((c.toNat : Int) = 45 ∨ (c.toNat : Int) = 95) := by unfold Nm.joinB; apply decide_eq_decide.2; omega
  have hc : 0 ≤ (c.toNat : Int) := by omega
  unfold Nm.cls
  rw [hlow, hdig, hjoin]
  clear hlow hdig hjoin
  generalize (c.toNat : Int) = x at *
  simp only [decide_eq_true_eq]
  by_cases a1 : 97 ≤ x
  · by_cases a2 : x ≤ 122
    · rw [if_pos ⟨a1, a2⟩]
      go_enter Tryz.func73, Tryz.ntmps73
      go_wp2
      go_ret
      exact ⟨rfl, rfl⟩
    · have a2' : decide (x ≤ 122) = false := decide_eq_false a2
      have b1 : 48 ≤ x := by omega
      have b2' : decide (x ≤ 57) = false := decide_eq_false (by omega)
      have c1 : (x == 45) = false := beq_eq_false_iff_ne.2 (by omega)
      have c2 : (x == 95) = false := beq_eq_false_iff_ne.2 (by omega)
      rw [if_neg (by omega), if_neg (by omega), if_neg (by omega)]
      go_enter Tryz.func73, Tryz.ntmps73
      go_wp2
      go_ret
      exact ⟨rfl, rfl⟩
  · have a1' : decide (97 ≤ x) = false := decide_eq_false a1
    by_cases b1 : 48 ≤ x
    · by_cases b2 : x ≤ 57
      · rw [if_neg (by omega), if_pos ⟨b1, b2⟩]
        clear a1
        go_enter Tryz.func73, Tryz.ntmps73
        go_wp2
        go_ret
        exact ⟨rfl, rfl⟩
      · have b2' : decide (x ≤ 57) = false := decide_eq_false b2
        have c1 : (x == 45) = false := beq_eq_false_iff_ne.2 (by omega)
        by_cases c2 : x = 95
        · rw [if_neg (by omega), if_neg (by omega), if_pos (by omega)]
          have c2' : (x == 95) = true := beq_iff_eq.2 c2
          clear a1 b2 c2
          go_enter Tryz.func73, Tryz.ntmps73
          go_wp2
          go_ret
          exact ⟨rfl, rfl⟩
        · rw [if_neg (by omega), if_neg (by omega), if_neg (by omega)]
          have c2' : (x == 95) = false := beq_eq_false_iff_ne.2 c2
          clear a1 b2 c2
          go_enter Tryz.func73, Tryz.ntmps73
          go_wp2
          go_ret
          exact ⟨rfl, rfl⟩
    · have b1' : decide (48 ≤ x) = false := decide_eq_false b1
      have c2' : (x == 95) = false := beq_eq_false_iff_ne.2 (by omega)
      by_cases c1 : x = 45
      · rw [if_neg (by omega), if_neg (by omega), if_pos (by omega)]
        have c1' : (x == 45) = true := beq_iff_eq.2 c1
        clear a1 b1 c1
        go_enter Tryz.func73, Tryz.ntmps73
        go_wp2
        go_ret
        exact ⟨rfl, rfl⟩
      · rw [if_neg (by omega), if_neg (by omega), if_neg (by omega)]
        have c1' : (x == 45) = false := beq_eq_false_iff_ne.2 c1
        clear a1 b1 c1
        go_enter Tryz.func73, Tryz.ntmps73
        go_wp2
        go_ret
        exact ⟨rfl, rfl⟩

/-- A text in memory: one cell. -/
def sc (x : ByteArray) : List Value := [.string x]
theorem sc_len : ∀ x, (sc x).length = 1 := fun _ => rfl
theorem sc_one : ∀ x, ∀ u ∈ sc x, u.oneCell' = true := by intro x u hu; simp [sc] at hu; subst hu; rfl
def resA : List ByteArray := Nm.resW.map fun l => ⟨l.toArray⟩
theorem resA_len : resA.length = 15 := rfl
theorem resA_at {k : Nat} (hk : k < resA.length) : (resA[k]).data.toList = Nm.resW[k]'(by simpa [resA] using hk) := by
  simp [resA]
theorem res_yes {s : ByteArray} {k : Nat} (hk : k < resA.length) (h : resA[k] = s) : Nm.res s.data.toList = true := by
  unfold Nm.res
  rw [List.contains_iff_mem, ← h, resA_at hk]
  exact List.getElem_mem _
theorem res_no {s : ByteArray} (h : ∀ k (hk : k < resA.length), resA[k] ≠ s) : Nm.res s.data.toList = false := by
  unfold Nm.res
  refine Bool.eq_false_iff.2 fun hc => ?_
  rw [List.contains_iff_mem] at hc
  obtain ⟨k, hk, e⟩ := List.getElem_of_mem hc
  have hk' : k < resA.length := by simpa [resA] using hk
  exact h k hk' (ByteArray.ext (Array.ext' ((resA_at hk').trans e)))
theorem eq_toList {x s : ByteArray} : (x.toList == s.toList) = true ↔ x = s := by
  rw [beq_iff_eq, ByteArray.toList_eq, ByteArray.toList_eq]
  exact ⟨fun h => ByteArray.ext (Array.ext' h), fun h => by rw [h]⟩
theorem slRes (w : World) : Sl sc 1 (w.alloc (.cells (resA.flatMap sc).toArray 9)) (.slice (some ⟨w.heap.size, 0, none⟩) 15 15) resA (fun _ => True) :=
  Sl.newl resA sc_len rfl rfl (by decide) rfl
set_option maxHeartbeats 400000 in
theorem more1_any (c : UInt8) (w : World) : Calls Tryz.prog 76 #[.int .i64 (Nm.cls c)] w fun e w' => e = .returned (.bool (Nm.more c)) ∧ w = w' := by
  rw [← Nm.cls_more]
  generalize Nm.cls c = x
  go_enter Tryz.func76, Tryz.ntmps76
  go_wp2
  go_ret
  exact ⟨rfl, rfl⟩
set_option maxHeartbeats 1000000 in
theorem run_any (s : ByteArray) (w : World) (hs : s.size ≤ maxLen) : Calls Tryz.prog 75 #[.string s, .func (.func 76) #[] #[]] w fun e w' => e = .returned (.int .i64 (Nm.pre Nm.more s.data.toList : Nat)) ∧ w = w' := by
  unfold maxLen at hs
  obtain ⟨r, hr⟩ : ∃ r : Nat, Nm.pre Nm.more s.data.toList = r := ⟨_, rfl⟩
  have HR := Lib.hid hr
  rw [hr]
  clear hr
  go_enter Tryz.func75, Tryz.ntmps75
  go_wp2_with fail
  go_loop [5] (fun i => ∃ k : Nat, k ≤ s.size ∧ i = .int .i64 k ∧ Hid (∀ j (hj : j < s.size), j < k → Nm.more s[j] = true)) (fun i => s.size - (intOf i).toNat)
  case atStart => exact ⟨0, Nat.zero_le _, rfl, Lib.hid fun j _ h => absurd h (Nat.not_lt_zero _)⟩
  case round =>
    obtain ⟨k, hk, rfl, hall⟩ := hrel
    by_cases hlt : k < s.size
    · cases hm : Nm.more s[k]
      · have E := Lib.hid (HR.out.symm.trans (Nm.pre_stop Nm.more s.data.toList k (by simpa using hlt) (fun j hj => hall.out j (by omega) hj) hm))
        go_wp2_with (first | (go_at_call 73; refine (class_any _ _).mono ?_; rintro e w' ⟨rfl, rfl⟩) | (go_at_call 76; refine (more1_any _ _).mono ?_; rintro e w' ⟨rfl, rfl⟩))
        go_ret
        exact ⟨ret_i64 (by rw [E.out]), rfl⟩
      · go_wp2_with (first | (go_at_call 73; refine (class_any _ _).mono ?_; rintro e w' ⟨rfl, rfl⟩) | (go_at_call 76; refine (more1_any _ _).mono ?_; rintro e w' ⟨rfl, rfl⟩))
        go_round
        case rel =>
          refine ⟨k + 1, by omega, by go_num, Lib.hid fun j hj h => ?_⟩
          rcases Nat.lt_or_eq_of_le (Nat.le_of_lt_succ h) with h | rfl
          · exact hall.out j hj h
          · exact hm
        case measure => simp [intOf]; omega
    · have E := Lib.hid (HR.out.symm.trans (Nm.pre_end Nm.more s.data.toList fun j hj => hall.out j (by rw [← Nm.len_size]; exact hj) (by have := Nm.len_size s; omega)))
      have hks := Lib.hid (show k = s.data.toList.length by have := Nm.len_size s; omega)
      go_wp2_with fail
      go_ret
      exact ⟨ret_i64 (by rw [E.out, hks.out]), rfl⟩
end Go.Proofs.YteonefgbdphmiaaGreatDoor
/- The walks of lex.Reserved and lex.Name; the table of blanks. -/
namespace Go.Proofs.YteonefgbdphmiaaGreatDoor
open Go.RowKit

/-- The library's table of blanks holds what it was laid with. -/
def Tabs (w : World) : Prop := (∀ c : Nat, c < 256 → w.cell? ⟨0, c, none⟩ = some (.int .u8 (if Lib.isSp (UInt8.ofNat c) then 1 else 0))) ∧ 0 < w.heap.size
theorem Tabs.below {w w' : World} (h : Tabs w) (hb : Below w.heap.size w w') : Tabs w' :=
  ⟨fun c hc => (hb.cell (p := ⟨0, c, none⟩) h.2).trans (h.1 c hc), Nat.lt_of_lt_of_le h.2 hb.size⟩
theorem Tabs.below' {B : Nat} {w w' : World} (h : Tabs w) (hB : 0 < B) (hb : Below B w w') : Tabs w' :=
  ⟨fun c hc => (hb.cell (p := ⟨0, c, none⟩) hB).trans (h.1 c hc), Nat.lt_of_lt_of_le h.2 hb.size⟩
theorem Tabs.drewN {w : World} (h : Tabs w) (n : Nat) : Tabs (w.drewN n) := h
def resTA : ByteArray := ⟨Nm.resT.toArray⟩
theorem resTA_asc : ∀ (j : Nat) b, resTA.data.toList[j]? = some b → b.toNat < 128 := by
  have h : ∀ x ∈ Nm.resT, x.toNat < 128 := by decide
  intro j b hb
  exact h b (List.mem_of_getElem? (by simpa [resTA] using hb))
theorem fields_any (w : World) (hT : Tabs w) : Calls Tryz.prog 97 #[.string resTA] w fun e w' => e = .returned (.slice (some ⟨w.heap.size, 0, none⟩) 15 15) ∧ w' = w.alloc (.cells (resA.flatMap sc).toArray 9) := by
  have h := Any.strings_Fields_core Tryz.lays157 (by kernel_rfl) resTA w (by decide) resTA_asc hT.1
  refine h.mono ?_
  have e1 : Lib.fields resTA.data.toList = Nm.resW := Nm.fields_res
  rw [e1]
  rintro e w' ⟨he, hw⟩
  exact ⟨he, hw⟩
theorem containsS_res (s : ByteArray) : Lib.containsS (resA.take 15) s = Nm.res s.data.toList := by
  rw [Bool.eq_iff_iff, Lib.containsS_iff, show resA.take 15 = resA from rfl]
  constructor
  · intro h
    obtain ⟨k, hk, e⟩ := List.getElem_of_mem h
    exact res_yes hk e
  · intro h
    refine Classical.byContradiction fun hn => ?_
    rw [res_no (s := s) fun k hk e => hn (by rw [← e]; exact List.getElem_mem hk)] at h
    cases h
set_option maxHeartbeats 1000000 in
theorem lres_any (s : ByteArray) (w : World) (hT : Tabs w) : Calls Tryz.prog 74 #[.string s] w fun e w' => e = .returned (.bool (Nm.res s.data.toList)) ∧ Below w.heap.size w w' := by
  have HF := Lib.hid (fields_any w hT)
  obtain ⟨w1, hw1⟩ : ∃ w1, w.alloc (.cells (resA.flatMap sc).toArray 9) = w1 := ⟨_, rfl⟩
  have hb : Below w.heap.size w w1 := by rw [← hw1]; exact (Below.refl _ _).alloc (Nat.le_refl _) _
  have hS : Sl sc 1 w1 (.slice (some ⟨w.heap.size, 0, none⟩) 15 15) resA (fun _ => True) := by rw [← hw1]; exact slRes w
  have HC := Lib.hid (Any.slices_Contains_string Tryz.lays110 w.heap.size 0 15 15 resA s w1 (by decide) (by decide) (fun j hj => by
    obtain ⟨b, off, cap, e, _, _, _, _, h5⟩ := hS.at_ hj
    injection e with e e' e''
    injection e with e
    injection e with e1 e2 e3
    subst e1 e2
    have h6 := h5 0 (.string resA[j]) rfl
    rw [Nat.mul_one, Nat.add_zero] at h6
    rw [h6, List.getD_eq_getElem?_getD, List.getElem?_eq_getElem hj]; rfl))
  rw [hw1] at HF
  have HB := Lib.hid hb
  have HE := Lib.hid (containsS_res s)
  clear hw1 hb hS hT
  go_enter Tryz.func74, Tryz.ntmps74
  go_wp2_with fail
  refine HF.out.mono ?_
  rintro e w' ⟨rfl, rfl⟩
  go_wp2_with fail
  refine HC.out.mono ?_
  rintro e w' ⟨rfl, rfl⟩
  rw [HE.out]
  go_wp2_with fail
  go_ret
  exact ⟨rfl, HB.out⟩
set_option maxHeartbeats 1000000 in
theorem lname_any (s : ByteArray) (w : World) (hs : s.size ≤ maxLen) (hT : Tabs w) : Calls Tryz.prog 47 #[.string s] w fun e w' => e = .returned (.bool (Nm.name s.data.toList)) ∧ Below w.heap.size w w' := by
  have hlen := Nm.len_size s
  by_cases h0 : s.size = 0
  · have e : Nm.name s.data.toList = false := by unfold Nm.name Nm.word; rw [decide_eq_false (show ¬ 0 < s.data.toList.length by omega)]; rfl
    have h1 : (s.toList == []) = true := by
      rw [ByteArray.toList_eq, beq_iff_eq]; exact List.eq_nil_of_length_eq_zero (by omega)
    have h2 : s = ByteArray.empty := ByteArray.ext (Array.ext' (List.eq_nil_of_length_eq_zero (hlen.trans h0)))
    rw [e]
    subst h2
    clear e h0 hlen h1
    go_enter Tryz.func47, Tryz.ntmps47
    go_wp2_with fail
    go_ret
    exact ⟨rfl, Below.refl _ _⟩
  have h1 : (s.toList == []) = false := by
    rw [ByteArray.toList_eq]
    refine beq_eq_false_iff_ne.2 fun e => h0 ?_
    rw [← hlen, e]; rfl
  by_cases h2 : (24 : Int) < (s.size : Int)
  · have e : Nm.name s.data.toList = false := by unfold Nm.name Nm.word; rw [decide_eq_false (show ¬ s.data.toList.length ≤ 24 by omega), Bool.and_false]; rfl
    rw [e]
    clear e h0 hlen
    go_enter Tryz.func47, Tryz.ntmps47
    go_wp2_with fail
    go_ret
    exact ⟨rfl, Below.refl _ _⟩
  have h2' : decide ((24 : Int) < (s.size : Int)) = false := decide_eq_false h2
  have hp : 0 < s.size := by omega
  have hhd := Nm.head_at s hp
  have hcl := Nm.cls_low s[0]
  have HCl := Lib.hid (class_any s[0] w)
  have E := Lib.hid (show Nm.name s.data.toList = (Nm.low s[0] && Nm.tailB s.data.toList && !Nm.res s.data.toList) by
    unfold Nm.name Nm.word Nm.tailB
    rw [hhd, decide_eq_true (show 0 < s.data.toList.length by omega), decide_eq_true (show s.data.toList.length ≤ 24 by omega)]; simp)
  have HR := Lib.hid (lres_any s w hT)
  have HN := Lib.hid (run_any s)
  have hrn : ((Nm.pre Nm.more s.data.toList : Nat) : Int) = (s.size : Int) ↔ Nm.tailB s.data.toList = true := by
    rw [← hlen, Int.natCast_inj]; exact Nm.pre_all _ _
  obtain ⟨r, hr⟩ : ∃ r : Nat, Nm.pre Nm.more s.data.toList = r := ⟨_, rfl⟩
  rw [hr] at hrn HN
  have HRN := Lib.hid hrn
  rw [E.out]
  generalize Nm.tailB s.data.toList = tb at *
  generalize Nm.res s.data.toList = rs at *
  have hs' := hs
  unfold maxLen at hs'
  clear hhd hlen h0 h2 hr hrn E
  cases hl : Nm.low s[0]
  · rw [hl] at hcl
    simp only [Bool.false_and]
    go_enter Tryz.func47, Tryz.ntmps47
    go_wp2_with fail
    refine HCl.out.mono ?_
    rintro e w' ⟨rfl, rfl⟩
    go_wp2_with fail
    go_ret
    exact ⟨rfl, Below.refl _ _⟩
  · rw [hl] at hcl
    simp only [Bool.true_and]
    cases rs
    · simp only [Bool.not_false, Bool.and_true]
      go_enter Tryz.func47, Tryz.ntmps47
      go_wp2_with fail
      refine HCl.out.mono ?_
      rintro e w' ⟨rfl, rfl⟩
      go_wp2_with fail
      refine HR.out.mono ?_
      rintro e w1 ⟨rfl, hb⟩
      have HB := Lib.hid hb
      clear hb
      go_wp2_with fail
      refine (HN.out w1 hs).mono ?_
      rintro e w' ⟨rfl, rfl⟩
      go_wp2_with fail
      go_ret
      refine ⟨ret_bool ?_, HB.out⟩
      have := HRN.out
      cases tb
      · refine beq_eq_false_iff_ne.2 fun e => ?_
        cases this.1 (by exact_mod_cast e)
      · rw [beq_iff_eq]; exact_mod_cast this.2 rfl
    · simp only [Bool.not_true, Bool.and_false]
      go_enter Tryz.func47, Tryz.ntmps47
      go_wp2_with fail
      refine HCl.out.mono ?_
      rintro e w' ⟨rfl, rfl⟩
      go_wp2_with fail
      refine HR.out.mono ?_
      rintro e w1 ⟨rfl, hb⟩
      have HB := Lib.hid hb
      clear hb
      go_wp2_with fail
      go_ret
      exact ⟨rfl, HB.out⟩
end Go.Proofs.YteonefgbdphmiaaGreatDoor
/- Names in memory: bytes as a Go string, one cell each. -/
namespace Go.Proofs.YteonefgbdphmiaaGreatDoor
open Go.RowKit Go

/-- Bytes as a Go string. -/
def ba (x : List UInt8) : ByteArray := ⟨x.toArray⟩
theorem ba_list (x : List UInt8) : (ba x).data.toList = x := by simp [ba]
theorem ba_toList (x : List UInt8) : (ba x).toList = x := by rw [ByteArray.toList_eq, ba_list]
theorem ba_size (x : List UInt8) : (ba x).size = x.length := by rw [← Nm.len_size, ba_list]
theorem ba_of (s : ByteArray) : ba s.data.toList = s := by simp [ba]
theorem ba_inj {x y : List UInt8} (h : ba x = ba y) : x = y := by rw [← ba_list x, h, ba_list]
abbrev Nms := List (List UInt8)
/-- A name in memory: one cell. -/
def nc (x : List UInt8) : List Value := [.string (ba x)]
theorem nc_len : ∀ x, (nc x).length = 1 := fun _ => rfl
theorem nc_one : ∀ x, ∀ u ∈ nc x, u.oneCell' = true := by intro x u hu; simp [nc] at hu; subst hu; rfl
theorem info_string : (Tryz.prog.info? 9).map (fun i => (i.zero, i.size, i.bytes)) = some (some (.string ByteArray.empty), 1, 16) := by kernel_rfl
end Go.Proofs.YteonefgbdphmiaaGreatDoor
