/- Names: plain functions on bytes (nothing of the program). -/
import Derived.Lib.Fields
import Derived.Lib.Slices
import Derived.Lib.Strings
import Derived.Lib.Hide
namespace Go.Proofs.YtmihinhbcncbfaaGreatDoor.Nm
open Go

def low (c : UInt8) : Bool := decide (97 ≤ c.toNat ∧ c.toNat ≤ 122)
def dig (c : UInt8) : Bool := decide (48 ≤ c.toNat ∧ c.toNat ≤ 57)
def joinB (c : UInt8) : Bool := decide (c.toNat = 45 ∨ c.toNat = 95)
def more (c : UInt8) : Bool := low c || dig c || joinB c
/-- A byte's class. -/
def cls (c : UInt8) : Int := if low c = true then 1 else if dig c = true then 2 else if joinB c = true then 3 else 0
theorem cls_more (c : UInt8) : (cls c != 0) = more c := by
  unfold cls more
  cases low c <;> cases dig c <;> cases joinB c <;> rfl
theorem cls_low (c : UInt8) : (cls c != 1) = !low c := by
  unfold cls
  cases low c <;> cases dig c <;> cases joinB c <;> rfl
theorem cls_dig (c : UInt8) : (cls c == 2) = dig c := by
  unfold cls
  have : low c = true → dig c = false := by
    unfold low dig; intro h; rw [decide_eq_true_eq] at h; exact decide_eq_false (by omega)
  cases h : low c
  · cases dig c <;> cases joinB c <;> rfl
  · rw [this h]; rfl
/-- The reserved words. -/
def resW : List (List UInt8) := [[104, 111, 114, 105, 122, 111, 110], [115, 116, 111, 112], [112, 97, 116, 104], [100, 111, 111, 114], [114, 111, 117, 116, 101], [116, 114, 105, 112], [104, 97, 122, 97, 114, 100], [102, 114, 111, 109], [101, 118, 101, 114, 121], [111, 112, 101, 110], [99, 108, 111, 115, 101, 100], [111, 102], [111, 110], [117, 110, 116, 105, 108], [115, 116, 97, 121]]
def resT : List UInt8 := [104, 111, 114, 105, 122, 111, 110, 32, 115, 116, 111, 112, 32, 112, 97, 116, 104, 32, 100, 111, 111, 114, 32, 114, 111, 117, 116, 101, 32, 116, 114, 105, 112, 32, 104, 97, 122, 97, 114, 100, 32, 102, 114, 111, 109, 32, 101, 118, 101, 114, 121, 32, 111, 112, 101, 110, 32, 99, 108, 111, 115, 101, 100, 32, 111, 102, 32, 111, 110, 32, 117, 110, 116, 105, 108, 32, 115, 116, 97, 121]
theorem fields_res : Lib.fields resT = resW := by decide +kernel
/-- Do all bytes go on a word? -/
def tailB (l : List UInt8) : Bool := l.all more
def res (l : List UInt8) : Bool := resW.contains l
def word (l : List UInt8) : Bool := decide (0 < l.length) && decide (l.length ≤ 24) && low (l.headD 0) && l.all more
def name (l : List UInt8) : Bool := word l && !res l
theorem word_len {l : List UInt8} (h : word l = true) : 0 < l.length ∧ l.length ≤ 24 := by
  unfold word at h
  simp only [Bool.and_eq_true, decide_eq_true_eq] at h
  exact ⟨h.1.1.1, h.1.1.2⟩
theorem name_len {l : List UInt8} (h : name l = true) : 0 < l.length ∧ l.length ≤ 24 := by
  unfold name at h
  rw [Bool.and_eq_true] at h
  exact word_len h.1
/-- How many bytes from the first on have p. -/
def pre (p : UInt8 → Bool) (l : List UInt8) : Nat := (l.takeWhile p).length
theorem pre_le (p : UInt8 → Bool) (l : List UInt8) : pre p l ≤ l.length := by
  unfold pre; exact (List.takeWhile_prefix p).length_le
theorem pre_all (p : UInt8 → Bool) (l : List UInt8) : (pre p l = l.length) ↔ l.all p = true := by
  unfold pre
  induction l with
  | nil => simp
  | cons a l ih =>
    rw [List.takeWhile_cons]
    cases h : p a
    · simp [h]
    · simp [h, ih]
theorem pre_stop (p : UInt8 → Bool) (l : List UInt8) (k : Nat) (hk : k < l.length) (h1 : ∀ j (hj : j < k), p (l[j]'(by omega)) = true) (h2 : p l[k] = false) : pre p l = k := by
  unfold pre
  induction l generalizing k with
  | nil => simp at hk
  | cons a l ih =>
    match k with
    | 0 => rw [List.takeWhile_cons, show p a = false from h2]; rfl
    | k + 1 =>
      have ha : p a = true := h1 0 (by omega)
      rw [List.takeWhile_cons, ha]
      simp only [if_true, List.length_cons]
      rw [ih k (by simpa using hk) (fun j hj => h1 (j + 1) (by omega)) h2]
theorem pre_end (p : UInt8 → Bool) (l : List UInt8) (h1 : ∀ j (hj : j < l.length), p l[j] = true) : pre p l = l.length := by
  rw [pre_all, List.all_eq_true]
  intro x hx
  obtain ⟨j, hj, rfl⟩ := List.getElem_of_mem hx
  exact h1 j hj
theorem len_size (s : ByteArray) : s.data.toList.length = s.size := by simp
theorem byte_at (s : ByteArray) {k : Nat} (h : k < s.size) : s.data.toList[k]'(by simpa using h) = s[k] := rfl
theorem head_at (s : ByteArray) (h : 0 < s.size) : s.data.toList.headD 0 = s[0] := by
  have : s.data.toList.head? = some s[0] := by rw [List.head?_eq_getElem?]; simp [h]; rfl
  rw [List.headD_eq_head?_getD, this]; rfl
theorem all_of (s : ByteArray) (p : UInt8 → Bool) (h1 : ∀ j (hj : j < s.size), p s[j] = true) : s.data.toList.all p = true := by
  rw [List.all_eq_true]
  intro x hx
  obtain ⟨j, hj, rfl⟩ := List.getElem_of_mem hx
  exact h1 j (by simpa using hj)
theorem all_no (s : ByteArray) (p : UInt8 → Bool) {k : Nat} (hk : k < s.size) (h : p s[k] = false) : s.data.toList.all p = false := by
  rw [List.all_eq_false]
  exact ⟨s[k], List.mem_iff_getElem.2 ⟨k, by simpa using hk, rfl⟩, by rw [h]; simp⟩
end Go.Proofs.YtmihinhbcncbfaaGreatDoor.Nm
