/- The walk of change.words. -/
import Derived.Test.YtlclkeihkkpdbaaDoorUb
namespace Go.Proofs.YtlclkeihkkpdbaaDoor
open Go.RowKit
def tx1 : List UInt8 := [100, 101, 108, 97, 121, 32, 78, 65, 77, 69, 32, 78, 79, 32, 102, 114, 111, 109, 32, 80, 79, 83, 32, 98, 121, 32, 84, 73, 67, 75, 83]
theorem fl1 : Lib.fields tx1 = wordsD 1 := by decide +kernel
def tx2 : List UInt8 := [99, 97, 110, 99, 101, 108, 32, 78, 65, 77, 69, 32, 78, 79]
theorem fl2 : Lib.fields tx2 = wordsD 2 := by decide +kernel
def tx3 : List UInt8 := [114, 101, 115, 116, 111, 114, 101, 32, 78, 65, 77, 69, 32, 78, 79]
theorem fl3 : Lib.fields tx3 = wordsD 3 := by decide +kernel
def tx4 : List UInt8 := [100, 111, 111, 114, 32, 78, 65, 77, 69, 32, 102, 114, 111, 109, 32, 70, 82, 79, 77, 32, 101, 118, 101, 114, 121, 32, 69, 86, 69, 82, 89, 32, 111, 112, 101, 110, 32, 76, 69, 78]
theorem fl4 : Lib.fields tx4 = wordsD 4 := by decide +kernel
def tx5 : List UInt8 := [104, 97, 122, 97, 114, 100, 32, 78, 65, 77, 69, 32, 102, 114, 111, 109, 32, 70, 82, 79, 77, 32, 101, 118, 101, 114, 121, 32, 69, 86, 69, 82, 89, 32, 99, 108, 111, 115, 101, 100, 32, 76, 69, 78]
theorem fl5 : Lib.fields tx5 = wordsD 5 := by decide +kernel
theorem flat_nc (ws : List (List UInt8)) : ws.flatMap nc = ws.map fun l => Value.string ⟨l.toArray⟩ := by
  induction ws with
  | nil => rfl
  | cons a l ih => rw [List.flatMap_cons, List.map_cons, ih]; rfl
theorem fieldsU (s : List UInt8) (ws : List (List UInt8)) (w : World) (hT : Tabs w) (hl : s.length < 4294967281) (ha : ∀ x ∈ s, x.toNat < 128) (hf : Lib.fields s = ws) :
    Calls Tryd.prog 42 #[.string ⟨s.toArray⟩] w fun e w' => e = .returned (.slice (some ⟨w.heap.size, 0, none⟩) ws.length ws.length) ∧ w' = w.alloc (.cells (ws.flatMap nc).toArray 9) := by
  have h := Any.strings_Fields_core Tryd.lays157 (by kernel_rfl) ⟨s.toArray⟩ w (by show s.toArray.size < _; simpa using hl) (fun j b hb => ha b (List.mem_of_getElem? (by simpa using hb))) hT.1
  have e1 : Lib.fields (⟨s.toArray⟩ : ByteArray).data.toList = ws := by rw [← hf]
  rw [e1] at h
  refine h.mono ?_
  rintro e w' ⟨he, hw⟩
  exact ⟨he, by rw [hw, flat_nc]; rfl⟩
/-- What change.words leaves. -/
def WordsPost (k : Int) (w : World) (e : Ending) (w' : World) : Prop :=
  e = .returned (.slice (some ⟨w.heap.size, 0, none⟩) (wordsD k).length (wordsD k).length) ∧ w' = w.alloc (.cells ((wordsD k).flatMap nc).toArray 9)
set_option maxHeartbeats 1000000 in
theorem words_any (k : Int) (w : World) (hT : Tabs w) : Calls Tryd.prog 33 #[.int .i64 k] w (WordsPost k w) := by
  by_cases h1 : k = 1
  · subst h1
    have HF := Lib.hid (fieldsU tx1 _ w hT (by decide) (by decide) fl1)
    clear hT 
    go_enter Tryd.func33, Tryd.ntmps33
    go_wp2_with fail
    refine HF.out.mono ?_
    rintro e w1 ⟨rfl, hw1⟩
    go_wp2_with fail
    go_ret
    exact ⟨rfl, rfl⟩
  by_cases h2 : k = 2
  · subst h2
    have HF := Lib.hid (fieldsU tx2 _ w hT (by decide) (by decide) fl2)
    clear hT h1
    go_enter Tryd.func33, Tryd.ntmps33
    go_wp2_with fail
    refine HF.out.mono ?_
    rintro e w1 ⟨rfl, hw1⟩
    go_wp2_with fail
    go_ret
    exact ⟨rfl, rfl⟩
  by_cases h3 : k = 3
  · subst h3
    have HF := Lib.hid (fieldsU tx3 _ w hT (by decide) (by decide) fl3)
    clear hT h1 h2
    go_enter Tryd.func33, Tryd.ntmps33
    go_wp2_with fail
    refine HF.out.mono ?_
    rintro e w1 ⟨rfl, hw1⟩
    go_wp2_with fail
    go_ret
    exact ⟨rfl, rfl⟩
  by_cases h4 : k = 4
  · subst h4
    have HF := Lib.hid (fieldsU tx4 _ w hT (by decide) (by decide) fl4)
    clear hT h1 h2 h3
    go_enter Tryd.func33, Tryd.ntmps33
    go_wp2_with fail
    refine HF.out.mono ?_
    rintro e w1 ⟨rfl, hw1⟩
    go_wp2_with fail
    go_ret
    exact ⟨rfl, rfl⟩
  have e5 : wordsD k = wordsD 5 := by unfold wordsD; rw [if_neg h1, if_neg h2, if_neg h3, if_neg h4]; rfl
  unfold WordsPost
  rw [e5]
  have HF := Lib.hid (fieldsU tx5 _ w hT (by decide) (by decide) fl5)
  have k1 : (k == 1) = false := beq_eq_false_iff_ne.2 h1
  have k2 : (k == 2) = false := beq_eq_false_iff_ne.2 h2
  have k3 : (k == 3) = false := beq_eq_false_iff_ne.2 h3
  have k4 : (k == 4) = false := beq_eq_false_iff_ne.2 h4
  clear hT h1 h2 h3 h4 e5
  go_enter Tryd.func33, Tryd.ntmps33
  go_wp2_with fail
  refine HF.out.mono ?_
  rintro e w1 ⟨rfl, hw1⟩
  go_wp2_with fail
  go_ret
  exact ⟨rfl, rfl⟩
end Go.Proofs.YtlclkeihkkpdbaaDoor
