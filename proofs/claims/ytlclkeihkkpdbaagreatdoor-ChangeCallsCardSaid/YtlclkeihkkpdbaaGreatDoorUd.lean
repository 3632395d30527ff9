/- The walk of change.words. -/
import Derived.Test.YtlclkeihkkpdbaaGreatDoorUb
import Derived.RangeFuncRecord
namespace Go.Proofs.YtlclkeihkkpdbaaGreatDoor
open Go.RowKit
def tx1 : List UInt8 := [100, 101, 108, 97, 121, 32, 78, 65, 77, 69, 32, 78, 79, 32, 102, 114, 111, 109, 32, 80, 79, 83, 32, 98, 121, 32, 84, 73, 67, 75, 83]
theorem fl1 : Lib.fields tx1 = wordsD 1 := by decide +kernel
def tx2 : List UInt8 := [99, 97, 110, 99, 101, 108, 32, 78, 65, 77, 69, 32, 78, 79]
theorem fl2 : Lib.fields tx2 = wordsD 2 := by decide +kernel
def tx3 : List UInt8 := [114, 101, 115, 116, 111, 114, 101, 32, 78, 65, 77, 69, 32, 78, 79]
theorem fl3 : Lib.fields tx3 = wordsD 3 := by decide +kernel
def tx4 : List UInt8 := [100, 111, 111, 114, 32, 78, 65, 77, 69, 32, 102, 114, 111, 109, 32, 70, 82, 79, 77, 32, 101, 118, 101, 114, 121, 32, 69, 86, 69, 82, 89, 32, 111, 112, 101, 110, 32, 76, 69, 78]
theorem fl4 : Lib.fields tx4 = wordsD 4 := by decide +kernel
def tx5 : List UInt8 := [104, 97, 122, 97, 114, 100, 32, 78, 65, 77, 69, 32, 102, 114, 111, 109, 32, 70, 82, 79, 77, 32, 101, 118, 101, 114, 121, 32, 69, 86, 69, 82, 89, 32, 99, 108, 111, 115, 101, 100, 32, 76, 69, 78]
theorem fl5 : Lib.fields tx5 = wordsD 5 := by decide +kernel
theorem flat_nc (ws : List (List UInt8)) : ws.flatMap nc = ws.map fun l => Value.string ⟨l.toArray⟩ := by
  induction ws with
  | nil => rfl
  | cons a l ih => rw [List.flatMap_cons, List.map_cons, ih]; rfl
theorem fieldsU (s : List UInt8) (ws : List (List UInt8)) (w : World) (hT : Tabs w) (hl : s.length < 4294967281) (ha : ∀ x ∈ s, x.toNat < 128) (hf : Lib.fields s = ws) :
    Calls Tryz.prog 55 #[.string ⟨s.toArray⟩] w fun e w' => e = .returned (.slice (some ⟨w.heap.size, 0, none⟩) ws.length ws.length) ∧ w' = w.alloc (.cells (ws.flatMap nc).toArray 9) := by
  have h := Any.strings_Fields_core Tryz.lays157 (by kernel_rfl) ⟨s.toArray⟩ w (by show s.toArray.size < _; simpa using hl) (fun j b hb => ha b (List.mem_of_getElem? (by simpa using hb))) hT.1
  have e1 : Lib.fields (⟨s.toArray⟩ : ByteArray).data.toList = ws := by rw [← hf]
  rw [e1] at h
  refine h.mono ?_
  rintro e w' ⟨he, hw⟩
  exact ⟨he, by rw [hw, flat_nc]; rfl⟩
/-- What change.words leaves. -/
def WordsPost (k : Int) (w : World) (e : Ending) (w' : World) : Prop :=
  e = .returned (.slice (some ⟨w.heap.size, 0, none⟩) (wordsD k).length (wordsD k).length) ∧ w' = w.alloc (.cells ((wordsD k).flatMap nc).toArray 9)
set_option maxHeartbeats 1000000 in
theorem words_any (k : Int) (w : World) (hT : Tabs w) : Calls Tryz.prog 36 #[.int .i64 k] w (WordsPost k w) := by
  by_cases h1 : k = 1
  · subst h1
    have HF := Lib.hid (fieldsU tx1 _ w hT (by decide) (by decide) fl1)
    clear hT 
    go_enter Tryz.func36, Tryz.ntmps36
    go_wp2_with fail
    refine HF.out.mono ?_
    rintro e w1 ⟨rfl, hw1⟩
    go_wp2_with fail
    go_ret
    exact ⟨rfl, rfl⟩
  by_cases h2 : k = 2
  · subst h2
    have HF := Lib.hid (fieldsU tx2 _ w hT (by decide) (by decide) fl2)
    clear hT h1
    go_enter Tryz.func36, Tryz.ntmps36
    go_wp2_with fail
    refine HF.out.mono ?_
    rintro e w1 ⟨rfl, hw1⟩
    go_wp2_with fail
    go_ret
    exact ⟨rfl, rfl⟩
  by_cases h3 : k = 3
  · subst h3
    have HF := Lib.hid (fieldsU tx3 _ w hT (by decide) (by decide) fl3)
    clear hT h1 h2
    go_enter Tryz.func36, Tryz.ntmps36
    go_wp2_with fail
    refine HF.out.mono ?_
    rintro e w1 ⟨rfl, hw1⟩
    go_wp2_with fail
    go_ret
    exact ⟨rfl, rfl⟩
  by_cases h4 : k = 4
  · subst h4
    have HF := Lib.hid (fieldsU tx4 _ w hT (by decide) (by decide) fl4)
    clear hT h1 h2 h3
    go_enter Tryz.func36, Tryz.ntmps36
    go_wp2_with fail
    refine HF.out.mono ?_
    rintro e w1 ⟨rfl, hw1⟩
    go_wp2_with fail
    go_ret
    exact ⟨rfl, rfl⟩
  have e5 : wordsD k = wordsD 5 := by unfold wordsD; rw [if_neg h1, if_neg h2, if_neg h3, if_neg h4]; rfl
  unfold WordsPost
  rw [e5]
  have HF := Lib.hid (fieldsU tx5 _ w hT (by decide) (by decide) fl5)
  have k1 : (k == 1) = false := beq_eq_false_iff_ne.2 h1
  have k2 : (k == 2) = false := beq_eq_false_iff_ne.2 h2
  have k3 : (k == 3) = false := beq_eq_false_iff_ne.2 h3
  have k4 : (k == 4) = false := beq_eq_false_iff_ne.2 h4
  clear hT h1 h2 h3 h4 e5
  go_enter Tryz.func36, Tryz.ntmps36
  go_wp2_with fail
  refine HF.out.mono ?_
  rintro e w1 ⟨rfl, hw1⟩
  go_wp2_with fail
  go_ret
  exact ⟨rfl, rfl⟩
end Go.Proofs.YtlclkeihkkpdbaaGreatDoor
/- A map of strings that is written in whatever order: an insertion, a look-up (at values of whatever kind). -/
namespace Go.Proofs.YtlclkeihkkpdbaaGreatDoor
open Go.RowKit
theorem bytes_no {a b : ByteArray} (h : a ≠ b) : (a == b) = false := by
  have e : (a == b) = (a.data == b.data) := by cases a; cases b; rfl
  rw [e, beq_eq_false_iff_ne]
  exact fun h2 => h (ByteArray.ext h2)
theorem bytes_yes (a : ByteArray) : (a == a) = true := by
  have e : (a == a) = (a.data == a.data) := by cases a; rfl
  rw [e, beq_self_eq_true]
theorem findNow_none (k : ByteArray) : ∀ (es : List MapEntry) (i : Nat), (∀ e ∈ es, ∃ x, e.key = .string x ∧ x ≠ k) → Instr.findNow .string (.string k) es i = some none := by
  intro es
  induction es with
  | nil => intro i _; rfl
  | cons e es ih =>
    intro i h
    obtain ⟨x, hx, hne⟩ := h e List.mem_cons_self
    have hb : (k == x) = false := bytes_no fun h => hne h.symm
    have hn : Instr.sameNow .string (.string k) (.string x) = some false := congrArg some hb
    unfold Instr.findNow
    rw [hx, hn]
    exact ih _ fun e he => h e (List.mem_cons_of_mem _ he)
theorem findNow_some (k : ByteArray) (v : Value) : ∀ (es : List MapEntry) (i : Nat), (∀ e ∈ es, ∃ x, e.key = .string x) → (∀ e ∈ es, e.key = .string k → e.val = v) → (∃ e ∈ es, e.key = .string k) →
    ∃ j, Instr.findNow .string (.string k) es i = some (some (j, v)) := by
  intro es
  induction es with
  | nil => rintro i _ _ ⟨e, he, _⟩; cases he
  | cons e es ih =>
    intro i h hv hex
    obtain ⟨x, hx⟩ := h e List.mem_cons_self
    unfold Instr.findNow
    rw [hx]
    by_cases hk : x = k
    · subst hk
      have hn : Instr.sameNow .string (.string x) (.string x) = some true := congrArg some (bytes_yes x)
      rw [hn]
      exact ⟨i, by rw [← hv e List.mem_cons_self hx]⟩
    · have hb : (k == x) = false := bytes_no fun h => hk h.symm
      have hn : Instr.sameNow .string (.string k) (.string x) = some false := congrArg some hb
      rw [hn]
      refine ih _ (fun e he => h e (List.mem_cons_of_mem _ he)) (fun e he => hv e (List.mem_cons_of_mem _ he)) ?_
      obtain ⟨e2, he2, hk2⟩ := hex
      rcases List.mem_cons.1 he2 with rfl | he2
      · rw [hx] at hk2; injection hk2 with hk2; exact absurd hk2 hk
      · exact ⟨e2, he2, hk2⟩
theorem run_getObj' {P : Program} {w : World} {r clock : Nat} {es : Array MapEntry} (h : w.heap[r]? = some (.map es clock)) : (getObj r).run P w = .ok (.map es clock) w := by
  simp [getObj, Sem.run, h]
theorem run_checkKey {P : Program} {b : Bool} {w : World} {T : TypeId} {k : ByteArray} (h : P.underlying T = some .string) : (Instr.checkKey b 10000 T (.string k)).run P w = .ok () w := by
  unfold Instr.checkKey
  simp only [Sem.run_bind, run_underlying h, Result.andThen, Sem.run_pure]
theorem run_ins {P : Program} {w : World} {b : Nat} {T K E : TypeId} {es : Array MapEntry} {clock : Nat} {k : ByteArray} {v : Value} (hT : P.underlying T = some (.map K E)) (hK : P.underlying K = some .string)
    (h : w.heap[b]? = some (.map es clock)) (hk : ∀ e ∈ es.toList, ∃ x, e.key = .string x ∧ x ≠ k) :
    (Instr.mapUpdate T (.map (some b)) (.string k) v).run P w = .ok () (w.putObj b (.map (es.push ⟨.string k, v, clock⟩) (clock + 1))) := by
  unfold Instr.mapUpdate
  have hf : (Instr.findKey K (.string k) es.toList).run P w = .ok none w := by
    unfold Instr.findKey
    simp only [Sem.run_bind, run_underlying hK, Result.andThen, findNow_none k es.toList 0 hk, Sem.run_pure]
  simp only [Sem.run_bind, run_underlying hT, Result.andThen, run_getObj' h, run_checkKey hK, hf]
  simp [setObj, Sem.run, World.putObj, h]
theorem run_look {P : Program} {w : World} {b : Nat} {T K E : TypeId} {es : Array MapEntry} {clock : Nat} {k : ByteArray} {v : Value} (hT : P.underlying T = some (.map K E)) (hK : P.underlying K = some .string)
    (h : w.heap[b]? = some (.map es clock)) (hs : ∀ e ∈ es.toList, ∃ x, e.key = .string x) (hv : ∀ e ∈ es.toList, e.key = .string k → e.val = v) (hx : ∃ e ∈ es.toList, e.key = .string k) :
    (Instr.lookup T (.map (some b)) (.string k) true).run P w = .ok (.tuple #[v, .bool true]) w := by
  unfold Instr.lookup
  obtain ⟨j, hj⟩ := findNow_some k v es.toList 0 hs hv hx
  have hf : (Instr.findKey K (.string k) es.toList).run P w = .ok (some (j, v)) w := by
    unfold Instr.findKey
    simp only [Sem.run_bind, run_underlying hK, Result.andThen, hj, Sem.run_pure]
  simp only [Sem.run_bind, run_underlying hT, Result.andThen, run_getObj' h, run_checkKey hK, hf, Sem.run_pure, if_true]
theorem run_lookno {P : Program} {w : World} {b : Nat} {T K E : TypeId} {es : Array MapEntry} {clock : Nat} {k : ByteArray} {z : Value} (hT : P.underlying T = some (.map K E)) (hK : P.underlying K = some .string)
    (h : w.heap[b]? = some (.map es clock)) (hk : ∀ e ∈ es.toList, ∃ x, e.key = .string x ∧ x ≠ k) (hz : (zeroValue E).run P w = .ok z w) :
    (Instr.lookup T (.map (some b)) (.string k) true).run P w = .ok (.tuple #[z, .bool false]) w := by
  unfold Instr.lookup
  have hf : (Instr.findKey K (.string k) es.toList).run P w = .ok none w := by
    unfold Instr.findKey
    simp only [Sem.run_bind, run_underlying hK, Result.andThen, findNow_none k es.toList 0 hk, Sem.run_pure]
  simp only [Sem.run_bind, run_underlying hT, Result.andThen, run_getObj' h, run_checkKey hK, hf, hz, Sem.run_pure, if_true]
end Go.Proofs.YtlclkeihkkpdbaaGreatDoor
