/- Maps of strings: what insertions and look-ups do (as in Ud, Ue); package sheet's reads and all. -/
import Derived.Test.YteonefgbdphmiaaGreatDoorWd
import Derived.Maps.OwnOps
import Derived.RangeFuncRecord
namespace Go.Proofs.YteonefgbdphmiaaGreatDoor
open Go.RowKit
theorem bytes_no {a b : ByteArray} (h : a ≠ b) : (a == b) = false := by
  have e : (a == b) = (a.data == b.data) := by cases a; cases b; rfl
  rw [e, beq_eq_false_iff_ne]
  exact fun h2 => h (ByteArray.ext h2)
theorem bytes_yes (a : ByteArray) : (a == a) = true := by
  have e : (a == a) = (a.data == a.data) := by cases a; rfl
  rw [e, beq_self_eq_true]
theorem findNow_none (k : ByteArray) : ∀ (es : List MapEntry) (i : Nat), (∀ e ∈ es, ∃ x, e.key = .string x ∧ x ≠ k) → Instr.findNow .string (.string k) es i = some none := by
  intro es
  induction es with
  | nil => intro i _; rfl
  | cons e es ih =>
    intro i h
    obtain ⟨x, hx, hne⟩ := h e List.mem_cons_self
    have hb : (k == x) = false := bytes_no fun h => hne h.symm
    have hn : Instr.sameNow .string (.string k) (.string x) = some false := congrArg some hb
    unfold Instr.findNow
    rw [hx, hn]
    exact ih _ fun e he => h e (List.mem_cons_of_mem _ he)
theorem findNow_some (k : ByteArray) (v : Value) : ∀ (es : List MapEntry) (i : Nat), (∀ e ∈ es, ∃ x, e.key = .string x) → (∀ e ∈ es, e.key = .string k → e.val = v) → (∃ e ∈ es, e.key = .string k) →
    ∃ j, Instr.findNow .string (.string k) es i = some (some (j, v)) := by
  intro es
  induction es with
  | nil => rintro i _ _ ⟨e, he, _⟩; cases he
  | cons e es ih =>
    intro i h hv hex
    obtain ⟨x, hx⟩ := h e List.mem_cons_self
    unfold Instr.findNow
    rw [hx]
    by_cases hk : x = k
    · subst hk
      have hn : Instr.sameNow .string (.string x) (.string x) = some true := congrArg some (bytes_yes x)
      rw [hn]
      exact ⟨i, by rw [← hv e List.mem_cons_self hx]⟩
    · have hb : (k == x) = false := bytes_no fun h => hk h.symm
      have hn : Instr.sameNow .string (.string k) (.string x) = some false := congrArg some hb
      rw [hn]
      refine ih _ (fun e he => h e (List.mem_cons_of_mem _ he)) (fun e he => hv e (List.mem_cons_of_mem _ he)) ?_
      obtain ⟨e2, he2, hk2⟩ := hex
      rcases List.mem_cons.1 he2 with rfl | he2
      · rw [hx] at hk2; injection hk2 with hk2; exact absurd hk2 hk
      · exact ⟨e2, he2, hk2⟩
theorem run_getObj' {P : Program} {w : World} {r clock : Nat} {es : Array MapEntry} (h : w.heap[r]? = some (.map es clock)) : (getObj r).run P w = .ok (.map es clock) w := by
  simp [getObj, Sem.run, h]
theorem run_checkKey {P : Program} {b : Bool} {w : World} {T : TypeId} {k : ByteArray} (h : P.underlying T = some .string) : (Instr.checkKey b 10000 T (.string k)).run P w = .ok () w := by
  unfold Instr.checkKey
  simp only [Sem.run_bind, run_underlying h, Result.andThen, Sem.run_pure]
theorem run_ins {P : Program} {w : World} {b : Nat} {T K E : TypeId} {es : Array MapEntry} {clock : Nat} {k : ByteArray} {v : Value} (hT : P.underlying T = some (.map K E)) (hK : P.underlying K = some .string)
    (h : w.heap[b]? = some (.map es clock)) (hk : ∀ e ∈ es.toList, ∃ x, e.key = .string x ∧ x ≠ k) :
    (Instr.mapUpdate T (.map (some b)) (.string k) v).run P w = .ok () (w.putObj b (.map (es.push ⟨.string k, v, clock⟩) (clock + 1))) := by
  unfold Instr.mapUpdate
  have hf : (Instr.findKey K (.string k) es.toList).run P w = .ok none w := by
    unfold Instr.findKey
    simp only [Sem.run_bind, run_underlying hK, Result.andThen, findNow_none k es.toList 0 hk, Sem.run_pure]
  simp only [Sem.run_bind, run_underlying hT, Result.andThen, run_getObj' h, run_checkKey hK, hf]
  simp [setObj, Sem.run, World.putObj, h]
theorem run_look0 {P : Program} {w : World} {b : Nat} {T K E : TypeId} {es : Array MapEntry} {clock : Nat} {k : ByteArray} {v : Value} (hT : P.underlying T = some (.map K E)) (hK : P.underlying K = some .string)
    (h : w.heap[b]? = some (.map es clock)) (hs : ∀ e ∈ es.toList, ∃ x, e.key = .string x) (hv : ∀ e ∈ es.toList, e.key = .string k → e.val = v) (hx : ∃ e ∈ es.toList, e.key = .string k) :
    (Instr.lookup T (.map (some b)) (.string k) false).run P w = .ok v w := by
  unfold Instr.lookup
  obtain ⟨j, hj⟩ := findNow_some k v es.toList 0 hs hv hx
  have hf : (Instr.findKey K (.string k) es.toList).run P w = .ok (some (j, v)) w := by
    unfold Instr.findKey
    simp only [Sem.run_bind, run_underlying hK, Result.andThen, hj, Sem.run_pure]
  simp only [Sem.run_bind, run_underlying hT, Result.andThen, run_getObj' h, run_checkKey hK, hf, Sem.run_pure, Bool.false_eq_true, if_false]
theorem run_lookno0 {P : Program} {w : World} {b : Nat} {T K E : TypeId} {es : Array MapEntry} {clock : Nat} {k : ByteArray} {z : Value} (hT : P.underlying T = some (.map K E)) (hK : P.underlying K = some .string)
    (h : w.heap[b]? = some (.map es clock)) (hk : ∀ e ∈ es.toList, ∃ x, e.key = .string x ∧ x ≠ k) (hz : (zeroValue E).run P w = .ok z w) :
    (Instr.lookup T (.map (some b)) (.string k) false).run P w = .ok z w := by
  unfold Instr.lookup
  have hf : (Instr.findKey K (.string k) es.toList).run P w = .ok none w := by
    unfold Instr.findKey
    simp only [Sem.run_bind, run_underlying hK, Result.andThen, findNow_none k es.toList 0 hk, Sem.run_pure]
  simp only [Sem.run_bind, run_underlying hT, Result.andThen, run_getObj' h, run_checkKey hK, hf, hz, Sem.run_pure, Bool.false_eq_true, if_false]
variable {P : Program} {Q : Exit → Act → World → Prop} in
theorem wpList_insert {ops : Array Oper} {rest : List Oper} {o : Oper} {a : Act} {w w' : World} (hgd : o.guard = none) (m k v : Operand) (T : TypeId) (ho : o.op = .insert T m k v)
    (hrun : (Instr.mapUpdate T (a.eval m) (a.eval k) (a.eval v)).run P w = .ok () w') (h : wpList P ops Q rest (a.put o.dst undef) w') : wpList P ops Q (o :: rest) a w :=
  wpList_plain hgd fun _ hK => by
    unfold Oper.wp execOp
    simp only [ho, Sem.run_bind, hrun, Result.andThen_ok, Sem.run_pure]
    exact hK _ _ h
theorem ba_inj' {x y : List UInt8} (h : ba x = ba y) : x = y := by rw [← ba_list x, h, ba_list]
/-- How each line is read. -/
def fnOf (k : List UInt8) : Value :=
  if k = kStop then .func (.func 90) #[] #[] else if k = kPath then .func (.func 91) #[] #[] else if k = kDoor then .func (.func 92) #[] #[]
  else if k = kRoute then .func (.func 93) #[] #[] else if k = kTrip then .func (.func 94) #[] #[] else .func (.func 95) #[] #[]
def MapR (m : Nat) (w : World) : Prop :=
  ∃ (es : Array MapEntry) (clock : Nat), w.heap[m]? = some (.map es clock) ∧ (∀ e ∈ es.toList, ∃ k ∈ keysL, e.key = .string (ba k) ∧ e.val = fnOf k) ∧ ∀ k ∈ keysL, ∃ e ∈ es.toList, e.key = .string (ba k)
theorem MapR.keep {m : Nat} {w w' : World} (h : MapR m w) (e : w'.heap[m]? = w.heap[m]?) : MapR m w' := by
  obtain ⟨es, c, h1, h2, h3⟩ := h
  exact ⟨es, c, e.trans h1, h2, h3⟩
theorem map_yes {m : Nat} {w : World} {k : List UInt8} (h : MapR m w) (hk : k ∈ keysL) : (Instr.lookup 103 (.map (some m)) (.string (ba k)) false).run Tryz.prog w = .ok (fnOf k) w := by
  obtain ⟨es, c, h1, h2, h3⟩ := h
  refine run_look0 Tryz.underlying103 Tryz.underlying9 h1 (fun e he => ?_) (fun e he hek => ?_) (h3 k hk)
  · obtain ⟨j, _, h1, _⟩ := h2 e he
    exact ⟨_, h1⟩
  · obtain ⟨j, hj, h1, h4⟩ := h2 e he
    rw [h1] at hek
    injection hek with hek
    rw [h4, ba_inj' hek]
theorem zeroFn (w : World) : (zeroValue 105).run Tryz.prog w = .ok .nilFunc w := by kernel_rfl
theorem map_no {m : Nat} {w : World} {k : List UInt8} (h : MapR m w) (hk : k ∉ keysL) : (Instr.lookup 103 (.map (some m)) (.string (ba k)) false).run Tryz.prog w = .ok .nilFunc w := by
  obtain ⟨es, c, h1, h2, h3⟩ := h
  refine run_lookno0 Tryz.underlying103 Tryz.underlying9 h1 (fun e he => ?_) (zeroFn w)
  obtain ⟨j, hj, h1, _⟩ := h2 e he
  exact ⟨_, h1, fun e => hk (by rw [← ba_inj' e]; exact hj)⟩
/-- A map that holds how these lines are read. -/
def MapL (l : List (List UInt8)) (m : Nat) (w0 w : World) : Prop :=
  (∃ (es : Array MapEntry) (clock : Nat), w.heap[m]? = some (.map es clock) ∧ (∀ e ∈ es.toList, ∃ k ∈ l, e.key = .string (ba k) ∧ e.val = fnOf k) ∧ ∀ k ∈ l, ∃ e ∈ es.toList, e.key = .string (ba k)) ∧ Below m w0 w
theorem MapL.ins {l : List (List UInt8)} {m : Nat} {w0 w : World} {k : List UInt8} (h : MapL l m w0 w) (hk : k ∉ l) :
    ∃ w', (Instr.mapUpdate 103 (.map (some m)) (.string (ba k)) (fnOf k)).run Tryz.prog w = .ok () w' ∧ MapL (l ++ [k]) m w0 w' := by
  obtain ⟨⟨es, c, h1, h2, h3⟩, hb⟩ := h
  have hlt := (Array.getElem?_eq_some_iff.1 h1).1
  refine ⟨_, run_ins (v := fnOf k) Tryz.underlying103 Tryz.underlying9 h1 (fun e he => ?_), ⟨_, _, World.putObj_heap_same hlt, fun e he => ?_, fun j hj => ?_⟩, ?_⟩
  · obtain ⟨j, hj, h4, _⟩ := h2 e he
    exact ⟨_, h4, fun e => hk (by rw [← ba_inj' e]; exact hj)⟩
  · rw [Array.toList_push, List.mem_append] at he
    rcases he with he | he
    · obtain ⟨j, hj, h4⟩ := h2 e he
      exact ⟨j, List.mem_append_left _ hj, h4⟩
    · rw [List.mem_singleton] at he
      subst he
      exact ⟨k, List.mem_append_right _ (List.mem_singleton.2 rfl), rfl, rfl⟩
  · rw [Array.toList_push]
    rcases List.mem_append.1 hj with hj | hj
    · obtain ⟨e, he, hek⟩ := h3 j hj
      exact ⟨e, List.mem_append_left _ he, hek⟩
    · rw [List.mem_singleton] at hj
      subst hj
      exact ⟨_, List.mem_append_right _ (List.mem_singleton.2 rfl), rfl⟩
  · exact hb.trans ⟨rfl, rfl, rfl, by rw [World.putObj_size]; exact Nat.le_refl _, fun i hi => World.putObj_heap_other (by omega)⟩
set_option maxHeartbeats 4000000 in
set_option maxRecDepth 100000 in
theorem reads_any (w : World) : Calls Tryz.prog 67 #[] w fun e w' => e = .returned (.map (some w.heap.size)) ∧ MapR w.heap.size w' ∧ Below w.heap.size w w' := by
  have hmm := @run_makeMap Tryz.prog
  have h0 : MapL [] w.heap.size w (w.alloc (.map #[] 0)) := ⟨⟨#[], 0, World.alloc_heap_new w (.map #[] 0), fun e he => (by cases he), fun k hk => (by cases hk)⟩, (Below.refl _ _).alloc (Nat.le_refl _) _⟩
  obtain ⟨w1, r1, h1⟩ := MapL.ins h0 (k := kStop) (by decide)
  replace r1 : (Instr.mapUpdate 103 (.map (some w.heap.size)) (.string ⟨#[115, 116, 111, 112]⟩) (.func (.func 90) #[] #[])).run Tryz.prog (w.alloc (.map #[] 0)) = .ok () w1 := r1
  obtain ⟨w2, r2, h2⟩ := MapL.ins h1 (k := kPath) (by decide)
  replace r2 : (Instr.mapUpdate 103 (.map (some w.heap.size)) (.string ⟨#[112, 97, 116, 104]⟩) (.func (.func 91) #[] #[])).run Tryz.prog w1 = .ok () w2 := r2
  obtain ⟨w3, r3, h3⟩ := MapL.ins h2 (k := kDoor) (by decide)
  replace r3 : (Instr.mapUpdate 103 (.map (some w.heap.size)) (.string ⟨#[100, 111, 111, 114]⟩) (.func (.func 92) #[] #[])).run Tryz.prog w2 = .ok () w3 := r3
  obtain ⟨w4, r4, h4⟩ := MapL.ins h3 (k := kRoute) (by decide)
  replace r4 : (Instr.mapUpdate 103 (.map (some w.heap.size)) (.string ⟨#[114, 111, 117, 116, 101]⟩) (.func (.func 93) #[] #[])).run Tryz.prog w3 = .ok () w4 := r4
  obtain ⟨w5, r5, h5⟩ := MapL.ins h4 (k := kTrip) (by decide)
  replace r5 : (Instr.mapUpdate 103 (.map (some w.heap.size)) (.string ⟨#[116, 114, 105, 112]⟩) (.func (.func 94) #[] #[])).run Tryz.prog w4 = .ok () w5 := r5
  obtain ⟨w6, r6, h6⟩ := MapL.ins h5 (k := kHazard) (by decide)
  replace r6 : (Instr.mapUpdate 103 (.map (some w.heap.size)) (.string ⟨#[104, 97, 122, 97, 114, 100]⟩) (.func (.func 95) #[] #[])).run Tryz.prog w5 = .ok () w6 := r6
  have HM := Lib.hid h6
  clear h0 h1 h2 h3 h4 h5 h6
  go_enter Tryz.func67, Tryz.ntmps67
  go_wp2_with fail
  go_ret
  exact ⟨rfl, HM.out.1, HM.out.2⟩
end Go.Proofs.YteonefgbdphmiaaGreatDoor
