/- A map of strings that is written in whatever order: an insertion, a look-up (at values of whatever kind). -/
import Derived.Test.YtlclkeihkkpdbaaDoorUc
import Derived.RangeFuncRecord
namespace Go.Proofs.YtlclkeihkkpdbaaDoor
open Go.RowKit
theorem bytes_no {a b : ByteArray} (h : a ≠ b) : (a == b) = false := by
  have e : (a == b) = (a.data == b.data) := by cases a; cases b; rfl
  rw [e, beq_eq_false_iff_ne]
  exact fun h2 => h (ByteArray.ext h2)
theorem bytes_yes (a : ByteArray) : (a == a) = true := by
  have e : (a == a) = (a.data == a.data) := by cases a; rfl
  rw [e, beq_self_eq_true]
theorem findNow_none (k : ByteArray) : ∀ (es : List MapEntry) (i : Nat), (∀ e ∈ es, ∃ x, e.key = .string x ∧ x ≠ k) → Instr.findNow .string (.string k) es i = some none := by
  intro es
  induction es with
  | nil => intro i _; rfl
  | cons e es ih =>
    intro i h
    obtain ⟨x, hx, hne⟩ := h e List.mem_cons_self
    have hb : (k == x) = false := bytes_no fun h => hne h.symm
    have hn : Instr.sameNow .string (.string k) (.string x) = some false := congrArg some hb
    unfold Instr.findNow
    rw [hx, hn]
    exact ih _ fun e he => h e (List.mem_cons_of_mem _ he)
theorem findNow_some (k : ByteArray) (v : Value) : ∀ (es : List MapEntry) (i : Nat), (∀ e ∈ es, ∃ x, e.key = .string x) → (∀ e ∈ es, e.key = .string k → e.val = v) → (∃ e ∈ es, e.key = .string k) →
    ∃ j, Instr.findNow .string (.string k) es i = some (some (j, v)) := by
  intro es
  induction es with
  | nil => rintro i _ _ ⟨e, he, _⟩; cases he
  | cons e es ih =>
    intro i h hv hex
    obtain ⟨x, hx⟩ := h e List.mem_cons_self
    unfold Instr.findNow
    rw [hx]
    by_cases hk : x = k
    · subst hk
      have hn : Instr.sameNow .string (.string x) (.string x) = some true := congrArg some (bytes_yes x)
      rw [hn]
      exact ⟨i, by rw [← hv e List.mem_cons_self hx]⟩
    · have hb : (k == x) = false := bytes_no fun h => hk h.symm
      have hn : Instr.sameNow .string (.string k) (.string x) = some false := congrArg some hb
      rw [hn]
      refine ih _ (fun e he => h e (List.mem_cons_of_mem _ he)) (fun e he => hv e (List.mem_cons_of_mem _ he)) ?_
      obtain ⟨e2, he2, hk2⟩ := hex
      rcases List.mem_cons.1 he2 with rfl | he2
      · rw [hx] at hk2; injection hk2 with hk2; exact absurd hk2 hk
      · exact ⟨e2, he2, hk2⟩
theorem run_getObj' {P : Program} {w : World} {r clock : Nat} {es : Array MapEntry} (h : w.heap[r]? = some (.map es clock)) : (getObj r).run P w = .ok (.map es clock) w := by
  simp [getObj, Sem.run, h]
theorem run_checkKey {P : Program} {b : Bool} {w : World} {T : TypeId} {k : ByteArray} (h : P.underlying T = some .string) : (Instr.checkKey b 10000 T (.string k)).run P w = .ok () w := by
  unfold Instr.checkKey
  simp only [Sem.run_bind, run_underlying h, Result.andThen, Sem.run_pure]
theorem run_ins {P : Program} {w : World} {b : Nat} {T K E : TypeId} {es : Array MapEntry} {clock : Nat} {k : ByteArray} {v : Value} (hT : P.underlying T = some (.map K E)) (hK : P.underlying K = some .string)
    (h : w.heap[b]? = some (.map es clock)) (hk : ∀ e ∈ es.toList, ∃ x, e.key = .string x ∧ x ≠ k) :
    (Instr.mapUpdate T (.map (some b)) (.string k) v).run P w = .ok () (w.putObj b (.map (es.push ⟨.string k, v, clock⟩) (clock + 1))) := by
  unfold Instr.mapUpdate
  have hf : (Instr.findKey K (.string k) es.toList).run P w = .ok none w := by
    unfold Instr.findKey
    simp only [Sem.run_bind, run_underlying hK, Result.andThen, findNow_none k es.toList 0 hk, Sem.run_pure]
  simp only [Sem.run_bind, run_underlying hT, Result.andThen, run_getObj' h, run_checkKey hK, hf]
  simp [setObj, Sem.run, World.putObj, h]
theorem run_look {P : Program} {w : World} {b : Nat} {T K E : TypeId} {es : Array MapEntry} {clock : Nat} {k : ByteArray} {v : Value} (hT : P.underlying T = some (.map K E)) (hK : P.underlying K = some .string)
    (h : w.heap[b]? = some (.map es clock)) (hs : ∀ e ∈ es.toList, ∃ x, e.key = .string x) (hv : ∀ e ∈ es.toList, e.key = .string k → e.val = v) (hx : ∃ e ∈ es.toList, e.key = .string k) :
    (Instr.lookup T (.map (some b)) (.string k) true).run P w = .ok (.tuple #[v, .bool true]) w := by
  unfold Instr.lookup
  obtain ⟨j, hj⟩ := findNow_some k v es.toList 0 hs hv hx
  have hf : (Instr.findKey K (.string k) es.toList).run P w = .ok (some (j, v)) w := by
    unfold Instr.findKey
    simp only [Sem.run_bind, run_underlying hK, Result.andThen, hj, Sem.run_pure]
  simp only [Sem.run_bind, run_underlying hT, Result.andThen, run_getObj' h, run_checkKey hK, hf, Sem.run_pure, if_true]
theorem run_lookno {P : Program} {w : World} {b : Nat} {T K E : TypeId} {es : Array MapEntry} {clock : Nat} {k : ByteArray} {z : Value} (hT : P.underlying T = some (.map K E)) (hK : P.underlying K = some .string)
    (h : w.heap[b]? = some (.map es clock)) (hk : ∀ e ∈ es.toList, ∃ x, e.key = .string x ∧ x ≠ k) (hz : (zeroValue E).run P w = .ok z w) :
    (Instr.lookup T (.map (some b)) (.string k) true).run P w = .ok (.tuple #[z, .bool false]) w := by
  unfold Instr.lookup
  have hf : (Instr.findKey K (.string k) es.toList).run P w = .ok none w := by
    unfold Instr.findKey
    simp only [Sem.run_bind, run_underlying hK, Result.andThen, findNow_none k es.toList 0 hk, Sem.run_pure]
  simp only [Sem.run_bind, run_underlying hT, Result.andThen, run_getObj' h, run_checkKey hK, hf, hz, Sem.run_pure, if_true]
end Go.Proofs.YtlclkeihkkpdbaaDoor
