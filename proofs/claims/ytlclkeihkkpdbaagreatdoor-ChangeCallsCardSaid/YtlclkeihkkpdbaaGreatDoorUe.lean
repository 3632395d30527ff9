/- A map literal whose insertions come in whatever order (of change.blank). -/
import Derived.Test.YtlclkeihkkpdbaaGreatDoorUd
import Derived.Test.YtlclkeihkkpdbaaGreatDoorMh
import Derived.Maps.OwnOps
namespace Go.Proofs.YtlclkeihkkpdbaaGreatDoor
open Go.RowKit
variable {P : Program} {Q : Exit → Act → World → Prop} {S : World → Prop}
theorem wpList_insert {ops : Array Oper} {rest : List Oper} {o : Oper} {a : Act} {w w' : World} (hgd : o.guard = none) (m k v : Operand) (T : TypeId) (ho : o.op = .insert T m k v)
    (hrun : (Instr.mapUpdate T (a.eval m) (a.eval k) (a.eval v)).run P w = .ok () w') (h : wpList P ops Q rest (a.put o.dst undef) w') : wpList P ops Q (o :: rest) a w :=
  wpList_plain hgd fun _ hK => by
    unfold Oper.wp execOp
    simp only [ho, Sem.run_bind, hrun, Result.andThen_ok, Sem.run_pure]
    exact hK _ _ h
theorem goon_listed {kd : Nat → Nat} {ops : Array Oper} {a : Act} {w : World} {n : Nat} {l1 l2 : Array Bool} (h : l1 = l2) (g : GoOn P ops Q S kd n l2 a w) : GoOn P ops Q S kd n l1 a w := h ▸ g
/-- The insertions. -/
def idxI : List Nat := [6, 11, 16, 22, 29, 36, 43]
def lstOf (r : List Nat) : Array Bool := (List.range 46).map (fun i => !(r.contains i || i == 44 || i == 45)) |>.toArray
/-- What the region is asked: an insertion waits for no insertion, the last two wait for all. -/
def edgeB (ops : Array Oper) (i j : Nat) : Bool := match ops[i]? with | some o => o.after.any fun e => e.on == j && Region.binds .any e | none => false
def earlyB (ops : Array Oper) (i : Nat) : Bool := match ops[i]? with | some o => o.after.all fun e => decide (e.on < 46) && !(idxI.contains e.on || e.on == 44 || e.on == 45) | none => false
def tabB (ops : Array Oper) : Bool := decide (ops.size = 46) && idxI.all (fun k => earlyB ops k && edgeB ops 44 k) && edgeB ops 45 44
/-- All are listed but those of r and the last two. -/
def Rest (r : List Nat) (listed : Array Bool) : Prop := listed.size = 46 ∧ (∀ i, i < 46 → ¬ (i ∈ r ∨ i = 44 ∨ i = 45) → listed[i]? = some true) ∧ ∀ i, (i ∈ r ∨ i = 44 ∨ i = 45) → listed[i]? = some false
theorem Rest.start : Rest idxI (lstOf idxI) := by
  refine ⟨by decide +kernel, ?_, ?_⟩
  · have h : (List.range 46).all (fun i => decide (i ∈ idxI ∨ i = 44 ∨ i = 45) || decide ((lstOf idxI)[i]? = some true)) = true := by decide +kernel
    intro i hi hn
    have h1 := List.all_eq_true.1 h i (List.mem_range.2 hi)
    rw [decide_eq_false hn, Bool.false_or] at h1
    exact of_decide_eq_true h1
  · intro i hi
    simp only [idxI, List.mem_cons, List.not_mem_nil, or_false] at hi
    rcases hi with (rfl | rfl | rfl | rfl | rfl | rfl | rfl) | rfl | rfl <;> rfl
theorem Rest.fin {listed : Array Bool} (h : Rest [] listed) : listed = lstOf [] := by
  obtain ⟨h0, h1, h2⟩ := h
  apply Array.ext_getElem?
  intro i
  by_cases hi : i < 46
  · have hl : (List.range 46).all (fun i => decide ((lstOf [])[i]? = some (!(i == 44 || i == 45)))) = true := by decide +kernel
    have h3 := of_decide_eq_true (List.all_eq_true.1 hl i (List.mem_range.2 hi))
    rw [h3]
    by_cases h4 : i = 44 ∨ i = 45
    · rw [h2 i (.inr h4)]
      rcases h4 with rfl | rfl <;> rfl
    · rw [h1 i hi (by rintro (h | h); cases h; exact h4 h)]
      rw [show (i == 44) = false from beq_eq_false_iff_ne.2 fun h => h4 (.inl h), show (i == 45) = false from beq_eq_false_iff_ne.2 fun h => h4 (.inr h)]; rfl
  · have h5 : (lstOf []).size = 46 := by decide +kernel
    rw [Array.getElem?_eq_none (by omega), Array.getElem?_eq_none (by omega)]
theorem Rest.set {r : List Nat} {listed : Array Bool} {k : Nat} (h : Rest r listed) (hk : k ∈ r) (hn : r.Nodup) (hi : k ∈ idxI) : Rest (r.erase k) (listed.setIfInBounds k true) := by
  have hlt : ∀ k ∈ idxI, k < 44 := by decide
  have hk44 := hlt k hi
  have hmem : ∀ j, j ∈ r.erase k ↔ j ≠ k ∧ j ∈ r := fun j => hn.mem_erase_iff
  obtain ⟨h0, h1, h2⟩ := h
  refine ⟨by rw [Array.size_setIfInBounds]; exact h0, fun i hi hni => ?_, fun i hi => ?_⟩
  · by_cases hik : i = k
    · subst hik
      rw [Array.getElem?_setIfInBounds, if_pos rfl, if_pos (by omega)]
    · rw [Array.getElem?_setIfInBounds, if_neg (fun h => hik h.symm)]
      exact h1 i hi fun h => hni (h.imp (fun h => (hmem i).2 ⟨hik, h⟩) id)
  · have hik : i ≠ k := by
      rcases hi with hi | hi
      · exact ((hmem i).1 hi).1
      · omega
    rw [Array.getElem?_setIfInBounds, if_neg (fun h => hik h.symm)]
    exact h2 i (hi.imp (fun h => ((hmem i).1 h).2) id)
theorem getD_of {listed : Array Bool} {i : Nat} {b d : Bool} (h : listed[i]? = some b) : listed.getD i d = b := by
  rw [Array.getD_eq_getD_getElem?, h]; rfl
theorem goon_inserts {a : Act} {l : List Oper} {s1 s2 hd fr : List Nat} (htab : tabB l.toArray = true) (Inv : List Nat → World → Prop)
    (hstep : ∀ r, ∀ k ∈ r, k ∈ idxI → k ∉ r.erase k → ∀ w, Inv r w → hOp P l.toArray (NoPanic Q) S (kdL s1 s2 hd fr) k (fun a' w' => a' = a ∧ Inv (r.erase k) w') a w)
    (hend : ∀ w, Inv [] w → GoOn P l.toArray (NoPanic Q) S (kdL s1 s2 hd fr) 2 (lstOf []) a w) :
    ∀ (n : Nat) (r : List Nat) (listed : Array Bool), r.length = n → r.Nodup → (∀ k ∈ r, k ∈ idxI) → Rest r listed → ∀ w, Inv r w → GoOn P l.toArray (NoPanic Q) S (kdL s1 s2 hd fr) (n + 2) listed a w := by
  unfold tabB at htab
  rw [Bool.and_eq_true, Bool.and_eq_true, decide_eq_true_eq] at htab
  obtain ⟨⟨hsz, hins⟩, h45⟩ := htab
  have hins := List.all_eq_true.1 hins
  intro n
  induction n with
  | zero =>
    intro r listed hr _ _ hR w hI
    obtain rfl := List.eq_nil_of_length_eq_zero hr
    exact goon_listed hR.fin (hend w hI)
  | succ n ih =>
    intro r listed hr hnd hsub hR w hI
    obtain ⟨h0, h1, h2⟩ := hR
    have hin : ∀ k ∈ r, k ∈ Region.ready .any l.toArray listed := fun k hk => by
      refine mem_ready.2 ⟨getD_of (h2 k (.inl hk)), ?_⟩
      have h3 := hins k (hsub k hk)
      rw [Bool.and_eq_true] at h3
      unfold earlyB at h3
      split at h3
      · rename_i o ho
        refine ⟨o, ho, fun e he _ => ?_⟩
        have h4 := Array.all_eq_true_iff_forall_mem.1 h3.1 e he
        rw [Bool.and_eq_true, decide_eq_true_eq, Bool.not_eq_true', Bool.or_eq_false_iff, Bool.or_eq_false_iff] at h4
        obtain ⟨h5, ⟨h6, h7⟩, h8⟩ := h4
        refine getD_of (h1 e.on h5 ?_)
        rintro (h | h | h)
        · rw [List.contains_iff_mem.2 (hsub _ h)] at h6; cases h6
        · rw [h] at h7; cases h7
        · rw [h] at h8; cases h8
      · cases h3.1
    have hof : ∀ k ∈ Region.ready .any l.toArray listed, k ∈ r := fun k hk => by
      obtain ⟨h3, o, ho, hall⟩ := mem_ready.1 hk
      have hlt : k < 46 := by have := (Array.getElem?_eq_some_iff.1 ho).1; omega
      have hwait : ∀ i j, edgeB l.toArray i j = true → i = k → listed[j]? = some false → False := fun i j he hik hj => by
        subst hik
        unfold edgeB at he
        rw [ho] at he
        obtain ⟨e, he1, he2⟩ := Array.any_eq_true'.1 he
        rw [Bool.and_eq_true, beq_iff_eq] at he2
        have := hall e he1 he2.2
        rw [he2.1, getD_of hj] at this
        cases this
      refine Classical.byContradiction fun hkr => ?_
      by_cases h44 : k = 44
      · cases r with
        | nil => cases hr
        | cons j r =>
          have h5 := hins j (hsub j List.mem_cons_self)
          rw [Bool.and_eq_true] at h5
          exact hwait 44 j h5.2 h44.symm (h2 j (.inl List.mem_cons_self))
      · by_cases h5 : k = 45
        · exact hwait 45 44 h45 h5.symm (h2 44 (.inr (.inl rfl)))
        · have := getD_of (d := true) (h1 k hlt (by rintro (h | h | h); exact hkr h; exact h44 h; exact h5 h))
          rw [h3] at this; cases this
    intro inv
    refine ⟨fun hnil => ?_, fun k hk => ?_⟩
    · cases r with
      | nil => cases hr
      | cons j r => have := hin j List.mem_cons_self; rw [hnil] at this; cases this
    · have hkr := hof k hk
      refine hOp_mono ?_ (hstep r k hkr (hsub k hkr) (fun h => (hnd.mem_erase_iff.1 h).1 rfl) w hI)
      rintro a' w' ⟨rfl, hI'⟩
      exact ih (r.erase k) _ (by rw [List.length_erase_of_mem hkr]; omega) (hnd.erase k) (fun j hj => hsub j (List.mem_of_mem_erase hj)) (Rest.set ⟨h0, h1, h2⟩ hkr hnd (hsub k hkr)) w' hI' (inv.set hk)
/-- What is put under a word, the form in block b. -/
def keyI : Nat → List UInt8
  | 6 => wName | 11 => wNo | 16 => wPos | 22 => wTicks | 29 => wFrom | 36 => wEvery | _ => wLen
def valI (b : Nat) : Nat → Value
  | 6 => .agg (fdc b .name).toArray | 11 => .agg (fdc b (.num 8 0)).toArray | 16 => .agg (fdc b (.num 9 0)).toArray | 22 => .agg (fdc b (.num 4 1)).toArray | 29 => .agg (fdc b (.num 5 0)).toArray | 36 => .agg (fdc b (.num 6 0)).toArray | _ => .agg (fdc b (.num 7 0)).toArray
/-- The map in block m of world W0 holds all but those of r. -/
def MapI (W0 : World) (m b : Nat) (r : List Nat) (w : World) : Prop :=
  ∃ (es : Array MapEntry) (clock n : Nat), w = (W0.putObj m (.map es clock)).drewN n ∧ m < W0.heap.size ∧ (∀ e ∈ es.toList, ∃ k ∈ idxI, k ∉ r ∧ e.key = .string (ba (keyI k)) ∧ e.val = valI b k) ∧ (∀ k ∈ idxI, k ∉ r → ∃ e ∈ es.toList, e.key = .string (ba (keyI k)))
theorem keyI_inj : ∀ j ∈ idxI, ∀ k ∈ idxI, keyI j = keyI k → j = k := by decide
theorem ba_inj' {x y : List UInt8} (h : ba x = ba y) : x = y := by rw [← ba_list x, h, ba_list]
theorem putObj_putObj (w : World) (b : Nat) (o1 o2 : Obj) : (w.putObj b o1).putObj b o2 = w.putObj b o2 := by
  unfold World.putObj
  simp
theorem drewN_putObj (w : World) (n b : Nat) (o : Obj) : (w.drewN n).putObj b o = (w.putObj b o).drewN n := rfl
theorem MapI.step {W0 : World} {m b k : Nat} {r : List Nat} {w : World} {T K E : TypeId} (h : MapI W0 m b r w) (hT : P.underlying T = some (.map K E)) (hK : P.underlying K = some .string) (hk : k ∈ r) (hi : k ∈ idxI) (hn : k ∉ r.erase k) (n1 : Nat) :
    ∃ w', (Instr.mapUpdate T (.map (some m)) (.string (ba (keyI k))) (valI b k)).run P (w.drewN n1) = .ok () w' ∧ MapI W0 m b (r.erase k) w' := by
  obtain ⟨es, clock, n, rfl, hm, h1, h2⟩ := h
  have hh : (((W0.putObj m (.map es clock)).drewN n).drewN n1).heap[m]? = some (.map es clock) := World.putObj_heap_same hm
  have hmem : ∀ j, j ∈ r.erase k ↔ j ≠ k ∧ j ∈ r := fun j => by
    constructor
    · intro h
      exact ⟨fun e => by rw [e] at h; exact hn h, List.mem_of_mem_erase h⟩
    · rintro ⟨h, h'⟩
      exact (List.mem_erase_of_ne h).2 h'
  refine ⟨_, run_ins hT hK hh fun e he => ?_, ?_⟩
  · obtain ⟨j, hj, hjr, hjk, _⟩ := h1 e he
    exact ⟨_, hjk, fun h => hjr (by rw [keyI_inj j hj k hi (ba_inj' h)]; exact hk)⟩
  · refine ⟨es.push ⟨.string (ba (keyI k)), valI b k, clock⟩, clock + 1, n + n1, ?_, hm, ?_, ?_⟩
    · rw [drewN_putObj, drewN_putObj, putObj_putObj]
      first | rfl | exact World.drewN_drewN _ _ _
    · intro e he
      rw [Array.toList_push, List.mem_append] at he
      rcases he with he | he
      · obtain ⟨j, hj, hjr, hjk, hjv⟩ := h1 e he
        exact ⟨j, hj, fun h => hjr ((hmem j).1 h).2, hjk, hjv⟩
      · rw [List.mem_singleton] at he
        subst he
        exact ⟨k, hi, hn, rfl, rfl⟩
    · intro j hj hjr
      rw [Array.toList_push]
      by_cases hjk : j = k
      · subst hjk
        exact ⟨_, List.mem_append_right _ (List.mem_singleton.2 rfl), rfl⟩
      · obtain ⟨e, he, hek⟩ := h2 j hj fun h => hjr ((hmem j).2 ⟨hjk, h⟩)
        exact ⟨e, List.mem_append_left _ he, hek⟩
theorem putObj_id {w : World} {b : Nat} {o : Obj} (h : w.heap[b]? = some o) : w.putObj b o = w := by
  have e : w.heap.setIfInBounds b o = w.heap := by
    apply Array.ext_getElem?
    intro i
    rw [Array.getElem?_setIfInBounds]
    split
    · rename_i hi
      subst hi
      have := (Array.getElem?_eq_some_iff.1 h).1
      rw [if_pos this, h]
    · rfl
  unfold World.putObj
  rw [e]
theorem MapI.init {w : World} (b n : Nat) : MapI ((w.drewN n).alloc (.map #[] 0)) w.heap.size b idxI ((w.drewN n).alloc (.map #[] 0)) := by
  have h : ((w.drewN n).alloc (.map #[] 0)).heap[w.heap.size]? = some (.map #[] 0) := World.alloc_heap_new (w.drewN n) (.map #[] 0)
  exact ⟨#[], 0, 0, (by rw [putObj_id h]; rfl), (Array.getElem?_eq_some_iff.1 h).1, (fun e he => by cases he), fun k hk hn => absurd hk hn⟩
/-- The map's entries, all written. -/
def Looks (es : Array MapEntry) (b : Nat) : Prop := (∀ e ∈ es.toList, ∃ k ∈ idxI, e.key = .string (ba (keyI k)) ∧ e.val = valI b k) ∧ ∀ k ∈ idxI, ∃ e ∈ es.toList, e.key = .string (ba (keyI k))
theorem MapI.fin {w1 W : World} {n1 m b : Nat} (h : MapI ((w1.drewN n1).alloc (.map #[] 0)) m b [] W) (hm : w1.heap.size = m) : (∃ es clock, W.heap[m]? = some (.map es clock) ∧ Looks es b) ∧ Below m w1 W ∧ W.heap.size = m + 1 := by
  obtain ⟨es, clock, n, rfl, hlt, h1, h2⟩ := h
  refine ⟨⟨es, clock, World.putObj_heap_same hlt, fun e he => ?_, fun k hk => h2 k hk (by simp)⟩, ?_, ?_⟩
  · obtain ⟨k, hk, _, h3, h4⟩ := h1 e he
    exact ⟨k, hk, h3, h4⟩
  · refine below_drewN ?_ n
    have hb : Below m w1 ((w1.drewN n1).alloc (.map #[] 0)) := (below_drewN (Below.refl _ _) n1).alloc (by exact Nat.le_of_eq hm.symm) _
    exact hb.trans ⟨rfl, rfl, rfl, by simp, fun k hk => World.putObj_heap_other (by omega)⟩
  · show (World.putObj _ _ _).heap.size = _
    rw [World.putObj_size]
    simp [hm]
theorem fldOf_cases (wd : List UInt8) : (∃ k ∈ idxI, wd = keyI k ∧ ∀ b, valI b k = .agg (fdc b (fldOf wd)).toArray) ∨ ((∀ k ∈ idxI, wd ≠ keyI k) ∧ fldOf wd = .word wd) := by
  by_cases h1 : wd = wName
  · subst h1; exact .inl ⟨6, by decide, rfl, fun _ => rfl⟩
  by_cases h2 : wd = wNo
  · subst h2; exact .inl ⟨11, by decide, rfl, fun _ => rfl⟩
  by_cases h3 : wd = wPos
  · subst h3; exact .inl ⟨16, by decide, rfl, fun _ => rfl⟩
  by_cases h4 : wd = wTicks
  · subst h4; exact .inl ⟨22, by decide, rfl, fun _ => rfl⟩
  by_cases h5 : wd = wFrom
  · subst h5; exact .inl ⟨29, by decide, rfl, fun _ => rfl⟩
  by_cases h6 : wd = wEvery
  · subst h6; exact .inl ⟨36, by decide, rfl, fun _ => rfl⟩
  by_cases h7 : wd = wLen
  · subst h7; exact .inl ⟨43, by decide, rfl, fun _ => rfl⟩
  refine .inr ⟨fun k hk => ?_, ?_⟩
  · simp only [idxI, List.mem_cons, List.not_mem_nil, or_false] at hk
    rcases hk with rfl | rfl | rfl | rfl | rfl | rfl | rfl <;> assumption
  · unfold fldOf
    rw [if_neg h1, if_neg h2, if_neg h3, if_neg h4, if_neg h5, if_neg h6, if_neg h7]
theorem zeroFld (w : World) : (zeroValue 61).run Tryz.prog w = .ok (.agg #[.string ⟨#[]⟩, .pointer none, .pointer none, .int .i64 0]) w := by kernel_rfl
theorem look_yes {w : World} {m clock b k : Nat} {es : Array MapEntry} {v : Value} (h : w.heap[m]? = some (.map es clock)) (hL : Looks es b) (hk : k ∈ idxI) (hv : valI b k = v) :
    (Instr.lookup 78 (.map (some m)) (.string (ba (keyI k))) true).run Tryz.prog w = .ok (.tuple #[v, .bool true]) w := by
  refine run_look Tryz.underlying78 Tryz.underlying9 h (fun e he => ?_) (fun e he hek => ?_) (hL.2 k hk)
  · obtain ⟨j, _, h1, _⟩ := hL.1 e he
    exact ⟨_, h1⟩
  · obtain ⟨j, hj, h1, h2⟩ := hL.1 e he
    rw [h1] at hek
    injection hek with hek
    rw [h2, keyI_inj j hj k hk (ba_inj' hek), hv]
theorem look_no {w : World} {m clock b : Nat} {es : Array MapEntry} {wd : List UInt8} (h : w.heap[m]? = some (.map es clock)) (hL : Looks es b) (hn : ∀ k ∈ idxI, wd ≠ keyI k) :
    (Instr.lookup 78 (.map (some m)) (.string (ba wd)) true).run Tryz.prog w = .ok (.tuple #[.agg #[.string ⟨#[]⟩, .pointer none, .pointer none, .int .i64 0], .bool false]) w := by
  refine run_lookno Tryz.underlying78 Tryz.underlying9 h (fun e he => ?_) (zeroFld w)
  obtain ⟨j, hj, h1, _⟩ := hL.1 e he
  exact ⟨_, h1, fun e => hn j hj (ba_inj' e).symm⟩
theorem Ow.keepB {α : Type} {c : α → List Value} {size base : Nat} {e : TypeId} {v : Value} {l : List α} {w w' : World} (h : Ow c size w base e v l) (hk : ∀ b, base ≤ b → b < w.heap.size → w'.heap[b]? = w.heap[b]?) : Ow c size w' base e v l := by
  refine ⟨h.1, ?_⟩
  rcases h.2 with h0 | ⟨g, cap, cur, rfl, h1, h2, h3⟩
  · exact .inl h0
  · exact .inr ⟨g, cap, cur, rfl, h1, (hk g h1 (Array.getElem?_eq_some_iff.1 h2).1).trans h2, h3⟩
/-- A block that holds a list. -/
theorem Sl.block {α : Type} {c : α → List Value} {size : Nat} {w : World} {B n : Nat} {t : TypeId} {fr : Nat × Nat} {cs : Array Value} (l : List α) (hc : ∀ a, (c a).length = size) (hb : w.heap[B]? = some (.cells cs t fr)) (hcs : cs.toList = l.flatMap c) (hn : l.length = n) (hm : n ≤ maxLen) :
    Sl c size w (.slice (some ⟨B, 0, none⟩) n n) l (fun _ => True) := by
  subst hn
  refine ⟨_, l.length, rfl, Nat.le_refl _, hm, fun _ => ⟨B, 0, rfl, (Array.getElem?_eq_some_iff.1 hb).1, trivial, fun i x hx j u hu => ?_⟩⟩
  rw [cell_of_row _ B _ cs t fr hb, ← Array.getElem?_toList, hcs, Nat.zero_add]
  exact flat_at hc l i x hx j u hu
theorem wordsD_len (k : Int) : (wordsD k).length ≤ 8 := by
  unfold wordsD
  (repeat' split) <;> decide
end Go.Proofs.YtlclkeihkkpdbaaGreatDoor
