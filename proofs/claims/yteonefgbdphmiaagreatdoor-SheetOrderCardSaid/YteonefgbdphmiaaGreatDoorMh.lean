/- A region that draws its order: one walk of one order serves every order, where the operations that write memory (the serial ones) wait for one another, and the others only read; some of these (held) hang on a condition S alone, that the serial ones keep; nothing of the program. -/
import Derived.Deep.QuietTactic
import Derived.BigQuiet
import Derived.StillTail
import Derived.Deep.RegionHeld3
namespace Go.Proofs.YteonefgbdphmiaaGreatDoor
open Go
theorem or_both {a b c d : Prop} (f : a → c) (g : b → d) (h : a ∨ b) : c ∨ d := by
  rcases h with h | h
  · exact .inl (f h)
  · exact .inr (g h)
section
variable {P : Program} {ops : Array Oper} {Q : Exit → Act → World → Prop} {md : Region.Mode} {kd : Nat → Nat} {S : World → Prop}

/-- Operation number i, as the walk meets it. Kinds: 0 it only reads (one value in all worlds that are w after some draws); 1 serial, it keeps S; 2 serial; 3 held, it yields one value in every world that meets S; 4 it yields one value in whatever world. -/
def hOp (P : Program) (ops : Array Oper) (Q : Exit → Act → World → Prop) (S : World → Prop) (kd : Nat → Nat) (i : Nat) (K : Act → World → Prop) (a : Act) (w : World) : Prop :=
  match kd i with
  | 0 => qOp P ops (fun w' => ∃ n, w' = w.drewN n) i (fun a' => K a' w) a
  | 1 => ∀ n, wpOp P ops Q i (fun a' w' => S w' ∧ K a' w') a (w.drewN n)
  | 2 => ∀ n, wpOp P ops Q i K a (w.drewN n)
  | _ => qOp P ops (fun w' => ∃ n, w' = w.drewN n) i (fun a' => K a' w) a

theorem hOp_mono {i : Nat} {a : Act} {w : World} {K K' : Act → World → Prop} (h : ∀ a w, K a w → K' a w) (hh : hOp P ops Q S kd i K a w) : hOp P ops Q S kd i K' a w := by
  unfold hOp at *
  split at hh
  · exact qOp_mono (fun a => h a w) hh
  · exact fun n => wpOp_mono (fun a w h' => ⟨h'.1, h _ _ h'.2⟩) (hh n)
  · exact fun n => wpOp_mono h (hh n)
  · exact qOp_mono (fun a => h a w) hh

def wpAnyK (P : Program) (md : Region.Mode) (ops : Array Oper) (Q : Exit → Act → World → Prop) (S : World → Prop) (kd : Nat → Nat) : Nat → Array Bool → Act → World → Prop
  | 0, listed, a, w => Region.ready md ops listed = [] ∧ ∀ n, Q .normal a (w.drewN n)
  | fuel + 1, listed, a, w =>
    (Region.ready md ops listed = [] → ∀ n, Q .normal a (w.drewN n)) ∧
    ∀ i ∈ Region.ready md ops listed, hOp P ops Q S kd i (fun a' w' => wpAnyK P md ops Q S kd fuel (listed.setIfInBounds i true) a' w') a w

theorem wpAny_of_kinds : ∀ (fuel : Nat) (listed : Array Bool) (a : Act) (w : World) (n : Nat), wpAnyK P md ops Q S kd fuel listed a w → wpAny P md ops Q fuel listed a (w.drewN n)
  | 0, _, _, _, _, h => ⟨h.1, h.2 _⟩
  | fuel + 1, listed, a, w, n, h => by
    refine ⟨fun h0 => h.1 h0 n, fun i hi => ?_⟩
    have h1 := h.2 i hi
    have down : ∀ a' w', wpAnyK P md ops Q S kd fuel (listed.setIfInBounds i true) a' w' → wpAny P md ops Q fuel (listed.setIfInBounds i true) a' w' := fun a' w' h' => by
      have := wpAny_of_kinds fuel _ a' w' 0 h'; rwa [World.drewN_zero] at this
    have quiet : ∀ {K}, (∀ a' m, K a' → wpAny P md ops Q fuel (listed.setIfInBounds i true) a' (w.drewN m)) → qOp P ops (fun w' => ∃ n, w' = w.drewN n) i K a → wpOp P ops Q i (wpAny P md ops Q fuel (listed.setIfInBounds i true)) a (w.drewN n) := fun hK h =>
      wpOp_of_qOp (C := fun w' => ∃ n, w' = w.drewN n) ⟨n, rfl⟩ (fun a' w' hw' h' => by obtain ⟨m, rfl⟩ := hw'; exact hK a' m h') h
    unfold hOp at h1
    split at h1
    · exact quiet (fun a' m h' => wpAny_of_kinds fuel _ a' w m h') h1
    · exact wpOp_mono (fun a' w' h' => down a' w' h'.2) (h1 n)
    · exact wpOp_mono down (h1 n)
    · exact quiet (fun a' m h' => wpAny_of_kinds fuel _ a' w m h') h1

/-! ### What is listed is closed -/
def Closed (md : Region.Mode) (ops : Array Oper) (listed : Array Bool) : Prop :=
  ∀ j oj, ops[j]? = some oj → listed.getD j false = true → ∀ e ∈ oj.after, Region.binds md e = true → listed.getD e.on false = true
theorem Closed.set {i : Nat} {listed : Array Bool} (inv : Closed md ops listed) (hi : i ∈ Region.ready md ops listed) : Closed md ops (listed.setIfInBounds i true) := by
  obtain ⟨_, oi, hoi, hall⟩ := mem_ready.1 hi
  intro j oj hj hl e he hb
  by_cases hij : i = j
  · subst hij
    have : oj = oi := Option.some.inj (hj.symm.trans hoi)
    subst this
    exact getD_set_true (hall e he hb)
  · rw [getD_set_ne false hij] at hl
    exact getD_set_true (inv j oj hj hl e he hb)
theorem Closed.none (n : Nat) : Closed md ops (Array.replicate n false) := fun j oj _ hl => by rw [getD_replicate_false] at hl; cases hl

/-- Number j comes up only behind number i. -/
def Needs (md : Region.Mode) (ops : Array Oper) (j i : Nat) : Prop := ∀ listed, Closed md ops listed → j ∈ Region.ready md ops listed → i ≠ j → listed.getD i false = true

/-- All that number j waits for: marked from above to below. -/
def marks (md : Region.Mode) (ops : Array Oper) : Nat → List Nat → List Nat
  | 0, m => m
  | n + 1, m => marks md ops n (if m.contains n then (match ops[n]? with | some o => (o.after.toList.filter (Region.binds md ·)).map (·.on) ++ m | none => m) else m)
theorem marks_spec {j : Nat} : ∀ (n : Nat) (m : List Nat), (∀ i ∈ m, i = j ∨ Needs md ops j i) → ∀ i ∈ marks md ops n m, i = j ∨ Needs md ops j i
  | 0, _, h => h
  | n + 1, m, h => by
    unfold marks
    refine marks_spec n _ ?_
    intro i hi
    split at hi
    · rename_i hn
      have hn' : n ∈ m := by simpa using hn
      split at hi
      · rename_i o ho
        rcases List.mem_append.1 hi with hi | hi
        · obtain ⟨e, he, rfl⟩ := List.mem_map.1 hi
          obtain ⟨he, hb⟩ := List.mem_filter.1 he
          have he' : e ∈ o.after := by simpa using he
          refine .inr fun listed hc hr hne => ?_
          rcases h n hn' with rfl | hN
          · obtain ⟨_, oj, hoj, hall⟩ := mem_ready.1 hr
            have : oj = o := Option.some.inj (hoj.symm.trans ho)
            subst this
            exact hall e he' hb
          · by_cases hnj : n = j
            · subst hnj
              obtain ⟨_, oj, hoj, hall⟩ := mem_ready.1 hr
              have : oj = o := Option.some.inj (hoj.symm.trans ho)
              subst this
              exact hall e he' hb
            · exact hc n o ho (hN listed hc hr hnj) e he' hb
        · exact h i hi
      · exact h i hi
    · exact h i hi
def needsB (md : Region.Mode) (ops : Array Oper) (j i : Nat) : Bool := (marks md ops (j + 1) [j]).contains i
theorem needsB_spec {j i : Nat} (h : needsB md ops j i = true) : i = j ∨ Needs md ops j i :=
  marks_spec (j + 1) [j] (fun i hi => .inl (by simpa using hi)) i (by simpa [needsB] using h)

/-! ### An operation taken first -/
theorem qOp_putY {C : World → Prop} {Y : Act → Prop} {j : Nat} {oi oj : Oper} {v : Value} (hj : ops[j]? = some oj) (hap : oi.apart ops oj = true)
    (hsj : ∀ cs b, oj.op ≠ .select cs b) (keep : ∀ a u, Y a → Y (a.put oj.dst u)) {K : Act → Prop} {a : Act}
    (hy : Y a) (h : qOp P ops C j K (a.put oi.dst v)) : qOp P ops C j (fun a' => Y a' ∧ K (a'.put oi.dst v)) a := by
  obtain ⟨h1, h2, h3⟩ := Oper.apart_spec hap
  unfold qOp at *
  simp only [hj] at *
  rw [wanted_put oj a oi.dst v h1] at h
  split
  · rename_i hw
    simp only [hw, if_true] at h
    obtain ⟨u, hu, hn⟩ := h
    refine ⟨u, fun w hw' => ?_, keep a u hy, by rw [← Act.put_comm a v u h2]; exact hn⟩
    have := hu w hw'
    unfold Oper.quietAt at *
    rwa [execOp_put oj hsj a oi.dst v h1] at this
  · rename_i hw
    simp only [hw] at h
    exact ⟨keep a _ hy, by rw [← Act.put_comm a v undef h2]; exact h⟩

/-- How number i is known to be free of what is serial: no serial operation that is left comes up ahead of it; or it yields in whatever world meets S, and none that is left and may break S comes up ahead of it. -/
def Free (P : Program) (md : Region.Mode) (ops : Array Oper) (S : World → Prop) (kd : Nat → Nat) (i : Nat) (oi : Oper) (v : Value) (listed : Array Bool) (a : Act) : Prop :=
  (∀ j, (kd j = 1 ∨ kd j = 2) → listed.getD j true = false → Needs md ops j i) ∨ (YieldsIf P ops S oi v a ∧ ∀ j, kd j = 2 → listed.getD j true = false → Needs md ops j i) ∨ Yields P ops oi v a

theorem yieldsIf_in {oi : Oper} {v : Value} {a : Act} {w : World} (hS : ∀ n, S (w.drewN n)) (h : YieldsIf P ops S oi v a) : YieldsIn P ops (fun w' => ∃ n, w' = w.drewN n) oi v a :=
  or_both (fun ⟨hw, hv⟩ => ⟨hw, fun w'' hw'' => by obtain ⟨n, rfl⟩ := hw''; unfold Oper.quietAt; rw [hv _ (hS n)]; exact ⟨rfl, rfl⟩⟩) id h

theorem yields_in {C : World → Prop} {oi : Oper} {v : Value} {a : Act} (h : Yields P ops oi v a) : YieldsIn P ops C oi v a :=
  or_both (fun ⟨hw, hv⟩ => ⟨hw, fun w'' _ => by unfold Oper.quietAt; rw [hv w'']; exact ⟨rfl, rfl⟩⟩) id h

theorem wpAnyK_first {i : Nat} {oi : Oper} {v : Value} (hi : ops[i]? = some oi) (hkd : kd i ≠ 1 ∧ kd i ≠ 2) (hdr : ∀ w n, S w → S (w.drewN n)) (hsel : ∀ (j : Nat) (o : Oper) cs b, ops[j]? = some o → o.op ≠ .select cs b)
    (hQ : ∀ c a w, Q (.panic c) (a.put oi.dst v) w → Q (.panic c) a w) :
    ∀ (fuel : Nat) (listed : Array Bool) (a : Act) (w : World), Closed md ops listed →
      (∀ j oj, ops[j]? = some oj → j ≠ i → listed.getD j true = false → (∀ e ∈ oj.after, Region.binds md e = true → e.on ≠ i) → oi.apart ops oj = true) →
      i ∈ Region.ready md ops listed → YieldsIn P ops (fun w' => ∃ n, w' = w.drewN n) oi v a → Free P md ops S kd i oi v listed a →
      wpAnyK P md ops Q S kd fuel (listed.setIfInBounds i true) (a.put oi.dst v) w → wpAnyK P md ops Q S kd (fuel + 1) listed a w := by
  intro fuel
  have self : ∀ {a : Act} {w : World} {K : Act → World → Prop}, YieldsIn P ops (fun w' => ∃ n, w' = w.drewN n) oi v a → K (a.put oi.dst v) w → hOp P ops Q S kd i K a w := by
    intro a w K hy H
    unfold hOp
    split
    · exact hy.qOp hi H
    · rename_i h; exact absurd h hkd.1
    · rename_i h; exact absurd h hkd.2
    · exact hy.qOp hi H
  induction fuel with
  | zero =>
    intro listed a w _ _ hr hy _ H
    refine ⟨fun h => (by rw [h] at hr; cases hr), fun j hj => ?_⟩
    by_cases hji : j = i
    · subst hji; exact self hy H
    · have := ready_mono hj hji
      rw [H.1] at this
      cases this
  | succ fuel ih =>
    intro listed a w inv hfree hr hy hlo H
    refine ⟨fun h => (by rw [h] at hr; cases hr), fun j hj => ?_⟩
    by_cases hji : j = i
    · subst hji; exact self hy H
    · have h1 := H.2 j (ready_mono hj hji)
      obtain ⟨hjun, oj, hoj, hall⟩ := mem_ready.1 hj
      have hun := (mem_ready.1 hr).1
      have hnot : ∀ e ∈ oj.after, Region.binds md e = true → e.on ≠ i := fun e he hb heq => by
        have h1 := hall e he hb
        rw [heq, getD_both hun] at h1
        cases h1
      have hap := hfree j oj hoj hji hjun hnot
      obtain ⟨_, _, h3⟩ := Oper.apart_spec hap
      have hsi := fun cs b => hsel i oi cs b hi
      have hsj := fun cs b => hsel j oj cs b hoj
      have keepI : ∀ {C : World → Prop} (a : Act) (u : Value), YieldsIn P ops C oi v a → YieldsIn P ops C oi v (a.put oj.dst u) := fun a u hy =>
        hy.of_same (execOp_put oi hsi a oj.dst u h3) (wanted_put oi a oj.dst u h3)
      have keepY : ∀ (a : Act) (u : Value), YieldsIf P ops S oi v a → YieldsIf P ops S oi v (a.put oj.dst u) := fun a u hy =>
        hy.of_same (execOp_put oi hsi a oj.dst u h3) (wanted_put oi a oj.dst u h3)
      have keepZ : ∀ (a : Act) (u : Value), Yields P ops oi v a → Yields P ops oi v (a.put oj.dst u) := fun a u hy =>
        hy.of_same (execOp_put oi hsi a oj.dst u h3) (wanted_put oi a oj.dst u h3)
      have hfree' : ∀ k ok, ops[k]? = some ok → k ≠ i → (listed.setIfInBounds j true).getD k true = false →
          (∀ e ∈ ok.after, Region.binds md e = true → e.on ≠ i) → oi.apart ops ok = true := fun k ok hk hki hun hno => by
        refine hfree k ok hk hki ?_ hno
        by_cases hjk : j = k
        · subst hjk; exact hjun
        · rw [getD_set_ne true hjk] at hun; exact hun
      have hneeds : ∀ {p : Nat → Prop}, (∀ k, p k → listed.getD k true = false → Needs md ops k i) → ∀ k, p k → (listed.setIfInBounds j true).getD k true = false → Needs md ops k i := fun h k hk hun => by
        refine h k hk ?_
        by_cases hjk : j = k
        · subst hjk; exact hjun
        · rw [getD_set_ne true hjk] at hun; exact hun
      have hblock : Needs md ops j i → False := fun hN => by
        have := hN listed inv hj (fun e => hji e.symm)
        rw [getD_both hun] at this
        cases this
      have go : ∀ a' w', YieldsIn P ops (fun w'' => ∃ n, w'' = w'.drewN n) oi v a' → Free P md ops S kd i oi v (listed.setIfInBounds j true) a' →
          wpAnyK P md ops Q S kd fuel ((listed.setIfInBounds i true).setIfInBounds j true) (a'.put oi.dst v) w' → wpAnyK P md ops Q S kd (fuel + 1) (listed.setIfInBounds j true) a' w' := fun a' w' hy' hlo' h => by
        refine ih (listed.setIfInBounds j true) a' w' (inv.set hj) hfree' (ready_mono hr (Ne.symm hji)) hy' hlo' ?_
        rw [Array.setIfInBounds_comm _ _ hji]
        exact h
      have quiet : qOp P ops (fun w' => ∃ n, w' = w.drewN n) j (fun a' => wpAnyK P md ops Q S kd fuel ((listed.setIfInBounds i true).setIfInBounds j true) a' w) (a.put oi.dst v) →
          qOp P ops (fun w' => ∃ n, w' = w.drewN n) j (fun a' => wpAnyK P md ops Q S kd (fuel + 1) (listed.setIfInBounds j true) a' w) a := fun h1 => by
        refine qOp_mono (fun a' h' => go a' w h'.1.1 h'.1.2 h'.2) (qOp_putY (Y := fun a' => YieldsIn P ops (fun w' => ∃ n, w' = w.drewN n) oi v a' ∧ Free P md ops S kd i oi v (listed.setIfInBounds j true) a') hoj hap hsj (fun a u h => ⟨keepI a u h.1, or_both id (or_both (fun h => ⟨keepY a u h.1, h.2⟩) (keepZ a u)) h.2⟩) ⟨hy, ?_⟩ h1)
        exact or_both (fun h => hneeds h) (or_both (fun h => ⟨h.1, hneeds h.2⟩) id) hlo
      unfold hOp at h1 ⊢
      split
      · rename_i hk; rw [hk] at h1; exact quiet h1
      · rename_i hk
        rw [hk] at h1
        rcases hlo with hN | ⟨hY, hN⟩ | hZ
        · exact absurd (hN j (.inl hk) hjun) hblock
        · exact fun n => wpOp_mono (fun a' w' h' => ⟨h'.2.1, go a' w' (yieldsIf_in (fun n => hdr w' n h'.2.1) h'.1) (.inr (.inl ⟨h'.1, hneeds hN⟩)) h'.2.2⟩)
            (wpOp_putIf (K := fun a' w' => S w' ∧ wpAnyK P md ops Q S kd fuel ((listed.setIfInBounds i true).setIfInBounds j true) a' w') hoj hap hsi hsj hQ hY (h1 n))
        · exact fun n => wpOp_mono (fun a' w' h' => ⟨h'.2.1, go a' w' (yields_in h'.1) (.inr (.inr h'.1)) h'.2.2⟩)
            (wpOp_put (K := fun a' w' => S w' ∧ wpAnyK P md ops Q S kd fuel ((listed.setIfInBounds i true).setIfInBounds j true) a' w') hoj hap hsi hsj hQ hZ (h1 n))
      · rename_i hk
        rw [hk] at h1
        rcases hlo with hN | ⟨hY, hN⟩ | hZ
        · exact (hblock (hN j (.inr hk) hjun)).elim
        · exact (hblock (hN j hk hjun)).elim
        · exact fun n => wpOp_mono (fun a' w' h' => go a' w' (yields_in h'.1) (.inr (.inr h'.1)) h'.2)
            (wpOp_put (K := fun a' w' => wpAnyK P md ops Q S kd fuel ((listed.setIfInBounds i true).setIfInBounds j true) a' w') hoj hap hsi hsj hQ hZ (h1 n))
      · rename_i h0 h1' h2
        have e : ∀ {α : Type} {x y z u : α}, (match kd j with | 0 => x | 1 => y | 2 => z | _ => u) = u := by
          intro α x y z u
          split
          · rename_i h; exact absurd h h0
          · rename_i h; exact absurd h h1'
          · rename_i h; exact absurd h h2
          · rfl
        rw [e] at h1
        exact quiet h1

/-! ### One order -/
def freeB (md : Region.Mode) (ops : Array Oper) (kd : Nat → Nat) (listed : Array Bool) (k : Nat) : Bool :=
  kd k == 4 || (List.range ops.size).all fun j => (if kd k == 0 then kd j != 1 && kd j != 2 else kd j != 2) || listed.getD j true || needsB md ops j k
/-- The walk; what stands behind it is 'fin'. -/
def wpKind (P : Program) (ops : Array Oper) (Q : Exit → Act → World → Prop) (S : World → Prop) (kd : Nat → Nat) (fin : Act → World → Prop) : List Nat → Act → World → Prop
  | [], a, w => fin a w
  | k :: rest, a, w => if kd k = 0 ∨ kd k = 1 ∨ kd k = 2 then hOp P ops Q S kd k (wpKind P ops Q S kd fin rest) a w
    else if kd k = 4 then ∃ o v, ops[k]? = some o ∧ Yields P ops o v a ∧ wpKind P ops Q S kd fin rest (a.put o.dst v) w
    else ∃ o v, ops[k]? = some o ∧ S w ∧ YieldsIf P ops S o v a ∧ wpKind P ops Q S kd fin rest (a.put o.dst v) w
/-- Each step of it may be taken. -/
def stepsB (md : Region.Mode) (ops : Array Oper) (kd : Nat → Nat) : List Nat → Array Bool → Bool
  | [], _ => true
  | k :: rest, listed => (if kd k == 1 || kd k == 2 then decide (Region.ready md ops listed = [k]) else (Region.ready md ops listed).contains k && Region.free md ops listed k && freeB md ops kd listed k) && stepsB md ops kd rest (listed.setIfInBounds k true)
/-- What is listed behind the steps. -/
def listedBy (l : List Nat) (listed : Array Bool) : Array Bool := l.foldl (fun s k => s.setIfInBounds k true) listed
/-- Whatever order is picked from here on, the listed ones closed. -/
def GoOn (P : Program) (ops : Array Oper) (Q : Exit → Act → World → Prop) (S : World → Prop) (kd : Nat → Nat) (fuel : Nat) (listed : Array Bool) (a : Act) (w : World) : Prop :=
  Closed .any ops listed → wpAnyK P .any ops Q S kd fuel listed a w

theorem wpAnyK_lex (hsel : Region.noSelect ops = true) (hkd : ∀ j, kd j ≠ 0 → j < ops.size) (hdr : ∀ w n, S w → S (w.drewN n)) (hQ : ∀ c (a : Act) d v w, Q (.panic c) (a.put d v) w → Q (.panic c) a w) (fuel : Nat) : ∀ (l : List Nat) (listed : Array Bool) (a : Act) (w : World), Closed .any ops listed →
    stepsB .any ops kd l listed = true → wpKind P ops Q S kd (GoOn P ops Q S kd fuel (listedBy l listed)) l a w → wpAnyK P .any ops Q S kd (fuel + l.length) listed a w
  | [], _, _, _, inv, _, h => h inv
  | k :: l, listed, a, w, inv, hB, h => by
    simp only [stepsB, Bool.and_eq_true] at hB
    obtain ⟨hk, hB'⟩ := hB
    by_cases hs : kd k = 1 ∨ kd k = 2
    · rw [if_pos (by simpa using hs)] at hk
      have hr : Region.ready .any ops listed = [k] := by simpa using hk
      refine ⟨fun h1 => (by rw [hr] at h1; cases h1), fun i hi => ?_⟩
      have hik : i = k := by rw [hr] at hi; simpa using hi
      subst hik
      have h' : hOp P ops Q S kd i (wpKind P ops Q S kd (GoOn P ops Q S kd fuel (listedBy (i :: l) listed)) l) a w := by
        unfold wpKind at h
        rwa [if_pos (.inr hs)] at h
      exact hOp_mono (fun a' w' h' => wpAnyK_lex hsel hkd hdr hQ fuel l _ a' w' (inv.set hi) hB' h') h'
    · rw [if_neg (by simpa using hs)] at hk
      simp only [Bool.and_eq_true] at hk
      obtain ⟨⟨hr, hf⟩, hlo⟩ := hk
      have hr' : k ∈ Region.ready .any ops listed := by simpa using hr
      obtain ⟨_, o, ho, _⟩ := mem_ready.1 hr'
      have hs' : kd k ≠ 1 ∧ kd k ≠ 2 := ⟨fun e => hs (.inl e), fun e => hs (.inr e)⟩
      have hall : kd k ≠ 4 → ∀ j, (if kd k == 0 then kd j != 1 && kd j != 2 else kd j != 2) = false → listed.getD j true = false → Needs .any ops j k := fun h4 j hj hun => by
        have hlt : j < ops.size := hkd j (by intro e; rw [e] at hj; revert hj; split <;> simp)
        have hlo' : ((List.range ops.size).all fun j => (if kd k == 0 then kd j != 1 && kd j != 2 else kd j != 2) || listed.getD j true || needsB .any ops j k) = true := by
          unfold freeB at hlo
          rw [Bool.or_eq_true] at hlo
          rcases hlo with h | h
          · exact absurd (by simpa using h) h4
          · exact h
        have := List.all_eq_true.1 hlo' j (List.mem_range.2 hlt)
        simp only [hj, hun, Bool.false_or] at this
        rcases needsB_spec this with e | h
        · subst e
          exfalso
          revert hj
          split <;> simp [hs'.1, hs'.2]
        · exact h
      have first := fun v => wpAnyK_first (P := P) (v := v) ho hs' hdr (Region.noSelect_spec hsel) (fun c a w => hQ c a _ _ w) (fuel + l.length) listed a w inv (Region.free_spec ho hf) hr'
      by_cases h0 : kd k = 0
      · have h1 : qOp P ops (fun w' => ∃ n, w' = w.drewN n) k (fun a' => wpKind P ops Q S kd (GoOn P ops Q S kd fuel (listedBy (k :: l) listed)) l a' w) a := by
          unfold wpKind at h
          rw [if_pos (.inl h0)] at h
          unfold hOp at h
          rwa [h0] at h
        obtain ⟨v, hy, hK⟩ := yieldsIn_of_qOp ho h1
        refine first v hy (.inl fun j hj hun => hall (by rw [h0]; decide) j ?_ hun) (wpAnyK_lex hsel hkd hdr hQ fuel l _ _ _ (inv.set hr') hB' hK)
        rw [if_pos (by simpa using h0)]
        rcases hj with hj | hj <;> simp [hj]
      · unfold wpKind at h
        rw [if_neg (by rintro (h | h); exact h0 h; exact hs h)] at h
        by_cases h4 : kd k = 4
        · rw [if_pos h4] at h
          obtain ⟨o', v, ho', hy, hK⟩ := h
          have : o' = o := Option.some.inj (ho'.symm.trans ho)
          subst this
          exact first v (yields_in hy) (.inr (.inr hy)) (wpAnyK_lex hsel hkd hdr hQ fuel l _ _ _ (inv.set hr') hB' hK)
        · rw [if_neg h4] at h
          obtain ⟨o', v, ho', hSw, hy, hK⟩ := h
          have : o' = o := Option.some.inj (ho'.symm.trans ho)
          subst this
          refine first v (yieldsIf_in (fun n => hdr w n hSw) hy) (.inr (.inl ⟨hy, fun j hj hun => hall h4 j ?_ hun⟩)) (wpAnyK_lex hsel hkd hdr hQ fuel l _ _ _ (inv.set hr') hB' hK)
          rw [if_neg (by simpa using h0)]
          simp [hj]

theorem wpKind_mono {fin fin' : Act → World → Prop} (h : ∀ a w, fin a w → fin' a w) : ∀ (l : List Nat) (a : Act) (w : World), wpKind P ops Q S kd fin l a w → wpKind P ops Q S kd fin' l a w
  | [], a, w, hh => h a w hh
  | k :: l, a, w, hh => by
    unfold wpKind at hh ⊢
    split
    · rename_i hk; rw [if_pos hk] at hh; exact hOp_mono (fun a w => wpKind_mono h l a w) hh
    · rename_i hk
      rw [if_neg hk] at hh
      split
      · rename_i h4
        rw [if_pos h4] at hh
        obtain ⟨o, v, h1, h2, h3⟩ := hh
        exact ⟨o, v, h1, h2, wpKind_mono h l _ _ h3⟩
      · rename_i h4
        rw [if_neg h4] at hh
        obtain ⟨o, v, h1, h2, h2', h3⟩ := hh
        exact ⟨o, v, h1, h2, h2', wpKind_mono h l _ _ h3⟩

/-- The kinds by lists: serial ones that keep S; serial ones; held ones; those that hang on no world. -/
def kdL (s1 s2 h f : List Nat) (i : Nat) : Nat := if s1.contains i then 1 else if s2.contains i then 2 else if h.contains i then 3 else if f.contains i then 4 else 0
def kindAll (ops : Array Oper) (s1 s2 h f l : List Nat) : Bool := Region.noSelect ops && (s1 ++ s2 ++ h ++ f).all (fun j => decide (j < ops.size)) && decide (l.length = ops.size) && stepsB .any ops (kdL s1 s2 h f) l (Array.replicate ops.size false) && (Region.ready .any ops (listedBy l (Array.replicate ops.size false))).isEmpty

theorem kd_lt {ops : Array Oper} {s1 s2 hd fr : List Nat} (hs : ((s1 ++ s2 ++ hd ++ fr).all fun j => decide (j < ops.size)) = true) (j : Nat) (hj : kdL s1 s2 hd fr j ≠ 0) : j < ops.size := by
  have hmem : j ∈ s1 ++ s2 ++ hd ++ fr := by
    unfold kdL at hj
    simp only [List.mem_append]
    split at hj
    · rename_i h; exact .inl (.inl (.inl (by simpa using h)))
    · split at hj
      · rename_i h; exact .inl (.inl (.inr (by simpa using h)))
      · split at hj
        · rename_i h; exact .inl (.inr (by simpa using h))
        · split at hj
          · rename_i h; exact .inr (by simpa using h)
          · exact absurd rfl hj
  have := List.all_eq_true.1 hs j hmem
  simpa using this
/-- The region is shown not to panic. -/
theorem wp_region_kinds {id : Nat} {a : Act} {w : World} {l : List Oper} (S : World → Prop) (s1 s2 hd fr σ : List Nat) (hm : P.follows .mixedOrders = true) (hB : kindAll l.toArray s1 s2 hd fr σ = true)
    (hdr : ∀ w n, S w → S (w.drewN n)) (h : wpKind P l.toArray (NoPanic Q) S (kdL s1 s2 hd fr) (fun a w => ∀ n, Q .normal a (w.drewN n)) σ a w) : (Code.region id l.toArray true).wp P Q a w := by
  refine wp_region_noPanic ?_
  simp only [kindAll, Bool.and_eq_true, decide_eq_true_eq] at hB
  obtain ⟨⟨⟨⟨hsel, hs⟩, hlen⟩, hB⟩, hend⟩ := hB
  refine wp_region_any hm ?_
  have h' := wpKind_mono (fin' := GoOn P l.toArray (NoPanic Q) S (kdL s1 s2 hd fr) 0 (listedBy σ (Array.replicate l.toArray.size false))) (fun a w hf _ => ⟨by simpa using hend, hf⟩) σ a w h
  have := wpAny_of_kinds (md := .any) _ _ _ _ 1 (wpAnyK_lex hsel (kd_lt hs) hdr (fun _ _ _ _ _ h => h) 0 σ _ a w (Closed.none _) hB h')
  rw [Nat.zero_add, hlen] at this
  exact this
/-- The same, some of the way: what is left goes in whatever order. -/
def headAll (ops : Array Oper) (s1 s2 h f : List Nat) : Bool := Region.noSelect ops && (s1 ++ s2 ++ h ++ f).all (fun j => decide (j < ops.size))
theorem wp_region_goon {id : Nat} {a : Act} {w : World} {l : List Oper} (S : World → Prop) (s1 s2 hd fr : List Nat) (hm : P.follows .mixedOrders = true)
    (h : GoOn P l.toArray (NoPanic Q) S (kdL s1 s2 hd fr) l.length (Array.replicate l.length false) a w) : (Code.region id l.toArray true).wp P Q a w := by
  refine wp_region_noPanic ?_
  refine wp_region_any hm ?_
  exact wpAny_of_kinds (md := .any) _ _ _ _ 1 (h (Closed.none _))
theorem goon_walk {a : Act} {w : World} {l : List Oper} {s1 s2 hd fr : List Nat} {n : Nat} {listed : Array Bool} (σ : List Nat) (fuel : Nat) (hf : n = fuel + σ.length) (hA : headAll l.toArray s1 s2 hd fr = true) (hB : stepsB .any l.toArray (kdL s1 s2 hd fr) σ listed = true)
    (hdr : ∀ w n, S w → S (w.drewN n)) (h : wpKind P l.toArray (NoPanic Q) S (kdL s1 s2 hd fr) (GoOn P l.toArray (NoPanic Q) S (kdL s1 s2 hd fr) fuel (listedBy σ listed)) σ a w) : GoOn P l.toArray (NoPanic Q) S (kdL s1 s2 hd fr) n listed a w := fun inv => by
  simp only [headAll, Bool.and_eq_true] at hA
  subst hf
  exact wpAnyK_lex hA.1 (kd_lt hA.2) hdr (fun _ _ _ _ _ h => h) fuel σ _ a w inv hB h
/-- Two that may come up: either one first. -/
theorem goon_two {a : Act} {w : World} {l : List Oper} {s1 s2 hd fr : List Nat} {n : Nat} {listed : Array Bool} (i j : Nat) (hr : Region.ready .any l.toArray listed = [i, j])
    (h1 : hOp P l.toArray (NoPanic Q) S (kdL s1 s2 hd fr) i (GoOn P l.toArray (NoPanic Q) S (kdL s1 s2 hd fr) n (listed.setIfInBounds i true)) a w)
    (h2 : hOp P l.toArray (NoPanic Q) S (kdL s1 s2 hd fr) j (GoOn P l.toArray (NoPanic Q) S (kdL s1 s2 hd fr) n (listed.setIfInBounds j true)) a w) : GoOn P l.toArray (NoPanic Q) S (kdL s1 s2 hd fr) (n + 1) listed a w := fun inv => by
  have m1 : i ∈ Region.ready .any l.toArray listed := by rw [hr]; simp
  have m2 : j ∈ Region.ready .any l.toArray listed := by rw [hr]; simp
  refine ⟨fun h0 => (by rw [hr] at h0; cases h0), fun k hk => ?_⟩
  rw [hr] at hk
  rcases List.mem_cons.1 hk with rfl | hk
  · exact hOp_mono (fun a w h => h (inv.set m1)) h1
  · rcases List.mem_cons.1 hk with rfl | hk
    · exact hOp_mono (fun a w h => h (inv.set m2)) h2
    · cases hk
/-- All have come up. -/
theorem goon_end {a : Act} {w : World} {l : List Oper} {s1 s2 hd fr : List Nat} {listed : Array Bool} (hr : (Region.ready .any l.toArray listed).isEmpty = true) (h : ∀ n, Q .normal a (w.drewN n)) : GoOn P l.toArray (NoPanic Q) S (kdL s1 s2 hd fr) 0 listed a w := fun _ =>
  ⟨by simpa using hr, h⟩
theorem quiet_of_eq {f : FuncId} {args : Array Value} {w : World} {n : Nat} {v : Value}
    (h : Calls P f args (w.drewN n) fun e w' => e = .returned v ∧ w.drewN n = w') : Calls P f args (w.drewN n) fun e w'' => e = .returned v ∧ ∃ m, w'' = w.drewN m :=
  h.mono fun _ _ ⟨he, hm⟩ => ⟨he, n, hm.symm⟩

/-! ### The moves of the walk -/
section
variable {fin : Act → World → Prop} {s1 s2 hd fr rest : List Nat} {k : Nat} {o : Oper} {l : List Oper} {a : Act} {w : World}
/-- One operation that only reads. -/
theorem wpKind_one (hs : kdL s1 s2 hd fr k = 0) (ho : l[k]? = some o)
    (h : wpQuiet P l.toArray (fun w' => ∃ n, w' = w.drewN n) (fun a' => wpKind P l.toArray Q S (kdL s1 s2 hd fr) fin rest a' w) [o] a) : wpKind P l.toArray Q S (kdL s1 s2 hd fr) fin (k :: rest) a w := by
  unfold wpKind
  rw [if_pos (.inl hs)]
  unfold hOp
  rw [hs]
  show qOp _ _ _ _ _ _
  unfold qOp
  simp only [List.getElem?_toArray, ho]
  exact h
/-- One that is held. -/
theorem wpKind_held {v : Value} (hs : kdL s1 s2 hd fr k = 3) (ho : l[k]? = some o) (hw : Region.wanted o (yielded l.toArray a.tmps) = true) (hS : S w)
    (hy : ∀ w, S w → (execOp a.eval o).run P w = .ok (.value v) w) (h : wpKind P l.toArray Q S (kdL s1 s2 hd fr) fin rest (a.put o.dst v) w) : wpKind P l.toArray Q S (kdL s1 s2 hd fr) fin (k :: rest) a w := by
  unfold wpKind
  rw [if_neg (by rw [hs]; decide), if_neg (by rw [hs]; decide)]
  exact ⟨o, v, by simpa using ho, hS, .inl ⟨hw, hy⟩, h⟩
/-- One that hangs on no world. -/
theorem wpKind_free {v : Value} (hs : kdL s1 s2 hd fr k = 4) (ho : l[k]? = some o) (hw : Region.wanted o (yielded l.toArray a.tmps) = true)
    (hy : ∀ w, (execOp a.eval o).run P w = .ok (.value v) w) (h : wpKind P l.toArray Q S (kdL s1 s2 hd fr) fin rest (a.put o.dst v) w) : wpKind P l.toArray Q S (kdL s1 s2 hd fr) fin (k :: rest) a w := by
  unfold wpKind
  rw [if_neg (by rw [hs]; decide), if_pos hs]
  exact ⟨o, v, by simpa using ho, .inl ⟨hw, hy⟩, h⟩
/-- Where a serial operation goes on. -/
def KindK (P : Program) (ops : Array Oper) (Q : Exit → Act → World → Prop) (S : World → Prop) (kd : Nat → Nat) (fin : Act → World → Prop) (rest : List Nat) : Exit → Act → World → Prop
  | .normal, a, w => wpKind P ops Q S kd fin rest a w
  | e, a, w => Q e a w
def KindS (P : Program) (ops : Array Oper) (Q : Exit → Act → World → Prop) (S : World → Prop) (kd : Nat → Nat) (fin : Act → World → Prop) (rest : List Nat) : Exit → Act → World → Prop
  | .normal, a, w => S w ∧ wpKind P ops Q S kd fin rest a w
  | e, a, w => Q e a w
theorem wpOp_of_list {ops : Array Oper} {Q' : Exit → Act → World → Prop} {K : Act → World → Prop} (ho : ops[k]? = some o) (hn : ∀ a w, Q' .normal a w = K a w) (hp : ∀ c a w, Q' (.panic c) a w → Q (.panic c) a w) (hl : LetsOut Q' → LetsOut Q)
    (h1 : wpList P ops Q' [o] a w) : wpOp P ops Q k K a w := by
  unfold wpOp
  unfold wpList at h1
  simp only [ho]
  split at h1
  · rename_i hw
    rw [if_pos hw]
    rcases h1 with h1 | ⟨h1, h2⟩
    · refine .inl ?_
      unfold Oper.wp at *
      generalize (execOp a.eval o).run P w = r at *
      cases r with
      | ok x w' =>
        cases x <;> simp only [Oper.upon, wpList, hn] at h1 ⊢ <;> first
          | exact h1
          | exact Calls.mono h1 (fun e w'' he => by cases e <;> first | exact he | exact hp _ _ _ he | exact hl he)
      | halt x w' =>
        cases x <;> simp only [Oper.upon] at h1 ⊢ <;> first | exact h1 | exact hp _ _ _ h1
    · exact .inr ⟨h1, hl h2⟩
  · rename_i hw
    rw [if_neg hw]
    have : Q' .normal (a.put o.dst undef) w := h1
    rwa [hn] at this
theorem wpKind_serial (hs : kdL s1 s2 hd fr k = 2) (ho : l[k]? = some o)
    (h : ∀ n, wpList P l.toArray (KindK P l.toArray Q S (kdL s1 s2 hd fr) fin rest) [o] a (w.drewN n)) : wpKind P l.toArray Q S (kdL s1 s2 hd fr) fin (k :: rest) a w := by
  unfold wpKind
  rw [if_pos (by rw [hs]; decide)]
  unfold hOp
  rw [hs]
  exact fun n => wpOp_of_list (Q' := KindK P l.toArray Q S (kdL s1 s2 hd fr) fin rest) (by simpa using ho) (fun _ _ => rfl) (fun _ _ _ h => h) (fun h => h) (h n)
theorem wpKind_keeps (hs : kdL s1 s2 hd fr k = 1) (ho : l[k]? = some o)
    (h : ∀ n, wpList P l.toArray (KindS P l.toArray Q S (kdL s1 s2 hd fr) fin rest) [o] a (w.drewN n)) : wpKind P l.toArray Q S (kdL s1 s2 hd fr) fin (k :: rest) a w := by
  unfold wpKind
  rw [if_pos (by rw [hs]; decide)]
  unfold hOp
  rw [hs]
  exact fun n => wpOp_of_list (Q' := KindS P l.toArray Q S (kdL s1 s2 hd fr) fin rest) (by simpa using ho) (fun _ _ => rfl) (fun _ _ _ h => h) (fun h => h) (h n)
theorem wpKind_nil (h : ∀ n, Q .normal a (w.drewN n)) : wpKind P l.toArray (NoPanic Q) S (kdL s1 s2 hd fr) (fun a w => ∀ n, Q .normal a (w.drewN n)) [] a w := h
theorem wpKind_fin (h : fin a w) : wpKind P l.toArray Q S (kdL s1 s2 hd fr) fin [] a w := h
/-- A serial operation alone. -/
def OnK (Q : Exit → Act → World → Prop) (K : Act → World → Prop) : Exit → Act → World → Prop
  | .normal, a, w => K a w
  | e, a, w => Q e a w
def OnS (Q : Exit → Act → World → Prop) (S : World → Prop) (K : Act → World → Prop) : Exit → Act → World → Prop
  | .normal, a, w => S w ∧ K a w
  | e, a, w => Q e a w
theorem hOp_keeps {K : Act → World → Prop} (hs : kdL s1 s2 hd fr k = 1) (ho : l[k]? = some o) (h : ∀ n, wpList P l.toArray (OnS Q S K) [o] a (w.drewN n)) : hOp P l.toArray Q S (kdL s1 s2 hd fr) k K a w := by
  unfold hOp
  rw [hs]
  exact fun n => wpOp_of_list (Q' := OnS Q S K) (by simpa using ho) (fun _ _ => rfl) (fun _ _ _ h => h) (fun h => h) (h n)
theorem hOp_serial {K : Act → World → Prop} (hs : kdL s1 s2 hd fr k = 2) (ho : l[k]? = some o) (h : ∀ n, wpList P l.toArray (OnK Q K) [o] a (w.drewN n)) : hOp P l.toArray Q S (kdL s1 s2 hd fr) k K a w := by
  unfold hOp
  rw [hs]
  exact fun n => wpOp_of_list (Q' := OnK Q K) (by simpa using ho) (fun _ _ => rfl) (fun _ _ _ h => h) (fun h => h) (h n)
end
end
end Go.Proofs.YteonefgbdphmiaaGreatDoor
