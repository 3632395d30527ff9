/- A region that draws its order: one walk of one order serves every order, where the operations that write memory (the serial ones) wait for one another, and the others only read; nothing of the program. -/
import Derived.Deep.QuietTactic
import Derived.BigQuiet
import Derived.StillTail
import Derived.Deep.RegionHeld3
namespace Go.Proofs.YtaaladekamfpnaaDoor
open Go
theorem or_both {a b c d : Prop} (f : a → c) (g : b → d) (h : a ∨ b) : c ∨ d := by
  rcases h with h | h
  · exact .inl (f h)
  · exact .inr (g h)
section
variable {P : Program} {ops : Array Oper} {Q : Exit → Act → World → Prop} {md : Region.Mode} {ser : Nat → Bool}

/-- Operation number i, as the walk meets it: a serial one in every world that is w after some draws; another one yields one value in all of them. -/
def mOp (P : Program) (ops : Array Oper) (Q : Exit → Act → World → Prop) (ser : Nat → Bool) (i : Nat) (K : Act → World → Prop) (a : Act) (w : World) : Prop :=
  if ser i = true then ∀ n, wpOp P ops Q i K a (w.drewN n) else qOp P ops (fun w' => ∃ n, w' = w.drewN n) i (fun a' => K a' w) a

theorem mOp_mono {i : Nat} {a : Act} {w : World} {K K' : Act → World → Prop} (h : ∀ a w, K a w → K' a w) (hh : mOp P ops Q ser i K a w) : mOp P ops Q ser i K' a w := by
  unfold mOp at *
  split
  · rename_i hs; rw [if_pos hs] at hh; exact fun n => wpOp_mono h (hh n)
  · rename_i hs; rw [if_neg hs] at hh; exact qOp_mono (fun a => h a w) hh

def wpAnyM (P : Program) (md : Region.Mode) (ops : Array Oper) (Q : Exit → Act → World → Prop) (ser : Nat → Bool) : Nat → Array Bool → Act → World → Prop
  | 0, listed, a, w => Region.ready md ops listed = [] ∧ ∀ n, Q .normal a (w.drewN n)
  | fuel + 1, listed, a, w =>
    (Region.ready md ops listed = [] → ∀ n, Q .normal a (w.drewN n)) ∧
    ∀ i ∈ Region.ready md ops listed, mOp P ops Q ser i (fun a' w' => wpAnyM P md ops Q ser fuel (listed.setIfInBounds i true) a' w') a w

theorem wpAny_of_mixed : ∀ (fuel : Nat) (listed : Array Bool) (a : Act) (w : World) (n : Nat), wpAnyM P md ops Q ser fuel listed a w → wpAny P md ops Q fuel listed a (w.drewN n)
  | 0, _, _, _, _, h => ⟨h.1, h.2 _⟩
  | fuel + 1, listed, a, w, n, h => by
    refine ⟨fun h0 => h.1 h0 n, fun i hi => ?_⟩
    have h1 := h.2 i hi
    unfold mOp at h1
    split at h1
    · exact wpOp_mono (fun a' w' h' => by have := wpAny_of_mixed fuel _ a' w' 0 h'; rwa [World.drewN_zero] at this) (h1 n)
    · exact wpOp_of_qOp (C := fun w' => ∃ n, w' = w.drewN n) ⟨n, rfl⟩ (fun a' w' hw' h' => by obtain ⟨m, rfl⟩ := hw'; exact wpAny_of_mixed fuel _ a' w m h') h1

/-! ### What is listed is closed -/
def Closed (md : Region.Mode) (ops : Array Oper) (listed : Array Bool) : Prop :=
  ∀ j oj, ops[j]? = some oj → listed.getD j false = true → ∀ e ∈ oj.after, Region.binds md e = true → listed.getD e.on false = true
theorem Closed.set {i : Nat} {listed : Array Bool} (inv : Closed md ops listed) (hi : i ∈ Region.ready md ops listed) : Closed md ops (listed.setIfInBounds i true) := by
  obtain ⟨_, oi, hoi, hall⟩ := mem_ready.1 hi
  intro j oj hj hl e he hb
  by_cases hij : i = j
  · subst hij
    have : oj = oi := Option.some.inj (hj.symm.trans hoi)
    subst this
    exact getD_set_true (hall e he hb)
  · rw [getD_set_ne false hij] at hl
    exact getD_set_true (inv j oj hj hl e he hb)
theorem Closed.none (n : Nat) : Closed md ops (Array.replicate n false) := fun j oj _ hl => by rw [getD_replicate_false] at hl; cases hl

/-- Number j comes up only behind number i. -/
def Needs (md : Region.Mode) (ops : Array Oper) (j i : Nat) : Prop := ∀ listed, Closed md ops listed → j ∈ Region.ready md ops listed → i ≠ j → listed.getD i false = true

/-- All that number j waits for: marked from above to below. -/
def marks (md : Region.Mode) (ops : Array Oper) : Nat → List Nat → List Nat
  | 0, m => m
  | n + 1, m => marks md ops n (if m.contains n then (match ops[n]? with | some o => (o.after.toList.filter (Region.binds md ·)).map (·.on) ++ m | none => m) else m)
theorem marks_spec {j : Nat} : ∀ (n : Nat) (m : List Nat), (∀ i ∈ m, i = j ∨ Needs md ops j i) → ∀ i ∈ marks md ops n m, i = j ∨ Needs md ops j i
  | 0, _, h => h
  | n + 1, m, h => by
    unfold marks
    refine marks_spec n _ ?_
    intro i hi
    split at hi
    · rename_i hn
      have hn' : n ∈ m := by simpa using hn
      split at hi
      · rename_i o ho
        rcases List.mem_append.1 hi with hi | hi
        · obtain ⟨e, he, rfl⟩ := List.mem_map.1 hi
          obtain ⟨he, hb⟩ := List.mem_filter.1 he
          have he' : e ∈ o.after := by simpa using he
          refine .inr fun listed hc hr hne => ?_
          rcases h n hn' with rfl | hN
          · obtain ⟨_, oj, hoj, hall⟩ := mem_ready.1 hr
            have : oj = o := Option.some.inj (hoj.symm.trans ho)
            subst this
            exact hall e he' hb
          · by_cases hnj : n = j
            · subst hnj
              obtain ⟨_, oj, hoj, hall⟩ := mem_ready.1 hr
              have : oj = o := Option.some.inj (hoj.symm.trans ho)
              subst this
              exact hall e he' hb
            · exact hc n o ho (hN listed hc hr hnj) e he' hb
        · exact h i hi
      · exact h i hi
    · exact h i hi
def needsB (md : Region.Mode) (ops : Array Oper) (j i : Nat) : Bool := (marks md ops (j + 1) [j]).contains i
theorem needsB_spec {j i : Nat} (h : needsB md ops j i = true) : i = j ∨ Needs md ops j i :=
  marks_spec (j + 1) [j] (fun i hi => .inl (by simpa using hi)) i (by simpa [needsB] using h)

/-! ### An operation taken first -/
theorem qOp_putY {C : World → Prop} {Y : Act → Prop} {j : Nat} {oi oj : Oper} {v : Value} (hj : ops[j]? = some oj) (hap : oi.apart ops oj = true)
    (hsj : ∀ cs b, oj.op ≠ .select cs b) (keep : ∀ a u, Y a → Y (a.put oj.dst u)) {K : Act → Prop} {a : Act}
    (hy : Y a) (h : qOp P ops C j K (a.put oi.dst v)) : qOp P ops C j (fun a' => Y a' ∧ K (a'.put oi.dst v)) a := by
  obtain ⟨h1, h2, h3⟩ := Oper.apart_spec hap
  unfold qOp at *
  simp only [hj] at *
  rw [wanted_put oj a oi.dst v h1] at h
  split
  · rename_i hw
    simp only [hw, if_true] at h
    obtain ⟨u, hu, hn⟩ := h
    refine ⟨u, fun w hw' => ?_, keep a u hy, by rw [← Act.put_comm a v u h2]; exact hn⟩
    have := hu w hw'
    unfold Oper.quietAt at *
    rwa [execOp_put oj hsj a oi.dst v h1] at this
  · rename_i hw
    simp only [hw] at h
    exact ⟨keep a _ hy, by rw [← Act.put_comm a v undef h2]; exact h⟩

/-- How number i is known to be free of what is serial: it yields in whatever world; or no serial operation that is left comes up ahead of it. -/
def Loose (P : Program) (md : Region.Mode) (ops : Array Oper) (ser : Nat → Bool) (i : Nat) (oi : Oper) (v : Value) (listed : Array Bool) (a : Act) : Prop :=
  Yields P ops oi v a ∨ ∀ j, ser j = true → listed.getD j true = false → Needs md ops j i

theorem wpAnyM_first {i : Nat} {oi : Oper} {v : Value} (hi : ops[i]? = some oi) (hser : ser i = false) (hsel : ∀ (j : Nat) (o : Oper) cs b, ops[j]? = some o → o.op ≠ .select cs b)
    (hQ : ∀ c a w, Q (.panic c) (a.put oi.dst v) w → Q (.panic c) a w) :
    ∀ (fuel : Nat) (listed : Array Bool) (a : Act) (w : World), Closed md ops listed →
      (∀ j oj, ops[j]? = some oj → j ≠ i → listed.getD j true = false → (∀ e ∈ oj.after, Region.binds md e = true → e.on ≠ i) → oi.apart ops oj = true) →
      i ∈ Region.ready md ops listed → YieldsIn P ops (fun w' => ∃ n, w' = w.drewN n) oi v a → Loose P md ops ser i oi v listed a →
      wpAnyM P md ops Q ser fuel (listed.setIfInBounds i true) (a.put oi.dst v) w → wpAnyM P md ops Q ser (fuel + 1) listed a w := by
  intro fuel
  have self : ∀ {listed : Array Bool} {a : Act} {w : World} {K : Act → World → Prop}, YieldsIn P ops (fun w' => ∃ n, w' = w.drewN n) oi v a → K (a.put oi.dst v) w → mOp P ops Q ser i K a w := by
    intro listed a w K hy H
    unfold mOp
    rw [if_neg (by simp [hser])]
    exact hy.qOp hi H
  induction fuel with
  | zero =>
    intro listed a w _ _ hr hy _ H
    refine ⟨fun h => (by rw [h] at hr; cases hr), fun j hj => ?_⟩
    by_cases hji : j = i
    · subst hji; exact self (listed := listed) hy H
    · have := ready_mono hj hji
      rw [H.1] at this
      cases this
  | succ fuel ih =>
    intro listed a w inv hfree hr hy hlo H
    refine ⟨fun h => (by rw [h] at hr; cases hr), fun j hj => ?_⟩
    by_cases hji : j = i
    · subst hji; exact self (listed := listed) hy H
    · have h1 := H.2 j (ready_mono hj hji)
      obtain ⟨hjun, oj, hoj, hall⟩ := mem_ready.1 hj
      have hun := (mem_ready.1 hr).1
      have hnot : ∀ e ∈ oj.after, Region.binds md e = true → e.on ≠ i := fun e he hb heq => by
        have h1 := hall e he hb
        rw [heq, getD_both hun] at h1
        cases h1
      have hap := hfree j oj hoj hji hjun hnot
      obtain ⟨_, _, h3⟩ := Oper.apart_spec hap
      have hsi := fun cs b => hsel i oi cs b hi
      have hsj := fun cs b => hsel j oj cs b hoj
      have keepI : ∀ {C : World → Prop} (a : Act) (u : Value), YieldsIn P ops C oi v a → YieldsIn P ops C oi v (a.put oj.dst u) := fun a u hy =>
        hy.of_same (execOp_put oi hsi a oj.dst u h3) (wanted_put oi a oj.dst u h3)
      have keepY : ∀ (a : Act) (u : Value), Yields P ops oi v a → Yields P ops oi v (a.put oj.dst u) := fun a u hy =>
        hy.of_same (execOp_put oi hsi a oj.dst u h3) (wanted_put oi a oj.dst u h3)
      have hfree' : ∀ k ok, ops[k]? = some ok → k ≠ i → (listed.setIfInBounds j true).getD k true = false →
          (∀ e ∈ ok.after, Region.binds md e = true → e.on ≠ i) → oi.apart ops ok = true := fun k ok hk hki hun hno => by
        refine hfree k ok hk hki ?_ hno
        by_cases hjk : j = k
        · subst hjk; exact hjun
        · rw [getD_set_ne true hjk] at hun; exact hun
      have hneeds : (∀ k, ser k = true → listed.getD k true = false → Needs md ops k i) → ∀ k, ser k = true → (listed.setIfInBounds j true).getD k true = false → Needs md ops k i := fun h k hk hun => by
        refine h k hk ?_
        by_cases hjk : j = k
        · subst hjk; exact hjun
        · rw [getD_set_ne true hjk] at hun; exact hun
      have go : ∀ a' w', YieldsIn P ops (fun w'' => ∃ n, w'' = w'.drewN n) oi v a' → Loose P md ops ser i oi v (listed.setIfInBounds j true) a' →
          wpAnyM P md ops Q ser fuel ((listed.setIfInBounds i true).setIfInBounds j true) (a'.put oi.dst v) w' → wpAnyM P md ops Q ser (fuel + 1) (listed.setIfInBounds j true) a' w' := fun a' w' hy' hlo' h => by
        refine ih (listed.setIfInBounds j true) a' w' (inv.set hj) hfree' (ready_mono hr (Ne.symm hji)) hy' hlo' ?_
        rw [Array.setIfInBounds_comm _ _ hji]
        exact h
      rcases hlo with hY | hN
      · have yin : ∀ (a' : Act) (w' : World), Yields P ops oi v a' → YieldsIn P ops (fun w'' => ∃ n, w'' = w'.drewN n) oi v a' := fun a' w' hy' =>
          or_both (fun ⟨hw, hv⟩ => ⟨hw, fun w'' _ => by unfold Oper.quietAt; rw [hv w'']; exact ⟨rfl, rfl⟩⟩) id hy'
        unfold mOp at h1 ⊢
        split
        · rename_i hs
          rw [if_pos hs] at h1
          exact fun n => wpOp_mono (fun a' w' h' => go a' w' (yin a' w' h'.1) (.inl h'.1) h'.2) (wpOp_put hoj hap hsi hsj hQ hY (h1 n))
        · rename_i hs
          rw [if_neg hs] at h1
          exact qOp_mono (fun a' h' => go a' w (yin a' w h'.1) (.inl h'.1) h'.2) (qOp_putY hoj hap hsj keepY hY h1)
      · have hs : ser j = false := by
          cases hs : ser j with
          | false => rfl
          | true =>
            have := hN j hs hjun listed inv hj (fun e => hji e.symm)
            rw [getD_both hun] at this
            cases this
        unfold mOp at h1 ⊢
        rw [if_neg (by simp [hs])] at h1 ⊢
        exact qOp_mono (fun a' h' => go a' w h'.1 (.inr (hneeds hN)) h'.2) (qOp_putY hoj hap hsj keepI hy h1)

/-! ### One order -/
/-- Operations whose value hangs on no world. -/
def plainB (o : Oper) : Bool := match o.op with | .move _ => true | .assign _ => true | _ => false
theorem plain_yields {C : World → Prop} {w : World} (hw : C w) {o : Oper} {v : Value} {a : Act} (hp : plainB o = true) (hy : YieldsIn P ops C o v a) : Yields P ops o v a := by
  rcases hy with ⟨hwant, hv⟩ | h
  · refine .inl ⟨hwant, fun w' => ?_⟩
    have h1 := hv w hw
    unfold plainB at hp
    split at hp
    · rename_i x hx
      have e : ∀ w, (execOp a.eval o).run P w = .ok (.value (a.eval x)) w := fun w => by unfold execOp; simp only [hx]; rfl
      unfold Oper.quietAt at h1
      rw [e w] at h1
      rw [e w', h1.2]
    · rename_i x hx
      have e : ∀ w, (execOp a.eval o).run P w = .ok (.value (a.eval x)) w := fun w => by unfold execOp; simp only [hx]; rfl
      unfold Oper.quietAt at h1
      rw [e w] at h1
      rw [e w', h1.2]
    · cases hp
  · exact .inr h

def looseB (md : Region.Mode) (ops : Array Oper) (ser : Nat → Bool) (listed : Array Bool) (k : Nat) : Bool :=
  (match ops[k]? with | some o => plainB o | none => false) || (List.range ops.size).all fun j => !ser j || listed.getD j true || needsB md ops j k
/-- The order may be walked. -/
def mixB (md : Region.Mode) (ops : Array Oper) (ser : Nat → Bool) : List Nat → Array Bool → Bool
  | [], listed => (Region.ready md ops listed).isEmpty
  | k :: rest, listed => (if ser k then decide (Region.ready md ops listed = [k]) else (Region.ready md ops listed).contains k && Region.free md ops listed k && looseB md ops ser listed k) && mixB md ops ser rest (listed.setIfInBounds k true)
/-- The walk. -/
def wpMix (P : Program) (ops : Array Oper) (Q : Exit → Act → World → Prop) (ser : Nat → Bool) : List Nat → Act → World → Prop
  | [], a, w => ∀ n, Q .normal a (w.drewN n)
  | k :: rest, a, w => mOp P ops Q ser k (wpMix P ops Q ser rest) a w

theorem wpAnyM_lex (hsel : Region.noSelect ops = true) (hser : ∀ j, ser j = true → j < ops.size) (hQ : ∀ c (a : Act) d v w, Q (.panic c) (a.put d v) w → Q (.panic c) a w) : ∀ (l : List Nat) (listed : Array Bool) (a : Act) (w : World), Closed md ops listed →
    mixB md ops ser l listed = true → wpMix P ops Q ser l a w → wpAnyM P md ops Q ser l.length listed a w
  | [], _, _, _, _, hB, h => ⟨by simpa [mixB] using hB, h⟩
  | k :: l, listed, a, w, inv, hB, h => by
    simp only [mixB, Bool.and_eq_true] at hB
    obtain ⟨hk, hB'⟩ := hB
    by_cases hs : ser k = true
    · rw [if_pos hs] at hk
      have hr : Region.ready md ops listed = [k] := by simpa using hk
      refine ⟨fun h1 => (by rw [hr] at h1; cases h1), fun i hi => ?_⟩
      have hik : i = k := by rw [hr] at hi; simpa using hi
      subst hik
      exact mOp_mono (fun a' w' h' => wpAnyM_lex hsel hser hQ l _ a' w' (inv.set hi) hB' h') h
    · rw [if_neg hs] at hk
      simp only [Bool.and_eq_true] at hk
      obtain ⟨⟨hr, hf⟩, hlo⟩ := hk
      have hr' : k ∈ Region.ready md ops listed := by simpa using hr
      obtain ⟨_, o, ho, _⟩ := mem_ready.1 hr'
      have h1 : qOp P ops (fun w' => ∃ n, w' = w.drewN n) k (fun a' => wpMix P ops Q ser l a' w) a := by
        have h' : mOp P ops Q ser k (wpMix P ops Q ser l) a w := h
        unfold mOp at h'
        rwa [if_neg hs] at h'
      obtain ⟨v, hy, hK⟩ := yieldsIn_of_qOp ho h1
      have hloose : Loose P md ops ser k o v listed a := by
        unfold looseB at hlo
        simp only [ho, Bool.or_eq_true] at hlo
        rcases hlo with hp | hall
        · exact .inl (plain_yields (w := w) ⟨0, rfl⟩ hp hy)
        · refine .inr fun j hj hun => ?_
          have := List.all_eq_true.1 hall j (List.mem_range.2 (hser j hj))
          simp only [hj, hun, Bool.not_true, Bool.false_or] at this
          rcases needsB_spec this with e | h
          · subst e; exact absurd hj hs
          · exact h
      exact wpAnyM_first ho (by simpa using hs) (Region.noSelect_spec hsel) (fun c a w => hQ c a _ _ w) l.length listed a w inv (Region.free_spec ho hf) hr' hy hloose
        (wpAnyM_lex hsel hser hQ l _ _ _ (inv.set hr') hB' hK)

/-- The serial ones, as a list; all checks in one Bool. -/
def serL (s : List Nat) (i : Nat) : Bool := s.contains i
def mixAll (ops : Array Oper) (s l : List Nat) : Bool := Region.noSelect ops && s.all (fun j => decide (j < ops.size)) && decide (l.length = ops.size) && mixB .any ops (serL s) l (Array.replicate ops.size false)

theorem wp_region_mix0 {id : Nat} {a : Act} {w : World} {l : List Oper} (s σ : List Nat) (hm : P.follows .mixedOrders = true) (hB : mixAll l.toArray s σ = true)
    (hQ : ∀ c (a : Act) d v w, Q (.panic c) (a.put d v) w → Q (.panic c) a w) (h : wpMix P l.toArray Q (serL s) σ a w) : (Code.region id l.toArray true).wp P Q a w := by
  simp only [mixAll, Bool.and_eq_true, decide_eq_true_eq] at hB
  obtain ⟨⟨⟨hsel, hs⟩, hlen⟩, hB⟩ := hB
  refine wp_region_any hm ?_
  have hser : ∀ j, serL s j = true → j < l.toArray.size := fun j hj => by
    have := List.all_eq_true.1 hs j (by simpa [serL] using hj)
    simpa using this
  have := wpAny_of_mixed (md := .any) _ _ _ _ 1 (wpAnyM_lex hsel hser hQ σ _ a w (Closed.none _) hB h)
  rw [hlen] at this
  exact this
/-- The region is shown not to panic. -/
theorem wp_region_mix {id : Nat} {a : Act} {w : World} {l : List Oper} (s σ : List Nat) (hm : P.follows .mixedOrders = true) (hB : mixAll l.toArray s σ = true)
    (h : wpMix P l.toArray (NoPanic Q) (serL s) σ a w) : (Code.region id l.toArray true).wp P Q a w :=
  wp_region_noPanic (wp_region_mix0 s σ hm hB (fun _ _ _ _ _ h => h) h)
theorem quiet_of_eq {f : FuncId} {args : Array Value} {w : World} {n : Nat} {v : Value}
    (h : Calls P f args (w.drewN n) fun e w' => e = .returned v ∧ w.drewN n = w') : Calls P f args (w.drewN n) fun e w'' => e = .returned v ∧ ∃ m, w'' = w.drewN m :=
  h.mono fun _ _ ⟨he, hm⟩ => ⟨he, n, hm.symm⟩

/-! ### The walk in pieces: what only reads, by the quiet walk; a serial operation, by the plain walk -/
def pickOps (l : List Oper) (is : List Nat) : List Oper := is.filterMap (l[·]?)
theorem wpMix_quiet {s rest : List Nat} {l : List Oper} {w : World} : ∀ (seg : List Nat) (a : Act), (seg.all fun i => !serL s i && decide (i < l.length)) = true →
    wpQuiet P l.toArray (fun w' => ∃ n, w' = w.drewN n) (fun a' => wpMix P l.toArray Q (serL s) rest a' w) (pickOps l seg) a → wpMix P l.toArray Q (serL s) (seg ++ rest) a w
  | [], a, _, h => h
  | k :: seg, a, hs, h => by
    simp only [List.all_cons, Bool.and_eq_true, decide_eq_true_eq] at hs
    obtain ⟨⟨h1, h2⟩, hs⟩ := hs
    obtain ⟨o, ho⟩ : ∃ o, l[k]? = some o := ⟨_, List.getElem?_eq_getElem h2⟩
    have hp : pickOps l (k :: seg) = o :: pickOps l seg := by simp [pickOps, ho]
    rw [hp] at h
    show mOp P l.toArray Q (serL s) k (wpMix P l.toArray Q (serL s) (seg ++ rest)) a w
    unfold mOp
    rw [if_neg (by simpa using h1)]
    have h' : qOp P l.toArray (fun w' => ∃ n, w' = w.drewN n) k (wpQuiet P l.toArray (fun w' => ∃ n, w' = w.drewN n) (fun a' => wpMix P l.toArray Q (serL s) rest a' w) (pickOps l seg)) a := by
      unfold qOp
      simp only [List.getElem?_toArray, ho]
      exact h
    exact qOp_mono (fun a' h => wpMix_quiet seg a' hs h) h'

/-- One operation that only reads. -/
theorem wpMix_one {s rest : List Nat} {k : Nat} {o : Oper} {l : List Oper} {a : Act} {w : World} (hs : serL s k = false) (ho : l[k]? = some o)
    (h : wpQuiet P l.toArray (fun w' => ∃ n, w' = w.drewN n) (fun a' => wpMix P l.toArray Q (serL s) rest a' w) [o] a) : wpMix P l.toArray Q (serL s) (k :: rest) a w := by
  show mOp P l.toArray Q (serL s) k (wpMix P l.toArray Q (serL s) rest) a w
  unfold mOp
  rw [if_neg (by simp [hs])]
  unfold qOp
  simp only [List.getElem?_toArray, ho]
  exact h

/-- Where a serial operation goes on. -/
def MixK (P : Program) (ops : Array Oper) (Q : Exit → Act → World → Prop) (ser : Nat → Bool) (rest : List Nat) : Exit → Act → World → Prop
  | .normal, a, w => wpMix P ops Q ser rest a w
  | e, a, w => Q e a w
theorem wpMix_serial {s rest : List Nat} {k : Nat} {o : Oper} {l : List Oper} {a : Act} {w : World} (hs : serL s k = true) (ho : l[k]? = some o)
    (h : ∀ n, wpList P l.toArray (MixK P l.toArray Q (serL s) rest) [o] a (w.drewN n)) : wpMix P l.toArray Q (serL s) (k :: rest) a w := by
  show mOp P l.toArray Q (serL s) k (wpMix P l.toArray Q (serL s) rest) a w
  unfold mOp
  rw [if_pos hs]
  intro n
  have h1 := h n
  unfold wpOp
  unfold wpList at h1
  simp only [List.getElem?_toArray, ho]
  split at h1
  · rename_i hw
    rw [if_pos hw]
    rcases h1 with h1 | ⟨h1, a0, w0, h2⟩
    · refine .inl ?_
      have e1 : o.wp P a (w.drewN n) (wpList P l.toArray (MixK P l.toArray Q (serL s) rest) []) (MixK P l.toArray Q (serL s) rest) = o.wp P a (w.drewN n) (wpMix P l.toArray Q (serL s) rest) Q := by
        unfold Oper.wp
        generalize (execOp a.eval o).run P (w.drewN n) = r
        cases r with
        | ok x w' => cases x <;> rfl
        | halt x w' => cases x <;> rfl
      rwa [e1] at h1
    · exact .inr ⟨h1, a0, w0, h2⟩
  · rename_i hw
    rw [if_neg hw]
    exact h1
theorem wpMix_skip {s rest : List Nat} {k : Nat} {o : Oper} {l : List Oper} {a : Act} {w : World} (hs : serL s k = true) (ho : l[k]? = some o) (hw : Region.wanted o (yielded l.toArray a.tmps) = false)
    (h : ∀ n, wpMix P l.toArray Q (serL s) rest (a.put o.dst undef) (w.drewN n)) : wpMix P l.toArray Q (serL s) (k :: rest) a w := by
  show mOp P l.toArray Q (serL s) k (wpMix P l.toArray Q (serL s) rest) a w
  unfold mOp
  rw [if_pos hs]
  intro n
  unfold wpOp
  simp only [List.getElem?_toArray, ho]
  rw [if_neg (by simp [hw])]
  exact h n
theorem wpMix_nil {s : List Nat} {l : List Oper} {a : Act} {w : World} (h : ∀ n, Q .normal a (w.drewN n)) : wpMix P l.toArray (NoPanic Q) (serL s) [] a w := h
end
end Go.Proofs.YtaaladekamfpnaaDoor
