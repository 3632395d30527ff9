/- Reading updates: plain; two texts, one behind the other. -/
import Derived.Test.YtlclkeihkkpdbaaDoorUi
import Derived.Test.YtlclkeihkkpdbaaDoorLrl
namespace Go.Proofs.YtlclkeihkkpdbaaDoor
open Go.RowKit
/-- Lines, each with its end. -/
def splitE : List TokD → List TokD → List (List TokD)
  | acc, [] => if acc = [] then [] else [acc]
  | acc, t :: l => if t.kind = 4 then (acc ++ [t]) :: splitE [] l else splitE (acc ++ [t]) l
theorem splitE_cut : ∀ (l acc : List TokD), cutE l < l.length → splitE acc l = (acc ++ l.take (cutE l + 1)) :: splitE [] (l.drop (cutE l + 1)) := by
  intro l
  induction l with
  | nil => intro acc h; exact absurd h (Nat.not_lt_zero _)
  | cons t l ih =>
    intro acc h
    by_cases h4 : t.kind = 4
    · have e : cutE (t :: l) = 0 := by unfold cutE; rw [if_pos h4]
      rw [e, splitE, if_pos h4]
      simp
    · have e : cutE (t :: l) = cutE l + 1 := by rw [cutE, if_neg h4]
      rw [e] at h ⊢
      rw [splitE, if_neg h4, ih _ (by simpa using h), List.take_succ_cons, List.append_assoc, List.singleton_append, List.drop_succ_cons]
theorem splitE_app (b : List TokD) : ∀ (a acc : List TokD) (sm : Bool), Order sm a → (sm = false → acc = []) → splitE acc (a ++ b) = splitE acc a ++ splitE [] b := by
  intro a
  induction a with
  | nil =>
    intro acc sm h hs
    obtain rfl : sm = false := h
    rw [hs rfl]; rfl
  | cons t a ih =>
    intro acc sm h hs
    obtain ⟨h1, h2⟩ := h
    rw [List.cons_append, splitE, splitE]
    by_cases h4 : t.kind = 4
    · rw [if_pos h4, if_pos h4, ih [] _ h2 (fun _ => rfl)]; rfl
    · rw [if_neg h4, if_neg h4]
      exact ih _ _ h2 fun h => by rw [decide_eq_true h4] at h; cases h
/-- What is read: updates, where each begins, the fault. -/
structure ReadD where
  us : List UpD
  bs : List TokD
  err : Int
  line : Int
  col : Int
def readL : List (List TokD) → ReadD
  | [] => ⟨[], [], 0, 0, 0⟩
  | g :: gs =>
    if (lineU g).2.1 ≠ 0 then ⟨[], [], (lineU g).2.1, (lineU g).2.2.1, (lineU g).2.2.2⟩
    else if (readL gs).err ≠ 0 then ⟨[], [], (readL gs).err, (readL gs).line, (readL gs).col⟩
    else ⟨(lineU g).1 :: (readL gs).us, g.headD ⟨0, [], 0, 0, 0⟩ :: (readL gs).bs, 0, 0, 0⟩
/-- What is read of a text. -/
def readU (s : ByteArray) : ReadD := if (allD s).2.err ≠ 0 then ⟨[], [], (allD s).2.err, (allD s).2.line, (allD s).2.col⟩ else readL (splitE [] (allD s).1)
theorem readL_bad : ∀ (gs : List (List TokD)), (readL gs).err ≠ 0 → (readL gs).us = [] ∧ (readL gs).bs = [] := by
  intro gs
  induction gs with
  | nil => intro h; exact absurd rfl h
  | cons g gs ih =>
    intro h
    unfold readL at h ⊢
    split
    · exact ⟨rfl, rfl⟩
    · split
      · exact ⟨rfl, rfl⟩
      · rename_i h1 h2
        rw [if_neg h1, if_neg h2] at h
        exact absurd rfl h
theorem readL_ok : ∀ (gs : List (List TokD)), (readL gs).err = 0 → (readL gs).line = 0 ∧ (readL gs).col = 0 := by
  intro gs
  cases gs with
  | nil => intro _; exact ⟨rfl, rfl⟩
  | cons g gs =>
    intro h
    unfold readL at h ⊢
    split
    · rename_i h1
      rw [if_pos h1] at h
      exact absurd h h1
    · split
      · rename_i h1 h2
        rw [if_neg h1, if_pos h2] at h
        exact absurd h h2
      · exact ⟨rfl, rfl⟩
theorem readL_app (B : List (List TokD)) : ∀ (A : List (List TokD)), ((readL A).err ≠ 0 → readL (A ++ B) = readL A) ∧
    ((readL A).err = 0 → (readL B).err ≠ 0 → readL (A ++ B) = ⟨[], [], (readL B).err, (readL B).line, (readL B).col⟩) ∧
    ((readL A).err = 0 → (readL B).err = 0 → readL (A ++ B) = ⟨(readL A).us ++ (readL B).us, (readL A).bs ++ (readL B).bs, 0, 0, 0⟩) := by
  intro A
  induction A with
  | nil =>
    refine ⟨fun h => absurd rfl h, fun _ h => ?_, fun _ h => ?_⟩
    · rw [List.nil_append]
      obtain ⟨h1, h2⟩ := readL_bad B h
      rcases hr : readL B with ⟨us, bs, e, l, c⟩
      rw [hr] at h1 h2
      simp only at h1 h2
      rw [h1, h2]
    · obtain ⟨h1, h2⟩ := readL_ok B h
      rw [List.nil_append]
      show readL B = ⟨[] ++ (readL B).us, [] ++ (readL B).bs, 0, 0, 0⟩
      rcases hr : readL B with ⟨us, bs, e, l, c⟩
      rw [hr] at h h1 h2
      simp only at h h1 h2
      rw [h, h1, h2]; rfl
  | cons g A ih =>
    obtain ⟨i1, i2, i3⟩ := ih
    rw [List.cons_append]
    by_cases hg : (lineU g).2.1 ≠ 0
    · have e1 : ∀ X, readL (g :: X) = ⟨[], [], (lineU g).2.1, (lineU g).2.2.1, (lineU g).2.2.2⟩ := fun X => by rw [readL, if_pos hg]
      rw [e1, e1]
      exact ⟨fun _ => rfl, fun h => absurd h hg, fun h => absurd h hg⟩
    · by_cases ha : (readL A).err ≠ 0
      · have e1 : readL (g :: A) = ⟨[], [], (readL A).err, (readL A).line, (readL A).col⟩ := by rw [readL, if_neg hg, if_pos ha]
        rw [e1]
        refine ⟨fun _ => ?_, fun h => absurd h ha, fun h => absurd h ha⟩
        rw [readL, if_neg hg, i1 ha, if_pos ha]
      · have ha := Decidable.not_not.1 ha
        have e1 : readL (g :: A) = ⟨(lineU g).1 :: (readL A).us, g.headD ⟨0, [], 0, 0, 0⟩ :: (readL A).bs, 0, 0, 0⟩ := by rw [readL, if_neg hg, if_neg (fun h => h ha)]
        rw [e1]
        refine ⟨fun h => absurd rfl h, fun _ hb => ?_, fun _ hb => ?_⟩
        · rw [readL, if_neg hg, i2 ha hb, if_pos hb]
        · rw [readL, if_neg hg, i3 ha hb, if_neg (fun h => h rfl)]; rfl
theorem runU_mv (n : Nat) : ∀ (fs : List Fld) (l : List TokD) (f : FormU), runU fs (l.map (mvT n)) f = ((runU fs l f).1, (runU fs l f).2.map (mvT n)) := by
  intro fs
  induction fs with
  | nil =>
    intro l f
    cases l with
    | nil => rfl
    | cons t l =>
      rw [List.map_cons, runU, runU]
      by_cases h : t.kind = 4
      · rw [if_pos h, if_pos (show (mvT n t).kind = 4 from h)]; rfl
      · rw [if_neg h, if_neg (show ¬ (mvT n t).kind = 4 from h)]; rfl
  | cons x fs ih =>
    intro l f
    cases l with
    | nil => rfl
    | cons t l =>
      have e1 : takeD x (mvT n t) = takeD x t := by cases x <;> rfl
      have e2 : setF x (mvT n t) f = setF x t f := by cases x <;> rfl
      rw [List.map_cons, runU, runU, e1, e2]
      by_cases h : takeD x t = true
      · rw [if_pos h, if_pos h, ih]
      · rw [if_neg h, if_neg h]; rfl
theorem lineU_mv (n : Nat) (g : List TokD) : (lineU (g.map (mvT n))).1 = (lineU g).1 ∧ (lineU (g.map (mvT n))).2.1 = (lineU g).2.1 ∧ (lineU (g.map (mvT n))).2.2.2 = (lineU g).2.2.2 ∧ ((lineU g).2.1 ≠ 0 → (lineU (g.map (mvT n))).2.2.1 = (lineU g).2.2.1 + n) := by
  cases g with
  | nil => exact ⟨rfl, rfl, rfl, fun h => absurd rfl h⟩
  | cons t l =>
    have ek : kindU (mvT n t) = kindU t := rfl
    rw [List.map_cons]
    unfold lineU
    dsimp only
    rw [ek]
    by_cases h6 : kindU t = 6
    · rw [if_pos h6, if_pos h6]
      exact ⟨rfl, rfl, rfl, fun _ => rfl⟩
    · rw [if_neg h6, if_neg h6, ← List.map_cons, runU_mv]
      rcases hr : runU (formD (kindU t)) (t :: l) (blankU (kindU t)) with ⟨f, _ | x⟩
      · exact ⟨rfl, rfl, rfl, fun h => absurd rfl h⟩
      · exact ⟨rfl, rfl, rfl, fun _ => rfl⟩
theorem splitE_mv (n : Nat) : ∀ (l acc : List TokD), splitE (acc.map (mvT n)) (l.map (mvT n)) = (splitE acc l).map (List.map (mvT n)) := by
  intro l
  induction l with
  | nil =>
    intro acc
    unfold splitE
    by_cases h : acc = []
    · subst h; rfl
    · have h' : ¬ acc.map (mvT n) = [] := fun e => h (List.map_eq_nil_iff.1 e)
      rw [List.map_nil, if_neg h]
      show (if acc.map (mvT n) = [] then _ else _) = _
      rw [if_neg h']; rfl
  | cons t l ih =>
    intro acc
    rw [List.map_cons, splitE, splitE]
    by_cases h : t.kind = 4
    · rw [if_pos h, if_pos (show (mvT n t).kind = 4 from h), List.map_cons, List.map_append, ← ih []]; rfl
    · rw [if_neg h, if_neg (show ¬ (mvT n t).kind = 4 from h), ← ih, List.map_append]; rfl
theorem readL_mv (n : Nat) : ∀ (gs : List (List TokD)), (readL (gs.map (List.map (mvT n)))).us = (readL gs).us ∧ (readL (gs.map (List.map (mvT n)))).err = (readL gs).err ∧ (readL (gs.map (List.map (mvT n)))).col = (readL gs).col ∧ ((readL gs).err ≠ 0 → (readL (gs.map (List.map (mvT n)))).line = (readL gs).line + n) := by
  intro gs
  induction gs with
  | nil => exact ⟨rfl, rfl, rfl, fun h => absurd rfl h⟩
  | cons g gs ih =>
    obtain ⟨i1, i2, i3, i4⟩ := ih
    obtain ⟨l1, l2, l3, l4⟩ := lineU_mv n g
    rw [List.map_cons, readL, readL, l1, l2, l3]
    by_cases hg : (lineU g).2.1 ≠ 0
    · rw [if_pos hg, if_pos hg, l4 hg]
      exact ⟨rfl, rfl, rfl, fun _ => rfl⟩
    · rw [if_neg hg, if_neg hg, i2]
      by_cases ha : (readL gs).err ≠ 0
      · rw [if_pos ha, if_pos ha, i3, i4 ha]
        exact ⟨rfl, rfl, rfl, fun _ => rfl⟩
      · rw [if_neg ha, if_neg ha, i1]
        exact ⟨rfl, rfl, rfl, fun h => absurd rfl h⟩
/-- Two texts with a line's end between. -/
theorem change_lines {s t u : ByteArray} (hu : Joined s t u) (hz : u.size ≤ 65536) :
    ((readU s).err ≠ 0 → (readU u).us = [] ∧ (((readU u).err = (readU s).err ∧ (readU u).line = (readU s).line ∧ (readU u).col = (readU s).col) ∨ (readU t).err ≠ 0)) ∧
    ((readU s).err = 0 → (readU t).err ≠ 0 → (readU u).us = [] ∧ (readU u).err = (readU t).err ∧ (readU u).col = (readU t).col ∧ (readU u).line = (readU t).line + linesOf s) ∧
    ((readU s).err = 0 → (readU t).err = 0 → (readU u).us = (readU s).us ++ (readU t).us ∧ (readU u).err = 0 ∧ (readU u).line = 0 ∧ (readU u).col = 0) := by
  have hsz := hu.size
  obtain ⟨j1, j2, j3⟩ := joins hu hz
  by_cases hs : (allD s).2.err ≠ 0
  · have e := j1 hs
    have es : readU s = ⟨[], [], (allD s).2.err, (allD s).2.line, (allD s).2.col⟩ := by unfold readU; rw [if_pos hs]
    have eu : readU u = readU s := by
      rw [es]; unfold readU
      rw [e, if_pos (by exact hs)]
    rw [eu, es]
    exact ⟨fun _ => ⟨rfl, .inl ⟨rfl, rfl, rfl⟩⟩, fun h => absurd h hs, fun h => absurd h hs⟩
  · have hs0 := Decidable.not_not.1 hs
    have es : readU s = readL (splitE [] (allD s).1) := by unfold readU; rw [if_neg hs]
    by_cases ht : (allD t).2.err ≠ 0
    · have e := j2 hs0 ht
      have et : readU t = ⟨[], [], (allD t).2.err, (allD t).2.line, (allD t).2.col⟩ := by unfold readU; rw [if_pos ht]
      have eu : readU u = ⟨[], [], (allD t).2.err, (allD t).2.line + linesOf s, (allD t).2.col⟩ := by
        unfold readU
        rw [e, if_pos (by exact ht)]
      rw [eu, et]
      exact ⟨fun _ => ⟨rfl, .inr ht⟩, fun _ _ => ⟨rfl, rfl, rfl, rfl⟩, fun _ h => absurd h ht⟩
    · have ht0 := Decidable.not_not.1 ht
      have e := j3 hs0 ht0
      have et : readU t = readL (splitE [] (allD t).1) := by unfold readU; rw [if_neg ht]
      have eu : readU u = readL (splitE [] (allD s).1 ++ (splitE [] (allD t).1).map (List.map (mvT (linesOf s)))) := by
        unfold readU
        rw [e, if_neg (fun h => h rfl), splitE_app _ _ _ false (order_all s (by omega) hs0) (fun _ => rfl), ← splitE_mv]; rfl
      obtain ⟨a1, a2, a3⟩ := readL_app ((splitE [] (allD t).1).map (List.map (mvT (linesOf s)))) (splitE [] (allD s).1)
      obtain ⟨m1, m2, m3, m4⟩ := readL_mv (linesOf s) (splitE [] (allD t).1)
      rw [← eu, ← es] at a1 a2 a3
      rw [← et] at m1 m2 m3 m4
      rw [m2] at a2 a3
      refine ⟨fun h => ?_, fun h h2 => ?_, fun h h2 => ?_⟩
      · rw [a1 h]
        exact ⟨by rw [es] at h ⊢; exact (readL_bad _ h).1, .inl ⟨rfl, rfl, rfl⟩⟩
      · rw [a2 h h2]
        exact ⟨rfl, rfl, m3, m4 h2⟩
      · rw [a3 h h2]
        exact ⟨by show _ ++ _ = _; rw [m1], rfl, rfl, rfl⟩
end Go.Proofs.YtlclkeihkkpdbaaDoor
