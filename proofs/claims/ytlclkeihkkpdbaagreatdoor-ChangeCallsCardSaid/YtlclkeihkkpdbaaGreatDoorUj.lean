/- Where a line ends: the walk of slices.IndexFunc at change.read's function. -/
import Derived.Test.YtlclkeihkkpdbaaGreatDoorUh
import Derived.Test.YtlclkeihkkpdbaaGreatDoorLo
import Derived.Test.YtlclkeihkkpdbaaGreatDoorLrl
namespace Go.Proofs.YtlclkeihkkpdbaaGreatDoor
open Go.RowKit
/-- A token as a value. -/
def TokD.v (t : TokD) : Value := .agg #[.int .i64 t.kind, .string (ba t.text), .int .i64 t.num, .int .i64 t.line, .int .i64 t.col]
/-- Where the first end is; none: behind the last token. -/
def cutE : List TokD → Nat
  | [] => 0
  | t :: l => if t.kind = 4 then 0 else cutE l + 1
theorem cutE_le (l : List TokD) : cutE l ≤ l.length := by
  induction l with
  | nil => exact Nat.le_refl _
  | cons t l ih => unfold cutE; split <;> simp; exact ih
theorem cutE_lt : ∀ (l : List TokD) (j : Nat) (h : j < l.length), j < cutE l → l[j].kind ≠ 4 := by
  intro l
  induction l with
  | nil => intro j h; exact absurd h (by simp)
  | cons t l ih =>
    intro j h hj
    unfold cutE at hj
    split at hj
    · omega
    · rename_i h4
      cases j with
      | zero => exact h4
      | succ j => exact ih j (by simpa using h) (by omega)
theorem cutE_at : ∀ (l : List TokD) (h : cutE l < l.length), l[cutE l].kind = 4 := by
  intro l
  induction l with
  | nil => intro h; exact absurd h (by simp)
  | cons t l ih =>
    intro h
    by_cases h4 : t.kind = 4
    · have e : cutE (t :: l) = 0 := by unfold cutE; rw [if_pos h4]
      simp only [e]
      exact h4
    · have e : cutE (t :: l) = cutE l + 1 := by rw [cutE, if_neg h4]
      simp only [e] at h ⊢
      exact ih (by simpa using h)
theorem cutE_go {l : List TokD} {k : Nat} (h : k ≤ cutE l) (hk : k < l.length) (hn : l[k].kind ≠ 4) : k + 1 ≤ cutE l := by
  rcases Nat.lt_or_eq_of_le h with h | h
  · exact h
  · subst h; exact absurd (cutE_at l hk) hn
theorem cutE_stop {l : List TokD} {k : Nat} (h : k ≤ cutE l) (hk : k < l.length) (hn : l[k].kind = 4) : cutE l = k := by
  rcases Nat.lt_or_eq_of_le h with h | h
  · exact absurd hn (cutE_lt l k hk h)
  · exact h.symm
/-- What IndexFunc tells. -/
def idxE (l : List TokD) : Int := if cutE l < l.length then (cutE l : Int) else -1
set_option maxHeartbeats 1000000 in
theorem isEnd_any (a : TokD) (w : World) : Calls Tryz.prog 31 #[a.v] w fun e w' => e = .returned (.bool (a.kind == 4)) ∧ Below w.heap.size w w' := by
  obtain ⟨a1, a2, a3, a4, a5⟩ := a
  dsimp only [TokD.v]
  have HB := Lib.hid (show Below w.heap.size w (w.alloc (.cells #[.int .i64 a1, .string (ba a2), .int .i64 a3, .int .i64 a4, .int .i64 a5] 51)) from (Below.refl _ _).alloc (Nat.le_refl _) _)
  go_enter Tryz.func31, Tryz.ntmps31
  go_wp2_with fail
  go_ret
  exact ⟨rfl, HB.out⟩
set_option maxHeartbeats 4000000 in
set_option maxRecDepth 100000 in
theorem idx_any (va : Value) (la : List TokD) (w : World) {P : Nat → Prop} (ha : Sl tkc 5 w va la P) (hn : la.length ≤ 1048576) :
    Calls Tryz.prog 30 #[va, .func (.func 31) #[] #[]] w fun e w' => e = .returned (.int .i64 (idxE la)) ∧ Below w.heap.size w w' := by
  obtain ⟨A, capa, rfl, ha1, ha2⟩ := ha.shape
  have HA := Lib.hid ha
  have t0 : ¬ (la.length : Int) < 0 := by omega
  clear ha
  go_enter Tryz.func30, Tryz.ntmps30
  go_wp2_with fail
  go_loopg [8] la.length (fun gg i wr => ∃ k : Nat, k ≤ la.length ∧ la.length - k ≤ gg ∧ i = .int .i64 k ∧ k ≤ cutE la ∧ Below w.heap.size w wr)
  case atStart => exact ⟨0, Nat.zero_le _, by omega, rfl, Nat.zero_le _, Below.refl _ _⟩
  case round =>
    obtain ⟨k, hk, hgg, rfl, hkk, hbw⟩ := hrel
    by_cases hkl : k < la.length
    · obtain ⟨b1, o1, c1, e1, _, _, hl1, _, hx⟩ := (HA.out.below_ hbw).at_ hkl
      injection e1 with e1 e1' e1''
      subst e1
      have G := Lib.hid (fun h => cutE_go hkk hkl h)
      have S := Lib.hid (fun h => cutE_stop hkk hkl h)
      obtain ⟨x, hx9⟩ : ∃ x, la[k] = x := ⟨_, rfl⟩
      rw [hx9] at hx G S
      have hx0 : wr.cell? ⟨b1, o1 + k * 5, none⟩ = some (.int .i64 x.kind) := by simpa using hx 0 _ rfl
      have hx1 : wr.cell? ⟨b1, o1 + k * 5 + 1, none⟩ = some (.string (ba x.text)) := by simpa using hx 1 _ rfl
      have hx2 : wr.cell? ⟨b1, o1 + k * 5 + 2, none⟩ = some (.int .i64 x.num) := by simpa using hx 2 _ rfl
      have hx3 : wr.cell? ⟨b1, o1 + k * 5 + 3, none⟩ = some (.int .i64 x.line) := by simpa using hx 3 _ rfl
      have hx4 : wr.cell? ⟨b1, o1 + k * 5 + 4, none⟩ = some (.int .i64 x.col) := by simpa using hx 4 _ rfl
      have q1 : (0 : Int) ≤ (k : Int) := by omega
      have q2 : (k : Int) < (la.length : Int) := by omega
      have HBW := Lib.hid hbw
      have HKL := Lib.hid hkl
      clear hx hx9 e1' e1'' hkk hbw
      go_wp2_with fail
      refine (isEnd_any x _).mono ?_
      rintro e w6 ⟨rfl, hb6⟩
      have HB6 := Lib.hid (HBW.out.trans (hb6.mono HBW.out.size))
      clear hb6 hx0 hx1 hx2 hx3 hx4
      by_cases h4 : x.kind = 4
      · have k1 : (x.kind == 4) = true := beq_iff_eq.2 h4
        have E := Lib.hid (show idxE la = (k : Int) by unfold idxE; rw [S.out h4, if_pos HKL.out])
        rw [k1]
        clear h4 k1
        go_wp2_with fail
        go_ret
        rw [E.out]
        exact ⟨rfl, HB6.out⟩
      · have k1 : (x.kind == 4) = false := beq_eq_false_iff_ne.2 h4
        have G2 := Lib.hid (G.out h4)
        rw [k1]
        clear h4 k1
        go_wp2_with fail
        go_roundg (la.length - (k + 1))
        case measure => omega
        case rel => exact ⟨k + 1, by omega, by omega, by go_num, G2.out, HB6.out⟩
    · have hkk2 : k = la.length := by omega
      have t6 : ¬ (k : Int) < (la.length : Int) := by omega
      have E := Lib.hid (show idxE la = -1 by unfold idxE; rw [if_neg (by omega)])
      have HBW := Lib.hid hbw
      clear hkk2 hkk hbw
      go_wp2_with fail
      go_ret
      rw [E.out]
      exact ⟨rfl, HBW.out⟩
end Go.Proofs.YtlclkeihkkpdbaaGreatDoor
/- Reading updates: plain; two texts, one behind the other. -/
namespace Go.Proofs.YtlclkeihkkpdbaaGreatDoor
open Go.RowKit
/-- Lines, each with its end. -/
def splitE : List TokD → List TokD → List (List TokD)
  | acc, [] => if acc = [] then [] else [acc]
  | acc, t :: l => if t.kind = 4 then (acc ++ [t]) :: splitE [] l else splitE (acc ++ [t]) l
theorem splitE_cut : ∀ (l acc : List TokD), cutE l < l.length → splitE acc l = (acc ++ l.take (cutE l + 1)) :: splitE [] (l.drop (cutE l + 1)) := by
  intro l
  induction l with
  | nil => intro acc h; exact absurd h (Nat.not_lt_zero _)
  | cons t l ih =>
    intro acc h
    by_cases h4 : t.kind = 4
    · have e : cutE (t :: l) = 0 := by unfold cutE; rw [if_pos h4]
      rw [e, splitE, if_pos h4]
      simp
    · have e : cutE (t :: l) = cutE l + 1 := by rw [cutE, if_neg h4]
      rw [e] at h ⊢
      rw [splitE, if_neg h4, ih _ (by simpa using h), List.take_succ_cons, List.append_assoc, List.singleton_append, List.drop_succ_cons]
theorem splitE_app (b : List TokD) : ∀ (a acc : List TokD) (sm : Bool), Order sm a → (sm = false → acc = []) → splitE acc (a ++ b) = splitE acc a ++ splitE [] b := by
  intro a
  induction a with
  | nil =>
    intro acc sm h hs
    obtain rfl : sm = false := h
    rw [hs rfl]; rfl
  | cons t a ih =>
    intro acc sm h hs
    obtain ⟨h1, h2⟩ := h
    rw [List.cons_append, splitE, splitE]
    by_cases h4 : t.kind = 4
    · rw [if_pos h4, if_pos h4, ih [] _ h2 (fun _ => rfl)]; rfl
    · rw [if_neg h4, if_neg h4]
      exact ih _ _ h2 fun h => by rw [decide_eq_true h4] at h; cases h
/-- What is read: updates, where each begins, the fault. -/
structure ReadD where
  us : List UpD
  bs : List TokD
  err : Int
  line : Int
  col : Int
def readL : List (List TokD) → ReadD
  | [] => ⟨[], [], 0, 0, 0⟩
  | g :: gs =>
    if (lineU g).2.1 ≠ 0 then ⟨[], [], (lineU g).2.1, (lineU g).2.2.1, (lineU g).2.2.2⟩
    else if (readL gs).err ≠ 0 then ⟨[], [], (readL gs).err, (readL gs).line, (readL gs).col⟩
    else ⟨(lineU g).1 :: (readL gs).us, g.headD ⟨0, [], 0, 0, 0⟩ :: (readL gs).bs, 0, 0, 0⟩
/-- What is read of a text. -/
def readU (s : ByteArray) : ReadD := if (allD s).2.err ≠ 0 then ⟨[], [], (allD s).2.err, (allD s).2.line, (allD s).2.col⟩ else readL (splitE [] (allD s).1)
theorem readL_bad : ∀ (gs : List (List TokD)), (readL gs).err ≠ 0 → (readL gs).us = [] ∧ (readL gs).bs = [] := by
  intro gs
  induction gs with
  | nil => intro h; exact absurd rfl h
  | cons g gs ih =>
    intro h
    unfold readL at h ⊢
    split
    · exact ⟨rfl, rfl⟩
    · split
      · exact ⟨rfl, rfl⟩
      · rename_i h1 h2
        rw [if_neg h1, if_neg h2] at h
        exact absurd rfl h
theorem readL_ok : ∀ (gs : List (List TokD)), (readL gs).err = 0 → (readL gs).line = 0 ∧ (readL gs).col = 0 := by
  intro gs
  cases gs with
  | nil => intro _; exact ⟨rfl, rfl⟩
  | cons g gs =>
    intro h
    unfold readL at h ⊢
    split
    · rename_i h1
      rw [if_pos h1] at h
      exact absurd h h1
    · split
      · rename_i h1 h2
        rw [if_neg h1, if_pos h2] at h
        exact absurd h h2
      · exact ⟨rfl, rfl⟩
theorem readL_app (B : List (List TokD)) : ∀ (A : List (List TokD)), ((readL A).err ≠ 0 → readL (A ++ B) = readL A) ∧
    ((readL A).err = 0 → (readL B).err ≠ 0 → readL (A ++ B) = ⟨[], [], (readL B).err, (readL B).line, (readL B).col⟩) ∧
    ((readL A).err = 0 → (readL B).err = 0 → readL (A ++ B) = ⟨(readL A).us ++ (readL B).us, (readL A).bs ++ (readL B).bs, 0, 0, 0⟩) := by
  intro A
  induction A with
  | nil =>
    refine ⟨fun h => absurd rfl h, fun _ h => ?_, fun _ h => ?_⟩
    · rw [List.nil_append]
      obtain ⟨h1, h2⟩ := readL_bad B h
      rcases hr : readL B with ⟨us, bs, e, l, c⟩
      rw [hr] at h1 h2
      simp only at h1 h2
      rw [h1, h2]
    · obtain ⟨h1, h2⟩ := readL_ok B h
      rw [List.nil_append]
      show readL B = ⟨[] ++ (readL B).us, [] ++ (readL B).bs, 0, 0, 0⟩
      rcases hr : readL B with ⟨us, bs, e, l, c⟩
      rw [hr] at h h1 h2
      simp only at h h1 h2
      rw [h, h1, h2]; rfl
  | cons g A ih =>
    obtain ⟨i1, i2, i3⟩ := ih
    rw [List.cons_append]
    by_cases hg : (lineU g).2.1 ≠ 0
    · have e1 : ∀ X, readL (g :: X) = ⟨[], [], (lineU g).2.1, (lineU g).2.2.1, (lineU g).2.2.2⟩ := fun X => by rw [readL, if_pos hg]
      rw [e1, e1]
      exact ⟨fun _ => rfl, fun h => absurd h hg, fun h => absurd h hg⟩
    · by_cases ha : (readL A).err ≠ 0
      · have e1 : readL (g :: A) = ⟨[], [], (readL A).err, (readL A).line, (readL A).col⟩ := by rw [readL, if_neg hg, if_pos ha]
        rw [e1]
        refine ⟨fun _ => ?_, fun h => absurd h ha, fun h => absurd h ha⟩
        rw [readL, if_neg hg, i1 ha, if_pos ha]
      · have ha := Decidable.not_not.1 ha
        have e1 : readL (g :: A) = ⟨(lineU g).1 :: (readL A).us, g.headD ⟨0, [], 0, 0, 0⟩ :: (readL A).bs, 0, 0, 0⟩ := by rw [readL, if_neg hg, if_neg (fun h => h ha)]
        rw [e1]
        refine ⟨fun h => absurd rfl h, fun _ hb => ?_, fun _ hb => ?_⟩
        · rw [readL, if_neg hg, i2 ha hb, if_pos hb]
        · rw [readL, if_neg hg, i3 ha hb, if_neg (fun h => h rfl)]; rfl
theorem runU_mv (n : Nat) : ∀ (fs : List Fld) (l : List TokD) (f : FormU), runU fs (l.map (mvT n)) f = ((runU fs l f).1, (runU fs l f).2.map (mvT n)) := by
  intro fs
  induction fs with
  | nil =>
    intro l f
    cases l with
    | nil => rfl
    | cons t l =>
      rw [List.map_cons, runU, runU]
      by_cases h : t.kind = 4
      · rw [if_pos h, if_pos (show (mvT n t).kind = 4 from h)]; rfl
      · rw [if_neg h, if_neg (show ¬ (mvT n t).kind = 4 from h)]; rfl
  | cons x fs ih =>
    intro l f
    cases l with
    | nil => rfl
    | cons t l =>
      have e1 : takeD x (mvT n t) = takeD x t := by cases x <;> rfl
      have e2 : setF x (mvT n t) f = setF x t f := by cases x <;> rfl
      rw [List.map_cons, runU, runU, e1, e2]
      by_cases h : takeD x t = true
      · rw [if_pos h, if_pos h, ih]
      · rw [if_neg h, if_neg h]; rfl
theorem lineU_mv (n : Nat) (g : List TokD) : (lineU (g.map (mvT n))).1 = (lineU g).1 ∧ (lineU (g.map (mvT n))).2.1 = (lineU g).2.1 ∧ (lineU (g.map (mvT n))).2.2.2 = (lineU g).2.2.2 ∧ ((lineU g).2.1 ≠ 0 → (lineU (g.map (mvT n))).2.2.1 = (lineU g).2.2.1 + n) := by
  cases g with
  | nil => exact ⟨rfl, rfl, rfl, fun h => absurd rfl h⟩
  | cons t l =>
    have ek : kindU (mvT n t) = kindU t := rfl
    rw [List.map_cons]
    unfold lineU
    dsimp only
    rw [ek]
    by_cases h6 : kindU t = 6
    · rw [if_pos h6, if_pos h6]
      exact ⟨rfl, rfl, rfl, fun _ => rfl⟩
    · rw [if_neg h6, if_neg h6, ← List.map_cons, runU_mv]
      rcases hr : runU (formD (kindU t)) (t :: l) (blankU (kindU t)) with ⟨f, _ | x⟩
      · exact ⟨rfl, rfl, rfl, fun h => absurd rfl h⟩
      · exact ⟨rfl, rfl, rfl, fun _ => rfl⟩
theorem splitE_mv (n : Nat) : ∀ (l acc : List TokD), splitE (acc.map (mvT n)) (l.map (mvT n)) = (splitE acc l).map (List.map (mvT n)) := by
  intro l
  induction l with
  | nil =>
    intro acc
    unfold splitE
    by_cases h : acc = []
    · subst h; rfl
    · have h' : ¬ acc.map (mvT n) = [] := fun e => h (List.map_eq_nil_iff.1 e)
      rw [List.map_nil, if_neg h]
      show (if acc.map (mvT n) = [] then _ else _) = _
      rw [if_neg h']; rfl
  | cons t l ih =>
    intro acc
    rw [List.map_cons, splitE, splitE]
    by_cases h : t.kind = 4
    · rw [if_pos h, if_pos (show (mvT n t).kind = 4 from h), List.map_cons, List.map_append, ← ih []]; rfl
    · rw [if_neg h, if_neg (show ¬ (mvT n t).kind = 4 from h), ← ih, List.map_append]; rfl
theorem readL_mv (n : Nat) : ∀ (gs : List (List TokD)), (readL (gs.map (List.map (mvT n)))).us = (readL gs).us ∧ (readL (gs.map (List.map (mvT n)))).err = (readL gs).err ∧ (readL (gs.map (List.map (mvT n)))).col = (readL gs).col ∧ ((readL gs).err ≠ 0 → (readL (gs.map (List.map (mvT n)))).line = (readL gs).line + n) := by
  intro gs
  induction gs with
  | nil => exact ⟨rfl, rfl, rfl, fun h => absurd rfl h⟩
  | cons g gs ih =>
    obtain ⟨i1, i2, i3, i4⟩ := ih
    obtain ⟨l1, l2, l3, l4⟩ := lineU_mv n g
    rw [List.map_cons, readL, readL, l1, l2, l3]
    by_cases hg : (lineU g).2.1 ≠ 0
    · rw [if_pos hg, if_pos hg, l4 hg]
      exact ⟨rfl, rfl, rfl, fun _ => rfl⟩
    · rw [if_neg hg, if_neg hg, i2]
      by_cases ha : (readL gs).err ≠ 0
      · rw [if_pos ha, if_pos ha, i3, i4 ha]
        exact ⟨rfl, rfl, rfl, fun _ => rfl⟩
      · rw [if_neg ha, if_neg ha, i1]
        exact ⟨rfl, rfl, rfl, fun h => absurd rfl h⟩
/-- Two texts with a line's end between. -/
theorem change_lines {s t u : ByteArray} (hu : Joined s t u) (hz : u.size ≤ 65536) :
    ((readU s).err ≠ 0 → (readU u).us = [] ∧ (((readU u).err = (readU s).err ∧ (readU u).line = (readU s).line ∧ (readU u).col = (readU s).col) ∨ (readU t).err ≠ 0)) ∧
    ((readU s).err = 0 → (readU t).err ≠ 0 → (readU u).us = [] ∧ (readU u).err = (readU t).err ∧ (readU u).col = (readU t).col ∧ (readU u).line = (readU t).line + linesOf s) ∧
    ((readU s).err = 0 → (readU t).err = 0 → (readU u).us = (readU s).us ++ (readU t).us ∧ (readU u).err = 0 ∧ (readU u).line = 0 ∧ (readU u).col = 0) := by
  have hsz := hu.size
  obtain ⟨j1, j2, j3⟩ := joins hu hz
  by_cases hs : (allD s).2.err ≠ 0
  · have e := j1 hs
    have es : readU s = ⟨[], [], (allD s).2.err, (allD s).2.line, (allD s).2.col⟩ := by unfold readU; rw [if_pos hs]
    have eu : readU u = readU s := by
      rw [es]; unfold readU
      rw [e, if_pos (by exact hs)]
    rw [eu, es]
    exact ⟨fun _ => ⟨rfl, .inl ⟨rfl, rfl, rfl⟩⟩, fun h => absurd h hs, fun h => absurd h hs⟩
  · have hs0 := Decidable.not_not.1 hs
    have es : readU s = readL (splitE [] (allD s).1) := by unfold readU; rw [if_neg hs]
    by_cases ht : (allD t).2.err ≠ 0
    · have e := j2 hs0 ht
      have et : readU t = ⟨[], [], (allD t).2.err, (allD t).2.line, (allD t).2.col⟩ := by unfold readU; rw [if_pos ht]
      have eu : readU u = ⟨[], [], (allD t).2.err, (allD t).2.line + linesOf s, (allD t).2.col⟩ := by
        unfold readU
        rw [e, if_pos (by exact ht)]
      rw [eu, et]
      exact ⟨fun _ => ⟨rfl, .inr ht⟩, fun _ _ => ⟨rfl, rfl, rfl, rfl⟩, fun _ h => absurd h ht⟩
    · have ht0 := Decidable.not_not.1 ht
      have e := j3 hs0 ht0
      have et : readU t = readL (splitE [] (allD t).1) := by unfold readU; rw [if_neg ht]
      have eu : readU u = readL (splitE [] (allD s).1 ++ (splitE [] (allD t).1).map (List.map (mvT (linesOf s)))) := by
        unfold readU
        rw [e, if_neg (fun h => h rfl), splitE_app _ _ _ false (order_all s (by omega) hs0) (fun _ => rfl), ← splitE_mv]; rfl
      obtain ⟨a1, a2, a3⟩ := readL_app ((splitE [] (allD t).1).map (List.map (mvT (linesOf s)))) (splitE [] (allD s).1)
      obtain ⟨m1, m2, m3, m4⟩ := readL_mv (linesOf s) (splitE [] (allD t).1)
      rw [← eu, ← es] at a1 a2 a3
      rw [← et] at m1 m2 m3 m4
      rw [m2] at a2 a3
      refine ⟨fun h => ?_, fun h h2 => ?_, fun h h2 => ?_⟩
      · rw [a1 h]
        exact ⟨by rw [es] at h ⊢; exact (readL_bad _ h).1, .inl ⟨rfl, rfl, rfl⟩⟩
      · rw [a2 h h2]
        exact ⟨rfl, rfl, m3, m4 h2⟩
      · rw [a3 h h2]
        exact ⟨by show _ ++ _ = _; rw [m1], rfl, rfl, rfl⟩
end Go.Proofs.YtlclkeihkkpdbaaGreatDoor
