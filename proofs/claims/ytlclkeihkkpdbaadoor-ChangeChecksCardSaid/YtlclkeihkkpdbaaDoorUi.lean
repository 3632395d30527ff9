/- Where a line ends: the walk of slices.IndexFunc at change.read's function. -/
import Derived.Test.YtlclkeihkkpdbaaDoorUh
import Derived.Test.YtlclkeihkkpdbaaDoorLo
namespace Go.Proofs.YtlclkeihkkpdbaaDoor
open Go.RowKit
/-- A token as a value. -/
def TokD.v (t : TokD) : Value := .agg #[.int .i64 t.kind, .string (ba t.text), .int .i64 t.num, .int .i64 t.line, .int .i64 t.col]
/-- Where the first end is; none: behind the last token. -/
def cutE : List TokD → Nat
  | [] => 0
  | t :: l => if t.kind = 4 then 0 else cutE l + 1
theorem cutE_le (l : List TokD) : cutE l ≤ l.length := by
  induction l with
  | nil => exact Nat.le_refl _
  | cons t l ih => unfold cutE; split <;> simp; exact ih
theorem cutE_lt : ∀ (l : List TokD) (j : Nat) (h : j < l.length), j < cutE l → l[j].kind ≠ 4 := by
  intro l
  induction l with
  | nil => intro j h; exact absurd h (by simp)
  | cons t l ih =>
    intro j h hj
    unfold cutE at hj
    split at hj
    · omega
    · rename_i h4
      cases j with
      | zero => exact h4
      | succ j => exact ih j (by simpa using h) (by omega)
theorem cutE_at : ∀ (l : List TokD) (h : cutE l < l.length), l[cutE l].kind = 4 := by
  intro l
  induction l with
  | nil => intro h; exact absurd h (by simp)
  | cons t l ih =>
    intro h
    by_cases h4 : t.kind = 4
    · have e : cutE (t :: l) = 0 := by unfold cutE; rw [if_pos h4]
      simp only [e]
      exact h4
    · have e : cutE (t :: l) = cutE l + 1 := by rw [cutE, if_neg h4]
      simp only [e] at h ⊢
      exact ih (by simpa using h)
theorem cutE_go {l : List TokD} {k : Nat} (h : k ≤ cutE l) (hk : k < l.length) (hn : l[k].kind ≠ 4) : k + 1 ≤ cutE l := by
  rcases Nat.lt_or_eq_of_le h with h | h
  · exact h
  · subst h; exact absurd (cutE_at l hk) hn
theorem cutE_stop {l : List TokD} {k : Nat} (h : k ≤ cutE l) (hk : k < l.length) (hn : l[k].kind = 4) : cutE l = k := by
  rcases Nat.lt_or_eq_of_le h with h | h
  · exact absurd hn (cutE_lt l k hk h)
  · exact h.symm
/-- What IndexFunc tells. -/
def idxE (l : List TokD) : Int := if cutE l < l.length then (cutE l : Int) else -1
set_option maxHeartbeats 1000000 in
theorem isEnd_any (a : TokD) (w : World) : Calls Tryd.prog 26 #[a.v] w fun e w' => e = .returned (.bool (a.kind == 4)) ∧ Below w.heap.size w w' := by
  obtain ⟨a1, a2, a3, a4, a5⟩ := a
  dsimp only [TokD.v]
  have HB := Lib.hid (show Below w.heap.size w (w.alloc (.cells #[.int .i64 a1, .string (ba a2), .int .i64 a3, .int .i64 a4, .int .i64 a5] 66)) from (Below.refl _ _).alloc (Nat.le_refl _) _)
  go_enter Tryd.func26, Tryd.ntmps26
  go_wp2_with fail
  go_ret
  exact ⟨rfl, HB.out⟩
set_option maxHeartbeats 4000000 in
set_option maxRecDepth 100000 in
theorem idx_any (va : Value) (la : List TokD) (w : World) {P : Nat → Prop} (ha : Sl tkc 5 w va la P) (hn : la.length ≤ 1048576) :
    Calls Tryd.prog 25 #[va, .func (.func 26) #[] #[]] w fun e w' => e = .returned (.int .i64 (idxE la)) ∧ Below w.heap.size w w' := by
  obtain ⟨A, capa, rfl, ha1, ha2⟩ := ha.shape
  have HA := Lib.hid ha
  have t0 : ¬ (la.length : Int) < 0 := by omega
  clear ha
  go_enter Tryd.func25, Tryd.ntmps25
  go_wp2_with fail
  go_loopg [8] la.length (fun gg i wr => ∃ k : Nat, k ≤ la.length ∧ la.length - k ≤ gg ∧ i = .int .i64 k ∧ k ≤ cutE la ∧ Below w.heap.size w wr)
  case atStart => exact ⟨0, Nat.zero_le _, by omega, rfl, Nat.zero_le _, Below.refl _ _⟩
  case round =>
    obtain ⟨k, hk, hgg, rfl, hkk, hbw⟩ := hrel
    by_cases hkl : k < la.length
    · obtain ⟨b1, o1, c1, e1, _, _, hl1, _, hx⟩ := (HA.out.below_ hbw).at_ hkl
      injection e1 with e1 e1' e1''
      subst e1
      have G := Lib.hid (fun h => cutE_go hkk hkl h)
      have S := Lib.hid (fun h => cutE_stop hkk hkl h)
      obtain ⟨x, hx9⟩ : ∃ x, la[k] = x := ⟨_, rfl⟩
      rw [hx9] at hx G S
      have hx0 : wr.cell? ⟨b1, o1 + k * 5, none⟩ = some (.int .i64 x.kind) := by simpa using hx 0 _ rfl
      have hx1 : wr.cell? ⟨b1, o1 + k * 5 + 1, none⟩ = some (.string (ba x.text)) := by simpa using hx 1 _ rfl
      have hx2 : wr.cell? ⟨b1, o1 + k * 5 + 2, none⟩ = some (.int .i64 x.num) := by simpa using hx 2 _ rfl
      have hx3 : wr.cell? ⟨b1, o1 + k * 5 + 3, none⟩ = some (.int .i64 x.line) := by simpa using hx 3 _ rfl
      have hx4 : wr.cell? ⟨b1, o1 + k * 5 + 4, none⟩ = some (.int .i64 x.col) := by simpa using hx 4 _ rfl
      have q1 : (0 : Int) ≤ (k : Int) := by omega
      have q2 : (k : Int) < (la.length : Int) := by omega
      have HBW := Lib.hid hbw
      have HKL := Lib.hid hkl
      clear hx hx9 e1' e1'' hkk hbw
      go_wp2_with fail
      refine (isEnd_any x _).mono ?_
      rintro e w6 ⟨rfl, hb6⟩
      have HB6 := Lib.hid (HBW.out.trans (hb6.mono HBW.out.size))
      clear hb6 hx0 hx1 hx2 hx3 hx4
      by_cases h4 : x.kind = 4
      · have k1 : (x.kind == 4) = true := beq_iff_eq.2 h4
        have E := Lib.hid (show idxE la = (k : Int) by unfold idxE; rw [S.out h4, if_pos HKL.out])
        rw [k1]
        clear h4 k1
        go_wp2_with fail
        go_ret
        rw [E.out]
        exact ⟨rfl, HB6.out⟩
      · have k1 : (x.kind == 4) = false := beq_eq_false_iff_ne.2 h4
        have G2 := Lib.hid (G.out h4)
        rw [k1]
        clear h4 k1
        go_wp2_with fail
        go_roundg (la.length - (k + 1))
        case measure => omega
        case rel => exact ⟨k + 1, by omega, by omega, by go_num, G2.out, HB6.out⟩
    · have hkk2 : k = la.length := by omega
      have t6 : ¬ (k : Int) < (la.length : Int) := by omega
      have E := Lib.hid (show idxE la = -1 by unfold idxE; rw [if_neg (by omega)])
      have HBW := Lib.hid hbw
      clear hkk2 hkk hbw
      go_wp2_with fail
      go_ret
      rw [E.out]
      exact ⟨rfl, HBW.out⟩
end Go.Proofs.YtlclkeihkkpdbaaDoor
