/- The lines of tokens that were cut; timetablekit.Lists at tokens. -/
import Derived.Test.YtongaakijljnaaaDoorLrb
import Derived.Test.YtongaakijljnaaaDoorLrl
namespace Go.Proofs.YtongaakijljnaaaDoor
open Go.RowKit
theorem order_cut : ∀ (l : List TokD) (sm : Bool), Order sm l → l ≠ [] ∨ sm = true → cutE l < l.length ∧ Order false (l.drop (cutE l + 1)) ∧ (sm = false → 0 < cutE l) := by
  intro l
  induction l with
  | nil =>
    intro sm h hn
    obtain rfl : sm = false := h
    rcases hn with hn | hn
    · exact absurd rfl hn
    · cases hn
  | cons t l ih =>
    intro sm h _
    obtain ⟨h1, h2⟩ := h
    by_cases h4 : t.kind = 4
    · have e : cutE (t :: l) = 0 := by unfold cutE; rw [if_pos h4]
      have hd : decide (t.kind ≠ 4) = false := decide_eq_false fun h => h h4
      rw [hd] at h2
      rw [e]
      refine ⟨by simp, h2, fun hs => ?_⟩
      rw [h1 h4] at hs; cases hs
    · have e : cutE (t :: l) = cutE l + 1 := by rw [cutE, if_neg h4]
      have hd : decide (t.kind ≠ 4) = true := decide_eq_true h4
      rw [hd] at h2
      obtain ⟨k1, k2, k3⟩ := ih true h2 (.inr rfl)
      rw [e]
      exact ⟨by simp; exact k1, k2, fun _ => Nat.succ_pos _⟩
/-- Tokens of one line stand in one line. -/
theorem line_same {L : List UInt8} {l : List TokD} (h : Pl L l) (a : Nat) : ∀ (k : Nat) (t p : TokD), l[a + k]? = some t → l[a]? = some p → (∀ j x, j ≤ k → l[a + j]? = some x → x.kind ≠ 4) → t.line = p.line := by
  intro k
  induction k with
  | zero => intro t p h1 h2 _; rw [Nat.add_zero, h2] at h1; injection h1 with h1; rw [h1]
  | succ k ih =>
    intro t p h1 h2 h3
    have hlt : a + k < l.length := by have := (List.getElem?_eq_some_iff.1 h1).1; omega
    have hq : l[a + k]? = some l[a + k] := List.getElem?_eq_getElem hlt
    have h4 := (h (a + (k + 1)) t h1).2.2 l[a + k] (by omega) (by rw [show a + (k + 1) - 1 = a + k by omega]; exact hq)
    rw [← h4.2.2 (h3 _ _ (Nat.le_refl _) h1) (h3 _ _ (Nat.le_succ _) hq)]
    exact ih _ _ hq h2 fun j x hj hx => h3 j x (by omega) hx
theorem grpE_few : ∀ (l acc : List TokD), (grpE acc l).length ≤ l.length + acc.length := by
  intro l
  induction l with
  | nil =>
    intro acc
    unfold grpE
    split
    · exact Nat.zero_le _
    · rename_i h
      have := List.length_pos_iff.2 h
      simp; omega
  | cons t l ih =>
    intro acc
    unfold grpE
    split
    · have h1 := ih []
      rw [List.length_append]
      split
      · simp at h1 ⊢; omega
      · rename_i h
        have := List.length_pos_iff.2 h
        simp at h1 ⊢; omega
    · have h1 := ih (acc ++ [t])
      simp at h1 ⊢; omega
theorem grpE_short : ∀ (l acc : List TokD), ∀ g ∈ grpE acc l, g.length ≤ acc.length + l.length := by
  intro l
  induction l with
  | nil =>
    intro acc g hg
    unfold grpE at hg
    split at hg
    · cases hg
    · rw [List.mem_singleton] at hg; rw [hg]; exact Nat.le_refl _
  | cons t l ih =>
    intro acc g hg
    unfold grpE at hg
    split at hg
    · rcases List.mem_append.1 hg with hg | hg
      · split at hg
        · cases hg
        · rw [List.mem_singleton] at hg; rw [hg]; exact Nat.le_add_right _ _
      · have := ih [] g hg
        simp at this ⊢; omega
    · have := ih _ g hg
      simp at this ⊢; omega
theorem rows_few {s : List RowD} {l : List TokD} {n : Nat} (h : s.map RowD.l = grpE [] l) (hn : l.length ≤ n) : s.length ≤ n := by
  have h1 := congrArg List.length h
  have h2 := grpE_few l []
  rw [List.length_map] at h1
  simp at h2; omega
theorem rows_short {s : List RowD} {l : List TokD} {n : Nat} (h : s.map RowD.l = grpE [] l) (hn : l.length ≤ n) : ∀ r ∈ s, r.l.length ≤ n := by
  intro r hr
  have h1 := grpE_short l [] r.l (by rw [← h]; exact List.mem_map_of_mem hr)
  simp at h1; omega
theorem quiet_add_any {P : Program} {f : FuncId} {args : Array Value} {w : World} {v : Value} (h : ∀ n, Calls P f args (w.drewN n) (Quiet v (w.drewN n))) (a n : Nat) : Calls P f args (w.drewN (a + n)) fun e w'' => e = .returned v ∧ ∃ m, w'' = w.drewN (a + m) :=
  (h (a + n)).mono fun _ _ ⟨he, m, hm⟩ => ⟨he, n + m, by rw [hm, ← Nat.add_assoc]; first | rfl | exact World.drewN_drewN _ _ _⟩
set_option maxHeartbeats 2000000 in
set_option maxRecDepth 100000 in
theorem lists_any (va vb : Value) (sa sb : List RowD) (w : World) (Ba Bb : Nat) (ha : Ow rwc 1 w Ba 23 va sa) (hb : Ow rwc 1 w Bb 23 vb sb)
    (hra : ∀ r ∈ sa, Ow tkc 5 w Ba 31 r.v r.l) (hrb : ∀ r ∈ sb, Ow tkc 5 w Bb 31 r.v r.l) (he : sa.map RowD.l = sb.map RowD.l) (hn : sa.length ≤ 1048576) (hr : ∀ r ∈ sa, r.l.length ≤ 1048576) :
    Calls Tryd.prog 18 #[va, vb] w (Quiet (.bool true) w) := by
  obtain ⟨A, capa, rfl, ha1, ha2⟩ := ha.shape
  obtain ⟨B, capb, rfl, hb1, hb2⟩ := hb.shape
  have hlen : sa.length = sb.length := by have := congrArg List.length he; simpa using this
  have hsa := ha.sl rwc_len
  have hsb := hb.sl rwc_len
  have HRA := Lib.hid hra
  have HRB := Lib.hid hrb
  have HE := Lib.hid he
  have HR := Lib.hid hr
  clear ha hb hra hrb he hr
  go_enter Tryd.func18, Tryd.ntmps18
  have Hlen := Lib.hid hlen
  have hll : ((sa.length : Int) != (sb.length : Int)) = false := by rw [hlen]; exact bne_self_eq_false _
  rw [← hlen] at hsb ⊢
  clear hlen hll
  go_wp2
  go_loopg [5] sa.length (fun gg i wr => ∃ k n : Nat, k ≤ sa.length ∧ sa.length - k ≤ gg ∧ i = .int .i64 k ∧ wr = w.drewN n)
  case atStart => exact ⟨0, 0, Nat.zero_le _, by omega, rfl, rfl⟩
  case round =>
    obtain ⟨k, n, hk, hgg, rfl, rfl⟩ := hrel
    by_cases hlt : k < sa.length
    · have hlt2 : k < sb.length := by rw [← Hlen.out]; exact hlt
      obtain ⟨b1, o1, c1, e1, _, _, hl1, _, hx⟩ := hsa.at_ hlt
      obtain ⟨b2, o2, c2, e2, _, _, hl2, _, hy⟩ := hsb.at_ hlt2
      injection e1 with e1 e1' e1''
      injection e2 with e2 e2' e2''
      subst e1 e2
      have hxl : sa[k].l = sb[k].l := by
        have := congrArg (fun l => l[k]?) HE.out
        simpa [List.getElem?_map, List.getElem?_eq_getElem hlt, List.getElem?_eq_getElem hlt2] using this
      have hoa := HRA.out _ (List.getElem_mem hlt)
      have hob := HRB.out _ (List.getElem_mem hlt2)
      have hor := HR.out _ (List.getElem_mem hlt)
      obtain ⟨x, hx9⟩ : ∃ x, sa[k] = x := ⟨_, rfl⟩
      obtain ⟨y, hy9⟩ : ∃ y, sb[k] = y := ⟨_, rfl⟩
      rw [hx9] at hx hoa hxl hor
      rw [hy9] at hy hob hxl
      have hx0 : w.cell? ⟨b1, o1 + k, none⟩ = some x.v := by simpa using hx 0 _ rfl
      have hy0 : w.cell? ⟨b2, o2 + k, none⟩ = some y.v := by simpa using hy 0 _ rfl
      have HC := Lib.hid (fun m => sameTok_any x.v y.v x.l y.l (w.drewN m) ((hoa.drewN m).sl tkc_len) ((hob.drewN m).sl tkc_len) hor)
      have hdec : decide (x.l = y.l) = true := decide_eq_true hxl
      rw [hdec] at HC
      have q1 : (0 : Int) ≤ (k : Int) := by omega
      have q2 : (k : Int) < (sa.length : Int) := by omega
      clear hx hy hoa hob hxl hx9 hy9 hor e1' e1'' e2' e2'' hdec
      unfold RowD.v at hx0 hy0 HC
      go_wp2
      go_quiet ((go_at_call 12; exact quiet_add_any HC.out _ _))
      go_wp2
      go_roundg (sa.length - (k + 1))
      case measure => omega
      case rel => exact ⟨k + 1, _, by omega, by omega, by go_num, by first | rfl | exact World.drewN_drewN _ _ _⟩
    · have t6 : ¬ (k : Int) < (sa.length : Int) := by omega
      clear hgg hk hlt
      go_wp2
      go_ret
      exact ⟨rfl, n, rfl⟩
end Go.Proofs.YtongaakijljnaaaDoor
