/- The walk of lex.Like. -/
import Derived.Test.YtongaakijljnaaaDoorLrl
import Derived.Test.YtongaakijljnaaaDoorLs
namespace Go.Proofs.YtongaakijljnaaaDoor
open Go.RowKit
set_option maxHeartbeats 1000000 in
theorem like1_any (a b : TokD) (w : World) :
    Calls Tryd.prog 31 #[a.v, b.v] w fun e w' => e = .returned (.bool (decide (key a = key b))) ∧ Below w.heap.size w w' := by
  obtain ⟨a1, a2, a3, a4, a5⟩ := a
  obtain ⟨b1, b2, b3, b4, b5⟩ := b
  dsimp only [TokD.v]
  have HB := Lib.hid (show Below w.heap.size w ((w.alloc (.cells #[.int .i64 a1, .string (ba a2), .int .i64 a3, .int .i64 a4, .int .i64 a5] 31)).alloc (.cells #[.int .i64 b1, .string (ba b2), .int .i64 b3, .int .i64 b4, .int .i64 b5] 31)) from ((Below.refl _ _).alloc (Nat.le_refl _) _).alloc (by simp) _)
  by_cases h1 : a1 = b1
  · subst h1
    by_cases h2 : a2 = b2
    · subst h2
      by_cases h3 : a3 = b3
      · subst h3
        rw [show decide (key ⟨a1, a2, a3, a4, a5⟩ = key ⟨a1, a2, a3, b4, b5⟩) = true from decide_eq_true rfl]
        go_enter Tryd.func31, Tryd.ntmps31
        go_wp2_with fail
        go_ret
        exact ⟨rfl, HB.out⟩
      · have t3 : (a3 == b3) = false := beq_eq_false_iff_ne.2 h3
        rw [show decide (key ⟨a1, a2, a3, a4, a5⟩ = key ⟨a1, a2, b3, b4, b5⟩) = false from decide_eq_false fun h => h3 (by injection h with _ h; injection h)]
        clear h3
        go_enter Tryd.func31, Tryd.ntmps31
        go_wp2_with fail
        go_ret
        exact ⟨rfl, HB.out⟩
    · have t2 : ((ba a2).toList == (ba b2).toList) = false := by rw [ba_toList, ba_toList]; exact beq_eq_false_iff_ne.2 h2
      rw [show decide (key ⟨a1, a2, a3, a4, a5⟩ = key ⟨a1, b2, b3, b4, b5⟩) = false from decide_eq_false fun h => h2 (by injection h with _ h; injection h)]
      clear h2
      go_enter Tryd.func31, Tryd.ntmps31
      go_wp2_with fail
      go_ret
      exact ⟨rfl, HB.out⟩
  · have t1 : (a1 == b1) = false := beq_eq_false_iff_ne.2 h1
    rw [show decide (key ⟨a1, a2, a3, a4, a5⟩ = key ⟨b1, b2, b3, b4, b5⟩) = false from decide_eq_false fun h => h1 (by injection h)]
    clear h1
    go_enter Tryd.func31, Tryd.ntmps31
    go_wp2_with fail
    go_ret
    exact ⟨rfl, HB.out⟩
theorem keys_step {la lb : List TokD} {k : Nat} (h1 : k < la.length) (h2 : k < lb.length) (h : (la.take k).map key = (lb.take k).map key) (he : key la[k] = key lb[k]) : (la.take (k + 1)).map key = (lb.take (k + 1)).map key := by
  rw [List.take_succ_eq_append_getElem h1, List.take_succ_eq_append_getElem h2, List.map_append, List.map_append, h, List.map_singleton, List.map_singleton, he]
theorem keys_ne {la lb : List TokD} {k : Nat} (h1 : k < la.length) (h2 : k < lb.length) (h : key la[k] ≠ key lb[k]) : la.map key ≠ lb.map key := fun e => h (by
  have := congrArg (·[k]?) e
  simpa [List.getElem?_map, List.getElem?_eq_getElem h1, List.getElem?_eq_getElem h2] using this)
set_option maxHeartbeats 4000000 in
set_option maxRecDepth 100000 in
theorem equal_any (va vb : Value) (la lb : List TokD) (w : World) {P Q : Nat → Prop} (ha : Sl tkc 5 w va la P) (hb : Sl tkc 5 w vb lb Q) (hn : la.length ≤ 1048576) :
    Calls Tryd.prog 30 #[va, vb, .func (.func 31) #[] #[]] w fun e w' => e = .returned (.bool (decide (la.map key = lb.map key))) ∧ Below w.heap.size w w' := by
  obtain ⟨A, capa, rfl, ha1, ha2⟩ := ha.shape
  obtain ⟨B, capb, rfl, hb1, hb2⟩ := hb.shape
  by_cases hlen : la.length = lb.length
  · have hd : ((la.length : Int) == (lb.length : Int)) = true := beq_iff_eq.2 (by omega)
    have hd2 : ((la.length : Int) != (lb.length : Int)) = false := by rw [bne, hd]; rfl
    have HLEN := Lib.hid hlen
    clear hlen
    go_enter Tryd.func30, Tryd.ntmps30
    go_wp2_with fail
    go_loopg [17] la.length (fun gg i wr => ∃ k : Nat, k ≤ la.length ∧ la.length - k ≤ gg ∧ i = .int .i64 k ∧ (la.take k).map key = (lb.take k).map key ∧ Below w.heap.size w wr)
    case atStart => exact ⟨0, Nat.zero_le _, by omega, rfl, rfl, Below.refl _ _⟩
    case round =>
      obtain ⟨k, hk, hgg, rfl, hkk, hbw⟩ := hrel
      by_cases hkl : k < la.length
      · have hkl2 : k < lb.length := by rw [← HLEN.out]; exact hkl
        obtain ⟨b1, o1, c1, e1, _, _, hl1, _, hx⟩ := (ha.below_ hbw).at_ hkl
        obtain ⟨b2, o2, c2, e2, _, _, hl2, _, hy⟩ := (hb.below_ hbw).at_ hkl2
        injection e1 with e1 e1' e1''
        injection e2 with e2 e2' e2''
        subst e1 e2
        have E := Lib.hid (fun he => keys_step hkl hkl2 hkk he)
        have N := Lib.hid (fun he => keys_ne hkl hkl2 he)
        obtain ⟨x, hx9⟩ : ∃ x, la[k] = x := ⟨_, rfl⟩
        obtain ⟨y, hy9⟩ : ∃ y, lb[k] = y := ⟨_, rfl⟩
        rw [hx9] at hx E N
        rw [hy9] at hy E N
        have hx0 : wr.cell? ⟨b1, o1 + k * 5, none⟩ = some (.int .i64 x.kind) := by simpa using hx 0 _ rfl
        have hx1 : wr.cell? ⟨b1, o1 + k * 5 + 1, none⟩ = some (.string (ba x.text)) := by simpa using hx 1 _ rfl
        have hx2 : wr.cell? ⟨b1, o1 + k * 5 + 2, none⟩ = some (.int .i64 x.num) := by simpa using hx 2 _ rfl
        have hx3 : wr.cell? ⟨b1, o1 + k * 5 + 3, none⟩ = some (.int .i64 x.line) := by simpa using hx 3 _ rfl
        have hx4 : wr.cell? ⟨b1, o1 + k * 5 + 4, none⟩ = some (.int .i64 x.col) := by simpa using hx 4 _ rfl
        have hy0 : wr.cell? ⟨b2, o2 + k * 5, none⟩ = some (.int .i64 y.kind) := by simpa using hy 0 _ rfl
        have hy1 : wr.cell? ⟨b2, o2 + k * 5 + 1, none⟩ = some (.string (ba y.text)) := by simpa using hy 1 _ rfl
        have hy2 : wr.cell? ⟨b2, o2 + k * 5 + 2, none⟩ = some (.int .i64 y.num) := by simpa using hy 2 _ rfl
        have hy3 : wr.cell? ⟨b2, o2 + k * 5 + 3, none⟩ = some (.int .i64 y.line) := by simpa using hy 3 _ rfl
        have hy4 : wr.cell? ⟨b2, o2 + k * 5 + 4, none⟩ = some (.int .i64 y.col) := by simpa using hy 4 _ rfl
        have q1 : (0 : Int) ≤ (k : Int) := by omega
        have q2 : (k : Int) < (la.length : Int) := by omega
        have q3 : (k : Int) < (lb.length : Int) := by omega
        have HBW := Lib.hid hbw
        clear hx hy hx9 hy9 e1' e1'' e2' e2'' hkk hbw
        go_wp2_with fail
        refine (like1_any x y _).mono ?_
        rintro e w6 ⟨rfl, hb6⟩
        have HB6 := Lib.hid (((HBW.out.alloc HBW.out.size _).alloc (by have := HBW.out.size; simp; omega) _).trans (hb6.mono (by have := HBW.out.size; simp; omega)))
        clear hb6 hx0 hx1 hx2 hx3 hx4 hy0 hy1 hy2 hy3 hy4
        by_cases hxy : key x = key y
        · rw [decide_eq_true hxy]
          have E2 := Lib.hid (E.out hxy)
          clear hxy
          go_wp2_with fail
          go_roundg (la.length - (k + 1))
          case measure => omega
          case rel => exact ⟨k + 1, by omega, by omega, by go_num, E2.out, HB6.out⟩
        · rw [decide_eq_false hxy]
          have N2 := Lib.hid (N.out hxy)
          clear hxy
          go_wp2_with fail
          go_ret
          rw [decide_eq_false N2.out]
          exact ⟨rfl, HB6.out⟩
      · have hkk2 : k = la.length := by omega
        have t6 : ¬ (k : Int) < (la.length : Int) := by omega
        rw [hkk2] at hkk
        rw [List.take_of_length_le (Nat.le_refl _), List.take_of_length_le (by have := HLEN.out; omega)] at hkk
        have E := Lib.hid hkk
        have HBW := Lib.hid hbw
        clear hkk hkk2 hbw
        go_wp2_with fail
        go_ret
        rw [decide_eq_true E.out]
        exact ⟨rfl, HBW.out⟩
  · have hd : ((la.length : Int) == (lb.length : Int)) = false := beq_eq_false_iff_ne.2 (by omega)
    have hd2 : ((la.length : Int) != (lb.length : Int)) = true := by rw [bne, hd]; rfl
    rw [show decide (la.map key = lb.map key) = false from decide_eq_false fun e => hlen (by simpa using congrArg List.length e)]
    clear hlen
    go_enter Tryd.func30, Tryd.ntmps30
    go_wp2_with fail
    go_ret
    exact ⟨rfl, Below.refl _ _⟩
set_option maxHeartbeats 1000000 in
theorem like_any (va vb : Value) (la lb : List TokD) (w : World) {P Q : Nat → Prop} (ha : Sl tkc 5 w va la P) (hb : Sl tkc 5 w vb lb Q) (hn : la.length ≤ 1048576) :
    Calls Tryd.prog 17 #[va, vb] w fun e w' => e = .returned (.bool (decide (la.map key = lb.map key))) ∧ Below w.heap.size w w' := by
  have HC := Lib.hid (equal_any va vb la lb w ha hb hn)
  clear ha hb hn
  go_enter Tryd.func17, Tryd.ntmps17
  go_wp2_with fail
  refine HC.out.mono ?_
  rintro e w6 ⟨rfl, hb6⟩
  have HB6 := Lib.hid hb6
  clear hb6
  go_wp2_with fail
  go_ret
  exact ⟨rfl, HB6.out⟩
end Go.Proofs.YtongaakijljnaaaDoor
