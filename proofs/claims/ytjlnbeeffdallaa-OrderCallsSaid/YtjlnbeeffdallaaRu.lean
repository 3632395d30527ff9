/- The walk of timetableref02.Uniq. -/
import Derived.Test.YtjlnbeeffdallaaRp
import Derived.Test.YtjlnbeeffdallaaFp
namespace Go.Proofs.Ytjlnbeeffdallaa
open Go.RowKit

theorem uqs_last (out : List Int) (x : Int) : (uqs out x).getLast? = some x := by
  unfold uqs; split
  · assumption
  · simp
theorem uq_last (l : List Int) (x : Int) : (uq (l ++ [x])).getLast? = some x := by rw [uq_snoc]; exact uqs_last _ _
def RURel (l : List Int) (w : World) (s4 s5 : Value) (wr : World) : Prop :=
  ∃ k : Nat, k ≤ l.length ∧ s5 = .int .i64 k ∧ Ow ic 1 wr w.heap.size 2 s4 (uq ((sortI l).take k)) ∧ Below w.heap.size w wr

theorem RURel.stay {l ol : List Int} {w wr : World} {s4 : Value} {k : Nat} (hlt : k < l.length) (hbel : Below w.heap.size w wr) (hown : Ow ic 1 wr w.heap.size 2 s4 ol)
    (HU : Hid (uq ((sortI l).take (k + 1)) = ol)) (n : Nat) : RURel l w s4 (.int .i64 ((k : Int) + 1)) (wr.drewN n) :=
  ⟨k + 1, by omega, by go_num, by rw [HU.out]; exact hown.drewN n, below_drewN hbel n⟩
theorem RURel.step {l ol : List Int} {w wr w3 : World} {s4 v3 : Value} {k n : Nat} {x : Int} {o : Obj} (hlt : k < l.length) (hbel : Below w.heap.size w wr) (hown : Ow ic 1 wr w.heap.size 2 s4 ol)
    (HU : Hid (uq ((sortI l).take (k + 1)) = ol ++ [x])) (h3 : Ow ic 1 w3 w.heap.size 2 v3 (ol ++ [x])) (hg : ((wr.drewN n).alloc o).grownBy w3 s4.ownBlock) : RURel l w v3 (.int .i64 ((k : Int) + 1)) w3 := by
  have hb2 : Below w.heap.size w ((wr.drewN n).alloc o) := (below_drewN hbel n).alloc hbel.size o
  exact ⟨k + 1, by omega, by go_num, by rw [HU.out]; exact h3, hb2.grown hg hb2.size fun g hk => (hown.lt hk).1⟩

set_option maxHeartbeats 2000000 in
theorem runiq_any (vl : Value) (l : List Int) (w : World) {P : Nat → Prop} (hl : Sl ic 1 w vl l P) (hsz : l.length ≤ 524288) :
    Calls Try.prog 29 #[vl] w (Made ic 1 2 (uq (sortI l)) w) := by
  obtain ⟨i0, hi0, hz0, hz1, hz2⟩ := info_parts info_i64
  obtain ⟨A, cap, rfl, hc1, hc2⟩ := hl.shape
  have hk := rperm_any _ l w hl hsz
  have Hk := Lib.hid hk
  clear hk
  go_enter Try.func29, Try.ntmps29
  go_wp2_with fail
  refine Hk.out.mono ?_
  rintro e w1 ⟨v1, rfl, ho1, hb1⟩
  have hpl := perm_length l
  have hs1 := ho1.sl ic_len
  obtain ⟨A2, c2, e2, f21, f22⟩ := hs1.shape
  rw [hpl] at e2 f21
  subst e2
  have HS := Lib.hid (sortI_length l)
  have Hpl := Lib.hid hpl
  have hb1' := Lib.hid hb1
  clear ho1 hpl
  go_wp2
  go_loopw [4, 5] (fun s4 s5 wr => RURel l w1 s4 s5 wr) (fun _ s5 _ => l.length - (intOf s5).toNat)
  case atStart => exact ⟨0, Nat.zero_le _, rfl, Ow.nil_, Below.refl _ _⟩
  case round =>
    obtain ⟨k, hk, rfl, hown, hbel⟩ := hrel
    by_cases hlt : k < l.length
    · obtain ⟨y, hy, hpy, hly⟩ := perm_at l hlt
      obtain ⟨b1, o1, c1, e1, _, _, hl1, _, hx⟩ := hs1.at_ (i := k) (by rw [Hpl.out]; exact hlt)
      obtain ⟨b2, o2, c2', e2, _, _, hl2, _, hz⟩ := ((hl.below_ hb1'.out).below_ hbel).at_ hy
      injection e1 with e1 e1' e1''
      injection e2 with e2 e2' e2''
      subst e1 e2
      rw [hpy] at hx
      obtain ⟨z, Hz⟩ : ∃ z, Hid (l[y] = z) := ⟨_, Lib.hid rfl⟩
      rw [Hz.out] at hz hly
      have hc0 : wr.cell? ⟨b1, o1 + k, none⟩ = some (.int .i64 y) := (hbel.cell (p := ⟨b1, o1 + k, none⟩) hl1).trans (by simpa using hx 0 _ rfl)
      have hc1 : wr.cell? ⟨b2, o2 + y, none⟩ = some (.int .i64 z) := by simpa using hz 0 _ rfl
      have Hly := Lib.hid hly
      have q1 : (0 : Int) ≤ (k : Int) := by omega
      have q2 : (k : Int) < (l.length : Int) := by omega
      have q3 : (0 : Int) ≤ (y : Int) := by omega
      have q4 : (y : Int) < (l.length : Int) := by omega
      obtain ⟨ol, Hol⟩ : ∃ ol, Hid (uq ((sortI l).take k) = ol) := ⟨_, Lib.hid rfl⟩
      rw [Hol.out] at hown
      have hlen : ol.length ≤ k := by
        rw [← Hol.out]
        have := uq_length ((sortI l).take k)
        rw [List.length_take] at this
        omega
      have hkS : k < (sortI l).length := by rw [HS.out]; exact hlt
      have HU0 := Lib.hid (show uq ((sortI l).take (k + 1)) = uqs ol z by rw [take_succ_eq (sortI l) k hkS, ← Hly.out, uq_snoc, Hol.out])
      clear hx hz hly e1' e1'' e2' e2'' hpy f21 f22
      have hzw := hbel.size
      by_cases h0 : k = 0
      · subst h0
        have hol : ol = [] := by rw [← Hol.out]; rfl
        subst hol
        have hc0' : wr.cell? ⟨b1, o1, none⟩ = some (.int .i64 y) := hc0
        have q0 : (0 : Int) < (l.length : Int) := by omega
        clear hc0 q1 q2
        have HU := Lib.hid (HU0.out.trans (show uqs [] z = [] ++ [z] by simp [uqs]))
        go_wp2_with fail
        go_quiet (fail)
        go_wp2_with (at_builtin; refine wpList_append_sl _ rfl (.tmp 34) (.tmp 42) _ rfl w1.heap.size 2 i0 _ 8 Try.underlying29 hi0 hz0 hz1 hz2 rfl (by omega) ic_len ic_one _ _ [] [z] rfl rfl ((hown.drewN _).alloc _) (Sl.new1 z (by first | rfl | simp)) (by simp only [maxLen, List.length_cons, List.length_nil]; omega) (by simp only [List.length_cons, List.length_nil]; omega) (by simp; omega) ?_; intro v3 w3 hown3 hg3 hmv3)
        have R : RURel l w1 v3 (.int .i64 1) w3 := by
          have := RURel.step hlt hbel hown HU hown3 hg3
          simpa using this
        go_roundw
        case rel => first | exact R | ((repeat apply Exists.intro); exact ⟨R, rfl⟩)
        case measure => simp [intOf]; omega
      · have hk1 : k - 1 < l.length := by omega
        obtain ⟨y0, hy0, hpy0, hly0⟩ := perm_at l hk1
        obtain ⟨b3, o3, c3, e3, _, _, hl3, _, hx⟩ := hs1.at_ (i := k - 1) (by rw [Hpl.out]; exact hk1)
        obtain ⟨b4, o4, c4, e4, _, _, hl4, _, hz⟩ := ((hl.below_ hb1'.out).below_ hbel).at_ hy0
        injection e3 with e3 e3' e3''
        injection e4 with e4 e4' e4''
        injection e3 with e3
        injection e4 with e4
        injection e3 with e3 e3o
        injection e4 with e4 e4o
        subst e3 e3o e4 e4o
        rw [hpy0] at hx
        obtain ⟨z0, Hz0⟩ : ∃ z0, Hid (l[y0] = z0) := ⟨_, Lib.hid rfl⟩
        rw [Hz0.out] at hz hly0
        have hc2 : wr.cell? ⟨b1, o1 + (k - 1), none⟩ = some (.int .i64 y0) := (hbel.cell (p := ⟨b1, o1 + (k - 1), none⟩) hl1).trans (by simpa using hx 0 _ rfl)
        have hc3 : wr.cell? ⟨b2, o2 + y0, none⟩ = some (.int .i64 z0) := by simpa using hz 0 _ rfl
        have hgl : ol.getLast? = some z0 := by
          rw [← Hol.out, hly0]
          have := uq_last ((sortI l).take (k - 1)) ((sortI l)[k - 1]'(by rw [HS.out]; exact hk1))
          rwa [← take_succ_eq (sortI l) (k - 1) (by rw [HS.out]; exact hk1), show k - 1 + 1 = k by omega] at this
        have r1 : (1 : Int) ≤ (k : Int) := by omega
        have r3 : ((k : Int) - 1).toNat = k - 1 := by omega
        have r4 : IntKind.i64.wrap ((k : Int) - 1) = (k : Int) - 1 := IntWalk.i64_in _ (by omega)
        have r5 : (0 : Int) ≤ (k : Int) - 1 := by omega
        have r6 : (k : Int) - 1 < (l.length : Int) := by omega
        have r7 : ((k : Int) == 0) = false := beq_eq_false_iff_ne.2 (by omega)
        have r8 : (0 : Int) ≤ (y0 : Int) := by omega
        have r9 : (y0 : Int) < (l.length : Int) := by omega
        clear hx hz hly0 e3' e3'' e4' e4'' hpy0
        by_cases hxy : z = z0
        · have hb0 : (z != z0) = false := by rw [hxy]; exact bne_self_eq_false _
          have HU := Lib.hid (HU0.out.trans (show uqs ol z = ol by unfold uqs; rw [hgl, hxy, if_pos rfl]))
          clear hxy hgl
          go_wp2_with fail
          go_quiet (fail)
          go_wp2_with fail
          have R : ∀ n, RURel l w1 _ (.int .i64 ((k : Int) + 1)) (wr.drewN n) := fun n => RURel.stay hlt hbel hown HU n
          go_roundw
          case rel => first | exact R _ | ((repeat apply Exists.intro); exact ⟨R _, rfl⟩)
          case measure => simp [intOf]; omega
        · have hb0 : (z != z0) = true := by simpa using hxy
          have HU := Lib.hid (HU0.out.trans (show uqs ol z = ol ++ [z] by unfold uqs; rw [hgl, if_neg (by intro e; injection e with e; exact hxy e.symm)]))
          clear hxy hgl
          go_wp2_with fail
          go_quiet (fail)
          go_wp2_with (at_builtin; refine wpList_append_sl _ rfl (.tmp 34) (.tmp 42) _ rfl w1.heap.size 2 i0 _ 8 Try.underlying29 hi0 hz0 hz1 hz2 rfl (by omega) ic_len ic_one _ _ ol [z] rfl rfl ((hown.drewN _).alloc _) (Sl.new1 z (by first | rfl | simp)) (by simp only [maxLen, List.length_cons, List.length_nil]; omega) (by simp only [List.length_cons, List.length_nil]; omega) (by simp; omega) ?_; intro v3 w3 hown3 hg3 hmv3)
          have R : RURel l w1 v3 (.int .i64 ((k : Int) + 1)) w3 := RURel.step hlt hbel hown HU hown3 hg3
          go_roundw
          case rel => first | exact R | ((repeat apply Exists.intro); exact ⟨R, rfl⟩)
          case measure => simp [intOf]; omega
    · have hkl : k = l.length := by omega
      subst hkl
      rw [List.take_of_length_le (by rw [HS.out]; omega)] at hown
      go_wp2
      go_ret
      exact ⟨_, rfl, hown.lower hb1'.out.size, Below.lift hb1'.out hbel⟩
end Go.Proofs.Ytjlnbeeffdallaa
