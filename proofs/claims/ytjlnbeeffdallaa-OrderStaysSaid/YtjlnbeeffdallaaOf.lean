/- The walk of the statement OrderFinds. -/
import Derived.Test.YtjlnbeeffdallaaFp
import Derived.Test.YtjlnbeeffdallaaOn
namespace Go.Proofs.Ytjlnbeeffdallaa
open Go.RowKit

def FindRel (l : List Int) (w : World) (s6 s7 : Value) (wr : World) : Prop :=
  ∃ k : Nat, k ≤ l.length ∧ s7 = .int .i64 k ∧ Ow ic 1 wr w.heap.size 2 s6 ((sortI l).take k) ∧ Below w.heap.size w wr

set_option maxHeartbeats 4000000 in
set_option maxRecDepth 10000 in
theorem finds_any (vl : Value) (l : List Int) (x : Int) (w : World) {P : Nat → Prop} (hl : Sl ic 1 w vl l P) :
    Calls Try.prog 6 #[vl, .int .i64 x] w fun r w' => r = .returned (.bool true) ∧ Below w.heap.size w w' := by
  obtain ⟨i0, hi0, hz0, hz1, hz2⟩ := info_parts info_i64
  obtain ⟨A, ca, rfl, ha1, ha2⟩ := hl.shape
  by_cases hla : (200 : Int) < (l.length : Int)
  · go_enter Try.func6, Try.ntmps6
    go_wp2_with fail
    refine (lives_any _).mono ?_
    rintro e w1 ⟨rfl, hbel1⟩
    go_wp2_with fail
    go_ret
    exact ⟨rfl, hbel1⟩
  have hd : decide ((200 : Int) < (l.length : Int)) = false := decide_eq_false hla
  have hll : l.length ≤ 200 := by omega
  clear hla
  go_enter Try.func6, Try.ntmps6
  go_wp2_with fail
  refine (lives_any _).mono ?_
  rintro e w1 ⟨rfl, hbel1⟩
  go_wp2_with fail
  refine (perm_any _ l _ (hl.below_ hbel1) (by omega)).mono ?_
  rintro e w2 ⟨v2, rfl, ho2, hb2⟩
  have hpl := perm_length l
  have hs2 := ho2.sl ic_len
  obtain ⟨A2, c2, e2, f21, f22⟩ := hs2.shape
  rw [hpl] at e2 f21
  subst e2
  have HB2 := Below.lift hbel1 hb2
  go_wp2_with fail
  go_loopw [6, 7] (fun s6 s7 wr => FindRel l w2 s6 s7 wr) (fun _ s7 _ => l.length - (intOf s7).toNat)
  case atStart => exact ⟨0, Nat.zero_le _, rfl, Ow.nil_, Below.refl _ _⟩
  case round =>
    obtain ⟨k, hk, rfl, hown, hbel⟩ := hrel
    by_cases hlt : k < l.length
    · obtain ⟨y, hy, hpy, hly⟩ := perm_at l hlt
      obtain ⟨b1, o1, c1, e1, _, _, hl1, _, hx⟩ := hs2.at_ (i := k) (by rw [hpl]; exact hlt)
      obtain ⟨b2, o2, c2', e2, _, _, hl2, _, hz⟩ := ((hl.below_ HB2).below_ hbel).at_ hy
      injection e1 with e1 e1' e1''
      injection e2 with e2 e2' e2''
      subst e1 e2
      rw [hpy] at hx
      obtain ⟨z, Hz⟩ : ∃ z, Hid (l[y] = z) := ⟨_, Lib.hid rfl⟩
      rw [Hz.out] at hz hly
      have hc0 : wr.cell? ⟨b1, o1 + k, none⟩ = some (.int .i64 y) := (hbel.cell (p := ⟨b1, o1 + k, none⟩) hl1).trans (by simpa using hx 0 _ rfl)
      have hc1 : wr.cell? ⟨b2, o2 + y, none⟩ = some (.int .i64 z) := by simpa using hz 0 _ rfl
      have Hly := Lib.hid hly
      have q1 : (0 : Int) ≤ (k : Int) := by omega
      have q2 : (k : Int) < (l.length : Int) := by omega
      have q3 : (0 : Int) ≤ (y : Int) := by omega
      have q4 : (y : Int) < (l.length : Int) := by omega
      have hlen : ((sortI l).take k).length = k := by rw [List.length_take, sortI_length]; omega
      have Hlen := Lib.hid hlen
      have hpy' := Lib.hid hpy
      clear hx hz hly e1' e1'' e2' e2'' hpy hlen
      have hzw := hbel.size
      clear ha1 ha2 f21 f22
      go_wp2_with (at_builtin; refine wpList_append_sl _ rfl (.tmp 46) (.tmp 54) _ rfl w2.heap.size 2 i0 _ 8 Try.underlying29 hi0 hz0 hz1 hz2 rfl (by omega) ic_len ic_one _ _ ((sortI l).take k) [z] rfl rfl (hown.alloc _) (Sl.new1 z (by first | rfl | simp)) (by rw [Hlen.out]; simp only [maxLen, List.length_cons, List.length_nil]; omega) (by rw [Hlen.out]; simp only [List.length_cons, List.length_nil]; omega) (by simp; omega) ?_; intro v3 w3 hown3 hg3 hmv3)
      have R : FindRel l w2 v3 (.int .i64 ((k : Int) + 1)) w3 := ⟨k + 1, by omega, by go_num, by rw [take_succ_eq (sortI l) k (by rw [sortI_length]; exact hlt), ← Hly.out]; exact hown3, (hbel.alloc hzw _).grown hg3 (by simp; omega) fun g hg => (hown.lt hg).1⟩
      go_roundw
      case rel => first | exact R | ((repeat apply Exists.intro); exact ⟨R, rfl⟩)
      case measure => simp [intOf]; omega
    · have hkl : k = l.length := by omega
      subst hkl
      have hSl := sortI_length l
      rw [List.take_of_length_le (by omega)] at hown
      have hsS := hown.sl ic_len
      have Hst := Lib.hid (sortI_steps l)
      have Hbd := Lib.hid (bounds (sortI_steps l) x)
      have Hlo := Lib.hid (fun i h => lower_iff (sortI_steps l) x (i := i) h)
      have Hup := Lib.hid (fun i h => upper_iff (sortI_steps l) x (i := i) h)
      have HUr := Lib.hid (uq_rising l)
      have HUs := Lib.hid (uq_steps l)
      have HUm := Lib.hid (fun z h => uq_mem l (z := z) h)
      have HRi := Lib.hid (rising_iff l)
      have HUl := Lib.hid (show (uq (sortI l)).length ≤ l.length by rw [← hSl]; exact uq_length _)
      have HlU := Lib.hid (hl.below_ (Below.lift HB2 hbel))
      have HB3 := Lib.hid (Below.lift HB2 hbel)
      generalize hS : sortI l = S at *
      have HS := Lib.hid hS
      clear hS
      obtain ⟨A6, c6, e6, f61, f62⟩ := hsS.shape
      rw [hSl] at e6 f61
      subst e6
      clear hs2 ho2 hb2 hbel1 hbel hl
      go_wp2_with fail
      refine (lower_any _ S x _ hsS (by omega)).mono ?_
      rintro e w5 ⟨rfl, hb5⟩
      go_wp2_with fail
      refine (upper_any _ S x _ (hsS.below_ hb5) (by omega)).mono ?_
      rintro e w6 ⟨rfl, hb6⟩
      generalize lower S x = a at *
      generalize upper S x = b at *
      obtain ⟨bd1, bd2, bd3⟩ := Hbd.out
      have bd4 : 0 ≤ b := by omega
      rw [hSl] at bd3
      have HB6 := Lib.hid (Below.lift HB3.out (Below.lift hb5 hb6))
      have hs6 := hsS.below_ (Below.lift hb5 hb6)
      have HlU6 := Lib.hid (HlU.out.below_ (Below.lift hb5 hb6))
      clear hb5 hb6 Hbd
      go_wp2_with fail
      go_loopw [10] (fun s wr => ∃ k n : Nat, k ≤ l.length ∧ s = .int .i64 k ∧ wr = w6.drewN n) (fun s _ => l.length - (intOf s).toNat)
      case atStart => exact ⟨0, 0, Nat.zero_le _, rfl, rfl⟩
      case round =>
        obtain ⟨k, n, hk, rfl, rfl⟩ := hrel
        by_cases hlt : k < l.length
        · obtain ⟨b1, o1, c1, e1, _, _, hl1, _, hx⟩ := hs6.at_ (i := k) (by rw [hSl]; exact hlt)
          injection e1 with e1 e1' e1''
          subst e1
          have g1 := Hlo.out k (by rw [hSl]; exact hlt)
          have g2 := Hup.out k (by rw [hSl]; exact hlt)
          obtain ⟨z, Hz⟩ : ∃ z, Hid (S[k]'(by rw [hSl]; exact hlt) = z) := ⟨_, Lib.hid rfl⟩
          rw [Hz.out] at hx g1 g2
          have hc1 : w6.cell? ⟨b1, o1 + k, none⟩ = some (.int .i64 z) := by simpa using hx 0 _ rfl
          have d1 : decide (z < x) = decide ((k : Int) < a) := decide_eq_decide.2 g1.symm
          have d2 : decide (x < z) = decide (b ≤ (k : Int)) := decide_eq_decide.2 g2.symm
          have q1 : (0 : Int) ≤ (k : Int) := by omega
          have q2 : (k : Int) < (l.length : Int) := by omega
          clear g1 g2 hx e1' e1''
          go_wp2
          exact ⟨⟨k + 1, n, by omega, by go_num, rfl⟩, by simp only [intOf]; omega⟩
        · clear Hlo Hup
          go_wp2_with fail
          refine (uniq_any _ l _ (HlU6.out.drewN n) (by omega)).mono ?_
          rintro e w8 ⟨v8, rfl, ho8, hb8⟩
          rw [HS.out] at ho8
          have HB8 := Lib.hid (Below.lift (below_drewN HB6.out n) hb8)
          have hs8 := (hs6.drewN n).below_ hb8
          have hRi : stepsB (fun a b => decide (a < b)) S = (((uq S).length : Int) == (l.length : Int)) := by
            rw [HRi.out, hSl]
            by_cases h : (uq S).length = l.length
            · rw [decide_eq_true h, h]; exact (beq_self_eq_true _).symm
            · rw [decide_eq_false h]; exact (beq_eq_false_iff_ne.2 (by omega)).symm
          generalize hU : uq S = U at *
          obtain ⟨A8, c8, rfl, f81, f82⟩ := ho8.shape
          have hu8 := ho8.sl ic_len
          have hUl := HUl.out
          clear ho8 hb8 HRi HUl
          go_wp2_with fail
          refine (rising_any _ U _ hu8 (by omega)).mono ?_
          rintro e w9 ⟨rfl, n9, rfl⟩
          rw [HUr.out]
          go_wp2_with fail
          refine (rising_any _ S _ (hs8.drewN n9) (by omega)).mono ?_
          rintro e w10 ⟨rfl, n10, rfl⟩
          rw [hRi]
          clear hRi
          go_wp2_with fail
          go_loopw [12] (fun s wr => ∃ k : Nat, k ≤ l.length ∧ s = .int .i64 k ∧ Below w8.heap.size w8 wr) (fun s _ => l.length - (intOf s).toNat)
          case atStart => exact ⟨0, Nat.zero_le _, rfl, by first | exact below_drewN (below_drewN (Below.refl _ _) n9) n10 | exact below_drewN (Below.refl _ _) _⟩
          case round =>
            obtain ⟨k, hk, rfl, hbel⟩ := hrel
            by_cases hlt : k < l.length
            · obtain ⟨b1, o1, c1, e1, _, _, hl1, _, hx⟩ := hs8.at_ (i := k) (by rw [hSl]; exact hlt)
              injection e1 with e1 e1' e1''
              subst e1
              have hm := HUm.out _ (List.getElem_mem (show k < S.length by rw [hSl]; exact hlt))
              obtain ⟨z, Hz⟩ : ∃ z, Hid (S[k]'(by rw [hSl]; exact hlt) = z) := ⟨_, Lib.hid rfl⟩
              rw [Hz.out] at hx hm
              obtain ⟨j, hj, hlj, hjz⟩ := lower_hit HUs.out hm
              obtain ⟨b2, o2, c2', e2, _, _, hl2, _, hy⟩ := hu8.at_ hj
              injection e2 with e2 e2' e2''
              subst e2
              rw [hjz] at hy
              have hc1 : wr.cell? ⟨b1, o1 + k, none⟩ = some (.int .i64 z) := (hbel.cell (p := ⟨b1, o1 + k, none⟩) hl1).trans (by simpa using hx 0 _ rfl)
              have HL := Lib.hid (lower_any _ U z wr (hu8.below_ hbel) (by omega))
              rw [hlj] at HL
              have q1 : (0 : Int) ≤ (k : Int) := by omega
              have q2 : (k : Int) < (l.length : Int) := by omega
              have q3 : (0 : Int) ≤ (j : Int) := by omega
              have q4 : (j : Int) < (U.length : Int) := by omega
              clear hx e1' e1'' e2' e2'' hm hlj hjz
              go_wp2_with fail
              refine HL.out.mono ?_
              rintro e w11 ⟨rfl, hb11⟩
              have hc2 : w11.cell? ⟨b2, o2 + j, none⟩ = some (.int .i64 z) := (hb11.cell (p := ⟨b2, o2 + j, none⟩) (Nat.lt_of_lt_of_le hl2 hbel.size)).trans ((hbel.cell (p := ⟨b2, o2 + j, none⟩) hl2).trans (by simpa using hy 0 _ rfl))
              have hc3 : w11.cell? ⟨b1, o1 + k, none⟩ = some (.int .i64 z) := (hb11.cell (p := ⟨b1, o1 + k, none⟩) (Nat.lt_of_lt_of_le hl1 hbel.size)).trans hc1
              have hb12 := Below.lift hbel hb11
              clear hy
              have hjU : ¬ ((U.length : Int) ≤ (j : Int)) := by omega
              have hdU : decide ((U.length : Int) ≤ (j : Int)) = false := decide_eq_false hjU
              have hdj : decide ((j : Int) < 0) = false := decide_eq_false (by omega)
              have hzz : (z != z) = false := bne_self_eq_false z
              go_wp2
              go_quiet (fail)
              go_wp2
              exact ⟨⟨k + 1, by omega, by go_num, by first | exact below_drewN hb12 _ | exact hb12⟩, by simp only [intOf]; omega⟩
            · go_wp2_with fail
              go_ret
              exact ⟨by first | rfl | simp; omega, Below.lift HB8.out hbel⟩

end Go.Proofs.Ytjlnbeeffdallaa
