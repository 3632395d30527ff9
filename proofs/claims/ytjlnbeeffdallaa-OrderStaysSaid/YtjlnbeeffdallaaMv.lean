/- The walk of the statement OrderMoved. -/
import Derived.Test.YtjlnbeeffdallaaOm
import Derived.Test.YtjlnbeeffdallaaMp
namespace Go.Proofs.Ytjlnbeeffdallaa
open Go.RowKit

/-- Two rows of one's own that lie in unlike blocks. -/
def Apart (a b : Value) : Prop := ∀ g, a.ownBlock = some g → b.ownBlock ≠ some g
theorem Apart.symm {a b : Value} (h : Apart a b) : Apart b a := fun g h1 h2 => h g h2 h1
theorem Apart.kept {a b : Value} (h : Apart a b) : b.ownBlock = none ∨ b.ownBlock ≠ a.ownBlock := by
  cases hb : b.ownBlock with
  | none => exact .inl rfl
  | some g => exact .inr (fun e => h g e.symm hb)
theorem Apart.moved {α : Type} {c : α → List Value} {size : Nat} {w : World} {base : Nat} {e : TypeId} {a b a' : Value} {l : List α} (h : Apart a b) (hb : Ow c size w base e b l) (hm : Moved w a a') : Apart a' b := by
  intro g hg hb'
  rcases hm with hm | ⟨g', hm, hge⟩
  · exact h g (by rw [← hm]; exact hg) hb'
  · rw [hm] at hg
    injection hg with hg
    have := hb.lt hb'
    omega

def inT (x : Int) : Prop := -1099511627776 ≤ x ∧ x ≤ 1099511627776
def MovRel (l : List Int) (by_ : Int) (w : World) (s5 s6 s7 : Value) (wr : World) : Prop :=
  ∃ k : Nat, k ≤ l.length ∧ s7 = .int .i64 k ∧ Ow ic 1 wr w.heap.size 2 s5 ((l.take k).map (· + by_)) ∧ Ow ic 1 wr w.heap.size 2 s6 ((l.reverse.take k).map (fun z => wrap64 (-z))) ∧ Apart s5 s6 ∧ Below w.heap.size w wr ∧ ∀ x ∈ l.take k, inT x

set_option maxHeartbeats 4000000 in
theorem moved_any (vl : Value) (l : List Int) (by_ : Int) (w : World) {P : Nat → Prop} (hl : Sl ic 1 w vl l P) :
    Calls Try.prog 4 #[vl, .int .i64 by_] w fun r w' => r = .returned (.bool true) ∧ Below w.heap.size w w' := by
  obtain ⟨i0, hi0, hz0, hz1, hz2⟩ := info_parts info_i64
  obtain ⟨A, ca, rfl, ha1, ha2⟩ := hl.shape
  by_cases hla : (200 : Int) < (l.length : Int)
  · go_enter Try.func4, Try.ntmps4
    go_wp2_with fail
    refine (lives_any _).mono ?_
    rintro e w1 ⟨rfl, hbel1⟩
    go_wp2_with fail
    go_ret
    exact ⟨rfl, hbel1⟩
  have hd : decide ((200 : Int) < (l.length : Int)) = false := decide_eq_false hla
  by_cases hb1 : by_ < -1099511627776
  · go_enter Try.func4, Try.ntmps4
    go_wp2_with fail
    refine (lives_any _).mono ?_
    rintro e w1 ⟨rfl, hbel1⟩
    go_wp2_with fail
    go_ret
    exact ⟨rfl, hbel1⟩
  have hd1 : decide (by_ < -1099511627776) = false := decide_eq_false hb1
  by_cases hb2 : 1099511627776 < by_
  · go_enter Try.func4, Try.ntmps4
    go_wp2_with fail
    refine (lives_any _).mono ?_
    rintro e w1 ⟨rfl, hbel1⟩
    go_wp2_with fail
    go_ret
    exact ⟨rfl, hbel1⟩
  have hd2 : decide (1099511627776 < by_) = false := decide_eq_false hb2
  have hbl : -1099511627776 ≤ by_ := by omega
  have hbh : by_ ≤ 1099511627776 := by omega
  have hll : l.length ≤ 200 := by omega
  clear hla hb1 hb2
  go_enter Try.func4, Try.ntmps4
  go_wp2_with fail
  refine (lives_any _).mono ?_
  rintro e w1 ⟨rfl, hbel1⟩
  go_wp2_with fail
  go_loopw [5, 6, 7] (fun s5 s6 s7 wr => MovRel l by_ w s5 s6 s7 wr) (fun _ _ s7 _ => l.length - (intOf s7).toNat)
  case atStart => exact ⟨0, Nat.zero_le _, rfl, Ow.nil_, Ow.nil_, (fun g h => by simp [Value.ownBlock] at h), hbel1, fun x hx => by cases hx⟩
  case round =>
    obtain ⟨k, hk, rfl, ho5, ho6, hap, hbel, hin⟩ := hrel
    by_cases hlt : k < l.length
    · obtain ⟨b, off, c, e, h1, h2, h3, _, h5⟩ := hl.form (by omega)
      injection e with e e' e''
      subst e
      have hcx := h5 k l[k] (List.getElem?_eq_getElem hlt) 0 _ rfl
      have hcy := h5 (l.length - 1 - k) l[l.length - 1 - k] (List.getElem?_eq_getElem (by omega)) 0 _ rfl
      obtain ⟨x, Hx⟩ : ∃ x, Hid (l[k] = x) := ⟨_, Lib.hid rfl⟩
      obtain ⟨y, Hy⟩ : ∃ y, Hid (l[l.length - 1 - k] = y) := ⟨_, Lib.hid rfl⟩
      rw [Hx.out] at hcx
      rw [Hy.out] at hcy
      have hx0 : wr.cell? ⟨b, off + k, none⟩ = some (.int .i64 x) := (hbel.cell (p := ⟨b, off + k, none⟩) h3).trans (by simpa using hcx)
      have hy0 : w.cell? ⟨b, off + (l.length - 1 - k), none⟩ = some (.int .i64 y) := by simpa using hcy
      clear hcx hcy h5 e' e''
      have q1 : (0 : Int) ≤ (k : Int) := by omega
      have q2 : (k : Int) < (l.length : Int) := by omega
      by_cases hx1 : x < -1099511627776
      · go_wp2_with fail
        go_ret
        exact ⟨rfl, hbel⟩
      by_cases hx2 : 1099511627776 < x
      · have g1 : decide (x < -1099511627776) = false := decide_eq_false hx1
        go_wp2_with fail
        go_ret
        exact ⟨rfl, hbel⟩
      have g1 : decide (x < -1099511627776) = false := decide_eq_false hx1
      have g2 : decide (1099511627776 < x) = false := decide_eq_false hx2
      have x1 : -1099511627776 ≤ x := by omega
      have x2 : x ≤ 1099511627776 := by omega
      have l5 : ((l.take k).map (· + by_)).length = k := by rw [List.length_map, List.length_take]; omega
      have l6 : ((l.reverse.take k).map (fun z => wrap64 (-z))).length = k := by rw [List.length_map, List.length_take, List.length_reverse]; omega
      have L5 := Lib.hid l5
      have L6 := Lib.hid l6
      clear l5 l6 hx1 hx2
      have hzw := hbel.size
      have q3 : (0 : Int) ≤ (l.length : Int) - 1 - (k : Int) := by omega
      have q4 : (l.length : Int) - 1 - (k : Int) < (l.length : Int) := by omega
      have q5 : ((l.length : Int) - 1 - (k : Int)).toNat = l.length - 1 - k := by omega
      have q6 : (k : Int) ≤ (l.length : Int) - 1 := by omega
      have q7 : (1 : Int) ≤ (l.length : Int) := by omega
      go_wp2_with (first | (at_builtin; refine wpList_append_sl _ rfl (.tmp 43) (.tmp 50) _ rfl w.heap.size 2 i0 _ 8 Try.underlying29 hi0 hz0 hz1 hz2 rfl (by omega) ic_len ic_one _ _ ((l.take k).map (· + by_)) [x + by_] rfl rfl (ho5.alloc _) (Sl.new1 (x + by_) (by simp)) (by rw [L5.out]; simp only [maxLen, List.length_cons, List.length_nil]; omega) (by rw [L5.out]; simp only [List.length_cons, List.length_nil]; omega) (by simp; omega) ?_; intro v5 w5 ho5' hg5 hmv5; have hbel5 := (hbel.alloc hzw _).grown hg5 (Nat.le_trans hzw (by simp)) (fun g hg => (ho5.lt hg).1); have hy5 := (hbel5.cell (p := ⟨b, off + (l.length - 1 - k), none⟩) h3).trans hy0) | (at_builtin; refine wpList_append_sl _ rfl (.tmp 52) (.tmp 62) _ rfl w.heap.size 2 i0 _ 8 Try.underlying29 hi0 hz0 hz1 hz2 rfl (by omega) ic_len ic_one _ _ ((l.reverse.take k).map (fun z => wrap64 (-z))) [wrap64 (-y)] rfl rfl (((ho6.alloc _).kept hg5 hap.kept).alloc _) (Sl.new1 (wrap64 (-y)) (by rfl)) (by rw [L6.out]; simp only [maxLen, List.length_cons, List.length_nil]; omega) (by rw [L6.out]; simp only [List.length_cons, List.length_nil]; omega) (by have := hbel5.size; simp; omega) ?_; intro v6 w6 ho6' hg6 hmv6))
      have hap5 := Apart.moved hap (ho6.alloc _) hmv5
      have hap6 := (Apart.moved hap5.symm (ho5'.alloc _) hmv6).symm
      have hrk : l.reverse[k]'(by simpa using hlt) = y := by rw [List.getElem_reverse]; exact Hy.out
      have R : MovRel l by_ w v5 v6 (.int .i64 ((k : Int) + 1)) w6 := ⟨k + 1, by omega, by go_num, by rw [take_succ_eq l k hlt, Hx.out, List.map_append]; exact (ho5'.alloc _).kept hg6 hap5.symm.kept,
        by rw [take_succ_eq l.reverse k (by simpa using hlt), hrk, List.map_append]; exact ho6', hap6, (hbel5.alloc hbel5.size _).grown hg6 (Nat.le_trans hbel5.size (by simp)) (fun g hg => (ho6.lt hg).1),
        fun z hz => by
          rw [take_succ_eq l k hlt, Hx.out] at hz
          rcases List.mem_append.1 hz with hz | hz
          · exact hin z hz
          · rcases List.mem_singleton.1 hz with rfl
            exact ⟨x1, x2⟩⟩
      clear hg5 hg6 hmv5 hmv6 ho5' ho6' hap5 hap6 hrk
      go_roundw
      case rel => first | exact R | ((repeat apply Exists.intro); exact ⟨R, rfl⟩)
      case measure => simp [intOf]; omega
    · have hkl : k = l.length := by omega
      subst hkl
      rw [List.take_of_length_le (Nat.le_refl _)] at ho5 hin
      rw [List.take_of_length_le (by simp)] at ho6
      have hneg : l.reverse.map (fun z => wrap64 (-z)) = l.reverse.map (- ·) := List.map_congr_left fun z hz => by
        have := hin z (List.mem_reverse.1 hz)
        unfold inT at this
        exact IntWalk.wrap64_in _ ⟨by omega, by omega⟩
      rw [hneg] at ho6
      have hmono : ∀ a b : Int, a ≤ b ↔ a + by_ ≤ b + by_ := fun a b => by omega
      have hp2 : perm (l.map (· + by_)) = perm l := perm_map (· + by_) hmono l
      have hpl := perm_length l
      have hpb : (perm (l.reverse.map (- ·))).length = l.length := by rw [perm_length]; simp
      have hat := perm_back_getD l
      have hl5 : (l.map (· + by_)).length = l.length := by simp
      have hrng := perm_range l
      have Hrng := Lib.hid hrng
      clear hrng
      have hl6 : (l.reverse.map (- ·)).length = l.length := by simp
      have Hp2 := Lib.hid hp2
      have Hpl := Lib.hid hpl
      have Hpb := Lib.hid hpb
      have Hat := Lib.hid hat
      have Hl5 := Lib.hid hl5
      have Hl6 := Lib.hid hl6
      clear hneg hmono hp2 hpl hpb hat hl5 hl6 hin hap
      go_wp2_with fail
      refine (perm_any _ l _ (hl.below_ hbel) (by omega)).mono ?_
      rintro e w2 ⟨v8, rfl, ho8, hb8⟩
      go_wp2_with fail
      refine (perm_any _ (l.map (· + by_)) _ ((ho5.sl ic_len).below_ hb8) (by rw [Hl5.out]; omega)).mono ?_
      rintro e w3 ⟨v9, rfl, ho9, hb9⟩
      rw [Hp2.out] at ho9
      go_wp2_with fail
      refine (perm_any _ (l.reverse.map (- ·)) _ ((ho6.sl ic_len).below_ (Below.lift hb8 hb9)) (by rw [Hl6.out]; omega)).mono ?_
      rintro e w4 ⟨v10, rfl, ho10, hb10⟩
      have hs8 := (ho8.sl ic_len).below_ (Below.lift hb9 hb10)
      have hs9 := (ho9.sl ic_len).below_ hb10
      have hs10 := ho10.sl ic_len
      generalize perm (l.reverse.map (- ·)) = back at *
      obtain ⟨A8, c8, e8, f81, f82⟩ := hs8.shape
      obtain ⟨A10, c10, e10, f101, f102⟩ := hs10.shape
      rw [Hpl.out] at e8 f81
      rw [Hpb.out] at e10 f101
      subst e8 e10
      have hb14 : Below w.heap.size w w4 := hbel.trans ((Below.lift hb8 (Below.lift hb9 hb10)).mono hbel.size)
      clear ho8 ho9 ho10 hb8 hb9 hb10 ho5 ho6
      go_wp2_with fail
      refine (sameInt_any _ _ (perm l) (perm l) _ hs8 hs9 (by rw [Hpl.out]; omega)).mono ?_
      rintro e w5 ⟨rfl, n5, rfl⟩
      rw [decide_eq_true rfl]
      go_wp2_with fail
      generalize hperm : perm l = pl at *
      have Hperm := Lib.hid hperm
      clear hperm
      go_loopw [11] (fun s wr => ∃ k n : Nat, k ≤ l.length ∧ s = .int .i64 k ∧ wr = w4.drewN n) (fun s _ => l.length - (intOf s).toNat)
      case atStart => exact ⟨0, n5, Nat.zero_le _, rfl, rfl⟩
      case round =>
        obtain ⟨k, n, hk, rfl, rfl⟩ := hrel
        by_cases hlt : k < l.length
        · have hk10 : k < back.length := by rw [Hpb.out]; exact hlt
          have hk8 : l.length - 1 - k < pl.length := by rw [Hpl.out]; omega
          have hat := Hat.out k hlt
          obtain ⟨b1, o1, c1, e1, _, _, hl1, _, hx⟩ := hs10.at_ hk10
          obtain ⟨b2, o2, c2, e2, _, _, hl2, _, hy⟩ := hs8.at_ hk8
          rw [getD_at hk10, getD_at hk8] at hat
          injection e1 with e1 e1' e1''
          injection e2 with e2 e2' e2''
          subst e1 e2
          obtain ⟨x, Hx⟩ : ∃ x, Hid (back[k] = x) := ⟨_, Lib.hid rfl⟩
          obtain ⟨y, Hy⟩ : ∃ y, Hid (pl[l.length - 1 - k] = y) := ⟨_, Lib.hid rfl⟩
          rw [Hx.out] at hx hat
          rw [Hy.out] at hy hat
          have hx0 : w4.cell? ⟨b1, o1 + k, none⟩ = some (.int .i64 x) := by simpa using hx 0 _ rfl
          have hy0 : w4.cell? ⟨b2, o2 + (l.length - 1 - k), none⟩ = some (.int .i64 y) := by simpa using hy 0 _ rfl
          have hyr := Hrng.out y (by rw [← Hy.out]; exact List.getElem_mem _)
          have y1 := hyr.1
          have y2 := hyr.2
          have q1 : (0 : Int) ≤ (k : Int) := by omega
          have q2 : (k : Int) < (l.length : Int) := by omega
          have q3 : (0 : Int) ≤ (l.length : Int) - 1 - (k : Int) := by omega
          have q4 : (l.length : Int) - 1 - (k : Int) < (l.length : Int) := by omega
          have q5 : ((l.length : Int) - 1 - (k : Int)).toNat = l.length - 1 - k := by omega
          have q6 : (k : Int) ≤ (l.length : Int) - 1 := by omega
          have q7 : (1 : Int) ≤ (l.length : Int) := by omega
          have w1 : IntKind.i64.wrap ((l.length : Int) - 1) = (l.length : Int) - 1 := IntWalk.i64_in _ (by omega)
          have w2 : IntKind.i64.wrap ((l.length : Int) - 1 - (k : Int)) = (l.length : Int) - 1 - (k : Int) := IntWalk.i64_in _ (by omega)
          have w3 : IntKind.i64.wrap ((l.length : Int) - 1 - y) = (l.length : Int) - 1 - y := IntWalk.i64_in _ (by omega)
          have hb0 : (x == (l.length : Int) - 1 - y) = true := beq_iff_eq.2 hat
          clear hat hx hy e1' e1'' e2' e2'' hyr Hx Hy hk10 hk8
          go_wp2
          go_quiet (fail)
          go_wp2
          go_roundw
          case rel => exact ⟨k + 1, _, by omega, by go_num, by first | rfl | exact World.drewN_drewN _ _ _⟩
          case measure => simp [intOf]; omega
        · go_wp2
          go_ret
          exact ⟨rfl, below_drewN hb14 n⟩

end Go.Proofs.Ytjlnbeeffdallaa
