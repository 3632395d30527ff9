/- The walk of order.Sorted. -/
import Derived.Test.YtjlnbeeffdallaaMg
import Derived.Deep.DeepCutAuto
import Derived.Deep.LoopGhost
namespace Go.Proofs.Ytjlnbeeffdallaa
open Go.RowKit

/-- Both rows, and what the call has not written. -/
def SoRows (w : World) (lf lt : List (Int × Int)) (s3 s4 : Value) (wr : World) : Prop :=
  Ow kc 2 wr w.heap.size 27 s3 lf ∧ Ow kc 2 wr w.heap.size 27 s4 lt ∧ (∀ g, s3.ownBlock = some g → s4.ownBlock ≠ some g) ∧ Below w.heap.size w wr

/-- The empty row appended to lies in a block apart from the other row. -/
theorem SoRows.of {w W w1 : World} {l : List (Int × Int)} {v0 v1 s4 : Value} {g0 : Nat} (hb : Below w.heap.size w W) (h4 : Ow kc 2 W w.heap.size 27 s4 ([] : List (Int × Int))) (h0 : v0.ownBlock = some g0) (hge : w.heap.size ≤ g0) (hne : s4.ownBlock ≠ some g0)
    (h1 : Ow kc 2 w1 w.heap.size 27 v1 ([] ++ l)) (hg : W.grownBy w1 v0.ownBlock) (hm : Moved W v0 v1) : SoRows w l [] v1 s4 w1 := by
  rw [h0] at hg
  refine ⟨by simpa using h1, h4.kept hg (.inr hne), ?_, hb.grown hg hb.size fun k hk => by injection hk with hk; omega⟩
  intro k hk e
  rcases hm with hm | ⟨g, hm, hgg⟩
  · rw [hm, h0] at hk; rw [e] at hne; exact hne hk.symm
  · rw [hm] at hk
    injection hk with hk
    have := h4.lt e
    omega
theorem SoRows.of_make {w W w1 : World} {l : List (Int × Int)} {v0 v1 : Value} {g0 n : Nat} {z : Value} (hb : Below w.heap.size w W) (h0 : v0.ownBlock = some g0) (hge : w.heap.size ≤ g0) (hn : n ≤ maxLen)
    (h1 : Ow kc 2 w1 w.heap.size 27 v1 ([] ++ l)) (hg : W.grownBy w1 v0.ownBlock) : SoRows w l [] v1 (.slice (some ⟨w1.heap.size, 0, none⟩) 0 n) (w1.alloc (freshRow z 2 n 27)) := by
  rw [h0] at hg
  have hb1 : Below w.heap.size w w1 := hb.grown hg hb.size fun k hk => by injection hk with hk; omega
  refine ⟨(by simpa using h1 : Ow kc 2 w1 w.heap.size 27 v1 l).alloc _, Ow.fresh hb1.size hn, ?_, hb1.alloc hb1.size _⟩
  intro g hg e
  have h5 := h1.lt hg
  have e' : w1.heap.size = g := by simpa [Value.ownBlock] using e
  omega

def SoPost (l : List (Int × Int)) (w : World) (e : Ending) (w' : World) : Prop :=
  ∃ v', e = .returned v' ∧ Ow kc 2 w' w.heap.size 27 v' (Ms.srt l) ∧ Below w.heap.size w w'

def SoOut (w : World) (l : List (Int × Int)) (s3 s4 s5 : Value) (wr : World) : Prop :=
  ∃ (d : Nat) (lf lt : List (Int × Int)), 1 ≤ d ∧ d ≤ 1048576 ∧ s5 = .int .i64 d ∧ Ms.Pieces d l lf ∧ SoRows w lf lt s3 s4 wr
def SoIn (w : World) (l lf : List (Int × Int)) (d : Nat) (s3 s4 s6 : Value) (wr : World) : Prop :=
  ∃ (k at_ : Nat) (lt : List (Int × Int)), s6 = .int .i64 at_ ∧ at_ ≤ l.length + 2 * d ∧ Hid (at_ = k * (2 * d)) ∧ Ms.Done (2 * d) k l lt ∧ SoRows w lf lt s3 s4 wr

/-- One piece more: the call of merge in Sorted's inner round. -/
theorem so_call {w wr : World} {l lf lt : List (Int × Int)} {d k at_ mid stop : Nat} {s3 s4 va vb : Value} (hp : Ms.Pieces d l lf) (hd : 1 ≤ d) (hsz : l.length ≤ 524288) (hat : Hid (at_ = k * (2 * d))) (hlt : at_ < l.length)
    (hm : mid = min (at_ + d) l.length) (hs : stop = min (at_ + 2 * d) l.length) (hdone : Ms.Done (2 * d) k l lt) (hr : SoRows w lf lt s3 s4 wr)
    (ha : ∀ P, Sl kc 2 wr s3 lf P → Sl kc 2 wr va ((lf.take mid).drop at_) P) (hb : ∀ P, Sl kc 2 wr s3 lf P → Sl kc 2 wr vb ((lf.take stop).drop mid) P) :
    Calls Try.prog 30 #[s4, va, vb] wr.drew fun e w' => ∃ v, e = .returned v ∧ ∃ lt', Hid (at_ + 2 * d = (k + 1) * (2 * d)) ∧ Ms.Done (2 * d) (k + 1) l lt' ∧ SoRows w lf lt' s3 v w' := by
  obtain ⟨h3, h4, hne, hbel⟩ := hr
  have hat' := hat.out
  have hl3 := hp.1
  have hlt' : lt.length = at_ := by rw [hdone.1, ← hat']; omega
  have hlp : lf.length = l.length := hp.1
  have hsl : Sl kc 2 wr s3 lf (fun b => some b ≠ s4.ownBlock) := (h3.sl kc_len).mono fun b ⟨hb, _⟩ => Ne.symm (hne b hb)
  have la1 : ((lf.take mid).drop at_).length ≤ 524288 := by rw [List.length_drop, List.length_take]; omega
  have lb1 : ((lf.take stop).drop mid).length ≤ 524288 := by rw [List.length_drop, List.length_take]; omega
  have lab : at_ + ((lf.take mid).drop at_).length + ((lf.take stop).drop mid).length ≤ 1048576 := by
    rw [List.length_drop, List.length_take, List.length_drop, List.length_take]; omega
  refine (merge_any w.heap.size s4 va vb lt _ _ wr.drew h4.drew (ha _ hsl).drew (hb _ hsl).drew hbel.size (by rw [hlt']; exact lab)).mono ?_
  rintro e w' ⟨v', rfl, ho, hg, hmv⟩
  have hg' : wr.grownBy w' s4.ownBlock := ⟨hg.os, hg.tape, hg.output, hg.size, hg.block⟩
  refine ⟨v', rfl, _, ?_, Ms.done_step hp (by omega) hdone (by rw [← hat']; exact hlt) mid stop (by rw [← hat']; exact hm) (by rw [← hat']; exact hs), ?_⟩
  · show at_ + 2 * d = (k + 1) * (2 * d)
    rw [hat', Nat.add_mul, Nat.one_mul]
  · refine ⟨h3.kept hg' ?_, by rw [← hat']; exact ho, ?_, hbel.grown hg' hbel.size fun g hk => (h4.lt hk).1⟩
    · cases h : s3.ownBlock with
      | none => exact .inl rfl
      | some g => exact .inr (Ne.symm (hne g h))
    · intro g hg3
      rcases hmv with hmv | ⟨g', hmv, hge⟩
      · rw [hmv]; exact hne g hg3
      · rw [hmv]
        have h5 := h3.lt hg3
        have h6 : wr.heap.size ≤ g' := hge
        intro e
        injection e with e
        omega

set_option maxHeartbeats 1000000 in
theorem sorted_any (vl : Value) (l : List (Int × Int)) (w : World) (hl : Sl kc 2 w vl l (fun _ => True)) (hsz : l.length ≤ 524288) :
    Calls Try.prog 11 #[vl] w (SoPost l w) := by
  obtain ⟨i0, hi0, hz0, hz1, hz2⟩ := info_parts info_Key
  obtain ⟨A, cap, rfl, hc1, hc2⟩ := hl.shape
  have hmk := run_make_fresh (Pr := Try.prog) 22 27 i0 _ 2 16 Try.underlying22 hi0 hz0 hz1 hz2 0 l.length (by omega) (by omega) (by omega)
  rw [show ((0 : Nat) : Int) = 0 from rfl] at hmk
  have hlm : l.length ≤ maxLen := by unfold maxLen; omega
  have hz1' : ∀ o, (w.alloc o).heap.size = w.heap.size + 1 := fun o => by simp
  have hz2' : ∀ o, w.heap.size ≤ (w.alloc o).heap.size := fun o => by simp
  go_enter Try.func11, Try.ntmps11
  go_upto_region 1 with fail
  go_cut [3, 4] (fun s3 s4 wx => SoRows w l [] s3 s4 wx)
  case first =>
    go_region_held3 (fun _ => True) (trivial)
      ((refine step_append_sl _ (by rfl) _ _ _ (by rfl) w.heap.size 27 i0 _ 16 Try.underlying22 hi0 hz0 hz1 hz2 rfl (by omega) kc_len kc_one _ _ [] l (by rfl) (by rfl) (by first | exact (Ow.empty (Nat.le_refl _)).drew | exact ((Ow.empty (Nat.le_refl _)).alloc _).drew | exact (Ow.empty' (hz1' _) (Nat.le_succ _)).drew) (by first | exact (hl.alloc _).drew | exact ((hl.alloc _).alloc _).drew) (by simp only [maxLen, List.length_nil]; omega) (by simp only [List.length_nil]; omega) (by first | omega | (simp; omega) | simp) ?_; intro v1 w1 hown1 hg1 hmv1))
    all_goals
      go_wp2_with fail
      go_meet
      clear hmk
      first
        | exact SoRows.of_make (((Below.refl _ _).alloc (Nat.le_refl _) _).drew) (g0 := w.heap.size) rfl (Nat.le_refl _) hlm hown1 hg1
        | exact SoRows.of ((((Below.refl _ _).alloc (Nat.le_refl _) _).alloc (hz2' _) _).drew) (((Ow.fresh' (hz1' _) (Nat.le_succ _) hlm)).drew) (g0 := w.heap.size) rfl (Nat.le_refl _) (by simp [Value.ownBlock]) hown1 hg1 hmv1
        | exact SoRows.of ((((Below.refl _ _).alloc (Nat.le_refl _) _).alloc (hz2' _) _).drew) (((Ow.fresh (Nat.le_refl _) hlm).alloc _).drew) (g0 := w.heap.size + 1) rfl (by omega) (by simp [Value.ownBlock]) hown1 hg1 hmv1
  case rest =>
    have hpl := hl
    clear hmk
    go_wp2
    go_loopw [3, 4, 5, 6, 7, 8] (fun s3 s4 s5 _ _ _ wr => SoOut w l s3 s4 s5 wr) (fun _ _ s5 _ _ _ _ => l.length - (intOf s5).toNat)
    case atStart => exact ⟨1, l, [], by omega, by omega, rfl, Ms.pieces_one l, hcut⟩
    case round =>
      obtain ⟨wo, rfl⟩ : ∃ wo : World, wo = wr := ⟨_, rfl⟩
      obtain ⟨d, lf, lt, hd1, hd2, rfl, hp, hrows⟩ := hrel
      by_cases hlt : d < l.length
      · obtain ⟨A3, c3, e3, h31, h32⟩ := hrows.1.shape
        obtain ⟨A4, c4, rfl, h41, h42⟩ := hrows.2.1.shape
        rw [hp.1] at e3 h31
        subst e3
        go_wp2
        go_loopw [4, 6, 7, 8] (fun s4 s6 _ _ wr => SoIn w l lf d (.slice A3 l.length c3) s4 s6 wr) (fun _ s6 _ _ _ => l.length - (intOf s6).toNat)
        case atStart => exact ⟨0, 0, [], rfl, by omega, (Nat.zero_mul _).symm, Ms.done_zero _ _, hrows.1, Ow.begin kc_len hrows.2.1 (Nat.zero_le _), fun g h1 => by rw [ownBlock_len A4 0 lt.length c4 c4]; exact hrows.2.2.1 g h1, hrows.2.2.2⟩
        case round =>
          obtain ⟨k, at_, lt', rfl, hat, Hat, hdone, hrows'⟩ := hrel
          by_cases hlt2 : at_ < l.length
          · have q0 : (0 : Int) ≤ (at_ : Int) := by omega
            rcases (show l.length < at_ + d ∨ (at_ + d ≤ l.length ∧ l.length < at_ + 2 * d) ∨ at_ + 2 * d ≤ l.length from by omega) with g | ⟨g1, g2⟩ | g
            · have q1 : (at_ : Int) ≤ (l.length : Int) := by omega
              have q2 : (l.length : Int) ≤ (c3 : Int) := by omega
              go_wp2
              go_region_held3 (fun _ => True) (trivial) ((go_at_call 30; refine (so_call hp hd1 hsz Hat hlt2 (mid := l.length) (stop := l.length) (by omega) (by omega) hdone hrows' (fun P h => h.cut (by omega) (by have := hp.1; omega) (by omega)) (fun P h => h.cut (by omega) (by have := hp.1; omega) (by omega))).mono ?_; rintro e w' ⟨v1, rfl, lt1, hk1, hdone1, hrows1⟩; dsimp only))
              go_wp2
              go_roundw
              case rel => exact ⟨k + 1, at_ + 2 * d, lt1, by go_num, by omega, hk1, hdone1, hrows1⟩
              case measure => simp [intOf]; omega
            · have q1 : (at_ : Int) ≤ (at_ : Int) + (d : Int) := by omega
              have q2 : (at_ : Int) + (d : Int) ≤ (l.length : Int) := by omega
              have q3 : (l.length : Int) ≤ (c3 : Int) := by omega
              have q4 : (at_ : Int) + (d : Int) ≤ (c3 : Int) := by omega
              have q5 : (0 : Int) ≤ (at_ : Int) + (d : Int) := by omega
              go_wp2
              go_region_held3 (fun _ => True) (trivial) ((go_at_call 30; refine (so_call hp hd1 hsz Hat hlt2 (mid := at_ + d) (stop := l.length) (by omega) (by omega) hdone hrows' (fun P h => h.cut (by omega) (by have := hp.1; omega) (by omega)) (fun P h => h.cut (by omega) (by have := hp.1; omega) (by omega))).mono ?_; rintro e w' ⟨v1, rfl, lt1, hk1, hdone1, hrows1⟩; dsimp only))
              go_wp2
              go_roundw
              case rel => exact ⟨k + 1, at_ + 2 * d, lt1, by go_num, by omega, hk1, hdone1, hrows1⟩
              case measure => simp [intOf]; omega
            · have q1 : (at_ : Int) ≤ (at_ : Int) + (d : Int) := by omega
              have q2 : (at_ : Int) + (d : Int) ≤ (at_ : Int) + 2 * (d : Int) := by omega
              have q3 : (at_ : Int) + 2 * (d : Int) ≤ (c3 : Int) := by omega
              have q4 : (at_ : Int) + (d : Int) ≤ (c3 : Int) := by omega
              have q5 : (0 : Int) ≤ (at_ : Int) + (d : Int) := by omega
              have q6 : (0 : Int) ≤ (at_ : Int) + 2 * (d : Int) := by omega
              go_wp2
              go_region_held3 (fun _ => True) (trivial) ((go_at_call 30; refine (so_call hp hd1 hsz Hat hlt2 (mid := at_ + d) (stop := at_ + 2 * d) (by omega) (by omega) hdone hrows' (fun P h => h.cut (by omega) (by have := hp.1; omega) (by omega)) (fun P h => h.cut (by omega) (by have := hp.1; omega) (by omega))).mono ?_; rintro e w' ⟨v1, rfl, lt1, hk1, hdone1, hrows1⟩; dsimp only))
              go_wp2
              go_roundw
              case rel => exact ⟨k + 1, at_ + 2 * d, lt1, by go_num, by omega, hk1, hdone1, hrows1⟩
              case measure => simp [intOf]; omega
          · go_wp2
            go_roundw
            case rel => exact ⟨2 * d, lt', lf, by omega, by omega, by go_num, Ms.done_all hdone (by have := Hat.out; omega), hrows'.2.1, hrows'.1, fun g h1 h2 => hrows'.2.2.1 g h2 h1, hrows'.2.2.2⟩
            case measure => simp [intOf]; omega
      · go_wp2
        go_ret
        refine ⟨_, rfl, ?_, hrows.2.2.2⟩
        rw [← Ms.pieces_all hp (by omega)]
        exact hrows.1

end Go.Proofs.Ytjlnbeeffdallaa
