/- The walk of order.Uniq. -/
import Derived.Test.YtjlnbeeffdallaaOr
import Derived.Test.YtjlnbeeffdallaaMv
namespace Go.Proofs.Ytjlnbeeffdallaa
open Go.RowKit

/-- One number more: kept if it is not the last one. -/
def uqs (out : List Int) (x : Int) : List Int := if out.getLast? = some x then out else out ++ [x]
/-- Each number once, of numbers that do not fall. -/
def uq (l : List Int) : List Int := l.foldl uqs []
theorem uq_snoc (l : List Int) (x : Int) : uq (l ++ [x]) = uqs (uq l) x := by unfold uq; rw [List.foldl_append]; rfl
theorem uqs_length (out : List Int) (x : Int) : (uqs out x).length ≤ out.length + 1 := by
  unfold uqs; split
  · omega
  · simp
theorem foldl_uqs_length (l : List Int) : ∀ out, (l.foldl uqs out).length ≤ out.length + l.length := by
  induction l with
  | nil => intro out; simp
  | cons x r ih =>
    intro out
    rw [List.foldl_cons]
    have := ih (uqs out x)
    have := uqs_length out x
    rw [List.length_cons]; omega
theorem uq_length (l : List Int) : (uq l).length ≤ l.length := by
  have := foldl_uqs_length l []
  unfold uq
  rw [List.length_nil] at this; omega
/-- The numbers, sorted. -/
def sortI (l : List Int) : List Int := (Ms.srt (keyed l)).map (·.1)

def UniqRel (L : List (Int × Int)) (w : World) (t8 s3 s10 : Value) (wr : World) : Prop :=
  ∃ k : Nat, k ≤ L.length ∧ s10 = .int .i64 k ∧ Ow ic 1 wr w.heap.size 2 s3 (uq ((L.take k).map (·.1))) ∧ Below w.heap.size w wr ∧ Ow kc 2 wr w.heap.size 27 t8 L

theorem UniqRel.stay {L : List (Int × Int)} {w wr : World} {t8 s3 : Value} {k : Nat} {ol : List Int} (hlt : k < L.length) (hbel : Below w.heap.size w wr) (hoL : Ow kc 2 wr w.heap.size 27 t8 L) (hown : Ow ic 1 wr w.heap.size 2 s3 ol)
    (HU : Hid (uq ((L.take (k + 1)).map (·.1)) = ol)) (n : Nat) (o : Obj) : UniqRel L w t8 s3 (.int .i64 ((k : Int) + 1)) ((wr.alloc o).drewN n) :=
  ⟨k + 1, by omega, by go_num, by rw [HU.out]; exact (hown.alloc o).drewN n, below_drewN (hbel.alloc hbel.size o) n, (hoL.alloc o).drewN n⟩
theorem UniqRel.step {L : List (Int × Int)} {w wr w3 : World} {t8 s3 v3 : Value} {k n : Nat} {x : Int} {o o2 : Obj} {ol : List Int} (hlt : k < L.length) (hbel : Below w.heap.size w wr) (hoL : Ow kc 2 wr w.heap.size 27 t8 L) (hown : Ow ic 1 wr w.heap.size 2 s3 ol)
    (HU : Hid (uq ((L.take (k + 1)).map (·.1)) = ol ++ [x])) (h3 : Ow ic 1 w3 w.heap.size 2 v3 (ol ++ [x])) (hg : (((wr.alloc o).drewN n).alloc o2).grownBy w3 s3.ownBlock) : UniqRel L w t8 v3 (.int .i64 ((k : Int) + 1)) w3 := by
  have hz1 : w.heap.size ≤ ((wr.alloc o).drewN n).heap.size := by
    have := hbel.size
    have e : ((wr.alloc o).drewN n).heap.size = (wr.alloc o).heap.size := rfl
    rw [e]; simp; omega
  have hb2 : Below w.heap.size w (((wr.alloc o).drewN n).alloc o2) := (below_drewN (hbel.alloc hbel.size o) n).alloc hz1 o2
  refine ⟨k + 1, by omega, by go_num, by rw [HU.out]; exact h3, hb2.grown hg hb2.size fun g hk => (hown.lt hk).1, (((hoL.alloc o).drewN n).alloc o2).kept hg ?_⟩
  cases hg8 : t8.ownBlock with
  | none => exact .inl rfl
  | some g => exact .inr (Ne.symm (own_ne hoL hown (by decide) hg8))

set_option maxHeartbeats 1000000 in
theorem uniq_any (vl : Value) (l : List Int) (w : World) {P : Nat → Prop} (hl : Sl ic 1 w vl l P) (hsz : l.length ≤ 524288) :
    Calls Try.prog 19 #[vl] w (Made ic 1 2 (uq (sortI l)) w) := by
  obtain ⟨i0, hi0, hz0, hz1, hz2⟩ := info_parts info_i64
  obtain ⟨A, cap, rfl, hc1, hc2⟩ := hl.shape
  have hk := keys_any _ l w hl hsz
  have Hk := Lib.hid hk
  clear hk
  go_enter Try.func19, Try.ntmps19
  go_wp2_with fail
  refine Hk.out.mono ?_
  rintro e w1 ⟨v1, rfl, ho1, hb1⟩
  go_wp2_with fail
  refine (sorted_any v1 (keyed l) w1 ((ho1.sl kc_len).mono fun _ _ => trivial) (by rw [keyed_length]; exact hsz)).mono ?_
  rintro e w2 ⟨v2, rfl, ho2, hb2⟩
  have hb12 : Below w.heap.size w w2 := hb1.trans (hb2.mono hb1.size)
  have hLl : (Ms.srt (keyed l)).length = l.length := by rw [Ms.srt_length, keyed_length]
  have hP : sortI l = (Ms.srt (keyed l)).map (·.1) := rfl
  have ho2' := ho2.lower hb1.size
  obtain ⟨L, HL⟩ : ∃ L, Hid (Ms.srt (keyed l) = L) := ⟨_, Lib.hid rfl⟩
  rw [HL.out] at ho2' hLl hP
  obtain ⟨A2, c2, rfl, hd1, hd2⟩ := ho2'.shape
  have hLs : L.length ≤ 524288 := by omega
  have HP := Lib.hid hP
  clear hLl ho2 ho1 hP hb2
  go_wp2
  go_loopw [3, 5, 10] (fun s3 _ s10 wr => UniqRel L w (.slice A2 L.length c2) s3 s10 wr) (fun _ _ s10 _ => L.length - (intOf s10).toNat)
  case atStart => exact ⟨0, Nat.zero_le _, rfl, Ow.nil_, hb12, ho2'⟩
  case round =>
    obtain ⟨k, hk, rfl, hown, hbel, hoL⟩ := hrel
    by_cases hlt : k < L.length
    · obtain ⟨b, off, c, e, h1, h2, h3, _, h5⟩ := (hoL.sl kc_len).at_ hlt
      injection e with e e' e''
      subst e
      obtain ⟨x, Hx⟩ : ∃ x, Hid (L[k] = x) := ⟨_, Lib.hid rfl⟩
      rw [Hx.out] at h5
      have hc1 : wr.cell? ⟨b, off + k * 2, none⟩ = some (.int .i64 x.1) := by simpa using h5 0 _ rfl
      have hc2 : wr.cell? ⟨b, off + k * 2 + 1, none⟩ = some (.int .i64 x.2) := by simpa using h5 1 _ rfl
      obtain ⟨ol, Hol⟩ : ∃ ol, Hid (uq ((L.take k).map (·.1)) = ol) := ⟨_, Lib.hid rfl⟩
      rw [Hol.out] at hown
      have hlen : ol.length ≤ k := by
        rw [← Hol.out]
        have := uq_length ((L.take k).map (·.1))
        rw [List.length_map, List.length_take] at this
        omega
      obtain ⟨A3, c3, rfl, hf1, hf2⟩ := hown.shape
      clear h5 e' e''
      have q1 : (0 : Int) ≤ (k : Int) := by omega
      have q2 : (k : Int) < (L.length : Int) := by omega
      have hzw := hbel.size
      have hx1 : (L.take (k + 1)).map (·.1) = (L.take k).map (·.1) ++ [x.1] := by rw [take_succ_eq L k hlt, Hx.out, List.map_append]; rfl
      have HU0 := Lib.hid (show uq ((L.take (k + 1)).map (·.1)) = uqs ol x.1 by rw [hx1, uq_snoc, Hol.out])
      clear hx1
      by_cases h0 : ol = []
      · subst h0
        have HU := Lib.hid (HU0.out.trans (show uqs [] x.1 = [] ++ [x.1] by simp [uqs]))
        go_wp2_with fail
        go_quiet (fail)
        go_wp2_with (at_builtin; refine wpList_append_sl _ rfl (.tmp 28) (.tmp 31) _ rfl w.heap.size 2 i0 _ 8 Try.underlying29 hi0 hz0 hz1 hz2 rfl (by omega) ic_len ic_one _ _ [] [x.1] rfl rfl (((hown.alloc _).drewN _).alloc _) (Sl.new1 x.1 (by first | rfl | simp)) (by simp only [maxLen, List.length_cons, List.length_nil]; omega) (by simp only [List.length_cons, List.length_nil]; omega) (by simp; omega) ?_; intro v3 w3 hown3 hg3 hmv3)
        have R : UniqRel L w (.slice (some ⟨b, off, none⟩) L.length c2) v3 (.int .i64 ((k : Int) + 1)) w3 := UniqRel.step hlt hbel hoL hown HU hown3 hg3
        go_roundw
        case rel => first | exact R | ((repeat apply Exists.intro); exact ⟨R, rfl⟩)
        case measure => simp [intOf]; omega
      · have hpos : 0 < ol.length := List.length_pos_iff.2 h0
        obtain ⟨b3, o3, c3', e, _, _, hl3, _, hx⟩ := (hown.sl ic_len).at_ (i := ol.length - 1) (by omega)
        injection e with e e' e''
        subst e
        obtain ⟨y, Hy⟩ : ∃ y, Hid (ol[ol.length - 1]'(by omega) = y) := ⟨_, Lib.hid rfl⟩
        rw [Hy.out] at hx
        have hy0 : wr.cell? ⟨b3, o3 + (ol.length - 1), none⟩ = some (.int .i64 y) := by simpa using hx 0 _ rfl
        have hgl : ol.getLast? = some y := by rw [List.getLast?_eq_getElem?, List.getElem?_eq_getElem (by omega), Hy.out]
        have r1 : (1 : Int) ≤ (ol.length : Int) := by omega
        have r2 : (ol.length : Int) ≤ 524288 := by omega
        have r3 : ((ol.length : Int) - 1).toNat = ol.length - 1 := by omega
        have r4 : IntKind.i64.wrap ((ol.length : Int) - 1) = (ol.length : Int) - 1 := IntWalk.i64_in _ (by omega)
        have r5 : (0 : Int) ≤ (ol.length : Int) - 1 := by omega
        have r6 : (ol.length : Int) - 1 < (ol.length : Int) := by omega
        have r7 : ((ol.length : Int) == 0) = false := beq_eq_false_iff_ne.2 (by omega)
        clear hx e' e''
        by_cases hxy : y = x.1
        · have hb0 : (y != x.1) = false := by rw [hxy]; exact bne_self_eq_false _
          have HU := Lib.hid (HU0.out.trans (show uqs ol x.1 = ol by unfold uqs; rw [hgl, hxy, if_pos rfl]))
          clear hxy hgl
          go_wp2_with fail
          go_quiet (fail)
          go_wp2_with fail
          have R : ∀ n o, UniqRel L w (.slice (some ⟨b, off, none⟩) L.length c2) (.slice (some ⟨b3, o3, none⟩) ol.length c3) (.int .i64 ((k : Int) + 1)) ((wr.alloc o).drewN n) := fun n o => UniqRel.stay hlt hbel hoL hown HU n o
          go_roundw
          case rel => first | exact R _ _ | ((repeat apply Exists.intro); exact ⟨R _ _, rfl⟩)
          case measure => simp [intOf]; omega
        · have hb0 : (y != x.1) = true := by simpa using hxy
          have HU := Lib.hid (HU0.out.trans (show uqs ol x.1 = ol ++ [x.1] by unfold uqs; rw [hgl, if_neg (by intro e; injection e with e; exact hxy e)]))
          clear hxy hgl
          go_wp2_with fail
          go_quiet (fail)
          go_wp2_with (at_builtin; refine wpList_append_sl _ rfl (.tmp 28) (.tmp 31) _ rfl w.heap.size 2 i0 _ 8 Try.underlying29 hi0 hz0 hz1 hz2 rfl (by omega) ic_len ic_one _ _ ol [x.1] rfl rfl (((hown.alloc _).drewN _).alloc _) (Sl.new1 x.1 (by first | rfl | simp)) (by simp only [maxLen, List.length_cons, List.length_nil]; omega) (by simp only [List.length_cons, List.length_nil]; omega) (by simp; omega) ?_; intro v3 w3 hown3 hg3 hmv3)
          have R : UniqRel L w (.slice (some ⟨b, off, none⟩) L.length c2) v3 (.int .i64 ((k : Int) + 1)) w3 := UniqRel.step hlt hbel hoL hown HU hown3 hg3
          go_roundw
          case rel => first | exact R | ((repeat apply Exists.intro); exact ⟨R, rfl⟩)
          case measure => simp [intOf]; omega
    · have hkl : k = L.length := by omega
      subst hkl
      rw [List.take_of_length_le (Nat.le_refl _), ← HP.out] at hown
      go_wp2
      go_ret
      exact ⟨_, rfl, hown, hbel⟩

end Go.Proofs.Ytjlnbeeffdallaa
