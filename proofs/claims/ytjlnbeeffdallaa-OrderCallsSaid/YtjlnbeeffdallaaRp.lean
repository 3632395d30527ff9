/- The walks of timetableref02.Perm, Uniq. -/
import Derived.Test.YtjlnbeeffdallaaRs
import Derived.Test.YtjlnbeeffdallaaUq
namespace Go.Proofs.Ytjlnbeeffdallaa
open Go.RowKit

set_option maxHeartbeats 2000000 in
theorem rperm_any (vl : Value) (l : List Int) (w : World) {P : Nat → Prop} (hl : Sl ic 1 w vl l P) (hsz : l.length ≤ 524288) :
    Calls Try.prog 25 #[vl] w (Made ic 1 3 (perm l) w) := by
  obtain ⟨j0, hj0, hy0, hy1, hy2⟩ := info_parts info_Key
  obtain ⟨i0, hi0, hz0, hz1, hz2⟩ := info_parts info_int
  obtain ⟨A, cap, rfl, hc1, hc2⟩ := hl.shape
  go_enter Try.func25, Try.ntmps25
  go_wp2
  go_loopw [3, 4] (fun s3 s8 wr => KeysRel l w s3 s8 wr) (fun _ s8 _ => l.length - (intOf s8).toNat)
  case atStart => exact ⟨0, Nat.zero_le _, rfl, Ow.nil_, Below.refl _ _⟩
  case round =>
    obtain ⟨k, hk, rfl, hown, hbel⟩ := hrel
    by_cases hlt : k < l.length
    · obtain ⟨b, off, c, e, h1, h2, h3, _, h5⟩ := (hl.below_ hbel).at_ hlt
      injection e with e e' e''
      subst e
      obtain ⟨x, Hx⟩ : ∃ x, Hid (l[k] = x) := ⟨_, Lib.hid rfl⟩
      rw [Hx.out] at h5
      have hc : wr.cell? ⟨b, off + k, none⟩ = some (.int .i64 x) := by simpa using h5 0 _ rfl
      have hlen : (keyed (l.take k)).length = k := by rw [keyed_length, List.length_take]; omega
      have Hlen := Lib.hid hlen
      clear hlen h5 e' e''
      have q1 : (0 : Int) ≤ (k : Int) := by omega
      have q2 : (k : Int) < (l.length : Int) := by omega
      have hzw := hbel.size
      go_wp2_with (at_builtin; refine wpList_append_sl _ rfl _ _ _ rfl w.heap.size 27 j0 _ 16 Try.underlying22 hj0 hy0 hy1 hy2 rfl (by omega) kc_len kc_one _ _ (keyed (l.take k)) [(x, (k : Int))] rfl rfl (hown.alloc _) (Sl.one (x, (k : Int)) (heap_alloc_new _ _) (P := fun _ => True) trivial) (by rw [Hlen.out]; simp only [maxLen, List.length_cons, List.length_nil]; omega) (by rw [Hlen.out]; simp only [List.length_cons, List.length_nil]; omega) (by simp; omega) ?_; intro v1 w1 hown1 hg1 hmv1)
      have R : KeysRel l w v1 (.int .i64 ((k : Int) + 1)) w1 := ⟨k + 1, by omega, by go_num, by rw [take_succ_eq l k hlt, Hx.out, keyed_snoc, List.length_take, Nat.min_eq_left (by omega)]; exact hown1,
        (hbel.alloc hzw _).grown hg1 (by simp; omega) fun g hg => (hown.lt hg).1⟩
      go_roundw
      case rel => first | exact R | ((repeat apply Exists.intro); exact ⟨R, rfl⟩)
      case measure => simp [intOf]; omega
    · have hkl : k = l.length := by omega
      subst hkl
      rw [List.take_of_length_le (Nat.le_refl _)] at hown
      go_wp2_with fail
      refine (rsorted_any _ (keyed l) wr (hown.sl kc_len) (by rw [keyed_length]; exact hsz)).mono ?_
      rintro e w2 ⟨v2, rfl, ho2, hb2⟩
      have hb12 : Below w.heap.size w w2 := hbel.trans (hb2.mono hbel.size)
      have hLl : (Ms.srt (keyed l)).length = l.length := by rw [Ms.srt_length, keyed_length]
      have hP : perm l = (Ms.srt (keyed l)).map (·.2) := rfl
      have ho2' := ho2.lower hbel.size
      obtain ⟨L, HL⟩ : ∃ L, Hid (Ms.srt (keyed l) = L) := ⟨_, Lib.hid rfl⟩
      rw [HL.out] at ho2' hLl hP
      obtain ⟨A2, c2, rfl, hd1, hd2⟩ := ho2'.shape
      have hLs : L.length ≤ 524288 := by omega
      have HP := Lib.hid hP
      clear hLl ho2 hown hP hb2
      go_wp2
      go_loopw [5, 6] (fun s3 s10 wr => PermRel L w (.slice A2 L.length c2) s3 s10 wr) (fun _ s10 _ => L.length - (intOf s10).toNat)
      case atStart => exact ⟨0, Nat.zero_le _, rfl, Ow.nil_, hb12, ho2'⟩
      case round =>
        obtain ⟨k, hk, rfl, hown, hbel, hoL⟩ := hrel
        by_cases hlt : k < L.length
        · obtain ⟨b, off, c, e, h1, h2, h3, _, h5⟩ := (hoL.sl kc_len).at_ hlt
          injection e with e e' e''
          subst e
          obtain ⟨x, Hx⟩ : ∃ x, Hid (L[k] = x) := ⟨_, Lib.hid rfl⟩
          rw [Hx.out] at h5
          have hc2 : wr.cell? ⟨b, off + k * 2 + 1, none⟩ = some (.int .i64 x.2) := by simpa using h5 1 _ rfl
          have hlen : ((L.take k).map (·.2)).length = k := by rw [List.length_map, List.length_take]; omega
          have Hlen := Lib.hid hlen
          clear hlen h5 e' e''
          have q1 : (0 : Int) ≤ (k : Int) := by omega
          have q2 : (k : Int) < (L.length : Int) := by omega
          have hzw := hbel.size
          go_wp2_with (at_builtin; refine wpList_append_sl _ rfl _ _ _ rfl w.heap.size 3 i0 _ 8 Try.underlying30 hi0 hz0 hz1 hz2 rfl (by omega) ic_len ic_one _ _ ((L.take k).map (·.2)) [x.2] rfl rfl (hown.alloc _) (Sl.new1 x.2 (by first | rfl | simp)) (by rw [Hlen.out]; simp only [maxLen, List.length_cons, List.length_nil]; omega) (by rw [Hlen.out]; simp only [List.length_cons, List.length_nil]; omega) (by simp; omega) ?_; intro v3 w3 hown3 hg3 hmv3)
          have R : PermRel L w (.slice (some ⟨b, off, none⟩) L.length c2) v3 (.int .i64 ((k : Int) + 1)) w3 := ⟨k + 1, by omega, by go_num, by rw [take_succ_eq L k hlt, Hx.out, List.map_append]; exact hown3,
            (hbel.alloc hzw _).grown hg3 (by simp; omega) fun g hg => (hown.lt hg).1,
            (hoL.alloc _).kept hg3 (.inr (Ne.symm (own_ne hoL hown (by decide) (g := b) rfl)))⟩
          go_roundw
          case rel => first | exact R | ((repeat apply Exists.intro); exact ⟨R, rfl⟩)
          case measure => simp [intOf]; omega
        · have hkl : k = L.length := by omega
          subst hkl
          rw [List.take_of_length_le (Nat.le_refl _), ← HP.out] at hown
          go_wp2
          go_ret
          exact ⟨_, rfl, hown, hbel⟩

end Go.Proofs.Ytjlnbeeffdallaa
