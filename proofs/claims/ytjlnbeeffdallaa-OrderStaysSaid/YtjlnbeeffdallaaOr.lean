/- The walks of timetablekit.Own, order.Merge, order.keys, order.Perm, order.Uniq. -/
import Derived.Test.YtjlnbeeffdallaaSm
import Derived.Test.YtjlnbeeffdallaaSo
namespace Go.Proofs.Ytjlnbeeffdallaa
open Go.RowKit

theorem info_int : (Try.prog.info? 3).map (fun i => (i.zero, i.size, i.bytes)) = some (some (.int .i64 0), 1, 8) := by kernel_rfl
theorem info_i64 : (Try.prog.info? 2).map (fun i => (i.zero, i.size, i.bytes)) = some (some (.int .i64 0), 1, 8) := by kernel_rfl

/-- It returns a row of its own that holds l, and writes nothing that was there. -/
def Made {α : Type} (c : α → List Value) (size : Nat) (t : TypeId) (l : List α) (w : World) (e : Ending) (w' : World) : Prop :=
  ∃ v, e = .returned v ∧ Ow c size w' w.heap.size t v l ∧ Below w.heap.size w w'
theorem Made.below {α : Type} {c : α → List Value} {size : Nat} {t : TypeId} {l : List α} {w w' : World} {e : Ending} (h : Made c size t l w e w') : Below w.heap.size w w' := by
  obtain ⟨v, _, _, h⟩ := h; exact h

set_option maxHeartbeats 400000 in
theorem ownKey_any (vl : Value) (l : List (Int × Int)) (w : World) {P : Nat → Prop} (hl : Sl kc 2 w vl l P) (hsz : l.length ≤ 1048576) :
    Calls Try.prog 12 #[vl] w (Made kc 2 27 l w) := by
  obtain ⟨i0, hi0, hz0, hz1, hz2⟩ := info_parts info_Key
  obtain ⟨A, cap, rfl, hc1, hc2⟩ := hl.shape
  have hz1' : ∀ o, (w.alloc o).heap.size = w.heap.size + 1 := fun o => by simp
  go_enter Try.func12, Try.ntmps12
  go_wp2_with (at_builtin; refine wpList_append_sl _ rfl _ _ _ rfl w.heap.size 27 i0 _ 16 Try.underlying22 hi0 hz0 hz1 hz2 rfl (by omega) kc_len kc_one (.slice (some ⟨w.heap.size, 0, none⟩) 0 0) _ [] l rfl rfl (Ow.empty (Nat.le_refl _)) (hl.alloc _) (by simp only [maxLen, List.length_nil]; omega) (by simp only [List.length_nil]; omega) (by rw [hz1']; omega) ?_; intro v1 w1 hown1 hg1 hmv1)
  go_ret
  exact ⟨v1, rfl, hown1, ((Below.refl _ _).alloc (Nat.le_refl _) _).grown hg1 (by rw [hz1']; omega) fun k hk => by
    have : w.heap.size = k := by simpa [Value.ownBlock] using hk
    omega⟩

set_option maxHeartbeats 400000 in
theorem ownI64_any (vl : Value) (l : List Int) (w : World) {P : Nat → Prop} (hl : Sl ic 1 w vl l P) (hsz : l.length ≤ 1048576) :
    Calls Try.prog 24 #[vl] w (Made ic 1 2 l w) := by
  obtain ⟨i0, hi0, hz0, hz1, hz2⟩ := info_parts info_i64
  obtain ⟨A, cap, rfl, hc1, hc2⟩ := hl.shape
  have hz1' : ∀ o, (w.alloc o).heap.size = w.heap.size + 1 := fun o => by simp
  go_enter Try.func24, Try.ntmps24
  go_wp2_with (at_builtin; refine wpList_append_sl _ rfl _ _ _ rfl w.heap.size 2 i0 _ 8 Try.underlying29 hi0 hz0 hz1 hz2 rfl (by omega) ic_len ic_one (.slice (some ⟨w.heap.size, 0, none⟩) 0 0) _ [] l rfl rfl (Ow.empty (Nat.le_refl _)) (hl.alloc _) (by simp only [maxLen, List.length_nil]; omega) (by simp only [List.length_nil]; omega) (by rw [hz1']; omega) ?_; intro v1 w1 hown1 hg1 hmv1)
  go_ret
  exact ⟨v1, rfl, hown1, ((Below.refl _ _).alloc (Nat.le_refl _) _).grown hg1 (by rw [hz1']; omega) fun k hk => by
    have : w.heap.size = k := by simpa [Value.ownBlock] using hk
    omega⟩

set_option maxHeartbeats 400000 in
theorem Merge_any (va vb : Value) (la lb : List (Int × Int)) (w : World) {P Q : Nat → Prop} (ha : Sl kc 2 w va la P) (hb : Sl kc 2 w vb lb Q) (hsz : la.length + lb.length ≤ 1048576) :
    Calls Try.prog 10 #[va, vb] w (Made kc 2 27 (la.merge lb leK) w) := by
  have hm := merge_any w.heap.size (.slice none 0 0) va vb [] la lb w Ow.nil_ (ha.mono fun b _ => by simp [Value.ownBlock]) (hb.mono fun b _ => by simp [Value.ownBlock]) (Nat.le_refl _) (by simpa using hsz)
  have Hm := Lib.hid hm
  clear hm
  go_enter Try.func10, Try.ntmps10
  go_wp2_with (go_at_call 30; refine Hm.out.mono ?_; rintro e w1 ⟨v1, rfl, hown1, hg1, hmv1⟩)
  go_ret
  exact ⟨v1, rfl, hown1, (Below.refl _ _).grown hg1 (Nat.le_refl _) fun k hk => by simp [Value.ownBlock] at hk⟩

/-- At the head of the loop of order.keys. -/
def KeysRel (l : List Int) (w : World) (s3 s8 : Value) (wr : World) : Prop :=
  ∃ k : Nat, k ≤ l.length ∧ s8 = .int .i64 k ∧ Ow kc 2 wr w.heap.size 27 s3 (keyed (l.take k)) ∧ Below w.heap.size w wr

set_option maxHeartbeats 1000000 in
theorem keys_any (vl : Value) (l : List Int) (w : World) {P : Nat → Prop} (hl : Sl ic 1 w vl l P) (hsz : l.length ≤ 524288) :
    Calls Try.prog 31 #[vl] w (Made kc 2 27 (keyed l) w) := by
  obtain ⟨i0, hi0, hz0, hz1, hz2⟩ := info_parts info_Key
  obtain ⟨A, cap, rfl, hc1, hc2⟩ := hl.shape
  go_enter Try.func31, Try.ntmps31
  go_wp2
  go_loopw [3, 4, 5, 8] (fun s3 _ _ s8 wr => KeysRel l w s3 s8 wr) (fun _ _ _ s8 _ => l.length - (intOf s8).toNat)
  case atStart => exact ⟨0, Nat.zero_le _, rfl, Ow.nil_, Below.refl _ _⟩
  case round =>
    obtain ⟨k, hk, rfl, hown, hbel⟩ := hrel
    by_cases hlt : k < l.length
    · obtain ⟨b, off, c, e, h1, h2, h3, _, h5⟩ := (hl.below_ hbel).at_ hlt
      injection e with e e' e''
      subst e
      obtain ⟨x, Hx⟩ : ∃ x, Hid (l[k] = x) := ⟨_, Lib.hid rfl⟩
      rw [Hx.out] at h5
      have hc : wr.cell? ⟨b, off + k, none⟩ = some (.int .i64 x) := by simpa using h5 0 _ rfl
      have hlen : (keyed (l.take k)).length = k := by rw [keyed_length, List.length_take]; omega
      have Hlen := Lib.hid hlen
      clear hlen h5 e' e''
      have q1 : (0 : Int) ≤ (k : Int) := by omega
      have q2 : (k : Int) < (l.length : Int) := by omega
      have hzw := hbel.size
      go_wp2_with (at_builtin; refine wpList_append_sl _ rfl _ _ _ rfl w.heap.size 27 i0 _ 16 Try.underlying22 hi0 hz0 hz1 hz2 rfl (by omega) kc_len kc_one _ _ (keyed (l.take k)) [(x, (k : Int))] rfl rfl (hown.alloc _) (Sl.one (x, (k : Int)) (heap_alloc_new _ _) (P := fun _ => True) trivial) (by rw [Hlen.out]; simp only [maxLen, List.length_cons, List.length_nil]; omega) (by rw [Hlen.out]; simp only [List.length_cons, List.length_nil]; omega) (by simp; omega) ?_; intro v1 w1 hown1 hg1 hmv1)
      have R : KeysRel l w v1 (.int .i64 ((k : Int) + 1)) w1 := ⟨k + 1, by omega, by go_num, by rw [take_succ_eq l k hlt, Hx.out, keyed_snoc, List.length_take, Nat.min_eq_left (by omega)]; exact hown1,
        (hbel.alloc hzw _).grown hg1 (by simp; omega) fun g hg => (hown.lt hg).1⟩
      go_roundw
      case rel => first | exact R | ((repeat apply Exists.intro); exact ⟨R, rfl⟩)
      case measure => simp [intOf]; omega
    · have hkl : k = l.length := by omega
      subst hkl
      rw [List.take_of_length_le (Nat.le_refl _)] at hown
      go_wp2
      go_ret
      exact ⟨_, rfl, hown, hbel⟩

def PermRel (L : List (Int × Int)) (w : World) (t8 s3 s10 : Value) (wr : World) : Prop :=
  ∃ k : Nat, k ≤ L.length ∧ s10 = .int .i64 k ∧ Ow ic 1 wr w.heap.size 3 s3 ((L.take k).map (·.2)) ∧ Below w.heap.size w wr ∧ Ow kc 2 wr w.heap.size 27 t8 L
/-- A row of one's own of keys is another block than a row of ints. -/
theorem own_ne {α β : Type} {c : α → List Value} {c' : β → List Value} {size size' : Nat} {w : World} {base base' : Nat} {e e' : TypeId} {v v' : Value} {l : List α} {l' : List β} (h : Ow c size w base e v l) (h' : Ow c' size' w base' e' v' l') (hne : e ≠ e') {g : Nat} (hg : v.ownBlock = some g) : v'.ownBlock ≠ some g := by
  intro hg'
  rcases h.2 with ⟨rfl, _⟩ | ⟨g1, cap, cur, rfl, _, h2, _⟩
  · simp [Value.ownBlock] at hg
  rcases h'.2 with ⟨rfl, _⟩ | ⟨g2, cap', cur', rfl, _, h2', _⟩
  · simp [Value.ownBlock] at hg'
  have e1 : g1 = g := by simpa [Value.ownBlock] using hg
  have e2 : g2 = g := by simpa [Value.ownBlock] using hg'
  rw [e1] at h2
  rw [e2, h2] at h2'
  injection h2' with h2'
  injection h2' with _ h2'
  exact hne h2'

set_option maxHeartbeats 1000000 in
theorem perm_any (vl : Value) (l : List Int) (w : World) {P : Nat → Prop} (hl : Sl ic 1 w vl l P) (hsz : l.length ≤ 524288) :
    Calls Try.prog 14 #[vl] w (Made ic 1 3 (perm l) w) := by
  obtain ⟨i0, hi0, hz0, hz1, hz2⟩ := info_parts info_int
  obtain ⟨A, cap, rfl, hc1, hc2⟩ := hl.shape
  have hk := keys_any _ l w hl hsz
  have Hk := Lib.hid hk
  clear hk
  go_enter Try.func14, Try.ntmps14
  go_wp2_with fail
  refine Hk.out.mono ?_
  rintro e w1 ⟨v1, rfl, ho1, hb1⟩
  go_wp2_with fail
  refine (sorted_any v1 (keyed l) w1 ((ho1.sl kc_len).mono fun _ _ => trivial) (by rw [keyed_length]; exact hsz)).mono ?_
  rintro e w2 ⟨v2, rfl, ho2, hb2⟩
  have hb12 : Below w.heap.size w w2 := hb1.trans (hb2.mono hb1.size)
  have hLl : (Ms.srt (keyed l)).length = l.length := by rw [Ms.srt_length, keyed_length]
  have hP : perm l = (Ms.srt (keyed l)).map (·.2) := rfl
  have ho2' := ho2.lower hb1.size
  obtain ⟨L, HL⟩ : ∃ L, Hid (Ms.srt (keyed l) = L) := ⟨_, Lib.hid rfl⟩
  rw [HL.out] at ho2' hLl hP
  obtain ⟨A2, c2, rfl, hd1, hd2⟩ := ho2'.shape
  have hLs : L.length ≤ 524288 := by omega
  have HP := Lib.hid hP
  clear hLl ho2 ho1 hP hb2
  go_wp2
  go_loopw [3, 5, 10] (fun s3 _ s10 wr => PermRel L w (.slice A2 L.length c2) s3 s10 wr) (fun _ _ s10 _ => L.length - (intOf s10).toNat)
  case atStart => exact ⟨0, Nat.zero_le _, rfl, Ow.nil_, hb12, ho2'⟩
  case round =>
    obtain ⟨k, hk, rfl, hown, hbel, hoL⟩ := hrel
    by_cases hlt : k < L.length
    · obtain ⟨b, off, c, e, h1, h2, h3, _, h5⟩ := (hoL.sl kc_len).at_ hlt
      injection e with e e' e''
      subst e
      obtain ⟨x, Hx⟩ : ∃ x, Hid (L[k] = x) := ⟨_, Lib.hid rfl⟩
      rw [Hx.out] at h5
      have hc1 : wr.cell? ⟨b, off + k * 2, none⟩ = some (.int .i64 x.1) := by simpa using h5 0 _ rfl
      have hc2 : wr.cell? ⟨b, off + k * 2 + 1, none⟩ = some (.int .i64 x.2) := by simpa using h5 1 _ rfl
      have hlen : ((L.take k).map (·.2)).length = k := by rw [List.length_map, List.length_take]; omega
      have Hlen := Lib.hid hlen
      clear hlen h5 e' e''
      have q1 : (0 : Int) ≤ (k : Int) := by omega
      have q2 : (k : Int) < (L.length : Int) := by omega
      have hzw := hbel.size
      go_wp2_with (at_builtin; refine wpList_append_sl _ rfl _ _ _ rfl w.heap.size 3 i0 _ 8 Try.underlying30 hi0 hz0 hz1 hz2 rfl (by omega) ic_len ic_one _ _ ((L.take k).map (·.2)) [x.2] rfl rfl ((hown.alloc _).alloc _) (Sl.new1 x.2 (by simp)) (by rw [Hlen.out]; simp only [maxLen, List.length_cons, List.length_nil]; omega) (by rw [Hlen.out]; simp only [List.length_cons, List.length_nil]; omega) (by simp; omega) ?_; intro v3 w3 hown3 hg3 hmv3)
      have hz1' : ∀ o, w.heap.size ≤ (wr.alloc o).heap.size := fun o => by simp; omega
      have R : PermRel L w (.slice (some ⟨b, off, none⟩) L.length c2) v3 (.int .i64 ((k : Int) + 1)) w3 := ⟨k + 1, by omega, by go_num, by rw [take_succ_eq L k hlt, Hx.out, List.map_append]; exact hown3,
        ((hbel.alloc hzw _).alloc (hz1' _) _).grown hg3 (by simp; omega) fun g hg => (hown.lt hg).1,
        ((hoL.alloc _).alloc _).kept hg3 (.inr (Ne.symm (own_ne hoL hown (by decide) (g := b) rfl)))⟩
      go_roundw
      case rel => first | exact R | ((repeat apply Exists.intro); exact ⟨R, rfl⟩)
      case measure => simp [intOf]; omega
    · have hkl : k = L.length := by omega
      subst hkl
      rw [List.take_of_length_le (Nat.le_refl _), ← HP.out] at hown
      go_wp2
      go_ret
      exact ⟨_, rfl, hown, hbel⟩

end Go.Proofs.Ytjlnbeeffdallaa
