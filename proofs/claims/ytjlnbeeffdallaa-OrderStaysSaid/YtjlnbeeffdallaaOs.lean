/- The walk of the statement OrderStays. -/
import Derived.Test.YtjlnbeeffdallaaOf
import Derived.Test.YtjlnbeeffdallaaPk
namespace Go.Proofs.Ytjlnbeeffdallaa
open Go.RowKit

theorem info_bool : (Try.prog.info? 4).map (fun i => (i.zero, i.size, i.bytes)) = some (some (.bool false), 1, 1) := by kernel_rfl

theorem sameKey_self (va vb : Value) (l : List (Int × Int)) (w : World) {P Q : Nat → Prop} (ha : Sl kc 2 w va l P) (hb : Sl kc 2 w vb l Q) (h1 : l.length ≤ 1048576) :
    Calls Try.prog 13 #[va, vb] w (Quiet (.bool true) w) := by
  have h := sameKey_any va vb l l w ha hb h1
  rwa [show decide (l = l) = true from decide_eq_true rfl] at h

/-- A row of marks in one block: the places of done are marked. -/
def Seen (w : World) (B n : Nat) (done : List Int) : Prop :=
  ∃ cs : Array Value, w.heap[B]? = some (.cells cs 4 (0, 0)) ∧ cs.size = n ∧ ∀ p : Nat, p < n → cs[p]? = some (.bool (decide ((p : Int) ∈ done)))
theorem Seen.fresh (w : World) (n : Nat) : Seen (w.alloc (freshRow (.bool false) 1 n 4)) w.heap.size n [] := by
  refine ⟨_, heap_alloc_new w _, ?_, fun p hp => ?_⟩
  · rw [size_madeCells]; omega
  · rw [← Array.getElem?_toList, show (Value.bool false).cells = #[Value.bool false] from rfl, toList_madeCells_one, List.getElem?_replicate, if_pos (by omega)]
    simp
theorem Seen.drewN {w : World} {B n : Nat} {done : List Int} (h : Seen w B n done) (k : Nat) : Seen (w.drewN k) B n done := h
theorem Seen.cell {w : World} {B n : Nat} {done : List Int} (h : Seen w B n done) {p : Nat} (hp : p < n) : w.cell? ⟨B, p, none⟩ = some (.bool (decide ((p : Int) ∈ done))) := by
  obtain ⟨cs, h1, _, h3⟩ := h
  rw [cell_of_row w B p cs _ (0, 0) h1]
  exact h3 p hp
theorem Seen.frozen {w : World} {B n : Nat} {done : List Int} (h : Seen w B n done) (p : Nat) : w.frozen? ⟨B, p, none⟩ = false := by
  obtain ⟨cs, h1, _, h3⟩ := h
  simp [World.frozen?, h1]
theorem Seen.lt {w : World} {B n : Nat} {done : List Int} (h : Seen w B n done) : B < w.heap.size := by
  obtain ⟨cs, h1, _⟩ := h
  exact (Array.getElem?_eq_some_iff.1 h1).1
theorem Seen.set {w : World} {B n : Nat} {done : List Int} (h : Seen w B n done) (p : Nat) : Seen (w.setCell ⟨B, p, none⟩ (.bool true)) B n (done ++ [(p : Int)]) := by
  obtain ⟨cs, h1, h2, h3⟩ := h
  refine ⟨cs.setIfInBounds p (.bool true), ?_, by simpa using h2, fun q hq => ?_⟩
  · simp [World.setCell, Array.getElem?_modify, h1]
  · rw [Array.getElem?_setIfInBounds]
    by_cases he : p = q
    · subst he
      rw [if_pos rfl, if_pos (by omega)]
      simp
    · rw [if_neg he, h3 q hq]
      congr 2
      apply decide_eq_decide.2
      rw [List.mem_append, List.mem_singleton]
      constructor
      · exact .inl
      · rintro (h | h)
        · exact h
        · omega
open Ms in
theorem srt_at (l : List Int) {k : Nat} (hk : k < l.length) : ∃ y : Nat, ∃ h : y < l.length, (srt (keyed l))[k]'(by rw [srt_length, keyed_length]; exact hk) = (l[y], (y : Int)) := by
  have hL : k < (srt (keyed l)).length := by rw [srt_length, keyed_length]; exact hk
  have hm : (srt (keyed l))[k] ∈ keyed l := mem_srt.1 (List.getElem_mem _)
  obtain ⟨y, hy, he⟩ := List.getElem_of_mem hm
  rw [keyed_at] at he
  exact ⟨y, by rw [keyed_length] at hy; exact hy, he.symm⟩
open Ms in
theorem srt_nodup (l : List Int) : (srt (keyed l)).Pairwise fun a b => a.2 ≠ b.2 := by
  refine ((srt_perm (keyed l)).pairwise_iff (fun {a b} h => Ne.symm h)).2 ?_
  exact pw_mono (fun a b h => by omega) (keyed_pair l)
open Ms in
theorem not_seen (l : List Int) {k y : Nat} (hk : k < (srt (keyed l)).length) (h : ((srt (keyed l))[k]).2 = (y : Int)) : ¬ (y : Int) ∈ ((srt (keyed l)).take k).map (·.2) := by
  intro hm
  obtain ⟨a, ha, e⟩ := List.mem_map.1 hm
  obtain ⟨j, hj, rfl⟩ := List.getElem_of_mem ha
  rw [List.length_take] at hj
  rw [List.getElem_take] at e
  exact List.pairwise_iff_getElem.1 (srt_nodup l) j k (by omega) hk (by omega) (e.trans h.symm)
open Ms in
theorem srt_step (l : List Int) {k : Nat} (hk : k + 1 < (srt (keyed l)).length) : lex ((srt (keyed l))[k]) ((srt (keyed l))[k + 1]) :=
  List.pairwise_iff_getElem.1 (srt_lex (keyed_pair l)) k (k + 1) (by omega) hk (by omega)

/-- In the second loop: the marks are those of what was gone through. -/
def StRel (S : List (Int × Int)) (w3 : World) (B n : Nat) (s9 : Value) (wr : World) : Prop :=
  ∃ k : Nat, k ≤ n ∧ s9 = .int .i64 k ∧ Seen wr B n ((S.take k).map (·.2)) ∧ Below w3.heap.size w3 wr

set_option maxRecDepth 100000 in
set_option maxHeartbeats 4000000 in
theorem stays_any (vl : Value) (l : List Int) (cut : Int) (w : World) {P : Nat → Prop} (hl : Sl ic 1 w vl l P) :
    Calls Try.prog 5 #[vl, .int .i64 cut] w fun r w' => r = .returned (.bool true) ∧ Below w.heap.size w w' := by
  obtain ⟨j0, hj0, hy0, hy1, hy2⟩ := info_parts info_Key
  obtain ⟨k0, hk0, hx0, hx1, hx2⟩ := info_parts info_bool
  obtain ⟨A, ca, rfl, ha1, ha2⟩ := hl.shape
  by_cases hla : (200 : Int) < (l.length : Int)
  · go_enter Try.func5, Try.ntmps5
    go_wp2_with fail
    refine (lives_any _).mono ?_
    rintro e w1 ⟨rfl, hbel1⟩
    go_wp2_with fail
    go_ret
    exact ⟨rfl, hbel1⟩
  have hd : decide ((200 : Int) < (l.length : Int)) = false := decide_eq_false hla
  have hll : l.length ≤ 200 := by omega
  have hmk := run_make_fresh (Pr := Try.prog) 34 4 k0 _ 1 1 Try.underlying34 hk0 hx0 hx1 hx2 l.length l.length (by omega) (by omega) (by omega)
  clear hla
  go_enter Try.func5, Try.ntmps5
  go_wp2_with fail
  refine (lives_any _).mono ?_
  rintro e w1 ⟨rfl, hbel1⟩
  have hl1 := hl.below_ hbel1
  clear hl
  go_wp2_with fail
  go_loopw [5, 6] (fun s3 s8 wr => KeysRel l w1 s3 s8 wr) (fun _ s8 _ => l.length - (intOf s8).toNat)
  case atStart => exact ⟨0, Nat.zero_le _, rfl, Ow.nil_, Below.refl _ _⟩
  case round =>
    obtain ⟨k, hk, rfl, hown, hbel⟩ := hrel
    by_cases hlt : k < l.length
    · obtain ⟨b, off, c, e, h1, h2, h3, _, h5⟩ := (hl1.below_ hbel).at_ hlt
      injection e with e e' e''
      subst e
      obtain ⟨x, Hx⟩ : ∃ x, Hid (l[k] = x) := ⟨_, Lib.hid rfl⟩
      rw [Hx.out] at h5
      have hc : wr.cell? ⟨b, off + k, none⟩ = some (.int .i64 x) := by simpa using h5 0 _ rfl
      have hlen : (keyed (l.take k)).length = k := by rw [keyed_length, List.length_take]; omega
      have Hlen := Lib.hid hlen
      clear hlen h5 e' e''
      have q1 : (0 : Int) ≤ (k : Int) := by omega
      have q2 : (k : Int) < (l.length : Int) := by omega
      have hzw := hbel.size
      go_wp2_with (at_builtin; refine wpList_append_sl _ rfl _ _ _ rfl w1.heap.size 27 j0 _ 16 Try.underlying22 hj0 hy0 hy1 hy2 rfl (by omega) kc_len kc_one _ _ (keyed (l.take k)) [(x, (k : Int))] rfl rfl (hown.alloc _) (Sl.one (x, (k : Int)) (heap_alloc_new _ _) (P := fun _ => True) trivial) (by rw [Hlen.out]; simp only [maxLen, List.length_cons, List.length_nil]; omega) (by rw [Hlen.out]; simp only [List.length_cons, List.length_nil]; omega) (by simp; omega) ?_; intro v2 w2 hown1 hg1 hmv1)
      have R : KeysRel l w1 v2 (.int .i64 ((k : Int) + 1)) w2 := ⟨k + 1, by omega, by go_num, by rw [take_succ_eq l k hlt, Hx.out, keyed_snoc, List.length_take, Nat.min_eq_left (by omega)]; exact hown1,
        (hbel.alloc hzw _).grown hg1 (by simp; omega) fun g hg => (hown.lt hg).1⟩
      go_roundw
      case rel => first | exact R | ((repeat apply Exists.intro); exact ⟨R, rfl⟩)
      case measure => simp [intOf]; omega
    · have hkl : k = l.length := by omega
      subst hkl
      rw [List.take_of_length_le (Nat.le_refl _)] at hown
      have hkl := keyed_length l
      have hSl : (Ms.srt (keyed l)).length = l.length := by rw [Ms.srt_length, hkl]
      have hK := hown.sl kc_len
      obtain ⟨A5, c5, e5, f51, f52⟩ := hK.shape
      rw [hkl] at e5 f51
      subst e5
      have Hkl := Lib.hid hkl
      clear hkl
      go_wp2_with fail
      refine (sorted_any _ (keyed l) wr (hK.mono fun _ _ => trivial) (by rw [Hkl.out]; omega)).mono ?_
      rintro e w2 ⟨v2, rfl, ho2, hb2⟩
      have hK2 := hK.below_ hb2
      have hS2 := ho2.sl kc_len
      have hl2 := (hl1.below_ hbel).below_ hb2
      have hB2 := Lib.hid (Below.lift hbel1 (Below.lift hbel hb2))
      obtain ⟨A7, c7, e7, f71, f72⟩ := hS2.shape
      rw [hSl] at e7 f71
      subst e7
      have HSl := Lib.hid hSl
      clear hSl ho2 hown hK hb2 hbel hl1 hbel1
      go_wp2_with fail
      clear hmk
      go_loopw [9] (fun s9 wr => StRel (Ms.srt (keyed l)) w2 w2.heap.size l.length s9 wr) (fun s9 _ => l.length - (intOf s9).toNat)
      case atStart => exact ⟨0, Nat.zero_le _, rfl, Seen.fresh w2 _, (Below.refl _ _).alloc (Nat.le_refl _) _⟩
      case round =>
        obtain ⟨k, hk, rfl, hseen, hbel⟩ := hrel
        by_cases hlt : k < l.length
        · have hkS : k < (Ms.srt (keyed l)).length := by rw [HSl.out]; exact hlt
          obtain ⟨y, hy, hSk⟩ := srt_at l hlt
          have hns := not_seen l hkS (by rw [hSk])
          obtain ⟨b1, o1, c1, e1, _, _, hl1, _, hx⟩ := hS2.at_ hkS
          obtain ⟨b2, o2, c2', e2, _, _, hl2', _, hz⟩ := hl2.at_ hy
          injection e1 with e1 e1' e1''
          injection e2 with e2 e2' e2''
          subst e1 e2
          have Hst := Lib.hid (fun (h : k - 1 + 1 < (Ms.srt (keyed l)).length) => srt_step l h)
          rw [hSk] at hx
          obtain ⟨x, Hx⟩ : ∃ x, Hid (l[y] = x) := ⟨_, Lib.hid rfl⟩
          rw [Hx.out] at hx hz
          have hSk' := Lib.hid (show (Ms.srt (keyed l))[k] = (x, (y : Int)) by rw [hSk, Hx.out])
          have c0 : wr.cell? ⟨b1, o1 + k * 2, none⟩ = some (.int .i64 x) := (hbel.cell (p := ⟨b1, o1 + k * 2, none⟩) hl1).trans (by simpa using hx 0 _ rfl)
          have c1 : wr.cell? ⟨b1, o1 + k * 2 + 1, none⟩ = some (.int .i64 y) := (hbel.cell (p := ⟨b1, o1 + k * 2 + 1, none⟩) hl1).trans (by simpa using hx 1 _ rfl)
          have c2 : wr.cell? ⟨b2, o2 + y, none⟩ = some (.int .i64 x) := (hbel.cell (p := ⟨b2, o2 + y, none⟩) hl2').trans (by simpa using hz 0 _ rfl)
          have c3 : wr.cell? ⟨w2.heap.size, y, none⟩ = some (.bool false) := by rw [hseen.cell hy, decide_eq_false hns]
          have c4 : wr.frozen? ⟨w2.heap.size, y, none⟩ = false := hseen.frozen y
          have HR := Lib.hid (show ∀ n, StRel (Ms.srt (keyed l)) w2 w2.heap.size l.length (.int .i64 ((k : Int) + 1)) ((wr.drewN n).setCell ⟨w2.heap.size, y, none⟩ (.bool true)) from fun n =>
            ⟨k + 1, by omega, by go_num, by rw [take_succ_eq _ k hkS, hSk'.out, List.map_append]; exact (hseen.drewN n).set y, (below_drewN hbel n).setCell (Nat.le_refl _) _⟩)
          have q1 : (0 : Int) ≤ (k : Int) := by omega
          have q2 : (k : Int) < (l.length : Int) := by omega
          have q3 : (0 : Int) ≤ (y : Int) := by omega
          have q4 : (y : Int) < (l.length : Int) := by omega
          have hb0 : (x != x) = false := bne_self_eq_false _
          have q5 : decide (l.length ≤ y) = false := decide_eq_false (by omega)
          have q6 : decide ((y : Int) < 0) = false := decide_eq_false (by omega)
          clear hx hz hSk hns e1' e1'' e2' e2'' hseen f51 f52 f71 f72
          by_cases h0 : k = 0
          · subst h0
            rw [show ((0 : Nat) : Int) = 0 from rfl]
            have d0 : wr.cell? ⟨b1, o1, none⟩ = some (.int .i64 x) := by simpa using c0
            have d1 : wr.cell? ⟨b1, o1 + 1, none⟩ = some (.int .i64 y) := by simpa using c1
            have q0 : (0 : Int) < (l.length : Int) := by omega
            clear c0 c1 q1 q2 hbel
            as_aux_lemma =>
              go_wp2_with fail
              try dsimp only [List.append]
              go_quiet (fail)
              go_wp2_with fail
              have R := HR.out nq
              go_roundw
              case rel => first | exact R | simpa using R
              case measure => simp [intOf]; omega
          · have h1 : k - 1 + 1 < (Ms.srt (keyed l)).length := by omega
            have hst := Hst.out h1
            simp only [show k - 1 + 1 = k by omega] at hst
            rw [hSk'.out] at hst
            obtain ⟨b3, o3, c3', e3, _, _, hl3, _, hx⟩ := hS2.at_ (i := k - 1) (by omega)
            injection e3 with e3 e3' e3''
            injection e3 with e3
            injection e3 with e3 e3o
            subst e3 e3o
            obtain ⟨z, Hz⟩ : ∃ z, Hid ((Ms.srt (keyed l))[k - 1]'(by omega) = z) := ⟨_, Lib.hid rfl⟩
            rw [Hz.out] at hx hst
            have d0 : wr.cell? ⟨b1, o1 + (k - 1) * 2, none⟩ = some (.int .i64 z.1) := (hbel.cell (p := ⟨b1, o1 + (k - 1) * 2, none⟩) hl1).trans (by simpa using hx 0 _ rfl)
            have d1 : wr.cell? ⟨b1, o1 + (k - 1) * 2 + 1, none⟩ = some (.int .i64 z.2) := (hbel.cell (p := ⟨b1, o1 + (k - 1) * 2 + 1, none⟩) hl1).trans (by simpa using hx 1 _ rfl)
            have r0 : (0 : Int) < (k : Int) := by omega
            have r1 : (1 : Int) ≤ (k : Int) := by omega
            have r3 : ((k : Int) - 1).toNat = k - 1 := by omega
            have r4 : IntKind.i64.wrap ((k : Int) - 1) = (k : Int) - 1 := IntWalk.i64_in _ (by omega)
            have r5 : (0 : Int) ≤ (k : Int) - 1 := by omega
            have r6 : (k : Int) - 1 < (l.length : Int) := by omega
            have r7 : decide (0 < k) = true := decide_eq_true (by omega)
            clear hx e3' e3'' hbel
            have hlx : z.1 < x ∨ (z.1 = x ∧ z.2 ≤ (y : Int)) := hst
            clear hst
            rcases hlx with hlx | ⟨hlx, hly⟩
            · have g1 : decide (x < z.1) = false := decide_eq_false (by omega)
              have g2 : (z.1 == x) = false := beq_eq_false_iff_ne.2 (by omega)
              clear hlx
              as_aux_lemma =>
                go_wp2_with fail
                try dsimp only [List.append]
                go_quiet (fail)
                go_wp2_with fail
                have R := HR.out nq
                go_roundw
                case rel => first | exact R | simpa using R
                case measure => simp [intOf]; omega
            · have g1 : decide (x < z.1) = false := decide_eq_false (by omega)
              have g2 : (z.1 == x) = true := beq_iff_eq.2 hlx
              have g3 : decide ((y : Int) < z.2) = false := decide_eq_false (by omega)
              clear hlx hly
              as_aux_lemma =>
                go_wp2_with fail
                try dsimp only [List.append]
                go_quiet (fail)
                go_wp2_with fail
                have R := HR.out nq
                go_roundw
                case rel => first | exact R | simpa using R
                case measure => simp [intOf]; omega
        · have hkl : k = l.length := by omega
          subst hkl
          clear hseen
          have hB3 := Lib.hid (Below.lift hB2.out hbel)
          have hK3 := hK2.below_ hbel
          have hS3 := hS2.below_ hbel
          have hl3 := hl2.below_ hbel
          clear hbel hB2 hK2 hS2 hl2
          have hc := pick_lt cut ((l.length : Int) + 1) (by omega)
          have hp1 := perm_length l
          have Hp1 := Lib.hid hp1
          clear hp1
          go_wp2_with fail
          refine (pick_any cut ((l.length : Int) + 1) wr (by omega) (by omega)).mono ?_
          rintro e wx ⟨rfl, rfl⟩
          generalize cut % ((l.length : Int) + 1) = cc at *
          obtain ⟨c, rfl⟩ := Int.eq_ofNat_of_zero_le hc.1
          have hcl : c ≤ l.length := by omega
          clear hc
          go_wp2_with fail
          refine (perm_any _ l wr hl3 (by omega)).mono ?_
          rintro e w5 ⟨v5, rfl, ho5, hb5⟩
          have hp5 := ho5.sl ic_len
          have hK5 := hK3.below_ hb5
          have hS5 := hS3.below_ hb5
          have hB5 := Lib.hid (Below.lift hB3.out hb5)
          obtain ⟨A10, c10, e10, f101, f102⟩ := hp5.shape
          rw [Hp1.out] at e10 f101
          subst e10
          clear ho5 hb5 hK3 hS3 hl3 hB3
          go_wp2_with fail
          go_loopw [11] (fun s wx => ∃ k n : Nat, k ≤ l.length ∧ s = .int .i64 k ∧ wx = w5.drewN n) (fun s _ => l.length - (intOf s).toNat)
          case atStart => exact ⟨0, 0, Nat.zero_le _, rfl, rfl⟩
          case round =>
            obtain ⟨k, n, hk, rfl, rfl⟩ := hrel
            by_cases hlt : k < l.length
            · have hkS : k < (Ms.srt (keyed l)).length := by rw [HSl.out]; exact hlt
              have hkp : k < (perm l).length := by rw [Hp1.out]; exact hlt
              obtain ⟨y, hy, hSk⟩ := srt_at l hlt
              have hpk : (perm l)[k] = (y : Int) := by
                have : (perm l)[k] = ((Ms.srt (keyed l))[k]).2 := by simp only [perm, List.getElem_map]
                rw [this, hSk]
              obtain ⟨b1, o1, c1, e1, _, _, hl1, _, hx⟩ := hS5.at_ hkS
              obtain ⟨b2, o2, c2', e2, _, _, hl2', _, hz⟩ := hp5.at_ hkp
              injection e1 with e1 e1' e1''
              injection e2 with e2 e2' e2''
              subst e1 e2
              rw [hSk] at hx
              rw [hpk] at hz
              have c1 : w5.cell? ⟨b1, o1 + k * 2 + 1, none⟩ = some (.int .i64 y) := by simpa using hx 1 _ rfl
              have c2 : w5.cell? ⟨b2, o2 + k, none⟩ = some (.int .i64 y) := by simpa using hz 0 _ rfl
              have q1 : (0 : Int) ≤ (k : Int) := by omega
              have q2 : (k : Int) < (l.length : Int) := by omega
              have q3 : ((y : Int) != (y : Int)) = false := bne_self_eq_false _
              have q4 : ((l.length : Int) != (l.length : Int)) = false := bne_self_eq_false _
              clear hx hz hSk hpk e1' e1'' e2' e2''
              go_wp2_with fail
              go_quiet (fail)
              go_wp2_with fail
              go_roundw
              case rel => exact ⟨k + 1, _, by omega, by go_num, by first | rfl | exact World.drewN_drewN _ _ _⟩
              case measure => simp [intOf]; omega
            · have q1 : (0 : Int) ≤ (c : Int) := by omega
              have q2 : (c : Int) ≤ (l.length : Int) := by omega
              have q3 : (l.length : Int) ≤ (c5 : Int) := by omega
              have q4 : (c : Int) ≤ (c5 : Int) := by omega
              have hkl := Hkl.out
              have hKA : Sl kc 2 w5 (.slice A5 c c5) ((keyed l).take c) (fun _ => True) := by
                have := (Sl.part (i := 0) (j := c) (A' := A5) (cap' := c5) hK5 (Nat.zero_le _) (by omega) (fun _ => by cases A5 <;> simp [Addr.add]) (by omega) f52).mono (P' := fun _ => True) fun _ _ => trivial
                simpa using this
              have hKB : Sl kc 2 w5 (.slice (if c5 = c then A5 else A5.map (fun x => x.add (c * 2))) (l.length - c) (c5 - c)) ((keyed l).drop c) (fun _ => True) := by
                have := (hK5.cut (i := c) (j := (keyed l).length) (m := l.length - c) (by omega) (Nat.le_refl _) (by omega)).mono (P' := fun _ => True) fun _ _ => trivial
                rwa [List.take_length] at this
              have HM := Lib.hid (show (Ms.srt ((keyed l).take c)).merge (Ms.srt ((keyed l).drop c)) leK = Ms.srt (keyed l) by rw [Ms.merge_srt, List.take_append_drop])
              have HSS := Lib.hid (Ms.srt_srt (keyed l))
              have T1 := Lib.hid (show ((keyed l).take c).length ≤ 524288 by rw [List.length_take]; omega)
              have T2 := Lib.hid (show ((keyed l).drop c).length ≤ 524288 by rw [List.length_drop]; omega)
              have T3 := Lib.hid (show (Ms.srt ((keyed l).take c)).length + (Ms.srt ((keyed l).drop c)).length ≤ 1048576 by rw [Ms.srt_length, Ms.srt_length, List.length_take, List.length_drop]; omega)
              have T4 := Lib.hid (show (Ms.srt (keyed l)).length ≤ 524288 by rw [HSl.out]; omega)
              have T5 := Lib.hid (show (Ms.srt (keyed l)).length ≤ 1048576 by rw [HSl.out]; omega)
              clear hkl hK5
              go_wp2_with fail
              go_region_held3 (fun _ => True) (trivial) (first
                | (go_at_call 11; refine (sorted_any _ (Ms.srt (keyed l)) _ ((((hS5.drewN _).below_ hb79).drewN n10).mono fun _ _ => trivial) T4.out).mono ?_; rintro e w11 ⟨v11, rfl, ho11, hb11⟩; rw [HSS.out] at ho11; dsimp only)
                | (go_at_call 13; refine (sameKey_self _ _ (Ms.srt (keyed l)) _ (ho11.sl kc_len) ((((hS5.drewN _).below_ hb79).drewN n10).below_ hb11) T5.out).mono ?_; rintro e w12 ⟨rfl, n12, rfl⟩; dsimp only)
                | (go_at_call 13; refine (sameKey_self _ _ (Ms.srt (keyed l)) _ (ho9.sl kc_len) ((hS5.drewN _).below_ hb79) T5.out).mono ?_; rintro e w10 ⟨rfl, n10, rfl⟩; dsimp only)
                | (go_at_call 11; refine (sorted_any _ ((keyed l).drop c) _ ((hKB.drewN _).below_ hb7) T2.out).mono ?_; rintro e w8 ⟨v8, rfl, ho8, hb8⟩; dsimp only)
                | (go_at_call 11; refine (sorted_any _ ((keyed l).take c) _ (hKA.drewN _) T1.out).mono ?_; rintro e w7 ⟨v7, rfl, ho7, hb7⟩; dsimp only)
                | (go_at_call 10; refine (Merge_any _ _ (Ms.srt ((keyed l).take c)) (Ms.srt ((keyed l).drop c)) _ ((ho7.sl kc_len).below_ hb8) (ho8.sl kc_len) T3.out).mono ?_; rintro e w9 ⟨v9, rfl, ho9, hb9⟩; rw [HM.out] at ho9; have hb79 := Below.lift hb7 (Below.lift hb8 hb9); dsimp only))
              go_wp2_with fail
              all_goals
                go_ret
                exact ⟨rfl, below_drewN (Below.lift (below_drewN (Below.lift (below_drewN hB5.out _) hb79) n10) hb11) n12⟩
end Go.Proofs.Ytjlnbeeffdallaa
