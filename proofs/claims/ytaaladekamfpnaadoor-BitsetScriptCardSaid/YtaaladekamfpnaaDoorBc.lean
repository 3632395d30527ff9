/- The walks of bitset.Set's Count, Next, List, and of bitset.New. -/
import Derived.Test.YtaaladekamfpnaaDoorBn
namespace Go.Proofs.YtaaladekamfpnaaDoor
open Go.RowKit Bs

set_option maxHeartbeats 1000000 in
theorem count_any (w : World) (lo hi p : Nat) (l : List Bool) (h : BSet w lo hi p l) :
    Calls Tryd.prog 15 #[.pointer (some ⟨p, 0, none⟩)] w fun e w' => e = .returned (.int .i64 (Bs.count l : Nat)) ∧ w = w' := by
  obtain ⟨A, cap, ws, c0, c1, hc1, hc2, hwd, hW, _, _⟩ := h.open_
  have hn : ws.length ≤ 16384 := by rw [hwd.1]; have := h.le; omega
  have Hc := Lib.hid hwd.count
  have Hlt := Lib.hid (fun k (hk : k < ws.length) => hwd.lt hk)
  clear hwd
  go_enter Tryd.func15, Tryd.ntmps15
  go_wp2
  go_loop [2, 4, 12] (fun n _ i => ∃ k : Nat, k ≤ ws.length ∧ i = .int .i64 k ∧ n = .int .i64 (popSum ws k : Nat)) (fun _ _ i => ws.length - (intOf i).toNat)
  case atStart => exact ⟨0, Nat.zero_le _, rfl, rfl⟩
  case round =>
    obtain ⟨k, hk, rfl, rfl⟩ := hrel
    by_cases hlt : k < ws.length
    · obtain ⟨g, rfl, _, _, cw, _⟩ := hW.word hlt
      have hx := Hlt.out k hlt
      have HP := Lib.hid (popSum_succ hlt)
      have b1 := popSum_le ws k hk
      have b2 := pop_le ws[k]
      generalize ws[k] = x at *
      have q1 : (0 : Int) ≤ (k : Int) := by omega
      have q2 : (k : Int) < (ws.length : Int) := by omega
      have q3 : ((popSum ws k : Nat) : Int) ≤ 1048576 := by omega
      have q4 : ((pop x : Nat) : Int) ≤ 64 := by omega
      clear b1 b2
      go_wp2_with (go_at_call 39; refine (ones_any x hx _).mono ?_; rintro e w' ⟨rfl, rfl⟩)
      go_round
      case rel => exact ⟨k + 1, by omega, by go_num, by rw [HP.out]; go_num⟩
      case measure => simp [intOf]; omega
    · obtain rfl : k = ws.length := by omega
      go_wp2
      go_ret
      exact ⟨ret_i64 (by rw [Hc.out]), rfl⟩
set_option maxHeartbeats 400000 in
theorem count_nil (w : World) : Calls Tryd.prog 15 #[.pointer none] w fun e w' => e = .returned (.int .i64 0) ∧ w = w' := by
  go_enter Tryd.func15, Tryd.ntmps15
  go_wp2
  go_ret
  exact ⟨rfl, rfl⟩

/-! Next -/
theorem ctz_spec {y : Nat} (h0 : y ≠ 0) (hy : y < 18446744073709551616) : Lib.ctz 64 y < 64 ∧ y.testBit (Lib.ctz 64 y) = true ∧ ∀ j, j < Lib.ctz 64 y → y.testBit j = false := by
  have e : Lib.ctz 64 y = Lib.ctzFrom 64 y := by unfold Lib.ctz; rw [if_neg h0]
  rw [e]
  obtain ⟨m, hm, hlt⟩ := Lib.ctzFrom_spec 64 y (Nat.pos_of_ne_zero h0) (by simpa using hy)
  generalize Lib.ctzFrom 64 y = c at *
  refine ⟨hlt, ?_, fun j hj => ?_⟩
  · rw [hm, Nat.testBit_two_pow_mul]
    simp
  · rw [hm, Nat.testBit_two_pow_mul, decide_eq_false (by omega)]; rfl
/-- At the head of Next's loop: y holds the bits of word k from i on; none is there from i up to word k. -/
def NxRel (l : List Bool) (ws : List Nat) (i : Nat) (s5 s6 : Value) : Prop :=
  ∃ k y : Nat, k < ws.length ∧ i < 64 * (k + 1) ∧ s5 = .int .u64 (y : Int) ∧ s6 = .int .i64 (k : Int) ∧ y < 18446744073709551616 ∧ (∀ j, j < 64 → y.testBit j = (at_ l (64 * k + j) && decide (i ≤ 64 * k + j))) ∧ ∀ m, i ≤ m → m < 64 * k → at_ l m = false
theorem nx_hit {l : List Bool} {i k y : Nat} (h0 : y ≠ 0) (hy : y < 18446744073709551616) (h1 : ∀ j, j < 64 → y.testBit j = (at_ l (64 * k + j) && decide (i ≤ 64 * k + j))) (h2 : ∀ m, i ≤ m → m < 64 * k → at_ l m = false) : ((k : Int) * 64 + (Lib.ctz 64 y : Nat)) = next l i := by
  obtain ⟨c1, c2, c3⟩ := ctz_spec h0 hy
  apply Nx.eq
  refine .inr ⟨64 * k + Lib.ctz 64 y, by omega, ?_, ?_, fun j a b => ?_⟩
  · have := h1 _ c1
    rw [c2] at this
    have := (Bool.and_eq_true _ _ ▸ this.symm : _ ∧ _).2
    exact of_decide_eq_true this
  · have := h1 _ c1
    rw [c2] at this
    exact (Bool.and_eq_true _ _ ▸ this.symm : _ ∧ _).1
  · by_cases hj : j < 64 * k
    · exact h2 j a hj
    · have h3 := c3 (j - 64 * k) (by omega)
      rw [h1 (j - 64 * k) (by omega), show 64 * k + (j - 64 * k) = j by omega, decide_eq_true a, Bool.and_true] at h3
      exact h3
theorem nx_more {l : List Bool} {i k : Nat} (h1 : ∀ j, j < 64 → Nat.testBit 0 j = (at_ l (64 * k + j) && decide (i ≤ 64 * k + j))) (h2 : ∀ m, i ≤ m → m < 64 * k → at_ l m = false) : ∀ m, i ≤ m → m < 64 * (k + 1) → at_ l m = false := by
  intro m a b
  by_cases hj : m < 64 * k
  · exact h2 m a hj
  · have h3 := h1 (m - 64 * k) (by omega)
    rw [show 64 * k + (m - 64 * k) = m by omega, decide_eq_true a, Bool.and_true, Nat.zero_testBit] at h3
    exact h3.symm

set_option maxHeartbeats 1000000 in
theorem next_out (w : World) (lo hi p : Nat) (l : List Bool) (i : Nat) (h : BSet w lo hi p l) (hi_ : l.length ≤ i) :
    Calls Tryd.prog 17 #[.pointer (some ⟨p, 0, none⟩), .int .i64 (i : Int)] w fun e w' => e = .returned (.int .i64 (next l i)) ∧ w = w' := by
  obtain ⟨A, cap, ws, c0, c1, hc1, hc2, hwd, hW, _, _⟩ := h.open_
  have hr : next l i = -1 := (Nx.eq (.inl ⟨rfl, fun k hk => at_ge (by omega)⟩)).symm
  rw [hr]
  have q1 : (0 : Int) ≤ (i : Int) := by omega
  have d : decide (l.length ≤ i) = true := decide_eq_true hi_
  clear hwd hW hi_
  go_enter Tryd.func17, Tryd.ntmps17
  go_wp2
  go_ret
  exact ⟨rfl, rfl⟩
set_option maxHeartbeats 2000000 in
theorem next_in (w : World) (lo hi p : Nat) (l : List Bool) (i : Nat) (h : BSet w lo hi p l) (hT : Tab w) (hi_ : i < l.length) :
    Calls Tryd.prog 17 #[.pointer (some ⟨p, 0, none⟩), .int .i64 (i : Int)] w fun e w' => e = .returned (.int .i64 (next l i)) ∧ w = w' := by
  obtain ⟨A, cap, ws, c0, c1, hc1, hc2, hwd, hW, _, _⟩ := h.open_
  have hk := hwd.idx hi_
  obtain ⟨g, rfl, _, _, cw, _⟩ := hW.word hk
  have hn : ws.length ≤ 16384 := by rw [hwd.1]; have := h.le; omega
  have hlen := Lib.hid hwd.1
  have HB := Lib.hid hwd.2
  have HT := Lib.hid hT
  have d2 : decide (l.length ≤ i) = false := decide_eq_false (by omega)
  have q1 : (0 : Int) ≤ (i : Int) := by omega
  have q2 : (i : Int) < (l.length : Int) := by omega
  have q3 : (i : Int) ≤ 1048576 := by have := h.le; omega
  have hx := hwd.lt hk
  have hdm := Lib.hid (Nat.div_add_mod i 64)
  have H0 := Lib.hid ((hwd.2 _ hk).2)
  generalize hxx : ws[i / 64] = x at *
  have e1 : (i : Int) / 64 = ((i / 64 : Nat) : Int) := by omega
  have e2 : (i : Int) % 64 = ((i % 64 : Nat) : Int) := by omega
  have hj : i % 64 < 64 := Nat.mod_lt _ (by decide)
  generalize i / 64 = k at *
  generalize i % 64 = j at *
  have q4 : (k : Int) < (ws.length : Int) := by omega
  have q5 : (0 : Int) ≤ (k : Int) := by omega
  have q6 : (0 : Int) ≤ (j : Int) := by omega
  have hyx : x / 2 ^ j * 2 ^ j ≤ x := Nat.div_mul_le_self _ _
  have e3 : IntKind.u64.wrap ((x : Int) / 2 ^ j * 2 ^ j) = ((x / 2 ^ j * 2 ^ j : Nat) : Int) := by
    rw [ediv_pow, show (2 : Int) ^ j = ((2 ^ j : Nat) : Int) by rw [Int.natCast_pow]; rfl, ← Int.natCast_mul]
    exact wrap_nat _ (by omega)
  have Hy := Lib.hid (show ∀ m, (x / 2 ^ j * 2 ^ j).testBit m = (decide (j ≤ m) && x.testBit m) from fun m => by
    rw [Nat.mul_comm, Nat.testBit_two_pow_mul, Nat.testBit_div_two_pow]
    by_cases hm : j ≤ m
    · rw [show m - j + j = m by omega]
    · simp [hm])
  have hy : x / 2 ^ j * 2 ^ j < 18446744073709551616 := by omega
  generalize x / 2 ^ j * 2 ^ j = y at *
  clear hwd hxx hT hyx
  go_enter Tryd.func17, Tryd.ntmps17
  go_wp2
  go_loop [5, 6] (fun s5 s6 => NxRel l ws i s5 s6) (fun _ s6 => ws.length - (intOf s6).toNat)
  case atStart =>
    refine ⟨k, y, by omega, by have := hdm.out; omega, rfl, rfl, hy, fun m hm => ?_, fun m a b => by have := hdm.out; omega⟩
    rw [Hy.out m, H0.out m hm, Bool.and_comm]
    congr 1
    have := hdm.out
    exact decide_eq_decide.2 (by omega)
  case round =>
    obtain ⟨k, y, hk, hik, rfl, rfl, hy, h1, h2⟩ := hrel
    have q7 : (k : Int) < (ws.length : Int) := by omega
    by_cases h0 : y = 0
    · subst h0
      have HM := Lib.hid (nx_more h1 h2)
      clear h1 h2
      by_cases hend : k + 1 = ws.length
      · have hr : next l i = -1 := (Nx.eq (.inl ⟨rfl, fun m hm => by
          by_cases hml : m < l.length
          · exact HM.out m hm (by have := hlen.out; omega)
          · exact at_ge (by omega)⟩)).symm
        have hq : (((k : Int) + 1) == (ws.length : Int)) = true := beq_iff_eq.2 (by omega)
        have Hr := Lib.hid hr
        clear hr hend
        go_wp2
        go_ret
        exact ⟨ret_i64 Hr.out.symm, rfl⟩
      · have hk1 : k + 1 < ws.length := by omega
        have hq : (((k : Int) + 1) == (ws.length : Int)) = false := beq_eq_false_iff_ne.2 (by omega)
        obtain ⟨g', eg, _, _, cw', _⟩ := hW.word hk1
        injection eg with eg
        injection eg with eg
        subst eg
        have hb := HB.out (k + 1) hk1
        generalize ws[k + 1] = z at *
        have q8 : (k : Int) + 1 < (ws.length : Int) := by omega
        clear hend
        go_wp2
        go_round
        case rel => exact ⟨k + 1, z, hk1, by omega, rfl, by go_num, hb.1, fun m hm => by rw [hb.2 m hm, decide_eq_true (by omega), Bool.and_true], HM.out⟩
        case measure => simp [intOf]; omega
    · have hq : ((y : Int) != 0) = true := by simpa using h0
      have HR := Lib.hid (nx_hit h0 hy h1 h2)
      have c1 := (ctz_spec h0 hy).1
      clear h1 h2
      go_wp2_with (go_at_call 40; refine (tz64_any y hy h0 _ HT.out).mono ?_; rintro e w' ⟨rfl, rfl⟩)
      go_ret
      exact ⟨ret_i64 HR.out, rfl⟩
theorem next_any (w : World) (lo hi p : Nat) (l : List Bool) (i : Nat) (h : BSet w lo hi p l) (hT : Tab w) :
    Calls Tryd.prog 17 #[.pointer (some ⟨p, 0, none⟩), .int .i64 (i : Int)] w fun e w' => e = .returned (.int .i64 (next l i)) ∧ w = w' := by
  by_cases hi_ : i < l.length
  · exact next_in w lo hi p l i h hT hi_
  · exact next_out w lo hi p l i h (by omega)
set_option maxHeartbeats 400000 in
theorem next_nil (w : World) (i : Int) : Calls Tryd.prog 17 #[.pointer none, .int .i64 i] w fun e w' => e = .returned (.int .i64 (-1)) ∧ w = w' := by
  by_cases h : i < 0
  · go_enter Tryd.func17, Tryd.ntmps17
    go_wp2
    all_goals
      go_ret
      exact ⟨rfl, rfl⟩
  · have h0 : 0 ≤ i := by omega
    go_enter Tryd.func17, Tryd.ntmps17
    go_wp2
    all_goals
      go_ret
      exact ⟨rfl, rfl⟩

/-! List -/
theorem info_int : (Tryd.prog.info? 3).map (fun i => (i.zero, i.size, i.bytes)) = some (some (.int .i64 0), 1, 8) := by kernel_rfl
/-- The cell of an int. -/
def ic (x : Int) : List Value := [.int .i64 x]
theorem ic_len : ∀ x, (ic x).length = 1 := fun _ => rfl
theorem ic_one : ∀ x, ∀ u ∈ ic x, u.oneCell' = true := by intro x u hu; simp [ic] at hu; subst hu; rfl
/-- It returns a row of its own that holds l, and writes nothing that was there. -/
def Made {α : Type} (c : α → List Value) (size : Nat) (t : TypeId) (l : List α) (w : World) (e : Ending) (w' : World) : Prop :=
  ∃ v, e = .returned v ∧ Ow c size w' w.heap.size t v l ∧ Below w.heap.size w w'
def lsMu (n : Nat) (v : Value) : Nat := if intOf v < 0 then 0 else n - (intOf v).toNat
theorem lsMu_neg (n : Nat) : lsMu n (.int .i64 (-1)) = 0 := rfl
theorem lsMu_nat (n k : Nat) : lsMu n (.int .i64 (k : Int)) = n - k := by
  unfold lsMu
  rw [if_neg (show ¬ intOf (.int .i64 (k : Int)) < 0 from by show ¬ (k : Int) < 0; omega)]
  show n - ((k : Int)).toNat = n - k
  rw [Int.toNat_natCast]
def LsRel (l : List Bool) (w : World) (s3 s4 : Value) (wr : World) : Prop :=
  ∃ r : Int, s4 = .int .i64 r ∧ Below w.heap.size w wr ∧ ((r = -1 ∧ Ow ic 1 wr w.heap.size 3 s3 (lst l)) ∨ ∃ k : Nat, r = k ∧ at_ l k = true ∧ Ow ic 1 wr w.heap.size 3 s3 (upTo l k))
theorem LsRel.of {l : List Bool} {w wr : World} {s3 : Value} {i : Nat} (hi : i ≤ l.length) (hb : Below w.heap.size w wr) (ho : Ow ic 1 wr w.heap.size 3 s3 (upTo l i)) : LsRel l w s3 (.int .i64 (next l i)) wr := by
  refine ⟨_, rfl, hb, ?_⟩
  rcases next_ok l i with ⟨h1, h2⟩ | ⟨k, h1, h2, h3, h4⟩
  · exact .inl ⟨h1, by rw [lst_end hi h2]; exact ho⟩
  · exact .inr ⟨k, h1, h3, by rw [upTo_next h2 h4]; exact ho⟩
theorem lsMu_lt {l : List Bool} {k : Nat} (hk : at_ l k = true) : lsMu l.length (.int .i64 (next l (k + 1))) < lsMu l.length (.int .i64 (k : Int)) := by
  have hkl := at_true hk
  rw [lsMu_nat]
  rcases next_ok l (k + 1) with ⟨h1, _⟩ | ⟨m, h1, h2, h3, _⟩
  · rw [h1, lsMu_neg]; omega
  · have := at_true h3
    rw [h1, lsMu_nat]; omega
set_option maxHeartbeats 2000000 in
theorem list_any (w : World) (lo hi p : Nat) (l : List Bool) (h : BSet w lo hi p l) (hT : Tab w) (hg : 0 < w.heap.size) :
    Calls Tryd.prog 14 #[.pointer (some ⟨p, 0, none⟩)] w (Made ic 1 3 (lst l) w) := by
  obtain ⟨i0, hi0, hz0, hz1, hz2⟩ := info_parts info_int
  have HN := Lib.hid (next_any w lo hi p l 0 h hT)
  have HT := Lib.hid hT
  have hle := h.le
  clear hT
  go_enter Tryd.func14, Tryd.ntmps14
  go_wp2_with (go_at_call 17; refine HN.out.mono ?_; rintro e w' ⟨rfl, rfl⟩)
  go_loopw [3, 4] (fun s3 s4 wr => LsRel l w s3 s4 wr) (fun _ s4 _ => lsMu l.length s4)
  case atStart => exact LsRel.of (Nat.zero_le _) (Below.refl _ _) Ow.nil_
  case round =>
    obtain ⟨r, rfl, hbel, ⟨rfl, hown⟩ | ⟨k, rfl, hk, hown⟩⟩ := hrel
    · go_wp2
      go_ret
      exact ⟨_, rfl, hown, hbel⟩
    · have hkl := at_true hk
      have hlen := upTo_length_le l k
      have q1 : (0 : Int) ≤ (k : Int) := by omega
      have q2 : (k : Int) ≤ 1048576 := by omega
      have hzw := hbel.size
      have HS := Lib.hid (show upTo l (k + 1) = upTo l k ++ [(k : Int)] by rw [upTo_succ, if_pos hk])
      have HM := Lib.hid (lsMu_lt hk)
      generalize hol : upTo l k = ol at *
      clear hk hol
      go_wp2_with (at_builtin; refine wpList_append_sl _ rfl _ _ _ rfl w.heap.size 3 i0 _ 8 Tryd.underlying22 hi0 hz0 hz1 hz2 rfl (by omega) ic_len ic_one _ _ ol [(k : Int)] rfl rfl (hown.alloc _) (Sl.new1 (k : Int) (by first | rfl | simp)) (by simp only [maxLen, List.length_cons, List.length_nil]; omega) (by simp only [List.length_cons, List.length_nil]; omega) (by simp; omega) ?_; intro v1 w1 hown1 hg1 hmv1)
      have hb1 : Below w.heap.size w w1 := (hbel.alloc hzw _).grown hg1 (by simp; omega) fun g hg => (hown.lt hg).1
      have HN1 := next_any w1 lo hi p l (k + 1) (h.below_ hb1) (HT.out.below hb1 hg)
      rw [show ((k + 1 : Nat) : Int) = (k : Int) + 1 from by omega] at HN1
      refine HN1.mono ?_
      rintro e w' ⟨rfl, rfl⟩
      have R : LsRel l w v1 (.int .i64 (next l (k + 1))) w1 := LsRel.of hkl hb1 (by rw [HS.out]; exact hown1)
      go_wp2
      go_roundw
      case rel => first | exact R | ((repeat apply Exists.intro); exact ⟨R, rfl⟩)
      case measure => exact HM.out

/-! New -/
set_option maxHeartbeats 400000 in
theorem new_bad (n : Int) (w : World) (h : n < 0 ∨ 1048576 < n) : Calls Tryd.prog 11 #[.int .i64 n] w fun e w' => e = .returned (.tuple #[.pointer none, .int .i64 2]) ∧ w = w' := by
  by_cases h0 : n < 0
  · have d : decide (n < 0) = true := decide_eq_true h0
    clear h
    go_enter Tryd.func11, Tryd.ntmps11
    go_wp2
    go_ret2
    exact ⟨rfl, rfl⟩
  · have d : decide (n < 0) = false := decide_eq_false h0
    have d2 : decide (1048576 < n) = true := decide_eq_true (by omega)
    clear h h0
    go_enter Tryd.func11, Tryd.ntmps11
    go_wp2
    go_ret2
    exact ⟨rfl, rfl⟩
/-- A new set: blocks of its own from the heap's end on. -/
def NewSet (w : World) (l : List Bool) (e : Ending) (w' : World) : Prop :=
  ∃ p, e = .returned (.tuple #[.pointer (some ⟨p, 0, none⟩), .int .i64 0]) ∧ BSet w' w.heap.size w'.heap.size p l ∧ Below w.heap.size w w'
theorem BSet.fresh (w : World) (n : Nat) (hn : n ≤ 1048576) : BSet ((w.alloc (freshRow (.int .u64 0) 1 ((n + 63) / 64) 62)).alloc (.cells #[.int .i64 (n : Int), .slice (some ⟨w.heap.size, 0, none⟩) ((n + 63) / 64) ((n + 63) / 64)] 60)) w.heap.size (w.heap.size + 1 + 1) (w.heap.size + 1) (List.replicate n false) := by
  have e1 : (w.alloc (freshRow (.int .u64 0) 1 ((n + 63) / 64) 62)).heap.size = w.heap.size + 1 := by simp
  refine ⟨_, List.replicate ((n + 63) / 64) 0, by omega, by omega, by simp, by simpa using hn, ?_, ⟨_, _, by rw [List.length_replicate], by rw [List.length_replicate]; exact Nat.le_refl _, by unfold maxLen; omega, fun _ => ⟨w.heap.size, _, rfl, Nat.le_refl _, by omega, (Below.heap_alloc _ _ _ (by simp)).trans (heap_alloc_new w _), fun i x hx => ?_⟩⟩, Wd.new n⟩
  · rw [List.length_replicate, ← e1]
    exact heap_alloc_new _ _
  · rw [List.getElem?_replicate] at hx
    split at hx
    · rename_i hlt
      injection hx with hx
      subst hx
      rw [← Array.getElem?_toList, show (Value.int IntKind.u64 0).cells = #[Value.int IntKind.u64 0] from rfl, toList_madeCells_one, List.getElem?_replicate, if_pos (by omega)]
      rfl
    · cases hx
set_option maxHeartbeats 1000000 in
theorem new_ok (n : Nat) (w : World) (h : n ≤ 1048576) : Calls Tryd.prog 11 #[.int .i64 (n : Int)] w (NewSet w (List.replicate n false)) := by
  obtain ⟨i0, hi0, hz0, hz1, hz2⟩ := info_parts info_u64
  have hmk := run_make_fresh (Pr := Tryd.prog) 58 62 i0 _ 1 8 Tryd.underlying58 hi0 hz0 hz1 hz2 ((n + 63) / 64) ((n + 63) / 64) (by omega) (by omega) (by omega)
  have q1 : (0 : Int) ≤ (n : Int) := by omega
  have q2 : (n : Int) ≤ 1048576 := by omega
  have d1 : decide ((n : Int) < 0) = false := decide_eq_false (by omega)
  have d2 : decide (1048576 < (n : Int)) = false := decide_eq_false (by omega)
  have e1 : ((n : Int) + 64 - 1) / 64 = (((n + 63) / 64 : Nat) : Int) := by omega
  have HF := Lib.hid (BSet.fresh w n h)
  generalize hm : (n + 63) / 64 = m at *
  clear hm
  go_enter Tryd.func11, Tryd.ntmps11
  go_wp2
  go_ret2
  refine ⟨w.heap.size + 1, rfl, ?_, ((Below.refl _ _).alloc (Nat.le_refl _) _).alloc (by simp) _⟩
  have e2 : ∀ o o', ((w.alloc o).alloc o').heap.size = w.heap.size + 1 + 1 := by simp
  rw [e2]
  exact HF.out
end Go.Proofs.YtaaladekamfpnaaDoor
