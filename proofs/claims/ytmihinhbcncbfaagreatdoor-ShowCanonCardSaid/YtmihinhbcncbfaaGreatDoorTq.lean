/- Texts of ticks: the numeral told and read is the number; the numeral read and told is the numeral (nothing of the program). -/
import Derived.Test.YtmihinhbcncbfaaGreatDoorTp
namespace Go.Proofs.YtmihinhbcncbfaaGreatDoor.Tk
open Go.Lib (decDigits)

theorem val_snoc (l : List UInt8) (c : UInt8) (acc : Nat) : val acc (l ++ [c]) = val acc l * 10 + (c.toNat - 48) := by
  unfold val; rw [List.foldl_append, List.foldl_cons, List.foldl_nil]
theorem dig_of {n : Nat} (h : n < 10) : (UInt8.ofNat (48 + n)).toNat = 48 + n := by
  rw [UInt8.toNat_ofNat']; omega
theorem dig_back {c : UInt8} (h : 48 ≤ c.toNat) : UInt8.ofNat (48 + (c.toNat - 48)) = c := by
  rw [show 48 + (c.toNat - 48) = c.toNat by omega]
  exact UInt8.ofNat_toNat
theorem dec_one {u : Nat} (h : u < 10) : decDigits u = [UInt8.ofNat (48 + u)] := by rw [decDigits, dif_pos h]
theorem dec_more {u : Nat} (h : ¬ u < 10) : decDigits u = decDigits (u / 10) ++ [UInt8.ofNat (48 + u % 10)] := by rw [decDigits, dif_neg h]

theorem dec_val (u : Nat) : val 0 (decDigits u) = u := by
  induction u using Nat.strongRecOn with
  | ind u ih =>
    by_cases h : u < 10
    · rw [dec_one h, val_cons, val_nil, dig_of h]; omega
    · rw [dec_more h, val_snoc, ih (u / 10) (by omega), dig_of (by omega)]; omega
theorem isDig_of {n : Nat} (h : n < 10) : isDig (UInt8.ofNat (48 + n)) = true := by
  rw [isDig_iff, dig_of h]; omega
theorem dec_digs (u : Nat) : (decDigits u).all isDig = true := by
  induction u using Nat.strongRecOn with
  | ind u ih =>
    by_cases h : u < 10
    · rw [dec_one h, List.all_cons, isDig_of h, List.all_nil]; rfl
    · rw [dec_more h, List.all_append, ih (u / 10) (by omega), List.all_cons, isDig_of (by omega), List.all_nil]; rfl
theorem dec_ne (u : Nat) : decDigits u ≠ [] := by
  by_cases h : u < 10
  · rw [dec_one h]; simp
  · rw [dec_more h]; simp
theorem dec_head (u : Nat) (h0 : 0 < u) : (decDigits u).head? ≠ some 48 := by
  induction u using Nat.strongRecOn with
  | ind u ih =>
    by_cases h : u < 10
    · rw [dec_one h]
      intro e
      injection e with e
      have := congrArg UInt8.toNat e
      rw [dig_of h] at this
      have h48 : (48 : UInt8).toNat = 48 := rfl
      omega
    · rw [dec_more h]
      have h1 := ih (u / 10) (by omega) (by omega)
      cases hd : decDigits (u / 10) with
      | nil => exact absurd hd (dec_ne _)
      | cons c r => rw [hd] at h1; exact h1
theorem dec_len (u : Nat) (h : u < 10) : (decDigits u).length = 1 := by rw [dec_one h]; rfl
theorem good_dec (u : Nat) : badNum (decDigits u) = false := by
  unfold badNum
  rw [dec_digs, List.isEmpty_eq_false_iff.2 (dec_ne u)]
  by_cases h0 : 0 < u
  · rw [beq_eq_false_iff_ne.2 (dec_head u h0)]; simp
  · rw [dec_len u (by omega)]; simp
theorem inf_not : infB.all isDig = false := by decide
theorem dec_not_inf (u : Nat) : decDigits u ≠ infB := by
  intro e
  have h := dec_digs u
  rw [e, inf_not] at h
  exact absurd h (by decide)

theorem val_pos {l : List UInt8} (hne : l ≠ []) (hd : l.all isDig = true) (hz : l.head? ≠ some 48) : 0 < val 0 l := by
  cases l with
  | nil => exact absurd rfl hne
  | cons c r =>
    rw [List.all_cons, Bool.and_eq_true] at hd
    have hc := isDig_iff.1 hd.1
    rw [val_cons]
    have h48 : c.toNat ≠ 48 := by
      intro e
      apply hz
      have : c = 48 := UInt8.toNat_inj.1 e
      rw [this]; rfl
    exact Nat.lt_of_lt_of_le (by omega) (val_ge r _)

theorem snoc_cases (l : List UInt8) (hne : l ≠ []) : ∃ r c, l = r ++ [c] := ⟨l.dropLast, l.getLast hne, (List.dropLast_concat_getLast hne).symm⟩

/-- A numeral's number tells the numeral. -/
theorem dec_back : ∀ (n : Nat) (l : List UInt8), l.length = n → l ≠ [] → l.all isDig = true → (1 < l.length → l.head? ≠ some 48) → decDigits (val 0 l) = l := by
  intro n
  induction n with
  | zero => intro l h hne; exact absurd (List.length_eq_zero_iff.1 h) hne
  | succ n ih =>
    intro l hl hne hd hz
    obtain ⟨r, c, rfl⟩ := snoc_cases l hne
    rw [List.all_append, Bool.and_eq_true, List.all_cons, Bool.and_eq_true] at hd
    have hc := isDig_iff.1 hd.2.1
    rw [val_snoc]
    by_cases hr : r = []
    · subst hr
      rw [val_nil, dec_one (by omega), show 48 + (0 * 10 + (c.toNat - 48)) = 48 + (c.toNat - 48) by omega, dig_back hc.1]; rfl
    · have hlr : 0 < r.length := List.length_pos_iff.2 hr
      have hh : (r ++ [c]).head? = r.head? := by
        cases r with
        | nil => exact absurd rfl hr
        | cons => rfl
      rw [hh, List.length_append] at hz
      have hz' := hz (by rw [List.length_singleton]; omega)
      have hp := val_pos hr hd.1 hz'
      rw [dec_more (by omega), show (val 0 r * 10 + (c.toNat - 48)) / 10 = val 0 r by omega, show (val 0 r * 10 + (c.toNat - 48)) % 10 = c.toNat - 48 by omega, dig_back hc.1,
        ih r (by rw [List.length_append, List.length_singleton] at hl; omega) hr hd.1 (fun _ => hz')]

theorem inf_isT : isT 4611686018427387904 = true := isT_inf
/-- A tick's text is read as the tick. -/
theorem parse_text {t : Int} (h : isT t = true) : parseE (textB t) = 0 ∧ parseV (textB t) = t := by
  rcases kinds t with ⟨h1, -, -⟩ | rfl | ⟨t1, t2⟩
  · rw [h] at h1; exact absurd h1 (by decide)
  · have hr : textB 4611686018427387904 = infB := by unfold textB; rw [if_pos rfl]
    rw [hr]
    constructor
    · unfold parseE; rw [if_pos rfl]
    · unfold parseV; rw [if_pos rfl]
  · obtain ⟨u, rfl⟩ := Int.eq_ofNat_of_zero_le t1
    have hr : textB (u : Int) = decDigits u := by unfold textB; rw [if_neg (by omega), if_pos h, Lib.itoa_nonneg]
    rw [hr]
    have hE : parseE (decDigits u) = 0 := by
      unfold parseE; rw [if_neg (dec_not_inf u), if_neg (by rw [good_dec]; decide), dec_val, if_pos (by omega)]
    refine ⟨hE, ?_⟩
    unfold parseV; rw [if_neg (dec_not_inf u), if_pos hE, dec_val]
theorem text_no {t : Int} (h : isT t = false) : textB t = [] := by
  unfold textB
  rw [if_neg (by intro e; rw [e, isT_inf] at h; exact absurd h (by decide)), if_neg (by rw [h]; decide)]
theorem parse_nil : parseE [] = 7 ∧ parseV [] = 0 := by decide
/-- What is read is a tick, and its text is what was read; else nothing is told. -/
theorem text_parse (l : List UInt8) : (parseE l ≠ 0 ∧ parseV l = 0) ∨ (parseE l = 0 ∧ isT (parseV l) = true ∧ textB (parseV l) = l) := by
  by_cases h1 : l = infB
  · subst h1
    have hE : parseE infB = 0 := by unfold parseE; rw [if_pos rfl]
    have hV : parseV infB = 4611686018427387904 := by unfold parseV; rw [if_pos rfl]
    rw [hE, hV]
    exact .inr ⟨rfl, isT_inf, by unfold textB; rw [if_pos rfl]⟩
  · by_cases h0 : parseE l = 0
    · right
      have hV : parseV l = val 0 l := by unfold parseV; rw [if_neg h1, if_pos h0]
      have hb : badNum l = false := by
        rw [← Bool.not_eq_true]
        intro hb
        unfold parseE at h0
        rw [if_neg h1, if_pos hb] at h0
        exact absurd h0 (by decide)
      have hv : val 0 l ≤ 1099511627776 := by
        unfold parseE at h0
        rw [if_neg h1, if_neg (by rw [hb]; decide)] at h0
        by_cases h : val 0 l ≤ 1099511627776
        · exact h
        · rw [if_neg h] at h0; exact absurd h0 (by decide)
      have hT : isT (val 0 l : Int) = true := isT_tick (by omega)
      rw [hV]
      refine ⟨h0, hT, ?_⟩
      unfold textB
      rw [if_neg (by omega), if_pos hT, Lib.itoa_nonneg]
      unfold badNum at hb
      rw [Bool.or_eq_false_iff, Bool.or_eq_false_iff] at hb
      obtain ⟨⟨b1, b2⟩, b3⟩ := hb
      refine dec_back _ l rfl (List.isEmpty_eq_false_iff.1 b1) (by simpa using b3) fun hl e => ?_
      rw [e, decide_eq_true hl] at b2
      exact absurd b2 (by decide)
    · left
      exact ⟨h0, by unfold parseV; rw [if_neg h1, if_neg h0]⟩
end Go.Proofs.YtmihinhbcncbfaaGreatDoor.Tk
