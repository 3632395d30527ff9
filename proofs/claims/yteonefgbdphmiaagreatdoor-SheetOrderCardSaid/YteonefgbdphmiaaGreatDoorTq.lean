/- Plain functions for the ticks of layer 1 (nothing of the program). -/
import Derived.WalkKit
import Derived.Lib.ParseIntB
import Derived.Lib.ItoaLen
import Derived.Lib.ItoaMem
namespace Go.Proofs.YteonefgbdphmiaaGreatDoor.Tk
def chk (t : Int) : Int := if 0 ≤ t ∧ t ≤ 1099511627776 then 0 else 9
def isT (t : Int) : Bool := decide (0 ≤ t ∧ t ≤ 1099511627776 ∨ t = 4611686018427387904)
def addE (a b : Int) : Int := if isT a = true ∧ isT b = true then (if a = 4611686018427387904 ∨ b = 4611686018427387904 then 0 else if a + b ≤ 1099511627776 then 0 else 9) else 9
def addV (a b : Int) : Int := if addE a b = 0 then (if a = 4611686018427387904 ∨ b = 4611686018427387904 then 4611686018427387904 else a + b) else 0
def subE (a b : Int) : Int := if isT a = true ∧ isT b = true ∧ b ≠ 4611686018427387904 ∧ b ≤ a then 0 else 9
def subV (a b : Int) : Int := if subE a b = 0 then (if a = 4611686018427387904 then 4611686018427387904 else a - b) else 0
def mulE (a n : Int) : Int := if isT a = true ∧ 0 ≤ n then (if n = 0 ∨ a = 4611686018427387904 then 0 else if a * n ≤ 1099511627776 then 0 else 9) else 9
def mulV (a n : Int) : Int := if mulE a n = 0 then (if n = 0 then 0 else if a = 4611686018427387904 then 4611686018427387904 else a * n) else 0
def atE (f e i : Int) : Int := if chk f = 0 ∧ chk e = 0 ∧ 0 ≤ i ∧ (e = 0 → i ≤ 0) then (if f + e * i ≤ 1099511627776 then 0 else 9) else 9
def atV (f e i : Int) : Int := if atE f e i = 0 then f + e * i else 0
def cnt (f e u : Int) : Int := if chk f = 0 ∧ chk e = 0 ∧ chk u = 0 ∧ f ≤ u then (if e = 0 then 1 else (u - f) / e + 1) else 0
theorem chk_ok {t : Int} (h : 0 ≤ t ∧ t ≤ 1099511627776) : chk t = 0 := by simp [chk, h]
theorem chk_no {t : Int} (h : ¬ (0 ≤ t ∧ t ≤ 1099511627776)) : chk t = 9 := by simp only [chk, if_neg h]
theorem chk_cases (t : Int) : (0 ≤ t ∧ t ≤ 1099511627776 ∧ chk t = 0) ∨ (¬ (0 ≤ t ∧ t ≤ 1099511627776) ∧ chk t = 9) := by
  unfold chk; split <;> simp_all
theorem isT_tick {t : Int} (h : 0 ≤ t ∧ t ≤ 1099511627776) : isT t = true := by simp [isT, h]
theorem isT_inf : isT 4611686018427387904 = true := by simp [isT]
theorem isT_no {t : Int} (h : ¬ (0 ≤ t ∧ t ≤ 1099511627776)) (g : t ≠ 4611686018427387904) : isT t = false := by
  unfold isT; rw [decide_eq_false_iff_not]; rintro (h' | h') <;> contradiction
/-- Every number is no tick, the tick that never comes, or a tick that comes. -/
theorem kinds (t : Int) : (isT t = false ∧ chk t = 9 ∧ (t == 4611686018427387904) = false) ∨ (t = 4611686018427387904) ∨ (0 ≤ t ∧ t ≤ 1099511627776) := by
  by_cases h : 0 ≤ t ∧ t ≤ 1099511627776
  · exact .inr (.inr h)
  · by_cases g : t = 4611686018427387904
    · exact .inr (.inl g)
    · exact .inl ⟨isT_no h g, chk_no h, beq_eq_false_iff_ne.2 g⟩
theorem add_bad {a b : Int} (h : isT a = false ∨ isT b = false) : addE a b = 9 ∧ addV a b = 0 := by
  have e : addE a b = 9 := by unfold addE; rw [if_neg (by rcases h with h | h <;> simp [h])]
  exact ⟨e, by unfold addV; rw [e]; rfl⟩
theorem add_inf {a b : Int} (ha : isT a = true) (hb : isT b = true) (h : a = 4611686018427387904 ∨ b = 4611686018427387904) : addE a b = 0 ∧ addV a b = 4611686018427387904 := by
  have e : addE a b = 0 := by unfold addE; rw [if_pos ⟨ha, hb⟩, if_pos h]
  exact ⟨e, by unfold addV; rw [if_pos e, if_pos h]⟩
theorem add_fits {a b : Int} (ha : 0 ≤ a ∧ a ≤ 1099511627776) (hb : 0 ≤ b ∧ b ≤ 1099511627776) (h : a + b ≤ 1099511627776) : addE a b = 0 ∧ addV a b = a + b := by
  have e : addE a b = 0 := by unfold addE; rw [if_pos ⟨isT_tick ha, isT_tick hb⟩, if_neg (by omega), if_pos h]
  exact ⟨e, by unfold addV; rw [if_pos e, if_neg (by omega)]⟩
theorem add_over {a b : Int} (ha : 0 ≤ a ∧ a ≤ 1099511627776) (hb : 0 ≤ b ∧ b ≤ 1099511627776) (h : 1099511627776 < a + b) : addE a b = 9 ∧ addV a b = 0 := by
  have e : addE a b = 9 := by unfold addE; rw [if_pos ⟨isT_tick ha, isT_tick hb⟩, if_neg (by omega), if_neg (by omega)]
  exact ⟨e, by unfold addV; rw [e]; rfl⟩
theorem sub_no {a b : Int} (h : isT a = false ∨ isT b = false ∨ b = 4611686018427387904 ∨ a < b) : subE a b = 9 ∧ subV a b = 0 := by
  have e : subE a b = 9 := by unfold subE; rw [if_neg (by rintro ⟨h1, h2, h3, h4⟩; rcases h with h | h | h | h; (· simp [h1] at h); (· simp [h2] at h); (· exact h3 h); (· omega))]
  exact ⟨e, by unfold subV; rw [e]; rfl⟩
theorem sub_inf {b : Int} (hb : 0 ≤ b ∧ b ≤ 1099511627776) : subE 4611686018427387904 b = 0 ∧ subV 4611686018427387904 b = 4611686018427387904 := by
  have e : subE 4611686018427387904 b = 0 := by unfold subE; rw [if_pos ⟨isT_inf, isT_tick hb, by omega, by omega⟩]
  exact ⟨e, by unfold subV; rw [if_pos e, if_pos rfl]⟩
theorem sub_fits {a b : Int} (ha : 0 ≤ a ∧ a ≤ 1099511627776) (hb : 0 ≤ b ∧ b ≤ 1099511627776) (h : b ≤ a) : subE a b = 0 ∧ subV a b = a - b := by
  have e : subE a b = 0 := by unfold subE; rw [if_pos ⟨isT_tick ha, isT_tick hb, by omega, h⟩]
  exact ⟨e, by unfold subV; rw [if_pos e, if_neg (by omega)]⟩
theorem mul_no {a n : Int} (h : isT a = false ∨ n < 0) : mulE a n = 9 ∧ mulV a n = 0 := by
  have e : mulE a n = 9 := by unfold mulE; rw [if_neg (by rintro ⟨h1, h2⟩; rcases h with h | h; (· simp [h1] at h); (· omega))]
  exact ⟨e, by unfold mulV; rw [e]; rfl⟩
theorem mul_zero' {a : Int} (ha : isT a = true) : mulE a 0 = 0 ∧ mulV a 0 = 0 := by
  have e : mulE a 0 = 0 := by unfold mulE; rw [if_pos ⟨ha, by omega⟩, if_pos (.inl rfl)]
  exact ⟨e, by unfold mulV; rw [if_pos e, if_pos rfl]⟩
theorem mul_inf {n : Int} (h : 0 < n) : mulE 4611686018427387904 n = 0 ∧ mulV 4611686018427387904 n = 4611686018427387904 := by
  have e : mulE 4611686018427387904 n = 0 := by unfold mulE; rw [if_pos ⟨isT_inf, by omega⟩, if_pos (.inr rfl)]
  exact ⟨e, by unfold mulV; rw [if_pos e, if_neg (by omega), if_pos rfl]⟩
theorem mul_fits {a n : Int} (ha : 0 ≤ a ∧ a ≤ 1099511627776) (hn : 0 ≤ n) (h : a * n ≤ 1099511627776) : mulE a n = 0 ∧ mulV a n = a * n := by
  have e : mulE a n = 0 := by
    unfold mulE; rw [if_pos ⟨isT_tick ha, hn⟩]
    by_cases g : n = 0 ∨ a = 4611686018427387904
    · rw [if_pos g]
    · rw [if_neg g, if_pos h]
  refine ⟨e, ?_⟩
  unfold mulV; rw [if_pos e]
  by_cases g : n = 0
  · rw [if_pos g, g, Int.mul_zero]
  · rw [if_neg g, if_neg (by omega)]
theorem mul_over {a n : Int} (ha : 0 ≤ a ∧ a ≤ 1099511627776) (hn : 0 < n) (h : 1099511627776 < a * n) : mulE a n = 9 ∧ mulV a n = 0 := by
  have e : mulE a n = 9 := by unfold mulE; rw [if_pos ⟨isT_tick ha, by omega⟩, if_neg (by omega), if_neg (by omega)]
  exact ⟨e, by unfold mulV; rw [e]; rfl⟩
/-- The program's test for a product that is too great. -/
theorem mul_test {a n : Int} (ha : 0 < a) : (1099511627776 / a < n) ↔ 1099511627776 < a * n := by
  rw [Int.ediv_lt_iff_lt_mul ha, Int.mul_comm]
theorem at_no {f e i : Int} (h : chk f = 9 ∨ chk e = 9 ∨ i < 0 ∨ (e = 0 ∧ 0 < i)) : atE f e i = 9 ∧ atV f e i = 0 := by
  have x : atE f e i = 9 := by
    unfold atE; rw [if_neg]; rintro ⟨h1, h2, h3, h4⟩
    rcases h with h | h | h | ⟨h, g⟩
    · omega
    · omega
    · omega
    · have := h4 h; omega
  exact ⟨x, by unfold atV; rw [x]; rfl⟩
theorem at_ok {f e i : Int} (h1 : chk f = 0) (h2 : chk e = 0) (h3 : 0 ≤ i) (h4 : e = 0 → i ≤ 0) (h : f + e * i ≤ 1099511627776) : atE f e i = 0 ∧ atV f e i = f + e * i := by
  have x : atE f e i = 0 := by unfold atE; rw [if_pos ⟨h1, h2, h3, h4⟩, if_pos h]
  exact ⟨x, by unfold atV; rw [if_pos x]⟩
theorem at_over {f e i : Int} (h : 1099511627776 < f + e * i) : atE f e i = 9 ∧ atV f e i = 0 := by
  have x : atE f e i = 9 := by
    unfold atE; split
    · rw [if_neg (by omega)]
    · rfl
  exact ⟨x, by unfold atV; rw [x]; rfl⟩
theorem cnt_no {f e u : Int} (h : chk f = 9 ∨ chk e = 9 ∨ chk u = 9 ∨ u < f) : cnt f e u = 0 := by
  unfold cnt; rw [if_neg]; rintro ⟨h1, h2, h3, h4⟩; omega
theorem cnt_one {f u : Int} (h1 : chk f = 0) (h2 : chk 0 = 0) (h3 : chk u = 0) (h4 : f ≤ u) : cnt f 0 u = 1 := by
  unfold cnt; rw [if_pos ⟨h1, h2, h3, h4⟩, if_pos rfl]
theorem cnt_of {f e u : Int} (h1 : chk f = 0) (h2 : chk e = 0) (h3 : chk u = 0) (h4 : f ≤ u) (h5 : e ≠ 0) : cnt f e u = (u - f) / e + 1 := by
  unfold cnt; rw [if_pos ⟨h1, h2, h3, h4⟩, if_neg h5]
theorem cnt_nonneg {f e u : Int} : 0 ≤ cnt f e u := by
  unfold cnt
  split
  · rename_i h
    split
    · omega
    · have h2 : 0 ≤ e := by
        have := h.2.1; unfold chk at this; split at this
        · omega
        · omega
      have := Int.ediv_nonneg (a := u - f) (b := e) (by omega) h2
      omega
  · omega
theorem cnt_le {f e u i : Int} (hf : chk f = 0) (he : chk e = 0) (hu : chk u = 0) (h : 0 < e) (hi : 0 ≤ i) : cnt f e u ≤ i ↔ u < f + e * i := by
  by_cases g : f ≤ u
  · rw [cnt_of hf he hu g (by omega)]
    have : (u - f) / e < i ↔ u - f < i * e := Int.ediv_lt_iff_lt_mul h
    rw [Int.mul_comm] at this
    omega
  · rw [cnt_no (.inr (.inr (.inr (by omega))))]
    have := Int.mul_nonneg (Int.le_of_lt h) hi
    omega
theorem mul_step {a k : Int} (ha : isT a = true) (hk : 0 ≤ k) (h : mulE a k = 0) : addE (mulV a k) a = mulE a (k + 1) ∧ addV (mulV a k) a = mulV a (k + 1) := by
  rcases kinds a with ⟨hn, _, _⟩ | rfl | ht
  · rw [ha] at hn; cases hn
  · rw [(mul_inf (n := k + 1) (by omega)).1, (mul_inf (n := k + 1) (by omega)).2]
    by_cases h0 : k = 0
    · subst h0
      rw [(mul_zero' isT_inf).2]
      exact add_inf (isT_tick (by omega)) isT_inf (.inr rfl)
    · rw [(mul_inf (n := k) (by omega)).2]
      exact add_inf isT_inf isT_inf (.inl rfl)
  · have hf : a * k ≤ 1099511627776 := by
      by_cases g : a * k ≤ 1099511627776
      · exact g
      · have hk' : 0 < k := by
          by_cases h0 : k = 0
          · subst h0; omega
          · omega
        rw [(mul_over ht hk' (by omega)).1] at h
        omega
    have hn : 0 ≤ a * k := Int.mul_nonneg ht.1 hk
    have e : a * (k + 1) = a * k + a := by rw [Int.mul_add, Int.mul_one]
    rw [(mul_fits ht hk hf).2]
    by_cases g : a * k + a ≤ 1099511627776
    · rw [(add_fits ⟨hn, hf⟩ ht g).1, (add_fits ⟨hn, hf⟩ ht g).2, (mul_fits ht (n := k + 1) (by omega) (by omega)).1, (mul_fits ht (n := k + 1) (by omega) (by omega)).2, e]
      exact ⟨rfl, rfl⟩
    · rw [(add_over ⟨hn, hf⟩ ht (by omega)).1, (add_over ⟨hn, hf⟩ ht (by omega)).2, (mul_over ht (n := k + 1) (by omega) (by omega)).1, (mul_over ht (n := k + 1) (by omega) (by omega)).2]
      exact ⟨rfl, rfl⟩
theorem mul_mono {a k n : Int} (ha : isT a = true) (hk : 0 ≤ k) (hn : k ≤ n) (h : mulE a k ≠ 0) : mulE a k = 9 ∧ mulE a n = 9 := by
  rcases kinds a with ⟨hn, _, _⟩ | rfl | ht
  · rw [ha] at hn; cases hn
  · exfalso
    by_cases h0 : k = 0
    · subst h0; exact h (mul_zero' isT_inf).1
    · exact h (mul_inf (n := k) (by omega)).1
  · have hf : 1099511627776 < a * k := by
      by_cases g : a * k ≤ 1099511627776
      · exact absurd (mul_fits ht hk g).1 h
      · omega
    have hk' : 0 < k := by
      by_cases h0 : k = 0
      · subst h0; omega
      · omega
    have := Int.mul_le_mul_of_nonneg_left hn ht.1
    exact ⟨(mul_over ht hk' hf).1, (mul_over ht (by omega) (by omega)).1⟩
theorem at_mul {a n : Int} (ht : 0 ≤ a ∧ a ≤ 1099511627776) (hn : 0 ≤ n) (h0 : a = 0 → n ≤ 0) : atE 0 a n = mulE a n ∧ atV 0 a n = mulV a n := by
  by_cases g : a * n ≤ 1099511627776
  · rw [(at_ok (f := 0) (chk_ok (by omega)) (chk_ok ht) hn h0 (by omega)).1, (at_ok (f := 0) (chk_ok (by omega)) (chk_ok ht) hn h0 (by omega)).2, (mul_fits ht hn g).1, (mul_fits ht hn g).2]
    exact ⟨rfl, by omega⟩
  · have hp : 0 < n := by
      by_cases h : n = 0
      · subst h; omega
      · omega
    rw [(at_over (f := 0) (e := a) (i := n) (by omega)).1, (at_over (f := 0) (e := a) (i := n) (by omega)).2, (mul_over ht hp (by omega)).1, (mul_over ht hp (by omega)).2]
    exact ⟨rfl, rfl⟩
end Go.Proofs.YteonefgbdphmiaaGreatDoor.Tk
/- Texts of ticks: plain functions on bytes, and their laws (nothing of the program). -/
namespace Go.Proofs.YteonefgbdphmiaaGreatDoor.Tk
/-- The byte of a digit. -/
def isDig (c : UInt8) : Bool := decide (48 ≤ (c.toNat : Int) ∧ (c.toNat : Int) ≤ 57)
def infB : List UInt8 := [105, 110, 102]
/-- What digits spell, behind acc. -/
def val (acc : Nat) (l : List UInt8) : Nat := l.foldl (fun a c => a * 10 + (c.toNat - 48)) acc
/-- A text that is no numeral of a tick's form. -/
def badNum (l : List UInt8) : Bool := l.isEmpty || (decide (1 < l.length) && l.head? == some 48) || !l.all isDig
def parseE (l : List UInt8) : Int := if l = infB then 0 else if badNum l = true then 7 else if val 0 l ≤ 1099511627776 then 0 else 9
def parseV (l : List UInt8) : Int := if l = infB then 4611686018427387904 else if parseE l = 0 then val 0 l else 0
/-- A tick's text. -/
def textB (t : Int) : List UInt8 := if t = 4611686018427387904 then infB else if isT t = true then Lib.itoa t else []

theorem val_cons (acc : Nat) (c : UInt8) (r : List UInt8) : val acc (c :: r) = val (acc * 10 + (c.toNat - 48)) r := by unfold val; rw [List.foldl_cons]
theorem val_nil (acc : Nat) : val acc [] = acc := by unfold val; rw [List.foldl_nil]
theorem val_ge (l : List UInt8) (acc : Nat) : acc ≤ val acc l := by
  induction l generalizing acc with
  | nil => rw [val_nil]; omega
  | cons c r ih => rw [val_cons]; exact Nat.le_trans (by omega) (ih _)
theorem isDig_iff {c : UInt8} : isDig c = true ↔ 48 ≤ c.toNat ∧ c.toNat ≤ 57 := by
  unfold isDig; rw [decide_eq_true_eq]; omega
theorem parseUintM_digits {M : Nat} (hM : M < 18446744073709551616) (l : List UInt8) : ∀ (acc : Nat), l.all isDig = true → acc ≤ M → Lib.parseUintM M acc l = if val acc l ≤ M then .ok (val acc l) else .range := by
  induction l with
  | nil =>
    intro acc _ ha
    rw [val_nil, if_pos ha]
    simp only [Lib.parseUintM]
  | cons c r ih =>
    intro acc hd ha
    rw [List.all_cons, Bool.and_eq_true] at hd
    have hc := isDig_iff.1 hd.1
    simp only [Lib.parseUintM]
    rw [if_pos hc, val_cons]
    have hge := val_ge r (acc * 10 + (c.toNat - 48))
    by_cases h1 : 1844674407370955162 ≤ acc
    · rw [if_pos h1, if_neg (by omega)]
    · rw [if_neg h1]
      by_cases h2 : M < acc * 10 + (c.toNat - 48)
      · rw [if_pos h2, if_neg (by omega)]
      · rw [if_neg h2]
        exact ih _ hd.2 (by omega)
/-- What the library's ParseInt says of digits. -/
theorem parseIntB_digits {l : List UInt8} (hne : l ≠ []) (hd : l.all isDig = true) : Lib.parseIntB 64 l = if val 0 l < 9223372036854775808 then .ok (val 0 l : Int) else .range := by
  cases l with
  | nil => exact absurd rfl hne
  | cons c r =>
    have hd' := hd
    rw [List.all_cons, Bool.and_eq_true] at hd'
    have hc := isDig_iff.1 hd'.1
    have h43 : ¬ (c.toNat = 43 ∨ c.toNat = 45) := by omega
    have h45 : ¬ c.toNat = 45 := by omega
    have hu : Lib.parseUintB 64 (c :: r) = if val 0 (c :: r) ≤ 18446744073709551615 then .ok (val 0 (c :: r)) else .range := by
      unfold Lib.parseUintB
      rw [if_neg (by simp)]
      exact parseUintM_digits (M := 2 ^ 64 - 1) (by omega) (c :: r) 0 hd (by omega)
    unfold Lib.parseIntB
    simp only [if_neg h43, hu]
    by_cases h1 : val 0 (c :: r) ≤ 18446744073709551615
    · simp only [if_pos h1]
      by_cases h2 : val 0 (c :: r) < 9223372036854775808
      · rw [if_neg (by omega), if_neg (by omega), if_neg h45, if_pos h2]
      · rw [if_pos (by omega), if_neg h2]
    · simp only [if_neg h1]
      rw [if_neg (by omega)]
end Go.Proofs.YteonefgbdphmiaaGreatDoor.Tk
/- Texts of ticks: the numeral told and read is the number; the numeral read and told is the numeral (nothing of the program). -/
namespace Go.Proofs.YteonefgbdphmiaaGreatDoor.Tk
open Go.Lib (decDigits)

theorem val_snoc (l : List UInt8) (c : UInt8) (acc : Nat) : val acc (l ++ [c]) = val acc l * 10 + (c.toNat - 48) := by
  unfold val; rw [List.foldl_append, List.foldl_cons, List.foldl_nil]
theorem dig_of {n : Nat} (h : n < 10) : (UInt8.ofNat (48 + n)).toNat = 48 + n := by
  rw [UInt8.toNat_ofNat']; omega
theorem dig_back {c : UInt8} (h : 48 ≤ c.toNat) : UInt8.ofNat (48 + (c.toNat - 48)) = c := by
  rw [show 48 + (c.toNat - 48) = c.toNat by omega]
  exact UInt8.ofNat_toNat
theorem dec_one {u : Nat} (h : u < 10) : decDigits u = [UInt8.ofNat (48 + u)] := by rw [decDigits, dif_pos h]
theorem dec_more {u : Nat} (h : ¬ u < 10) : decDigits u = decDigits (u / 10) ++ [UInt8.ofNat (48 + u % 10)] := by rw [decDigits, dif_neg h]

theorem dec_val (u : Nat) : val 0 (decDigits u) = u := by
  induction u using Nat.strongRecOn with
  | ind u ih =>
    by_cases h : u < 10
    · rw [dec_one h, val_cons, val_nil, dig_of h]; omega
    · rw [dec_more h, val_snoc, ih (u / 10) (by omega), dig_of (by omega)]; omega
theorem isDig_of {n : Nat} (h : n < 10) : isDig (UInt8.ofNat (48 + n)) = true := by
  rw [isDig_iff, dig_of h]; omega
theorem dec_digs (u : Nat) : (decDigits u).all isDig = true := by
  induction u using Nat.strongRecOn with
  | ind u ih =>
    by_cases h : u < 10
    · rw [dec_one h, List.all_cons, isDig_of h, List.all_nil]; rfl
    · rw [dec_more h, List.all_append, ih (u / 10) (by omega), List.all_cons, isDig_of (by omega), List.all_nil]; rfl
theorem dec_ne (u : Nat) : decDigits u ≠ [] := by
  by_cases h : u < 10
  · rw [dec_one h]; simp
  · rw [dec_more h]; simp
theorem dec_head (u : Nat) (h0 : 0 < u) : (decDigits u).head? ≠ some 48 := by
  induction u using Nat.strongRecOn with
  | ind u ih =>
    by_cases h : u < 10
    · rw [dec_one h]
      intro e
      injection e with e
      have := congrArg UInt8.toNat e
      rw [dig_of h] at this
      have h48 : (48 : UInt8).toNat = 48 := rfl
      omega
    · rw [dec_more h]
      have h1 := ih (u / 10) (by omega) (by omega)
      cases hd : decDigits (u / 10) with
      | nil => exact absurd hd (dec_ne _)
      | cons c r => rw [hd] at h1; exact h1
theorem dec_len (u : Nat) (h : u < 10) : (decDigits u).length = 1 := by rw [dec_one h]; rfl
theorem good_dec (u : Nat) : badNum (decDigits u) = false := by
  unfold badNum
  rw [dec_digs, List.isEmpty_eq_false_iff.2 (dec_ne u)]
  by_cases h0 : 0 < u
  · rw [beq_eq_false_iff_ne.2 (dec_head u h0)]; simp
  · rw [dec_len u (by omega)]; simp
theorem inf_not : infB.all isDig = false := by decide
theorem dec_not_inf (u : Nat) : decDigits u ≠ infB := by
  intro e
  have h := dec_digs u
  rw [e, inf_not] at h
  exact absurd h (by decide)

theorem val_pos {l : List UInt8} (hne : l ≠ []) (hd : l.all isDig = true) (hz : l.head? ≠ some 48) : 0 < val 0 l := by
  cases l with
  | nil => exact absurd rfl hne
  | cons c r =>
    rw [List.all_cons, Bool.and_eq_true] at hd
    have hc := isDig_iff.1 hd.1
    rw [val_cons]
    have h48 : c.toNat ≠ 48 := by
      intro e
      apply hz
      have : c = 48 := UInt8.toNat_inj.1 e
      rw [this]; rfl
    exact Nat.lt_of_lt_of_le (by omega) (val_ge r _)

theorem snoc_cases (l : List UInt8) (hne : l ≠ []) : ∃ r c, l = r ++ [c] := ⟨l.dropLast, l.getLast hne, (List.dropLast_concat_getLast hne).symm⟩

/-- A numeral's number tells the numeral. -/
theorem dec_back : ∀ (n : Nat) (l : List UInt8), l.length = n → l ≠ [] → l.all isDig = true → (1 < l.length → l.head? ≠ some 48) → decDigits (val 0 l) = l := by
  intro n
  induction n with
  | zero => intro l h hne; exact absurd (List.length_eq_zero_iff.1 h) hne
  | succ n ih =>
    intro l hl hne hd hz
    obtain ⟨r, c, rfl⟩ := snoc_cases l hne
    rw [List.all_append, Bool.and_eq_true, List.all_cons, Bool.and_eq_true] at hd
    have hc := isDig_iff.1 hd.2.1
    rw [val_snoc]
    by_cases hr : r = []
    · subst hr
      rw [val_nil, dec_one (by omega), show 48 + (0 * 10 + (c.toNat - 48)) = 48 + (c.toNat - 48) by omega, dig_back hc.1]; rfl
    · have hlr : 0 < r.length := List.length_pos_iff.2 hr
      have hh : (r ++ [c]).head? = r.head? := by
        cases r with
        | nil => exact absurd rfl hr
        | cons => rfl
      rw [hh, List.length_append] at hz
      have hz' := hz (by rw [List.length_singleton]; omega)
      have hp := val_pos hr hd.1 hz'
      rw [dec_more (by omega), show (val 0 r * 10 + (c.toNat - 48)) / 10 = val 0 r by omega, show (val 0 r * 10 + (c.toNat - 48)) % 10 = c.toNat - 48 by omega, dig_back hc.1,
        ih r (by rw [List.length_append, List.length_singleton] at hl; omega) hr hd.1 (fun _ => hz')]

theorem inf_isT : isT 4611686018427387904 = true := isT_inf
/-- A tick's text is read as the tick. -/
theorem parse_text {t : Int} (h : isT t = true) : parseE (textB t) = 0 ∧ parseV (textB t) = t := by
  rcases kinds t with ⟨h1, -, -⟩ | rfl | ⟨t1, t2⟩
  · rw [h] at h1; exact absurd h1 (by decide)
  · have hr : textB 4611686018427387904 = infB := by unfold textB; rw [if_pos rfl]
    rw [hr]
    constructor
    · unfold parseE; rw [if_pos rfl]
    · unfold parseV; rw [if_pos rfl]
  · obtain ⟨u, rfl⟩ := Int.eq_ofNat_of_zero_le t1
    have hr : textB (u : Int) = decDigits u := by unfold textB; rw [if_neg (by omega), if_pos h, Lib.itoa_nonneg]
    rw [hr]
    have hE : parseE (decDigits u) = 0 := by
      unfold parseE; rw [if_neg (dec_not_inf u), if_neg (by rw [good_dec]; decide), dec_val, if_pos (by omega)]
    refine ⟨hE, ?_⟩
    unfold parseV; rw [if_neg (dec_not_inf u), if_pos hE, dec_val]
theorem text_no {t : Int} (h : isT t = false) : textB t = [] := by
  unfold textB
  rw [if_neg (by intro e; rw [e, isT_inf] at h; exact absurd h (by decide)), if_neg (by rw [h]; decide)]
theorem parse_nil : parseE [] = 7 ∧ parseV [] = 0 := by decide
/-- What is read is a tick, and its text is what was read; else nothing is told. -/
theorem text_parse (l : List UInt8) : (parseE l ≠ 0 ∧ parseV l = 0) ∨ (parseE l = 0 ∧ isT (parseV l) = true ∧ textB (parseV l) = l) := by
  by_cases h1 : l = infB
  · subst h1
    have hE : parseE infB = 0 := by unfold parseE; rw [if_pos rfl]
    have hV : parseV infB = 4611686018427387904 := by unfold parseV; rw [if_pos rfl]
    rw [hE, hV]
    exact .inr ⟨rfl, isT_inf, by unfold textB; rw [if_pos rfl]⟩
  · by_cases h0 : parseE l = 0
    · right
      have hV : parseV l = val 0 l := by unfold parseV; rw [if_neg h1, if_pos h0]
      have hb : badNum l = false := by
        rw [← Bool.not_eq_true]
        intro hb
        unfold parseE at h0
        rw [if_neg h1, if_pos hb] at h0
        exact absurd h0 (by decide)
      have hv : val 0 l ≤ 1099511627776 := by
        unfold parseE at h0
        rw [if_neg h1, if_neg (by rw [hb]; decide)] at h0
        by_cases h : val 0 l ≤ 1099511627776
        · exact h
        · rw [if_neg h] at h0; exact absurd h0 (by decide)
      have hT : isT (val 0 l : Int) = true := isT_tick (by omega)
      rw [hV]
      refine ⟨h0, hT, ?_⟩
      unfold textB
      rw [if_neg (by omega), if_pos hT, Lib.itoa_nonneg]
      unfold badNum at hb
      rw [Bool.or_eq_false_iff, Bool.or_eq_false_iff] at hb
      obtain ⟨⟨b1, b2⟩, b3⟩ := hb
      refine dec_back _ l rfl (List.isEmpty_eq_false_iff.1 b1) (by simpa using b3) fun hl e => ?_
      rw [e, decide_eq_true hl] at b2
      exact absurd b2 (by decide)
    · left
      exact ⟨h0, by unfold parseV; rw [if_neg h1, if_neg h0]⟩
end Go.Proofs.YteonefgbdphmiaaGreatDoor.Tk
