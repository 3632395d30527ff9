/- Plain functions for the ticks of layer 1 (nothing of the program). -/
import Derived.WalkKit
namespace Go.Proofs.YtmihinhbcncbfaaGreatDoor.Tk
def chk (t : Int) : Int := if 0 ≤ t ∧ t ≤ 1099511627776 then 0 else 9
def isT (t : Int) : Bool := decide (0 ≤ t ∧ t ≤ 1099511627776 ∨ t = 4611686018427387904)
def addE (a b : Int) : Int := if isT a = true ∧ isT b = true then (if a = 4611686018427387904 ∨ b = 4611686018427387904 then 0 else if a + b ≤ 1099511627776 then 0 else 9) else 9
def addV (a b : Int) : Int := if addE a b = 0 then (if a = 4611686018427387904 ∨ b = 4611686018427387904 then 4611686018427387904 else a + b) else 0
def subE (a b : Int) : Int := if isT a = true ∧ isT b = true ∧ b ≠ 4611686018427387904 ∧ b ≤ a then 0 else 9
def subV (a b : Int) : Int := if subE a b = 0 then (if a = 4611686018427387904 then 4611686018427387904 else a - b) else 0
def mulE (a n : Int) : Int := if isT a = true ∧ 0 ≤ n then (if n = 0 ∨ a = 4611686018427387904 then 0 else if a * n ≤ 1099511627776 then 0 else 9) else 9
def mulV (a n : Int) : Int := if mulE a n = 0 then (if n = 0 then 0 else if a = 4611686018427387904 then 4611686018427387904 else a * n) else 0
def atE (f e i : Int) : Int := if chk f = 0 ∧ chk e = 0 ∧ 0 ≤ i ∧ (e = 0 → i ≤ 0) then (if f + e * i ≤ 1099511627776 then 0 else 9) else 9
def atV (f e i : Int) : Int := if atE f e i = 0 then f + e * i else 0
def cnt (f e u : Int) : Int := if chk f = 0 ∧ chk e = 0 ∧ chk u = 0 ∧ f ≤ u then (if e = 0 then 1 else (u - f) / e + 1) else 0
theorem chk_ok {t : Int} (h : 0 ≤ t ∧ t ≤ 1099511627776) : chk t = 0 := by simp [chk, h]
theorem chk_no {t : Int} (h : ¬ (0 ≤ t ∧ t ≤ 1099511627776)) : chk t = 9 := by simp only [chk, if_neg h]
theorem chk_cases (t : Int) : (0 ≤ t ∧ t ≤ 1099511627776 ∧ chk t = 0) ∨ (¬ (0 ≤ t ∧ t ≤ 1099511627776) ∧ chk t = 9) := by
  unfold chk; split <;> simp_all
theorem isT_tick {t : Int} (h : 0 ≤ t ∧ t ≤ 1099511627776) : isT t = true := by simp [isT, h]
theorem isT_inf : isT 4611686018427387904 = true := by simp [isT]
theorem isT_no {t : Int} (h : ¬ (0 ≤ t ∧ t ≤ 1099511627776)) (g : t ≠ 4611686018427387904) : isT t = false := by
  unfold isT; rw [decide_eq_false_iff_not]; rintro (h' | h') <;> contradiction
/-- Every number is no tick, the tick that never comes, or a tick that comes. -/
theorem kinds (t : Int) : (isT t = false ∧ chk t = 9 ∧ (t == 4611686018427387904) = false) ∨ (t = 4611686018427387904) ∨ (0 ≤ t ∧ t ≤ 1099511627776) := by
  by_cases h : 0 ≤ t ∧ t ≤ 1099511627776
  · exact .inr (.inr h)
  · by_cases g : t = 4611686018427387904
    · exact .inr (.inl g)
    · exact .inl ⟨isT_no h g, chk_no h, beq_eq_false_iff_ne.2 g⟩
theorem add_bad {a b : Int} (h : isT a = false ∨ isT b = false) : addE a b = 9 ∧ addV a b = 0 := by
  have e : addE a b = 9 := by unfold addE; rw [if_neg (by rcases h with h | h <;> simp [h])]
  exact ⟨e, by unfold addV; rw [e]; rfl⟩
theorem add_inf {a b : Int} (ha : isT a = true) (hb : isT b = true) (h : a = 4611686018427387904 ∨ b = 4611686018427387904) : addE a b = 0 ∧ addV a b = 4611686018427387904 := by
  have e : addE a b = 0 := by unfold addE; rw [if_pos ⟨ha, hb⟩, if_pos h]
  exact ⟨e, by unfold addV; rw [if_pos e, if_pos h]⟩
theorem add_fits {a b : Int} (ha : 0 ≤ a ∧ a ≤ 1099511627776) (hb : 0 ≤ b ∧ b ≤ 1099511627776) (h : a + b ≤ 1099511627776) : addE a b = 0 ∧ addV a b = a + b := by
  have e : addE a b = 0 := by unfold addE; rw [if_pos ⟨isT_tick ha, isT_tick hb⟩, if_neg (by omega), if_pos h]
  exact ⟨e, by unfold addV; rw [if_pos e, if_neg (by omega)]⟩
theorem add_over {a b : Int} (ha : 0 ≤ a ∧ a ≤ 1099511627776) (hb : 0 ≤ b ∧ b ≤ 1099511627776) (h : 1099511627776 < a + b) : addE a b = 9 ∧ addV a b = 0 := by
  have e : addE a b = 9 := by unfold addE; rw [if_pos ⟨isT_tick ha, isT_tick hb⟩, if_neg (by omega), if_neg (by omega)]
  exact ⟨e, by unfold addV; rw [e]; rfl⟩
theorem sub_no {a b : Int} (h : isT a = false ∨ isT b = false ∨ b = 4611686018427387904 ∨ a < b) : subE a b = 9 ∧ subV a b = 0 := by
  have e : subE a b = 9 := by unfold subE; rw [if_neg (by rintro ⟨h1, h2, h3, h4⟩; rcases h with h | h | h | h; (· simp [h1] at h); (· simp [h2] at h); (· exact h3 h); (· omega))]
  exact ⟨e, by unfold subV; rw [e]; rfl⟩
theorem sub_inf {b : Int} (hb : 0 ≤ b ∧ b ≤ 1099511627776) : subE 4611686018427387904 b = 0 ∧ subV 4611686018427387904 b = 4611686018427387904 := by
  have e : subE 4611686018427387904 b = 0 := by unfold subE; rw [if_pos ⟨isT_inf, isT_tick hb, by omega, by omega⟩]
  exact ⟨e, by unfold subV; rw [if_pos e, if_pos rfl]⟩
theorem sub_fits {a b : Int} (ha : 0 ≤ a ∧ a ≤ 1099511627776) (hb : 0 ≤ b ∧ b ≤ 1099511627776) (h : b ≤ a) : subE a b = 0 ∧ subV a b = a - b := by
  have e : subE a b = 0 := by unfold subE; rw [if_pos ⟨isT_tick ha, isT_tick hb, by omega, h⟩]
  exact ⟨e, by unfold subV; rw [if_pos e, if_neg (by omega)]⟩
theorem mul_no {a n : Int} (h : isT a = false ∨ n < 0) : mulE a n = 9 ∧ mulV a n = 0 := by
  have e : mulE a n = 9 := by unfold mulE; rw [if_neg (by rintro ⟨h1, h2⟩; rcases h with h | h; (· simp [h1] at h); (· omega))]
  exact ⟨e, by unfold mulV; rw [e]; rfl⟩
theorem mul_zero' {a : Int} (ha : isT a = true) : mulE a 0 = 0 ∧ mulV a 0 = 0 := by
  have e : mulE a 0 = 0 := by unfold mulE; rw [if_pos ⟨ha, by omega⟩, if_pos (.inl rfl)]
  exact ⟨e, by unfold mulV; rw [if_pos e, if_pos rfl]⟩
theorem mul_inf {n : Int} (h : 0 < n) : mulE 4611686018427387904 n = 0 ∧ mulV 4611686018427387904 n = 4611686018427387904 := by
  have e : mulE 4611686018427387904 n = 0 := by unfold mulE; rw [if_pos ⟨isT_inf, by omega⟩, if_pos (.inr rfl)]
  exact ⟨e, by unfold mulV; rw [if_pos e, if_neg (by omega), if_pos rfl]⟩
theorem mul_fits {a n : Int} (ha : 0 ≤ a ∧ a ≤ 1099511627776) (hn : 0 ≤ n) (h : a * n ≤ 1099511627776) : mulE a n = 0 ∧ mulV a n = a * n := by
  have e : mulE a n = 0 := by
    unfold mulE; rw [if_pos ⟨isT_tick ha, hn⟩]
    by_cases g : n = 0 ∨ a = 4611686018427387904
    · rw [if_pos g]
    · rw [if_neg g, if_pos h]
  refine ⟨e, ?_⟩
  unfold mulV; rw [if_pos e]
  by_cases g : n = 0
  · rw [if_pos g, g, Int.mul_zero]
  · rw [if_neg g, if_neg (by omega)]
theorem mul_over {a n : Int} (ha : 0 ≤ a ∧ a ≤ 1099511627776) (hn : 0 < n) (h : 1099511627776 < a * n) : mulE a n = 9 ∧ mulV a n = 0 := by
  have e : mulE a n = 9 := by unfold mulE; rw [if_pos ⟨isT_tick ha, by omega⟩, if_neg (by omega), if_neg (by omega)]
  exact ⟨e, by unfold mulV; rw [e]; rfl⟩
/-- The program's test for a product that is too great. -/
theorem mul_test {a n : Int} (ha : 0 < a) : (1099511627776 / a < n) ↔ 1099511627776 < a * n := by
  rw [Int.ediv_lt_iff_lt_mul ha, Int.mul_comm]
theorem at_no {f e i : Int} (h : chk f = 9 ∨ chk e = 9 ∨ i < 0 ∨ (e = 0 ∧ 0 < i)) : atE f e i = 9 ∧ atV f e i = 0 := by
  have x : atE f e i = 9 := by
    unfold atE; rw [if_neg]; rintro ⟨h1, h2, h3, h4⟩
    rcases h with h | h | h | ⟨h, g⟩
    · omega
    · omega
    · omega
    · have := h4 h; omega
  exact ⟨x, by unfold atV; rw [x]; rfl⟩
theorem at_ok {f e i : Int} (h1 : chk f = 0) (h2 : chk e = 0) (h3 : 0 ≤ i) (h4 : e = 0 → i ≤ 0) (h : f + e * i ≤ 1099511627776) : atE f e i = 0 ∧ atV f e i = f + e * i := by
  have x : atE f e i = 0 := by unfold atE; rw [if_pos ⟨h1, h2, h3, h4⟩, if_pos h]
  exact ⟨x, by unfold atV; rw [if_pos x]⟩
theorem at_over {f e i : Int} (h : 1099511627776 < f + e * i) : atE f e i = 9 ∧ atV f e i = 0 := by
  have x : atE f e i = 9 := by
    unfold atE; split
    · rw [if_neg (by omega)]
    · rfl
  exact ⟨x, by unfold atV; rw [x]; rfl⟩
theorem cnt_no {f e u : Int} (h : chk f = 9 ∨ chk e = 9 ∨ chk u = 9 ∨ u < f) : cnt f e u = 0 := by
  unfold cnt; rw [if_neg]; rintro ⟨h1, h2, h3, h4⟩; omega
theorem cnt_one {f u : Int} (h1 : chk f = 0) (h2 : chk 0 = 0) (h3 : chk u = 0) (h4 : f ≤ u) : cnt f 0 u = 1 := by
  unfold cnt; rw [if_pos ⟨h1, h2, h3, h4⟩, if_pos rfl]
theorem cnt_of {f e u : Int} (h1 : chk f = 0) (h2 : chk e = 0) (h3 : chk u = 0) (h4 : f ≤ u) (h5 : e ≠ 0) : cnt f e u = (u - f) / e + 1 := by
  unfold cnt; rw [if_pos ⟨h1, h2, h3, h4⟩, if_neg h5]
theorem cnt_nonneg {f e u : Int} : 0 ≤ cnt f e u := by
  unfold cnt
  split
  · rename_i h
    split
    · omega
    · have h2 : 0 ≤ e := by
        have := h.2.1; unfold chk at this; split at this
        · omega
        · omega
      have := Int.ediv_nonneg (a := u - f) (b := e) (by omega) h2
      omega
  · omega
theorem cnt_le {f e u i : Int} (hf : chk f = 0) (he : chk e = 0) (hu : chk u = 0) (h : 0 < e) (hi : 0 ≤ i) : cnt f e u ≤ i ↔ u < f + e * i := by
  by_cases g : f ≤ u
  · rw [cnt_of hf he hu g (by omega)]
    have : (u - f) / e < i ↔ u - f < i * e := Int.ediv_lt_iff_lt_mul h
    rw [Int.mul_comm] at this
    omega
  · rw [cnt_no (.inr (.inr (.inr (by omega))))]
    have := Int.mul_nonneg (Int.le_of_lt h) hi
    omega
theorem mul_step {a k : Int} (ha : isT a = true) (hk : 0 ≤ k) (h : mulE a k = 0) : addE (mulV a k) a = mulE a (k + 1) ∧ addV (mulV a k) a = mulV a (k + 1) := by
  rcases kinds a with ⟨hn, _, _⟩ | rfl | ht
  · rw [ha] at hn; cases hn
  · rw [(mul_inf (n := k + 1) (by omega)).1, (mul_inf (n := k + 1) (by omega)).2]
    by_cases h0 : k = 0
    · subst h0
      rw [(mul_zero' isT_inf).2]
      exact add_inf (isT_tick (by omega)) isT_inf (.inr rfl)
    · rw [(mul_inf (n := k) (by omega)).2]
      exact add_inf isT_inf isT_inf (.inl rfl)
  · have hf : a * k ≤ 1099511627776 := by
      by_cases g : a * k ≤ 1099511627776
      · exact g
      · have hk' : 0 < k := by
          by_cases h0 : k = 0
          · subst h0; omega
          · omega
        rw [(mul_over ht hk' (by omega)).1] at h
        omega
    have hn : 0 ≤ a * k := Int.mul_nonneg ht.1 hk
    have e : a * (k + 1) = a * k + a := by rw [Int.mul_add, Int.mul_one]
    rw [(mul_fits ht hk hf).2]
    by_cases g : a * k + a ≤ 1099511627776
    · rw [(add_fits ⟨hn, hf⟩ ht g).1, (add_fits ⟨hn, hf⟩ ht g).2, (mul_fits ht (n := k + 1) (by omega) (by omega)).1, (mul_fits ht (n := k + 1) (by omega) (by omega)).2, e]
      exact ⟨rfl, rfl⟩
    · rw [(add_over ⟨hn, hf⟩ ht (by omega)).1, (add_over ⟨hn, hf⟩ ht (by omega)).2, (mul_over ht (n := k + 1) (by omega) (by omega)).1, (mul_over ht (n := k + 1) (by omega) (by omega)).2]
      exact ⟨rfl, rfl⟩
theorem mul_mono {a k n : Int} (ha : isT a = true) (hk : 0 ≤ k) (hn : k ≤ n) (h : mulE a k ≠ 0) : mulE a k = 9 ∧ mulE a n = 9 := by
  rcases kinds a with ⟨hn, _, _⟩ | rfl | ht
  · rw [ha] at hn; cases hn
  · exfalso
    by_cases h0 : k = 0
    · subst h0; exact h (mul_zero' isT_inf).1
    · exact h (mul_inf (n := k) (by omega)).1
  · have hf : 1099511627776 < a * k := by
      by_cases g : a * k ≤ 1099511627776
      · exact absurd (mul_fits ht hk g).1 h
      · omega
    have hk' : 0 < k := by
      by_cases h0 : k = 0
      · subst h0; omega
      · omega
    have := Int.mul_le_mul_of_nonneg_left hn ht.1
    exact ⟨(mul_over ht hk' hf).1, (mul_over ht (by omega) (by omega)).1⟩
theorem at_mul {a n : Int} (ht : 0 ≤ a ∧ a ≤ 1099511627776) (hn : 0 ≤ n) (h0 : a = 0 → n ≤ 0) : atE 0 a n = mulE a n ∧ atV 0 a n = mulV a n := by
  by_cases g : a * n ≤ 1099511627776
  · rw [(at_ok (f := 0) (chk_ok (by omega)) (chk_ok ht) hn h0 (by omega)).1, (at_ok (f := 0) (chk_ok (by omega)) (chk_ok ht) hn h0 (by omega)).2, (mul_fits ht hn g).1, (mul_fits ht hn g).2]
    exact ⟨rfl, by omega⟩
  · have hp : 0 < n := by
      by_cases h : n = 0
      · subst h; omega
      · omega
    rw [(at_over (f := 0) (e := a) (i := n) (by omega)).1, (at_over (f := 0) (e := a) (i := n) (by omega)).2, (mul_over ht hp (by omega)).1, (mul_over ht hp (by omega)).2]
    exact ⟨rfl, rfl⟩
end Go.Proofs.YtmihinhbcncbfaaGreatDoor.Tk
