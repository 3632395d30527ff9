/- Sets of small numbers as rows of bools, and as words of 64 bits: plain laws (nothing of the program). -/
namespace Go.Proofs.YtaaladekamfpnaaDoor
namespace Bs
/-- Bit k of a row; nothing beyond its end. -/
def at_ (l : List Bool) (k : Nat) : Bool := l.getD k false
theorem at_lt {l : List Bool} {k : Nat} (h : k < l.length) : at_ l k = l[k] := by unfold at_; rw [List.getD_eq_getElem?_getD, List.getElem?_eq_getElem h]; rfl
theorem at_ge {l : List Bool} {k : Nat} (h : l.length ≤ k) : at_ l k = false := by unfold at_; rw [List.getD_eq_getElem?_getD, List.getElem?_eq_none h]; rfl
theorem at_set (l : List Bool) (i : Nat) (b : Bool) (hi : i < l.length) (k : Nat) : at_ (l.set i b) k = if k = i then b else at_ l k := by
  unfold at_
  rw [List.getD_eq_getElem?_getD, List.getD_eq_getElem?_getD, List.getElem?_set]
  by_cases h : i = k
  · subst h; rw [if_pos rfl, if_pos hi, if_pos rfl]; rfl
  · rw [if_neg h, if_neg (fun e => h e.symm)]
theorem ext {l m : List Bool} (hl : l.length = m.length) (h : ∀ k, at_ l k = at_ m k) : l = m := by
  apply List.ext_getElem hl
  intro i h1 h2
  rw [← at_lt h1, ← at_lt h2, h i]
/-- The words ws hold the bits of l. -/
def Wd (l : List Bool) (ws : List Nat) : Prop := ws.length = (l.length + 63) / 64 ∧ ∀ k (h : k < ws.length), ws[k] < 18446744073709551616 ∧ ∀ j, j < 64 → ws[k].testBit j = at_ l (64 * k + j)
theorem Wd.lt {l : List Bool} {ws : List Nat} (h : Wd l ws) {k : Nat} (hk : k < ws.length) : ws[k] < 18446744073709551616 := (h.2 k hk).1
theorem Wd.idx {l : List Bool} {ws : List Nat} (h : Wd l ws) {i : Nat} (hi : i < l.length) : i / 64 < ws.length := by rw [h.1]; omega
theorem bit_high {x j : Nat} (h : x < 18446744073709551616) (hj : 64 ≤ j) : x.testBit j = false :=
  Nat.testBit_lt_two_pow (Nat.lt_of_lt_of_le (show x < 2 ^ 64 by simpa using h) (Nat.pow_le_pow_right (by decide) hj))
theorem Wd.new (n : Nat) : Wd (List.replicate n false) (List.replicate ((n + 63) / 64) 0) := by
  refine ⟨by simp, fun k hk => ?_⟩
  rw [List.getElem_replicate]
  refine ⟨by decide, fun j _ => ?_⟩
  rw [Nat.zero_testBit]
  unfold at_
  rw [List.getD_eq_getElem?_getD, List.getElem?_replicate]
  split <;> rfl
theorem Wd.has {l : List Bool} {ws : List Nat} (h : Wd l ws) {i : Nat} (hi : i < l.length) : (decide (ws[i / 64]'(h.idx hi) / 2 ^ (i % 64) % 2 = 1)) = l[i] := by
  have := (h.2 (i / 64) (h.idx hi)).2 (i % 64) (Nat.mod_lt _ (by decide))
  rw [Nat.testBit_eq_decide_div_mod_eq, show 64 * (i / 64) + i % 64 = i from Nat.div_add_mod i 64, at_lt hi] at this
  exact this
theorem xor_lt {x i : Nat} (hx : x < 18446744073709551616) (hi : i < 64) : x ^^^ 2 ^ i < 18446744073709551616 := by
  have : x ^^^ 2 ^ i < 2 ^ 64 := Nat.xor_lt_two_pow (by simpa using hx) (Nat.pow_lt_pow_right (by decide) hi)
  simpa using this
theorem Wd.set {l : List Bool} {ws : List Nat} (h : Wd l ws) {i : Nat} (hi : i < l.length) (b : Bool) (hb : l[i] = !b) : Wd (l.set i b) (ws.set (i / 64) (ws[i / 64]'(h.idx hi) ^^^ 2 ^ (i % 64))) := by
  refine ⟨by rw [List.length_set, List.length_set]; exact h.1, fun k hk => ?_⟩
  rw [List.length_set] at hk
  rw [List.getElem_set]
  by_cases he : i / 64 = k
  · subst he
    rw [if_pos rfl]
    refine ⟨xor_lt (h.lt hk) (Nat.mod_lt _ (by decide)), fun j hj => ?_⟩
    rw [Nat.testBit_xor, (h.2 _ hk).2 j hj, at_set l i b hi, Nat.testBit_two_pow]
    by_cases hji : i % 64 = j
    · subst hji
      rw [show 64 * (i / 64) + i % 64 = i from Nat.div_add_mod i 64, if_pos rfl, at_lt hi, hb]
      simp
    · rw [if_neg (by omega), decide_eq_false hji]; simp
  · rw [if_neg he]
    refine ⟨h.lt hk, fun j hj => ?_⟩
    rw [(h.2 _ hk).2 j hj, at_set l i b hi, if_neg (by omega)]
/-- Two rows put together word by word. -/
theorem Wd.zip {l m r : List Bool} {ws us rs : List Nat} (f : Bool → Bool → Bool) (F : Nat → Nat → Nat) (hF : ∀ x y, x < 18446744073709551616 → y < 18446744073709551616 → F x y < 18446744073709551616 ∧ ∀ j, j < 64 → (F x y).testBit j = f (x.testBit j) (y.testBit j))
    (hl : Wd l ws) (hm : Wd m us) (hlm : l.length = m.length) (hr : r.length = l.length) (hrk : ∀ k, at_ r k = f (at_ l k) (at_ m k)) (hrs : rs.length = ws.length) (hrsk : ∀ k (h : k < rs.length), rs[k] = F (ws[k]'(by omega)) (us[k]'(by rw [hm.1, ← hlm, ← hl.1]; omega))) : Wd r rs := by
  refine ⟨by rw [hrs, hl.1, hr], fun k hk => ?_⟩
  have h1 := hl.2 k (by omega)
  have h2 := hm.2 k (by rw [hm.1, ← hlm, ← hl.1]; omega)
  have h3 := hF _ _ h1.1 h2.1
  rw [hrsk k hk]
  refine ⟨h3.1, fun j hj => ?_⟩
  rw [h3.2 j hj, h1.2 j hj, h2.2 j hj, hrk]
theorem or_ok (x y : Nat) (hx : x < 18446744073709551616) (hy : y < 18446744073709551616) : (x ||| y) < 18446744073709551616 ∧ ∀ j, j < 64 → (x ||| y).testBit j = (x.testBit j || y.testBit j) := by
  have : x ||| y < 2 ^ 64 := Nat.or_lt_two_pow (by simpa using hx) (by simpa using hy)
  exact ⟨by simpa using this, fun _ _ => Nat.testBit_or _ _ _⟩
theorem and_ok (x y : Nat) (hx : x < 18446744073709551616) (_ : y < 18446744073709551616) : (x &&& y) < 18446744073709551616 ∧ ∀ j, j < 64 → (x &&& y).testBit j = (x.testBit j && y.testBit j) :=
  ⟨Nat.lt_of_le_of_lt Nat.and_le_left hx, fun _ _ => Nat.testBit_and _ _ _⟩
theorem minus_ok (x y : Nat) (hx : x < 18446744073709551616) (hy : y < 18446744073709551616) : (x &&& (18446744073709551615 - y)) < 18446744073709551616 ∧ ∀ j, j < 64 → (x &&& (18446744073709551615 - y)).testBit j = (x.testBit j && !y.testBit j) := by
  refine ⟨Nat.lt_of_le_of_lt Nat.and_le_left hx, fun j hj => ?_⟩
  have h := Nat.testBit_two_pow_sub_succ (x := y) (n := 64) (by simpa using hy) j
  rw [show 2 ^ 64 - (y + 1) = 18446744073709551615 - y by omega] at h
  rw [Nat.testBit_and, h]
  simp [hj]
/-- The same words, the same row. -/
theorem Wd.inj {l m : List Bool} {ws : List Nat} (hl : Wd l ws) (hm : Wd m ws) (hlm : l.length = m.length) : l = m := by
  apply ext hlm
  intro k
  by_cases hk : k < l.length
  · have h1 := (hl.2 (k / 64) (hl.idx hk)).2 (k % 64) (Nat.mod_lt _ (by decide))
    have h2 := (hm.2 (k / 64) (hl.idx hk)).2 (k % 64) (Nat.mod_lt _ (by decide))
    rw [show 64 * (k / 64) + k % 64 = k from Nat.div_add_mod k 64] at h1 h2
    exact h1.symm.trans h2
  · rw [at_ge (by omega), at_ge (by omega)]
theorem Wd.uniq {l : List Bool} {ws us : List Nat} (hl : Wd l ws) (hm : Wd l us) : ws = us := by
  apply List.ext_getElem (by rw [hl.1, hm.1])
  intro k h1 h2
  apply Nat.eq_of_testBit_eq
  intro j
  by_cases hj : j < 64
  · rw [(hl.2 k h1).2 j hj, (hm.2 k h2).2 j hj]
  · rw [bit_high (hl.lt h1) (by omega), bit_high (hm.lt h2) (by omega)]
theorem Wd.eq_iff {l m : List Bool} {ws us : List Nat} (hl : Wd l ws) (hm : Wd m us) (hlm : l.length = m.length) : ws = us ↔ l = m := by
  constructor
  · rintro rfl; exact hl.inj hm hlm
  · rintro rfl; exact hl.uniq hm

/-! the next one -/
/-- r is the least one from i on that is there; -1 if none is. -/
def Nx (l : List Bool) (i : Nat) (r : Int) : Prop := (r = -1 ∧ ∀ k, i ≤ k → at_ l k = false) ∨ ∃ k : Nat, r = k ∧ i ≤ k ∧ at_ l k = true ∧ ∀ j, i ≤ j → j < k → at_ l j = false
theorem at_true {l : List Bool} {k : Nat} (h : at_ l k = true) : k < l.length := by
  rcases Nat.lt_or_ge k l.length with h1 | h1
  · exact h1
  · rw [at_ge h1] at h; cases h
theorem Nx.uniq {l : List Bool} {i : Nat} {r s : Int} (h : Nx l i r) (k : Nx l i s) : r = s := by
  rcases h with ⟨rfl, h⟩ | ⟨a, rfl, h1, h2, h3⟩
  · rcases k with ⟨rfl, _⟩ | ⟨b, rfl, k1, k2, _⟩
    · rfl
    · rw [h b k1] at k2; cases k2
  · rcases k with ⟨rfl, k⟩ | ⟨b, rfl, k1, k2, k3⟩
    · rw [k a h1] at h2; cases h2
    · rcases Nat.lt_trichotomy a b with h | h | h
      · rw [k3 a h1 h] at h2; cases h2
      · rw [h]
      · rw [h3 b k1 h] at k2; cases k2
/-- The least one from i on, d steps at most. -/
def nxt (l : List Bool) : Nat → Nat → Int
  | 0, _ => -1
  | d + 1, i => if at_ l i = true then i else nxt l d (i + 1)
theorem nxt_ok (l : List Bool) : ∀ d i, l.length ≤ i + d → Nx l i (nxt l d i)
  | 0, i, h => .inl ⟨rfl, fun k hk => at_ge (by omega)⟩
  | d + 1, i, h => by
    unfold nxt
    by_cases hb : at_ l i = true
    · rw [if_pos hb]
      exact .inr ⟨i, rfl, Nat.le_refl _, hb, fun j h1 h2 => by omega⟩
    · rw [if_neg hb]
      have hb' : at_ l i = false := by simpa using hb
      rcases nxt_ok l d (i + 1) (by omega) with ⟨h1, h2⟩ | ⟨k, h1, h2, h3, h4⟩
      · exact .inl ⟨h1, fun k hk => by
          by_cases e : k = i
          · rw [e]; exact hb'
          · exact h2 k (by omega)⟩
      · exact .inr ⟨k, h1, by omega, h3, fun j h5 h6 => by
          by_cases e : j = i
          · rw [e]; exact hb'
          · exact h4 j (by omega) h6⟩
/-- What Next tells. -/
def next (l : List Bool) (i : Nat) : Int := nxt l l.length i
theorem next_ok (l : List Bool) (i : Nat) : Nx l i (next l i) := nxt_ok l _ i (by omega)
theorem Nx.eq {l : List Bool} {i : Nat} {r : Int} (h : Nx l i r) : r = next l i := h.uniq (next_ok l i)

/-! all of them -/
/-- Those below k that are there. -/
def upTo (l : List Bool) (k : Nat) : List Int := ((List.range k).filter (at_ l)).map (fun (i : Nat) => (i : Int))
def lst (l : List Bool) : List Int := upTo l l.length
theorem upTo_succ (l : List Bool) (k : Nat) : upTo l (k + 1) = upTo l k ++ if at_ l k = true then [(k : Int)] else [] := by
  unfold upTo
  rw [List.range_succ, List.filter_append, List.map_append]
  by_cases h : at_ l k = true
  · rw [if_pos h]; simp [h]
  · rw [if_neg h]; simp [h]
theorem upTo_skip (l : List Bool) (k d : Nat) (h : ∀ j, k ≤ j → j < k + d → at_ l j = false) : upTo l (k + d) = upTo l k := by
  induction d with
  | zero => rfl
  | succ d ih =>
    rw [← Nat.add_assoc, upTo_succ, if_neg (by rw [h (k + d) (by omega) (by omega)]; decide), List.append_nil]
    exact ih fun j h1 h2 => h j h1 (by omega)
theorem upTo_next {l : List Bool} {i k : Nat} (h1 : i ≤ k) (h3 : ∀ j, i ≤ j → j < k → at_ l j = false) : upTo l k = upTo l i := by
  have := upTo_skip l i (k - i) (fun j a b => h3 j a (by omega))
  rwa [show i + (k - i) = k by omega] at this
theorem lst_end {l : List Bool} {i : Nat} (hi : i ≤ l.length) (h : ∀ k, i ≤ k → at_ l k = false) : lst l = upTo l i := upTo_next hi fun j a _ => h j a
theorem upTo_length_le (l : List Bool) (k : Nat) : (upTo l k).length ≤ k := by
  unfold upTo
  rw [List.length_map]
  exact Nat.le_trans (List.length_filter_le _ _) (by simp)

/-! how many -/
/-- How many of the first n are so. -/
def cnt (f : Nat → Bool) : Nat → Nat
  | 0 => 0
  | n + 1 => cnt f n + if f n = true then 1 else 0
theorem cnt_le (f : Nat → Bool) (n : Nat) : cnt f n ≤ n := by
  induction n with
  | zero => exact Nat.le_refl _
  | succ n ih => unfold cnt; split <;> omega
theorem cnt_congr {f g : Nat → Bool} {n : Nat} (h : ∀ k, k < n → f k = g k) : cnt f n = cnt g n := by
  induction n with
  | zero => rfl
  | succ n ih => unfold cnt; rw [ih fun k hk => h k (by omega), h n (by omega)]
theorem cnt_add (f : Nat → Bool) (n m : Nat) : cnt f (n + m) = cnt f n + cnt (fun k => f (n + k)) m := by
  induction m with
  | zero => rfl
  | succ m ih => rw [← Nat.add_assoc, cnt, ih, cnt]; omega
theorem cnt_zero {f : Nat → Bool} {n : Nat} (h : ∀ k, k < n → f k = false) : cnt f n = 0 := by
  induction n with
  | zero => rfl
  | succ n ih => unfold cnt; rw [ih fun k hk => h k (by omega), h n (by omega)]; rfl
/-- How many are there. -/
def count (l : List Bool) : Nat := cnt (at_ l) l.length
/-- How many bits of a word are 1. -/
def pop (x : Nat) : Nat := cnt x.testBit 64
def popSum (ws : List Nat) (k : Nat) : Nat := ((ws.take k).map pop).sum
theorem popSum_succ {ws : List Nat} {k : Nat} (h : k < ws.length) : popSum ws (k + 1) = popSum ws k + pop ws[k] := by
  unfold popSum
  rw [List.take_succ_eq_append_getElem h, List.map_append, List.sum_append]
  simp
theorem Wd.popSum {l : List Bool} {ws : List Nat} (h : Wd l ws) : ∀ k, k ≤ ws.length → Bs.popSum ws k = cnt (at_ l) (64 * k)
  | 0, _ => rfl
  | k + 1, hk => by
    rw [popSum_succ hk, h.popSum k (by omega), Nat.mul_add, cnt_add]
    congr 1
    exact cnt_congr fun j hj => (h.2 k hk).2 j hj
theorem Wd.count {l : List Bool} {ws : List Nat} (h : Wd l ws) : Bs.popSum ws ws.length = Bs.count l := by
  rw [h.popSum _ (Nat.le_refl _), Bs.count]
  have hle : l.length ≤ 64 * ws.length := by rw [h.1]; omega
  rw [show 64 * ws.length = l.length + (64 * ws.length - l.length) by omega, cnt_add, cnt_zero (f := fun k => at_ l (l.length + k)) fun k _ => at_ge (by omega)]
  rfl
theorem count_lst (l : List Bool) : (lst l).length = count l := by
  have : ∀ k, (upTo l k).length = cnt (at_ l) k := by
    intro k
    induction k with
    | zero => rfl
    | succ k ih => rw [upTo_succ, List.length_append, ih, cnt]; split <;> rfl
  exact this _
end Bs
end Go.Proofs.YtaaladekamfpnaaDoor
