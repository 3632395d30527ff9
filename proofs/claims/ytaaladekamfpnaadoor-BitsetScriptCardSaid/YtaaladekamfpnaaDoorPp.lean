/- Counting the bits of a word by halves: a plain law (nothing of the program). -/
import Derived.Test.YtaaladekamfpnaaDoorBs
namespace Go.Proofs.YtaaladekamfpnaaDoor
namespace Bs
/-- c in each of m bytes. -/
def rep (c : Nat) : Nat → Nat
  | 0 => 0
  | m + 1 => 256 * rep c m + c
/-- f on each of m bytes. -/
def mp (f : Nat → Nat) : Nat → Nat → Nat
  | 0, _ => 0
  | m + 1, x => 256 * mp f m (x / 256) + f (x % 256)
theorem and_split (h d M c : Nat) (hd : d < 256) (hc : c < 256) : (256 * h + d) &&& (256 * M + c) = 256 * (h &&& M) + (d &&& c) := by
  have hdc : d &&& c < 256 := Nat.lt_of_le_of_lt Nat.and_le_left hd
  apply Nat.eq_of_testBit_eq
  intro j
  have e1 := Nat.testBit_two_pow_mul_add h (b := d) (i := 8) (by simpa using hd) j
  have e2 := Nat.testBit_two_pow_mul_add M (b := c) (i := 8) (by simpa using hc) j
  have e3 := Nat.testBit_two_pow_mul_add (h &&& M) (b := d &&& c) (i := 8) (by simpa using hdc) j
  rw [show (2 : Nat) ^ 8 = 256 from rfl] at e1 e2 e3
  rw [Nat.testBit_and, e1, e2, e3]
  split <;> rw [Nat.testBit_and]
theorem mp_div (f : Nat → Nat) (hf : ∀ c, c < 256 → f c < 256) (m x : Nat) : mp f (m + 1) x / 256 = mp f m (x / 256) ∧ mp f (m + 1) x % 256 = f (x % 256) := by
  have := hf (x % 256) (Nat.mod_lt _ (by decide))
  rw [mp]
  omega
theorem mp_comp (f g : Nat → Nat) (hf : ∀ c, c < 256 → f c < 256) : ∀ m x, mp g m (mp f m x) = mp (fun c => g (f c)) m x
  | 0, _ => rfl
  | m + 1, x => by
    obtain ⟨h1, h2⟩ := mp_div f hf m x
    rw [mp, h1, h2, mp_comp f g hf m, mp]
/-- The bits of a byte that are shifted in from above are masked away. -/
theorem shift_and (s c : Nat) (hs : s = 1 ∨ s = 2) (hc : ∀ d u, d < 256 → u < 2 ^ s → (d / 2 ^ s + 2 ^ (8 - s) * u) &&& c = (d / 2 ^ s) &&& c) (hc2 : c < 256) : ∀ m x, x < 256 ^ m → (x / 2 ^ s) &&& rep c m = mp (fun d => (d / 2 ^ s) &&& c) m x
  | 0, x, h => by
    have : x = 0 := by simpa using h
    subst this
    rcases hs with rfl | rfl <;> simp [rep, mp]
  | m + 1, x, h => by
    have hx : x / 256 < 256 ^ m := Nat.div_lt_of_lt_mul (by rw [Nat.pow_succ, Nat.mul_comm] at h; exact h)
    have ih := shift_and s c hs hc hc2 m (x / 256) hx
    rw [mp, rep, ← ih]
    have hd : x % 256 < 256 := Nat.mod_lt _ (by decide)
    have hu : x / 256 % 2 ^ s < 2 ^ s := Nat.mod_lt _ (Nat.pow_pos (by decide))
    have key : x / 2 ^ s = 256 * (x / 256 / 2 ^ s) + (x % 256 / 2 ^ s + 2 ^ (8 - s) * (x / 256 % 2 ^ s)) := by
      rcases hs with rfl | rfl
      · show x / 2 = 256 * (x / 256 / 2) + (x % 256 / 2 + 128 * (x / 256 % 2)); omega
      · show x / 4 = 256 * (x / 256 / 4) + (x % 256 / 4 + 64 * (x / 256 % 4)); omega
    have hlt : x % 256 / 2 ^ s + 2 ^ (8 - s) * (x / 256 % 2 ^ s) < 256 := by
      rcases hs with rfl | rfl
      · show x % 256 / 2 + 128 * (x / 256 % 2) < 256; omega
      · show x % 256 / 4 + 64 * (x / 256 % 4) < 256; omega
    rw [key, and_split _ _ _ _ hlt hc2, hc _ _ hd hu]
theorem and_rep (c : Nat) (hc2 : c < 256) : ∀ m x, x < 256 ^ m → x &&& rep c m = mp (fun d => d &&& c) m x
  | 0, x, h => by
    have : x = 0 := by simpa using h
    subst this; simp [rep, mp]
  | m + 1, x, h => by
    have hx : x / 256 < 256 ^ m := Nat.div_lt_of_lt_mul (by rw [Nat.pow_succ, Nat.mul_comm] at h; exact h)
    have ih := and_rep c hc2 m (x / 256) hx
    have hd : x % 256 < 256 := Nat.mod_lt _ (by decide)
    rw [mp, rep, ← ih, ← and_split _ _ _ _ hd hc2, show 256 * (x / 256) + x % 256 = x from Nat.div_add_mod x 256]
theorem mp_add (f g : Nat → Nat) : ∀ m x, mp f m x + mp g m x = mp (fun c => f c + g c) m x
  | 0, _ => rfl
  | m + 1, x => by rw [mp, mp, mp, ← mp_add f g m]; omega
theorem mp_lt (f : Nat → Nat) (hf : ∀ c, c < 256 → f c < 256) : ∀ m x, mp f m x < 256 ^ m
  | 0, _ => by simp [mp]
  | m + 1, x => by
    have h1 := mp_lt f hf m (x / 256)
    have h2 := hf (x % 256) (Nat.mod_lt _ (by decide))
    rw [mp, Nat.pow_succ]
    omega
def p1 (c : Nat) : Nat := ((c / 2) &&& 85) + (c &&& 85)
def p2 (c : Nat) : Nat := ((c / 4) &&& 51) + (c &&& 51)
def p3 (c : Nat) : Nat := (c / 16 + c) &&& 15
theorem all256 {P : Nat → Prop} [∀ n, Decidable (P n)] (h : ∀ i : Fin 256, P i.val) : ∀ c, c < 256 → P c := fun c hc => h ⟨c, hc⟩
theorem p1_lt : ∀ c, c < 256 → p1 c < 256 := all256 (P := fun c => p1 c < 256) (by decide +kernel)
theorem p12_ok : ∀ c, c < 256 → p2 (p1 c) < 256 ∧ p2 (p1 c) % 16 ≤ 4 ∧ p2 (p1 c) / 16 ≤ 4 := all256 (P := fun c => p2 (p1 c) < 256 ∧ p2 (p1 c) % 16 ≤ 4 ∧ p2 (p1 c) / 16 ≤ 4) (by decide +kernel)
theorem p123 : ∀ c, c < 256 → p3 (p2 (p1 c)) = cnt c.testBit 8 := all256 (P := fun c => p3 (p2 (p1 c)) = cnt c.testBit 8) (by decide +kernel)
theorem sh1 : ∀ d u, d < 256 → u < 2 ^ 1 → (d / 2 ^ 1 + 2 ^ (8 - 1) * u) &&& 85 = (d / 2 ^ 1) &&& 85 := by
  intro d u hd hu
  have : u = 0 ∨ u = 1 := by have : u < 2 := hu; omega
  rcases this with rfl | rfl
  · simp
  · exact all256 (P := fun d => (d / 2 ^ 1 + 2 ^ (8 - 1) * 1) &&& 85 = (d / 2 ^ 1) &&& 85) (by decide +kernel) d hd
theorem sh2 : ∀ d u, d < 256 → u < 2 ^ 2 → (d / 2 ^ 2 + 2 ^ (8 - 2) * u) &&& 51 = (d / 2 ^ 2) &&& 51 := by
  intro d u hd hu
  have : u = 0 ∨ u = 1 ∨ u = 2 ∨ u = 3 := by have : u < 4 := hu; omega
  rcases this with rfl | rfl | rfl | rfl
  · simp
  · exact all256 (P := fun d => (d / 2 ^ 2 + 2 ^ (8 - 2) * 1) &&& 51 = (d / 2 ^ 2) &&& 51) (by decide +kernel) d hd
  · exact all256 (P := fun d => (d / 2 ^ 2 + 2 ^ (8 - 2) * 2) &&& 51 = (d / 2 ^ 2) &&& 51) (by decide +kernel) d hd
  · exact all256 (P := fun d => (d / 2 ^ 2 + 2 ^ (8 - 2) * 3) &&& 51 = (d / 2 ^ 2) &&& 51) (by decide +kernel) d hd
/-- By nibbles. -/
theorem stage3 (f : Nat → Nat) (hf : ∀ c, c < 256 → f c < 256 ∧ f c % 16 ≤ 4 ∧ f c / 16 ≤ 4) : ∀ m x, (mp f m x / 16 + mp f m x) &&& rep 15 m = mp (fun c => p3 (f c)) m x
  | 0, _ => by simp [rep, mp]
  | m + 1, x => by
    have ih := stage3 f hf m (x / 256)
    obtain ⟨b1, b2, b3⟩ := hf (x % 256) (Nat.mod_lt _ (by decide))
    have hn : mp f m (x / 256) % 16 ≤ 4 := by
      cases m with
      | zero => simp [mp]
      | succ m =>
        obtain ⟨_, b2, _⟩ := hf (x / 256 % 256) (Nat.mod_lt _ (by decide))
        rw [mp]; omega
    rw [mp, mp, rep, ← ih]
    generalize mp f m (x / 256) = h at *
    generalize hd : f (x % 256) = d at *
    have key : (256 * h + d) / 16 + (256 * h + d) = 256 * (h / 16 + h) + (16 * (h % 16) + (d / 16 + d)) := by omega
    have hlow : (16 * (h % 16) + (d / 16 + d)) &&& 15 = p3 d := by
      unfold p3
      have e1 := Nat.and_two_pow_sub_one_eq_mod (16 * (h % 16) + (d / 16 + d)) 4
      have e2 := Nat.and_two_pow_sub_one_eq_mod (d / 16 + d) 4
      rw [show (2 : Nat) ^ 4 - 1 = 15 from rfl, show (2 : Nat) ^ 4 = 16 from rfl] at e1 e2
      rw [e1, e2]; omega
    rw [key, and_split _ _ _ _ (by omega) (by decide), hlow]
theorem pop_bytes : ∀ m x, cnt x.testBit (8 * m) = (mp (fun c => cnt c.testBit 8) m x % 256) + (if m = 0 then 0 else cnt (x / 256).testBit (8 * (m - 1)))
  | 0, _ => rfl
  | m + 1, x => by
    have hc : cnt (x % 256).testBit 8 < 256 := Nat.lt_of_le_of_lt (cnt_le _ _) (by decide)
    rw [if_neg (by omega), Nat.add_sub_cancel, mp, Nat.mul_add, Nat.add_comm (8 * m), cnt_add, show 256 * mp (fun c => cnt c.testBit 8) m (x / 256) + cnt (x % 256).testBit 8 = cnt (x % 256).testBit 8 + 256 * mp (fun c => cnt c.testBit 8) m (x / 256) from Nat.add_comm _ _, Nat.add_mul_mod_self_left, Nat.mod_eq_of_lt hc]
    congr 1
    · refine cnt_congr fun k hk => ?_
      have := Nat.testBit_mod_two_pow x 8 k
      rw [show (2 : Nat) ^ 8 = 256 from rfl] at this
      rw [this, decide_eq_true (by omega)]; rfl
    · refine cnt_congr fun k _ => ?_
      have := Nat.testBit_div_two_pow x k (n := 8)
      rw [show (2 : Nat) ^ 8 = 256 from rfl] at this
      rw [this, Nat.add_comm]
theorem final (x3 c0 c1 c2 c3 c4 c5 c6 c7 : Nat) (h0 : c0 ≤ 8) (h1 : c1 ≤ 8) (h2 : c2 ≤ 8) (h3 : c3 ≤ 8) (h4 : c4 ≤ 8) (h5 : c5 ≤ 8) (h6 : c6 ≤ 8) (h7 : c7 ≤ 8)
    (h : x3 = c0 + 256 * (c1 + 256 * (c2 + 256 * (c3 + 256 * (c4 + 256 * (c5 + 256 * (c6 + 256 * c7))))))) :
    ∀ x4 x5 x6, x4 = x3 + x3 / 256 → x5 = x4 + x4 / 65536 → x6 = x5 + x5 / 4294967296 → x6 < 9223372036854775808 ∧ x6 % 128 = c0 + c1 + c2 + c3 + c4 + c5 + c6 + c7 := by
  intro x4 x5 x6 e4 e5 e6
  have d4 : x3 / 256 = c1 + 256 * (c2 + 256 * (c3 + 256 * (c4 + 256 * (c5 + 256 * (c6 + 256 * c7))))) := by omega
  have f4 : x4 = (c0 + c1) + 256 * ((c1 + c2) + 256 * ((c2 + c3) + 256 * ((c3 + c4) + 256 * ((c4 + c5) + 256 * ((c5 + c6) + 256 * ((c6 + c7) + 256 * c7)))))) := by rw [e4, d4, h]; omega
  clear e4 d4 h
  have d5 : x4 / 65536 = (c2 + c3) + 256 * ((c3 + c4) + 256 * ((c4 + c5) + 256 * ((c5 + c6) + 256 * ((c6 + c7) + 256 * c7)))) := by omega
  have f5 : x5 = (c0 + c1 + c2 + c3) + 256 * ((c1 + c2 + c3 + c4) + 256 * ((c2 + c3 + c4 + c5) + 256 * ((c3 + c4 + c5 + c6) + 256 * ((c4 + c5 + c6 + c7) + 256 * ((c5 + c6 + c7) + 256 * ((c6 + c7) + 256 * c7)))))) := by rw [e5, d5, f4]; omega
  clear e5 d5 f4
  have d6 : x5 / 4294967296 = (c4 + c5 + c6 + c7) + 256 * ((c5 + c6 + c7) + 256 * ((c6 + c7) + 256 * c7)) := by omega
  rw [d6, f5] at e6
  clear d6 f5
  constructor
  · omega
  · omega
theorem cnt_bytes (x m : Nat) : cnt x.testBit (8 * (m + 1)) = cnt (x % 256).testBit 8 + cnt (x / 256).testBit (8 * m) := by
  have hc : cnt (x % 256).testBit 8 < 256 := Nat.lt_of_le_of_lt (cnt_le _ _) (by decide)
  have h := pop_bytes (m + 1) x
  rw [if_neg (by omega), Nat.add_sub_cancel, mp, Nat.add_comm (256 * _), Nat.add_mul_mod_self_left, Nat.mod_eq_of_lt hc] at h
  exact h
theorem rep85 : rep 85 8 = 6148914691236517205 := by decide
theorem rep51 : rep 51 8 = 3689348814741910323 := by decide
theorem rep15 : rep 15 8 = 1085102592571150095 := by decide
theorem mp_congr {f g : Nat → Nat} (h : ∀ c, c < 256 → f c = g c) : ∀ m x, mp f m x = mp g m x
  | 0, _ => rfl
  | m + 1, x => by rw [mp, mp, mp_congr h m, h _ (Nat.mod_lt _ (by decide))]
/-- What bits.OnesCount64 reckons is how many bits are 1. -/
theorem swar (x : Nat) (hx : x < 18446744073709551616) (a1 a2 a3 a4 a5 a6 : Nat) (e1 : a1 = ((x / 2) &&& 6148914691236517205) + (x &&& 6148914691236517205)) (e2 : a2 = ((a1 / 4) &&& 3689348814741910323) + (a1 &&& 3689348814741910323))
    (e3 : a3 = (a2 / 16 + a2) &&& 1085102592571150095) (e4 : a4 = a3 + a3 / 256) (e5 : a5 = a4 + a4 / 65536) (e6 : a6 = a5 + a5 / 4294967296) :
    a6 < 9223372036854775808 ∧ a6 % 128 = pop x ∧ a3 ≤ 1085102592571150095 := by
  have hx8 : x < 256 ^ 8 := by simpa using hx
  have h1 : a1 = mp p1 8 x := by
    have s1 := shift_and 1 85 (.inl rfl) sh1 (by decide) 8 x hx8
    have s2 := and_rep 85 (by decide) 8 x hx8
    rw [rep85] at s1 s2
    rw [e1, s2, show x / 2 = x / 2 ^ 1 from rfl, s1, mp_add]; rfl
  have h2 : a2 = mp (fun c => p2 (p1 c)) 8 x := by
    have hlt : a1 < 256 ^ 8 := by rw [h1]; exact mp_lt p1 p1_lt 8 x
    have s1 := shift_and 2 51 (.inr rfl) sh2 (by decide) 8 a1 hlt
    have s2 := and_rep 51 (by decide) 8 a1 hlt
    rw [rep51] at s1 s2
    rw [e2, s2, show a1 / 4 = a1 / 2 ^ 2 from rfl, s1, mp_add, h1, ← mp_comp p1 p2 p1_lt]; rfl
  have h3 : a3 = mp (fun c => cnt c.testBit 8) 8 x := by
    have s := stage3 (fun c => p2 (p1 c)) p12_ok 8 x
    rw [rep15, ← h2] at s
    rw [e3, s]
    exact mp_congr p123 8 x
  have b3 : a3 ≤ 1085102592571150095 := by rw [e3]; exact Nat.and_le_right
  have hc : ∀ c, cnt (Nat.testBit c) 8 ≤ 8 := fun c => cnt_le _ _
  obtain ⟨f1, f2⟩ := final a3 _ _ _ _ _ _ _ _ (hc (x % 256)) (hc (x / 256 % 256)) (hc (x / 256 / 256 % 256)) (hc (x / 256 / 256 / 256 % 256)) (hc (x / 256 / 256 / 256 / 256 % 256)) (hc (x / 256 / 256 / 256 / 256 / 256 % 256)) (hc (x / 256 / 256 / 256 / 256 / 256 / 256 % 256)) (hc (x / 256 / 256 / 256 / 256 / 256 / 256 / 256 % 256))
    (by rw [h3]; simp only [mp]; omega) a4 a5 a6 e4 e5 e6
  refine ⟨f1, ?_, b3⟩
  rw [f2, pop, show 64 = 8 * (7 + 1) from rfl, cnt_bytes, show 8 * 7 = 8 * (6 + 1) from rfl, cnt_bytes, show 8 * 6 = 8 * (5 + 1) from rfl, cnt_bytes, show 8 * 5 = 8 * (4 + 1) from rfl, cnt_bytes, show 8 * 4 = 8 * (3 + 1) from rfl, cnt_bytes, show 8 * 3 = 8 * (2 + 1) from rfl, cnt_bytes, show 8 * 2 = 8 * (1 + 1) from rfl, cnt_bytes, show 8 * 1 = 8 * (0 + 1) from rfl, cnt_bytes]
  simp only [cnt]
  omega
theorem pop_le (x : Nat) : pop x ≤ 64 := cnt_le _ _
theorem popSum_le (ws : List Nat) : ∀ k, k ≤ ws.length → popSum ws k ≤ 64 * k
  | 0, _ => Nat.zero_le _
  | k + 1, h => by
    rw [popSum_succ h]
    have := popSum_le ws k (by omega)
    have := pop_le (ws[k])
    omega
end Bs
end Go.Proofs.YtaaladekamfpnaaDoor
