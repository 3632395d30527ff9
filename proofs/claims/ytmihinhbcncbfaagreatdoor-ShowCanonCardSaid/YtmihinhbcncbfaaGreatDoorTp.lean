/- Texts of ticks: plain functions on bytes, and their laws (nothing of the program). -/
import Derived.Test.YtmihinhbcncbfaaGreatDoorTk
import Derived.Lib.ParseIntB
import Derived.Lib.ItoaLen
import Derived.Lib.ItoaMem
namespace Go.Proofs.YtmihinhbcncbfaaGreatDoor.Tk
/-- The byte of a digit. -/
def isDig (c : UInt8) : Bool := decide (48 ≤ (c.toNat : Int) ∧ (c.toNat : Int) ≤ 57)
def infB : List UInt8 := [105, 110, 102]
/-- What digits spell, behind acc. -/
def val (acc : Nat) (l : List UInt8) : Nat := l.foldl (fun a c => a * 10 + (c.toNat - 48)) acc
/-- A text that is no numeral of a tick's form. -/
def badNum (l : List UInt8) : Bool := l.isEmpty || (decide (1 < l.length) && l.head? == some 48) || !l.all isDig
def parseE (l : List UInt8) : Int := if l = infB then 0 else if badNum l = true then 7 else if val 0 l ≤ 1099511627776 then 0 else 9
def parseV (l : List UInt8) : Int := if l = infB then 4611686018427387904 else if parseE l = 0 then val 0 l else 0
/-- A tick's text. -/
def textB (t : Int) : List UInt8 := if t = 4611686018427387904 then infB else if isT t = true then Lib.itoa t else []

theorem val_cons (acc : Nat) (c : UInt8) (r : List UInt8) : val acc (c :: r) = val (acc * 10 + (c.toNat - 48)) r := by unfold val; rw [List.foldl_cons]
theorem val_nil (acc : Nat) : val acc [] = acc := by unfold val; rw [List.foldl_nil]
theorem val_ge (l : List UInt8) (acc : Nat) : acc ≤ val acc l := by
  induction l generalizing acc with
  | nil => rw [val_nil]; omega
  | cons c r ih => rw [val_cons]; exact Nat.le_trans (by omega) (ih _)
theorem isDig_iff {c : UInt8} : isDig c = true ↔ 48 ≤ c.toNat ∧ c.toNat ≤ 57 := by
  unfold isDig; rw [decide_eq_true_eq]; omega
theorem parseUintM_digits {M : Nat} (hM : M < 18446744073709551616) (l : List UInt8) : ∀ (acc : Nat), l.all isDig = true → acc ≤ M → Lib.parseUintM M acc l = if val acc l ≤ M then .ok (val acc l) else .range := by
  induction l with
  | nil =>
    intro acc _ ha
    rw [val_nil, if_pos ha]
    simp only [Lib.parseUintM]
  | cons c r ih =>
    intro acc hd ha
    rw [List.all_cons, Bool.and_eq_true] at hd
    have hc := isDig_iff.1 hd.1
    simp only [Lib.parseUintM]
    rw [if_pos hc, val_cons]
    have hge := val_ge r (acc * 10 + (c.toNat - 48))
    by_cases h1 : 1844674407370955162 ≤ acc
    · rw [if_pos h1, if_neg (by omega)]
    · rw [if_neg h1]
      by_cases h2 : M < acc * 10 + (c.toNat - 48)
      · rw [if_pos h2, if_neg (by omega)]
      · rw [if_neg h2]
        exact ih _ hd.2 (by omega)
/-- What the library's ParseInt says of digits. -/
theorem parseIntB_digits {l : List UInt8} (hne : l ≠ []) (hd : l.all isDig = true) : Lib.parseIntB 64 l = if val 0 l < 9223372036854775808 then .ok (val 0 l : Int) else .range := by
  cases l with
  | nil => exact absurd rfl hne
  | cons c r =>
    have hd' := hd
    rw [List.all_cons, Bool.and_eq_true] at hd'
    have hc := isDig_iff.1 hd'.1
    have h43 : ¬ (c.toNat = 43 ∨ c.toNat = 45) := by omega
    have h45 : ¬ c.toNat = 45 := by omega
    have hu : Lib.parseUintB 64 (c :: r) = if val 0 (c :: r) ≤ 18446744073709551615 then .ok (val 0 (c :: r)) else .range := by
      unfold Lib.parseUintB
      rw [if_neg (by simp)]
      exact parseUintM_digits (M := 2 ^ 64 - 1) (by omega) (c :: r) 0 hd (by omega)
    unfold Lib.parseIntB
    simp only [if_neg h43, hu]
    by_cases h1 : val 0 (c :: r) ≤ 18446744073709551615
    · simp only [if_pos h1]
      by_cases h2 : val 0 (c :: r) < 9223372036854775808
      · rw [if_neg (by omega), if_neg (by omega), if_neg h45, if_pos h2]
      · rw [if_pos (by omega), if_neg h2]
    · simp only [if_neg h1]
      rw [if_neg (by omega)]
end Go.Proofs.YtmihinhbcncbfaaGreatDoor.Tk
