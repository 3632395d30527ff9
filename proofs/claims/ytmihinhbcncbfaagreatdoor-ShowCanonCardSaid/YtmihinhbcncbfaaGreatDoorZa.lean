/- The walks of timetableref01.digits and Text; timetableref04.digits and Text of one number; timetableref06.num. -/
import Derived.Test.YtmihinhbcncbfaaGreatDoorBd
import Derived.Test.YtmihinhbcncbfaaGreatDoorTq
import Derived.Lib.SmallJoins
import Derived.WalkKit
import Derived.WalkSpells
import Derived.WalkLawsBesides
import Derived.Deep.CutBlock
import Derived.Deep.CutRange
import Derived.Deep.DeepCutAuto
namespace Go.Proofs.YtmihinhbcncbfaaGreatDoor
open Go.RowKit
set_option maxHeartbeats 400000 in
theorem zis_any (t : Int) (w : World) : Calls Tryz.prog 132 #[.int .i64 t] w fun e w' => e = .returned (.bool (Tk.isT t)) ∧ w = w' := by
  rcases Tk.kinds t with ⟨h1, h2, h3⟩ | rfl | ⟨h1, h2⟩
  · rw [h1]
    have h4 : ¬ (0 ≤ t ∧ t ≤ 1099511627776) := fun h => by rw [Tk.isT_tick h] at h1; exact absurd h1 (by decide)
    by_cases h0 : t < 0
    · clear h1 h2 h4
      go_enter Tryz.func132, Tryz.ntmps132
      go_wp2
      go_ret
      exact ⟨rfl, rfl⟩
    · have h0' : 0 ≤ t := by omega
      have h5 : decide (t ≤ 1099511627776) = false := decide_eq_false (by omega)
      clear h1 h2 h4 h0
      go_enter Tryz.func132, Tryz.ntmps132
      go_wp2
      go_ret
      exact ⟨rfl, rfl⟩
  · rw [Tk.isT_inf]
    go_enter Tryz.func132, Tryz.ntmps132
    go_wp2
    go_ret
    exact ⟨rfl, rfl⟩
  · rw [Tk.isT_tick ⟨h1, h2⟩]
    go_enter Tryz.func132, Tryz.ntmps132
    go_wp2
    go_ret
    exact ⟨rfl, rfl⟩
theorem ten_piece : ∀ n : Nat, n < 10 → (⟨#[48, 49, 50, 51, 52, 53, 54, 55, 56, 57]⟩ : ByteArray).extract n (n + 1) = ⟨[UInt8.ofNat (48 + n)].toArray⟩ := by
  decide
theorem join_dec {n : Nat} (h : ¬ n < 10) : (⟨(Lib.decDigits (n / 10)).toArray⟩ : ByteArray) ++ (⟨(Lib.decDigits (n % 10)).toArray⟩ : ByteArray) = ⟨(Lib.decDigits n).toArray⟩ := by
  apply ByteArray.ext
  rw [ByteArray.data_append, Tk.dec_more h, Tk.dec_one (u := n % 10) (by omega)]
  simp
set_option maxRecDepth 100000 in
set_option maxHeartbeats 1000000 in
theorem zdig1_any (n : Nat) : ∀ (w : World), n < 9223372036854775808 →
    Calls Tryz.prog 133 #[.int .i64 n] w fun e w' => e = .returned (.string ⟨(Lib.decDigits n).toArray⟩) ∧ w = w' := by
  induction n using Nat.strongRecOn with
  | ind n ih =>
    intro w hn
    by_cases h : n < 10
    · have hr := ten_piece n h
      rw [Tk.dec_one h]
      clear ih
      have Hr := Lib.hid hr
      clear hr
      go_enter Tryz.func133, Tryz.ntmps133
      go_wp2_with fail
      go_ret
      refine ⟨?_, rfl⟩
      rw [← Hr.out]
      rfl
    · have H1 := Lib.hid (ih (n / 10) (by omega) w (by omega))
      have H2 := Lib.hid (ih (n % 10) (by omega) w (by omega))
      have h' : 10 ≤ (n : Int) := by omega
      have HJ := Lib.hid (join_dec h)
      have hfit : ¬ 9223372036854775807 < (Lib.decDigits (n / 10)).length + (Lib.decDigits (n % 10)).length := by
        rw [Lib.decDigits_length, Lib.decDigits_length]
        have := Lib.nDigits_le20 (n / 10) (by omega)
        have := Lib.nDigits_le20 (n % 10) (by omega)
        omega
      clear ih h
      go_enter Tryz.func133, Tryz.ntmps133
      go_wp2_with fail
      refine H1.out.mono ?_
      rintro e w' ⟨rfl, rfl⟩
      go_wp2_with fail
      refine H2.out.mono ?_
      rintro e w' ⟨rfl, rfl⟩
      go_wp2_with fail
      go_ret
      exact ⟨by rw [← HJ.out]; rfl, rfl⟩
set_option maxRecDepth 100000 in
set_option maxHeartbeats 1000000 in
theorem ztext1_any (u : Nat) (hu : u ≤ 1099511627776) (w : World) :
    Calls Tryz.prog 122 #[.int .i64 u] w fun e w' => e = .returned (.string ⟨(Lib.decDigits u).toArray⟩) ∧ w = w' := by
  have h1 := Tk.isT_tick (t := (u : Int)) ⟨by omega, by omega⟩
  have h3 : ((u : Int) == 4611686018427387904) = false := beq_eq_false_iff_ne.2 (by omega)
  have HD := Lib.hid (zdig1_any u w (by omega))
  go_enter Tryz.func122, Tryz.ntmps122
  go_wp2_with (first | (go_at_call 132; refine (zis_any _ _).mono ?_; rintro e w' ⟨rfl, rfl⟩) | (go_at_call 133; refine HD.out.mono ?_; rintro e w' ⟨rfl, rfl⟩))
  go_ret
  exact ⟨rfl, rfl⟩
/-- What stands ahead of the digits told so far. -/
def ahd (k : Nat) : List UInt8 := if k = 0 then [] else Lib.decDigits k
theorem ahd_step {k : Nat} (h : 0 < k) : ahd k = ahd (k / 10) ++ [UInt8.ofNat (48 + k % 10)] := by
  unfold ahd
  rw [if_neg (by omega)]
  by_cases h1 : k < 10
  · rw [if_pos (by omega), Tk.dec_one h1, show k % 10 = k by omega]; rfl
  · rw [if_neg (by omega), Tk.dec_more h1]
theorem ahd_len (k : Nat) (h : k < 18446744073709551616) : (ahd k).length ≤ 20 := by
  unfold ahd
  split
  · simp
  · rw [Lib.decDigits_length]; exact Lib.nDigits_le20 k h
theorem step_txt (k : Nat) (D : List UInt8) : (⟨#[48, 49, 50, 51, 52, 53, 54, 55, 56, 57]⟩ : ByteArray).extract (k % 10) (k % 10 + 1) ++ ba D = ba (UInt8.ofNat (48 + k % 10) :: D) := by
  rw [ten_piece (k % 10) (by omega)]
  apply ByteArray.ext
  apply Array.ext'
  simp [ba]
theorem ext_one (k : Nat) : ((⟨#[48, 49, 50, 51, 52, 53, 54, 55, 56, 57]⟩ : ByteArray).extract (k % 10) (k % 10 + 1)).size = 1 := by
  rw [ten_piece (k % 10) (by omega)]; rfl
theorem wrap_neg {n : Int} (h0 : n < 0) (h : -9223372036854775808 ≤ n) : IntKind.u64.wrap n = 18446744073709551616 + n := by
  simp [IntKind.wrap, IntKind.bits, IntKind.signed]; omega
theorem wrap_back {n : Int} (h0 : n < 0) (h : -9223372036854775808 ≤ n) : IntKind.u64.wrap (-(18446744073709551616 + n)) = -n := by
  simp [IntKind.wrap, IntKind.bits, IntKind.signed]; omega
set_option maxRecDepth 100000 in
set_option maxHeartbeats 2000000 in
theorem zdig4_any (n : Int) (h0 : -9223372036854775808 ≤ n) (h9 : n ≤ 9223372036854775807) (w : World) : Calls Tryz.prog 110 #[.int .i64 n] w fun e w' => e = .returned (.string (ba (dec n))) ∧ w = w' := by
  by_cases hp : 0 ≤ n ∧ n ≤ 1099511627776
  · obtain ⟨u, rfl⟩ := Int.eq_ofNat_of_zero_le hp.1
    have HDC := Lib.hid (show dec (u : Int) = Lib.decDigits u from Lib.itoa_nonneg u)
    have HT := Lib.hid (ztext1_any u (by omega) w)
    have q0 : (0 : Int) ≤ (u : Int) := by omega
    have q1 : (u : Int) ≤ 1099511627776 := by omega
    rw [HDC.out]
    clear hp h0 h9
    go_enter Tryz.func110, Tryz.ntmps110
    go_wp2_with fail
    refine HT.out.mono ?_
    rintro e w' ⟨rfl, rfl⟩
    go_wp2_with fail
    go_ret
    exact ⟨rfl, rfl⟩
  · by_cases hneg : n < 0
    · obtain ⟨m, hm⟩ : ∃ m : Nat, -n = (m : Int) := ⟨n.natAbs, by omega⟩
      have hm0 : 0 < m := by omega
      have hm9 : m ≤ 9223372036854775808 := by omega
      have HDC := Lib.hid (show dec n = 45 :: Lib.decDigits m by
        rw [show n = -(m : Int) by omega]
        exact Lib.itoa_neg m hm0)
      have q0 : ¬ (0 : Int) ≤ n := by omega
      have hw1 := wrap_neg hneg h0
      have hw2 := wrap_back hneg h0
      rw [hm] at hw2
      obtain ⟨c, hc⟩ : ∃ c : Int, 18446744073709551616 + n = c := ⟨_, rfl⟩
      rw [hc] at hw1 hw2
      rw [HDC.out]
      clear hp h0 h9 hm hc
      go_enter Tryz.func110, Tryz.ntmps110
      go_wp2_with fail
      go_loopg [3, 5] m (fun gg v3 v5 wr => ∃ k : Nat, ∃ D : List UInt8, k ≤ m ∧ k ≤ gg ∧ D.length ≤ 20 ∧ v3 = .int .u64 k ∧ v5 = .string (ba D) ∧ ahd k ++ D = Lib.decDigits m ∧ w = wr)
      case atStart => exact ⟨m, [], Nat.le_refl _, Nat.le_refl _, by decide, rfl, rfl, by unfold ahd; rw [if_neg (by omega), List.append_nil], rfl⟩
      case round =>
        obtain ⟨k, D, hkm, hkg, hD, rfl, rfl, hA, rfl⟩ := hrel
        by_cases hk : 0 < k
        · have q0 : (0 : Int) < (k : Int) := by omega
          obtain ⟨r, hr⟩ : ∃ r, k % 10 = r := ⟨_, rfl⟩
          have hr9 : r < 10 := by omega
          have hrr : (k : Int) % 10 = (r : Int) := by omega
          have hx1 := ext_one k
          rw [hr] at hx1
          have hsD : (ba D).size ≤ 20 := by rw [ba_size]; exact hD
          have hX := step_txt k D
          have hS := ahd_step hk
          rw [hr] at hX hS
          have HX := Lib.hid hX
          have HS := Lib.hid hS
          have HA := Lib.hid hA
          have HLN := Lib.hid (show D.length + 1 ≤ 20 by
            have h1 := congrArg List.length hA
            rw [ahd_step hk, List.length_append, List.length_append, List.length_cons, List.length_nil, Lib.decDigits_length] at h1
            have h2 := Lib.nDigits_le20 m (by omega)
            omega)
          clear hA hX hS hr
          go_wp2_with fail
          go_roundg (k / 10)
          case measure => omega
          case rel => exact ⟨k / 10, UInt8.ofNat (48 + r) :: D, by omega, by omega, by rw [List.length_cons]; exact HLN.out, by go_num, by rw [← HX.out], by rw [← HA.out, HS.out]; simp, rfl⟩
        · obtain rfl : k = 0 := by omega
          have HD := Lib.hid (show D = Lib.decDigits m by rw [← hA]; rfl)
          have hsD : (ba D).size ≤ 20 := by rw [ba_size]; exact hD
          clear hA
          go_wp2_with fail
          go_ret
          have HJ : (⟨#[45]⟩ : ByteArray) ++ ba D = ba (45 :: Lib.decDigits m) := by rw [← HD.out]; apply ByteArray.ext; apply Array.ext'; simp [ba]
          exact ⟨by rw [← HJ]; rfl, rfl⟩
    · obtain ⟨m, rfl⟩ := Int.eq_ofNat_of_zero_le (Int.not_lt.1 hneg)
      have hm0 : 0 < m := by omega
      have HDC := Lib.hid (show dec (m : Int) = Lib.decDigits m from Lib.itoa_nonneg m)
      have q0 : (0 : Int) ≤ (m : Int) := by omega
      have q1 : ¬ (m : Int) ≤ 1099511627776 := by omega
      have q2 : ¬ (m : Int) < 0 := by omega
      have hm9 : m ≤ 9223372036854775808 := by omega
      have hw1 : IntKind.u64.wrap (m : Int) = (m : Int) := IntWalk.u64_in _ (by omega)
      rw [HDC.out]
      clear hp h0 h9 hneg
      go_enter Tryz.func110, Tryz.ntmps110
      go_wp2_with fail
      go_loopg [3, 5] m (fun gg v3 v5 wr => ∃ k : Nat, ∃ D : List UInt8, k ≤ m ∧ k ≤ gg ∧ D.length ≤ 20 ∧ v3 = .int .u64 k ∧ v5 = .string (ba D) ∧ ahd k ++ D = Lib.decDigits m ∧ w = wr)
      case atStart => exact ⟨m, [], Nat.le_refl _, Nat.le_refl _, by decide, rfl, rfl, by unfold ahd; rw [if_neg (by omega), List.append_nil], rfl⟩
      case round =>
        obtain ⟨k, D, hkm, hkg, hD, rfl, rfl, hA, rfl⟩ := hrel
        by_cases hk : 0 < k
        · have q0 : (0 : Int) < (k : Int) := by omega
          obtain ⟨r, hr⟩ : ∃ r, k % 10 = r := ⟨_, rfl⟩
          have hr9 : r < 10 := by omega
          have hrr : (k : Int) % 10 = (r : Int) := by omega
          have hx1 := ext_one k
          rw [hr] at hx1
          have hsD : (ba D).size ≤ 20 := by rw [ba_size]; exact hD
          have hX := step_txt k D
          have hS := ahd_step hk
          rw [hr] at hX hS
          have HX := Lib.hid hX
          have HS := Lib.hid hS
          have HA := Lib.hid hA
          have HLN := Lib.hid (show D.length + 1 ≤ 20 by
            have h1 := congrArg List.length hA
            rw [ahd_step hk, List.length_append, List.length_append, List.length_cons, List.length_nil, Lib.decDigits_length] at h1
            have h2 := Lib.nDigits_le20 m (by omega)
            omega)
          clear hA hX hS hr
          go_wp2_with fail
          go_roundg (k / 10)
          case measure => omega
          case rel => exact ⟨k / 10, UInt8.ofNat (48 + r) :: D, by omega, by omega, by rw [List.length_cons]; exact HLN.out, by go_num, by rw [← HX.out], by rw [← HA.out, HS.out]; simp, rfl⟩
        · obtain rfl : k = 0 := by omega
          have HD := Lib.hid (show D = Lib.decDigits m by rw [← hA]; rfl)
          have hsD : (ba D).size ≤ 20 := by rw [ba_size]; exact hD
          clear hA
          go_wp2_with fail
          go_ret
          exact ⟨by rw [HD.out]; rfl, rfl⟩
/-- A number's token alone: its digits. -/
theorem ztok_any (b : Nat) (n : Int) (h0 : -9223372036854775808 ≤ n) (h9 : n ≤ 9223372036854775807) (w : World) (hk : w.cell? ⟨b, 0, none⟩ = some (.int .i64 3)) (hv : w.cell? ⟨b, 2, none⟩ = some (.int .i64 n)) :
    Calls Tryz.prog 85 #[.slice (some ⟨b, 0, none⟩) 1 1] w fun e w' => e = .returned (.string (ba (dec n))) ∧ w = w' := by
  have HT := Lib.hid (zdig4_any n h0 h9 w)
  have hsz : (ba (dec n)).size ≤ 24 := by
    rw [ba_size]
    have := Lib.itoa_length_le n h0 h9
    show (Lib.itoa n).length ≤ 24
    omega
  clear h0 h9
  go_enter Tryz.func85, Tryz.ntmps85
  go_wp2_with fail
  go_loopg [3, 4] 1 (fun gg v3 v4 wr => ((v4 = .int .i64 0 ∧ v3 = .string ⟨#[]⟩ ∧ 1 ≤ gg) ∨ (v4 = .int .i64 1 ∧ v3 = .string (ba (dec n)))) ∧ w = wr)
  case atStart => exact ⟨.inl ⟨rfl, rfl, Nat.le_refl _⟩, rfl⟩
  case round =>
    obtain ⟨⟨rfl, rfl, hg⟩ | ⟨rfl, rfl⟩, rfl⟩ := hrel
    · go_wp2_with fail
      refine HT.out.mono ?_
      rintro e w' ⟨rfl, rfl⟩
      go_wp2_with fail
      go_roundg 0
      case measure => omega
      case rel => exact ⟨.inr ⟨rfl, by congr 1⟩, rfl⟩
    · go_wp2_with fail
      go_ret
      exact ⟨rfl, rfl⟩
theorem znum_any (n : Int) (h0 : -9223372036854775808 ≤ n) (h9 : n ≤ 9223372036854775807) (w : World) : Calls Tryz.prog 45 #[.int .i64 n] w fun e w' => e = .returned (.string (ba (dec n))) ∧ Below w.heap.size w w' := by
  have HT := fun W h1 h2 => Lib.hid (ztok_any w.heap.size n h0 h9 W h1 h2)
  clear h0 h9
  go_enter Tryz.func45, Tryz.ntmps45
  go_wp2_with fail
  refine (HT _ ?_ ?_).out.mono ?_
  · exact Lib.cell_of_heap (heap_alloc_new _ _) 0
  · exact Lib.cell_of_heap (heap_alloc_new _ _) 2
  rintro e w' ⟨rfl, rfl⟩
  go_wp2_with fail
  go_ret
  exact ⟨rfl, (Below.refl _ _).alloc (Nat.le_refl _) _⟩
end Go.Proofs.YtmihinhbcncbfaaGreatDoor
