/- The walks of timetableref01.digits and Text; timetableref04.digits and Text of one number; timetableref06.num. -/
import Derived.Test.YteonefgbdphmiaaGreatDoorBd
import Derived.Test.YteonefgbdphmiaaGreatDoorTq
import Derived.Lib.SmallJoins
import Derived.WalkKit
import Derived.WalkSpells
import Derived.WalkLawsBesides
import Derived.Deep.CutBlock
import Derived.Deep.CutRange
import Derived.Deep.DeepCutAuto
import Derived.Test.YteonefgbdphmiaaGreatDoorNb
namespace Go.Proofs.YteonefgbdphmiaaGreatDoor
open Go.RowKit
theorem ten_piece : ∀ n : Nat, n < 10 → (⟨#[48, 49, 50, 51, 52, 53, 54, 55, 56, 57]⟩ : ByteArray).extract n (n + 1) = ⟨[UInt8.ofNat (48 + n)].toArray⟩ := by
  decide
theorem join_dec {n : Nat} (h : ¬ n < 10) : (⟨(Lib.decDigits (n / 10)).toArray⟩ : ByteArray) ++ (⟨(Lib.decDigits (n % 10)).toArray⟩ : ByteArray) = ⟨(Lib.decDigits n).toArray⟩ := by
  apply ByteArray.ext
  rw [ByteArray.data_append, Tk.dec_more h, Tk.dec_one (u := n % 10) (by omega)]
  simp
/-- What stands ahead of the digits told so far. -/
def ahd (k : Nat) : List UInt8 := if k = 0 then [] else Lib.decDigits k
theorem ahd_step {k : Nat} (h : 0 < k) : ahd k = ahd (k / 10) ++ [UInt8.ofNat (48 + k % 10)] := by
  unfold ahd
  rw [if_neg (by omega)]
  by_cases h1 : k < 10
  · rw [if_pos (by omega), Tk.dec_one h1, show k % 10 = k by omega]; rfl
  · rw [if_neg (by omega), Tk.dec_more h1]
theorem ahd_len (k : Nat) (h : k < 18446744073709551616) : (ahd k).length ≤ 20 := by
  unfold ahd
  split
  · simp
  · rw [Lib.decDigits_length]; exact Lib.nDigits_le20 k h
theorem step_txt (k : Nat) (D : List UInt8) : (⟨#[48, 49, 50, 51, 52, 53, 54, 55, 56, 57]⟩ : ByteArray).extract (k % 10) (k % 10 + 1) ++ ba D = ba (UInt8.ofNat (48 + k % 10) :: D) := by
  rw [ten_piece (k % 10) (by omega)]
  apply ByteArray.ext
  apply Array.ext'
  simp [ba]
theorem ext_one (k : Nat) : ((⟨#[48, 49, 50, 51, 52, 53, 54, 55, 56, 57]⟩ : ByteArray).extract (k % 10) (k % 10 + 1)).size = 1 := by
  rw [ten_piece (k % 10) (by omega)]; rfl
theorem wrap_neg {n : Int} (h0 : n < 0) (h : -9223372036854775808 ≤ n) : IntKind.u64.wrap n = 18446744073709551616 + n := by
  simp [IntKind.wrap, IntKind.bits, IntKind.signed]; omega
theorem wrap_back {n : Int} (h0 : n < 0) (h : -9223372036854775808 ≤ n) : IntKind.u64.wrap (-(18446744073709551616 + n)) = -n := by
  simp [IntKind.wrap, IntKind.bits, IntKind.signed]; omega
end Go.Proofs.YteonefgbdphmiaaGreatDoor
/- The walks of timetableref04: letter, digit, more, Reserved, word, Name. -/
namespace Go.Proofs.YteonefgbdphmiaaGreatDoor
open Go.RowKit
set_option maxHeartbeats 400000 in
theorem yletter_any (c : UInt8) (w : World) : Calls Tryz.prog 81 #[.int .u8 (c.toNat : Int)] w fun e w' => e = .returned (.bool (Nm.low c)) ∧ w = w' := by
  by_cases h1 : 97 ≤ c.toNat
  · have q1 : (97 : Int) ≤ (c.toNat : Int) := by omega
    by_cases h2 : c.toNat ≤ 122
    · have q2 : (c.toNat : Int) ≤ 122 := by omega
      rw [show Nm.low c = true from decide_eq_true ⟨h1, h2⟩]
      go_enter Tryz.func81, Tryz.ntmps81
      go_wp2
      go_ret
      exact ⟨rfl, rfl⟩
    · have q2 : ¬ (c.toNat : Int) ≤ 122 := by omega
      rw [show Nm.low c = false from decide_eq_false fun h => h2 h.2]
      go_enter Tryz.func81, Tryz.ntmps81
      go_wp2
      go_ret
      exact ⟨rfl, rfl⟩
  · have q1 : ¬ (97 : Int) ≤ (c.toNat : Int) := by omega
    rw [show Nm.low c = false from decide_eq_false fun h => h1 h.1]
    go_enter Tryz.func81, Tryz.ntmps81
    go_wp2
    go_ret
    exact ⟨rfl, rfl⟩
set_option maxHeartbeats 400000 in
theorem ydigit_any (c : UInt8) (w : World) : Calls Tryz.prog 98 #[.int .u8 (c.toNat : Int)] w fun e w' => e = .returned (.bool (Nm.dig c)) ∧ w = w' := by
  by_cases h1 : 48 ≤ c.toNat
  · have q1 : (48 : Int) ≤ (c.toNat : Int) := by omega
    by_cases h2 : c.toNat ≤ 57
    · have q2 : (c.toNat : Int) ≤ 57 := by omega
      rw [show Nm.dig c = true from decide_eq_true ⟨h1, h2⟩]
      go_enter Tryz.func98, Tryz.ntmps98
      go_wp2
      go_ret
      exact ⟨rfl, rfl⟩
    · have q2 : ¬ (c.toNat : Int) ≤ 57 := by omega
      rw [show Nm.dig c = false from decide_eq_false fun h => h2 h.2]
      go_enter Tryz.func98, Tryz.ntmps98
      go_wp2
      go_ret
      exact ⟨rfl, rfl⟩
  · have q1 : ¬ (48 : Int) ≤ (c.toNat : Int) := by omega
    rw [show Nm.dig c = false from decide_eq_false fun h => h1 h.1]
    go_enter Tryz.func98, Tryz.ntmps98
    go_wp2
    go_ret
    exact ⟨rfl, rfl⟩
set_option maxHeartbeats 1000000 in
set_option maxRecDepth 100000 in
theorem ymore_any (c : UInt8) (w : World) : Calls Tryz.prog 82 #[.int .u8 (c.toNat : Int)] w fun e w' => e = .returned (.bool (Nm.more c)) ∧ w = w' := by
  unfold Nm.more
  cases hl : Nm.low c
  · cases hd : Nm.dig c
    · by_cases h1 : c.toNat = 45
      · have q1 : ((c.toNat : Int) == 45) = true := by simp [h1]
        rw [show Nm.joinB c = true by simp [Nm.joinB, h1]]
        clear h1
        go_enter Tryz.func82, Tryz.ntmps82
        go_wp2_with (first | (go_at_call 81; refine (yletter_any _ _).mono ?_; rintro e w' ⟨rfl, rfl⟩) | (go_at_call 98; refine (ydigit_any _ _).mono ?_; rintro e w' ⟨rfl, rfl⟩))
        go_ret
        exact ⟨rfl, rfl⟩
      · have q1 : ((c.toNat : Int) == 45) = false := by simp; omega
        by_cases h2 : c.toNat = 95
        · have q2 : ((c.toNat : Int) == 95) = true := by simp [h2]
          rw [show Nm.joinB c = true by simp [Nm.joinB, h2]]
          clear h1 h2
          go_enter Tryz.func82, Tryz.ntmps82
          go_wp2_with (first | (go_at_call 81; refine (yletter_any _ _).mono ?_; rintro e w' ⟨rfl, rfl⟩) | (go_at_call 98; refine (ydigit_any _ _).mono ?_; rintro e w' ⟨rfl, rfl⟩))
          go_ret
          exact ⟨rfl, rfl⟩
        · have q2 : ((c.toNat : Int) == 95) = false := by simp; omega
          rw [show Nm.joinB c = false by simp [Nm.joinB, h1, h2]]
          clear h1 h2
          go_enter Tryz.func82, Tryz.ntmps82
          go_wp2_with (first | (go_at_call 81; refine (yletter_any _ _).mono ?_; rintro e w' ⟨rfl, rfl⟩) | (go_at_call 98; refine (ydigit_any _ _).mono ?_; rintro e w' ⟨rfl, rfl⟩))
          go_ret
          exact ⟨rfl, rfl⟩
    · skip
      go_enter Tryz.func82, Tryz.ntmps82
      go_wp2_with (first | (go_at_call 81; refine (yletter_any _ _).mono ?_; rintro e w' ⟨rfl, rfl⟩) | (go_at_call 98; refine (ydigit_any _ _).mono ?_; rintro e w' ⟨rfl, rfl⟩))
      go_ret
      exact ⟨rfl, rfl⟩
  · skip
    go_enter Tryz.func82, Tryz.ntmps82
    go_wp2_with (first | (go_at_call 81; refine (yletter_any _ _).mono ?_; rintro e w' ⟨rfl, rfl⟩) | (go_at_call 98; refine (ydigit_any _ _).mono ?_; rintro e w' ⟨rfl, rfl⟩))
    go_ret
    exact ⟨rfl, rfl⟩
theorem rowR : (#[.string ⟨#[104, 111, 114, 105, 122, 111, 110]⟩, .string ⟨#[115, 116, 111, 112]⟩, .string ⟨#[112, 97, 116, 104]⟩, .string ⟨#[100, 111, 111, 114]⟩, .string ⟨#[114, 111, 117, 116, 101]⟩, .string ⟨#[116, 114, 105, 112]⟩, .string ⟨#[104, 97, 122, 97, 114, 100]⟩, .string ⟨#[102, 114, 111, 109]⟩, .string ⟨#[101, 118, 101, 114, 121]⟩, .string ⟨#[111, 112, 101, 110]⟩, .string ⟨#[99, 108, 111, 115, 101, 100]⟩, .string ⟨#[111, 102]⟩, .string ⟨#[111, 110]⟩, .string ⟨#[117, 110, 116, 105, 108]⟩, .string ⟨#[115, 116, 97, 121]⟩] : Array Value) = (resA.flatMap sc).toArray := by rfl
set_option maxHeartbeats 1000000 in
theorem yres_any (s : ByteArray) (w : World) : Calls Tryz.prog 63 #[.string s] w fun e w' => e = .returned (.bool (Nm.res s.data.toList)) ∧ Below w.heap.size w w' := by
  obtain ⟨w1, hw1⟩ : ∃ w1, w.alloc (.cells (resA.flatMap sc).toArray 9) = w1 := ⟨_, rfl⟩
  have hb : Below w.heap.size w w1 := by rw [← hw1]; exact (Below.refl _ _).alloc (Nat.le_refl _) _
  have hS : Sl sc 1 w1 (.slice (some ⟨w.heap.size, 0, none⟩) 15 15) resA (fun _ => True) := by rw [← hw1]; exact slRes w
  have HB := Lib.hid hb
  have HS := Lib.hid hS
  have HW := Lib.hid hw1
  obtain ⟨r, hr⟩ : ∃ r, Nm.res s.data.toList = r := ⟨_, rfl⟩
  have HY := Lib.hid (fun k (hk : k < resA.length) (h : resA[k] = s) => hr.symm.trans (res_yes hk h))
  have HN := Lib.hid (fun h => hr.symm.trans (res_no (s := s) h))
  rw [hr]
  clear hw1 hb hS hr
  go_enter Tryz.func63, Tryz.ntmps63
  go_wp2_with fail
  rw [rowR, HW.out]
  go_loopg [4] 15 (fun gg i wr => ∃ k : Nat, k ≤ 15 ∧ 15 - k ≤ gg ∧ i = .int .i64 k ∧ wr = w1 ∧ Hid (∀ j (hj : j < resA.length), j < k → resA[j] ≠ s))
  case atStart => exact ⟨0, Nat.zero_le _, by omega, rfl, rfl, Lib.hid fun j _ h => absurd h (Nat.not_lt_zero _)⟩
  case round =>
    obtain ⟨k, hk, hgk, rfl, rfl, hno⟩ := hrel
    by_cases hlt : k < 15
    · have q0 : (0 : Int) ≤ (k : Int) := by omega
      have q1 : (k : Int) < 15 := by omega
      have hkl : k < resA.length := hlt
      obtain ⟨b, off, cap, e, _, _, _, _, h5⟩ := HS.out.at_ hkl
      have e1 := Option.some.inj (Value.slice.inj e).1
      have e2 := (Addr.mk.inj e1).1
      have e3 := (Addr.mk.inj e1).2.1
      subst e2 e3
      have x0 : wr.cell? ⟨w.heap.size, k, none⟩ = some (.string resA[k]) := by simpa using h5 0 _ rfl
      obtain ⟨z, hz⟩ : ∃ z, resA[k] = z := ⟨_, rfl⟩
      rw [hz] at x0
      clear h5 e e1
      by_cases hq : z = s
      · have q2 : (z.toList == s.toList) = true := eq_toList.2 hq
        have E := HY.out k hkl (hz.trans hq)
        have HE := Lib.hid E
        clear E hq hz
        go_wp2_with fail
        go_ret
        exact ⟨by rw [HE.out]; rfl, HB.out⟩
      · have q2 : (z.toList == s.toList) = false := by
          rw [Bool.eq_false_iff]
          exact fun h => hq (eq_toList.1 h)
        have HZ := Lib.hid (show resA[k] ≠ s from fun h => hq (hz.symm.trans h))
        clear hq hz
        go_wp2_with fail
        go_roundg (15 - (k + 1))
        case measure => omega
        case rel =>
          refine ⟨k + 1, by omega, by omega, by go_num, rfl, Lib.hid fun j hj h => ?_⟩
          rcases Nat.lt_or_eq_of_le (Nat.le_of_lt_succ h) with h | rfl
          · exact hno.out j hj h
          · exact HZ.out
    · have t1 : ¬ (k : Int) < 15 := by omega
      have HE := Lib.hid (HN.out fun j hj => hno.out j hj (by have : j < 15 := hj; omega))
      go_wp2_with fail
      go_ret
      exact ⟨by rw [HE.out]; rfl, HB.out⟩
set_option maxHeartbeats 1000000 in
theorem yword_any (s : ByteArray) (w : World) (hs : s.size ≤ maxLen) : Calls Tryz.prog 62 #[.string s] w fun e w' => e = .returned (.bool (Nm.word s.data.toList)) ∧ w = w' := by
  unfold maxLen at hs
  have hlen := Nm.len_size s
  by_cases h0 : s.size = 0
  · have e : Nm.word s.data.toList = false := by unfold Nm.word; rw [decide_eq_false (show ¬ 0 < s.data.toList.length by omega)]; rfl
    have q1 : ((s.size : Int) == 0) = true := beq_iff_eq.2 (by omega)
    rw [e]
    clear e hlen
    go_enter Tryz.func62, Tryz.ntmps62
    go_wp2_with fail
    go_ret
    exact ⟨rfl, rfl⟩
  have q1 : ((s.size : Int) == 0) = false := beq_eq_false_iff_ne.2 (by omega)
  by_cases h2 : (24 : Int) < (s.size : Int)
  · have e : Nm.word s.data.toList = false := by unfold Nm.word; rw [decide_eq_false (show ¬ s.data.toList.length ≤ 24 by omega), Bool.and_false]; rfl
    rw [e]
    clear e hlen
    go_enter Tryz.func62, Tryz.ntmps62
    go_wp2_with fail
    go_ret
    exact ⟨rfl, rfl⟩
  have hp : 0 < s.size := by omega
  have hhd := Nm.head_at s hp
  have E := Lib.hid (show Nm.word s.data.toList = (Nm.low s[0] && s.data.toList.all Nm.more) by
    unfold Nm.word
    rw [hhd, decide_eq_true (show 0 < s.data.toList.length by omega), decide_eq_true (show s.data.toList.length ≤ 24 by omega)]; simp)
  rw [E.out]
  cases hl : Nm.low s[0]
  · rw [Bool.false_and]
    clear hhd E hlen
    go_enter Tryz.func62, Tryz.ntmps62
    go_wp2_with (go_at_call 81; refine (yletter_any _ _).mono ?_; rintro e w' ⟨rfl, rfl⟩)
    go_ret
    exact ⟨rfl, rfl⟩
  · rw [Bool.true_and]
    have HNO := Lib.hid (fun k (hk : k < s.size) (h : Nm.more s[k] = false) => (show s.data.toList.all Nm.more = false by
      rw [Bool.eq_false_iff]
      intro hall
      rw [List.all_eq_true] at hall
      have := hall _ (List.getElem_mem (show k < s.data.toList.length by omega))
      rw [← Nm.byte_at s hk] at h
      rw [this] at h
      cases h))
    have HYES := Lib.hid (fun (h : ∀ k (hk : k < s.size), Nm.more s[k] = true) => (show s.data.toList.all Nm.more = true by
      rw [List.all_eq_true]
      intro x hx
      obtain ⟨k, hk, rfl⟩ := List.getElem_of_mem hx
      have := h k (by omega)
      rwa [← Nm.byte_at s (by omega)] at this))
    clear hhd E
    generalize s.data.toList.all Nm.more = r at *
    go_enter Tryz.func62, Tryz.ntmps62
    go_wp2_with (go_at_call 81; refine (yletter_any _ _).mono ?_; rintro e w' ⟨rfl, rfl⟩)
    go_loopg [3] s.size (fun gg i wr => ∃ k : Nat, k ≤ s.size ∧ s.size - k ≤ gg ∧ i = .int .i64 k ∧ wr = w ∧ Hid (∀ j (hj : j < s.size), j < k → Nm.more s[j] = true))
    case atStart => exact ⟨0, Nat.zero_le _, by omega, rfl, rfl, Lib.hid fun j _ h => absurd h (Nat.not_lt_zero _)⟩
    case round =>
      obtain ⟨k, hk, hgk, rfl, rfl, hall⟩ := hrel
      by_cases hlt : k < s.size
      · have q2 : (k : Int) < (s.size : Int) := by omega
        cases hm : Nm.more s[k]
        · have HE := Lib.hid (HNO.out k hlt hm)
          go_wp2_with (go_at_call 82; refine (ymore_any _ _).mono ?_; rintro e w' ⟨rfl, rfl⟩)
          go_ret
          exact ⟨by rw [HE.out]; rfl, rfl⟩
        · go_wp2_with (go_at_call 82; refine (ymore_any _ _).mono ?_; rintro e w' ⟨rfl, rfl⟩)
          go_roundg (s.size - (k + 1))
          case measure => omega
          case rel =>
            refine ⟨k + 1, by omega, by omega, by go_num, rfl, Lib.hid fun j hj h => ?_⟩
            rcases Nat.lt_or_eq_of_le (Nat.le_of_lt_succ h) with h | rfl
            · exact hall.out j hj h
            · exact hm
      · have HE := Lib.hid (HYES.out fun j hj => hall.out j hj (by omega))
        have q2 : ¬ (k : Int) < (s.size : Int) := by omega
        go_wp2_with fail
        go_ret
        exact ⟨by rw [HE.out]; rfl, rfl⟩
set_option maxHeartbeats 1000000 in
theorem yname_any (s : ByteArray) (w : World) (hs : s.size ≤ maxLen) : Calls Tryz.prog 27 #[.string s] w fun e w' => e = .returned (.bool (Nm.name s.data.toList)) ∧ Below w.heap.size w w' := by
  have HW := Lib.hid (yword_any s w hs)
  have HR := Lib.hid (yres_any s w)
  unfold Nm.name
  generalize Nm.word s.data.toList = a at *
  generalize Nm.res s.data.toList = b at *
  cases a
  · go_enter Tryz.func27, Tryz.ntmps27
    go_wp2_with fail
    refine HW.out.mono ?_
    rintro e w' ⟨rfl, rfl⟩
    go_wp2_with fail
    go_ret
    exact ⟨rfl, Below.refl _ _⟩
  · go_enter Tryz.func27, Tryz.ntmps27
    go_wp2_with fail
    refine HW.out.mono ?_
    rintro e w' ⟨rfl, rfl⟩
    go_wp2_with fail
    refine HR.out.mono ?_
    rintro e w1 ⟨rfl, hb⟩
    have HB := Lib.hid hb
    clear hb
    go_wp2_with fail
    go_ret
    exact ⟨rfl, HB.out⟩
end Go.Proofs.YteonefgbdphmiaaGreatDoor
