/- The walks of timetableref04: letter, digit, more, Reserved, word, Name. -/
import Derived.Test.YtlclkeihkkpdbaaGreatDoorLx
import Derived.Test.YtlclkeihkkpdbaaGreatDoorNb
import Derived.Deep.CutBlock
import Derived.Deep.CutRange
import Derived.Deep.DeepCutAuto
import Derived.Test.YtlclkeihkkpdbaaGreatDoorPy
import Derived.Test.YtlclkeihkkpdbaaGreatDoorTq
import Derived.Lib.SmallJoins
import Derived.WalkKit
import Derived.WalkSpells
import Derived.WalkLawsBesides
import Derived.Test.YtlclkeihkkpdbaaGreatDoorLc
namespace Go.Proofs.YtlclkeihkkpdbaaGreatDoor
open Go.RowKit
set_option maxHeartbeats 400000 in
theorem yletter_any (c : UInt8) (w : World) : Calls Tryz.prog 33 #[.int .u8 (c.toNat : Int)] w fun e w' => e = .returned (.bool (Nm.low c)) ∧ w = w' := by
  by_cases h1 : 97 ≤ c.toNat
  · have q1 : (97 : Int) ≤ (c.toNat : Int) := by omega
    by_cases h2 : c.toNat ≤ 122
    · have q2 : (c.toNat : Int) ≤ 122 := by omega
      rw [show Nm.low c = true from decide_eq_true ⟨h1, h2⟩]
      go_enter Tryz.func33, Tryz.ntmps33
      go_wp2
      go_ret
      exact ⟨rfl, rfl⟩
    · have q2 : ¬ (c.toNat : Int) ≤ 122 := by omega
      rw [show Nm.low c = false from decide_eq_false fun h => h2 h.2]
      go_enter Tryz.func33, Tryz.ntmps33
      go_wp2
      go_ret
      exact ⟨rfl, rfl⟩
  · have q1 : ¬ (97 : Int) ≤ (c.toNat : Int) := by omega
    rw [show Nm.low c = false from decide_eq_false fun h => h1 h.1]
    go_enter Tryz.func33, Tryz.ntmps33
    go_wp2
    go_ret
    exact ⟨rfl, rfl⟩
set_option maxHeartbeats 400000 in
theorem ydigit_any (c : UInt8) (w : World) : Calls Tryz.prog 34 #[.int .u8 (c.toNat : Int)] w fun e w' => e = .returned (.bool (Nm.dig c)) ∧ w = w' := by
  by_cases h1 : 48 ≤ c.toNat
  · have q1 : (48 : Int) ≤ (c.toNat : Int) := by omega
    by_cases h2 : c.toNat ≤ 57
    · have q2 : (c.toNat : Int) ≤ 57 := by omega
      rw [show Nm.dig c = true from decide_eq_true ⟨h1, h2⟩]
      go_enter Tryz.func34, Tryz.ntmps34
      go_wp2
      go_ret
      exact ⟨rfl, rfl⟩
    · have q2 : ¬ (c.toNat : Int) ≤ 57 := by omega
      rw [show Nm.dig c = false from decide_eq_false fun h => h2 h.2]
      go_enter Tryz.func34, Tryz.ntmps34
      go_wp2
      go_ret
      exact ⟨rfl, rfl⟩
  · have q1 : ¬ (48 : Int) ≤ (c.toNat : Int) := by omega
    rw [show Nm.dig c = false from decide_eq_false fun h => h1 h.1]
    go_enter Tryz.func34, Tryz.ntmps34
    go_wp2
    go_ret
    exact ⟨rfl, rfl⟩
set_option maxHeartbeats 1000000 in
set_option maxRecDepth 100000 in
theorem ymore_any (c : UInt8) (w : World) : Calls Tryz.prog 54 #[.int .u8 (c.toNat : Int)] w fun e w' => e = .returned (.bool (Nm.more c)) ∧ w = w' := by
  unfold Nm.more
  cases hl : Nm.low c
  · cases hd : Nm.dig c
    · by_cases h1 : c.toNat = 45
      · have q1 : ((c.toNat : Int) == 45) = true := by simp [h1]
        rw [show Nm.joinB c = true by simp [Nm.joinB, h1]]
        clear h1
        go_enter Tryz.func54, Tryz.ntmps54
        go_wp2_with (first | (go_at_call 33; refine (yletter_any _ _).mono ?_; rintro e w' ⟨rfl, rfl⟩) | (go_at_call 34; refine (ydigit_any _ _).mono ?_; rintro e w' ⟨rfl, rfl⟩))
        go_ret
        exact ⟨rfl, rfl⟩
      · have q1 : ((c.toNat : Int) == 45) = false := by simp; omega
        by_cases h2 : c.toNat = 95
        · have q2 : ((c.toNat : Int) == 95) = true := by simp [h2]
          rw [show Nm.joinB c = true by simp [Nm.joinB, h2]]
          clear h1 h2
          go_enter Tryz.func54, Tryz.ntmps54
          go_wp2_with (first | (go_at_call 33; refine (yletter_any _ _).mono ?_; rintro e w' ⟨rfl, rfl⟩) | (go_at_call 34; refine (ydigit_any _ _).mono ?_; rintro e w' ⟨rfl, rfl⟩))
          go_ret
          exact ⟨rfl, rfl⟩
        · have q2 : ((c.toNat : Int) == 95) = false := by simp; omega
          rw [show Nm.joinB c = false by simp [Nm.joinB, h1, h2]]
          clear h1 h2
          go_enter Tryz.func54, Tryz.ntmps54
          go_wp2_with (first | (go_at_call 33; refine (yletter_any _ _).mono ?_; rintro e w' ⟨rfl, rfl⟩) | (go_at_call 34; refine (ydigit_any _ _).mono ?_; rintro e w' ⟨rfl, rfl⟩))
          go_ret
          exact ⟨rfl, rfl⟩
    · skip
      go_enter Tryz.func54, Tryz.ntmps54
      go_wp2_with (first | (go_at_call 33; refine (yletter_any _ _).mono ?_; rintro e w' ⟨rfl, rfl⟩) | (go_at_call 34; refine (ydigit_any _ _).mono ?_; rintro e w' ⟨rfl, rfl⟩))
      go_ret
      exact ⟨rfl, rfl⟩
  · skip
    go_enter Tryz.func54, Tryz.ntmps54
    go_wp2_with (first | (go_at_call 33; refine (yletter_any _ _).mono ?_; rintro e w' ⟨rfl, rfl⟩) | (go_at_call 34; refine (ydigit_any _ _).mono ?_; rintro e w' ⟨rfl, rfl⟩))
    go_ret
    exact ⟨rfl, rfl⟩
theorem rowR : (#[.string ⟨#[104, 111, 114, 105, 122, 111, 110]⟩, .string ⟨#[115, 116, 111, 112]⟩, .string ⟨#[112, 97, 116, 104]⟩, .string ⟨#[100, 111, 111, 114]⟩, .string ⟨#[114, 111, 117, 116, 101]⟩, .string ⟨#[116, 114, 105, 112]⟩, .string ⟨#[104, 97, 122, 97, 114, 100]⟩, .string ⟨#[102, 114, 111, 109]⟩, .string ⟨#[101, 118, 101, 114, 121]⟩, .string ⟨#[111, 112, 101, 110]⟩, .string ⟨#[99, 108, 111, 115, 101, 100]⟩, .string ⟨#[111, 102]⟩, .string ⟨#[111, 110]⟩, .string ⟨#[117, 110, 116, 105, 108]⟩, .string ⟨#[115, 116, 97, 121]⟩] : Array Value) = (resA.flatMap sc).toArray := by rfl
set_option maxHeartbeats 1000000 in
theorem yres_any (s : ByteArray) (w : World) : Calls Tryz.prog 50 #[.string s] w fun e w' => e = .returned (.bool (Nm.res s.data.toList)) ∧ Below w.heap.size w w' := by
  obtain ⟨w1, hw1⟩ : ∃ w1, w.alloc (.cells (resA.flatMap sc).toArray 9) = w1 := ⟨_, rfl⟩
  have hb : Below w.heap.size w w1 := by rw [← hw1]; exact (Below.refl _ _).alloc (Nat.le_refl _) _
  have hS : Sl sc 1 w1 (.slice (some ⟨w.heap.size, 0, none⟩) 15 15) resA (fun _ => True) := by rw [← hw1]; exact slRes w
  have HB := Lib.hid hb
  have HS := Lib.hid hS
  have HW := Lib.hid hw1
  obtain ⟨r, hr⟩ : ∃ r, Nm.res s.data.toList = r := ⟨_, rfl⟩
  have HY := Lib.hid (fun k (hk : k < resA.length) (h : resA[k] = s) => hr.symm.trans (res_yes hk h))
  have HN := Lib.hid (fun h => hr.symm.trans (res_no (s := s) h))
  rw [hr]
  clear hw1 hb hS hr
  go_enter Tryz.func50, Tryz.ntmps50
  go_wp2_with fail
  rw [rowR, HW.out]
  go_loopg [4] 15 (fun gg i wr => ∃ k : Nat, k ≤ 15 ∧ 15 - k ≤ gg ∧ i = .int .i64 k ∧ wr = w1 ∧ Hid (∀ j (hj : j < resA.length), j < k → resA[j] ≠ s))
  case atStart => exact ⟨0, Nat.zero_le _, by omega, rfl, rfl, Lib.hid fun j _ h => absurd h (Nat.not_lt_zero _)⟩
  case round =>
    obtain ⟨k, hk, hgk, rfl, rfl, hno⟩ := hrel
    by_cases hlt : k < 15
    · have q0 : (0 : Int) ≤ (k : Int) := by omega
      have q1 : (k : Int) < 15 := by omega
      have hkl : k < resA.length := hlt
      obtain ⟨b, off, cap, e, _, _, _, _, h5⟩ := HS.out.at_ hkl
      have e1 := Option.some.inj (Value.slice.inj e).1
      have e2 := (Addr.mk.inj e1).1
      have e3 := (Addr.mk.inj e1).2.1
      subst e2 e3
      have x0 : wr.cell? ⟨w.heap.size, k, none⟩ = some (.string resA[k]) := by simpa using h5 0 _ rfl
      obtain ⟨z, hz⟩ : ∃ z, resA[k] = z := ⟨_, rfl⟩
      rw [hz] at x0
      clear h5 e e1
      by_cases hq : z = s
      · have q2 : (z.toList == s.toList) = true := eq_toList.2 hq
        have E := HY.out k hkl (hz.trans hq)
        have HE := Lib.hid E
        clear E hq hz
        go_wp2_with fail
        go_ret
        exact ⟨by rw [HE.out]; rfl, HB.out⟩
      · have q2 : (z.toList == s.toList) = false := by
          rw [Bool.eq_false_iff]
          exact fun h => hq (eq_toList.1 h)
        have HZ := Lib.hid (show resA[k] ≠ s from fun h => hq (hz.symm.trans h))
        clear hq hz
        go_wp2_with fail
        go_roundg (15 - (k + 1))
        case measure => omega
        case rel =>
          refine ⟨k + 1, by omega, by omega, by go_num, rfl, Lib.hid fun j hj h => ?_⟩
          rcases Nat.lt_or_eq_of_le (Nat.le_of_lt_succ h) with h | rfl
          · exact hno.out j hj h
          · exact HZ.out
    · have t1 : ¬ (k : Int) < 15 := by omega
      have HE := Lib.hid (HN.out fun j hj => hno.out j hj (by have : j < 15 := hj; omega))
      go_wp2_with fail
      go_ret
      exact ⟨by rw [HE.out]; rfl, HB.out⟩
set_option maxHeartbeats 1000000 in
theorem yword_any (s : ByteArray) (w : World) (hs : s.size ≤ maxLen) : Calls Tryz.prog 49 #[.string s] w fun e w' => e = .returned (.bool (Nm.word s.data.toList)) ∧ w = w' := by
  unfold maxLen at hs
  have hlen := Nm.len_size s
  by_cases h0 : s.size = 0
  · have e : Nm.word s.data.toList = false := by unfold Nm.word; rw [decide_eq_false (show ¬ 0 < s.data.toList.length by omega)]; rfl
    have q1 : ((s.size : Int) == 0) = true := beq_iff_eq.2 (by omega)
    rw [e]
    clear e hlen
    go_enter Tryz.func49, Tryz.ntmps49
    go_wp2_with fail
    go_ret
    exact ⟨rfl, rfl⟩
  have q1 : ((s.size : Int) == 0) = false := beq_eq_false_iff_ne.2 (by omega)
  by_cases h2 : (24 : Int) < (s.size : Int)
  · have e : Nm.word s.data.toList = false := by unfold Nm.word; rw [decide_eq_false (show ¬ s.data.toList.length ≤ 24 by omega), Bool.and_false]; rfl
    rw [e]
    clear e hlen
    go_enter Tryz.func49, Tryz.ntmps49
    go_wp2_with fail
    go_ret
    exact ⟨rfl, rfl⟩
  have hp : 0 < s.size := by omega
  have hhd := Nm.head_at s hp
  have E := Lib.hid (show Nm.word s.data.toList = (Nm.low s[0] && s.data.toList.all Nm.more) by
    unfold Nm.word
    rw [hhd, decide_eq_true (show 0 < s.data.toList.length by omega), decide_eq_true (show s.data.toList.length ≤ 24 by omega)]; simp)
  rw [E.out]
  cases hl : Nm.low s[0]
  · rw [Bool.false_and]
    clear hhd E hlen
    go_enter Tryz.func49, Tryz.ntmps49
    go_wp2_with (go_at_call 33; refine (yletter_any _ _).mono ?_; rintro e w' ⟨rfl, rfl⟩)
    go_ret
    exact ⟨rfl, rfl⟩
  · rw [Bool.true_and]
    have HNO := Lib.hid (fun k (hk : k < s.size) (h : Nm.more s[k] = false) => (show s.data.toList.all Nm.more = false by
      rw [Bool.eq_false_iff]
      intro hall
      rw [List.all_eq_true] at hall
      have := hall _ (List.getElem_mem (show k < s.data.toList.length by omega))
      rw [← Nm.byte_at s hk] at h
      rw [this] at h
      cases h))
    have HYES := Lib.hid (fun (h : ∀ k (hk : k < s.size), Nm.more s[k] = true) => (show s.data.toList.all Nm.more = true by
      rw [List.all_eq_true]
      intro x hx
      obtain ⟨k, hk, rfl⟩ := List.getElem_of_mem hx
      have := h k (by omega)
      rwa [← Nm.byte_at s (by omega)] at this))
    clear hhd E
    generalize s.data.toList.all Nm.more = r at *
    go_enter Tryz.func49, Tryz.ntmps49
    go_wp2_with (go_at_call 33; refine (yletter_any _ _).mono ?_; rintro e w' ⟨rfl, rfl⟩)
    go_loopg [3] s.size (fun gg i wr => ∃ k : Nat, k ≤ s.size ∧ s.size - k ≤ gg ∧ i = .int .i64 k ∧ wr = w ∧ Hid (∀ j (hj : j < s.size), j < k → Nm.more s[j] = true))
    case atStart => exact ⟨0, Nat.zero_le _, by omega, rfl, rfl, Lib.hid fun j _ h => absurd h (Nat.not_lt_zero _)⟩
    case round =>
      obtain ⟨k, hk, hgk, rfl, rfl, hall⟩ := hrel
      by_cases hlt : k < s.size
      · have q2 : (k : Int) < (s.size : Int) := by omega
        cases hm : Nm.more s[k]
        · have HE := Lib.hid (HNO.out k hlt hm)
          go_wp2_with (go_at_call 54; refine (ymore_any _ _).mono ?_; rintro e w' ⟨rfl, rfl⟩)
          go_ret
          exact ⟨by rw [HE.out]; rfl, rfl⟩
        · go_wp2_with (go_at_call 54; refine (ymore_any _ _).mono ?_; rintro e w' ⟨rfl, rfl⟩)
          go_roundg (s.size - (k + 1))
          case measure => omega
          case rel =>
            refine ⟨k + 1, by omega, by omega, by go_num, rfl, Lib.hid fun j hj h => ?_⟩
            rcases Nat.lt_or_eq_of_le (Nat.le_of_lt_succ h) with h | rfl
            · exact hall.out j hj h
            · exact hm
      · have HE := Lib.hid (HYES.out fun j hj => hall.out j hj (by omega))
        have q2 : ¬ (k : Int) < (s.size : Int) := by omega
        go_wp2_with fail
        go_ret
        exact ⟨by rw [HE.out]; rfl, rfl⟩
set_option maxHeartbeats 1000000 in
theorem yname_any (s : ByteArray) (w : World) (hs : s.size ≤ maxLen) : Calls Tryz.prog 27 #[.string s] w fun e w' => e = .returned (.bool (Nm.name s.data.toList)) ∧ Below w.heap.size w w' := by
  have HW := Lib.hid (yword_any s w hs)
  have HR := Lib.hid (yres_any s w)
  unfold Nm.name
  generalize Nm.word s.data.toList = a at *
  generalize Nm.res s.data.toList = b at *
  cases a
  · go_enter Tryz.func27, Tryz.ntmps27
    go_wp2_with fail
    refine HW.out.mono ?_
    rintro e w' ⟨rfl, rfl⟩
    go_wp2_with fail
    go_ret
    exact ⟨rfl, Below.refl _ _⟩
  · go_enter Tryz.func27, Tryz.ntmps27
    go_wp2_with fail
    refine HW.out.mono ?_
    rintro e w' ⟨rfl, rfl⟩
    go_wp2_with fail
    refine HR.out.mono ?_
    rintro e w1 ⟨rfl, hb⟩
    have HB := Lib.hid hb
    clear hb
    go_wp2_with fail
    go_ret
    exact ⟨rfl, HB.out⟩
end Go.Proofs.YtlclkeihkkpdbaaGreatDoor
/- The walks of timetableref01: Is, digits, Text, Parse (as in chapter 1). -/
namespace Go.Proofs.YtlclkeihkkpdbaaGreatDoor
open Go.RowKit
set_option maxHeartbeats 400000 in
theorem ris_any (t : Int) (w : World) :
    Calls Tryz.prog 42 #[.int .i64 t] w fun e w' => e = .returned (.bool (Tk.isT t)) ∧ w = w' := by
  rcases Tk.kinds t with ⟨h1, h2, h3⟩ | rfl | ⟨h1, h2⟩
  · rw [h1]
    have h4 : ¬ (0 ≤ t ∧ t ≤ 1099511627776) := fun h => by rw [Tk.isT_tick h] at h1; exact absurd h1 (by decide)
    by_cases h0 : t < 0
    · clear h1 h2 h4
      go_enter Tryz.func42, Tryz.ntmps42
      go_wp2
      go_ret
      exact ⟨rfl, rfl⟩
    · have h0' : 0 ≤ t := by omega
      have h5 : decide (t ≤ 1099511627776) = false := decide_eq_false (by omega)
      clear h1 h2 h4 h0
      go_enter Tryz.func42, Tryz.ntmps42
      go_wp2
      go_ret
      exact ⟨rfl, rfl⟩
  · rw [Tk.isT_inf]
    go_enter Tryz.func42, Tryz.ntmps42
    go_wp2
    go_ret
    exact ⟨rfl, rfl⟩
  · rw [Tk.isT_tick ⟨h1, h2⟩]
    go_enter Tryz.func42, Tryz.ntmps42
    go_wp2
    go_ret
    exact ⟨rfl, rfl⟩

theorem ten_piece : ∀ n : Nat, n < 10 → (⟨#[48, 49, 50, 51, 52, 53, 54, 55, 56, 57]⟩ : ByteArray).extract n (n + 1) = ⟨[UInt8.ofNat (48 + n)].toArray⟩ := by
  decide
theorem join_dec {n : Nat} (h : ¬ n < 10) : (⟨(Lib.decDigits (n / 10)).toArray⟩ : ByteArray) ++ (⟨(Lib.decDigits (n % 10)).toArray⟩ : ByteArray) = ⟨(Lib.decDigits n).toArray⟩ := by
  apply ByteArray.ext
  rw [ByteArray.data_append, Tk.dec_more h, Tk.dec_one (u := n % 10) (by omega)]
  simp
set_option maxHeartbeats 1000000 in
theorem digits_any (n : Nat) : ∀ (w : World), n < 9223372036854775808 →
    Calls Tryz.prog 43 #[.int .i64 n] w fun e w' => e = .returned (.string ⟨(Lib.decDigits n).toArray⟩) ∧ w = w' := by
  induction n using Nat.strongRecOn with
  | ind n ih =>
    intro w hn
    by_cases h : n < 10
    · have hr := ten_piece n h
      rw [Tk.dec_one h]
      clear ih
      have Hr := Lib.hid hr
      clear hr
      go_enter Tryz.func43, Tryz.ntmps43
      go_wp2_with fail
      go_ret
      refine ⟨?_, rfl⟩
      rw [← Hr.out]
      rfl
    · have H1 := Lib.hid (ih (n / 10) (by omega) w (by omega))
      have H2 := Lib.hid (ih (n % 10) (by omega) w (by omega))
      have h' : 10 ≤ (n : Int) := by omega
      have HJ := Lib.hid (join_dec h)
      have hfit : ¬ 9223372036854775807 < (Lib.decDigits (n / 10)).length + (Lib.decDigits (n % 10)).length := by
        rw [Lib.decDigits_length, Lib.decDigits_length]
        have := Lib.nDigits_le20 (n / 10) (by omega)
        have := Lib.nDigits_le20 (n % 10) (by omega)
        omega
      clear ih h
      go_enter Tryz.func43, Tryz.ntmps43
      go_wp2_with fail
      refine H1.out.mono ?_
      rintro e w' ⟨rfl, rfl⟩
      go_wp2_with fail
      refine H2.out.mono ?_
      rintro e w' ⟨rfl, rfl⟩
      go_wp2_with fail
      go_ret
      exact ⟨by rw [← HJ.out]; rfl, rfl⟩
set_option maxHeartbeats 1000000 in
theorem rtext_any (t : Int) (w : World) :
    Calls Tryz.prog 24 #[.int .i64 t] w fun e w' => e = .returned (.string ⟨(Tk.textB t).toArray⟩) ∧ w = w' := by
  have HD := Lib.hid (digits_any 0 w (by decide))
  rcases Tk.kinds t with ⟨h1, h2, h3⟩ | rfl | ⟨t1, t2⟩
  · rw [Tk.text_no h1]
    go_enter Tryz.func24, Tryz.ntmps24
    go_wp2_with (first | (go_at_call 42; refine (ris_any _ _).mono ?_; rintro e w' ⟨rfl, rfl⟩) | (go_at_call 43; refine HD.out.mono ?_; rintro e w' ⟨rfl, rfl⟩))
    go_ret
    exact ⟨rfl, rfl⟩
  · rw [show Tk.textB 4611686018427387904 = Tk.infB from by decide]
    have h1 := Tk.isT_inf
    go_enter Tryz.func24, Tryz.ntmps24
    go_wp2_with (first | (go_at_call 42; refine (ris_any _ _).mono ?_; rintro e w' ⟨rfl, rfl⟩) | (go_at_call 43; refine HD.out.mono ?_; rintro e w' ⟨rfl, rfl⟩))
    go_ret
    exact ⟨rfl, rfl⟩
  · have h1 := Tk.isT_tick ⟨t1, t2⟩
    have h3 : (t == 4611686018427387904) = false := beq_eq_false_iff_ne.2 (by omega)
    obtain ⟨u, rfl⟩ := Int.eq_ofNat_of_zero_le t1
    have hr : Tk.textB (u : Int) = Lib.decDigits u := by unfold Tk.textB; rw [if_neg (by omega), if_pos h1, Lib.itoa_nonneg]
    rw [hr]
    clear HD hr
    have HD := Lib.hid (digits_any u w (by omega))
    go_enter Tryz.func24, Tryz.ntmps24
    go_wp2_with (first | (go_at_call 42; refine (ris_any _ _).mono ?_; rintro e w' ⟨rfl, rfl⟩) | (go_at_call 43; refine HD.out.mono ?_; rintro e w' ⟨rfl, rfl⟩))
    go_ret
    exact ⟨rfl, rfl⟩

/-- The first loop's state. -/
def RIn (s : ByteArray) (s5 : Value) : Prop := ∃ k : Nat, s5 = .int .i64 k ∧ k ≤ s.size ∧ Hid (∀ j, j < k → Tk.isDig (s.data.toList.getD j 0) = true)
theorem RIn.step {s : ByteArray} {k : Nat} (hk : k < s.size) (h : Hid (∀ j, j < k → Tk.isDig (s.data.toList.getD j 0) = true)) {c : UInt8} (hc : Hid (s.data.toList.getD k 0 = c)) (hd : Hid (Tk.isDig c = true)) :
    RIn s (.int .i64 (k + 1 : Nat)) := by
  refine ⟨k + 1, rfl, hk, Lib.hid fun j hj => ?_⟩
  rcases Nat.lt_succ_iff_lt_or_eq.1 hj with h1 | rfl
  · exact h.out j h1
  · rw [hc.out]; exact hd.out
theorem getD_at (s : ByteArray) (k : Nat) (h : k < s.size) : s.data.toList.getD k 0 = s[k] := by
  rw [List.getD_eq_getElem?_getD, List.getElem?_eq_getElem (by simpa using h)]
  simp
  rfl

/-- The second loop's state: the number so far. -/
def RVal (s : ByteArray) (s4 s6 : Value) : Prop := ∃ k N : Nat, s6 = .int .i64 k ∧ s4 = .int .i64 N ∧ k ≤ s.size ∧ Hid (Tk.val 0 (s.data.toList.take k) = N) ∧ N ≤ 1099511627776
theorem val_take {s : ByteArray} {k N : Nat} {c : UInt8} (hk : k < s.size) (hN : Tk.val 0 (s.data.toList.take k) = N) (hc : s.data.toList.getD k 0 = c) : Tk.val 0 (s.data.toList.take (k + 1)) = N * 10 + (c.toNat - 48) := by
  have hl : k < s.data.toList.length := by simpa using hk
  rw [List.take_succ_eq_append_getElem hl, Tk.val_snoc, hN, ← hc, List.getD_eq_getElem?_getD, List.getElem?_eq_getElem hl]
  rfl
theorem RVal.step {s : ByteArray} {k N : Nat} {c : UInt8} (hk : k < s.size) (h : Hid (Tk.val 0 (s.data.toList.take (k + 1)) = N * 10 + (c.toNat - 48))) (hc : 48 ≤ c.toNat) (hm : 10 * (N : Int) + ((c.toNat : Int) - 48) ≤ 1099511627776) :
    RVal s (.int .i64 (10 * (N : Int) + ((c.toNat : Int) - 48))) (.int .i64 ((k : Int) + 1)) :=
  ⟨k + 1, N * 10 + (c.toNat - 48), rfl, by congr 1; omega, hk, h, by omega⟩
theorem val_all_ge (l : List UInt8) (k : Nat) : Tk.val 0 (l.take k) ≤ Tk.val 0 l := by
  have : Tk.val 0 l = Tk.val (Tk.val 0 (l.take k)) (l.drop k) := by
    unfold Tk.val
    rw [← List.foldl_append, List.take_append_drop]
  rw [this]
  exact Tk.val_ge _ _

set_option maxHeartbeats 1000000 in
theorem rparse_any (s : ByteArray) (w : World) (hs : s.size ≤ 1099511627776) :
    Calls Tryz.prog 66 #[.string s] w fun e w' => e = .returned (.tuple #[.int .i64 (Tk.parseV s.data.toList), .int .i64 (Tk.parseE s.data.toList)]) ∧ w = w' := by
  have hlen : s.data.toList.length = s.size := by simp
  by_cases h1 : s.data.toList = Tk.infB
  · have h1' : (s.toList == [105, 110, 102]) = true := by rw [ByteArray.toList_eq, h1]; rfl
    have hE : Tk.parseE s.data.toList = 0 := by unfold Tk.parseE; rw [if_pos h1]
    have hV : Tk.parseV s.data.toList = 4611686018427387904 := by unfold Tk.parseV; rw [if_pos h1]
    rw [hE, hV]
    clear hlen hE hV h1
    go_enter Tryz.func66, Tryz.ntmps66
    go_wp2_with fail
    go_ret2
    exact ⟨rfl, rfl⟩
  · have h1' : (s.toList == [105, 110, 102]) = false := by rw [ByteArray.toList_eq]; exact beq_eq_false_iff_ne.2 h1
    by_cases hb : s.data.toList = []
    · have hE : Tk.parseE s.data.toList = 7 := by unfold Tk.parseE; rw [if_neg h1, if_pos (by rw [hb]; rfl)]
      have hV : Tk.parseV s.data.toList = 0 := by unfold Tk.parseV; rw [if_neg h1, hE, if_neg (by decide)]
      rw [hE, hV]
      have hb' : s = ByteArray.empty := by apply ByteArray.ext; simpa using hb
      subst hb'
      clear hlen hE hV hb h1
      go_enter Tryz.func66, Tryz.ntmps66
      go_wp2_with fail
      go_ret2
      exact ⟨rfl, rfl⟩
    have h0 : 0 < s.size := by rw [← hlen]; exact List.length_pos_iff.2 hb
    have hb1 : ¬ s = ByteArray.empty := fun e => by rw [e] at h0; exact absurd h0 (by decide)
    have hb2 : ((s.size : Int) == 0) = false := beq_eq_false_iff_ne.2 (by omega)
    by_cases hz1 : (s.size : Int) ≤ 1
    · have hbad : Tk.badNum s.data.toList = !s.data.toList.all Tk.isDig := by
        unfold Tk.badNum
        rw [List.isEmpty_eq_false_iff.2 hb, decide_eq_false (by rw [hlen]; omega), Bool.false_and, Bool.false_or, Bool.false_or]
      go_enter Tryz.func66, Tryz.ntmps66
      go_wp2_with fail
      go_loopw [5] (fun s5 wr => RIn s s5 ∧ wr = w) (fun s5 _ => s.size - (intOf s5).toNat)
      case atStart => exact ⟨⟨0, rfl, Nat.zero_le _, Lib.hid fun j hj => absurd hj (Nat.not_lt_zero _)⟩, rfl⟩
      case round =>
        obtain ⟨⟨k, rfl, hk, hdig⟩, rfl⟩ := hrel
        by_cases hlt : k < s.size
        · have hat := Lib.hid (getD_at s k hlt)
          by_cases hd : Tk.isDig s[k] = true
          · have Hd := Lib.hid hd
            have hd1 : (48 : Int) ≤ (s[k].toNat : Int) := by have := (Tk.isDig_iff.1 hd).1; omega
            have hd2 : (s[k].toNat : Int) ≤ 57 := by have := (Tk.isDig_iff.1 hd).2; omega
            clear hd
            go_wp2_with fail
            exact ⟨⟨RIn.step hlt hdig hat Hd, trivial⟩, by simp only [intOf]; omega⟩
          · have hE : Tk.parseE s.data.toList = 7 := by
              unfold Tk.parseE; rw [if_neg h1, if_pos (by rw [hbad, not_digs (by rw [hlen]; exact hlt) (by rw [hat.out]; exact hd)]; rfl)]
            have hV : Tk.parseV s.data.toList = 0 := by unfold Tk.parseV; rw [if_neg h1, hE, if_neg (by decide)]
            have HE := Lib.hid hE
            have HV := Lib.hid hV
            clear hE hV hbad
            by_cases hd1 : (48 : Int) ≤ (s[k].toNat : Int)
            · have hd2 : (57 : Int) < (s[k].toNat : Int) := by
                have : ¬ (48 ≤ s[k].toNat ∧ s[k].toNat ≤ 57) := fun h => hd (Tk.isDig_iff.2 h)
                omega
              clear hd
              go_wp2_with fail
              go_ret2
              exact ⟨by rw [HE.out, HV.out]; rfl, rfl⟩
            · have hd2 : (s[k].toNat : Int) < 48 := by omega
              clear hd hd1
              go_wp2_with fail
              go_ret2
              exact ⟨by rw [HE.out, HV.out]; rfl, rfl⟩
        · have hks : k = s.size := by omega
          subst hks
          have hall : s.data.toList.all Tk.isDig = true := all_digs fun j hj => hdig.out j (by rw [hlen] at hj; omega)
          have Hall := Lib.hid hall
          rw [hall] at hbad
          have Hbad := Lib.hid hbad
          clear hall hbad hdig hlt hk
          go_wp2_with fail
          go_loopw [4, 6] (fun s4 s6 wx => RVal s s4 s6 ∧ wx = wr) (fun _ s6 _ => s.size - (intOf s6).toNat)
          case atStart => exact ⟨⟨0, _, rfl, rfl, Nat.zero_le _, Lib.hid rfl, by decide⟩, rfl⟩
          case round =>
            obtain ⟨⟨k, N, rfl, rfl, hk, hN, hle⟩, rfl⟩ := hrel
            by_cases hlt : k < s.size
            · have hat := Lib.hid (getD_at s k hlt)
              have hdg := Tk.isDig_iff.1 (show Tk.isDig s[k] = true by rw [← hat.out]; exact List.all_eq_true.1 Hall.out _ (getD_in (by rw [hlen]; exact hlt)))
              have HN := Lib.hid (val_take hlt hN.out hat.out)
              obtain ⟨hd1, hd2⟩ := hdg
              by_cases hm : 10 * (N : Int) + ((s[k].toNat : Int) - 48) ≤ 1099511627776
              · have HR := Lib.hid (RVal.step hlt HN hd1 (by omega))
                go_wp2_with fail
                exact ⟨⟨HR.out, trivial⟩, by simp only [intOf]; omega⟩
              · have hE : Tk.parseE s.data.toList = 9 := by
                  have := val_all_ge s.data.toList (k + 1)
                  rw [HN.out] at this
                  unfold Tk.parseE; rw [if_neg h1, if_neg (by rw [Hbad.out]; decide), if_neg (by omega)]
                have hV : Tk.parseV s.data.toList = 0 := by unfold Tk.parseV; rw [if_neg h1, hE, if_neg (by decide)]
                have HE := Lib.hid hE
                have HV := Lib.hid hV
                clear hE hV
                have hm : 1099511627776 < 10 * (N : Int) + ((s[k].toNat : Int) - 48) := by omega
                go_wp2_with fail
                go_ret2
                exact ⟨by rw [HE.out, HV.out]; rfl, rfl⟩
            · have hN' : Tk.val 0 s.data.toList = N := by
                have := hN.out
                rwa [List.take_of_length_le (by rw [hlen]; omega)] at this
              have hE : Tk.parseE s.data.toList = 0 := by
                unfold Tk.parseE; rw [if_neg h1, if_neg (by rw [Hbad.out]; decide), if_pos (by omega)]
              have hV : Tk.parseV s.data.toList = N := by unfold Tk.parseV; rw [if_neg h1, if_pos hE, hN']
              have HE := Lib.hid hE
              have HV := Lib.hid hV
              clear hE hV hN'
              go_wp2_with fail
              go_ret2
              exact ⟨by rw [HE.out, HV.out]; rfl, rfl⟩
    · have hz1 : 1 < (s.size : Int) := by omega
      have hhd : s.data.toList.head? = some s[0] := by
        rw [List.head?_eq_getElem?]; simp [h0]; rfl
      by_cases hz : (((s[0]).toNat : Int) == 48) = true
      · have hE : Tk.parseE s.data.toList = 7 := by
          have : s[0] = 48 := by
            have := beq_iff_eq.1 hz
            apply UInt8.toNat_inj.1
            simp; omega
          unfold Tk.parseE; rw [if_neg h1, if_pos (by unfold Tk.badNum; rw [hhd, decide_eq_true (by rw [hlen]; omega), this]; simp)]
        have hV : Tk.parseV s.data.toList = 0 := by unfold Tk.parseV; rw [if_neg h1, hE, if_neg (by decide)]
        rw [hE, hV]
        clear hlen hE hV hb h1 hhd
        go_enter Tryz.func66, Tryz.ntmps66
        go_wp2_with fail
        go_ret2
        exact ⟨rfl, rfl⟩
      · have hz : (((s[0]).toNat : Int) == 48) = false := by simpa using hz
        have hbad : Tk.badNum s.data.toList = !s.data.toList.all Tk.isDig := by
          have : (s.data.toList.head? == some 48) = false := by
            rw [hhd]
            refine beq_eq_false_iff_ne.2 fun e => ?_
            injection e with e
            rw [e] at hz
            exact absurd hz (by decide)
          unfold Tk.badNum
          rw [List.isEmpty_eq_false_iff.2 hb, this, Bool.and_false, Bool.false_or, Bool.false_or]
        clear hhd
        go_enter Tryz.func66, Tryz.ntmps66
        go_wp2_with fail
        go_loopw [5] (fun s5 wr => RIn s s5 ∧ wr = w) (fun s5 _ => s.size - (intOf s5).toNat)
        case atStart => exact ⟨⟨0, rfl, Nat.zero_le _, Lib.hid fun j hj => absurd hj (Nat.not_lt_zero _)⟩, rfl⟩
        case round =>
          obtain ⟨⟨k, rfl, hk, hdig⟩, rfl⟩ := hrel
          by_cases hlt : k < s.size
          · have hat := Lib.hid (getD_at s k hlt)
            by_cases hd : Tk.isDig s[k] = true
            · have Hd := Lib.hid hd
              have hd1 : (48 : Int) ≤ (s[k].toNat : Int) := by have := (Tk.isDig_iff.1 hd).1; omega
              have hd2 : (s[k].toNat : Int) ≤ 57 := by have := (Tk.isDig_iff.1 hd).2; omega
              clear hd
              go_wp2_with fail
              exact ⟨⟨RIn.step hlt hdig hat Hd, trivial⟩, by simp only [intOf]; omega⟩
            · have hE : Tk.parseE s.data.toList = 7 := by
                unfold Tk.parseE; rw [if_neg h1, if_pos (by rw [hbad, not_digs (by rw [hlen]; exact hlt) (by rw [hat.out]; exact hd)]; rfl)]
              have hV : Tk.parseV s.data.toList = 0 := by unfold Tk.parseV; rw [if_neg h1, hE, if_neg (by decide)]
              have HE := Lib.hid hE
              have HV := Lib.hid hV
              clear hE hV hbad
              by_cases hd1 : (48 : Int) ≤ (s[k].toNat : Int)
              · have hd2 : (57 : Int) < (s[k].toNat : Int) := by
                  have : ¬ (48 ≤ s[k].toNat ∧ s[k].toNat ≤ 57) := fun h => hd (Tk.isDig_iff.2 h)
                  omega
                clear hd
                go_wp2_with fail
                go_ret2
                exact ⟨by rw [HE.out, HV.out]; rfl, rfl⟩
              · have hd2 : (s[k].toNat : Int) < 48 := by omega
                clear hd hd1
                go_wp2_with fail
                go_ret2
                exact ⟨by rw [HE.out, HV.out]; rfl, rfl⟩
          · have hks : k = s.size := by omega
            subst hks
            have hall : s.data.toList.all Tk.isDig = true := all_digs fun j hj => hdig.out j (by rw [hlen] at hj; omega)
            have Hall := Lib.hid hall
            rw [hall] at hbad
            have Hbad := Lib.hid hbad
            clear hall hbad hdig hlt hk
            go_wp2_with fail
            go_loopw [4, 6] (fun s4 s6 wx => RVal s s4 s6 ∧ wx = wr) (fun _ s6 _ => s.size - (intOf s6).toNat)
            case atStart => exact ⟨⟨0, _, rfl, rfl, Nat.zero_le _, Lib.hid rfl, by decide⟩, rfl⟩
            case round =>
              obtain ⟨⟨k, N, rfl, rfl, hk, hN, hle⟩, rfl⟩ := hrel
              by_cases hlt : k < s.size
              · have hat := Lib.hid (getD_at s k hlt)
                have hdg := Tk.isDig_iff.1 (show Tk.isDig s[k] = true by rw [← hat.out]; exact List.all_eq_true.1 Hall.out _ (getD_in (by rw [hlen]; exact hlt)))
                have HN := Lib.hid (val_take hlt hN.out hat.out)
                obtain ⟨hd1, hd2⟩ := hdg
                by_cases hm : 10 * (N : Int) + ((s[k].toNat : Int) - 48) ≤ 1099511627776
                · have HR := Lib.hid (RVal.step hlt HN hd1 (by omega))
                  go_wp2_with fail
                  exact ⟨⟨HR.out, trivial⟩, by simp only [intOf]; omega⟩
                · have hE : Tk.parseE s.data.toList = 9 := by
                    have := val_all_ge s.data.toList (k + 1)
                    rw [HN.out] at this
                    unfold Tk.parseE; rw [if_neg h1, if_neg (by rw [Hbad.out]; decide), if_neg (by omega)]
                  have hV : Tk.parseV s.data.toList = 0 := by unfold Tk.parseV; rw [if_neg h1, hE, if_neg (by decide)]
                  have HE := Lib.hid hE
                  have HV := Lib.hid hV
                  clear hE hV
                  have hm : 1099511627776 < 10 * (N : Int) + ((s[k].toNat : Int) - 48) := by omega
                  go_wp2_with fail
                  go_ret2
                  exact ⟨by rw [HE.out, HV.out]; rfl, rfl⟩
              · have hN' : Tk.val 0 s.data.toList = N := by
                  have := hN.out
                  rwa [List.take_of_length_le (by rw [hlen]; omega)] at this
                have hE : Tk.parseE s.data.toList = 0 := by
                  unfold Tk.parseE; rw [if_neg h1, if_neg (by rw [Hbad.out]; decide), if_pos (by omega)]
                have hV : Tk.parseV s.data.toList = N := by unfold Tk.parseV; rw [if_neg h1, if_pos hE, hN']
                have HE := Lib.hid hE
                have HV := Lib.hid hV
                clear hE hV hN'
                go_wp2_with fail
                go_ret2
                exact ⟨by rw [HE.out, HV.out]; rfl, rfl⟩
end Go.Proofs.YtlclkeihkkpdbaaGreatDoor
/- The walks of timetableref04: number, one. -/
namespace Go.Proofs.YtlclkeihkkpdbaaGreatDoor
open Go.RowKit
def zeroT : TokD := ⟨0, [], 0, 0, 0⟩
theorem results_cttt {P : Program} {fn : Func} {p q r s : Tmp} {ty : TypeId} (h : fn.results = #[.cell p ty, .tmp q, .tmp r, .tmp s]) (tmps : Array Value) (w : World) (g : Nat) (t : TypeId) (cs : Array Value) (fr : Nat × Nat) (d : TypeDesc)
    (hp : tmps.getD p undef = .pointer (some ⟨g, 0, none⟩)) (hg : w.heap[g]? = some (.cells cs t fr))
    (hu : P.underlying ty = some d) (hd : (match d with | .struct _ | .array _ _ => true | _ => false) = true) (hi : (P.info? ty).map (·.size) = some cs.size) :
    (results fn tmps).run P w = .ok (.tuple #[.agg cs, tmps.getD q undef, tmps.getD r undef, tmps.getD s undef]) w := by
  have hp' : tmps[p]?.getD undef = .pointer (some ⟨g, 0, none⟩) := by simpa using hp
  simp [results, h, hp', asAddr, run_loadVar_row w g t ty cs fr d hg hu hd hi]
/-- What number tells: the token, how many bytes, the error, how far behind. -/
def refNum (L : List UInt8) : TokD × Nat × Int × Nat :=
  if Nm.pre Nm.dig L < L.length ∧ Nm.more (L.getD (Nm.pre Nm.dig L) 0) = true then
    if 1 < Nm.pre Nm.dig L ∧ L.headD 0 = 48 then (zeroT, 0, 7, 0)
    else if Tk.parseE (L.take (Nm.pre Nm.dig L)) ≠ 0 then (zeroT, 0, 3, 0) else (zeroT, 0, 7, Nm.pre Nm.dig L)
  else if Tk.parseE (L.take (Nm.pre Nm.dig L)) = 7 then (zeroT, 0, 7, 0)
  else if Tk.parseE (L.take (Nm.pre Nm.dig L)) ≠ 0 then (zeroT, 0, 3, 0)
  else (⟨3, L.take (Nm.pre Nm.dig L), Tk.parseV (L.take (Nm.pre Nm.dig L)), 0, 0⟩, Nm.pre Nm.dig L, 0, 0)
theorem ba_cut0 (s : ByteArray) (n : Nat) : s.extract 0 n = ba (s.data.toList.take n) := by
  apply ByteArray.ext
  apply Array.ext'
  rw [ByteArray.data_extract]
  simp [ba]
set_option maxHeartbeats 4000000 in
set_option maxRecDepth 100000 in
theorem ynumber_any (s : ByteArray) (w : World) (hs : s.size ≤ 65536) (hp : 0 < s.size) :
    Calls Tryz.prog 53 #[.string s] w fun e w' => e = .returned (.tuple #[.agg (tkc (refNum s.data.toList).1).toArray, .int .i64 ((refNum s.data.toList).2.1 : Nat), .int .i64 (refNum s.data.toList).2.2.1, .int .i64 ((refNum s.data.toList).2.2.2 : Nat)]) ∧ Below w.heap.size w w' := by
  have hlen := Nm.len_size s
  have HHD := Lib.hid (Nm.head_at s hp)
  go_enter Tryz.func53, Tryz.ntmps53
  go_wp2_with fail
  go_loopg [6] s.size (fun gg i wr => ∃ k : Nat, k ≤ s.size ∧ s.size - k ≤ gg ∧ i = .int .i64 k ∧ w.alloc (.cells #[.int .i64 0, .string ⟨#[]⟩, .int .i64 0, .int .i64 0, .int .i64 0] 51) = wr ∧ Hid (∀ j (hj : j < s.size), j < k → Nm.dig s[j] = true))
  case atStart => exact ⟨0, Nat.zero_le _, by omega, rfl, rfl, Lib.hid fun j _ h => absurd h (Nat.not_lt_zero _)⟩
  case round =>
    obtain ⟨k, hk, hgk, rfl, rfl, hall⟩ := hrel
    have hex := ba_cut0 s k
    by_cases hlt : k < s.size
    · have q2 : (k : Int) < (s.size : Int) := by omega
      cases hm : Nm.dig s[k]
      · have hpk := Nm.pre_stop Nm.dig s.data.toList k (by omega) (fun j hj => by rw [Nm.byte_at s (by omega)]; exact hall.out j (by omega) hj) (by rw [Nm.byte_at s hlt]; exact hm)
        have HPK := Lib.hid hpk
        have hgd : s.data.toList.getD k 0 = s[k] := by rw [List.getD_eq_getElem?_getD, List.getElem?_eq_getElem (by omega)]; rfl
        have HGD := Lib.hid hgd
        cases hmo : Nm.more s[k]
        · have HNC := Lib.hid (show ¬ (k < s.data.toList.length ∧ Nm.more (s.data.toList.getD k 0) = true) by
            rw [hgd, hmo]; exact fun h => by cases h.2)
          clear hpk hgd
          go_upto_region 11 with (first | (go_at_call 34; refine (ydigit_any _ _).mono ?_; rintro e w' ⟨rfl, rfl⟩) | (go_at_call 54; refine (ymore_any _ _).mono ?_; rintro e w' ⟨rfl, rfl⟩))
          have hpl : (ba (s.data.toList.take k)).size ≤ 1099511627776 := by rw [ba_size, List.length_take]; omega
          have hrp := fun W : World => rparse_any (ba (s.data.toList.take k)) W hpl
          rw [ba_list] at hrp
          obtain ⟨T, hT⟩ : ∃ T, s.data.toList.take k = T := ⟨_, rfl⟩
          obtain ⟨e, he⟩ : ∃ e, Tk.parseE T = e := ⟨_, rfl⟩
          obtain ⟨v, hv⟩ : ∃ v, Tk.parseV T = v := ⟨_, rfl⟩
          rw [hT] at hrp hex
          rw [he, hv] at hrp
          have HRP := Lib.hid hrp
          have HRN := Lib.hid (show refNum s.data.toList = if e = 7 then (zeroT, 0, 7, 0) else if e ≠ 0 then (zeroT, 0, 3, 0) else (⟨3, T, v, 0, 0⟩, k, 0, 0) by
            unfold refNum
            rw [HPK.out, if_neg HNC.out, hT, he, hv])
          clear hrp hT he hv hpl
          by_cases h7 : e = 7
          · have e1 : (e == 7) = true := beq_iff_eq.2 h7
            have HX := Lib.hid (show refNum s.data.toList = (zeroT, 0, 7, 0) by rw [HRN.out, if_pos h7])
            clear h7
            go_wp2_with fail
            refine (HRP.out _).mono ?_
            rintro e' w' ⟨rfl, rfl⟩
            go_wp2_with fail
            refine bodyPost_ret (results_cttt rfl _ _ w.heap.size _ _ (0, 0) _ rfl (heap_alloc_new _ _) Tryz.underlying51 rfl (by kernel_rfl)) rfl ⟨?_, (Below.refl _ _).alloc (Nat.le_refl _) _⟩
            rw [HX.out]; rfl
          · have e1 : (e == 7) = false := beq_eq_false_iff_ne.2 h7
            by_cases h0 : e = 0
            · have e2 : (e == 0) = true := beq_iff_eq.2 h0
              have e3 : (e != 0) = false := by rw [bne, e2]; rfl
              have HX := Lib.hid (show refNum s.data.toList = (⟨3, T, v, 0, 0⟩, k, 0, 0) by rw [HRN.out, if_neg h7, if_neg (fun h => h h0)])
              clear h7 h0
              go_wp2_with fail
              refine (HRP.out _).mono ?_
              rintro e' w' ⟨rfl, rfl⟩
              go_wp2_with fail
              refine bodyPost_ret (results_cttt rfl _ _ w.heap.size _ _ (0, 0) _ rfl (heap_alloc_new _ _) Tryz.underlying51 rfl (by kernel_rfl)) rfl ⟨?_, (Below.refl _ _).alloc (Nat.le_refl _) _⟩
              rw [HX.out]; rfl
            · have e2 : (e == 0) = false := beq_eq_false_iff_ne.2 h0
              have e3 : (e != 0) = true := by rw [bne, e2]; rfl
              have HX := Lib.hid (show refNum s.data.toList = (zeroT, 0, 3, 0) by rw [HRN.out, if_neg h7, if_pos h0])
              clear h7 h0
              go_wp2_with fail
              refine (HRP.out _).mono ?_
              rintro e' w' ⟨rfl, rfl⟩
              go_wp2_with fail
              refine bodyPost_ret (results_cttt rfl _ _ w.heap.size _ _ (0, 0) _ rfl (heap_alloc_new _ _) Tryz.underlying51 rfl (by kernel_rfl)) rfl ⟨?_, (Below.refl _ _).alloc (Nat.le_refl _) _⟩
              rw [HX.out]; rfl
        · have HC := Lib.hid (show k < s.data.toList.length ∧ Nm.more (s.data.toList.getD k 0) = true by rw [hgd]; exact ⟨by omega, hmo⟩)
          clear hpk hgd
          by_cases h1 : 1 < k ∧ s[0] = 48
          · have HX := Lib.hid (show refNum s.data.toList = (zeroT, 0, 7, 0) by
              unfold refNum; rw [HPK.out, if_pos HC.out, HHD.out, if_pos h1])
            have q3 : (1 : Int) < (k : Int) := by omega
            have q4 : ((s[0].toNat : Int) == 48) = true := by rw [h1.2]; rfl
            clear h1
            go_wp2_with (first | (go_at_call 34; refine (ydigit_any _ _).mono ?_; rintro e w' ⟨rfl, rfl⟩) | (go_at_call 54; refine (ymore_any _ _).mono ?_; rintro e w' ⟨rfl, rfl⟩))
            refine bodyPost_ret (results_cttt rfl _ _ w.heap.size _ _ (0, 0) _ rfl (heap_alloc_new _ _) Tryz.underlying51 rfl (by kernel_rfl)) rfl ⟨?_, (Below.refl _ _).alloc (Nat.le_refl _) _⟩
            rw [HX.out]; rfl
          · have hpl : (ba (s.data.toList.take k)).size ≤ 1099511627776 := by rw [ba_size, List.length_take]; omega
            have hrp := fun W : World => rparse_any (ba (s.data.toList.take k)) W hpl
            rw [ba_list] at hrp
            obtain ⟨T, hT⟩ : ∃ T, s.data.toList.take k = T := ⟨_, rfl⟩
            obtain ⟨e, he⟩ : ∃ e, Tk.parseE T = e := ⟨_, rfl⟩
            rw [hT] at hrp hex
            rw [he] at hrp
            have HRP := Lib.hid hrp
            have HRN := Lib.hid (show refNum s.data.toList = if e ≠ 0 then (zeroT, 0, 3, 0) else (zeroT, 0, 7, k) by
              unfold refNum; rw [HPK.out, if_pos HC.out, HHD.out, if_neg h1, hT, he])
            have q4 : (decide ((1 : Int) < (k : Int)) && ((s[0].toNat : Int) == 48)) = false := by
              rw [Bool.eq_false_iff]
              intro h
              rw [Bool.and_eq_true, decide_eq_true_eq, beq_iff_eq] at h
              exact h1 ⟨by omega, UInt8.toNat_inj.1 (by show s[0].toNat = 48; omega)⟩
            clear hrp hT he hpl h1
            by_cases h0 : e = 0
            · have e2 : (e == 0) = true := beq_iff_eq.2 h0
              have e3 : (e != 0) = false := by rw [bne, e2]; rfl
              have HX := Lib.hid (show refNum s.data.toList = (zeroT, 0, 7, k) by rw [HRN.out, if_neg (fun h => h h0)])
              clear h0
              by_cases h2 : (1 : Int) < (k : Int)
              · have q5 : ((s[0].toNat : Int) == 48) = false := by rw [decide_eq_true h2, Bool.true_and] at q4; exact q4
                clear q4
                go_wp2_with (first | (go_at_call 34; refine (ydigit_any _ _).mono ?_; rintro e w' ⟨rfl, rfl⟩) | (go_at_call 54; refine (ymore_any _ _).mono ?_; rintro e w' ⟨rfl, rfl⟩))
                refine (HRP.out _).mono ?_
                rintro e' w' ⟨rfl, rfl⟩
                go_wp2_with fail
                refine bodyPost_ret (results_cttt rfl _ _ w.heap.size _ _ (0, 0) _ rfl (heap_alloc_new _ _) Tryz.underlying51 rfl (by kernel_rfl)) rfl ⟨?_, (Below.refl _ _).alloc (Nat.le_refl _) _⟩
                rw [HX.out]; rfl
              · clear q4
                go_wp2_with (first | (go_at_call 34; refine (ydigit_any _ _).mono ?_; rintro e w' ⟨rfl, rfl⟩) | (go_at_call 54; refine (ymore_any _ _).mono ?_; rintro e w' ⟨rfl, rfl⟩))
                refine (HRP.out _).mono ?_
                rintro e' w' ⟨rfl, rfl⟩
                go_wp2_with fail
                refine bodyPost_ret (results_cttt rfl _ _ w.heap.size _ _ (0, 0) _ rfl (heap_alloc_new _ _) Tryz.underlying51 rfl (by kernel_rfl)) rfl ⟨?_, (Below.refl _ _).alloc (Nat.le_refl _) _⟩
                rw [HX.out]; rfl
            · have e2 : (e == 0) = false := beq_eq_false_iff_ne.2 h0
              have e3 : (e != 0) = true := by rw [bne, e2]; rfl
              have HX := Lib.hid (show refNum s.data.toList = (zeroT, 0, 3, 0) by rw [HRN.out, if_pos h0])
              clear h0
              by_cases h2 : (1 : Int) < (k : Int)
              · have q5 : ((s[0].toNat : Int) == 48) = false := by rw [decide_eq_true h2, Bool.true_and] at q4; exact q4
                clear q4
                go_wp2_with (first | (go_at_call 34; refine (ydigit_any _ _).mono ?_; rintro e w' ⟨rfl, rfl⟩) | (go_at_call 54; refine (ymore_any _ _).mono ?_; rintro e w' ⟨rfl, rfl⟩))
                refine (HRP.out _).mono ?_
                rintro e' w' ⟨rfl, rfl⟩
                go_wp2_with fail
                refine bodyPost_ret (results_cttt rfl _ _ w.heap.size _ _ (0, 0) _ rfl (heap_alloc_new _ _) Tryz.underlying51 rfl (by kernel_rfl)) rfl ⟨?_, (Below.refl _ _).alloc (Nat.le_refl _) _⟩
                rw [HX.out]; rfl
              · clear q4
                go_wp2_with (first | (go_at_call 34; refine (ydigit_any _ _).mono ?_; rintro e w' ⟨rfl, rfl⟩) | (go_at_call 54; refine (ymore_any _ _).mono ?_; rintro e w' ⟨rfl, rfl⟩))
                refine (HRP.out _).mono ?_
                rintro e' w' ⟨rfl, rfl⟩
                go_wp2_with fail
                refine bodyPost_ret (results_cttt rfl _ _ w.heap.size _ _ (0, 0) _ rfl (heap_alloc_new _ _) Tryz.underlying51 rfl (by kernel_rfl)) rfl ⟨?_, (Below.refl _ _).alloc (Nat.le_refl _) _⟩
                rw [HX.out]; rfl
      · go_wp2_with (go_at_call 34; refine (ydigit_any _ _).mono ?_; rintro e w' ⟨rfl, rfl⟩)
        go_roundg (s.size - (k + 1))
        case measure => omega
        case rel =>
          refine ⟨k + 1, by omega, by omega, by go_num, rfl, Lib.hid fun j hj h => ?_⟩
          rcases Nat.lt_or_eq_of_le (Nat.le_of_lt_succ h) with h | rfl
          · exact hall.out j hj h
          · exact hm
    · have q2 : ¬ (k : Int) < (s.size : Int) := by omega
      have hks : k = s.size := by omega
      have hpk : Nm.pre Nm.dig s.data.toList = k := by
        rw [Nm.pre_end Nm.dig s.data.toList fun j hj => by rw [Nm.byte_at s (by omega)]; exact hall.out j (by omega) (by omega)]
        omega
      have HPK := Lib.hid hpk
      have HNC := Lib.hid (show ¬ (k < s.data.toList.length ∧ Nm.more (s.data.toList.getD k 0) = true) from fun h => by omega)
      clear hpk hks
      go_upto_region 11 with fail
      have hpl : (ba (s.data.toList.take k)).size ≤ 1099511627776 := by rw [ba_size, List.length_take]; omega
      have hrp := fun W : World => rparse_any (ba (s.data.toList.take k)) W hpl
      rw [ba_list] at hrp
      obtain ⟨T, hT⟩ : ∃ T, s.data.toList.take k = T := ⟨_, rfl⟩
      obtain ⟨e, he⟩ : ∃ e, Tk.parseE T = e := ⟨_, rfl⟩
      obtain ⟨v, hv⟩ : ∃ v, Tk.parseV T = v := ⟨_, rfl⟩
      rw [hT] at hrp hex
      rw [he, hv] at hrp
      have HRP := Lib.hid hrp
      have HRN := Lib.hid (show refNum s.data.toList = if e = 7 then (zeroT, 0, 7, 0) else if e ≠ 0 then (zeroT, 0, 3, 0) else (⟨3, T, v, 0, 0⟩, k, 0, 0) by
        unfold refNum
        rw [HPK.out, if_neg HNC.out, hT, he, hv])
      clear hrp hT he hv hpl
      by_cases h7 : e = 7
      · have e1 : (e == 7) = true := beq_iff_eq.2 h7
        have HX := Lib.hid (show refNum s.data.toList = (zeroT, 0, 7, 0) by rw [HRN.out, if_pos h7])
        clear h7
        go_wp2_with fail
        refine (HRP.out _).mono ?_
        rintro e' w' ⟨rfl, rfl⟩
        go_wp2_with fail
        refine bodyPost_ret (results_cttt rfl _ _ w.heap.size _ _ (0, 0) _ rfl (heap_alloc_new _ _) Tryz.underlying51 rfl (by kernel_rfl)) rfl ⟨?_, (Below.refl _ _).alloc (Nat.le_refl _) _⟩
        rw [HX.out]; rfl
      · have e1 : (e == 7) = false := beq_eq_false_iff_ne.2 h7
        by_cases h0 : e = 0
        · have e2 : (e == 0) = true := beq_iff_eq.2 h0
          have e3 : (e != 0) = false := by rw [bne, e2]; rfl
          have HX := Lib.hid (show refNum s.data.toList = (⟨3, T, v, 0, 0⟩, k, 0, 0) by rw [HRN.out, if_neg h7, if_neg (fun h => h h0)])
          clear h7 h0
          go_wp2_with fail
          refine (HRP.out _).mono ?_
          rintro e' w' ⟨rfl, rfl⟩
          go_wp2_with fail
          refine bodyPost_ret (results_cttt rfl _ _ w.heap.size _ _ (0, 0) _ rfl (heap_alloc_new _ _) Tryz.underlying51 rfl (by kernel_rfl)) rfl ⟨?_, (Below.refl _ _).alloc (Nat.le_refl _) _⟩
          rw [HX.out]; rfl
        · have e2 : (e == 0) = false := beq_eq_false_iff_ne.2 h0
          have e3 : (e != 0) = true := by rw [bne, e2]; rfl
          have HX := Lib.hid (show refNum s.data.toList = (zeroT, 0, 3, 0) by rw [HRN.out, if_neg h7, if_pos h0])
          clear h7 h0
          go_wp2_with fail
          refine (HRP.out _).mono ?_
          rintro e' w' ⟨rfl, rfl⟩
          go_wp2_with fail
          refine bodyPost_ret (results_cttt rfl _ _ w.heap.size _ _ (0, 0) _ rfl (heap_alloc_new _ _) Tryz.underlying51 rfl (by kernel_rfl)) rfl ⟨?_, (Below.refl _ _).alloc (Nat.le_refl _) _⟩
          rw [HX.out]; rfl
/-- What one tells. -/
def refOne (L : List UInt8) : TokD × Nat × Int × Nat :=
  if Nm.dig (L.headD 0) = true then refNum L
  else if 24 < Nm.pre Nm.more L then (zeroT, 0, 3, 0)
  else (⟨if Nm.res (L.take (Nm.pre Nm.more L)) = true then 2 else 1, L.take (Nm.pre Nm.more L), 0, 0, 0⟩, Nm.pre Nm.more L, 0, 0)
/-- Five cells of a block written. -/
theorem set5 {w w0 : World} {h B : Nat} {x0 x1 x2 x3 x4 : Value} {t : TypeId} (v0 v1 v2 v3 v4 : Value) (hf : w.heap[h]? = some (.cells #[x0, x1, x2, x3, x4] t (0, 0))) (hb : Below B w0 w) (hB : B ≤ h) :
    (((((w.setCell ⟨h, 0, none⟩ v0).setCell ⟨h, 1, none⟩ v1).setCell ⟨h, 2, none⟩ v2).setCell ⟨h, 3, none⟩ v3).setCell ⟨h, 4, none⟩ v4).heap[h]? = some (.cells #[v0, v1, v2, v3, v4] t (0, 0)) ∧ (∀ c, c ≠ h → (((((w.setCell ⟨h, 0, none⟩ v0).setCell ⟨h, 1, none⟩ v1).setCell ⟨h, 2, none⟩ v2).setCell ⟨h, 3, none⟩ v3).setCell ⟨h, 4, none⟩ v4).heap[c]? = w.heap[c]?) ∧ Below B w0 (((((w.setCell ⟨h, 0, none⟩ v0).setCell ⟨h, 1, none⟩ v1).setCell ⟨h, 2, none⟩ v2).setCell ⟨h, 3, none⟩ v3).setCell ⟨h, 4, none⟩ v4) := by
  have c0 := heap_setCell_same _ h 0 _ _ v0 hf
  simp only [List.setIfInBounds_toArray, List.set_cons_zero] at c0
  have c1 := heap_setCell_same _ h 1 _ _ v1 c0
  simp only [List.setIfInBounds_toArray, List.set_cons_zero, List.set_cons_succ] at c1
  have c2 := heap_setCell_same _ h 2 _ _ v2 c1
  simp only [List.setIfInBounds_toArray, List.set_cons_zero, List.set_cons_succ] at c2
  have c3 := heap_setCell_same _ h 3 _ _ v3 c2
  simp only [List.setIfInBounds_toArray, List.set_cons_zero, List.set_cons_succ] at c3
  have c4 := heap_setCell_same _ h 4 _ _ v4 c3
  simp only [List.setIfInBounds_toArray, List.set_cons_zero, List.set_cons_succ] at c4
  exact ⟨c4, fun c hc => by repeat rw [Below.heap_setCell _ _ _ _ (by show c ≠ h; exact hc)], (((((hb.setCell (p := ⟨h, 0, none⟩) hB v0).setCell (p := ⟨h, 1, none⟩) hB v1).setCell (p := ⟨h, 2, none⟩) hB v2).setCell (p := ⟨h, 3, none⟩) hB v3).setCell (p := ⟨h, 4, none⟩) hB v4)⟩
set_option maxHeartbeats 4000000 in
set_option maxRecDepth 100000 in
theorem yone_any (s : ByteArray) (w : World) (hs : s.size ≤ 65536) (hp : 0 < s.size) :
    Calls Tryz.prog 35 #[.string s] w fun e w' => e = .returned (.tuple #[.agg (tkc (refOne s.data.toList).1).toArray, .int .i64 ((refOne s.data.toList).2.1 : Nat), .int .i64 (refOne s.data.toList).2.2.1, .int .i64 ((refOne s.data.toList).2.2.2 : Nat)]) ∧ Below w.heap.size w w' := by
  have hlen := Nm.len_size s
  have HHD := Lib.hid (Nm.head_at s hp)
  cases hd0 : Nm.dig s[0]
  · go_enter Tryz.func35, Tryz.ntmps35
    go_wp2_with (go_at_call 34; refine (ydigit_any _ _).mono ?_; rintro e w' ⟨rfl, rfl⟩)
    go_loopg [6] s.size (fun gg i wr => ∃ k : Nat, k ≤ s.size ∧ s.size - k ≤ gg ∧ i = .int .i64 k ∧ w.alloc (.cells #[.int .i64 0, .string ⟨#[]⟩, .int .i64 0, .int .i64 0, .int .i64 0] 51) = wr ∧ Hid (∀ j (hj : j < s.size), j < k → Nm.more s[j] = true))
    case atStart => exact ⟨0, Nat.zero_le _, by omega, rfl, rfl, Lib.hid fun j _ h => absurd h (Nat.not_lt_zero _)⟩
    case round =>
      obtain ⟨k, hk, hgk, rfl, rfl, hall⟩ := hrel
      have hex := ba_cut0 s k
      by_cases hlt : k < s.size
      · have q2 : (k : Int) < (s.size : Int) := by omega
        cases hm : Nm.more s[k]
        · have hpk := Nm.pre_stop Nm.more s.data.toList k (by omega) (fun j hj => by rw [Nm.byte_at s (by omega)]; exact hall.out j (by omega) hj) (by rw [Nm.byte_at s hlt]; exact hm)
          have HPK := Lib.hid hpk
          clear hpk
          have HX := Lib.hid (show refOne s.data.toList = if 24 < k then (zeroT, 0, 3, 0) else (⟨if Nm.res (s.data.toList.take k) = true then 2 else 1, s.data.toList.take k, 0, 0, 0⟩, k, 0, 0) by
            unfold refOne; rw [HHD.out, hd0, if_neg (by decide), HPK.out])
          by_cases h24 : 24 < k
          · have q3 : (24 : Int) < (k : Int) := by omega
            have HX2 := Lib.hid (show refOne s.data.toList = (zeroT, 0, 3, 0) by rw [HX.out, if_pos h24])
            clear h24
            go_wp2_with (go_at_call 54; refine (ymore_any _ _).mono ?_; rintro e w' ⟨rfl, rfl⟩)
            refine bodyPost_ret (results_cttt rfl _ _ w.heap.size _ _ (0, 0) _ rfl (heap_alloc_new _ _) Tryz.underlying51 rfl (by kernel_rfl)) rfl ⟨?_, (Below.refl _ _).alloc (Nat.le_refl _) _⟩
            rw [HX2.out]; rfl
          · have q3 : ¬ (24 : Int) < (k : Int) := by omega
            obtain ⟨T, hT⟩ : ∃ T, s.data.toList.take k = T := ⟨_, rfl⟩
            rw [hT] at HX hex
            have HR := Lib.hid (fun W : World => yres_any (ba T) W)
            rw [ba_list] at HR
            cases hr : Nm.res T
            · rw [hr] at HR
              have HX2 := Lib.hid (show refOne s.data.toList = (⟨1, T, 0, 0, 0⟩, k, 0, 0) by rw [HX.out, if_neg h24, hr]; rfl)
              clear h24 hT hr
              go_wp2_with (go_at_call 54; refine (ymore_any _ _).mono ?_; rintro e w' ⟨rfl, rfl⟩)
              refine (HR.out _).mono ?_
              rintro e w5 ⟨rfl, hb5⟩
              have hz5 := (hb5.block w.heap.size (by simp)).trans (heap_alloc_new _ _)
              have HZ5 := Lib.hid hz5
              have HB5 := Lib.hid (((Below.refl w.heap.size w).alloc (Nat.le_refl _) _).trans (hb5.mono (by simp)))
              have x0 : w5.cell? ⟨w.heap.size, 0, none⟩ = some (.int .i64 0) := Lib.cell_of_heap hz5 0
              have x1 : w5.cell? ⟨w.heap.size, 1, none⟩ = some (.string ⟨#[]⟩) := Lib.cell_of_heap hz5 1
              have x2 : w5.cell? ⟨w.heap.size, 2, none⟩ = some (.int .i64 0) := Lib.cell_of_heap hz5 2
              have x3 : w5.cell? ⟨w.heap.size, 3, none⟩ = some (.int .i64 0) := Lib.cell_of_heap hz5 3
              have x4 : w5.cell? ⟨w.heap.size, 4, none⟩ = some (.int .i64 0) := Lib.cell_of_heap hz5 4
              have f0 : w5.frozen? ⟨w.heap.size, 0, none⟩ = false := Lib.frozen_of_heap hz5 0
              have f1 : w5.frozen? ⟨w.heap.size, 1, none⟩ = false := Lib.frozen_of_heap hz5 1
              have f2 : w5.frozen? ⟨w.heap.size, 2, none⟩ = false := Lib.frozen_of_heap hz5 2
              have f3 : w5.frozen? ⟨w.heap.size, 3, none⟩ = false := Lib.frozen_of_heap hz5 3
              have f4 : w5.frozen? ⟨w.heap.size, 4, none⟩ = false := Lib.frozen_of_heap hz5 4
              clear hb5 hz5
              go_wp2_with fail
              clear x0 x1 x2 x3 x4 f0 f1 f2 f3 f4
              obtain ⟨ra, rb, rc⟩ := set5 _ _ _ _ _ HZ5.out HB5.out (Nat.le_refl w.heap.size)
              refine bodyPost_ret (results_cttt rfl _ _ w.heap.size _ _ (0, 0) _ rfl ra Tryz.underlying51 rfl (by kernel_rfl)) rfl ⟨?_, rc⟩
              rw [HX2.out]; rfl
            · rw [hr] at HR
              have HX2 := Lib.hid (show refOne s.data.toList = (⟨2, T, 0, 0, 0⟩, k, 0, 0) by rw [HX.out, if_neg h24, hr]; rfl)
              clear h24 hT hr
              go_wp2_with (go_at_call 54; refine (ymore_any _ _).mono ?_; rintro e w' ⟨rfl, rfl⟩)
              refine (HR.out _).mono ?_
              rintro e w5 ⟨rfl, hb5⟩
              have hz5 := (hb5.block w.heap.size (by simp)).trans (heap_alloc_new _ _)
              have HZ5 := Lib.hid hz5
              have HB5 := Lib.hid (((Below.refl w.heap.size w).alloc (Nat.le_refl _) _).trans (hb5.mono (by simp)))
              have x0 : w5.cell? ⟨w.heap.size, 0, none⟩ = some (.int .i64 0) := Lib.cell_of_heap hz5 0
              have x1 : w5.cell? ⟨w.heap.size, 1, none⟩ = some (.string ⟨#[]⟩) := Lib.cell_of_heap hz5 1
              have x2 : w5.cell? ⟨w.heap.size, 2, none⟩ = some (.int .i64 0) := Lib.cell_of_heap hz5 2
              have x3 : w5.cell? ⟨w.heap.size, 3, none⟩ = some (.int .i64 0) := Lib.cell_of_heap hz5 3
              have x4 : w5.cell? ⟨w.heap.size, 4, none⟩ = some (.int .i64 0) := Lib.cell_of_heap hz5 4
              have f0 : w5.frozen? ⟨w.heap.size, 0, none⟩ = false := Lib.frozen_of_heap hz5 0
              have f1 : w5.frozen? ⟨w.heap.size, 1, none⟩ = false := Lib.frozen_of_heap hz5 1
              have f2 : w5.frozen? ⟨w.heap.size, 2, none⟩ = false := Lib.frozen_of_heap hz5 2
              have f3 : w5.frozen? ⟨w.heap.size, 3, none⟩ = false := Lib.frozen_of_heap hz5 3
              have f4 : w5.frozen? ⟨w.heap.size, 4, none⟩ = false := Lib.frozen_of_heap hz5 4
              clear hb5 hz5
              go_wp2_with fail
              clear x0 x1 x2 x3 x4 f0 f1 f2 f3 f4
              obtain ⟨ra, rb, rc⟩ := set5 _ _ _ _ _ HZ5.out HB5.out (Nat.le_refl w.heap.size)
              refine bodyPost_ret (results_cttt rfl _ _ w.heap.size _ _ (0, 0) _ rfl ra Tryz.underlying51 rfl (by kernel_rfl)) rfl ⟨?_, rc⟩
              rw [HX2.out]; rfl
        · go_wp2_with (go_at_call 54; refine (ymore_any _ _).mono ?_; rintro e w' ⟨rfl, rfl⟩)
          go_roundg (s.size - (k + 1))
          case measure => omega
          case rel =>
            refine ⟨k + 1, by omega, by omega, by go_num, rfl, Lib.hid fun j hj h => ?_⟩
            rcases Nat.lt_or_eq_of_le (Nat.le_of_lt_succ h) with h | rfl
            · exact hall.out j hj h
            · exact hm
      · have q2 : ¬ (k : Int) < (s.size : Int) := by omega
        have hks : k = s.size := by omega
        have hpk : Nm.pre Nm.more s.data.toList = k := by
          rw [Nm.pre_end Nm.more s.data.toList fun j hj => by rw [Nm.byte_at s (by omega)]; exact hall.out j (by omega) (by omega)]
          omega
        have HPK := Lib.hid hpk
        clear hpk hks
        have HX := Lib.hid (show refOne s.data.toList = if 24 < k then (zeroT, 0, 3, 0) else (⟨if Nm.res (s.data.toList.take k) = true then 2 else 1, s.data.toList.take k, 0, 0, 0⟩, k, 0, 0) by
          unfold refOne; rw [HHD.out, hd0, if_neg (by decide), HPK.out])
        by_cases h24 : 24 < k
        · have q3 : (24 : Int) < (k : Int) := by omega
          have HX2 := Lib.hid (show refOne s.data.toList = (zeroT, 0, 3, 0) by rw [HX.out, if_pos h24])
          clear h24
          go_wp2_with (go_at_call 54; refine (ymore_any _ _).mono ?_; rintro e w' ⟨rfl, rfl⟩)
          refine bodyPost_ret (results_cttt rfl _ _ w.heap.size _ _ (0, 0) _ rfl (heap_alloc_new _ _) Tryz.underlying51 rfl (by kernel_rfl)) rfl ⟨?_, (Below.refl _ _).alloc (Nat.le_refl _) _⟩
          rw [HX2.out]; rfl
        · have q3 : ¬ (24 : Int) < (k : Int) := by omega
          obtain ⟨T, hT⟩ : ∃ T, s.data.toList.take k = T := ⟨_, rfl⟩
          rw [hT] at HX hex
          have HR := Lib.hid (fun W : World => yres_any (ba T) W)
          rw [ba_list] at HR
          cases hr : Nm.res T
          · rw [hr] at HR
            have HX2 := Lib.hid (show refOne s.data.toList = (⟨1, T, 0, 0, 0⟩, k, 0, 0) by rw [HX.out, if_neg h24, hr]; rfl)
            clear h24 hT hr
            go_wp2_with (go_at_call 54; refine (ymore_any _ _).mono ?_; rintro e w' ⟨rfl, rfl⟩)
            refine (HR.out _).mono ?_
            rintro e w5 ⟨rfl, hb5⟩
            have hz5 := (hb5.block w.heap.size (by simp)).trans (heap_alloc_new _ _)
            have HZ5 := Lib.hid hz5
            have HB5 := Lib.hid (((Below.refl w.heap.size w).alloc (Nat.le_refl _) _).trans (hb5.mono (by simp)))
            have x0 : w5.cell? ⟨w.heap.size, 0, none⟩ = some (.int .i64 0) := Lib.cell_of_heap hz5 0
            have x1 : w5.cell? ⟨w.heap.size, 1, none⟩ = some (.string ⟨#[]⟩) := Lib.cell_of_heap hz5 1
            have x2 : w5.cell? ⟨w.heap.size, 2, none⟩ = some (.int .i64 0) := Lib.cell_of_heap hz5 2
            have x3 : w5.cell? ⟨w.heap.size, 3, none⟩ = some (.int .i64 0) := Lib.cell_of_heap hz5 3
            have x4 : w5.cell? ⟨w.heap.size, 4, none⟩ = some (.int .i64 0) := Lib.cell_of_heap hz5 4
            have f0 : w5.frozen? ⟨w.heap.size, 0, none⟩ = false := Lib.frozen_of_heap hz5 0
            have f1 : w5.frozen? ⟨w.heap.size, 1, none⟩ = false := Lib.frozen_of_heap hz5 1
            have f2 : w5.frozen? ⟨w.heap.size, 2, none⟩ = false := Lib.frozen_of_heap hz5 2
            have f3 : w5.frozen? ⟨w.heap.size, 3, none⟩ = false := Lib.frozen_of_heap hz5 3
            have f4 : w5.frozen? ⟨w.heap.size, 4, none⟩ = false := Lib.frozen_of_heap hz5 4
            clear hb5 hz5
            go_wp2_with fail
            clear x0 x1 x2 x3 x4 f0 f1 f2 f3 f4
            obtain ⟨ra, rb, rc⟩ := set5 _ _ _ _ _ HZ5.out HB5.out (Nat.le_refl w.heap.size)
            refine bodyPost_ret (results_cttt rfl _ _ w.heap.size _ _ (0, 0) _ rfl ra Tryz.underlying51 rfl (by kernel_rfl)) rfl ⟨?_, rc⟩
            rw [HX2.out]; rfl
          · rw [hr] at HR
            have HX2 := Lib.hid (show refOne s.data.toList = (⟨2, T, 0, 0, 0⟩, k, 0, 0) by rw [HX.out, if_neg h24, hr]; rfl)
            clear h24 hT hr
            go_wp2_with (go_at_call 54; refine (ymore_any _ _).mono ?_; rintro e w' ⟨rfl, rfl⟩)
            refine (HR.out _).mono ?_
            rintro e w5 ⟨rfl, hb5⟩
            have hz5 := (hb5.block w.heap.size (by simp)).trans (heap_alloc_new _ _)
            have HZ5 := Lib.hid hz5
            have HB5 := Lib.hid (((Below.refl w.heap.size w).alloc (Nat.le_refl _) _).trans (hb5.mono (by simp)))
            have x0 : w5.cell? ⟨w.heap.size, 0, none⟩ = some (.int .i64 0) := Lib.cell_of_heap hz5 0
            have x1 : w5.cell? ⟨w.heap.size, 1, none⟩ = some (.string ⟨#[]⟩) := Lib.cell_of_heap hz5 1
            have x2 : w5.cell? ⟨w.heap.size, 2, none⟩ = some (.int .i64 0) := Lib.cell_of_heap hz5 2
            have x3 : w5.cell? ⟨w.heap.size, 3, none⟩ = some (.int .i64 0) := Lib.cell_of_heap hz5 3
            have x4 : w5.cell? ⟨w.heap.size, 4, none⟩ = some (.int .i64 0) := Lib.cell_of_heap hz5 4
            have f0 : w5.frozen? ⟨w.heap.size, 0, none⟩ = false := Lib.frozen_of_heap hz5 0
            have f1 : w5.frozen? ⟨w.heap.size, 1, none⟩ = false := Lib.frozen_of_heap hz5 1
            have f2 : w5.frozen? ⟨w.heap.size, 2, none⟩ = false := Lib.frozen_of_heap hz5 2
            have f3 : w5.frozen? ⟨w.heap.size, 3, none⟩ = false := Lib.frozen_of_heap hz5 3
            have f4 : w5.frozen? ⟨w.heap.size, 4, none⟩ = false := Lib.frozen_of_heap hz5 4
            clear hb5 hz5
            go_wp2_with fail
            clear x0 x1 x2 x3 x4 f0 f1 f2 f3 f4
            obtain ⟨ra, rb, rc⟩ := set5 _ _ _ _ _ HZ5.out HB5.out (Nat.le_refl w.heap.size)
            refine bodyPost_ret (results_cttt rfl _ _ w.heap.size _ _ (0, 0) _ rfl ra Tryz.underlying51 rfl (by kernel_rfl)) rfl ⟨?_, rc⟩
            rw [HX2.out]; rfl
  · have HX := Lib.hid (show refOne s.data.toList = refNum s.data.toList by unfold refOne; rw [HHD.out, if_pos hd0])
    have HN := Lib.hid (fun W : World => ynumber_any s W hs hp)
    obtain ⟨⟨⟨tk, tt, tn, tl, tcc⟩, n, e, b⟩, hR⟩ : ∃ R, refNum s.data.toList = R := ⟨_, rfl⟩
    rw [hR] at HX HN
    dsimp only [tkc] at HN
    rw [HX.out]
    clear hR HX
    go_enter Tryz.func35, Tryz.ntmps35
    go_wp2_with (go_at_call 34; refine (ydigit_any _ _).mono ?_; rintro e w' ⟨rfl, rfl⟩)
    refine (HN.out _).mono ?_
    rintro e' w5 ⟨rfl, hb5⟩
    have hz5 := (hb5.block w.heap.size (by simp)).trans (heap_alloc_new _ _)
    have HZ5 := Lib.hid hz5
    have HB5 := Lib.hid (((Below.refl w.heap.size w).alloc (Nat.le_refl _) _).trans (hb5.mono (by simp)))
    have x0 : w5.cell? ⟨w.heap.size, 0, none⟩ = some (.int .i64 0) := Lib.cell_of_heap hz5 0
    have x1 : w5.cell? ⟨w.heap.size, 1, none⟩ = some (.string ⟨#[]⟩) := Lib.cell_of_heap hz5 1
    have x2 : w5.cell? ⟨w.heap.size, 2, none⟩ = some (.int .i64 0) := Lib.cell_of_heap hz5 2
    have x3 : w5.cell? ⟨w.heap.size, 3, none⟩ = some (.int .i64 0) := Lib.cell_of_heap hz5 3
    have x4 : w5.cell? ⟨w.heap.size, 4, none⟩ = some (.int .i64 0) := Lib.cell_of_heap hz5 4
    have f0 : w5.frozen? ⟨w.heap.size, 0, none⟩ = false := Lib.frozen_of_heap hz5 0
    have f1 : w5.frozen? ⟨w.heap.size, 1, none⟩ = false := Lib.frozen_of_heap hz5 1
    have f2 : w5.frozen? ⟨w.heap.size, 2, none⟩ = false := Lib.frozen_of_heap hz5 2
    have f3 : w5.frozen? ⟨w.heap.size, 3, none⟩ = false := Lib.frozen_of_heap hz5 3
    have f4 : w5.frozen? ⟨w.heap.size, 4, none⟩ = false := Lib.frozen_of_heap hz5 4
    clear hb5 hz5
    go_wp2_with fail
    clear x0 x1 x2 x3 x4 f0 f1 f2 f3 f4
    obtain ⟨ra, rb, rc⟩ := set5 _ _ _ _ _ HZ5.out HB5.out (Nat.le_refl w.heap.size)
    refine bodyPost_ret (results_cttt rfl _ _ w.heap.size _ _ (0, 0) _ rfl ra Tryz.underlying51 rfl (by kernel_rfl)) rfl ⟨?_, rc⟩
    rfl
end Go.Proofs.YtlclkeihkkpdbaaGreatDoor
