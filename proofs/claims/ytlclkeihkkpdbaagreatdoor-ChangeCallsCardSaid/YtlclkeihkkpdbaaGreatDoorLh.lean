/- lex.run with the classes that go on a word, and a number. Printed by wip/bin/genrn.py. -/
import Derived.Test.YtlclkeihkkpdbaaGreatDoorLg
namespace Go.Proofs.YtlclkeihkkpdbaaGreatDoor
open Go.RowKit
set_option maxHeartbeats 400000 in
theorem wmore_any (c : UInt8) (w : World) : Calls Tryz.prog 75 #[.int .i64 (Nm.cls c)] w fun e w' => e = .returned (.bool (Nm.more c)) ∧ w = w' := by
  rw [← Nm.cls_more]
  generalize Nm.cls c = x
  go_enter Tryz.func75, Tryz.ntmps75
  go_wp2
  go_ret
  exact ⟨rfl, rfl⟩
set_option maxHeartbeats 400000 in
theorem ndig_any (c : UInt8) (w : World) : Calls Tryz.prog 76 #[.int .i64 (Nm.cls c)] w fun e w' => e = .returned (.bool (Nm.dig c)) ∧ w = w' := by
  rw [← Nm.cls_dig]
  generalize Nm.cls c = x
  go_enter Tryz.func76, Tryz.ntmps76
  go_wp2
  go_ret
  exact ⟨rfl, rfl⟩
set_option maxHeartbeats 1000000 in
theorem wrun_any (s : ByteArray) (w : World) (hs : s.size ≤ maxLen) : Calls Tryz.prog 47 #[.string s, .func (.func 75) #[] #[]] w fun e w' => e = .returned (.int .i64 (Nm.pre Nm.more s.data.toList : Nat)) ∧ w = w' := by
  unfold maxLen at hs
  obtain ⟨r, hr⟩ : ∃ r : Nat, Nm.pre Nm.more s.data.toList = r := ⟨_, rfl⟩
  have HR := Lib.hid hr
  rw [hr]
  clear hr
  go_enter Tryz.func47, Tryz.ntmps47
  go_wp2_with fail
  go_loop [5] (fun i => ∃ k : Nat, k ≤ s.size ∧ i = .int .i64 k ∧ Hid (∀ j (hj : j < s.size), j < k → Nm.more s[j] = true)) (fun i => s.size - (intOf i).toNat)
  case atStart => exact ⟨0, Nat.zero_le _, rfl, Lib.hid fun j _ h => absurd h (Nat.not_lt_zero _)⟩
  case round =>
    obtain ⟨k, hk, rfl, hall⟩ := hrel
    by_cases hlt : k < s.size
    · cases hm : Nm.more s[k]
      · have E := Lib.hid (HR.out.symm.trans (Nm.pre_stop Nm.more s.data.toList k (by simpa using hlt) (fun j hj => hall.out j (by omega) hj) hm))
        go_wp2_with (first | (go_at_call 45; refine (class_any _ _).mono ?_; rintro e w' ⟨rfl, rfl⟩) | (go_at_call 75; refine (wmore_any _ _).mono ?_; rintro e w' ⟨rfl, rfl⟩))
        go_ret
        exact ⟨ret_i64 (by rw [E.out]), rfl⟩
      · go_wp2_with (first | (go_at_call 45; refine (class_any _ _).mono ?_; rintro e w' ⟨rfl, rfl⟩) | (go_at_call 75; refine (wmore_any _ _).mono ?_; rintro e w' ⟨rfl, rfl⟩))
        go_round
        case rel =>
          refine ⟨k + 1, by omega, by go_num, Lib.hid fun j hj h => ?_⟩
          rcases Nat.lt_or_eq_of_le (Nat.le_of_lt_succ h) with h | rfl
          · exact hall.out j hj h
          · exact hm
        case measure => simp [intOf]; omega
    · have E := Lib.hid (HR.out.symm.trans (Nm.pre_end Nm.more s.data.toList fun j hj => hall.out j (by rw [← Nm.len_size]; exact hj) (by have := Nm.len_size s; omega)))
      have hks := Lib.hid (show k = s.data.toList.length by have := Nm.len_size s; omega)
      go_wp2_with fail
      go_ret
      exact ⟨ret_i64 (by rw [E.out, hks.out]), rfl⟩
set_option maxHeartbeats 1000000 in
theorem nrun_any (s : ByteArray) (w : World) (hs : s.size ≤ maxLen) : Calls Tryz.prog 47 #[.string s, .func (.func 76) #[] #[]] w fun e w' => e = .returned (.int .i64 (Nm.pre Nm.dig s.data.toList : Nat)) ∧ w = w' := by
  unfold maxLen at hs
  obtain ⟨r, hr⟩ : ∃ r : Nat, Nm.pre Nm.dig s.data.toList = r := ⟨_, rfl⟩
  have HR := Lib.hid hr
  rw [hr]
  clear hr
  go_enter Tryz.func47, Tryz.ntmps47
  go_wp2_with fail
  go_loop [5] (fun i => ∃ k : Nat, k ≤ s.size ∧ i = .int .i64 k ∧ Hid (∀ j (hj : j < s.size), j < k → Nm.dig s[j] = true)) (fun i => s.size - (intOf i).toNat)
  case atStart => exact ⟨0, Nat.zero_le _, rfl, Lib.hid fun j _ h => absurd h (Nat.not_lt_zero _)⟩
  case round =>
    obtain ⟨k, hk, rfl, hall⟩ := hrel
    by_cases hlt : k < s.size
    · cases hm : Nm.dig s[k]
      · have E := Lib.hid (HR.out.symm.trans (Nm.pre_stop Nm.dig s.data.toList k (by simpa using hlt) (fun j hj => hall.out j (by omega) hj) hm))
        go_wp2_with (first | (go_at_call 45; refine (class_any _ _).mono ?_; rintro e w' ⟨rfl, rfl⟩) | (go_at_call 76; refine (ndig_any _ _).mono ?_; rintro e w' ⟨rfl, rfl⟩))
        go_ret
        exact ⟨ret_i64 (by rw [E.out]), rfl⟩
      · go_wp2_with (first | (go_at_call 45; refine (class_any _ _).mono ?_; rintro e w' ⟨rfl, rfl⟩) | (go_at_call 76; refine (ndig_any _ _).mono ?_; rintro e w' ⟨rfl, rfl⟩))
        go_round
        case rel =>
          refine ⟨k + 1, by omega, by go_num, Lib.hid fun j hj h => ?_⟩
          rcases Nat.lt_or_eq_of_le (Nat.le_of_lt_succ h) with h | rfl
          · exact hall.out j hj h
          · exact hm
        case measure => simp [intOf]; omega
    · have E := Lib.hid (HR.out.symm.trans (Nm.pre_end Nm.dig s.data.toList fun j hj => hall.out j (by rw [← Nm.len_size]; exact hj) (by have := Nm.len_size s; omega)))
      have hks := Lib.hid (show k = s.data.toList.length by have := Nm.len_size s; omega)
      go_wp2_with fail
      go_ret
      exact ⟨ret_i64 (by rw [E.out, hks.out]), rfl⟩
end Go.Proofs.YtlclkeihkkpdbaaGreatDoor
