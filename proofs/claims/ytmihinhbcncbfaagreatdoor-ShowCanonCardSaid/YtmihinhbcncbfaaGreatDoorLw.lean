/- The walks of names: lex.class, lex.run; the reserved words as a row. -/
import Derived.Test.YtmihinhbcncbfaaGreatDoorNm
import Derived.Test.YtmihinhbcncbfaaGreatDoorChecked
import Derived.Test.YtmihinhbcncbfaaGreatDoorSl
import Derived.Test.YtmihinhbcncbfaaGreatDoorSi0
import Derived.Lib.Hide
namespace Go.Proofs.YtmihinhbcncbfaaGreatDoor
open Go.RowKit

theorem ret_i64 {a b : Int} (h : a = b) : Ending.returned (.int .i64 a) = .returned (.int .i64 b) := by rw [h]
theorem ret_bool {a b : Bool} (h : a = b) : Ending.returned (.bool a) = .returned (.bool b) := by rw [h]

set_option maxHeartbeats 1000000 in
theorem class_any (c : UInt8) (w : World) : Calls Tryz.prog 102 #[.int .u8 (c.toNat : Int)] w fun e w' => e = .returned (.int .i64 (Nm.cls c)) ∧ w = w' := by
  have hlow : Nm.low c = decide (97 ≤ (c.toNat : Int) ∧ (c.toNat : Int) ≤ 122) := by unfold Nm.low; apply decide_eq_decide.2; omega
  have hdig : Nm.dig c = decide (48 ≤ (c.toNat : Int) ∧ (c.toNat : Int) ≤ 57) := by unfold Nm.dig; apply decide_eq_decide.2; omega
  have hjoin : Nm.joinB c = decide ((c.toNat : Int) = 45 ∨ (c.toNat : Int) = 95) := by unfold Nm.joinB; apply decide_eq_decide.2; omega
  have hc : 0 ≤ (c.toNat : Int) := by omega
  unfold Nm.cls
  rw [hlow, hdig, hjoin]
  clear hlow hdig hjoin
  generalize (c.toNat : Int) = x at *
  simp only [decide_eq_true_eq]
  by_cases a1 : 97 ≤ x
  · by_cases a2 : x ≤ 122
    · rw [if_pos ⟨a1, a2⟩]
      go_enter Tryz.func102, Tryz.ntmps102
      go_wp2
      go_ret
      exact ⟨rfl, rfl⟩
    · have a2' : decide (x ≤ 122) = false := decide_eq_false a2
      have b1 : 48 ≤ x := by omega
      have b2' : decide (x ≤ 57) = false := decide_eq_false (by omega)
      have c1 : (x == 45) = false := beq_eq_false_iff_ne.2 (by omega)
      have c2 : (x == 95) = false := beq_eq_false_iff_ne.2 (by omega)
      rw [if_neg (by omega), if_neg (by omega), if_neg (by omega)]
      go_enter Tryz.func102, Tryz.ntmps102
      go_wp2
      go_ret
      exact ⟨rfl, rfl⟩
  · have a1' : decide (97 ≤ x) = false := decide_eq_false a1
    by_cases b1 : 48 ≤ x
    · by_cases b2 : x ≤ 57
      · rw [if_neg (by omega), if_pos ⟨b1, b2⟩]
        clear a1
        go_enter Tryz.func102, Tryz.ntmps102
        go_wp2
        go_ret
        exact ⟨rfl, rfl⟩
      · have b2' : decide (x ≤ 57) = false := decide_eq_false b2
        have c1 : (x == 45) = false := beq_eq_false_iff_ne.2 (by omega)
        by_cases c2 : x = 95
        · rw [if_neg (by omega), if_neg (by omega), if_pos (by omega)]
          have c2' : (x == 95) = true := beq_iff_eq.2 c2
          clear a1 b2 c2
          go_enter Tryz.func102, Tryz.ntmps102
          go_wp2
          go_ret
          exact ⟨rfl, rfl⟩
        · rw [if_neg (by omega), if_neg (by omega), if_neg (by omega)]
          have c2' : (x == 95) = false := beq_eq_false_iff_ne.2 c2
          clear a1 b2 c2
          go_enter Tryz.func102, Tryz.ntmps102
          go_wp2
          go_ret
          exact ⟨rfl, rfl⟩
    · have b1' : decide (48 ≤ x) = false := decide_eq_false b1
      have c2' : (x == 95) = false := beq_eq_false_iff_ne.2 (by omega)
      by_cases c1 : x = 45
      · rw [if_neg (by omega), if_neg (by omega), if_pos (by omega)]
        have c1' : (x == 45) = true := beq_iff_eq.2 c1
        clear a1 b1 c1
        go_enter Tryz.func102, Tryz.ntmps102
        go_wp2
        go_ret
        exact ⟨rfl, rfl⟩
      · rw [if_neg (by omega), if_neg (by omega), if_neg (by omega)]
        have c1' : (x == 45) = false := beq_eq_false_iff_ne.2 c1
        clear a1 b1 c1
        go_enter Tryz.func102, Tryz.ntmps102
        go_wp2
        go_ret
        exact ⟨rfl, rfl⟩

/-- A text in memory: one cell. -/
def sc (x : ByteArray) : List Value := [.string x]
theorem sc_len : ∀ x, (sc x).length = 1 := fun _ => rfl
theorem sc_one : ∀ x, ∀ u ∈ sc x, u.oneCell' = true := by intro x u hu; simp [sc] at hu; subst hu; rfl
def resA : List ByteArray := Nm.resW.map fun l => ⟨l.toArray⟩
theorem resA_len : resA.length = 15 := rfl
theorem resA_at {k : Nat} (hk : k < resA.length) : (resA[k]).data.toList = Nm.resW[k]'(by simpa [resA] using hk) := by
  simp [resA]
theorem res_yes {s : ByteArray} {k : Nat} (hk : k < resA.length) (h : resA[k] = s) : Nm.res s.data.toList = true := by
  unfold Nm.res
  rw [List.contains_iff_mem, ← h, resA_at hk]
  exact List.getElem_mem _
theorem res_no {s : ByteArray} (h : ∀ k (hk : k < resA.length), resA[k] ≠ s) : Nm.res s.data.toList = false := by
  unfold Nm.res
  refine Bool.eq_false_iff.2 fun hc => ?_
  rw [List.contains_iff_mem] at hc
  obtain ⟨k, hk, e⟩ := List.getElem_of_mem hc
  have hk' : k < resA.length := by simpa [resA] using hk
  exact h k hk' (ByteArray.ext (Array.ext' ((resA_at hk').trans e)))
theorem eq_toList {x s : ByteArray} : (x.toList == s.toList) = true ↔ x = s := by
  rw [beq_iff_eq, ByteArray.toList_eq, ByteArray.toList_eq]
  exact ⟨fun h => ByteArray.ext (Array.ext' h), fun h => by rw [h]⟩
theorem slRes (w : World) : Sl sc 1 (w.alloc (.cells (resA.flatMap sc).toArray 9)) (.slice (some ⟨w.heap.size, 0, none⟩) 15 15) resA (fun _ => True) :=
  Sl.newl resA sc_len rfl rfl (by decide) rfl
set_option maxHeartbeats 400000 in
theorem more1_any (c : UInt8) (w : World) : Calls Tryz.prog 105 #[.int .i64 (Nm.cls c)] w fun e w' => e = .returned (.bool (Nm.more c)) ∧ w = w' := by
  rw [← Nm.cls_more]
  generalize Nm.cls c = x
  go_enter Tryz.func105, Tryz.ntmps105
  go_wp2
  go_ret
  exact ⟨rfl, rfl⟩
set_option maxHeartbeats 1000000 in
theorem run_any (s : ByteArray) (w : World) (hs : s.size ≤ maxLen) : Calls Tryz.prog 104 #[.string s, .func (.func 105) #[] #[]] w fun e w' => e = .returned (.int .i64 (Nm.pre Nm.more s.data.toList : Nat)) ∧ w = w' := by
  unfold maxLen at hs
  obtain ⟨r, hr⟩ : ∃ r : Nat, Nm.pre Nm.more s.data.toList = r := ⟨_, rfl⟩
  have HR := Lib.hid hr
  rw [hr]
  clear hr
  go_enter Tryz.func104, Tryz.ntmps104
  go_wp2_with fail
  go_loop [5] (fun i => ∃ k : Nat, k ≤ s.size ∧ i = .int .i64 k ∧ Hid (∀ j (hj : j < s.size), j < k → Nm.more s[j] = true)) (fun i => s.size - (intOf i).toNat)
  case atStart => exact ⟨0, Nat.zero_le _, rfl, Lib.hid fun j _ h => absurd h (Nat.not_lt_zero _)⟩
  case round =>
    obtain ⟨k, hk, rfl, hall⟩ := hrel
    by_cases hlt : k < s.size
    · cases hm : Nm.more s[k]
      · have E := Lib.hid (HR.out.symm.trans (Nm.pre_stop Nm.more s.data.toList k (by simpa using hlt) (fun j hj => hall.out j (by omega) hj) hm))
        go_wp2_with (first | (go_at_call 102; refine (class_any _ _).mono ?_; rintro e w' ⟨rfl, rfl⟩) | (go_at_call 105; refine (more1_any _ _).mono ?_; rintro e w' ⟨rfl, rfl⟩))
        go_ret
        exact ⟨ret_i64 (by rw [E.out]), rfl⟩
      · go_wp2_with (first | (go_at_call 102; refine (class_any _ _).mono ?_; rintro e w' ⟨rfl, rfl⟩) | (go_at_call 105; refine (more1_any _ _).mono ?_; rintro e w' ⟨rfl, rfl⟩))
        go_round
        case rel =>
          refine ⟨k + 1, by omega, by go_num, Lib.hid fun j hj h => ?_⟩
          rcases Nat.lt_or_eq_of_le (Nat.le_of_lt_succ h) with h | rfl
          · exact hall.out j hj h
          · exact hm
        case measure => simp [intOf]; omega
    · have E := Lib.hid (HR.out.symm.trans (Nm.pre_end Nm.more s.data.toList fun j hj => hall.out j (by rw [← Nm.len_size]; exact hj) (by have := Nm.len_size s; omega)))
      have hks := Lib.hid (show k = s.data.toList.length by have := Nm.len_size s; omega)
      go_wp2_with fail
      go_ret
      exact ⟨ret_i64 (by rw [E.out, hks.out]), rfl⟩
end Go.Proofs.YtmihinhbcncbfaaGreatDoor
