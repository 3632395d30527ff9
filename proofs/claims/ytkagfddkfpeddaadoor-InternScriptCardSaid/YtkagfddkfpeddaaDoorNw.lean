/- The walks of names: lex.class, lex.run, lex.Name, and of timetableref04: letter, digit, more, word, Reserved, Name. -/
import Derived.Test.YtkagfddkfpeddaaDoorNm
import Derived.Test.YtkagfddkfpeddaaDoorChecked
import Derived.Test.YtkagfddkfpeddaaDoorSl
import Derived.Test.YtkagfddkfpeddaaDoorSi0
import Derived.Lib.Hide


namespace Go.Proofs.YtkagfddkfpeddaaDoor
open Go.RowKit

theorem ret_i64 {a b : Int} (h : a = b) : Ending.returned (.int .i64 a) = .returned (.int .i64 b) := by rw [h]
theorem ret_bool {a b : Bool} (h : a = b) : Ending.returned (.bool a) = .returned (.bool b) := by rw [h]

set_option maxHeartbeats 400000 in
theorem rletter_any (c : UInt8) (w : World) : Calls Tryd.prog 42 #[.int .u8 (c.toNat : Int)] w fun e w' => e = .returned (.bool (Nm.low c)) ∧ w = w' := by
  by_cases h0 : 97 ≤ (c.toNat : Int)
  · have e : Nm.low c = decide ((c.toNat : Int) ≤ 122) := by unfold Nm.low; apply decide_eq_decide.2; omega
    rw [e]
    clear e
    go_enter Tryd.func42, Tryd.ntmps42
    go_wp2
    go_ret
    exact ⟨rfl, rfl⟩
  · have e : Nm.low c = false := decide_eq_false (by omega)
    have h1 : decide (97 ≤ (c.toNat : Int)) = false := decide_eq_false h0
    rw [e]
    clear e h0
    go_enter Tryd.func42, Tryd.ntmps42
    go_wp2
    go_ret
    exact ⟨rfl, rfl⟩
set_option maxHeartbeats 400000 in
theorem rdigit_any (c : UInt8) (w : World) : Calls Tryd.prog 50 #[.int .u8 (c.toNat : Int)] w fun e w' => e = .returned (.bool (Nm.dig c)) ∧ w = w' := by
  by_cases h0 : 48 ≤ (c.toNat : Int)
  · have e : Nm.dig c = decide ((c.toNat : Int) ≤ 57) := by unfold Nm.dig; apply decide_eq_decide.2; omega
    rw [e]
    clear e
    go_enter Tryd.func50, Tryd.ntmps50
    go_wp2
    go_ret
    exact ⟨rfl, rfl⟩
  · have e : Nm.dig c = false := decide_eq_false (by omega)
    have h1 : decide (48 ≤ (c.toNat : Int)) = false := decide_eq_false h0
    rw [e]
    clear e h0
    go_enter Tryd.func50, Tryd.ntmps50
    go_wp2
    go_ret
    exact ⟨rfl, rfl⟩
set_option maxHeartbeats 400000 in
theorem rmore_any (c : UInt8) (w : World) : Calls Tryd.prog 43 #[.int .u8 (c.toNat : Int)] w fun e w' => e = .returned (.bool (Nm.more c)) ∧ w = w' := by
  cases h1 : Nm.low c
  · cases h2 : Nm.dig c
    · by_cases h3 : (c.toNat : Int) = 45
      · have e : Nm.more c = true := by unfold Nm.more Nm.joinB; rw [h1, h2, decide_eq_true (by omega)]; rfl
        have h4 : ((c.toNat : Int) == 45) = true := by rw [h3]; rfl
        rw [e]
        clear e h3
        go_enter Tryd.func43, Tryd.ntmps43
        go_wp2_with (first | (go_at_call 42; refine (rletter_any _ _).mono ?_; rintro e w' ⟨rfl, rfl⟩) | (go_at_call 50; refine (rdigit_any _ _).mono ?_; rintro e w' ⟨rfl, rfl⟩))
        go_ret
        exact ⟨rfl, rfl⟩
      · have h4 : ((c.toNat : Int) == 45) = false := beq_eq_false_iff_ne.2 h3
        have e : Nm.more c = ((c.toNat : Int) == 95) := by
          unfold Nm.more Nm.joinB; rw [h1, h2, Bool.eq_iff_iff]
          simp only [Bool.or_self, Bool.false_or, decide_eq_true_eq, beq_iff_eq]; omega
        rw [e]
        clear e h3
        go_enter Tryd.func43, Tryd.ntmps43
        go_wp2_with (first | (go_at_call 42; refine (rletter_any _ _).mono ?_; rintro e w' ⟨rfl, rfl⟩) | (go_at_call 50; refine (rdigit_any _ _).mono ?_; rintro e w' ⟨rfl, rfl⟩))
        go_ret
        exact ⟨rfl, rfl⟩
    · have e : Nm.more c = true := by unfold Nm.more; rw [h1, h2]; rfl
      rw [e]
      clear e
      go_enter Tryd.func43, Tryd.ntmps43
      go_wp2_with (first | (go_at_call 42; refine (rletter_any _ _).mono ?_; rintro e w' ⟨rfl, rfl⟩) | (go_at_call 50; refine (rdigit_any _ _).mono ?_; rintro e w' ⟨rfl, rfl⟩))
      go_ret
      exact ⟨rfl, rfl⟩
  · have e : Nm.more c = true := by unfold Nm.more; rw [h1]; rfl
    rw [e]
    clear e
    go_enter Tryd.func43, Tryd.ntmps43
    go_wp2_with (first | (go_at_call 42; refine (rletter_any _ _).mono ?_; rintro e w' ⟨rfl, rfl⟩) | (go_at_call 50; refine (rdigit_any _ _).mono ?_; rintro e w' ⟨rfl, rfl⟩))
    go_ret
    exact ⟨rfl, rfl⟩
set_option maxHeartbeats 1000000 in
theorem class_any (c : UInt8) (w : World) : Calls Tryd.prog 35 #[.int .u8 (c.toNat : Int)] w fun e w' => e = .returned (.int .i64 (Nm.cls c)) ∧ w = w' := by
  have hlow : Nm.low c = decide (97 ≤ (c.toNat : Int) ∧ (c.toNat : Int) ≤ 122) := by unfold Nm.low; apply decide_eq_decide.2; omega
  have hdig : Nm.dig c = decide (48 ≤ (c.toNat : Int) ∧ (c.toNat : Int) ≤ 57) := by unfold Nm.dig; apply decide_eq_decide.2; omega
  have hjoin : Nm.joinB c = decide ((c.toNat : Int) = 45 ∨ (c.toNat : Int) = 95) := by unfold Nm.joinB; apply decide_eq_decide.2; omega
  have hc : 0 ≤ (c.toNat : Int) := by omega
  unfold Nm.cls
  rw [hlow, hdig, hjoin]
  clear hlow hdig hjoin
  generalize (c.toNat : Int) = x at *
  simp only [decide_eq_true_eq]
  by_cases a1 : 97 ≤ x
  · by_cases a2 : x ≤ 122
    · rw [if_pos ⟨a1, a2⟩]
      go_enter Tryd.func35, Tryd.ntmps35
      go_wp2
      go_ret
      exact ⟨rfl, rfl⟩
    · have a2' : decide (x ≤ 122) = false := decide_eq_false a2
      have b1 : 48 ≤ x := by omega
      have b2' : decide (x ≤ 57) = false := decide_eq_false (by omega)
      have c1 : (x == 45) = false := beq_eq_false_iff_ne.2 (by omega)
      have c2 : (x == 95) = false := beq_eq_false_iff_ne.2 (by omega)
      rw [if_neg (by omega), if_neg (by omega), if_neg (by omega)]
      go_enter Tryd.func35, Tryd.ntmps35
      go_wp2
      go_ret
      exact ⟨rfl, rfl⟩
  · have a1' : decide (97 ≤ x) = false := decide_eq_false a1
    by_cases b1 : 48 ≤ x
    · by_cases b2 : x ≤ 57
      · rw [if_neg (by omega), if_pos ⟨b1, b2⟩]
        clear a1
        go_enter Tryd.func35, Tryd.ntmps35
        go_wp2
        go_ret
        exact ⟨rfl, rfl⟩
      · have b2' : decide (x ≤ 57) = false := decide_eq_false b2
        have c1 : (x == 45) = false := beq_eq_false_iff_ne.2 (by omega)
        by_cases c2 : x = 95
        · rw [if_neg (by omega), if_neg (by omega), if_pos (by omega)]
          have c2' : (x == 95) = true := beq_iff_eq.2 c2
          clear a1 b2 c2
          go_enter Tryd.func35, Tryd.ntmps35
          go_wp2
          go_ret
          exact ⟨rfl, rfl⟩
        · rw [if_neg (by omega), if_neg (by omega), if_neg (by omega)]
          have c2' : (x == 95) = false := beq_eq_false_iff_ne.2 c2
          clear a1 b2 c2
          go_enter Tryd.func35, Tryd.ntmps35
          go_wp2
          go_ret
          exact ⟨rfl, rfl⟩
    · have b1' : decide (48 ≤ x) = false := decide_eq_false b1
      have c2' : (x == 95) = false := beq_eq_false_iff_ne.2 (by omega)
      by_cases c1 : x = 45
      · rw [if_neg (by omega), if_neg (by omega), if_pos (by omega)]
        have c1' : (x == 45) = true := beq_iff_eq.2 c1
        clear a1 b1 c1
        go_enter Tryd.func35, Tryd.ntmps35
        go_wp2
        go_ret
        exact ⟨rfl, rfl⟩
      · rw [if_neg (by omega), if_neg (by omega), if_neg (by omega)]
        have c1' : (x == 45) = false := beq_eq_false_iff_ne.2 c1
        clear a1 b1 c1
        go_enter Tryd.func35, Tryd.ntmps35
        go_wp2
        go_ret
        exact ⟨rfl, rfl⟩

set_option maxHeartbeats 1000000 in
theorem rword_any (s : ByteArray) (w : World) (hs : s.size ≤ maxLen) : Calls Tryd.prog 31 #[.string s] w fun e w' => e = .returned (.bool (Nm.word s.data.toList)) ∧ w = w' := by
  have hlen : s.data.toList.length = s.size := by simp
  unfold maxLen at hs
  by_cases h0 : s.size = 0
  · have e : Nm.word s.data.toList = false := by unfold Nm.word; rw [decide_eq_false (show ¬ 0 < s.data.toList.length by omega)]; rfl
    have h1 : ((s.size : Int) == 0) = true := beq_iff_eq.2 (by omega)
    rw [e]
    clear e h0 hlen
    go_enter Tryd.func31, Tryd.ntmps31
    go_wp2_with ((go_at_call 42; refine (rletter_any _ _).mono ?_; rintro e w' ⟨rfl, rfl⟩))
    go_ret
    exact ⟨rfl, rfl⟩
  · have h1 : ((s.size : Int) == 0) = false := beq_eq_false_iff_ne.2 (by omega)
    by_cases h2 : (24 : Int) < (s.size : Int)
    · have e : Nm.word s.data.toList = false := by unfold Nm.word; rw [decide_eq_false (show ¬ s.data.toList.length ≤ 24 by omega), Bool.and_false]; rfl
      rw [e]
      clear e h0 hlen
      go_enter Tryd.func31, Tryd.ntmps31
      go_wp2_with ((go_at_call 42; refine (rletter_any _ _).mono ?_; rintro e w' ⟨rfl, rfl⟩))
      go_ret
      exact ⟨rfl, rfl⟩
    · have h2' : decide ((24 : Int) < (s.size : Int)) = false := decide_eq_false h2
      have hp : 0 < s.size := by omega
      have hhd := Nm.head_at s hp
      cases hl : Nm.low s[0]
      · have e : Nm.word s.data.toList = false := by unfold Nm.word; rw [hhd, hl, Bool.and_false]; rfl
        rw [e]
        clear e h0 hlen h2 hhd
        go_enter Tryd.func31, Tryd.ntmps31
        go_wp2_with ((go_at_call 42; refine (rletter_any _ _).mono ?_; rintro e w' ⟨rfl, rfl⟩))
        go_ret
        exact ⟨rfl, rfl⟩
      · have e : Nm.word s.data.toList = Nm.tailB s.data.toList := by
          unfold Nm.word; rw [hhd, hl, decide_eq_true (by omega), decide_eq_true (by omega)]; rfl
        rw [e]
        have HS := Lib.hid hs
        clear e h0 hlen h2 hhd
        go_enter Tryd.func31, Tryd.ntmps31
        go_wp2_with ((go_at_call 42; refine (rletter_any _ _).mono ?_; rintro e w' ⟨rfl, rfl⟩))
        go_loop [3] (fun i => ∃ k : Nat, k ≤ s.size ∧ i = .int .i64 k ∧ Hid (∀ j (hj : j < s.size), j < k → Nm.more s[j] = true)) (fun i => s.size - (intOf i).toNat)
        case atStart => exact ⟨0, Nat.zero_le _, rfl, Lib.hid fun j _ h => absurd h (Nat.not_lt_zero _)⟩
        case round =>
          obtain ⟨k, hk, rfl, hall⟩ := hrel
          by_cases hlt : k < s.size
          · cases hm : Nm.more s[k]
            · have E := Lib.hid (show Nm.tailB s.data.toList = false from Nm.all_no s Nm.more hlt hm)
              go_wp2_with ((go_at_call 43; refine (rmore_any _ _).mono ?_; rintro e w' ⟨rfl, rfl⟩))
              go_ret
              exact ⟨ret_bool E.out.symm, rfl⟩
            · go_wp2_with ((go_at_call 43; refine (rmore_any _ _).mono ?_; rintro e w' ⟨rfl, rfl⟩))
              go_round
              case rel =>
                refine ⟨k + 1, by omega, by go_num, Lib.hid fun j hj h => ?_⟩
                rcases Nat.lt_or_eq_of_le (Nat.le_of_lt_succ h) with h | rfl
                · exact hall.out j hj h
                · exact hm
              case measure => simp [intOf]; omega
          · have E := Lib.hid (show Nm.tailB s.data.toList = true from Nm.all_of s Nm.more fun j hj => hall.out j hj (by omega))
            go_wp2_with fail
            go_ret
            exact ⟨ret_bool E.out.symm, rfl⟩

/-- A text in memory: one cell. -/
def sc (x : ByteArray) : List Value := [.string x]
theorem sc_len : ∀ x, (sc x).length = 1 := fun _ => rfl
theorem sc_one : ∀ x, ∀ u ∈ sc x, u.oneCell' = true := by intro x u hu; simp [sc] at hu; subst hu; rfl
def resA : List ByteArray := Nm.resW.map fun l => ⟨l.toArray⟩
theorem resA_len : resA.length = 15 := rfl
theorem resA_at {k : Nat} (hk : k < resA.length) : (resA[k]).data.toList = Nm.resW[k]'(by simpa [resA] using hk) := by
  simp [resA]
theorem res_yes {s : ByteArray} {k : Nat} (hk : k < resA.length) (h : resA[k] = s) : Nm.res s.data.toList = true := by
  unfold Nm.res
  rw [List.contains_iff_mem, ← h, resA_at hk]
  exact List.getElem_mem _
theorem res_no {s : ByteArray} (h : ∀ k (hk : k < resA.length), resA[k] ≠ s) : Nm.res s.data.toList = false := by
  unfold Nm.res
  refine Bool.eq_false_iff.2 fun hc => ?_
  rw [List.contains_iff_mem] at hc
  obtain ⟨k, hk, e⟩ := List.getElem_of_mem hc
  have hk' : k < resA.length := by simpa [resA] using hk
  exact h k hk' (ByteArray.ext (Array.ext' ((resA_at hk').trans e)))
theorem eq_toList {x s : ByteArray} : (x.toList == s.toList) = true ↔ x = s := by
  rw [beq_iff_eq, ByteArray.toList_eq, ByteArray.toList_eq]
  exact ⟨fun h => ByteArray.ext (Array.ext' h), fun h => by rw [h]⟩
theorem slRes (w : World) : Sl sc 1 (w.alloc (.cells (resA.flatMap sc).toArray 9)) (.slice (some ⟨w.heap.size, 0, none⟩) 15 15) resA (fun _ => True) :=
  Sl.newl resA sc_len rfl rfl (by decide) rfl
set_option maxHeartbeats 1000000 in
theorem rres_any (s : ByteArray) (w : World) : Calls Tryd.prog 32 #[.string s] w fun e w' => e = .returned (.bool (Nm.res s.data.toList)) ∧ Below w.heap.size w w' := by
  obtain ⟨r, hr⟩ : ∃ r, Nm.res s.data.toList = r := ⟨_, rfl⟩
  have HR := Lib.hid hr
  rw [hr]
  clear hr
  go_enter Tryd.func32, Tryd.ntmps32
  go_wp2_with fail
  generalize hw1 : w.alloc _ = w1
  have hS : Sl sc 1 w1 (.slice (some ⟨w.heap.size, 0, none⟩) 15 15) resA (fun _ => True) := by rw [← hw1]; exact slRes w
  have hb : Below w.heap.size w w1 := by rw [← hw1]; exact (Below.refl _ _).alloc (Nat.le_refl _) _
  have HS := Lib.hid hS
  have HB := Lib.hid hb
  clear hw1 hS hb
  go_loop [4] (fun i => ∃ k : Nat, k ≤ 15 ∧ i = .int .i64 k ∧ Hid (∀ j (hj : j < resA.length), j < k → resA[j] ≠ s)) (fun i => 15 - (intOf i).toNat)
  case atStart => exact ⟨0, Nat.zero_le _, rfl, Lib.hid fun j _ h => absurd h (Nat.not_lt_zero _)⟩
  case round =>
    obtain ⟨k, hk, rfl, hall⟩ := hrel
    by_cases hlt : k < 15
    · have hkr : k < resA.length := hlt
      obtain ⟨x, Hx⟩ : ∃ x, Hid (resA[k] = x) := ⟨_, Lib.hid rfl⟩
      obtain ⟨b, off, cap, e, _, _, _, _, h5⟩ := HS.out.at_ hkr
      injection e with e e' e''
      injection e with e
      injection e with e1 e2 e3
      subst e1 e2
      have h6 := h5 0 (.string x) (by rw [Hx.out]; rfl)
      rw [Nat.zero_add, Nat.mul_one, Nat.add_zero] at h6
      have q1 : (0 : Int) ≤ (k : Int) := by omega
      have q2 : (k : Int) < 15 := by omega
      clear h5 e' e'' e3
      by_cases hxs : x = s
      · subst hxs
        have E := Lib.hid (HR.out.symm.trans (res_yes hlt Hx.out))
        go_wp2_with fail
        go_ret
        exact ⟨ret_bool E.out.symm, HB.out⟩
      · have hne : (x.toList == s.toList) = false := Bool.eq_false_iff.2 fun h => hxs (eq_toList.1 h)
        clear hxs
        have HN := Lib.hid hne
        go_wp2_with fail
        go_round
        case rel =>
          refine ⟨k + 1, by omega, by go_num, Lib.hid fun j hj h => ?_⟩
          rcases Nat.lt_or_eq_of_le (Nat.le_of_lt_succ h) with h | rfl
          · exact hall.out j hj h
          · intro e
            have := HN.out
            rw [← Hx.out, e, beq_self_eq_true] at this
            cases this
        case measure => simp [intOf]; omega
    · have E := Lib.hid (HR.out.symm.trans (res_no fun j hj => hall.out j hj (Nat.lt_of_lt_of_le hj (show 15 ≤ k by omega))))
      go_wp2_with fail
      go_ret
      exact ⟨ret_bool E.out.symm, HB.out⟩

set_option maxHeartbeats 400000 in
theorem rname_any (s : ByteArray) (w : World) (hs : s.size ≤ maxLen) : Calls Tryd.prog 18 #[.string s] w fun e w' => e = .returned (.bool (Nm.name s.data.toList)) ∧ Below w.heap.size w w' := by
  cases hw : Nm.word s.data.toList
  · have e : Nm.name s.data.toList = false := by unfold Nm.name; rw [hw]; rfl
    have H := rword_any s w hs
    rw [hw] at H
    rw [e]
    have HW := Lib.hid H
    clear e hw H hs
    go_enter Tryd.func18, Tryd.ntmps18
    go_wp2_with (go_at_call 31; refine HW.out.mono ?_; rintro e w' ⟨rfl, rfl⟩)
    go_ret
    exact ⟨rfl, Below.refl _ _⟩
  · have e : Nm.name s.data.toList = !Nm.res s.data.toList := by unfold Nm.name; rw [hw]; rfl
    have H := rword_any s w hs
    rw [hw] at H
    rw [e]
    have HW := Lib.hid H
    have HR := Lib.hid (rres_any s w)
    generalize Nm.res s.data.toList = r at *
    clear e hw H hs
    go_enter Tryd.func18, Tryd.ntmps18
    go_wp2_with fail
    refine HW.out.mono ?_
    rintro e w' ⟨rfl, rfl⟩
    go_wp2_with fail
    refine HR.out.mono ?_
    rintro e w' ⟨rfl, hb⟩
    have HB := Lib.hid hb
    clear hb
    go_wp2_with fail
    go_ret
    exact ⟨rfl, HB.out⟩

set_option maxHeartbeats 400000 in
theorem more1_any (c : UInt8) (w : World) : Calls Tryd.prog 38 #[.int .i64 (Nm.cls c)] w fun e w' => e = .returned (.bool (Nm.more c)) ∧ w = w' := by
  rw [← Nm.cls_more]
  generalize Nm.cls c = x
  go_enter Tryd.func38, Tryd.ntmps38
  go_wp2
  go_ret
  exact ⟨rfl, rfl⟩
set_option maxHeartbeats 1000000 in
theorem run_any (s : ByteArray) (w : World) (hs : s.size ≤ maxLen) : Calls Tryd.prog 37 #[.string s, .func (.func 38) #[] #[]] w fun e w' => e = .returned (.int .i64 (Nm.pre Nm.more s.data.toList : Nat)) ∧ w = w' := by
  unfold maxLen at hs
  obtain ⟨r, hr⟩ : ∃ r : Nat, Nm.pre Nm.more s.data.toList = r := ⟨_, rfl⟩
  have HR := Lib.hid hr
  rw [hr]
  clear hr
  go_enter Tryd.func37, Tryd.ntmps37
  go_wp2_with fail
  go_loop [5] (fun i => ∃ k : Nat, k ≤ s.size ∧ i = .int .i64 k ∧ Hid (∀ j (hj : j < s.size), j < k → Nm.more s[j] = true)) (fun i => s.size - (intOf i).toNat)
  case atStart => exact ⟨0, Nat.zero_le _, rfl, Lib.hid fun j _ h => absurd h (Nat.not_lt_zero _)⟩
  case round =>
    obtain ⟨k, hk, rfl, hall⟩ := hrel
    by_cases hlt : k < s.size
    · cases hm : Nm.more s[k]
      · have E := Lib.hid (HR.out.symm.trans (Nm.pre_stop Nm.more s.data.toList k (by simpa using hlt) (fun j hj => hall.out j (by omega) hj) hm))
        go_wp2_with (first | (go_at_call 35; refine (class_any _ _).mono ?_; rintro e w' ⟨rfl, rfl⟩) | (go_at_call 38; refine (more1_any _ _).mono ?_; rintro e w' ⟨rfl, rfl⟩))
        go_ret
        exact ⟨ret_i64 (by rw [E.out]), rfl⟩
      · go_wp2_with (first | (go_at_call 35; refine (class_any _ _).mono ?_; rintro e w' ⟨rfl, rfl⟩) | (go_at_call 38; refine (more1_any _ _).mono ?_; rintro e w' ⟨rfl, rfl⟩))
        go_round
        case rel =>
          refine ⟨k + 1, by omega, by go_num, Lib.hid fun j hj h => ?_⟩
          rcases Nat.lt_or_eq_of_le (Nat.le_of_lt_succ h) with h | rfl
          · exact hall.out j hj h
          · exact hm
        case measure => simp [intOf]; omega
    · have E := Lib.hid (HR.out.symm.trans (Nm.pre_end Nm.more s.data.toList fun j hj => hall.out j (by rw [← Nm.len_size]; exact hj) (by have := Nm.len_size s; omega)))
      have hks := Lib.hid (show k = s.data.toList.length by have := Nm.len_size s; omega)
      go_wp2_with fail
      go_ret
      exact ⟨ret_i64 (by rw [E.out, hks.out]), rfl⟩
end Go.Proofs.YtkagfddkfpeddaaDoor
