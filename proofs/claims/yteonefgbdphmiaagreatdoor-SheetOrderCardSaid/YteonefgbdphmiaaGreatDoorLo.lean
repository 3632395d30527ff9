/- The walk of tick.Parse. Printed by wip/bin/genpy.py. -/
import Derived.Test.YteonefgbdphmiaaGreatDoorTq
import Derived.Test.YteonefgbdphmiaaGreatDoorShelf
import Derived.Test.YteonefgbdphmiaaGreatDoorNb
import Derived.BigCall
import Derived.Lib.ConvBytes
import Derived.WalkKit
import Derived.WalkSpells
import Derived.WalkLawsBesides
import Derived.Lib.Hide
import Derived.Test.YteonefgbdphmiaaGreatDoorLk
namespace Go.Proofs.YteonefgbdphmiaaGreatDoor
open Go.Shelf Go.RowKit


set_option maxHeartbeats 400000 in
theorem within_py (a b c : Int) (w : World) :
    Calls Tryz.prog 79 #[.int .i64 a, .int .i64 b, .int .i64 c] w fun e w' => e = .returned (.bool (decide (a ≤ b ∧ b ≤ c))) ∧ w = w' := by
  go_enter Tryz.func79, Tryz.ntmps79
  go_wp2
  · have h : ¬ (a ≤ b) := by have h : b < a := by assumption
                             omega
    go_ret
    exact ⟨by simp [h], rfl⟩
  · have h : a ≤ b := by assumption
    go_ret
    exact ⟨by simp [h], rfl⟩

set_option maxHeartbeats 400000 in
theorem pcheck_any (t : Int) (w : World) :
    Calls Tryz.prog 51 #[.int .i64 t] w fun e w' => e = .returned (.int .i64 (Tk.chk t)) ∧ w = w' := by
  by_cases h : 0 ≤ t ∧ t ≤ 1099511627776
  · have hd : decide (0 ≤ t ∧ t ≤ 1099511627776) = true := by simp [h]
    rw [Tk.chk_ok h]
    clear h
    go_enter Tryz.func51, Tryz.ntmps51
    go_wp2_with (go_at_call 79; refine (within_py _ _ _ _).mono ?_; rintro e w' ⟨rfl, rfl⟩)
    go_ret
    exact ⟨rfl, rfl⟩
  · have hd : decide (0 ≤ t ∧ t ≤ 1099511627776) = false := by simp only [decide_eq_false_iff_not]; exact h
    rw [Tk.chk_no h]
    clear h
    go_enter Tryz.func51, Tryz.ntmps51
    go_wp2_with (go_at_call 79; refine (within_py _ _ _ _).mono ?_; rintro e w' ⟨rfl, rfl⟩)
    go_ret
    exact ⟨rfl, rfl⟩

set_option maxHeartbeats 400000 in
theorem small_any (t : Int) (w : World) :
    Calls Tryz.prog 123 #[.int .i64 t] w fun e w' => e = .returned (.tuple #[.int .i64 (if Tk.chk t = 0 then t else 0), .int .i64 (Tk.chk t)]) ∧ w = w' := by
  rcases Tk.chk_cases t with ⟨h1, h2, h3⟩ | ⟨h1, h3⟩
  all_goals
    rw [h3]
    go_enter Tryz.func123, Tryz.ntmps123
    go_wp2_with (go_at_call 51; refine (pcheck_any _ _).mono ?_; rintro e w' ⟨rfl, rfl⟩)
    go_ret2
    exact ⟨rfl, rfl⟩
/-- The library's range error holds a value. -/
def LibOk (w : World) : Prop := ∃ te pe, w.cell? ⟨3, 0, none⟩ = some (.iface te pe)
theorem LibOk.below {w w' : World} (h : LibOk w) (hb : Below w.heap.size w w') : LibOk w' := by
  obtain ⟨te, pe, hc⟩ := h
  exact ⟨te, pe, (hb.cell (p := ⟨3, 0, none⟩) (World.block_lt_of_cell? w _ hc)).trans hc⟩
/-- Between two. -/
def isIn (a b c : Int) : Bool := decide (a ≤ b ∧ b ≤ c)
set_option maxHeartbeats 400000 in
theorem withinB_any (a b c : Int) (w : World) :
    Calls Tryz.prog 121 #[.int .u8 a, .int .u8 b, .int .u8 c] w fun e w' => e = .returned (.bool (isIn a b c)) ∧ w = w' := by
  by_cases h : a ≤ b
  · have hr : isIn a b c = decide (b ≤ c) := by unfold isIn; simp [h]
    rw [hr]
    clear hr
    go_enter Tryz.func121, Tryz.ntmps121
    go_wp2
    go_ret
    exact ⟨rfl, rfl⟩
  · have hr : isIn a b c = false := by unfold isIn; simp [h]
    rw [hr]
    clear hr
    go_enter Tryz.func121, Tryz.ntmps121
    go_wp2
    go_ret
    exact ⟨rfl, rfl⟩

theorem getD_in {l : List UInt8} {j : Nat} (h : j < l.length) : l.getD j 0 ∈ l := by
  rw [List.getD_eq_getElem?_getD, List.getElem?_eq_getElem h]
  exact List.getElem_mem _
theorem all_digs {l : List UInt8} (h : ∀ j, j < l.length → Tk.isDig (l.getD j 0) = true) : l.all Tk.isDig = true := by
  rw [List.all_eq_true]
  intro x hx
  obtain ⟨j, hj, rfl⟩ := List.getElem_of_mem hx
  have := h j hj
  rwa [List.getD_eq_getElem?_getD, List.getElem?_eq_getElem hj] at this
theorem not_digs {l : List UInt8} {j : Nat} (hj : j < l.length) (h : ¬ Tk.isDig (l.getD j 0) = true) : l.all Tk.isDig = false := by
  rw [← Bool.not_eq_true, List.all_eq_true]
  exact fun ha => h (ha _ (getD_in hj))
/-- The loop's state: so many bytes are digits. -/
def PIn (s : ByteArray) (w : World) (s25 : Value) (wr : World) : Prop :=
  ∃ k : Nat, s25 = .int .i64 k ∧ k ≤ s.size ∧ Hid (∀ j, j < k → Tk.isDig (s.data.toList.getD j 0) = true) ∧ ∃ t, wr = Lib.bytesWorld w t s
theorem PIn.step {s : ByteArray} {w : World} {t : TypeId} {k : Nat} (hk : k < s.size) (h : Hid (∀ j, j < k → Tk.isDig (s.data.toList.getD j 0) = true)) {c : UInt8} (hc : Hid (s.data.toList.getD k 0 = c)) (hd : Hid (Tk.isDig c = true)) :
    PIn s w (.int .i64 (k + 1 : Nat)) (Lib.bytesWorld w t s) := by
  refine ⟨k + 1, rfl, hk, ?_, t, rfl⟩
  refine Lib.hid fun j hj => ?_
  rcases Nat.lt_succ_iff_lt_or_eq.1 hj with h1 | rfl
  · exact h.out j h1
  · rw [hc.out]; exact hd.out

theorem below_step {w w1 : World} {t t' : TypeId} {s : ByteArray} (h : w1 = Lib.bytesWorld w t s ∨ ∃ r, w1 = Lib.bytesWorld (Lib.bytesWorld w t s) t' r) : Below w.heap.size w w1 := by
  rcases h with rfl | ⟨r, rfl⟩
  · exact Lib.bytesWorld_below w t s
  · exact Below.lift (Lib.bytesWorld_below w t s) (Lib.bytesWorld_below _ t' r)

set_option maxHeartbeats 1000000 in
theorem parse_any (s : ByteArray) (w : World) (hs : s.size ≤ 1099511627776) (hL : LibOk w) :
    Calls Tryz.prog 102 #[.string s] w fun e w' => e = .returned (.tuple #[.int .i64 (Tk.parseV s.data.toList), .int .i64 (Tk.parseE s.data.toList)]) ∧ Below w.heap.size w w' := by
  have hcv := fun W => Lib.run_convert_string_bytes (P := Tryz.prog) W 9 150 5 s Tryz.underlying9 Tryz.underlying150 Tryz.underlying5
  have hlen : s.data.toList.length = s.size := by simp
  by_cases h1 : s.data.toList = Tk.infB
  · have h1' : (s.toList == [105, 110, 102]) = true := by rw [ByteArray.toList_eq, h1]; rfl
    have hE : Tk.parseE s.data.toList = 0 := by unfold Tk.parseE; rw [if_pos h1]
    have hV : Tk.parseV s.data.toList = 4611686018427387904 := by unfold Tk.parseV; rw [if_pos h1]
    rw [hE, hV]
    clear hcv hlen hE hV h1
    go_enter Tryz.func102, Tryz.ntmps102
    go_wp2_with fail
    go_ret2
    exact ⟨rfl, Below.refl _ _⟩
  · have h1' : (s.toList == [105, 110, 102]) = false := by rw [ByteArray.toList_eq]; exact beq_eq_false_iff_ne.2 h1
    by_cases hb : s.data.toList = []
    · have hE : Tk.parseE s.data.toList = 7 := by unfold Tk.parseE; rw [if_neg h1, if_pos (by rw [hb]; rfl)]
      have hV : Tk.parseV s.data.toList = 0 := by unfold Tk.parseV; rw [if_neg h1, hE, if_neg (by decide)]
      have hb' : s.toList = [] := by rw [ByteArray.toList_eq, hb]
      rw [hE, hV]
      clear hcv hlen hE hV hb h1
      go_enter Tryz.func102, Tryz.ntmps102
      go_wp2_with fail
      go_ret2
      exact ⟨rfl, Below.refl _ _⟩
    have hb1 : ¬ s.toList = [] := by rw [ByteArray.toList_eq]; exact hb
    have hb2 : s.toList.isEmpty = false := by rw [ByteArray.toList_eq]; exact List.isEmpty_eq_false_iff.2 hb
    have h0 : 0 < s.size := by rw [← hlen]; exact List.length_pos_iff.2 hb
    by_cases hz1 : (s.size : Int) ≤ 1
    · have hbad : Tk.badNum s.data.toList = !s.data.toList.all Tk.isDig := by
        unfold Tk.badNum
        rw [List.isEmpty_eq_false_iff.2 hb, decide_eq_false (by rw [hlen]; omega), Bool.false_and, Bool.false_or, Bool.false_or]
      go_enter Tryz.func102, Tryz.ntmps102
      go_wp2_with fail
      go_loopw [5, 25] (fun _ s25 wr => PIn s w s25 wr) (fun _ s25 _ => s.size - (intOf s25).toNat)
      case atStart => exact ⟨0, rfl, Nat.zero_le _, Lib.hid fun j hj => absurd hj (Nat.not_lt_zero _), _, rfl⟩
      case round =>
        obtain ⟨k, rfl, hk, hdig, t, rfl⟩ := hrel
        clear hcv
        by_cases hlt : k < s.size
        · have hc := Lib.bytesWorld_cell w t s k hlt
          obtain ⟨c, hcq⟩ : ∃ c, Hid (s.data.toList.getD k 0 = c) := ⟨_, Lib.hid rfl⟩
          rw [hcq.out] at hc
          by_cases hd : Tk.isDig c = true
          · have hd' : isIn 48 (c.toNat : Int) 57 = true := hd
            have Hd := Lib.hid hd
            clear hd
            go_wp2_with (go_at_call 121; refine (withinB_any _ _ _ _).mono ?_; rintro e w' ⟨rfl, rfl⟩)
            exact ⟨PIn.step hlt hdig hcq Hd, by simp only [intOf]; omega⟩
          · have hd' : isIn 48 (c.toNat : Int) 57 = false := by simpa [Tk.isDig, isIn] using hd
            have hE : Tk.parseE s.data.toList = 7 := by
              unfold Tk.parseE; rw [if_neg h1, if_pos (by rw [hbad, not_digs (by rw [hlen]; exact hlt) (by rw [hcq.out]; exact hd)]; rfl)]
            have hV : Tk.parseV s.data.toList = 0 := by unfold Tk.parseV; rw [if_neg h1, hE, if_neg (by decide)]
            have HE := Lib.hid hE
            have HV := Lib.hid hV
            clear hE hV hbad hd
            go_wp2_with (go_at_call 121; refine (withinB_any _ _ _ _).mono ?_; rintro e w' ⟨rfl, rfl⟩)
            go_ret2
            exact ⟨by rw [HE.out, HV.out]; rfl, Lib.bytesWorld_below w t s⟩
        · have hall : s.data.toList.all Tk.isDig = true := all_digs fun j hj => hdig.out j (by rw [hlen] at hj; omega)
          rw [hall] at hbad
          have hP := Tk.parseIntB_digits hb hall
          by_cases hv : Tk.val 0 s.data.toList < 9223372036854775808
          · rw [if_pos hv] at hP
            have hE : Tk.parseE s.data.toList = Tk.chk (Tk.val 0 s.data.toList) := by
              unfold Tk.parseE; rw [if_neg h1, if_neg (by rw [hbad]; decide)]
              by_cases h9 : Tk.val 0 s.data.toList ≤ 1099511627776
              · rw [if_pos h9, Tk.chk_ok (by omega)]
              · rw [if_neg h9, Tk.chk_no (by omega)]
            have hV : Tk.parseV s.data.toList = if Tk.chk (Tk.val 0 s.data.toList) = 0 then (Tk.val 0 s.data.toList : Int) else 0 := by
              unfold Tk.parseV; rw [if_neg h1, hE]
            have H := Lib.hid (Any.strconv_ParseInt_10_at64_ok Tryz.laysC174 s (by omega) _ hP)
            obtain ⟨n, hn⟩ : ∃ n : Int, Hid ((Tk.val 0 s.data.toList : Int) = n) := ⟨_, Lib.hid rfl⟩
            rw [hn.out] at hE hV H
            clear hP hv hall hbad
            rcases Tk.chk_cases n with ⟨-, -, hk9⟩ | ⟨-, hk9⟩
            · rw [hk9, if_pos rfl] at hV
              rw [hk9] at hE
              have HE := Lib.hid hE
              have HV := Lib.hid hV
              clear hE hV
              go_wp2_with (first | (go_at_call 123; refine (small_any _ _).mono ?_; rintro e w' ⟨rfl, rfl⟩) | (go_at_call 122; refine (H.out _).mono ?_; rintro e w1 ⟨rfl, hw1⟩; replace hw1 := Lib.hid (below_step hw1)))
              go_ret2
              exact ⟨by rw [HE.out, HV.out]; rfl, hw1.out⟩
            · rw [hk9, if_neg (by decide)] at hV
              rw [hk9] at hE
              have HE := Lib.hid hE
              have HV := Lib.hid hV
              clear hE hV
              go_wp2_with (first | (go_at_call 123; refine (small_any _ _).mono ?_; rintro e w' ⟨rfl, rfl⟩) | (go_at_call 122; refine (H.out _).mono ?_; rintro e w1 ⟨rfl, hw1⟩; replace hw1 := Lib.hid (below_step hw1)))
              go_ret2
              exact ⟨by rw [HE.out, HV.out]; rfl, hw1.out⟩
          · rw [if_neg hv] at hP
            have hE : Tk.parseE s.data.toList = 9 := by
              unfold Tk.parseE; rw [if_neg h1, if_neg (by rw [hbad]; decide), if_neg (by omega)]
            have hV : Tk.parseV s.data.toList = 0 := by unfold Tk.parseV; rw [if_neg h1, hE, if_neg (by decide)]
            have HE := Lib.hid hE
            have HV := Lib.hid hV
            skip
            have hL2 := hL.below (Lib.bytesWorld_below w t s)
            obtain ⟨te, pe, hcell⟩ := hL2
            have H := Lib.hid (Any.strconv_ParseInt_10_at64_range Tryz.laysC174 s (by omega) hP _ (Lib.bytesWorld w t s) hcell (.inr ⟨te, pe, rfl⟩))
            clear hE hV hP hv hall hbad hcell
            go_wp2_with (go_at_call 122; refine H.out.mono ?_; rintro e w1 ⟨N, rfl, -, -, hw1⟩; replace hw1 := Lib.hid (Below.lift (Lib.bytesWorld_below w t s) hw1))
            go_ret2
            exact ⟨by rw [HE.out, HV.out]; rfl, hw1.out⟩
    · have hz1 : 1 < (s.size : Int) := by omega
      have hhd : s.data.toList.head? = some s[0] := by
        rw [List.head?_eq_getElem?]; simp [h0]; rfl
      by_cases hz : (((s[0]).toNat : Int) == 48) = true
      · have hE : Tk.parseE s.data.toList = 7 := by
          have : s[0] = 48 := by
            have := beq_iff_eq.1 hz
            apply UInt8.toNat_inj.1
            simp; omega
          unfold Tk.parseE; rw [if_neg h1, if_pos (by unfold Tk.badNum; rw [hhd, decide_eq_true (by rw [hlen]; omega), this]; simp)]
        have hV : Tk.parseV s.data.toList = 0 := by unfold Tk.parseV; rw [if_neg h1, hE, if_neg (by decide)]
        rw [hE, hV]
        clear hcv hlen hE hV hb h1 hhd
        go_enter Tryz.func102, Tryz.ntmps102
        go_wp2_with fail
        go_ret2
        exact ⟨rfl, Below.refl _ _⟩
      · have hz : (((s[0]).toNat : Int) == 48) = false := by simpa using hz
        have hbad : Tk.badNum s.data.toList = !s.data.toList.all Tk.isDig := by
          have : (s.data.toList.head? == some 48) = false := by
            rw [hhd]
            refine beq_eq_false_iff_ne.2 fun e => ?_
            injection e with e
            rw [e] at hz
            exact absurd hz (by decide)
          unfold Tk.badNum
          rw [List.isEmpty_eq_false_iff.2 hb, this, Bool.and_false, Bool.false_or, Bool.false_or]
        clear hhd
        go_enter Tryz.func102, Tryz.ntmps102
        go_wp2_with fail
        go_loopw [5, 25] (fun _ s25 wr => PIn s w s25 wr) (fun _ s25 _ => s.size - (intOf s25).toNat)
        case atStart => exact ⟨0, rfl, Nat.zero_le _, Lib.hid fun j hj => absurd hj (Nat.not_lt_zero _), _, rfl⟩
        case round =>
          obtain ⟨k, rfl, hk, hdig, t, rfl⟩ := hrel
          clear hcv
          by_cases hlt : k < s.size
          · have hc := Lib.bytesWorld_cell w t s k hlt
            obtain ⟨c, hcq⟩ : ∃ c, Hid (s.data.toList.getD k 0 = c) := ⟨_, Lib.hid rfl⟩
            rw [hcq.out] at hc
            by_cases hd : Tk.isDig c = true
            · have hd' : isIn 48 (c.toNat : Int) 57 = true := hd
              have Hd := Lib.hid hd
              clear hd
              go_wp2_with (go_at_call 121; refine (withinB_any _ _ _ _).mono ?_; rintro e w' ⟨rfl, rfl⟩)
              exact ⟨PIn.step hlt hdig hcq Hd, by simp only [intOf]; omega⟩
            · have hd' : isIn 48 (c.toNat : Int) 57 = false := by simpa [Tk.isDig, isIn] using hd
              have hE : Tk.parseE s.data.toList = 7 := by
                unfold Tk.parseE; rw [if_neg h1, if_pos (by rw [hbad, not_digs (by rw [hlen]; exact hlt) (by rw [hcq.out]; exact hd)]; rfl)]
              have hV : Tk.parseV s.data.toList = 0 := by unfold Tk.parseV; rw [if_neg h1, hE, if_neg (by decide)]
              have HE := Lib.hid hE
              have HV := Lib.hid hV
              clear hE hV hbad hd
              go_wp2_with (go_at_call 121; refine (withinB_any _ _ _ _).mono ?_; rintro e w' ⟨rfl, rfl⟩)
              go_ret2
              exact ⟨by rw [HE.out, HV.out]; rfl, Lib.bytesWorld_below w t s⟩
          · have hall : s.data.toList.all Tk.isDig = true := all_digs fun j hj => hdig.out j (by rw [hlen] at hj; omega)
            rw [hall] at hbad
            have hP := Tk.parseIntB_digits hb hall
            by_cases hv : Tk.val 0 s.data.toList < 9223372036854775808
            · rw [if_pos hv] at hP
              have hE : Tk.parseE s.data.toList = Tk.chk (Tk.val 0 s.data.toList) := by
                unfold Tk.parseE; rw [if_neg h1, if_neg (by rw [hbad]; decide)]
                by_cases h9 : Tk.val 0 s.data.toList ≤ 1099511627776
                · rw [if_pos h9, Tk.chk_ok (by omega)]
                · rw [if_neg h9, Tk.chk_no (by omega)]
              have hV : Tk.parseV s.data.toList = if Tk.chk (Tk.val 0 s.data.toList) = 0 then (Tk.val 0 s.data.toList : Int) else 0 := by
                unfold Tk.parseV; rw [if_neg h1, hE]
              have H := Lib.hid (Any.strconv_ParseInt_10_at64_ok Tryz.laysC174 s (by omega) _ hP)
              obtain ⟨n, hn⟩ : ∃ n : Int, Hid ((Tk.val 0 s.data.toList : Int) = n) := ⟨_, Lib.hid rfl⟩
              rw [hn.out] at hE hV H
              clear hP hv hall hbad
              rcases Tk.chk_cases n with ⟨-, -, hk9⟩ | ⟨-, hk9⟩
              · rw [hk9, if_pos rfl] at hV
                rw [hk9] at hE
                have HE := Lib.hid hE
                have HV := Lib.hid hV
                clear hE hV
                go_wp2_with (first | (go_at_call 123; refine (small_any _ _).mono ?_; rintro e w' ⟨rfl, rfl⟩) | (go_at_call 122; refine (H.out _).mono ?_; rintro e w1 ⟨rfl, hw1⟩; replace hw1 := Lib.hid (below_step hw1)))
                go_ret2
                exact ⟨by rw [HE.out, HV.out]; rfl, hw1.out⟩
              · rw [hk9, if_neg (by decide)] at hV
                rw [hk9] at hE
                have HE := Lib.hid hE
                have HV := Lib.hid hV
                clear hE hV
                go_wp2_with (first | (go_at_call 123; refine (small_any _ _).mono ?_; rintro e w' ⟨rfl, rfl⟩) | (go_at_call 122; refine (H.out _).mono ?_; rintro e w1 ⟨rfl, hw1⟩; replace hw1 := Lib.hid (below_step hw1)))
                go_ret2
                exact ⟨by rw [HE.out, HV.out]; rfl, hw1.out⟩
            · rw [if_neg hv] at hP
              have hE : Tk.parseE s.data.toList = 9 := by
                unfold Tk.parseE; rw [if_neg h1, if_neg (by rw [hbad]; decide), if_neg (by omega)]
              have hV : Tk.parseV s.data.toList = 0 := by unfold Tk.parseV; rw [if_neg h1, hE, if_neg (by decide)]
              have HE := Lib.hid hE
              have HV := Lib.hid hV
              skip
              have hL2 := hL.below (Lib.bytesWorld_below w t s)
              obtain ⟨te, pe, hcell⟩ := hL2
              have H := Lib.hid (Any.strconv_ParseInt_10_at64_range Tryz.laysC174 s (by omega) hP _ (Lib.bytesWorld w t s) hcell (.inr ⟨te, pe, rfl⟩))
              clear hE hV hP hv hall hbad hcell
              go_wp2_with (go_at_call 122; refine H.out.mono ?_; rintro e w1 ⟨N, rfl, -, -, hw1⟩; replace hw1 := Lib.hid (Below.lift (Lib.bytesWorld_below w t s) hw1))
              go_ret2
              exact ⟨by rw [HE.out, HV.out]; rfl, hw1.out⟩

end Go.Proofs.YteonefgbdphmiaaGreatDoor
/- Walk of the cursor: number. -/
namespace Go.Proofs.YteonefgbdphmiaaGreatDoor
open Go.RowKit
def stepNumber (c : Cur) : St × Cur :=
  let n := Nm.pre Nm.dig c.rest
  if Tk.parseE (c.rest.take n) = 7 then (.none, c.fail 7 c.pos)
  else if Tk.parseE (c.rest.take n) ≠ 0 then (.none, c.fail 3 c.pos)
  else if n < c.rest.length ∧ Nm.cls (c.rest.getD n 0) ≠ 0 then (.none, c.fail 7 (c.pos + n))
  else (.any, c.put 3 (c.rest.take n) (Tk.parseV (c.rest.take n)) n)
theorem LibOk.drewN {w : World} (h : LibOk w) (n : Nat) : LibOk (w.drewN n) := h
set_option maxHeartbeats 4000000 in
set_option maxRecDepth 100000 in
theorem number_any (w : World) (B b : Nat) (c : Cur) (h : CurAt B b c w) (hBw : B ≤ w.heap.size) (hc : c.Ok) (ho : c.out.length ≤ 200000) (hL : LibOk w) :
    Calls Tryz.prog 86 #[.pointer (some ⟨b, 0, none⟩)] w fun r w' => r = .returned (stepNumber c).1.v ∧ CurAt B b (stepNumber c).2 w' ∧ Below B w w' := by
  have k1 := hc.size
  have k2 := hc.pos
  have k3 := hc.org
  have hB := h.1
  have HH := Lib.hid h
  have HL := Lib.hid hL
  have HF := Lib.hid fun wx (hx : CurAt B b c wx) e p (hp : p ≤ 1000000) => fail_any wx B b c hx e p hp (by omega)
  have HPU := Lib.hid fun wx (hx : CurAt B b c wx) (hs : B ≤ wx.heap.size) t v n (hn : n ≤ 100000) => put_any wx B b c hx hs 3 t v n hn hc ho
  obtain ⟨_, v, hb, _⟩ := h
  have hlb : b < w.heap.size := (Array.getElem?_eq_some_iff.1 hb).1
  have c0 : w.cell? ⟨b, 0, none⟩ = some (.string c.s) := Lib.cell_of_heap hb 0
  have c3 : w.cell? ⟨b, 3, none⟩ = some (.int .i64 c.pos) := Lib.cell_of_heap hb 3
  have r1 : (0 : Int) ≤ (c.pos : Int) := by omega
  have r2 : (c.pos : Int) ≤ (c.s.size : Int) := by omega
  have ht := rest_cut c
  have hrl : c.rest.length = c.s.size - c.pos := by unfold Cur.rest; rw [List.length_drop, Nm.len_size]
  obtain ⟨n, hn⟩ : ∃ n, Nm.pre Nm.dig c.rest = n := ⟨_, rfl⟩
  have hnl : n ≤ c.rest.length := by rw [← hn]; exact Nm.pre_le _ _
  have HR := Lib.hid fun wx => (show Calls Tryz.prog 75 #[.string (ba c.rest), .func (.func 101) #[] #[]] wx fun e w' => e = .returned (.int .i64 (n : Int)) ∧ wx = w' by
    have := nrun_any (ba c.rest) wx (by rw [ba_size]; simp only [maxLen]; omega)
    rw [ba_list, hn] at this
    exact this)
  have hu := ba_cut c.rest n
  have s1 : (ba c.rest).size = c.rest.length := ba_size _
  have r3 : (n : Int) ≤ (c.rest.length : Int) := by omega
  have r4 : (0 : Int) ≤ (n : Int) := by omega
  have HPA := Lib.hid fun wx (hx : LibOk wx) => (show Calls Tryz.prog 102 #[.string (ba (c.rest.take n))] wx fun e w' => e = .returned (.tuple #[.int .i64 (Tk.parseV (c.rest.take n)), .int .i64 (Tk.parseE (c.rest.take n))]) ∧ Below wx.heap.size wx w' by
    have := parse_any (ba (c.rest.take n)) wx (by rw [ba_size, List.length_take]; omega) hx
    rw [ba_list] at this
    exact this)
  have E := Lib.hid (show stepNumber c = if Tk.parseE (c.rest.take n) = 7 then (.none, c.fail 7 c.pos) else if Tk.parseE (c.rest.take n) ≠ 0 then (.none, c.fail 3 c.pos) else if n < c.rest.length ∧ Nm.cls (c.rest.getD n 0) ≠ 0 then (.none, c.fail 7 (c.pos + n)) else (.any, c.put 3 (c.rest.take n) (Tk.parseV (c.rest.take n)) n) by unfold stepNumber; rw [hn])
  have HN := Lib.hid hn
  generalize Tk.parseE (c.rest.take n) = pe at *
  generalize Tk.parseV (c.rest.take n) = pv at *
  clear hb hL hn
  by_cases h7 : pe = 7
  · have t7 : (pe == 7) = true := beq_iff_eq.2 h7
    rw [if_pos h7] at E
    clear h7
    go_enter Tryz.func86, Tryz.ntmps86
    go_wp2_with fail
    go_quiet (fail)
    go_wp2_with fail
    refine (HR.out _).mono ?_
    rintro e w2 ⟨rfl, rfl⟩
    go_wp2_with fail
    refine (HPA.out _ (HL.out.drewN _)).mono ?_
    rintro e w3 ⟨rfl, hb3⟩
    have hb3 : Below w.heap.size w w3 := Below.lift (below_drewN (Below.refl _ _) _) hb3
    have HC3 := Lib.hid (HH.out.below hb3)
    have HB3 := Lib.hid (hb3.mono hBw)
    have HS3 := Lib.hid (Nat.le_trans hBw hb3.size)
    have d3 : w3.cell? ⟨b, 3, none⟩ = some (.int .i64 c.pos) := (hb3.cell (p := ⟨b, 3, none⟩) hlb).trans c3
    clear hb3
    go_wp2_with fail
    refine (HF.out w3 HC3.out 7 c.pos (by omega)).mono ?_
    rintro e w4 ⟨rfl, hc4, hb4⟩
    have HC4 := Lib.hid hc4
    have HB4 := Lib.hid (HB3.out.trans hb4)
    clear hc4 hb4
    go_wp2_with fail
    go_ret
    rw [E.out]
    exact ⟨rfl, HC4.out, HB4.out⟩
  · have t7 : (pe == 7) = false := beq_eq_false_iff_ne.2 h7
    rw [if_neg h7] at E
    by_cases h0 : pe ≠ 0
    · have t0 : (pe == 0) = false := beq_eq_false_iff_ne.2 h0
      have t0' : (pe != 0) = true := by rw [bne, t0]; rfl
      rw [if_pos h0] at E
      clear h0 h7
      go_enter Tryz.func86, Tryz.ntmps86
      go_wp2_with fail
      go_quiet (fail)
      go_wp2_with fail
      refine (HR.out _).mono ?_
      rintro e w2 ⟨rfl, rfl⟩
      go_wp2_with fail
      refine (HPA.out _ (HL.out.drewN _)).mono ?_
      rintro e w3 ⟨rfl, hb3⟩
      have hb3 : Below w.heap.size w w3 := Below.lift (below_drewN (Below.refl _ _) _) hb3
      have HC3 := Lib.hid (HH.out.below hb3)
      have HB3 := Lib.hid (hb3.mono hBw)
      have HS3 := Lib.hid (Nat.le_trans hBw hb3.size)
      have d3 : w3.cell? ⟨b, 3, none⟩ = some (.int .i64 c.pos) := (hb3.cell (p := ⟨b, 3, none⟩) hlb).trans c3
      clear hb3
      go_wp2_with fail
      refine (HF.out w3 HC3.out 3 c.pos (by omega)).mono ?_
      rintro e w4 ⟨rfl, hc4, hb4⟩
      have HC4 := Lib.hid hc4
      have HB4 := Lib.hid (HB3.out.trans hb4)
      clear hc4 hb4
      go_wp2_with fail
      go_ret
      rw [E.out]
      exact ⟨rfl, HC4.out, HB4.out⟩
    · have h0' : pe = 0 := by simpa using h0
      have t0 : (pe == 0) = true := beq_iff_eq.2 h0'
      have t0' : (pe != 0) = false := by rw [bne, t0]; rfl
      rw [if_neg h0] at E
      clear h0 h7 h0'
      by_cases hlt : n < c.rest.length
      · obtain ⟨y, hy⟩ : ∃ y, (ba c.rest)[n]'(by rw [s1]; exact hlt) = y := ⟨_, rfl⟩
        have hyg : c.rest.getD n 0 = y := by
          rw [List.getD_eq_getElem?_getD, List.getElem?_eq_getElem hlt, ← hy]
          rfl
        have q1 : (n : Int) < (c.rest.length : Int) := by omega
        have HCL := Lib.hid fun wx => class_any y wx
        rw [hyg] at E
        clear hyg
        generalize Nm.cls y = z at *
        by_cases hz : z = 0
        · have z0 : (z == 0) = true := beq_iff_eq.2 hz
          have z1 : (z != 0) = false := by rw [bne, z0]; rfl
          rw [if_neg (fun h => h.2 hz)] at E
          clear hz
          go_enter Tryz.func86, Tryz.ntmps86
          go_wp2_with fail
          go_quiet (fail)
          go_wp2_with fail
          refine (HR.out _).mono ?_
          rintro e w2 ⟨rfl, rfl⟩
          go_wp2_with fail
          refine (HPA.out _ (HL.out.drewN _)).mono ?_
          rintro e w3 ⟨rfl, hb3⟩
          have hb3 : Below w.heap.size w w3 := Below.lift (below_drewN (Below.refl _ _) _) hb3
          have HC3 := Lib.hid (HH.out.below hb3)
          have HB3 := Lib.hid (hb3.mono hBw)
          have HS3 := Lib.hid (Nat.le_trans hBw hb3.size)
          have d3 : w3.cell? ⟨b, 3, none⟩ = some (.int .i64 c.pos) := (hb3.cell (p := ⟨b, 3, none⟩) hlb).trans c3
          clear hb3
          go_wp2_with fail
          refine (HCL.out _).mono ?_
          rintro e w5 ⟨rfl, rfl⟩
          go_wp2_with fail
          refine (HPU.out w3 HC3.out HS3.out (c.rest.take n) pv n (by omega)).mono ?_
          rintro e w4 ⟨rfl, hc4, hb4⟩
          have HC4 := Lib.hid hc4
          have HB4 := Lib.hid (HB3.out.trans hb4)
          clear hc4 hb4
          go_wp2_with fail
          go_ret
          rw [E.out]
          exact ⟨rfl, HC4.out, HB4.out⟩
        · have z0 : (z == 0) = false := beq_eq_false_iff_ne.2 hz
          have z1 : (z != 0) = true := by rw [bne, z0]; rfl
          rw [if_pos ⟨hlt, hz⟩] at E
          clear hz
          go_enter Tryz.func86, Tryz.ntmps86
          go_wp2_with fail
          go_quiet (fail)
          go_wp2_with fail
          refine (HR.out _).mono ?_
          rintro e w2 ⟨rfl, rfl⟩
          go_wp2_with fail
          refine (HPA.out _ (HL.out.drewN _)).mono ?_
          rintro e w3 ⟨rfl, hb3⟩
          have hb3 : Below w.heap.size w w3 := Below.lift (below_drewN (Below.refl _ _) _) hb3
          have HC3 := Lib.hid (HH.out.below hb3)
          have HB3 := Lib.hid (hb3.mono hBw)
          have HS3 := Lib.hid (Nat.le_trans hBw hb3.size)
          have d3 : w3.cell? ⟨b, 3, none⟩ = some (.int .i64 c.pos) := (hb3.cell (p := ⟨b, 3, none⟩) hlb).trans c3
          clear hb3
          go_wp2_with fail
          refine (HCL.out _).mono ?_
          rintro e w5 ⟨rfl, rfl⟩
          go_wp2_with fail
          refine (HF.out w3 HC3.out 7 (c.pos + n) (by omega)).mono ?_
          rintro e w4 ⟨rfl, hc4, hb4⟩
          have HC4 := Lib.hid hc4
          have HB4 := Lib.hid (HB3.out.trans hb4)
          clear hc4 hb4
          go_wp2_with fail
          go_ret
          rw [E.out]
          exact ⟨rfl, HC4.out, HB4.out⟩
      · have q1 : ¬ (n : Int) < (c.rest.length : Int) := by omega
        rw [if_neg (fun h => hlt h.1)] at E
        go_enter Tryz.func86, Tryz.ntmps86
        go_wp2_with fail
        go_quiet (fail)
        go_wp2_with fail
        refine (HR.out _).mono ?_
        rintro e w2 ⟨rfl, rfl⟩
        go_wp2_with fail
        refine (HPA.out _ (HL.out.drewN _)).mono ?_
        rintro e w3 ⟨rfl, hb3⟩
        have hb3 : Below w.heap.size w w3 := Below.lift (below_drewN (Below.refl _ _) _) hb3
        have HC3 := Lib.hid (HH.out.below hb3)
        have HB3 := Lib.hid (hb3.mono hBw)
        have HS3 := Lib.hid (Nat.le_trans hBw hb3.size)
        have d3 : w3.cell? ⟨b, 3, none⟩ = some (.int .i64 c.pos) := (hb3.cell (p := ⟨b, 3, none⟩) hlb).trans c3
        clear hb3
        go_wp2_with fail
        refine (HPU.out w3 HC3.out HS3.out (c.rest.take n) pv n (by omega)).mono ?_
        rintro e w4 ⟨rfl, hc4, hb4⟩
        have HC4 := Lib.hid hc4
        have HB4 := Lib.hid (HB3.out.trans hb4)
        clear hc4 hb4
        go_wp2_with fail
        go_ret
        rw [E.out]
        exact ⟨rfl, HC4.out, HB4.out⟩
end Go.Proofs.YteonefgbdphmiaaGreatDoor
/- The lexer as a machine: its steps end (plain). -/
namespace Go.Proofs.YteonefgbdphmiaaGreatDoor
open Go.RowKit

def stepSt : St → Cur → St × Cur
  | .any, c => stepAny c
  | .end_, c => stepEnd c
  | .remark, c => stepRemark c
  | .word, c => stepWord c
  | .number, c => stepNumber c
  | .none, c => (.none, c)
def runs : Nat → St → Cur → St × Cur
  | 0, st, c => (st, c)
  | n + 1, st, c => if st = .none then (.none, c) else runs n (stepSt st c).1 (stepSt st c).2
def mu (st : St) (c : Cur) : Nat :=
  match st with
  | .none => 0
  | .any => 2 * (c.s.size - c.pos) + 2
  | _ => 2 * (c.s.size - c.pos) + 1
/-- What may be at a state. -/
structure Inv (st : St) (c : Cur) : Prop where
  ok : c.Ok
  out : c.out.length + (if c.some = true then 1 else 0) ≤ 2 * c.pos
  end_ : st = .end_ → c.pos = c.s.size ∨ c.byte = 10
  remark : st = .remark → c.pos < c.s.size ∧ c.byte = 35
  word : st = .word → c.pos < c.s.size ∧ Nm.cls c.byte = 1
  number : st = .number → c.pos < c.s.size ∧ Nm.cls c.byte = 2
theorem rest_head (c : Cur) (h : c.pos < c.s.size) : c.rest = c.byte :: c.s.data.toList.drop (c.pos + 1) := by
  have hl : c.pos < c.s.data.toList.length := by rw [Nm.len_size]; exact h
  unfold Cur.rest Cur.byte
  rw [List.drop_eq_getElem_cons hl, List.getD_eq_getElem?_getD, List.getElem?_eq_getElem hl]
  rfl
theorem pre_pos (p : UInt8 → Bool) (a : UInt8) (l : List UInt8) (h : p a = true) : 1 ≤ Nm.pre p (a :: l) := by
  unfold Nm.pre
  rw [List.takeWhile_cons, if_pos h, List.length_cons]
  omega
theorem cls_one {b : UInt8} (h : Nm.cls b = 1) : Nm.more b = true := by rw [← Nm.cls_more, h]; rfl
theorem cls_two {b : UInt8} (h : Nm.cls b = 2) : Nm.dig b = true := by rw [← Nm.cls_dig, h]; rfl
theorem inv_any {c : Cur} (h : c.Ok) (ho : c.out.length + (if c.some = true then 1 else 0) ≤ 2 * c.pos) : Inv .any c := ⟨h, ho, fun e => (by cases e), fun e => (by cases e), fun e => (by cases e), fun e => (by cases e)⟩
theorem put_ok {c : Cur} (h : c.Ok) (k : Int) (t : List UInt8) (v : Int) (n : Nat) (hn : c.pos + n ≤ c.s.size) : (c.put k t v n).Ok :=
  ⟨h.size, hn, by show c.org ≤ c.pos + n; have := h.org; omega, by show c.line ≤ c.pos + n + 1; have := h.line; omega⟩
theorem step_inv {st : St} {c : Cur} (h : Inv st c) (hs : st ≠ .none) : ((stepSt st c).1 = .none ∨ Inv (stepSt st c).1 (stepSt st c).2) ∧ mu (stepSt st c).1 (stepSt st c).2 < mu st c := by
  have ok := h.ok
  have k1 := ok.size
  have k2 := ok.pos
  have k3 := ok.org
  have k4 := ok.line
  have ho := h.out
  cases st with
  | none => exact absurd rfl hs
  | any =>
    show ((stepAny c).1 = .none ∨ Inv (stepAny c).1 (stepAny c).2) ∧ mu (stepAny c).1 (stepAny c).2 < 2 * (c.s.size - c.pos) + 2
    unfold stepAny
    by_cases h1 : c.pos = c.s.size ∨ c.byte = 10
    · rw [if_pos h1]
      exact ⟨.inr ⟨ok, ho, fun _ => h1, fun e => (by cases e), fun e => (by cases e), fun e => (by cases e)⟩, by show 2 * (c.s.size - c.pos) + 1 < _; omega⟩
    · rw [if_neg h1]
      have hlt : c.pos < c.s.size := by have : c.pos ≠ c.s.size := fun e => h1 (.inl e); omega
      by_cases h2 : c.byte = 35
      · rw [if_pos h2]
        exact ⟨.inr ⟨ok, ho, fun e => (by cases e), fun _ => ⟨hlt, h2⟩, fun e => (by cases e), fun e => (by cases e)⟩, by show 2 * (c.s.size - c.pos) + 1 < _; omega⟩
      · rw [if_neg h2]
        by_cases h3 : c.byte = 32 ∨ c.byte = 9
        · rw [if_pos h3]
          refine ⟨.inr (inv_any ⟨k1, hlt, by show c.org ≤ c.pos + 1; omega, by show c.line ≤ c.pos + 1 + 1; omega⟩ (by show c.out.length + (if c.some = true then 1 else 0) ≤ 2 * (c.pos + 1); omega)), by show 2 * (c.s.size - (c.pos + 1)) + 2 < _; omega⟩
        · rw [if_neg h3]
          by_cases h4 : Nm.cls c.byte = 1
          · rw [if_pos h4]
            exact ⟨.inr ⟨ok, ho, fun e => (by cases e), fun e => (by cases e), fun _ => ⟨hlt, h4⟩, fun e => (by cases e)⟩, by show 2 * (c.s.size - c.pos) + 1 < _; omega⟩
          · rw [if_neg h4]
            by_cases h5 : Nm.cls c.byte = 2
            · rw [if_pos h5]
              exact ⟨.inr ⟨ok, ho, fun e => (by cases e), fun e => (by cases e), fun e => (by cases e), fun _ => ⟨hlt, h5⟩⟩, by show 2 * (c.s.size - c.pos) + 1 < _; omega⟩
            · rw [if_neg h5]
              exact ⟨.inl rfl, by show 0 < _; omega⟩
  | end_ =>
    show ((stepEnd c).1 = .none ∨ Inv (stepEnd c).1 (stepEnd c).2) ∧ mu (stepEnd c).1 (stepEnd c).2 < 2 * (c.s.size - c.pos) + 1
    unfold stepEnd
    by_cases h1 : c.pos = c.s.size
    · rw [if_pos h1]
      exact ⟨.inl rfl, by show 0 < _; omega⟩
    · rw [if_neg h1]
      have hlt : c.pos < c.s.size := by omega
      unfold Cur.close Cur.down
      rcases hsm : c.some
      · rw [hsm] at ho
        simp only [Bool.false_eq_true, if_false] at ho ⊢
        refine ⟨.inr (inv_any ⟨k1, hlt, Nat.le_refl _, by show c.line + 1 ≤ c.pos + 1 + 1; omega⟩ (by show c.out.length + 0 ≤ 2 * (c.pos + 1); omega)), by show 2 * (c.s.size - (c.pos + 1)) + 2 < _; omega⟩
      · rw [hsm] at ho
        simp only [if_true] at ho ⊢
        refine ⟨.inr (inv_any ⟨k1, hlt, Nat.le_refl _, by show c.line + 1 ≤ c.pos + 0 + 1 + 1; omega⟩ (by show (c.out ++ [_]).length + 0 ≤ 2 * (c.pos + 0 + 1); rw [List.length_append]; simp only [List.length_cons, List.length_nil]; omega)), by show 2 * (c.s.size - (c.pos + 0 + 1)) + 2 < _; omega⟩
  | remark =>
    obtain ⟨hlt, hb⟩ := h.remark rfl
    have he := eol_spec c k2
    have hp : c.pos < c.eol := by
      have := pre_pos (fun b => b != 10) c.byte (c.s.data.toList.drop (c.pos + 1)) (by rw [hb]; decide)
      rw [← rest_head c hlt] at this
      unfold Cur.eol
      unfold Cur.rest at this
      omega
    have h1 := he.1
    show (St.any = .none ∨ Inv .any (c.go c.eol)) ∧ 2 * (c.s.size - c.eol) + 2 < 2 * (c.s.size - c.pos) + 1
    refine ⟨.inr (inv_any ⟨k1, h1, by show c.org ≤ c.eol; omega, by show c.line ≤ c.eol + 1; omega⟩ (by show c.out.length + (if c.some = true then 1 else 0) ≤ 2 * c.eol; omega)), by omega⟩
  | word =>
    obtain ⟨hlt, hb⟩ := h.word rfl
    have hn : 1 ≤ Nm.pre Nm.more c.rest := by rw [rest_head c hlt]; exact pre_pos _ _ _ (cls_one hb)
    have hle := Nm.pre_le Nm.more c.rest
    have hrl : c.rest.length = c.s.size - c.pos := by unfold Cur.rest; rw [List.length_drop, Nm.len_size]
    show ((stepWord c).1 = .none ∨ Inv (stepWord c).1 (stepWord c).2) ∧ mu (stepWord c).1 (stepWord c).2 < 2 * (c.s.size - c.pos) + 1
    unfold stepWord
    generalize Nm.pre Nm.more c.rest = n at *
    show ((if 24 < n then (St.none, c.fail 3 c.pos) else (.any, c.put (if Nm.res (c.rest.take n) = true then 2 else 1) (c.rest.take n) 0 n)).1 = .none ∨ _) ∧ _
    by_cases h24 : 24 < n
    · rw [if_pos h24]
      exact ⟨.inl rfl, by show 0 < _; omega⟩
    · rw [if_neg h24]
      refine ⟨.inr (inv_any (put_ok ok _ _ _ _ (by omega)) (by show (c.out ++ [_]).length + 1 ≤ 2 * (c.pos + n); rw [List.length_append]; simp only [List.length_cons, List.length_nil]; split at ho <;> omega)), by show 2 * (c.s.size - (c.pos + n)) + 2 < _; omega⟩
  | number =>
    obtain ⟨hlt, hb⟩ := h.number rfl
    have hn : 1 ≤ Nm.pre Nm.dig c.rest := by rw [rest_head c hlt]; exact pre_pos _ _ _ (cls_two hb)
    have hle := Nm.pre_le Nm.dig c.rest
    have hrl : c.rest.length = c.s.size - c.pos := by unfold Cur.rest; rw [List.length_drop, Nm.len_size]
    show ((stepNumber c).1 = .none ∨ Inv (stepNumber c).1 (stepNumber c).2) ∧ mu (stepNumber c).1 (stepNumber c).2 < 2 * (c.s.size - c.pos) + 1
    unfold stepNumber
    generalize Nm.pre Nm.dig c.rest = n at *
    by_cases h7 : Tk.parseE (c.rest.take n) = 7
    · simp only [if_pos h7]
      exact ⟨.inl trivial, by show 0 < _; omega⟩
    · by_cases h0 : Tk.parseE (c.rest.take n) ≠ 0
      · simp only [if_neg h7, if_pos h0]
        exact ⟨.inl trivial, by show 0 < _; omega⟩
      · by_cases hq : n < c.rest.length ∧ Nm.cls (c.rest.getD n 0) ≠ 0
        · simp only [if_neg h7, if_neg h0, if_pos hq]
          exact ⟨.inl trivial, by show 0 < _; omega⟩
        · simp only [if_neg h7, if_neg h0, if_neg hq]
          refine ⟨.inr (inv_any (put_ok ok _ _ _ _ (by omega)) (by show (c.out ++ [_]).length + 1 ≤ 2 * (c.pos + n); rw [List.length_append]; simp only [List.length_cons, List.length_nil]; split at ho <;> omega)), by show 2 * (c.s.size - (c.pos + n)) + 2 < _; omega⟩
/-- From so many steps on nothing changes, and the machine stands. -/
theorem runs_stable : ∀ (m : Nat) {st : St} {c : Cur}, (st = .none ∨ Inv st c) → mu st c ≤ m → ∀ n, mu st c ≤ n → runs n st c = runs m st c ∧ (runs n st c).1 = .none := by
  intro m
  induction m with
  | zero =>
    intro st c h hm n hn
    cases st <;> simp only [mu] at hm <;> try omega
    cases n <;> simp [runs]
  | succ m ih =>
    intro st c h hm n hn
    by_cases hst : st = .none
    · subst hst
      cases n <;> simp [runs]
    · have hi : Inv st c := h.resolve_left hst
      obtain ⟨h1, h2⟩ := step_inv hi hst
      cases n with
      | zero => cases st <;> simp only [mu] at hn <;> first | omega | exact absurd rfl hst
      | succ n =>
        have h3 := ih h1 (by omega) n (by omega)
        simp only [runs, if_neg hst]
        exact h3
def Cur.start (s : ByteArray) : Cur := ⟨s, 1, 0, 0, [], false, 0, 0, 0⟩
theorem start_inv (s : ByteArray) (h : s.size ≤ 65536) : Inv .any (Cur.start s) := inv_any ⟨h, Nat.zero_le _, Nat.le_refl _, Nat.le_refl _⟩ (Nat.le_refl _)
/-- The cursor where the machine stands. -/
def lexed (s : ByteArray) : Cur := (runs (2 * s.size + 2) .any (Cur.start s)).2
structure FaultD where
  err : Int
  line : Int
  col : Int
deriving DecidableEq
/-- What lex.All tells. -/
def allD (s : ByteArray) : List TokD × FaultD :=
  if 65536 < s.size then ([], ⟨3, 1, 1⟩) else if (lexed s).err ≠ 0 then ([], ⟨(lexed s).err, (lexed s).fl, (lexed s).fc⟩) else ((lexed s).out, ⟨0, 0, 0⟩)
end Go.Proofs.YteonefgbdphmiaaGreatDoor
/- The walk of lex.All. -/
namespace Go.Proofs.YteonefgbdphmiaaGreatDoor
open Go.RowKit
/-- A fault as a value. -/
def FaultD.v (f : FaultD) : Value := .agg #[.int .i64 f.err, .int .i64 f.line, .int .i64 f.col]
def St.f : St → FuncId
  | .any => 64
  | .end_ => 83
  | .remark => 84
  | .word => 85
  | .number => 86
  | .none => 0
theorem step_any (w : World) (B b : Nat) (st : St) (c : Cur) (hst : st ≠ .none) (h : CurAt B b c w) (hBw : B ≤ w.heap.size) (hi : Inv st c) (hT : Tabs w) (hL : LibOk w) :
    Calls Tryz.prog st.f #[.pointer (some ⟨b, 0, none⟩)] w fun r w' => r = .returned (stepSt st c).1.v ∧ CurAt B b (stepSt st c).2 w' ∧ Below B w w' := by
  have ho : c.out.length ≤ 200000 := by have := hi.out; have := hi.ok.pos; have := hi.ok.size; omega
  cases st with
  | none => exact absurd rfl hst
  | any => exact any_any w B b c h hi.ok
  | end_ => exact end_any w B b c h hBw hi.ok ho
  | remark => exact remark_any w B b c h hi.ok
  | word => exact word_any w B b c h hBw hi.ok ho hT
  | number => exact number_any w B b c h hBw hi.ok ho hL
theorem LibOk.below' {B : Nat} {w0 w w' : World} (h0 : LibOk w0) (hB : w0.heap.size ≤ B) (h : LibOk w) (hb : Below B w w') : LibOk w' := by
  obtain ⟨t0, p0, h0⟩ := h0
  obtain ⟨te, pe, hc⟩ := h
  exact ⟨te, pe, (hb.cell (p := ⟨3, 0, none⟩) (Nat.lt_of_lt_of_le (World.block_lt_of_cell? w0 _ h0) hB)).trans hc⟩
theorem results_tc {P : Program} {fn : Func} {q p : Tmp} {ty : TypeId} (h : fn.results = #[.tmp q, .cell p ty]) (tmps : Array Value) (w : World) (g : Nat) (t : TypeId) (cs : Array Value) (fr : Nat × Nat) (d : TypeDesc)
    (hp : tmps.getD p undef = .pointer (some ⟨g, 0, none⟩)) (hg : w.heap[g]? = some (.cells cs t fr))
    (hu : P.underlying ty = some d) (hd : (match d with | .struct _ | .array _ _ => true | _ => false) = true) (hi : (P.info? ty).map (·.size) = some cs.size) :
    (results fn tmps).run P w = .ok (.tuple #[tmps.getD q undef, .agg cs]) w := by
  have hp' : tmps[p]?.getD undef = .pointer (some ⟨g, 0, none⟩) := by simpa using hp
  simp [results, h, hp', asAddr, run_loadVar_row w g t ty cs fr d hg hu hd hi]
theorem fn_no (W : World) : (Go.binOp BinOp.neq 97 .nilFunc .nilFunc).run Tryz.prog W = .ok (.bool false) W := by kernel_rfl
theorem fn_1 (W : World) : (Go.binOp BinOp.neq 97 (.func (.func 64) #[] #[]) .nilFunc).run Tryz.prog W = .ok (.bool true) W := by kernel_rfl
theorem fn_2 (W : World) : (Go.binOp BinOp.neq 97 (.func (.func 83) #[] #[]) .nilFunc).run Tryz.prog W = .ok (.bool true) W := by kernel_rfl
theorem fn_3 (W : World) : (Go.binOp BinOp.neq 97 (.func (.func 84) #[] #[]) .nilFunc).run Tryz.prog W = .ok (.bool true) W := by kernel_rfl
theorem fn_4 (W : World) : (Go.binOp BinOp.neq 97 (.func (.func 85) #[] #[]) .nilFunc).run Tryz.prog W = .ok (.bool true) W := by kernel_rfl
theorem fn_5 (W : World) : (Go.binOp BinOp.neq 97 (.func (.func 86) #[] #[]) .nilFunc).run Tryz.prog W = .ok (.bool true) W := by kernel_rfl
set_option maxHeartbeats 4000000 in
set_option maxRecDepth 100000 in
theorem all_ok (s : ByteArray) (w : World) (hs : s.size ≤ 65536) (hT : Tabs w) (hL : LibOk w) :
    Calls Tryz.prog 33 #[.string s] w fun r w' => ∃ v, r = .returned (.tuple #[v, (allD s).2.v]) ∧ Ow tkc 5 w' w.heap.size 101 v (allD s).1 ∧ Below w.heap.size w w' := by
  obtain ⟨w1, hw1⟩ : ∃ w1, (w.alloc (.cells #[.int .i64 0, .int .i64 0, .int .i64 0] 39)).alloc (.cells ((Cur.start s).cells (.slice none 0 0)) 95) = w1 := ⟨_, rfl⟩
  have hsz : (w.alloc (.cells #[.int .i64 0, .int .i64 0, .int .i64 0] 39)).heap.size = w.heap.size + 1 := by simp
  have hcur : CurAt (w.heap.size + 1) (w.heap.size + 1) (Cur.start s) w1 := ⟨Nat.le_refl _, .slice none 0 0, by rw [← hw1]; have := heap_alloc_new (w.alloc (.cells #[.int .i64 0, .int .i64 0, .int .i64 0] 39)) (.cells ((Cur.start s).cells (.slice none 0 0)) 95); rw [hsz] at this; exact this, Ow.nil_⟩
  have hq1 : w1.heap[w.heap.size]? = some (.cells #[.int .i64 0, .int .i64 0, .int .i64 0] 39 (0, 0)) := by rw [← hw1, heap_alloc_old _ _ (by simp)]; exact heap_alloc_new _ _
  have hb1 : Below w.heap.size w w1 := by rw [← hw1]; exact ((Below.refl _ _).alloc (Nat.le_refl _) _).alloc (by simp) _
  have hz1 : w.heap.size + 1 ≤ w1.heap.size := by rw [← hw1]; simp
  have HCUR := Lib.hid hcur
  have HQ1 := Lib.hid hq1
  have HB1 := Lib.hid hb1
  have HZ1 := Lib.hid hz1
  have HT1 := Lib.hid (hT.below hb1)
  have HL1 := Lib.hid (hL.below hb1)
  have HT0 := Lib.hid hT.2
  have HL0 := Lib.hid hL
  have HI := Lib.hid (start_inv s hs)
  have t1 : ¬ (65536 : Int) < (s.size : Int) := by omega
  have HS := Lib.hid hs
  unfold Cur.cells Cur.start at hw1
  clear hcur hq1 hb1 hT hL hsz hz1 hs
  go_enter Tryz.func33, Tryz.ntmps33
  go_wp2_with fail
  rw [show ((w.alloc (.cells #[.int .i64 0, .int .i64 0, .int .i64 0] 39)).alloc (.cells #[.string s, .int .i64 1, .int .i64 0, .int .i64 0, .slice none 0 0, .bool false, .int .i64 0, .int .i64 0, .int .i64 0] 95)) = w1 from hw1]
  clear hw1
  go_loopg [5] (2 * s.size + 2) (fun gg sv wr => ∃ (x : St) (c : Cur), sv = x.v ∧ CurAt (w.heap.size + 1) (w.heap.size + 1) c wr ∧ Below (w.heap.size + 1) w1 wr ∧ (x = .none ∨ Inv x c) ∧ mu x c ≤ gg ∧ ∀ n, mu x c ≤ n → (runs n x c).2 = lexed s)
  case atStart =>
    refine ⟨.any, Cur.start s, rfl, HCUR.out, Below.refl _ _, .inr HI.out, ?_, fun n hn => ?_⟩
    · show 2 * (s.size - 0) + 2 ≤ _; omega
    · exact congrArg Prod.snd (runs_stable (2 * s.size + 2) (.inr HI.out) (by show 2 * (s.size - 0) + 2 ≤ _; omega) n hn).1
  case round =>
    obtain ⟨x, c, rfl, hcu, hbw, hiv, hmu, hru⟩ := hrel
    by_cases hx : x = .none
    · subst hx
      have hlex : c = lexed s := hru 0 (Nat.le_refl _)
      subst hlex
      clear hru hmu hiv
      obtain ⟨_, v, hb, hov⟩ := hcu
      have hq := (hbw.block _ (Nat.lt_succ_self _)).trans HQ1.out
      have c6 : wr.cell? ⟨w.heap.size + 1, 6, none⟩ = some (.int .i64 (lexed s).err) := Lib.cell_of_heap hb 6
      have HB := Lib.hid hb
      have HQ := Lib.hid hq
      have HO := Lib.hid hov
      have HBW := Lib.hid (HB1.out.trans (hbw.mono (Nat.le_succ _)))
      have hne := ow_ne hov hq (by decide)
      have HNE := Lib.hid hne
      have hvn : St.none.v = .nilFunc := rfl
      have hfn := fn_no
      obtain ⟨Av, nv, cv, ev⟩ := ow_form hov
      subst ev
      have c4 : wr.cell? ⟨w.heap.size + 1, 4, none⟩ = some (.slice Av nv cv) := Lib.cell_of_heap hb 4
      have c7 : wr.cell? ⟨w.heap.size + 1, 7, none⟩ = some (.int .i64 (lexed s).fl) := Lib.cell_of_heap hb 7
      have c8 : wr.cell? ⟨w.heap.size + 1, 8, none⟩ = some (.int .i64 (lexed s).fc) := Lib.cell_of_heap hb 8
      have x0 : wr.cell? ⟨w.heap.size, 0, none⟩ = some (.int .i64 0) := Lib.cell_of_heap hq 0
      have x1 : wr.cell? ⟨w.heap.size, 1, none⟩ = some (.int .i64 0) := Lib.cell_of_heap hq 1
      have x2 : wr.cell? ⟨w.heap.size, 2, none⟩ = some (.int .i64 0) := Lib.cell_of_heap hq 2
      have f0 : wr.frozen? ⟨w.heap.size, 0, none⟩ = false := Lib.frozen_of_heap hq 0
      have f1 : wr.frozen? ⟨w.heap.size, 1, none⟩ = false := Lib.frozen_of_heap hq 1
      have f2 : wr.frozen? ⟨w.heap.size, 2, none⟩ = false := Lib.frozen_of_heap hq 2
      have hSw : wr.cell? ⟨w.heap.size + 1, 6, none⟩ = some (.int .i64 (lexed s).err) ∧ wr.cell? ⟨w.heap.size + 1, 7, none⟩ = some (.int .i64 (lexed s).fl) ∧ wr.cell? ⟨w.heap.size + 1, 8, none⟩ = some (.int .i64 (lexed s).fc) := ⟨c6, c7, c8⟩
      clear hb hq hov hbw hne
      by_cases he : (lexed s).err = 0
      · have e0 : ((lexed s).err == 0) = true := beq_iff_eq.2 he
        have e1 : ((lexed s).err != 0) = false := by rw [bne, e0]; rfl
        go_wp2_with fail
        clear c4 c6 c7 c8 x0 x1 x2 f0 f1 f2 hSw
        (try simp only [Exit.inBlock, Exit.then])
        have hA : allD s = ((lexed s).out, ⟨0, 0, 0⟩) := by unfold allD; rw [if_neg (Nat.not_lt.2 HS.out), if_neg (fun h => h he)]
        rw [hA]
        refine bodyPost_ret (results_tc rfl _ _ w.heap.size _ _ (0, 0) _ rfl (heap_setCell_same _ w.heap.size 2 _ _ (.int .i64 0) (heap_setCell_same _ w.heap.size 1 _ _ (.int .i64 0) (heap_setCell_same _ w.heap.size 0 _ _ (.int .i64 0) HQ.out))) Tryz.underlying39 rfl (by kernel_rfl)) rfl ⟨.slice Av nv cv, rfl, ?_, ?_⟩
        · exact (((HO.out.set HNE.out).set HNE.out).set HNE.out).lower (Nat.le_succ _)
        · exact ((HBW.out.setCell (p := ⟨w.heap.size, 0, none⟩) (Nat.le_refl _) _).setCell (p := ⟨w.heap.size, 1, none⟩) (Nat.le_refl _) _).setCell (p := ⟨w.heap.size, 2, none⟩) (Nat.le_refl _) _
      · have e0 : ((lexed s).err == 0) = false := beq_eq_false_iff_ne.2 he
        have e1 : ((lexed s).err != 0) = true := by rw [bne, e0]; rfl
        go_wp2_with fail
        refine wp_region_kinds (fun wy => wy.cell? ⟨w.heap.size + 1, 6, none⟩ = some (.int .i64 (lexed s).err) ∧ wy.cell? ⟨w.heap.size + 1, 7, none⟩ = some (.int .i64 (lexed s).fl) ∧ wy.cell? ⟨w.heap.size + 1, 8, none⟩ = some (.int .i64 (lexed s).fc)) [] [5] [3] [0, 1, 2, 4] [0, 1, 2, 3, 4, 5] (by kernel_rfl) (by kernel_rfl) (fun w n h => h) ?_
        repeat (first | (refine wpKind_free (v := ?_) (by rfl) rfl (by rfl) ?_ ?_; rotate_left 1; (focus (intro wy; go_simp; try with_reducible rfl; done)); try simp only [Act.put, List.setIfInBounds_toArray, List.set_cons_zero, List.set_cons_succ]) | (refine wpKind_held (v := ?_) (by rfl) rfl (by rfl) hSw ?_ ?_; rotate_left 1; (focus (intro wy hSy; obtain ⟨s0, s1, s2⟩ := hSy; go_simp; try with_reducible rfl; done)); try simp only [Act.put, List.setIfInBounds_toArray, List.set_cons_zero, List.set_cons_succ]))
        refine wpKind_serial (by rfl) rfl (fun n1 => ?_)
        go_wp2_with fail
        show wpKind _ _ _ _ _ _ _ _ _
        refine wpKind_nil fun n2 => ?_
        go_wp2_with fail
        clear c4 c6 c7 c8 x0 x1 x2 f0 f1 f2 hSw
        (try simp only [Exit.inBlock, Exit.then])
        have hA : allD s = ([], ⟨(lexed s).err, (lexed s).fl, (lexed s).fc⟩) := by unfold allD; rw [if_neg (Nat.not_lt.2 HS.out), if_pos he]
        rw [hA]
        refine bodyPost_ret (results_tc rfl _ _ w.heap.size _ _ (0, 0) _ rfl (heap_setCell_same _ w.heap.size 2 _ _ (.int .i64 (lexed s).fc) (heap_setCell_same _ w.heap.size 1 _ _ (.int .i64 (lexed s).fl) (heap_setCell_same _ w.heap.size 0 _ _ (.int .i64 (lexed s).err) HQ.out))) Tryz.underlying39 rfl (by kernel_rfl)) rfl ⟨.slice none 0 0, rfl, Ow.nil_, ?_⟩
        exact below_drewN ((((below_drewN HBW.out n1).setCell (p := ⟨w.heap.size, 0, none⟩) (Nat.le_refl _) _).setCell (p := ⟨w.heap.size, 1, none⟩) (Nat.le_refl _) _).setCell (p := ⟨w.heap.size, 2, none⟩) (Nat.le_refl _) _) n2
    · have hi : Inv x c := hiv.resolve_left hx
      have hcall := step_any wr _ _ x c hx hcu (Nat.le_trans HZ1.out hbw.size) hi (HT1.out.below' (Nat.lt_succ_of_lt HT0.out) hbw) (HL0.out.below' (Nat.le_succ _) HL1.out hbw)
      obtain ⟨h1, h2⟩ := step_inv hi hx
      have HBW := Lib.hid hbw
      have HI1 := Lib.hid h1
      have HRU := Lib.hid (show ∀ n, mu (stepSt x c).1 (stepSt x c).2 ≤ n → (runs n (stepSt x c).1 (stepSt x c).2).2 = lexed s from fun n hn => by
        have hn2 := (runs_stable (n + mu x c) h1 (by omega) n hn).1
        have h5 := hru (n + mu x c + 1) (by omega)
        simp only [runs, if_neg hx] at h5
        rw [hn2]; exact h5)
      obtain ⟨m9, hm9⟩ : ∃ m9, mu (stepSt x c).1 (stepSt x c).2 = m9 := ⟨_, rfl⟩
      rw [hm9] at h2
      have HM9 := Lib.hid hm9
      generalize mu x c = M9 at *
      generalize hsx : (stepSt x c).1 = x2 at *
      generalize hsc : (stepSt x c).2 = c2 at *
      have HCA := Lib.hid hcall
      clear hru hcall hbw h1 hiv hcu hi hm9 hsx hsc
      cases x with
      | none => exact absurd rfl hx
      | any =>
        have hfn := fn_1
        dsimp only [St.f] at HCA
        dsimp only [St.v]
        go_wp2_with fail
        refine HCA.out.mono ?_
        rintro e w3 ⟨rfl, hc3, hb3⟩
        have HC3 := Lib.hid hc3
        have HB3 := Lib.hid (HBW.out.trans hb3)
        clear hc3 hb3
        go_wp2_with fail
        go_roundg m9
        case measure => omega
        case rel => exact ⟨_, _, rfl, HC3.out, HB3.out, HI1.out, Nat.le_of_eq HM9.out, HRU.out⟩
      | end_ =>
        have hfn := fn_2
        dsimp only [St.f] at HCA
        dsimp only [St.v]
        go_wp2_with fail
        refine HCA.out.mono ?_
        rintro e w3 ⟨rfl, hc3, hb3⟩
        have HC3 := Lib.hid hc3
        have HB3 := Lib.hid (HBW.out.trans hb3)
        clear hc3 hb3
        go_wp2_with fail
        go_roundg m9
        case measure => omega
        case rel => exact ⟨_, _, rfl, HC3.out, HB3.out, HI1.out, Nat.le_of_eq HM9.out, HRU.out⟩
      | remark =>
        have hfn := fn_3
        dsimp only [St.f] at HCA
        dsimp only [St.v]
        go_wp2_with fail
        refine HCA.out.mono ?_
        rintro e w3 ⟨rfl, hc3, hb3⟩
        have HC3 := Lib.hid hc3
        have HB3 := Lib.hid (HBW.out.trans hb3)
        clear hc3 hb3
        go_wp2_with fail
        go_roundg m9
        case measure => omega
        case rel => exact ⟨_, _, rfl, HC3.out, HB3.out, HI1.out, Nat.le_of_eq HM9.out, HRU.out⟩
      | word =>
        have hfn := fn_4
        dsimp only [St.f] at HCA
        dsimp only [St.v]
        go_wp2_with fail
        refine HCA.out.mono ?_
        rintro e w3 ⟨rfl, hc3, hb3⟩
        have HC3 := Lib.hid hc3
        have HB3 := Lib.hid (HBW.out.trans hb3)
        clear hc3 hb3
        go_wp2_with fail
        go_roundg m9
        case measure => omega
        case rel => exact ⟨_, _, rfl, HC3.out, HB3.out, HI1.out, Nat.le_of_eq HM9.out, HRU.out⟩
      | number =>
        have hfn := fn_5
        dsimp only [St.f] at HCA
        dsimp only [St.v]
        go_wp2_with fail
        refine HCA.out.mono ?_
        rintro e w3 ⟨rfl, hc3, hb3⟩
        have HC3 := Lib.hid hc3
        have HB3 := Lib.hid (HBW.out.trans hb3)
        clear hc3 hb3
        go_wp2_with fail
        go_roundg m9
        case measure => omega
        case rel => exact ⟨_, _, rfl, HC3.out, HB3.out, HI1.out, Nat.le_of_eq HM9.out, HRU.out⟩
set_option maxHeartbeats 1000000 in
set_option maxRecDepth 100000 in
theorem all_big (s : ByteArray) (w : World) (hs : ¬ s.size ≤ 65536) :
    Calls Tryz.prog 33 #[.string s] w fun r w' => r = .returned (.tuple #[.slice none 0 0, (allD s).2.v]) ∧ Below w.heap.size w w' := by
  have hA : allD s = ([], ⟨3, 1, 1⟩) := by unfold allD; rw [if_pos (by omega)]
  rw [hA]
  have t1 : ¬ (s.size : Int) ≤ 65536 := by omega
  clear hA
  go_enter Tryz.func33, Tryz.ntmps33
  go_wp2_with fail
  (try simp only [Exit.inBlock, Exit.then])
  exact bodyPost_ret (results_tc rfl _ _ w.heap.size _ _ (0, 0) _ rfl (heap_alloc_new _ _) Tryz.underlying39 rfl (by kernel_rfl)) rfl ⟨rfl, (Below.refl _ _).alloc (Nat.le_refl _) _⟩
end Go.Proofs.YteonefgbdphmiaaGreatDoor
