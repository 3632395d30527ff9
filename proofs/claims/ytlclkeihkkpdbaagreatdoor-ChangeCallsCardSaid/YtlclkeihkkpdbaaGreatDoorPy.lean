/- The walk of tick.Parse. Printed by wip/bin/genpy.py. -/
import Derived.Test.YtlclkeihkkpdbaaGreatDoorTp
import Derived.Test.YtlclkeihkkpdbaaGreatDoorShelf
import Derived.Test.YtlclkeihkkpdbaaGreatDoorSi0
import Derived.BigCall
import Derived.Lib.ConvBytes
import Derived.WalkKit
import Derived.WalkSpells
import Derived.WalkLawsBesides
import Derived.Lib.Hide
namespace Go.Proofs.YtlclkeihkkpdbaaGreatDoor
open Go.Shelf Go.RowKit


set_option maxHeartbeats 400000 in
theorem within_any (a b c : Int) (w : World) :
    Calls Tryz.prog 69 #[.int .i64 a, .int .i64 b, .int .i64 c] w fun e w' => e = .returned (.bool (decide (a ≤ b ∧ b ≤ c))) ∧ w = w' := by
  go_enter Tryz.func69, Tryz.ntmps69
  go_wp2
  · have h : ¬ (a ≤ b) := by have h : b < a := by assumption
                             omega
    go_ret
    exact ⟨by simp [h], rfl⟩
  · have h : a ≤ b := by assumption
    go_ret
    exact ⟨by simp [h], rfl⟩

set_option maxHeartbeats 400000 in
theorem check_any (t : Int) (w : World) :
    Calls Tryz.prog 56 #[.int .i64 t] w fun e w' => e = .returned (.int .i64 (Tk.chk t)) ∧ w = w' := by
  by_cases h : 0 ≤ t ∧ t ≤ 1099511627776
  · have hd : decide (0 ≤ t ∧ t ≤ 1099511627776) = true := by simp [h]
    rw [Tk.chk_ok h]
    clear h
    go_enter Tryz.func56, Tryz.ntmps56
    go_wp2_with (go_at_call 69; refine (within_any _ _ _ _).mono ?_; rintro e w' ⟨rfl, rfl⟩)
    go_ret
    exact ⟨rfl, rfl⟩
  · have hd : decide (0 ≤ t ∧ t ≤ 1099511627776) = false := by simp only [decide_eq_false_iff_not]; exact h
    rw [Tk.chk_no h]
    clear h
    go_enter Tryz.func56, Tryz.ntmps56
    go_wp2_with (go_at_call 69; refine (within_any _ _ _ _).mono ?_; rintro e w' ⟨rfl, rfl⟩)
    go_ret
    exact ⟨rfl, rfl⟩

set_option maxHeartbeats 400000 in
theorem small_any (t : Int) (w : World) :
    Calls Tryz.prog 86 #[.int .i64 t] w fun e w' => e = .returned (.tuple #[.int .i64 (if Tk.chk t = 0 then t else 0), .int .i64 (Tk.chk t)]) ∧ w = w' := by
  rcases Tk.chk_cases t with ⟨h1, h2, h3⟩ | ⟨h1, h3⟩
  all_goals
    rw [h3]
    go_enter Tryz.func86, Tryz.ntmps86
    go_wp2_with (go_at_call 56; refine (check_any _ _).mono ?_; rintro e w' ⟨rfl, rfl⟩)
    go_ret2
    exact ⟨rfl, rfl⟩
/-- The library's range error holds a value. -/
def LibOk (w : World) : Prop := ∃ te pe, w.cell? ⟨7, 0, none⟩ = some (.iface te pe)
theorem LibOk.below {w w' : World} (h : LibOk w) (hb : Below w.heap.size w w') : LibOk w' := by
  obtain ⟨te, pe, hc⟩ := h
  exact ⟨te, pe, (hb.cell (p := ⟨7, 0, none⟩) (World.block_lt_of_cell? w _ hc)).trans hc⟩
/-- Between two. -/
def isIn (a b c : Int) : Bool := decide (a ≤ b ∧ b ≤ c)
set_option maxHeartbeats 400000 in
theorem withinB_any (a b c : Int) (w : World) :
    Calls Tryz.prog 84 #[.int .u8 a, .int .u8 b, .int .u8 c] w fun e w' => e = .returned (.bool (isIn a b c)) ∧ w = w' := by
  by_cases h : a ≤ b
  · have hr : isIn a b c = decide (b ≤ c) := by unfold isIn; simp [h]
    rw [hr]
    clear hr
    go_enter Tryz.func84, Tryz.ntmps84
    go_wp2
    go_ret
    exact ⟨rfl, rfl⟩
  · have hr : isIn a b c = false := by unfold isIn; simp [h]
    rw [hr]
    clear hr
    go_enter Tryz.func84, Tryz.ntmps84
    go_wp2
    go_ret
    exact ⟨rfl, rfl⟩

theorem getD_in {l : List UInt8} {j : Nat} (h : j < l.length) : l.getD j 0 ∈ l := by
  rw [List.getD_eq_getElem?_getD, List.getElem?_eq_getElem h]
  exact List.getElem_mem _
theorem all_digs {l : List UInt8} (h : ∀ j, j < l.length → Tk.isDig (l.getD j 0) = true) : l.all Tk.isDig = true := by
  rw [List.all_eq_true]
  intro x hx
  obtain ⟨j, hj, rfl⟩ := List.getElem_of_mem hx
  have := h j hj
  rwa [List.getD_eq_getElem?_getD, List.getElem?_eq_getElem hj] at this
theorem not_digs {l : List UInt8} {j : Nat} (hj : j < l.length) (h : ¬ Tk.isDig (l.getD j 0) = true) : l.all Tk.isDig = false := by
  rw [← Bool.not_eq_true, List.all_eq_true]
  exact fun ha => h (ha _ (getD_in hj))
/-- The loop's state: so many bytes are digits. -/
def PIn (s : ByteArray) (w : World) (s25 : Value) (wr : World) : Prop :=
  ∃ k : Nat, s25 = .int .i64 k ∧ k ≤ s.size ∧ Hid (∀ j, j < k → Tk.isDig (s.data.toList.getD j 0) = true) ∧ ∃ t, wr = Lib.bytesWorld w t s
theorem PIn.step {s : ByteArray} {w : World} {t : TypeId} {k : Nat} (hk : k < s.size) (h : Hid (∀ j, j < k → Tk.isDig (s.data.toList.getD j 0) = true)) {c : UInt8} (hc : Hid (s.data.toList.getD k 0 = c)) (hd : Hid (Tk.isDig c = true)) :
    PIn s w (.int .i64 (k + 1 : Nat)) (Lib.bytesWorld w t s) := by
  refine ⟨k + 1, rfl, hk, ?_, t, rfl⟩
  refine Lib.hid fun j hj => ?_
  rcases Nat.lt_succ_iff_lt_or_eq.1 hj with h1 | rfl
  · exact h.out j h1
  · rw [hc.out]; exact hd.out

theorem below_step {w w1 : World} {t t' : TypeId} {s : ByteArray} (h : w1 = Lib.bytesWorld w t s ∨ ∃ r, w1 = Lib.bytesWorld (Lib.bytesWorld w t s) t' r) : Below w.heap.size w w1 := by
  rcases h with rfl | ⟨r, rfl⟩
  · exact Lib.bytesWorld_below w t s
  · exact Below.lift (Lib.bytesWorld_below w t s) (Lib.bytesWorld_below _ t' r)

set_option maxHeartbeats 1000000 in
theorem parse_any (s : ByteArray) (w : World) (hs : s.size ≤ 1099511627776) (hL : LibOk w) :
    Calls Tryz.prog 77 #[.string s] w fun e w' => e = .returned (.tuple #[.int .i64 (Tk.parseV s.data.toList), .int .i64 (Tk.parseE s.data.toList)]) ∧ Below w.heap.size w w' := by
  have hcv := fun W => Lib.run_convert_string_bytes (P := Tryz.prog) W 9 82 5 s Tryz.underlying9 Tryz.underlying82 Tryz.underlying5
  have hlen : s.data.toList.length = s.size := by simp
  by_cases h1 : s.data.toList = Tk.infB
  · have h1' : (s.toList == [105, 110, 102]) = true := by rw [ByteArray.toList_eq, h1]; rfl
    have hE : Tk.parseE s.data.toList = 0 := by unfold Tk.parseE; rw [if_pos h1]
    have hV : Tk.parseV s.data.toList = 4611686018427387904 := by unfold Tk.parseV; rw [if_pos h1]
    rw [hE, hV]
    clear hcv hlen hE hV h1
    go_enter Tryz.func77, Tryz.ntmps77
    go_wp2_with fail
    go_ret2
    exact ⟨rfl, Below.refl _ _⟩
  · have h1' : (s.toList == [105, 110, 102]) = false := by rw [ByteArray.toList_eq]; exact beq_eq_false_iff_ne.2 h1
    by_cases hb : s.data.toList = []
    · have hE : Tk.parseE s.data.toList = 7 := by unfold Tk.parseE; rw [if_neg h1, if_pos (by rw [hb]; rfl)]
      have hV : Tk.parseV s.data.toList = 0 := by unfold Tk.parseV; rw [if_neg h1, hE, if_neg (by decide)]
      have hb' : s.toList = [] := by rw [ByteArray.toList_eq, hb]
      rw [hE, hV]
      clear hcv hlen hE hV hb h1
      go_enter Tryz.func77, Tryz.ntmps77
      go_wp2_with fail
      go_ret2
      exact ⟨rfl, Below.refl _ _⟩
    have hb1 : ¬ s.toList = [] := by rw [ByteArray.toList_eq]; exact hb
    have hb2 : s.toList.isEmpty = false := by rw [ByteArray.toList_eq]; exact List.isEmpty_eq_false_iff.2 hb
    have h0 : 0 < s.size := by rw [← hlen]; exact List.length_pos_iff.2 hb
    by_cases hz1 : (s.size : Int) ≤ 1
    · have hbad : Tk.badNum s.data.toList = !s.data.toList.all Tk.isDig := by
        unfold Tk.badNum
        rw [List.isEmpty_eq_false_iff.2 hb, decide_eq_false (by rw [hlen]; omega), Bool.false_and, Bool.false_or, Bool.false_or]
      go_enter Tryz.func77, Tryz.ntmps77
      go_wp2_with fail
      go_loopw [5, 25] (fun _ s25 wr => PIn s w s25 wr) (fun _ s25 _ => s.size - (intOf s25).toNat)
      case atStart => exact ⟨0, rfl, Nat.zero_le _, Lib.hid fun j hj => absurd hj (Nat.not_lt_zero _), _, rfl⟩
      case round =>
        obtain ⟨k, rfl, hk, hdig, t, rfl⟩ := hrel
        clear hcv
        by_cases hlt : k < s.size
        · have hc := Lib.bytesWorld_cell w t s k hlt
          obtain ⟨c, hcq⟩ : ∃ c, Hid (s.data.toList.getD k 0 = c) := ⟨_, Lib.hid rfl⟩
          rw [hcq.out] at hc
          by_cases hd : Tk.isDig c = true
          · have hd' : isIn 48 (c.toNat : Int) 57 = true := hd
            have Hd := Lib.hid hd
            clear hd
            go_wp2_with (go_at_call 84; refine (withinB_any _ _ _ _).mono ?_; rintro e w' ⟨rfl, rfl⟩)
            exact ⟨PIn.step hlt hdig hcq Hd, by simp only [intOf]; omega⟩
          · have hd' : isIn 48 (c.toNat : Int) 57 = false := by simpa [Tk.isDig, isIn] using hd
            have hE : Tk.parseE s.data.toList = 7 := by
              unfold Tk.parseE; rw [if_neg h1, if_pos (by rw [hbad, not_digs (by rw [hlen]; exact hlt) (by rw [hcq.out]; exact hd)]; rfl)]
            have hV : Tk.parseV s.data.toList = 0 := by unfold Tk.parseV; rw [if_neg h1, hE, if_neg (by decide)]
            have HE := Lib.hid hE
            have HV := Lib.hid hV
            clear hE hV hbad hd
            go_wp2_with (go_at_call 84; refine (withinB_any _ _ _ _).mono ?_; rintro e w' ⟨rfl, rfl⟩)
            go_ret2
            exact ⟨by rw [HE.out, HV.out]; rfl, Lib.bytesWorld_below w t s⟩
        · have hall : s.data.toList.all Tk.isDig = true := all_digs fun j hj => hdig.out j (by rw [hlen] at hj; omega)
          rw [hall] at hbad
          have hP := Tk.parseIntB_digits hb hall
          by_cases hv : Tk.val 0 s.data.toList < 9223372036854775808
          · rw [if_pos hv] at hP
            have hE : Tk.parseE s.data.toList = Tk.chk (Tk.val 0 s.data.toList) := by
              unfold Tk.parseE; rw [if_neg h1, if_neg (by rw [hbad]; decide)]
              by_cases h9 : Tk.val 0 s.data.toList ≤ 1099511627776
              · rw [if_pos h9, Tk.chk_ok (by omega)]
              · rw [if_neg h9, Tk.chk_no (by omega)]
            have hV : Tk.parseV s.data.toList = if Tk.chk (Tk.val 0 s.data.toList) = 0 then (Tk.val 0 s.data.toList : Int) else 0 := by
              unfold Tk.parseV; rw [if_neg h1, hE]
            have H := Lib.hid (Any.strconv_ParseInt_10_at64_ok Tryz.laysC174 s (by omega) _ hP)
            obtain ⟨n, hn⟩ : ∃ n : Int, Hid ((Tk.val 0 s.data.toList : Int) = n) := ⟨_, Lib.hid rfl⟩
            rw [hn.out] at hE hV H
            clear hP hv hall hbad
            rcases Tk.chk_cases n with ⟨-, -, hk9⟩ | ⟨-, hk9⟩
            · rw [hk9, if_pos rfl] at hV
              rw [hk9] at hE
              have HE := Lib.hid hE
              have HV := Lib.hid hV
              clear hE hV
              go_wp2_with (first | (go_at_call 86; refine (small_any _ _).mono ?_; rintro e w' ⟨rfl, rfl⟩) | (go_at_call 85; refine (H.out _).mono ?_; rintro e w1 ⟨rfl, hw1⟩; replace hw1 := Lib.hid (below_step hw1)))
              go_ret2
              exact ⟨by rw [HE.out, HV.out]; rfl, hw1.out⟩
            · rw [hk9, if_neg (by decide)] at hV
              rw [hk9] at hE
              have HE := Lib.hid hE
              have HV := Lib.hid hV
              clear hE hV
              go_wp2_with (first | (go_at_call 86; refine (small_any _ _).mono ?_; rintro e w' ⟨rfl, rfl⟩) | (go_at_call 85; refine (H.out _).mono ?_; rintro e w1 ⟨rfl, hw1⟩; replace hw1 := Lib.hid (below_step hw1)))
              go_ret2
              exact ⟨by rw [HE.out, HV.out]; rfl, hw1.out⟩
          · rw [if_neg hv] at hP
            have hE : Tk.parseE s.data.toList = 9 := by
              unfold Tk.parseE; rw [if_neg h1, if_neg (by rw [hbad]; decide), if_neg (by omega)]
            have hV : Tk.parseV s.data.toList = 0 := by unfold Tk.parseV; rw [if_neg h1, hE, if_neg (by decide)]
            have HE := Lib.hid hE
            have HV := Lib.hid hV
            skip
            have hL2 := hL.below (Lib.bytesWorld_below w t s)
            obtain ⟨te, pe, hcell⟩ := hL2
            have H := Lib.hid (Any.strconv_ParseInt_10_at64_range Tryz.laysC174 s (by omega) hP _ (Lib.bytesWorld w t s) hcell (.inr ⟨te, pe, rfl⟩))
            clear hE hV hP hv hall hbad hcell
            go_wp2_with (go_at_call 85; refine H.out.mono ?_; rintro e w1 ⟨N, rfl, -, -, hw1⟩; replace hw1 := Lib.hid (Below.lift (Lib.bytesWorld_below w t s) hw1))
            go_ret2
            exact ⟨by rw [HE.out, HV.out]; rfl, hw1.out⟩
    · have hz1 : 1 < (s.size : Int) := by omega
      have hhd : s.data.toList.head? = some s[0] := by
        rw [List.head?_eq_getElem?]; simp [h0]; rfl
      by_cases hz : (((s[0]).toNat : Int) == 48) = true
      · have hE : Tk.parseE s.data.toList = 7 := by
          have : s[0] = 48 := by
            have := beq_iff_eq.1 hz
            apply UInt8.toNat_inj.1
            simp; omega
          unfold Tk.parseE; rw [if_neg h1, if_pos (by unfold Tk.badNum; rw [hhd, decide_eq_true (by rw [hlen]; omega), this]; simp)]
        have hV : Tk.parseV s.data.toList = 0 := by unfold Tk.parseV; rw [if_neg h1, hE, if_neg (by decide)]
        rw [hE, hV]
        clear hcv hlen hE hV hb h1 hhd
        go_enter Tryz.func77, Tryz.ntmps77
        go_wp2_with fail
        go_ret2
        exact ⟨rfl, Below.refl _ _⟩
      · have hz : (((s[0]).toNat : Int) == 48) = false := by simpa using hz
        have hbad : Tk.badNum s.data.toList = !s.data.toList.all Tk.isDig := by
          have : (s.data.toList.head? == some 48) = false := by
            rw [hhd]
            refine beq_eq_false_iff_ne.2 fun e => ?_
            injection e with e
            rw [e] at hz
            exact absurd hz (by decide)
          unfold Tk.badNum
          rw [List.isEmpty_eq_false_iff.2 hb, this, Bool.and_false, Bool.false_or, Bool.false_or]
        clear hhd
        go_enter Tryz.func77, Tryz.ntmps77
        go_wp2_with fail
        go_loopw [5, 25] (fun _ s25 wr => PIn s w s25 wr) (fun _ s25 _ => s.size - (intOf s25).toNat)
        case atStart => exact ⟨0, rfl, Nat.zero_le _, Lib.hid fun j hj => absurd hj (Nat.not_lt_zero _), _, rfl⟩
        case round =>
          obtain ⟨k, rfl, hk, hdig, t, rfl⟩ := hrel
          clear hcv
          by_cases hlt : k < s.size
          · have hc := Lib.bytesWorld_cell w t s k hlt
            obtain ⟨c, hcq⟩ : ∃ c, Hid (s.data.toList.getD k 0 = c) := ⟨_, Lib.hid rfl⟩
            rw [hcq.out] at hc
            by_cases hd : Tk.isDig c = true
            · have hd' : isIn 48 (c.toNat : Int) 57 = true := hd
              have Hd := Lib.hid hd
              clear hd
              go_wp2_with (go_at_call 84; refine (withinB_any _ _ _ _).mono ?_; rintro e w' ⟨rfl, rfl⟩)
              exact ⟨PIn.step hlt hdig hcq Hd, by simp only [intOf]; omega⟩
            · have hd' : isIn 48 (c.toNat : Int) 57 = false := by simpa [Tk.isDig, isIn] using hd
              have hE : Tk.parseE s.data.toList = 7 := by
                unfold Tk.parseE; rw [if_neg h1, if_pos (by rw [hbad, not_digs (by rw [hlen]; exact hlt) (by rw [hcq.out]; exact hd)]; rfl)]
              have hV : Tk.parseV s.data.toList = 0 := by unfold Tk.parseV; rw [if_neg h1, hE, if_neg (by decide)]
              have HE := Lib.hid hE
              have HV := Lib.hid hV
              clear hE hV hbad hd
              go_wp2_with (go_at_call 84; refine (withinB_any _ _ _ _).mono ?_; rintro e w' ⟨rfl, rfl⟩)
              go_ret2
              exact ⟨by rw [HE.out, HV.out]; rfl, Lib.bytesWorld_below w t s⟩
          · have hall : s.data.toList.all Tk.isDig = true := all_digs fun j hj => hdig.out j (by rw [hlen] at hj; omega)
            rw [hall] at hbad
            have hP := Tk.parseIntB_digits hb hall
            by_cases hv : Tk.val 0 s.data.toList < 9223372036854775808
            · rw [if_pos hv] at hP
              have hE : Tk.parseE s.data.toList = Tk.chk (Tk.val 0 s.data.toList) := by
                unfold Tk.parseE; rw [if_neg h1, if_neg (by rw [hbad]; decide)]
                by_cases h9 : Tk.val 0 s.data.toList ≤ 1099511627776
                · rw [if_pos h9, Tk.chk_ok (by omega)]
                · rw [if_neg h9, Tk.chk_no (by omega)]
              have hV : Tk.parseV s.data.toList = if Tk.chk (Tk.val 0 s.data.toList) = 0 then (Tk.val 0 s.data.toList : Int) else 0 := by
                unfold Tk.parseV; rw [if_neg h1, hE]
              have H := Lib.hid (Any.strconv_ParseInt_10_at64_ok Tryz.laysC174 s (by omega) _ hP)
              obtain ⟨n, hn⟩ : ∃ n : Int, Hid ((Tk.val 0 s.data.toList : Int) = n) := ⟨_, Lib.hid rfl⟩
              rw [hn.out] at hE hV H
              clear hP hv hall hbad
              rcases Tk.chk_cases n with ⟨-, -, hk9⟩ | ⟨-, hk9⟩
              · rw [hk9, if_pos rfl] at hV
                rw [hk9] at hE
                have HE := Lib.hid hE
                have HV := Lib.hid hV
                clear hE hV
                go_wp2_with (first | (go_at_call 86; refine (small_any _ _).mono ?_; rintro e w' ⟨rfl, rfl⟩) | (go_at_call 85; refine (H.out _).mono ?_; rintro e w1 ⟨rfl, hw1⟩; replace hw1 := Lib.hid (below_step hw1)))
                go_ret2
                exact ⟨by rw [HE.out, HV.out]; rfl, hw1.out⟩
              · rw [hk9, if_neg (by decide)] at hV
                rw [hk9] at hE
                have HE := Lib.hid hE
                have HV := Lib.hid hV
                clear hE hV
                go_wp2_with (first | (go_at_call 86; refine (small_any _ _).mono ?_; rintro e w' ⟨rfl, rfl⟩) | (go_at_call 85; refine (H.out _).mono ?_; rintro e w1 ⟨rfl, hw1⟩; replace hw1 := Lib.hid (below_step hw1)))
                go_ret2
                exact ⟨by rw [HE.out, HV.out]; rfl, hw1.out⟩
            · rw [if_neg hv] at hP
              have hE : Tk.parseE s.data.toList = 9 := by
                unfold Tk.parseE; rw [if_neg h1, if_neg (by rw [hbad]; decide), if_neg (by omega)]
              have hV : Tk.parseV s.data.toList = 0 := by unfold Tk.parseV; rw [if_neg h1, hE, if_neg (by decide)]
              have HE := Lib.hid hE
              have HV := Lib.hid hV
              skip
              have hL2 := hL.below (Lib.bytesWorld_below w t s)
              obtain ⟨te, pe, hcell⟩ := hL2
              have H := Lib.hid (Any.strconv_ParseInt_10_at64_range Tryz.laysC174 s (by omega) hP _ (Lib.bytesWorld w t s) hcell (.inr ⟨te, pe, rfl⟩))
              clear hE hV hP hv hall hbad hcell
              go_wp2_with (go_at_call 85; refine H.out.mono ?_; rintro e w1 ⟨N, rfl, -, -, hw1⟩; replace hw1 := Lib.hid (Below.lift (Lib.bytesWorld_below w t s) hw1))
              go_ret2
              exact ⟨by rw [HE.out, HV.out]; rfl, hw1.out⟩

end Go.Proofs.YtlclkeihkkpdbaaGreatDoor
