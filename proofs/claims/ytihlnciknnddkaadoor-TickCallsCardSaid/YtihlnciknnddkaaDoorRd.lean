/- The walks of timetableref01: digits, Text, Parse. -/
import Derived.Test.YtihlnciknnddkaaDoorRf
import Derived.Test.YtihlnciknnddkaaDoorTq
import Derived.Lib.SmallJoins
import Derived.Test.YtihlnciknnddkaaDoorTz
namespace Go.Proofs.YtihlnciknnddkaaDoor
open Go.RowKit

theorem ten_piece : ∀ n : Nat, n < 10 → (⟨#[48, 49, 50, 51, 52, 53, 54, 55, 56, 57]⟩ : ByteArray).extract n (n + 1) = ⟨[UInt8.ofNat (48 + n)].toArray⟩ := by
  decide
theorem join_dec {n : Nat} (h : ¬ n < 10) : (⟨(Lib.decDigits (n / 10)).toArray⟩ : ByteArray) ++ (⟨(Lib.decDigits (n % 10)).toArray⟩ : ByteArray) = ⟨(Lib.decDigits n).toArray⟩ := by
  apply ByteArray.ext
  rw [ByteArray.data_append, Tk.dec_more h, Tk.dec_one (u := n % 10) (by omega)]
  simp
set_option maxHeartbeats 1000000 in
theorem digits_any (n : Nat) : ∀ (w : World), n < 9223372036854775808 →
    Calls Tryd.prog 30 #[.int .i64 n] w fun e w' => e = .returned (.string ⟨(Lib.decDigits n).toArray⟩) ∧ w = w' := by
  induction n using Nat.strongRecOn with
  | ind n ih =>
    intro w hn
    by_cases h : n < 10
    · have hr := ten_piece n h
      rw [Tk.dec_one h]
      clear ih
      have Hr := Lib.hid hr
      clear hr
      go_enter Tryd.func30, Tryd.ntmps30
      go_wp2_with fail
      go_ret
      refine ⟨?_, rfl⟩
      rw [← Hr.out]
      rfl
    · have H1 := Lib.hid (ih (n / 10) (by omega) w (by omega))
      have H2 := Lib.hid (ih (n % 10) (by omega) w (by omega))
      have h' : 10 ≤ (n : Int) := by omega
      have HJ := Lib.hid (join_dec h)
      have hfit : ¬ 9223372036854775807 < (Lib.decDigits (n / 10)).length + (Lib.decDigits (n % 10)).length := by
        rw [Lib.decDigits_length, Lib.decDigits_length]
        have := Lib.nDigits_le20 (n / 10) (by omega)
        have := Lib.nDigits_le20 (n % 10) (by omega)
        omega
      clear ih h
      go_enter Tryd.func30, Tryd.ntmps30
      go_wp2_with fail
      refine H1.out.mono ?_
      rintro e w' ⟨rfl, rfl⟩
      go_wp2_with fail
      refine H2.out.mono ?_
      rintro e w' ⟨rfl, rfl⟩
      go_wp2_with fail
      go_ret
      exact ⟨by rw [← HJ.out]; rfl, rfl⟩
set_option maxHeartbeats 1000000 in
theorem rtext_any (t : Int) (w : World) :
    Calls Tryd.prog 24 #[.int .i64 t] w fun e w' => e = .returned (.string ⟨(Tk.textB t).toArray⟩) ∧ w = w' := by
  have HD := Lib.hid (digits_any 0 w (by decide))
  rcases Tk.kinds t with ⟨h1, h2, h3⟩ | rfl | ⟨t1, t2⟩
  · rw [Tk.text_no h1]
    go_enter Tryd.func24, Tryd.ntmps24
    go_wp2_with (first | (go_at_call 20; refine (ris_any _ _).mono ?_; rintro e w' ⟨rfl, rfl⟩) | (go_at_call 30; refine HD.out.mono ?_; rintro e w' ⟨rfl, rfl⟩))
    go_ret
    exact ⟨rfl, rfl⟩
  · rw [show Tk.textB 4611686018427387904 = Tk.infB from by decide]
    have h1 := Tk.isT_inf
    go_enter Tryd.func24, Tryd.ntmps24
    go_wp2_with (first | (go_at_call 20; refine (ris_any _ _).mono ?_; rintro e w' ⟨rfl, rfl⟩) | (go_at_call 30; refine HD.out.mono ?_; rintro e w' ⟨rfl, rfl⟩))
    go_ret
    exact ⟨rfl, rfl⟩
  · have h1 := Tk.isT_tick ⟨t1, t2⟩
    have h3 : (t == 4611686018427387904) = false := beq_eq_false_iff_ne.2 (by omega)
    obtain ⟨u, rfl⟩ := Int.eq_ofNat_of_zero_le t1
    have hr : Tk.textB (u : Int) = Lib.decDigits u := by unfold Tk.textB; rw [if_neg (by omega), if_pos h1, Lib.itoa_nonneg]
    rw [hr]
    clear HD hr
    have HD := Lib.hid (digits_any u w (by omega))
    go_enter Tryd.func24, Tryd.ntmps24
    go_wp2_with (first | (go_at_call 20; refine (ris_any _ _).mono ?_; rintro e w' ⟨rfl, rfl⟩) | (go_at_call 30; refine HD.out.mono ?_; rintro e w' ⟨rfl, rfl⟩))
    go_ret
    exact ⟨rfl, rfl⟩

/-- The first loop's state. -/
def RIn (s : ByteArray) (s5 : Value) : Prop := ∃ k : Nat, s5 = .int .i64 k ∧ k ≤ s.size ∧ Hid (∀ j, j < k → Tk.isDig (s.data.toList.getD j 0) = true)
theorem RIn.step {s : ByteArray} {k : Nat} (hk : k < s.size) (h : Hid (∀ j, j < k → Tk.isDig (s.data.toList.getD j 0) = true)) {c : UInt8} (hc : Hid (s.data.toList.getD k 0 = c)) (hd : Hid (Tk.isDig c = true)) :
    RIn s (.int .i64 (k + 1 : Nat)) := by
  refine ⟨k + 1, rfl, hk, Lib.hid fun j hj => ?_⟩
  rcases Nat.lt_succ_iff_lt_or_eq.1 hj with h1 | rfl
  · exact h.out j h1
  · rw [hc.out]; exact hd.out
theorem getD_at (s : ByteArray) (k : Nat) (h : k < s.size) : s.data.toList.getD k 0 = s[k] := by
  rw [List.getD_eq_getElem?_getD, List.getElem?_eq_getElem (by simpa using h)]
  simp
  rfl

/-- The second loop's state: the number so far. -/
def RVal (s : ByteArray) (s4 s6 : Value) : Prop := ∃ k N : Nat, s6 = .int .i64 k ∧ s4 = .int .i64 N ∧ k ≤ s.size ∧ Hid (Tk.val 0 (s.data.toList.take k) = N) ∧ N ≤ 1099511627776
theorem val_take {s : ByteArray} {k N : Nat} {c : UInt8} (hk : k < s.size) (hN : Tk.val 0 (s.data.toList.take k) = N) (hc : s.data.toList.getD k 0 = c) : Tk.val 0 (s.data.toList.take (k + 1)) = N * 10 + (c.toNat - 48) := by
  have hl : k < s.data.toList.length := by simpa using hk
  rw [List.take_succ_eq_append_getElem hl, Tk.val_snoc, hN, ← hc, List.getD_eq_getElem?_getD, List.getElem?_eq_getElem hl]
  rfl
theorem RVal.step {s : ByteArray} {k N : Nat} {c : UInt8} (hk : k < s.size) (h : Hid (Tk.val 0 (s.data.toList.take (k + 1)) = N * 10 + (c.toNat - 48))) (hc : 48 ≤ c.toNat) (hm : 10 * (N : Int) + ((c.toNat : Int) - 48) ≤ 1099511627776) :
    RVal s (.int .i64 (10 * (N : Int) + ((c.toNat : Int) - 48))) (.int .i64 ((k : Int) + 1)) :=
  ⟨k + 1, N * 10 + (c.toNat - 48), rfl, by congr 1; omega, hk, h, by omega⟩
theorem val_all_ge (l : List UInt8) (k : Nat) : Tk.val 0 (l.take k) ≤ Tk.val 0 l := by
  have : Tk.val 0 l = Tk.val (Tk.val 0 (l.take k)) (l.drop k) := by
    unfold Tk.val
    rw [← List.foldl_append, List.take_append_drop]
  rw [this]
  exact Tk.val_ge _ _

set_option maxHeartbeats 1000000 in
theorem rparse_any (s : ByteArray) (w : World) (hs : s.size ≤ 1099511627776) :
    Calls Tryd.prog 19 #[.string s] w fun e w' => e = .returned (.tuple #[.int .i64 (Tk.parseV s.data.toList), .int .i64 (Tk.parseE s.data.toList)]) ∧ w = w' := by
  have hlen : s.data.toList.length = s.size := by simp
  by_cases h1 : s.data.toList = Tk.infB
  · have h1' : (s.toList == [105, 110, 102]) = true := by rw [ByteArray.toList_eq, h1]; rfl
    have hE : Tk.parseE s.data.toList = 0 := by unfold Tk.parseE; rw [if_pos h1]
    have hV : Tk.parseV s.data.toList = 4611686018427387904 := by unfold Tk.parseV; rw [if_pos h1]
    rw [hE, hV]
    clear hlen hE hV h1
    go_enter Tryd.func19, Tryd.ntmps19
    go_wp2_with fail
    go_ret2
    exact ⟨rfl, rfl⟩
  · have h1' : (s.toList == [105, 110, 102]) = false := by rw [ByteArray.toList_eq]; exact beq_eq_false_iff_ne.2 h1
    by_cases hb : s.data.toList = []
    · have hE : Tk.parseE s.data.toList = 7 := by unfold Tk.parseE; rw [if_neg h1, if_pos (by rw [hb]; rfl)]
      have hV : Tk.parseV s.data.toList = 0 := by unfold Tk.parseV; rw [if_neg h1, hE, if_neg (by decide)]
      rw [hE, hV]
      have hb' : s = ByteArray.empty := by apply ByteArray.ext; simpa using hb
      subst hb'
      clear hlen hE hV hb h1
      go_enter Tryd.func19, Tryd.ntmps19
      go_wp2_with fail
      go_ret2
      exact ⟨rfl, rfl⟩
    have h0 : 0 < s.size := by rw [← hlen]; exact List.length_pos_iff.2 hb
    have hb1 : ¬ s = ByteArray.empty := fun e => by rw [e] at h0; exact absurd h0 (by decide)
    have hb2 : ((s.size : Int) == 0) = false := beq_eq_false_iff_ne.2 (by omega)
    by_cases hz1 : (s.size : Int) ≤ 1
    · have hbad : Tk.badNum s.data.toList = !s.data.toList.all Tk.isDig := by
        unfold Tk.badNum
        rw [List.isEmpty_eq_false_iff.2 hb, decide_eq_false (by rw [hlen]; omega), Bool.false_and, Bool.false_or, Bool.false_or]
      go_enter Tryd.func19, Tryd.ntmps19
      go_wp2_with fail
      go_loopw [5] (fun s5 wr => RIn s s5 ∧ wr = w) (fun s5 _ => s.size - (intOf s5).toNat)
      case atStart => exact ⟨⟨0, rfl, Nat.zero_le _, Lib.hid fun j hj => absurd hj (Nat.not_lt_zero _)⟩, rfl⟩
      case round =>
        obtain ⟨⟨k, rfl, hk, hdig⟩, rfl⟩ := hrel
        by_cases hlt : k < s.size
        · have hat := Lib.hid (getD_at s k hlt)
          by_cases hd : Tk.isDig s[k] = true
          · have Hd := Lib.hid hd
            have hd1 : (48 : Int) ≤ (s[k].toNat : Int) := by have := (Tk.isDig_iff.1 hd).1; omega
            have hd2 : (s[k].toNat : Int) ≤ 57 := by have := (Tk.isDig_iff.1 hd).2; omega
            clear hd
            go_wp2_with fail
            exact ⟨⟨RIn.step hlt hdig hat Hd, trivial⟩, by simp only [intOf]; omega⟩
          · have hE : Tk.parseE s.data.toList = 7 := by
              unfold Tk.parseE; rw [if_neg h1, if_pos (by rw [hbad, not_digs (by rw [hlen]; exact hlt) (by rw [hat.out]; exact hd)]; rfl)]
            have hV : Tk.parseV s.data.toList = 0 := by unfold Tk.parseV; rw [if_neg h1, hE, if_neg (by decide)]
            have HE := Lib.hid hE
            have HV := Lib.hid hV
            clear hE hV hbad
            by_cases hd1 : (48 : Int) ≤ (s[k].toNat : Int)
            · have hd2 : (57 : Int) < (s[k].toNat : Int) := by
                have : ¬ (48 ≤ s[k].toNat ∧ s[k].toNat ≤ 57) := fun h => hd (Tk.isDig_iff.2 h)
                omega
              clear hd
              go_wp2_with fail
              go_ret2
              exact ⟨by rw [HE.out, HV.out]; rfl, rfl⟩
            · have hd2 : (s[k].toNat : Int) < 48 := by omega
              clear hd hd1
              go_wp2_with fail
              go_ret2
              exact ⟨by rw [HE.out, HV.out]; rfl, rfl⟩
        · have hks : k = s.size := by omega
          subst hks
          have hall : s.data.toList.all Tk.isDig = true := all_digs fun j hj => hdig.out j (by rw [hlen] at hj; omega)
          have Hall := Lib.hid hall
          rw [hall] at hbad
          have Hbad := Lib.hid hbad
          clear hall hbad hdig hlt hk
          go_wp2_with fail
          go_loopw [4, 6] (fun s4 s6 wx => RVal s s4 s6 ∧ wx = wr) (fun _ s6 _ => s.size - (intOf s6).toNat)
          case atStart => exact ⟨⟨0, _, rfl, rfl, Nat.zero_le _, Lib.hid rfl, by decide⟩, rfl⟩
          case round =>
            obtain ⟨⟨k, N, rfl, rfl, hk, hN, hle⟩, rfl⟩ := hrel
            by_cases hlt : k < s.size
            · have hat := Lib.hid (getD_at s k hlt)
              have hdg := Tk.isDig_iff.1 (show Tk.isDig s[k] = true by rw [← hat.out]; exact List.all_eq_true.1 Hall.out _ (getD_in (by rw [hlen]; exact hlt)))
              have HN := Lib.hid (val_take hlt hN.out hat.out)
              obtain ⟨hd1, hd2⟩ := hdg
              by_cases hm : 10 * (N : Int) + ((s[k].toNat : Int) - 48) ≤ 1099511627776
              · have HR := Lib.hid (RVal.step hlt HN hd1 (by omega))
                go_wp2_with fail
                exact ⟨⟨HR.out, trivial⟩, by simp only [intOf]; omega⟩
              · have hE : Tk.parseE s.data.toList = 9 := by
                  have := val_all_ge s.data.toList (k + 1)
                  rw [HN.out] at this
                  unfold Tk.parseE; rw [if_neg h1, if_neg (by rw [Hbad.out]; decide), if_neg (by omega)]
                have hV : Tk.parseV s.data.toList = 0 := by unfold Tk.parseV; rw [if_neg h1, hE, if_neg (by decide)]
                have HE := Lib.hid hE
                have HV := Lib.hid hV
                clear hE hV
                have hm : 1099511627776 < 10 * (N : Int) + ((s[k].toNat : Int) - 48) := by omega
                go_wp2_with fail
                go_ret2
                exact ⟨by rw [HE.out, HV.out]; rfl, rfl⟩
            · have hN' : Tk.val 0 s.data.toList = N := by
                have := hN.out
                rwa [List.take_of_length_le (by rw [hlen]; omega)] at this
              have hE : Tk.parseE s.data.toList = 0 := by
                unfold Tk.parseE; rw [if_neg h1, if_neg (by rw [Hbad.out]; decide), if_pos (by omega)]
              have hV : Tk.parseV s.data.toList = N := by unfold Tk.parseV; rw [if_neg h1, if_pos hE, hN']
              have HE := Lib.hid hE
              have HV := Lib.hid hV
              clear hE hV hN'
              go_wp2_with fail
              go_ret2
              exact ⟨by rw [HE.out, HV.out]; rfl, rfl⟩
    · have hz1 : 1 < (s.size : Int) := by omega
      have hhd : s.data.toList.head? = some s[0] := by
        rw [List.head?_eq_getElem?]; simp [h0]; rfl
      by_cases hz : (((s[0]).toNat : Int) == 48) = true
      · have hE : Tk.parseE s.data.toList = 7 := by
          have : s[0] = 48 := by
            have := beq_iff_eq.1 hz
            apply UInt8.toNat_inj.1
            simp; omega
          unfold Tk.parseE; rw [if_neg h1, if_pos (by unfold Tk.badNum; rw [hhd, decide_eq_true (by rw [hlen]; omega), this]; simp)]
        have hV : Tk.parseV s.data.toList = 0 := by unfold Tk.parseV; rw [if_neg h1, hE, if_neg (by decide)]
        rw [hE, hV]
        clear hlen hE hV hb h1 hhd
        go_enter Tryd.func19, Tryd.ntmps19
        go_wp2_with fail
        go_ret2
        exact ⟨rfl, rfl⟩
      · have hz : (((s[0]).toNat : Int) == 48) = false := by simpa using hz
        have hbad : Tk.badNum s.data.toList = !s.data.toList.all Tk.isDig := by
          have : (s.data.toList.head? == some 48) = false := by
            rw [hhd]
            refine beq_eq_false_iff_ne.2 fun e => ?_
            injection e with e
            rw [e] at hz
            exact absurd hz (by decide)
          unfold Tk.badNum
          rw [List.isEmpty_eq_false_iff.2 hb, this, Bool.and_false, Bool.false_or, Bool.false_or]
        clear hhd
        go_enter Tryd.func19, Tryd.ntmps19
        go_wp2_with fail
        go_loopw [5] (fun s5 wr => RIn s s5 ∧ wr = w) (fun s5 _ => s.size - (intOf s5).toNat)
        case atStart => exact ⟨⟨0, rfl, Nat.zero_le _, Lib.hid fun j hj => absurd hj (Nat.not_lt_zero _)⟩, rfl⟩
        case round =>
          obtain ⟨⟨k, rfl, hk, hdig⟩, rfl⟩ := hrel
          by_cases hlt : k < s.size
          · have hat := Lib.hid (getD_at s k hlt)
            by_cases hd : Tk.isDig s[k] = true
            · have Hd := Lib.hid hd
              have hd1 : (48 : Int) ≤ (s[k].toNat : Int) := by have := (Tk.isDig_iff.1 hd).1; omega
              have hd2 : (s[k].toNat : Int) ≤ 57 := by have := (Tk.isDig_iff.1 hd).2; omega
              clear hd
              go_wp2_with fail
              exact ⟨⟨RIn.step hlt hdig hat Hd, trivial⟩, by simp only [intOf]; omega⟩
            · have hE : Tk.parseE s.data.toList = 7 := by
                unfold Tk.parseE; rw [if_neg h1, if_pos (by rw [hbad, not_digs (by rw [hlen]; exact hlt) (by rw [hat.out]; exact hd)]; rfl)]
              have hV : Tk.parseV s.data.toList = 0 := by unfold Tk.parseV; rw [if_neg h1, hE, if_neg (by decide)]
              have HE := Lib.hid hE
              have HV := Lib.hid hV
              clear hE hV hbad
              by_cases hd1 : (48 : Int) ≤ (s[k].toNat : Int)
              · have hd2 : (57 : Int) < (s[k].toNat : Int) := by
                  have : ¬ (48 ≤ s[k].toNat ∧ s[k].toNat ≤ 57) := fun h => hd (Tk.isDig_iff.2 h)
                  omega
                clear hd
                go_wp2_with fail
                go_ret2
                exact ⟨by rw [HE.out, HV.out]; rfl, rfl⟩
              · have hd2 : (s[k].toNat : Int) < 48 := by omega
                clear hd hd1
                go_wp2_with fail
                go_ret2
                exact ⟨by rw [HE.out, HV.out]; rfl, rfl⟩
          · have hks : k = s.size := by omega
            subst hks
            have hall : s.data.toList.all Tk.isDig = true := all_digs fun j hj => hdig.out j (by rw [hlen] at hj; omega)
            have Hall := Lib.hid hall
            rw [hall] at hbad
            have Hbad := Lib.hid hbad
            clear hall hbad hdig hlt hk
            go_wp2_with fail
            go_loopw [4, 6] (fun s4 s6 wx => RVal s s4 s6 ∧ wx = wr) (fun _ s6 _ => s.size - (intOf s6).toNat)
            case atStart => exact ⟨⟨0, _, rfl, rfl, Nat.zero_le _, Lib.hid rfl, by decide⟩, rfl⟩
            case round =>
              obtain ⟨⟨k, N, rfl, rfl, hk, hN, hle⟩, rfl⟩ := hrel
              by_cases hlt : k < s.size
              · have hat := Lib.hid (getD_at s k hlt)
                have hdg := Tk.isDig_iff.1 (show Tk.isDig s[k] = true by rw [← hat.out]; exact List.all_eq_true.1 Hall.out _ (getD_in (by rw [hlen]; exact hlt)))
                have HN := Lib.hid (val_take hlt hN.out hat.out)
                obtain ⟨hd1, hd2⟩ := hdg
                by_cases hm : 10 * (N : Int) + ((s[k].toNat : Int) - 48) ≤ 1099511627776
                · have HR := Lib.hid (RVal.step hlt HN hd1 (by omega))
                  go_wp2_with fail
                  exact ⟨⟨HR.out, trivial⟩, by simp only [intOf]; omega⟩
                · have hE : Tk.parseE s.data.toList = 9 := by
                    have := val_all_ge s.data.toList (k + 1)
                    rw [HN.out] at this
                    unfold Tk.parseE; rw [if_neg h1, if_neg (by rw [Hbad.out]; decide), if_neg (by omega)]
                  have hV : Tk.parseV s.data.toList = 0 := by unfold Tk.parseV; rw [if_neg h1, hE, if_neg (by decide)]
                  have HE := Lib.hid hE
                  have HV := Lib.hid hV
                  clear hE hV
                  have hm : 1099511627776 < 10 * (N : Int) + ((s[k].toNat : Int) - 48) := by omega
                  go_wp2_with fail
                  go_ret2
                  exact ⟨by rw [HE.out, HV.out]; rfl, rfl⟩
              · have hN' : Tk.val 0 s.data.toList = N := by
                  have := hN.out
                  rwa [List.take_of_length_le (by rw [hlen]; omega)] at this
                have hE : Tk.parseE s.data.toList = 0 := by
                  unfold Tk.parseE; rw [if_neg h1, if_neg (by rw [Hbad.out]; decide), if_pos (by omega)]
                have hV : Tk.parseV s.data.toList = N := by unfold Tk.parseV; rw [if_neg h1, if_pos hE, hN']
                have HE := Lib.hid hE
                have HV := Lib.hid hV
                clear hE hV hN'
                go_wp2_with fail
                go_ret2
                exact ⟨by rw [HE.out, HV.out]; rfl, rfl⟩
end Go.Proofs.YtihlnciknnddkaaDoor
