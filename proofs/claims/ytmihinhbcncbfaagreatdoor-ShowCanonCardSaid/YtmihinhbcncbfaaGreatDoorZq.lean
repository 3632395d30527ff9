/- Small words and laws that the reference's lexer and parser need. -/
import Derived.Test.YtmihinhbcncbfaaGreatDoorLz
import Derived.Test.YtmihinhbcncbfaaGreatDoorBd
import Derived.Test.YtmihinhbcncbfaaGreatDoorZa
import Derived.Test.YtmihinhbcncbfaaGreatDoorZn
import Derived.Test.YtmihinhbcncbfaaGreatDoorSx
import Derived.Test.YtmihinhbcncbfaaGreatDoorMh
import Derived.Deep.CutBlock
import Derived.Deep.CutRange
import Derived.Deep.DeepCutAuto
namespace Go.Proofs.YtmihinhbcncbfaaGreatDoor
open Go.RowKit
theorem dig_is (c : UInt8) : Nm.dig c = Tk.isDig c := by
  rw [Bool.eq_iff_iff, Tk.isDig_iff]
  unfold Nm.dig
  rw [decide_eq_true_eq]
def IsTk (n : Int) : Prop := 0 ≤ n ∧ n ≤ 1099511627776
theorem num_parts {n : Int} (h : IsTk n) : (∃ b r, Lib.itoa n = b :: r ∧ Nm.cls b = 2) ∧ (Lib.itoa n).all Nm.dig = true ∧ Tk.parseE (Lib.itoa n) = 0 ∧ Tk.parseV (Lib.itoa n) = n ∧ (Lib.itoa n).length ≤ 24 := by
  have hT : Tk.isT n = true := Tk.isT_tick h
  have hr : Tk.textB n = Lib.itoa n := by unfold Tk.textB; rw [if_neg (by have := h.2; omega), if_pos hT]
  have hp := Tk.parse_text hT
  rw [hr] at hp
  have hl := Lib.itoa_length_le n (by have := h.1; omega) (by have := h.2; omega)
  obtain ⟨m, rfl⟩ := Int.eq_ofNat_of_zero_le h.1
  rw [Lib.itoa_nonneg] at hp hl ⊢
  have hd := Tk.dec_digs m
  have hd2 : (Lib.decDigits m).all Nm.dig = true := by
    rw [List.all_eq_true] at hd ⊢
    intro x hx
    rw [dig_is]; exact hd x hx
  refine ⟨?_, hd2, hp.1, hp.2, by omega⟩
  cases he : Lib.decDigits m with
  | nil => exact absurd he (Tk.dec_ne m)
  | cons b r =>
    refine ⟨b, r, rfl, ?_⟩
    rw [he, List.all_cons, Bool.and_eq_true] at hd2
    have := Nm.cls_dig b
    rw [hd2.1] at this
    exact beq_iff_eq.1 this
theorem name_parts {l : List UInt8} (h : Nm.name l = true) : (∃ b r, l = b :: r ∧ Nm.cls b = 1) ∧ l.all Nm.more = true ∧ l.length ≤ 24 ∧ Nm.res l = false := by
  unfold Nm.name Nm.word at h
  simp only [Bool.and_eq_true, decide_eq_true_eq, Bool.not_eq_true'] at h
  obtain ⟨⟨⟨⟨h1, h2⟩, h3⟩, h4⟩, h5⟩ := h
  refine ⟨?_, h4, h2, h5⟩
  cases l with
  | nil => exact absurd h1 (Nat.lt_irrefl _)
  | cons b r => exact ⟨b, r, rfl, by unfold Nm.cls; rw [if_pos (show Nm.low b = true from h3)]⟩
theorem info_tok : (Tryz.prog.info? 95).map (fun i => (i.zero, i.size, i.bytes)) = some (some (.agg #[.int .i64 0, .string ByteArray.empty, .int .i64 0, .int .i64 0, .int .i64 0]), 5, 48) := by kernel_rfl
/-- Three cells of a block written. -/
theorem set3 {w w0 : World} {h B : Nat} {z0 z1 z2 : Value} {t : TypeId} (y0 y1 y2 : Value) (hf : w.heap[h]? = some (.cells #[z0, z1, z2] t (0, 0))) (hb : Below B w0 w) (hB : B ≤ h) :
    (((w.setCell ⟨h, 0, none⟩ y0).setCell ⟨h, 1, none⟩ y1).setCell ⟨h, 2, none⟩ y2).heap[h]? = some (.cells #[y0, y1, y2] t (0, 0)) ∧ (∀ c, c ≠ h → (((w.setCell ⟨h, 0, none⟩ y0).setCell ⟨h, 1, none⟩ y1).setCell ⟨h, 2, none⟩ y2).heap[c]? = w.heap[c]?) ∧ Below B w0 (((w.setCell ⟨h, 0, none⟩ y0).setCell ⟨h, 1, none⟩ y1).setCell ⟨h, 2, none⟩ y2) := by
  have c0 := heap_setCell_same w h 0 _ _ y0 hf
  simp only [List.setIfInBounds_toArray, List.set_cons_zero] at c0
  have c1 := heap_setCell_same _ h 1 _ _ y1 c0
  simp only [List.setIfInBounds_toArray, List.set_cons_zero, List.set_cons_succ] at c1
  have c2 := heap_setCell_same _ h 2 _ _ y2 c1
  simp only [List.setIfInBounds_toArray, List.set_cons_zero, List.set_cons_succ] at c2
  exact ⟨c2, fun c hc => by repeat rw [Below.heap_setCell _ _ _ _ (by show c ≠ h; exact hc)], ((hb.setCell (p := ⟨h, 0, none⟩) hB y0).setCell (p := ⟨h, 1, none⟩) hB y1).setCell (p := ⟨h, 2, none⟩) hB y2⟩
theorem step_out {st : St} {c : Cur} (hi : Inv st c) : (stepSt st c).2.out.length ≤ 2 * c.s.size := by
  have ok := hi.ok
  have k2 := ok.pos
  have ho := hi.out
  have h : c.out.length ≤ 2 * c.s.size := by omega
  by_cases hs : st = .none
  · subst hs; exact h
  rcases (step_inv hi hs).1 with h1 | h1
  · cases st with
    | none => exact h
    | any => show (stepAny c).2.out.length ≤ _; unfold stepAny; (repeat' split) <;> exact h
    | end_ =>
      have hc : c.close.out.length ≤ 2 * c.s.size := by
        unfold Cur.close
        split
        · rename_i hsm
          rw [if_pos hsm] at ho
          show (c.out ++ [_]).length ≤ _
          rw [List.length_append, List.length_singleton]; omega
        · exact h
      show (stepEnd c).2.out.length ≤ _
      unfold stepEnd
      split
      · exact hc
      · exact hc
    | remark => exact h
    | word =>
      revert h1
      show (stepWord c).1 = .none → (stepWord c).2.out.length ≤ _
      unfold stepWord
      dsimp only
      split
      · exact fun _ => h
      · exact fun e => (by cases e)
    | number =>
      revert h1
      show (stepNumber c).1 = .none → (stepNumber c).2.out.length ≤ _
      unfold stepNumber
      dsimp only
      (repeat' split) <;> first | exact fun _ => h | exact fun e => (by cases e)
  · have h2 := h1.out
    have h3 := h1.ok.pos
    rw [stepSt_s] at h3
    omega
theorem runs_out : ∀ (n : Nat) {st : St} {c : Cur}, (st = .none ∨ Inv st c) → c.out.length ≤ 2 * c.s.size → (runs n st c).2.out.length ≤ 2 * c.s.size := by
  intro n
  induction n with
  | zero => intro st c _ h; exact h
  | succ n ih =>
    intro st c hi h
    by_cases hs : st = .none
    · subst hs; simp only [runs, if_true]; exact h
    · simp only [runs, if_neg hs]
      have hj := hi.resolve_left hs
      have h2 := ih (step_inv hj hs).1 (by rw [stepSt_s]; exact step_out hj)
      rw [stepSt_s] at h2
      exact h2
theorem tok_count (s : ByteArray) : (allD s).1.length ≤ 2 * s.size := by
  unfold allD
  split
  · exact Nat.zero_le _
  · rename_i hs
    split
    · exact Nat.zero_le _
    · exact runs_out _ (.inr (start_inv s (by omega))) (Nat.zero_le _)
theorem Ow.keepB {α : Type} {c : α → List Value} {size base : Nat} {e : TypeId} {v : Value} {l : List α} {w w' : World} (h : Ow c size w base e v l) (hk : ∀ b, base ≤ b → b < w.heap.size → w'.heap[b]? = w.heap[b]?) : Ow c size w' base e v l := by
  refine ⟨h.1, ?_⟩
  rcases h.2 with h0 | ⟨g, cap, cur, rfl, h1, h2, h3⟩
  · exact .inl h0
  · exact .inr ⟨g, cap, cur, rfl, h1, (hk g h1 (Array.getElem?_eq_some_iff.1 h2).1).trans h2, h3⟩
/-- Rows of unlike types lie in unlike blocks. -/
theorem ow_apart {α β : Type} {c1 : α → List Value} {c2 : β → List Value} {s1 s2 B1 B2 : Nat} {e1 e2 : TypeId} {v1 v2 : Value} {l1 : List α} {l2 : List β} {w : World} (h1 : Ow c1 s1 w B1 e1 v1 l1) (h2 : Ow c2 s2 w B2 e2 v2 l2) (hne : e1 ≠ e2) : v1.ownBlock = none ∨ v1.ownBlock ≠ v2.ownBlock := by
  rcases h1.2 with ⟨rfl, _⟩ | ⟨g, cap, cur, rfl, _, hg, _⟩
  · exact .inl rfl
  · refine .inr fun h => ?_
    rcases h2.2 with ⟨rfl, _⟩ | ⟨g2, cap2, cur2, rfl, _, hg2, _⟩
    · cases h
    · have e : g = g2 := by simpa [Value.ownBlock] using h
      subst e
      rw [hg] at hg2
      injection hg2 with hg2
      injection hg2 with _ h3 _
      exact hne h3
end Go.Proofs.YtmihinhbcncbfaaGreatDoor
/- The walks of timetableref01.Parse, timetableref04.number and one. -/
namespace Go.Proofs.YtmihinhbcncbfaaGreatDoor
open Go.RowKit
/-- The first loop's state. -/
def RIn (s : ByteArray) (s5 : Value) : Prop := ∃ k : Nat, s5 = .int .i64 k ∧ k ≤ s.size ∧ Hid (∀ j, j < k → Tk.isDig (s.data.toList.getD j 0) = true)
theorem RIn.step {s : ByteArray} {k : Nat} (hk : k < s.size) (h : Hid (∀ j, j < k → Tk.isDig (s.data.toList.getD j 0) = true)) {c : UInt8} (hc : Hid (s.data.toList.getD k 0 = c)) (hd : Hid (Tk.isDig c = true)) :
    RIn s (.int .i64 (k + 1 : Nat)) := by
  refine ⟨k + 1, rfl, hk, Lib.hid fun j hj => ?_⟩
  rcases Nat.lt_succ_iff_lt_or_eq.1 hj with h1 | rfl
  · exact h.out j h1
  · rw [hc.out]; exact hd.out
theorem getD_at (s : ByteArray) (k : Nat) (h : k < s.size) : s.data.toList.getD k 0 = s[k] := by
  rw [List.getD_eq_getElem?_getD, List.getElem?_eq_getElem (by simpa using h)]
  simp
  rfl

/-- The second loop's state: the number so far. -/
def RVal (s : ByteArray) (s4 s6 : Value) : Prop := ∃ k N : Nat, s6 = .int .i64 k ∧ s4 = .int .i64 N ∧ k ≤ s.size ∧ Hid (Tk.val 0 (s.data.toList.take k) = N) ∧ N ≤ 1099511627776
theorem val_take {s : ByteArray} {k N : Nat} {c : UInt8} (hk : k < s.size) (hN : Tk.val 0 (s.data.toList.take k) = N) (hc : s.data.toList.getD k 0 = c) : Tk.val 0 (s.data.toList.take (k + 1)) = N * 10 + (c.toNat - 48) := by
  have hl : k < s.data.toList.length := by simpa using hk
  rw [List.take_succ_eq_append_getElem hl, Tk.val_snoc, hN, ← hc, List.getD_eq_getElem?_getD, List.getElem?_eq_getElem hl]
  rfl
theorem RVal.step {s : ByteArray} {k N : Nat} {c : UInt8} (hk : k < s.size) (h : Hid (Tk.val 0 (s.data.toList.take (k + 1)) = N * 10 + (c.toNat - 48))) (hc : 48 ≤ c.toNat) (hm : 10 * (N : Int) + ((c.toNat : Int) - 48) ≤ 1099511627776) :
    RVal s (.int .i64 (10 * (N : Int) + ((c.toNat : Int) - 48))) (.int .i64 ((k : Int) + 1)) :=
  ⟨k + 1, N * 10 + (c.toNat - 48), rfl, by congr 1; omega, hk, h, by omega⟩
theorem val_all_ge (l : List UInt8) (k : Nat) : Tk.val 0 (l.take k) ≤ Tk.val 0 l := by
  have : Tk.val 0 l = Tk.val (Tk.val 0 (l.take k)) (l.drop k) := by
    unfold Tk.val
    rw [← List.foldl_append, List.take_append_drop]
  rw [this]
  exact Tk.val_ge _ _

set_option maxHeartbeats 1000000 in
theorem rparse_any (s : ByteArray) (w : World) (hs : s.size ≤ 1099511627776) :
    Calls Tryz.prog 127 #[.string s] w fun e w' => e = .returned (.tuple #[.int .i64 (Tk.parseV s.data.toList), .int .i64 (Tk.parseE s.data.toList)]) ∧ w = w' := by
  have hlen : s.data.toList.length = s.size := by simp
  by_cases h1 : s.data.toList = Tk.infB
  · have h1' : (s.toList == [105, 110, 102]) = true := by rw [ByteArray.toList_eq, h1]; rfl
    have hE : Tk.parseE s.data.toList = 0 := by unfold Tk.parseE; rw [if_pos h1]
    have hV : Tk.parseV s.data.toList = 4611686018427387904 := by unfold Tk.parseV; rw [if_pos h1]
    rw [hE, hV]
    clear hlen hE hV h1
    go_enter Tryz.func127, Tryz.ntmps127
    go_wp2_with fail
    go_ret2
    exact ⟨rfl, rfl⟩
  · have h1' : (s.toList == [105, 110, 102]) = false := by rw [ByteArray.toList_eq]; exact beq_eq_false_iff_ne.2 h1
    by_cases hb : s.data.toList = []
    · have hE : Tk.parseE s.data.toList = 7 := by unfold Tk.parseE; rw [if_neg h1, if_pos (by rw [hb]; rfl)]
      have hV : Tk.parseV s.data.toList = 0 := by unfold Tk.parseV; rw [if_neg h1, hE, if_neg (by decide)]
      rw [hE, hV]
      have hb' : s = ByteArray.empty := by apply ByteArray.ext; simpa using hb
      subst hb'
      clear hlen hE hV hb h1
      go_enter Tryz.func127, Tryz.ntmps127
      go_wp2_with fail
      go_ret2
      exact ⟨rfl, rfl⟩
    have h0 : 0 < s.size := by rw [← hlen]; exact List.length_pos_iff.2 hb
    have hb1 : ¬ s = ByteArray.empty := fun e => by rw [e] at h0; exact absurd h0 (by decide)
    have hb2 : ((s.size : Int) == 0) = false := beq_eq_false_iff_ne.2 (by omega)
    by_cases hz1 : (s.size : Int) ≤ 1
    · have hbad : Tk.badNum s.data.toList = !s.data.toList.all Tk.isDig := by
        unfold Tk.badNum
        rw [List.isEmpty_eq_false_iff.2 hb, decide_eq_false (by rw [hlen]; omega), Bool.false_and, Bool.false_or, Bool.false_or]
      go_enter Tryz.func127, Tryz.ntmps127
      go_wp2_with fail
      go_loopw [5] (fun s5 wr => RIn s s5 ∧ wr = w) (fun s5 _ => s.size - (intOf s5).toNat)
      case atStart => exact ⟨⟨0, rfl, Nat.zero_le _, Lib.hid fun j hj => absurd hj (Nat.not_lt_zero _)⟩, rfl⟩
      case round =>
        obtain ⟨⟨k, rfl, hk, hdig⟩, rfl⟩ := hrel
        by_cases hlt : k < s.size
        · have hat := Lib.hid (getD_at s k hlt)
          by_cases hd : Tk.isDig s[k] = true
          · have Hd := Lib.hid hd
            have hd1 : (48 : Int) ≤ (s[k].toNat : Int) := by have := (Tk.isDig_iff.1 hd).1; omega
            have hd2 : (s[k].toNat : Int) ≤ 57 := by have := (Tk.isDig_iff.1 hd).2; omega
            clear hd
            go_wp2_with fail
            exact ⟨⟨RIn.step hlt hdig hat Hd, trivial⟩, by simp only [intOf]; omega⟩
          · have hE : Tk.parseE s.data.toList = 7 := by
              unfold Tk.parseE; rw [if_neg h1, if_pos (by rw [hbad, not_digs (by rw [hlen]; exact hlt) (by rw [hat.out]; exact hd)]; rfl)]
            have hV : Tk.parseV s.data.toList = 0 := by unfold Tk.parseV; rw [if_neg h1, hE, if_neg (by decide)]
            have HE := Lib.hid hE
            have HV := Lib.hid hV
            clear hE hV hbad
            by_cases hd1 : (48 : Int) ≤ (s[k].toNat : Int)
            · have hd2 : (57 : Int) < (s[k].toNat : Int) := by
                have : ¬ (48 ≤ s[k].toNat ∧ s[k].toNat ≤ 57) := fun h => hd (Tk.isDig_iff.2 h)
                omega
              clear hd
              go_wp2_with fail
              go_ret2
              exact ⟨by rw [HE.out, HV.out]; rfl, rfl⟩
            · have hd2 : (s[k].toNat : Int) < 48 := by omega
              clear hd hd1
              go_wp2_with fail
              go_ret2
              exact ⟨by rw [HE.out, HV.out]; rfl, rfl⟩
        · have hks : k = s.size := by omega
          subst hks
          have hall : s.data.toList.all Tk.isDig = true := all_digs fun j hj => hdig.out j (by rw [hlen] at hj; omega)
          have Hall := Lib.hid hall
          rw [hall] at hbad
          have Hbad := Lib.hid hbad
          clear hall hbad hdig hlt hk
          go_wp2_with fail
          go_loopw [4, 6] (fun s4 s6 wx => RVal s s4 s6 ∧ wx = wr) (fun _ s6 _ => s.size - (intOf s6).toNat)
          case atStart => exact ⟨⟨0, _, rfl, rfl, Nat.zero_le _, Lib.hid rfl, by decide⟩, rfl⟩
          case round =>
            obtain ⟨⟨k, N, rfl, rfl, hk, hN, hle⟩, rfl⟩ := hrel
            by_cases hlt : k < s.size
            · have hat := Lib.hid (getD_at s k hlt)
              have hdg := Tk.isDig_iff.1 (show Tk.isDig s[k] = true by rw [← hat.out]; exact List.all_eq_true.1 Hall.out _ (getD_in (by rw [hlen]; exact hlt)))
              have HN := Lib.hid (val_take hlt hN.out hat.out)
              obtain ⟨hd1, hd2⟩ := hdg
              by_cases hm : 10 * (N : Int) + ((s[k].toNat : Int) - 48) ≤ 1099511627776
              · have HR := Lib.hid (RVal.step hlt HN hd1 (by omega))
                go_wp2_with fail
                exact ⟨⟨HR.out, trivial⟩, by simp only [intOf]; omega⟩
              · have hE : Tk.parseE s.data.toList = 9 := by
                  have := val_all_ge s.data.toList (k + 1)
                  rw [HN.out] at this
                  unfold Tk.parseE; rw [if_neg h1, if_neg (by rw [Hbad.out]; decide), if_neg (by omega)]
                have hV : Tk.parseV s.data.toList = 0 := by unfold Tk.parseV; rw [if_neg h1, hE, if_neg (by decide)]
                have HE := Lib.hid hE
                have HV := Lib.hid hV
                clear hE hV
                have hm : 1099511627776 < 10 * (N : Int) + ((s[k].toNat : Int) - 48) := by omega
                go_wp2_with fail
                go_ret2
                exact ⟨by rw [HE.out, HV.out]; rfl, rfl⟩
            · have hN' : Tk.val 0 s.data.toList = N := by
                have := hN.out
                rwa [List.take_of_length_le (by rw [hlen]; omega)] at this
              have hE : Tk.parseE s.data.toList = 0 := by
                unfold Tk.parseE; rw [if_neg h1, if_neg (by rw [Hbad.out]; decide), if_pos (by omega)]
              have hV : Tk.parseV s.data.toList = N := by unfold Tk.parseV; rw [if_neg h1, if_pos hE, hN']
              have HE := Lib.hid hE
              have HV := Lib.hid hV
              clear hE hV hN'
              go_wp2_with fail
              go_ret2
              exact ⟨by rw [HE.out, HV.out]; rfl, rfl⟩
    · have hz1 : 1 < (s.size : Int) := by omega
      have hhd : s.data.toList.head? = some s[0] := by
        rw [List.head?_eq_getElem?]; simp [h0]; rfl
      by_cases hz : (((s[0]).toNat : Int) == 48) = true
      · have hE : Tk.parseE s.data.toList = 7 := by
          have : s[0] = 48 := by
            have := beq_iff_eq.1 hz
            apply UInt8.toNat_inj.1
            simp; omega
          unfold Tk.parseE; rw [if_neg h1, if_pos (by unfold Tk.badNum; rw [hhd, decide_eq_true (by rw [hlen]; omega), this]; simp)]
        have hV : Tk.parseV s.data.toList = 0 := by unfold Tk.parseV; rw [if_neg h1, hE, if_neg (by decide)]
        rw [hE, hV]
        clear hlen hE hV hb h1 hhd
        go_enter Tryz.func127, Tryz.ntmps127
        go_wp2_with fail
        go_ret2
        exact ⟨rfl, rfl⟩
      · have hz : (((s[0]).toNat : Int) == 48) = false := by simpa using hz
        have hbad : Tk.badNum s.data.toList = !s.data.toList.all Tk.isDig := by
          have : (s.data.toList.head? == some 48) = false := by
            rw [hhd]
            refine beq_eq_false_iff_ne.2 fun e => ?_
            injection e with e
            rw [e] at hz
            exact absurd hz (by decide)
          unfold Tk.badNum
          rw [List.isEmpty_eq_false_iff.2 hb, this, Bool.and_false, Bool.false_or, Bool.false_or]
        clear hhd
        go_enter Tryz.func127, Tryz.ntmps127
        go_wp2_with fail
        go_loopw [5] (fun s5 wr => RIn s s5 ∧ wr = w) (fun s5 _ => s.size - (intOf s5).toNat)
        case atStart => exact ⟨⟨0, rfl, Nat.zero_le _, Lib.hid fun j hj => absurd hj (Nat.not_lt_zero _)⟩, rfl⟩
        case round =>
          obtain ⟨⟨k, rfl, hk, hdig⟩, rfl⟩ := hrel
          by_cases hlt : k < s.size
          · have hat := Lib.hid (getD_at s k hlt)
            by_cases hd : Tk.isDig s[k] = true
            · have Hd := Lib.hid hd
              have hd1 : (48 : Int) ≤ (s[k].toNat : Int) := by have := (Tk.isDig_iff.1 hd).1; omega
              have hd2 : (s[k].toNat : Int) ≤ 57 := by have := (Tk.isDig_iff.1 hd).2; omega
              clear hd
              go_wp2_with fail
              exact ⟨⟨RIn.step hlt hdig hat Hd, trivial⟩, by simp only [intOf]; omega⟩
            · have hE : Tk.parseE s.data.toList = 7 := by
                unfold Tk.parseE; rw [if_neg h1, if_pos (by rw [hbad, not_digs (by rw [hlen]; exact hlt) (by rw [hat.out]; exact hd)]; rfl)]
              have hV : Tk.parseV s.data.toList = 0 := by unfold Tk.parseV; rw [if_neg h1, hE, if_neg (by decide)]
              have HE := Lib.hid hE
              have HV := Lib.hid hV
              clear hE hV hbad
              by_cases hd1 : (48 : Int) ≤ (s[k].toNat : Int)
              · have hd2 : (57 : Int) < (s[k].toNat : Int) := by
                  have : ¬ (48 ≤ s[k].toNat ∧ s[k].toNat ≤ 57) := fun h => hd (Tk.isDig_iff.2 h)
                  omega
                clear hd
                go_wp2_with fail
                go_ret2
                exact ⟨by rw [HE.out, HV.out]; rfl, rfl⟩
              · have hd2 : (s[k].toNat : Int) < 48 := by omega
                clear hd hd1
                go_wp2_with fail
                go_ret2
                exact ⟨by rw [HE.out, HV.out]; rfl, rfl⟩
          · have hks : k = s.size := by omega
            subst hks
            have hall : s.data.toList.all Tk.isDig = true := all_digs fun j hj => hdig.out j (by rw [hlen] at hj; omega)
            have Hall := Lib.hid hall
            rw [hall] at hbad
            have Hbad := Lib.hid hbad
            clear hall hbad hdig hlt hk
            go_wp2_with fail
            go_loopw [4, 6] (fun s4 s6 wx => RVal s s4 s6 ∧ wx = wr) (fun _ s6 _ => s.size - (intOf s6).toNat)
            case atStart => exact ⟨⟨0, _, rfl, rfl, Nat.zero_le _, Lib.hid rfl, by decide⟩, rfl⟩
            case round =>
              obtain ⟨⟨k, N, rfl, rfl, hk, hN, hle⟩, rfl⟩ := hrel
              by_cases hlt : k < s.size
              · have hat := Lib.hid (getD_at s k hlt)
                have hdg := Tk.isDig_iff.1 (show Tk.isDig s[k] = true by rw [← hat.out]; exact List.all_eq_true.1 Hall.out _ (getD_in (by rw [hlen]; exact hlt)))
                have HN := Lib.hid (val_take hlt hN.out hat.out)
                obtain ⟨hd1, hd2⟩ := hdg
                by_cases hm : 10 * (N : Int) + ((s[k].toNat : Int) - 48) ≤ 1099511627776
                · have HR := Lib.hid (RVal.step hlt HN hd1 (by omega))
                  go_wp2_with fail
                  exact ⟨⟨HR.out, trivial⟩, by simp only [intOf]; omega⟩
                · have hE : Tk.parseE s.data.toList = 9 := by
                    have := val_all_ge s.data.toList (k + 1)
                    rw [HN.out] at this
                    unfold Tk.parseE; rw [if_neg h1, if_neg (by rw [Hbad.out]; decide), if_neg (by omega)]
                  have hV : Tk.parseV s.data.toList = 0 := by unfold Tk.parseV; rw [if_neg h1, hE, if_neg (by decide)]
                  have HE := Lib.hid hE
                  have HV := Lib.hid hV
                  clear hE hV
                  have hm : 1099511627776 < 10 * (N : Int) + ((s[k].toNat : Int) - 48) := by omega
                  go_wp2_with fail
                  go_ret2
                  exact ⟨by rw [HE.out, HV.out]; rfl, rfl⟩
              · have hN' : Tk.val 0 s.data.toList = N := by
                  have := hN.out
                  rwa [List.take_of_length_le (by rw [hlen]; omega)] at this
                have hE : Tk.parseE s.data.toList = 0 := by
                  unfold Tk.parseE; rw [if_neg h1, if_neg (by rw [Hbad.out]; decide), if_pos (by omega)]
                have hV : Tk.parseV s.data.toList = N := by unfold Tk.parseV; rw [if_neg h1, if_pos hE, hN']
                have HE := Lib.hid hE
                have HV := Lib.hid hV
                clear hE hV hN'
                go_wp2_with fail
                go_ret2
                exact ⟨by rw [HE.out, HV.out]; rfl, rfl⟩
def zeroT : TokD := ⟨0, [], 0, 0, 0⟩
theorem results_cttt {P : Program} {fn : Func} {p q r s : Tmp} {ty : TypeId} (h : fn.results = #[.cell p ty, .tmp q, .tmp r, .tmp s]) (tmps : Array Value) (w : World) (g : Nat) (t : TypeId) (cs : Array Value) (fr : Nat × Nat) (d : TypeDesc)
    (hp : tmps.getD p undef = .pointer (some ⟨g, 0, none⟩)) (hg : w.heap[g]? = some (.cells cs t fr))
    (hu : P.underlying ty = some d) (hd : (match d with | .struct _ | .array _ _ => true | _ => false) = true) (hi : (P.info? ty).map (·.size) = some cs.size) :
    (results fn tmps).run P w = .ok (.tuple #[.agg cs, tmps.getD q undef, tmps.getD r undef, tmps.getD s undef]) w := by
  have hp' : tmps[p]?.getD undef = .pointer (some ⟨g, 0, none⟩) := by simpa using hp
  simp [results, h, hp', asAddr, run_loadVar_row w g t ty cs fr d hg hu hd hi]
/-- What number tells: the token, how many bytes, the error, how far behind. -/
def refNum (L : List UInt8) : TokD × Nat × Int × Nat :=
  if Nm.pre Nm.dig L < L.length ∧ Nm.more (L.getD (Nm.pre Nm.dig L) 0) = true then
    if 1 < Nm.pre Nm.dig L ∧ L.headD 0 = 48 then (zeroT, 0, 7, 0)
    else if Tk.parseE (L.take (Nm.pre Nm.dig L)) ≠ 0 then (zeroT, 0, 3, 0) else (zeroT, 0, 7, Nm.pre Nm.dig L)
  else if Tk.parseE (L.take (Nm.pre Nm.dig L)) = 7 then (zeroT, 0, 7, 0)
  else if Tk.parseE (L.take (Nm.pre Nm.dig L)) ≠ 0 then (zeroT, 0, 3, 0)
  else (⟨3, L.take (Nm.pre Nm.dig L), Tk.parseV (L.take (Nm.pre Nm.dig L)), 0, 0⟩, Nm.pre Nm.dig L, 0, 0)
theorem ba_cut0 (s : ByteArray) (n : Nat) : s.extract 0 n = ba (s.data.toList.take n) := by
  apply ByteArray.ext
  apply Array.ext'
  rw [ByteArray.data_extract]
  simp [ba]
set_option maxHeartbeats 4000000 in
set_option maxRecDepth 100000 in
theorem ynumber_any (s : ByteArray) (w : World) (hs : s.size ≤ 65536) (hp : 0 < s.size) :
    Calls Tryz.prog 113 #[.string s] w fun e w' => e = .returned (.tuple #[.agg (tkc (refNum s.data.toList).1).toArray, .int .i64 ((refNum s.data.toList).2.1 : Nat), .int .i64 (refNum s.data.toList).2.2.1, .int .i64 ((refNum s.data.toList).2.2.2 : Nat)]) ∧ Below w.heap.size w w' := by
  have hlen := Nm.len_size s
  have HHD := Lib.hid (Nm.head_at s hp)
  go_enter Tryz.func113, Tryz.ntmps113
  go_wp2_with fail
  go_loopg [6] s.size (fun gg i wr => ∃ k : Nat, k ≤ s.size ∧ s.size - k ≤ gg ∧ i = .int .i64 k ∧ w.alloc (.cells #[.int .i64 0, .string ⟨#[]⟩, .int .i64 0, .int .i64 0, .int .i64 0] 95) = wr ∧ Hid (∀ j (hj : j < s.size), j < k → Nm.dig s[j] = true))
  case atStart => exact ⟨0, Nat.zero_le _, by omega, rfl, rfl, Lib.hid fun j _ h => absurd h (Nat.not_lt_zero _)⟩
  case round =>
    obtain ⟨k, hk, hgk, rfl, rfl, hall⟩ := hrel
    have hex := ba_cut0 s k
    by_cases hlt : k < s.size
    · have q2 : (k : Int) < (s.size : Int) := by omega
      cases hm : Nm.dig s[k]
      · have hpk := Nm.pre_stop Nm.dig s.data.toList k (by omega) (fun j hj => by rw [Nm.byte_at s (by omega)]; exact hall.out j (by omega) hj) (by rw [Nm.byte_at s hlt]; exact hm)
        have HPK := Lib.hid hpk
        have hgd : s.data.toList.getD k 0 = s[k] := by rw [List.getD_eq_getElem?_getD, List.getElem?_eq_getElem (by omega)]; rfl
        have HGD := Lib.hid hgd
        cases hmo : Nm.more s[k]
        · have HNC := Lib.hid (show ¬ (k < s.data.toList.length ∧ Nm.more (s.data.toList.getD k 0) = true) by
            rw [hgd, hmo]; exact fun h => by cases h.2)
          clear hpk hgd
          go_upto_region 11 with (first | (go_at_call 91; refine (ydigit_any _ _).mono ?_; rintro e w' ⟨rfl, rfl⟩) | (go_at_call 112; refine (ymore_any _ _).mono ?_; rintro e w' ⟨rfl, rfl⟩))
          have hpl : (ba (s.data.toList.take k)).size ≤ 1099511627776 := by rw [ba_size, List.length_take]; omega
          have hrp := fun W : World => rparse_any (ba (s.data.toList.take k)) W hpl
          rw [ba_list] at hrp
          obtain ⟨T, hT⟩ : ∃ T, s.data.toList.take k = T := ⟨_, rfl⟩
          obtain ⟨e, he⟩ : ∃ e, Tk.parseE T = e := ⟨_, rfl⟩
          obtain ⟨v, hv⟩ : ∃ v, Tk.parseV T = v := ⟨_, rfl⟩
          rw [hT] at hrp hex
          rw [he, hv] at hrp
          have HRP := Lib.hid hrp
          have HRN := Lib.hid (show refNum s.data.toList = if e = 7 then (zeroT, 0, 7, 0) else if e ≠ 0 then (zeroT, 0, 3, 0) else (⟨3, T, v, 0, 0⟩, k, 0, 0) by
            unfold refNum
            rw [HPK.out, if_neg HNC.out, hT, he, hv])
          clear hrp hT he hv hpl
          by_cases h7 : e = 7
          · have e1 : (e == 7) = true := beq_iff_eq.2 h7
            have HX := Lib.hid (show refNum s.data.toList = (zeroT, 0, 7, 0) by rw [HRN.out, if_pos h7])
            clear h7
            go_wp2_with fail
            refine (HRP.out _).mono ?_
            rintro e' w' ⟨rfl, rfl⟩
            go_wp2_with fail
            refine bodyPost_ret (results_cttt rfl _ _ w.heap.size _ _ (0, 0) _ rfl (heap_alloc_new _ _) Tryz.underlying95 rfl (by kernel_rfl)) rfl ⟨?_, (Below.refl _ _).alloc (Nat.le_refl _) _⟩
            rw [HX.out]; rfl
          · have e1 : (e == 7) = false := beq_eq_false_iff_ne.2 h7
            by_cases h0 : e = 0
            · have e2 : (e == 0) = true := beq_iff_eq.2 h0
              have e3 : (e != 0) = false := by rw [bne, e2]; rfl
              have HX := Lib.hid (show refNum s.data.toList = (⟨3, T, v, 0, 0⟩, k, 0, 0) by rw [HRN.out, if_neg h7, if_neg (fun h => h h0)])
              clear h7 h0
              go_wp2_with fail
              refine (HRP.out _).mono ?_
              rintro e' w' ⟨rfl, rfl⟩
              go_wp2_with fail
              refine bodyPost_ret (results_cttt rfl _ _ w.heap.size _ _ (0, 0) _ rfl (heap_alloc_new _ _) Tryz.underlying95 rfl (by kernel_rfl)) rfl ⟨?_, (Below.refl _ _).alloc (Nat.le_refl _) _⟩
              rw [HX.out]; rfl
            · have e2 : (e == 0) = false := beq_eq_false_iff_ne.2 h0
              have e3 : (e != 0) = true := by rw [bne, e2]; rfl
              have HX := Lib.hid (show refNum s.data.toList = (zeroT, 0, 3, 0) by rw [HRN.out, if_neg h7, if_pos h0])
              clear h7 h0
              go_wp2_with fail
              refine (HRP.out _).mono ?_
              rintro e' w' ⟨rfl, rfl⟩
              go_wp2_with fail
              refine bodyPost_ret (results_cttt rfl _ _ w.heap.size _ _ (0, 0) _ rfl (heap_alloc_new _ _) Tryz.underlying95 rfl (by kernel_rfl)) rfl ⟨?_, (Below.refl _ _).alloc (Nat.le_refl _) _⟩
              rw [HX.out]; rfl
        · have HC := Lib.hid (show k < s.data.toList.length ∧ Nm.more (s.data.toList.getD k 0) = true by rw [hgd]; exact ⟨by omega, hmo⟩)
          clear hpk hgd
          by_cases h1 : 1 < k ∧ s[0] = 48
          · have HX := Lib.hid (show refNum s.data.toList = (zeroT, 0, 7, 0) by
              unfold refNum; rw [HPK.out, if_pos HC.out, HHD.out, if_pos h1])
            have q3 : (1 : Int) < (k : Int) := by omega
            have q4 : ((s[0].toNat : Int) == 48) = true := by rw [h1.2]; rfl
            clear h1
            go_wp2_with (first | (go_at_call 91; refine (ydigit_any _ _).mono ?_; rintro e w' ⟨rfl, rfl⟩) | (go_at_call 112; refine (ymore_any _ _).mono ?_; rintro e w' ⟨rfl, rfl⟩))
            refine bodyPost_ret (results_cttt rfl _ _ w.heap.size _ _ (0, 0) _ rfl (heap_alloc_new _ _) Tryz.underlying95 rfl (by kernel_rfl)) rfl ⟨?_, (Below.refl _ _).alloc (Nat.le_refl _) _⟩
            rw [HX.out]; rfl
          · have hpl : (ba (s.data.toList.take k)).size ≤ 1099511627776 := by rw [ba_size, List.length_take]; omega
            have hrp := fun W : World => rparse_any (ba (s.data.toList.take k)) W hpl
            rw [ba_list] at hrp
            obtain ⟨T, hT⟩ : ∃ T, s.data.toList.take k = T := ⟨_, rfl⟩
            obtain ⟨e, he⟩ : ∃ e, Tk.parseE T = e := ⟨_, rfl⟩
            rw [hT] at hrp hex
            rw [he] at hrp
            have HRP := Lib.hid hrp
            have HRN := Lib.hid (show refNum s.data.toList = if e ≠ 0 then (zeroT, 0, 3, 0) else (zeroT, 0, 7, k) by
              unfold refNum; rw [HPK.out, if_pos HC.out, HHD.out, if_neg h1, hT, he])
            have q4 : (decide ((1 : Int) < (k : Int)) && ((s[0].toNat : Int) == 48)) = false := by
              rw [Bool.eq_false_iff]
              intro h
              rw [Bool.and_eq_true, decide_eq_true_eq, beq_iff_eq] at h
              exact h1 ⟨by omega, UInt8.toNat_inj.1 (by show s[0].toNat = 48; omega)⟩
            clear hrp hT he hpl h1
            by_cases h0 : e = 0
            · have e2 : (e == 0) = true := beq_iff_eq.2 h0
              have e3 : (e != 0) = false := by rw [bne, e2]; rfl
              have HX := Lib.hid (show refNum s.data.toList = (zeroT, 0, 7, k) by rw [HRN.out, if_neg (fun h => h h0)])
              clear h0
              by_cases h2 : (1 : Int) < (k : Int)
              · have q5 : ((s[0].toNat : Int) == 48) = false := by rw [decide_eq_true h2, Bool.true_and] at q4; exact q4
                clear q4
                go_wp2_with (first | (go_at_call 91; refine (ydigit_any _ _).mono ?_; rintro e w' ⟨rfl, rfl⟩) | (go_at_call 112; refine (ymore_any _ _).mono ?_; rintro e w' ⟨rfl, rfl⟩))
                refine (HRP.out _).mono ?_
                rintro e' w' ⟨rfl, rfl⟩
                go_wp2_with fail
                refine bodyPost_ret (results_cttt rfl _ _ w.heap.size _ _ (0, 0) _ rfl (heap_alloc_new _ _) Tryz.underlying95 rfl (by kernel_rfl)) rfl ⟨?_, (Below.refl _ _).alloc (Nat.le_refl _) _⟩
                rw [HX.out]; rfl
              · clear q4
                go_wp2_with (first | (go_at_call 91; refine (ydigit_any _ _).mono ?_; rintro e w' ⟨rfl, rfl⟩) | (go_at_call 112; refine (ymore_any _ _).mono ?_; rintro e w' ⟨rfl, rfl⟩))
                refine (HRP.out _).mono ?_
                rintro e' w' ⟨rfl, rfl⟩
                go_wp2_with fail
                refine bodyPost_ret (results_cttt rfl _ _ w.heap.size _ _ (0, 0) _ rfl (heap_alloc_new _ _) Tryz.underlying95 rfl (by kernel_rfl)) rfl ⟨?_, (Below.refl _ _).alloc (Nat.le_refl _) _⟩
                rw [HX.out]; rfl
            · have e2 : (e == 0) = false := beq_eq_false_iff_ne.2 h0
              have e3 : (e != 0) = true := by rw [bne, e2]; rfl
              have HX := Lib.hid (show refNum s.data.toList = (zeroT, 0, 3, 0) by rw [HRN.out, if_pos h0])
              clear h0
              by_cases h2 : (1 : Int) < (k : Int)
              · have q5 : ((s[0].toNat : Int) == 48) = false := by rw [decide_eq_true h2, Bool.true_and] at q4; exact q4
                clear q4
                go_wp2_with (first | (go_at_call 91; refine (ydigit_any _ _).mono ?_; rintro e w' ⟨rfl, rfl⟩) | (go_at_call 112; refine (ymore_any _ _).mono ?_; rintro e w' ⟨rfl, rfl⟩))
                refine (HRP.out _).mono ?_
                rintro e' w' ⟨rfl, rfl⟩
                go_wp2_with fail
                refine bodyPost_ret (results_cttt rfl _ _ w.heap.size _ _ (0, 0) _ rfl (heap_alloc_new _ _) Tryz.underlying95 rfl (by kernel_rfl)) rfl ⟨?_, (Below.refl _ _).alloc (Nat.le_refl _) _⟩
                rw [HX.out]; rfl
              · clear q4
                go_wp2_with (first | (go_at_call 91; refine (ydigit_any _ _).mono ?_; rintro e w' ⟨rfl, rfl⟩) | (go_at_call 112; refine (ymore_any _ _).mono ?_; rintro e w' ⟨rfl, rfl⟩))
                refine (HRP.out _).mono ?_
                rintro e' w' ⟨rfl, rfl⟩
                go_wp2_with fail
                refine bodyPost_ret (results_cttt rfl _ _ w.heap.size _ _ (0, 0) _ rfl (heap_alloc_new _ _) Tryz.underlying95 rfl (by kernel_rfl)) rfl ⟨?_, (Below.refl _ _).alloc (Nat.le_refl _) _⟩
                rw [HX.out]; rfl
      · go_wp2_with (go_at_call 91; refine (ydigit_any _ _).mono ?_; rintro e w' ⟨rfl, rfl⟩)
        go_roundg (s.size - (k + 1))
        case measure => omega
        case rel =>
          refine ⟨k + 1, by omega, by omega, by go_num, rfl, Lib.hid fun j hj h => ?_⟩
          rcases Nat.lt_or_eq_of_le (Nat.le_of_lt_succ h) with h | rfl
          · exact hall.out j hj h
          · exact hm
    · have q2 : ¬ (k : Int) < (s.size : Int) := by omega
      have hks : k = s.size := by omega
      have hpk : Nm.pre Nm.dig s.data.toList = k := by
        rw [Nm.pre_end Nm.dig s.data.toList fun j hj => by rw [Nm.byte_at s (by omega)]; exact hall.out j (by omega) (by omega)]
        omega
      have HPK := Lib.hid hpk
      have HNC := Lib.hid (show ¬ (k < s.data.toList.length ∧ Nm.more (s.data.toList.getD k 0) = true) from fun h => by omega)
      clear hpk hks
      go_upto_region 11 with fail
      have hpl : (ba (s.data.toList.take k)).size ≤ 1099511627776 := by rw [ba_size, List.length_take]; omega
      have hrp := fun W : World => rparse_any (ba (s.data.toList.take k)) W hpl
      rw [ba_list] at hrp
      obtain ⟨T, hT⟩ : ∃ T, s.data.toList.take k = T := ⟨_, rfl⟩
      obtain ⟨e, he⟩ : ∃ e, Tk.parseE T = e := ⟨_, rfl⟩
      obtain ⟨v, hv⟩ : ∃ v, Tk.parseV T = v := ⟨_, rfl⟩
      rw [hT] at hrp hex
      rw [he, hv] at hrp
      have HRP := Lib.hid hrp
      have HRN := Lib.hid (show refNum s.data.toList = if e = 7 then (zeroT, 0, 7, 0) else if e ≠ 0 then (zeroT, 0, 3, 0) else (⟨3, T, v, 0, 0⟩, k, 0, 0) by
        unfold refNum
        rw [HPK.out, if_neg HNC.out, hT, he, hv])
      clear hrp hT he hv hpl
      by_cases h7 : e = 7
      · have e1 : (e == 7) = true := beq_iff_eq.2 h7
        have HX := Lib.hid (show refNum s.data.toList = (zeroT, 0, 7, 0) by rw [HRN.out, if_pos h7])
        clear h7
        go_wp2_with fail
        refine (HRP.out _).mono ?_
        rintro e' w' ⟨rfl, rfl⟩
        go_wp2_with fail
        refine bodyPost_ret (results_cttt rfl _ _ w.heap.size _ _ (0, 0) _ rfl (heap_alloc_new _ _) Tryz.underlying95 rfl (by kernel_rfl)) rfl ⟨?_, (Below.refl _ _).alloc (Nat.le_refl _) _⟩
        rw [HX.out]; rfl
      · have e1 : (e == 7) = false := beq_eq_false_iff_ne.2 h7
        by_cases h0 : e = 0
        · have e2 : (e == 0) = true := beq_iff_eq.2 h0
          have e3 : (e != 0) = false := by rw [bne, e2]; rfl
          have HX := Lib.hid (show refNum s.data.toList = (⟨3, T, v, 0, 0⟩, k, 0, 0) by rw [HRN.out, if_neg h7, if_neg (fun h => h h0)])
          clear h7 h0
          go_wp2_with fail
          refine (HRP.out _).mono ?_
          rintro e' w' ⟨rfl, rfl⟩
          go_wp2_with fail
          refine bodyPost_ret (results_cttt rfl _ _ w.heap.size _ _ (0, 0) _ rfl (heap_alloc_new _ _) Tryz.underlying95 rfl (by kernel_rfl)) rfl ⟨?_, (Below.refl _ _).alloc (Nat.le_refl _) _⟩
          rw [HX.out]; rfl
        · have e2 : (e == 0) = false := beq_eq_false_iff_ne.2 h0
          have e3 : (e != 0) = true := by rw [bne, e2]; rfl
          have HX := Lib.hid (show refNum s.data.toList = (zeroT, 0, 3, 0) by rw [HRN.out, if_neg h7, if_pos h0])
          clear h7 h0
          go_wp2_with fail
          refine (HRP.out _).mono ?_
          rintro e' w' ⟨rfl, rfl⟩
          go_wp2_with fail
          refine bodyPost_ret (results_cttt rfl _ _ w.heap.size _ _ (0, 0) _ rfl (heap_alloc_new _ _) Tryz.underlying95 rfl (by kernel_rfl)) rfl ⟨?_, (Below.refl _ _).alloc (Nat.le_refl _) _⟩
          rw [HX.out]; rfl
/-- What one tells. -/
def refOne (L : List UInt8) : TokD × Nat × Int × Nat :=
  if Nm.dig (L.headD 0) = true then refNum L
  else if 24 < Nm.pre Nm.more L then (zeroT, 0, 3, 0)
  else (⟨if Nm.res (L.take (Nm.pre Nm.more L)) = true then 2 else 1, L.take (Nm.pre Nm.more L), 0, 0, 0⟩, Nm.pre Nm.more L, 0, 0)
/-- Five cells of a block written. -/
theorem set5 {w w0 : World} {h B : Nat} {x0 x1 x2 x3 x4 : Value} {t : TypeId} (v0 v1 v2 v3 v4 : Value) (hf : w.heap[h]? = some (.cells #[x0, x1, x2, x3, x4] t (0, 0))) (hb : Below B w0 w) (hB : B ≤ h) :
    (((((w.setCell ⟨h, 0, none⟩ v0).setCell ⟨h, 1, none⟩ v1).setCell ⟨h, 2, none⟩ v2).setCell ⟨h, 3, none⟩ v3).setCell ⟨h, 4, none⟩ v4).heap[h]? = some (.cells #[v0, v1, v2, v3, v4] t (0, 0)) ∧ (∀ c, c ≠ h → (((((w.setCell ⟨h, 0, none⟩ v0).setCell ⟨h, 1, none⟩ v1).setCell ⟨h, 2, none⟩ v2).setCell ⟨h, 3, none⟩ v3).setCell ⟨h, 4, none⟩ v4).heap[c]? = w.heap[c]?) ∧ Below B w0 (((((w.setCell ⟨h, 0, none⟩ v0).setCell ⟨h, 1, none⟩ v1).setCell ⟨h, 2, none⟩ v2).setCell ⟨h, 3, none⟩ v3).setCell ⟨h, 4, none⟩ v4) := by
  have c0 := heap_setCell_same _ h 0 _ _ v0 hf
  simp only [List.setIfInBounds_toArray, List.set_cons_zero] at c0
  have c1 := heap_setCell_same _ h 1 _ _ v1 c0
  simp only [List.setIfInBounds_toArray, List.set_cons_zero, List.set_cons_succ] at c1
  have c2 := heap_setCell_same _ h 2 _ _ v2 c1
  simp only [List.setIfInBounds_toArray, List.set_cons_zero, List.set_cons_succ] at c2
  have c3 := heap_setCell_same _ h 3 _ _ v3 c2
  simp only [List.setIfInBounds_toArray, List.set_cons_zero, List.set_cons_succ] at c3
  have c4 := heap_setCell_same _ h 4 _ _ v4 c3
  simp only [List.setIfInBounds_toArray, List.set_cons_zero, List.set_cons_succ] at c4
  exact ⟨c4, fun c hc => by repeat rw [Below.heap_setCell _ _ _ _ (by show c ≠ h; exact hc)], (((((hb.setCell (p := ⟨h, 0, none⟩) hB v0).setCell (p := ⟨h, 1, none⟩) hB v1).setCell (p := ⟨h, 2, none⟩) hB v2).setCell (p := ⟨h, 3, none⟩) hB v3).setCell (p := ⟨h, 4, none⟩) hB v4)⟩
set_option maxHeartbeats 4000000 in
set_option maxRecDepth 100000 in
theorem yone_any (s : ByteArray) (w : World) (hs : s.size ≤ 65536) (hp : 0 < s.size) :
    Calls Tryz.prog 92 #[.string s] w fun e w' => e = .returned (.tuple #[.agg (tkc (refOne s.data.toList).1).toArray, .int .i64 ((refOne s.data.toList).2.1 : Nat), .int .i64 (refOne s.data.toList).2.2.1, .int .i64 ((refOne s.data.toList).2.2.2 : Nat)]) ∧ Below w.heap.size w w' := by
  have hlen := Nm.len_size s
  have HHD := Lib.hid (Nm.head_at s hp)
  cases hd0 : Nm.dig s[0]
  · go_enter Tryz.func92, Tryz.ntmps92
    go_wp2_with (go_at_call 91; refine (ydigit_any _ _).mono ?_; rintro e w' ⟨rfl, rfl⟩)
    go_loopg [6] s.size (fun gg i wr => ∃ k : Nat, k ≤ s.size ∧ s.size - k ≤ gg ∧ i = .int .i64 k ∧ w.alloc (.cells #[.int .i64 0, .string ⟨#[]⟩, .int .i64 0, .int .i64 0, .int .i64 0] 95) = wr ∧ Hid (∀ j (hj : j < s.size), j < k → Nm.more s[j] = true))
    case atStart => exact ⟨0, Nat.zero_le _, by omega, rfl, rfl, Lib.hid fun j _ h => absurd h (Nat.not_lt_zero _)⟩
    case round =>
      obtain ⟨k, hk, hgk, rfl, rfl, hall⟩ := hrel
      have hex := ba_cut0 s k
      by_cases hlt : k < s.size
      · have q2 : (k : Int) < (s.size : Int) := by omega
        cases hm : Nm.more s[k]
        · have hpk := Nm.pre_stop Nm.more s.data.toList k (by omega) (fun j hj => by rw [Nm.byte_at s (by omega)]; exact hall.out j (by omega) hj) (by rw [Nm.byte_at s hlt]; exact hm)
          have HPK := Lib.hid hpk
          clear hpk
          have HX := Lib.hid (show refOne s.data.toList = if 24 < k then (zeroT, 0, 3, 0) else (⟨if Nm.res (s.data.toList.take k) = true then 2 else 1, s.data.toList.take k, 0, 0, 0⟩, k, 0, 0) by
            unfold refOne; rw [HHD.out, hd0, if_neg (by decide), HPK.out])
          by_cases h24 : 24 < k
          · have q3 : (24 : Int) < (k : Int) := by omega
            have HX2 := Lib.hid (show refOne s.data.toList = (zeroT, 0, 3, 0) by rw [HX.out, if_pos h24])
            clear h24
            go_wp2_with (go_at_call 112; refine (ymore_any _ _).mono ?_; rintro e w' ⟨rfl, rfl⟩)
            refine bodyPost_ret (results_cttt rfl _ _ w.heap.size _ _ (0, 0) _ rfl (heap_alloc_new _ _) Tryz.underlying95 rfl (by kernel_rfl)) rfl ⟨?_, (Below.refl _ _).alloc (Nat.le_refl _) _⟩
            rw [HX2.out]; rfl
          · have q3 : ¬ (24 : Int) < (k : Int) := by omega
            obtain ⟨T, hT⟩ : ∃ T, s.data.toList.take k = T := ⟨_, rfl⟩
            rw [hT] at HX hex
            have HR := Lib.hid (fun W : World => yres_any (ba T) W)
            rw [ba_list] at HR
            cases hr : Nm.res T
            · rw [hr] at HR
              have HX2 := Lib.hid (show refOne s.data.toList = (⟨1, T, 0, 0, 0⟩, k, 0, 0) by rw [HX.out, if_neg h24, hr]; rfl)
              clear h24 hT hr
              go_wp2_with (go_at_call 112; refine (ymore_any _ _).mono ?_; rintro e w' ⟨rfl, rfl⟩)
              refine (HR.out _).mono ?_
              rintro e w5 ⟨rfl, hb5⟩
              have hz5 := (hb5.block w.heap.size (by simp)).trans (heap_alloc_new _ _)
              have HZ5 := Lib.hid hz5
              have HB5 := Lib.hid (((Below.refl w.heap.size w).alloc (Nat.le_refl _) _).trans (hb5.mono (by simp)))
              have x0 : w5.cell? ⟨w.heap.size, 0, none⟩ = some (.int .i64 0) := Lib.cell_of_heap hz5 0
              have x1 : w5.cell? ⟨w.heap.size, 1, none⟩ = some (.string ⟨#[]⟩) := Lib.cell_of_heap hz5 1
              have x2 : w5.cell? ⟨w.heap.size, 2, none⟩ = some (.int .i64 0) := Lib.cell_of_heap hz5 2
              have x3 : w5.cell? ⟨w.heap.size, 3, none⟩ = some (.int .i64 0) := Lib.cell_of_heap hz5 3
              have x4 : w5.cell? ⟨w.heap.size, 4, none⟩ = some (.int .i64 0) := Lib.cell_of_heap hz5 4
              have f0 : w5.frozen? ⟨w.heap.size, 0, none⟩ = false := Lib.frozen_of_heap hz5 0
              have f1 : w5.frozen? ⟨w.heap.size, 1, none⟩ = false := Lib.frozen_of_heap hz5 1
              have f2 : w5.frozen? ⟨w.heap.size, 2, none⟩ = false := Lib.frozen_of_heap hz5 2
              have f3 : w5.frozen? ⟨w.heap.size, 3, none⟩ = false := Lib.frozen_of_heap hz5 3
              have f4 : w5.frozen? ⟨w.heap.size, 4, none⟩ = false := Lib.frozen_of_heap hz5 4
              clear hb5 hz5
              go_wp2_with fail
              clear x0 x1 x2 x3 x4 f0 f1 f2 f3 f4
              obtain ⟨ra, rb, rc⟩ := set5 _ _ _ _ _ HZ5.out HB5.out (Nat.le_refl w.heap.size)
              refine bodyPost_ret (results_cttt rfl _ _ w.heap.size _ _ (0, 0) _ rfl ra Tryz.underlying95 rfl (by kernel_rfl)) rfl ⟨?_, rc⟩
              rw [HX2.out]; rfl
            · rw [hr] at HR
              have HX2 := Lib.hid (show refOne s.data.toList = (⟨2, T, 0, 0, 0⟩, k, 0, 0) by rw [HX.out, if_neg h24, hr]; rfl)
              clear h24 hT hr
              go_wp2_with (go_at_call 112; refine (ymore_any _ _).mono ?_; rintro e w' ⟨rfl, rfl⟩)
              refine (HR.out _).mono ?_
              rintro e w5 ⟨rfl, hb5⟩
              have hz5 := (hb5.block w.heap.size (by simp)).trans (heap_alloc_new _ _)
              have HZ5 := Lib.hid hz5
              have HB5 := Lib.hid (((Below.refl w.heap.size w).alloc (Nat.le_refl _) _).trans (hb5.mono (by simp)))
              have x0 : w5.cell? ⟨w.heap.size, 0, none⟩ = some (.int .i64 0) := Lib.cell_of_heap hz5 0
              have x1 : w5.cell? ⟨w.heap.size, 1, none⟩ = some (.string ⟨#[]⟩) := Lib.cell_of_heap hz5 1
              have x2 : w5.cell? ⟨w.heap.size, 2, none⟩ = some (.int .i64 0) := Lib.cell_of_heap hz5 2
              have x3 : w5.cell? ⟨w.heap.size, 3, none⟩ = some (.int .i64 0) := Lib.cell_of_heap hz5 3
              have x4 : w5.cell? ⟨w.heap.size, 4, none⟩ = some (.int .i64 0) := Lib.cell_of_heap hz5 4
              have f0 : w5.frozen? ⟨w.heap.size, 0, none⟩ = false := Lib.frozen_of_heap hz5 0
              have f1 : w5.frozen? ⟨w.heap.size, 1, none⟩ = false := Lib.frozen_of_heap hz5 1
              have f2 : w5.frozen? ⟨w.heap.size, 2, none⟩ = false := Lib.frozen_of_heap hz5 2
              have f3 : w5.frozen? ⟨w.heap.size, 3, none⟩ = false := Lib.frozen_of_heap hz5 3
              have f4 : w5.frozen? ⟨w.heap.size, 4, none⟩ = false := Lib.frozen_of_heap hz5 4
              clear hb5 hz5
              go_wp2_with fail
              clear x0 x1 x2 x3 x4 f0 f1 f2 f3 f4
              obtain ⟨ra, rb, rc⟩ := set5 _ _ _ _ _ HZ5.out HB5.out (Nat.le_refl w.heap.size)
              refine bodyPost_ret (results_cttt rfl _ _ w.heap.size _ _ (0, 0) _ rfl ra Tryz.underlying95 rfl (by kernel_rfl)) rfl ⟨?_, rc⟩
              rw [HX2.out]; rfl
        · go_wp2_with (go_at_call 112; refine (ymore_any _ _).mono ?_; rintro e w' ⟨rfl, rfl⟩)
          go_roundg (s.size - (k + 1))
          case measure => omega
          case rel =>
            refine ⟨k + 1, by omega, by omega, by go_num, rfl, Lib.hid fun j hj h => ?_⟩
            rcases Nat.lt_or_eq_of_le (Nat.le_of_lt_succ h) with h | rfl
            · exact hall.out j hj h
            · exact hm
      · have q2 : ¬ (k : Int) < (s.size : Int) := by omega
        have hks : k = s.size := by omega
        have hpk : Nm.pre Nm.more s.data.toList = k := by
          rw [Nm.pre_end Nm.more s.data.toList fun j hj => by rw [Nm.byte_at s (by omega)]; exact hall.out j (by omega) (by omega)]
          omega
        have HPK := Lib.hid hpk
        clear hpk hks
        have HX := Lib.hid (show refOne s.data.toList = if 24 < k then (zeroT, 0, 3, 0) else (⟨if Nm.res (s.data.toList.take k) = true then 2 else 1, s.data.toList.take k, 0, 0, 0⟩, k, 0, 0) by
          unfold refOne; rw [HHD.out, hd0, if_neg (by decide), HPK.out])
        by_cases h24 : 24 < k
        · have q3 : (24 : Int) < (k : Int) := by omega
          have HX2 := Lib.hid (show refOne s.data.toList = (zeroT, 0, 3, 0) by rw [HX.out, if_pos h24])
          clear h24
          go_wp2_with (go_at_call 112; refine (ymore_any _ _).mono ?_; rintro e w' ⟨rfl, rfl⟩)
          refine bodyPost_ret (results_cttt rfl _ _ w.heap.size _ _ (0, 0) _ rfl (heap_alloc_new _ _) Tryz.underlying95 rfl (by kernel_rfl)) rfl ⟨?_, (Below.refl _ _).alloc (Nat.le_refl _) _⟩
          rw [HX2.out]; rfl
        · have q3 : ¬ (24 : Int) < (k : Int) := by omega
          obtain ⟨T, hT⟩ : ∃ T, s.data.toList.take k = T := ⟨_, rfl⟩
          rw [hT] at HX hex
          have HR := Lib.hid (fun W : World => yres_any (ba T) W)
          rw [ba_list] at HR
          cases hr : Nm.res T
          · rw [hr] at HR
            have HX2 := Lib.hid (show refOne s.data.toList = (⟨1, T, 0, 0, 0⟩, k, 0, 0) by rw [HX.out, if_neg h24, hr]; rfl)
            clear h24 hT hr
            go_wp2_with (go_at_call 112; refine (ymore_any _ _).mono ?_; rintro e w' ⟨rfl, rfl⟩)
            refine (HR.out _).mono ?_
            rintro e w5 ⟨rfl, hb5⟩
            have hz5 := (hb5.block w.heap.size (by simp)).trans (heap_alloc_new _ _)
            have HZ5 := Lib.hid hz5
            have HB5 := Lib.hid (((Below.refl w.heap.size w).alloc (Nat.le_refl _) _).trans (hb5.mono (by simp)))
            have x0 : w5.cell? ⟨w.heap.size, 0, none⟩ = some (.int .i64 0) := Lib.cell_of_heap hz5 0
            have x1 : w5.cell? ⟨w.heap.size, 1, none⟩ = some (.string ⟨#[]⟩) := Lib.cell_of_heap hz5 1
            have x2 : w5.cell? ⟨w.heap.size, 2, none⟩ = some (.int .i64 0) := Lib.cell_of_heap hz5 2
            have x3 : w5.cell? ⟨w.heap.size, 3, none⟩ = some (.int .i64 0) := Lib.cell_of_heap hz5 3
            have x4 : w5.cell? ⟨w.heap.size, 4, none⟩ = some (.int .i64 0) := Lib.cell_of_heap hz5 4
            have f0 : w5.frozen? ⟨w.heap.size, 0, none⟩ = false := Lib.frozen_of_heap hz5 0
            have f1 : w5.frozen? ⟨w.heap.size, 1, none⟩ = false := Lib.frozen_of_heap hz5 1
            have f2 : w5.frozen? ⟨w.heap.size, 2, none⟩ = false := Lib.frozen_of_heap hz5 2
            have f3 : w5.frozen? ⟨w.heap.size, 3, none⟩ = false := Lib.frozen_of_heap hz5 3
            have f4 : w5.frozen? ⟨w.heap.size, 4, none⟩ = false := Lib.frozen_of_heap hz5 4
            clear hb5 hz5
            go_wp2_with fail
            clear x0 x1 x2 x3 x4 f0 f1 f2 f3 f4
            obtain ⟨ra, rb, rc⟩ := set5 _ _ _ _ _ HZ5.out HB5.out (Nat.le_refl w.heap.size)
            refine bodyPost_ret (results_cttt rfl _ _ w.heap.size _ _ (0, 0) _ rfl ra Tryz.underlying95 rfl (by kernel_rfl)) rfl ⟨?_, rc⟩
            rw [HX2.out]; rfl
          · rw [hr] at HR
            have HX2 := Lib.hid (show refOne s.data.toList = (⟨2, T, 0, 0, 0⟩, k, 0, 0) by rw [HX.out, if_neg h24, hr]; rfl)
            clear h24 hT hr
            go_wp2_with (go_at_call 112; refine (ymore_any _ _).mono ?_; rintro e w' ⟨rfl, rfl⟩)
            refine (HR.out _).mono ?_
            rintro e w5 ⟨rfl, hb5⟩
            have hz5 := (hb5.block w.heap.size (by simp)).trans (heap_alloc_new _ _)
            have HZ5 := Lib.hid hz5
            have HB5 := Lib.hid (((Below.refl w.heap.size w).alloc (Nat.le_refl _) _).trans (hb5.mono (by simp)))
            have x0 : w5.cell? ⟨w.heap.size, 0, none⟩ = some (.int .i64 0) := Lib.cell_of_heap hz5 0
            have x1 : w5.cell? ⟨w.heap.size, 1, none⟩ = some (.string ⟨#[]⟩) := Lib.cell_of_heap hz5 1
            have x2 : w5.cell? ⟨w.heap.size, 2, none⟩ = some (.int .i64 0) := Lib.cell_of_heap hz5 2
            have x3 : w5.cell? ⟨w.heap.size, 3, none⟩ = some (.int .i64 0) := Lib.cell_of_heap hz5 3
            have x4 : w5.cell? ⟨w.heap.size, 4, none⟩ = some (.int .i64 0) := Lib.cell_of_heap hz5 4
            have f0 : w5.frozen? ⟨w.heap.size, 0, none⟩ = false := Lib.frozen_of_heap hz5 0
            have f1 : w5.frozen? ⟨w.heap.size, 1, none⟩ = false := Lib.frozen_of_heap hz5 1
            have f2 : w5.frozen? ⟨w.heap.size, 2, none⟩ = false := Lib.frozen_of_heap hz5 2
            have f3 : w5.frozen? ⟨w.heap.size, 3, none⟩ = false := Lib.frozen_of_heap hz5 3
            have f4 : w5.frozen? ⟨w.heap.size, 4, none⟩ = false := Lib.frozen_of_heap hz5 4
            clear hb5 hz5
            go_wp2_with fail
            clear x0 x1 x2 x3 x4 f0 f1 f2 f3 f4
            obtain ⟨ra, rb, rc⟩ := set5 _ _ _ _ _ HZ5.out HB5.out (Nat.le_refl w.heap.size)
            refine bodyPost_ret (results_cttt rfl _ _ w.heap.size _ _ (0, 0) _ rfl ra Tryz.underlying95 rfl (by kernel_rfl)) rfl ⟨?_, rc⟩
            rw [HX2.out]; rfl
  · have HX := Lib.hid (show refOne s.data.toList = refNum s.data.toList by unfold refOne; rw [HHD.out, if_pos hd0])
    have HN := Lib.hid (fun W : World => ynumber_any s W hs hp)
    obtain ⟨⟨⟨tk, tt, tn, tl, tcc⟩, n, e, b⟩, hR⟩ : ∃ R, refNum s.data.toList = R := ⟨_, rfl⟩
    rw [hR] at HX HN
    dsimp only [tkc] at HN
    rw [HX.out]
    clear hR HX
    go_enter Tryz.func92, Tryz.ntmps92
    go_wp2_with (go_at_call 91; refine (ydigit_any _ _).mono ?_; rintro e w' ⟨rfl, rfl⟩)
    refine (HN.out _).mono ?_
    rintro e' w5 ⟨rfl, hb5⟩
    have hz5 := (hb5.block w.heap.size (by simp)).trans (heap_alloc_new _ _)
    have HZ5 := Lib.hid hz5
    have HB5 := Lib.hid (((Below.refl w.heap.size w).alloc (Nat.le_refl _) _).trans (hb5.mono (by simp)))
    have x0 : w5.cell? ⟨w.heap.size, 0, none⟩ = some (.int .i64 0) := Lib.cell_of_heap hz5 0
    have x1 : w5.cell? ⟨w.heap.size, 1, none⟩ = some (.string ⟨#[]⟩) := Lib.cell_of_heap hz5 1
    have x2 : w5.cell? ⟨w.heap.size, 2, none⟩ = some (.int .i64 0) := Lib.cell_of_heap hz5 2
    have x3 : w5.cell? ⟨w.heap.size, 3, none⟩ = some (.int .i64 0) := Lib.cell_of_heap hz5 3
    have x4 : w5.cell? ⟨w.heap.size, 4, none⟩ = some (.int .i64 0) := Lib.cell_of_heap hz5 4
    have f0 : w5.frozen? ⟨w.heap.size, 0, none⟩ = false := Lib.frozen_of_heap hz5 0
    have f1 : w5.frozen? ⟨w.heap.size, 1, none⟩ = false := Lib.frozen_of_heap hz5 1
    have f2 : w5.frozen? ⟨w.heap.size, 2, none⟩ = false := Lib.frozen_of_heap hz5 2
    have f3 : w5.frozen? ⟨w.heap.size, 3, none⟩ = false := Lib.frozen_of_heap hz5 3
    have f4 : w5.frozen? ⟨w.heap.size, 4, none⟩ = false := Lib.frozen_of_heap hz5 4
    clear hb5 hz5
    go_wp2_with fail
    clear x0 x1 x2 x3 x4 f0 f1 f2 f3 f4
    obtain ⟨ra, rb, rc⟩ := set5 _ _ _ _ _ HZ5.out HB5.out (Nat.le_refl w.heap.size)
    refine bodyPost_ret (results_cttt rfl _ _ w.heap.size _ _ (0, 0) _ rfl ra Tryz.underlying95 rfl (by kernel_rfl)) rfl ⟨?_, rc⟩
    rfl
end Go.Proofs.YtmihinhbcncbfaaGreatDoor
/- The walk of timetableref04.All. -/
namespace Go.Proofs.YtmihinhbcncbfaaGreatDoor
open Go.RowKit
variable {c : Cur}
theorem step_go {st st2 : St} {c2 : Cur} (h : Inv st c) (hs : st ≠ .none) (he : stepSt st c = (st2, c2)) (hs2 : st2 ≠ .none) : final st c = final st2 c2 ∧ Inv st2 c2 := by
  have h1 := final_step h hs
  have h2 := (step_inv h hs).1
  rw [he] at h1 h2
  exact ⟨h1, h2.resolve_left hs2⟩
theorem step_stop {st : St} {c2 : Cur} (h : Inv st c) (hs : st ≠ .none) (he : stepSt st c = (.none, c2)) : final st c = c2 := by
  have h1 := final_step h hs
  rw [he] at h1
  exact h1
theorem y_end (h : Inv .any c) (hb : c.pos = c.s.size ∨ c.byte = 10) : final .any c = final .end_ c ∧ Inv .end_ c :=
  step_go h St.noConfusion (by show stepAny c = _; unfold stepAny; rw [if_pos hb]) St.noConfusion
theorem y_last (h : Inv .any c) (hp : c.pos = c.s.size) : final .any c = c.close := by
  obtain ⟨h1, h2⟩ := y_end h (.inl hp)
  rw [h1]
  exact step_stop h2 St.noConfusion (by show stepEnd c = _; unfold stepEnd; rw [if_pos hp])
theorem y_down (h : Inv .any c) (hp : c.pos ≠ c.s.size) (hb : c.byte = 10) : final .any c = final .any c.close.down ∧ Inv .any c.close.down := by
  obtain ⟨h1, h2⟩ := y_end h (.inr hb)
  rw [h1]
  exact step_go h2 St.noConfusion (by show stepEnd c = _; unfold stepEnd; rw [if_neg hp]) St.noConfusion
theorem y_blank (h : Inv .any c) (hp : c.pos ≠ c.s.size) (hb : c.byte = 32 ∨ c.byte = 9) : final .any c = final .any { c with pos := c.pos + 1 } ∧ Inv .any { c with pos := c.pos + 1 } :=
  step_go h St.noConfusion (by
    show stepAny c = _
    unfold stepAny
    rw [if_neg (fun h => h.elim hp fun h => by rw [h] at hb; exact absurd hb (by decide)), if_neg (fun h => by rw [h] at hb; exact absurd hb (by decide)), if_pos hb]) St.noConfusion
theorem y_remark (h : Inv .any c) (hp : c.pos ≠ c.s.size) (hb : c.byte = 35) : final .any c = final .any { c with pos := c.eol } ∧ Inv .any { c with pos := c.eol } := by
  obtain ⟨h1, h2⟩ := step_go (st2 := .remark) (c2 := c) h St.noConfusion (by
    show stepAny c = _
    unfold stepAny
    rw [if_neg (fun h => h.elim hp fun h => by rw [h] at hb; exact absurd hb (by decide)), if_pos hb]) St.noConfusion
  rw [h1]
  exact step_go h2 St.noConfusion rfl St.noConfusion
theorem cls_one_low (b : UInt8) : Nm.cls b = 1 ↔ Nm.low b = true := by
  have := Nm.cls_low b
  constructor
  · intro h; rw [h] at this; simpa using this.symm
  · intro h; rw [h] at this; simpa using this
theorem cls_two_dig (b : UInt8) : Nm.cls b = 2 ↔ Nm.dig b = true := by
  have := Nm.cls_dig b
  constructor
  · intro h; rw [h] at this; exact this.symm
  · intro h; rw [h] at this; exact beq_iff_eq.1 this
theorem byte_other (b : UInt8) (h : Nm.low b = true ∨ Nm.dig b = true) : b ≠ 10 ∧ b ≠ 35 ∧ b ≠ 32 ∧ b ≠ 9 := by
  refine ⟨?_, ?_, ?_, ?_⟩ <;> (rintro rfl; revert h; decide)
theorem y_bad (h : Inv .any c) (hp : c.pos ≠ c.s.size) (h1 : c.byte ≠ 10) (h2 : c.byte ≠ 35) (h3 : ¬ (c.byte = 32 ∨ c.byte = 9)) (h4 : Nm.low c.byte = false) (h5 : Nm.dig c.byte = false) : final .any c = c.fail 7 c.pos :=
  step_stop h St.noConfusion (by
    show stepAny c = _
    unfold stepAny
    rw [if_neg (fun h => h.elim hp h1), if_neg h2, if_neg h3, if_neg (fun h => by rw [(cls_one_low _).1 h] at h4; cases h4), if_neg (fun h => by rw [(cls_two_dig _).1 h] at h5; cases h5)])
theorem any_to (h : Inv .any c) (hp : c.pos ≠ c.s.size) (hb : Nm.low c.byte = true ∨ Nm.dig c.byte = true) :
    (Nm.low c.byte = true → final .any c = final .word c ∧ Inv .word c) ∧ (Nm.low c.byte = false → final .any c = final .number c ∧ Inv .number c) := by
  obtain ⟨b1, b2, b3, b4⟩ := byte_other _ hb
  refine ⟨fun hl => ?_, fun hl => ?_⟩
  · exact step_go h St.noConfusion (by
      show stepAny c = _
      unfold stepAny
      rw [if_neg (fun h => h.elim hp b1), if_neg b2, if_neg (fun h => h.elim b3 b4), if_pos ((cls_one_low _).2 hl)]) St.noConfusion
  · have hd : Nm.dig c.byte = true := hb.resolve_left (by rw [hl]; decide)
    exact step_go h St.noConfusion (by
      show stepAny c = _
      unfold stepAny
      rw [if_neg (fun h => h.elim hp b1), if_neg b2, if_neg (fun h => h.elim b3 b4), if_neg (fun h => by rw [(cls_one_low _).1 h] at hl; cases hl), if_pos ((cls_two_dig _).2 hd)]) St.noConfusion
theorem low_not_dig {b : UInt8} (h : Nm.low b = true) : Nm.dig b = false := by
  unfold Nm.low at h
  unfold Nm.dig
  rw [decide_eq_true_eq] at h
  exact decide_eq_false (by omega)
/-- Digits alone: when their numeral is none. -/
theorem parseE_seven {l : List UInt8} (h0 : 0 < l.length) (hd : l.all Nm.dig = true) : Tk.parseE l = 7 ↔ (1 < l.length ∧ l.headD 0 = 48) := by
  have hd2 : l.all Tk.isDig = true := by
    rw [List.all_eq_true] at hd ⊢
    intro x hx
    rw [← dig_is]; exact hd x hx
  have hinf : l ≠ Tk.infB := by
    intro e; rw [e] at hd2; exact absurd hd2 (by decide)
  have hb : Tk.badNum l = decide (1 < l.length ∧ l.headD 0 = 48) := by
    unfold Tk.badNum
    rw [hd2]
    cases l with
    | nil => cases h0
    | cons a r =>
      rw [Bool.eq_iff_iff]
      simp
  unfold Tk.parseE
  rw [if_neg hinf, hb]
  by_cases hh : 1 < l.length ∧ l.headD 0 = 48
  · rw [decide_eq_true hh, if_pos rfl]
    exact ⟨fun _ => hh, fun _ => rfl⟩
  · rw [decide_eq_false hh, if_neg (by decide)]
    constructor
    · intro h
      split at h <;> cases h
    · intro h; exact absurd h hh
theorem more_cls (b : UInt8) : Nm.cls b ≠ 0 ↔ Nm.more b = true := by
  rw [← Nm.cls_more]; simp
/-- What one tells is what the machine does. -/
theorem y_one (h : Inv .any c) (hp : c.pos ≠ c.s.size) (hb : Nm.low c.byte = true ∨ Nm.dig c.byte = true) :
    ((refOne c.rest).2.2.1 ≠ 0 → final .any c = c.fail (refOne c.rest).2.2.1 (c.pos + (refOne c.rest).2.2.2)) ∧
    ((refOne c.rest).2.2.1 = 0 → (refOne c.rest).1.line = 0 ∧ (refOne c.rest).1.col = 0 ∧ 0 < (refOne c.rest).2.1 ∧
      final .any c = final .any (c.put (refOne c.rest).1.kind (refOne c.rest).1.text (refOne c.rest).1.num (refOne c.rest).2.1) ∧ Inv .any (c.put (refOne c.rest).1.kind (refOne c.rest).1.text (refOne c.rest).1.num (refOne c.rest).2.1)) := by
  have hlt : c.pos < c.s.size := by have := h.ok.pos; omega
  have hrest := rest_head c hlt
  obtain ⟨t1, t2⟩ := any_to h hp hb
  have hhd : c.rest.headD 0 = c.byte := by rw [hrest]; rfl
  cases hl : Nm.low c.byte
  · obtain ⟨f1, f2⟩ := t2 hl
    have hd : Nm.dig c.byte = true := hb.resolve_left (by rw [hl]; decide)
    have hn : 1 ≤ Nm.pre Nm.dig c.rest := by rw [hrest]; exact pre_pos _ _ _ hd
    have hnl := Nm.pre_le Nm.dig c.rest
    have hR : refOne c.rest = refNum c.rest := by unfold refOne; rw [hhd, if_pos hd]
    have h7 := parseE_seven (l := c.rest.take (Nm.pre Nm.dig c.rest)) (by rw [List.length_take]; omega) (take_pre_all _ _)
    have hth : (c.rest.take (Nm.pre Nm.dig c.rest)).headD 0 = c.rest.headD 0 := by
      obtain ⟨k, hk⟩ : ∃ k, Nm.pre Nm.dig c.rest = k + 1 := ⟨Nm.pre Nm.dig c.rest - 1, by omega⟩
      rw [hk, hrest]; rfl
    rw [hth, List.length_take, Nat.min_eq_left hnl] at h7
    rw [hR, f1]
    have hst : ∀ st2 c2, stepNumber c = (st2, c2) → stepSt .number c = (st2, c2) := fun _ _ h => h
    unfold refNum
    by_cases hc : Nm.pre Nm.dig c.rest < c.rest.length ∧ Nm.more (c.rest.getD (Nm.pre Nm.dig c.rest) 0) = true
    · rw [if_pos hc]
      have hc2 : Nm.pre Nm.dig c.rest < c.rest.length ∧ Nm.cls (c.rest.getD (Nm.pre Nm.dig c.rest) 0) ≠ 0 := ⟨hc.1, (more_cls _).2 hc.2⟩
      by_cases h1 : 1 < Nm.pre Nm.dig c.rest ∧ c.rest.headD 0 = 48
      · rw [if_pos h1]
        refine ⟨fun _ => step_stop f2 St.noConfusion (hst _ _ ?_), fun h => absurd h (by decide)⟩
        unfold stepNumber
        dsimp only
        rw [if_pos (h7.2 h1)]; rfl
      · rw [if_neg h1]
        have hn7 : ¬ Tk.parseE (c.rest.take (Nm.pre Nm.dig c.rest)) = 7 := fun h => h1 (h7.1 h)
        by_cases h0 : Tk.parseE (c.rest.take (Nm.pre Nm.dig c.rest)) ≠ 0
        · rw [if_pos h0]
          refine ⟨fun _ => step_stop f2 St.noConfusion (hst _ _ ?_), fun h => absurd h (by decide)⟩
          unfold stepNumber
          dsimp only
          rw [if_neg hn7, if_pos h0]; rfl
        · rw [if_neg h0]
          refine ⟨fun _ => step_stop f2 St.noConfusion (hst _ _ ?_), fun h => absurd h (show ¬ (7 : Int) = 0 by decide)⟩
          unfold stepNumber
          dsimp only
          rw [if_neg hn7, if_neg h0, if_pos hc2]
    · rw [if_neg hc]
      have hc2 : ¬ (Nm.pre Nm.dig c.rest < c.rest.length ∧ Nm.cls (c.rest.getD (Nm.pre Nm.dig c.rest) 0) ≠ 0) := fun h => hc ⟨h.1, (more_cls _).1 h.2⟩
      by_cases h7' : Tk.parseE (c.rest.take (Nm.pre Nm.dig c.rest)) = 7
      · rw [if_pos h7']
        refine ⟨fun _ => step_stop f2 St.noConfusion (hst _ _ ?_), fun h => absurd h (by decide)⟩
        unfold stepNumber
        dsimp only
        rw [if_pos h7']; rfl
      · rw [if_neg h7']
        by_cases h0 : Tk.parseE (c.rest.take (Nm.pre Nm.dig c.rest)) ≠ 0
        · rw [if_pos h0]
          refine ⟨fun _ => step_stop f2 St.noConfusion (hst _ _ ?_), fun h => absurd h (by decide)⟩
          unfold stepNumber
          dsimp only
          rw [if_neg h7', if_pos h0]; rfl
        · rw [if_neg h0]
          refine ⟨fun h => absurd rfl h, fun _ => ⟨rfl, rfl, hn, ?_⟩⟩
          refine step_go f2 St.noConfusion (hst _ _ ?_) St.noConfusion
          unfold stepNumber
          dsimp only
          rw [if_neg h7', if_neg h0, if_neg hc2]
  · obtain ⟨f1, f2⟩ := t1 hl
    have hn : 1 ≤ Nm.pre Nm.more c.rest := by rw [hrest]; exact pre_pos _ _ _ (by unfold Nm.more; rw [hl]; rfl)
    have hR : refOne c.rest = if 24 < Nm.pre Nm.more c.rest then (zeroT, 0, 3, 0) else (⟨if Nm.res (c.rest.take (Nm.pre Nm.more c.rest)) = true then 2 else 1, c.rest.take (Nm.pre Nm.more c.rest), 0, 0, 0⟩, Nm.pre Nm.more c.rest, 0, 0) := by
      unfold refOne; rw [hhd, if_neg (by rw [low_not_dig hl]; decide)]
    rw [hR, f1]
    by_cases h24 : 24 < Nm.pre Nm.more c.rest
    · rw [if_pos h24]
      refine ⟨fun _ => step_stop f2 St.noConfusion ?_, fun h => absurd h (by decide)⟩
      show stepWord c = _
      unfold stepWord
      dsimp only
      rw [if_pos h24]; rfl
    · rw [if_neg h24]
      refine ⟨fun h => absurd rfl h, fun _ => ⟨rfl, rfl, hn, ?_⟩⟩
      refine step_go f2 St.noConfusion ?_ St.noConfusion
      show stepWord c = _
      unfold stepWord
      dsimp only
      rw [if_neg h24]
/-- What All tells when the machine stands at a fault, and when it has gone through. -/
theorem y_fault {s : ByteArray} (hs : s.size ≤ 65536) (h : final .any c = lexed s) {e : Int} {p : Nat} (hf : final .any c = c.fail e p) (he : e ≠ 0) : (allD s).1 = [] ∧ (allD s).2 = ⟨e, c.line, c.col p⟩ := by
  have hl : lexed s = c.fail e p := h.symm.trans hf
  have h1 : (lexed s).err = e := by rw [hl]; rfl
  unfold allD
  rw [if_neg (by omega), if_pos (by rw [h1]; exact he), hl]
  exact ⟨rfl, rfl⟩
theorem y_done {s : ByteArray} (hs : s.size ≤ 65536) (he : (lexed s).err = 0) : (allD s).1 = (lexed s).out ∧ (allD s).2 = ⟨0, 0, 0⟩ := by
  unfold allD
  rw [if_neg (by omega), if_neg (fun h => h he)]
  exact ⟨rfl, rfl⟩
end Go.Proofs.YtmihinhbcncbfaaGreatDoor
/- The walk of timetableref04.All. -/
namespace Go.Proofs.YtmihinhbcncbfaaGreatDoor
open Go.RowKit
theorem alloc_cellsY {w w' : World} {b : Nat} {o : Obj} (h : w.heap[b]? = some o) {x : Obj} (e : w.alloc x = w') : w'.heap[b]? = some o := by
  rw [← e, Below.heap_alloc _ _ _ (Array.getElem?_eq_some_iff.1 h).1]; exact h
theorem refOne_by (L : List UInt8) : (refOne L).2.2.2 ≤ L.length := by
  have h := Nm.pre_le Nm.dig L
  unfold refOne
  split
  · unfold refNum
    (repeat' split) <;> first | exact Nat.zero_le _ | exact h
  · split <;> exact Nat.zero_le _
/-- The loop's state. -/
def AllR (s : ByteArray) (B : Nat) (w0 : World) (gg : Nat) (v4 v5 v6 v7 v8 : Value) (wr : World) : Prop :=
  Below B w0 wr ∧ ((∃ c : Cur, c.s = s ∧ final .any c = lexed s ∧ Inv .any c ∧ c.err = 0 ∧ s.size + 1 - c.pos ≤ gg ∧ v8 = .int .i64 (c.pos : Nat) ∧ v5 = .int .i64 (c.line : Nat) ∧ v6 = .int .i64 (c.org : Nat) ∧ v7 = .bool c.some ∧ Ow tkc 5 wr B 95 v4 c.out) ∨
    ((lexed s).err = 0 ∧ v8 = .int .i64 (s.size + 1 : Nat) ∧ Ow tkc 5 wr B 95 v4 (lexed s).out))
set_option maxHeartbeats 16000000 in
set_option maxRecDepth 100000 in
theorem yall_any (s : ByteArray) (w : World) (hs : s.size ≤ 65536) :
    Calls Tryz.prog 53 #[.string s] w fun e w' => ∃ v, e = .returned (.tuple #[v, .agg #[.int .i64 (allD s).2.err, .int .i64 (allD s).2.line, .int .i64 (allD s).2.col]]) ∧ Ow tkc 5 w' w.heap.size 95 v (allD s).1 ∧ Below w.heap.size w w' := by
  obtain ⟨i0, hi0, hz0, hz1, hz2⟩ := info_parts info_tok
  have t0 : ¬ (65536 : Int) < (s.size : Int) := by omega
  go_enter Tryz.func53, Tryz.ntmps53
  go_wp2_with fail
  obtain ⟨w1, hw1⟩ : ∃ w1, w.alloc (.cells #[.int .i64 0, .int .i64 0, .int .i64 0] 61) = w1 := ⟨_, rfl⟩
  have HQ1 := Lib.hid (show w1.heap[w.heap.size]? = some (.cells #[.int .i64 0, .int .i64 0, .int .i64 0] 61 (0, 0)) by rw [← hw1]; exact heap_alloc_new _ _)
  have HB1 := Lib.hid (show Below w.heap.size w w1 by rw [← hw1]; exact (Below.refl _ _).alloc (Nat.le_refl _) _)
  have hzw : w1.heap.size = w.heap.size + 1 := by rw [← hw1]; simp
  have HZW := Lib.hid hzw
  rw [hw1]
  clear hw1 hzw
  go_loopg [4, 5, 6, 7, 8] (s.size + 2) (fun gg v4 v5 v6 v7 v8 wr => AllR s w1.heap.size w1 gg v4 v5 v6 v7 v8 wr)
  case atStart => exact ⟨Below.refl _ _, .inl ⟨Cur.start s, rfl, rfl, start_inv s hs, rfl, by show s.size + 1 - 0 ≤ _; omega, rfl, rfl, rfl, rfl, Ow.nil_⟩⟩
  case round =>
    obtain ⟨hb, hR⟩ := hrel
    have HB := Lib.hid hb
    clear hb
    rcases hR with ⟨c, rfl, hfin, hinv, herr, hgg, rfl, rfl, rfl, rfl, ho⟩ | ⟨herr, rfl, ho⟩
    · obtain ⟨Av, nv, cv, rfl⟩ := ow_form ho
      have HO := Lib.hid ho
      have hpos := hinv.ok.pos
      have horg := hinv.ok.org
      have hline := hinv.ok.line
      have hout := hinv.out
      have hol : c.out.length ≤ 131072 := by split at hout <;> omega
      have HINV := Lib.hid hinv
      have HFIN := Lib.hid hfin
      have HERR := Lib.hid herr
      have q0 : (c.pos : Int) ≤ (c.s.size : Int) := by omega
      have hwa : IntKind.i64.wrap ((c.pos : Int) - (c.org : Int)) = (c.pos : Int) - (c.org : Int) := IntWalk.i64_in _ (by omega)
      have hwa1 : IntKind.i64.wrap ((c.pos : Int) - (c.org : Int) + 1) = (c.pos : Int) - (c.org : Int) + 1 := IntWalk.i64_in _ (by omega)
      have hwp : IntKind.i64.wrap ((c.pos : Int) + 1) = (c.pos : Int) + 1 := IntWalk.i64_in _ (by omega)
      have hwl : IntKind.i64.wrap ((c.line : Int) + 1) = (c.line : Int) + 1 := IntWalk.i64_in _ (by omega)
      have hlo : (0 : Int) ≤ (c.pos : Int) := by omega
      clear ho hinv hfin herr hout
      go_upto_region 9 with fail
      obtain ⟨wq, hwq⟩ : ∃ wq, wr.alloc (.cells #[.int .i64 0, .string ⟨#[]⟩, .int .i64 0, .int .i64 (c.line : Nat), .int .i64 ((c.pos : Int) - (c.org : Int) + 1)] 95) = wq := ⟨_, rfl⟩
      have hpq : wq.heap[wr.heap.size]? = some (.cells #[.int .i64 0, .string ⟨#[]⟩, .int .i64 0, .int .i64 (c.line : Nat), .int .i64 ((c.pos : Int) - (c.org : Int) + 1)] 95 (0, 0)) := by rw [← hwq]; exact heap_alloc_new _ _
      have HPQ := Lib.hid hpq
      have HBq := Lib.hid (show Below w1.heap.size w1 wq by rw [← hwq]; exact HB.out.alloc HB.out.size _)
      have HOq := Lib.hid (show Ow tkc 5 wq w1.heap.size 95 (.slice Av nv cv) c.out by rw [← hwq]; exact HO.out.alloc _)
      have hlq : wr.heap.size < wq.heap.size := by rw [← hwq]; simp
      have hlr : w1.heap.size ≤ wr.heap.size := HB.out.size
      rw [hwq]
      have p3 : wq.cell? ⟨wr.heap.size, 3, none⟩ = some (.int .i64 (c.line : Nat)) := Lib.cell_of_heap hpq 3
      have p4 : wq.cell? ⟨wr.heap.size, 4, none⟩ = some (.int .i64 ((c.pos : Int) - (c.org : Int) + 1)) := Lib.cell_of_heap hpq 4
      clear hwq hpq HB HO
      by_cases hend : c.pos = c.s.size
      · have e1 : ((c.pos : Int) == (c.s.size : Int)) = true := beq_iff_eq.2 (by omega)
        have hlast := y_last HINV.out hend
        have HCL := Lib.hid (HFIN.out.symm.trans hlast)
        clear hlast
        cases hsm : c.some
        · have hcl : c.close = c := by unfold Cur.close; rw [if_neg (by rw [hsm]; decide)]
          rw [hcl] at HCL
          have HEND := Lib.hid hend
          clear hcl hsm hend
          go_wp2_with fail
          have hend := HEND.out
          go_roundg 0
          case measure => omega
          case rel => exact ⟨HBq.out, .inr ⟨by rw [HCL.out]; exact HERR.out, by go_num, by rw [HCL.out]; exact HOq.out⟩⟩
        · have hcl : c.close.out = c.out ++ [⟨4, [], 0, c.line, (c.pos : Int) - (c.org : Int) + 1⟩] ∧ c.close.err = c.err := by unfold Cur.close; rw [if_pos hsm]; exact ⟨rfl, rfl⟩
          have HC2 := Lib.hid hcl
          have HEND := Lib.hid hend
          clear hcl hsm hend
          go_wp2_with (at_builtin; refine wpList_append_sl _ rfl _ _ _ rfl w1.heap.size 95 i0 _ 48 Tryz.underlying86 hi0 hz0 hz1 hz2 (by rfl) (by omega) tkc_len tkc_one _ _ c.out [⟨4, [], 0, c.line, (c.pos : Int) - (c.org : Int) + 1⟩] rfl rfl (HOq.out.alloc _) (Sl.newl [⟨4, [], 0, c.line, (c.pos : Int) - (c.org : Int) + 1⟩] tkc_len rfl rfl (by show 1 ≤ maxLen; decide) rfl) (by simp only [maxLen, List.length_cons, List.length_nil]; omega) (by simp only [List.length_cons, List.length_nil]; omega) (by have := HBq.out.size; simp; omega) ?_; intro v6 w6 hown6 hg6 hmv6)
          have hb6 : Below w1.heap.size w1 w6 := (HBq.out.alloc HBq.out.size _).grown hg6 (by have := HBq.out.size; simp; omega) fun q hq => (HOq.out.lt hq).1
          have hend := HEND.out
          go_roundg 0
          case measure => omega
          case rel => exact ⟨hb6, .inr ⟨by rw [HCL.out, HC2.out.2]; exact HERR.out, by go_num, by rw [HCL.out, HC2.out.1]; exact hown6⟩⟩
      · have hlt : c.pos < c.s.size := by omega
        have hltI : (c.pos : Int) < (c.s.size : Int) := by omega
        have e1 : ((c.pos : Int) == (c.s.size : Int)) = false := beq_eq_false_iff_ne.2 (by omega)
        obtain ⟨b, hb⟩ : ∃ b, c.s[c.pos] = b := ⟨_, rfl⟩
        have hby : c.byte = b := by unfold Cur.byte; rw [List.getD_eq_getElem?_getD, List.getElem?_eq_getElem (by rw [Nm.len_size]; exact hlt), ← hb]; rfl
        have HBY := Lib.hid hby
        have HBb := Lib.hid hb
        by_cases h10 : b = 10
        · have e2 : ((c.s[c.pos].toNat : Int) == 10) = true := by rw [hb, h10]; rfl
          have hd := y_down HINV.out hend (hby.trans h10)
          have HD := Lib.hid hd
          clear hd hby hb
          cases hsm : c.some
          · have hcl : c.close = c := by unfold Cur.close; rw [if_neg (by rw [hsm]; decide)]
            rw [hcl] at HD
            clear hcl hsm
            go_wp2_with fail
            go_roundg (c.s.size + 1 - (c.pos + 1))
            case measure => omega
            case rel => exact ⟨HBq.out, .inl ⟨c.down, rfl, HD.out.1.symm.trans HFIN.out, HD.out.2, HERR.out, Nat.le_refl _, by go_num, by go_num, by go_num, rfl, HOq.out⟩⟩
          · have hcl : c.close.out = c.out ++ [⟨4, [], 0, c.line, (c.pos : Int) - (c.org : Int) + 1⟩] ∧ c.close.err = c.err ∧ c.close.s = c.s ∧ c.close.pos = c.pos ∧ c.close.line = c.line := by unfold Cur.close; rw [if_pos hsm]; exact ⟨rfl, rfl, rfl, rfl, rfl⟩
            have HC2 := Lib.hid hcl
            clear hcl hsm
            go_wp2_with (at_builtin; refine wpList_append_sl _ rfl _ _ _ rfl w1.heap.size 95 i0 _ 48 Tryz.underlying86 hi0 hz0 hz1 hz2 (by rfl) (by omega) tkc_len tkc_one _ _ c.out [⟨4, [], 0, c.line, (c.pos : Int) - (c.org : Int) + 1⟩] rfl rfl (HOq.out.alloc _) (Sl.newl [⟨4, [], 0, c.line, (c.pos : Int) - (c.org : Int) + 1⟩] tkc_len rfl rfl (by show 1 ≤ maxLen; decide) rfl) (by simp only [maxLen, List.length_cons, List.length_nil]; omega) (by simp only [List.length_cons, List.length_nil]; omega) (by have := HBq.out.size; simp; omega) ?_; intro v6 w6 hown6 hg6 hmv6)
            have hb6 : Below w1.heap.size w1 w6 := (HBq.out.alloc HBq.out.size _).grown hg6 (by have := HBq.out.size; simp; omega) fun q hq => (HOq.out.lt hq).1
            go_roundg (c.s.size + 1 - (c.pos + 1))
            case measure => omega
            case rel =>
              obtain ⟨k1, k2, k3, k4, k5⟩ := HC2.out
              exact ⟨hb6, .inl ⟨c.close.down, k3, HD.out.1.symm.trans HFIN.out, HD.out.2, k2.trans HERR.out, by show c.s.size + 1 - (c.close.pos + 1) ≤ _; rw [k4]; omega, by show _ = Value.int .i64 ((c.close.pos + 1 : Nat) : Int); rw [k4]; go_num, by show _ = Value.int .i64 ((c.close.line + 1 : Nat) : Int); rw [k5]; go_num, by show _ = Value.int .i64 ((c.close.pos + 1 : Nat) : Int); rw [k4]; go_num, rfl, by show Ow _ _ _ _ _ _ c.close.out; rw [k1]; exact hown6⟩⟩
        · have e2 : ((c.s[c.pos].toNat : Int) == 10) = false := by rw [hb]; simp; intro h; exact h10 (UInt8.toNat_inj.1 (by show b.toNat = 10; omega))
          by_cases h35 : b = 35
          · have e3 : ((c.s[c.pos].toNat : Int) == 35) = true := by rw [hb, h35]; rfl
            have HD := Lib.hid (y_remark HINV.out hend (hby.trans h35))
            have hes := eol_spec c hpos
            have HES := Lib.hid hes
            have hle := hes.1
            have hgt : c.pos < c.eol := by
              rcases Nat.lt_or_ge c.pos c.eol with h | h
              · exact h
              · exfalso
                have h2 : c.eol = c.pos := by have : c.pos ≤ c.eol := Nat.le_add_right _ _; omega
                have := hes.2.2 (by omega)
                have e : c.s[c.eol]'(by omega) = c.s[c.pos] := by congr 1
                rw [e, hb, h35] at this
                exact absurd this (by decide)
            clear hby hb hes
            go_wp2_with fail
            go_loopg [8] c.s.size (fun gg v8 wx => ∃ k : Nat, c.pos ≤ k ∧ k ≤ c.eol ∧ c.s.size - k ≤ gg ∧ v8 = .int .i64 (k : Nat) ∧ wx = wq)
            case atStart => exact ⟨c.pos, Nat.le_refl _, by omega, by omega, rfl, rfl⟩
            case round =>
              obtain ⟨k, hk1, hk2, hgk, rfl, rfl⟩ := hrel
              by_cases hke : k < c.eol
              · have hks : k < c.s.size := by omega
                have q5 : (k : Int) < (c.s.size : Int) := by omega
                have q6 : (0 : Int) ≤ (k : Int) := by omega
                have hne := HES.out.2.1 k hks hk1 hke
                have q7 : ((c.s[k].toNat : Int) == 10) = false := by simp; omega
                clear hne
                go_wp2_with fail
                go_roundg (c.s.size - (k + 1))
                case measure => omega
                case rel => exact ⟨k + 1, by omega, by omega, by omega, by go_num, rfl⟩
              · obtain rfl : k = c.eol := by omega
                by_cases hks : c.eol < c.s.size
                · have q5 : (c.eol : Int) < (c.s.size : Int) := by omega
                  have q6 : (0 : Int) ≤ (c.eol : Int) := by omega
                  have hne := HES.out.2.2 hks
                  have q7 : ((c.s[c.eol].toNat : Int) == 10) = true := by simp; omega
                  clear hne
                  go_wp2_with fail
                  go_roundg (c.s.size + 1 - c.eol)
                  case measure => omega
                  case rel => exact ⟨HBq.out, .inl ⟨{ c with pos := c.eol }, rfl, HD.out.1.symm.trans HFIN.out, HD.out.2, HERR.out, Nat.le_refl _, rfl, rfl, rfl, rfl, HOq.out⟩⟩
                · have q5 : ¬ (c.eol : Int) < (c.s.size : Int) := by omega
                  go_wp2_with fail
                  go_roundg (c.s.size + 1 - c.eol)
                  case measure => omega
                  case rel => exact ⟨HBq.out, .inl ⟨{ c with pos := c.eol }, rfl, HD.out.1.symm.trans HFIN.out, HD.out.2, HERR.out, Nat.le_refl _, rfl, rfl, rfl, rfl, HOq.out⟩⟩
          · have e3 : ((c.s[c.pos].toNat : Int) == 35) = false := by rw [hb]; simp; intro h; exact h35 (UInt8.toNat_inj.1 (by show b.toNat = 35; omega))
            by_cases h32 : b = 32
            · have e4 : ((c.s[c.pos].toNat : Int) == 32) = true := by rw [hb, h32]; rfl
              have HD := Lib.hid (y_blank HINV.out hend (.inl (hby.trans h32)))
              clear hby hb
              go_wp2_with fail
              go_roundg (c.s.size + 1 - (c.pos + 1))
              case measure => omega
              case rel => exact ⟨HBq.out, .inl ⟨{ c with pos := c.pos + 1 }, rfl, HD.out.1.symm.trans HFIN.out, HD.out.2, HERR.out, Nat.le_refl _, by go_num, rfl, rfl, rfl, HOq.out⟩⟩
            · have e4 : ((c.s[c.pos].toNat : Int) == 32) = false := by rw [hb]; simp; intro h; exact h32 (UInt8.toNat_inj.1 (by show b.toNat = 32; omega))
              by_cases h9 : b = 9
              · have e5 : ((c.s[c.pos].toNat : Int) == 9) = true := by rw [hb, h9]; rfl
                have HD := Lib.hid (y_blank HINV.out hend (.inr (hby.trans h9)))
                clear hby hb
                go_wp2_with fail
                go_roundg (c.s.size + 1 - (c.pos + 1))
                case measure => omega
                case rel => exact ⟨HBq.out, .inl ⟨{ c with pos := c.pos + 1 }, rfl, HD.out.1.symm.trans HFIN.out, HD.out.2, HERR.out, Nat.le_refl _, by go_num, rfl, rfl, rfl, HOq.out⟩⟩
              · have e5 : ((c.s[c.pos].toNat : Int) == 9) = false := by rw [hb]; simp; intro h; exact h9 (UInt8.toNat_inj.1 (by show b.toNat = 9; omega))
                cases hlw : Nm.low c.s[c.pos]
                · cases hdg : Nm.dig c.s[c.pos]
                  · have hbad := y_bad HINV.out hend (by rw [hby]; exact h10) (by rw [hby]; exact h35) (by rw [hby]; exact fun h => h.elim h32 h9) (by rw [hby, ← hb]; exact hlw) (by rw [hby, ← hb]; exact hdg)
                    have HFA := Lib.hid (y_fault hs HFIN.out hbad (by decide))
                    have hSw : (fun wy : World => wy.cell? ⟨wr.heap.size, 3, none⟩ = some (.int .i64 (c.line : Nat)) ∧ wy.cell? ⟨wr.heap.size, 4, none⟩ = some (.int .i64 ((c.pos : Int) - (c.org : Int) + 1))) wq := ⟨p3, p4⟩
                    clear hby hb hbad p3 p4
                    go_upto_region 8 with (first | (go_at_call 90; refine (yletter_any _ _).mono ?_; rintro e w' ⟨rfl, rfl⟩) | (go_at_call 91; refine (ydigit_any _ _).mono ?_; rintro e w' ⟨rfl, rfl⟩))
                    have hq := (HBq.out.block w.heap.size (by have := HZW.out; omega)).trans HQ1.out
                    have HQ := Lib.hid hq
                    have x0 : wq.cell? ⟨w.heap.size, 0, none⟩ = some (.int .i64 0) := Lib.cell_of_heap hq 0
                    have x1 : wq.cell? ⟨w.heap.size, 1, none⟩ = some (.int .i64 0) := Lib.cell_of_heap hq 1
                    have x2 : wq.cell? ⟨w.heap.size, 2, none⟩ = some (.int .i64 0) := Lib.cell_of_heap hq 2
                    have f0 : wq.frozen? ⟨w.heap.size, 0, none⟩ = false := Lib.frozen_of_heap hq 0
                    have f1 : wq.frozen? ⟨w.heap.size, 1, none⟩ = false := Lib.frozen_of_heap hq 1
                    have f2 : wq.frozen? ⟨w.heap.size, 2, none⟩ = false := Lib.frozen_of_heap hq 2
                    clear hq
                    try dsimp only at hSw
                    refine wp_region_kinds (fun wy : World => wy.cell? ⟨wr.heap.size, 3, none⟩ = some (.int .i64 (c.line : Nat)) ∧ wy.cell? ⟨wr.heap.size, 4, none⟩ = some (.int .i64 ((c.pos : Int) - (c.org : Int) + 1))) [] [6] [1, 3] [0, 2, 4, 5] [0, 1, 2, 3, 4, 5, 6] (by kernel_rfl) (by kernel_rfl) (fun w n h => h) ?_
                    repeat (first | (refine wpKind_free (v := ?_) (by rfl) rfl (by rfl) ?_ ?_; rotate_left 1; (focus (intro wy; go_simp; try with_reducible rfl; done)); try simp only [Act.put, List.setIfInBounds_toArray, List.set_cons_zero, List.set_cons_succ]) | (refine wpKind_held (v := ?_) (by rfl) rfl (by rfl) hSw ?_ ?_; rotate_left 1; (focus (intro wy hSy; obtain ⟨s3, s4⟩ := hSy; go_simp; try with_reducible rfl; done)); try simp only [Act.put, List.setIfInBounds_toArray, List.set_cons_zero, List.set_cons_succ]))
                    refine wpKind_serial (by rfl) rfl (fun n7 => ?_)
                    go_wp2_with fail
                    show wpKind _ _ _ _ _ _ _ _ _
                    refine wpKind_nil fun n9 => ?_
                    clear x0 x1 x2 f0 f1 f2
                    go_wp2_with fail
                    obtain ⟨ra, rb, rc⟩ := set3 (.int .i64 7) (.int .i64 (c.line : Nat)) (.int .i64 ((c.pos : Int) - (c.org : Int) + 1)) (show (wq.drewN n7).heap[w.heap.size]? = _ from HQ.out) (HB1.out.trans ((below_drewN HBq.out n7).mono HB1.out.size)) (Nat.le_refl _)
                    refine bodyPost_ret (results_tc rfl _ _ w.heap.size _ _ (0, 0) _ rfl ra Tryz.underlying61 rfl (by kernel_rfl)) rfl ⟨.slice none 0 0, ?_, ?_, below_drewN rc n9⟩
                    · rw [HFA.out.2]; rfl
                    · rw [HFA.out.1]; exact Ow.nil_
                  · have hb2 : Nm.low c.byte = true ∨ Nm.dig c.byte = true := .inr (by rw [hby, ← hb]; exact hdg)
                    have hone := y_one HINV.out hend hb2
                    have hrl : c.rest.length ≤ 65536 := by unfold Cur.rest; rw [List.length_drop, Nm.len_size]; omega
                    have hrp : 0 < c.rest.length := by unfold Cur.rest; rw [List.length_drop, Nm.len_size]; omega
                    have hcut := rest_cut c
                    have hyo := fun W : World => yone_any (ba c.rest) W (by rw [ba_size]; exact hrl) (by rw [ba_size]; exact hrp)
                    rw [ba_list] at hyo
                    obtain ⟨⟨⟨tk, tt, tn, tl, tcc⟩, n1, er, by1⟩, hR⟩ : ∃ R, refOne c.rest = R := ⟨_, rfl⟩
                    have hby1 := refOne_by c.rest
                    rw [hR] at hone hyo hby1
                    dsimp only at hby1
                    have hby2 : by1 ≤ 65536 := by omega
                    dsimp only [tkc] at hone hyo
                    have HYO := Lib.hid hyo
                    have HONE := Lib.hid hone
                    have HCUT := Lib.hid hcut
                    clear hone hyo hcut hrl hrp hR hby hb hb2 hby1
                    go_wp2_with (first | (go_at_call 90; refine (yletter_any _ _).mono ?_; rintro e w' ⟨rfl, rfl⟩) | (go_at_call 91; refine (ydigit_any _ _).mono ?_; rintro e w' ⟨rfl, rfl⟩))
                    rw [HCUT.out]
                    refine (HYO.out wq).mono ?_
                    rintro e5 w5 ⟨rfl, hb5⟩
                    have hp5 := (hb5.block wr.heap.size hlq).trans HPQ.out
                    have HB5 := Lib.hid (HBq.out.trans (hb5.mono HBq.out.size))
                    have HO5 := Lib.hid (HOq.out.keepB fun b hb hb2 => hb5.block b hb2)
                    have hlq5 : wr.heap.size < w5.heap.size := Nat.lt_of_lt_of_le hlq hb5.size
                    clear hb5 p3 p4
                    have p3 : w5.cell? ⟨wr.heap.size, 3, none⟩ = some (.int .i64 (c.line : Nat)) := Lib.cell_of_heap hp5 3
                    have p4 : w5.cell? ⟨wr.heap.size, 4, none⟩ = some (.int .i64 ((c.pos : Int) - (c.org : Int) + 1)) := Lib.cell_of_heap hp5 4
                    have HP5 := Lib.hid hp5
                    clear hp5
                    by_cases he : er = 0
                    · obtain ⟨o1, o2, o3, o4, o5⟩ := HONE.out.2 he
                      subst he o1 o2
                      have HD := Lib.hid (And.intro o4 o5)
                      have hn1 : c.pos + n1 ≤ c.s.size := o5.ok.pos
                      have HN1 := Lib.hid o3
                      clear o4 o5 o3
                      go_upto_region 23 with fail
                      obtain ⟨w6, hw6⟩ : ∃ w6, w5.alloc (.cells #[.int .i64 tk, .string (ba tt), .int .i64 tn, .int .i64 0, .int .i64 0] 95) = w6 := ⟨_, rfl⟩
                      have ht6 : w6.heap[w5.heap.size]? = some (.cells #[.int .i64 tk, .string (ba tt), .int .i64 tn, .int .i64 0, .int .i64 0] 95 (0, 0)) := by rw [← hw6]; exact heap_alloc_new _ _
                      have hp6 := alloc_cellsY HP5.out hw6
                      have HB6 := Lib.hid (show Below w1.heap.size w1 w6 by rw [← hw6]; exact HB5.out.alloc HB5.out.size _)
                      have HO6 := Lib.hid (show Ow tkc 5 w6 w1.heap.size 95 (.slice Av nv cv) c.out by rw [← hw6]; exact HO5.out.alloc _)
                      have HT6 := Lib.hid ht6
                      rw [hw6]
                      clear hw6 p3 p4
                      have hSw : (fun wy : World => wy.cell? ⟨wr.heap.size, 3, none⟩ = some (.int .i64 (c.line : Nat)) ∧ wy.cell? ⟨wr.heap.size, 4, none⟩ = some (.int .i64 ((c.pos : Int) - (c.org : Int) + 1))) w6 := ⟨Lib.cell_of_heap hp6 3, Lib.cell_of_heap hp6 4⟩
                      have y3 : w6.cell? ⟨w5.heap.size, 3, none⟩ = some (.int .i64 0) := Lib.cell_of_heap ht6 3
                      have g3 : w6.frozen? ⟨w5.heap.size, 3, none⟩ = false := Lib.frozen_of_heap ht6 3
                      have HP6 := Lib.hid hp6
                      clear ht6 hp6
                      try dsimp only at hSw
                      refine wp_region_kinds (fun wy : World => wy.cell? ⟨wr.heap.size, 3, none⟩ = some (.int .i64 (c.line : Nat)) ∧ wy.cell? ⟨wr.heap.size, 4, none⟩ = some (.int .i64 ((c.pos : Int) - (c.org : Int) + 1))) [5, 7] [] [1, 3] [0, 2, 4, 6] [0, 1, 2, 3, 4, 5, 6, 7] (by kernel_rfl) (by kernel_rfl) (fun w n h => h) ?_
                      repeat (first | (refine wpKind_free (v := ?_) (by rfl) rfl (by rfl) ?_ ?_; rotate_left 1; (focus (intro wy; go_simp; try with_reducible rfl; done)); try simp only [Act.put, List.setIfInBounds_toArray, List.set_cons_zero, List.set_cons_succ]) | (refine wpKind_held (v := ?_) (by rfl) rfl (by rfl) hSw ?_ ?_; rotate_left 1; (focus (intro wy hSy; obtain ⟨s3, s4⟩ := hSy; go_simp; try with_reducible rfl; done)); try simp only [Act.put, List.setIfInBounds_toArray, List.set_cons_zero, List.set_cons_succ]))
                      refine wpKind_keeps (by rfl) rfl (fun m1 => ?_)
                      go_wp2_with fail
                      obtain ⟨w7, hw7⟩ : ∃ w7, (w6.drewN m1).setCell ⟨w5.heap.size, 3, none⟩ (.int .i64 (c.line : Nat)) = w7 := ⟨_, rfl⟩
                      have ht7 : w7.heap[w5.heap.size]? = some (.cells #[.int .i64 tk, .string (ba tt), .int .i64 tn, .int .i64 (c.line : Nat), .int .i64 0] 95 (0, 0)) := by rw [← hw7]; exact heap_setCell_same (w6.drewN m1) w5.heap.size 3 _ _ _ HT6.out
                      have hp7 := (show w7.heap[wr.heap.size]? = w6.heap[wr.heap.size]? by rw [← hw7]; exact Below.heap_setCell (w6.drewN m1) _ _ _ (by show wr.heap.size ≠ w5.heap.size; omega)).trans HP6.out
                      have HB7 := Lib.hid (show Below w1.heap.size w1 w7 by rw [← hw7]; exact (below_drewN HB6.out m1).setCell (p := ⟨w5.heap.size, 3, none⟩) (by show w1.heap.size ≤ w5.heap.size; omega) _)
                      have HO7 := Lib.hid (show Ow tkc 5 w7 w1.heap.size 95 (.slice Av nv cv) c.out by rw [← hw7]; exact (HO6.out.drewN m1).set fun e => Nat.lt_irrefl _ (HO5.out.lt e).2)
                      rw [hw7]
                      clear hw7 y3 g3 hSw
                      show _ ∧ _
                      have hSw : (fun wy : World => wy.cell? ⟨wr.heap.size, 3, none⟩ = some (.int .i64 (c.line : Nat)) ∧ wy.cell? ⟨wr.heap.size, 4, none⟩ = some (.int .i64 ((c.pos : Int) - (c.org : Int) + 1))) w7 := ⟨Lib.cell_of_heap hp7 3, Lib.cell_of_heap hp7 4⟩
                      try dsimp only at hSw
                      refine ⟨hSw, ?_⟩
                      repeat (first | (refine wpKind_free (v := ?_) (by rfl) rfl (by rfl) ?_ ?_; rotate_left 1; (focus (intro wy; go_simp; try with_reducible rfl; done)); try simp only [Act.put, List.setIfInBounds_toArray, List.set_cons_zero, List.set_cons_succ]) | (refine wpKind_held (v := ?_) (by rfl) rfl (by rfl) hSw ?_ ?_; rotate_left 1; (focus (intro wy hSy; obtain ⟨s3, s4⟩ := hSy; go_simp; try with_reducible rfl; done)); try simp only [Act.put, List.setIfInBounds_toArray, List.set_cons_zero, List.set_cons_succ]))
                      have y4 : w7.cell? ⟨w5.heap.size, 4, none⟩ = some (.int .i64 0) := Lib.cell_of_heap ht7 4
                      have g4 : w7.frozen? ⟨w5.heap.size, 4, none⟩ = false := Lib.frozen_of_heap ht7 4
                      have HT7 := Lib.hid ht7
                      clear ht7
                      refine wpKind_keeps (by rfl) rfl (fun m2 => ?_)
                      go_wp2_with fail
                      obtain ⟨w8, hw8⟩ : ∃ w8, (w7.drewN m2).setCell ⟨w5.heap.size, 4, none⟩ (.int .i64 ((c.pos : Int) - (c.org : Int) + 1)) = w8 := ⟨_, rfl⟩
                      have ht8 : w8.heap[w5.heap.size]? = some (.cells #[.int .i64 tk, .string (ba tt), .int .i64 tn, .int .i64 (c.line : Nat), .int .i64 ((c.pos : Int) - (c.org : Int) + 1)] 95 (0, 0)) := by rw [← hw8]; exact heap_setCell_same (w7.drewN m2) w5.heap.size 4 _ _ _ HT7.out
                      have hp8 := (show w8.heap[wr.heap.size]? = w7.heap[wr.heap.size]? by rw [← hw8]; exact Below.heap_setCell (w7.drewN m2) _ _ _ (by show wr.heap.size ≠ w5.heap.size; omega)).trans hp7
                      have HB8 := Lib.hid (show Below w1.heap.size w1 w8 by rw [← hw8]; exact (below_drewN HB7.out m2).setCell (p := ⟨w5.heap.size, 4, none⟩) (by show w1.heap.size ≤ w5.heap.size; omega) _)
                      have HO8 := Lib.hid (show Ow tkc 5 w8 w1.heap.size 95 (.slice Av nv cv) c.out by rw [← hw8]; exact (HO7.out.drewN m2).set fun e => Nat.lt_irrefl _ (HO5.out.lt e).2)
                      rw [hw8]
                      clear hw8 y4 g4 hSw hp7
                      show _ ∧ _
                      refine ⟨⟨Lib.cell_of_heap hp8 3, Lib.cell_of_heap hp8 4⟩, ?_⟩
                      refine wpKind_nil fun n9 => ?_
                      obtain ⟨w9, hw9⟩ : ∃ w9, w8.drewN n9 = w9 := ⟨_, rfl⟩
                      have ht9 : w9.heap[w5.heap.size]? = _ := (show w9.heap[w5.heap.size]? = w8.heap[w5.heap.size]? by rw [← hw9]; rfl).trans ht8
                      have HB9 := Lib.hid (show Below w1.heap.size w1 w9 by rw [← hw9]; exact below_drewN HB8.out n9)
                      have HO9 := Lib.hid (show Ow tkc 5 w9 w1.heap.size 95 (.slice Av nv cv) c.out by rw [← hw9]; exact HO8.out.drewN n9)
                      rw [hw9]
                      clear hw9 hp8 ht8
                      have y0 : w9.cell? ⟨w5.heap.size, 0, none⟩ = some (.int .i64 tk) := Lib.cell_of_heap ht9 0
                      have y1 : w9.cell? ⟨w5.heap.size, 1, none⟩ = some (.string (ba tt)) := Lib.cell_of_heap ht9 1
                      have y2 : w9.cell? ⟨w5.heap.size, 2, none⟩ = some (.int .i64 tn) := Lib.cell_of_heap ht9 2
                      have y3 : w9.cell? ⟨w5.heap.size, 3, none⟩ = some (.int .i64 (c.line : Nat)) := Lib.cell_of_heap ht9 3
                      have y4 : w9.cell? ⟨w5.heap.size, 4, none⟩ = some (.int .i64 ((c.pos : Int) - (c.org : Int) + 1)) := Lib.cell_of_heap ht9 4
                      have hwn : IntKind.i64.wrap ((c.pos : Int) + (n1 : Int)) = (c.pos : Int) + (n1 : Int) := IntWalk.i64_in _ (by omega)
                      clear ht9
                      go_wp2_with (at_builtin; refine wpList_append_sl _ rfl _ _ _ rfl w1.heap.size 95 i0 _ 48 Tryz.underlying86 hi0 hz0 hz1 hz2 (by rfl) (by omega) tkc_len tkc_one _ _ c.out [⟨tk, tt, tn, c.line, (c.pos : Int) - (c.org : Int) + 1⟩] rfl rfl (HO9.out.alloc _) (Sl.newl [⟨tk, tt, tn, c.line, (c.pos : Int) - (c.org : Int) + 1⟩] tkc_len rfl rfl (by show 1 ≤ maxLen; decide) rfl) (by simp only [maxLen, List.length_cons, List.length_nil]; omega) (by simp only [List.length_cons, List.length_nil]; omega) (by have := HB9.out.size; simp; omega) ?_; intro v6 wz hown6 hg6 hmv6)
                      have hb6 : Below w1.heap.size w1 wz := (HB9.out.alloc HB9.out.size _).grown hg6 (by have := HB9.out.size; simp; omega) fun q hq => (HO9.out.lt hq).1
                      go_roundg (c.s.size + 1 - (c.pos + n1))
                      case measure => have := HN1.out; omega
                      case rel => exact ⟨hb6, .inl ⟨c.put tk tt tn n1, rfl, HD.out.1.symm.trans HFIN.out, HD.out.2, HERR.out, Nat.le_refl _, by go_num, rfl, rfl, rfl, hown6⟩⟩
                    · have HFA := Lib.hid (show (allD c.s).1 = [] ∧ (allD c.s).2 = ⟨er, c.line, (c.pos : Int) - (c.org : Int) + 1 + (by1 : Int)⟩ by
                        obtain ⟨a1, a2⟩ := y_fault hs HFIN.out (HONE.out.1 he) he
                        refine ⟨a1, a2.trans ?_⟩
                        show FaultD.mk _ _ (((c.pos + by1 : Nat) : Int) - (c.org : Int) + 1) = _
                        congr 1
                        omega)
                      have e6 : (er == 0) = false := beq_eq_false_iff_ne.2 he
                      have e7 : (er != 0) = true := by rw [bne, e6]; rfl
                      have hwb : IntKind.i64.wrap ((c.pos : Int) - (c.org : Int) + 1 + (by1 : Int)) = (c.pos : Int) - (c.org : Int) + 1 + (by1 : Int) := IntWalk.i64_in _ (by omega)
                      clear he p3 p4
                      go_upto_region 22 with fail
                      obtain ⟨wf, hwf⟩ : ∃ wf, w5.alloc (.cells #[.int .i64 tk, .string (ba tt), .int .i64 tn, .int .i64 tl, .int .i64 tcc] 95) = wf := ⟨_, rfl⟩
                      have hpf := alloc_cellsY HP5.out hwf
                      have HBf := Lib.hid (show Below w1.heap.size w1 wf by rw [← hwf]; exact HB5.out.alloc HB5.out.size _)
                      rw [hwf]
                      clear hwf HBq HOq HPQ
                      have hSw : (fun wy : World => wy.cell? ⟨wr.heap.size, 3, none⟩ = some (.int .i64 (c.line : Nat)) ∧ wy.cell? ⟨wr.heap.size, 4, none⟩ = some (.int .i64 ((c.pos : Int) - (c.org : Int) + 1))) wf := ⟨Lib.cell_of_heap hpf 3, Lib.cell_of_heap hpf 4⟩
                      clear hpf
                      have hq := (HBf.out.block w.heap.size (by have := HZW.out; omega)).trans HQ1.out
                      have HQ := Lib.hid hq
                      have x0 : wf.cell? ⟨w.heap.size, 0, none⟩ = some (.int .i64 0) := Lib.cell_of_heap hq 0
                      have x1 : wf.cell? ⟨w.heap.size, 1, none⟩ = some (.int .i64 0) := Lib.cell_of_heap hq 1
                      have x2 : wf.cell? ⟨w.heap.size, 2, none⟩ = some (.int .i64 0) := Lib.cell_of_heap hq 2
                      have f0 : wf.frozen? ⟨w.heap.size, 0, none⟩ = false := Lib.frozen_of_heap hq 0
                      have f1 : wf.frozen? ⟨w.heap.size, 1, none⟩ = false := Lib.frozen_of_heap hq 1
                      have f2 : wf.frozen? ⟨w.heap.size, 2, none⟩ = false := Lib.frozen_of_heap hq 2
                      clear hq
                      try dsimp only at hSw
                      refine wp_region_kinds (fun wy : World => wy.cell? ⟨wr.heap.size, 3, none⟩ = some (.int .i64 (c.line : Nat)) ∧ wy.cell? ⟨wr.heap.size, 4, none⟩ = some (.int .i64 ((c.pos : Int) - (c.org : Int) + 1))) [] [9] [2, 4] [0, 1, 3, 5, 6, 7, 8] [0, 1, 2, 3, 4, 5, 6, 7, 8, 9] (by kernel_rfl) (by kernel_rfl) (fun w n h => h) ?_
                      repeat (first | (refine wpKind_free (v := ?_) (by rfl) rfl (by rfl) ?_ ?_; rotate_left 1; (focus (intro wy; go_simp; try with_reducible rfl; done)); try simp only [Act.put, List.setIfInBounds_toArray, List.set_cons_zero, List.set_cons_succ]) | (refine wpKind_held (v := ?_) (by rfl) rfl (by rfl) hSw ?_ ?_; rotate_left 1; (focus (intro wy hSy; obtain ⟨s3, s4⟩ := hSy; go_simp; try with_reducible rfl; done)); try simp only [Act.put, List.setIfInBounds_toArray, List.set_cons_zero, List.set_cons_succ]))
                      refine wpKind_serial (by rfl) rfl (fun n7 => ?_)
                      go_wp2_with fail
                      show wpKind _ _ _ _ _ _ _ _ _
                      refine wpKind_nil fun n9 => ?_
                      clear x0 x1 x2 f0 f1 f2
                      go_wp2_with fail
                      obtain ⟨ra, rb, rc⟩ := set3 (.int .i64 er) (.int .i64 (c.line : Nat)) (.int .i64 ((c.pos : Int) - (c.org : Int) + 1 + (by1 : Int))) (show (wf.drewN n7).heap[w.heap.size]? = _ from HQ.out) (HB1.out.trans ((below_drewN HBf.out n7).mono HB1.out.size)) (Nat.le_refl _)
                      refine bodyPost_ret (results_tc rfl _ _ w.heap.size _ _ (0, 0) _ rfl ra Tryz.underlying61 rfl (by kernel_rfl)) rfl ⟨.slice none 0 0, ?_, ?_, below_drewN rc n9⟩
                      · rw [HFA.out.2]; rfl
                      · rw [HFA.out.1]; exact Ow.nil_
                · have hb2 : Nm.low c.byte = true ∨ Nm.dig c.byte = true := .inl (by rw [hby, ← hb]; exact hlw)
                  have hone := y_one HINV.out hend hb2
                  have hrl : c.rest.length ≤ 65536 := by unfold Cur.rest; rw [List.length_drop, Nm.len_size]; omega
                  have hrp : 0 < c.rest.length := by unfold Cur.rest; rw [List.length_drop, Nm.len_size]; omega
                  have hcut := rest_cut c
                  have hyo := fun W : World => yone_any (ba c.rest) W (by rw [ba_size]; exact hrl) (by rw [ba_size]; exact hrp)
                  rw [ba_list] at hyo
                  obtain ⟨⟨⟨tk, tt, tn, tl, tcc⟩, n1, er, by1⟩, hR⟩ : ∃ R, refOne c.rest = R := ⟨_, rfl⟩
                  have hby1 := refOne_by c.rest
                  rw [hR] at hone hyo hby1
                  dsimp only at hby1
                  have hby2 : by1 ≤ 65536 := by omega
                  dsimp only [tkc] at hone hyo
                  have HYO := Lib.hid hyo
                  have HONE := Lib.hid hone
                  have HCUT := Lib.hid hcut
                  clear hone hyo hcut hrl hrp hR hby hb hb2 hby1
                  go_wp2_with (first | (go_at_call 90; refine (yletter_any _ _).mono ?_; rintro e w' ⟨rfl, rfl⟩) | (go_at_call 91; refine (ydigit_any _ _).mono ?_; rintro e w' ⟨rfl, rfl⟩))
                  rw [HCUT.out]
                  refine (HYO.out wq).mono ?_
                  rintro e5 w5 ⟨rfl, hb5⟩
                  have hp5 := (hb5.block wr.heap.size hlq).trans HPQ.out
                  have HB5 := Lib.hid (HBq.out.trans (hb5.mono HBq.out.size))
                  have HO5 := Lib.hid (HOq.out.keepB fun b hb hb2 => hb5.block b hb2)
                  have hlq5 : wr.heap.size < w5.heap.size := Nat.lt_of_lt_of_le hlq hb5.size
                  clear hb5 p3 p4
                  have p3 : w5.cell? ⟨wr.heap.size, 3, none⟩ = some (.int .i64 (c.line : Nat)) := Lib.cell_of_heap hp5 3
                  have p4 : w5.cell? ⟨wr.heap.size, 4, none⟩ = some (.int .i64 ((c.pos : Int) - (c.org : Int) + 1)) := Lib.cell_of_heap hp5 4
                  have HP5 := Lib.hid hp5
                  clear hp5
                  by_cases he : er = 0
                  · obtain ⟨o1, o2, o3, o4, o5⟩ := HONE.out.2 he
                    subst he o1 o2
                    have HD := Lib.hid (And.intro o4 o5)
                    have hn1 : c.pos + n1 ≤ c.s.size := o5.ok.pos
                    have HN1 := Lib.hid o3
                    clear o4 o5 o3
                    go_upto_region 23 with fail
                    obtain ⟨w6, hw6⟩ : ∃ w6, w5.alloc (.cells #[.int .i64 tk, .string (ba tt), .int .i64 tn, .int .i64 0, .int .i64 0] 95) = w6 := ⟨_, rfl⟩
                    have ht6 : w6.heap[w5.heap.size]? = some (.cells #[.int .i64 tk, .string (ba tt), .int .i64 tn, .int .i64 0, .int .i64 0] 95 (0, 0)) := by rw [← hw6]; exact heap_alloc_new _ _
                    have hp6 := alloc_cellsY HP5.out hw6
                    have HB6 := Lib.hid (show Below w1.heap.size w1 w6 by rw [← hw6]; exact HB5.out.alloc HB5.out.size _)
                    have HO6 := Lib.hid (show Ow tkc 5 w6 w1.heap.size 95 (.slice Av nv cv) c.out by rw [← hw6]; exact HO5.out.alloc _)
                    have HT6 := Lib.hid ht6
                    rw [hw6]
                    clear hw6 p3 p4
                    have hSw : (fun wy : World => wy.cell? ⟨wr.heap.size, 3, none⟩ = some (.int .i64 (c.line : Nat)) ∧ wy.cell? ⟨wr.heap.size, 4, none⟩ = some (.int .i64 ((c.pos : Int) - (c.org : Int) + 1))) w6 := ⟨Lib.cell_of_heap hp6 3, Lib.cell_of_heap hp6 4⟩
                    have y3 : w6.cell? ⟨w5.heap.size, 3, none⟩ = some (.int .i64 0) := Lib.cell_of_heap ht6 3
                    have g3 : w6.frozen? ⟨w5.heap.size, 3, none⟩ = false := Lib.frozen_of_heap ht6 3
                    have HP6 := Lib.hid hp6
                    clear ht6 hp6
                    try dsimp only at hSw
                    refine wp_region_kinds (fun wy : World => wy.cell? ⟨wr.heap.size, 3, none⟩ = some (.int .i64 (c.line : Nat)) ∧ wy.cell? ⟨wr.heap.size, 4, none⟩ = some (.int .i64 ((c.pos : Int) - (c.org : Int) + 1))) [5, 7] [] [1, 3] [0, 2, 4, 6] [0, 1, 2, 3, 4, 5, 6, 7] (by kernel_rfl) (by kernel_rfl) (fun w n h => h) ?_
                    repeat (first | (refine wpKind_free (v := ?_) (by rfl) rfl (by rfl) ?_ ?_; rotate_left 1; (focus (intro wy; go_simp; try with_reducible rfl; done)); try simp only [Act.put, List.setIfInBounds_toArray, List.set_cons_zero, List.set_cons_succ]) | (refine wpKind_held (v := ?_) (by rfl) rfl (by rfl) hSw ?_ ?_; rotate_left 1; (focus (intro wy hSy; obtain ⟨s3, s4⟩ := hSy; go_simp; try with_reducible rfl; done)); try simp only [Act.put, List.setIfInBounds_toArray, List.set_cons_zero, List.set_cons_succ]))
                    refine wpKind_keeps (by rfl) rfl (fun m1 => ?_)
                    go_wp2_with fail
                    obtain ⟨w7, hw7⟩ : ∃ w7, (w6.drewN m1).setCell ⟨w5.heap.size, 3, none⟩ (.int .i64 (c.line : Nat)) = w7 := ⟨_, rfl⟩
                    have ht7 : w7.heap[w5.heap.size]? = some (.cells #[.int .i64 tk, .string (ba tt), .int .i64 tn, .int .i64 (c.line : Nat), .int .i64 0] 95 (0, 0)) := by rw [← hw7]; exact heap_setCell_same (w6.drewN m1) w5.heap.size 3 _ _ _ HT6.out
                    have hp7 := (show w7.heap[wr.heap.size]? = w6.heap[wr.heap.size]? by rw [← hw7]; exact Below.heap_setCell (w6.drewN m1) _ _ _ (by show wr.heap.size ≠ w5.heap.size; omega)).trans HP6.out
                    have HB7 := Lib.hid (show Below w1.heap.size w1 w7 by rw [← hw7]; exact (below_drewN HB6.out m1).setCell (p := ⟨w5.heap.size, 3, none⟩) (by show w1.heap.size ≤ w5.heap.size; omega) _)
                    have HO7 := Lib.hid (show Ow tkc 5 w7 w1.heap.size 95 (.slice Av nv cv) c.out by rw [← hw7]; exact (HO6.out.drewN m1).set fun e => Nat.lt_irrefl _ (HO5.out.lt e).2)
                    rw [hw7]
                    clear hw7 y3 g3 hSw
                    show _ ∧ _
                    have hSw : (fun wy : World => wy.cell? ⟨wr.heap.size, 3, none⟩ = some (.int .i64 (c.line : Nat)) ∧ wy.cell? ⟨wr.heap.size, 4, none⟩ = some (.int .i64 ((c.pos : Int) - (c.org : Int) + 1))) w7 := ⟨Lib.cell_of_heap hp7 3, Lib.cell_of_heap hp7 4⟩
                    try dsimp only at hSw
                    refine ⟨hSw, ?_⟩
                    repeat (first | (refine wpKind_free (v := ?_) (by rfl) rfl (by rfl) ?_ ?_; rotate_left 1; (focus (intro wy; go_simp; try with_reducible rfl; done)); try simp only [Act.put, List.setIfInBounds_toArray, List.set_cons_zero, List.set_cons_succ]) | (refine wpKind_held (v := ?_) (by rfl) rfl (by rfl) hSw ?_ ?_; rotate_left 1; (focus (intro wy hSy; obtain ⟨s3, s4⟩ := hSy; go_simp; try with_reducible rfl; done)); try simp only [Act.put, List.setIfInBounds_toArray, List.set_cons_zero, List.set_cons_succ]))
                    have y4 : w7.cell? ⟨w5.heap.size, 4, none⟩ = some (.int .i64 0) := Lib.cell_of_heap ht7 4
                    have g4 : w7.frozen? ⟨w5.heap.size, 4, none⟩ = false := Lib.frozen_of_heap ht7 4
                    have HT7 := Lib.hid ht7
                    clear ht7
                    refine wpKind_keeps (by rfl) rfl (fun m2 => ?_)
                    go_wp2_with fail
                    obtain ⟨w8, hw8⟩ : ∃ w8, (w7.drewN m2).setCell ⟨w5.heap.size, 4, none⟩ (.int .i64 ((c.pos : Int) - (c.org : Int) + 1)) = w8 := ⟨_, rfl⟩
                    have ht8 : w8.heap[w5.heap.size]? = some (.cells #[.int .i64 tk, .string (ba tt), .int .i64 tn, .int .i64 (c.line : Nat), .int .i64 ((c.pos : Int) - (c.org : Int) + 1)] 95 (0, 0)) := by rw [← hw8]; exact heap_setCell_same (w7.drewN m2) w5.heap.size 4 _ _ _ HT7.out
                    have hp8 := (show w8.heap[wr.heap.size]? = w7.heap[wr.heap.size]? by rw [← hw8]; exact Below.heap_setCell (w7.drewN m2) _ _ _ (by show wr.heap.size ≠ w5.heap.size; omega)).trans hp7
                    have HB8 := Lib.hid (show Below w1.heap.size w1 w8 by rw [← hw8]; exact (below_drewN HB7.out m2).setCell (p := ⟨w5.heap.size, 4, none⟩) (by show w1.heap.size ≤ w5.heap.size; omega) _)
                    have HO8 := Lib.hid (show Ow tkc 5 w8 w1.heap.size 95 (.slice Av nv cv) c.out by rw [← hw8]; exact (HO7.out.drewN m2).set fun e => Nat.lt_irrefl _ (HO5.out.lt e).2)
                    rw [hw8]
                    clear hw8 y4 g4 hSw hp7
                    show _ ∧ _
                    refine ⟨⟨Lib.cell_of_heap hp8 3, Lib.cell_of_heap hp8 4⟩, ?_⟩
                    refine wpKind_nil fun n9 => ?_
                    obtain ⟨w9, hw9⟩ : ∃ w9, w8.drewN n9 = w9 := ⟨_, rfl⟩
                    have ht9 : w9.heap[w5.heap.size]? = _ := (show w9.heap[w5.heap.size]? = w8.heap[w5.heap.size]? by rw [← hw9]; rfl).trans ht8
                    have HB9 := Lib.hid (show Below w1.heap.size w1 w9 by rw [← hw9]; exact below_drewN HB8.out n9)
                    have HO9 := Lib.hid (show Ow tkc 5 w9 w1.heap.size 95 (.slice Av nv cv) c.out by rw [← hw9]; exact HO8.out.drewN n9)
                    rw [hw9]
                    clear hw9 hp8 ht8
                    have y0 : w9.cell? ⟨w5.heap.size, 0, none⟩ = some (.int .i64 tk) := Lib.cell_of_heap ht9 0
                    have y1 : w9.cell? ⟨w5.heap.size, 1, none⟩ = some (.string (ba tt)) := Lib.cell_of_heap ht9 1
                    have y2 : w9.cell? ⟨w5.heap.size, 2, none⟩ = some (.int .i64 tn) := Lib.cell_of_heap ht9 2
                    have y3 : w9.cell? ⟨w5.heap.size, 3, none⟩ = some (.int .i64 (c.line : Nat)) := Lib.cell_of_heap ht9 3
                    have y4 : w9.cell? ⟨w5.heap.size, 4, none⟩ = some (.int .i64 ((c.pos : Int) - (c.org : Int) + 1)) := Lib.cell_of_heap ht9 4
                    have hwn : IntKind.i64.wrap ((c.pos : Int) + (n1 : Int)) = (c.pos : Int) + (n1 : Int) := IntWalk.i64_in _ (by omega)
                    clear ht9
                    go_wp2_with (at_builtin; refine wpList_append_sl _ rfl _ _ _ rfl w1.heap.size 95 i0 _ 48 Tryz.underlying86 hi0 hz0 hz1 hz2 (by rfl) (by omega) tkc_len tkc_one _ _ c.out [⟨tk, tt, tn, c.line, (c.pos : Int) - (c.org : Int) + 1⟩] rfl rfl (HO9.out.alloc _) (Sl.newl [⟨tk, tt, tn, c.line, (c.pos : Int) - (c.org : Int) + 1⟩] tkc_len rfl rfl (by show 1 ≤ maxLen; decide) rfl) (by simp only [maxLen, List.length_cons, List.length_nil]; omega) (by simp only [List.length_cons, List.length_nil]; omega) (by have := HB9.out.size; simp; omega) ?_; intro v6 wz hown6 hg6 hmv6)
                    have hb6 : Below w1.heap.size w1 wz := (HB9.out.alloc HB9.out.size _).grown hg6 (by have := HB9.out.size; simp; omega) fun q hq => (HO9.out.lt hq).1
                    go_roundg (c.s.size + 1 - (c.pos + n1))
                    case measure => have := HN1.out; omega
                    case rel => exact ⟨hb6, .inl ⟨c.put tk tt tn n1, rfl, HD.out.1.symm.trans HFIN.out, HD.out.2, HERR.out, Nat.le_refl _, by go_num, rfl, rfl, rfl, hown6⟩⟩
                  · have HFA := Lib.hid (show (allD c.s).1 = [] ∧ (allD c.s).2 = ⟨er, c.line, (c.pos : Int) - (c.org : Int) + 1 + (by1 : Int)⟩ by
                      obtain ⟨a1, a2⟩ := y_fault hs HFIN.out (HONE.out.1 he) he
                      refine ⟨a1, a2.trans ?_⟩
                      show FaultD.mk _ _ (((c.pos + by1 : Nat) : Int) - (c.org : Int) + 1) = _
                      congr 1
                      omega)
                    have e6 : (er == 0) = false := beq_eq_false_iff_ne.2 he
                    have e7 : (er != 0) = true := by rw [bne, e6]; rfl
                    have hwb : IntKind.i64.wrap ((c.pos : Int) - (c.org : Int) + 1 + (by1 : Int)) = (c.pos : Int) - (c.org : Int) + 1 + (by1 : Int) := IntWalk.i64_in _ (by omega)
                    clear he p3 p4
                    go_upto_region 22 with fail
                    obtain ⟨wf, hwf⟩ : ∃ wf, w5.alloc (.cells #[.int .i64 tk, .string (ba tt), .int .i64 tn, .int .i64 tl, .int .i64 tcc] 95) = wf := ⟨_, rfl⟩
                    have hpf := alloc_cellsY HP5.out hwf
                    have HBf := Lib.hid (show Below w1.heap.size w1 wf by rw [← hwf]; exact HB5.out.alloc HB5.out.size _)
                    rw [hwf]
                    clear hwf HBq HOq HPQ
                    have hSw : (fun wy : World => wy.cell? ⟨wr.heap.size, 3, none⟩ = some (.int .i64 (c.line : Nat)) ∧ wy.cell? ⟨wr.heap.size, 4, none⟩ = some (.int .i64 ((c.pos : Int) - (c.org : Int) + 1))) wf := ⟨Lib.cell_of_heap hpf 3, Lib.cell_of_heap hpf 4⟩
                    clear hpf
                    have hq := (HBf.out.block w.heap.size (by have := HZW.out; omega)).trans HQ1.out
                    have HQ := Lib.hid hq
                    have x0 : wf.cell? ⟨w.heap.size, 0, none⟩ = some (.int .i64 0) := Lib.cell_of_heap hq 0
                    have x1 : wf.cell? ⟨w.heap.size, 1, none⟩ = some (.int .i64 0) := Lib.cell_of_heap hq 1
                    have x2 : wf.cell? ⟨w.heap.size, 2, none⟩ = some (.int .i64 0) := Lib.cell_of_heap hq 2
                    have f0 : wf.frozen? ⟨w.heap.size, 0, none⟩ = false := Lib.frozen_of_heap hq 0
                    have f1 : wf.frozen? ⟨w.heap.size, 1, none⟩ = false := Lib.frozen_of_heap hq 1
                    have f2 : wf.frozen? ⟨w.heap.size, 2, none⟩ = false := Lib.frozen_of_heap hq 2
                    clear hq
                    try dsimp only at hSw
                    refine wp_region_kinds (fun wy : World => wy.cell? ⟨wr.heap.size, 3, none⟩ = some (.int .i64 (c.line : Nat)) ∧ wy.cell? ⟨wr.heap.size, 4, none⟩ = some (.int .i64 ((c.pos : Int) - (c.org : Int) + 1))) [] [9] [2, 4] [0, 1, 3, 5, 6, 7, 8] [0, 1, 2, 3, 4, 5, 6, 7, 8, 9] (by kernel_rfl) (by kernel_rfl) (fun w n h => h) ?_
                    repeat (first | (refine wpKind_free (v := ?_) (by rfl) rfl (by rfl) ?_ ?_; rotate_left 1; (focus (intro wy; go_simp; try with_reducible rfl; done)); try simp only [Act.put, List.setIfInBounds_toArray, List.set_cons_zero, List.set_cons_succ]) | (refine wpKind_held (v := ?_) (by rfl) rfl (by rfl) hSw ?_ ?_; rotate_left 1; (focus (intro wy hSy; obtain ⟨s3, s4⟩ := hSy; go_simp; try with_reducible rfl; done)); try simp only [Act.put, List.setIfInBounds_toArray, List.set_cons_zero, List.set_cons_succ]))
                    refine wpKind_serial (by rfl) rfl (fun n7 => ?_)
                    go_wp2_with fail
                    show wpKind _ _ _ _ _ _ _ _ _
                    refine wpKind_nil fun n9 => ?_
                    clear x0 x1 x2 f0 f1 f2
                    go_wp2_with fail
                    obtain ⟨ra, rb, rc⟩ := set3 (.int .i64 er) (.int .i64 (c.line : Nat)) (.int .i64 ((c.pos : Int) - (c.org : Int) + 1 + (by1 : Int))) (show (wf.drewN n7).heap[w.heap.size]? = _ from HQ.out) (HB1.out.trans ((below_drewN HBf.out n7).mono HB1.out.size)) (Nat.le_refl _)
                    refine bodyPost_ret (results_tc rfl _ _ w.heap.size _ _ (0, 0) _ rfl ra Tryz.underlying61 rfl (by kernel_rfl)) rfl ⟨.slice none 0 0, ?_, ?_, below_drewN rc n9⟩
                    · rw [HFA.out.2]; rfl
                    · rw [HFA.out.1]; exact Ow.nil_
    · obtain ⟨a1, a2⟩ := y_done hs herr
      obtain ⟨Av, nv, cv, rfl⟩ := ow_form ho
      rw [← a1] at ho
      have q1 : ¬ ((s.size : Int) + 1) ≤ (s.size : Int) := by omega
      have HO := Lib.hid ho
      have hq := (HB.out.block w.heap.size (by have := HZW.out; omega)).trans HQ1.out
      have HQ := Lib.hid hq
      have HA := Lib.hid a2
      have x0 : wr.cell? ⟨w.heap.size, 0, none⟩ = some (.int .i64 0) := Lib.cell_of_heap hq 0
      have x1 : wr.cell? ⟨w.heap.size, 1, none⟩ = some (.int .i64 0) := Lib.cell_of_heap hq 1
      have x2 : wr.cell? ⟨w.heap.size, 2, none⟩ = some (.int .i64 0) := Lib.cell_of_heap hq 2
      have f0 : wr.frozen? ⟨w.heap.size, 0, none⟩ = false := Lib.frozen_of_heap hq 0
      have f1 : wr.frozen? ⟨w.heap.size, 1, none⟩ = false := Lib.frozen_of_heap hq 1
      have f2 : wr.frozen? ⟨w.heap.size, 2, none⟩ = false := Lib.frozen_of_heap hq 2
      clear ho a1 a2 herr hq
      go_wp2_with fail
      clear x0 x1 x2 f0 f1 f2
      obtain ⟨ra, rb, rc⟩ := set3 (.int .i64 0) (.int .i64 0) (.int .i64 0) HQ.out (HB1.out.trans (HB.out.mono HB1.out.size)) (Nat.le_refl _)
      refine bodyPost_ret (results_tc rfl _ _ w.heap.size _ _ (0, 0) _ rfl ra Tryz.underlying61 rfl (by kernel_rfl)) rfl ⟨.slice Av nv cv, ?_, ?_, rc⟩
      · rw [HA.out]; rfl
      · exact (HO.out.keepB fun b hb _ => rb b (by have := HZW.out; omega)).lower (by have := HZW.out; omega)
end Go.Proofs.YtmihinhbcncbfaaGreatDoor
