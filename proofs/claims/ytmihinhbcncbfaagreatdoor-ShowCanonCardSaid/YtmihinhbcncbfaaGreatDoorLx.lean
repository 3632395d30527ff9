/- The walks of lex.Reserved and lex.Name; the table of blanks. -/
import Derived.Test.YtmihinhbcncbfaaGreatDoorLw
import Derived.Test.YtmihinhbcncbfaaGreatDoorShelf
namespace Go.Proofs.YtmihinhbcncbfaaGreatDoor
open Go.RowKit

/-- The library's table of blanks holds what it was laid with. -/
def Tabs (w : World) : Prop := (∀ c : Nat, c < 256 → w.cell? ⟨1, c, none⟩ = some (.int .u8 (if Lib.isSp (UInt8.ofNat c) then 1 else 0))) ∧ 1 < w.heap.size
theorem Tabs.below {w w' : World} (h : Tabs w) (hb : Below w.heap.size w w') : Tabs w' :=
  ⟨fun c hc => (hb.cell (p := ⟨1, c, none⟩) h.2).trans (h.1 c hc), Nat.lt_of_lt_of_le h.2 hb.size⟩
theorem Tabs.below' {B : Nat} {w w' : World} (h : Tabs w) (hB : 1 < B) (hb : Below B w w') : Tabs w' :=
  ⟨fun c hc => (hb.cell (p := ⟨1, c, none⟩) hB).trans (h.1 c hc), Nat.lt_of_lt_of_le h.2 hb.size⟩
theorem Tabs.drewN {w : World} (h : Tabs w) (n : Nat) : Tabs (w.drewN n) := h
def resTA : ByteArray := ⟨Nm.resT.toArray⟩
theorem resTA_asc : ∀ (j : Nat) b, resTA.data.toList[j]? = some b → b.toNat < 128 := by
  have h : ∀ x ∈ Nm.resT, x.toNat < 128 := by decide
  intro j b hb
  exact h b (List.mem_of_getElem? (by simpa [resTA] using hb))
theorem fields_any (w : World) (hT : Tabs w) : Calls Tryz.prog 121 #[.string resTA] w fun e w' => e = .returned (.slice (some ⟨w.heap.size, 0, none⟩) 15 15) ∧ w' = w.alloc (.cells (resA.flatMap sc).toArray 9) := by
  have h := Any.strings_Fields_core Tryz.lays157 (by kernel_rfl) resTA w (by decide) resTA_asc hT.1
  refine h.mono ?_
  have e1 : Lib.fields resTA.data.toList = Nm.resW := Nm.fields_res
  rw [e1]
  rintro e w' ⟨he, hw⟩
  exact ⟨he, hw⟩
theorem containsS_res (s : ByteArray) : Lib.containsS (resA.take 15) s = Nm.res s.data.toList := by
  rw [Bool.eq_iff_iff, Lib.containsS_iff, show resA.take 15 = resA from rfl]
  constructor
  · intro h
    obtain ⟨k, hk, e⟩ := List.getElem_of_mem h
    exact res_yes hk e
  · intro h
    refine Classical.byContradiction fun hn => ?_
    rw [res_no (s := s) fun k hk e => hn (by rw [← e]; exact List.getElem_mem hk)] at h
    cases h
set_option maxHeartbeats 1000000 in
theorem lres_any (s : ByteArray) (w : World) (hT : Tabs w) : Calls Tryz.prog 103 #[.string s] w fun e w' => e = .returned (.bool (Nm.res s.data.toList)) ∧ Below w.heap.size w w' := by
  have HF := Lib.hid (fields_any w hT)
  obtain ⟨w1, hw1⟩ : ∃ w1, w.alloc (.cells (resA.flatMap sc).toArray 9) = w1 := ⟨_, rfl⟩
  have hb : Below w.heap.size w w1 := by rw [← hw1]; exact (Below.refl _ _).alloc (Nat.le_refl _) _
  have hS : Sl sc 1 w1 (.slice (some ⟨w.heap.size, 0, none⟩) 15 15) resA (fun _ => True) := by rw [← hw1]; exact slRes w
  have HC := Lib.hid (Any.slices_Contains_string Tryz.lays110 w.heap.size 0 15 15 resA s w1 (by decide) (by decide) (fun j hj => by
    obtain ⟨b, off, cap, e, _, _, _, _, h5⟩ := hS.at_ hj
    injection e with e e' e''
    injection e with e
    injection e with e1 e2 e3
    subst e1 e2
    have h6 := h5 0 (.string resA[j]) rfl
    rw [Nat.mul_one, Nat.add_zero] at h6
    rw [h6, List.getD_eq_getElem?_getD, List.getElem?_eq_getElem hj]; rfl))
  rw [hw1] at HF
  have HB := Lib.hid hb
  have HE := Lib.hid (containsS_res s)
  clear hw1 hb hS hT
  go_enter Tryz.func103, Tryz.ntmps103
  go_wp2_with fail
  refine HF.out.mono ?_
  rintro e w' ⟨rfl, rfl⟩
  go_wp2_with fail
  refine HC.out.mono ?_
  rintro e w' ⟨rfl, rfl⟩
  rw [HE.out]
  go_wp2_with fail
  go_ret
  exact ⟨rfl, HB.out⟩
set_option maxHeartbeats 1000000 in
theorem lname_any (s : ByteArray) (w : World) (hs : s.size ≤ maxLen) (hT : Tabs w) : Calls Tryz.prog 71 #[.string s] w fun e w' => e = .returned (.bool (Nm.name s.data.toList)) ∧ Below w.heap.size w w' := by
  have hlen := Nm.len_size s
  by_cases h0 : s.size = 0
  · have e : Nm.name s.data.toList = false := by unfold Nm.name Nm.word; rw [decide_eq_false (show ¬ 0 < s.data.toList.length by omega)]; rfl
    have h1 : (s.toList == []) = true := by
      rw [ByteArray.toList_eq, beq_iff_eq]; exact List.eq_nil_of_length_eq_zero (by omega)
    have h2 : s = ByteArray.empty := ByteArray.ext (Array.ext' (List.eq_nil_of_length_eq_zero (hlen.trans h0)))
    rw [e]
    subst h2
    clear e h0 hlen h1
    go_enter Tryz.func71, Tryz.ntmps71
    go_wp2_with fail
    go_ret
    exact ⟨rfl, Below.refl _ _⟩
  have h1 : (s.toList == []) = false := by
    rw [ByteArray.toList_eq]
    refine beq_eq_false_iff_ne.2 fun e => h0 ?_
    rw [← hlen, e]; rfl
  by_cases h2 : (24 : Int) < (s.size : Int)
  · have e : Nm.name s.data.toList = false := by unfold Nm.name Nm.word; rw [decide_eq_false (show ¬ s.data.toList.length ≤ 24 by omega), Bool.and_false]; rfl
    rw [e]
    clear e h0 hlen
    go_enter Tryz.func71, Tryz.ntmps71
    go_wp2_with fail
    go_ret
    exact ⟨rfl, Below.refl _ _⟩
  have h2' : decide ((24 : Int) < (s.size : Int)) = false := decide_eq_false h2
  have hp : 0 < s.size := by omega
  have hhd := Nm.head_at s hp
  have hcl := Nm.cls_low s[0]
  have HCl := Lib.hid (class_any s[0] w)
  have E := Lib.hid (show Nm.name s.data.toList = (Nm.low s[0] && Nm.tailB s.data.toList && !Nm.res s.data.toList) by
    unfold Nm.name Nm.word Nm.tailB
    rw [hhd, decide_eq_true (show 0 < s.data.toList.length by omega), decide_eq_true (show s.data.toList.length ≤ 24 by omega)]; simp)
  have HR := Lib.hid (lres_any s w hT)
  have HN := Lib.hid (run_any s)
  have hrn : ((Nm.pre Nm.more s.data.toList : Nat) : Int) = (s.size : Int) ↔ Nm.tailB s.data.toList = true := by
    rw [← hlen, Int.natCast_inj]; exact Nm.pre_all _ _
  obtain ⟨r, hr⟩ : ∃ r : Nat, Nm.pre Nm.more s.data.toList = r := ⟨_, rfl⟩
  rw [hr] at hrn HN
  have HRN := Lib.hid hrn
  rw [E.out]
  generalize Nm.tailB s.data.toList = tb at *
  generalize Nm.res s.data.toList = rs at *
  have hs' := hs
  unfold maxLen at hs'
  clear hhd hlen h0 h2 hr hrn E
  cases hl : Nm.low s[0]
  · rw [hl] at hcl
    simp only [Bool.false_and]
    go_enter Tryz.func71, Tryz.ntmps71
    go_wp2_with fail
    refine HCl.out.mono ?_
    rintro e w' ⟨rfl, rfl⟩
    go_wp2_with fail
    go_ret
    exact ⟨rfl, Below.refl _ _⟩
  · rw [hl] at hcl
    simp only [Bool.true_and]
    cases rs
    · simp only [Bool.not_false, Bool.and_true]
      go_enter Tryz.func71, Tryz.ntmps71
      go_wp2_with fail
      refine HCl.out.mono ?_
      rintro e w' ⟨rfl, rfl⟩
      go_wp2_with fail
      refine HR.out.mono ?_
      rintro e w1 ⟨rfl, hb⟩
      have HB := Lib.hid hb
      clear hb
      go_wp2_with fail
      refine (HN.out w1 hs).mono ?_
      rintro e w' ⟨rfl, rfl⟩
      go_wp2_with fail
      go_ret
      refine ⟨ret_bool ?_, HB.out⟩
      have := HRN.out
      cases tb
      · refine beq_eq_false_iff_ne.2 fun e => ?_
        cases this.1 (by exact_mod_cast e)
      · rw [beq_iff_eq]; exact_mod_cast this.2 rfl
    · simp only [Bool.not_true, Bool.and_false]
      go_enter Tryz.func71, Tryz.ntmps71
      go_wp2_with fail
      refine HCl.out.mono ?_
      rintro e w' ⟨rfl, rfl⟩
      go_wp2_with fail
      refine HR.out.mono ?_
      rintro e w1 ⟨rfl, hb⟩
      have HB := Lib.hid hb
      clear hb
      go_wp2_with fail
      go_ret
      exact ⟨rfl, HB.out⟩
end Go.Proofs.YtmihinhbcncbfaaGreatDoor
