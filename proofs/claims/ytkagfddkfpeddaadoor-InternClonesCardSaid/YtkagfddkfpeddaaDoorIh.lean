/- The walk of the law InternClones. -/
import Derived.Test.YtkagfddkfpeddaaDoorIf
namespace Go.Proofs.YtkagfddkfpeddaaDoor
open Go.RowKit Go.Maps It

namespace It
theorem newE_all : ∀ (r l : Nms), (l ++ r).Nodup → (∀ x ∈ r, Nm.name x = true) → (l ++ r).length ≤ 4096 → newE l r = 0
  | [], _, _, _, _ => rfl
  | x :: r, l, hn, hm, hl => by
    have hx : l.contains x = false := by
      cases h : l.contains x
      · rfl
      · rw [List.contains_iff_mem] at h
        exact absurd rfl ((List.nodup_append.1 hn).2.2 x h x (by simp))
    have h0 : addE l x = 0 := (add_ok (hm x (by simp)) hx (by simp only [List.length_append, List.length_cons] at hl; omega)).1
    rw [newE, if_pos h0]
    exact newE_all r (l ++ [x]) (by simpa using hn) (fun y hy => hm y (by simp [hy])) (by simpa using hl)
theorem newE_self {l : Nms} (h : Ok l) : newE [] l = 0 := newE_all l [] (by simpa using h.nd) h.nm (by simpa using h.le)
theorem newL_prefix (r l : Nms) : ∃ s, newL l r = l ++ s := by
  induction r generalizing l with
  | nil => exact ⟨[], by simp [newL]⟩
  | cons x r ih =>
    obtain ⟨s, hs⟩ := ih (addL l x)
    show ∃ s, newL (addL l x) r = l ++ s
    rw [hs]
    unfold addL
    split
    · exact ⟨[x] ++ s, by simp⟩
    · exact ⟨s, rfl⟩
theorem newL_ge (r l : Nms) : l.length ≤ (newL l r).length := by
  obtain ⟨s, hs⟩ := newL_prefix r l
  rw [hs, List.length_append]; omega
theorem newL_take (r l : Nms) : (newL l r).take l.length = l := by
  obtain ⟨s, hs⟩ := newL_prefix r l
  rw [hs, List.take_left]
/-- How many of the names are let in. -/
def cnt (l r : Nms) : Nat := (newL l r).length - l.length
theorem cnt_le (l r : Nms) : cnt l r ≤ r.length := by unfold cnt; have := newL_le r l; omega
theorem cnt_add (l r : Nms) : (newL l r).length = l.length + cnt l r := by unfold cnt; have := newL_ge r l; omega
theorem cnt_yes {l r : Nms} {x : List UInt8} (h : addE (newL l r) x = 0) : cnt l (r ++ [x]) = cnt l r + 1 := by
  unfold cnt; have := newL_ge r l
  rw [newL_snoc, addL, if_pos h, List.length_append, List.length_singleton]; omega
theorem cnt_no {l r : Nms} {x : List UInt8} (h : addE (newL l r) x ≠ 0) : cnt l (r ++ [x]) = cnt l r := by
  unfold cnt
  rw [newL_snoc, addL, if_neg h]
end It
/-- Names are added to a table, one after another. -/
def FillRel (B : Nat) (w : World) (l0 l : Nms) (p q : Nat) (s : Value) (wr : World) : Prop :=
  ∃ (k : Nat) (v : Value), k ≤ l.length ∧ s = .int .i64 (k : Int) ∧ Tbl wr B p q v (newL l0 (l.take k)) ∧ Below B w wr
/-- The same, with how many were let in. -/
def CountRel (B : Nat) (w : World) (l0 l : Nms) (p q : Nat) (n s : Value) (wr : World) : Prop :=
  ∃ (k : Nat) (v : Value), k ≤ l.length ∧ s = .int .i64 (k : Int) ∧ n = .int .i64 (cnt l0 (l.take k) : Nat) ∧ Tbl wr B p q v (newL l0 (l.take k)) ∧ Below B w wr
theorem clones_long (va vb : Value) (n m cap cap' : Nat) (A A' : Option Addr) (w : World) (hT : Tabs w) (e : va = .slice A n cap) (e' : vb = .slice A' m cap') (h : 150 < n ∨ 150 < m) : Calls Tryd.prog 6 #[va, vb] w fun e w' => e = .returned (.bool true) ∧ Below w.heap.size w w' := by
  subst e e'
  have HL := Lib.hid (lives_any w hT)
  by_cases hn : 150 < n
  · have q : decide ((150 : Int) < (n : Int)) = true := decide_eq_true (by omega)
    clear h hn
    go_enter Tryd.func6, Tryd.ntmps6
    go_wp2_with fail
    refine HL.out.mono ?_
    rintro e w1 ⟨rfl, hb⟩
    have HB := Lib.hid hb
    clear hb
    go_wp2_with fail
    go_ret
    exact ⟨rfl, HB.out⟩
  · have q : decide ((150 : Int) < (n : Int)) = false := decide_eq_false (by omega)
    have q2 : decide ((150 : Int) < (m : Int)) = true := decide_eq_true (by omega)
    clear h hn
    go_enter Tryd.func6, Tryd.ntmps6
    go_wp2_with fail
    refine HL.out.mono ?_
    rintro e w1 ⟨rfl, hb⟩
    have HB := Lib.hid hb
    clear hb
    go_wp2_with fail
    go_ret
    exact ⟨rfl, HB.out⟩
set_option maxRecDepth 100000 in
set_option maxHeartbeats 2000000 in
theorem clones_any (vl vm : Value) (l m : Nms) (w : World) {P P2 : Nat → Prop} (hs : Sl nc 1 w vl l P) (hs2 : Sl nc 1 w vm m P2) (hx : ∀ x ∈ l, x.length ≤ maxLen) (hx2 : ∀ x ∈ m, x.length ≤ maxLen) (hT : Tabs w) (hle : l.length ≤ 150) (hle2 : m.length ≤ 150) :
    Calls Tryd.prog 6 #[vl, vm] w fun e w' => e = .returned (.bool true) ∧ Below w.heap.size w w' := by
  obtain ⟨A, cap, rfl, h1, h2⟩ := hs.shape
  obtain ⟨A2, cap2, rfl, h3, h4⟩ := hs2.shape
  have HL := Lib.hid (lives_any w hT)
  have q : decide ((150 : Int) < (l.length : Int)) = false := decide_eq_false (by omega)
  have q' : decide ((150 : Int) < (m.length : Int)) = false := decide_eq_false (by omega)
  have HT0 := Lib.hid hT
  have HX := Lib.hid hx
  have HX2 := Lib.hid hx2
  have HS0 := Lib.hid hs
  have HS20 := Lib.hid hs2
  have HN0 := Lib.hid (fun wx (h : Tabs wx) => new_any wx (.slice none 0 0) [] Sl.nil_ (by simp) h (P := fun _ => True))
  clear hT hx hs hx2 hs2
  go_enter Tryd.func6, Tryd.ntmps6
  go_wp2_with fail
  refine HL.out.mono ?_
  rintro e w1 ⟨rfl, hb⟩
  have HT1 := Lib.hid (HT0.out.below hb)
  have HS1 := Lib.hid (HS0.out.below_ hb)
  have HS21 := Lib.hid (HS20.out.below_ hb)
  have HB1 := Lib.hid hb
  clear hb HT0 HS0 HS20 HL
  go_wp2_with fail
  refine (HN0.out _ HT1.out).mono ?_
  rintro e w2 (⟨_, p, q0, v0, rfl, hta, hb2⟩ | ⟨h0, _, _⟩)
  rotate_left 1
  · exact absurd rfl h0
  have R0 := Lib.hid (show FillRel w1.heap.size w1 [] l p q0 (.int .i64 ((0 : Nat) : Int)) w2 from ⟨0, v0, Nat.zero_le _, rfl, hta, hb2⟩)
  clear hta hb2 HN0
  go_wp2_with fail
  go_loopw [7] (fun s wr => FillRel w1.heap.size w1 [] l p q0 s wr) (fun s _ => l.length - (intOf s).toNat)
  case atStart => exact R0.out
  case round =>
    clear R0
    obtain ⟨k, va, hk, rfl, ht, hb⟩ := hrel
    by_cases hlt : k < l.length
    · obtain ⟨b', off, rfl⟩ := HS1.out.addr hlt
      have hc1 := (HS1.out.below_ hb).name hlt
      have hta := (newL_snoc (l.take k) [] l[k])
      rw [← List.take_succ_eq_append_getElem hlt] at hta
      have hx1 := HX.out l[k] (List.getElem_mem hlt)
      generalize l[k] = x1 at *
      have q1 : (0 : Int) ≤ (k : Int) := by omega
      have q2 : (k : Int) < (l.length : Int) := by omega
      have HTt := Lib.hid ht
      have HB := Lib.hid hb
      have HTA := Lib.hid hta
      have HX1 := Lib.hid hx1
      clear ht hb hta hx1
      go_wp2_with fail
      refine (add_any wr w1.heap.size p q0 va _ x1 HTt.out HX1.out (HT1.out.below HB.out) HB.out.size).mono ?_
      rintro e w4 hadd
      have hb4 := hadd.below HTt.out HB.out
      obtain ⟨va', rfl, ht4, _⟩ := hadd
      have R : FillRel w1.heap.size w1 [] l p q0 (.int .i64 ((k : Int) + 1)) w4 := ⟨k + 1, va', by omega, by go_num, by rw [HTA.out]; exact ht4, hb4⟩
      have HR := Lib.hid R
      clear R ht4 hb4 hc1 HTt HB
      generalize addV (newL [] (l.take k)) x1 = av at *
      generalize addE (newL [] (l.take k)) x1 = ae at *
      go_wp2_with fail
      go_roundw
      case rel => first | exact HR.out | ((repeat apply Exists.intro); exact ⟨HR.out, rfl⟩)
      case measure => simp [intOf]; omega
    · have hkr : k = l.length := by omega
      have q1 : ¬ (k : Int) < (l.length : Int) := by omega
      subst hkr
      rw [List.take_length] at ht
      obtain ⟨la, hla⟩ : ∃ la, newL [] l = la := ⟨_, rfl⟩
      have hlal : la.length ≤ 150 := by rw [← hla]; have := newL_le l []; simp only [List.length_nil] at this; omega
      rw [hla] at ht
      have HTt := Lib.hid ht
      have HB := Lib.hid (Below.lift HB1.out hb)
      have HT2 := Lib.hid (HT1.out.below hb)
      have HS22 := Lib.hid (HS21.out.below_ hb)
      clear ht hb hla HT1 HS1 HS21 HB1
      go_wp2_with fail
      refine (all_any wr _ p q0 va la HTt.out).mono ?_
      rintro e w4 ⟨v4, rfl, ho4, hb4⟩
      obtain ⟨A4, cap4, rfl, k1, k2⟩ := ho4.shape
      have HO4 := Lib.hid (ho4.sl nc_len)
      have HT4 := Lib.hid (HTt.out.below_ hb4)
      have HTb4 := Lib.hid (HT2.out.below hb4)
      have HS24 := Lib.hid (HS22.out.below_ hb4)
      have HB4 := Lib.hid (Below.lift HB.out hb4)
      clear ho4 hb4 HTt HT2 HS22 HB
      go_wp2_with fail
      refine (clone_any w4 _ p q0 va la HT4.out).mono ?_
      rintro e w5 ⟨pc, qc, vc, rfl, htc, hb5⟩
      have R1 := Lib.hid (show CountRel w4.heap.size w4 la m pc qc (.int .i64 ((0 : Nat) : Int)) (.int .i64 ((0 : Nat) : Int)) w5 from
        ⟨0, vc, Nat.zero_le _, rfl, by rw [show cnt la (m.take 0) = 0 from by simp [cnt, newL]], htc, hb5⟩)
      clear htc hb5
      go_wp2_with fail
      go_loopw [10, 11] (fun n s wr => CountRel w4.heap.size w4 la m pc qc n s wr) (fun _ s _ => m.length - (intOf s).toNat)
      case atStart => exact R1.out
      case round =>
        clear R1
        obtain ⟨j, ua, hj, rfl, rfl, ht, hb⟩ := hrel
        by_cases hlt2 : j < m.length
        · obtain ⟨b', off, rfl⟩ := HS24.out.addr hlt2
          have hc1 := (HS24.out.below_ hb).name hlt2
          have hta := (newL_snoc (m.take j) la m[j])
          have hcy := cnt_yes (l := la) (r := m.take j) (x := m[j])
          have hcn := cnt_no (l := la) (r := m.take j) (x := m[j])
          have hcl := cnt_le la (m.take j)
          rw [List.length_take] at hcl
          rw [← List.take_succ_eq_append_getElem hlt2] at hta hcy hcn
          have hx1 := HX2.out m[j] (List.getElem_mem hlt2)
          generalize m[j] = x1 at *
          have q3 : (0 : Int) ≤ (j : Int) := by omega
          have q4 : (j : Int) < (m.length : Int) := by omega
          have q5 : (cnt la (m.take j) : Int) ≤ 150 := by omega
          have q6 : (0 : Int) ≤ (cnt la (m.take j) : Int) := by omega
          have HTt := Lib.hid ht
          have HB := Lib.hid hb
          have HTA := Lib.hid hta
          have HX1 := Lib.hid hx1
          have HCY := Lib.hid hcy
          have HCN := Lib.hid hcn
          clear ht hb hta hx1 hcy hcn hcl
          go_wp2_with fail
          refine (add_any _ w4.heap.size pc qc ua _ x1 HTt.out HX1.out (HTb4.out.below HB.out) HB.out.size).mono ?_
          rintro e w6 hadd
          have hb6 := hadd.below HTt.out HB.out
          obtain ⟨ua', rfl, ht6, _⟩ := hadd
          by_cases h0 : addE (newL la (m.take j)) x1 = 0
          · have R : CountRel w4.heap.size w4 la m pc qc (.int .i64 ((cnt la (m.take j) : Nat) + 1)) (.int .i64 ((j : Int) + 1)) w6 := ⟨j + 1, ua', by omega, by go_num, by rw [HCY.out h0]; go_num, by rw [HTA.out]; exact ht6, hb6⟩
            have HR := Lib.hid R
            rw [h0]
            clear R ht6 hb6 hc1 HTt HB h0 HCY HCN HTA
            generalize addV (newL la (m.take j)) x1 = av at *
            generalize cnt la (m.take j) = cj at *
            go_wp2_with fail
            go_roundw
            case rel => first | exact HR.out | ((repeat apply Exists.intro); exact ⟨HR.out, rfl⟩)
            case measure => simp [intOf]; omega
          · have R : CountRel w4.heap.size w4 la m pc qc (.int .i64 (cnt la (m.take j) : Nat)) (.int .i64 ((j : Int) + 1)) w6 := ⟨j + 1, ua', by omega, by go_num, by rw [HCN.out h0], by rw [HTA.out]; exact ht6, hb6⟩
            have HR := Lib.hid R
            have hne : (addE (newL la (m.take j)) x1 == 0) = false := beq_eq_false_iff_ne.2 h0
            clear R ht6 hb6 hc1 HTt HB h0 HCY HCN HTA
            generalize addV (newL la (m.take j)) x1 = av at *
            generalize addE (newL la (m.take j)) x1 = ae at *
            generalize cnt la (m.take j) = cj at *
            go_wp2_with fail
            go_roundw
            case rel => first | exact HR.out | ((repeat apply Exists.intro); exact ⟨HR.out, rfl⟩)
            case measure => simp [intOf]; omega
        · have hkr : j = m.length := by omega
          have q3 : ¬ (j : Int) < (m.length : Int) := by omega
          subst hkr
          rw [List.take_length] at ht ⊢
          have hta := HT4.out.below_ hb
          have hok := hta.ok
          have hca := cnt_add la m
          have hcl := cnt_le la m
          have htk := newL_take m la
          have HTa := Lib.hid hta
          have HTc := Lib.hid ht
          have HOw := Lib.hid (HO4.out.below_ hb)
          have HTw := Lib.hid (HTb4.out.below hb)
          have HBw := Lib.hid (Below.lift HB4.out hb)
          have HE := Lib.hid (newE_self hok)
          have HTk := Lib.hid htk
          clear hta ht hb hok htk HT4 HTb4 HS24 HB4 HO4
          obtain ⟨all, hall⟩ : ∃ all, newL la m = all := ⟨_, rfl⟩
          rw [hall] at HTc hca HTk
          generalize cnt la m = cj at *
          have HCa := Lib.hid hca
          clear hall hca
          go_wp2_with fail
          refine (all_any _ _ p q0 va la HTa.out).mono ?_
          rintro e w7 ⟨v7, rfl, ho7, hb7⟩
          have HO7 := Lib.hid (ho7.sl nc_len)
          have HB7 := Lib.hid hb7
          clear ho7 hb7
          go_wp2_with fail
          refine (new_any w7 v7 la HO7.out (fun x hx => by have := Nm.name_len (HTa.out.ok.nm x hx); unfold maxLen; omega) (HTw.out.below HB7.out)).mono ?_
          rintro e w8 (⟨_, pu, qu, vu, rfl, htu, hb8⟩ | ⟨h0, _, _⟩)
          rotate_left 1
          · exact absurd HE.out h0
          have HB8 := Lib.hid (Below.lift HB7.out hb8)
          have HTu := Lib.hid htu
          clear htu hb8 HO7 HB7
          go_wp2_with fail
          refine (all_any w8 _ p q0 va la (HTa.out.below_ HB8.out)).mono ?_
          rintro e w9 ⟨v9, rfl, ho9, hb9⟩
          have HS9 := Lib.hid (sameStr_self v9 _ la w9 (ho9.sl nc_len) ((HOw.out.below_ HB8.out).below_ hb9) (by omega))
          have HB9 := Lib.hid hb9
          clear ho9 hb9
          go_wp2_with fail
          refine HS9.out.mono ?_
          rintro e w' ⟨rfl, n9, rfl⟩
          clear HS9
          go_wp2_with fail
          refine (all_any (w9.drewN n9) _ pu qu vu la ((HTu.out.below_ HB9.out).drewN n9)).mono ?_
          rintro e w10 ⟨v10, rfl, ho10, hb10⟩
          have hb10' : Below w9.heap.size w9 w10 := ⟨hb10.os, hb10.tape, hb10.output, hb10.size, hb10.block⟩
          have HB10 := Lib.hid (Below.lift (Below.lift HB8.out HB9.out) hb10')
          have HS10 := Lib.hid (sameStr_self v10 _ la w10 (ho10.sl nc_len) (HOw.out.below_ HB10.out) (by omega))
          clear ho10 hb10 hb10' HTu HB8 HB9
          go_wp2_with fail
          refine HS10.out.mono ?_
          rintro e w' ⟨rfl, n10, rfl⟩
          clear HS10
          have hlc := len_any (w10.drewN n10) _ pc qc ua all ((HTc.out.below_ HB10.out).drewN n10)
          rw [HCa.out, Int.natCast_add] at hlc
          have HLc := Lib.hid hlc
          have HLt := Lib.hid (len_any (w10.drewN n10) _ p q0 va la ((HTa.out.below_ HB10.out).drewN n10))
          have hn1 : ((la.length : Int) + (cj : Int) != (la.length : Int) + (cj : Int)) = false := bne_self_eq_false _
          have hn2 : ((la.length : Int) != (la.length : Int)) = false := bne_self_eq_false _
          have q5 : (0 : Int) ≤ (cj : Int) := by omega
          have q6 : (cj : Int) ≤ 150 := by omega
          have q7 : (la.length : Int) ≤ 150 := by omega
          clear hlc
          go_wp2_with fail
          refine HLc.out.mono ?_
          rintro e w' ⟨rfl, rfl⟩
          go_wp2_with fail
          refine HLt.out.mono ?_
          rintro e w' ⟨rfl, rfl⟩
          go_wp2_with fail
          refine (all_any _ _ pc qc ua all ((HTc.out.below_ HB10.out).drewN n10)).mono ?_
          rintro e w11 ⟨v11, rfl, ho11, hb11⟩
          obtain ⟨A11, cap11, rfl, c1, c2⟩ := ho11.shape
          have hbg := (ho11.begin nc_len (k := la.length) (by rw [HCa.out]; omega)).sl nc_len
          rw [HTk.out] at hbg
          rw [HCa.out] at c1 ⊢
          have hb11' : Below w10.heap.size w10 w11 := ⟨hb11.os, hb11.tape, hb11.output, hb11.size, hb11.block⟩
          have HB11 := Lib.hid (Below.lift HB10.out hb11')
          have HS11 := Lib.hid (sameStr_self _ _ la w11 hbg (HOw.out.below_ HB11.out) (by omega))
          have q8 : (la.length : Int) ≤ (cap11 : Int) := by omega
          have q9 : (cap11 : Int) ≤ 9223372036854775807 := by unfold maxLen at c2; omega
          have hn3 : ((la.length : Int) + (cj : Int) == (la.length : Int) + (cj : Int)) = true := beq_self_eq_true _
          clear ho11 hbg hb11 hb11'
          go_wp2_with fail
          refine HS11.out.mono ?_
          rintro e w' ⟨rfl, n11, rfl⟩
          go_wp2_with fail
          go_ret
          exact ⟨rfl, below_drewN (Below.lift HBw.out HB11.out) n11⟩
theorem clones_all (vl vm : Value) (l m : Nms) (w : World) {P P2 : Nat → Prop} (hs : Sl nc 1 w vl l P) (hs2 : Sl nc 1 w vm m P2) (hx : ∀ x ∈ l, x.length ≤ maxLen) (hx2 : ∀ x ∈ m, x.length ≤ maxLen) (hT : Tabs w) :
    Calls Tryd.prog 6 #[vl, vm] w fun e w' => e = .returned (.bool true) ∧ Below w.heap.size w w' := by
  by_cases h : l.length ≤ 150 ∧ m.length ≤ 150
  · exact clones_any vl vm l m w hs hs2 hx hx2 hT h.1 h.2
  · obtain ⟨A, cap, e, _, _⟩ := hs.shape
    obtain ⟨A', cap', e', _, _⟩ := hs2.shape
    exact clones_long vl vm l.length m.length cap cap' A A' w hT e e' (by omega)
end Go.Proofs.YtkagfddkfpeddaaDoor
