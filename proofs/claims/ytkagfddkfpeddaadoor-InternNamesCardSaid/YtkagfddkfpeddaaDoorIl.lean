/- The walk of the law InternNames. -/
import Derived.Test.YtkagfddkfpeddaaDoorIf
import Derived.Lib.ConvBytes
import Derived.IntWalk
namespace Go.Proofs.YtkagfddkfpeddaaDoor
open Go.RowKit Go.Maps It

namespace It
/-- The name number i. -/
def nm (i : Nat) : List UInt8 := [120, UInt8.ofNat (97 + i % 16), UInt8.ofNat (97 + i / 16 % 16), UInt8.ofNat (97 + i / 256)]
theorem low_of {k : Nat} (h : k < 16) : Nm.low (UInt8.ofNat (97 + k)) = true := by
  unfold Nm.low
  rw [UInt8.toNat_ofNat', Nat.mod_eq_of_lt (by omega)]
  exact decide_eq_true (by omega)
theorem more_of {k : Nat} (h : k < 16) : Nm.more (UInt8.ofNat (97 + k)) = true := by unfold Nm.more; rw [low_of h]; rfl
theorem res_four : ∀ w ∈ Nm.resW, w.length = 4 → w.headD 0 ≠ 120 := by decide
theorem nm_name {i : Nat} (h : i < 4096) : Nm.name (nm i) = true := by
  have h1 : i / 256 < 16 := by omega
  have hw : Nm.word (nm i) = true := by
    have a1 := more_of (Nat.mod_lt i (show 0 < 16 by decide))
    have a2 := more_of (Nat.mod_lt (i / 16) (show 0 < 16 by decide))
    have a3 := more_of h1
    unfold nm
    generalize UInt8.ofNat (97 + i % 16) = a at *
    generalize UInt8.ofNat (97 + i / 16 % 16) = b at *
    generalize UInt8.ofNat (97 + i / 256) = c at *
    have b1 : Nm.low 120 = true := by decide
    have b2 : Nm.more 120 = true := by decide
    simp [Nm.word, a1, a2, a3, b1, b2]
  have hr : Nm.res (nm i) = false := by
    cases hr : Nm.res (nm i)
    · rfl
    · unfold Nm.res at hr
      rw [List.contains_iff_mem] at hr
      exact absurd rfl (res_four _ hr rfl)
  unfold Nm.name
  rw [hw, hr]; rfl
theorem ofNat_inj {a b : Nat} (ha : a < 256) (hb : b < 256) (h : UInt8.ofNat a = UInt8.ofNat b) : a = b := by
  have := congrArg UInt8.toNat h
  rwa [UInt8.toNat_ofNat', UInt8.toNat_ofNat', Nat.mod_eq_of_lt ha, Nat.mod_eq_of_lt hb] at this
theorem nm_inj {i j : Nat} (hi : i < 4096) (hj : j < 4096) (h : nm i = nm j) : i = j := by
  simp only [nm, List.cons.injEq, and_true, true_and] at h
  have h1 := ofNat_inj (by omega) (by omega) h.1
  have h2 := ofNat_inj (by omega) (by omega) h.2.1
  have h3 := ofNat_inj (by omega) (by omega) h.2.2
  omega
/-- The first k of them. -/
def nms (k : Nat) : Nms := (List.range k).map nm
theorem nms_len (k : Nat) : (nms k).length = k := by simp [nms]
theorem nms_succ (k : Nat) : nms (k + 1) = nms k ++ [nm k] := by unfold nms; rw [List.range_succ, List.map_append]; rfl
theorem nms_new {k : Nat} (h : k < 4096) : (nms k).contains (nm k) = false := by
  cases hc : (nms k).contains (nm k)
  · rfl
  · rw [List.contains_iff_mem] at hc
    obtain ⟨j, hj, e⟩ := List.mem_map.1 hc
    rw [List.mem_range] at hj
    have := nm_inj (by omega) h e
    omega
theorem nms_y : (nms 4096).contains [121] = false := by
  cases hc : (nms 4096).contains [121]
  · rfl
  · rw [List.contains_iff_mem] at hc
    obtain ⟨j, _, e⟩ := List.mem_map.1 hc
    simp [nm] at e
theorem nms_0 : (nms 4096).contains [120, 97, 97, 97] = true := by
  rw [List.contains_iff_mem]
  exact List.mem_map.2 ⟨0, by simp, rfl⟩
end It
/-- The name's bytes behind its first one, as a slice, made a string. -/
def nmt (i : Nat) : List UInt8 := [UInt8.ofNat (97 + i % 16), UInt8.ofNat (97 + i / 16 % 16), UInt8.ofNat (97 + i / 256)]
theorem nm_run (w : World) (k : Nat) (h : k < 4096) : (convert 37 9 (.slice (some ⟨w.heap.size, 0, none⟩) 3 3)).run Tryd.prog (w.alloc (.cells #[.int .u8 (97 + (k : Int) % 16), .int .u8 (97 + (k : Int) / 16 % 16), .int .u8 (97 + (k : Int) / 256)] 5)) =
    .ok (.string (ba (nmt k))) (w.alloc (.cells #[.int .u8 (97 + (k : Int) % 16), .int .u8 (97 + (k : Int) / 16 % 16), .int .u8 (97 + (k : Int) / 256)] 5)) := by
  have e : ∀ j : Nat, j < 16 → ((UInt8.ofNat (97 + j)).toNat : Int) = 97 + (j : Int) := fun j hj => by rw [UInt8.toNat_ofNat', Nat.mod_eq_of_lt (by omega)]; omega
  refine run_convert_bytes_back (P := Tryd.prog) _ 37 9 5 ⟨w.heap.size, 0, none⟩ 3 (nmt k) Tryd.underlying37 Tryd.underlying5 Tryd.underlying9 fun j hj => ?_
  have hc := cell_of_row _ w.heap.size j _ _ (0, 0) (heap_alloc_new w (.cells #[.int .u8 (97 + (k : Int) % 16), .int .u8 (97 + (k : Int) / 16 % 16), .int .u8 (97 + (k : Int) / 256)] 5))
  have ha : (⟨w.heap.size, 0, none⟩ : Addr).add j = ⟨w.heap.size, j, none⟩ := by
    unfold Addr.add; split
    · rename_i h0; rw [h0]
    · simp
  rw [ha, hc]
  match j, hj with
  | 0, _ => show some (Value.int .u8 _) = some (Value.int .u8 ((UInt8.ofNat (97 + k % 16)).toNat : Int)); rw [e _ (by omega)]; rfl
  | 1, _ => show some (Value.int .u8 _) = some (Value.int .u8 ((UInt8.ofNat (97 + k / 16 % 16)).toNat : Int)); rw [e _ (by omega)]; rfl
  | 2, _ => show some (Value.int .u8 _) = some (Value.int .u8 ((UInt8.ofNat (97 + k / 256)).toNat : Int)); rw [e _ (by omega)]; rfl
theorem nm_app (k : Nat) : (⟨#[120]⟩ : ByteArray) ++ ba (nmt k) = ba (nm k) := by
  apply ByteArray.ext
  rw [ByteArray.data_append]
  simp [ba, nmt, nm]
def NamesRel (B : Nat) (w : World) (p q : Nat) (s : Value) (wr : World) : Prop :=
  ∃ (k : Nat) (v : Value), k ≤ 4096 ∧ s = .int .i64 (k : Int) ∧ Tbl wr B p q v (nms k) ∧ Below B w wr
set_option maxRecDepth 100000 in
set_option maxHeartbeats 3000000 in
theorem names_any (w : World) (hT : Tabs w) : Calls Tryd.prog 4 #[] w fun e w' => e = .returned (.bool true) ∧ Below w.heap.size w w' := by
  have HA := Lib.hid (fun (wx : World) (h : Tabs wx) => new_any _ _ [[97], [97]] (sl_lit wx [[97], [97]] (by decide) 9) (by decide) (h.below ((Below.refl _ wx).alloc (Nat.le_refl _) _)))
  have HB := Lib.hid (fun (wx : World) (h : Tabs wx) => new_any _ _ [[65]] (sl_lit wx [[65]] (by decide) 9) (by decide) (h.below ((Below.refl _ wx).alloc (Nat.le_refl _) _)))
  have HN0 := Lib.hid (fun wx (h : Tabs wx) => new_any wx (.slice none 0 0) [] Sl.nil_ (by simp) h (P := fun _ => True))
  have HL := Lib.hid (fun wx h => lives_any wx h)
  have HT0 := Lib.hid hT
  clear hT
  go_enter Tryd.func4, Tryd.ntmps4
  go_wp2_with fail
  refine (HA.out w HT0.out).mono ?_
  rintro e w1 (⟨h0, _⟩ | ⟨_, he, hb⟩)
  · exact absurd h0 (by decide)
  rw [show newE [] [[97], [97]] = 6 from by decide] at he
  subst he
  have hb1 := Below.lift ((Below.refl _ w).alloc (Nat.le_refl _) _) hb
  have HT1 := Lib.hid (HT0.out.below hb1)
  have HB1 := Lib.hid hb1
  clear hb hb1
  go_wp2_with fail
  refine (HB.out w1 HT1.out).mono ?_
  rintro e w2 (⟨h0, _⟩ | ⟨_, he, hb⟩)
  · exact absurd h0 (by decide)
  rw [show newE [] [[65]] = 7 from by decide] at he
  subst he
  have hb2 := Below.lift HB1.out (Below.lift ((Below.refl _ w1).alloc (Nat.le_refl _) _) hb)
  have HT2 := Lib.hid (HT0.out.below hb2)
  have HB2 := Lib.hid hb2
  clear hb hb2 HT1 HB1 HA HB
  go_wp2_with fail
  refine (HN0.out _ HT2.out).mono ?_
  rintro e w3 (⟨_, p, q0, v0, rfl, hta, hb3⟩ | ⟨h0, _, _⟩)
  rotate_left 1
  · exact absurd rfl h0
  have R0 := Lib.hid (show NamesRel w2.heap.size w2 p q0 (.int .i64 ((0 : Nat) : Int)) w3 from ⟨0, v0, Nat.zero_le _, rfl, hta, hb3⟩)
  clear hta hb3 HN0
  go_wp2_with fail
  go_loopw [7] (fun s wr => NamesRel w2.heap.size w2 p q0 s wr) (fun s _ => 4096 - (intOf s).toNat)
  case atStart => exact R0.out
  case round =>
    clear R0
    obtain ⟨k, va, hk, rfl, ht, hb⟩ := hrel
    by_cases hlt : k < 4096
    · have q1 : (0 : Int) ≤ (k : Int) := by omega
      have q2 : (k : Int) < 4096 := by omega
      have HTt := Lib.hid ht
      have HB := Lib.hid hb
      clear ht hb
      have hcv := nm_run wr k hlt
      have hap := nm_app k
      obtain ⟨ws, hws⟩ : ∃ ws, wr.alloc (.cells #[.int .u8 (97 + (k : Int) % 16), .int .u8 (97 + (k : Int) / 16 % 16), .int .u8 (97 + (k : Int) / 256)] 5) = ws := ⟨_, rfl⟩
      have hbs : Below wr.heap.size wr ws := by rw [← hws]; exact (Below.refl _ _).alloc (Nat.le_refl _) _
      rw [hws] at hcv
      have hadd := add_any ws w2.heap.size p q0 va (nms k) (nm k) (HTt.out.below_ hbs) (by simp [nm, maxLen]) (HT2.out.below (Below.lift HB.out hbs)) (Below.lift HB.out hbs).size
      obtain ⟨r1, r2, r3⟩ := add_ok (nm_name hlt) (nms_new hlt) (by rw [nms_len]; exact hlt)
      have HAdd := Lib.hid hadd
      have HTs := Lib.hid (HTt.out.below_ hbs)
      have HBs := Lib.hid (Below.lift HB.out hbs)
      rw [nms_len] at r2
      have HR := Lib.hid (And.intro r1 (And.intro r2 r3))
      have hne : ((k : Int) != (k : Int)) = false := bne_self_eq_false _
      clear hadd r1 r2 r3 hbs
      go_wp2_with fail
      refine HAdd.out.mono ?_
      rintro e w5 hadd
      have hb5 := hadd.below HTs.out HBs.out
      obtain ⟨va', rfl, ht5, _⟩ := hadd
      rw [HR.out.1, HR.out.2.1]
      rw [HR.out.2.2, ← nms_succ] at ht5
      have R : NamesRel w2.heap.size w2 p q0 (.int .i64 ((k : Int) + 1)) w5 := ⟨k + 1, va', by omega, by go_num, ht5, hb5⟩
      have HR2 := Lib.hid R
      clear R ht5 hb5 hcv hap hws HR
      go_wp2_with fail
      go_roundw
      case rel => first | exact HR2.out | ((repeat apply Exists.intro); exact ⟨HR2.out, rfl⟩)
      case measure => simp [intOf]; omega
    · obtain rfl : k = 4096 := by omega
      have HTt := Lib.hid ht
      have HB := Lib.hid hb
      have hy := add_any wr w2.heap.size p q0 va (nms 4096) [121] ht (by decide) (HT2.out.below hb) hb.size
      obtain ⟨r1, r2, r3⟩ := add_long (l := nms 4096) (x := [121]) (by decide) nms_y (by rw [nms_len]; exact Nat.le_refl _)
      have HY := Lib.hid hy
      have HR := Lib.hid (And.intro r1 (And.intro r2 r3))
      obtain ⟨t1, t2, t3⟩ := add_there (l := nms 4096) (x := [120, 97, 97, 97]) (by decide) nms_0
      have HR0 := Lib.hid (And.intro t1 (And.intro t2 t3))
      have HY2 := Lib.hid nms_y
      have HLn := Lib.hid (nms_len 4096)
      clear r1 r2 r3 t1 t2 t3 ht hb hy
      generalize nms 4096 = big at *
      have q1 : ¬ (((4096 : Nat) : Int) < 4096) := by omega
      go_wp2_with fail
      refine HY.out.mono ?_
      rintro e w5 hadd
      have hb5 := hadd.below HTt.out HB.out
      obtain ⟨v5, rfl, ht5, _⟩ := hadd
      rw [HR.out.1, HR.out.2.1]
      rw [HR.out.2.2] at ht5
      have HT5 := Lib.hid ht5
      have HB5 := Lib.hid hb5
      have hz := add_any w5 w2.heap.size p q0 v5 big [120, 97, 97, 97] ht5 (by decide) (HT2.out.below hb5) hb5.size
      have HZ := Lib.hid hz
      clear ht5 hb5 hz HTt HB HY
      go_wp2_with fail
      refine HZ.out.mono ?_
      rintro e w6 hadd
      have hb6 := hadd.below HT5.out HB5.out
      obtain ⟨v6, rfl, ht6, _⟩ := hadd
      rw [HR0.out.1, HR0.out.2.1]
      rw [HR0.out.2.2] at ht6
      have hnu := num_any w6 _ p q0 v6 big [121] ht6 (by decide)
      rw [HY2.out] at hnu
      have HNu := Lib.hid hnu
      have hna := nameAt_any w6 _ p q0 v6 big 4096 ht6
      rw [show nameV big 4096 = [] from by unfold nameV; rw [if_neg (by rw [HLn.out]; omega)], show nameB big 4096 = false from decide_eq_false (by rw [HLn.out]; omega)] at hna
      have HNa := Lib.hid hna
      have HT6 := Lib.hid ht6
      have HB6 := Lib.hid hb6
      clear ht6 hb6 hnu hna HT5 HB5
      generalize num big [121] = ny at *
      go_wp2_with fail
      refine HNu.out.mono ?_
      rintro e w' ⟨rfl, rfl⟩
      go_wp2_with fail
      refine HNa.out.mono ?_
      rintro e w' ⟨rfl, rfl⟩
      have hze : ((ba []).toList == []) = true := by rw [ba_toList]; rfl
      go_wp2_with fail
      refine (HL.out _ (HT2.out.below HB6.out)).mono ?_
      rintro e w7 ⟨rfl, hb7⟩
      have hln := len_any w7 _ p q0 v6 big (HT6.out.below_ hb7)
      rw [HLn.out] at hln
      have HLen := Lib.hid hln
      have HB7 := Lib.hid (Below.lift HB2.out (Below.lift HB6.out hb7))
      clear hb7 hln
      go_wp2_with fail
      refine HLen.out.mono ?_
      rintro e w' ⟨rfl, rfl⟩
      go_wp2_with fail
      go_ret
      exact ⟨rfl, HB7.out⟩
end Go.Proofs.YtkagfddkfpeddaaDoor
