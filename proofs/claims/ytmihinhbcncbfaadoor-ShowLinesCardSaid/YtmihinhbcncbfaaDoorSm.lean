/- The law ShowLines: its walk. Printed by wip/bin/gensl.py. -/
import Derived.Test.YtmihinhbcncbfaaDoorSm0
import Derived.Test.YtmihinhbcncbfaaDoorMh
namespace Go.Proofs.YtmihinhbcncbfaaDoor
open Go.RowKit
theorem wrap_small {n : Int} (h0 : 0 ≤ n) (h1 : n ≤ 1000000000) : IntKind.wrap .i64 n = n := by
  have e : n % (18446744073709551616 : Int) = n := Int.emod_eq_of_lt h0 (by omega)
  show (if (true && decide (n % (18446744073709551616 : Int) ≥ (9223372036854775808 : Int))) = true then n % (18446744073709551616 : Int) - 18446744073709551616 else n % (18446744073709551616 : Int)) = n
  rw [e, if_neg (by simp; omega)]
theorem text_step {L : Nms} {k : Nat} {y : ByteArray} (h : k < L.length) (hy : ba L[k] = y) : ba (textL (L.take k)) ++ y ++ ⟨#[10]⟩ = ba (textL (L.take (k + 1))) := by
  subst hy
  rw [take_succ_eq L k h]
  unfold textL
  rw [List.flatMap_append]
  apply ByteArray.ext
  simp [ba, ByteArray.data_append]
theorem neat_bytes {s : List UInt8} {y : ByteArray} (h : Neat s) (hy : ba s = y) : ∀ j (h : j < y.size), 32 ≤ y[j].toNat ∧ y[j].toNat ≤ 122 ∧ (y[j].toNat = 32 → 0 < j ∧ j + 1 < y.size ∧ ∀ (h2 : j - 1 < y.size), y[j - 1].toNat ≠ 32) := by
  subst hy
  obtain ⟨_, h⟩ := h
  intro j hj
  have hj' : j < s.length := by rw [← ba_size]; exact hj
  have e : ∀ i (hi : i < (ba s).size) (hi' : i < s.length), (ba s)[i]'hi = s[i]'hi' := fun i hi hi' => by
    show s.toArray[i]'_ = _
    exact List.getElem_toArray _
  obtain ⟨h1, h2, h3⟩ := h j s[j] (List.getElem?_eq_getElem hj')
  rw [e j hj hj']
  refine ⟨h1, h2, fun h32 => ?_⟩
  obtain ⟨h4, h5, h6⟩ := h3 (UInt8.toNat_inj.1 h32)
  refine ⟨h4, by rw [ba_size]; exact h5, fun h7 => ?_⟩
  have h8 : j - 1 < s.length := by omega
  rw [e _ (by rw [ba_size]; exact h8) h8]
  exact fun h9 => h6 _ (List.getElem?_eq_getElem h8) (UInt8.toNat_inj.1 h9)
set_option maxHeartbeats 4000000 in
set_option maxRecDepth 100000 in
theorem slines_dark (w : World) (x : SheetM) {P : Nat → Prop} (hg : x.Good w P) (ha : x.Arg w) (hT : Tabs w) (hP : Pow w) (hl : lightD x.d 60 = false) : Calls Tryd.prog 5 #[x.v] w fun e w' => e = .returned (.bool true) ∧ Below w.heap.size w w' := by
  obtain ⟨w1, hw1⟩ : ∃ w1, w.alloc (.cells x.c.toArray 29) = w1 := ⟨_, rfl⟩
  have hS1 : SheetAt w.heap.size x w1 := by rw [← hw1]; exact SheetAt.of (heap_alloc_new _ _)
  have hb1 : Below w.heap.size w w1 := by rw [← hw1]; exact (Below.refl _ _).alloc (Nat.le_refl _) _
  have HB1 := Lib.hid hb1
  have HS1 := Lib.hid hS1
  have HLT := Lib.hid (show w.heap.size < w1.heap.size by rw [← hw1]; simp)
  have HG1 := Lib.hid (hg.below_ hb1)
  have HT1 := Lib.hid (hT.below hb1)
  have HP1 := Lib.hid (hP.below hb1)
  have HM := Lib.hid (arg_names ha)
  obtain ⟨As, cs, Ap, cp, Ad, cd, Ar, cr, At, ct, Ah, ch, es, ep, ed, er, et, eh⟩ := SheetAt.forms hg
  have cells : ∀ wx, SheetAt w.heap.size x wx → wx.cell? ⟨w.heap.size, 0, none⟩ = some (.int .i64 x.hor) ∧ wx.cell? ⟨w.heap.size, 1, none⟩ = some (.slice As x.stops.length cs) ∧ wx.cell? ⟨w.heap.size, 2, none⟩ = some (.slice Ap x.paths.length cp) ∧ wx.cell? ⟨w.heap.size, 3, none⟩ = some (.slice Ad x.doors.length cd) ∧ wx.cell? ⟨w.heap.size, 4, none⟩ = some (.slice Ar x.routes.length cr) ∧ wx.cell? ⟨w.heap.size, 5, none⟩ = some (.slice At x.trips.length ct) ∧ wx.cell? ⟨w.heap.size, 6, none⟩ = some (.slice Ah x.hazs.length ch) := by
    rintro wx ⟨s0, s1, s2, s3, s4, s5, s6⟩
    rw [es] at s1
    rw [ep] at s2
    rw [ed] at s3
    rw [er] at s4
    rw [et] at s5
    rw [eh] at s6
    exact ⟨s0, s1, s2, s3, s4, s5, s6⟩
  have CELLS := Lib.hid fun wx (hb : Below w1.heap.size w1 wx) => cells wx (hS1.below hb (by rw [← hw1]; simp))
  have V : x.v = .agg #[.int .i64 x.hor, .slice As x.stops.length cs, .slice Ap x.paths.length cp, .slice Ad x.doors.length cd, .slice Ar x.routes.length cr, .slice At x.trips.length ct, .slice Ah x.hazs.length ch] := by
    unfold SheetM.v; rw [es, ep, ed, er, et, eh]
  have HLI := Lib.hid fun wy (hb : Below w1.heap.size w1 wy) => V ▸ light_any wy x (HG1.out.below_ hb)
  unfold SheetM.c at hw1
  rw [es, ep, ed, er, et, eh] at hw1
  have HEP := Lib.hid ep
  have HED := Lib.hid ed
  have HER := Lib.hid er
  have HET := Lib.hid et
  have HEH := Lib.hid eh
  have HV := Lib.hid V
  rw [V]
  clear V es ep ed er et eh hS1 hb1 cells hg hT hP ha
  rw [hl] at HLI
  clear hl
  go_enter Tryd.func5, Tryd.ntmps5
  go_wp2_with fail
  refine (lives_any w1 HP1.out).mono ?_
  rintro e w2 ⟨rfl, hb2⟩
  have HB2 := Lib.hid hb2
  clear hb2
  obtain ⟨c0, c1, c2, c3, c4, c5, c6⟩ := CELLS.out w2 HB2.out
  go_wp2_with fail
  refine (HLI.out w2 HB2.out).mono ?_
  rintro e w3 ⟨rfl, hb3⟩
  have HB3 := Lib.hid (HB2.out.trans (hb3.mono HB2.out.size))
  clear hb3 hw1 c0 c1 c2 c3 c4 c5 c6
  go_wp2_with fail
  go_ret
  exact ⟨rfl, HB1.out.trans (HB3.out.mono HB1.out.size)⟩
set_option maxHeartbeats 4000000 in
set_option maxRecDepth 100000 in
theorem slines_bad (w : World) (x : SheetM) {P : Nat → Prop} (hg : x.Good w P) (ha : x.Arg w) (hT : Tabs w) (hP : Pow w) (hl : lightD x.d 60 = true) (hc : checkD x.d ≠ 0) : Calls Tryd.prog 5 #[x.v] w fun e w' => e = .returned (.bool true) ∧ Below w.heap.size w w' := by
  obtain ⟨w1, hw1⟩ : ∃ w1, w.alloc (.cells x.c.toArray 29) = w1 := ⟨_, rfl⟩
  have hS1 : SheetAt w.heap.size x w1 := by rw [← hw1]; exact SheetAt.of (heap_alloc_new _ _)
  have hb1 : Below w.heap.size w w1 := by rw [← hw1]; exact (Below.refl _ _).alloc (Nat.le_refl _) _
  have HB1 := Lib.hid hb1
  have HS1 := Lib.hid hS1
  have HLT := Lib.hid (show w.heap.size < w1.heap.size by rw [← hw1]; simp)
  have HG1 := Lib.hid (hg.below_ hb1)
  have HT1 := Lib.hid (hT.below hb1)
  have HP1 := Lib.hid (hP.below hb1)
  have HM := Lib.hid (arg_names ha)
  obtain ⟨As, cs, Ap, cp, Ad, cd, Ar, cr, At, ct, Ah, ch, es, ep, ed, er, et, eh⟩ := SheetAt.forms hg
  have cells : ∀ wx, SheetAt w.heap.size x wx → wx.cell? ⟨w.heap.size, 0, none⟩ = some (.int .i64 x.hor) ∧ wx.cell? ⟨w.heap.size, 1, none⟩ = some (.slice As x.stops.length cs) ∧ wx.cell? ⟨w.heap.size, 2, none⟩ = some (.slice Ap x.paths.length cp) ∧ wx.cell? ⟨w.heap.size, 3, none⟩ = some (.slice Ad x.doors.length cd) ∧ wx.cell? ⟨w.heap.size, 4, none⟩ = some (.slice Ar x.routes.length cr) ∧ wx.cell? ⟨w.heap.size, 5, none⟩ = some (.slice At x.trips.length ct) ∧ wx.cell? ⟨w.heap.size, 6, none⟩ = some (.slice Ah x.hazs.length ch) := by
    rintro wx ⟨s0, s1, s2, s3, s4, s5, s6⟩
    rw [es] at s1
    rw [ep] at s2
    rw [ed] at s3
    rw [er] at s4
    rw [et] at s5
    rw [eh] at s6
    exact ⟨s0, s1, s2, s3, s4, s5, s6⟩
  have CELLS := Lib.hid fun wx (hb : Below w1.heap.size w1 wx) => cells wx (hS1.below hb (by rw [← hw1]; simp))
  have V : x.v = .agg #[.int .i64 x.hor, .slice As x.stops.length cs, .slice Ap x.paths.length cp, .slice Ad x.doors.length cd, .slice Ar x.routes.length cr, .slice At x.trips.length ct, .slice Ah x.hazs.length ch] := by
    unfold SheetM.v; rw [es, ep, ed, er, et, eh]
  have HLI := Lib.hid fun wy (hb : Below w1.heap.size w1 wy) => V ▸ light_any wy x (HG1.out.below_ hb)
  unfold SheetM.c at hw1
  rw [es, ep, ed, er, et, eh] at hw1
  have HEP := Lib.hid ep
  have HED := Lib.hid ed
  have HER := Lib.hid er
  have HET := Lib.hid et
  have HEH := Lib.hid eh
  have HV := Lib.hid V
  rw [V]
  clear V es ep ed er et eh hS1 hb1 cells hg hT hP ha
  rw [hl] at HLI
  have HL1 := Lib.hid fun wy (hb : Below w1.heap.size w1 wy) => HV.out ▸ lines_bad wy x (HG1.out.below_ hb) (light_few hl) (light_long hl) (HT1.out.below hb) HM.out hc
  have HX1 := Lib.hid fun wy (hb : Below w1.heap.size w1 wy) => HV.out ▸ text_bad wy x (HG1.out.below_ hb) (light_few hl) (light_long hl) (HT1.out.below hb) HM.out hc
  generalize checkD x.d = q at *
  have hq : (q == 0) = false := beq_eq_false_iff_ne.2 hc
  have hq2 : (q != 0) = true := by rw [bne, hq]; rfl
  have hq3 : (q != q) = false := by rw [bne, beq_self_eq_true]; rfl
  have hq4 : ((ba []).toList == []) = true := by rw [ba_toList]; rfl
  clear hl
  go_enter Tryd.func5, Tryd.ntmps5
  go_wp2_with fail
  refine (lives_any w1 HP1.out).mono ?_
  rintro e w2 ⟨rfl, hb2⟩
  have HB2 := Lib.hid hb2
  clear hb2
  obtain ⟨c0, c1, c2, c3, c4, c5, c6⟩ := CELLS.out w2 HB2.out
  go_wp2_with fail
  refine (HLI.out w2 HB2.out).mono ?_
  rintro e w3 ⟨rfl, hb3⟩
  have HB3 := Lib.hid (HB2.out.trans (hb3.mono HB2.out.size))
  clear hb3 hw1 c0 c1 c2 c3 c4 c5 c6
  obtain ⟨c0, c1, c2, c3, c4, c5, c6⟩ := CELLS.out w3 HB3.out
  go_wp2_with fail
  refine (HL1.out w3 HB3.out).mono ?_
  rintro e w4 ⟨rfl, hb4⟩
  have HB4 := Lib.hid (HB3.out.trans (hb4.mono HB3.out.size))
  clear hb4 c0 c1 c2 c3 c4 c5 c6
  obtain ⟨c0, c1, c2, c3, c4, c5, c6⟩ := CELLS.out w4 HB4.out
  go_wp2_with fail
  refine (HX1.out w4 HB4.out).mono ?_
  rintro e w5 ⟨rfl, hb5⟩
  have HB5 := Lib.hid (HB4.out.trans (hb5.mono HB4.out.size))
  clear hb5 c0 c1 c2 c3 c4 c5 c6
  go_wp2_with fail
  go_ret
  exact ⟨rfl, HB1.out.trans (HB5.out.mono HB1.out.size)⟩
set_option maxHeartbeats 16000000 in
set_option maxRecDepth 100000 in
theorem slines_ok (w : World) (x : SheetM) {P : Nat → Prop} (hg : x.Good w P) (ha : x.Arg w) (hT : Tabs w) (hP : Pow w) (hl : lightD x.d 60 = true) (hc : checkD x.d = 0) : Calls Tryd.prog 5 #[x.v] w fun e w' => e = .returned (.bool true) ∧ Below w.heap.size w w' := by
  obtain ⟨w1, hw1⟩ : ∃ w1, w.alloc (.cells x.c.toArray 29) = w1 := ⟨_, rfl⟩
  have hS1 : SheetAt w.heap.size x w1 := by rw [← hw1]; exact SheetAt.of (heap_alloc_new _ _)
  have hb1 : Below w.heap.size w w1 := by rw [← hw1]; exact (Below.refl _ _).alloc (Nat.le_refl _) _
  have HB1 := Lib.hid hb1
  have HS1 := Lib.hid hS1
  have HLT := Lib.hid (show w.heap.size < w1.heap.size by rw [← hw1]; simp)
  have HG1 := Lib.hid (hg.below_ hb1)
  have HT1 := Lib.hid (hT.below hb1)
  have HP1 := Lib.hid (hP.below hb1)
  have HM := Lib.hid (arg_names ha)
  obtain ⟨As, cs, Ap, cp, Ad, cd, Ar, cr, At, ct, Ah, ch, es, ep, ed, er, et, eh⟩ := SheetAt.forms hg
  have cells : ∀ wx, SheetAt w.heap.size x wx → wx.cell? ⟨w.heap.size, 0, none⟩ = some (.int .i64 x.hor) ∧ wx.cell? ⟨w.heap.size, 1, none⟩ = some (.slice As x.stops.length cs) ∧ wx.cell? ⟨w.heap.size, 2, none⟩ = some (.slice Ap x.paths.length cp) ∧ wx.cell? ⟨w.heap.size, 3, none⟩ = some (.slice Ad x.doors.length cd) ∧ wx.cell? ⟨w.heap.size, 4, none⟩ = some (.slice Ar x.routes.length cr) ∧ wx.cell? ⟨w.heap.size, 5, none⟩ = some (.slice At x.trips.length ct) ∧ wx.cell? ⟨w.heap.size, 6, none⟩ = some (.slice Ah x.hazs.length ch) := by
    rintro wx ⟨s0, s1, s2, s3, s4, s5, s6⟩
    rw [es] at s1
    rw [ep] at s2
    rw [ed] at s3
    rw [er] at s4
    rw [et] at s5
    rw [eh] at s6
    exact ⟨s0, s1, s2, s3, s4, s5, s6⟩
  have CELLS := Lib.hid fun wx (hb : Below w1.heap.size w1 wx) => cells wx (hS1.below hb (by rw [← hw1]; simp))
  have V : x.v = .agg #[.int .i64 x.hor, .slice As x.stops.length cs, .slice Ap x.paths.length cp, .slice Ad x.doors.length cd, .slice Ar x.routes.length cr, .slice At x.trips.length ct, .slice Ah x.hazs.length ch] := by
    unfold SheetM.v; rw [es, ep, ed, er, et, eh]
  have HLI := Lib.hid fun wy (hb : Below w1.heap.size w1 wy) => V ▸ light_any wy x (HG1.out.below_ hb)
  unfold SheetM.c at hw1
  rw [es, ep, ed, er, et, eh] at hw1
  have HEP := Lib.hid ep
  have HED := Lib.hid ed
  have HER := Lib.hid er
  have HET := Lib.hid et
  have HEH := Lib.hid eh
  have HV := Lib.hid V
  rw [V]
  clear V es ep ed er et eh hS1 hb1 cells hg hT hP ha
  rw [hl] at HLI
  have HL1 := Lib.hid fun wy (hb : Below w1.heap.size w1 wy) => HV.out ▸ lines_ok wy x (HG1.out.below_ hb) (light_few hl) (light_long hl) (HT1.out.below hb) (HP1.out.below hb) HM.out hc
  have HX1 := Lib.hid fun wy (hb : Below w1.heap.size w1 wy) => HV.out ▸ text_ok wy x (HG1.out.below_ hb) (light_few hl) (light_long hl) (HT1.out.below hb) (HP1.out.below hb) HM.out hc
  have HTH := Lib.hid fun wy (hb : Below w1.heap.size w1 wy) => HV.out ▸ things_any wy x (HG1.out.below_ hb) (light_few hl)
  have HNE := Lib.hid (lines_neat x.d hc)
  have HLE := Lib.hid (linesD_le x hc)
  have HLN := linesD_len x (light_few hl)
  have HCT := Lib.hid (lines_count x)
  have HFI := Lib.hid (fine_of x hc)
  have HAP := Lib.hid (at_path x)
  have HAD := Lib.hid (at_door x)
  have HAR := Lib.hid (at_route x)
  have HAT := Lib.hid (at_trip x)
  have HAH := Lib.hid (at_haz x)
  obtain ⟨⟨n1, n2, n3, n4, n5, n6⟩, _⟩ := light_parts hl
  have n7 : thingsD x.d ≤ 360 := by unfold thingsD; simp only [SheetM.d, List.length_map]; omega
  generalize linesD x.d = L at *
  generalize thingsD x.d = TH at *
  clear hl hc
  go_enter Tryd.func5, Tryd.ntmps5
  go_wp2_with fail
  refine (lives_any w1 HP1.out).mono ?_
  rintro e w2 ⟨rfl, hb2⟩
  have HB2 := Lib.hid hb2
  clear hb2
  obtain ⟨c0, c1, c2, c3, c4, c5, c6⟩ := CELLS.out w2 HB2.out
  go_wp2_with fail
  refine (HLI.out w2 HB2.out).mono ?_
  rintro e w3 ⟨rfl, hb3⟩
  have HB3 := Lib.hid (HB2.out.trans (hb3.mono HB2.out.size))
  clear hb3 hw1 c0 c1 c2 c3 c4 c5 c6
  obtain ⟨c0, c1, c2, c3, c4, c5, c6⟩ := CELLS.out w3 HB3.out
  go_wp2_with fail
  refine (HL1.out w3 HB3.out).mono ?_
  rintro e w4 ⟨v, rfl, ho, hb4⟩
  have HB4 := Lib.hid (HB3.out.trans (hb4.mono HB3.out.size))
  have HSLV := Lib.hid ((ho.sl nc_len).mono (P' := fun _ => True) fun _ _ => trivial)
  obtain ⟨lb, lo, lc, rfl, hlc, hlm, hlb, _, hlx⟩ := HSLV.out.form (by have := HCT.out; omega)
  have HLB := Lib.hid hlb
  have HLX := Lib.hid hlx
  clear hb4 ho hlb hlx c0 c1 c2 c3 c4 c5 c6
  obtain ⟨c0, c1, c2, c3, c4, c5, c6⟩ := CELLS.out w4 HB4.out
  go_wp2_with fail
  refine (HX1.out w4 HB4.out).mono ?_
  rintro e w5 ⟨rfl, hb5⟩
  have HB5 := Lib.hid (HB4.out.trans (hb5.mono HB4.out.size))
  have HLX5 := Lib.hid fun k (hk : k < L.length) => (show w5.cell? ⟨lb, lo + k, none⟩ = some (.string (ba L[k])) from (hb5.cell (p := ⟨lb, lo + k, none⟩) HLB.out).trans (by simpa using HLX.out k _ (List.getElem?_eq_getElem hk) 0 _ rfl))
  have HLB5 := Lib.hid (show lb < w5.heap.size from Nat.lt_of_lt_of_le HLB.out hb5.size)
  clear hb5 c0 c1 c2 c3 c4 c5 c6
  go_wp2_with fail
  go_loopw [7, 8, 9, 10] (fun t s _ _ wr => ∃ k : Nat, k ≤ L.length ∧ s = .int .i64 k ∧ t = .string (ba (textL (L.take k))) ∧ wr = w5) (fun _ s _ _ _ => L.length - (intOf s).toNat)
  case atStart => exact ⟨0, Nat.zero_le _, rfl, rfl, rfl⟩
  case round =>
    obtain ⟨k, hk, rfl, rfl, rfl⟩ := hrel
    by_cases hlt : k < L.length
    · have hx := HLX5.out k hlt
      obtain ⟨y, hy⟩ : ∃ y, ba L[k] = y := ⟨_, rfl⟩
      rw [hy] at hx
      have HY := Lib.hid hy
      clear hy
      have ts : (ba (textL (L.take k))).size ≤ 30000000 := by
        rw [ba_size]
        have h1 := textL_le (L.take k) (B := 4000) fun s hs => HLE.out s (List.mem_of_mem_take hs)
        have h2 : (L.take k).length ≤ 6200 := by rw [List.length_take]; omega
        have h3 := Nat.mul_le_mul_right 4001 h2
        omega
      have ys : y.size ≤ 4000 := by rw [← HY.out, ba_size]; exact HLE.out _ (List.getElem_mem hlt)
      have HN := Lib.hid (show ∀ j (h : j < y.size), 32 ≤ y[j].toNat ∧ y[j].toNat ≤ 122 ∧ (y[j].toNat = 32 → 0 < j ∧ j + 1 < y.size ∧ ∀ (h2 : j - 1 < y.size), y[j - 1].toNat ≠ 32) from neat_bytes (HNE.out _ (List.getElem_mem hlt)) HY.out)
      go_wp2_with fail
      go_loopw [9, 10] (fun s _ wq => ∃ j : Nat, j ≤ y.size ∧ s = .int .i64 j ∧ wq = wr) (fun s _ _ => y.size - (intOf s).toNat)
      case atStart => exact ⟨0, Nat.zero_le _, rfl, rfl⟩
      case round =>
        obtain ⟨j, hj, rfl, rfl⟩ := hrel
        by_cases hjl : j < y.size
        · obtain ⟨b1, b2, b3⟩ := HN.out j hjl
          by_cases h32 : y[j].toNat = 32
          · obtain ⟨b4, b5, b6⟩ := b3 h32
            obtain ⟨i, rfl⟩ : ∃ i, j = i + 1 := ⟨j - 1, by omega⟩
            have hil : i < y.size := by omega
            have b7 : y[i].toNat ≠ 32 := b6 (by omega)
            have b8 : ((y[i].toNat : Int) == 32) = false := beq_eq_false_iff_ne.2 (by omega)
            have b9 : ¬ ((y[i].toNat : Int) = 32) := by omega
            have bA : ((i : Int) + 1 == 0) = false := beq_eq_false_iff_ne.2 (by omega)
            have bB : ((i : Int) + 1 + 1 == (y.size : Int)) = false := beq_eq_false_iff_ne.2 (by omega)
            clear b6 b3
            go_wp2_with fail
            go_roundw
            case rel => exact ⟨i + 2, by omega, by go_num, trivial⟩
            case measure => simp [intOf]; omega
          · clear b3
            go_wp2_with fail
            go_roundw
            case rel => exact ⟨j + 1, by omega, by go_num, trivial⟩
            case measure => simp [intOf]; omega
        · have hje : j = y.size := by omega
          have E := Lib.hid (show ba (textL (L.take k)) ++ y ++ ⟨#[10]⟩ = ba (textL (L.take (k + 1))) from text_step hlt HY.out)
          go_wp2_with fail
          go_roundw
          case rel => exact ⟨k + 1, by omega, by go_num, by rw [E.out], trivial⟩
          case measure => simp [intOf]; omega
    · have hke : k = L.length := by omega
      subst hke
      rw [List.take_of_length_le (Nat.le_refl _)] at *
      have z1 : ((ba (textL L)).toList != (ba (textL L)).toList) = false := by rw [bne, beq_self_eq_true]; rfl
      obtain ⟨c0, c1, c2, c3, c4, c5, c6⟩ := CELLS.out wr HB5.out
      go_wp2_with fail
      refine (HTH.out wr HB5.out).mono ?_
      rintro e w6 ⟨rfl, hb6⟩
      have HB6 := Lib.hid (HB5.out.trans (hb6.mono HB5.out.size))
      have HLX6 := Lib.hid fun k (hk : k < L.length) => (hb6.cell (p := ⟨lb, lo + k, none⟩) HLB5.out).trans (HLX5.out k hk)
      have HLB6 := Lib.hid (Nat.lt_of_lt_of_le HLB5.out hb6.size)
      have z2 : ((L.length : Int) == 1 + (TH : Int)) = true := beq_iff_eq.2 (by have := HCT.out; omega)
      have z3 : ((L.length : Int) != 1 + (TH : Int)) = false := by rw [bne, z2]; rfl
      clear hb6 c0 c1 c2 c3 c4 c5 c6
      obtain ⟨c0, c1, c2, c3, c4, c5, c6⟩ := CELLS.out w6 HB6.out
      go_wp2_with fail
      have BASE := HB6
      clear c0 c1 c2 c3 c4 c5 c6
      go_loopw [12] (fun s wq => ∃ k : Nat, k ≤ x.paths.length ∧ s = .int .i64 k ∧ Below w6.heap.size w6 wq) (fun s _ => x.paths.length - (intOf s).toNat)
      case atStart => exact ⟨0, Nat.zero_le _, rfl, Below.refl _ _⟩
      case round =>
        obtain ⟨k, hk, rfl, hb⟩ := hrel
        have hbW := BASE.out.trans (hb.mono BASE.out.size)
        obtain ⟨c0, c1, c2, c3, c4, c5, c6⟩ := CELLS.out wr hbW
        by_cases hlt : k < x.paths.length
        · have hst := (HG1.out.below_ hbW).paths
          rw [HEP.out] at hst
          obtain ⟨b1, o1, p1, e1, _, _, hl1, _, hxx⟩ := hst.at_ hlt
          injection e1 with e1 e2 e3
          subst e1 e3
          obtain ⟨y, hye⟩ : ∃ y, x.paths[k] = y := ⟨_, rfl⟩
          have hmem : y ∈ x.paths := hye ▸ List.getElem_mem hlt
          have q0 := HAP.out k hlt
          rw [hye] at hxx q0
          obtain ⟨q1, q2⟩ := List.getElem?_eq_some_iff.1 q0
          have hs : wr.cell? ⟨lb, lo + (1 + x.stops.length + k), none⟩ = some (.string (ba (pathL y))) := by rw [← q2]; exact (hb.cell (p := ⟨lb, lo + (1 + x.stops.length + k), none⟩) HLB6.out).trans (HLX6.out _ q1)
          have hx0 : wr.cell? ⟨b1, o1 + k * 4, none⟩ = some (.string (ba y.name)) := by simpa using hxx 0 _ rfl
          have hx1 : wr.cell? ⟨b1, o1 + k * 4 + 1, none⟩ = some (.string (ba y.a)) := by simpa using hxx 1 _ rfl
          have hx2 : wr.cell? ⟨b1, o1 + k * 4 + 2, none⟩ = some (.string (ba y.b)) := by simpa using hxx 2 _ rfl
          have hx3 : wr.cell? ⟨b1, o1 + k * 4 + 3, none⟩ = some (.int .i64 y.len) := by simpa using hxx 3 _ rfl
          have HC := Lib.hid fun wy (hbY : Below w1.heap.size w1 wy) => (show Calls Tryd.prog 17 #[.agg #[.string (ba y.name), .string (ba y.a), .string (ba y.b), .int .i64 y.len]] wy fun e w' => e = .returned (.string (ba (pathL y))) ∧ Below wy.heap.size wy w' from (path_any wy y (HP1.out.below hbY) (HFI.out.paths y hmem).1 (HFI.out.paths y hmem).2))
          generalize pathL y = zt at *
          have zz : ((ba zt).toList != (ba zt).toList) = false := by rw [bne, beq_self_eq_true]; rfl
          have zy : ((ba zt).toList == (ba zt).toList) = true := beq_self_eq_true _
          have hwr : IntKind.wrap .i64 (1 + (x.stops.length : Int) + (k : Int)) = ((1 + x.stops.length + k : Nat) : Int) := by rw [wrap_small (by omega) (by omega)]; omega
          have hnt : (1 + (x.stops.length : Int) + (k : Int)).toNat = 1 + x.stops.length + k := by omega
          have r1 : (0 : Int) ≤ 1 + (x.stops.length : Int) + (k : Int) := by omega
          have r2 : 1 + (x.stops.length : Int) + (k : Int) < (L.length : Int) := by omega
          have r3 : (0 : Int) ≤ (k : Int) := by omega
          have r4 : (k : Int) < (x.paths.length : Int) := by omega
          clear hxx hst q0 q2 hmem
          have hSw : (fun wy => wy.cell? ⟨lb, lo + (1 + x.stops.length + k), none⟩ = some (.string (ba zt)) ∧ wy.cell? ⟨w.heap.size, 2, none⟩ = some (.slice (some ⟨b1, o1, none⟩) x.paths.length cp) ∧ wy.cell? ⟨b1, o1 + k * 4, none⟩ = some (.string (ba y.name)) ∧ wy.cell? ⟨b1, o1 + k * 4 + 1, none⟩ = some (.string (ba y.a)) ∧ wy.cell? ⟨b1, o1 + k * 4 + 2, none⟩ = some (.string (ba y.b)) ∧ wy.cell? ⟨b1, o1 + k * 4 + 3, none⟩ = some (.int .i64 y.len)) wr := ⟨hs, c2, hx0, hx1, hx2, hx3⟩
          have hK : ∀ (wa wb : World), Below wa.heap.size wa wb → wr.heap.size ≤ wa.heap.size → (fun wy => wy.cell? ⟨lb, lo + (1 + x.stops.length + k), none⟩ = some (.string (ba zt)) ∧ wy.cell? ⟨w.heap.size, 2, none⟩ = some (.slice (some ⟨b1, o1, none⟩) x.paths.length cp) ∧ wy.cell? ⟨b1, o1 + k * 4, none⟩ = some (.string (ba y.name)) ∧ wy.cell? ⟨b1, o1 + k * 4 + 1, none⟩ = some (.string (ba y.a)) ∧ wy.cell? ⟨b1, o1 + k * 4 + 2, none⟩ = some (.string (ba y.b)) ∧ wy.cell? ⟨b1, o1 + k * 4 + 3, none⟩ = some (.int .i64 y.len)) wa → (fun wy => wy.cell? ⟨lb, lo + (1 + x.stops.length + k), none⟩ = some (.string (ba zt)) ∧ wy.cell? ⟨w.heap.size, 2, none⟩ = some (.slice (some ⟨b1, o1, none⟩) x.paths.length cp) ∧ wy.cell? ⟨b1, o1 + k * 4, none⟩ = some (.string (ba y.name)) ∧ wy.cell? ⟨b1, o1 + k * 4 + 1, none⟩ = some (.string (ba y.a)) ∧ wy.cell? ⟨b1, o1 + k * 4 + 2, none⟩ = some (.string (ba y.b)) ∧ wy.cell? ⟨b1, o1 + k * 4 + 3, none⟩ = some (.int .i64 y.len)) wb := by
            intro wa wb hbb hle hS9
            obtain ⟨t0, t1, u0, u1, u2, u3⟩ := hS9
            exact ⟨(hbb.cell (p := ⟨lb, lo + (1 + x.stops.length + k), none⟩) (Nat.lt_of_lt_of_le (Nat.lt_of_lt_of_le HLB6.out hb.size) hle)).trans t0, (hbb.cell (p := ⟨w.heap.size, 2, none⟩) (Nat.lt_of_lt_of_le (Nat.lt_of_lt_of_le HLT.out hbW.size) hle)).trans t1, (hbb.cell (p := ⟨b1, o1 + k * 4, none⟩) (Nat.lt_of_lt_of_le hl1 hle)).trans u0, (hbb.cell (p := ⟨b1, o1 + k * 4 + 1, none⟩) (Nat.lt_of_lt_of_le hl1 hle)).trans u1, (hbb.cell (p := ⟨b1, o1 + k * 4 + 2, none⟩) (Nat.lt_of_lt_of_le hl1 hle)).trans u2, (hbb.cell (p := ⟨b1, o1 + k * 4 + 3, none⟩) (Nat.lt_of_lt_of_le hl1 hle)).trans u3⟩
          have HK := Lib.hid hK
          have HBW := Lib.hid hbW
          have Hb := Lib.hid hb
          clear hK hbW hb
          go_wp2_with fail
          clear hs c0 c1 c2 c3 c4 c5 c6 hx0 hx1 hx2 hx3
          refine wp_region_kinds (fun wy => wy.cell? ⟨lb, lo + (1 + x.stops.length + k), none⟩ = some (.string (ba zt)) ∧ wy.cell? ⟨w.heap.size, 2, none⟩ = some (.slice (some ⟨b1, o1, none⟩) x.paths.length cp) ∧ wy.cell? ⟨b1, o1 + k * 4, none⟩ = some (.string (ba y.name)) ∧ wy.cell? ⟨b1, o1 + k * 4 + 1, none⟩ = some (.string (ba y.a)) ∧ wy.cell? ⟨b1, o1 + k * 4 + 2, none⟩ = some (.string (ba y.b)) ∧ wy.cell? ⟨b1, o1 + k * 4 + 3, none⟩ = some (.int .i64 y.len)) [11] [] [5, 7, 10] [0, 1, 2, 3, 4, 6, 8, 9, 12] [0, 1, 2, 3, 4, 5, 6, 7, 8, 9, 10, 11, 12] (by kernel_rfl) (by kernel_rfl) (fun w n h => h) ?_
          repeat (first | (refine wpKind_free (v := ?_) (by rfl) rfl (by rfl) ?_ ?_; rotate_left 1; (focus (intro wy; go_simp; try with_reducible rfl; done)); try simp only [Act.put, List.setIfInBounds_toArray, List.set_cons_zero, List.set_cons_succ]) | (refine wpKind_free (v := ?_) (by rfl) rfl (by rfl) ?_ ?_; rotate_left 1; (focus (intro wy; go_simp; (try rw [hwr]); rw [if_pos (show _ ∧ _ from ⟨by omega, by omega⟩)]; (try rw [Int.toNat_natCast]); (try rw [hnt]); (first | with_reducible rfl | (simp only [Nat.mul_one]; with_reducible rfl)); done)); try simp only [Act.put, List.setIfInBounds_toArray, List.set_cons_zero, List.set_cons_succ]) | (refine wpKind_held (v := ?_) (by rfl) rfl (by rfl) hSw ?_ ?_; rotate_left 1; (focus (intro wy hSy; obtain ⟨t0, t1, u0, u1, u2, u3⟩ := hSy; go_simp; try with_reducible rfl; done)); try simp only [Act.put, List.setIfInBounds_toArray, List.set_cons_zero, List.set_cons_succ]))
          refine wpKind_keeps (by rfl) rfl (fun m1 => ?_)
          go_wp2_with fail
          refine (HC.out (wr.drewN m1) (below_drewN HBW.out m1)).mono ?_
          rintro e wv ⟨rfl, hbv⟩
          have hbv2 : Below wr.heap.size wr wv := Below.lift (below_drewN (Below.refl _ _) m1) hbv
          have hSv := HK.out wr wv hbv2 (Nat.le_refl _) hSw
          have HBV := Lib.hid (Hb.out.trans (hbv2.mono Hb.out.size))
          clear hbv hbv2 hSw
          have hSw := hSv
          clear hSv
          go_wp2_with fail
          show _ ∧ _
          refine ⟨hSw, ?_⟩
          repeat (first | (refine wpKind_free (v := ?_) (by rfl) rfl (by rfl) ?_ ?_; rotate_left 1; (focus (intro wy; go_simp; try with_reducible rfl; done)); try simp only [Act.put, List.setIfInBounds_toArray, List.set_cons_zero, List.set_cons_succ]) | (refine wpKind_free (v := ?_) (by rfl) rfl (by rfl) ?_ ?_; rotate_left 1; (focus (intro wy; go_simp; (try rw [hwr]); rw [if_pos (show _ ∧ _ from ⟨by omega, by omega⟩)]; (try rw [Int.toNat_natCast]); (try rw [hnt]); (first | with_reducible rfl | (simp only [Nat.mul_one]; with_reducible rfl)); done)); try simp only [Act.put, List.setIfInBounds_toArray, List.set_cons_zero, List.set_cons_succ]) | (refine wpKind_held (v := ?_) (by rfl) rfl (by rfl) hSw ?_ ?_; rotate_left 1; (focus (intro wy hSy; obtain ⟨t0, t1, u0, u1, u2, u3⟩ := hSy; go_simp; try with_reducible rfl; done)); try simp only [Act.put, List.setIfInBounds_toArray, List.set_cons_zero, List.set_cons_succ]))
          refine wpKind_nil fun m2 => ?_
          clear hSw
          go_wp2_with fail
          go_roundw
          case rel => exact ⟨k + 1, by omega, by go_num, below_drewN HBV.out m2⟩
          case measure => simp [intOf]; omega
        · have hke : k = x.paths.length := by omega
          subst hke
          obtain ⟨w7, rfl⟩ : ∃ w7, w7 = wr := ⟨_, rfl⟩
          have HB7 := Lib.hid hbW
          have HLX7 := Lib.hid fun k (hk : k < L.length) => (hb.cell (p := ⟨lb, lo + k, none⟩) HLB6.out).trans (HLX6.out k hk)
          have HLB7 := Lib.hid (Nat.lt_of_lt_of_le HLB6.out hb.size)
          clear hb hbW BASE
          go_wp2_with fail
          have BASE := HB7
          clear c0 c1 c2 c3 c4 c5 c6
          go_loopw [13] (fun s wq => ∃ k : Nat, k ≤ x.doors.length ∧ s = .int .i64 k ∧ Below w7.heap.size w7 wq) (fun s _ => x.doors.length - (intOf s).toNat)
          case atStart => exact ⟨0, Nat.zero_le _, rfl, Below.refl _ _⟩
          case round =>
            obtain ⟨k, hk, rfl, hb⟩ := hrel
            have hbW := BASE.out.trans (hb.mono BASE.out.size)
            obtain ⟨c0, c1, c2, c3, c4, c5, c6⟩ := CELLS.out wr hbW
            by_cases hlt : k < x.doors.length
            · have hst := (HG1.out.below_ hbW).doors
              rw [HED.out] at hst
              obtain ⟨b1, o1, p1, e1, _, _, hl1, _, hxx⟩ := hst.at_ hlt
              injection e1 with e1 e2 e3
              subst e1 e3
              obtain ⟨y, hye⟩ : ∃ y, x.doors[k] = y := ⟨_, rfl⟩
              have hmem : y ∈ x.doors := hye ▸ List.getElem_mem hlt
              have q0 := HAD.out k hlt
              rw [hye] at hxx q0
              obtain ⟨q1, q2⟩ := List.getElem?_eq_some_iff.1 q0
              have hs : wr.cell? ⟨lb, lo + (1 + x.stops.length + x.paths.length + k), none⟩ = some (.string (ba (doorL y))) := by rw [← q2]; exact (hb.cell (p := ⟨lb, lo + (1 + x.stops.length + x.paths.length + k), none⟩) HLB7.out).trans (HLX7.out _ q1)
              have hx0 : wr.cell? ⟨b1, o1 + k * 7, none⟩ = some (.string (ba y.name)) := by simpa using hxx 0 _ rfl
              have hx1 : wr.cell? ⟨b1, o1 + k * 7 + 1, none⟩ = some (.string (ba y.a)) := by simpa using hxx 1 _ rfl
              have hx2 : wr.cell? ⟨b1, o1 + k * 7 + 2, none⟩ = some (.string (ba y.b)) := by simpa using hxx 2 _ rfl
              have hx3 : wr.cell? ⟨b1, o1 + k * 7 + 3, none⟩ = some (.int .i64 y.len) := by simpa using hxx 3 _ rfl
              have hx4 : wr.cell? ⟨b1, o1 + k * 7 + 4, none⟩ = some (.int .i64 y.times.start) := by simpa using hxx 4 _ rfl
              have hx5 : wr.cell? ⟨b1, o1 + k * 7 + 5, none⟩ = some (.int .i64 y.times.every) := by simpa using hxx 5 _ rfl
              have hx6 : wr.cell? ⟨b1, o1 + k * 7 + 6, none⟩ = some (.int .i64 y.times.len) := by simpa using hxx 6 _ rfl
              have HC := Lib.hid fun wy (hbY : Below w1.heap.size w1 wy) => (show Calls Tryd.prog 21 #[.agg #[.string (ba y.name), .string (ba y.a), .string (ba y.b), .int .i64 y.len, .int .i64 y.times.start, .int .i64 y.times.every, .int .i64 y.times.len]] wy fun e w' => e = .returned (.string (ba (doorL y))) ∧ Below wy.heap.size wy w' from (door_any wy y (HP1.out.below hbY) (HFI.out.doors y hmem).1.1 (HFI.out.doors y hmem).1.2 (HFI.out.doors y hmem).2.1 (HFI.out.doors y hmem).2.2))
              generalize doorL y = zt at *
              have zz : ((ba zt).toList != (ba zt).toList) = false := by rw [bne, beq_self_eq_true]; rfl
              have zy : ((ba zt).toList == (ba zt).toList) = true := beq_self_eq_true _
              have hwr : IntKind.wrap .i64 (1 + (x.stops.length : Int) + (x.paths.length : Int) + (k : Int)) = ((1 + x.stops.length + x.paths.length + k : Nat) : Int) := by rw [wrap_small (by omega) (by omega)]; omega
              have hnt : (1 + (x.stops.length : Int) + (x.paths.length : Int) + (k : Int)).toNat = 1 + x.stops.length + x.paths.length + k := by omega
              have r1 : (0 : Int) ≤ 1 + (x.stops.length : Int) + (x.paths.length : Int) + (k : Int) := by omega
              have r2 : 1 + (x.stops.length : Int) + (x.paths.length : Int) + (k : Int) < (L.length : Int) := by omega
              have r3 : (0 : Int) ≤ (k : Int) := by omega
              have r4 : (k : Int) < (x.doors.length : Int) := by omega
              clear hxx hst q0 q2 hmem
              have hSw : (fun wy => wy.cell? ⟨lb, lo + (1 + x.stops.length + x.paths.length + k), none⟩ = some (.string (ba zt)) ∧ wy.cell? ⟨w.heap.size, 3, none⟩ = some (.slice (some ⟨b1, o1, none⟩) x.doors.length cd) ∧ wy.cell? ⟨b1, o1 + k * 7, none⟩ = some (.string (ba y.name)) ∧ wy.cell? ⟨b1, o1 + k * 7 + 1, none⟩ = some (.string (ba y.a)) ∧ wy.cell? ⟨b1, o1 + k * 7 + 2, none⟩ = some (.string (ba y.b)) ∧ wy.cell? ⟨b1, o1 + k * 7 + 3, none⟩ = some (.int .i64 y.len) ∧ wy.cell? ⟨b1, o1 + k * 7 + 4, none⟩ = some (.int .i64 y.times.start) ∧ wy.cell? ⟨b1, o1 + k * 7 + 5, none⟩ = some (.int .i64 y.times.every) ∧ wy.cell? ⟨b1, o1 + k * 7 + 6, none⟩ = some (.int .i64 y.times.len)) wr := ⟨hs, c3, hx0, hx1, hx2, hx3, hx4, hx5, hx6⟩
              have hK : ∀ (wa wb : World), Below wa.heap.size wa wb → wr.heap.size ≤ wa.heap.size → (fun wy => wy.cell? ⟨lb, lo + (1 + x.stops.length + x.paths.length + k), none⟩ = some (.string (ba zt)) ∧ wy.cell? ⟨w.heap.size, 3, none⟩ = some (.slice (some ⟨b1, o1, none⟩) x.doors.length cd) ∧ wy.cell? ⟨b1, o1 + k * 7, none⟩ = some (.string (ba y.name)) ∧ wy.cell? ⟨b1, o1 + k * 7 + 1, none⟩ = some (.string (ba y.a)) ∧ wy.cell? ⟨b1, o1 + k * 7 + 2, none⟩ = some (.string (ba y.b)) ∧ wy.cell? ⟨b1, o1 + k * 7 + 3, none⟩ = some (.int .i64 y.len) ∧ wy.cell? ⟨b1, o1 + k * 7 + 4, none⟩ = some (.int .i64 y.times.start) ∧ wy.cell? ⟨b1, o1 + k * 7 + 5, none⟩ = some (.int .i64 y.times.every) ∧ wy.cell? ⟨b1, o1 + k * 7 + 6, none⟩ = some (.int .i64 y.times.len)) wa → (fun wy => wy.cell? ⟨lb, lo + (1 + x.stops.length + x.paths.length + k), none⟩ = some (.string (ba zt)) ∧ wy.cell? ⟨w.heap.size, 3, none⟩ = some (.slice (some ⟨b1, o1, none⟩) x.doors.length cd) ∧ wy.cell? ⟨b1, o1 + k * 7, none⟩ = some (.string (ba y.name)) ∧ wy.cell? ⟨b1, o1 + k * 7 + 1, none⟩ = some (.string (ba y.a)) ∧ wy.cell? ⟨b1, o1 + k * 7 + 2, none⟩ = some (.string (ba y.b)) ∧ wy.cell? ⟨b1, o1 + k * 7 + 3, none⟩ = some (.int .i64 y.len) ∧ wy.cell? ⟨b1, o1 + k * 7 + 4, none⟩ = some (.int .i64 y.times.start) ∧ wy.cell? ⟨b1, o1 + k * 7 + 5, none⟩ = some (.int .i64 y.times.every) ∧ wy.cell? ⟨b1, o1 + k * 7 + 6, none⟩ = some (.int .i64 y.times.len)) wb := by
                intro wa wb hbb hle hS9
                obtain ⟨t0, t1, u0, u1, u2, u3, u4, u5, u6⟩ := hS9
                exact ⟨(hbb.cell (p := ⟨lb, lo + (1 + x.stops.length + x.paths.length + k), none⟩) (Nat.lt_of_lt_of_le (Nat.lt_of_lt_of_le HLB7.out hb.size) hle)).trans t0, (hbb.cell (p := ⟨w.heap.size, 3, none⟩) (Nat.lt_of_lt_of_le (Nat.lt_of_lt_of_le HLT.out hbW.size) hle)).trans t1, (hbb.cell (p := ⟨b1, o1 + k * 7, none⟩) (Nat.lt_of_lt_of_le hl1 hle)).trans u0, (hbb.cell (p := ⟨b1, o1 + k * 7 + 1, none⟩) (Nat.lt_of_lt_of_le hl1 hle)).trans u1, (hbb.cell (p := ⟨b1, o1 + k * 7 + 2, none⟩) (Nat.lt_of_lt_of_le hl1 hle)).trans u2, (hbb.cell (p := ⟨b1, o1 + k * 7 + 3, none⟩) (Nat.lt_of_lt_of_le hl1 hle)).trans u3, (hbb.cell (p := ⟨b1, o1 + k * 7 + 4, none⟩) (Nat.lt_of_lt_of_le hl1 hle)).trans u4, (hbb.cell (p := ⟨b1, o1 + k * 7 + 5, none⟩) (Nat.lt_of_lt_of_le hl1 hle)).trans u5, (hbb.cell (p := ⟨b1, o1 + k * 7 + 6, none⟩) (Nat.lt_of_lt_of_le hl1 hle)).trans u6⟩
              have HK := Lib.hid hK
              have HBW := Lib.hid hbW
              have Hb := Lib.hid hb
              clear hK hbW hb
              go_wp2_with fail
              clear hs c0 c1 c2 c3 c4 c5 c6 hx0 hx1 hx2 hx3 hx4 hx5 hx6
              refine wp_region_kinds (fun wy => wy.cell? ⟨lb, lo + (1 + x.stops.length + x.paths.length + k), none⟩ = some (.string (ba zt)) ∧ wy.cell? ⟨w.heap.size, 3, none⟩ = some (.slice (some ⟨b1, o1, none⟩) x.doors.length cd) ∧ wy.cell? ⟨b1, o1 + k * 7, none⟩ = some (.string (ba y.name)) ∧ wy.cell? ⟨b1, o1 + k * 7 + 1, none⟩ = some (.string (ba y.a)) ∧ wy.cell? ⟨b1, o1 + k * 7 + 2, none⟩ = some (.string (ba y.b)) ∧ wy.cell? ⟨b1, o1 + k * 7 + 3, none⟩ = some (.int .i64 y.len) ∧ wy.cell? ⟨b1, o1 + k * 7 + 4, none⟩ = some (.int .i64 y.times.start) ∧ wy.cell? ⟨b1, o1 + k * 7 + 5, none⟩ = some (.int .i64 y.times.every) ∧ wy.cell? ⟨b1, o1 + k * 7 + 6, none⟩ = some (.int .i64 y.times.len)) [11] [] [5, 7, 10] [0, 1, 2, 3, 4, 6, 8, 9, 12] [0, 1, 2, 3, 4, 5, 6, 7, 8, 9, 10, 11, 12] (by kernel_rfl) (by kernel_rfl) (fun w n h => h) ?_
              repeat (first | (refine wpKind_free (v := ?_) (by rfl) rfl (by rfl) ?_ ?_; rotate_left 1; (focus (intro wy; go_simp; try with_reducible rfl; done)); try simp only [Act.put, List.setIfInBounds_toArray, List.set_cons_zero, List.set_cons_succ]) | (refine wpKind_free (v := ?_) (by rfl) rfl (by rfl) ?_ ?_; rotate_left 1; (focus (intro wy; go_simp; (try rw [hwr]); rw [if_pos (show _ ∧ _ from ⟨by omega, by omega⟩)]; (try rw [Int.toNat_natCast]); (try rw [hnt]); (first | with_reducible rfl | (simp only [Nat.mul_one]; with_reducible rfl)); done)); try simp only [Act.put, List.setIfInBounds_toArray, List.set_cons_zero, List.set_cons_succ]) | (refine wpKind_held (v := ?_) (by rfl) rfl (by rfl) hSw ?_ ?_; rotate_left 1; (focus (intro wy hSy; obtain ⟨t0, t1, u0, u1, u2, u3, u4, u5, u6⟩ := hSy; go_simp; try with_reducible rfl; done)); try simp only [Act.put, List.setIfInBounds_toArray, List.set_cons_zero, List.set_cons_succ]))
              refine wpKind_keeps (by rfl) rfl (fun m1 => ?_)
              go_wp2_with fail
              refine (HC.out (wr.drewN m1) (below_drewN HBW.out m1)).mono ?_
              rintro e wv ⟨rfl, hbv⟩
              have hbv2 : Below wr.heap.size wr wv := Below.lift (below_drewN (Below.refl _ _) m1) hbv
              have hSv := HK.out wr wv hbv2 (Nat.le_refl _) hSw
              have HBV := Lib.hid (Hb.out.trans (hbv2.mono Hb.out.size))
              clear hbv hbv2 hSw
              have hSw := hSv
              clear hSv
              go_wp2_with fail
              show _ ∧ _
              refine ⟨hSw, ?_⟩
              repeat (first | (refine wpKind_free (v := ?_) (by rfl) rfl (by rfl) ?_ ?_; rotate_left 1; (focus (intro wy; go_simp; try with_reducible rfl; done)); try simp only [Act.put, List.setIfInBounds_toArray, List.set_cons_zero, List.set_cons_succ]) | (refine wpKind_free (v := ?_) (by rfl) rfl (by rfl) ?_ ?_; rotate_left 1; (focus (intro wy; go_simp; (try rw [hwr]); rw [if_pos (show _ ∧ _ from ⟨by omega, by omega⟩)]; (try rw [Int.toNat_natCast]); (try rw [hnt]); (first | with_reducible rfl | (simp only [Nat.mul_one]; with_reducible rfl)); done)); try simp only [Act.put, List.setIfInBounds_toArray, List.set_cons_zero, List.set_cons_succ]) | (refine wpKind_held (v := ?_) (by rfl) rfl (by rfl) hSw ?_ ?_; rotate_left 1; (focus (intro wy hSy; obtain ⟨t0, t1, u0, u1, u2, u3, u4, u5, u6⟩ := hSy; go_simp; try with_reducible rfl; done)); try simp only [Act.put, List.setIfInBounds_toArray, List.set_cons_zero, List.set_cons_succ]))
              refine wpKind_nil fun m2 => ?_
              clear hSw
              go_wp2_with fail
              go_roundw
              case rel => exact ⟨k + 1, by omega, by go_num, below_drewN HBV.out m2⟩
              case measure => simp [intOf]; omega
            · have hke : k = x.doors.length := by omega
              subst hke
              obtain ⟨w8, rfl⟩ : ∃ w8, w8 = wr := ⟨_, rfl⟩
              have HB8 := Lib.hid hbW
              have HLX8 := Lib.hid fun k (hk : k < L.length) => (hb.cell (p := ⟨lb, lo + k, none⟩) HLB7.out).trans (HLX7.out k hk)
              have HLB8 := Lib.hid (Nat.lt_of_lt_of_le HLB7.out hb.size)
              clear hb hbW BASE
              go_wp2_with fail
              have BASE := HB8
              clear c0 c1 c2 c3 c4 c5 c6
              go_loopw [14] (fun s wq => ∃ k : Nat, k ≤ x.routes.length ∧ s = .int .i64 k ∧ Below w8.heap.size w8 wq) (fun s _ => x.routes.length - (intOf s).toNat)
              case atStart => exact ⟨0, Nat.zero_le _, rfl, Below.refl _ _⟩
              case round =>
                obtain ⟨k, hk, rfl, hb⟩ := hrel
                have hbW := BASE.out.trans (hb.mono BASE.out.size)
                obtain ⟨c0, c1, c2, c3, c4, c5, c6⟩ := CELLS.out wr hbW
                by_cases hlt : k < x.routes.length
                · have hst := (HG1.out.below_ hbW).routes
                  rw [HER.out] at hst
                  obtain ⟨b1, o1, p1, e1, _, _, hl1, _, hxx⟩ := hst.at_ hlt
                  injection e1 with e1 e2 e3
                  subst e1 e3
                  obtain ⟨y, hye⟩ : ∃ y, x.routes[k] = y := ⟨_, rfl⟩
                  have hmem : y ∈ x.routes := hye ▸ List.getElem_mem hlt
                  have q0 := HAR.out k hlt
                  rw [hye] at hxx q0
                  obtain ⟨q1, q2⟩ := List.getElem?_eq_some_iff.1 q0
                  have hs : wr.cell? ⟨lb, lo + (1 + x.stops.length + x.paths.length + x.doors.length + k), none⟩ = some (.string (ba (routeL y.d))) := by rw [← q2]; exact (hb.cell (p := ⟨lb, lo + (1 + x.stops.length + x.paths.length + x.doors.length + k), none⟩) HLB8.out).trans (HLX8.out _ q1)
                  have hx0 : wr.cell? ⟨b1, o1 + k * 4, none⟩ = some (.string (ba y.name)) := by simpa using hxx 0 _ rfl
                  have hx1 : wr.cell? ⟨b1, o1 + k * 4 + 1, none⟩ = some (y.vs) := by simpa using hxx 1 _ rfl
                  have hx2 : wr.cell? ⟨b1, o1 + k * 4 + 2, none⟩ = some (y.vr) := by simpa using hxx 2 _ rfl
                  have hx3 : wr.cell? ⟨b1, o1 + k * 4 + 3, none⟩ = some (y.vy) := by simpa using hxx 3 _ rfl
                  have HC := Lib.hid fun wy (hbY : Below w1.heap.size w1 wy) => (show Calls Tryd.prog 19 #[.agg #[.string (ba y.name), y.vs, y.vr, y.vy]] wy fun e w' => e = .returned (.string (ba (routeL y.d))) ∧ Below wy.heap.size wy w' from (route_any wy y ((HG1.out.below_ hbY).each y hmem) (HP1.out.below hbY) (HFI.out.routes y hmem).1 (HFI.out.routes y hmem).2.1 (HFI.out.routes y hmem).2.2))
                  obtain ⟨A1, z1, g1, _, _⟩ := ((HG1.out.below_ hbW).each y hmem).stops.shape
                  obtain ⟨A2, z2, g2, _, _⟩ := ((HG1.out.below_ hbW).each y hmem).rides.shape
                  obtain ⟨A3, z3, g3, _, _⟩ := ((HG1.out.below_ hbW).each y hmem).stays.shape
                  rw [g1] at hx1 HC
                  rw [g2] at hx2 HC
                  rw [g3] at hx3 HC
                  generalize routeL y.d = zt at *
                  have zz : ((ba zt).toList != (ba zt).toList) = false := by rw [bne, beq_self_eq_true]; rfl
                  have zy : ((ba zt).toList == (ba zt).toList) = true := beq_self_eq_true _
                  have hwr : IntKind.wrap .i64 (1 + (x.stops.length : Int) + (x.paths.length : Int) + (x.doors.length : Int) + (k : Int)) = ((1 + x.stops.length + x.paths.length + x.doors.length + k : Nat) : Int) := by rw [wrap_small (by omega) (by omega)]; omega
                  have hnt : (1 + (x.stops.length : Int) + (x.paths.length : Int) + (x.doors.length : Int) + (k : Int)).toNat = 1 + x.stops.length + x.paths.length + x.doors.length + k := by omega
                  have r1 : (0 : Int) ≤ 1 + (x.stops.length : Int) + (x.paths.length : Int) + (x.doors.length : Int) + (k : Int) := by omega
                  have r2 : 1 + (x.stops.length : Int) + (x.paths.length : Int) + (x.doors.length : Int) + (k : Int) < (L.length : Int) := by omega
                  have r3 : (0 : Int) ≤ (k : Int) := by omega
                  have r4 : (k : Int) < (x.routes.length : Int) := by omega
                  clear hxx hst q0 q2 hmem
                  have hSw : (fun wy => wy.cell? ⟨lb, lo + (1 + x.stops.length + x.paths.length + x.doors.length + k), none⟩ = some (.string (ba zt)) ∧ wy.cell? ⟨w.heap.size, 4, none⟩ = some (.slice (some ⟨b1, o1, none⟩) x.routes.length cr) ∧ wy.cell? ⟨b1, o1 + k * 4, none⟩ = some (.string (ba y.name)) ∧ wy.cell? ⟨b1, o1 + k * 4 + 1, none⟩ = some (.slice A1 y.stops.length z1) ∧ wy.cell? ⟨b1, o1 + k * 4 + 2, none⟩ = some (.slice A2 y.rides.length z2) ∧ wy.cell? ⟨b1, o1 + k * 4 + 3, none⟩ = some (.slice A3 y.stays.length z3)) wr := ⟨hs, c4, hx0, hx1, hx2, hx3⟩
                  have hK : ∀ (wa wb : World), Below wa.heap.size wa wb → wr.heap.size ≤ wa.heap.size → (fun wy => wy.cell? ⟨lb, lo + (1 + x.stops.length + x.paths.length + x.doors.length + k), none⟩ = some (.string (ba zt)) ∧ wy.cell? ⟨w.heap.size, 4, none⟩ = some (.slice (some ⟨b1, o1, none⟩) x.routes.length cr) ∧ wy.cell? ⟨b1, o1 + k * 4, none⟩ = some (.string (ba y.name)) ∧ wy.cell? ⟨b1, o1 + k * 4 + 1, none⟩ = some (.slice A1 y.stops.length z1) ∧ wy.cell? ⟨b1, o1 + k * 4 + 2, none⟩ = some (.slice A2 y.rides.length z2) ∧ wy.cell? ⟨b1, o1 + k * 4 + 3, none⟩ = some (.slice A3 y.stays.length z3)) wa → (fun wy => wy.cell? ⟨lb, lo + (1 + x.stops.length + x.paths.length + x.doors.length + k), none⟩ = some (.string (ba zt)) ∧ wy.cell? ⟨w.heap.size, 4, none⟩ = some (.slice (some ⟨b1, o1, none⟩) x.routes.length cr) ∧ wy.cell? ⟨b1, o1 + k * 4, none⟩ = some (.string (ba y.name)) ∧ wy.cell? ⟨b1, o1 + k * 4 + 1, none⟩ = some (.slice A1 y.stops.length z1) ∧ wy.cell? ⟨b1, o1 + k * 4 + 2, none⟩ = some (.slice A2 y.rides.length z2) ∧ wy.cell? ⟨b1, o1 + k * 4 + 3, none⟩ = some (.slice A3 y.stays.length z3)) wb := by
                    intro wa wb hbb hle hS9
                    obtain ⟨t0, t1, u0, u1, u2, u3⟩ := hS9
                    exact ⟨(hbb.cell (p := ⟨lb, lo + (1 + x.stops.length + x.paths.length + x.doors.length + k), none⟩) (Nat.lt_of_lt_of_le (Nat.lt_of_lt_of_le HLB8.out hb.size) hle)).trans t0, (hbb.cell (p := ⟨w.heap.size, 4, none⟩) (Nat.lt_of_lt_of_le (Nat.lt_of_lt_of_le HLT.out hbW.size) hle)).trans t1, (hbb.cell (p := ⟨b1, o1 + k * 4, none⟩) (Nat.lt_of_lt_of_le hl1 hle)).trans u0, (hbb.cell (p := ⟨b1, o1 + k * 4 + 1, none⟩) (Nat.lt_of_lt_of_le hl1 hle)).trans u1, (hbb.cell (p := ⟨b1, o1 + k * 4 + 2, none⟩) (Nat.lt_of_lt_of_le hl1 hle)).trans u2, (hbb.cell (p := ⟨b1, o1 + k * 4 + 3, none⟩) (Nat.lt_of_lt_of_le hl1 hle)).trans u3⟩
                  have HK := Lib.hid hK
                  have HBW := Lib.hid hbW
                  have Hb := Lib.hid hb
                  clear hK hbW hb
                  go_wp2_with fail
                  clear hs c0 c1 c2 c3 c4 c5 c6 hx0 hx1 hx2 hx3
                  refine wp_region_kinds (fun wy => wy.cell? ⟨lb, lo + (1 + x.stops.length + x.paths.length + x.doors.length + k), none⟩ = some (.string (ba zt)) ∧ wy.cell? ⟨w.heap.size, 4, none⟩ = some (.slice (some ⟨b1, o1, none⟩) x.routes.length cr) ∧ wy.cell? ⟨b1, o1 + k * 4, none⟩ = some (.string (ba y.name)) ∧ wy.cell? ⟨b1, o1 + k * 4 + 1, none⟩ = some (.slice A1 y.stops.length z1) ∧ wy.cell? ⟨b1, o1 + k * 4 + 2, none⟩ = some (.slice A2 y.rides.length z2) ∧ wy.cell? ⟨b1, o1 + k * 4 + 3, none⟩ = some (.slice A3 y.stays.length z3)) [11] [] [5, 7, 10] [0, 1, 2, 3, 4, 6, 8, 9, 12] [0, 1, 2, 3, 4, 5, 6, 7, 8, 9, 10, 11, 12] (by kernel_rfl) (by kernel_rfl) (fun w n h => h) ?_
                  repeat (first | (refine wpKind_free (v := ?_) (by rfl) rfl (by rfl) ?_ ?_; rotate_left 1; (focus (intro wy; go_simp; try with_reducible rfl; done)); try simp only [Act.put, List.setIfInBounds_toArray, List.set_cons_zero, List.set_cons_succ]) | (refine wpKind_free (v := ?_) (by rfl) rfl (by rfl) ?_ ?_; rotate_left 1; (focus (intro wy; go_simp; (try rw [hwr]); rw [if_pos (show _ ∧ _ from ⟨by omega, by omega⟩)]; (try rw [Int.toNat_natCast]); (try rw [hnt]); (first | with_reducible rfl | (simp only [Nat.mul_one]; with_reducible rfl)); done)); try simp only [Act.put, List.setIfInBounds_toArray, List.set_cons_zero, List.set_cons_succ]) | (refine wpKind_held (v := ?_) (by rfl) rfl (by rfl) hSw ?_ ?_; rotate_left 1; (focus (intro wy hSy; obtain ⟨t0, t1, u0, u1, u2, u3⟩ := hSy; go_simp; try with_reducible rfl; done)); try simp only [Act.put, List.setIfInBounds_toArray, List.set_cons_zero, List.set_cons_succ]))
                  refine wpKind_keeps (by rfl) rfl (fun m1 => ?_)
                  go_wp2_with fail
                  refine (HC.out (wr.drewN m1) (below_drewN HBW.out m1)).mono ?_
                  rintro e wv ⟨rfl, hbv⟩
                  have hbv2 : Below wr.heap.size wr wv := Below.lift (below_drewN (Below.refl _ _) m1) hbv
                  have hSv := HK.out wr wv hbv2 (Nat.le_refl _) hSw
                  have HBV := Lib.hid (Hb.out.trans (hbv2.mono Hb.out.size))
                  clear hbv hbv2 hSw
                  have hSw := hSv
                  clear hSv
                  go_wp2_with fail
                  show _ ∧ _
                  refine ⟨hSw, ?_⟩
                  repeat (first | (refine wpKind_free (v := ?_) (by rfl) rfl (by rfl) ?_ ?_; rotate_left 1; (focus (intro wy; go_simp; try with_reducible rfl; done)); try simp only [Act.put, List.setIfInBounds_toArray, List.set_cons_zero, List.set_cons_succ]) | (refine wpKind_free (v := ?_) (by rfl) rfl (by rfl) ?_ ?_; rotate_left 1; (focus (intro wy; go_simp; (try rw [hwr]); rw [if_pos (show _ ∧ _ from ⟨by omega, by omega⟩)]; (try rw [Int.toNat_natCast]); (try rw [hnt]); (first | with_reducible rfl | (simp only [Nat.mul_one]; with_reducible rfl)); done)); try simp only [Act.put, List.setIfInBounds_toArray, List.set_cons_zero, List.set_cons_succ]) | (refine wpKind_held (v := ?_) (by rfl) rfl (by rfl) hSw ?_ ?_; rotate_left 1; (focus (intro wy hSy; obtain ⟨t0, t1, u0, u1, u2, u3⟩ := hSy; go_simp; try with_reducible rfl; done)); try simp only [Act.put, List.setIfInBounds_toArray, List.set_cons_zero, List.set_cons_succ]))
                  refine wpKind_nil fun m2 => ?_
                  clear hSw
                  go_wp2_with fail
                  go_roundw
                  case rel => exact ⟨k + 1, by omega, by go_num, below_drewN HBV.out m2⟩
                  case measure => simp [intOf]; omega
                · have hke : k = x.routes.length := by omega
                  subst hke
                  obtain ⟨w9, rfl⟩ : ∃ w9, w9 = wr := ⟨_, rfl⟩
                  have HB9 := Lib.hid hbW
                  have HLX9 := Lib.hid fun k (hk : k < L.length) => (hb.cell (p := ⟨lb, lo + k, none⟩) HLB8.out).trans (HLX8.out k hk)
                  have HLB9 := Lib.hid (Nat.lt_of_lt_of_le HLB8.out hb.size)
                  clear hb hbW BASE
                  go_wp2_with fail
                  have BASE := HB9
                  clear c0 c1 c2 c3 c4 c5 c6
                  go_loopw [15] (fun s wq => ∃ k : Nat, k ≤ x.trips.length ∧ s = .int .i64 k ∧ Below w9.heap.size w9 wq) (fun s _ => x.trips.length - (intOf s).toNat)
                  case atStart => exact ⟨0, Nat.zero_le _, rfl, Below.refl _ _⟩
                  case round =>
                    obtain ⟨k, hk, rfl, hb⟩ := hrel
                    have hbW := BASE.out.trans (hb.mono BASE.out.size)
                    obtain ⟨c0, c1, c2, c3, c4, c5, c6⟩ := CELLS.out wr hbW
                    by_cases hlt : k < x.trips.length
                    · have hst := (HG1.out.below_ hbW).trips
                      rw [HET.out] at hst
                      obtain ⟨b1, o1, p1, e1, _, _, hl1, _, hxx⟩ := hst.at_ hlt
                      injection e1 with e1 e2 e3
                      subst e1 e3
                      obtain ⟨y, hye⟩ : ∃ y, x.trips[k] = y := ⟨_, rfl⟩
                      have hmem : y ∈ x.trips := hye ▸ List.getElem_mem hlt
                      have q0 := HAT.out k hlt
                      rw [hye] at hxx q0
                      obtain ⟨q1, q2⟩ := List.getElem?_eq_some_iff.1 q0
                      have hs : wr.cell? ⟨lb, lo + (1 + x.stops.length + x.paths.length + x.doors.length + x.routes.length + k), none⟩ = some (.string (ba (tripL y))) := by rw [← q2]; exact (hb.cell (p := ⟨lb, lo + (1 + x.stops.length + x.paths.length + x.doors.length + x.routes.length + k), none⟩) HLB9.out).trans (HLX9.out _ q1)
                      have hx0 : wr.cell? ⟨b1, o1 + k * 5, none⟩ = some (.string (ba y.name)) := by simpa using hxx 0 _ rfl
                      have hx1 : wr.cell? ⟨b1, o1 + k * 5 + 1, none⟩ = some (.string (ba y.route)) := by simpa using hxx 1 _ rfl
                      have hx2 : wr.cell? ⟨b1, o1 + k * 5 + 2, none⟩ = some (.int .i64 y.start) := by simpa using hxx 2 _ rfl
                      have hx3 : wr.cell? ⟨b1, o1 + k * 5 + 3, none⟩ = some (.int .i64 y.every) := by simpa using hxx 3 _ rfl
                      have hx4 : wr.cell? ⟨b1, o1 + k * 5 + 4, none⟩ = some (.int .i64 y.stop) := by simpa using hxx 4 _ rfl
                      have HC := Lib.hid fun wy (hbY : Below w1.heap.size w1 wy) => (show Calls Tryd.prog 10 #[.agg #[.string (ba y.name), .string (ba y.route), .int .i64 y.start, .int .i64 y.every, .int .i64 y.stop]] wy fun e w' => e = .returned (.string (ba (tripL y))) ∧ Below wy.heap.size wy w' from (trip_any wy y (HP1.out.below hbY) (HFI.out.trips y hmem).1.1 (HFI.out.trips y hmem).1.2.1 (HFI.out.trips y hmem).1.2.2 (HFI.out.trips y hmem).2))
                      generalize tripL y = zt at *
                      have zz : ((ba zt).toList != (ba zt).toList) = false := by rw [bne, beq_self_eq_true]; rfl
                      have zy : ((ba zt).toList == (ba zt).toList) = true := beq_self_eq_true _
                      have hwr : IntKind.wrap .i64 (1 + (x.stops.length : Int) + (x.paths.length : Int) + (x.doors.length : Int) + (x.routes.length : Int) + (k : Int)) = ((1 + x.stops.length + x.paths.length + x.doors.length + x.routes.length + k : Nat) : Int) := by rw [wrap_small (by omega) (by omega)]; omega
                      have hnt : (1 + (x.stops.length : Int) + (x.paths.length : Int) + (x.doors.length : Int) + (x.routes.length : Int) + (k : Int)).toNat = 1 + x.stops.length + x.paths.length + x.doors.length + x.routes.length + k := by omega
                      have r1 : (0 : Int) ≤ 1 + (x.stops.length : Int) + (x.paths.length : Int) + (x.doors.length : Int) + (x.routes.length : Int) + (k : Int) := by omega
                      have r2 : 1 + (x.stops.length : Int) + (x.paths.length : Int) + (x.doors.length : Int) + (x.routes.length : Int) + (k : Int) < (L.length : Int) := by omega
                      have r3 : (0 : Int) ≤ (k : Int) := by omega
                      have r4 : (k : Int) < (x.trips.length : Int) := by omega
                      clear hxx hst q0 q2 hmem
                      have hSw : (fun wy => wy.cell? ⟨lb, lo + (1 + x.stops.length + x.paths.length + x.doors.length + x.routes.length + k), none⟩ = some (.string (ba zt)) ∧ wy.cell? ⟨w.heap.size, 5, none⟩ = some (.slice (some ⟨b1, o1, none⟩) x.trips.length ct) ∧ wy.cell? ⟨b1, o1 + k * 5, none⟩ = some (.string (ba y.name)) ∧ wy.cell? ⟨b1, o1 + k * 5 + 1, none⟩ = some (.string (ba y.route)) ∧ wy.cell? ⟨b1, o1 + k * 5 + 2, none⟩ = some (.int .i64 y.start) ∧ wy.cell? ⟨b1, o1 + k * 5 + 3, none⟩ = some (.int .i64 y.every) ∧ wy.cell? ⟨b1, o1 + k * 5 + 4, none⟩ = some (.int .i64 y.stop)) wr := ⟨hs, c5, hx0, hx1, hx2, hx3, hx4⟩
                      have hK : ∀ (wa wb : World), Below wa.heap.size wa wb → wr.heap.size ≤ wa.heap.size → (fun wy => wy.cell? ⟨lb, lo + (1 + x.stops.length + x.paths.length + x.doors.length + x.routes.length + k), none⟩ = some (.string (ba zt)) ∧ wy.cell? ⟨w.heap.size, 5, none⟩ = some (.slice (some ⟨b1, o1, none⟩) x.trips.length ct) ∧ wy.cell? ⟨b1, o1 + k * 5, none⟩ = some (.string (ba y.name)) ∧ wy.cell? ⟨b1, o1 + k * 5 + 1, none⟩ = some (.string (ba y.route)) ∧ wy.cell? ⟨b1, o1 + k * 5 + 2, none⟩ = some (.int .i64 y.start) ∧ wy.cell? ⟨b1, o1 + k * 5 + 3, none⟩ = some (.int .i64 y.every) ∧ wy.cell? ⟨b1, o1 + k * 5 + 4, none⟩ = some (.int .i64 y.stop)) wa → (fun wy => wy.cell? ⟨lb, lo + (1 + x.stops.length + x.paths.length + x.doors.length + x.routes.length + k), none⟩ = some (.string (ba zt)) ∧ wy.cell? ⟨w.heap.size, 5, none⟩ = some (.slice (some ⟨b1, o1, none⟩) x.trips.length ct) ∧ wy.cell? ⟨b1, o1 + k * 5, none⟩ = some (.string (ba y.name)) ∧ wy.cell? ⟨b1, o1 + k * 5 + 1, none⟩ = some (.string (ba y.route)) ∧ wy.cell? ⟨b1, o1 + k * 5 + 2, none⟩ = some (.int .i64 y.start) ∧ wy.cell? ⟨b1, o1 + k * 5 + 3, none⟩ = some (.int .i64 y.every) ∧ wy.cell? ⟨b1, o1 + k * 5 + 4, none⟩ = some (.int .i64 y.stop)) wb := by
                        intro wa wb hbb hle hS9
                        obtain ⟨t0, t1, u0, u1, u2, u3, u4⟩ := hS9
                        exact ⟨(hbb.cell (p := ⟨lb, lo + (1 + x.stops.length + x.paths.length + x.doors.length + x.routes.length + k), none⟩) (Nat.lt_of_lt_of_le (Nat.lt_of_lt_of_le HLB9.out hb.size) hle)).trans t0, (hbb.cell (p := ⟨w.heap.size, 5, none⟩) (Nat.lt_of_lt_of_le (Nat.lt_of_lt_of_le HLT.out hbW.size) hle)).trans t1, (hbb.cell (p := ⟨b1, o1 + k * 5, none⟩) (Nat.lt_of_lt_of_le hl1 hle)).trans u0, (hbb.cell (p := ⟨b1, o1 + k * 5 + 1, none⟩) (Nat.lt_of_lt_of_le hl1 hle)).trans u1, (hbb.cell (p := ⟨b1, o1 + k * 5 + 2, none⟩) (Nat.lt_of_lt_of_le hl1 hle)).trans u2, (hbb.cell (p := ⟨b1, o1 + k * 5 + 3, none⟩) (Nat.lt_of_lt_of_le hl1 hle)).trans u3, (hbb.cell (p := ⟨b1, o1 + k * 5 + 4, none⟩) (Nat.lt_of_lt_of_le hl1 hle)).trans u4⟩
                      have HK := Lib.hid hK
                      have HBW := Lib.hid hbW
                      have Hb := Lib.hid hb
                      clear hK hbW hb
                      go_wp2_with fail
                      clear hs c0 c1 c2 c3 c4 c5 c6 hx0 hx1 hx2 hx3 hx4
                      refine wp_region_kinds (fun wy => wy.cell? ⟨lb, lo + (1 + x.stops.length + x.paths.length + x.doors.length + x.routes.length + k), none⟩ = some (.string (ba zt)) ∧ wy.cell? ⟨w.heap.size, 5, none⟩ = some (.slice (some ⟨b1, o1, none⟩) x.trips.length ct) ∧ wy.cell? ⟨b1, o1 + k * 5, none⟩ = some (.string (ba y.name)) ∧ wy.cell? ⟨b1, o1 + k * 5 + 1, none⟩ = some (.string (ba y.route)) ∧ wy.cell? ⟨b1, o1 + k * 5 + 2, none⟩ = some (.int .i64 y.start) ∧ wy.cell? ⟨b1, o1 + k * 5 + 3, none⟩ = some (.int .i64 y.every) ∧ wy.cell? ⟨b1, o1 + k * 5 + 4, none⟩ = some (.int .i64 y.stop)) [11] [] [5, 7, 10] [0, 1, 2, 3, 4, 6, 8, 9, 12] [0, 1, 2, 3, 4, 5, 6, 7, 8, 9, 10, 11, 12] (by kernel_rfl) (by kernel_rfl) (fun w n h => h) ?_
                      repeat (first | (refine wpKind_free (v := ?_) (by rfl) rfl (by rfl) ?_ ?_; rotate_left 1; (focus (intro wy; go_simp; try with_reducible rfl; done)); try simp only [Act.put, List.setIfInBounds_toArray, List.set_cons_zero, List.set_cons_succ]) | (refine wpKind_free (v := ?_) (by rfl) rfl (by rfl) ?_ ?_; rotate_left 1; (focus (intro wy; go_simp; (try rw [hwr]); rw [if_pos (show _ ∧ _ from ⟨by omega, by omega⟩)]; (try rw [Int.toNat_natCast]); (try rw [hnt]); (first | with_reducible rfl | (simp only [Nat.mul_one]; with_reducible rfl)); done)); try simp only [Act.put, List.setIfInBounds_toArray, List.set_cons_zero, List.set_cons_succ]) | (refine wpKind_held (v := ?_) (by rfl) rfl (by rfl) hSw ?_ ?_; rotate_left 1; (focus (intro wy hSy; obtain ⟨t0, t1, u0, u1, u2, u3, u4⟩ := hSy; go_simp; try with_reducible rfl; done)); try simp only [Act.put, List.setIfInBounds_toArray, List.set_cons_zero, List.set_cons_succ]))
                      refine wpKind_keeps (by rfl) rfl (fun m1 => ?_)
                      go_wp2_with fail
                      refine (HC.out (wr.drewN m1) (below_drewN HBW.out m1)).mono ?_
                      rintro e wv ⟨rfl, hbv⟩
                      have hbv2 : Below wr.heap.size wr wv := Below.lift (below_drewN (Below.refl _ _) m1) hbv
                      have hSv := HK.out wr wv hbv2 (Nat.le_refl _) hSw
                      have HBV := Lib.hid (Hb.out.trans (hbv2.mono Hb.out.size))
                      clear hbv hbv2 hSw
                      have hSw := hSv
                      clear hSv
                      go_wp2_with fail
                      show _ ∧ _
                      refine ⟨hSw, ?_⟩
                      repeat (first | (refine wpKind_free (v := ?_) (by rfl) rfl (by rfl) ?_ ?_; rotate_left 1; (focus (intro wy; go_simp; try with_reducible rfl; done)); try simp only [Act.put, List.setIfInBounds_toArray, List.set_cons_zero, List.set_cons_succ]) | (refine wpKind_free (v := ?_) (by rfl) rfl (by rfl) ?_ ?_; rotate_left 1; (focus (intro wy; go_simp; (try rw [hwr]); rw [if_pos (show _ ∧ _ from ⟨by omega, by omega⟩)]; (try rw [Int.toNat_natCast]); (try rw [hnt]); (first | with_reducible rfl | (simp only [Nat.mul_one]; with_reducible rfl)); done)); try simp only [Act.put, List.setIfInBounds_toArray, List.set_cons_zero, List.set_cons_succ]) | (refine wpKind_held (v := ?_) (by rfl) rfl (by rfl) hSw ?_ ?_; rotate_left 1; (focus (intro wy hSy; obtain ⟨t0, t1, u0, u1, u2, u3, u4⟩ := hSy; go_simp; try with_reducible rfl; done)); try simp only [Act.put, List.setIfInBounds_toArray, List.set_cons_zero, List.set_cons_succ]))
                      refine wpKind_nil fun m2 => ?_
                      clear hSw
                      go_wp2_with fail
                      go_roundw
                      case rel => exact ⟨k + 1, by omega, by go_num, below_drewN HBV.out m2⟩
                      case measure => simp [intOf]; omega
                    · have hke : k = x.trips.length := by omega
                      subst hke
                      obtain ⟨w10, rfl⟩ : ∃ w10, w10 = wr := ⟨_, rfl⟩
                      have HB10 := Lib.hid hbW
                      have HLX10 := Lib.hid fun k (hk : k < L.length) => (hb.cell (p := ⟨lb, lo + k, none⟩) HLB9.out).trans (HLX9.out k hk)
                      have HLB10 := Lib.hid (Nat.lt_of_lt_of_le HLB9.out hb.size)
                      clear hb hbW BASE
                      go_wp2_with fail
                      have BASE := HB10
                      clear c0 c1 c2 c3 c4 c5 c6
                      go_loopw [16] (fun s wq => ∃ k : Nat, k ≤ x.hazs.length ∧ s = .int .i64 k ∧ Below w10.heap.size w10 wq) (fun s _ => x.hazs.length - (intOf s).toNat)
                      case atStart => exact ⟨0, Nat.zero_le _, rfl, Below.refl _ _⟩
                      case round =>
                        obtain ⟨k, hk, rfl, hb⟩ := hrel
                        have hbW := BASE.out.trans (hb.mono BASE.out.size)
                        obtain ⟨c0, c1, c2, c3, c4, c5, c6⟩ := CELLS.out wr hbW
                        by_cases hlt : k < x.hazs.length
                        · have hst := (HG1.out.below_ hbW).hazs
                          rw [HEH.out] at hst
                          obtain ⟨b1, o1, p1, e1, _, _, hl1, _, hxx⟩ := hst.at_ hlt
                          injection e1 with e1 e2 e3
                          subst e1 e3
                          obtain ⟨y, hye⟩ : ∃ y, x.hazs[k] = y := ⟨_, rfl⟩
                          have hmem : y ∈ x.hazs := hye ▸ List.getElem_mem hlt
                          have q0 := HAH.out k hlt
                          rw [hye] at hxx q0
                          obtain ⟨q1, q2⟩ := List.getElem?_eq_some_iff.1 q0
                          have hs : wr.cell? ⟨lb, lo + (1 + x.stops.length + x.paths.length + x.doors.length + x.routes.length + x.trips.length + k), none⟩ = some (.string (ba (hazL y))) := by rw [← q2]; exact (hb.cell (p := ⟨lb, lo + (1 + x.stops.length + x.paths.length + x.doors.length + x.routes.length + x.trips.length + k), none⟩) HLB10.out).trans (HLX10.out _ q1)
                          have hx0 : wr.cell? ⟨b1, o1 + k * 5, none⟩ = some (.string (ba y.name)) := by simpa using hxx 0 _ rfl
                          have hx1 : wr.cell? ⟨b1, o1 + k * 5 + 1, none⟩ = some (.string (ba y.on)) := by simpa using hxx 1 _ rfl
                          have hx2 : wr.cell? ⟨b1, o1 + k * 5 + 2, none⟩ = some (.int .i64 y.times.start) := by simpa using hxx 2 _ rfl
                          have hx3 : wr.cell? ⟨b1, o1 + k * 5 + 3, none⟩ = some (.int .i64 y.times.every) := by simpa using hxx 3 _ rfl
                          have hx4 : wr.cell? ⟨b1, o1 + k * 5 + 4, none⟩ = some (.int .i64 y.times.len) := by simpa using hxx 4 _ rfl
                          have HC := Lib.hid fun wy (hbY : Below w1.heap.size w1 wy) => (show Calls Tryd.prog 18 #[.agg #[.string (ba y.name), .string (ba y.on), .int .i64 y.times.start, .int .i64 y.times.every, .int .i64 y.times.len]] wy fun e w' => e = .returned (.string (ba (hazL y))) ∧ Below wy.heap.size wy w' from (haz_any wy y (HP1.out.below hbY) (HFI.out.hazs y hmem).1 (HFI.out.hazs y hmem).2.1 (HFI.out.hazs y hmem).2.2))
                          generalize hazL y = zt at *
                          have zz : ((ba zt).toList != (ba zt).toList) = false := by rw [bne, beq_self_eq_true]; rfl
                          have zy : ((ba zt).toList == (ba zt).toList) = true := beq_self_eq_true _
                          have hwr : IntKind.wrap .i64 (1 + (x.stops.length : Int) + (x.paths.length : Int) + (x.doors.length : Int) + (x.routes.length : Int) + (x.trips.length : Int) + (k : Int)) = ((1 + x.stops.length + x.paths.length + x.doors.length + x.routes.length + x.trips.length + k : Nat) : Int) := by rw [wrap_small (by omega) (by omega)]; omega
                          have hnt : (1 + (x.stops.length : Int) + (x.paths.length : Int) + (x.doors.length : Int) + (x.routes.length : Int) + (x.trips.length : Int) + (k : Int)).toNat = 1 + x.stops.length + x.paths.length + x.doors.length + x.routes.length + x.trips.length + k := by omega
                          have r1 : (0 : Int) ≤ 1 + (x.stops.length : Int) + (x.paths.length : Int) + (x.doors.length : Int) + (x.routes.length : Int) + (x.trips.length : Int) + (k : Int) := by omega
                          have r2 : 1 + (x.stops.length : Int) + (x.paths.length : Int) + (x.doors.length : Int) + (x.routes.length : Int) + (x.trips.length : Int) + (k : Int) < (L.length : Int) := by omega
                          have r3 : (0 : Int) ≤ (k : Int) := by omega
                          have r4 : (k : Int) < (x.hazs.length : Int) := by omega
                          clear hxx hst q0 q2 hmem
                          have hSw : (fun wy => wy.cell? ⟨lb, lo + (1 + x.stops.length + x.paths.length + x.doors.length + x.routes.length + x.trips.length + k), none⟩ = some (.string (ba zt)) ∧ wy.cell? ⟨w.heap.size, 6, none⟩ = some (.slice (some ⟨b1, o1, none⟩) x.hazs.length ch) ∧ wy.cell? ⟨b1, o1 + k * 5, none⟩ = some (.string (ba y.name)) ∧ wy.cell? ⟨b1, o1 + k * 5 + 1, none⟩ = some (.string (ba y.on)) ∧ wy.cell? ⟨b1, o1 + k * 5 + 2, none⟩ = some (.int .i64 y.times.start) ∧ wy.cell? ⟨b1, o1 + k * 5 + 3, none⟩ = some (.int .i64 y.times.every) ∧ wy.cell? ⟨b1, o1 + k * 5 + 4, none⟩ = some (.int .i64 y.times.len)) wr := ⟨hs, c6, hx0, hx1, hx2, hx3, hx4⟩
                          have hK : ∀ (wa wb : World), Below wa.heap.size wa wb → wr.heap.size ≤ wa.heap.size → (fun wy => wy.cell? ⟨lb, lo + (1 + x.stops.length + x.paths.length + x.doors.length + x.routes.length + x.trips.length + k), none⟩ = some (.string (ba zt)) ∧ wy.cell? ⟨w.heap.size, 6, none⟩ = some (.slice (some ⟨b1, o1, none⟩) x.hazs.length ch) ∧ wy.cell? ⟨b1, o1 + k * 5, none⟩ = some (.string (ba y.name)) ∧ wy.cell? ⟨b1, o1 + k * 5 + 1, none⟩ = some (.string (ba y.on)) ∧ wy.cell? ⟨b1, o1 + k * 5 + 2, none⟩ = some (.int .i64 y.times.start) ∧ wy.cell? ⟨b1, o1 + k * 5 + 3, none⟩ = some (.int .i64 y.times.every) ∧ wy.cell? ⟨b1, o1 + k * 5 + 4, none⟩ = some (.int .i64 y.times.len)) wa → (fun wy => wy.cell? ⟨lb, lo + (1 + x.stops.length + x.paths.length + x.doors.length + x.routes.length + x.trips.length + k), none⟩ = some (.string (ba zt)) ∧ wy.cell? ⟨w.heap.size, 6, none⟩ = some (.slice (some ⟨b1, o1, none⟩) x.hazs.length ch) ∧ wy.cell? ⟨b1, o1 + k * 5, none⟩ = some (.string (ba y.name)) ∧ wy.cell? ⟨b1, o1 + k * 5 + 1, none⟩ = some (.string (ba y.on)) ∧ wy.cell? ⟨b1, o1 + k * 5 + 2, none⟩ = some (.int .i64 y.times.start) ∧ wy.cell? ⟨b1, o1 + k * 5 + 3, none⟩ = some (.int .i64 y.times.every) ∧ wy.cell? ⟨b1, o1 + k * 5 + 4, none⟩ = some (.int .i64 y.times.len)) wb := by
                            intro wa wb hbb hle hS9
                            obtain ⟨t0, t1, u0, u1, u2, u3, u4⟩ := hS9
                            exact ⟨(hbb.cell (p := ⟨lb, lo + (1 + x.stops.length + x.paths.length + x.doors.length + x.routes.length + x.trips.length + k), none⟩) (Nat.lt_of_lt_of_le (Nat.lt_of_lt_of_le HLB10.out hb.size) hle)).trans t0, (hbb.cell (p := ⟨w.heap.size, 6, none⟩) (Nat.lt_of_lt_of_le (Nat.lt_of_lt_of_le HLT.out hbW.size) hle)).trans t1, (hbb.cell (p := ⟨b1, o1 + k * 5, none⟩) (Nat.lt_of_lt_of_le hl1 hle)).trans u0, (hbb.cell (p := ⟨b1, o1 + k * 5 + 1, none⟩) (Nat.lt_of_lt_of_le hl1 hle)).trans u1, (hbb.cell (p := ⟨b1, o1 + k * 5 + 2, none⟩) (Nat.lt_of_lt_of_le hl1 hle)).trans u2, (hbb.cell (p := ⟨b1, o1 + k * 5 + 3, none⟩) (Nat.lt_of_lt_of_le hl1 hle)).trans u3, (hbb.cell (p := ⟨b1, o1 + k * 5 + 4, none⟩) (Nat.lt_of_lt_of_le hl1 hle)).trans u4⟩
                          have HK := Lib.hid hK
                          have HBW := Lib.hid hbW
                          have Hb := Lib.hid hb
                          clear hK hbW hb
                          go_wp2_with fail
                          clear hs c0 c1 c2 c3 c4 c5 c6 hx0 hx1 hx2 hx3 hx4
                          refine wp_region_kinds (fun wy => wy.cell? ⟨lb, lo + (1 + x.stops.length + x.paths.length + x.doors.length + x.routes.length + x.trips.length + k), none⟩ = some (.string (ba zt)) ∧ wy.cell? ⟨w.heap.size, 6, none⟩ = some (.slice (some ⟨b1, o1, none⟩) x.hazs.length ch) ∧ wy.cell? ⟨b1, o1 + k * 5, none⟩ = some (.string (ba y.name)) ∧ wy.cell? ⟨b1, o1 + k * 5 + 1, none⟩ = some (.string (ba y.on)) ∧ wy.cell? ⟨b1, o1 + k * 5 + 2, none⟩ = some (.int .i64 y.times.start) ∧ wy.cell? ⟨b1, o1 + k * 5 + 3, none⟩ = some (.int .i64 y.times.every) ∧ wy.cell? ⟨b1, o1 + k * 5 + 4, none⟩ = some (.int .i64 y.times.len)) [11] [] [5, 7, 10] [0, 1, 2, 3, 4, 6, 8, 9, 12] [0, 1, 2, 3, 4, 5, 6, 7, 8, 9, 10, 11, 12] (by kernel_rfl) (by kernel_rfl) (fun w n h => h) ?_
                          repeat (first | (refine wpKind_free (v := ?_) (by rfl) rfl (by rfl) ?_ ?_; rotate_left 1; (focus (intro wy; go_simp; try with_reducible rfl; done)); try simp only [Act.put, List.setIfInBounds_toArray, List.set_cons_zero, List.set_cons_succ]) | (refine wpKind_free (v := ?_) (by rfl) rfl (by rfl) ?_ ?_; rotate_left 1; (focus (intro wy; go_simp; (try rw [hwr]); rw [if_pos (show _ ∧ _ from ⟨by omega, by omega⟩)]; (try rw [Int.toNat_natCast]); (try rw [hnt]); (first | with_reducible rfl | (simp only [Nat.mul_one]; with_reducible rfl)); done)); try simp only [Act.put, List.setIfInBounds_toArray, List.set_cons_zero, List.set_cons_succ]) | (refine wpKind_held (v := ?_) (by rfl) rfl (by rfl) hSw ?_ ?_; rotate_left 1; (focus (intro wy hSy; obtain ⟨t0, t1, u0, u1, u2, u3, u4⟩ := hSy; go_simp; try with_reducible rfl; done)); try simp only [Act.put, List.setIfInBounds_toArray, List.set_cons_zero, List.set_cons_succ]))
                          refine wpKind_keeps (by rfl) rfl (fun m1 => ?_)
                          go_wp2_with fail
                          refine (HC.out (wr.drewN m1) (below_drewN HBW.out m1)).mono ?_
                          rintro e wv ⟨rfl, hbv⟩
                          have hbv2 : Below wr.heap.size wr wv := Below.lift (below_drewN (Below.refl _ _) m1) hbv
                          have hSv := HK.out wr wv hbv2 (Nat.le_refl _) hSw
                          have HBV := Lib.hid (Hb.out.trans (hbv2.mono Hb.out.size))
                          clear hbv hbv2 hSw
                          have hSw := hSv
                          clear hSv
                          go_wp2_with fail
                          show _ ∧ _
                          refine ⟨hSw, ?_⟩
                          repeat (first | (refine wpKind_free (v := ?_) (by rfl) rfl (by rfl) ?_ ?_; rotate_left 1; (focus (intro wy; go_simp; try with_reducible rfl; done)); try simp only [Act.put, List.setIfInBounds_toArray, List.set_cons_zero, List.set_cons_succ]) | (refine wpKind_free (v := ?_) (by rfl) rfl (by rfl) ?_ ?_; rotate_left 1; (focus (intro wy; go_simp; (try rw [hwr]); rw [if_pos (show _ ∧ _ from ⟨by omega, by omega⟩)]; (try rw [Int.toNat_natCast]); (try rw [hnt]); (first | with_reducible rfl | (simp only [Nat.mul_one]; with_reducible rfl)); done)); try simp only [Act.put, List.setIfInBounds_toArray, List.set_cons_zero, List.set_cons_succ]) | (refine wpKind_held (v := ?_) (by rfl) rfl (by rfl) hSw ?_ ?_; rotate_left 1; (focus (intro wy hSy; obtain ⟨t0, t1, u0, u1, u2, u3, u4⟩ := hSy; go_simp; try with_reducible rfl; done)); try simp only [Act.put, List.setIfInBounds_toArray, List.set_cons_zero, List.set_cons_succ]))
                          refine wpKind_nil fun m2 => ?_
                          clear hSw
                          go_wp2_with fail
                          go_roundw
                          case rel => exact ⟨k + 1, by omega, by go_num, below_drewN HBV.out m2⟩
                          case measure => simp [intOf]; omega
                        · have hke : k = x.hazs.length := by omega
                          subst hke
                          obtain ⟨w11, rfl⟩ : ∃ w11, w11 = wr := ⟨_, rfl⟩
                          have HB11 := Lib.hid hbW
                          have HLX11 := Lib.hid fun k (hk : k < L.length) => (hb.cell (p := ⟨lb, lo + k, none⟩) HLB10.out).trans (HLX10.out k hk)
                          have HLB11 := Lib.hid (Nat.lt_of_lt_of_le HLB10.out hb.size)
                          clear hb hbW BASE
                          go_wp2_with fail
                          go_ret
                          exact ⟨rfl, HB1.out.trans (HB11.out.mono HB1.out.size)⟩
end Go.Proofs.YtmihinhbcncbfaaDoor
