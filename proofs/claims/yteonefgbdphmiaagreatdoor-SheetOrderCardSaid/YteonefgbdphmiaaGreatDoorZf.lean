/- The walk of timetableref05.Check. -/
import Derived.Test.YteonefgbdphmiaaGreatDoorZd
import Derived.Test.YteonefgbdphmiaaGreatDoorZe
import Derived.Test.YteonefgbdphmiaaGreatDoorZa
import Derived.Test.YteonefgbdphmiaaGreatDoorCk
namespace Go.Proofs.YteonefgbdphmiaaGreatDoor
open Go.RowKit
set_option maxHeartbeats 400000 in
theorem zcheck1_any (n : Int) (w : World) : Calls Tryz.prog 29 #[.int .i64 n] w fun e w' => e = .returned (.int .i64 (if okN n = true then 0 else 9)) ∧ w = w' := by
  unfold okN
  by_cases h : 0 ≤ n ∧ n ≤ 1099511627776
  · rw [if_pos (decide_eq_true h)]
    have q1 : ¬ n < 0 := by omega
    have q2 : ¬ (1099511627776 : Int) < n := by omega
    clear h
    go_enter Tryz.func29, Tryz.ntmps29
    go_wp2
    go_ret
    exact ⟨rfl, rfl⟩
  · rw [if_neg (by simpa using h)]
    by_cases h1 : n < 0
    · clear h
      go_enter Tryz.func29, Tryz.ntmps29
      go_wp2
      go_ret
      exact ⟨rfl, rfl⟩
    · have q2 : (1099511627776 : Int) < n := by omega
      clear h
      go_enter Tryz.func29, Tryz.ntmps29
      go_wp2
      go_ret
      exact ⟨rfl, rfl⟩
theorem any_take_no {α : Type} {p : α → Bool} {l : List α} {k : Nat} (hk : k < l.length) (h : (l.take k).any p = false) (hp : p l[k] = false) : (l.take (k + 1)).any p = false := by
  rw [take_succ_eq l k hk, List.any_append, h]; simp [hp]
theorem any_at {α : Type} {p : α → Bool} {l : List α} {k : Nat} (hk : k < l.length) (hp : p l[k] = true) : l.any p = true :=
  List.any_eq_true.2 ⟨l[k], List.getElem_mem hk, hp⟩
theorem ba_dl (s : List UInt8) : (ba s).data.toList = s := by simp [ba]
set_option maxHeartbeats 8000000 in
set_option maxRecDepth 100000 in
theorem zcheck_any (w : World) (x : SheetM) {P : Nat → Prop} (hg : x.Good w P) (hf : x.Few) (hl : longD x.d = false) (hm : ∀ s ∈ namesD x.d, s.length ≤ maxLen) :
    Calls Tryz.prog 11 #[x.v] w fun e w' => e = .returned (.int .i64 (checkD x.d)) ∧ Below w.heap.size w w' := by
  obtain ⟨l1, l2, l3, l4, l5, l6⟩ := not_long hl
  obtain ⟨w1, hw1⟩ : ∃ w1, w.alloc (.cells x.c.toArray 29) = w1 := ⟨_, rfl⟩
  have hS1 : SheetAt w.heap.size x w1 := by rw [← hw1]; exact SheetAt.of (heap_alloc_new _ _)
  have hb1 : Below w.heap.size w w1 := by rw [← hw1]; exact (Below.refl _ _).alloc (Nat.le_refl _) _
  have hlt : w.heap.size < w1.heap.size := by rw [← hw1]; simp
  have HB1 := Lib.hid hb1
  have HG1 := Lib.hid (hg.below_ hb1)
  have HS1 := Lib.hid hS1
  have HLT := Lib.hid hlt
  have HF := Lib.hid hf
  have HM := Lib.hid hm
  have HNB := Lib.hid (names_bound x hf)
  have HUB := Lib.hid (nums_bound x hf)
  obtain ⟨As, cs, es, _, _⟩ := hg.stops.shape
  obtain ⟨Ap, cp, ep, _, _⟩ := hg.paths.shape
  obtain ⟨Ad, cd, ed, _, _⟩ := hg.doors.shape
  obtain ⟨Ar, cr, er, _, _⟩ := hg.routes.shape
  obtain ⟨At, ct, et, _, _⟩ := hg.trips.shape
  obtain ⟨Ah, ch, eh, _, _⟩ := hg.hazs.shape
  have cells : ∀ wx, SheetAt w.heap.size x wx → wx.cell? ⟨w.heap.size, 0, none⟩ = some (.int .i64 x.hor) ∧ wx.cell? ⟨w.heap.size, 1, none⟩ = some (.slice As x.stops.length cs) ∧ wx.cell? ⟨w.heap.size, 2, none⟩ = some (.slice Ap x.paths.length cp) ∧ wx.cell? ⟨w.heap.size, 3, none⟩ = some (.slice Ad x.doors.length cd) ∧ wx.cell? ⟨w.heap.size, 4, none⟩ = some (.slice Ar x.routes.length cr) ∧ wx.cell? ⟨w.heap.size, 5, none⟩ = some (.slice At x.trips.length ct) ∧ wx.cell? ⟨w.heap.size, 6, none⟩ = some (.slice Ah x.hazs.length ch) := by
    rintro wx ⟨s0, s1, s2, s3, s4, s5, s6⟩
    rw [es] at s1
    rw [ep] at s2
    rw [ed] at s3
    rw [er] at s4
    rw [et] at s5
    rw [eh] at s6
    exact ⟨s0, s1, s2, s3, s4, s5, s6⟩
  have CELLS := Lib.hid cells
  have hv : x.v = .agg #[.int .i64 x.hor, .slice As x.stops.length cs, .slice Ap x.paths.length cp, .slice Ad x.doors.length cd, .slice Ar x.routes.length cr, .slice At x.trips.length ct, .slice Ah x.hazs.length ch] := by
    unfold SheetM.v; rw [es, ep, ed, er, et, eh]
  have HNM := Lib.hid (fun w3 (h3 : x.Good w3 P) => hv ▸ znames_any w3 x h3 hf)
  have HNU := Lib.hid (fun w3 (h3 : x.Good w3 P) => hv ▸ znumbers_any w3 x h3 hf)
  have HER := Lib.hid er
  unfold SheetM.c at hw1
  rw [es, ep, ed, er, et, eh] at hw1
  rw [hv]
  have r1 : decide ((256 : Int) < (x.stops.length : Int)) = false := decide_eq_false (by omega)
  have r2 : decide ((1024 : Int) < (x.paths.length : Int)) = false := decide_eq_false (by omega)
  have r3 : decide ((256 : Int) < (x.doors.length : Int)) = false := decide_eq_false (by omega)
  have r4 : decide ((256 : Int) < (x.routes.length : Int)) = false := decide_eq_false (by omega)
  have r5 : decide ((1024 : Int) < (x.trips.length : Int)) = false := decide_eq_false (by omega)
  have r6 : decide ((256 : Int) < (x.hazs.length : Int)) = false := decide_eq_false (by omega)
  have q1 : decide (256 < x.stops.length) = false := decide_eq_false (by omega)
  have q2 : decide (1024 < x.paths.length) = false := decide_eq_false (by omega)
  have q3 : decide (256 < x.doors.length) = false := decide_eq_false (by omega)
  have q4 : decide (256 < x.routes.length) = false := decide_eq_false (by omega)
  have q5 : decide (1024 < x.trips.length) = false := decide_eq_false (by omega)
  have q6 : decide (256 < x.hazs.length) = false := decide_eq_false (by omega)
  obtain ⟨c0, c1, c2, c3, c4, c5, c6⟩ := cells w1 hS1
  have HCK := Lib.hid (show checkD x.d = if (namesD x.d).any (fun s => !Nm.name s) = true then 7 else if (numsD x.d).any (fun n => !okN n) = true then 9 else if x.routes.any (fun r => !okR r.d) = true then 2 else 0 by
    unfold checkD; rw [if_neg (by rw [hl]; decide), any_routes])
  clear es ep ed er et eh hS1 hb1 hlt hf hg cells hm hv hl
  go_enter Tryz.func11, Tryz.ntmps11
  go_wp2_with fail
  clear r1 r2 r3 r4 r5 r6 q1 q2 q3 q4 q5 q6
  refine (HNM.out w1 HG1.out).mono ?_
  rintro e w2 ⟨v2, rfl, ho2, hb2⟩
  have HB2 := Lib.hid hb2
  have HN2 := Lib.hid (ho2.sl nc_len)
  have hnb := HNB.out
  obtain ⟨A2, n2, p2, rfl⟩ := ow_form ho2
  obtain rfl : n2 = (namesD x.d).length := by
    obtain ⟨A9, p9, e9, _, _⟩ := (ho2.sl nc_len).shape
    exact (Value.slice.inj e9).2.1
  clear ho2 hb2 c0 c1 c2 c3 c4 c5 c6 hw1
  go_wp2_with fail
  go_loopg [4] (namesD x.d).length (fun gg s wr => ∃ k : Nat, k ≤ (namesD x.d).length ∧ (namesD x.d).length - k ≤ gg ∧ s = .int .i64 k ∧ Hid (((namesD x.d).take k).any (fun s => !Nm.name s) = false) ∧ Below w1.heap.size w1 wr ∧ Below w2.heap.size w2 wr)
  case atStart => exact ⟨0, Nat.zero_le _, by omega, rfl, Lib.hid rfl, HB2.out, Below.refl _ _⟩
  case round =>
    obtain ⟨k, hk, hgg, rfl, HA, hb, hb2⟩ := hrel
    have HBR := Lib.hid hb
    have HBS := Lib.hid hb2
    clear hb hb2
    by_cases hlt : k < (namesD x.d).length
    · obtain ⟨b1, o1, p1, e1, _, _, hl1, _, hx⟩ := HN2.out.at_ hlt
      injection e1 with e1 e2 e3
      subst e1
      obtain ⟨s, hs⟩ : ∃ s, (namesD x.d)[k] = s := ⟨_, rfl⟩
      rw [hs] at hx
      have hx0 : wr.cell? ⟨b1, o1 + k, none⟩ = some (.string (ba s)) := (HBS.out.cell (p := ⟨b1, o1 + k, none⟩) hl1).trans (by simpa using hx 0 _ rfl)
      have HN := Lib.hid (yname_any (ba s) wr (by rw [ba_size]; exact HM.out s (by rw [← hs]; exact List.getElem_mem hlt)))
      rw [ba_dl] at HN
      have HSE := Lib.hid hs
      have q1 : (0 : Int) ≤ (k : Int) := by omega
      have q2 : (k : Int) < ((namesD x.d).length : Int) := by omega
      clear hx e2 e3 hs
      go_wp2_with fail
      refine HN.out.mono ?_
      rintro e w4 ⟨rfl, hb4⟩
      have HB4 := Lib.hid (HBR.out.trans (hb4.mono HBR.out.size))
      have HB5 := Lib.hid (HBS.out.trans (hb4.mono HBS.out.size))
      clear hb4 HN
      cases hn : Nm.name s
      · have HNM2 := Lib.hid hn
        clear hn
        go_wp2_with fail
        go_ret
        refine ⟨ret_i64 ?_, HB1.out.trans (HB4.out.mono HB1.out.size)⟩
        rw [HCK.out, if_pos (any_at hlt (by rw [HSE.out, HNM2.out]; rfl))]
      · have HNM2 := Lib.hid hn
        clear hn
        go_wp2_with fail
        go_roundg ((namesD x.d).length - (k + 1))
        case measure => omega
        case rel => exact ⟨k + 1, by omega, by omega, by go_num, Lib.hid (any_take_no hlt HA.out (by rw [HSE.out, HNM2.out]; rfl)), HB4.out, HB5.out⟩
    · have hke : k = (namesD x.d).length := by omega
      subst hke
      have q1 : ¬ ((namesD x.d).length : Int) < ((namesD x.d).length : Int) := Int.lt_irrefl _
      have HA1 := Lib.hid (show (namesD x.d).any (fun s => !Nm.name s) = false by have h := HA.out; rw [List.take_length] at h; exact h)
      have HG3 := Lib.hid (HG1.out.below_ HBR.out)
      obtain ⟨c0, c1, c2, c3, c4, c5, c6⟩ := CELLS.out wr (HS1.out.below HBR.out HLT.out)
      clear HA HBS hlt hk hgg
      go_wp2_with fail
      clear q1
      refine (HNU.out wr HG3.out).mono ?_
      rintro e w4 ⟨v4, rfl, ho4, hb4⟩
      have HB4 := Lib.hid (HBR.out.trans (hb4.mono HBR.out.size))
      have HN4 := Lib.hid (ho4.sl ic_len)
      have hub := HUB.out
      obtain ⟨A4, n4, p4, rfl⟩ := ow_form ho4
      obtain rfl : n4 = (numsD x.d).length := by
        obtain ⟨A9, p9, e9, _, _⟩ := (ho4.sl ic_len).shape
        exact (Value.slice.inj e9).2.1
      clear ho4 hb4 c0 c1 c2 c3 c4 c5 c6
      go_wp2_with fail
      go_loopg [6] (numsD x.d).length (fun gg s wx => ∃ k : Nat, k ≤ (numsD x.d).length ∧ (numsD x.d).length - k ≤ gg ∧ s = .int .i64 k ∧ Hid (((numsD x.d).take k).any (fun n => !okN n) = false) ∧ w4 = wx)
      case atStart => exact ⟨0, Nat.zero_le _, by omega, rfl, Lib.hid rfl, rfl⟩
      case round =>
        obtain ⟨k, hk, hgg, rfl, HA, rfl⟩ := hrel
        by_cases hlt : k < (numsD x.d).length
        · obtain ⟨b1, o1, p1, e1, _, _, hl1, _, hx⟩ := HN4.out.at_ hlt
          injection e1 with e1 e2 e3
          subst e1
          obtain ⟨s, hs⟩ : ∃ s, (numsD x.d)[k] = s := ⟨_, rfl⟩
          rw [hs] at hx
          have hx0 : w4.cell? ⟨b1, o1 + k, none⟩ = some (.int .i64 s) := by simpa using hx 0 _ rfl
          have HN := Lib.hid (zcheck1_any s w4)
          have HSE := Lib.hid hs
          have q1 : (0 : Int) ≤ (k : Int) := by omega
          have q2 : (k : Int) < ((numsD x.d).length : Int) := by omega
          clear hx e2 e3 hs
          go_wp2_with fail
          refine HN.out.mono ?_
          rintro e w5 ⟨rfl, rfl⟩
          clear HN
          cases hn : okN s
          · have HNM2 := Lib.hid hn
            rw [if_neg (by decide)]
            clear hn
            go_wp2_with fail
            go_ret
            refine ⟨ret_i64 ?_, HB1.out.trans (HB4.out.mono HB1.out.size)⟩
            rw [HCK.out, HA1.out, if_neg (by decide), if_pos (any_at hlt (by rw [HSE.out, HNM2.out]; rfl))]
          · have HNM2 := Lib.hid hn
            rw [if_pos rfl]
            clear hn
            go_wp2_with fail
            go_roundg ((numsD x.d).length - (k + 1))
            case measure => omega
            case rel => exact ⟨k + 1, by omega, by omega, by go_num, Lib.hid (any_take_no hlt HA.out (by rw [HSE.out, HNM2.out]; rfl)), rfl⟩
        · have hke : k = (numsD x.d).length := by omega
          subst hke
          have q1 : ¬ ((numsD x.d).length : Int) < ((numsD x.d).length : Int) := Int.lt_irrefl _
          have HA2 := Lib.hid (show (numsD x.d).any (fun n => !okN n) = false by have h := HA.out; rw [List.take_length] at h; exact h)
          clear HA hlt hk hgg
          go_wp2_with fail
          clear q1
          go_loopg [7] x.routes.length (fun gg s wx => ∃ k : Nat, k ≤ x.routes.length ∧ x.routes.length - k ≤ gg ∧ s = .int .i64 k ∧ Hid ((x.routes.take k).any (fun r => !okR r.d) = false) ∧ Below w1.heap.size w1 wx)
          case atStart => exact ⟨0, Nat.zero_le _, by omega, rfl, Lib.hid rfl, HB4.out⟩
          case round =>
            obtain ⟨k, hk, hgg, rfl, HA, hb⟩ := hrel
            have HBR := Lib.hid hb
            obtain ⟨c0, c1, c2, c3, c4, c5, c6⟩ := CELLS.out wr (HS1.out.below hb HLT.out)
            clear hb
            by_cases hlt : k < x.routes.length
            · have hst := HG1.out.routes
              rw [HER.out] at hst
              obtain ⟨b1, o1, p1, e1, _, _, hl1, _, hx⟩ := hst.at_ hlt
              injection e1 with e1 e2 e3
              subst e1
              obtain ⟨y, hy⟩ : ∃ y, x.routes[k] = y := ⟨_, rfl⟩
              rw [hy] at hx
              have hgy := HG1.out.each y (by rw [← hy]; exact List.getElem_mem hlt)
              obtain ⟨hy1, hy2, hy3⟩ := HF.out.each y (by rw [← hy]; exact List.getElem_mem hlt)
              obtain ⟨Ax1, cx1, ex1, _, _⟩ := hgy.stops.shape
              obtain ⟨Ax2, cx2, ex2, _, _⟩ := hgy.rides.shape
              obtain ⟨Ax3, cx3, ex3, _, _⟩ := hgy.stays.shape
              have hx0 : wr.cell? ⟨b1, o1 + k * 4, none⟩ = some (.string (ba y.name)) := (HBR.out.cell (p := ⟨b1, o1 + k * 4, none⟩) hl1).trans (by simpa using hx 0 _ rfl)
              have hx1 : wr.cell? ⟨b1, o1 + k * 4 + 1, none⟩ = some (.slice Ax1 y.stops.length cx1) := (HBR.out.cell (p := ⟨b1, o1 + k * 4 + 1, none⟩) hl1).trans (by rw [← ex1]; simpa using hx 1 _ rfl)
              have hx2 : wr.cell? ⟨b1, o1 + k * 4 + 2, none⟩ = some (.slice Ax2 y.rides.length cx2) := (HBR.out.cell (p := ⟨b1, o1 + k * 4 + 2, none⟩) hl1).trans (by rw [← ex2]; simpa using hx 2 _ rfl)
              have hx3 : wr.cell? ⟨b1, o1 + k * 4 + 3, none⟩ = some (.slice Ax3 y.stays.length cx3) := (HBR.out.cell (p := ⟨b1, o1 + k * 4 + 3, none⟩) hl1).trans (by rw [← ex3]; simpa using hx 3 _ rfl)
              have HSE := Lib.hid hy
              have q1 : (0 : Int) ≤ (k : Int) := by omega
              have q2 : (k : Int) < (x.routes.length : Int) := by omega
              clear hx e2 e3 hy hst hgy ex1 ex2 ex3
              by_cases g1 : y.stops.length < 2
              · have HOK := Lib.hid (show (!okR x.routes[k].d) = true by rw [HSE.out]; unfold okR; rw [decide_eq_false (by rintro ⟨h, _⟩; have : 2 ≤ y.stops.length := h; omega)]; rfl)
                have t1 : (y.stops.length : Int) < 2 := by omega
                go_wp2_with fail
                go_ret
                refine ⟨ret_i64 ?_, HB1.out.trans ((HBR.out.alloc HBR.out.size _).mono HB1.out.size)⟩
                rw [HCK.out, HA1.out, HA2.out, if_neg (by decide), if_neg (by decide), if_pos (any_at hlt HOK.out)]
              have t1 : ¬ (y.stops.length : Int) < 2 := by omega
              by_cases g2 : 32 < y.stops.length
              · have HOK := Lib.hid (show (!okR x.routes[k].d) = true by rw [HSE.out]; unfold okR; rw [decide_eq_false (by rintro ⟨_, h, _⟩; have : y.stops.length ≤ 32 := h; omega)]; rfl)
                have t2 : (32 : Int) < (y.stops.length : Int) := by omega
                go_wp2_with fail
                go_ret
                refine ⟨ret_i64 ?_, HB1.out.trans ((HBR.out.alloc HBR.out.size _).mono HB1.out.size)⟩
                rw [HCK.out, HA1.out, HA2.out, if_neg (by decide), if_neg (by decide), if_pos (any_at hlt HOK.out)]
              have t2 : ¬ (32 : Int) < (y.stops.length : Int) := by omega
              by_cases g3 : y.rides.length + 1 = y.stops.length
              · have t3 : ((y.rides.length : Int) == (y.stops.length : Int) - 1) = true := beq_iff_eq.2 (by omega)
                have t5 : ((y.rides.length : Int) != (y.stops.length : Int) - 1) = false := by rw [bne, t3]; rfl
                by_cases g4 : y.stays.length + 2 = y.stops.length
                · have HOK := Lib.hid (show (!okR x.routes[k].d) = false by rw [HSE.out]; unfold okR; rw [decide_eq_true ⟨by show 2 ≤ y.stops.length; omega, by show y.stops.length ≤ 32; omega, g3, g4⟩]; rfl)
                  have t4 : ((y.stays.length : Int) == (y.stops.length : Int) - 2) = true := beq_iff_eq.2 (by omega)
                  have t6 : ((y.stays.length : Int) != (y.stops.length : Int) - 2) = false := by rw [bne, t4]; rfl
                  clear g3 g4
                  go_wp2_with fail
                  go_roundg (x.routes.length - (k + 1))
                  case measure => omega
                  case rel => exact ⟨k + 1, by omega, by omega, by go_num, Lib.hid (any_take_no hlt HA.out HOK.out), HBR.out.alloc HBR.out.size _⟩
                · have HOK := Lib.hid (show (!okR x.routes[k].d) = true by rw [HSE.out]; unfold okR; rw [decide_eq_false (by rintro ⟨_, _, _, h⟩; exact g4 h)]; rfl)
                  have t4 : ((y.stays.length : Int) == (y.stops.length : Int) - 2) = false := beq_eq_false_iff_ne.2 (by omega)
                  have t6 : ((y.stays.length : Int) != (y.stops.length : Int) - 2) = true := by rw [bne, t4]; rfl
                  clear g3 g4
                  go_wp2_with fail
                  go_ret
                  refine ⟨ret_i64 ?_, HB1.out.trans ((HBR.out.alloc HBR.out.size _).mono HB1.out.size)⟩
                  rw [HCK.out, HA1.out, HA2.out, if_neg (by decide), if_neg (by decide), if_pos (any_at hlt HOK.out)]
              · have HOK := Lib.hid (show (!okR x.routes[k].d) = true by rw [HSE.out]; unfold okR; rw [decide_eq_false (by rintro ⟨_, _, h, _⟩; exact g3 h)]; rfl)
                have t3 : ((y.rides.length : Int) == (y.stops.length : Int) - 1) = false := beq_eq_false_iff_ne.2 (by omega)
                have t5 : ((y.rides.length : Int) != (y.stops.length : Int) - 1) = true := by rw [bne, t3]; rfl
                clear g3
                go_wp2_with fail
                go_ret
                refine ⟨ret_i64 ?_, HB1.out.trans ((HBR.out.alloc HBR.out.size _).mono HB1.out.size)⟩
                rw [HCK.out, HA1.out, HA2.out, if_neg (by decide), if_neg (by decide), if_pos (any_at hlt HOK.out)]
            · have hke : k = x.routes.length := by omega
              subst hke
              have q1 : ¬ (x.routes.length : Int) < (x.routes.length : Int) := Int.lt_irrefl _
              have HA3 := Lib.hid (show x.routes.any (fun r => !okR r.d) = false by have h := HA.out; rw [List.take_length] at h; exact h)
              clear HA hlt hk hgg
              go_wp2_with fail
              go_ret
              refine ⟨ret_i64 ?_, HB1.out.trans (HBR.out.mono HB1.out.size)⟩
              rw [HCK.out, HA1.out, HA2.out, HA3.out]; rfl
end Go.Proofs.YteonefgbdphmiaaGreatDoor
