/- The walk of the reader's route. Printed by wip/bin/genqe.py. -/
import Derived.Test.YtmihinhbcncbfaaGreatDoorQa
import Derived.Test.YtmihinhbcncbfaaGreatDoorSe
namespace Go.Proofs.YtmihinhbcncbfaaGreatDoor
open Go.RowKit
theorem four_all (a : List UInt8) (A1 : Option Addr) (n1 c1 : Nat) (A2 : Option Addr) (n2 c2 : Nat) (A3 : Option Addr) (n3 c3 : Nat) : (#[Value.string (ba a), .slice A1 n1 c1, .slice A2 n2 c2, .slice A3 n3 c3] : Array Value).all (·.oneCell') = true := by simp [Value.oneCell']
theorem ow_slice {α : Type} {c : α → List Value} {size base : Nat} {t : TypeId} {v : Value} {l : List α} {w : World} (hc : ∀ a, (c a).length = size) (h : Ow c size w base t v l) : ∃ A cap, v = .slice A l.length cap := by
  obtain ⟨A, cap, e, _, _⟩ := (h.sl hc).shape
  exact ⟨A, cap, e⟩
set_option maxRecDepth 100000 in
set_option maxHeartbeats 16000000 in
theorem qroute_any (b : Nat) (v : Value) (L : List TokD) (s : Rd) (X : XV) (w : World) (h : RdOk b v L s X w) :
    Calls Tryz.prog 116 #[.pointer (some ⟨b, 0, none⟩)] w fun e w' => ∃ r : RouteM, r.d = (routeRD L s).2 ∧ e = .returned (.agg (rc r).toArray) ∧ r.Good w' (fun k => w.heap.size ≤ k) ∧ RdOk b v L (routeRD L s).1 X w' ∧ Keep b w w' := by
  obtain ⟨iS, hiS, hziS1, hziS2, hziS3⟩ := info_parts info_string
  obtain ⟨iI, hiI, hziI1, hziI2, hziI3⟩ := info_parts info_i64
  have HLT := Lib.hid h.lt
  have hLL := h.len
  obtain ⟨w1, hw1⟩ : ∃ w1, w.alloc (.cells #[.string ⟨#[]⟩, .slice none 0 0, .slice none 0 0, .slice none 0 0] 38) = w1 := ⟨_, rfl⟩
  have HB1 := Lib.hid (show Below w.heap.size w w1 by rw [← hw1]; exact (Below.refl _ _).alloc (Nat.le_refl _) _)
  have HQ1 := Lib.hid (show w1.heap[w.heap.size]? = some (.cells #[.string ⟨#[]⟩, .slice none 0 0, .slice none 0 0, .slice none 0 0] 38 (0, 0)) by rw [← hw1]; exact heap_alloc_new _ _)
  have HZ1 := Lib.hid (show w1.heap.size = w.heap.size + 1 by rw [← hw1]; simp)
  have HO1 := Lib.hid (h.new HB1.out)
  have HRR := Lib.hid (show routeRD L s = ((routeRun L (L.length + 1) (nameD L (nameD L s).1).1 [(nameD L (nameD L s).1).2] [] []).1, { (routeRun L (L.length + 1) (nameD L (nameD L s).1).1 [(nameD L (nameD L s).1).2] [] []).2.1 with name := (nameD L s).2 }) from rfl)
  clear h
  go_enter Tryz.func116, Tryz.ntmps116
  go_upto_region 1 with fail
  try rw [hw1]
  clear hw1
  go_wp2_with fail
  refine (qname_any b v L s X w1 HO1.out).mono ?_
  obtain ⟨⟨s1, nm⟩, hn1⟩ : ∃ r, nameD L s = r := ⟨_, rfl⟩
  rw [hn1] at HRR ⊢
  dsimp only at HRR ⊢
  rintro e w2 ⟨rfl, ho, hk⟩
  have HO2 := Lib.hid ho
  have HK2 := Lib.hid ((Keep.of HB1.out (Nat.le_of_lt HLT.out)).trans hk)
  have HQ2 := Lib.hid ((hk.block w.heap.size (by have := HZ1.out; omega) (by have := HLT.out; omega)).trans HQ1.out)
  have HZ2 := Lib.hid (show w.heap.size + 1 ≤ w2.heap.size by have := hk.size; have := HZ1.out; omega)
  clear ho hk hn1 HQ1 HB1 HO1
  go_upto_region 2 with fail
  obtain ⟨q, hq⟩ : ∃ q, w2.heap.size = q := ⟨_, rfl⟩
  obtain ⟨w3, hw3⟩ : ∃ w3, w2.alloc (.cells #[.string (ba nm), .slice none 0 0, .slice none 0 0, .slice none 0 0] 38) = w3 := ⟨_, rfl⟩
  have hb3 : Below w2.heap.size w2 w3 := by rw [← hw3]; exact (Below.refl _ _).alloc (Nat.le_refl _) _
  have HRT := Lib.hid (show Rt w.heap.size w.heap.size q b nm (.slice none 0 0) (.slice none 0 0) (.slice none 0 0) [] [] [] w3 from
    ⟨Ow.nil_, Ow.nil_, Ow.nil_, fun k hk => by simp [Value.ownBlock] at hk, (hb3.block w.heap.size (by have := HZ2.out; omega)).trans HQ2.out, by rw [← hw3, ← hq]; exact heap_alloc_new _ _, HLT.out, Nat.le_refl _, by have := HZ2.out; omega, by have := HZ2.out; omega⟩)
  have HO := Lib.hid (HO2.out.new hb3)
  have HK := Lib.hid (HK2.out.trans (Keep.of hb3 (by have := HLT.out; have := HZ2.out; omega)))
  rw [hw3, hq]
  clear hw3 hb3 HO2 HK2 HQ2 HZ2 hq
  have hSw : w3.cell? ⟨q, 1, none⟩ = some (.slice none 0 0) := Lib.cell_of_heap HRT.out.x 1
  refine wp_region_kinds (fun wy => wy.cell? ⟨q, 1, none⟩ = some (.slice none 0 0)) [3, 4] [5, 7] [1] [0, 2, 6] [0, 1, 2, 3, 4, 5, 6, 7] (by kernel_rfl) (by kernel_rfl) (fun w n h => h) ?_
  repeat (first | (refine wpKind_free (v := ?_) (by rfl) rfl (by rfl) ?_ ?_; rotate_left 1; (focus (intro wy; go_simp; try with_reducible rfl; done)); try simp only [Act.put, List.setIfInBounds_toArray, List.set_cons_zero, List.set_cons_succ]) | (refine wpKind_held (v := ?_) (by rfl) rfl (by rfl) hSw ?_ ?_; rotate_left 1; (focus (intro wy hSy; have s0 := hSy; go_simp; try with_reducible rfl; done)); try simp only [Act.put, List.setIfInBounds_toArray, List.set_cons_zero, List.set_cons_succ]))
  clear hSw
  refine wpKind_keeps (by rfl) rfl (fun n1 => ?_)
  go_wp2_with fail
  refine (qname_any b v L s1 X (w3.drewN n1) (HO.out.drewN n1)).mono ?_
  obtain ⟨⟨sN, nw⟩, hnw⟩ : ∃ r, nameD L s1 = r := ⟨_, rfl⟩
  rw [hnw]
  rintro e w5 ⟨rfl, ho, hk⟩
  have HNW := Lib.hid hnw
  have HO5 := Lib.hid ho
  have HK5 := Lib.hid ((HK.out.drewN n1).trans hk)
  have HRT5 := Lib.hid ((HRT.out.drewN n1).keep hk)
  clear ho hk HO HK HRT hnw
  go_wp2_with fail
  show _ ∧ _
  refine ⟨Lib.cell_of_heap HRT5.out.x 1, ?_⟩
  refine wpKind_keeps (by rfl) rfl (fun n2 => ?_)
  go_wp2_with fail
  show _ ∧ _
  refine ⟨Lib.cell_of_heap ((HRT5.out.drewN n2).alloc (.cells #[.string (ba nw)] 9)).x 1, ?_⟩
  refine wpKind_serial (by rfl) rfl (fun n3 => ?_)
  go_wp2_with (at_builtin; refine wpList_append_sl _ rfl _ _ _ rfl w.heap.size 9 iS _ 16 Tryz.underlying22 hiS hziS1 hziS2 hziS3 rfl (by omega) nc_len nc_one _ _ [] [nw] rfl rfl ((((HRT5.out.drewN n2).alloc _).drewN n3).s) (((Sl.new1 nw rfl).drewN n3)) (by simp only [maxLen, List.length_cons, List.length_nil]; omega) (by simp only [List.length_cons, List.length_nil]; omega) ((((HRT5.out.drewN n2).alloc _).drewN n3).lB) ?_; intro v1 w6 hown1 hg1 hmv1; obtain ⟨A1, c1, rfl⟩ : ∃ A cap, v1 = .slice A (1) cap := (by obtain ⟨A, cap, e⟩ := ow_slice nc_len hown1; exact ⟨A, cap, by rw [e]; simp⟩))
  have HRT6 := Lib.hid ((((HRT5.out.drewN n2).alloc _).drewN n3).putS hown1 hg1)
  have hx6 := (hg1.block q (((HRT5.out.drewN n2).alloc (.cells #[.string (ba nw)] 9)).drewN n3).lq (Ne.symm (ow_ne (((HRT5.out.drewN n2).alloc (.cells #[.string (ba nw)] 9)).drewN n3).s (((HRT5.out.drewN n2).alloc (.cells #[.string (ba nw)] 9)).drewN n3).x (by decide)))).trans (((HRT5.out.drewN n2).alloc _).drewN n3).x
  have HK6 := Lib.hid ((((HRT5.out.drewN n2).alloc (.cells #[.string (ba nw)] 9)).drewN n3).kp ((((HK5.out.drewN n2).alloc (Nat.le_of_lt HLT.out) (.cells #[.string (ba nw)] 9)).drewN n3)) (Nat.le_refl _) hg1 (fun k hk => ((((HRT5.out.drewN n2).alloc (.cells #[.string (ba nw)] 9)).drewN n3).s.lt hk).1))
  have hbl6 : ∀ k, k ≤ b → w6.heap[k]? = w5.heap[k]? := fun k hk => (hg1.block k (by have := HO5.out.lt; show k < ((w5.drewN n2).alloc _).heap.size; rw [World.size_alloc]; show k < w5.heap.size + 1; omega) (fun e => by have := ((((HRT5.out.drewN n2).alloc (.cells #[.string (ba nw)] 9)).drewN n3).s.lt e.symm).1; have := HLT.out; omega)).trans (Below.heap_alloc _ _ _ (by have := HO5.out.lt; show k < w5.heap.size; omega))
  have HO6 := Lib.hid ((HO5.out.frame (by have := hg1.size; rw [show ((((w5.drewN n2).alloc (.cells #[.string (ba nw)] 9)).drewN n3)).heap.size = w5.heap.size + 1 from World.size_alloc _ _] at this; omega) hbl6))
  have hbq : b < q := (by have := HRT5.out.hb; have := HRT5.out.hq; omega)
  have hwq : w.heap.size ≤ q := HRT5.out.hq
  have y1 : w6.cell? ⟨q, 1, none⟩ = some (.slice none 0 0) := Lib.cell_of_heap hx6 1
  have y2 : w6.frozen? ⟨q, 1, none⟩ = false := Lib.frozen_of_heap hx6 1
  clear hown1 hg1 hmv1 hx6 hbl6 HRT5 HK5 HO5
  repeat (first | (refine wpKind_free (v := ?_) (by rfl) rfl (by rfl) ?_ ?_; rotate_left 1; (focus (intro wy; go_simp; try with_reducible rfl; done)); try simp only [Act.put, List.setIfInBounds_toArray, List.set_cons_zero, List.set_cons_succ]) | (refine wpKind_held (v := ?_) (by rfl) rfl (by rfl) hSw ?_ ?_; rotate_left 1; (focus (intro wy hSy; have s0 := hSy; go_simp; try with_reducible rfl; done)); try simp only [Act.put, List.setIfInBounds_toArray, List.set_cons_zero, List.set_cons_succ]))
  refine wpKind_serial (by rfl) rfl (fun n4 => ?_)
  go_wp2_with fail
  clear y1 y2
  show wpKind _ _ _ _ _ _ _ _ _
  refine wpKind_nil fun n5 => ?_
  obtain ⟨w8, hw7⟩ : ∃ w7, ((w6.drewN n4).setCell ⟨q, 1, none⟩ (.slice A1 (1) c1)).drewN n5 = w7 := ⟨_, rfl⟩
  have HRT := Lib.hid (show Rt w.heap.size w.heap.size q b nm (.slice A1 (1) c1) (.slice none 0 0) (.slice none 0 0) ([] ++ [nw]) [] [] w8 by rw [← hw7]; exact HRT6.out.same rfl)
  have HK := Lib.hid (show Keep b w w8 by rw [← hw7]; exact ((HK6.out.drewN n4).newSet hwq (Nat.le_of_lt HLT.out) 1 _).drewN n5)
  have HO := Lib.hid (show RdOk b v L sN X w8 by rw [← hw7]; exact ((HO6.out.drewN n4).set hbq 1 _).drewN n5)
  rw [hw7]
  clear hw7 HRT6 HK6 HO6 hbq hwq
  rw [HNW.out] at HRR
  dsimp only at HRR
  obtain ⟨RES, hres⟩ : ∃ r, routeRun L (L.length + 1) sN [nw] [] [] = r := ⟨_, rfl⟩
  rw [hres] at HRR
  have HRES := Lib.hid hres
  clear hres HNW
  go_wp2_with fail
  go_loopg [4] (L.length + 1) (fun gg v4 wr => ∃ (st : Rd) (As : Option Addr) (cs : Nat) (Ar : Option Addr) (cr : Nat) (Ay : Option Addr) (cy : Nat) (ss : Nms) (rs ys : List Int), RdOk b v L st X wr ∧ Rt w.heap.size w.heap.size q b nm (.slice As ss.length cs) (.slice Ar rs.length cr) (.slice Ay ys.length cy) ss rs ys wr ∧ Keep b w wr ∧ (st.e = 0 → L.length - st.at_ < gg) ∧ ss.length + gg ≤ L.length + 3 ∧ rs.length ≤ ss.length ∧ ys.length ≤ ss.length ∧ routeRun L gg st ss rs ys = RES)
  case atStart => exact ⟨sN, A1, c1, none, 0, none, 0, [nw], [], [], HO.out, HRT.out, HK.out, fun _ => by omega, by simp; omega, by simp, by simp, HRES.out⟩
  case round =>
    clear HO HRT HK HRES
    obtain ⟨st, As, cs, Ar, cr, Ay, cy, ss, rs, ys, ho, hrt, hk, hgg, hsz, hrl, hyl, hrun⟩ := hrel
    have HO := Lib.hid ho
    have HRT := Lib.hid hrt
    have HK := Lib.hid hk
    have HRUN := Lib.hid hrun
    clear ho hrt hk hrun
    by_cases he : st.e = 0
    · have g0 : (st.e == 0) = true := beq_iff_eq.2 he
      have hgg2 := hgg he
      obtain ⟨n, rfl⟩ : ∃ n, gk = n + 1 := ⟨gk - 1, by omega⟩
      have HHE := Lib.hid he
      have HGG := Lib.hid hgg2
      clear hgg hgg2 he
      go_wp2_with fail
      refine (qgood_any b v st X wr HO.out.R).mono ?_
      rintro e w' ⟨rfl, rfl⟩
      rw [g0]
      clear g0
      go_wp2_with fail
      refine (qnum_any b v L st X wr HO.out).mono ?_
      obtain ⟨⟨s2, ride⟩, hn2⟩ : ∃ r, numD L st = r := ⟨_, rfl⟩
      rw [hn2]
      rintro e w2 ⟨rfl, ho, hk⟩
      have HNU := Lib.hid hn2
      have HO2 := Lib.hid ho
      have HK2 := Lib.hid (HK.out.trans hk)
      have HRT2 := Lib.hid (HRT.out.keep hk)
      clear ho hk HO HK HRT hn2
      have x1 : w2.cell? ⟨q, 1, none⟩ = some (.slice As ss.length cs) := Lib.cell_of_heap HRT2.out.x 1
      go_upto_region 5 with fail
      go_cut [33] (fun v33 wx => v33 = .bool (decide (ss.length = 32 ∧ s2.e = 0 ∧ (nowD L s2).kind = 1)) ∧ RdOk b v L s2 X wx ∧ Rt w.heap.size w.heap.size q b nm (.slice As ss.length cs) (.slice Ar rs.length cr) (.slice Ay ys.length cy) ss rs ys wx ∧ Keep b w wx)
      case first =>
        by_cases hlen : ss.length = 32
        · have c1 : ((ss.length : Int) == 32) = true := beq_iff_eq.2 (by omega)
          go_wp2_with fail
          refine (qgood_any b v s2 X w2 HO2.out.R).mono ?_
          rintro e w' ⟨rfl, rfl⟩
          by_cases he2 : s2.e = 0
          · rw [show (s2.e == 0) = true from beq_iff_eq.2 he2]
            have hf0 := fd0 (nowD L s2)
            go_wp2_with fail
            refine (qnow_any b v L s2 X w2 HO2.out.S HO2.out.R).mono ?_
            rintro e w3 ⟨rfl, hb⟩
            unfold tkc
            have HO3 := Lib.hid (HO2.out.new hb)
            have HK3 := Lib.hid (HK2.out.trans (Keep.of hb (Nat.le_of_lt HO2.out.lt)))
            have HRT3 := Lib.hid (HRT2.out.keep (Keep.of hb (Nat.le_of_lt HO2.out.lt)))
            clear hb
            have HD := Lib.hid (show ((nowD L s2).kind == 1) = decide (ss.length = 32 ∧ s2.e = 0 ∧ (nowD L s2).kind = 1) by
              rw [Bool.eq_iff_iff]; simp [hlen, he2])
            go_wp2_with fail
            go_meet
            case rel => exact ⟨by rw [HD.out], HO3.out, HRT3.out, HK3.out⟩
          · rw [show (s2.e == 0) = false from beq_eq_false_iff_ne.2 he2]
            have HD := Lib.hid (show false = decide (ss.length = 32 ∧ s2.e = 0 ∧ (nowD L s2).kind = 1) from (decide_eq_false (by rintro ⟨_, h, _⟩; exact he2 h)).symm)
            go_wp2_with fail
            go_meet
            case rel => exact ⟨by rw [HD.out], HO2.out, HRT2.out, HK2.out⟩
        · have c1 : ((ss.length : Int) == 32) = false := beq_eq_false_iff_ne.2 (by omega)
          have HD := Lib.hid (show false = decide (ss.length = 32 ∧ s2.e = 0 ∧ (nowD L s2).kind = 1) from (decide_eq_false (by rintro ⟨h, _⟩; exact hlen h)).symm)
          go_wp2_with fail
          go_meet
          case rel => exact ⟨by rw [HD.out], HO2.out, HRT2.out, HK2.out⟩
      case rest =>
        obtain ⟨rfl, ho, hrt, hk⟩ := hcut
        have HO3 := Lib.hid ho
        have HRT3 := Lib.hid hrt
        have HK3 := Lib.hid hk
        clear ho hrt hk HO2 HRT2 HK2 x1
        go_upto_if 33 with fail
        go_cut [4] (fun v4 wx => v4 = .int .i64 ride ∧ RdOk b v L (midR L s2 ss.length) X wx ∧ Rt w.heap.size w.heap.size q b nm (.slice As ss.length cs) (.slice Ar rs.length cr) (.slice Ay ys.length cy) ss rs ys wx ∧ Keep b w wx)
        case first =>
          by_cases hcc : ss.length = 32 ∧ s2.e = 0 ∧ (nowD L s2).kind = 1
          · rw [decide_eq_true hcc]
            have HM := Lib.hid (show midR L s2 ss.length = failD s2 3 (nowD L s2) by unfold midR; rw [if_pos hcc])
            clear hcc
            go_wp2_with fail
            refine (qnow_any b v L s2 X wc HO3.out.S HO3.out.R).mono ?_
            rintro e w4 ⟨rfl, hb⟩
            unfold tkc
            have HO4 := Lib.hid (HO3.out.new hb)
            have HK4 := Lib.hid (HK3.out.trans (Keep.of hb (Nat.le_of_lt HO3.out.lt)))
            have HRT4 := Lib.hid (HRT3.out.keep (Keep.of hb (Nat.le_of_lt HO3.out.lt)))
            clear hb
            go_wp2_with fail
            refine (qfail_any b v s2 X 3 (nowD L s2) w4 HO4.out.R).mono ?_
            rintro e w5 ⟨rfl, hr, hk⟩
            have HO5 := Lib.hid (HO4.out.next hr hk (by unfold failD; split <;> exact HO4.out.at_))
            have HK5 := Lib.hid (HK4.out.trans hk)
            have HRT5 := Lib.hid (HRT4.out.keep hk)
            clear hr hk
            go_wp2_with fail
            go_meet
            case rel => exact ⟨rfl, by rw [HM.out]; exact HO5.out, HRT5.out, HK5.out⟩
          · rw [decide_eq_false hcc]
            have HM := Lib.hid (show midR L s2 ss.length = s2 by unfold midR; rw [if_neg hcc])
            clear hcc
            go_wp2_with fail
            go_meet
            case rel => exact ⟨rfl, by rw [HM.out]; exact HO3.out, HRT3.out, HK3.out⟩
        case rest =>
          obtain ⟨rfl, ho, hrt, hk⟩ := hcut
          have HO := Lib.hid ho
          have HRT := Lib.hid hrt
          have HK := Lib.hid hk
          clear ho hrt hk HO3 HRT3 HK3
          have hssl : ss.length ≤ 1048580 := by omega
          obtain ⟨s3, hs3⟩ : ∃ r, midR L s2 ss.length = r := ⟨_, rfl⟩
          rw [hs3] at HO
          have HMD := Lib.hid hs3
          clear hs3
          have x2 : wc.cell? ⟨q, 2, none⟩ = some (.slice Ar rs.length cr) := Lib.cell_of_heap HRT.out.x 2
          go_upto_region 8 with (at_builtin; refine wpList_append_sl _ rfl _ _ _ rfl w.heap.size 2 iI _ 8 Tryz.underlying36 hiI hziI1 hziI2 hziI3 rfl (by omega) ic_len ic_one _ _ rs [ride] rfl rfl ((HRT.out.alloc _).r) ((Sl.new1 ride rfl)) (by simp only [maxLen, List.length_cons, List.length_nil]; omega) (by simp only [List.length_cons, List.length_nil]; omega) ((HRT.out.alloc _).lB) ?_; intro v1 w6 hown1 hg1 hmv1; obtain ⟨A2, c2, rfl⟩ : ∃ A cap, v1 = .slice A (rs.length + 1) cap := (by obtain ⟨A, cap, e⟩ := ow_slice ic_len hown1; exact ⟨A, cap, by rw [e]; simp⟩); have hx6 := (hg1.block q (HRT.out.alloc (.cells #[.int .i64 ride] 2)).lq (Ne.symm (ow_ne (HRT.out.alloc (.cells #[.int .i64 ride] 2)).r (HRT.out.alloc (.cells #[.int .i64 ride] 2)).x (by decide)))).trans (HRT.out.alloc (.cells #[.int .i64 ride] 2)).x; have y1 : w6.cell? ⟨q, 2, none⟩ = some (.slice Ar rs.length cr) := Lib.cell_of_heap hx6 2; have y2 : w6.frozen? ⟨q, 2, none⟩ = false := Lib.frozen_of_heap hx6 2)
          have HRT6 := Lib.hid ((HRT.out.alloc (.cells #[.int .i64 ride] 2)).putR hown1 hg1 hmv1)
          have HK6 := Lib.hid ((HRT.out.alloc (.cells #[.int .i64 ride] 2)).kp (HK.out.alloc (Nat.le_of_lt HLT.out) (.cells #[.int .i64 ride] 2)) (Nat.le_refl _) hg1 (fun k hk => ((HRT.out.alloc (.cells #[.int .i64 ride] 2)).r.lt hk).1))
          have hbl6 : ∀ k, k ≤ b → w6.heap[k]? = wc.heap[k]? := fun k hk => (hg1.block k (by have := HO.out.lt; rw [World.size_alloc]; omega) (fun e => by have := ((HRT.out.alloc (.cells #[.int .i64 ride] 2)).r.lt e.symm).1; have := HLT.out; omega)).trans (Below.heap_alloc _ _ _ (by have := HO.out.lt; omega))
          have HO6 := Lib.hid (HO.out.frame (by have := hg1.size; rw [World.size_alloc] at this; omega) hbl6)
          have hbq : b < q := (by have := HRT.out.hb; have := HRT.out.hq; omega)
          have hwq : w.heap.size ≤ q := HRT.out.hq
          clear hown1 hg1 hmv1 hx6 hbl6 y1 y2 x2 HRT HK HO
          obtain ⟨w7, hw7⟩ : ∃ w7, w6.setCell ⟨q, 2, none⟩ (.slice A2 (rs.length + 1) c2) = w7 := ⟨_, rfl⟩
          have HRT := Lib.hid (show Rt w.heap.size w.heap.size q b nm (.slice As ss.length cs) (.slice A2 (rs.length + 1) c2) (.slice Ay ys.length cy) ss (rs ++ [ride]) ys w7 by rw [← hw7]; exact HRT6.out)
          have HK := Lib.hid (show Keep b w w7 by rw [← hw7]; exact HK6.out.newSet hwq (Nat.le_of_lt HLT.out) 2 _)
          have HO := Lib.hid (show RdOk b v L s3 X w7 by rw [← hw7]; exact HO6.out.set hbq 2 _)
          rw [hw7]
          clear hw7 HRT6 HK6 HO6 hbq hwq
          have hSw : w7.cell? ⟨q, 1, none⟩ = some (.slice As ss.length cs) := Lib.cell_of_heap HRT.out.x 1
          refine wp_region_kinds (fun wy => wy.cell? ⟨q, 1, none⟩ = some (.slice As ss.length cs)) [3, 4] [5, 7] [1] [0, 2, 6] [0, 1, 2, 3, 4, 5, 6, 7] (by kernel_rfl) (by kernel_rfl) (fun w n h => h) ?_
          repeat (first | (refine wpKind_free (v := ?_) (by rfl) rfl (by rfl) ?_ ?_; rotate_left 1; (focus (intro wy; go_simp; try with_reducible rfl; done)); try simp only [Act.put, List.setIfInBounds_toArray, List.set_cons_zero, List.set_cons_succ]) | (refine wpKind_held (v := ?_) (by rfl) rfl (by rfl) hSw ?_ ?_; rotate_left 1; (focus (intro wy hSy; have s0 := hSy; go_simp; try with_reducible rfl; done)); try simp only [Act.put, List.setIfInBounds_toArray, List.set_cons_zero, List.set_cons_succ]))
          clear hSw
          refine wpKind_keeps (by rfl) rfl (fun n1 => ?_)
          go_wp2_with fail
          refine (qname_any b v L s3 X (w7.drewN n1) (HO.out.drewN n1)).mono ?_
          obtain ⟨⟨sN, nw⟩, hnw⟩ : ∃ r, nameD L s3 = r := ⟨_, rfl⟩
          rw [hnw]
          rintro e w5 ⟨rfl, ho, hk⟩
          have HNW := Lib.hid hnw
          have HO5 := Lib.hid ho
          have HK5 := Lib.hid ((HK.out.drewN n1).trans hk)
          have HRT5 := Lib.hid ((HRT.out.drewN n1).keep hk)
          clear ho hk HO HK HRT hnw
          go_wp2_with fail
          show _ ∧ _
          refine ⟨Lib.cell_of_heap HRT5.out.x 1, ?_⟩
          refine wpKind_keeps (by rfl) rfl (fun n2 => ?_)
          go_wp2_with fail
          show _ ∧ _
          refine ⟨Lib.cell_of_heap ((HRT5.out.drewN n2).alloc (.cells #[.string (ba nw)] 9)).x 1, ?_⟩
          refine wpKind_serial (by rfl) rfl (fun n3 => ?_)
          go_wp2_with (at_builtin; refine wpList_append_sl _ rfl _ _ _ rfl w.heap.size 9 iS _ 16 Tryz.underlying22 hiS hziS1 hziS2 hziS3 rfl (by omega) nc_len nc_one _ _ ss [nw] rfl rfl ((((HRT5.out.drewN n2).alloc _).drewN n3).s) (((Sl.new1 nw rfl).drewN n3)) (by simp only [maxLen, List.length_cons, List.length_nil]; omega) (by simp only [List.length_cons, List.length_nil]; omega) ((((HRT5.out.drewN n2).alloc _).drewN n3).lB) ?_; intro v1 w6 hown1 hg1 hmv1; obtain ⟨A1, c1, rfl⟩ : ∃ A cap, v1 = .slice A (ss.length + 1) cap := (by obtain ⟨A, cap, e⟩ := ow_slice nc_len hown1; exact ⟨A, cap, by rw [e]; simp⟩))
          have HRT6 := Lib.hid ((((HRT5.out.drewN n2).alloc _).drewN n3).putS hown1 hg1)
          have hx6 := (hg1.block q (((HRT5.out.drewN n2).alloc (.cells #[.string (ba nw)] 9)).drewN n3).lq (Ne.symm (ow_ne (((HRT5.out.drewN n2).alloc (.cells #[.string (ba nw)] 9)).drewN n3).s (((HRT5.out.drewN n2).alloc (.cells #[.string (ba nw)] 9)).drewN n3).x (by decide)))).trans (((HRT5.out.drewN n2).alloc _).drewN n3).x
          have HK6 := Lib.hid ((((HRT5.out.drewN n2).alloc (.cells #[.string (ba nw)] 9)).drewN n3).kp ((((HK5.out.drewN n2).alloc (Nat.le_of_lt HLT.out) (.cells #[.string (ba nw)] 9)).drewN n3)) (Nat.le_refl _) hg1 (fun k hk => ((((HRT5.out.drewN n2).alloc (.cells #[.string (ba nw)] 9)).drewN n3).s.lt hk).1))
          have hbl6 : ∀ k, k ≤ b → w6.heap[k]? = w5.heap[k]? := fun k hk => (hg1.block k (by have := HO5.out.lt; show k < ((w5.drewN n2).alloc _).heap.size; rw [World.size_alloc]; show k < w5.heap.size + 1; omega) (fun e => by have := ((((HRT5.out.drewN n2).alloc (.cells #[.string (ba nw)] 9)).drewN n3).s.lt e.symm).1; have := HLT.out; omega)).trans (Below.heap_alloc _ _ _ (by have := HO5.out.lt; show k < w5.heap.size; omega))
          have HO6 := Lib.hid ((HO5.out.frame (by have := hg1.size; rw [show ((((w5.drewN n2).alloc (.cells #[.string (ba nw)] 9)).drewN n3)).heap.size = w5.heap.size + 1 from World.size_alloc _ _] at this; omega) hbl6))
          have hbq : b < q := (by have := HRT5.out.hb; have := HRT5.out.hq; omega)
          have hwq : w.heap.size ≤ q := HRT5.out.hq
          have y1 : w6.cell? ⟨q, 1, none⟩ = some (.slice As ss.length cs) := Lib.cell_of_heap hx6 1
          have y2 : w6.frozen? ⟨q, 1, none⟩ = false := Lib.frozen_of_heap hx6 1
          clear hown1 hg1 hmv1 hx6 hbl6 HRT5 HK5 HO5
          repeat (first | (refine wpKind_free (v := ?_) (by rfl) rfl (by rfl) ?_ ?_; rotate_left 1; (focus (intro wy; go_simp; try with_reducible rfl; done)); try simp only [Act.put, List.setIfInBounds_toArray, List.set_cons_zero, List.set_cons_succ]) | (refine wpKind_held (v := ?_) (by rfl) rfl (by rfl) hSw ?_ ?_; rotate_left 1; (focus (intro wy hSy; have s0 := hSy; go_simp; try with_reducible rfl; done)); try simp only [Act.put, List.setIfInBounds_toArray, List.set_cons_zero, List.set_cons_succ]))
          refine wpKind_serial (by rfl) rfl (fun n4 => ?_)
          go_wp2_with fail
          clear y1 y2
          show wpKind _ _ _ _ _ _ _ _ _
          refine wpKind_nil fun n5 => ?_
          obtain ⟨w8, hw7⟩ : ∃ w7, ((w6.drewN n4).setCell ⟨q, 1, none⟩ (.slice A1 (ss.length + 1) c1)).drewN n5 = w7 := ⟨_, rfl⟩
          have HRT := Lib.hid (show Rt w.heap.size w.heap.size q b nm (.slice A1 (ss.length + 1) c1) (.slice A2 (rs.length + 1) c2) (.slice Ay ys.length cy) (ss ++ [nw]) (rs ++ [ride]) ys w8 by rw [← hw7]; exact HRT6.out.same rfl)
          have HK := Lib.hid (show Keep b w w8 by rw [← hw7]; exact ((HK6.out.drewN n4).newSet hwq (Nat.le_of_lt HLT.out) 1 _).drewN n5)
          have HO := Lib.hid (show RdOk b v L sN X w8 by rw [← hw7]; exact ((HO6.out.drewN n4).set hbq 1 _).drewN n5)
          rw [hw7]
          clear hw7 HRT6 HK6 HO6 hbq hwq
          have HM := Lib.hid (show nameD L (midR L (numD L st).1 ss.length) = (sN, nw) by rw [HNU.out]; show nameD L (midR L s2 ss.length) = _; rw [HMD.out, HNW.out])
          clear HMD HNW
          go_wp2_with fail
          refine (qgood_any b v sN X w8 HO.out.R).mono ?_
          rintro e w' ⟨rfl, rfl⟩
          by_cases heN : sN.e = 0
          · rw [show (sN.e == 0) = true from beq_iff_eq.2 heN]
            have hf0 := fd0 (nowD L sN)
            have HHN := Lib.hid heN
            clear heN
            go_wp2_with fail
            refine (qnow_any b v L sN X w8 HO.out.S HO.out.R).mono ?_
            rintro e w9 ⟨rfl, hb⟩
            unfold tkc
            have HO9 := Lib.hid (HO.out.new hb)
            have HK9 := Lib.hid (HK.out.trans (Keep.of hb (Nat.le_of_lt HO.out.lt)))
            have HRT9 := Lib.hid (HRT.out.keep (Keep.of hb (Nat.le_of_lt HO.out.lt)))
            clear hb HO HK HRT
            by_cases hk4 : (nowD L sN).kind = 4
            · have c4 : ((nowD L sN).kind == 4) = true := beq_iff_eq.2 hk4
              have HR := Lib.hid (routeRun_ret (L := L) (n := n) (ss := ss) (rs := rs) (ys := ys) HHE.out (by rw [HM.out]; exact .inr hk4))
              rw [HM.out, HNU.out, HRUN.out] at HR
              clear hk4
              have HO := Lib.hid HO9.out
              have HRT := Lib.hid HRT9.out
              have HK := Lib.hid HK9.out
              clear HO9 HRT9 HK9
              have x0 : w9.cell? ⟨q, 0, none⟩ = some (.string (ba nm)) := Lib.cell_of_heap HRT.out.x 0
              have x1 : w9.cell? ⟨q, 1, none⟩ = some (.slice A1 (ss.length + 1) c1) := Lib.cell_of_heap HRT.out.x 1
              have x2 : w9.cell? ⟨q, 2, none⟩ = some (.slice A2 (rs.length + 1) c2) := Lib.cell_of_heap HRT.out.x 2
              have x3 : w9.cell? ⟨q, 3, none⟩ = some (.slice Ay ys.length cy) := Lib.cell_of_heap HRT.out.x 3
              go_wp2_with (first | (refine wpList_store_row rfl 38 _ _ rfl w.heap.size #[.string (ba nm), .slice A1 (ss.length + 1) c1, .slice A2 (rs.length + 1) c2, .slice Ay ys.length cy] rfl rfl 38 #[.string ⟨#[]⟩, .slice none 0 0, .slice none 0 0, .slice none 0 0] HRT.out.res (by kernel_rfl) rfl (four_all _ _ _ _ _ _ _ _ _ _) ?_))
              try simp only [Exit.inBlock, Exit.then]
              refine bodyPost_ret (results_cell_row rfl _ _ w.heap.size _ _ (0, 0) _ rfl (setRow_heap _ _ _ _ _ _ HRT.out.res) Tryz.underlying38 rfl (by kernel_rfl)) rfl ?_
              refine ⟨⟨nm, .slice A1 (ss.length + 1) c1, .slice A2 (rs.length + 1) c2, .slice Ay ys.length cy, ss ++ [nw], rs ++ [ride], ys⟩, ?_, rfl, HRT.out.good _, ?_, HK.out.newRow (Nat.le_refl _) (Nat.le_of_lt HLT.out) _⟩
              · rw [HRR.out, HR.out]; rfl
              · rw [HRR.out, HR.out]; exact HO.out.frame (by simp [World.setRow]) fun k hk => setRow_other _ _ _ _ (by have := HLT.out; omega)
            · have c4 : ((nowD L sN).kind == 4) = false := beq_eq_false_iff_ne.2 hk4
              have HR := Lib.hid (routeRun_go (L := L) (n := n) (ss := ss) (rs := rs) (ys := ys) HHE.out (by rw [HM.out]; rintro (h | h); exact h HHN.out; exact hk4 h))
              rw [HM.out, HNU.out, HRUN.out] at HR
              have HRA := Lib.hid (fun h => round_at (L := L) (s := st) (n := ss.length) h (by rw [HM.out]; exact HHN.out))
              rw [HM.out] at HRA
              dsimp only at HR HRA
              have hyl2 : ys.length ≤ 1048580 := by omega
              have his := qis_any b v L sN X kStay w9 HO9.out
              rw [show ba kStay = ⟨#[115, 116, 97, 121]⟩ from rfl] at his
              clear hk4
              go_wp2_with fail
              refine his.mono ?_
              clear his
              rintro e w10 ⟨rfl, hb⟩
              have HO := Lib.hid (HO9.out.new hb)
              have HK := Lib.hid (HK9.out.trans (Keep.of hb (Nat.le_of_lt HO9.out.lt)))
              have HRT := Lib.hid (HRT9.out.keep (Keep.of hb (Nat.le_of_lt HO9.out.lt)))
              clear hb HO9 HRT9 HK9
              cases his2 : isD L sN kStay
              · have HST := Lib.hid (show stayR L sN = (sN, 0) by unfold stayR; rw [if_neg (by rw [his2]; decide)])
                rw [HST.out] at HR HRA
                dsimp only at HR HRA
                clear his2
                have x3 : w10.cell? ⟨q, 3, none⟩ = some (.slice Ay ys.length cy) := Lib.cell_of_heap HRT.out.x 3
                go_wp2_with (at_builtin; refine wpList_append_sl _ rfl _ _ _ rfl w.heap.size 2 iI _ 8 Tryz.underlying36 hiI hziI1 hziI2 hziI3 rfl (by omega) ic_len ic_one _ _ ys [0] rfl rfl ((HRT.out.alloc _).y) ((Sl.new1 0 rfl)) (by simp only [maxLen, List.length_cons, List.length_nil]; omega) (by simp only [List.length_cons, List.length_nil]; omega) ((HRT.out.alloc _).lB) ?_; intro v1 w6 hown1 hg1 hmv1; obtain ⟨A3, c3, rfl⟩ : ∃ A cap, v1 = .slice A (ys.length + 1) cap := (by obtain ⟨A, cap, e⟩ := ow_slice ic_len hown1; exact ⟨A, cap, by rw [e]; simp⟩); have hx6 := (hg1.block q (HRT.out.alloc (.cells #[.int .i64 0] 2)).lq (Ne.symm (ow_ne (HRT.out.alloc (.cells #[.int .i64 0] 2)).y (HRT.out.alloc (.cells #[.int .i64 0] 2)).x (by decide)))).trans (HRT.out.alloc (.cells #[.int .i64 0] 2)).x; have y1 : w6.cell? ⟨q, 3, none⟩ = some (.slice Ay ys.length cy) := Lib.cell_of_heap hx6 3; have y2 : w6.frozen? ⟨q, 3, none⟩ = false := Lib.frozen_of_heap hx6 3)
                have HRT6 := Lib.hid ((HRT.out.alloc (.cells #[.int .i64 0] 2)).putY hown1 hg1 hmv1)
                have HK6 := Lib.hid ((HRT.out.alloc (.cells #[.int .i64 0] 2)).kp (HK.out.alloc (Nat.le_of_lt HLT.out) (.cells #[.int .i64 0] 2)) (Nat.le_refl _) hg1 (fun k hk => ((HRT.out.alloc (.cells #[.int .i64 0] 2)).y.lt hk).1))
                have hbl6 : ∀ k, k ≤ b → w6.heap[k]? = w10.heap[k]? := fun k hk => (hg1.block k (by have := HO.out.lt; rw [World.size_alloc]; omega) (fun e => by have := ((HRT.out.alloc (.cells #[.int .i64 0] 2)).y.lt e.symm).1; have := HLT.out; omega)).trans (Below.heap_alloc _ _ _ (by have := HO.out.lt; omega))
                have HO6 := Lib.hid (HO.out.frame (by have := hg1.size; rw [World.size_alloc] at this; omega) hbl6)
                have hbq : b < q := (by have := HRT.out.hb; have := HRT.out.hq; omega)
                have hwq : w.heap.size ≤ q := HRT.out.hq
                clear hown1 hg1 hmv1 hx6 hbl6 y1 y2 x3 HRT HK HO
                obtain ⟨w13, hw7⟩ : ∃ w7, w6.setCell ⟨q, 3, none⟩ (.slice A3 (ys.length + 1) c3) = w7 := ⟨_, rfl⟩
                have HRT := Lib.hid (show Rt w.heap.size w.heap.size q b nm (.slice A1 (ss.length + 1) c1) (.slice A2 (rs.length + 1) c2) (.slice A3 (ys.length + 1) c3) (ss ++ [nw]) (rs ++ [ride]) (ys ++ [0]) w13 by rw [← hw7]; exact HRT6.out)
                have HK := Lib.hid (show Keep b w w13 by rw [← hw7]; exact HK6.out.newSet hwq (Nat.le_of_lt HLT.out) 3 _)
                have HO := Lib.hid (show RdOk b v L sN X w13 by rw [← hw7]; exact HO6.out.set hbq 3 _)
                try rw [hw7]
                clear hw7 HRT6 HK6 HO6 hbq hwq
                go_roundg n
                case measure => omega
                case rel =>
                  refine ⟨sN, A1, c1, A2, c2, A3, c3, ss ++ [nw], rs ++ [ride], ys ++ [0], HO.out, ?_, HK.out, fun h => ?_, ?_, ?_, ?_, HR.out.symm⟩
                  · rw [show (ss ++ [nw]).length = ss.length + 1 by simp, show (rs ++ [ride]).length = rs.length + 1 by simp, show (ys ++ [(0 : Int)]).length = ys.length + 1 by simp]
                    exact HRT.out
                  · have h1 := HRA.out h
                    have h2 := HO.out.at_
                    have h3 := HGG.out
                    omega
                  · rw [List.length_append, List.length_cons, List.length_nil]; omega
                  · rw [List.length_append, List.length_append, List.length_cons, List.length_cons, List.length_nil, List.length_nil]; omega
                  · rw [List.length_append, List.length_append, List.length_cons, List.length_cons, List.length_nil, List.length_nil]; omega
              · obtain ⟨⟨sS, nS⟩, hst⟩ : ∃ r, afterD L sN kStay = r := ⟨_, rfl⟩
                have HST := Lib.hid (show stayR L sN = (sS, nS) by unfold stayR; rw [if_pos his2, hst])
                rw [HST.out] at HR HRA
                dsimp only at HR HRA
                have haf := qafter_any b v L sN X kStay w10 HO.out
                rw [hst, show ba kStay = ⟨#[115, 116, 97, 121]⟩ from rfl] at haf
                dsimp only at haf
                clear his2 hst
                go_wp2_with fail
                refine haf.mono ?_
                clear haf
                rintro e w11 ⟨rfl, ho, hk⟩
                have HO2 := Lib.hid ho
                have HK2 := Lib.hid (HK.out.trans hk)
                have HRT2 := Lib.hid (HRT.out.keep hk)
                clear ho hk HO HK HRT
                have HO := Lib.hid HO2.out
                have HK := Lib.hid HK2.out
                have HRT := Lib.hid HRT2.out
                clear HO2 HK2 HRT2
                have x3 : w11.cell? ⟨q, 3, none⟩ = some (.slice Ay ys.length cy) := Lib.cell_of_heap HRT.out.x 3
                go_wp2_with (at_builtin; refine wpList_append_sl _ rfl _ _ _ rfl w.heap.size 2 iI _ 8 Tryz.underlying36 hiI hziI1 hziI2 hziI3 rfl (by omega) ic_len ic_one _ _ ys [nS] rfl rfl ((HRT.out.alloc _).y) ((Sl.new1 nS rfl)) (by simp only [maxLen, List.length_cons, List.length_nil]; omega) (by simp only [List.length_cons, List.length_nil]; omega) ((HRT.out.alloc _).lB) ?_; intro v1 w6 hown1 hg1 hmv1; obtain ⟨A3, c3, rfl⟩ : ∃ A cap, v1 = .slice A (ys.length + 1) cap := (by obtain ⟨A, cap, e⟩ := ow_slice ic_len hown1; exact ⟨A, cap, by rw [e]; simp⟩); have hx6 := (hg1.block q (HRT.out.alloc (.cells #[.int .i64 nS] 2)).lq (Ne.symm (ow_ne (HRT.out.alloc (.cells #[.int .i64 nS] 2)).y (HRT.out.alloc (.cells #[.int .i64 nS] 2)).x (by decide)))).trans (HRT.out.alloc (.cells #[.int .i64 nS] 2)).x; have y1 : w6.cell? ⟨q, 3, none⟩ = some (.slice Ay ys.length cy) := Lib.cell_of_heap hx6 3; have y2 : w6.frozen? ⟨q, 3, none⟩ = false := Lib.frozen_of_heap hx6 3)
                have HRT6 := Lib.hid ((HRT.out.alloc (.cells #[.int .i64 nS] 2)).putY hown1 hg1 hmv1)
                have HK6 := Lib.hid ((HRT.out.alloc (.cells #[.int .i64 nS] 2)).kp (HK.out.alloc (Nat.le_of_lt HLT.out) (.cells #[.int .i64 nS] 2)) (Nat.le_refl _) hg1 (fun k hk => ((HRT.out.alloc (.cells #[.int .i64 nS] 2)).y.lt hk).1))
                have hbl6 : ∀ k, k ≤ b → w6.heap[k]? = w11.heap[k]? := fun k hk => (hg1.block k (by have := HO.out.lt; rw [World.size_alloc]; omega) (fun e => by have := ((HRT.out.alloc (.cells #[.int .i64 nS] 2)).y.lt e.symm).1; have := HLT.out; omega)).trans (Below.heap_alloc _ _ _ (by have := HO.out.lt; omega))
                have HO6 := Lib.hid (HO.out.frame (by have := hg1.size; rw [World.size_alloc] at this; omega) hbl6)
                have hbq : b < q := (by have := HRT.out.hb; have := HRT.out.hq; omega)
                have hwq : w.heap.size ≤ q := HRT.out.hq
                clear hown1 hg1 hmv1 hx6 hbl6 y1 y2 x3 HRT HK HO
                obtain ⟨w13, hw7⟩ : ∃ w7, w6.setCell ⟨q, 3, none⟩ (.slice A3 (ys.length + 1) c3) = w7 := ⟨_, rfl⟩
                have HRT := Lib.hid (show Rt w.heap.size w.heap.size q b nm (.slice A1 (ss.length + 1) c1) (.slice A2 (rs.length + 1) c2) (.slice A3 (ys.length + 1) c3) (ss ++ [nw]) (rs ++ [ride]) (ys ++ [nS]) w13 by rw [← hw7]; exact HRT6.out)
                have HK := Lib.hid (show Keep b w w13 by rw [← hw7]; exact HK6.out.newSet hwq (Nat.le_of_lt HLT.out) 3 _)
                have HO := Lib.hid (show RdOk b v L sS X w13 by rw [← hw7]; exact HO6.out.set hbq 3 _)
                try rw [hw7]
                clear hw7 HRT6 HK6 HO6 hbq hwq
                go_roundg n
                case measure => omega
                case rel =>
                  refine ⟨sS, A1, c1, A2, c2, A3, c3, ss ++ [nw], rs ++ [ride], ys ++ [nS], HO.out, ?_, HK.out, fun h => ?_, ?_, ?_, ?_, HR.out.symm⟩
                  · rw [show (ss ++ [nw]).length = ss.length + 1 by simp, show (rs ++ [ride]).length = rs.length + 1 by simp, show (ys ++ [(nS : Int)]).length = ys.length + 1 by simp]
                    exact HRT.out
                  · have h1 := HRA.out h
                    have h2 := HO.out.at_
                    have h3 := HGG.out
                    omega
                  · rw [List.length_append, List.length_cons, List.length_nil]; omega
                  · rw [List.length_append, List.length_append, List.length_cons, List.length_cons, List.length_nil, List.length_nil]; omega
                  · rw [List.length_append, List.length_append, List.length_cons, List.length_cons, List.length_nil, List.length_nil]; omega
          · rw [show (sN.e == 0) = false from beq_eq_false_iff_ne.2 heN]
            have HR := Lib.hid (routeRun_ret (L := L) (n := n) (ss := ss) (rs := rs) (ys := ys) HHE.out (by rw [HM.out]; exact .inl heN))
            rw [HM.out, HNU.out, HRUN.out] at HR
            clear heN
            have x0 : w8.cell? ⟨q, 0, none⟩ = some (.string (ba nm)) := Lib.cell_of_heap HRT.out.x 0
            have x1 : w8.cell? ⟨q, 1, none⟩ = some (.slice A1 (ss.length + 1) c1) := Lib.cell_of_heap HRT.out.x 1
            have x2 : w8.cell? ⟨q, 2, none⟩ = some (.slice A2 (rs.length + 1) c2) := Lib.cell_of_heap HRT.out.x 2
            have x3 : w8.cell? ⟨q, 3, none⟩ = some (.slice Ay ys.length cy) := Lib.cell_of_heap HRT.out.x 3
            go_wp2_with (first | (refine wpList_store_row rfl 38 _ _ rfl w.heap.size #[.string (ba nm), .slice A1 (ss.length + 1) c1, .slice A2 (rs.length + 1) c2, .slice Ay ys.length cy] rfl rfl 38 #[.string ⟨#[]⟩, .slice none 0 0, .slice none 0 0, .slice none 0 0] HRT.out.res (by kernel_rfl) rfl (four_all _ _ _ _ _ _ _ _ _ _) ?_))
            try simp only [Exit.inBlock, Exit.then]
            refine bodyPost_ret (results_cell_row rfl _ _ w.heap.size _ _ (0, 0) _ rfl (setRow_heap _ _ _ _ _ _ HRT.out.res) Tryz.underlying38 rfl (by kernel_rfl)) rfl ?_
            refine ⟨⟨nm, .slice A1 (ss.length + 1) c1, .slice A2 (rs.length + 1) c2, .slice Ay ys.length cy, ss ++ [nw], rs ++ [ride], ys⟩, ?_, rfl, HRT.out.good _, ?_, HK.out.newRow (Nat.le_refl _) (Nat.le_of_lt HLT.out) _⟩
            · rw [HRR.out, HR.out]; rfl
            · rw [HRR.out, HR.out]; exact HO.out.frame (by simp [World.setRow]) fun k hk => setRow_other _ _ _ _ (by have := HLT.out; omega)
    · have g0 : (st.e == 0) = false := beq_eq_false_iff_ne.2 he
      have HR := Lib.hid (routeRun_bad (L := L) (n := gk) (ss := ss) (rs := rs) (ys := ys) he)
      rw [HRUN.out] at HR
      go_wp2_with fail
      refine (qgood_any b v st X wr HO.out.R).mono ?_
      rintro e w' ⟨rfl, rfl⟩
      rw [g0]
      clear g0 he hgg
      have x0 : wr.cell? ⟨q, 0, none⟩ = some (.string (ba nm)) := Lib.cell_of_heap HRT.out.x 0
      have x1 : wr.cell? ⟨q, 1, none⟩ = some (.slice As ss.length cs) := Lib.cell_of_heap HRT.out.x 1
      have x2 : wr.cell? ⟨q, 2, none⟩ = some (.slice Ar rs.length cr) := Lib.cell_of_heap HRT.out.x 2
      have x3 : wr.cell? ⟨q, 3, none⟩ = some (.slice Ay ys.length cy) := Lib.cell_of_heap HRT.out.x 3
      go_wp2_with (first | (refine wpList_store_row rfl 38 _ _ rfl w.heap.size #[.string (ba nm), .slice As ss.length cs, .slice Ar rs.length cr, .slice Ay ys.length cy] rfl rfl 38 #[.string ⟨#[]⟩, .slice none 0 0, .slice none 0 0, .slice none 0 0] HRT.out.res (by kernel_rfl) rfl (four_all _ _ _ _ _ _ _ _ _ _) ?_))
      try simp only [Exit.inBlock, Exit.then]
      refine bodyPost_ret (results_cell_row rfl _ _ w.heap.size _ _ (0, 0) _ rfl (setRow_heap _ _ _ _ _ _ HRT.out.res) Tryz.underlying38 rfl (by kernel_rfl)) rfl ?_
      refine ⟨⟨nm, .slice As ss.length cs, .slice Ar rs.length cr, .slice Ay ys.length cy, ss, rs, ys⟩, ?_, rfl, HRT.out.good _, ?_, HK.out.newRow (Nat.le_refl _) (Nat.le_of_lt HLT.out) _⟩
      · rw [HRR.out, HR.out]; rfl
      · rw [HRR.out, HR.out]; exact HO.out.frame (by simp [World.setRow]) fun k hk => setRow_other _ _ _ _ (by have := HLT.out; omega)
end Go.Proofs.YtmihinhbcncbfaaGreatDoor
/- A sheet that is being read: its rows side by side; plain words of the reader's thing and full. Printed by wip/bin/genqf.py. -/
namespace Go.Proofs.YtmihinhbcncbfaaGreatDoor
open Go.RowKit
def oneV (v : Value) : Value := if v.oneCell' = true then v else .nilIface
theorem oneV_one (v : Value) : (oneV v).oneCell' = true := by
  unfold oneV
  split
  · assumption
  · rfl
/-- A route's cells, each one cell for certain. -/
def rcN (r : RouteM) : List Value := [.string (ba r.name), oneV r.vs, oneV r.vr, oneV r.vy]
theorem rcN_len : ∀ x, (rcN x).length = 4 := fun _ => rfl
theorem rcN_one : ∀ x, ∀ u ∈ rcN x, u.oneCell' = true := by
  intro x u hu
  simp only [rcN, List.mem_cons, List.not_mem_nil, or_false] at hu
  rcases hu with rfl | rfl | rfl | rfl
  · rfl
  · exact oneV_one _
  · exact oneV_one _
  · exact oneV_one _
theorem oneV_sl {α : Type} {c : α → List Value} {size : Nat} {w : World} {v : Value} {l : List α} {P : Nat → Prop} (h : Sl c size w v l P) : oneV v = v := by
  obtain ⟨A1, z1, rfl, _, _⟩ := h.shape
  rfl
theorem rcN_eq {r : RouteM} {w : World} {P : Nat → Prop} (h : r.Good w P) : rcN r = rc r := by
  unfold rcN rc
  rw [oneV_sl h.stops, oneV_sl h.rides, oneV_sl h.stays]
theorem Sl.congr {α : Type} {c c' : α → List Value} {size : Nat} {w : World} {v : Value} {l : List α} {P : Nat → Prop} (h : Sl c size w v l P) (hc : ∀ x ∈ l, c x = c' x) : Sl c' size w v l P := by
  obtain ⟨A, cap, e, h1, h2, h3⟩ := h
  refine ⟨A, cap, e, h1, h2, fun hn => ?_⟩
  obtain ⟨b, off, ea, hb, hP, hcc⟩ := h3 hn
  exact ⟨b, off, ea, hb, hP, fun i x hx j u hu => hcc i x hx j u (by rw [hc x (List.mem_of_getElem? hx)]; exact hu)⟩
def SheetM.xv (x : SheetM) : XV := ⟨x.hor, x.vs, x.vp, x.vd, x.vr, x.vt, x.vh⟩
def apartP (x : SheetM) (B k : Nat) : Prop := B ≤ k ∧ some k ≠ x.vs.ownBlock ∧ some k ≠ x.vp.ownBlock ∧ some k ≠ x.vd.ownBlock ∧ some k ≠ x.vr.ownBlock ∧ some k ≠ x.vt.ownBlock ∧ some k ≠ x.vh.ownBlock
theorem Sl.movedP {α : Type} {c : α → List Value} {size : Nat} {w w1 : World} {s : Value} {l : List α} {P P' : Nat → Prop} {row : Option Nat} (h : Sl c size w s l P) (hg : w.grownBy w1 row) (hne : ∀ k, P k → some k ≠ row) (hP : ∀ k, k < w.heap.size → P k → P' k) : Sl c size w1 s l P' := by
  obtain ⟨A, cap, e, h1, h2, h3⟩ := h
  refine ⟨A, cap, e, h1, h2, fun hn => ?_⟩
  obtain ⟨b, off, ea, hb, hp, hc⟩ := h3 hn
  exact ⟨b, off, ea, Nat.lt_of_lt_of_le hb hg.size, hP b hb hp, fun i x hx j u hu => (World.cell?_of_block (a := ⟨b, _, none⟩) (hg.block b hb (hne b hp))).trans (hc i x hx j u hu)⟩
theorem RouteM.Good.movedP {r : RouteM} {w w1 : World} {P P' : Nat → Prop} {row : Option Nat} (h : r.Good w P) (hg : w.grownBy w1 row) (hne : ∀ k, P k → some k ≠ row) (hP : ∀ k, k < w.heap.size → P k → P' k) : r.Good w1 P' :=
  ⟨h.stops.movedP hg hne hP, h.rides.movedP hg hne hP, h.stays.movedP hg hne hP⟩
theorem RouteM.Good.setQ {r : RouteM} {w : World} {P : Nat → Prop} (h : r.Good w P) {q i : Nat} {u : Value} (hne : ∀ k, P k → k ≠ q) : r.Good (w.setCell ⟨q, i, none⟩ u) P :=
  h.keep (by simp [World.setCell]) fun k _ hP => heap_setCell_other w ⟨q, i, none⟩ k u (hne k hP)
theorem moved_ne {w : World} {v v' : Value} (hm : Moved w v v') {k : Nat} (hk : k < w.heap.size) (h : some k ≠ v.ownBlock) : some k ≠ v'.ownBlock := by
  rcases hm with hm | ⟨g, hm, hge⟩
  · rw [hm]; exact h
  · rw [hm]; intro e; injection e with e; omega
/-- The rows of the sheet that is read, all of one's own. -/
structure ShAt (B b : Nat) (x : SheetM) (w : World) : Prop where
  s : Ow nc 1 w B 9 x.vs x.stops
  p : Ow pc 4 w B 31 x.vp x.paths
  d : Ow dc 7 w B 35 x.vd x.doors
  r : Ow rcN 4 w B 38 x.vr x.routes
  t : Ow trc 5 w B 40 x.vt x.trips
  h : Ow hc 5 w B 42 x.vh x.hazs
  each : ∀ r ∈ x.routes, r.Good w (apartP x B)
  hb : b < B
  hB : B ≤ w.heap.size
section
variable {B b : Nat} {x : SheetM} {w w' : World}
theorem ShAt.keepB (h : ShAt B b x w) (hs : w.heap.size ≤ w'.heap.size) (hk : ∀ k, B ≤ k → k < w.heap.size → w'.heap[k]? = w.heap[k]?) : ShAt B b x w' :=
  ⟨h.s.keepB hk, h.p.keepB hk, h.d.keepB hk, h.r.keepB hk, h.t.keepB hk, h.h.keepB hk, fun r hr => (h.each r hr).keep hs fun k hk1 hP => hk k hP.1 hk1, h.hb, Nat.le_trans h.hB hs⟩
theorem ShAt.keep (h : ShAt B b x w) (k : Keep b w w') : ShAt B b x w' := h.keepB k.size fun i h1 h2 => k.block i h2 (by have := h.hb; omega)
theorem ShAt.drewN (h : ShAt B b x w) (n : Nat) : ShAt B b x (w.drewN n) := h.keepB (Nat.le_refl _) fun _ _ _ => rfl
theorem ShAt.alloc (h : ShAt B b x w) (o : Obj) : ShAt B b x (w.alloc o) := h.keep (Keep.of ((Below.refl _ _).alloc (Nat.le_refl _) o) (by have := h.hb; have := h.hB; omega))
theorem ShAt.same (h : ShAt B b x w) (e : w'.heap = w.heap) : ShAt B b x w' := h.keepB (by rw [e]; exact Nat.le_refl _) fun _ _ _ => by rw [e]
theorem ShAt.put_s (h : ShAt B b x w) {v' : Value} {l' : Nms} (hown : Ow nc 1 w' B 9 v' l') (hg : w.grownBy w' x.vs.ownBlock) (hm : Moved w x.vs v') : ShAt B b { x with vs := v', stops := l' } (w'.setCell ⟨b, 6, none⟩ v') :=
  ⟨hown.set (fun e => by have := (hown.lt e).1; have := h.hb; omega), (h.p.kept hg (ow_apart h.p h.s (by decide))).set (fun e => by have := (h.p.lt e).1; have := h.hb; omega), (h.d.kept hg (ow_apart h.d h.s (by decide))).set (fun e => by have := (h.d.lt e).1; have := h.hb; omega), (h.r.kept hg (ow_apart h.r h.s (by decide))).set (fun e => by have := (h.r.lt e).1; have := h.hb; omega), (h.t.kept hg (ow_apart h.t h.s (by decide))).set (fun e => by have := (h.t.lt e).1; have := h.hb; omega), (h.h.kept hg (ow_apart h.h h.s (by decide))).set (fun e => by have := (h.h.lt e).1; have := h.hb; omega), fun r hr => ((h.each r hr).movedP hg (fun k hk => hk.2.1) (fun k hk hP => ⟨hP.1, moved_ne hm hk hP.2.1, hP.2.2.1, hP.2.2.2.1, hP.2.2.2.2.1, hP.2.2.2.2.2.1, hP.2.2.2.2.2.2⟩)).setQ (fun k hP => by have := hP.1; have := h.hb; omega), h.hb, by have := hg.size; have := h.hB; simp only [World.setCell, Array.size_modify]; omega⟩
theorem ShAt.put_p (h : ShAt B b x w) {v' : Value} {l' : List PathD} (hown : Ow pc 4 w' B 31 v' l') (hg : w.grownBy w' x.vp.ownBlock) (hm : Moved w x.vp v') : ShAt B b { x with vp := v', paths := l' } (w'.setCell ⟨b, 7, none⟩ v') :=
  ⟨(h.s.kept hg (ow_apart h.s h.p (by decide))).set (fun e => by have := (h.s.lt e).1; have := h.hb; omega), hown.set (fun e => by have := (hown.lt e).1; have := h.hb; omega), (h.d.kept hg (ow_apart h.d h.p (by decide))).set (fun e => by have := (h.d.lt e).1; have := h.hb; omega), (h.r.kept hg (ow_apart h.r h.p (by decide))).set (fun e => by have := (h.r.lt e).1; have := h.hb; omega), (h.t.kept hg (ow_apart h.t h.p (by decide))).set (fun e => by have := (h.t.lt e).1; have := h.hb; omega), (h.h.kept hg (ow_apart h.h h.p (by decide))).set (fun e => by have := (h.h.lt e).1; have := h.hb; omega), fun r hr => ((h.each r hr).movedP hg (fun k hk => hk.2.2.1) (fun k hk hP => ⟨hP.1, hP.2.1, moved_ne hm hk hP.2.2.1, hP.2.2.2.1, hP.2.2.2.2.1, hP.2.2.2.2.2.1, hP.2.2.2.2.2.2⟩)).setQ (fun k hP => by have := hP.1; have := h.hb; omega), h.hb, by have := hg.size; have := h.hB; simp only [World.setCell, Array.size_modify]; omega⟩
theorem ShAt.put_d (h : ShAt B b x w) {v' : Value} {l' : List DoorD} (hown : Ow dc 7 w' B 35 v' l') (hg : w.grownBy w' x.vd.ownBlock) (hm : Moved w x.vd v') : ShAt B b { x with vd := v', doors := l' } (w'.setCell ⟨b, 8, none⟩ v') :=
  ⟨(h.s.kept hg (ow_apart h.s h.d (by decide))).set (fun e => by have := (h.s.lt e).1; have := h.hb; omega), (h.p.kept hg (ow_apart h.p h.d (by decide))).set (fun e => by have := (h.p.lt e).1; have := h.hb; omega), hown.set (fun e => by have := (hown.lt e).1; have := h.hb; omega), (h.r.kept hg (ow_apart h.r h.d (by decide))).set (fun e => by have := (h.r.lt e).1; have := h.hb; omega), (h.t.kept hg (ow_apart h.t h.d (by decide))).set (fun e => by have := (h.t.lt e).1; have := h.hb; omega), (h.h.kept hg (ow_apart h.h h.d (by decide))).set (fun e => by have := (h.h.lt e).1; have := h.hb; omega), fun r hr => ((h.each r hr).movedP hg (fun k hk => hk.2.2.2.1) (fun k hk hP => ⟨hP.1, hP.2.1, hP.2.2.1, moved_ne hm hk hP.2.2.2.1, hP.2.2.2.2.1, hP.2.2.2.2.2.1, hP.2.2.2.2.2.2⟩)).setQ (fun k hP => by have := hP.1; have := h.hb; omega), h.hb, by have := hg.size; have := h.hB; simp only [World.setCell, Array.size_modify]; omega⟩
theorem ShAt.put_r (h : ShAt B b x w) {v' : Value} {r0 : RouteM} (hown : Ow rcN 4 w' B 38 v' (x.routes ++ [r0])) (hg : w.grownBy w' x.vr.ownBlock) (hm : Moved w x.vr v') (h0 : r0.Good w (apartP x B)) : ShAt B b { x with vr := v', routes := x.routes ++ [r0] } (w'.setCell ⟨b, 9, none⟩ v') := by
  have key : ∀ r : RouteM, r.Good w (apartP x B) → r.Good (w'.setCell ⟨b, 9, none⟩ v') (apartP { x with vr := v', routes := x.routes ++ [r0] } B) := fun r hr => (hr.movedP hg (fun k hk => hk.2.2.2.2.1) (fun k hk hP => ⟨hP.1, hP.2.1, hP.2.2.1, hP.2.2.2.1, moved_ne hm hk hP.2.2.2.2.1, hP.2.2.2.2.2.1, hP.2.2.2.2.2.2⟩)).setQ (fun k hP => by have := hP.1; have := h.hb; omega)
  refine ⟨(h.s.kept hg (ow_apart h.s h.r (by decide))).set (fun e => by have := (h.s.lt e).1; have := h.hb; omega), (h.p.kept hg (ow_apart h.p h.r (by decide))).set (fun e => by have := (h.p.lt e).1; have := h.hb; omega), (h.d.kept hg (ow_apart h.d h.r (by decide))).set (fun e => by have := (h.d.lt e).1; have := h.hb; omega), hown.set (fun e => by have := (hown.lt e).1; have := h.hb; omega), (h.t.kept hg (ow_apart h.t h.r (by decide))).set (fun e => by have := (h.t.lt e).1; have := h.hb; omega), (h.h.kept hg (ow_apart h.h h.r (by decide))).set (fun e => by have := (h.h.lt e).1; have := h.hb; omega), fun r hr => ?_, h.hb, ?_⟩
  · rcases List.mem_append.1 hr with hr | hr
    · exact key r (h.each r hr)
    · rw [List.mem_singleton.1 hr]; exact key r0 h0
  · have := hg.size; have := h.hB; simp only [World.setCell, Array.size_modify]; omega
theorem ShAt.put_t (h : ShAt B b x w) {v' : Value} {l' : List TripD} (hown : Ow trc 5 w' B 40 v' l') (hg : w.grownBy w' x.vt.ownBlock) (hm : Moved w x.vt v') : ShAt B b { x with vt := v', trips := l' } (w'.setCell ⟨b, 10, none⟩ v') :=
  ⟨(h.s.kept hg (ow_apart h.s h.t (by decide))).set (fun e => by have := (h.s.lt e).1; have := h.hb; omega), (h.p.kept hg (ow_apart h.p h.t (by decide))).set (fun e => by have := (h.p.lt e).1; have := h.hb; omega), (h.d.kept hg (ow_apart h.d h.t (by decide))).set (fun e => by have := (h.d.lt e).1; have := h.hb; omega), (h.r.kept hg (ow_apart h.r h.t (by decide))).set (fun e => by have := (h.r.lt e).1; have := h.hb; omega), hown.set (fun e => by have := (hown.lt e).1; have := h.hb; omega), (h.h.kept hg (ow_apart h.h h.t (by decide))).set (fun e => by have := (h.h.lt e).1; have := h.hb; omega), fun r hr => ((h.each r hr).movedP hg (fun k hk => hk.2.2.2.2.2.1) (fun k hk hP => ⟨hP.1, hP.2.1, hP.2.2.1, hP.2.2.2.1, hP.2.2.2.2.1, moved_ne hm hk hP.2.2.2.2.2.1, hP.2.2.2.2.2.2⟩)).setQ (fun k hP => by have := hP.1; have := h.hb; omega), h.hb, by have := hg.size; have := h.hB; simp only [World.setCell, Array.size_modify]; omega⟩
theorem ShAt.put_h (h : ShAt B b x w) {v' : Value} {l' : List HazD} (hown : Ow hc 5 w' B 42 v' l') (hg : w.grownBy w' x.vh.ownBlock) (hm : Moved w x.vh v') : ShAt B b { x with vh := v', hazs := l' } (w'.setCell ⟨b, 11, none⟩ v') :=
  ⟨(h.s.kept hg (ow_apart h.s h.h (by decide))).set (fun e => by have := (h.s.lt e).1; have := h.hb; omega), (h.p.kept hg (ow_apart h.p h.h (by decide))).set (fun e => by have := (h.p.lt e).1; have := h.hb; omega), (h.d.kept hg (ow_apart h.d h.h (by decide))).set (fun e => by have := (h.d.lt e).1; have := h.hb; omega), (h.r.kept hg (ow_apart h.r h.h (by decide))).set (fun e => by have := (h.r.lt e).1; have := h.hb; omega), (h.t.kept hg (ow_apart h.t h.h (by decide))).set (fun e => by have := (h.t.lt e).1; have := h.hb; omega), hown.set (fun e => by have := (hown.lt e).1; have := h.hb; omega), fun r hr => ((h.each r hr).movedP hg (fun k hk => hk.2.2.2.2.2.2) (fun k hk hP => ⟨hP.1, hP.2.1, hP.2.2.1, hP.2.2.2.1, hP.2.2.2.2.1, hP.2.2.2.2.2.1, moved_ne hm hk hP.2.2.2.2.2.2⟩)).setQ (fun k hP => by have := hP.1; have := h.hb; omega), h.hb, by have := hg.size; have := h.hB; simp only [World.setCell, Array.size_modify]; omega⟩
end

theorem RdAt.put_s {b : Nat} {v : Value} {s : Rd} {x : SheetM} {w : World} (h : RdAt b v s x.xv w) (u : Value) (l : Nms) : RdAt b v s ({ x with vs := u, stops := l } : SheetM).xv (w.setCell ⟨b, 6, none⟩ u) := by
  have h1 := heap_setCell_same w b 6 _ _ u h
  unfold RdAt
  rw [h1]
  rfl
theorem RdAt.put_p {b : Nat} {v : Value} {s : Rd} {x : SheetM} {w : World} (h : RdAt b v s x.xv w) (u : Value) (l : List PathD) : RdAt b v s ({ x with vp := u, paths := l } : SheetM).xv (w.setCell ⟨b, 7, none⟩ u) := by
  have h1 := heap_setCell_same w b 7 _ _ u h
  unfold RdAt
  rw [h1]
  rfl
theorem RdAt.put_d {b : Nat} {v : Value} {s : Rd} {x : SheetM} {w : World} (h : RdAt b v s x.xv w) (u : Value) (l : List DoorD) : RdAt b v s ({ x with vd := u, doors := l } : SheetM).xv (w.setCell ⟨b, 8, none⟩ u) := by
  have h1 := heap_setCell_same w b 8 _ _ u h
  unfold RdAt
  rw [h1]
  rfl
theorem RdAt.put_r {b : Nat} {v : Value} {s : Rd} {x : SheetM} {w : World} (h : RdAt b v s x.xv w) (u : Value) (l : List RouteM) : RdAt b v s ({ x with vr := u, routes := l } : SheetM).xv (w.setCell ⟨b, 9, none⟩ u) := by
  have h1 := heap_setCell_same w b 9 _ _ u h
  unfold RdAt
  rw [h1]
  rfl
theorem RdAt.put_t {b : Nat} {v : Value} {s : Rd} {x : SheetM} {w : World} (h : RdAt b v s x.xv w) (u : Value) (l : List TripD) : RdAt b v s ({ x with vt := u, trips := l } : SheetM).xv (w.setCell ⟨b, 10, none⟩ u) := by
  have h1 := heap_setCell_same w b 10 _ _ u h
  unfold RdAt
  rw [h1]
  rfl
theorem RdAt.put_h {b : Nat} {v : Value} {s : Rd} {x : SheetM} {w : World} (h : RdAt b v s x.xv w) (u : Value) (l : List HazD) : RdAt b v s ({ x with vh := u, hazs := l } : SheetM).xv (w.setCell ⟨b, 11, none⟩ u) := by
  have h1 := heap_setCell_same w b 11 _ _ u h
  unfold RdAt
  rw [h1]
  rfl
/-- What a line behind its word tells. -/
def pathRD (L : List TokD) (s : Rd) : Rd × PathD :=
  let a := nameD L s
  let b := nameD L a.1
  let c := nameD L b.1
  let n := numD L c.1
  (n.1, ⟨a.2, b.2, c.2, n.2⟩)
def doorRD (L : List TokD) (s : Rd) : Rd × DoorD :=
  let q := pathRD L s
  let t := timesRD L q.1 kOpen
  (t.1, ⟨q.2.name, q.2.a, q.2.b, q.2.len, t.2⟩)
def tripRD (L : List TokD) (s : Rd) : Rd × TripD :=
  let a := nameD L s
  let r := nameD L (keyD L a.1 kOf)
  let f := afterD L r.1 kFrom
  let e := afterD L f.1 kEvery
  let u := afterD L e.1 kUntil
  (u.1, ⟨a.2, r.2, f.2, e.2, u.2⟩)
def hazRD (L : List TokD) (s : Rd) : Rd × HazD :=
  let a := nameD L s
  let r := nameD L (keyD L a.1 kOn)
  let t := timesRD L r.1 kClosed
  (t.1, ⟨a.2, r.2, t.2⟩)
def thingD (L : List TokD) (s : Rd) (d : SheetD) (k : List UInt8) : Rd × SheetD :=
  if k = kStop then ((nameD L s).1, { d with stops := d.stops ++ [(nameD L s).2] })
  else if k = kPath then ((pathRD L s).1, { d with paths := d.paths ++ [(pathRD L s).2] })
  else if k = kDoor then ((doorRD L s).1, { d with doors := d.doors ++ [(doorRD L s).2] })
  else if k = kRoute then ((routeRD L s).1, { d with routes := d.routes ++ [(routeRD L s).2] })
  else if k = kTrip then ((tripRD L s).1, { d with trips := d.trips ++ [(tripRD L s).2] })
  else ((hazRD L s).1, { d with hazs := d.hazs ++ [(hazRD L s).2] })
def fullD (d : SheetD) (k : List UInt8) : Bool :=
  if k = kStop then decide (256 ≤ d.stops.length) else if k = kPath then decide (1024 ≤ d.paths.length) else if k = kDoor then decide (256 ≤ d.doors.length) else if k = kRoute then decide (256 ≤ d.routes.length) else if k = kTrip then decide (1024 ≤ d.trips.length) else if k = kHazard then decide (256 ≤ d.hazs.length) else false
def keysL : List (List UInt8) := [kStop, kPath, kDoor, kRoute, kTrip, kHazard]
end Go.Proofs.YtmihinhbcncbfaaGreatDoor
