/- The law SheetCuts: its walk. Printed by wip/bin/genwk.py. -/
import Derived.Test.YteonefgbdphmiaaGreatDoorWl
import Derived.Test.YteonefgbdphmiaaGreatDoorWs
import Derived.Test.YteonefgbdphmiaaGreatDoorPm
import Derived.Test.YteonefgbdphmiaaGreatDoorPk
import Derived.Test.YteonefgbdphmiaaGreatDoorCk
import Derived.Test.YteonefgbdphmiaaGreatDoorMh
namespace Go.Proofs.YteonefgbdphmiaaGreatDoor
open Go.RowKit
theorem info_int : (Tryz.prog.info? 3).map (fun i => (i.zero, i.size, i.bytes)) = some (some (.int .i64 0), 1, 8) := by kernel_rfl
/-- Places of ends in a text. -/
def EndAt (s : ByteArray) (l : List Int) : Prop := ∀ n ∈ l, ∃ j : Nat, n = j ∧ j < s.size ∧ s.data.toList[j]? = some 10
theorem Sl.capb {α : Type} {c : α → List Value} {size : Nat} {w : World} {A : Option Addr} {n cap : Nat} {l : List α} {P : Nat → Prop} (h : Sl c size w (.slice A n cap) l P) : l.length ≤ cap ∧ cap ≤ maxLen := by
  obtain ⟨A0, cap0, e0, h1, h2, h3⟩ := h
  injection e0 with e1 e2 e3
  rw [e3]
  exact ⟨h1, h2⟩
theorem Sl.front {α : Type} {c : α → List Value} {size : Nat} {w : World} {A : Option Addr} {n cap : Nat} {l m : List α} {P : Nat → Prop} (h : Sl c size w (.slice A n cap) l P) (hj : m.length ≤ l.length) (e : l.take m.length = m) : Sl c size w (.slice A m.length cap) m P := by
  obtain ⟨A0, cap0, e0, h1, h2, h3⟩ := h
  injection e0 with e1 e2 e3
  subst e1 e3
  refine ⟨A, cap, rfl, by omega, h2, fun hn => ?_⟩
  obtain ⟨b, off, ea, hb, hP, hc⟩ := h3 (by omega)
  exact ⟨b, off, ea, hb, hP, fun i x hx j u hu => hc i x (by
    rw [← e, List.getElem?_take] at hx
    split at hx
    · exact hx
    · cases hx) j u hu⟩
theorem joined_at {s : ByteArray} {j : Nat} (h : s.data.toList[j]? = some 10) : Joined ⟨(s.data.toList.take j).toArray⟩ ⟨(s.data.toList.drop (j + 1)).toArray⟩ s := by
  unfold Joined
  have hl : j < s.data.toList.length := (List.getElem?_eq_some_iff.1 h).1
  show s.data.toList = s.data.toList.take j ++ 10 :: s.data.toList.drop (j + 1)
  rw [List.getElem?_eq_getElem hl] at h
  injection h with h
  rw [← h, ← List.drop_eq_getElem_cons hl, List.take_append_drop]
set_option maxHeartbeats 16000000 in
set_option maxRecDepth 100000 in
theorem scuts_any (w : World) (s : ByteArray) (at_ : Int) (hT : Tabs w) (hL : LibOk w) : Calls Tryz.prog 8 #[.string s, .int .i64 at_] w fun e w' => e = .returned (.bool true) ∧ Below w.heap.size w w' := by
  obtain ⟨iI, hiI, hz1, hz2, hz3⟩ := info_parts info_int
  have HT := Lib.hid hT
  have HL := Lib.hid hL
  clear hT hL
  go_enter Tryz.func8, Tryz.ntmps8
  go_wp2_with fail
  refine (lives_any w HT.out HL.out).mono ?_
  rintro e w0 ⟨rfl, hb⟩
  have HBw0 := Lib.hid hb
  clear hb
  by_cases hlen : 4000 < s.size
  · have q1 : (4000 : Int) < (s.size : Int) := by omega
    clear hlen
    go_wp2_with fail
    go_ret
    exact ⟨rfl, HBw0.out⟩
  have q1 : ¬ (4000 : Int) < (s.size : Int) := by omega
  have HS := Lib.hid hlen
  have hpr := sparse_any s w0 (HT.out.below HBw0.out) (HL.out.below HBw0.out)
  have hro := read_ok s
  have hpf := parse_fault s (by omega)
  obtain ⟨⟨PD, fx, g2, g3⟩, hPD⟩ : ∃ r, parseS s = r := ⟨_, rfl⟩
  rw [hPD] at hpr hro hpf
  dsimp only [FaultD.v] at hpr hro hpf
  have HPR := Lib.hid hpr
  have HRO := Lib.hid hro
  have HPF := Lib.hid hpf
  have HPD := Lib.hid hPD
  clear hpr hro hpf hPD hlen
  go_wp2_with fail
  refine HPR.out.mono ?_
  clear HPR
  rintro e w1 ⟨x, hxd, rfl, hgx, hb⟩
  have HBw1 := Lib.hid (HBw0.out.trans (hb.mono HBw0.out.size))
  have HXD := Lib.hid hxd
  clear hb hxd
  obtain ⟨Xs, Xs_, Xp, Xp_, Xd, Xd_, Xr, Xr_, Xt, Xt_, Xh, Xh_, exs, exp, exd, exr, ext, exh⟩ := SheetAt.forms hgx
  have Vx : x.v = .agg #[.int .i64 x.hor, .slice Xs x.stops.length Xs_, .slice Xp x.paths.length Xp_, .slice Xd x.doors.length Xd_, .slice Xr x.routes.length Xr_, .slice Xt x.trips.length Xt_, .slice Xh x.hazs.length Xh_] := by
    unfold SheetM.v; rw [exs, exp, exd, exr, ext, exh]
  rw [Vx]
  have HVx := Lib.hid Vx
  have HGx := Lib.hid hgx
  have HFx := Lib.hid (show x.vs = .slice Xs x.stops.length Xs_ ∧ x.vp = .slice Xp x.paths.length Xp_ ∧ x.vd = .slice Xd x.doors.length Xd_ ∧ x.vr = .slice Xr x.routes.length Xr_ ∧ x.vt = .slice Xt x.trips.length Xt_ ∧ x.vh = .slice Xh x.hazs.length Xh_ from ⟨exs, exp, exd, exr, ext, exh⟩)
  clear Vx hgx exs exp exd exr ext exh
  go_upto_region 6 with fail
  obtain ⟨w2, hwa⟩ : ∃ wa, (w1.alloc (.cells #[.int .i64 x.hor, .slice Xs x.stops.length Xs_, .slice Xp x.paths.length Xp_, .slice Xd x.doors.length Xd_, .slice Xr x.routes.length Xr_, .slice Xt x.trips.length Xt_, .slice Xh x.hazs.length Xh_] 29)).alloc (.cells #[.int .i64 fx, .int .i64 g2, .int .i64 g3] 39) = wa := ⟨_, rfl⟩
  have hba : Below w1.heap.size w1 w2 := by rw [← hwa]; exact ((Below.refl _ _).alloc (Nat.le_refl _) _).alloc (by simp) _
  have hza : w2.heap.size = w1.heap.size + 2 := by rw [← hwa]; simp
  have hA : w2.heap[w1.heap.size]? = some (.cells #[.int .i64 x.hor, .slice Xs x.stops.length Xs_, .slice Xp x.paths.length Xp_, .slice Xd x.doors.length Xd_, .slice Xr x.routes.length Xr_, .slice Xt x.trips.length Xt_, .slice Xh x.hazs.length Xh_] 29 (0, 0)) := by rw [← hwa, Below.heap_alloc _ _ _ (by simp)]; exact heap_alloc_new _ _
  have hB : w2.heap[w1.heap.size + 1]? = some (.cells #[.int .i64 fx, .int .i64 g2, .int .i64 g3] 39 (0, 0)) := by
    rw [← hwa]
    have h := heap_alloc_new (w1.alloc (.cells #[.int .i64 x.hor, .slice Xs x.stops.length Xs_, .slice Xp x.paths.length Xp_, .slice Xd x.doors.length Xd_, .slice Xr x.routes.length Xr_, .slice Xt x.trips.length Xt_, .slice Xh x.hazs.length Xh_] 29)) (.cells #[.int .i64 fx, .int .i64 g2, .int .i64 g3] 39)
    rw [show (w1.alloc (.cells #[.int .i64 x.hor, .slice Xs x.stops.length Xs_, .slice Xp x.paths.length Xp_, .slice Xd x.doors.length Xd_, .slice Xr x.routes.length Xr_, .slice Xt x.trips.length Xt_, .slice Xh x.hazs.length Xh_] 29)).heap.size = w1.heap.size + 1 by simp] at h
    exact h
  have Cx := Lib.hid (fun (wy : World) (h : Below w2.heap.size w2 wy) => (show wy.cell? ⟨w1.heap.size, 0, none⟩ = some (.int .i64 x.hor) ∧ wy.cell? ⟨w1.heap.size, 1, none⟩ = some (.slice Xs x.stops.length Xs_) ∧ wy.cell? ⟨w1.heap.size, 2, none⟩ = some (.slice Xp x.paths.length Xp_) ∧ wy.cell? ⟨w1.heap.size, 3, none⟩ = some (.slice Xd x.doors.length Xd_) ∧ wy.cell? ⟨w1.heap.size, 4, none⟩ = some (.slice Xr x.routes.length Xr_) ∧ wy.cell? ⟨w1.heap.size, 5, none⟩ = some (.slice Xt x.trips.length Xt_) ∧ wy.cell? ⟨w1.heap.size, 6, none⟩ = some (.slice Xh x.hazs.length Xh_) from ⟨(h.cell (p := ⟨w1.heap.size, 0, none⟩) (by show w1.heap.size < _; omega)).trans (Lib.cell_of_heap hA 0), (h.cell (p := ⟨w1.heap.size, 1, none⟩) (by show w1.heap.size < _; omega)).trans (Lib.cell_of_heap hA 1), (h.cell (p := ⟨w1.heap.size, 2, none⟩) (by show w1.heap.size < _; omega)).trans (Lib.cell_of_heap hA 2), (h.cell (p := ⟨w1.heap.size, 3, none⟩) (by show w1.heap.size < _; omega)).trans (Lib.cell_of_heap hA 3), (h.cell (p := ⟨w1.heap.size, 4, none⟩) (by show w1.heap.size < _; omega)).trans (Lib.cell_of_heap hA 4), (h.cell (p := ⟨w1.heap.size, 5, none⟩) (by show w1.heap.size < _; omega)).trans (Lib.cell_of_heap hA 5), (h.cell (p := ⟨w1.heap.size, 6, none⟩) (by show w1.heap.size < _; omega)).trans (Lib.cell_of_heap hA 6)⟩))
  have Fx := Lib.hid (fun (wy : World) (h : Below w2.heap.size w2 wy) => (show wy.cell? ⟨w1.heap.size + 1, 0, none⟩ = some (.int .i64 fx) ∧ wy.cell? ⟨w1.heap.size + 1, 1, none⟩ = some (.int .i64 g2) ∧ wy.cell? ⟨w1.heap.size + 1, 2, none⟩ = some (.int .i64 g3) from ⟨(h.cell (p := ⟨w1.heap.size + 1, 0, none⟩) (by show w1.heap.size + 1 < _; omega)).trans (Lib.cell_of_heap hB 0), (h.cell (p := ⟨w1.heap.size + 1, 1, none⟩) (by show w1.heap.size + 1 < _; omega)).trans (Lib.cell_of_heap hB 1), (h.cell (p := ⟨w1.heap.size + 1, 2, none⟩) (by show w1.heap.size + 1 < _; omega)).trans (Lib.cell_of_heap hB 2)⟩))
  have HBw2 := Lib.hid (HBw1.out.trans (hba.mono HBw1.out.size))
  have HGx2 := Lib.hid (HGx.out.below_ hba)
  clear HGx
  have HGx := Lib.hid HGx2.out
  clear HGx2
  have HNw2 := Lib.hid hba
  try rw [hwa]
  clear hwa hba hza hA hB
  obtain ⟨fx0, fx1, fx2⟩ := Fx.out w2 (Below.refl _ _)
  obtain ⟨x0, x1, x2, x3, x4, x5, x6⟩ := Cx.out w2 (Below.refl _ _)
  by_cases hf : fx = 0
  · have HF0 := Lib.hid hf
    have HCK := Lib.hid (show checkD x.d = 0 by rw [HXD.out]; exact HRO.out hf)
    rw [hf] at fx0 ⊢
    clear hf
    have hck := HVx.out ▸ check_any w2 x HGx.out (may_few HCK.out) (check_ok HCK.out).1 (HT.out.below HBw2.out) (may_names HCK.out)
    rw [HCK.out] at hck
    have HCC := Lib.hid hck
    clear hck
    go_wp2_with fail
    refine HCC.out.mono ?_
    rintro e w3 ⟨rfl, hb⟩
    have HBw3 := Lib.hid (HBw2.out.trans (hb.mono HBw2.out.size))
    have HNw3 := Lib.hid hb
    clear hb HCC fx0 fx1 fx2 x0 x1 x2 x3 x4 x5 x6
    go_wp2_with fail
    go_loopg [8, 7] s.size (fun gg v8 v7 wr => ∃ (k : Nat) (A : Option Addr) (c : Nat) (l : List Int), k ≤ s.size ∧ s.size - k ≤ gg ∧ v8 = .int .i64 k ∧ v7 = .slice A l.length c ∧ l.length ≤ k ∧ Hid (Ow ic 1 wr w3.heap.size 3 (.slice A l.length c) l ∧ EndAt s l ∧ Below w3.heap.size w3 wr))
    case atStart => exact ⟨0, none, 0, [], Nat.zero_le _, Nat.le_refl _, rfl, rfl, Nat.le_refl _, Lib.hid ⟨Ow.nil_, (fun n hn => by cases hn), Below.refl _ _⟩⟩
    case round =>
      obtain ⟨k, A, c, l, hk, hgg, rfl, rfl, hlk, hinv⟩ := hrel
      have HKK := Lib.hid hlk
      by_cases hlt : k < s.size
      · have q0 : (0 : Int) ≤ (k : Int) := by omega
        have q2 : (k : Int) < (s.size : Int) := by omega
        clear hlk
        have hbt : s.data.toList[k]? = some s[k] := by rw [List.getElem?_eq_getElem (by rw [Nm.len_size]; exact hlt)]; exact congrArg some (Nm.byte_at s hlt)
        by_cases hb10 : s[k] = 10
        · have c1 : ((s[k].toNat : Int) == 10) = true := by rw [hb10]; rfl
          have HEA := Lib.hid (show EndAt s (l ++ [(k : Int)]) from fun n hn => by
            rcases List.mem_append.1 hn with hn | hn
            · exact hinv.out.2.1 n hn
            · rw [List.mem_singleton] at hn
              exact ⟨k, hn, hlt, by rw [hbt, hb10]⟩)
          clear hb10 hbt
          go_wp2_with (at_builtin; refine wpList_append_sl _ rfl _ _ _ rfl w3.heap.size 3 iI _ 8 Tryz.underlying30 hiI hz1 hz2 hz3 rfl (by omega) ic_len ic_one _ _ l [(k : Int)] rfl rfl (hinv.out.1.keepB fun b h1 h2 => Below.heap_alloc _ _ _ h2) ((Sl.new1 (c := ic) (k : Int) rfl)) (by have := HS.out; have := HKK.out; simp only [maxLen, List.length_cons, List.length_nil]; omega) (by have := HS.out; have := HKK.out; simp only [List.length_cons, List.length_nil]; omega) (by rw [World.size_alloc]; have := hinv.out.2.2.size; omega) ?_; intro v1 w6 hown1 hg1 hmv1; obtain ⟨A1, c1', rfl⟩ : ∃ A cap, v1 = .slice A (l.length + 1) cap := (by obtain ⟨A, cap, e⟩ := ow_slice ic_len hown1; exact ⟨A, cap, by rw [e]; simp⟩))
          have HI6 := Lib.hid (show Ow ic 1 w6 w3.heap.size 3 (.slice A1 (l ++ [(k : Int)]).length c1') (l ++ [(k : Int)]) ∧ EndAt s (l ++ [(k : Int)]) ∧ Below w3.heap.size w3 w6 from
            ⟨by rw [List.length_append, List.length_singleton]; exact hown1, HEA.out, (hinv.out.2.2.alloc hinv.out.2.2.size _).grown hg1 (by rw [World.size_alloc]; have := hinv.out.2.2.size; omega) (fun j hj => (hinv.out.1.lt (k := j) hj).1)⟩)
          clear hown1 hg1 hmv1 HEA
          go_wp2_with fail
          go_roundg (s.size - (k + 1))
          case measure => omega
          case rel => exact ⟨k + 1, A1, c1', l ++ [(k : Int)], by omega, Nat.le_refl _, by go_num, by rw [List.length_append, List.length_singleton], by have := HKK.out; rw [List.length_append, List.length_singleton]; omega, HI6⟩
        · have c1 : ((s[k].toNat : Int) == 10) = false := by
            refine beq_eq_false_iff_ne.2 fun h => hb10 ?_
            exact UInt8.toNat_inj.1 (by have : s[k].toNat = 10 := by omega
                                        rw [this]; rfl)
          clear hb10 hbt
          go_wp2_with fail
          go_roundg (s.size - (k + 1))
          case measure => omega
          case rel => exact ⟨k + 1, A, c, l, by omega, Nat.le_refl _, by go_num, rfl, by have := HKK.out; omega, hinv⟩
      · have hkl : k = s.size := by omega
        subst hkl
        obtain ⟨m, hm⟩ : ∃ m, l.length = m := ⟨_, rfl⟩
        have HM := Lib.hid hm
        rw [hm] at hinv hlk
        rw [hm]
        by_cases hm0 : m = 0
        · have c1 : ((m : Int) == 0) = true := beq_iff_eq.2 (by omega)
          clear hm0
          go_wp2_with fail
          go_ret
          exact ⟨rfl, HBw3.out.trans (hinv.out.2.2.mono HBw3.out.size)⟩
        · have c1 : ((m : Int) == 0) = false := beq_eq_false_iff_ne.2 (by omega)
          have hpk := fun W => pick_any at_ (m : Int) W (by omega) (by have := HS.out; omega)
          obtain ⟨hp1, hp2⟩ := pick_lt at_ (m : Int) (by omega)
          obtain ⟨n, hn⟩ : ∃ n : Nat, at_ % (m : Int) = n := ⟨(at_ % (m : Int)).toNat, by omega⟩
          rw [hn] at hpk hp1 hp2
          have hnm : n < l.length := by rw [hm]; omega
          obtain ⟨j, hj, hjl, hj10⟩ := hinv.out.2.1 l[n] (List.getElem_mem hnm)
          obtain ⟨b1, o1, p1, e1, _, _, hl3, _, hx⟩ := (hinv.out.1.sl ic_len).at_ hnm
          injection e1 with e1 e2 e3
          clear e2 e3
          subst e1
          have x0 : wr.cell? ⟨b1, o1 + n, none⟩ = some (.int .i64 (j : Int)) := by rw [← hj]; simpa using hx 0 _ rfl
          have HJ := Lib.hid (joined_at hj10)
          have HJL := Lib.hid hjl
          have HPK := Lib.hid hpk
          have HBwr := Lib.hid (HBw3.out.trans (hinv.out.2.2.mono HBw3.out.size))
          have HNwr := Lib.hid (HNw3.out.trans (hinv.out.2.2.mono HNw3.out.size))
          have q2 : (0 : Int) ≤ (n : Int) := by omega
          have q3 : (n : Int) < (m : Int) := hp2
          have q4 : (0 : Int) ≤ (j : Int) := by omega
          have q5 : (j : Int) ≤ (s.size : Int) := by omega
          clear hm0 hpk hn hp1 hp2 hj hj10 hx hl3 hjl hlt hnm hm
          go_wp2_with fail
          refine (HPK.out wr).mono ?_
          rintro e w' ⟨rfl, rfl⟩
          go_wp2_with fail
          obtain ⟨S0, hS0⟩ : ∃ S, s.extract 0 j = S := ⟨_, rfl⟩
          have hjo : Joined S0 ⟨(s.data.toList.drop (j + 1)).toArray⟩ s := by
            have e : S0.data.toList = s.data.toList.take j := by rw [← hS0]; simp
            have h := HJ.out
            unfold Joined at h ⊢
            rw [e]
            exact h
          have hcut := cut_read hjo (by have := HS.out; omega) (by rw [HPD.out]; exact HF0.out)
          rw [HPD.out] at hcut
          dsimp only at hcut
          rw [hS0]
          have hpr := sparse_any S0 wr (HT.out.below HBwr.out) (HL.out.below HBwr.out)
          obtain ⟨⟨QD, fy, g4, g5⟩, hQD⟩ : ∃ r, parseS S0 = r := ⟨_, rfl⟩
          have hro := read_ok S0
          rw [hQD] at hpr hcut hro
          dsimp only [FaultD.v] at hpr hcut hro
          have HPR := Lib.hid hpr
          have HCUT := Lib.hid hcut
          have HRY := Lib.hid hro
          clear hpr hcut hQD hS0 hjo x0 c1 q2 q3 q4 q5 HJ HJL HPK hro
          refine HPR.out.mono ?_
          clear HPR
          rintro e w5 ⟨y, hyd, rfl, hgy, hb⟩
          have HBw5 := Lib.hid (HBwr.out.trans (hb.mono HBwr.out.size))
          have HNw5 := Lib.hid (HNwr.out.trans (hb.mono HNwr.out.size))
          have HYD := Lib.hid hyd
          clear hb hyd
          obtain ⟨Ys, Ys_, Yp, Yp_, Yd, Yd_, Yr, Yr_, Yt, Yt_, Yh, Yh_, eys, eyp, eyd, eyr, eyt, eyh⟩ := SheetAt.forms hgy
          have Vy : y.v = .agg #[.int .i64 y.hor, .slice Ys y.stops.length Ys_, .slice Yp y.paths.length Yp_, .slice Yd y.doors.length Yd_, .slice Yr y.routes.length Yr_, .slice Yt y.trips.length Yt_, .slice Yh y.hazs.length Yh_] := by
            unfold SheetM.v; rw [eys, eyp, eyd, eyr, eyt, eyh]
          rw [Vy]
          have HVy := Lib.hid Vy
          have HGy := Lib.hid hgy
          have HFy := Lib.hid (show y.vs = .slice Ys y.stops.length Ys_ ∧ y.vp = .slice Yp y.paths.length Yp_ ∧ y.vd = .slice Yd y.doors.length Yd_ ∧ y.vr = .slice Yr y.routes.length Yr_ ∧ y.vt = .slice Yt y.trips.length Yt_ ∧ y.vh = .slice Yh y.hazs.length Yh_ from ⟨eys, eyp, eyd, eyr, eyt, eyh⟩)
          clear Vy hgy eys eyp eyd eyr eyt eyh
          go_upto_region 19 with fail
          obtain ⟨w6, hwa⟩ : ∃ wa, (w5.alloc (.cells #[.int .i64 y.hor, .slice Ys y.stops.length Ys_, .slice Yp y.paths.length Yp_, .slice Yd y.doors.length Yd_, .slice Yr y.routes.length Yr_, .slice Yt y.trips.length Yt_, .slice Yh y.hazs.length Yh_] 29)).alloc (.cells #[.int .i64 fy, .int .i64 g4, .int .i64 g5] 39) = wa := ⟨_, rfl⟩
          have hba : Below w5.heap.size w5 w6 := by rw [← hwa]; exact ((Below.refl _ _).alloc (Nat.le_refl _) _).alloc (by simp) _
          have hza : w6.heap.size = w5.heap.size + 2 := by rw [← hwa]; simp
          have hA : w6.heap[w5.heap.size]? = some (.cells #[.int .i64 y.hor, .slice Ys y.stops.length Ys_, .slice Yp y.paths.length Yp_, .slice Yd y.doors.length Yd_, .slice Yr y.routes.length Yr_, .slice Yt y.trips.length Yt_, .slice Yh y.hazs.length Yh_] 29 (0, 0)) := by rw [← hwa, Below.heap_alloc _ _ _ (by simp)]; exact heap_alloc_new _ _
          have hB : w6.heap[w5.heap.size + 1]? = some (.cells #[.int .i64 fy, .int .i64 g4, .int .i64 g5] 39 (0, 0)) := by
            rw [← hwa]
            have h := heap_alloc_new (w5.alloc (.cells #[.int .i64 y.hor, .slice Ys y.stops.length Ys_, .slice Yp y.paths.length Yp_, .slice Yd y.doors.length Yd_, .slice Yr y.routes.length Yr_, .slice Yt y.trips.length Yt_, .slice Yh y.hazs.length Yh_] 29)) (.cells #[.int .i64 fy, .int .i64 g4, .int .i64 g5] 39)
            rw [show (w5.alloc (.cells #[.int .i64 y.hor, .slice Ys y.stops.length Ys_, .slice Yp y.paths.length Yp_, .slice Yd y.doors.length Yd_, .slice Yr y.routes.length Yr_, .slice Yt y.trips.length Yt_, .slice Yh y.hazs.length Yh_] 29)).heap.size = w5.heap.size + 1 by simp] at h
            exact h
          have Cy := Lib.hid (fun (wy : World) (h : Below w6.heap.size w6 wy) => (show wy.cell? ⟨w5.heap.size, 0, none⟩ = some (.int .i64 y.hor) ∧ wy.cell? ⟨w5.heap.size, 1, none⟩ = some (.slice Ys y.stops.length Ys_) ∧ wy.cell? ⟨w5.heap.size, 2, none⟩ = some (.slice Yp y.paths.length Yp_) ∧ wy.cell? ⟨w5.heap.size, 3, none⟩ = some (.slice Yd y.doors.length Yd_) ∧ wy.cell? ⟨w5.heap.size, 4, none⟩ = some (.slice Yr y.routes.length Yr_) ∧ wy.cell? ⟨w5.heap.size, 5, none⟩ = some (.slice Yt y.trips.length Yt_) ∧ wy.cell? ⟨w5.heap.size, 6, none⟩ = some (.slice Yh y.hazs.length Yh_) from ⟨(h.cell (p := ⟨w5.heap.size, 0, none⟩) (by show w5.heap.size < _; omega)).trans (Lib.cell_of_heap hA 0), (h.cell (p := ⟨w5.heap.size, 1, none⟩) (by show w5.heap.size < _; omega)).trans (Lib.cell_of_heap hA 1), (h.cell (p := ⟨w5.heap.size, 2, none⟩) (by show w5.heap.size < _; omega)).trans (Lib.cell_of_heap hA 2), (h.cell (p := ⟨w5.heap.size, 3, none⟩) (by show w5.heap.size < _; omega)).trans (Lib.cell_of_heap hA 3), (h.cell (p := ⟨w5.heap.size, 4, none⟩) (by show w5.heap.size < _; omega)).trans (Lib.cell_of_heap hA 4), (h.cell (p := ⟨w5.heap.size, 5, none⟩) (by show w5.heap.size < _; omega)).trans (Lib.cell_of_heap hA 5), (h.cell (p := ⟨w5.heap.size, 6, none⟩) (by show w5.heap.size < _; omega)).trans (Lib.cell_of_heap hA 6)⟩))
          have Fy := Lib.hid (fun (wy : World) (h : Below w6.heap.size w6 wy) => (show wy.cell? ⟨w5.heap.size + 1, 0, none⟩ = some (.int .i64 fy) ∧ wy.cell? ⟨w5.heap.size + 1, 1, none⟩ = some (.int .i64 g4) ∧ wy.cell? ⟨w5.heap.size + 1, 2, none⟩ = some (.int .i64 g5) from ⟨(h.cell (p := ⟨w5.heap.size + 1, 0, none⟩) (by show w5.heap.size + 1 < _; omega)).trans (Lib.cell_of_heap hB 0), (h.cell (p := ⟨w5.heap.size + 1, 1, none⟩) (by show w5.heap.size + 1 < _; omega)).trans (Lib.cell_of_heap hB 1), (h.cell (p := ⟨w5.heap.size + 1, 2, none⟩) (by show w5.heap.size + 1 < _; omega)).trans (Lib.cell_of_heap hB 2)⟩))
          have HBw6 := Lib.hid (HBw5.out.trans (hba.mono HBw5.out.size))
          have HGy2 := Lib.hid (HGy.out.below_ hba)
          clear HGy
          have HGy := Lib.hid HGy2.out
          clear HGy2
          have HNw6 := Lib.hid hba
          try rw [hwa]
          clear hwa hba hza hA hB
          have HN62 := Lib.hid (HNw5.out.trans (HNw6.out.mono HNw5.out.size))
          obtain ⟨fy0, fy1, fy2⟩ := Fy.out w6 (Below.refl _ _)
          rcases HCUT.out with hc | ⟨hc, hpre⟩
          · injection hc with hc1 hc2
            injection hc2 with hc2 hc3 hc4
            subst hc2 hc3 hc4
            have HZD := Lib.hid (show y.d = zeroD from HYD.out.trans hc1)
            have hcz : checkD y.d = 0 := by rw [HZD.out]; decide
            have hth := HVy.out ▸ sthings_any w6 y HGy.out (may_few hcz)
            rw [show thingsD y.d = 0 by rw [HZD.out]; rfl] at hth
            have HTH := Lib.hid hth
            clear hth hcz hc1
            obtain ⟨y0, y1, y2, y3, y4, y5, y6⟩ := Cy.out w6 (Below.refl _ _)
            have q7 := fe7
            go_wp2_with fail
            refine HTH.out.mono ?_
            rintro e w7 ⟨rfl, hb⟩
            have HBw7 := Lib.hid (HBw6.out.trans (hb.mono HBw6.out.size))
            clear hb HTH y0 y1 y2 y3 y4 y5 y6 fy0 fy1 fy2
            go_wp2_with fail
            go_ret
            exact ⟨rfl, HBw7.out⟩
          · injection hc with hc2 hc3 hc4
            subst hc2 hc3 hc4
            have HPRE := Lib.hid (show PreD y.d x.d by rw [HYD.out, HXD.out]; exact hpre)
            have HCY := Lib.hid (show checkD y.d = 0 by rw [HYD.out]; exact HRY.out rfl)
            clear hpre
            have e1 : (x.stops.take y.stops.length) = y.stops := by obtain ⟨l, hl⟩ := HPRE.out.s; rw [show x.stops = y.stops ++ l from hl, List.take_left]
            have e2 : (x.trips.take y.trips.length) = y.trips := by obtain ⟨l, hl⟩ := HPRE.out.t; rw [show x.trips = y.trips ++ l from hl, List.take_left]
            have e3 : (x.paths.take y.paths.length) = y.paths := by obtain ⟨l, hl⟩ := HPRE.out.p; rw [show x.paths = y.paths ++ l from hl, List.take_left]
            have l1 : y.stops.length ≤ x.stops.length := pre_len HPRE.out.s
            have l2 : y.trips.length ≤ x.trips.length := pre_len HPRE.out.t
            have l3 : y.paths.length ≤ x.paths.length := pre_len HPRE.out.p
            have fy := may_few HCY.out
            have hso := HFx.out.1 ▸ HGx.out.stops
            have hto := HFx.out.2.2.2.2.1 ▸ HGx.out.trips
            have hpo := HFx.out.2.1 ▸ HGx.out.paths
            have kl1 := hso.capb
            have kl2 := hto.capb
            have kl3 := hpo.capb
            have a1 := Sl.front hso (m := y.stops) l1 e1
            have a2 := Sl.front hto (m := y.trips) l2 e2
            have a3 := Sl.front hpo (m := y.paths) l3 e3
            have HS1 := Lib.hid (fun (wy : World) (h : Below w6.heap.size w6 wy) => sameStr_any (.slice Ys y.stops.length Ys_) (.slice Xs y.stops.length Xs_) y.stops y.stops wy (HFy.out.1 ▸ (HGy.out.below_ h).stops) (a1.below_ (HN62.out.trans (h.mono HN62.out.size))) (by have := fy.stops; omega))
            have HS2 := Lib.hid (fun (wy : World) (h : Below w6.heap.size w6 wy) => sameTrip_any (.slice Yt y.trips.length Yt_) (.slice Xt y.trips.length Xt_) y.trips y.trips wy (HFy.out.2.2.2.2.1 ▸ (HGy.out.below_ h).trips) (a2.below_ (HN62.out.trans (h.mono HN62.out.size))) (by have := fy.trips; omega))
            have HS3 := Lib.hid (fun (wy : World) (h : Below w6.heap.size w6 wy) => samePath_any (.slice Yp y.paths.length Yp_) (.slice Xp y.paths.length Xp_) y.paths y.paths wy (HFy.out.2.1 ▸ (HGy.out.below_ h).paths) (a3.below_ (HN62.out.trans (h.mono HN62.out.size))) (by have := fy.paths; omega))
            have HTX := Lib.hid (fun (wy : World) (h : Below w6.heap.size w6 wy) => HVx.out ▸ sthings_any wy x (HGx.out.below_ (HN62.out.trans (h.mono HN62.out.size))) (may_few HCK.out))
            have HTY := Lib.hid (fun (wy : World) (h : Below w6.heap.size w6 wy) => HVy.out ▸ sthings_any wy y (HGy.out.below_ h) fy)
            have hle : thingsD y.d ≤ thingsD x.d := by
              have := pre_len HPRE.out.s; have := pre_len HPRE.out.p; have := pre_len HPRE.out.d; have := pre_len HPRE.out.r; have := pre_len HPRE.out.t; have := pre_len HPRE.out.z
              unfold thingsD; omega
            have c1 : (y.hor == x.hor) = true := beq_iff_eq.2 HPRE.out.h
            have c2 : decide (((thingsD y.d : Nat) : Int) ≤ ((thingsD x.d : Nat) : Int)) = true := decide_eq_true (by omega)
            have c3 : decide (thingsD y.d ≤ thingsD x.d) = true := decide_eq_true hle
            have m1 : min (x.stops.length : Int) (y.stops.length : Int) = (y.stops.length : Int) := by omega
            have m2 : min (x.trips.length : Int) (y.trips.length : Int) = (y.trips.length : Int) := by omega
            have m3 : min (x.paths.length : Int) (y.paths.length : Int) = (y.paths.length : Int) := by omega
            have d1 : decide (y.stops = y.stops) = true := decide_eq_true rfl
            have d2 : decide (y.trips = y.trips) = true := decide_eq_true rfl
            have d3 : decide (y.paths = y.paths) = true := decide_eq_true rfl
            have p1 : (0 : Int) ≤ (y.stops.length : Int) := by omega
            have p2 : (0 : Int) ≤ (y.trips.length : Int) := by omega
            have p3 : (0 : Int) ≤ (y.paths.length : Int) := by omega
            have r1 : (y.stops.length : Int) ≤ (Xs_ : Int) := by omega
            have r2 : (y.trips.length : Int) ≤ (Xt_ : Int) := by omega
            have r3 : (y.paths.length : Int) ≤ (Xp_ : Int) := by omega
            rw [d1] at HS1
            rw [d2] at HS2
            rw [d3] at HS3
            clear a1 a2 a3 hso hto hpo kl1 kl2 kl3 e1 e2 e3 l1 l2 l3 hle fy fy1 fy2 d1 d2 d3
            go_upto_region 21 with fail
            clear fy0
            have hSw : Below w6.heap.size w6 w6 := Below.refl _ _
            refine wp_region_kinds (fun wy => Below w6.heap.size w6 wy) [7, 9, 25, 40, 55] [] [1, 3, 6, 8, 14, 16, 18, 21, 29, 31, 33, 36, 44, 46, 48, 51] [0, 2, 4, 5, 10, 11, 12, 13, 15, 17, 19, 20, 22, 23, 24, 26, 27, 28, 30, 32, 34, 35, 37, 38, 39, 41, 42, 43, 45, 47, 49, 50, 52, 53, 54, 56, 57] [0, 1, 2, 3, 4, 5, 6, 8, 7, 9, 10, 11, 12, 13, 14, 15, 16, 17, 18, 19, 20, 21, 22, 23, 24, 25, 26, 27, 28, 29, 30, 31, 32, 33, 34, 35, 36, 37, 38, 39, 40, 41, 42, 43, 44, 45, 46, 47, 48, 49, 50, 51, 52, 53, 54, 55, 56, 57] (by kernel_rfl) (by kernel_rfl) (fun w n h => below_drewN h n) ?_
            repeat (first | (refine wpKind_free (v := ?_) (by rfl) rfl (by rfl) ?_ ?_; rotate_left 1; (focus (intro wy; go_simp; try with_reducible rfl; done)); try simp only [Act.put, List.setIfInBounds_toArray, List.set_cons_zero, List.set_cons_succ]) | (refine wpKind_held (v := ?_) (by rfl) rfl (by rfl) hSw ?_ ?_; rotate_left 1; (focus (intro wy hSy; obtain ⟨y0, y1, y2, y3, y4, y5, y6⟩ := Cy.out wy hSy; obtain ⟨x0, x1, x2, x3, x4, x5, x6⟩ := Cx.out wy (HN62.out.trans (hSy.mono HN62.out.size)); go_simp; try with_reducible rfl; done)); try simp only [Act.put, List.setIfInBounds_toArray, List.set_cons_zero, List.set_cons_succ]))
            clear hSw
            refine wpKind_keeps (by rfl) rfl (fun m1 => ?_)
            go_wp2_with fail
            refine (HTY.out (w6.drewN m1) (below_drewN (Below.refl w6.heap.size w6) m1)).mono ?_
            rintro e v1 ⟨rfl, hb⟩
            have HV1 := Lib.hid (show Below w6.heap.size w6 v1 from (below_drewN (Below.refl w6.heap.size w6) m1).trans (hb.mono (below_drewN (Below.refl w6.heap.size w6) m1).size))
            clear hb
            go_wp2_with fail
            show _ ∧ _
            refine ⟨HV1.out, ?_⟩
            have hSw : Below w6.heap.size w6 v1 := HV1.out
            repeat (first | (refine wpKind_free (v := ?_) (by rfl) rfl (by rfl) ?_ ?_; rotate_left 1; (focus (intro wy; go_simp; try with_reducible rfl; done)); try simp only [Act.put, List.setIfInBounds_toArray, List.set_cons_zero, List.set_cons_succ]) | (refine wpKind_held (v := ?_) (by rfl) rfl (by rfl) hSw ?_ ?_; rotate_left 1; (focus (intro wy hSy; obtain ⟨y0, y1, y2, y3, y4, y5, y6⟩ := Cy.out wy hSy; obtain ⟨x0, x1, x2, x3, x4, x5, x6⟩ := Cx.out wy (HN62.out.trans (hSy.mono HN62.out.size)); go_simp; try with_reducible rfl; done)); try simp only [Act.put, List.setIfInBounds_toArray, List.set_cons_zero, List.set_cons_succ]))
            clear hSw
            refine wpKind_keeps (by rfl) rfl (fun m2 => ?_)
            go_wp2_with fail
            refine (HTX.out (v1.drewN m2) (below_drewN HV1.out m2)).mono ?_
            rintro e v2 ⟨rfl, hb⟩
            have HV2 := Lib.hid (show Below w6.heap.size w6 v2 from (below_drewN HV1.out m2).trans (hb.mono (below_drewN HV1.out m2).size))
            clear hb
            go_wp2_with fail
            show _ ∧ _
            refine ⟨HV2.out, ?_⟩
            have hSw : Below w6.heap.size w6 v2 := HV2.out
            repeat (first | (refine wpKind_free (v := ?_) (by rfl) rfl (by rfl) ?_ ?_; rotate_left 1; (focus (intro wy; go_simp; try with_reducible rfl; done)); try simp only [Act.put, List.setIfInBounds_toArray, List.set_cons_zero, List.set_cons_succ]) | (refine wpKind_held (v := ?_) (by rfl) rfl (by rfl) hSw ?_ ?_; rotate_left 1; (focus (intro wy hSy; obtain ⟨y0, y1, y2, y3, y4, y5, y6⟩ := Cy.out wy hSy; obtain ⟨x0, x1, x2, x3, x4, x5, x6⟩ := Cx.out wy (HN62.out.trans (hSy.mono HN62.out.size)); go_simp; try with_reducible rfl; done)); try simp only [Act.put, List.setIfInBounds_toArray, List.set_cons_zero, List.set_cons_succ]))
            clear hSw
            refine wpKind_keeps (by rfl) rfl (fun m3 => ?_)
            go_wp2_with fail
            refine (HS1.out (v2.drewN m3) (below_drewN HV2.out m3)).mono ?_
            rintro e v3 ⟨rfl, k3, rfl⟩
            have HV3 := Lib.hid (show Below w6.heap.size w6 ((v2.drewN m3).drewN k3) from below_drewN (below_drewN HV2.out m3) k3)
            generalize (v2.drewN m3).drewN k3 = v3 at *
            go_wp2_with fail
            show _ ∧ _
            refine ⟨HV3.out, ?_⟩
            have hSw : Below w6.heap.size w6 v3 := HV3.out
            repeat (first | (refine wpKind_free (v := ?_) (by rfl) rfl (by rfl) ?_ ?_; rotate_left 1; (focus (intro wy; go_simp; try with_reducible rfl; done)); try simp only [Act.put, List.setIfInBounds_toArray, List.set_cons_zero, List.set_cons_succ]) | (refine wpKind_held (v := ?_) (by rfl) rfl (by rfl) hSw ?_ ?_; rotate_left 1; (focus (intro wy hSy; obtain ⟨y0, y1, y2, y3, y4, y5, y6⟩ := Cy.out wy hSy; obtain ⟨x0, x1, x2, x3, x4, x5, x6⟩ := Cx.out wy (HN62.out.trans (hSy.mono HN62.out.size)); go_simp; try with_reducible rfl; done)); try simp only [Act.put, List.setIfInBounds_toArray, List.set_cons_zero, List.set_cons_succ]))
            clear hSw
            refine wpKind_keeps (by rfl) rfl (fun m4 => ?_)
            go_wp2_with fail
            refine (HS2.out (v3.drewN m4) (below_drewN HV3.out m4)).mono ?_
            rintro e v4 ⟨rfl, k4, rfl⟩
            have HV4 := Lib.hid (show Below w6.heap.size w6 ((v3.drewN m4).drewN k4) from below_drewN (below_drewN HV3.out m4) k4)
            generalize (v3.drewN m4).drewN k4 = v4 at *
            go_wp2_with fail
            show _ ∧ _
            refine ⟨HV4.out, ?_⟩
            have hSw : Below w6.heap.size w6 v4 := HV4.out
            repeat (first | (refine wpKind_free (v := ?_) (by rfl) rfl (by rfl) ?_ ?_; rotate_left 1; (focus (intro wy; go_simp; try with_reducible rfl; done)); try simp only [Act.put, List.setIfInBounds_toArray, List.set_cons_zero, List.set_cons_succ]) | (refine wpKind_held (v := ?_) (by rfl) rfl (by rfl) hSw ?_ ?_; rotate_left 1; (focus (intro wy hSy; obtain ⟨y0, y1, y2, y3, y4, y5, y6⟩ := Cy.out wy hSy; obtain ⟨x0, x1, x2, x3, x4, x5, x6⟩ := Cx.out wy (HN62.out.trans (hSy.mono HN62.out.size)); go_simp; try with_reducible rfl; done)); try simp only [Act.put, List.setIfInBounds_toArray, List.set_cons_zero, List.set_cons_succ]))
            clear hSw
            refine wpKind_keeps (by rfl) rfl (fun m5 => ?_)
            go_wp2_with fail
            refine (HS3.out (v4.drewN m5) (below_drewN HV4.out m5)).mono ?_
            rintro e v5 ⟨rfl, k5, rfl⟩
            have HV5 := Lib.hid (show Below w6.heap.size w6 ((v4.drewN m5).drewN k5) from below_drewN (below_drewN HV4.out m5) k5)
            generalize (v4.drewN m5).drewN k5 = v5 at *
            go_wp2_with fail
            show _ ∧ _
            refine ⟨HV5.out, ?_⟩
            have hSw : Below w6.heap.size w6 v5 := HV5.out
            repeat (first | (refine wpKind_free (v := ?_) (by rfl) rfl (by rfl) ?_ ?_; rotate_left 1; (focus (intro wy; go_simp; try with_reducible rfl; done)); try simp only [Act.put, List.setIfInBounds_toArray, List.set_cons_zero, List.set_cons_succ]) | (refine wpKind_held (v := ?_) (by rfl) rfl (by rfl) hSw ?_ ?_; rotate_left 1; (focus (intro wy hSy; obtain ⟨y0, y1, y2, y3, y4, y5, y6⟩ := Cy.out wy hSy; obtain ⟨x0, x1, x2, x3, x4, x5, x6⟩ := Cx.out wy (HN62.out.trans (hSy.mono HN62.out.size)); go_simp; try with_reducible rfl; done)); try simp only [Act.put, List.setIfInBounds_toArray, List.set_cons_zero, List.set_cons_succ]))
            clear hSw
            refine wpKind_nil fun m9 => ?_
            go_wp2_with fail
            go_ret
            exact ⟨rfl, below_drewN (HBw6.out.trans (HV5.out.mono HBw6.out.size)) m9⟩
  · have k1 : (fx == 0) = false := beq_eq_false_iff_ne.2 hf
    have k2 : (fx != 0) = true := by rw [bne, k1]; rfl
    obtain ⟨hz, hl1, hl2⟩ := HPF.out hf
    have hcz : checkD x.d = 0 := by rw [HXD.out, hz]; decide
    have hsm := HVx.out ▸ ssame_any x zeroM w2 HGx.out (zeroM_good w2 (fun _ => True)) (may_small hcz)
    rw [decide_eq_true (show x.d = zeroM.d by rw [HXD.out, hz]; rfl)] at hsm
    have HSM := Lib.hid hsm
    have c1 : decide ((1 : Int) ≤ g2) = true := decide_eq_true hl1
    have c2 : decide ((1 : Int) ≤ g3) = true := decide_eq_true hl2
    clear hf hz hcz hsm hl1 hl2
    go_wp2_with fail
    refine HSM.out.mono ?_
    rintro e w3 ⟨rfl, hb⟩
    have HBw3 := Lib.hid (HBw2.out.trans (hb.mono HBw2.out.size))
    have HNw3 := Lib.hid hb
    clear hb HSM fx0 fx1 fx2 x0 x1 x2 x3 x4 x5 x6
    obtain ⟨fx0, fx1, fx2⟩ := Fx.out w3 HNw3.out
    go_wp2_with fail
    go_ret
    exact ⟨rfl, HBw3.out⟩
end Go.Proofs.YteonefgbdphmiaaGreatDoor
