/- The walk of timetableref06.Route. -/
import Derived.Test.YtmihinhbcncbfaaGreatDoorZb
import Derived.Test.YtmihinhbcncbfaaGreatDoorSr
namespace Go.Proofs.YtmihinhbcncbfaaGreatDoor
open Go.RowKit
theorem rcells {r : RouteM} {w : World} {P : Nat → Prop} (hg : r.Good w P) : ∃ As cs Ar cr Ay cy, (r.vs = .slice As r.stops.length cs ∧ r.vr = .slice Ar r.rides.length cr) ∧ r.vy = .slice Ay r.stays.length cy := by
  obtain ⟨As, cs, es, _, _⟩ := hg.stops.shape
  obtain ⟨Ar, cr, er, _, _⟩ := hg.rides.shape
  obtain ⟨Ay, cy, ey, _, _⟩ := hg.stays.shape
  exact ⟨As, cs, Ar, cr, Ay, cy, ⟨es, er⟩, ey⟩
/-- What bounds a route's line. -/
structure RouteD.Low (r : RouteD) : Prop where
  name : Lo r.name
  stops : ∀ s ∈ r.stops, Lo s
  few : r.stops.length ≤ 1000
theorem preW_lo (r : RouteD) (h : r.Low) (hf : r.Fit) (k : Nat) (hk : k ≤ r.stops.length) : ∀ y ∈ preW r k, y.t.length ≤ 1048576 := by
  induction k with
  | zero =>
    intro y hy
    simp [preW] at hy
    rcases hy with rfl | rfl
    · show kRoute.length ≤ _; decide
    · exact h.name
  | succ k ih =>
    intro y hy
    rw [preW_succ] at hy
    simp only [List.mem_append, List.mem_cons, List.not_mem_nil, or_false] at hy
    rcases hy with ((hy | hy) | rfl) | hy
    · exact ih (by omega) y hy
    · unfold rideW at hy
      split at hy
      · rename_i hc
        simp at hy
        subst hy
        exact Nat.le_trans (dec_le (hf.rides _ (getD_mem hc.2))) (by decide)
      · cases hy
    · exact h.stops _ (getD_mem (by omega))
    · unfold stayW at hy
      split at hy
      · rename_i hc
        simp at hy
        rcases hy with rfl | rfl
        · show kStay.length ≤ _; decide
        · exact Nat.le_trans (dec_le (hf.stays _ (getD_mem hc.2.1))) (by decide)
      · cases hy
theorem preL_len (r : RouteD) (h : r.Low) (hf : r.Fit) (k : Nat) (hk : k ≤ r.stops.length) : (line (preW r k)).length ≤ 4299169792 := by
  have h1 := line_le (preW r k) 1048576 (preW_lo r h hf k hk)
  have h2 := preW_len r k
  have h3 := h.few
  have h4 : (1048576 + 1) * (preW r k).length ≤ (1048576 + 1) * 4002 := Nat.mul_le_mul_left _ (by omega)
  omega
/-- What stands when the ride has been told. -/
def midL (r : RouteD) (k : Nat) : List UInt8 := line (preW r k ++ rideW r k)
theorem line_one {l : List Wd} (h : 0 < l.length) (y : Wd) : ba (line l) ++ ⟨#[32]⟩ ++ ba y.t = ba (line (l ++ [y])) := by
  rw [cZ [32], ba_appZ, ba_appZ, line_snoc h]
theorem pre_pos (r : RouteD) (k : Nat) : 0 < (preW r k).length := by unfold preW; simp
set_option maxRecDepth 100000 in
set_option maxHeartbeats 4000000 in
theorem zroute_any (w : World) (r : RouteM) {P : Nat → Prop} (hg : r.Good w P) (hf : r.d.Fit) (hlo : r.d.Low) :
    Calls Tryz.prog 20 #[.agg (rc r).toArray] w fun e w' => e = .returned (.string (ba (routeL r.d))) ∧ Below w.heap.size w w' := by
  obtain ⟨w1, hw1⟩ : ∃ w1, w.alloc (.cells (rc r).toArray 38) = w1 := ⟨_, rfl⟩
  have hS1 : RouteAt w.heap.size r w1 := by rw [← hw1]; exact RouteAt.of (heap_alloc_new _ _)
  have hb1 : Below w.heap.size w w1 := by rw [← hw1]; exact (Below.refl _ _).alloc (Nat.le_refl _) _
  have hlt : w.heap.size < w1.heap.size := by rw [← hw1]; simp
  have HB1 := Lib.hid hb1
  have HG1 := Lib.hid (hg.below_ hb1)
  have HS1 := Lib.hid hS1
  have HF := Lib.hid hf
  have HLO := Lib.hid hlo
  have hfew : r.stops.length ≤ 1000 := hlo.few
  have HPL := Lib.hid (fun k hk => preL_len r.d hlo hf k hk)
  obtain ⟨As, cs, Ar, cr, Ay, cy, ⟨es, er⟩, ey⟩ := rcells hg
  have HSH := Lib.hid (show (r.vs = .slice As r.stops.length cs ∧ r.vr = .slice Ar r.rides.length cr) ∧ r.vy = .slice Ay r.stays.length cy from ⟨⟨es, er⟩, ey⟩)
  clear hS1 hb1 hf hg hlo
  have cells : ∀ wx, RouteAt w.heap.size r wx → (wx.cell? ⟨w.heap.size, 0, none⟩ = some (.string (ba r.name)) ∧ wx.cell? ⟨w.heap.size, 1, none⟩ = some (.slice As r.stops.length cs)) ∧ (wx.cell? ⟨w.heap.size, 2, none⟩ = some (.slice Ar r.rides.length cr) ∧ wx.cell? ⟨w.heap.size, 3, none⟩ = some (.slice Ay r.stays.length cy)) := by
    rintro wx ⟨s0, s1, s2, s3⟩
    rw [es] at s1
    rw [er] at s2
    rw [ey] at s3
    exact ⟨⟨s0, s1⟩, s2, s3⟩
  have CELLS := Lib.hid cells
  have HLT := Lib.hid hlt
  clear cells
  unfold rc at hw1
  unfold rc
  rw [es, er, ey] at hw1
  rw [es, er, ey]
  clear es er ey
  obtain ⟨⟨c0, c1⟩, c2, c3⟩ := CELLS.out _ HS1.out
  have z0 : (ba r.name).size ≤ 1048576 := by rw [ba_size]; exact HLO.out.name
  have z1 : ((⟨#[114, 111, 117, 116, 101, 32]⟩ : ByteArray) ++ ba r.name).size ≤ 1048582 := by rw [ByteArray.size_append]; exact Nat.add_le_add (by decide) z0
  have HST := Lib.hid (show (⟨#[114, 111, 117, 116, 101, 32]⟩ : ByteArray) ++ ba r.name = ba (line (preW r.d 0)) by
    rw [cZ [114, 111, 117, 116, 101, 32], ba_appZ]
    congr 1
    simp [preW, line, kRoute, Wd.t]
    rfl)
  go_enter Tryz.func20, Tryz.ntmps20
  go_wp2_with fail
  clear hw1 c0 c1 c2 c3 z0 z1
  go_loopg [3, 4] r.stops.length (fun gg v s wr => ∃ k : Nat, k ≤ r.stops.length ∧ r.stops.length - k ≤ gg ∧ s = .int .i64 k ∧ v = .string (ba (line (preW r.d k))) ∧ Below w1.heap.size w1 wr)
  case atStart => exact ⟨0, Nat.zero_le _, by omega, rfl, by rw [← HST.out], Below.refl _ _⟩
  case round =>
    obtain ⟨k, hk, hgg, rfl, rfl, hb⟩ := hrel
    obtain ⟨⟨c0, c1⟩, c2, c3⟩ := CELLS.out _ (HS1.out.below hb HLT.out)
    have hsz : w1.heap.size ≤ wr.heap.size := hb.size
    have hpl := HPL.out k hk
    by_cases hkl : k < r.stops.length
    · have hst := (HG1.out.stops.below_ hb)
      rw [HSH.out.1.1] at hst
      obtain ⟨b1, o1, p1, e1, _, _, hl1, _, hx⟩ := hst.at_ hkl
      injection e1 with e1 e2 e3
      subst e1
      have hx0 : wr.cell? ⟨b1, o1 + k, none⟩ = some (.string (ba r.stops[k])) := by simpa using hx 0 _ rfl
      have HX0 := Lib.hid hx0
      have HBK := Lib.hid hl1
      have hsk : (ba r.stops[k]).size ≤ 1048576 := by rw [ba_size]; exact HLO.out.stops _ (List.getElem_mem _)
      have HB := Lib.hid hb
      have HSZ := Lib.hid hsz
      clear hb hx e2 e3 hst
      have q1 : (0 : Int) ≤ (k : Int) := by omega
      have q2 : (k : Int) < (r.stops.length : Int) := by omega
      have HPK := Lib.hid (HPL.out (k + 1) hkl)
      by_cases hk0 : k = 0
      · have q3 : decide ((0 : Int) < (k : Int)) = false := decide_eq_false (by omega)
        have q4 : decide (0 < k) = false := decide_eq_false (by omega)
        have E := Lib.hid (show ba (line (preW r.d k)) ++ ⟨#[32]⟩ ++ ba r.stops[k] = ba (line (preW r.d (k + 1))) by
          rw [show preW r.d (k + 1) = preW r.d k ++ [.s r.stops[k]] by
            rw [preW_succ]
            unfold rideW stayW
            rw [if_neg (by omega), if_neg (by omega), List.append_nil, List.append_nil, List.getD_eq_getElem?_getD, show r.d.stops[k]? = r.stops[k]? from rfl, List.getElem?_eq_getElem hkl]; rfl]
          exact line_one (pre_pos _ _) (.s r.stops[k]))
        obtain ⟨A, hA⟩ : ∃ A, line (preW r.d k) = A := ⟨_, rfl⟩
        rw [hA] at E hpl ⊢
        have za : (ba A).size ≤ 4299169792 := by rw [ba_size]; exact hpl
        have zb : (ba A ++ ⟨#[32]⟩).size ≤ 4299169793 := by rw [ByteArray.size_append]; exact Nat.add_le_add za (Nat.le_refl _)
        have zc : (ba A ++ ⟨#[32]⟩ ++ ba r.stops[k]).size ≤ 4300218369 := by rw [ByteArray.size_append]; exact Nat.add_le_add zb hsk
        clear hk0 hA hpl
        go_wp2_with fail
        go_roundg (r.stops.length - (k + 1))
        case measure => omega
        case rel => exact ⟨k + 1, by omega, by omega, by go_num, by rw [← E.out], HB.out⟩
      · obtain ⟨j, hj⟩ : ∃ j, k = j + 1 := ⟨k - 1, by omega⟩
        have hjk : (k : Int) - 1 = (j : Int) := by omega
        have q3 : decide ((0 : Int) < (k : Int)) = true := decide_eq_true (by omega)
        have q4 : decide (0 < k) = true := decide_eq_true (by omega)
        have HJ := Lib.hid hj
        have HK := Lib.hid hk0
        obtain ⟨A, hA⟩ : ∃ A, line (preW r.d k) = A := ⟨_, rfl⟩
        have HA := Lib.hid hA
        rw [hA] at hpl ⊢
        have za : (ba A).size ≤ 4299169792 := by rw [ba_size]; exact hpl
        have zb : (ba A ++ ⟨#[32]⟩).size ≤ 4299169793 := by rw [ByteArray.size_append]; exact Nat.add_le_add za (Nat.le_refl _)
        clear hk0 hj hA hpl
        go_upto_if 24 with fail
        go_cut [3] (fun v wx => v = .string (ba (midL r.d k)) ∧ (midL r.d k).length ≤ 4299169817 ∧ Below wr.heap.size wr wx)
        case first =>
          by_cases hr : j < r.rides.length
          · have hrd := HG1.out.rides.below_ HB.out
            rw [HSH.out.1.2] at hrd
            obtain ⟨b2, o2, p2, e1, _, _, hl2, _, hy⟩ := hrd.at_ hr
            injection e1 with e1 e2 e3
            subst e1
            have hy0 : wr.cell? ⟨b2, o2 + j, none⟩ = some (.int .i64 r.rides[j]) := by simpa using hy 0 _ rfl
            have hyi : I64 r.rides[j] := HF.out.rides _ (List.getElem_mem _)
            have E := Lib.hid (show rideW r.d k = [.n r.rides[j]] by
              unfold rideW
              have h1 : k - 1 = j := by have := HJ.out; omega
              rw [h1, if_pos ⟨by have := HJ.out; omega, hr⟩, List.getD_eq_getElem?_getD, show r.d.rides[j]? = r.rides[j]? from rfl, List.getElem?_eq_getElem hr]; rfl)
            obtain ⟨x, hx⟩ : ∃ x, r.rides[j] = x := ⟨_, rfl⟩
            rw [hx] at hy0 hyi E
            have HC := fun W => Lib.hid (znum_any x hyi.1 hyi.2 W)
            have zd : (ba (dec x)).size ≤ 24 := by rw [ba_size]; exact dec_len24 hyi
            have zf : (ba A ++ ⟨#[32]⟩ ++ ba (dec x)).size ≤ 4299169817 := by rw [ByteArray.size_append]; exact Nat.add_le_add zb zd
            have HE := Lib.hid (show ba A ++ ⟨#[32]⟩ ++ ba (dec x) = ba (midL r.d k) by
              unfold midL
              rw [E.out, ← HA.out]
              exact line_one (pre_pos _ _) (.n x))
            have HZ := Lib.hid (show (midL r.d k).length ≤ 4299169817 by rw [← ba_size, ← HE.out]; exact zf)
            clear hrd hy e2 e3 hyi hx
            have r1 : (0 : Int) ≤ (j : Int) := by omega
            have r2 : (j : Int) < (r.rides.length : Int) := by omega
            go_wp2_with fail
            refine (HC _).out.mono ?_
            rintro e w3 ⟨rfl, hb3⟩
            have HB3 := Lib.hid hb3
            clear hb3
            go_wp2_with fail
            go_meet
            case rel => exact ⟨by rw [← HE.out], HZ.out, HB3.out⟩
          · have HE := Lib.hid (show midL r.d k = A by
              unfold midL rideW
              have h1 : k - 1 = j := by have := HJ.out; omega
              rw [h1, if_neg (by rintro ⟨_, h⟩; exact hr h), List.append_nil, HA.out])
            have HZ := Lib.hid (show (midL r.d k).length ≤ 4299169817 by rw [HE.out, ← ba_size]; omega)
            have r2 : decide ((j : Int) < (r.rides.length : Int)) = false := decide_eq_false (by omega)
            have r3 : decide (j < r.rides.length) = false := decide_eq_false hr
            go_wp2_with fail
            go_meet
            case rel => exact ⟨by rw [HE.out], HZ.out, Below.refl _ _⟩
        case rest =>
          obtain ⟨rfl, hml, hb2⟩ := hcut
          have HB2 := Lib.hid (HB.out.trans (hb2.mono HB.out.size))
          have hx1 := (hb2.cell (p := ⟨b1, o1 + k, none⟩) (by have := (World.block_lt_of_cell? wr _ hx0); exact this)).trans hx0
          have HM := Lib.hid (show ba (midL r.d k) ++ ⟨#[32]⟩ ++ ba r.stops[k] = ba (line ((preW r.d k ++ rideW r.d k) ++ [.s r.stops[k]])) from line_one (by have := pre_pos r.d k; rw [List.length_append]; omega) (.s r.stops[k]))
          obtain ⟨M, hM⟩ : ∃ M, midL r.d k = M := ⟨_, rfl⟩
          rw [hM] at hml HM ⊢
          have zm : (ba M).size ≤ 4299169817 := by rw [ba_size]; exact hml
          have zn : (ba M ++ ⟨#[32]⟩).size ≤ 4299169818 := by rw [ByteArray.size_append]; exact Nat.add_le_add zm (Nat.le_refl _)
          have zo : (ba M ++ ⟨#[32]⟩ ++ ba r.stops[k]).size ≤ 4300218394 := by rw [ByteArray.size_append]; exact Nat.add_le_add zn hsk
          clear hb2 c0 c1 c2 c3 hx0 hml hM za zb
          obtain ⟨⟨c0, c1⟩, c2, c3⟩ := CELLS.out _ (HS1.out.below HB2.out HLT.out)
          have HSZ2 := Lib.hid (show w1.heap.size ≤ wc.heap.size from HB2.out.size)
          by_cases hy : j < r.stays.length
          · have hsd := HG1.out.stays.below_ HB2.out
            rw [HSH.out.2] at hsd
            obtain ⟨b2, o2, p2, e1, _, _, hl2, _, hy1⟩ := hsd.at_ hy
            injection e1 with e1 e2 e3
            subst e1
            have hy0 : wc.cell? ⟨b2, o2 + j, none⟩ = some (.int .i64 r.stays[j]) := by simpa using hy1 0 _ rfl
            have hyi : I64 r.stays[j] := HF.out.stays _ (List.getElem_mem _)
            clear hsd hy1 e2 e3
            have r1 : (0 : Int) ≤ (j : Int) := by omega
            have r2 : (j : Int) < (r.stays.length : Int) := by omega
            have r3 : decide (j < r.stays.length) = true := decide_eq_true hy
            have hgd : r.d.stays.getD (k - 1) 0 = r.stays[j] := by
              have h1 : k - 1 = j := by have := HJ.out; omega
              rw [h1, List.getD_eq_getElem?_getD, show r.d.stays[j]? = r.stays[j]? from rfl, List.getElem?_eq_getElem hy]; rfl
            have hk1 : k - 1 < r.d.stays.length := by have := HJ.out; show k - 1 < r.stays.length; omega
            obtain ⟨x, hx⟩ : ∃ x, r.stays[j] = x := ⟨_, rfl⟩
            rw [hx] at hy0 hgd hyi
            by_cases hp : 0 < x
            · have E := Lib.hid (show preW r.d (k + 1) = (((preW r.d k ++ rideW r.d k) ++ [.s r.stops[k]]) ++ [.s kStay]) ++ [.n x] by
                rw [preW_succ]
                unfold stayW
                rw [hgd, if_pos ⟨by have := HJ.out; omega, hk1, hp⟩, List.getD_eq_getElem?_getD, show r.d.stops[k]? = r.stops[k]? from rfl, List.getElem?_eq_getElem hkl]; simp)
              have r4 : decide (0 < x) = true := decide_eq_true hp
              have HC := fun W => Lib.hid (znum_any x hyi.1 hyi.2 W)
              have zd : (ba (dec x)).size ≤ 24 := by rw [ba_size]; exact dec_len24 hyi
              have zp : (ba M ++ ⟨#[32]⟩ ++ ba r.stops[k] ++ ⟨#[32, 115, 116, 97, 121, 32]⟩).size ≤ 4300218400 := by rw [ByteArray.size_append]; exact Nat.add_le_add zo (Nat.le_refl _)
              have zq : (ba M ++ ⟨#[32]⟩ ++ ba r.stops[k] ++ ⟨#[32, 115, 116, 97, 121, 32]⟩ ++ ba (dec x)).size ≤ 4300218424 := by rw [ByteArray.size_append]; exact Nat.add_le_add zp zd
              have HE := Lib.hid (show ba M ++ ⟨#[32]⟩ ++ ba r.stops[k] ++ ⟨#[32, 115, 116, 97, 121, 32]⟩ ++ ba (dec x) = ba (line (preW r.d (k + 1))) by
                rw [HM.out, E.out, ← line_one (by simp; omega) (.n x), ← line_one (by simp; omega) (.s kStay), cZ [32, 115, 116, 97, 121, 32], cZ [32]]
                simp only [ba_appZ]
                congr 1
                simp [kStay, Wd.t])
              clear hgd hk1 hx hyi
              go_wp2_with fail
              refine (HC _).out.mono ?_
              rintro e w3 ⟨rfl, hb3⟩
              have HB3 := Lib.hid (HB2.out.trans (hb3.mono HB2.out.size))
              clear hb3
              go_wp2_with fail
              go_roundg (r.stops.length - (k + 1))
              case measure => omega
              case rel => exact ⟨k + 1, by omega, by omega, by go_num, by rw [← HE.out], HB3.out⟩
            · have HE := Lib.hid (show ba M ++ ⟨#[32]⟩ ++ ba r.stops[k] = ba (line (preW r.d (k + 1))) by
                rw [HM.out, preW_succ]
                unfold stayW
                rw [hgd, if_neg (by rintro ⟨_, _, h⟩; exact hp h), List.append_nil, List.getD_eq_getElem?_getD, show r.d.stops[k]? = r.stops[k]? from rfl, List.getElem?_eq_getElem hkl]; rfl)
              have r4 : decide (0 < x) = false := decide_eq_false hp
              clear hgd hk1 hx hyi
              go_wp2_with fail
              go_roundg (r.stops.length - (k + 1))
              case measure => omega
              case rel => exact ⟨k + 1, by omega, by omega, by go_num, by rw [← HE.out], HB2.out⟩
          · have HE := Lib.hid (show ba M ++ ⟨#[32]⟩ ++ ba r.stops[k] = ba (line (preW r.d (k + 1))) by
              rw [HM.out, preW_succ]
              unfold stayW
              have h1 : k - 1 = j := by have := HJ.out; omega
              rw [h1, if_neg (by rintro ⟨_, h, _⟩; exact hy h), List.append_nil, List.getD_eq_getElem?_getD, show r.d.stops[k]? = r.stops[k]? from rfl, List.getElem?_eq_getElem hkl]; rfl)
            have r2 : decide ((j : Int) < (r.stays.length : Int)) = false := decide_eq_false (by omega)
            have r3 : decide (j < r.stays.length) = false := decide_eq_false hy
            go_wp2_with fail
            go_roundg (r.stops.length - (k + 1))
            case measure => omega
            case rel => exact ⟨k + 1, by omega, by omega, by go_num, by rw [← HE.out], HB2.out⟩
    · have hke : k = r.stops.length := by omega
      subst hke
      have HB2 := Lib.hid (HB1.out.trans (hb.mono HB1.out.size))
      clear hb
      go_wp2_with fail
      go_ret
      exact ⟨rfl, HB2.out⟩
end Go.Proofs.YtmihinhbcncbfaaGreatDoor
