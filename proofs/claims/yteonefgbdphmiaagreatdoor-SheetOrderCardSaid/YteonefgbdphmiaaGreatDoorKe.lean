/- The walk of timetablekit.along. -/
import Derived.Test.YteonefgbdphmiaaGreatDoorKd
import Derived.Test.YteonefgbdphmiaaGreatDoorSk
namespace Go.Proofs.YteonefgbdphmiaaGreatDoor
open Go.RowKit
theorem rcells {r : RouteM} {w : World} {P : Nat → Prop} (hg : r.Good w P) : ∃ As cs Ar cr Ay cy, (r.vs = .slice As r.stops.length cs ∧ r.vr = .slice Ar r.rides.length cr) ∧ r.vy = .slice Ay r.stays.length cy := by
  obtain ⟨As, cs, es, _, _⟩ := hg.stops.shape
  obtain ⟨Ar, cr, er, _, _⟩ := hg.rides.shape
  obtain ⟨Ay, cy, ey, _, _⟩ := hg.stays.shape
  exact ⟨As, cs, Ar, cr, Ay, cy, ⟨es, er⟩, ey⟩
/-- What bounds a route's line. -/
structure RouteD.Low (r : RouteD) : Prop where
  name : Lo r.name
  stops : ∀ s ∈ r.stops, Lo s
  few : r.stops.length ≤ 1000
theorem preW_lo (r : RouteD) (h : r.Low) (hf : r.Fit) (k : Nat) (hk : k ≤ r.stops.length) : ∀ y ∈ preW r k, y.t.length ≤ 1048576 := by
  induction k with
  | zero =>
    intro y hy
    simp [preW] at hy
    rcases hy with rfl | rfl
    · show kRoute.length ≤ _; decide
    · exact h.name
  | succ k ih =>
    intro y hy
    rw [preW_succ] at hy
    simp only [List.mem_append, List.mem_cons, List.not_mem_nil, or_false] at hy
    rcases hy with ((hy | hy) | rfl) | hy
    · exact ih (by omega) y hy
    · unfold rideW at hy
      split at hy
      · rename_i hc
        simp at hy
        subst hy
        exact Nat.le_trans (dec_le (hf.rides _ (getD_mem hc.2))) (by decide)
      · cases hy
    · exact h.stops _ (getD_mem (by omega))
    · unfold stayW at hy
      split at hy
      · rename_i hc
        simp at hy
        rcases hy with rfl | rfl
        · show kStay.length ≤ _; decide
        · exact Nat.le_trans (dec_le (hf.stays _ (getD_mem hc.2.1))) (by decide)
      · cases hy
theorem preL_len (r : RouteD) (h : r.Low) (hf : r.Fit) (k : Nat) (hk : k ≤ r.stops.length) : (line (preW r k)).length ≤ 4299169792 := by
  have h1 := line_le (preW r k) 1048576 (preW_lo r h hf k hk)
  have h2 := preW_len r k
  have h3 := h.few
  have h4 : (1048576 + 1) * (preW r k).length ≤ (1048576 + 1) * 4002 := Nat.mul_le_mul_left _ (by omega)
  omega
/-- What stands when the ride has been told. -/
def midL (r : RouteD) (k : Nat) : List UInt8 := line (preW r k ++ rideW r k)
theorem line_one {l : List Wd} (h : 0 < l.length) (y : Wd) : ba (line l) ++ ⟨#[32]⟩ ++ ba y.t = ba (line (l ++ [y])) := by
  rw [cZ [32], ba_appZ, ba_appZ, line_snoc h]
theorem prew_pos (r : RouteD) (k : Nat) : 0 < (preW r k).length := by unfold preW; simp
/-- A route that may be. -/
structure RouteD.Kit (r : RouteD) : Prop where
  rides : ∀ x ∈ r.rides, NN x
  stays : ∀ x ∈ r.stays, NN x
  two : 2 ≤ r.stops.length
  few : r.stops.length ≤ 32
  ri : r.rides.length + 1 = r.stops.length
  sy : r.stays.length + 2 = r.stops.length
theorem RouteD.Kit.fit {r : RouteD} (h : r.Kit) : r.Fit := ⟨fun x hx => (h.rides x hx).i64, fun x hx => (h.stays x hx).i64⟩
theorem pre_one (r : RouteD) (h : 0 < r.stops.length) : preW r 1 = [.s kRoute, .s r.name] ++ [.s (r.stops[0]'h)] := by
  rw [preW_succ]
  unfold rideW stayW
  rw [if_neg (by omega), if_neg (by omega), List.append_nil, List.append_nil, List.getD_eq_getElem?_getD, List.getElem?_eq_getElem h]
  rfl
set_option maxRecDepth 100000 in
set_option maxHeartbeats 4000000 in
theorem kalong_any (w : World) (r : RouteM) {P : Nat → Prop} (hg : r.Good w P) (hf : r.d.Kit) (hlo : r.d.Low) :
    Calls Tryz.prog 32 #[.agg (rc r).toArray] w fun e w' => e = .returned (.string (ba (routeL r.d))) ∧ Below w.heap.size w w' := by
  obtain ⟨w1, hw1⟩ : ∃ w1, w.alloc (.cells (rc r).toArray 57) = w1 := ⟨_, rfl⟩
  have hS1 : RouteAt w.heap.size r w1 := by rw [← hw1]; exact RouteAt.of (heap_alloc_new _ _)
  have hb1 : Below w.heap.size w w1 := by rw [← hw1]; exact (Below.refl _ _).alloc (Nat.le_refl _) _
  have hlt : w.heap.size < w1.heap.size := by rw [← hw1]; simp
  have HB1 := Lib.hid hb1
  have HG1 := Lib.hid (hg.below_ hb1)
  have HS1 := Lib.hid hS1
  have HF := Lib.hid hf
  have HLO := Lib.hid hlo
  have hfew : r.stops.length ≤ 32 := hf.few
  have htwo : 2 ≤ r.stops.length := hf.two
  have hri : r.rides.length + 1 = r.stops.length := hf.ri
  have hsy : r.stays.length + 2 = r.stops.length := hf.sy
  have HPL := Lib.hid (fun k hk => preL_len r.d hlo hf.fit k hk)
  obtain ⟨As, cs, Ar, cr, Ay, cy, ⟨es, er⟩, ey⟩ := rcells hg
  have HSH := Lib.hid (show (r.vs = .slice As r.stops.length cs ∧ r.vr = .slice Ar r.rides.length cr) ∧ r.vy = .slice Ay r.stays.length cy from ⟨⟨es, er⟩, ey⟩)
  have cells : ∀ wx, RouteAt w.heap.size r wx → (wx.cell? ⟨w.heap.size, 0, none⟩ = some (.string (ba r.name)) ∧ wx.cell? ⟨w.heap.size, 1, none⟩ = some (.slice As r.stops.length cs)) ∧ (wx.cell? ⟨w.heap.size, 2, none⟩ = some (.slice Ar r.rides.length cr) ∧ wx.cell? ⟨w.heap.size, 3, none⟩ = some (.slice Ay r.stays.length cy)) := by
    rintro wx ⟨s0, s1, s2, s3⟩
    rw [es] at s1
    rw [er] at s2
    rw [ey] at s3
    exact ⟨⟨s0, s1⟩, s2, s3⟩
  have CELLS := Lib.hid cells
  have HLT := Lib.hid hlt
  unfold rc at hw1
  unfold rc
  rw [es, er, ey] at hw1
  rw [es, er, ey]
  have hst := HG1.out.stops
  rw [HSH.out.1.1] at hst
  obtain ⟨b0, o0, p0, e1, _, _, hl0, _, hx⟩ := hst.at_ (show 0 < r.stops.length by omega)
  injection e1 with e1 e2 e3
  clear e2 e3
  subst e1
  have hx0 : w1.cell? ⟨b0, o0, none⟩ = some (.string (ba (r.stops[0]'(by omega)))) := by simpa using hx 0 _ rfl
  have HST := Lib.hid (show (⟨#[114, 111, 117, 116, 101, 32]⟩ : ByteArray) ++ ba r.name ++ ⟨#[32]⟩ ++ ba (r.stops[0]'(by omega)) = ba (line (preW r.d 1)) by
    rw [pre_one r.d (show 0 < r.stops.length by omega), cZ [114, 111, 117, 116, 101, 32], cZ [32]]
    simp only [ba_appZ]
    congr 1
    simp [line, kRoute, Wd.t]
    constructor <;> rfl)
  obtain ⟨S0, hS0⟩ : ∃ S0, (r.stops[0]'(by omega)) = S0 := ⟨_, rfl⟩
  have zs : (ba S0).size ≤ 1048576 := by rw [ba_size, ← hS0]; exact HLO.out.stops _ (List.getElem_mem _)
  rw [hS0] at hx0 HST
  have z0 : (ba r.name).size ≤ 1048576 := by rw [ba_size]; exact HLO.out.name
  have z1 : ((⟨#[114, 111, 117, 116, 101, 32]⟩ : ByteArray) ++ ba r.name).size ≤ 1048582 := by rw [ByteArray.size_append]; exact Nat.add_le_add (by decide) z0
  have z2 : ((⟨#[114, 111, 117, 116, 101, 32]⟩ : ByteArray) ++ ba r.name ++ ⟨#[32]⟩).size ≤ 1048583 := by rw [ByteArray.size_append]; exact Nat.add_le_add z1 (Nat.le_refl _)
  have z3 : ((⟨#[114, 111, 117, 116, 101, 32]⟩ : ByteArray) ++ ba r.name ++ ⟨#[32]⟩ ++ ba S0).size ≤ 2097159 := by rw [ByteArray.size_append]; exact Nat.add_le_add z2 zs
  have q0 : (0 : Int) < (r.stops.length : Int) := by omega
  have q0n : 0 < r.stops.length := by omega
  have HC := Lib.hid (fun (wy : World) (hy : Below w1.heap.size w1 wy) => (show wy.cell? ⟨w.heap.size, 0, none⟩ = some (.string (ba r.name)) ∧ wy.cell? ⟨w.heap.size, 1, none⟩ = some (.slice (some ⟨b0, o0, none⟩) r.stops.length cs) ∧ wy.cell? ⟨b0, o0, none⟩ = some (.string (ba S0)) ∧ True ∧ True ∧ True from
    ⟨(cells wy (hS1.below hy hlt)).1.1, (cells wy (hS1.below hy hlt)).1.2, (hy.cell (p := ⟨b0, o0, none⟩) (by simpa using hl0)).trans hx0, trivial, trivial, trivial⟩))
  clear hS1 hb1 hf hg hlo cells es er ey hst hx hx0 hS0 hlt hl0
  go_enter Tryz.func32, Tryz.ntmps32
  go_upto_region 1 with fail
  try rw [hw1]
  clear hw1
  have hSw : Below w1.heap.size w1 w1 := Below.refl _ _
  refine wp_region_kinds (fun wy => Below w1.heap.size w1 wy) [] [] [1, 5, 7] [0, 2, 3, 4, 6, 8, 9] [0, 1, 2, 3, 4, 5, 6, 7, 8, 9] (by kernel_rfl) (by kernel_rfl) (fun w n h => below_drewN h n) ?_
  repeat (first | (refine wpKind_free (v := ?_) (by rfl) rfl (by rfl) ?_ ?_; rotate_left 1; (focus (intro wy; go_simp; rw [if_neg (by omega)]; done)); try simp only [Act.put, List.setIfInBounds_toArray, List.set_cons_zero, List.set_cons_succ]) | (refine wpKind_free (v := ?_) (by rfl) rfl (by rfl) ?_ ?_; rotate_left 1; (focus (intro wy; go_simp; try with_reducible rfl; done)); try simp only [Act.put, List.setIfInBounds_toArray, List.set_cons_zero, List.set_cons_succ]) | (refine wpKind_held (v := ?_) (by rfl) rfl (by rfl) hSw ?_ ?_; rotate_left 1; (focus (intro wy hSy; obtain ⟨s0, s1, s2, s3, s4, s5⟩ := HC.out wy hSy; go_simp; try with_reducible rfl; done)); try simp only [Act.put, List.setIfInBounds_toArray, List.set_cons_zero, List.set_cons_succ]))
  refine wpKind_nil fun n9 => ?_
  have HD9 := Lib.hid (below_drewN hSw n9)
  generalize w1.drewN n9 = w2 at *
  clear hSw z0 z1 z2 z3 zs HC
  go_wp2_with fail
  go_loopg [3, 4] r.stops.length (fun gg v s wr => ∃ k : Nat, 1 ≤ k ∧ k ≤ r.stops.length ∧ r.stops.length - k ≤ gg ∧ s = .int .i64 k ∧ v = .string (ba (line (preW r.d k))) ∧ Below w1.heap.size w1 wr)
  case atStart => exact ⟨1, Nat.le_refl _, by omega, by omega, rfl, by rw [← HST.out], HD9.out⟩
  case round =>
    clear HD9 HST
    obtain ⟨k, hk1, hk, hgg, rfl, rfl, hb⟩ := hrel
    obtain ⟨⟨c0, c1⟩, c2, c3⟩ := CELLS.out _ (HS1.out.below hb HLT.out)
    have hpl := HPL.out k hk
    by_cases hkl : k < r.stops.length
    · obtain ⟨j, hj⟩ : ∃ j, k = j + 1 := ⟨k - 1, by omega⟩
      have hjk : (k : Int) - 1 = (j : Int) := by omega
      have hwj : IntKind.i64.wrap (j : Int) = (j : Int) := by simp [IntKind.wrap, IntKind.bits, IntKind.signed]; omega
      have HJ := Lib.hid hj
      have hst := (HG1.out.stops.below_ hb)
      rw [HSH.out.1.1] at hst
      obtain ⟨b1, o1, p1, e1, _, _, hl1, _, hx⟩ := hst.at_ hkl
      injection e1 with e1 e2 e3
      injection e1 with e1
      injection e1 with f1 f2 f3
      subst f1 f2
      clear e2 e3 f3
      have hx0 : wr.cell? ⟨b0, o0 + k, none⟩ = some (.string (ba r.stops[k])) := by simpa using hx 0 _ rfl
      have hrd := HG1.out.rides.below_ hb
      rw [HSH.out.1.2] at hrd
      have hjr : j < r.rides.length := by omega
      obtain ⟨b2, o2, p2, e1, _, _, hl2, _, hy⟩ := hrd.at_ hjr
      injection e1 with e1 e2 e3
      clear e2 e3
      subst e1
      have hy0 : wr.cell? ⟨b2, o2 + j, none⟩ = some (.int .i64 r.rides[j]) := by simpa using hy 0 _ rfl
      have hyi : NN r.rides[j] := HF.out.rides _ (List.getElem_mem _)
      have E := Lib.hid (show rideW r.d k = [.n r.rides[j]] by
        unfold rideW
        have h1 : k - 1 = j := by omega
        rw [h1, if_pos ⟨by omega, hjr⟩, List.getD_eq_getElem?_getD, show r.d.rides[j]? = r.rides[j]? from rfl, List.getElem?_eq_getElem hjr]; rfl)
      have hgs : r.d.stops.getD k [] = r.stops[k] := by rw [List.getD_eq_getElem?_getD, show r.d.stops[k]? = r.stops[k]? from rfl, List.getElem?_eq_getElem hkl]; rfl
      have hsk : (ba r.stops[k]).size ≤ 1048576 := by rw [ba_size]; exact HLO.out.stops _ (List.getElem_mem _)
      obtain ⟨S, hS⟩ : ∃ S, r.stops[k] = S := ⟨_, rfl⟩
      rw [hS] at hx0 hsk hgs
      obtain ⟨x, hxe⟩ : ∃ x, r.rides[j] = x := ⟨_, rfl⟩
      rw [hxe] at hy0 hyi E
      obtain ⟨A, hA⟩ : ∃ A, line (preW r.d k) = A := ⟨_, rfl⟩
      rw [hA] at hpl ⊢
      have HM := Lib.hid (show ba A ++ ⟨#[32]⟩ ++ ba (dec x) ++ ⟨#[32]⟩ ++ ba S = ba (line ((preW r.d k ++ rideW r.d k) ++ [.s S])) by
        rw [E.out, ← hA, show ba (dec x) = ba (Wd.n x).t from rfl, line_one (prew_pos _ _) (.n x), show ba S = ba (Wd.s S).t from rfl, line_one (by simp) (.s S)])
      have za : (ba A).size ≤ 4299169792 := by rw [ba_size]; exact hpl
      have zb : (ba A ++ ⟨#[32]⟩).size ≤ 4299169793 := by rw [ByteArray.size_append]; exact Nat.add_le_add za (Nat.le_refl _)
      have zd : (ba (dec x)).size ≤ 24 := by rw [ba_size]; exact dec_len24 hyi.i64
      have ze : (ba A ++ ⟨#[32]⟩ ++ ba (dec x)).size ≤ 4299169817 := by rw [ByteArray.size_append]; exact Nat.add_le_add zb zd
      have zf : (ba A ++ ⟨#[32]⟩ ++ ba (dec x) ++ ⟨#[32]⟩).size ≤ 4299169818 := by rw [ByteArray.size_append]; exact Nat.add_le_add ze (Nat.le_refl _)
      have zg : (ba A ++ ⟨#[32]⟩ ++ ba (dec x) ++ ⟨#[32]⟩ ++ ba S).size ≤ 4300218394 := by rw [ByteArray.size_append]; exact Nat.add_le_add zf hsk
      have HC := Lib.hid (fun (wy : World) (hy : Below wr.heap.size wr wy) => (show wy.cell? ⟨w.heap.size, 1, none⟩ = some (.slice (some ⟨b0, o0, none⟩) r.stops.length cs) ∧ wy.cell? ⟨w.heap.size, 2, none⟩ = some (.slice (some ⟨b2, o2, none⟩) r.rides.length cr) ∧ wy.cell? ⟨w.heap.size, 3, none⟩ = some (.slice Ay r.stays.length cy) ∧ wy.cell? ⟨b0, o0 + k, none⟩ = some (.string (ba S)) ∧ wy.cell? ⟨b2, o2 + j, none⟩ = some (.int .i64 x) ∧ True from
        ⟨(hy.cell (p := ⟨w.heap.size, 1, none⟩) (Nat.lt_of_lt_of_le HLT.out hb.size)).trans c1, (hy.cell (p := ⟨w.heap.size, 2, none⟩) (Nat.lt_of_lt_of_le HLT.out hb.size)).trans c2, (hy.cell (p := ⟨w.heap.size, 3, none⟩) (Nat.lt_of_lt_of_le HLT.out hb.size)).trans c3, (hy.cell (p := ⟨b0, o0 + k, none⟩) (World.block_lt_of_cell? wr _ hx0)).trans hx0, (hy.cell (p := ⟨b2, o2 + j, none⟩) (World.block_lt_of_cell? wr _ hy0)).trans hy0, trivial⟩))
      have HGS := Lib.hid hgs
      have HB := Lib.hid hb
      have HRI := Lib.hid hri
      have HSY := Lib.hid hsy
      have HYI := Lib.hid hyi
      obtain ⟨n1, hn1⟩ : ∃ n1, r.stops.length = n1 + 1 := ⟨r.stops.length - 1, by omega⟩
      have HN1 := Lib.hid hn1
      have hsub : (r.stops.length : Int) - 1 = (n1 : Int) := by omega
      have q1 : (0 : Int) ≤ (k : Int) := by omega
      have q2 : (k : Int) < (r.stops.length : Int) := by omega
      have q3 : (0 : Int) ≤ (j : Int) := by omega
      have q4 : (j : Int) < (r.rides.length : Int) := by omega
      clear hb hx hst hrd hy hl1 hl2 hxe hS hA hgs hpl hyi hjr hri hsy hj hn1
      go_upto_region 5 with fail
      have hSw : Below wr.heap.size wr wr := Below.refl _ _
      clear c0 c1 c2 c3 hx0 hy0
      refine wp_region_kinds (fun wy => Below wr.heap.size wr wy) [8] [] [3, 7, 12, 15] [0, 1, 2, 4, 5, 6, 9, 10, 11, 13, 14, 16, 17] [0, 1, 2, 3, 4, 5, 6, 7, 11, 12, 13, 14, 15, 8, 9, 10, 16, 17] (by kernel_rfl) (by kernel_rfl) (fun w n h => below_drewN h n) ?_
      repeat (first | (refine wpKind_free (v := ?_) (by rfl) rfl (by rfl) ?_ ?_; rotate_left 1; (focus (intro wy; go_simp; rw [if_neg (by omega)]; done)); try simp only [Act.put, List.setIfInBounds_toArray, List.set_cons_zero, List.set_cons_succ]) | (refine wpKind_free (v := ?_) (by rfl) rfl (by rfl) ?_ ?_; rotate_left 1; (focus (intro wy; go_simp; try with_reducible rfl; done)); try simp only [Act.put, List.setIfInBounds_toArray, List.set_cons_zero, List.set_cons_succ]) | (refine wpKind_held (v := ?_) (by rfl) rfl (by rfl) hSw ?_ ?_; rotate_left 1; (focus (intro wy hSy; obtain ⟨s0, s1, s2, s3, s4, s5⟩ := HC.out wy hSy; go_simp; try with_reducible rfl; done)); try simp only [Act.put, List.setIfInBounds_toArray, List.set_cons_zero, List.set_cons_succ]))
      refine wpKind_keeps (by rfl) rfl (fun n1_ => ?_)
      go_wp2_with fail
      refine (kdig_any x HYI.out (wr.drewN n1_)).mono ?_
      rintro e w3 ⟨rfl, hb⟩
      have hSw2 : Below wr.heap.size wr w3 := (below_drewN hSw n1_).trans (hb.mono (by exact hSw.size))
      clear hb hSw
      go_wp2_with fail
      show _ ∧ _
      refine ⟨hSw2, ?_⟩
      have hSw := hSw2
      clear hSw2
      repeat (first | (refine wpKind_free (v := ?_) (by rfl) rfl (by rfl) ?_ ?_; rotate_left 1; (focus (intro wy; go_simp; rw [if_neg (by omega)]; done)); try simp only [Act.put, List.setIfInBounds_toArray, List.set_cons_zero, List.set_cons_succ]) | (refine wpKind_free (v := ?_) (by rfl) rfl (by rfl) ?_ ?_; rotate_left 1; (focus (intro wy; go_simp; try with_reducible rfl; done)); try simp only [Act.put, List.setIfInBounds_toArray, List.set_cons_zero, List.set_cons_succ]) | (refine wpKind_held (v := ?_) (by rfl) rfl (by rfl) hSw ?_ ?_; rotate_left 1; (focus (intro wy hSy; obtain ⟨s0, s1, s2, s3, s4, s5⟩ := HC.out wy hSy; go_simp; try with_reducible rfl; done)); try simp only [Act.put, List.setIfInBounds_toArray, List.set_cons_zero, List.set_cons_succ]))
      refine wpKind_nil fun n9 => ?_
      have HD9 := Lib.hid (below_drewN hSw n9)
      generalize w3.drewN n9 = w4 at *
      have HB4 := Lib.hid (HB.out.trans (HD9.out.mono HB.out.size))
      clear hSw za zb ze zf
      rw [HM.out] at zg ⊢
      obtain ⟨c1, c2, c3, _, _, _⟩ := HC.out w4 HD9.out
      clear HC
      by_cases hlast : k < n1
      · have q5 : decide ((k : Int) < (n1 : Int)) = true := decide_eq_true (by omega)
        have q6 : decide (k < n1) = true := decide_eq_true hlast
        have hjs : j < r.stays.length := by have := HJ.out; have := HN1.out; have := HSY.out; omega
        have hsd := HG1.out.stays.below_ HB4.out
        rw [HSH.out.2] at hsd
        obtain ⟨b3, o3, p3, e1, _, _, hl3, _, hy⟩ := hsd.at_ hjs
        injection e1 with e1 e2 e3
        clear e2 e3
        subst e1
        have hy0 : w4.cell? ⟨b3, o3 + j, none⟩ = some (.int .i64 r.stays[j]) := by simpa using hy 0 _ rfl
        have hyi : NN r.stays[j] := HF.out.stays _ (List.getElem_mem _)
        have hgd : r.d.stays.getD (k - 1) 0 = r.stays[j] := by
          have h1 : k - 1 = j := by have := HJ.out; omega
          rw [h1, List.getD_eq_getElem?_getD, show r.d.stays[j]? = r.stays[j]? from rfl, List.getElem?_eq_getElem hjs]; rfl
        have hk1' : k - 1 < r.d.stays.length := by have := HJ.out; show k - 1 < r.stays.length; omega
        have q7 : (j : Int) < (r.stays.length : Int) := by omega
        clear hsd hy hl3
        obtain ⟨y, hye⟩ : ∃ y, r.stays[j] = y := ⟨_, rfl⟩
        rw [hye] at hy0 hgd hyi
        by_cases hp : 0 < y
        · have r4 : decide (0 < y) = true := decide_eq_true hp
          have zy : (ba (dec y)).size ≤ 24 := by rw [ba_size]; exact dec_len24 hyi.i64
          have HE := Lib.hid (show ba (line ((preW r.d k ++ rideW r.d k) ++ [.s S])) ++ ⟨#[32, 115, 116, 97, 121, 32]⟩ ++ ba (dec y) = ba (line (preW r.d (k + 1))) by
            have E : preW r.d (k + 1) = (((preW r.d k ++ rideW r.d k) ++ [.s S]) ++ [.s kStay]) ++ [.n y] := by
              rw [preW_succ]
              unfold stayW
              rw [hgd, if_pos ⟨by have := HJ.out; omega, hk1', hp⟩, HGS.out]; simp
            rw [E, ← line_one (by simp; omega) (.n y), ← line_one (by simp; omega) (.s kStay), cZ [32, 115, 116, 97, 121, 32], cZ [32]]
            simp only [ba_appZ]
            congr 1
            simp [kStay, Wd.t])
          generalize (line ((preW r.d k ++ rideW r.d k) ++ [.s S])) = M at *
          have zp : (ba M ++ ⟨#[32, 115, 116, 97, 121, 32]⟩).size ≤ 4300218400 := by rw [ByteArray.size_append]; exact Nat.add_le_add zg (Nat.le_refl _)
          have zq : (ba M ++ ⟨#[32, 115, 116, 97, 121, 32]⟩ ++ ba (dec y)).size ≤ 4300218424 := by rw [ByteArray.size_append]; exact Nat.add_le_add zp zy
          have HYI2 := Lib.hid hyi
          clear hgd hk1' hye hyi HM
          go_wp2_with fail
          refine (kdig_any y HYI2.out _).mono ?_
          rintro e w5 ⟨rfl, hb3⟩
          have HB5 := Lib.hid (HB4.out.trans (hb3.mono HB4.out.size))
          clear hb3
          go_wp2_with fail
          go_roundg (r.stops.length - (k + 1))
          case measure => omega
          case rel => exact ⟨k + 1, by omega, by omega, by omega, by go_num, by rw [← HE.out], HB5.out⟩
        · have r4 : decide (0 < y) = false := decide_eq_false hp
          have HE := Lib.hid (show line ((preW r.d k ++ rideW r.d k) ++ [.s S]) = line (preW r.d (k + 1)) by
            rw [preW_succ]
            unfold stayW
            rw [hgd, if_neg (by rintro ⟨_, _, h⟩; exact hp h), List.append_nil, HGS.out])
          rw [HE.out] at zg ⊢
          clear hgd hk1' hye hyi HM HE
          go_wp2_with fail
          go_roundg (r.stops.length - (k + 1))
          case measure => omega
          case rel => exact ⟨k + 1, by omega, by omega, by omega, by go_num, rfl, HB4.out⟩
      · have q5 : decide ((k : Int) < (n1 : Int)) = false := decide_eq_false (by omega)
        have q6 : decide (k < n1) = false := decide_eq_false hlast
        have HE := Lib.hid (show line ((preW r.d k ++ rideW r.d k) ++ [.s S]) = line (preW r.d (k + 1)) by
          rw [preW_succ]
          unfold stayW
          rw [if_neg (by rintro ⟨_, h, _⟩; have := HJ.out; have := HN1.out; have := HSY.out; have h : k - 1 < r.stays.length := h; omega), List.append_nil, HGS.out])
        rw [HE.out] at zg ⊢
        clear HM HE
        go_wp2_with fail
        go_roundg (r.stops.length - (k + 1))
        case measure => omega
        case rel => exact ⟨k + 1, by omega, by omega, by omega, by go_num, rfl, HB4.out⟩
    · have hke : k = r.stops.length := by omega
      subst hke
      have HB2 := Lib.hid (HB1.out.trans (hb.mono HB1.out.size))
      clear hb
      go_wp2_with fail
      go_ret
      exact ⟨rfl, HB2.out⟩
end Go.Proofs.YteonefgbdphmiaaGreatDoor
