/- The line of a route: plain words, and the walk of show.Route. -/
import Derived.Test.YtmihinhbcncbfaaGreatDoorSw
import Derived.Lib.SliceRun
import Derived.Deep.CutBlock
import Derived.Deep.CutRange
import Derived.Deep.DeepCutAuto
namespace Go.Proofs.YtmihinhbcncbfaaGreatDoor
open Go.RowKit

def rideW (r : RouteD) (i : Nat) : List Wd := if 0 < i ∧ i - 1 < r.rides.length then [.n (r.rides.getD (i - 1) 0)] else []
def stayW (r : RouteD) (i : Nat) : List Wd := if 0 < i ∧ i - 1 < r.stays.length ∧ 0 < r.stays.getD (i - 1) 0 then [.s kStay, .n (r.stays.getD (i - 1) 0)] else []
def stepW (r : RouteD) (i : Nat) : List Wd := rideW r i ++ [.s (r.stops.getD i [])] ++ stayW r i
def preW (r : RouteD) (k : Nat) : List Wd := [.s kRoute, .s r.name] ++ (List.range k).flatMap (stepW r)
def routeW (r : RouteD) : List Wd := preW r r.stops.length
def routeL (r : RouteD) : List UInt8 := line (routeW r)
theorem preW_succ (r : RouteD) (k : Nat) : preW r (k + 1) = ((preW r k ++ rideW r k) ++ [.s (r.stops.getD k [])]) ++ stayW r k := by
  unfold preW stepW
  rw [List.range_succ, List.flatMap_append]
  simp
theorem rideW_len (r : RouteD) (i : Nat) : (rideW r i).length ≤ 1 := by unfold rideW; split <;> simp
theorem stayW_len (r : RouteD) (i : Nat) : (stayW r i).length ≤ 2 := by unfold stayW; split <;> simp
theorem preW_len (r : RouteD) (k : Nat) : (preW r k).length ≤ 2 + 4 * k := by
  induction k with
  | zero => simp [preW]
  | succ k ih =>
    rw [preW_succ]
    simp only [List.length_append, List.length_cons, List.length_nil]
    have := rideW_len r k
    have := stayW_len r k
    omega
structure RouteD.Fit (r : RouteD) : Prop where
  rides : ∀ x ∈ r.rides, I64 x
  stays : ∀ x ∈ r.stays, I64 x
theorem getD_mem {α : Type} {l : List α} {i : Nat} {d : α} (h : i < l.length) : l.getD i d ∈ l := by
  rw [List.getD_eq_getElem?_getD, List.getElem?_eq_getElem h]; exact List.getElem_mem h
theorem preW_ok (r : RouteD) (h : r.Fit) (k : Nat) : ∀ y ∈ preW r k, y.ok := by
  induction k with
  | zero =>
    intro y hy
    simp [preW] at hy
    rcases hy with rfl | rfl <;> trivial
  | succ k ih =>
    intro y hy
    rw [preW_succ] at hy
    simp only [List.mem_append, List.mem_cons, List.not_mem_nil, or_false] at hy
    rcases hy with ((hy | hy) | rfl) | hy
    · exact ih y hy
    · unfold rideW at hy
      split at hy
      · rename_i hc
        simp at hy
        subst hy
        exact h.rides _ (getD_mem hc.2)
      · cases hy
    · trivial
    · unfold stayW at hy
      split at hy
      · rename_i hc
        simp at hy
        rcases hy with rfl | rfl
        · trivial
        · exact h.stays _ (getD_mem hc.2.1)
      · cases hy
theorem info_any : (Tryz.prog.info? 20).map (fun i => (i.zero, i.size, i.bytes)) = some (some .nilIface, 1, 16) := by kernel_rfl

/-- The block holds the route's cells. -/
def RouteAt (b : Nat) (r : RouteM) (w : World) : Prop := w.cell? ⟨b, 0, none⟩ = some (.string (ba r.name)) ∧ w.cell? ⟨b, 1, none⟩ = some r.vs ∧ w.cell? ⟨b, 2, none⟩ = some r.vr ∧ w.cell? ⟨b, 3, none⟩ = some r.vy
theorem RouteAt.of {w : World} {b : Nat} {p : RouteM} {t : TypeId} {fr : Nat × Nat} (h : w.heap[b]? = some (.cells (rc p).toArray t fr)) : RouteAt b p w :=
  ⟨Lib.cell_of_heap h 0, Lib.cell_of_heap h 1, Lib.cell_of_heap h 2, Lib.cell_of_heap h 3⟩
theorem RouteAt.below {w w' : World} {b : Nat} {p : RouteM} (h : RouteAt b p w) (hb : Below w.heap.size w w') (hlt : b < w.heap.size) : RouteAt b p w' := by
  obtain ⟨s0, s1, s2, s3⟩ := h
  exact ⟨(hb.cell (p := ⟨b, 0, none⟩) hlt).trans s0, (hb.cell (p := ⟨b, 1, none⟩) hlt).trans s1, (hb.cell (p := ⟨b, 2, none⟩) hlt).trans s2, (hb.cell (p := ⟨b, 3, none⟩) hlt).trans s3⟩
/-- A row of one's own, and a block made: appended to, it is one's own still. -/
theorem app_keep {α : Type} {c : α → List Value} {size base : Nat} {t : TypeId} {v : Value} {l : List α} {w0 w w' : World} {o : Obj} (h : Below base w0 w) (hbase : base ≤ w.heap.size) (ho : Ow c size w base t v l) (hg : (w.alloc o).grownBy w' v.ownBlock) : Below base w0 w' :=
  (h.alloc hbase o).grown hg (by have := Nat.le_succ w.heap.size; simp; omega) fun k hk => (ho.lt hk).1
theorem Ow.newl {α : Type} {c : α → List Value} {size : Nat} {w : World} {H n base : Nat} {t : TypeId} {cs : Array Value} (l : List α) (hc : ∀ a, (c a).length = size) (hcs : cs.toList = l.flatMap c) (hn : l.length = n) (hm : n ≤ maxLen) (hH : w.heap.size = H) (hb : base ≤ H) :
    Ow c size (w.alloc (.cells cs t)) base t (.slice (some ⟨H, 0, none⟩) n n) l := by
  subst hH hn
  have hl : (l.flatMap c).length = l.length * size := flat_length hc l
  refine ⟨by rw [hl], .inr ⟨w.heap.size, l.length, cs, rfl, hb, heap_alloc_new w _, Nat.le_refl _, hm, by rw [← Array.length_toList, hcs, hl], by rw [hcs, List.take_of_length_le (by rw [hl]; exact Nat.le_refl _)]⟩⟩
set_option maxRecDepth 100000 in
set_option maxHeartbeats 2000000 in
theorem route_any (w : World) (r : RouteM) {P : Nat → Prop} (hg : r.Good w P) (hT : Pow w) (hf : r.d.Fit) (hn : r.stops.length ≤ 1000) (hl : (routeL r.d).length ≤ 140737488355328) :
    Calls Tryz.prog 19 #[.agg (rc r).toArray] w fun e w' => e = .returned (.string (ba (routeL r.d))) ∧ Below w.heap.size w w' := by
  obtain ⟨i0, hi0, hz0, hz1, hz2⟩ := info_parts info_any
  obtain ⟨w1, hw1⟩ : ∃ w1, w.alloc (.cells (rc r).toArray 38) = w1 := ⟨_, rfl⟩
  have hS1 : RouteAt w.heap.size r w1 := by rw [← hw1]; exact RouteAt.of (heap_alloc_new _ _)
  have hb1 : Below w.heap.size w w1 := by rw [← hw1]; exact (Below.refl _ _).alloc (Nat.le_refl _) _
  have hlt : w.heap.size < w1.heap.size := by rw [← hw1]; simp
  have HB1 := Lib.hid hb1
  have HT1 := Lib.hid (hT.below hb1)
  have HG1 := Lib.hid (hg.below_ hb1)
  have HS1 := Lib.hid hS1
  have HF := Lib.hid hf
  have HL := Lib.hid hl
  obtain ⟨As, cs, es, _, _⟩ := hg.stops.shape
  obtain ⟨Ar, cr, er, _, _⟩ := hg.rides.shape
  obtain ⟨Ay, cy, ey, _, _⟩ := hg.stays.shape
  clear hS1 hb1 hT hf hl hg
  have hsh : (r.vs = .slice As r.stops.length cs ∧ r.vr = .slice Ar r.rides.length cr) ∧ r.vy = .slice Ay r.stays.length cy := ⟨⟨es, er⟩, ey⟩
  have HSH := Lib.hid hsh
  clear hsh
  have cells : ∀ wx, RouteAt w.heap.size r wx → (wx.cell? ⟨w.heap.size, 0, none⟩ = some (.string (ba r.name)) ∧ wx.cell? ⟨w.heap.size, 1, none⟩ = some (.slice As r.stops.length cs)) ∧ (wx.cell? ⟨w.heap.size, 2, none⟩ = some (.slice Ar r.rides.length cr) ∧ wx.cell? ⟨w.heap.size, 3, none⟩ = some (.slice Ay r.stays.length cy)) := by
    rintro wx ⟨s0, s1, s2, s3⟩
    rw [es] at s1
    rw [er] at s2
    rw [ey] at s3
    exact ⟨⟨s0, s1⟩, s2, s3⟩
  have CELLS := Lib.hid cells
  have HLT := Lib.hid hlt
  clear cells
  unfold rc at hw1
  unfold rc
  rw [es, er, ey] at hw1
  rw [es, er, ey]
  clear es er ey
  obtain ⟨⟨c0, c1⟩, c2, c3⟩ := CELLS.out _ HS1.out
  go_enter Tryz.func19, Tryz.ntmps19
  go_wp2_with fail
  clear hw1 c0 c1 c2 c3
  go_loopg [14, 3] r.stops.length (fun gg s v wr => ∃ k : Nat, k ≤ r.stops.length ∧ r.stops.length - k ≤ gg ∧ s = .int .i64 k ∧ Ow wdc 1 wr w1.heap.size 20 v (preW r.d k) ∧ Below w1.heap.size w1 wr)
  case atStart => exact ⟨0, Nat.zero_le _, by omega, rfl, Ow.newl (preW r.d 0) wdc_len rfl rfl (by decide) rfl (Nat.le_refl _), (Below.refl _ _).alloc (Nat.le_refl _) _⟩
  case round =>
    obtain ⟨k, hk, hgg, rfl, ho, hb⟩ := hrel
    obtain ⟨⟨c0, c1⟩, c2, c3⟩ := CELLS.out _ (HS1.out.below hb HLT.out)
    have hsz : w1.heap.size ≤ wr.heap.size := hb.size
    have hpl := preW_len r.d k
    by_cases hkl : k < r.stops.length
    · have hst := (HG1.out.stops.below_ hb)
      rw [HSH.out.1.1] at hst
      obtain ⟨b1, o1, p1, e1, _, _, hl1, _, hx⟩ := hst.at_ hkl
      injection e1 with e1 e2 e3
      subst e1
      have hx0 : wr.cell? ⟨b1, o1 + k, none⟩ = some (.string (ba r.stops[k])) := by simpa using hx 0 _ rfl
      have HO := Lib.hid ho
      have HB := Lib.hid hb
      have HSZ := Lib.hid hsz
      have HX := Lib.hid hx
      have HST := Lib.hid hst
      clear ho hb hx e2 e3 hst
      have q1 : (0 : Int) ≤ (k : Int) := by omega
      have q2 : (k : Int) < (r.stops.length : Int) := by omega
      by_cases hk0 : k = 0
      · have q3 : decide ((0 : Int) < (k : Int)) = false := decide_eq_false (by omega)
        have q4 : decide (0 < k) = false := decide_eq_false (by omega)
        have E := Lib.hid (show preW r.d (k + 1) = preW r.d k ++ [.s r.stops[k]] by
          rw [preW_succ]
          unfold rideW stayW
          rw [if_neg (by omega), if_neg (by omega), List.append_nil, List.append_nil, List.getD_eq_getElem?_getD, show r.d.stops[k]? = r.stops[k]? from rfl, List.getElem?_eq_getElem hkl]; rfl)
        have hk00 := Lib.hid hk0
        clear hk0
        go_wp2_with (at_builtin; refine wpList_append_sl _ rfl _ _ _ rfl w1.heap.size 20 i0 _ 16 Tryz.underlying82 hi0 hz0 hz1 hz2 rfl (by omega) wdc_len wdc_one _ _ (preW r.d k) [.s r.stops[k]] rfl rfl (HO.out.alloc _) (Sl.new1 (Wd.s r.stops[k]) rfl) (by simp only [maxLen, List.length_cons, List.length_nil]; omega) (by simp only [List.length_cons, List.length_nil]; omega) (by have := HSZ.out; simp; omega) ?_; intro v1 w2 hown1 hg1 hmv1)
        go_roundg (r.stops.length - (k + 1))
        case measure => omega
        case rel => exact ⟨k + 1, by omega, by omega, by go_num, by rw [E.out]; exact hown1, app_keep HB.out HSZ.out HO.out hg1⟩
      · obtain ⟨j, hj⟩ : ∃ j, k = j + 1 := ⟨k - 1, by omega⟩
        have hjk : (k : Int) - 1 = (j : Int) := by omega
        have q3 : decide ((0 : Int) < (k : Int)) = true := decide_eq_true (by omega)
        have q4 : decide (0 < k) = true := decide_eq_true (by omega)
        have HJ := Lib.hid hj
        have HK := Lib.hid hk0
        clear hk0 hj
        go_upto_if 28 with fail
        go_cut [3] (fun v wx => Ow wdc 1 wx w1.heap.size 20 v (preW r.d k ++ rideW r.d k) ∧ Below w1.heap.size w1 wx)
        case first =>
          by_cases hr : j < r.rides.length
          · have hrd := HG1.out.rides.below_ HB.out
            rw [HSH.out.1.2] at hrd
            obtain ⟨b2, o2, p2, e1, _, _, hl2, _, hy⟩ := hrd.at_ hr
            injection e1 with e1 e2 e3
            subst e1
            have hy0 : wr.cell? ⟨b2, o2 + j, none⟩ = some (.int .i64 r.rides[j]) := by simpa using hy 0 _ rfl
            have E := Lib.hid (show rideW r.d k = [.n r.rides[j]] by
              unfold rideW
              have h1 : k - 1 = j := by have := HJ.out; omega
              rw [h1, if_pos ⟨by have := HJ.out; omega, hr⟩, List.getD_eq_getElem?_getD, show r.d.rides[j]? = r.rides[j]? from rfl, List.getElem?_eq_getElem hr]; rfl)
            clear hrd hy e2 e3
            have r1 : (0 : Int) ≤ (j : Int) := by omega
            have r2 : (j : Int) < (r.rides.length : Int) := by omega
            go_wp2_with (at_builtin; refine wpList_append_sl _ rfl _ _ _ rfl w1.heap.size 20 i0 _ 16 Tryz.underlying82 hi0 hz0 hz1 hz2 rfl (by omega) wdc_len wdc_one _ _ (preW r.d k) [.n r.rides[j]] rfl rfl (HO.out.alloc _) (Sl.new1 (Wd.n r.rides[j]) rfl) (by simp only [maxLen, List.length_cons, List.length_nil]; omega) (by simp only [List.length_cons, List.length_nil]; omega) (by have := HSZ.out; simp; omega) ?_; intro v1 w2 hown1 hg1 hmv1)
            go_meet
            case rel => exact ⟨by rw [E.out]; exact hown1, app_keep HB.out HSZ.out HO.out hg1⟩
          · have E := Lib.hid (show rideW r.d k = [] by
              unfold rideW
              have h1 : k - 1 = j := by have := HJ.out; omega
              rw [h1, if_neg (by rintro ⟨_, h⟩; exact hr h)])
            have r2 : decide ((j : Int) < (r.rides.length : Int)) = false := decide_eq_false (by omega)
            have r3 : decide (j < r.rides.length) = false := decide_eq_false hr
            go_wp2_with fail
            go_meet
            case rel => exact ⟨by rw [E.out, List.append_nil]; exact HO.out, HB.out⟩
        case rest =>
          obtain ⟨ho2, hb2⟩ := hcut
          have hsz2 : w1.heap.size ≤ wc.heap.size := hb2.size
          have HO2 := Lib.hid ho2
          have HB2 := Lib.hid hb2
          have HSZ2 := Lib.hid hsz2
          have hrl := rideW_len r.d k
          clear ho2 hb2 hsz2 c0 c1 c2 c3 hx0
          go_upto_region 8 with (at_builtin; refine wpList_append_sl _ rfl _ _ _ rfl w1.heap.size 20 i0 _ 16 Tryz.underlying82 hi0 hz0 hz1 hz2 rfl (by omega) wdc_len wdc_one _ _ (preW r.d k ++ rideW r.d k) [.s r.stops[k]] rfl rfl (HO2.out.alloc _) (Sl.new1 (Wd.s r.stops[k]) rfl) (by simp only [maxLen, List.length_cons, List.length_nil, List.length_append]; omega) (by simp only [List.length_cons, List.length_nil, List.length_append]; omega) (by have := HSZ2.out; simp; omega) ?_; intro v1 w2 hown1 hg1 hmv1)
          have HO3 := Lib.hid hown1
          have HB3 := Lib.hid (app_keep HB2.out HSZ2.out HO2.out hg1)
          have HSZ3 := Lib.hid (show w1.heap.size ≤ w2.heap.size from HB3.out.size)
          clear hown1 hg1 hmv1
          obtain ⟨⟨c0, c1⟩, c2, c3⟩ := CELLS.out _ (HS1.out.below HB3.out HLT.out)
          by_cases hy : j < r.stays.length
          · have hsd := HG1.out.stays.below_ HB3.out
            rw [HSH.out.2] at hsd
            obtain ⟨b2, o2, p2, e1, _, _, hl2, _, hy1⟩ := hsd.at_ hy
            injection e1 with e1 e2 e3
            subst e1
            have hy0 : w2.cell? ⟨b2, o2 + j, none⟩ = some (.int .i64 r.stays[j]) := by simpa using hy1 0 _ rfl
            clear hsd hy1 e2 e3
            have r1 : (0 : Int) ≤ (j : Int) := by omega
            have r2 : (j : Int) < (r.stays.length : Int) := by omega
            have r3 : decide (j < r.stays.length) = true := decide_eq_true hy
            have hgd : r.d.stays.getD (k - 1) 0 = r.stays[j] := by
              have h1 : k - 1 = j := by have := HJ.out; omega
              rw [h1, List.getD_eq_getElem?_getD, show r.d.stays[j]? = r.stays[j]? from rfl, List.getElem?_eq_getElem hy]; rfl
            have hk1 : k - 1 < r.d.stays.length := by have := HJ.out; show k - 1 < r.stays.length; omega
            obtain ⟨x, hx⟩ : ∃ x, r.stays[j] = x := ⟨_, rfl⟩
            rw [hx] at hy0 hgd
            by_cases hp : 0 < x
            · have E := Lib.hid (show preW r.d (k + 1) = ((preW r.d k ++ rideW r.d k) ++ [.s r.stops[k]]) ++ [.s kStay, .n x] by
                rw [preW_succ]
                unfold stayW
                rw [hgd, if_pos ⟨by have := HJ.out; omega, hk1, hp⟩, List.getD_eq_getElem?_getD, show r.d.stops[k]? = r.stops[k]? from rfl, List.getElem?_eq_getElem hkl]; rfl)
              have r4 : decide (0 < x) = true := decide_eq_true hp
              clear hgd hk1 hx
              have hb1 : ((preW r.d k ++ rideW r.d k) ++ [Wd.s r.stops[k]]).length + 2 ≤ 100000 := by simp only [List.length_cons, List.length_nil, List.length_append]; omega
              have HSN := Lib.hid (show Sl wdc 1 (w2.alloc (.cells #[.iface 9 (.string ⟨#[115, 116, 97, 121]⟩), .iface 2 (.int .i64 x)] 20)) (.slice (some ⟨w2.heap.size, 0, none⟩) 2 2) [.s kStay, .n x] (fun _ => True) from Sl.newl [.s kStay, .n x] wdc_len rfl rfl (by show 2 ≤ maxLen; decide) rfl)
              go_wp2_with (at_builtin; refine wpList_append_sl _ rfl _ _ _ rfl w1.heap.size 20 i0 _ 16 Tryz.underlying82 hi0 hz0 hz1 hz2 rfl (by omega) wdc_len wdc_one _ _ ((preW r.d k ++ rideW r.d k) ++ [.s r.stops[k]]) [.s kStay, .n x] rfl rfl (HO3.out.alloc _) HSN.out (by simp only [maxLen, List.length_cons, List.length_nil]; omega) (by simp only [List.length_cons, List.length_nil]; omega) (by have := HSZ3.out; simp; omega) ?_; intro v4 w4 hown4 hg4 hmv4)
              go_roundg (r.stops.length - (k + 1))
              case measure => omega
              case rel => exact ⟨k + 1, by omega, by omega, by go_num, by rw [E.out]; exact hown4, app_keep HB3.out HSZ3.out HO3.out hg4⟩
            · have E := Lib.hid (show preW r.d (k + 1) = (preW r.d k ++ rideW r.d k) ++ [.s r.stops[k]] by
                rw [preW_succ]
                unfold stayW
                rw [hgd, if_neg (by rintro ⟨_, _, h⟩; exact hp h), List.append_nil, List.getD_eq_getElem?_getD, show r.d.stops[k]? = r.stops[k]? from rfl, List.getElem?_eq_getElem hkl]; rfl)
              have r4 : decide (0 < x) = false := decide_eq_false hp
              clear hgd hk1 hx
              go_wp2_with fail
              go_roundg (r.stops.length - (k + 1))
              case measure => omega
              case rel => exact ⟨k + 1, by omega, by omega, by go_num, by rw [E.out]; exact HO3.out, HB3.out⟩
          · have E := Lib.hid (show preW r.d (k + 1) = (preW r.d k ++ rideW r.d k) ++ [.s r.stops[k]] by
              rw [preW_succ]
              unfold stayW
              have h1 : k - 1 = j := by have := HJ.out; omega
              rw [h1, if_neg (by rintro ⟨_, h, _⟩; exact hy h), List.append_nil, List.getD_eq_getElem?_getD, show r.d.stops[k]? = r.stops[k]? from rfl, List.getElem?_eq_getElem hkl]; rfl)
            have r2 : decide ((j : Int) < (r.stays.length : Int)) = false := decide_eq_false (by omega)
            have r3 : decide (j < r.stays.length) = false := decide_eq_false hy
            go_wp2_with fail
            go_roundg (r.stops.length - (k + 1))
            case measure => omega
            case rel => exact ⟨k + 1, by omega, by omega, by go_num, by rw [E.out]; exact HO3.out, HB3.out⟩
    · have hke : k = r.stops.length := by omega
      subst hke
      have hb2 := HB1.out.trans (hb.mono HB1.out.size)
      have HC := Lib.hid (line_any wr _ (routeW r.d) (ho.sl wdc_len) HL.out (preW_ok _ HF.out _) (HT1.out.below hb) (by have := preW_len r.d r.stops.length; show (preW r.d r.stops.length).length ≤ 1048576; omega))
      have HB2 := Lib.hid hb2
      clear ho hb hb2
      go_wp2_with fail
      refine HC.out.mono ?_
      rintro e w3 ⟨rfl, hb3⟩
      have HB3 := Lib.hid (Below.lift HB2.out hb3)
      clear hb3
      go_wp2_with fail
      go_ret
      exact ⟨rfl, HB3.out⟩
end Go.Proofs.YtmihinhbcncbfaaGreatDoor
