/- The chapter's examples: walks of door, route and lives. -/
import Derived.Test.YtmihinhbcncbfaaGreatDoorSg
import Derived.Test.YtmihinhbcncbfaaGreatDoorSr
import Derived.Test.YtmihinhbcncbfaaGreatDoorSc
namespace Go.Proofs.YtmihinhbcncbfaaGreatDoor
open Go.RowKit

theorem dec1 (n : Nat) (h : n < 10) : dec (n : Int) = [UInt8.ofNat (48 + n)] := by
  show Lib.itoa (n : Int) = _
  rw [Lib.itoa_nonneg, Lib.decDigits_one h]
theorem dec2 (n : Nat) (h1 : ¬ n < 10) (h2 : n < 100) : dec (n : Int) = [UInt8.ofNat (48 + n / 10), UInt8.ofNat (48 + n % 10)] := by
  show Lib.itoa (n : Int) = _
  rw [Lib.itoa_nonneg, Lib.decDigits_two h1 h2]
theorem decm (n : Nat) (h0 : 1 ≤ n) (h : n < 10) : dec (-(n : Int)) = [45, UInt8.ofNat (48 + n)] := by
  show Lib.itoa (-(n : Int)) = _
  rw [Lib.itoa_neg n h0, Lib.decDigits_one h]
theorem d0 : dec 0 = [48] := dec1 0 (by decide)
theorem d2 : dec 2 = [50] := dec1 2 (by decide)
theorem d3 : dec 3 = [51] := dec1 3 (by decide)
theorem d5 : dec 5 = [53] := dec1 5 (by decide)
theorem d9 : dec 9 = [57] := dec1 9 (by decide)
theorem d10 : dec 10 = [49, 48] := dec2 10 (by decide) (by decide)
theorem d40 : dec 40 = [52, 48] := dec2 40 (by decide) (by decide)
theorem dm7 : dec (-7) = [45, 55] := decm 7 (by decide) (by decide)
def doorX : DoorD := ⟨[100], [97], [98], 3, ⟨5, 10, 2⟩⟩
def routeX : RouteD := ⟨[114], [[97], [98], [99]], [5, 3], [2]⟩
def doorT : List UInt8 := [100, 111, 111, 114, 32, 100, 32, 97, 32, 98, 32, 51, 32, 102, 114, 111, 109, 32, 53, 32, 101, 118, 101, 114, 121, 32, 49, 48, 32, 111, 112, 101, 110, 32, 50]
def routeT : List UInt8 := [114, 111, 117, 116, 101, 32, 114, 32, 97, 32, 53, 32, 98, 32, 115, 116, 97, 121, 32, 50, 32, 51, 32, 99]
theorem doorT_eq : doorL doorX = doorT := by
  simp only [doorL, doorW, timesL, timesW, line, doorX, Wd.t, d3, d5, d10, d2, List.flatMap_cons, List.flatMap_nil]
  decide
theorem routeT_eq : routeL routeX = routeT := by
  have e : routeW routeX = [.s kRoute, .s [114], .s [97], .n 5, .s [98], .s kStay, .n 2, .n 3, .s [99]] := by rfl
  unfold routeL
  rw [e]
  simp only [line, Wd.t, d5, d2, d3, List.flatMap_cons, List.flatMap_nil]
  decide
/-- A new block that holds a list, and which block it is. -/
theorem Sl.newb {α : Type} {c : α → List Value} {size : Nat} {w : World} {H n : Nat} {t : TypeId} {cs : Array Value} (l : List α) (hc : ∀ a, (c a).length = size) (hcs : cs.toList = l.flatMap c) (hn : l.length = n) (hm : n ≤ maxLen) (hH : w.heap.size = H) :
    Sl c size (w.alloc (.cells cs t)) (.slice (some ⟨H, 0, none⟩) n n) l (fun b => b = H) := by
  subst hH hn
  refine ⟨_, l.length, rfl, Nat.le_refl _, hm, fun _ => ⟨w.heap.size, 0, rfl, by simp, rfl, fun i x hx j u hu => ?_⟩⟩
  rw [cell_of_row _ w.heap.size _ cs t (0, 0) (heap_alloc_new w _), ← Array.getElem?_toList, hcs, Nat.zero_add]
  exact flat_at hc l i x hx j u hu
set_option maxHeartbeats 400000 in
theorem door0_any (w : World) : Calls Tryz.prog 28 #[] w fun e w' => e = .returned (.agg (dc doorX).toArray) ∧ Below w.heap.size w w' := by
  go_enter Tryz.func28, Tryz.ntmps28
  go_wp2_with fail
  (try simp only [Exit.inBlock, Exit.then])
  refine bodyPost_ret (results_cell_row rfl _ _ w.heap.size _ _ (0, 0) _ rfl (heap_alloc_new _ _) Tryz.underlying35 rfl (by kernel_rfl)) rfl ⟨rfl, (Below.refl _ _).alloc (Nat.le_refl _) _⟩
set_option maxHeartbeats 400000 in
theorem route0_any (w : World) : Calls Tryz.prog 29 #[] w fun e w' => ∃ r : RouteM, r.d = routeX ∧ e = .returned (.agg (rc r).toArray) ∧ r.Good w' (fun b => w.heap.size ≤ b) ∧ Below w.heap.size w w' := by
  go_enter Tryz.func29, Tryz.ntmps29
  go_wp2_with fail
  (try simp only [Exit.inBlock, Exit.then])
  refine bodyPost_ret (results_cell_row rfl _ _ w.heap.size _ _ (0, 0) _ rfl (by
    rw [heap_alloc_old _ _ (by simp; omega), heap_alloc_old _ _ (by simp; omega), heap_alloc_old _ _ (by simp)]
    exact heap_alloc_new _ _) Tryz.underlying38 rfl (by kernel_rfl)) rfl ⟨⟨[114], _, _, _, routeX.stops, routeX.rides, routeX.stays⟩, rfl, rfl, ⟨?_, ?_, ?_⟩, ?_⟩
  · exact (((Sl.newb routeX.stops nc_len rfl rfl (by show 3 ≤ maxLen; decide) (by simp)).alloc _).alloc _).mono fun b hb => by omega
  · exact ((Sl.newb routeX.rides ic_len rfl rfl (by show 2 ≤ maxLen; decide) (by simp)).alloc _).mono fun b hb => by omega
  · exact (Sl.newb routeX.stays ic_len rfl rfl (by show 1 ≤ maxLen; decide) (by simp)).mono fun b hb => by omega
  · exact (((((Below.refl _ _).alloc (Nat.le_refl _) _).alloc (by simp) _).alloc (by simp; omega) _).alloc (by simp; omega) _)
theorem fitX : doorX.times.Fit := ⟨by constructor <;> decide, by constructor <;> decide, by constructor <;> decide⟩
theorem fitR : routeX.Fit := ⟨fun x hx => by simp [routeX] at hx; rcases hx with rfl | rfl <;> constructor <;> decide, fun x hx => by simp [routeX] at hx; subst hx; constructor <;> decide⟩
set_option maxHeartbeats 1000000 in
theorem lives_any (w : World) (hT : Pow w) : Calls Tryz.prog 6 #[] w fun e w' => e = .returned (.bool true) ∧ Below w.heap.size w w' := by
  have hd1 : ((ba doorT).toList == [100, 111, 111, 114, 32, 100, 32, 97, 32, 98, 32, 51, 32, 102, 114, 111, 109, 32, 53, 32, 101, 118, 101, 114, 121, 32, 49, 48, 32, 111, 112, 101, 110, 32, 50]) = true := by rw [ba_toList]; decide
  have hd2 : ((ba routeT).toList == [114, 111, 117, 116, 101, 32, 114, 32, 97, 32, 53, 32, 98, 32, 115, 116, 97, 121, 32, 50, 32, 51, 32, 99]) = true := by rw [ba_toList]; decide
  have HT := Lib.hid hT
  clear hT
  go_enter Tryz.func6, Tryz.ntmps6
  go_wp2_with fail
  refine (door0_any w).mono ?_
  rintro e w2 ⟨rfl, hb2⟩
  have HB2 := Lib.hid hb2
  clear hb2
  go_wp2_with fail
  refine (door_any w2 doorX (HT.out.below HB2.out) (by constructor <;> decide) fitX (by rw [doorT_eq]; decide) (Nat.le_trans (timesL_le fitX (by decide)) (by decide))).mono ?_
  rw [doorT_eq]
  rintro e w3 ⟨rfl, hb3⟩
  have HB3 := Lib.hid (HB2.out.trans (hb3.mono HB2.out.size))
  clear hb3
  go_wp2_with fail
  refine (route0_any w3).mono ?_
  rintro e w4 ⟨r, hr, rfl, hg, hb4⟩
  have HB4 := Lib.hid (HB3.out.trans (hb4.mono HB3.out.size))
  have hC := route_any w4 r hg (HT.out.below HB4.out) (by rw [hr]; exact fitR) (by rw [show r.stops = routeX.stops from congrArg RouteD.stops hr]; decide) (by rw [hr, routeT_eq]; decide)
  rw [hr, routeT_eq] at hC
  have HC := Lib.hid hC
  clear hb4 hC hg hr
  go_wp2_with fail
  refine HC.out.mono ?_
  rintro e w5 ⟨rfl, hb5⟩
  have HB5 := Lib.hid (HB4.out.trans (hb5.mono HB4.out.size))
  clear hb5
  go_wp2_with fail
  go_ret
  exact ⟨rfl, HB5.out⟩
end Go.Proofs.YtmihinhbcncbfaaGreatDoor
