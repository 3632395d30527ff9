/- The law ShowNames: its walk. -/
import Derived.Test.YtmihinhbcncbfaaDoorTe
import Derived.Test.YtmihinhbcncbfaaDoorVv
namespace Go.Proofs.YtmihinhbcncbfaaDoor
open Go.RowKit

def sheetX : SheetD := ⟨40, [[97], [98], [99]], [], [doorX], [routeX], [], []⟩
def sheetY : SheetD := ⟨-1, [], [], [], [], [], []⟩
theorem checkX : checkD sheetX = 0 := by decide +kernel
theorem checkY : checkD sheetY = 9 := by decide +kernel
def textT : List UInt8 := [104, 111, 114, 105, 122, 111, 110, 32, 52, 48, 10, 115, 116, 111, 112, 32, 97, 10, 115, 116, 111, 112, 32, 98, 10, 115, 116, 111, 112, 32, 99, 10] ++ doorT ++ [10] ++ routeT ++ [10]
theorem textT_eq : textL (linesD sheetX) = textT := by
  have e : linesD sheetX = [horL 40, stopL [97], stopL [98], stopL [99], doorL doorX, routeL routeX] := rfl
  have h : horL 40 = [104, 111, 114, 105, 122, 111, 110, 32, 52, 48] := by
    simp only [horL, line, Wd.t, d40, List.flatMap_cons, List.flatMap_nil]; decide
  rw [e, doorT_eq, routeT_eq, h]
  rfl
def pX : PathD := ⟨[112], [97], [98], -7⟩
def tX : TripD := ⟨[116], [114], 0, 0, 9⟩
def hX : HazD := ⟨[104], [112], ⟨0, 0, 0⟩⟩
def rX : RouteD := ⟨[114], [[97]], [5], []⟩
theorem pX_eq : pathL pX = [112, 97, 116, 104, 32, 112, 32, 97, 32, 98, 32, 45, 55] := by
  simp only [pathL, pathW, line, pX, Wd.t, dm7, List.flatMap_cons, List.flatMap_nil]; decide
theorem tX_eq : tripL tX = [116, 114, 105, 112, 32, 116, 32, 111, 102, 32, 114, 32, 102, 114, 111, 109, 32, 48, 32, 101, 118, 101, 114, 121, 32, 48, 32, 117, 110, 116, 105, 108, 32, 57] := by
  simp only [tripL, tripW, line, tX, Wd.t, d0, d9, List.flatMap_cons, List.flatMap_nil]; decide
theorem hX_eq : hazL hX = [104, 97, 122, 97, 114, 100, 32, 104, 32, 111, 110, 32, 112, 32, 102, 114, 111, 109, 32, 48, 32, 101, 118, 101, 114, 121, 32, 48, 32, 99, 108, 111, 115, 101, 100, 32, 48] := by
  simp only [hazL, hazW, timesL, timesW, line, hX, Wd.t, d0, List.flatMap_cons, List.flatMap_nil]; decide
theorem rX_eq : routeL rX = [114, 111, 117, 116, 101, 32, 114, 32, 97] := by
  have e : routeW rX = [.s kRoute, .s [114], .s [97]] := by rfl
  unfold routeL
  rw [e]
  simp only [line, Wd.t, List.flatMap_cons, List.flatMap_nil]; decide
theorem route1_any (w : World) : Calls Tryd.prog 14 #[] w fun e w' => ∃ vs vr vy, e = .returned (.agg #[.string ⟨#[114]⟩, vs, vr, vy]) ∧ (RouteM.mk [114] vs vr vy [[97], [98], [99]] [5, 3] [2]).Good w' (fun b => w.heap.size ≤ b) ∧ Below w.heap.size w w' := by
  refine (route0_any w).mono ?_
  rintro e w' ⟨⟨nm, vs, vr, vy, ss, rr, yy⟩, hr, rfl, hg, hb⟩
  unfold RouteM.d routeX at hr
  injection hr with h1 h2 h3 h4
  subst h1 h2 h3 h4
  exact ⟨vs, vr, vy, rfl, hg, hb⟩
theorem door1_any (w : World) : Calls Tryd.prog 15 #[] w fun e w' => e = .returned (.agg #[.string ⟨#[100]⟩, .string ⟨#[97]⟩, .string ⟨#[98]⟩, .int .i64 3, .int .i64 5, .int .i64 10, .int .i64 2]) ∧ Below w.heap.size w w' := door0_any w
theorem i64d {n : Int} (h : decide (-9223372036854775808 ≤ n ∧ n ≤ 9223372036854775807) = true) : I64 n := by simpa [I64] using h
set_option maxHeartbeats 4000000 in
set_option maxRecDepth 100000 in
theorem names_law (w : World) (hT : Tabs w) (hP : Pow w) : Calls Tryd.prog 4 #[] w fun e w' => e = .returned (.bool true) ∧ Below w.heap.size w w' := by
  have HT := Lib.hid hT
  have HP := Lib.hid hP
  clear hT hP
  obtain ⟨wA, hwA⟩ : ∃ wA, w.alloc (.cells #[.string ⟨#[97]⟩, .string ⟨#[98]⟩, .string ⟨#[99]⟩] 9) = wA := ⟨_, rfl⟩
  have hbA : Below w.heap.size w wA := by rw [← hwA]; exact (Below.refl _ _).alloc (Nat.le_refl _) _
  have HBA := Lib.hid hbA
  have HSA := Lib.hid (show Sl nc 1 wA (.slice (some ⟨w.heap.size, 0, none⟩) 3 3) [[97], [98], [99]] (fun _ => True) by rw [← hwA]; exact Sl.newl _ nc_len rfl rfl (by show 3 ≤ maxLen; decide) rfl)
  clear hbA
  go_enter Tryd.func4, Tryd.ntmps4
  go_wp2_with fail
  refine (route1_any wA).mono ?_
  rintro e w2 ⟨vs, vr, vy, rfl, hg2, hb2⟩
  have HG2 := Lib.hid hg2
  have HB2 := Lib.hid hb2
  clear hg2 hb2 hwA
  obtain ⟨wB, hwB⟩ : ∃ wB, w2.alloc (.cells #[.string ⟨#[114]⟩, vs, vr, vy] 45) = wB := ⟨_, rfl⟩
  have hbB : Below w2.heap.size w2 wB := by rw [← hwB]; exact (Below.refl _ _).alloc (Nat.le_refl _) _
  have HBB := Lib.hid hbB
  have HSB := Lib.hid (show Sl rc 4 wB (.slice (some ⟨w2.heap.size, 0, none⟩) 1 1) [RouteM.mk [114] vs vr vy [[97], [98], [99]] [5, 3] [2]] (fun _ => True) by rw [← hwB]; exact Sl.newl _ rc_len rfl rfl (by show 1 ≤ maxLen; decide) rfl)
  clear hbB
  go_wp2_with fail
  refine (door1_any wB).mono ?_
  rintro e w3 ⟨rfl, hb3⟩
  have HB3 := Lib.hid hb3
  clear hb3 hwB
  obtain ⟨wC, hwC⟩ : ∃ wC, w3.alloc (.cells #[.string ⟨#[100]⟩, .string ⟨#[97]⟩, .string ⟨#[98]⟩, .int .i64 3, .int .i64 5, .int .i64 10, .int .i64 2] 50) = wC := ⟨_, rfl⟩
  have hbC : Below w3.heap.size w3 wC := by rw [← hwC]; exact (Below.refl _ _).alloc (Nat.le_refl _) _
  have HBC := Lib.hid hbC
  have HSC := Lib.hid (show Sl dc 7 wC (.slice (some ⟨w3.heap.size, 0, none⟩) 1 1) [doorX] (fun _ => True) by rw [← hwC]; exact Sl.newl _ dc_len rfl rfl (by show 1 ≤ maxLen; decide) rfl)
  clear hbC
  go_wp2_with fail
  obtain ⟨wD, hwD⟩ : ∃ wD, wC.alloc (.cells #[.int .i64 40, .slice (some ⟨w.heap.size, 0, none⟩) 3 3, .slice none 0 0, .slice (some ⟨w3.heap.size, 0, none⟩) 1 1, .slice (some ⟨w2.heap.size, 0, none⟩) 1 1, .slice none 0 0, .slice none 0 0] 29) = wD := ⟨_, rfl⟩
  have hbD : Below wC.heap.size wC wD := by rw [← hwD]; exact (Below.refl _ _).alloc (Nat.le_refl _) _
  have q3C : Below w3.heap.size w3 wD := Below.lift HBC.out hbD
  have q2D : Below w2.heap.size w2 wD := Below.lift (Below.lift HBB.out HB3.out) q3C
  have qAD : Below wA.heap.size wA wD := Below.lift HB2.out q2D
  have qBD : Below wB.heap.size wB wD := Below.lift HB3.out q3C
  have HBD := Lib.hid (Below.lift HBA.out qAD)
  have hG : (SheetM.mk 40 (.slice (some ⟨w.heap.size, 0, none⟩) 3 3) (.slice none 0 0) (.slice (some ⟨w3.heap.size, 0, none⟩) 1 1) (.slice (some ⟨w2.heap.size, 0, none⟩) 1 1) (.slice none 0 0) (.slice none 0 0) [[97], [98], [99]] [] [doorX] [RouteM.mk [114] vs vr vy [[97], [98], [99]] [5, 3] [2]] [] []).Good wD (fun _ => True) :=
    ⟨HSA.out.below_ qAD, Sl.nil_, HSC.out.below_ hbD, HSB.out.below_ qBD, fun r hr => by
      rw [List.mem_singleton.1 hr]
      exact (HG2.out.below_ q2D).mono fun _ _ => trivial, Sl.nil_, Sl.nil_⟩
  have HTX := Lib.hid (text_ok wD _ hG ⟨Nat.le_of_ble_eq_true rfl, Nat.le_of_ble_eq_true rfl, Nat.le_of_ble_eq_true rfl, Nat.le_of_ble_eq_true rfl, Nat.le_of_ble_eq_true rfl, Nat.le_of_ble_eq_true rfl, fun r hr => by rw [List.mem_singleton.1 hr]; exact ⟨Nat.le_of_ble_eq_true rfl, Nat.le_of_ble_eq_true rfl, Nat.le_of_ble_eq_true rfl⟩⟩ (by rfl) (HT.out.below HBD.out) (HP.out.below HBD.out) (fun s hs => by
    have h1 := (check_ok checkX).2.1 s hs
    exact Nat.le_trans (Nm.name_len h1).2 (by show 24 ≤ maxLen; decide)) checkX)
  rw [hwD]
  clear hbD q3C q2D qAD qBD hG hwC hwD HSA HSB HSC HG2 HBA HBB HBC HB2 HB3
  refine HTX.out.mono ?_
  rintro e w4 ⟨rfl, hb4⟩
  have HB4 := Lib.hid (HBD.out.trans (hb4.mono HBD.out.size))
  clear hb4 HTX HBD
  have hq1 : (ba (textL (linesD sheetX))).toList = textT := by rw [ba_toList, textT_eq]
  have hLB := lines_bad w4 (SheetM.mk (-1) (.slice none 0 0) (.slice none 0 0) (.slice none 0 0) (.slice none 0 0) (.slice none 0 0) (.slice none 0 0) [] [] [] [] [] []) (P := fun _ => True) ⟨Sl.nil_, Sl.nil_, Sl.nil_, Sl.nil_, fun r hr => (by cases hr), Sl.nil_, Sl.nil_⟩ ⟨by decide, by decide, by decide, by decide, by decide, by decide, fun r hr => by cases hr⟩ (by rfl) (HT.out.below HB4.out) (fun s hs => by cases hs) (show checkD sheetY ≠ 0 by rw [checkY]; decide)
  rw [show checkD (SheetM.mk (-1) (.slice none 0 0) (.slice none 0 0) (.slice none 0 0) (.slice none 0 0) (.slice none 0 0) (.slice none 0 0) [] [] [] [] [] []).d = 9 from checkY] at hLB
  have HLB := Lib.hid hLB
  clear hLB
  go_wp2_with fail
  refine HLB.out.mono ?_
  rintro e w5 ⟨rfl, hb5⟩
  have HB5 := Lib.hid (HB4.out.trans (hb5.mono HB4.out.size))
  clear hb5 HLB
  go_wp2_with fail
  refine (lives_any w5 (HP.out.below HB5.out)).mono ?_
  rintro e w6 ⟨rfl, hb6⟩
  have HB6 := Lib.hid (HB5.out.trans (hb6.mono HB5.out.size))
  clear hb6
  go_wp2_with fail
  have hP := path_any w6 pX (HP.out.below HB6.out) (i64d (by decide)) (by rw [pX_eq]; decide)
  rw [pX_eq] at hP
  refine hP.mono ?_
  clear hP
  rintro e w7 ⟨rfl, hb7⟩
  have HB7 := Lib.hid (HB6.out.trans (hb7.mono HB6.out.size))
  clear hb7
  have hq2 : ((ba [112, 97, 116, 104, 32, 112, 32, 97, 32, 98, 32, 45, 55]).toList == [112, 97, 116, 104, 32, 112, 32, 97, 32, 98, 32, 45, 55]) = true := by rw [ba_toList]; decide
  go_wp2_with fail
  have hP := trip_any w7 tX (HP.out.below HB7.out) (i64d (by decide)) (i64d (by decide)) (i64d (by decide)) (by rw [tX_eq]; decide)
  rw [tX_eq] at hP
  refine hP.mono ?_
  clear hP
  rintro e w8 ⟨rfl, hb8⟩
  have HB8 := Lib.hid (HB7.out.trans (hb8.mono HB7.out.size))
  clear hb8
  have hq3 : ((ba [116, 114, 105, 112, 32, 116, 32, 111, 102, 32, 114, 32, 102, 114, 111, 109, 32, 48, 32, 101, 118, 101, 114, 121, 32, 48, 32, 117, 110, 116, 105, 108, 32, 57]).toList == [116, 114, 105, 112, 32, 116, 32, 111, 102, 32, 114, 32, 102, 114, 111, 109, 32, 48, 32, 101, 118, 101, 114, 121, 32, 48, 32, 117, 110, 116, 105, 108, 32, 57]) = true := by rw [ba_toList]; decide
  go_wp2_with fail
  have hP := haz_any w8 hX (HP.out.below HB8.out) ⟨i64d (by decide), i64d (by decide), i64d (by decide)⟩ (by rw [hX_eq]; decide) (Nat.le_trans (timesL_le ⟨i64d (by decide), i64d (by decide), i64d (by decide)⟩ (by decide)) (by decide))
  rw [hX_eq] at hP
  refine hP.mono ?_
  clear hP
  rintro e w9 ⟨rfl, hb9⟩
  have HB9 := Lib.hid (HB8.out.trans (hb9.mono HB8.out.size))
  clear hb9
  have hq4 : ((ba [104, 97, 122, 97, 114, 100, 32, 104, 32, 111, 110, 32, 112, 32, 102, 114, 111, 109, 32, 48, 32, 101, 118, 101, 114, 121, 32, 48, 32, 99, 108, 111, 115, 101, 100, 32, 48]).toList == [104, 97, 122, 97, 114, 100, 32, 104, 32, 111, 110, 32, 112, 32, 102, 114, 111, 109, 32, 48, 32, 101, 118, 101, 114, 121, 32, 48, 32, 99, 108, 111, 115, 101, 100, 32, 48]) = true := by rw [ba_toList]; decide
  go_wp2_with fail
  obtain ⟨wE, hwE⟩ : ∃ wE, (w9.alloc (.cells #[.string ⟨#[97]⟩] 9)).alloc (.cells #[.int .i64 5] 2) = wE := ⟨_, rfl⟩
  have hbE : Below w9.heap.size w9 wE := by rw [← hwE]; exact ((Below.refl _ _).alloc (Nat.le_refl _) _).alloc (by simp) _
  have HBE := Lib.hid (HB9.out.trans (hbE.mono HB9.out.size))
  have hgE : (RouteM.mk [114] (.slice (some ⟨w9.heap.size, 0, none⟩) 1 1) (.slice (some ⟨w9.heap.size + 1, 0, none⟩) 1 1) (.slice none 0 0) [[97]] [5] []).Good wE (fun _ => True) := by
    rw [← hwE]
    exact ⟨(Sl.newl [[97]] nc_len rfl rfl (by show 1 ≤ maxLen; decide) rfl).alloc _, Sl.newl [5] ic_len rfl rfl (by show 1 ≤ maxLen; decide) (by simp), Sl.nil_⟩
  rw [hwE]
  have hP := route_any wE _ hgE (HP.out.below HBE.out) ⟨fun x hx => by simp [RouteM.d] at hx; subst hx; exact i64d (by decide), fun x hx => by cases hx⟩ (Nat.le_of_ble_eq_true rfl) (by show (routeL rX).length ≤ _; rw [rX_eq]; decide)
  rw [show routeL (RouteM.mk [114] (.slice (some ⟨w9.heap.size, 0, none⟩) 1 1) (.slice (some ⟨w9.heap.size + 1, 0, none⟩) 1 1) (.slice none 0 0) [[97]] [5] []).d = [114, 111, 117, 116, 101, 32, 114, 32, 97] from rX_eq] at hP
  refine hP.mono ?_
  clear hP hgE hbE hwE
  rintro e w10 ⟨rfl, hb10⟩
  have HB10 := Lib.hid (HBE.out.trans (hb10.mono HBE.out.size))
  clear hb10
  have hq5 : ((ba [114, 111, 117, 116, 101, 32, 114, 32, 97]).toList == [114, 111, 117, 116, 101, 32, 114, 32, 97]) = true := by rw [ba_toList]; decide
  go_wp2_with fail
  go_ret
  exact ⟨rfl, HB10.out⟩
end Go.Proofs.YtmihinhbcncbfaaDoor
