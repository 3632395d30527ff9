/- A path, a door, a route, a trip or a hazard that is an argument, opened, with what its bulk bounds. Printed by wip/bin/genzo.py. -/
import Derived.Test.YtmihinhbcncbfaaGreatDoorOu
namespace Go.Proofs.YtmihinhbcncbfaaGreatDoor
open Go.RowKit Go.ChangeShapes Go.WideShapes Go.Deep

set_option maxRecDepth 100000 in
theorem open_path {H : Type} {enc : TypeId × Value → H} {w : World} {base b0 : Nat} {spare : Nat → Bool} {held : Bool} {r : Reach} {v : Value} {d : DataW H} {p : List MemPlace}
    (hv : Value.okWide Tryz.prog w r b0 31 v) (h : DataW.Trod enc Tryz.prog w base spare held 31 v d p) :
    ∃ x : PathD, v = .agg (pc x).toArray ∧ GPath x ∧ (x.name.length ≤ Rows.uptoBulk d ∧ x.a.length ≤ Rows.uptoBulk d ∧ x.b.length ≤ Rows.uptoBulk d) := by
  have U := Tryz.underlying31
  obtain ⟨cs, rfl, hsz⟩ := okWide_struct U hv
  rw [cpath] at hsz
  obtain ⟨l, rfl⟩ : ∃ l : List Value, cs = l.toArray := ⟨cs.toList, by simp⟩
  obtain ⟨n, h⟩ := h
  have hl : l.length = 4 := by simpa using hsz
  match l, hl with
  | [c0, c1, c2, c3], _ =>
    obtain ⟨s0, k0, m0, rfl⟩ := of_stringM Tryz.underlying9 (fldM U h (Nat.le_refl _) 0 _ rfl rfl cs1 (cs' := [c0]) rfl)
    obtain ⟨s1, k1, m1, rfl⟩ := of_stringM Tryz.underlying9 (fldM U h (Nat.le_refl _) 1 _ rfl rfl cs1 (cs' := [c1]) rfl)
    obtain ⟨s2, k2, m2, rfl⟩ := of_stringM Tryz.underlying9 (fldM U h (Nat.le_refl _) 2 _ rfl rfl cs1 (cs' := [c2]) rfl)
    obtain ⟨n3, k3, rfl⟩ := of_int Tryz.underlying2 (fld U h 3 _ rfl rfl ci1 (cs' := [c3]) rfl)
    exact ⟨⟨s0.data.toList, s1.data.toList, s2.data.toList, n3⟩, by simp only [pc, ba_of], ⟨sl_of k0, sl_of k1, sl_of k2, of_wf k3⟩, by show s0.data.toList.length ≤ _; rw [Nm.len_size]; exact m0, by show s1.data.toList.length ≤ _; rw [Nm.len_size]; exact m1, by show s2.data.toList.length ≤ _; rw [Nm.len_size]; exact m2⟩
set_option maxRecDepth 100000 in
theorem open_door {H : Type} {enc : TypeId × Value → H} {w : World} {base b0 : Nat} {spare : Nat → Bool} {held : Bool} {r : Reach} {v : Value} {d : DataW H} {p : List MemPlace}
    (hv : Value.okWide Tryz.prog w r b0 35 v) (h : DataW.Trod enc Tryz.prog w base spare held 35 v d p) :
    ∃ x : DoorD, v = .agg (dc x).toArray ∧ GDoor x ∧ (x.name.length ≤ Rows.uptoBulk d ∧ x.a.length ≤ Rows.uptoBulk d ∧ x.b.length ≤ Rows.uptoBulk d) := by
  have U := Tryz.underlying35
  obtain ⟨cs, rfl, hsz⟩ := okWide_struct U hv
  rw [cdoor] at hsz
  obtain ⟨l, rfl⟩ : ∃ l : List Value, cs = l.toArray := ⟨cs.toList, by simp⟩
  obtain ⟨n, h⟩ := h
  have hl : l.length = 7 := by simpa using hsz
  match l, hl with
  | [c0, c1, c2, c3, c4, c5, c6], _ =>
    obtain ⟨s0, k0, m0, rfl⟩ := of_stringM Tryz.underlying9 (fldM U h (Nat.le_refl _) 0 _ rfl rfl cs1 (cs' := [c0]) rfl)
    obtain ⟨s1, k1, m1, rfl⟩ := of_stringM Tryz.underlying9 (fldM U h (Nat.le_refl _) 1 _ rfl rfl cs1 (cs' := [c1]) rfl)
    obtain ⟨s2, k2, m2, rfl⟩ := of_stringM Tryz.underlying9 (fldM U h (Nat.le_refl _) 2 _ rfl rfl cs1 (cs' := [c2]) rfl)
    obtain ⟨n3, k3, rfl⟩ := of_int Tryz.underlying2 (fld U h 3 _ rfl rfl ci1 (cs' := [c3]) rfl)
    obtain ⟨t, kt, rfl, rfl, rfl⟩ := dec_times (fld U h 4 _ rfl rfl ct3 (cs' := [c4, c5, c6]) rfl)
    exact ⟨⟨s0.data.toList, s1.data.toList, s2.data.toList, n3, t⟩, by simp only [dc, ba_of], ⟨sl_of k0, sl_of k1, sl_of k2, of_wf k3, kt⟩, by show s0.data.toList.length ≤ _; rw [Nm.len_size]; exact m0, by show s1.data.toList.length ≤ _; rw [Nm.len_size]; exact m1, by show s2.data.toList.length ≤ _; rw [Nm.len_size]; exact m2⟩
set_option maxRecDepth 100000 in
theorem open_trip {H : Type} {enc : TypeId × Value → H} {w : World} {base b0 : Nat} {spare : Nat → Bool} {held : Bool} {r : Reach} {v : Value} {d : DataW H} {p : List MemPlace}
    (hv : Value.okWide Tryz.prog w r b0 40 v) (h : DataW.Trod enc Tryz.prog w base spare held 40 v d p) :
    ∃ x : TripD, v = .agg (trc x).toArray ∧ GTrip x ∧ (x.name.length ≤ Rows.uptoBulk d ∧ x.route.length ≤ Rows.uptoBulk d) := by
  have U := Tryz.underlying40
  obtain ⟨cs, rfl, hsz⟩ := okWide_struct U hv
  rw [ctrip] at hsz
  obtain ⟨l, rfl⟩ : ∃ l : List Value, cs = l.toArray := ⟨cs.toList, by simp⟩
  obtain ⟨n, h⟩ := h
  have hl : l.length = 5 := by simpa using hsz
  match l, hl with
  | [c0, c1, c2, c3, c4], _ =>
    obtain ⟨s0, k0, m0, rfl⟩ := of_stringM Tryz.underlying9 (fldM U h (Nat.le_refl _) 0 _ rfl rfl cs1 (cs' := [c0]) rfl)
    obtain ⟨s1, k1, m1, rfl⟩ := of_stringM Tryz.underlying9 (fldM U h (Nat.le_refl _) 1 _ rfl rfl cs1 (cs' := [c1]) rfl)
    obtain ⟨n2, k2, rfl⟩ := of_int Tryz.underlying2 (fld U h 2 _ rfl rfl ci1 (cs' := [c2]) rfl)
    obtain ⟨n3, k3, rfl⟩ := of_int Tryz.underlying2 (fld U h 3 _ rfl rfl ci1 (cs' := [c3]) rfl)
    obtain ⟨n4, k4, rfl⟩ := of_int Tryz.underlying2 (fld U h 4 _ rfl rfl ci1 (cs' := [c4]) rfl)
    exact ⟨⟨s0.data.toList, s1.data.toList, n2, n3, n4⟩, by simp only [trc, ba_of], ⟨sl_of k0, sl_of k1, of_wf k2, of_wf k3, of_wf k4⟩, by show s0.data.toList.length ≤ _; rw [Nm.len_size]; exact m0, by show s1.data.toList.length ≤ _; rw [Nm.len_size]; exact m1⟩
set_option maxRecDepth 100000 in
theorem open_haz {H : Type} {enc : TypeId × Value → H} {w : World} {base b0 : Nat} {spare : Nat → Bool} {held : Bool} {r : Reach} {v : Value} {d : DataW H} {p : List MemPlace}
    (hv : Value.okWide Tryz.prog w r b0 42 v) (h : DataW.Trod enc Tryz.prog w base spare held 42 v d p) :
    ∃ x : HazD, v = .agg (hc x).toArray ∧ GHaz x ∧ (x.name.length ≤ Rows.uptoBulk d ∧ x.on.length ≤ Rows.uptoBulk d) := by
  have U := Tryz.underlying42
  obtain ⟨cs, rfl, hsz⟩ := okWide_struct U hv
  rw [chaz] at hsz
  obtain ⟨l, rfl⟩ : ∃ l : List Value, cs = l.toArray := ⟨cs.toList, by simp⟩
  obtain ⟨n, h⟩ := h
  have hl : l.length = 5 := by simpa using hsz
  match l, hl with
  | [c0, c1, c2, c3, c4], _ =>
    obtain ⟨s0, k0, m0, rfl⟩ := of_stringM Tryz.underlying9 (fldM U h (Nat.le_refl _) 0 _ rfl rfl cs1 (cs' := [c0]) rfl)
    obtain ⟨s1, k1, m1, rfl⟩ := of_stringM Tryz.underlying9 (fldM U h (Nat.le_refl _) 1 _ rfl rfl cs1 (cs' := [c1]) rfl)
    obtain ⟨t, kt, rfl, rfl, rfl⟩ := dec_times (fld U h 2 _ rfl rfl ct3 (cs' := [c2, c3, c4]) rfl)
    exact ⟨⟨s0.data.toList, s1.data.toList, t⟩, by simp only [hc, ba_of], ⟨sl_of k0, sl_of k1, kt⟩, by show s0.data.toList.length ≤ _; rw [Nm.len_size]; exact m0, by show s1.data.toList.length ≤ _; rw [Nm.len_size]; exact m1⟩
set_option maxRecDepth 100000 in
theorem open_route {H : Type} {enc : TypeId × Value → H} {w : World} {base b0 : Nat} {spare : Nat → Bool} {held : Bool} {r : Reach} {v : Value} {d : DataW H} {p : List MemPlace}
    (hv : Value.okWide Tryz.prog w r b0 38 v) (h : DataW.Trod enc Tryz.prog w base spare held 38 v d p) :
    ∃ x : RouteM, v = .agg (rc x).toArray ∧ GRoute w x ∧ (x.name.length ≤ Rows.uptoBulk d ∧ ∀ s ∈ x.stops, s.length ≤ Rows.uptoBulk d) := by
  have U := Tryz.underlying38
  obtain ⟨cs, rfl, hsz⟩ := okWide_struct U hv
  rw [croute] at hsz
  obtain ⟨l, rfl⟩ : ∃ l : List Value, cs = l.toArray := ⟨cs.toList, by simp⟩
  obtain ⟨n, h⟩ := h
  have hl : l.length = 4 := by simpa using hsz
  match l, hl with
  | [c0, c1, c2, c3], _ =>
    obtain ⟨s0, k0, m0, rfl⟩ := of_stringM Tryz.underlying9 (fldM U h (Nat.le_refl _) 0 _ rfl rfl cs1 (cs' := [c0]) rfl)
    obtain ⟨l1, k1, g1⟩ := of_sl Tryz.underlying22 cs1 (by decide) nc_len dec_nm (fld U h 1 _ rfl rfl cn1 (cs' := [c1]) rfl)
    obtain ⟨l2, k2, g2⟩ := of_sl Tryz.underlying36 ci1 (by decide) ic_len dec_i (fld U h 2 _ rfl rfl cm1 (cs' := [c2]) rfl)
    obtain ⟨l3, k3, g3⟩ := of_sl Tryz.underlying36 ci1 (by decide) ic_len dec_i (fld U h 3 _ rfl rfl cm1 (cs' := [c3]) rfl)
    have hm := sl_M Tryz.underlying22 cs1 nc_len nc_inj decM_nm k1 (fldM U h (Nat.le_refl _) 1 _ rfl rfl cn1 (cs' := [c1]) rfl)
    exact ⟨⟨s0.data.toList, c1, c2, c3, l1, l2, l3⟩, by simp only [rc, ba_of], ⟨sl_of k0, ⟨k1, k2, k3⟩, g1, g2, g3⟩, by show s0.data.toList.length ≤ _; rw [Nm.len_size]; exact m0, hm⟩
end Go.Proofs.YtmihinhbcncbfaaGreatDoor
