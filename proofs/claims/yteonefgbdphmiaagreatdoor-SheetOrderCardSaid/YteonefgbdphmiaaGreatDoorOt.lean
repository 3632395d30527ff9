/- A sheet that is an argument, opened. -/
import Derived.Test.YteonefgbdphmiaaGreatDoorOq
import Derived.Test.YteonefgbdphmiaaGreatDoorSk
import Derived.DataShut
namespace Go.Proofs.YteonefgbdphmiaaGreatDoor
open Go.RowKit Go.ChangeShapes Go.WideShapes Go.Deep

theorem of_wf {n : Int} (h : (Lit.int .i64 n).wf = true) : I64 n := by
  have := (Lit.wf_int_iff .i64 n).1 h
  exact ⟨this.1, this.2⟩
abbrev SL (s : List UInt8) : Prop := s.length ≤ maxLen
theorem sl_of {s : ByteArray} (h : s.size ≤ maxLen) : SL s.data.toList := by show s.data.toList.length ≤ maxLen; rw [Nm.len_size]; exact h
def GPath (p : PathD) : Prop := SL p.name ∧ SL p.a ∧ SL p.b ∧ I64 p.len
def GTimes (t : TimesD) : Prop := I64 t.start ∧ I64 t.every ∧ I64 t.len
def GDoor (p : DoorD) : Prop := SL p.name ∧ SL p.a ∧ SL p.b ∧ I64 p.len ∧ GTimes p.times
def GTrip (p : TripD) : Prop := SL p.name ∧ SL p.route ∧ I64 p.start ∧ I64 p.every ∧ I64 p.stop
def GHaz (p : HazD) : Prop := SL p.name ∧ SL p.on ∧ GTimes p.times
def GRoute (w : World) (r : RouteM) : Prop := SL r.name ∧ r.Good w (fun _ => True) ∧ (∀ s ∈ r.stops, SL s) ∧ (∀ n ∈ r.rides, I64 n) ∧ ∀ n ∈ r.stays, I64 n
theorem cs1 : Tryz.prog.cellsOf 9 = 1 := by kernel_rfl
theorem ci1 : Tryz.prog.cellsOf 2 = 1 := by kernel_rfl
theorem ct3 : Tryz.prog.cellsOf 48 = 3 := by kernel_rfl
theorem cn1 : Tryz.prog.cellsOf 22 = 1 := by kernel_rfl
theorem cm1 : Tryz.prog.cellsOf 55 = 1 := by kernel_rfl
theorem cpath : Tryz.prog.cellsOf 61 = 4 := by kernel_rfl
theorem cdoor : Tryz.prog.cellsOf 50 = 7 := by kernel_rfl
theorem ctrip : Tryz.prog.cellsOf 52 = 5 := by kernel_rfl
theorem chaz : Tryz.prog.cellsOf 54 = 5 := by kernel_rfl
theorem croute : Tryz.prog.cellsOf 57 = 4 := by kernel_rfl
theorem dec_nm : DecW Tryz.prog 9 nc (fun _ => SL) := by
  intro H enc w base spare held n cs y h
  obtain ⟨s, h1, _, h3⟩ := DataW.trod_string Tryz.underlying9 h
  exact ⟨s.data.toList, sl_of h3, by rw [h1]; simp only [nc, ba_of]⟩
theorem dec_i : DecW Tryz.prog 2 ic (fun _ => I64) := by
  intro H enc w base spare held n cs y h
  obtain ⟨x, h1, _, h3⟩ := DataW.trod_int Tryz.underlying2 h
  exact ⟨x, of_wf h3, h1⟩
theorem dec_path : DecW Tryz.prog 61 pc (fun _ => GPath) := by
  intro H enc w base spare held n cs y h
  have U := Tryz.underlying61
  have hl := cells_len U h
  rw [cpath] at hl
  match cs, hl with
  | [c0, c1, c2, c3], _ =>
    obtain ⟨s0, k0, rfl⟩ := of_string Tryz.underlying9 (fld U h 0 _ rfl rfl cs1 (cs' := [c0]) rfl)
    obtain ⟨s1, k1, rfl⟩ := of_string Tryz.underlying9 (fld U h 1 _ rfl rfl cs1 (cs' := [c1]) rfl)
    obtain ⟨s2, k2, rfl⟩ := of_string Tryz.underlying9 (fld U h 2 _ rfl rfl cs1 (cs' := [c2]) rfl)
    obtain ⟨n3, k3, rfl⟩ := of_int Tryz.underlying2 (fld U h 3 _ rfl rfl ci1 (cs' := [c3]) rfl)
    exact ⟨⟨s0.data.toList, s1.data.toList, s2.data.toList, n3⟩, ⟨sl_of k0, sl_of k1, sl_of k2, of_wf k3⟩, by simp only [pc, ba_of]⟩
theorem dec_times {H : Type} {enc : TypeId × Value → H} {w : World} {base : Nat} {spare : Nat → Bool} {held : Bool} {c0 c1 c2 : Value} (h : ∃ n y, DataW.trod enc Tryz.prog w base spare held n 48 [c0, c1, c2] = some y) :
    ∃ t : TimesD, GTimes t ∧ c0 = .int .i64 t.start ∧ c1 = .int .i64 t.every ∧ c2 = .int .i64 t.len := by
  obtain ⟨n, y, h⟩ := h
  have U := Tryz.underlying48
  obtain ⟨n0, k0, rfl⟩ := of_int Tryz.underlying2 (fld U h 0 _ rfl rfl ci1 (cs' := [c0]) rfl)
  obtain ⟨n1, k1, rfl⟩ := of_int Tryz.underlying2 (fld U h 1 _ rfl rfl ci1 (cs' := [c1]) rfl)
  obtain ⟨n2, k2, rfl⟩ := of_int Tryz.underlying2 (fld U h 2 _ rfl rfl ci1 (cs' := [c2]) rfl)
  exact ⟨⟨n0, n1, n2⟩, ⟨of_wf k0, of_wf k1, of_wf k2⟩, rfl, rfl, rfl⟩
theorem dec_door : DecW Tryz.prog 50 dc (fun _ => GDoor) := by
  intro H enc w base spare held n cs y h
  have U := Tryz.underlying50
  have hl := cells_len U h
  rw [cdoor] at hl
  match cs, hl with
  | [c0, c1, c2, c3, c4, c5, c6], _ =>
    obtain ⟨s0, k0, rfl⟩ := of_string Tryz.underlying9 (fld U h 0 _ rfl rfl cs1 (cs' := [c0]) rfl)
    obtain ⟨s1, k1, rfl⟩ := of_string Tryz.underlying9 (fld U h 1 _ rfl rfl cs1 (cs' := [c1]) rfl)
    obtain ⟨s2, k2, rfl⟩ := of_string Tryz.underlying9 (fld U h 2 _ rfl rfl cs1 (cs' := [c2]) rfl)
    obtain ⟨n3, k3, rfl⟩ := of_int Tryz.underlying2 (fld U h 3 _ rfl rfl ci1 (cs' := [c3]) rfl)
    obtain ⟨t, kt, rfl, rfl, rfl⟩ := dec_times (fld U h 4 _ rfl rfl ct3 (cs' := [c4, c5, c6]) rfl)
    exact ⟨⟨s0.data.toList, s1.data.toList, s2.data.toList, n3, t⟩, ⟨sl_of k0, sl_of k1, sl_of k2, of_wf k3, kt⟩, by simp only [dc, ba_of]⟩
theorem dec_trip : DecW Tryz.prog 52 trc (fun _ => GTrip) := by
  intro H enc w base spare held n cs y h
  have U := Tryz.underlying52
  have hl := cells_len U h
  rw [ctrip] at hl
  match cs, hl with
  | [c0, c1, c2, c3, c4], _ =>
    obtain ⟨s0, k0, rfl⟩ := of_string Tryz.underlying9 (fld U h 0 _ rfl rfl cs1 (cs' := [c0]) rfl)
    obtain ⟨s1, k1, rfl⟩ := of_string Tryz.underlying9 (fld U h 1 _ rfl rfl cs1 (cs' := [c1]) rfl)
    obtain ⟨n2, k2, rfl⟩ := of_int Tryz.underlying2 (fld U h 2 _ rfl rfl ci1 (cs' := [c2]) rfl)
    obtain ⟨n3, k3, rfl⟩ := of_int Tryz.underlying2 (fld U h 3 _ rfl rfl ci1 (cs' := [c3]) rfl)
    obtain ⟨n4, k4, rfl⟩ := of_int Tryz.underlying2 (fld U h 4 _ rfl rfl ci1 (cs' := [c4]) rfl)
    exact ⟨⟨s0.data.toList, s1.data.toList, n2, n3, n4⟩, ⟨sl_of k0, sl_of k1, of_wf k2, of_wf k3, of_wf k4⟩, by simp only [trc, ba_of]⟩
theorem dec_haz : DecW Tryz.prog 54 hc (fun _ => GHaz) := by
  intro H enc w base spare held n cs y h
  have U := Tryz.underlying54
  have hl := cells_len U h
  rw [chaz] at hl
  match cs, hl with
  | [c0, c1, c2, c3, c4], _ =>
    obtain ⟨s0, k0, rfl⟩ := of_string Tryz.underlying9 (fld U h 0 _ rfl rfl cs1 (cs' := [c0]) rfl)
    obtain ⟨s1, k1, rfl⟩ := of_string Tryz.underlying9 (fld U h 1 _ rfl rfl cs1 (cs' := [c1]) rfl)
    obtain ⟨t, kt, rfl, rfl, rfl⟩ := dec_times (fld U h 2 _ rfl rfl ct3 (cs' := [c2, c3, c4]) rfl)
    exact ⟨⟨s0.data.toList, s1.data.toList, t⟩, ⟨sl_of k0, sl_of k1, kt⟩, by simp only [hc, ba_of]⟩
theorem dec_route : DecW Tryz.prog 57 rc GRoute := by
  intro H enc w base spare held n cs y h
  have U := Tryz.underlying57
  have hl := cells_len U h
  rw [croute] at hl
  match cs, hl with
  | [c0, c1, c2, c3], _ =>
    obtain ⟨s0, k0, rfl⟩ := of_string Tryz.underlying9 (fld U h 0 _ rfl rfl cs1 (cs' := [c0]) rfl)
    obtain ⟨l1, k1, g1⟩ := of_sl Tryz.underlying22 cs1 (by decide) nc_len dec_nm (fld U h 1 _ rfl rfl cn1 (cs' := [c1]) rfl)
    obtain ⟨l2, k2, g2⟩ := of_sl Tryz.underlying55 ci1 (by decide) ic_len dec_i (fld U h 2 _ rfl rfl cm1 (cs' := [c2]) rfl)
    obtain ⟨l3, k3, g3⟩ := of_sl Tryz.underlying55 ci1 (by decide) ic_len dec_i (fld U h 3 _ rfl rfl cm1 (cs' := [c3]) rfl)
    exact ⟨⟨s0.data.toList, c1, c2, c3, l1, l2, l3⟩, ⟨sl_of k0, ⟨k1, k2, k3⟩, g1, g2, g3⟩, by simp only [rc, ba_of]⟩
instance : Inhabited PathD := ⟨⟨[], [], [], 0⟩⟩
instance : Inhabited DoorD := ⟨⟨[], [], [], 0, ⟨0, 0, 0⟩⟩⟩
instance : Inhabited TripD := ⟨⟨[], [], 0, 0, 0⟩⟩
instance : Inhabited HazD := ⟨⟨[], [], ⟨0, 0, 0⟩⟩⟩
instance : Inhabited RouteM := ⟨⟨[], .nilIface, .nilIface, .nilIface, [], [], []⟩⟩
/-- What a sheet's parts obey when it comes as an argument. -/
structure SheetM.Arg (x : SheetM) (w : World) : Prop where
  hor : I64 x.hor
  stops : ∀ s ∈ x.stops, SL s
  paths : ∀ p ∈ x.paths, GPath p
  doors : ∀ p ∈ x.doors, GDoor p
  routes : ∀ r ∈ x.routes, GRoute w r
  trips : ∀ t ∈ x.trips, GTrip t
  hazs : ∀ t ∈ x.hazs, GHaz t
theorem csheet : Tryz.prog.cellsOf 29 = 7 := by kernel_rfl
theorem clp : Tryz.prog.cellsOf 23 = 1 := by kernel_rfl
theorem cld : Tryz.prog.cellsOf 24 = 1 := by kernel_rfl
theorem clr : Tryz.prog.cellsOf 25 = 1 := by kernel_rfl
theorem clt : Tryz.prog.cellsOf 26 = 1 := by kernel_rfl
theorem clh : Tryz.prog.cellsOf 27 = 1 := by kernel_rfl
set_option maxRecDepth 100000 in
theorem open_sheet {H : Type} {enc : TypeId × Value → H} {w : World} {base b0 : Nat} {spare : Nat → Bool} {held : Bool} {r : Reach} {v : Value} {d : DataW H} {p : List MemPlace}
    (hv : Value.okWide Tryz.prog w r b0 29 v) (h : DataW.Trod enc Tryz.prog w base spare held 29 v d p) :
    ∃ x : SheetM, v = x.v ∧ x.Good w (fun _ => True) ∧ x.Arg w := by
  have U := Tryz.underlying29
  obtain ⟨cs, rfl, hsz⟩ := okWide_struct U hv
  rw [csheet] at hsz
  obtain ⟨l, rfl⟩ : ∃ l : List Value, cs = l.toArray := ⟨cs.toList, by simp⟩
  obtain ⟨n, h⟩ := h
  have hl : l.length = 7 := by simpa using hsz
  match l, hl with
  | [c0, c1, c2, c3, c4, c5, c6], _ =>
    obtain ⟨n0, k0, rfl⟩ := of_int Tryz.underlying2 (fld U h 0 _ rfl rfl ci1 (cs' := [c0]) rfl)
    obtain ⟨l1, k1, g1⟩ := of_sl Tryz.underlying22 cs1 (by decide) nc_len dec_nm (fld U h 1 _ rfl rfl cn1 (cs' := [c1]) rfl)
    obtain ⟨l2, k2, g2⟩ := of_sl Tryz.underlying23 cpath (by decide) pc_len dec_path (fld U h 2 _ rfl rfl clp (cs' := [c2]) rfl)
    obtain ⟨l3, k3, g3⟩ := of_sl Tryz.underlying24 cdoor (by decide) dc_len dec_door (fld U h 3 _ rfl rfl cld (cs' := [c3]) rfl)
    obtain ⟨l4, k4, g4⟩ := of_sl Tryz.underlying25 croute (by decide) rc_len dec_route (fld U h 4 _ rfl rfl clr (cs' := [c4]) rfl)
    obtain ⟨l5, k5, g5⟩ := of_sl Tryz.underlying26 ctrip (by decide) trc_len dec_trip (fld U h 5 _ rfl rfl clt (cs' := [c5]) rfl)
    obtain ⟨l6, k6, g6⟩ := of_sl Tryz.underlying27 chaz (by decide) hc_len dec_haz (fld U h 6 _ rfl rfl clh (cs' := [c6]) rfl)
    exact ⟨⟨n0, c1, c2, c3, c4, c5, c6, l1, l2, l3, l4, l5, l6⟩, rfl, ⟨k1, k2, k3, k4, fun r hr => (g4 r hr).2.1, k5, k6⟩, ⟨of_wf k0, g1, g2, g3, g4, g5, g6⟩⟩
end Go.Proofs.YteonefgbdphmiaaGreatDoor
