/- The walk of timetablekit.SheetLines. Printed by wip/bin/genkg.py. -/
import Derived.Test.YteonefgbdphmiaaGreatDoorKe
import Derived.Test.YteonefgbdphmiaaGreatDoorQk
import Derived.Test.YteonefgbdphmiaaGreatDoorSn
namespace Go.Proofs.YteonefgbdphmiaaGreatDoor
open Go.RowKit
/-- Names that are short enough. -/
structure LowB (x : SheetM) : Prop where
  stops : ∀ s ∈ x.stops, Lo s
  paths : ∀ p ∈ x.paths, Lo p.name ∧ Lo p.a ∧ Lo p.b
  doors : ∀ p ∈ x.doors, Lo p.name ∧ Lo p.a ∧ Lo p.b
  routes : ∀ r ∈ x.routes, r.d.Low
  trips : ∀ t ∈ x.trips, Lo t.name ∧ Lo t.route
  hazs : ∀ h ∈ x.hazs, Lo h.name ∧ Lo h.on
theorem low_of (x : SheetM) (h : checkD x.d = 0) : LowB x := by
  obtain ⟨_, hn, _, hr⟩ := check_ok h
  have h24 : ∀ s, s ∈ namesD x.d → Lo s := fun s hs => Nat.le_trans (name_le (hn s hs)) (by decide)
  refine ⟨fun s hs => h24 _ (in_names (.inl hs)), fun p hp => ?_, fun p hp => ?_, fun r hr2 => ?_, fun t ht => ?_, fun t ht => ?_⟩
  · have h1 := fun s hs => h24 s (in_names (.inr (.inl ⟨p, hp, hs⟩)))
    exact ⟨h1 _ (by simp), h1 _ (by simp), h1 _ (by simp)⟩
  · have h1 := fun s hs => h24 s (in_names (.inr (.inr (.inl ⟨p, hp, hs⟩))))
    exact ⟨h1 _ (by simp), h1 _ (by simp), h1 _ (by simp)⟩
  · have hd : r.d ∈ x.d.routes := List.mem_map_of_mem hr2
    have h1 := fun s hs => h24 s (in_names (.inr (.inr (.inr (.inl ⟨r.d, hd, hs⟩)))))
    have h2 := hr r.d hd
    unfold okR at h2
    rw [decide_eq_true_eq] at h2
    exact ⟨h1 _ (by simp), fun s hs => h1 _ (by simp [hs]), by omega⟩
  · have h1 := fun s hs => h24 s (in_names (.inr (.inr (.inr (.inr (.inl ⟨t, ht, hs⟩))))))
    exact ⟨h1 _ (by simp), h1 _ (by simp)⟩
  · have h1 := fun s hs => h24 s (in_names (.inr (.inr (.inr (.inr (.inr ⟨t, ht, hs⟩))))))
    exact ⟨h1 _ (by simp), h1 _ (by simp)⟩
theorem take_map_succ {α β : Type} (f : α → β) (l : List α) (k : Nat) (h : k < l.length) : (l.take (k + 1)).map f = (l.take k).map f ++ [f l[k]] := by
  rw [take_succ_eq l k h, List.map_append]; rfl
def ln0 (x : SheetM) : Nms := [horL x.hor]
def ln1 (x : SheetM) : Nms := ln0 x ++ x.stops.map stopL
def ln2 (x : SheetM) : Nms := ln1 x ++ x.paths.map pathL
def ln3 (x : SheetM) : Nms := ln2 x ++ x.doors.map doorL
def ln4 (x : SheetM) : Nms := ln3 x ++ x.routes.map (fun r : RouteM => routeL r.d)
def ln5 (x : SheetM) : Nms := ln4 x ++ x.trips.map tripL
theorem ln_eq (x : SheetM) : ln5 x ++ x.hazs.map hazL = linesD x.d := by
  unfold ln5 ln4 ln3 ln2 ln1 ln0 linesD
  rw [show x.d.routes.map routeL = x.routes.map (fun r : RouteM => routeL r.d) from by
    show (x.routes.map RouteM.d).map routeL = _
    rw [List.map_map]; rfl]
  rfl
theorem ln_len (x : SheetM) (h : x.Few) : (ln0 x).length ≤ 1 ∧ (ln1 x).length ≤ 1025 ∧ (ln2 x).length ≤ 2049 ∧ (ln3 x).length ≤ 3073 ∧ (ln4 x).length ≤ 4097 ∧ (ln5 x).length ≤ 5121 := by
  have h0 := h.stops
  have h1 := h.paths
  have h2 := h.doors
  have h3 := h.routes
  have h4 := h.trips
  refine ⟨Nat.le_refl _, ?_⟩
  simp only [ln5, ln4, ln3, ln2, ln1, ln0, List.length_append, List.length_map, List.length_cons, List.length_nil]
  omega
/-- Numbers that may be. -/
structure KitB (x : SheetM) : Prop where
  hor : NN x.hor
  paths : ∀ p ∈ x.paths, NN p.len
  doors : ∀ p ∈ x.doors, NN p.len ∧ p.times.Nn
  routes : ∀ r ∈ x.routes, r.d.Kit
  trips : ∀ t ∈ x.trips, NN t.start ∧ NN t.every ∧ NN t.stop
  hazs : ∀ h ∈ x.hazs, h.times.Nn
theorem okN_nn {n : Int} (h : okN n = true) : NN n := by
  unfold okN at h
  rw [decide_eq_true_eq] at h
  exact h
theorem nn_of {t : TimesD} (h : ∀ n ∈ timesN t, okN n = true) : t.Nn :=
  ⟨okN_nn (h _ (by simp [timesN])), okN_nn (h _ (by simp [timesN])), okN_nn (h _ (by simp [timesN]))⟩
theorem kit_of (x : SheetM) (h : checkD x.d = 0) : KitB x := by
  obtain ⟨_, _, hi, hr⟩ := check_ok h
  refine ⟨okN_nn (hi _ (in_nums (.inl rfl))), fun p hp => ?_, fun p hp => ?_, fun r hr2 => ?_, fun t ht => ?_, fun t ht => ?_⟩
  · exact okN_nn (hi _ (in_nums (.inr (.inl ⟨p, hp, List.mem_cons_self ..⟩))))
  · have h3 := fun n hn => hi n (in_nums (.inr (.inr (.inl ⟨p, hp, hn⟩))))
    exact ⟨okN_nn (h3 p.len (by simp)), nn_of fun n hn => h3 n (by simp [hn])⟩
  · have hm : r.d ∈ x.d.routes := List.mem_map_of_mem hr2
    have h3 := fun n hn => hi n (in_nums (.inr (.inr (.inr (.inl ⟨r.d, hm, hn⟩)))))
    have hk := hr _ hm
    unfold okR at hk
    rw [decide_eq_true_eq] at hk
    exact ⟨fun n hn => okN_nn (h3 n (by simp [hn])), fun n hn => okN_nn (h3 n (by simp [hn])), hk.1, hk.2.1, hk.2.2.1, hk.2.2.2⟩
  · have h3 := fun n hn => okN_nn (hi n (in_nums (.inr (.inr (.inr (.inr (.inl ⟨t, ht, hn⟩)))))))
    exact ⟨h3 _ (by simp), h3 _ (by simp), h3 _ (by simp)⟩
  · exact nn_of fun n hn => hi n (in_nums (.inr (.inr (.inr (.inr (.inr ⟨t, ht, hn⟩))))))
set_option maxHeartbeats 8000000 in
set_option maxRecDepth 100000 in
theorem klines_any (w : World) (x : SheetM) {P : Nat → Prop} (hg : x.Good w P) (hf : x.Few) (hc : checkD x.d = 0) :
    Calls Tryz.prog 12 #[x.v] w fun e w' => ∃ v, e = .returned v ∧ Ow nc 1 w' w.heap.size 9 v (linesD x.d) ∧ Below w.heap.size w w' := by
  obtain ⟨i0, hi0, hz0, hz1, hz2⟩ := info_parts info_string
  have HKI := Lib.hid (kit_of x hc)
  have HLO := Lib.hid (low_of x hc)
  obtain ⟨m0, m1, m2, m3, m4, m5⟩ := ln_len x hf
  obtain ⟨w1, hw1⟩ : ∃ w1, w.alloc (.cells x.c.toArray 29) = w1 := ⟨_, rfl⟩
  have hS1 : SheetAt w.heap.size x w1 := by rw [← hw1]; exact SheetAt.of (heap_alloc_new _ _)
  have hb1 : Below w.heap.size w w1 := by rw [← hw1]; exact (Below.refl _ _).alloc (Nat.le_refl _) _
  have hlt : w.heap.size < w1.heap.size := by rw [← hw1]; simp
  have HB1 := Lib.hid hb1
  have HG1 := Lib.hid (hg.below_ hb1)
  have HS1 := Lib.hid hS1
  have HLT := Lib.hid hlt
  have HF := Lib.hid hf
  obtain ⟨As, cs, es, _, _⟩ := hg.stops.shape
  obtain ⟨Ap, cp, ep, _, _⟩ := hg.paths.shape
  obtain ⟨Ad, cd, ed, _, _⟩ := hg.doors.shape
  obtain ⟨Ar, cr, er, _, _⟩ := hg.routes.shape
  obtain ⟨At, ct, et, _, _⟩ := hg.trips.shape
  obtain ⟨Ah, ch, eh, _, _⟩ := hg.hazs.shape
  have n0 := hf.stops
  have n1 := hf.paths
  have n2 := hf.doors
  have n3 := hf.routes
  have n4 := hf.trips
  have n5 := hf.hazs
  have cells : ∀ wx, SheetAt w.heap.size x wx → wx.cell? ⟨w.heap.size, 0, none⟩ = some (.int .i64 x.hor) ∧ wx.cell? ⟨w.heap.size, 1, none⟩ = some (.slice As x.stops.length cs) ∧ wx.cell? ⟨w.heap.size, 2, none⟩ = some (.slice Ap x.paths.length cp) ∧ wx.cell? ⟨w.heap.size, 3, none⟩ = some (.slice Ad x.doors.length cd) ∧ wx.cell? ⟨w.heap.size, 4, none⟩ = some (.slice Ar x.routes.length cr) ∧ wx.cell? ⟨w.heap.size, 5, none⟩ = some (.slice At x.trips.length ct) ∧ wx.cell? ⟨w.heap.size, 6, none⟩ = some (.slice Ah x.hazs.length ch) := by
    rintro wx ⟨s0, s1, s2, s3, s4, s5, s6⟩
    rw [es] at s1
    rw [ep] at s2
    rw [ed] at s3
    rw [er] at s4
    rw [et] at s5
    rw [eh] at s6
    exact ⟨s0, s1, s2, s3, s4, s5, s6⟩
  have CELLS := Lib.hid cells
  have HES := Lib.hid es
  have HEP := Lib.hid ep
  have HED := Lib.hid ed
  have HER := Lib.hid er
  have HET := Lib.hid et
  have HEH := Lib.hid eh
  unfold SheetM.v
  unfold SheetM.c at hw1
  rw [es, ep, ed, er, et, eh] at hw1
  rw [es, ep, ed, er, et, eh]
  obtain ⟨c0, c1, c2, c3, c4, c5, c6⟩ := cells w1 hS1
  clear es ep ed er et eh hS1 hb1 hf hg cells
  have HHN := fun W => Lib.hid (kdig_any x.hor HKI.out.hor W)
  have HHS := Lib.hid (hor_sum x.hor)
  have hzh : (ba (dec x.hor)).size ≤ 24 := by rw [ba_size]; exact dec_len24 HKI.out.hor.i64
  have hzs : ((⟨#[104, 111, 114, 105, 122, 111, 110, 32]⟩ : ByteArray) ++ ba (dec x.hor)).size ≤ 32 := by rw [ByteArray.size_append]; exact Nat.add_le_add (Nat.le_of_eq rfl) hzh
  go_enter Tryz.func12, Tryz.ntmps12
  go_wp2_with fail
  clear c0 c1 c2 c3 c4 c5 c6 hw1
  refine (HHN w1).out.mono ?_
  rintro e w3 ⟨rfl, hb3⟩
  have HB3 := Lib.hid hb3
  clear hb3 HHN
  go_upto_region 2 with fail
  clear hzh hzs
  rw [HHS.out]
  clear HHS
  obtain ⟨wr, hwr⟩ : ∃ wr, w3.alloc (.cells #[.string (ba (horL x.hor))] 9) = wr := ⟨_, rfl⟩
  have ho0 : Ow nc 1 wr w1.heap.size 9 (.slice (some ⟨w3.heap.size, 0, none⟩) 1 1) (ln0 x) := by rw [← hwr]; exact Ow.newl [horL x.hor] nc_len rfl rfl (by show 1 ≤ maxLen; decide) rfl HB3.out.size
  have hB : Below w1.heap.size w1 wr := by rw [← hwr]; exact HB3.out.alloc HB3.out.size _
  rw [hwr]
  clear hwr HB3
  have HO0 := Lib.hid ho0
  have HB0 := Lib.hid hB
  clear ho0 hB
  go_wp2_with fail
  go_loopg [4, 3] x.stops.length (fun gg s v wx => ∃ k : Nat, k ≤ x.stops.length ∧ x.stops.length - k ≤ gg ∧ s = .int .i64 k ∧ Ow nc 1 wx w1.heap.size 9 v (ln0 x ++ (x.stops.take k).map stopL) ∧ Below w1.heap.size w1 wx)
  case atStart => exact ⟨0, Nat.zero_le _, by omega, rfl, by rw [List.take_zero, List.map_nil, List.append_nil]; exact HO0.out, HB0.out⟩
  case round =>
    clear HO0 HB0
    obtain ⟨k, hk, hgg, rfl, ho, hb⟩ := hrel
    obtain ⟨c0, c1, c2, c3, c4, c5, c6⟩ := CELLS.out wr (HS1.out.below hb HLT.out)
    by_cases hlt : k < x.stops.length
    · have hst := HG1.out.stops
      rw [HES.out] at hst
      obtain ⟨b1, o1, p1, e1, _, _, hl1, _, hxx⟩ := hst.at_ hlt
      injection e1 with e1 e2 e3
      subst e1
      have hm : x.stops[k] ∈ x.stops := List.getElem_mem hlt
      have hE : ln0 x ++ (x.stops.take (k + 1)).map stopL = (ln0 x ++ (x.stops.take k).map stopL) ++ [stopL x.stops[k]] := by rw [take_map_succ _ _ _ hlt, List.append_assoc]
      obtain ⟨y, hye⟩ : ∃ y, x.stops[k] = y := ⟨_, rfl⟩
      rw [hye] at hxx hm hE
      have hx0 : wr.cell? ⟨b1, o1 + k, none⟩ = some (.string (ba y)) := (hb.cell (p := ⟨b1, o1 + k, none⟩) hl1).trans (by simpa using hxx 0 _ rfl)
      have HCA := Lib.hid (stop_sum y)
      have zy : (ba y).size ≤ 1048576 := by rw [ba_size]; exact HLO.out.stops y hm
      have zz : ((⟨#[115, 116, 111, 112, 32]⟩ : ByteArray) ++ ba y).size ≤ 1048581 := by rw [ByteArray.size_append]; exact Nat.add_le_add (Nat.le_of_eq rfl) zy
      have HO := Lib.hid ho
      have HB := Lib.hid hb
      have E := Lib.hid hE
      have hlen : (ln0 x ++ (x.stops.take k).map stopL).length ≤ 1025 := by
        rw [List.length_append, List.length_map, List.length_take]
        omega
      have q1 : (0 : Int) ≤ (k : Int) := by omega
      have q2 : (k : Int) < (x.stops.length : Int) := by omega
      clear ho hb e2 e3 hxx hst hye hm hE
      have HSZ := Lib.hid (show w1.heap.size ≤ wr.heap.size from HB.out.size)
      go_wp2_with (rw [HCA.out]; at_builtin; refine wpList_append_sl _ rfl _ _ _ rfl w1.heap.size 9 i0 _ 16 Tryz.underlying22 hi0 hz0 hz1 hz2 rfl (by omega) nc_len nc_one _ _ (ln0 x ++ (x.stops.take k).map stopL) [stopL y] rfl rfl (HO.out.alloc _) (Sl.new1 (stopL y) rfl) (by simp only [maxLen, List.length_cons, List.length_nil]; omega) (by simp only [List.length_cons, List.length_nil]; omega) (by have := HSZ.out; simp; omega) ?_; intro v1 w4 hown1 hg1 hmv1)
      go_roundg (x.stops.length - (k + 1))
      case measure => omega
      case rel => exact ⟨k + 1, by omega, by omega, by go_num, by rw [E.out]; exact hown1, app_keep HB.out HSZ.out HO.out hg1⟩
    · have hke : k = x.stops.length := by omega
      subst hke
      rw [List.take_length] at ho
      have ho0 : Ow nc 1 wr w1.heap.size 9 _ (ln1 x) := ho
      have hB := hb
      have q1 : ¬ (x.stops.length : Int) < (x.stops.length : Int) := Int.lt_irrefl _
      clear ho hb hlt hk hgg
      have HO1 := Lib.hid ho0
      have HB1 := Lib.hid hB
      clear ho0 hB
      go_wp2_with fail
      go_loopg [5, 3] x.paths.length (fun gg s v wx => ∃ k : Nat, k ≤ x.paths.length ∧ x.paths.length - k ≤ gg ∧ s = .int .i64 k ∧ Ow nc 1 wx w1.heap.size 9 v (ln1 x ++ (x.paths.take k).map pathL) ∧ Below w1.heap.size w1 wx)
      case atStart => exact ⟨0, Nat.zero_le _, by omega, rfl, by rw [List.take_zero, List.map_nil, List.append_nil]; exact HO1.out, HB1.out⟩
      case round =>
        clear HO1 HB1
        obtain ⟨k, hk, hgg, rfl, ho, hb⟩ := hrel
        obtain ⟨c0, c1, c2, c3, c4, c5, c6⟩ := CELLS.out wr (HS1.out.below hb HLT.out)
        by_cases hlt : k < x.paths.length
        · have hst := HG1.out.paths
          rw [HEP.out] at hst
          obtain ⟨b1, o1, p1, e1, _, _, hl1, _, hxx⟩ := hst.at_ hlt
          injection e1 with e1 e2 e3
          subst e1
          have hm : x.paths[k] ∈ x.paths := List.getElem_mem hlt
          have hE : ln1 x ++ (x.paths.take (k + 1)).map pathL = (ln1 x ++ (x.paths.take k).map pathL) ++ [pathL x.paths[k]] := by rw [take_map_succ _ _ _ hlt, List.append_assoc]
          obtain ⟨y, hye⟩ : ∃ y, x.paths[k] = y := ⟨_, rfl⟩
          rw [hye] at hxx hm hE
          have hx0 : wr.cell? ⟨b1, o1 + k * 4, none⟩ = some (.string (ba y.name)) := (hb.cell (p := ⟨b1, o1 + k * 4, none⟩) hl1).trans (by simpa using hxx 0 _ rfl)
          have hx1 : wr.cell? ⟨b1, o1 + k * 4 + 1, none⟩ = some (.string (ba y.a)) := (hb.cell (p := ⟨b1, o1 + k * 4 + 1, none⟩) hl1).trans (by simpa using hxx 1 _ rfl)
          have hx2 : wr.cell? ⟨b1, o1 + k * 4 + 2, none⟩ = some (.string (ba y.b)) := (hb.cell (p := ⟨b1, o1 + k * 4 + 2, none⟩) hl1).trans (by simpa using hxx 2 _ rfl)
          have hx3 : wr.cell? ⟨b1, o1 + k * 4 + 3, none⟩ = some (.int .i64 y.len) := (hb.cell (p := ⟨b1, o1 + k * 4 + 3, none⟩) hl1).trans (by simpa using hxx 3 _ rfl)
          have HCA := Lib.hid (path_sum y)
          have b0 : (ba y.name).size ≤ 1048576 := by rw [ba_size]; exact (HLO.out.paths y hm).1
          have b1 : (ba y.a).size ≤ 1048576 := by rw [ba_size]; exact (HLO.out.paths y hm).2.1
          have b2 : (ba y.b).size ≤ 1048576 := by rw [ba_size]; exact (HLO.out.paths y hm).2.2
          have b3 : (ba (dec y.len)).size ≤ 24 := by rw [ba_size]; exact dec_len24 ((HKI.out.paths y hm)).i64
          have z1 : ((⟨#[112, 97, 116, 104, 32]⟩ : ByteArray) ++ ba y.name : ByteArray).size ≤ 1048581 := by rw [ByteArray.size_append]; exact Nat.add_le_add (Nat.le_of_eq rfl) b0
          have z2 : ((⟨#[112, 97, 116, 104, 32]⟩ : ByteArray) ++ ba y.name ++ ⟨#[32]⟩ : ByteArray).size ≤ 1048582 := by rw [ByteArray.size_append]; exact Nat.add_le_add z1 (Nat.le_of_eq rfl)
          have z3 : ((⟨#[112, 97, 116, 104, 32]⟩ : ByteArray) ++ ba y.name ++ ⟨#[32]⟩ ++ ba y.a : ByteArray).size ≤ 2097158 := by rw [ByteArray.size_append]; exact Nat.add_le_add z2 b1
          have z4 : ((⟨#[112, 97, 116, 104, 32]⟩ : ByteArray) ++ ba y.name ++ ⟨#[32]⟩ ++ ba y.a ++ ⟨#[32]⟩ : ByteArray).size ≤ 2097159 := by rw [ByteArray.size_append]; exact Nat.add_le_add z3 (Nat.le_of_eq rfl)
          have z5 : ((⟨#[112, 97, 116, 104, 32]⟩ : ByteArray) ++ ba y.name ++ ⟨#[32]⟩ ++ ba y.a ++ ⟨#[32]⟩ ++ ba y.b : ByteArray).size ≤ 3145735 := by rw [ByteArray.size_append]; exact Nat.add_le_add z4 b2
          have z6 : ((⟨#[112, 97, 116, 104, 32]⟩ : ByteArray) ++ ba y.name ++ ⟨#[32]⟩ ++ ba y.a ++ ⟨#[32]⟩ ++ ba y.b ++ ⟨#[32]⟩ : ByteArray).size ≤ 3145736 := by rw [ByteArray.size_append]; exact Nat.add_le_add z5 (Nat.le_of_eq rfl)
          have z7 : ((⟨#[112, 97, 116, 104, 32]⟩ : ByteArray) ++ ba y.name ++ ⟨#[32]⟩ ++ ba y.a ++ ⟨#[32]⟩ ++ ba y.b ++ ⟨#[32]⟩ ++ ba (dec y.len) : ByteArray).size ≤ 3145760 := by rw [ByteArray.size_append]; exact Nat.add_le_add z6 b3
          have HK1 := Lib.hid (HKI.out.paths y hm)
          have HO := Lib.hid ho
          have HB := Lib.hid hb
          have E := Lib.hid hE
          have hlen : (ln1 x ++ (x.paths.take k).map pathL).length ≤ 2049 := by
            rw [List.length_append, List.length_map, List.length_take]
            omega
          have q1 : (0 : Int) ≤ (k : Int) := by omega
          have q2 : (k : Int) < (x.paths.length : Int) := by omega
          clear ho hb e2 e3 hxx hst hye hm hE
          go_upto_region 10 with fail
          obtain ⟨wq, hwq⟩ : ∃ wq, wr.alloc (.cells #[.string (ba y.name), .string (ba y.a), .string (ba y.b), .int .i64 y.len] 61) = wq := ⟨_, rfl⟩
          have hq1 : wq.heap[wr.heap.size]? = some (.cells #[.string (ba y.name), .string (ba y.a), .string (ba y.b), .int .i64 y.len] 61 (0, 0)) := by rw [← hwq]; exact heap_alloc_new _ _
          have HBQ := Lib.hid (show Below w1.heap.size w1 wq by rw [← hwq]; exact HB.out.alloc HB.out.size _)
          have HOQ := Lib.hid (show Ow nc 1 wq w1.heap.size 9 _ (ln1 x ++ (x.paths.take k).map pathL) by rw [← hwq]; exact HO.out.alloc _)
          have hlq : wr.heap.size < wq.heap.size := by rw [← hwq]; simp
          try rw [hwq]
          clear hwq
          have HC := Lib.hid (fun (wy : World) (hy : Below wq.heap.size wq wy) => (show wy.cell? ⟨wr.heap.size, 0, none⟩ = some (.string (ba y.name)) ∧ wy.cell? ⟨wr.heap.size, 1, none⟩ = some (.string (ba y.a)) ∧ wy.cell? ⟨wr.heap.size, 2, none⟩ = some (.string (ba y.b)) ∧ wy.cell? ⟨wr.heap.size, 3, none⟩ = some (.int .i64 y.len) ∧ True ∧ True ∧ True from ⟨(hy.cell (p := ⟨wr.heap.size, 0, none⟩) hlq).trans (Lib.cell_of_heap hq1 0), (hy.cell (p := ⟨wr.heap.size, 1, none⟩) hlq).trans (Lib.cell_of_heap hq1 1), (hy.cell (p := ⟨wr.heap.size, 2, none⟩) hlq).trans (Lib.cell_of_heap hq1 2), (hy.cell (p := ⟨wr.heap.size, 3, none⟩) hlq).trans (Lib.cell_of_heap hq1 3), trivial, trivial, trivial⟩))
          clear hq1 hlq c0 c1 c2 c3 c4 c5 c6 hx0 hx1 hx2 hx3
          have hSw : Below wq.heap.size wq wq := Below.refl _ _
          refine wp_region_kinds (fun wy => Below wq.heap.size wq wy) [15, 17] [18] [2, 6, 10, 14] [0, 1, 3, 4, 5, 7, 8, 9, 11, 12, 13, 16, 19] [0, 1, 2, 3, 4, 5, 6, 7, 8, 9, 10, 11, 12, 13, 14, 15, 16, 17, 18, 19] (by kernel_rfl) (by kernel_rfl) (fun w n h => below_drewN h n) ?_
          repeat (first | (refine wpKind_free (v := ?_) (by rfl) rfl (by rfl) ?_ ?_; rotate_left 1; (focus (intro wy; go_simp; rw [if_neg (by omega)]; done)); try simp only [Act.put, List.setIfInBounds_toArray, List.set_cons_zero, List.set_cons_succ]) | (refine wpKind_free (v := ?_) (by rfl) rfl (by rfl) ?_ ?_; rotate_left 1; (focus (intro wy; go_simp; try with_reducible rfl; done)); try simp only [Act.put, List.setIfInBounds_toArray, List.set_cons_zero, List.set_cons_succ]) | (refine wpKind_held (v := ?_) (by rfl) rfl (by rfl) hSw ?_ ?_; rotate_left 1; (focus (intro wy hSy; obtain ⟨s0, s1, s2, s3, s4, s5, s6⟩ := HC.out wy hSy; go_simp; try with_reducible rfl; done)); try simp only [Act.put, List.setIfInBounds_toArray, List.set_cons_zero, List.set_cons_succ]))
          refine wpKind_keeps (by rfl) rfl (fun n1 => ?_)
          go_wp2_with fail
          refine (kdig_any y.len HK1.out (wq.drewN n1)).mono ?_
          rintro e wz1 ⟨rfl, hb⟩
          have hSw2 : Below wq.heap.size wq wz1 := (below_drewN hSw n1).trans (hb.mono (by exact hSw.size))
          clear hb hSw
          go_wp2_with fail
          show _ ∧ _
          refine ⟨hSw2, ?_⟩
          have hSw := hSw2
          clear hSw2
          repeat (first | (refine wpKind_free (v := ?_) (by rfl) rfl (by rfl) ?_ ?_; rotate_left 1; (focus (intro wy; go_simp; rw [if_neg (by omega)]; done)); try simp only [Act.put, List.setIfInBounds_toArray, List.set_cons_zero, List.set_cons_succ]) | (refine wpKind_free (v := ?_) (by rfl) rfl (by rfl) ?_ ?_; rotate_left 1; (focus (intro wy; go_simp; try with_reducible rfl; done)); try simp only [Act.put, List.setIfInBounds_toArray, List.set_cons_zero, List.set_cons_succ]) | (refine wpKind_held (v := ?_) (by rfl) rfl (by rfl) hSw ?_ ?_; rotate_left 1; (focus (intro wy hSy; obtain ⟨s0, s1, s2, s3, s4, s5, s6⟩ := HC.out wy hSy; go_simp; try with_reducible rfl; done)); try simp only [Act.put, List.setIfInBounds_toArray, List.set_cons_zero, List.set_cons_succ]))
          rw [HCA.out]
          have HOA := Lib.hid (Ow.below HOQ.out hSw fun q hq => (HOQ.out.lt hq).2)
          have HBA := Lib.hid (HBQ.out.trans (hSw.mono HBQ.out.size))
          have HSZ := Lib.hid (show w1.heap.size ≤ wz1.heap.size from HBA.out.size)
          refine wpKind_keeps (by rfl) rfl (fun n7 => ?_)
          go_wp2_with fail
          show _ ∧ _
          refine ⟨(below_drewN hSw n7).alloc (by exact hSw.size) _, ?_⟩
          clear hSw z1 z2 z3 z4 z5 z6 z7
          refine wpKind_serial (by rfl) rfl (fun n8 => ?_)
          go_wp2_with (at_builtin; refine wpList_append_sl _ rfl _ _ _ rfl w1.heap.size 9 i0 _ 16 Tryz.underlying22 hi0 hz0 hz1 hz2 rfl (by omega) nc_len nc_one _ _ (ln1 x ++ (x.paths.take k).map pathL) [pathL y] rfl rfl (((HOA.out.drewN n7).alloc _).drewN n8) ((Sl.new1 (pathL y) rfl).drewN n8) (by simp only [maxLen, List.length_cons, List.length_nil]; omega) (by simp only [List.length_cons, List.length_nil]; omega) (by have := HSZ.out; simp; omega) ?_; intro v1 w4 hown1 hg1 hmv1)
          have HB4 := Lib.hid (show Below w1.heap.size w1 w4 from app_keep (w := (wz1.drewN n7).drewN n8) (below_drewN (below_drewN HBA.out n7) n8) HSZ.out ((HOA.out.drewN n7).drewN n8) hg1)
          have HO4 := Lib.hid hown1
          clear hg1 hmv1 hown1
          repeat (first | (refine wpKind_free (v := ?_) (by rfl) rfl (by rfl) ?_ ?_; rotate_left 1; (focus (intro wy; go_simp; try with_reducible rfl; done)); try simp only [Act.put, List.setIfInBounds_toArray, List.set_cons_zero, List.set_cons_succ]) | (refine wpKind_held (v := ?_) (by rfl) rfl (by rfl) hSw ?_ ?_; rotate_left 1; (focus (intro wy hSy; obtain ⟨s0, s1, s2, s3, s4, s5, s6⟩ := HC.out wy hSy; go_simp; try with_reducible rfl; done)); try simp only [Act.put, List.setIfInBounds_toArray, List.set_cons_zero, List.set_cons_succ]))
          refine wpKind_nil fun n9 => ?_
          go_wp2_with fail
          go_roundg (x.paths.length - (k + 1))
          case measure => omega
          case rel => exact ⟨k + 1, by omega, by omega, by go_num, by rw [E.out]; exact HO4.out.drewN n9, below_drewN HB4.out n9⟩
        · have hke : k = x.paths.length := by omega
          subst hke
          rw [List.take_length] at ho
          have ho0 : Ow nc 1 wr w1.heap.size 9 _ (ln2 x) := ho
          have hB := hb
          have q1 : ¬ (x.paths.length : Int) < (x.paths.length : Int) := Int.lt_irrefl _
          clear ho hb hlt hk hgg
          have HO2 := Lib.hid ho0
          have HB2 := Lib.hid hB
          clear ho0 hB
          go_wp2_with fail
          go_loopg [7, 3] x.doors.length (fun gg s v wx => ∃ k : Nat, k ≤ x.doors.length ∧ x.doors.length - k ≤ gg ∧ s = .int .i64 k ∧ Ow nc 1 wx w1.heap.size 9 v (ln2 x ++ (x.doors.take k).map doorL) ∧ Below w1.heap.size w1 wx)
          case atStart => exact ⟨0, Nat.zero_le _, by omega, rfl, by rw [List.take_zero, List.map_nil, List.append_nil]; exact HO2.out, HB2.out⟩
          case round =>
            clear HO2 HB2
            obtain ⟨k, hk, hgg, rfl, ho, hb⟩ := hrel
            obtain ⟨c0, c1, c2, c3, c4, c5, c6⟩ := CELLS.out wr (HS1.out.below hb HLT.out)
            by_cases hlt : k < x.doors.length
            · have hst := HG1.out.doors
              rw [HED.out] at hst
              obtain ⟨b1, o1, p1, e1, _, _, hl1, _, hxx⟩ := hst.at_ hlt
              injection e1 with e1 e2 e3
              subst e1
              have hm : x.doors[k] ∈ x.doors := List.getElem_mem hlt
              have hE : ln2 x ++ (x.doors.take (k + 1)).map doorL = (ln2 x ++ (x.doors.take k).map doorL) ++ [doorL x.doors[k]] := by rw [take_map_succ _ _ _ hlt, List.append_assoc]
              obtain ⟨y, hye⟩ : ∃ y, x.doors[k] = y := ⟨_, rfl⟩
              rw [hye] at hxx hm hE
              have hx0 : wr.cell? ⟨b1, o1 + k * 7, none⟩ = some (.string (ba y.name)) := (hb.cell (p := ⟨b1, o1 + k * 7, none⟩) hl1).trans (by simpa using hxx 0 _ rfl)
              have hx1 : wr.cell? ⟨b1, o1 + k * 7 + 1, none⟩ = some (.string (ba y.a)) := (hb.cell (p := ⟨b1, o1 + k * 7 + 1, none⟩) hl1).trans (by simpa using hxx 1 _ rfl)
              have hx2 : wr.cell? ⟨b1, o1 + k * 7 + 2, none⟩ = some (.string (ba y.b)) := (hb.cell (p := ⟨b1, o1 + k * 7 + 2, none⟩) hl1).trans (by simpa using hxx 2 _ rfl)
              have hx3 : wr.cell? ⟨b1, o1 + k * 7 + 3, none⟩ = some (.int .i64 y.len) := (hb.cell (p := ⟨b1, o1 + k * 7 + 3, none⟩) hl1).trans (by simpa using hxx 3 _ rfl)
              have hx4 : wr.cell? ⟨b1, o1 + k * 7 + 4, none⟩ = some (.int .i64 y.times.start) := (hb.cell (p := ⟨b1, o1 + k * 7 + 4, none⟩) hl1).trans (by simpa using hxx 4 _ rfl)
              have hx5 : wr.cell? ⟨b1, o1 + k * 7 + 5, none⟩ = some (.int .i64 y.times.every) := (hb.cell (p := ⟨b1, o1 + k * 7 + 5, none⟩) hl1).trans (by simpa using hxx 5 _ rfl)
              have hx6 : wr.cell? ⟨b1, o1 + k * 7 + 6, none⟩ = some (.int .i64 y.times.len) := (hb.cell (p := ⟨b1, o1 + k * 7 + 6, none⟩) hl1).trans (by simpa using hxx 6 _ rfl)
              have HCA := Lib.hid (door_sum y)
              have b0 : (ba y.name).size ≤ 1048576 := by rw [ba_size]; exact (HLO.out.doors y hm).1
              have b1 : (ba y.a).size ≤ 1048576 := by rw [ba_size]; exact (HLO.out.doors y hm).2.1
              have b2 : (ba y.b).size ≤ 1048576 := by rw [ba_size]; exact (HLO.out.doors y hm).2.2
              have b3 : (ba (dec y.len)).size ≤ 24 := by rw [ba_size]; exact dec_len24 ((HKI.out.doors y hm).1).i64
              have b4 : (ba (32 :: timesL y.times kOpen)).size ≤ 151 := by rw [ba_size, List.length_cons]; exact Nat.succ_le_succ (timesL_le ((HKI.out.doors y hm).2).fit (by decide))
              have z1 : ((⟨#[100, 111, 111, 114, 32]⟩ : ByteArray) ++ ba y.name : ByteArray).size ≤ 1048581 := by rw [ByteArray.size_append]; exact Nat.add_le_add (Nat.le_of_eq rfl) b0
              have z2 : ((⟨#[100, 111, 111, 114, 32]⟩ : ByteArray) ++ ba y.name ++ ⟨#[32]⟩ : ByteArray).size ≤ 1048582 := by rw [ByteArray.size_append]; exact Nat.add_le_add z1 (Nat.le_of_eq rfl)
              have z3 : ((⟨#[100, 111, 111, 114, 32]⟩ : ByteArray) ++ ba y.name ++ ⟨#[32]⟩ ++ ba y.a : ByteArray).size ≤ 2097158 := by rw [ByteArray.size_append]; exact Nat.add_le_add z2 b1
              have z4 : ((⟨#[100, 111, 111, 114, 32]⟩ : ByteArray) ++ ba y.name ++ ⟨#[32]⟩ ++ ba y.a ++ ⟨#[32]⟩ : ByteArray).size ≤ 2097159 := by rw [ByteArray.size_append]; exact Nat.add_le_add z3 (Nat.le_of_eq rfl)
              have z5 : ((⟨#[100, 111, 111, 114, 32]⟩ : ByteArray) ++ ba y.name ++ ⟨#[32]⟩ ++ ba y.a ++ ⟨#[32]⟩ ++ ba y.b : ByteArray).size ≤ 3145735 := by rw [ByteArray.size_append]; exact Nat.add_le_add z4 b2
              have z6 : ((⟨#[100, 111, 111, 114, 32]⟩ : ByteArray) ++ ba y.name ++ ⟨#[32]⟩ ++ ba y.a ++ ⟨#[32]⟩ ++ ba y.b ++ ⟨#[32]⟩ : ByteArray).size ≤ 3145736 := by rw [ByteArray.size_append]; exact Nat.add_le_add z5 (Nat.le_of_eq rfl)
              have z7 : ((⟨#[100, 111, 111, 114, 32]⟩ : ByteArray) ++ ba y.name ++ ⟨#[32]⟩ ++ ba y.a ++ ⟨#[32]⟩ ++ ba y.b ++ ⟨#[32]⟩ ++ ba (dec y.len) : ByteArray).size ≤ 3145760 := by rw [ByteArray.size_append]; exact Nat.add_le_add z6 b3
              have z8 : ((⟨#[100, 111, 111, 114, 32]⟩ : ByteArray) ++ ba y.name ++ ⟨#[32]⟩ ++ ba y.a ++ ⟨#[32]⟩ ++ ba y.b ++ ⟨#[32]⟩ ++ ba (dec y.len) ++ ba (32 :: timesL y.times kOpen) : ByteArray).size ≤ 3145911 := by rw [ByteArray.size_append]; exact Nat.add_le_add z7 b4
              have HK1 := Lib.hid (HKI.out.doors y hm).1
              have HK2 := Lib.hid (HKI.out.doors y hm).2
              have HO := Lib.hid ho
              have HB := Lib.hid hb
              have E := Lib.hid hE
              have hlen : (ln2 x ++ (x.doors.take k).map doorL).length ≤ 3073 := by
                rw [List.length_append, List.length_map, List.length_take]
                omega
              have q1 : (0 : Int) ≤ (k : Int) := by omega
              have q2 : (k : Int) < (x.doors.length : Int) := by omega
              clear ho hb e2 e3 hxx hst hye hm hE
              go_upto_region 15 with fail
              obtain ⟨wq, hwq⟩ : ∃ wq, wr.alloc (.cells #[.string (ba y.name), .string (ba y.a), .string (ba y.b), .int .i64 y.len, .int .i64 y.times.start, .int .i64 y.times.every, .int .i64 y.times.len] 50) = wq := ⟨_, rfl⟩
              have hq1 : wq.heap[wr.heap.size]? = some (.cells #[.string (ba y.name), .string (ba y.a), .string (ba y.b), .int .i64 y.len, .int .i64 y.times.start, .int .i64 y.times.every, .int .i64 y.times.len] 50 (0, 0)) := by rw [← hwq]; exact heap_alloc_new _ _
              have HBQ := Lib.hid (show Below w1.heap.size w1 wq by rw [← hwq]; exact HB.out.alloc HB.out.size _)
              have HOQ := Lib.hid (show Ow nc 1 wq w1.heap.size 9 _ (ln2 x ++ (x.doors.take k).map doorL) by rw [← hwq]; exact HO.out.alloc _)
              have hlq : wr.heap.size < wq.heap.size := by rw [← hwq]; simp
              try rw [hwq]
              clear hwq
              have HC := Lib.hid (fun (wy : World) (hy : Below wq.heap.size wq wy) => (show wy.cell? ⟨wr.heap.size, 0, none⟩ = some (.string (ba y.name)) ∧ wy.cell? ⟨wr.heap.size, 1, none⟩ = some (.string (ba y.a)) ∧ wy.cell? ⟨wr.heap.size, 2, none⟩ = some (.string (ba y.b)) ∧ wy.cell? ⟨wr.heap.size, 3, none⟩ = some (.int .i64 y.len) ∧ wy.cell? ⟨wr.heap.size, 4, none⟩ = some (.int .i64 y.times.start) ∧ wy.cell? ⟨wr.heap.size, 5, none⟩ = some (.int .i64 y.times.every) ∧ wy.cell? ⟨wr.heap.size, 6, none⟩ = some (.int .i64 y.times.len) from ⟨(hy.cell (p := ⟨wr.heap.size, 0, none⟩) hlq).trans (Lib.cell_of_heap hq1 0), (hy.cell (p := ⟨wr.heap.size, 1, none⟩) hlq).trans (Lib.cell_of_heap hq1 1), (hy.cell (p := ⟨wr.heap.size, 2, none⟩) hlq).trans (Lib.cell_of_heap hq1 2), (hy.cell (p := ⟨wr.heap.size, 3, none⟩) hlq).trans (Lib.cell_of_heap hq1 3), (hy.cell (p := ⟨wr.heap.size, 4, none⟩) hlq).trans (Lib.cell_of_heap hq1 4), (hy.cell (p := ⟨wr.heap.size, 5, none⟩) hlq).trans (Lib.cell_of_heap hq1 5), (hy.cell (p := ⟨wr.heap.size, 6, none⟩) hlq).trans (Lib.cell_of_heap hq1 6)⟩))
              clear hq1 hlq c0 c1 c2 c3 c4 c5 c6 hx0 hx1 hx2 hx3 hx4 hx5 hx6
              have hSw : Below wq.heap.size wq wq := Below.refl _ _
              refine wp_region_kinds (fun wy => Below wq.heap.size wq wy) [15, 19, 21] [22] [2, 6, 10, 14, 18] [0, 1, 3, 4, 5, 7, 8, 9, 11, 12, 13, 16, 17, 20, 23] [0, 1, 2, 3, 4, 5, 6, 7, 8, 9, 10, 11, 12, 13, 14, 17, 18, 15, 16, 19, 20, 21, 22, 23] (by kernel_rfl) (by kernel_rfl) (fun w n h => below_drewN h n) ?_
              repeat (first | (refine wpKind_free (v := ?_) (by rfl) rfl (by rfl) ?_ ?_; rotate_left 1; (focus (intro wy; go_simp; rw [if_neg (by omega)]; done)); try simp only [Act.put, List.setIfInBounds_toArray, List.set_cons_zero, List.set_cons_succ]) | (refine wpKind_free (v := ?_) (by rfl) rfl (by rfl) ?_ ?_; rotate_left 1; (focus (intro wy; go_simp; try with_reducible rfl; done)); try simp only [Act.put, List.setIfInBounds_toArray, List.set_cons_zero, List.set_cons_succ]) | (refine wpKind_held (v := ?_) (by rfl) rfl (by rfl) hSw ?_ ?_; rotate_left 1; (focus (intro wy hSy; obtain ⟨s0, s1, s2, s3, s4, s5, s6⟩ := HC.out wy hSy; go_simp; try with_reducible rfl; done)); try simp only [Act.put, List.setIfInBounds_toArray, List.set_cons_zero, List.set_cons_succ]))
              refine wpKind_keeps (by rfl) rfl (fun n1 => ?_)
              go_wp2_with fail
              refine (kdig_any y.len HK1.out (wq.drewN n1)).mono ?_
              rintro e wz1 ⟨rfl, hb⟩
              have hSw2 : Below wq.heap.size wq wz1 := (below_drewN hSw n1).trans (hb.mono (by exact hSw.size))
              clear hb hSw
              go_wp2_with fail
              show _ ∧ _
              refine ⟨hSw2, ?_⟩
              have hSw := hSw2
              clear hSw2
              repeat (first | (refine wpKind_free (v := ?_) (by rfl) rfl (by rfl) ?_ ?_; rotate_left 1; (focus (intro wy; go_simp; rw [if_neg (by omega)]; done)); try simp only [Act.put, List.setIfInBounds_toArray, List.set_cons_zero, List.set_cons_succ]) | (refine wpKind_free (v := ?_) (by rfl) rfl (by rfl) ?_ ?_; rotate_left 1; (focus (intro wy; go_simp; try with_reducible rfl; done)); try simp only [Act.put, List.setIfInBounds_toArray, List.set_cons_zero, List.set_cons_succ]) | (refine wpKind_held (v := ?_) (by rfl) rfl (by rfl) hSw ?_ ?_; rotate_left 1; (focus (intro wy hSy; obtain ⟨s0, s1, s2, s3, s4, s5, s6⟩ := HC.out wy hSy; go_simp; try with_reducible rfl; done)); try simp only [Act.put, List.setIfInBounds_toArray, List.set_cons_zero, List.set_cons_succ]))
              refine wpKind_keeps (by rfl) rfl (fun n2 => ?_)
              go_wp2_with fail
              refine (kwhen_any (wz1.drewN n2) y.times kOpen HK2.out (by decide)).mono ?_
              rintro e wz2 ⟨rfl, hb⟩
              have hSw2 : Below wq.heap.size wq wz2 := (below_drewN hSw n2).trans (hb.mono (by exact hSw.size))
              clear hb hSw
              go_wp2_with fail
              show _ ∧ _
              refine ⟨hSw2, ?_⟩
              have hSw := hSw2
              clear hSw2
              repeat (first | (refine wpKind_free (v := ?_) (by rfl) rfl (by rfl) ?_ ?_; rotate_left 1; (focus (intro wy; go_simp; rw [if_neg (by omega)]; done)); try simp only [Act.put, List.setIfInBounds_toArray, List.set_cons_zero, List.set_cons_succ]) | (refine wpKind_free (v := ?_) (by rfl) rfl (by rfl) ?_ ?_; rotate_left 1; (focus (intro wy; go_simp; try with_reducible rfl; done)); try simp only [Act.put, List.setIfInBounds_toArray, List.set_cons_zero, List.set_cons_succ]) | (refine wpKind_held (v := ?_) (by rfl) rfl (by rfl) hSw ?_ ?_; rotate_left 1; (focus (intro wy hSy; obtain ⟨s0, s1, s2, s3, s4, s5, s6⟩ := HC.out wy hSy; go_simp; try with_reducible rfl; done)); try simp only [Act.put, List.setIfInBounds_toArray, List.set_cons_zero, List.set_cons_succ]))
              rw [HCA.out]
              have HOA := Lib.hid (Ow.below HOQ.out hSw fun q hq => (HOQ.out.lt hq).2)
              have HBA := Lib.hid (HBQ.out.trans (hSw.mono HBQ.out.size))
              have HSZ := Lib.hid (show w1.heap.size ≤ wz2.heap.size from HBA.out.size)
              refine wpKind_keeps (by rfl) rfl (fun n7 => ?_)
              go_wp2_with fail
              show _ ∧ _
              refine ⟨(below_drewN hSw n7).alloc (by exact hSw.size) _, ?_⟩
              clear hSw z1 z2 z3 z4 z5 z6 z7 z8
              refine wpKind_serial (by rfl) rfl (fun n8 => ?_)
              go_wp2_with (at_builtin; refine wpList_append_sl _ rfl _ _ _ rfl w1.heap.size 9 i0 _ 16 Tryz.underlying22 hi0 hz0 hz1 hz2 rfl (by omega) nc_len nc_one _ _ (ln2 x ++ (x.doors.take k).map doorL) [doorL y] rfl rfl (((HOA.out.drewN n7).alloc _).drewN n8) ((Sl.new1 (doorL y) rfl).drewN n8) (by simp only [maxLen, List.length_cons, List.length_nil]; omega) (by simp only [List.length_cons, List.length_nil]; omega) (by have := HSZ.out; simp; omega) ?_; intro v1 w4 hown1 hg1 hmv1)
              have HB4 := Lib.hid (show Below w1.heap.size w1 w4 from app_keep (w := (wz2.drewN n7).drewN n8) (below_drewN (below_drewN HBA.out n7) n8) HSZ.out ((HOA.out.drewN n7).drewN n8) hg1)
              have HO4 := Lib.hid hown1
              clear hg1 hmv1 hown1
              repeat (first | (refine wpKind_free (v := ?_) (by rfl) rfl (by rfl) ?_ ?_; rotate_left 1; (focus (intro wy; go_simp; try with_reducible rfl; done)); try simp only [Act.put, List.setIfInBounds_toArray, List.set_cons_zero, List.set_cons_succ]) | (refine wpKind_held (v := ?_) (by rfl) rfl (by rfl) hSw ?_ ?_; rotate_left 1; (focus (intro wy hSy; obtain ⟨s0, s1, s2, s3, s4, s5, s6⟩ := HC.out wy hSy; go_simp; try with_reducible rfl; done)); try simp only [Act.put, List.setIfInBounds_toArray, List.set_cons_zero, List.set_cons_succ]))
              refine wpKind_nil fun n9 => ?_
              go_wp2_with fail
              go_roundg (x.doors.length - (k + 1))
              case measure => omega
              case rel => exact ⟨k + 1, by omega, by omega, by go_num, by rw [E.out]; exact HO4.out.drewN n9, below_drewN HB4.out n9⟩
            · have hke : k = x.doors.length := by omega
              subst hke
              rw [List.take_length] at ho
              have ho0 : Ow nc 1 wr w1.heap.size 9 _ (ln3 x) := ho
              have hB := hb
              have q1 : ¬ (x.doors.length : Int) < (x.doors.length : Int) := Int.lt_irrefl _
              clear ho hb hlt hk hgg
              have HO3 := Lib.hid ho0
              have HB3 := Lib.hid hB
              clear ho0 hB
              go_wp2_with fail
              go_loopg [9, 3] x.routes.length (fun gg s v wx => ∃ k : Nat, k ≤ x.routes.length ∧ x.routes.length - k ≤ gg ∧ s = .int .i64 k ∧ Ow nc 1 wx w1.heap.size 9 v (ln3 x ++ (x.routes.take k).map (fun r : RouteM => routeL r.d)) ∧ Below w1.heap.size w1 wx)
              case atStart => exact ⟨0, Nat.zero_le _, by omega, rfl, by rw [List.take_zero, List.map_nil, List.append_nil]; exact HO3.out, HB3.out⟩
              case round =>
                clear HO3 HB3
                obtain ⟨k, hk, hgg, rfl, ho, hb⟩ := hrel
                obtain ⟨c0, c1, c2, c3, c4, c5, c6⟩ := CELLS.out wr (HS1.out.below hb HLT.out)
                by_cases hlt : k < x.routes.length
                · have hst := HG1.out.routes
                  rw [HER.out] at hst
                  obtain ⟨b1, o1, p1, e1, _, _, hl1, _, hxx⟩ := hst.at_ hlt
                  injection e1 with e1 e2 e3
                  subst e1
                  have hm : x.routes[k] ∈ x.routes := List.getElem_mem hlt
                  have hE : ln3 x ++ (x.routes.take (k + 1)).map (fun r : RouteM => routeL r.d) = (ln3 x ++ (x.routes.take k).map (fun r : RouteM => routeL r.d)) ++ [(fun r : RouteM => routeL r.d) x.routes[k]] := by rw [take_map_succ _ _ _ hlt, List.append_assoc]
                  obtain ⟨y, hye⟩ : ∃ y, x.routes[k] = y := ⟨_, rfl⟩
                  rw [hye] at hxx hm hE
                  have hx0 : wr.cell? ⟨b1, o1 + k * 4, none⟩ = some (.string (ba y.name)) := (hb.cell (p := ⟨b1, o1 + k * 4, none⟩) hl1).trans (by simpa using hxx 0 _ rfl)
                  have hx1 : wr.cell? ⟨b1, o1 + k * 4 + 1, none⟩ = some (y.vs) := (hb.cell (p := ⟨b1, o1 + k * 4 + 1, none⟩) hl1).trans (by simpa using hxx 1 _ rfl)
                  have hx2 : wr.cell? ⟨b1, o1 + k * 4 + 2, none⟩ = some (y.vr) := (hb.cell (p := ⟨b1, o1 + k * 4 + 2, none⟩) hl1).trans (by simpa using hxx 2 _ rfl)
                  have hx3 : wr.cell? ⟨b1, o1 + k * 4 + 3, none⟩ = some (y.vy) := (hb.cell (p := ⟨b1, o1 + k * 4 + 3, none⟩) hl1).trans (by simpa using hxx 3 _ rfl)
                  have hgy := HG1.out.each y hm
                  obtain ⟨Ax1, cx1, ex1, _, _⟩ := hgy.stops.shape
                  obtain ⟨Ax2, cx2, ex2, _, _⟩ := hgy.rides.shape
                  obtain ⟨Ax3, cx3, ex3, _, _⟩ := hgy.stays.shape
                  have hca := kalong_any wr y (hgy.below_ hb) (HKI.out.routes y hm) (HLO.out.routes y hm)
                  unfold rc at hca
                  rw [ex1, ex2, ex3] at hca
                  rw [ex1] at hx1
                  rw [ex2] at hx2
                  rw [ex3] at hx3
                  clear ex1 ex2 ex3 hgy
                  have HCA := Lib.hid hca
                  clear hca
                  have HO := Lib.hid ho
                  have HB := Lib.hid hb
                  have E := Lib.hid hE
                  have hlen : (ln3 x ++ (x.routes.take k).map (fun r : RouteM => routeL r.d)).length ≤ 4097 := by
                    rw [List.length_append, List.length_map, List.length_take]
                    omega
                  have q1 : (0 : Int) ≤ (k : Int) := by omega
                  have q2 : (k : Int) < (x.routes.length : Int) := by omega
                  clear ho hb e2 e3 hxx hst hye hm hE
                  go_wp2_with fail
                  refine HCA.out.mono ?_
                  rintro e w5 ⟨rfl, hb5⟩
                  have HO5 := Lib.hid (Ow.below HO.out hb5 fun q hq => (HO.out.lt hq).2)
                  have HB5 := Lib.hid (HB.out.trans (hb5.mono HB.out.size))
                  have HSZ := Lib.hid (show w1.heap.size ≤ w5.heap.size from HB5.out.size)
                  clear hb5 HCA
                  go_wp2_with (at_builtin; refine wpList_append_sl _ rfl _ _ _ rfl w1.heap.size 9 i0 _ 16 Tryz.underlying22 hi0 hz0 hz1 hz2 rfl (by omega) nc_len nc_one _ _ (ln3 x ++ (x.routes.take k).map (fun r : RouteM => routeL r.d)) [routeL y.d] rfl rfl (HO5.out.alloc _) (Sl.new1 (routeL y.d) rfl) (by simp only [maxLen, List.length_cons, List.length_nil]; omega) (by simp only [List.length_cons, List.length_nil]; omega) (by have := HSZ.out; simp; omega) ?_; intro v1 w4 hown1 hg1 hmv1)
                  go_roundg (x.routes.length - (k + 1))
                  case measure => omega
                  case rel => exact ⟨k + 1, by omega, by omega, by go_num, by rw [E.out]; exact hown1, app_keep HB5.out HSZ.out HO5.out hg1⟩
                · have hke : k = x.routes.length := by omega
                  subst hke
                  rw [List.take_length] at ho
                  have ho0 : Ow nc 1 wr w1.heap.size 9 _ (ln4 x) := ho
                  have hB := hb
                  have q1 : ¬ (x.routes.length : Int) < (x.routes.length : Int) := Int.lt_irrefl _
                  clear ho hb hlt hk hgg
                  have HO4 := Lib.hid ho0
                  have HB4 := Lib.hid hB
                  clear ho0 hB
                  go_wp2_with fail
                  go_loopg [10, 3] x.trips.length (fun gg s v wx => ∃ k : Nat, k ≤ x.trips.length ∧ x.trips.length - k ≤ gg ∧ s = .int .i64 k ∧ Ow nc 1 wx w1.heap.size 9 v (ln4 x ++ (x.trips.take k).map tripL) ∧ Below w1.heap.size w1 wx)
                  case atStart => exact ⟨0, Nat.zero_le _, by omega, rfl, by rw [List.take_zero, List.map_nil, List.append_nil]; exact HO4.out, HB4.out⟩
                  case round =>
                    clear HO4 HB4
                    obtain ⟨k, hk, hgg, rfl, ho, hb⟩ := hrel
                    obtain ⟨c0, c1, c2, c3, c4, c5, c6⟩ := CELLS.out wr (HS1.out.below hb HLT.out)
                    by_cases hlt : k < x.trips.length
                    · have hst := HG1.out.trips
                      rw [HET.out] at hst
                      obtain ⟨b1, o1, p1, e1, _, _, hl1, _, hxx⟩ := hst.at_ hlt
                      injection e1 with e1 e2 e3
                      subst e1
                      have hm : x.trips[k] ∈ x.trips := List.getElem_mem hlt
                      have hE : ln4 x ++ (x.trips.take (k + 1)).map tripL = (ln4 x ++ (x.trips.take k).map tripL) ++ [tripL x.trips[k]] := by rw [take_map_succ _ _ _ hlt, List.append_assoc]
                      obtain ⟨y, hye⟩ : ∃ y, x.trips[k] = y := ⟨_, rfl⟩
                      rw [hye] at hxx hm hE
                      have hx0 : wr.cell? ⟨b1, o1 + k * 5, none⟩ = some (.string (ba y.name)) := (hb.cell (p := ⟨b1, o1 + k * 5, none⟩) hl1).trans (by simpa using hxx 0 _ rfl)
                      have hx1 : wr.cell? ⟨b1, o1 + k * 5 + 1, none⟩ = some (.string (ba y.route)) := (hb.cell (p := ⟨b1, o1 + k * 5 + 1, none⟩) hl1).trans (by simpa using hxx 1 _ rfl)
                      have hx2 : wr.cell? ⟨b1, o1 + k * 5 + 2, none⟩ = some (.int .i64 y.start) := (hb.cell (p := ⟨b1, o1 + k * 5 + 2, none⟩) hl1).trans (by simpa using hxx 2 _ rfl)
                      have hx3 : wr.cell? ⟨b1, o1 + k * 5 + 3, none⟩ = some (.int .i64 y.every) := (hb.cell (p := ⟨b1, o1 + k * 5 + 3, none⟩) hl1).trans (by simpa using hxx 3 _ rfl)
                      have hx4 : wr.cell? ⟨b1, o1 + k * 5 + 4, none⟩ = some (.int .i64 y.stop) := (hb.cell (p := ⟨b1, o1 + k * 5 + 4, none⟩) hl1).trans (by simpa using hxx 4 _ rfl)
                      have HCA := Lib.hid (trip_sum y)
                      have b0 : (ba y.name).size ≤ 1048576 := by rw [ba_size]; exact (HLO.out.trips y hm).1
                      have b1 : (ba y.route).size ≤ 1048576 := by rw [ba_size]; exact (HLO.out.trips y hm).2
                      have b2 : (ba (dec y.start)).size ≤ 24 := by rw [ba_size]; exact dec_len24 ((HKI.out.trips y hm).1).i64
                      have b3 : (ba (dec y.every)).size ≤ 24 := by rw [ba_size]; exact dec_len24 ((HKI.out.trips y hm).2.1).i64
                      have b4 : (ba (dec y.stop)).size ≤ 24 := by rw [ba_size]; exact dec_len24 ((HKI.out.trips y hm).2.2).i64
                      have z1 : ((⟨#[116, 114, 105, 112, 32]⟩ : ByteArray) ++ ba y.name : ByteArray).size ≤ 1048581 := by rw [ByteArray.size_append]; exact Nat.add_le_add (Nat.le_of_eq rfl) b0
                      have z2 : ((⟨#[116, 114, 105, 112, 32]⟩ : ByteArray) ++ ba y.name ++ ⟨#[32, 111, 102, 32]⟩ : ByteArray).size ≤ 1048585 := by rw [ByteArray.size_append]; exact Nat.add_le_add z1 (Nat.le_of_eq rfl)
                      have z3 : ((⟨#[116, 114, 105, 112, 32]⟩ : ByteArray) ++ ba y.name ++ ⟨#[32, 111, 102, 32]⟩ ++ ba y.route : ByteArray).size ≤ 2097161 := by rw [ByteArray.size_append]; exact Nat.add_le_add z2 b1
                      have z4 : ((⟨#[116, 114, 105, 112, 32]⟩ : ByteArray) ++ ba y.name ++ ⟨#[32, 111, 102, 32]⟩ ++ ba y.route ++ ⟨#[32, 102, 114, 111, 109, 32]⟩ : ByteArray).size ≤ 2097167 := by rw [ByteArray.size_append]; exact Nat.add_le_add z3 (Nat.le_of_eq rfl)
                      have z5 : ((⟨#[116, 114, 105, 112, 32]⟩ : ByteArray) ++ ba y.name ++ ⟨#[32, 111, 102, 32]⟩ ++ ba y.route ++ ⟨#[32, 102, 114, 111, 109, 32]⟩ ++ ba (dec y.start) : ByteArray).size ≤ 2097191 := by rw [ByteArray.size_append]; exact Nat.add_le_add z4 b2
                      have z6 : ((⟨#[116, 114, 105, 112, 32]⟩ : ByteArray) ++ ba y.name ++ ⟨#[32, 111, 102, 32]⟩ ++ ba y.route ++ ⟨#[32, 102, 114, 111, 109, 32]⟩ ++ ba (dec y.start) ++ ⟨#[32, 101, 118, 101, 114, 121, 32]⟩ : ByteArray).size ≤ 2097198 := by rw [ByteArray.size_append]; exact Nat.add_le_add z5 (Nat.le_of_eq rfl)
                      have z7 : ((⟨#[116, 114, 105, 112, 32]⟩ : ByteArray) ++ ba y.name ++ ⟨#[32, 111, 102, 32]⟩ ++ ba y.route ++ ⟨#[32, 102, 114, 111, 109, 32]⟩ ++ ba (dec y.start) ++ ⟨#[32, 101, 118, 101, 114, 121, 32]⟩ ++ ba (dec y.every) : ByteArray).size ≤ 2097222 := by rw [ByteArray.size_append]; exact Nat.add_le_add z6 b3
                      have z8 : ((⟨#[116, 114, 105, 112, 32]⟩ : ByteArray) ++ ba y.name ++ ⟨#[32, 111, 102, 32]⟩ ++ ba y.route ++ ⟨#[32, 102, 114, 111, 109, 32]⟩ ++ ba (dec y.start) ++ ⟨#[32, 101, 118, 101, 114, 121, 32]⟩ ++ ba (dec y.every) ++ ⟨#[32, 117, 110, 116, 105, 108, 32]⟩ : ByteArray).size ≤ 2097229 := by rw [ByteArray.size_append]; exact Nat.add_le_add z7 (Nat.le_of_eq rfl)
                      have z9 : ((⟨#[116, 114, 105, 112, 32]⟩ : ByteArray) ++ ba y.name ++ ⟨#[32, 111, 102, 32]⟩ ++ ba y.route ++ ⟨#[32, 102, 114, 111, 109, 32]⟩ ++ ba (dec y.start) ++ ⟨#[32, 101, 118, 101, 114, 121, 32]⟩ ++ ba (dec y.every) ++ ⟨#[32, 117, 110, 116, 105, 108, 32]⟩ ++ ba (dec y.stop) : ByteArray).size ≤ 2097253 := by rw [ByteArray.size_append]; exact Nat.add_le_add z8 b4
                      have HK1 := Lib.hid (HKI.out.trips y hm).1
                      have HK2 := Lib.hid (HKI.out.trips y hm).2.1
                      have HK3 := Lib.hid (HKI.out.trips y hm).2.2
                      have HO := Lib.hid ho
                      have HB := Lib.hid hb
                      have E := Lib.hid hE
                      have hlen : (ln4 x ++ (x.trips.take k).map tripL).length ≤ 5121 := by
                        rw [List.length_append, List.length_map, List.length_take]
                        omega
                      have q1 : (0 : Int) ≤ (k : Int) := by omega
                      have q2 : (k : Int) < (x.trips.length : Int) := by omega
                      clear ho hb e2 e3 hxx hst hye hm hE
                      go_upto_region 24 with fail
                      obtain ⟨wq, hwq⟩ : ∃ wq, wr.alloc (.cells #[.string (ba y.name), .string (ba y.route), .int .i64 y.start, .int .i64 y.every, .int .i64 y.stop] 52) = wq := ⟨_, rfl⟩
                      have hq1 : wq.heap[wr.heap.size]? = some (.cells #[.string (ba y.name), .string (ba y.route), .int .i64 y.start, .int .i64 y.every, .int .i64 y.stop] 52 (0, 0)) := by rw [← hwq]; exact heap_alloc_new _ _
                      have HBQ := Lib.hid (show Below w1.heap.size w1 wq by rw [← hwq]; exact HB.out.alloc HB.out.size _)
                      have HOQ := Lib.hid (show Ow nc 1 wq w1.heap.size 9 _ (ln4 x ++ (x.trips.take k).map tripL) by rw [← hwq]; exact HO.out.alloc _)
                      have hlq : wr.heap.size < wq.heap.size := by rw [← hwq]; simp
                      try rw [hwq]
                      clear hwq
                      have HC := Lib.hid (fun (wy : World) (hy : Below wq.heap.size wq wy) => (show wy.cell? ⟨wr.heap.size, 0, none⟩ = some (.string (ba y.name)) ∧ wy.cell? ⟨wr.heap.size, 1, none⟩ = some (.string (ba y.route)) ∧ wy.cell? ⟨wr.heap.size, 2, none⟩ = some (.int .i64 y.start) ∧ wy.cell? ⟨wr.heap.size, 3, none⟩ = some (.int .i64 y.every) ∧ wy.cell? ⟨wr.heap.size, 4, none⟩ = some (.int .i64 y.stop) ∧ True ∧ True from ⟨(hy.cell (p := ⟨wr.heap.size, 0, none⟩) hlq).trans (Lib.cell_of_heap hq1 0), (hy.cell (p := ⟨wr.heap.size, 1, none⟩) hlq).trans (Lib.cell_of_heap hq1 1), (hy.cell (p := ⟨wr.heap.size, 2, none⟩) hlq).trans (Lib.cell_of_heap hq1 2), (hy.cell (p := ⟨wr.heap.size, 3, none⟩) hlq).trans (Lib.cell_of_heap hq1 3), (hy.cell (p := ⟨wr.heap.size, 4, none⟩) hlq).trans (Lib.cell_of_heap hq1 4), trivial, trivial⟩))
                      clear hq1 hlq c0 c1 c2 c3 c4 c5 c6 hx0 hx1 hx2 hx3 hx4
                      have hSw : Below wq.heap.size wq wq := Below.refl _ _
                      refine wp_region_kinds (fun wy => Below wq.heap.size wq wy) [11, 16, 21, 23] [24] [2, 6, 10, 15, 20] [0, 1, 3, 4, 5, 7, 8, 9, 12, 13, 14, 17, 18, 19, 22, 25] [0, 1, 2, 3, 4, 5, 6, 7, 8, 9, 10, 14, 15, 19, 20, 11, 12, 13, 16, 17, 18, 21, 22, 23, 24, 25] (by kernel_rfl) (by kernel_rfl) (fun w n h => below_drewN h n) ?_
                      repeat (first | (refine wpKind_free (v := ?_) (by rfl) rfl (by rfl) ?_ ?_; rotate_left 1; (focus (intro wy; go_simp; rw [if_neg (by omega)]; done)); try simp only [Act.put, List.setIfInBounds_toArray, List.set_cons_zero, List.set_cons_succ]) | (refine wpKind_free (v := ?_) (by rfl) rfl (by rfl) ?_ ?_; rotate_left 1; (focus (intro wy; go_simp; try with_reducible rfl; done)); try simp only [Act.put, List.setIfInBounds_toArray, List.set_cons_zero, List.set_cons_succ]) | (refine wpKind_held (v := ?_) (by rfl) rfl (by rfl) hSw ?_ ?_; rotate_left 1; (focus (intro wy hSy; obtain ⟨s0, s1, s2, s3, s4, s5, s6⟩ := HC.out wy hSy; go_simp; try with_reducible rfl; done)); try simp only [Act.put, List.setIfInBounds_toArray, List.set_cons_zero, List.set_cons_succ]))
                      refine wpKind_keeps (by rfl) rfl (fun n1 => ?_)
                      go_wp2_with fail
                      refine (kdig_any y.start HK1.out (wq.drewN n1)).mono ?_
                      rintro e wz1 ⟨rfl, hb⟩
                      have hSw2 : Below wq.heap.size wq wz1 := (below_drewN hSw n1).trans (hb.mono (by exact hSw.size))
                      clear hb hSw
                      go_wp2_with fail
                      show _ ∧ _
                      refine ⟨hSw2, ?_⟩
                      have hSw := hSw2
                      clear hSw2
                      repeat (first | (refine wpKind_free (v := ?_) (by rfl) rfl (by rfl) ?_ ?_; rotate_left 1; (focus (intro wy; go_simp; rw [if_neg (by omega)]; done)); try simp only [Act.put, List.setIfInBounds_toArray, List.set_cons_zero, List.set_cons_succ]) | (refine wpKind_free (v := ?_) (by rfl) rfl (by rfl) ?_ ?_; rotate_left 1; (focus (intro wy; go_simp; try with_reducible rfl; done)); try simp only [Act.put, List.setIfInBounds_toArray, List.set_cons_zero, List.set_cons_succ]) | (refine wpKind_held (v := ?_) (by rfl) rfl (by rfl) hSw ?_ ?_; rotate_left 1; (focus (intro wy hSy; obtain ⟨s0, s1, s2, s3, s4, s5, s6⟩ := HC.out wy hSy; go_simp; try with_reducible rfl; done)); try simp only [Act.put, List.setIfInBounds_toArray, List.set_cons_zero, List.set_cons_succ]))
                      refine wpKind_keeps (by rfl) rfl (fun n2 => ?_)
                      go_wp2_with fail
                      refine (kdig_any y.every HK2.out (wz1.drewN n2)).mono ?_
                      rintro e wz2 ⟨rfl, hb⟩
                      have hSw2 : Below wq.heap.size wq wz2 := (below_drewN hSw n2).trans (hb.mono (by exact hSw.size))
                      clear hb hSw
                      go_wp2_with fail
                      show _ ∧ _
                      refine ⟨hSw2, ?_⟩
                      have hSw := hSw2
                      clear hSw2
                      repeat (first | (refine wpKind_free (v := ?_) (by rfl) rfl (by rfl) ?_ ?_; rotate_left 1; (focus (intro wy; go_simp; rw [if_neg (by omega)]; done)); try simp only [Act.put, List.setIfInBounds_toArray, List.set_cons_zero, List.set_cons_succ]) | (refine wpKind_free (v := ?_) (by rfl) rfl (by rfl) ?_ ?_; rotate_left 1; (focus (intro wy; go_simp; try with_reducible rfl; done)); try simp only [Act.put, List.setIfInBounds_toArray, List.set_cons_zero, List.set_cons_succ]) | (refine wpKind_held (v := ?_) (by rfl) rfl (by rfl) hSw ?_ ?_; rotate_left 1; (focus (intro wy hSy; obtain ⟨s0, s1, s2, s3, s4, s5, s6⟩ := HC.out wy hSy; go_simp; try with_reducible rfl; done)); try simp only [Act.put, List.setIfInBounds_toArray, List.set_cons_zero, List.set_cons_succ]))
                      refine wpKind_keeps (by rfl) rfl (fun n3 => ?_)
                      go_wp2_with fail
                      refine (kdig_any y.stop HK3.out (wz2.drewN n3)).mono ?_
                      rintro e wz3 ⟨rfl, hb⟩
                      have hSw2 : Below wq.heap.size wq wz3 := (below_drewN hSw n3).trans (hb.mono (by exact hSw.size))
                      clear hb hSw
                      go_wp2_with fail
                      show _ ∧ _
                      refine ⟨hSw2, ?_⟩
                      have hSw := hSw2
                      clear hSw2
                      repeat (first | (refine wpKind_free (v := ?_) (by rfl) rfl (by rfl) ?_ ?_; rotate_left 1; (focus (intro wy; go_simp; rw [if_neg (by omega)]; done)); try simp only [Act.put, List.setIfInBounds_toArray, List.set_cons_zero, List.set_cons_succ]) | (refine wpKind_free (v := ?_) (by rfl) rfl (by rfl) ?_ ?_; rotate_left 1; (focus (intro wy; go_simp; try with_reducible rfl; done)); try simp only [Act.put, List.setIfInBounds_toArray, List.set_cons_zero, List.set_cons_succ]) | (refine wpKind_held (v := ?_) (by rfl) rfl (by rfl) hSw ?_ ?_; rotate_left 1; (focus (intro wy hSy; obtain ⟨s0, s1, s2, s3, s4, s5, s6⟩ := HC.out wy hSy; go_simp; try with_reducible rfl; done)); try simp only [Act.put, List.setIfInBounds_toArray, List.set_cons_zero, List.set_cons_succ]))
                      rw [HCA.out]
                      have HOA := Lib.hid (Ow.below HOQ.out hSw fun q hq => (HOQ.out.lt hq).2)
                      have HBA := Lib.hid (HBQ.out.trans (hSw.mono HBQ.out.size))
                      have HSZ := Lib.hid (show w1.heap.size ≤ wz3.heap.size from HBA.out.size)
                      refine wpKind_keeps (by rfl) rfl (fun n7 => ?_)
                      go_wp2_with fail
                      show _ ∧ _
                      refine ⟨(below_drewN hSw n7).alloc (by exact hSw.size) _, ?_⟩
                      clear hSw z1 z2 z3 z4 z5 z6 z7 z8 z9
                      refine wpKind_serial (by rfl) rfl (fun n8 => ?_)
                      go_wp2_with (at_builtin; refine wpList_append_sl _ rfl _ _ _ rfl w1.heap.size 9 i0 _ 16 Tryz.underlying22 hi0 hz0 hz1 hz2 rfl (by omega) nc_len nc_one _ _ (ln4 x ++ (x.trips.take k).map tripL) [tripL y] rfl rfl (((HOA.out.drewN n7).alloc _).drewN n8) ((Sl.new1 (tripL y) rfl).drewN n8) (by simp only [maxLen, List.length_cons, List.length_nil]; omega) (by simp only [List.length_cons, List.length_nil]; omega) (by have := HSZ.out; simp; omega) ?_; intro v1 w4 hown1 hg1 hmv1)
                      have HB4 := Lib.hid (show Below w1.heap.size w1 w4 from app_keep (w := (wz3.drewN n7).drewN n8) (below_drewN (below_drewN HBA.out n7) n8) HSZ.out ((HOA.out.drewN n7).drewN n8) hg1)
                      have HO4 := Lib.hid hown1
                      clear hg1 hmv1 hown1
                      repeat (first | (refine wpKind_free (v := ?_) (by rfl) rfl (by rfl) ?_ ?_; rotate_left 1; (focus (intro wy; go_simp; try with_reducible rfl; done)); try simp only [Act.put, List.setIfInBounds_toArray, List.set_cons_zero, List.set_cons_succ]) | (refine wpKind_held (v := ?_) (by rfl) rfl (by rfl) hSw ?_ ?_; rotate_left 1; (focus (intro wy hSy; obtain ⟨s0, s1, s2, s3, s4, s5, s6⟩ := HC.out wy hSy; go_simp; try with_reducible rfl; done)); try simp only [Act.put, List.setIfInBounds_toArray, List.set_cons_zero, List.set_cons_succ]))
                      refine wpKind_nil fun n9 => ?_
                      go_wp2_with fail
                      go_roundg (x.trips.length - (k + 1))
                      case measure => omega
                      case rel => exact ⟨k + 1, by omega, by omega, by go_num, by rw [E.out]; exact HO4.out.drewN n9, below_drewN HB4.out n9⟩
                    · have hke : k = x.trips.length := by omega
                      subst hke
                      rw [List.take_length] at ho
                      have ho0 : Ow nc 1 wr w1.heap.size 9 _ (ln5 x) := ho
                      have hB := hb
                      have q1 : ¬ (x.trips.length : Int) < (x.trips.length : Int) := Int.lt_irrefl _
                      clear ho hb hlt hk hgg
                      have HO5 := Lib.hid ho0
                      have HB5 := Lib.hid hB
                      clear ho0 hB
                      go_wp2_with fail
                      go_loopg [12, 3] x.hazs.length (fun gg s v wx => ∃ k : Nat, k ≤ x.hazs.length ∧ x.hazs.length - k ≤ gg ∧ s = .int .i64 k ∧ Ow nc 1 wx w1.heap.size 9 v (ln5 x ++ (x.hazs.take k).map hazL) ∧ Below w1.heap.size w1 wx)
                      case atStart => exact ⟨0, Nat.zero_le _, by omega, rfl, by rw [List.take_zero, List.map_nil, List.append_nil]; exact HO5.out, HB5.out⟩
                      case round =>
                        clear HO5 HB5
                        obtain ⟨k, hk, hgg, rfl, ho, hb⟩ := hrel
                        obtain ⟨c0, c1, c2, c3, c4, c5, c6⟩ := CELLS.out wr (HS1.out.below hb HLT.out)
                        by_cases hlt : k < x.hazs.length
                        · have hst := HG1.out.hazs
                          rw [HEH.out] at hst
                          obtain ⟨b1, o1, p1, e1, _, _, hl1, _, hxx⟩ := hst.at_ hlt
                          injection e1 with e1 e2 e3
                          subst e1
                          have hm : x.hazs[k] ∈ x.hazs := List.getElem_mem hlt
                          have hE : ln5 x ++ (x.hazs.take (k + 1)).map hazL = (ln5 x ++ (x.hazs.take k).map hazL) ++ [hazL x.hazs[k]] := by rw [take_map_succ _ _ _ hlt, List.append_assoc]
                          obtain ⟨y, hye⟩ : ∃ y, x.hazs[k] = y := ⟨_, rfl⟩
                          rw [hye] at hxx hm hE
                          have hx0 : wr.cell? ⟨b1, o1 + k * 5, none⟩ = some (.string (ba y.name)) := (hb.cell (p := ⟨b1, o1 + k * 5, none⟩) hl1).trans (by simpa using hxx 0 _ rfl)
                          have hx1 : wr.cell? ⟨b1, o1 + k * 5 + 1, none⟩ = some (.string (ba y.on)) := (hb.cell (p := ⟨b1, o1 + k * 5 + 1, none⟩) hl1).trans (by simpa using hxx 1 _ rfl)
                          have hx2 : wr.cell? ⟨b1, o1 + k * 5 + 2, none⟩ = some (.int .i64 y.times.start) := (hb.cell (p := ⟨b1, o1 + k * 5 + 2, none⟩) hl1).trans (by simpa using hxx 2 _ rfl)
                          have hx3 : wr.cell? ⟨b1, o1 + k * 5 + 3, none⟩ = some (.int .i64 y.times.every) := (hb.cell (p := ⟨b1, o1 + k * 5 + 3, none⟩) hl1).trans (by simpa using hxx 3 _ rfl)
                          have hx4 : wr.cell? ⟨b1, o1 + k * 5 + 4, none⟩ = some (.int .i64 y.times.len) := (hb.cell (p := ⟨b1, o1 + k * 5 + 4, none⟩) hl1).trans (by simpa using hxx 4 _ rfl)
                          have HCA := Lib.hid (haz_sum y)
                          have b0 : (ba y.name).size ≤ 1048576 := by rw [ba_size]; exact (HLO.out.hazs y hm).1
                          have b1 : (ba y.on).size ≤ 1048576 := by rw [ba_size]; exact (HLO.out.hazs y hm).2
                          have b2 : (ba (32 :: timesL y.times kClosed)).size ≤ 151 := by rw [ba_size, List.length_cons]; exact Nat.succ_le_succ (timesL_le ((HKI.out.hazs y hm)).fit (by decide))
                          have z1 : ((⟨#[104, 97, 122, 97, 114, 100, 32]⟩ : ByteArray) ++ ba y.name : ByteArray).size ≤ 1048583 := by rw [ByteArray.size_append]; exact Nat.add_le_add (Nat.le_of_eq rfl) b0
                          have z2 : ((⟨#[104, 97, 122, 97, 114, 100, 32]⟩ : ByteArray) ++ ba y.name ++ ⟨#[32, 111, 110, 32]⟩ : ByteArray).size ≤ 1048587 := by rw [ByteArray.size_append]; exact Nat.add_le_add z1 (Nat.le_of_eq rfl)
                          have z3 : ((⟨#[104, 97, 122, 97, 114, 100, 32]⟩ : ByteArray) ++ ba y.name ++ ⟨#[32, 111, 110, 32]⟩ ++ ba y.on : ByteArray).size ≤ 2097163 := by rw [ByteArray.size_append]; exact Nat.add_le_add z2 b1
                          have z4 : ((⟨#[104, 97, 122, 97, 114, 100, 32]⟩ : ByteArray) ++ ba y.name ++ ⟨#[32, 111, 110, 32]⟩ ++ ba y.on ++ ba (32 :: timesL y.times kClosed) : ByteArray).size ≤ 2097314 := by rw [ByteArray.size_append]; exact Nat.add_le_add z3 b2
                          have HK1 := Lib.hid (HKI.out.hazs y hm)
                          have HO := Lib.hid ho
                          have HB := Lib.hid hb
                          have E := Lib.hid hE
                          have hlen : (ln5 x ++ (x.hazs.take k).map hazL).length ≤ 6145 := by
                            rw [List.length_append, List.length_map, List.length_take]
                            omega
                          have q1 : (0 : Int) ≤ (k : Int) := by omega
                          have q2 : (k : Int) < (x.hazs.length : Int) := by omega
                          clear ho hb e2 e3 hxx hst hye hm hE
                          go_upto_region 29 with fail
                          obtain ⟨wq, hwq⟩ : ∃ wq, wr.alloc (.cells #[.string (ba y.name), .string (ba y.on), .int .i64 y.times.start, .int .i64 y.times.every, .int .i64 y.times.len] 54) = wq := ⟨_, rfl⟩
                          have hq1 : wq.heap[wr.heap.size]? = some (.cells #[.string (ba y.name), .string (ba y.on), .int .i64 y.times.start, .int .i64 y.times.every, .int .i64 y.times.len] 54 (0, 0)) := by rw [← hwq]; exact heap_alloc_new _ _
                          have HBQ := Lib.hid (show Below w1.heap.size w1 wq by rw [← hwq]; exact HB.out.alloc HB.out.size _)
                          have HOQ := Lib.hid (show Ow nc 1 wq w1.heap.size 9 _ (ln5 x ++ (x.hazs.take k).map hazL) by rw [← hwq]; exact HO.out.alloc _)
                          have hlq : wr.heap.size < wq.heap.size := by rw [← hwq]; simp
                          try rw [hwq]
                          clear hwq
                          have HC := Lib.hid (fun (wy : World) (hy : Below wq.heap.size wq wy) => (show wy.cell? ⟨wr.heap.size, 0, none⟩ = some (.string (ba y.name)) ∧ wy.cell? ⟨wr.heap.size, 1, none⟩ = some (.string (ba y.on)) ∧ wy.cell? ⟨wr.heap.size, 2, none⟩ = some (.int .i64 y.times.start) ∧ wy.cell? ⟨wr.heap.size, 3, none⟩ = some (.int .i64 y.times.every) ∧ wy.cell? ⟨wr.heap.size, 4, none⟩ = some (.int .i64 y.times.len) ∧ True ∧ True from ⟨(hy.cell (p := ⟨wr.heap.size, 0, none⟩) hlq).trans (Lib.cell_of_heap hq1 0), (hy.cell (p := ⟨wr.heap.size, 1, none⟩) hlq).trans (Lib.cell_of_heap hq1 1), (hy.cell (p := ⟨wr.heap.size, 2, none⟩) hlq).trans (Lib.cell_of_heap hq1 2), (hy.cell (p := ⟨wr.heap.size, 3, none⟩) hlq).trans (Lib.cell_of_heap hq1 3), (hy.cell (p := ⟨wr.heap.size, 4, none⟩) hlq).trans (Lib.cell_of_heap hq1 4), trivial, trivial⟩))
                          clear hq1 hlq c0 c1 c2 c3 c4 c5 c6 hx0 hx1 hx2 hx3 hx4
                          have hSw : Below wq.heap.size wq wq := Below.refl _ _
                          refine wp_region_kinds (fun wy => Below wq.heap.size wq wy) [10, 12] [13] [2, 6, 9] [0, 1, 3, 4, 5, 7, 8, 11, 14] [0, 1, 2, 3, 4, 5, 6, 7, 8, 9, 10, 11, 12, 13, 14] (by kernel_rfl) (by kernel_rfl) (fun w n h => below_drewN h n) ?_
                          repeat (first | (refine wpKind_free (v := ?_) (by rfl) rfl (by rfl) ?_ ?_; rotate_left 1; (focus (intro wy; go_simp; rw [if_neg (by omega)]; done)); try simp only [Act.put, List.setIfInBounds_toArray, List.set_cons_zero, List.set_cons_succ]) | (refine wpKind_free (v := ?_) (by rfl) rfl (by rfl) ?_ ?_; rotate_left 1; (focus (intro wy; go_simp; try with_reducible rfl; done)); try simp only [Act.put, List.setIfInBounds_toArray, List.set_cons_zero, List.set_cons_succ]) | (refine wpKind_held (v := ?_) (by rfl) rfl (by rfl) hSw ?_ ?_; rotate_left 1; (focus (intro wy hSy; obtain ⟨s0, s1, s2, s3, s4, s5, s6⟩ := HC.out wy hSy; go_simp; try with_reducible rfl; done)); try simp only [Act.put, List.setIfInBounds_toArray, List.set_cons_zero, List.set_cons_succ]))
                          refine wpKind_keeps (by rfl) rfl (fun n1 => ?_)
                          go_wp2_with fail
                          refine (kwhen_any (wq.drewN n1) y.times kClosed HK1.out (by decide)).mono ?_
                          rintro e wz1 ⟨rfl, hb⟩
                          have hSw2 : Below wq.heap.size wq wz1 := (below_drewN hSw n1).trans (hb.mono (by exact hSw.size))
                          clear hb hSw
                          go_wp2_with fail
                          show _ ∧ _
                          refine ⟨hSw2, ?_⟩
                          have hSw := hSw2
                          clear hSw2
                          repeat (first | (refine wpKind_free (v := ?_) (by rfl) rfl (by rfl) ?_ ?_; rotate_left 1; (focus (intro wy; go_simp; rw [if_neg (by omega)]; done)); try simp only [Act.put, List.setIfInBounds_toArray, List.set_cons_zero, List.set_cons_succ]) | (refine wpKind_free (v := ?_) (by rfl) rfl (by rfl) ?_ ?_; rotate_left 1; (focus (intro wy; go_simp; try with_reducible rfl; done)); try simp only [Act.put, List.setIfInBounds_toArray, List.set_cons_zero, List.set_cons_succ]) | (refine wpKind_held (v := ?_) (by rfl) rfl (by rfl) hSw ?_ ?_; rotate_left 1; (focus (intro wy hSy; obtain ⟨s0, s1, s2, s3, s4, s5, s6⟩ := HC.out wy hSy; go_simp; try with_reducible rfl; done)); try simp only [Act.put, List.setIfInBounds_toArray, List.set_cons_zero, List.set_cons_succ]))
                          rw [HCA.out]
                          have HOA := Lib.hid (Ow.below HOQ.out hSw fun q hq => (HOQ.out.lt hq).2)
                          have HBA := Lib.hid (HBQ.out.trans (hSw.mono HBQ.out.size))
                          have HSZ := Lib.hid (show w1.heap.size ≤ wz1.heap.size from HBA.out.size)
                          refine wpKind_keeps (by rfl) rfl (fun n7 => ?_)
                          go_wp2_with fail
                          show _ ∧ _
                          refine ⟨(below_drewN hSw n7).alloc (by exact hSw.size) _, ?_⟩
                          clear hSw z1 z2 z3 z4
                          refine wpKind_serial (by rfl) rfl (fun n8 => ?_)
                          go_wp2_with (at_builtin; refine wpList_append_sl _ rfl _ _ _ rfl w1.heap.size 9 i0 _ 16 Tryz.underlying22 hi0 hz0 hz1 hz2 rfl (by omega) nc_len nc_one _ _ (ln5 x ++ (x.hazs.take k).map hazL) [hazL y] rfl rfl (((HOA.out.drewN n7).alloc _).drewN n8) ((Sl.new1 (hazL y) rfl).drewN n8) (by simp only [maxLen, List.length_cons, List.length_nil]; omega) (by simp only [List.length_cons, List.length_nil]; omega) (by have := HSZ.out; simp; omega) ?_; intro v1 w4 hown1 hg1 hmv1)
                          have HB4 := Lib.hid (show Below w1.heap.size w1 w4 from app_keep (w := (wz1.drewN n7).drewN n8) (below_drewN (below_drewN HBA.out n7) n8) HSZ.out ((HOA.out.drewN n7).drewN n8) hg1)
                          have HO4 := Lib.hid hown1
                          clear hg1 hmv1 hown1
                          repeat (first | (refine wpKind_free (v := ?_) (by rfl) rfl (by rfl) ?_ ?_; rotate_left 1; (focus (intro wy; go_simp; try with_reducible rfl; done)); try simp only [Act.put, List.setIfInBounds_toArray, List.set_cons_zero, List.set_cons_succ]) | (refine wpKind_held (v := ?_) (by rfl) rfl (by rfl) hSw ?_ ?_; rotate_left 1; (focus (intro wy hSy; obtain ⟨s0, s1, s2, s3, s4, s5, s6⟩ := HC.out wy hSy; go_simp; try with_reducible rfl; done)); try simp only [Act.put, List.setIfInBounds_toArray, List.set_cons_zero, List.set_cons_succ]))
                          refine wpKind_nil fun n9 => ?_
                          go_wp2_with fail
                          go_roundg (x.hazs.length - (k + 1))
                          case measure => omega
                          case rel => exact ⟨k + 1, by omega, by omega, by go_num, by rw [E.out]; exact HO4.out.drewN n9, below_drewN HB4.out n9⟩
                        · have hke : k = x.hazs.length := by omega
                          subst hke
                          rw [List.take_length] at ho
                          have ho0 : Ow nc 1 wr w1.heap.size 9 _ (ln5 x ++ x.hazs.map hazL) := ho
                          have hB := hb
                          have q1 : ¬ (x.hazs.length : Int) < (x.hazs.length : Int) := Int.lt_irrefl _
                          clear ho hb hlt hk hgg
                          have HO := Lib.hid ho0
                          have HB := Lib.hid hB
                          clear ho0 hB
                          go_wp2_with fail
                          go_ret
                          exact ⟨_, rfl, by rw [← ln_eq]; exact HO.out.lower HB1.out.size, HB1.out.trans (HB.out.mono HB1.out.size)⟩
end Go.Proofs.YteonefgbdphmiaaGreatDoor
