/- The walk of timetableref06.Lines. Printed by wip/bin/genzg.py. -/
import Derived.Test.YtmihinhbcncbfaaGreatDoorZc
import Derived.Test.YtmihinhbcncbfaaGreatDoorZf
import Derived.Test.YtmihinhbcncbfaaGreatDoorTe
namespace Go.Proofs.YtmihinhbcncbfaaGreatDoor
open Go.RowKit
/-- Names that are short enough. -/
structure LowB (x : SheetM) : Prop where
  stops : ∀ s ∈ x.stops, Lo s
  paths : ∀ p ∈ x.paths, Lo p.name ∧ Lo p.a ∧ Lo p.b
  doors : ∀ p ∈ x.doors, Lo p.name ∧ Lo p.a ∧ Lo p.b
  routes : ∀ r ∈ x.routes, r.d.Low
  trips : ∀ t ∈ x.trips, Lo t.name ∧ Lo t.route
  hazs : ∀ h ∈ x.hazs, Lo h.name ∧ Lo h.on
theorem low_of (x : SheetM) (h : checkD x.d = 0) : LowB x := by
  obtain ⟨_, hn, _, hr⟩ := check_ok h
  have h24 : ∀ s, s ∈ namesD x.d → Lo s := fun s hs => Nat.le_trans (name_le (hn s hs)) (by decide)
  refine ⟨fun s hs => h24 _ (in_names (.inl hs)), fun p hp => ?_, fun p hp => ?_, fun r hr2 => ?_, fun t ht => ?_, fun t ht => ?_⟩
  · have h1 := fun s hs => h24 s (in_names (.inr (.inl ⟨p, hp, hs⟩)))
    exact ⟨h1 _ (by simp), h1 _ (by simp), h1 _ (by simp)⟩
  · have h1 := fun s hs => h24 s (in_names (.inr (.inr (.inl ⟨p, hp, hs⟩))))
    exact ⟨h1 _ (by simp), h1 _ (by simp), h1 _ (by simp)⟩
  · have hd : r.d ∈ x.d.routes := List.mem_map_of_mem hr2
    have h1 := fun s hs => h24 s (in_names (.inr (.inr (.inr (.inl ⟨r.d, hd, hs⟩)))))
    have h2 := hr r.d hd
    unfold okR at h2
    rw [decide_eq_true_eq] at h2
    exact ⟨h1 _ (by simp), fun s hs => h1 _ (by simp [hs]), by omega⟩
  · have h1 := fun s hs => h24 s (in_names (.inr (.inr (.inr (.inr (.inl ⟨t, ht, hs⟩))))))
    exact ⟨h1 _ (by simp), h1 _ (by simp)⟩
  · have h1 := fun s hs => h24 s (in_names (.inr (.inr (.inr (.inr (.inr ⟨t, ht, hs⟩))))))
    exact ⟨h1 _ (by simp), h1 _ (by simp)⟩
theorem take_map_succ {α β : Type} (f : α → β) (l : List α) (k : Nat) (h : k < l.length) : (l.take (k + 1)).map f = (l.take k).map f ++ [f l[k]] := by
  rw [take_succ_eq l k h, List.map_append]; rfl
def ln0 (x : SheetM) : Nms := [horL x.hor]
def ln1 (x : SheetM) : Nms := ln0 x ++ x.stops.map stopL
def ln2 (x : SheetM) : Nms := ln1 x ++ x.paths.map pathL
def ln3 (x : SheetM) : Nms := ln2 x ++ x.doors.map doorL
def ln4 (x : SheetM) : Nms := ln3 x ++ x.routes.map (fun r : RouteM => routeL r.d)
def ln5 (x : SheetM) : Nms := ln4 x ++ x.trips.map tripL
theorem ln_eq (x : SheetM) : ln5 x ++ x.hazs.map hazL = linesD x.d := by
  unfold ln5 ln4 ln3 ln2 ln1 ln0 linesD
  rw [show x.d.routes.map routeL = x.routes.map (fun r : RouteM => routeL r.d) from by
    show (x.routes.map RouteM.d).map routeL = _
    rw [List.map_map]; rfl]
  rfl
theorem ln_len (x : SheetM) (h : x.Few) : (ln0 x).length ≤ 1 ∧ (ln1 x).length ≤ 1025 ∧ (ln2 x).length ≤ 2049 ∧ (ln3 x).length ≤ 3073 ∧ (ln4 x).length ≤ 4097 ∧ (ln5 x).length ≤ 5121 := by
  have h0 := h.stops
  have h1 := h.paths
  have h2 := h.doors
  have h3 := h.routes
  have h4 := h.trips
  refine ⟨Nat.le_refl _, ?_⟩
  simp only [ln5, ln4, ln3, ln2, ln1, ln0, List.length_append, List.length_map, List.length_cons, List.length_nil]
  omega
set_option maxHeartbeats 4000000 in
set_option maxRecDepth 100000 in
theorem zlines_bad (w : World) (x : SheetM) {P : Nat → Prop} (hg : x.Good w P) (hf : x.Few) (hl : longD x.d = false) (hm : ∀ s ∈ namesD x.d, s.length ≤ maxLen) (hc : checkD x.d ≠ 0) :
    Calls Tryz.prog 13 #[x.v] w fun e w' => e = .returned (.tuple #[.slice none 0 0, .int .i64 (checkD x.d)]) ∧ Below w.heap.size w w' := by
  obtain ⟨w1, hw1⟩ : ∃ w1, w.alloc (.cells x.c.toArray 29) = w1 := ⟨_, rfl⟩
  have hS1 : SheetAt w.heap.size x w1 := by rw [← hw1]; exact SheetAt.of (heap_alloc_new _ _)
  have hb1 : Below w.heap.size w w1 := by rw [← hw1]; exact (Below.refl _ _).alloc (Nat.le_refl _) _
  have hlt : w.heap.size < w1.heap.size := by rw [← hw1]; simp
  have HB1 := Lib.hid hb1
  have HG1 := Lib.hid (hg.below_ hb1)
  have HS1 := Lib.hid hS1
  have HLT := Lib.hid hlt
  have HF := Lib.hid hf
  obtain ⟨As, cs, es, _, _⟩ := hg.stops.shape
  obtain ⟨Ap, cp, ep, _, _⟩ := hg.paths.shape
  obtain ⟨Ad, cd, ed, _, _⟩ := hg.doors.shape
  obtain ⟨Ar, cr, er, _, _⟩ := hg.routes.shape
  obtain ⟨At, ct, et, _, _⟩ := hg.trips.shape
  obtain ⟨Ah, ch, eh, _, _⟩ := hg.hazs.shape
  have n0 := hf.stops
  have n1 := hf.paths
  have n2 := hf.doors
  have n3 := hf.routes
  have n4 := hf.trips
  have n5 := hf.hazs
  have cells : ∀ wx, SheetAt w.heap.size x wx → wx.cell? ⟨w.heap.size, 0, none⟩ = some (.int .i64 x.hor) ∧ wx.cell? ⟨w.heap.size, 1, none⟩ = some (.slice As x.stops.length cs) ∧ wx.cell? ⟨w.heap.size, 2, none⟩ = some (.slice Ap x.paths.length cp) ∧ wx.cell? ⟨w.heap.size, 3, none⟩ = some (.slice Ad x.doors.length cd) ∧ wx.cell? ⟨w.heap.size, 4, none⟩ = some (.slice Ar x.routes.length cr) ∧ wx.cell? ⟨w.heap.size, 5, none⟩ = some (.slice At x.trips.length ct) ∧ wx.cell? ⟨w.heap.size, 6, none⟩ = some (.slice Ah x.hazs.length ch) := by
    rintro wx ⟨s0, s1, s2, s3, s4, s5, s6⟩
    rw [es] at s1
    rw [ep] at s2
    rw [ed] at s3
    rw [er] at s4
    rw [et] at s5
    rw [eh] at s6
    exact ⟨s0, s1, s2, s3, s4, s5, s6⟩
  have CELLS := Lib.hid cells
  have HES := Lib.hid es
  have HEP := Lib.hid ep
  have HED := Lib.hid ed
  have HER := Lib.hid er
  have HET := Lib.hid et
  have HEH := Lib.hid eh
  have hch := zcheck_any w1 x (hg.below_ hb1) hf hl hm
  unfold SheetM.v at hch ⊢
  unfold SheetM.c at hw1
  rw [es, ep, ed, er, et, eh] at hw1 hch
  rw [es, ep, ed, er, et, eh]
  obtain ⟨c0, c1, c2, c3, c4, c5, c6⟩ := cells w1 hS1
  have HCH := Lib.hid hch
  clear es ep ed er et eh hS1 hb1 hf hg cells hch hl hm
  clear HG1 HS1 HF CELLS HES HEP HED HER HET HEH
  generalize checkD x.d = q at *
  have hq : (q == 0) = false := beq_eq_false_iff_ne.2 hc
  have hq2 : (q != 0) = true := by rw [bne, hq]; rfl
  go_enter Tryz.func13, Tryz.ntmps13
  go_wp2_with fail
  clear c0 c1 c2 c3 c4 c5 c6 hw1
  refine HCH.out.mono ?_
  rintro e w2 ⟨rfl, hb2⟩
  have HB2 := Lib.hid (HB1.out.trans (hb2.mono HB1.out.size))
  clear hb2
  go_wp2_with fail
  go_ret2
  exact ⟨rfl, HB2.out⟩
set_option maxHeartbeats 8000000 in
set_option maxRecDepth 100000 in
theorem zlines_ok (w : World) (x : SheetM) {P : Nat → Prop} (hg : x.Good w P) (hf : x.Few) (hl : longD x.d = false) (hm : ∀ s ∈ namesD x.d, s.length ≤ maxLen) (hc : checkD x.d = 0) :
    Calls Tryz.prog 13 #[x.v] w fun e w' => ∃ v, e = .returned (.tuple #[v, .int .i64 0]) ∧ Ow nc 1 w' w.heap.size 9 v (linesD x.d) ∧ Below w.heap.size w w' := by
  obtain ⟨i0, hi0, hz0, hz1, hz2⟩ := info_parts info_string
  have HFI := Lib.hid (fine_of x hc)
  have HLO := Lib.hid (low_of x hc)
  obtain ⟨m0, m1, m2, m3, m4, m5⟩ := ln_len x hf
  obtain ⟨w1, hw1⟩ : ∃ w1, w.alloc (.cells x.c.toArray 29) = w1 := ⟨_, rfl⟩
  have hS1 : SheetAt w.heap.size x w1 := by rw [← hw1]; exact SheetAt.of (heap_alloc_new _ _)
  have hb1 : Below w.heap.size w w1 := by rw [← hw1]; exact (Below.refl _ _).alloc (Nat.le_refl _) _
  have hlt : w.heap.size < w1.heap.size := by rw [← hw1]; simp
  have HB1 := Lib.hid hb1
  have HG1 := Lib.hid (hg.below_ hb1)
  have HS1 := Lib.hid hS1
  have HLT := Lib.hid hlt
  have HF := Lib.hid hf
  obtain ⟨As, cs, es, _, _⟩ := hg.stops.shape
  obtain ⟨Ap, cp, ep, _, _⟩ := hg.paths.shape
  obtain ⟨Ad, cd, ed, _, _⟩ := hg.doors.shape
  obtain ⟨Ar, cr, er, _, _⟩ := hg.routes.shape
  obtain ⟨At, ct, et, _, _⟩ := hg.trips.shape
  obtain ⟨Ah, ch, eh, _, _⟩ := hg.hazs.shape
  have n0 := hf.stops
  have n1 := hf.paths
  have n2 := hf.doors
  have n3 := hf.routes
  have n4 := hf.trips
  have n5 := hf.hazs
  have cells : ∀ wx, SheetAt w.heap.size x wx → wx.cell? ⟨w.heap.size, 0, none⟩ = some (.int .i64 x.hor) ∧ wx.cell? ⟨w.heap.size, 1, none⟩ = some (.slice As x.stops.length cs) ∧ wx.cell? ⟨w.heap.size, 2, none⟩ = some (.slice Ap x.paths.length cp) ∧ wx.cell? ⟨w.heap.size, 3, none⟩ = some (.slice Ad x.doors.length cd) ∧ wx.cell? ⟨w.heap.size, 4, none⟩ = some (.slice Ar x.routes.length cr) ∧ wx.cell? ⟨w.heap.size, 5, none⟩ = some (.slice At x.trips.length ct) ∧ wx.cell? ⟨w.heap.size, 6, none⟩ = some (.slice Ah x.hazs.length ch) := by
    rintro wx ⟨s0, s1, s2, s3, s4, s5, s6⟩
    rw [es] at s1
    rw [ep] at s2
    rw [ed] at s3
    rw [er] at s4
    rw [et] at s5
    rw [eh] at s6
    exact ⟨s0, s1, s2, s3, s4, s5, s6⟩
  have CELLS := Lib.hid cells
  have HES := Lib.hid es
  have HEP := Lib.hid ep
  have HED := Lib.hid ed
  have HER := Lib.hid er
  have HET := Lib.hid et
  have HEH := Lib.hid eh
  have hch := zcheck_any w1 x (hg.below_ hb1) hf hl hm
  unfold SheetM.v at hch ⊢
  unfold SheetM.c at hw1
  rw [es, ep, ed, er, et, eh] at hw1 hch
  rw [es, ep, ed, er, et, eh]
  obtain ⟨c0, c1, c2, c3, c4, c5, c6⟩ := cells w1 hS1
  have HCH := Lib.hid hch
  clear es ep ed er et eh hS1 hb1 hf hg cells hch hl hm
  rw [hc] at HCH
  have HHN := fun W => Lib.hid (znum_any x.hor HFI.out.hor.1 HFI.out.hor.2 W)
  have HHS := Lib.hid (hor_sum x.hor)
  have hzh : (ba (dec x.hor)).size ≤ 24 := by rw [ba_size]; exact dec_len24 HFI.out.hor
  have hzs : ((⟨#[104, 111, 114, 105, 122, 111, 110, 32]⟩ : ByteArray) ++ ba (dec x.hor)).size ≤ 32 := by rw [ByteArray.size_append]; exact Nat.add_le_add (Nat.le_of_eq rfl) hzh
  go_enter Tryz.func13, Tryz.ntmps13
  go_wp2_with fail
  clear c0 c1 c2 c3 c4 c5 c6 hw1
  refine HCH.out.mono ?_
  rintro e w2 ⟨rfl, hb2⟩
  have HB2 := Lib.hid hb2
  obtain ⟨c0, c1, c2, c3, c4, c5, c6⟩ := CELLS.out w2 (HS1.out.below hb2 HLT.out)
  clear hb2 HCH
  go_wp2_with fail
  clear c0 c1 c2 c3 c4 c5 c6
  refine (HHN w2).out.mono ?_
  rintro e w3 ⟨rfl, hb3⟩
  have HB3 := Lib.hid (HB2.out.trans (hb3.mono HB2.out.size))
  clear hb3 HB2 HHN
  go_upto_region 5 with fail
  clear hzh hzs
  rw [HHS.out]
  clear HHS
  obtain ⟨wr, hwr⟩ : ∃ wr, w3.alloc (.cells #[.string (ba (horL x.hor))] 9) = wr := ⟨_, rfl⟩
  have ho0 : Ow nc 1 wr w1.heap.size 9 (.slice (some ⟨w3.heap.size, 0, none⟩) 1 1) (ln0 x) := by rw [← hwr]; exact Ow.newl [horL x.hor] nc_len rfl rfl (by show 1 ≤ maxLen; decide) rfl HB3.out.size
  have hB : Below w1.heap.size w1 wr := by rw [← hwr]; exact HB3.out.alloc HB3.out.size _
  rw [hwr]
  clear hwr HB3
  have HO0 := Lib.hid ho0
  have HB0 := Lib.hid hB
  clear ho0 hB
  go_wp2_with fail
  go_loopg [6, 5] x.stops.length (fun gg s v wx => ∃ k : Nat, k ≤ x.stops.length ∧ x.stops.length - k ≤ gg ∧ s = .int .i64 k ∧ Ow nc 1 wx w1.heap.size 9 v (ln0 x ++ (x.stops.take k).map stopL) ∧ Below w1.heap.size w1 wx)
  case atStart => exact ⟨0, Nat.zero_le _, by omega, rfl, by rw [List.take_zero, List.map_nil, List.append_nil]; exact HO0.out, HB0.out⟩
  case round =>
    clear HO0 HB0
    obtain ⟨k, hk, hgg, rfl, ho, hb⟩ := hrel
    obtain ⟨c0, c1, c2, c3, c4, c5, c6⟩ := CELLS.out wr (HS1.out.below hb HLT.out)
    by_cases hlt : k < x.stops.length
    · have hst := HG1.out.stops
      rw [HES.out] at hst
      obtain ⟨b1, o1, p1, e1, _, _, hl1, _, hxx⟩ := hst.at_ hlt
      injection e1 with e1 e2 e3
      subst e1
      have hm : x.stops[k] ∈ x.stops := List.getElem_mem hlt
      have hE : ln0 x ++ (x.stops.take (k + 1)).map stopL = (ln0 x ++ (x.stops.take k).map stopL) ++ [stopL x.stops[k]] := by rw [take_map_succ _ _ _ hlt, List.append_assoc]
      obtain ⟨y, hye⟩ : ∃ y, x.stops[k] = y := ⟨_, rfl⟩
      rw [hye] at hxx hm hE
      have hx0 : wr.cell? ⟨b1, o1 + k, none⟩ = some (.string (ba y)) := (hb.cell (p := ⟨b1, o1 + k, none⟩) hl1).trans (by simpa using hxx 0 _ rfl)
      have HCA := Lib.hid (stop_sum y)
      have zy : (ba y).size ≤ 1048576 := by rw [ba_size]; exact HLO.out.stops y hm
      have zz : ((⟨#[115, 116, 111, 112, 32]⟩ : ByteArray) ++ ba y).size ≤ 1048581 := by rw [ByteArray.size_append]; exact Nat.add_le_add (Nat.le_of_eq rfl) zy
      have HO := Lib.hid ho
      have HB := Lib.hid hb
      have E := Lib.hid hE
      have hlen : (ln0 x ++ (x.stops.take k).map stopL).length ≤ 1025 := by
        rw [List.length_append, List.length_map, List.length_take]
        omega
      have q1 : (0 : Int) ≤ (k : Int) := by omega
      have q2 : (k : Int) < (x.stops.length : Int) := by omega
      clear ho hb e2 e3 hxx hst hye hm hE
      have HSZ := Lib.hid (show w1.heap.size ≤ wr.heap.size from HB.out.size)
      go_wp2_with (rw [HCA.out]; at_builtin; refine wpList_append_sl _ rfl _ _ _ rfl w1.heap.size 9 i0 _ 16 Tryz.underlying22 hi0 hz0 hz1 hz2 rfl (by omega) nc_len nc_one _ _ (ln0 x ++ (x.stops.take k).map stopL) [stopL y] rfl rfl (HO.out.alloc _) (Sl.new1 (stopL y) rfl) (by simp only [maxLen, List.length_cons, List.length_nil]; omega) (by simp only [List.length_cons, List.length_nil]; omega) (by have := HSZ.out; simp; omega) ?_; intro v1 w4 hown1 hg1 hmv1)
      go_roundg (x.stops.length - (k + 1))
      case measure => omega
      case rel => exact ⟨k + 1, by omega, by omega, by go_num, by rw [E.out]; exact hown1, app_keep HB.out HSZ.out HO.out hg1⟩
    · have hke : k = x.stops.length := by omega
      subst hke
      rw [List.take_length] at ho
      have ho0 : Ow nc 1 wr w1.heap.size 9 _ (ln1 x) := ho
      have hB := hb
      have q1 : ¬ (x.stops.length : Int) < (x.stops.length : Int) := Int.lt_irrefl _
      clear ho hb hlt hk hgg
      have HO1 := Lib.hid ho0
      have HB1 := Lib.hid hB
      clear ho0 hB
      go_wp2_with fail
      go_loopg [7, 5] x.paths.length (fun gg s v wx => ∃ k : Nat, k ≤ x.paths.length ∧ x.paths.length - k ≤ gg ∧ s = .int .i64 k ∧ Ow nc 1 wx w1.heap.size 9 v (ln1 x ++ (x.paths.take k).map pathL) ∧ Below w1.heap.size w1 wx)
      case atStart => exact ⟨0, Nat.zero_le _, by omega, rfl, by rw [List.take_zero, List.map_nil, List.append_nil]; exact HO1.out, HB1.out⟩
      case round =>
        clear HO1 HB1
        obtain ⟨k, hk, hgg, rfl, ho, hb⟩ := hrel
        obtain ⟨c0, c1, c2, c3, c4, c5, c6⟩ := CELLS.out wr (HS1.out.below hb HLT.out)
        by_cases hlt : k < x.paths.length
        · have hst := HG1.out.paths
          rw [HEP.out] at hst
          obtain ⟨b1, o1, p1, e1, _, _, hl1, _, hxx⟩ := hst.at_ hlt
          injection e1 with e1 e2 e3
          subst e1
          have hm : x.paths[k] ∈ x.paths := List.getElem_mem hlt
          have hE : ln1 x ++ (x.paths.take (k + 1)).map pathL = (ln1 x ++ (x.paths.take k).map pathL) ++ [pathL x.paths[k]] := by rw [take_map_succ _ _ _ hlt, List.append_assoc]
          obtain ⟨y, hye⟩ : ∃ y, x.paths[k] = y := ⟨_, rfl⟩
          rw [hye] at hxx hm hE
          have hx0 : wr.cell? ⟨b1, o1 + k * 4, none⟩ = some (.string (ba y.name)) := (hb.cell (p := ⟨b1, o1 + k * 4, none⟩) hl1).trans (by simpa using hxx 0 _ rfl)
          have hx1 : wr.cell? ⟨b1, o1 + k * 4 + 1, none⟩ = some (.string (ba y.a)) := (hb.cell (p := ⟨b1, o1 + k * 4 + 1, none⟩) hl1).trans (by simpa using hxx 1 _ rfl)
          have hx2 : wr.cell? ⟨b1, o1 + k * 4 + 2, none⟩ = some (.string (ba y.b)) := (hb.cell (p := ⟨b1, o1 + k * 4 + 2, none⟩) hl1).trans (by simpa using hxx 2 _ rfl)
          have hx3 : wr.cell? ⟨b1, o1 + k * 4 + 3, none⟩ = some (.int .i64 y.len) := (hb.cell (p := ⟨b1, o1 + k * 4 + 3, none⟩) hl1).trans (by simpa using hxx 3 _ rfl)
          have HCA := Lib.hid (zpath_any wr y (HLO.out.paths y hm).1 (HLO.out.paths y hm).2.1 (HLO.out.paths y hm).2.2 (HFI.out.paths y hm).1)
          have HO := Lib.hid ho
          have HB := Lib.hid hb
          have E := Lib.hid hE
          have hlen : (ln1 x ++ (x.paths.take k).map pathL).length ≤ 2049 := by
            rw [List.length_append, List.length_map, List.length_take]
            omega
          have q1 : (0 : Int) ≤ (k : Int) := by omega
          have q2 : (k : Int) < (x.paths.length : Int) := by omega
          clear ho hb e2 e3 hxx hst hye hm hE
          go_wp2_with fail
          refine HCA.out.mono ?_
          rintro e w5 ⟨rfl, hb5⟩
          have HO5 := Lib.hid (Ow.below HO.out hb5 fun q hq => (HO.out.lt hq).2)
          have HB5 := Lib.hid (HB.out.trans (hb5.mono HB.out.size))
          have HSZ := Lib.hid (show w1.heap.size ≤ w5.heap.size from HB5.out.size)
          clear hb5 HCA
          go_wp2_with (at_builtin; refine wpList_append_sl _ rfl _ _ _ rfl w1.heap.size 9 i0 _ 16 Tryz.underlying22 hi0 hz0 hz1 hz2 rfl (by omega) nc_len nc_one _ _ (ln1 x ++ (x.paths.take k).map pathL) [pathL y] rfl rfl (HO5.out.alloc _) (Sl.new1 (pathL y) rfl) (by simp only [maxLen, List.length_cons, List.length_nil]; omega) (by simp only [List.length_cons, List.length_nil]; omega) (by have := HSZ.out; simp; omega) ?_; intro v1 w4 hown1 hg1 hmv1)
          go_roundg (x.paths.length - (k + 1))
          case measure => omega
          case rel => exact ⟨k + 1, by omega, by omega, by go_num, by rw [E.out]; exact hown1, app_keep HB5.out HSZ.out HO5.out hg1⟩
        · have hke : k = x.paths.length := by omega
          subst hke
          rw [List.take_length] at ho
          have ho0 : Ow nc 1 wr w1.heap.size 9 _ (ln2 x) := ho
          have hB := hb
          have q1 : ¬ (x.paths.length : Int) < (x.paths.length : Int) := Int.lt_irrefl _
          clear ho hb hlt hk hgg
          have HO2 := Lib.hid ho0
          have HB2 := Lib.hid hB
          clear ho0 hB
          go_wp2_with fail
          go_loopg [8, 5] x.doors.length (fun gg s v wx => ∃ k : Nat, k ≤ x.doors.length ∧ x.doors.length - k ≤ gg ∧ s = .int .i64 k ∧ Ow nc 1 wx w1.heap.size 9 v (ln2 x ++ (x.doors.take k).map doorL) ∧ Below w1.heap.size w1 wx)
          case atStart => exact ⟨0, Nat.zero_le _, by omega, rfl, by rw [List.take_zero, List.map_nil, List.append_nil]; exact HO2.out, HB2.out⟩
          case round =>
            clear HO2 HB2
            obtain ⟨k, hk, hgg, rfl, ho, hb⟩ := hrel
            obtain ⟨c0, c1, c2, c3, c4, c5, c6⟩ := CELLS.out wr (HS1.out.below hb HLT.out)
            by_cases hlt : k < x.doors.length
            · have hst := HG1.out.doors
              rw [HED.out] at hst
              obtain ⟨b1, o1, p1, e1, _, _, hl1, _, hxx⟩ := hst.at_ hlt
              injection e1 with e1 e2 e3
              subst e1
              have hm : x.doors[k] ∈ x.doors := List.getElem_mem hlt
              have hE : ln2 x ++ (x.doors.take (k + 1)).map doorL = (ln2 x ++ (x.doors.take k).map doorL) ++ [doorL x.doors[k]] := by rw [take_map_succ _ _ _ hlt, List.append_assoc]
              obtain ⟨y, hye⟩ : ∃ y, x.doors[k] = y := ⟨_, rfl⟩
              rw [hye] at hxx hm hE
              have hx0 : wr.cell? ⟨b1, o1 + k * 7, none⟩ = some (.string (ba y.name)) := (hb.cell (p := ⟨b1, o1 + k * 7, none⟩) hl1).trans (by simpa using hxx 0 _ rfl)
              have hx1 : wr.cell? ⟨b1, o1 + k * 7 + 1, none⟩ = some (.string (ba y.a)) := (hb.cell (p := ⟨b1, o1 + k * 7 + 1, none⟩) hl1).trans (by simpa using hxx 1 _ rfl)
              have hx2 : wr.cell? ⟨b1, o1 + k * 7 + 2, none⟩ = some (.string (ba y.b)) := (hb.cell (p := ⟨b1, o1 + k * 7 + 2, none⟩) hl1).trans (by simpa using hxx 2 _ rfl)
              have hx3 : wr.cell? ⟨b1, o1 + k * 7 + 3, none⟩ = some (.int .i64 y.len) := (hb.cell (p := ⟨b1, o1 + k * 7 + 3, none⟩) hl1).trans (by simpa using hxx 3 _ rfl)
              have hx4 : wr.cell? ⟨b1, o1 + k * 7 + 4, none⟩ = some (.int .i64 y.times.start) := (hb.cell (p := ⟨b1, o1 + k * 7 + 4, none⟩) hl1).trans (by simpa using hxx 4 _ rfl)
              have hx5 : wr.cell? ⟨b1, o1 + k * 7 + 5, none⟩ = some (.int .i64 y.times.every) := (hb.cell (p := ⟨b1, o1 + k * 7 + 5, none⟩) hl1).trans (by simpa using hxx 5 _ rfl)
              have hx6 : wr.cell? ⟨b1, o1 + k * 7 + 6, none⟩ = some (.int .i64 y.times.len) := (hb.cell (p := ⟨b1, o1 + k * 7 + 6, none⟩) hl1).trans (by simpa using hxx 6 _ rfl)
              have HCA := Lib.hid (zdoor_any wr y (HLO.out.doors y hm).1 (HLO.out.doors y hm).2.1 (HLO.out.doors y hm).2.2 (HFI.out.doors y hm).1.1 (HFI.out.doors y hm).1.2)
              have HO := Lib.hid ho
              have HB := Lib.hid hb
              have E := Lib.hid hE
              have hlen : (ln2 x ++ (x.doors.take k).map doorL).length ≤ 3073 := by
                rw [List.length_append, List.length_map, List.length_take]
                omega
              have q1 : (0 : Int) ≤ (k : Int) := by omega
              have q2 : (k : Int) < (x.doors.length : Int) := by omega
              clear ho hb e2 e3 hxx hst hye hm hE
              go_wp2_with fail
              refine HCA.out.mono ?_
              rintro e w5 ⟨rfl, hb5⟩
              have HO5 := Lib.hid (Ow.below HO.out hb5 fun q hq => (HO.out.lt hq).2)
              have HB5 := Lib.hid (HB.out.trans (hb5.mono HB.out.size))
              have HSZ := Lib.hid (show w1.heap.size ≤ w5.heap.size from HB5.out.size)
              clear hb5 HCA
              go_wp2_with (at_builtin; refine wpList_append_sl _ rfl _ _ _ rfl w1.heap.size 9 i0 _ 16 Tryz.underlying22 hi0 hz0 hz1 hz2 rfl (by omega) nc_len nc_one _ _ (ln2 x ++ (x.doors.take k).map doorL) [doorL y] rfl rfl (HO5.out.alloc _) (Sl.new1 (doorL y) rfl) (by simp only [maxLen, List.length_cons, List.length_nil]; omega) (by simp only [List.length_cons, List.length_nil]; omega) (by have := HSZ.out; simp; omega) ?_; intro v1 w4 hown1 hg1 hmv1)
              go_roundg (x.doors.length - (k + 1))
              case measure => omega
              case rel => exact ⟨k + 1, by omega, by omega, by go_num, by rw [E.out]; exact hown1, app_keep HB5.out HSZ.out HO5.out hg1⟩
            · have hke : k = x.doors.length := by omega
              subst hke
              rw [List.take_length] at ho
              have ho0 : Ow nc 1 wr w1.heap.size 9 _ (ln3 x) := ho
              have hB := hb
              have q1 : ¬ (x.doors.length : Int) < (x.doors.length : Int) := Int.lt_irrefl _
              clear ho hb hlt hk hgg
              have HO3 := Lib.hid ho0
              have HB3 := Lib.hid hB
              clear ho0 hB
              go_wp2_with fail
              go_loopg [9, 5] x.routes.length (fun gg s v wx => ∃ k : Nat, k ≤ x.routes.length ∧ x.routes.length - k ≤ gg ∧ s = .int .i64 k ∧ Ow nc 1 wx w1.heap.size 9 v (ln3 x ++ (x.routes.take k).map (fun r : RouteM => routeL r.d)) ∧ Below w1.heap.size w1 wx)
              case atStart => exact ⟨0, Nat.zero_le _, by omega, rfl, by rw [List.take_zero, List.map_nil, List.append_nil]; exact HO3.out, HB3.out⟩
              case round =>
                clear HO3 HB3
                obtain ⟨k, hk, hgg, rfl, ho, hb⟩ := hrel
                obtain ⟨c0, c1, c2, c3, c4, c5, c6⟩ := CELLS.out wr (HS1.out.below hb HLT.out)
                by_cases hlt : k < x.routes.length
                · have hst := HG1.out.routes
                  rw [HER.out] at hst
                  obtain ⟨b1, o1, p1, e1, _, _, hl1, _, hxx⟩ := hst.at_ hlt
                  injection e1 with e1 e2 e3
                  subst e1
                  have hm : x.routes[k] ∈ x.routes := List.getElem_mem hlt
                  have hE : ln3 x ++ (x.routes.take (k + 1)).map (fun r : RouteM => routeL r.d) = (ln3 x ++ (x.routes.take k).map (fun r : RouteM => routeL r.d)) ++ [(fun r : RouteM => routeL r.d) x.routes[k]] := by rw [take_map_succ _ _ _ hlt, List.append_assoc]
                  obtain ⟨y, hye⟩ : ∃ y, x.routes[k] = y := ⟨_, rfl⟩
                  rw [hye] at hxx hm hE
                  have hx0 : wr.cell? ⟨b1, o1 + k * 4, none⟩ = some (.string (ba y.name)) := (hb.cell (p := ⟨b1, o1 + k * 4, none⟩) hl1).trans (by simpa using hxx 0 _ rfl)
                  have hx1 : wr.cell? ⟨b1, o1 + k * 4 + 1, none⟩ = some (y.vs) := (hb.cell (p := ⟨b1, o1 + k * 4 + 1, none⟩) hl1).trans (by simpa using hxx 1 _ rfl)
                  have hx2 : wr.cell? ⟨b1, o1 + k * 4 + 2, none⟩ = some (y.vr) := (hb.cell (p := ⟨b1, o1 + k * 4 + 2, none⟩) hl1).trans (by simpa using hxx 2 _ rfl)
                  have hx3 : wr.cell? ⟨b1, o1 + k * 4 + 3, none⟩ = some (y.vy) := (hb.cell (p := ⟨b1, o1 + k * 4 + 3, none⟩) hl1).trans (by simpa using hxx 3 _ rfl)
                  have hgy := HG1.out.each y hm
                  obtain ⟨Ax1, cx1, ex1, _, _⟩ := hgy.stops.shape
                  obtain ⟨Ax2, cx2, ex2, _, _⟩ := hgy.rides.shape
                  obtain ⟨Ax3, cx3, ex3, _, _⟩ := hgy.stays.shape
                  have hca := zroute_any wr y (hgy.below_ hb) (HFI.out.routes y hm).1 (HLO.out.routes y hm)
                  unfold rc at hca
                  rw [ex1, ex2, ex3] at hca
                  rw [ex1] at hx1
                  rw [ex2] at hx2
                  rw [ex3] at hx3
                  clear ex1 ex2 ex3 hgy
                  have HCA := Lib.hid hca
                  clear hca
                  have HO := Lib.hid ho
                  have HB := Lib.hid hb
                  have E := Lib.hid hE
                  have hlen : (ln3 x ++ (x.routes.take k).map (fun r : RouteM => routeL r.d)).length ≤ 4097 := by
                    rw [List.length_append, List.length_map, List.length_take]
                    omega
                  have q1 : (0 : Int) ≤ (k : Int) := by omega
                  have q2 : (k : Int) < (x.routes.length : Int) := by omega
                  clear ho hb e2 e3 hxx hst hye hm hE
                  go_wp2_with fail
                  refine HCA.out.mono ?_
                  rintro e w5 ⟨rfl, hb5⟩
                  have HO5 := Lib.hid (Ow.below HO.out hb5 fun q hq => (HO.out.lt hq).2)
                  have HB5 := Lib.hid (HB.out.trans (hb5.mono HB.out.size))
                  have HSZ := Lib.hid (show w1.heap.size ≤ w5.heap.size from HB5.out.size)
                  clear hb5 HCA
                  go_wp2_with (at_builtin; refine wpList_append_sl _ rfl _ _ _ rfl w1.heap.size 9 i0 _ 16 Tryz.underlying22 hi0 hz0 hz1 hz2 rfl (by omega) nc_len nc_one _ _ (ln3 x ++ (x.routes.take k).map (fun r : RouteM => routeL r.d)) [routeL y.d] rfl rfl (HO5.out.alloc _) (Sl.new1 (routeL y.d) rfl) (by simp only [maxLen, List.length_cons, List.length_nil]; omega) (by simp only [List.length_cons, List.length_nil]; omega) (by have := HSZ.out; simp; omega) ?_; intro v1 w4 hown1 hg1 hmv1)
                  go_roundg (x.routes.length - (k + 1))
                  case measure => omega
                  case rel => exact ⟨k + 1, by omega, by omega, by go_num, by rw [E.out]; exact hown1, app_keep HB5.out HSZ.out HO5.out hg1⟩
                · have hke : k = x.routes.length := by omega
                  subst hke
                  rw [List.take_length] at ho
                  have ho0 : Ow nc 1 wr w1.heap.size 9 _ (ln4 x) := ho
                  have hB := hb
                  have q1 : ¬ (x.routes.length : Int) < (x.routes.length : Int) := Int.lt_irrefl _
                  clear ho hb hlt hk hgg
                  have HO4 := Lib.hid ho0
                  have HB4 := Lib.hid hB
                  clear ho0 hB
                  go_wp2_with fail
                  go_loopg [10, 5] x.trips.length (fun gg s v wx => ∃ k : Nat, k ≤ x.trips.length ∧ x.trips.length - k ≤ gg ∧ s = .int .i64 k ∧ Ow nc 1 wx w1.heap.size 9 v (ln4 x ++ (x.trips.take k).map tripL) ∧ Below w1.heap.size w1 wx)
                  case atStart => exact ⟨0, Nat.zero_le _, by omega, rfl, by rw [List.take_zero, List.map_nil, List.append_nil]; exact HO4.out, HB4.out⟩
                  case round =>
                    clear HO4 HB4
                    obtain ⟨k, hk, hgg, rfl, ho, hb⟩ := hrel
                    obtain ⟨c0, c1, c2, c3, c4, c5, c6⟩ := CELLS.out wr (HS1.out.below hb HLT.out)
                    by_cases hlt : k < x.trips.length
                    · have hst := HG1.out.trips
                      rw [HET.out] at hst
                      obtain ⟨b1, o1, p1, e1, _, _, hl1, _, hxx⟩ := hst.at_ hlt
                      injection e1 with e1 e2 e3
                      subst e1
                      have hm : x.trips[k] ∈ x.trips := List.getElem_mem hlt
                      have hE : ln4 x ++ (x.trips.take (k + 1)).map tripL = (ln4 x ++ (x.trips.take k).map tripL) ++ [tripL x.trips[k]] := by rw [take_map_succ _ _ _ hlt, List.append_assoc]
                      obtain ⟨y, hye⟩ : ∃ y, x.trips[k] = y := ⟨_, rfl⟩
                      rw [hye] at hxx hm hE
                      have hx0 : wr.cell? ⟨b1, o1 + k * 5, none⟩ = some (.string (ba y.name)) := (hb.cell (p := ⟨b1, o1 + k * 5, none⟩) hl1).trans (by simpa using hxx 0 _ rfl)
                      have hx1 : wr.cell? ⟨b1, o1 + k * 5 + 1, none⟩ = some (.string (ba y.route)) := (hb.cell (p := ⟨b1, o1 + k * 5 + 1, none⟩) hl1).trans (by simpa using hxx 1 _ rfl)
                      have hx2 : wr.cell? ⟨b1, o1 + k * 5 + 2, none⟩ = some (.int .i64 y.start) := (hb.cell (p := ⟨b1, o1 + k * 5 + 2, none⟩) hl1).trans (by simpa using hxx 2 _ rfl)
                      have hx3 : wr.cell? ⟨b1, o1 + k * 5 + 3, none⟩ = some (.int .i64 y.every) := (hb.cell (p := ⟨b1, o1 + k * 5 + 3, none⟩) hl1).trans (by simpa using hxx 3 _ rfl)
                      have hx4 : wr.cell? ⟨b1, o1 + k * 5 + 4, none⟩ = some (.int .i64 y.stop) := (hb.cell (p := ⟨b1, o1 + k * 5 + 4, none⟩) hl1).trans (by simpa using hxx 4 _ rfl)
                      have HCA := Lib.hid (ztrip_any wr y (HLO.out.trips y hm).1 (HLO.out.trips y hm).2 (HFI.out.trips y hm).1.1 (HFI.out.trips y hm).1.2.1 (HFI.out.trips y hm).1.2.2)
                      have HO := Lib.hid ho
                      have HB := Lib.hid hb
                      have E := Lib.hid hE
                      have hlen : (ln4 x ++ (x.trips.take k).map tripL).length ≤ 5121 := by
                        rw [List.length_append, List.length_map, List.length_take]
                        omega
                      have q1 : (0 : Int) ≤ (k : Int) := by omega
                      have q2 : (k : Int) < (x.trips.length : Int) := by omega
                      clear ho hb e2 e3 hxx hst hye hm hE
                      go_wp2_with fail
                      refine HCA.out.mono ?_
                      rintro e w5 ⟨rfl, hb5⟩
                      have HO5 := Lib.hid (Ow.below HO.out hb5 fun q hq => (HO.out.lt hq).2)
                      have HB5 := Lib.hid (HB.out.trans (hb5.mono HB.out.size))
                      have HSZ := Lib.hid (show w1.heap.size ≤ w5.heap.size from HB5.out.size)
                      clear hb5 HCA
                      go_wp2_with (at_builtin; refine wpList_append_sl _ rfl _ _ _ rfl w1.heap.size 9 i0 _ 16 Tryz.underlying22 hi0 hz0 hz1 hz2 rfl (by omega) nc_len nc_one _ _ (ln4 x ++ (x.trips.take k).map tripL) [tripL y] rfl rfl (HO5.out.alloc _) (Sl.new1 (tripL y) rfl) (by simp only [maxLen, List.length_cons, List.length_nil]; omega) (by simp only [List.length_cons, List.length_nil]; omega) (by have := HSZ.out; simp; omega) ?_; intro v1 w4 hown1 hg1 hmv1)
                      go_roundg (x.trips.length - (k + 1))
                      case measure => omega
                      case rel => exact ⟨k + 1, by omega, by omega, by go_num, by rw [E.out]; exact hown1, app_keep HB5.out HSZ.out HO5.out hg1⟩
                    · have hke : k = x.trips.length := by omega
                      subst hke
                      rw [List.take_length] at ho
                      have ho0 : Ow nc 1 wr w1.heap.size 9 _ (ln5 x) := ho
                      have hB := hb
                      have q1 : ¬ (x.trips.length : Int) < (x.trips.length : Int) := Int.lt_irrefl _
                      clear ho hb hlt hk hgg
                      have HO5 := Lib.hid ho0
                      have HB5 := Lib.hid hB
                      clear ho0 hB
                      go_wp2_with fail
                      go_loopg [11, 5] x.hazs.length (fun gg s v wx => ∃ k : Nat, k ≤ x.hazs.length ∧ x.hazs.length - k ≤ gg ∧ s = .int .i64 k ∧ Ow nc 1 wx w1.heap.size 9 v (ln5 x ++ (x.hazs.take k).map hazL) ∧ Below w1.heap.size w1 wx)
                      case atStart => exact ⟨0, Nat.zero_le _, by omega, rfl, by rw [List.take_zero, List.map_nil, List.append_nil]; exact HO5.out, HB5.out⟩
                      case round =>
                        clear HO5 HB5
                        obtain ⟨k, hk, hgg, rfl, ho, hb⟩ := hrel
                        obtain ⟨c0, c1, c2, c3, c4, c5, c6⟩ := CELLS.out wr (HS1.out.below hb HLT.out)
                        by_cases hlt : k < x.hazs.length
                        · have hst := HG1.out.hazs
                          rw [HEH.out] at hst
                          obtain ⟨b1, o1, p1, e1, _, _, hl1, _, hxx⟩ := hst.at_ hlt
                          injection e1 with e1 e2 e3
                          subst e1
                          have hm : x.hazs[k] ∈ x.hazs := List.getElem_mem hlt
                          have hE : ln5 x ++ (x.hazs.take (k + 1)).map hazL = (ln5 x ++ (x.hazs.take k).map hazL) ++ [hazL x.hazs[k]] := by rw [take_map_succ _ _ _ hlt, List.append_assoc]
                          obtain ⟨y, hye⟩ : ∃ y, x.hazs[k] = y := ⟨_, rfl⟩
                          rw [hye] at hxx hm hE
                          have hx0 : wr.cell? ⟨b1, o1 + k * 5, none⟩ = some (.string (ba y.name)) := (hb.cell (p := ⟨b1, o1 + k * 5, none⟩) hl1).trans (by simpa using hxx 0 _ rfl)
                          have hx1 : wr.cell? ⟨b1, o1 + k * 5 + 1, none⟩ = some (.string (ba y.on)) := (hb.cell (p := ⟨b1, o1 + k * 5 + 1, none⟩) hl1).trans (by simpa using hxx 1 _ rfl)
                          have hx2 : wr.cell? ⟨b1, o1 + k * 5 + 2, none⟩ = some (.int .i64 y.times.start) := (hb.cell (p := ⟨b1, o1 + k * 5 + 2, none⟩) hl1).trans (by simpa using hxx 2 _ rfl)
                          have hx3 : wr.cell? ⟨b1, o1 + k * 5 + 3, none⟩ = some (.int .i64 y.times.every) := (hb.cell (p := ⟨b1, o1 + k * 5 + 3, none⟩) hl1).trans (by simpa using hxx 3 _ rfl)
                          have hx4 : wr.cell? ⟨b1, o1 + k * 5 + 4, none⟩ = some (.int .i64 y.times.len) := (hb.cell (p := ⟨b1, o1 + k * 5 + 4, none⟩) hl1).trans (by simpa using hxx 4 _ rfl)
                          have HCA := Lib.hid (zhaz_any wr y (HLO.out.hazs y hm).1 (HLO.out.hazs y hm).2 (HFI.out.hazs y hm).1)
                          have HO := Lib.hid ho
                          have HB := Lib.hid hb
                          have E := Lib.hid hE
                          have hlen : (ln5 x ++ (x.hazs.take k).map hazL).length ≤ 6145 := by
                            rw [List.length_append, List.length_map, List.length_take]
                            omega
                          have q1 : (0 : Int) ≤ (k : Int) := by omega
                          have q2 : (k : Int) < (x.hazs.length : Int) := by omega
                          clear ho hb e2 e3 hxx hst hye hm hE
                          go_wp2_with fail
                          refine HCA.out.mono ?_
                          rintro e w5 ⟨rfl, hb5⟩
                          have HO5 := Lib.hid (Ow.below HO.out hb5 fun q hq => (HO.out.lt hq).2)
                          have HB5 := Lib.hid (HB.out.trans (hb5.mono HB.out.size))
                          have HSZ := Lib.hid (show w1.heap.size ≤ w5.heap.size from HB5.out.size)
                          clear hb5 HCA
                          go_wp2_with (at_builtin; refine wpList_append_sl _ rfl _ _ _ rfl w1.heap.size 9 i0 _ 16 Tryz.underlying22 hi0 hz0 hz1 hz2 rfl (by omega) nc_len nc_one _ _ (ln5 x ++ (x.hazs.take k).map hazL) [hazL y] rfl rfl (HO5.out.alloc _) (Sl.new1 (hazL y) rfl) (by simp only [maxLen, List.length_cons, List.length_nil]; omega) (by simp only [List.length_cons, List.length_nil]; omega) (by have := HSZ.out; simp; omega) ?_; intro v1 w4 hown1 hg1 hmv1)
                          go_roundg (x.hazs.length - (k + 1))
                          case measure => omega
                          case rel => exact ⟨k + 1, by omega, by omega, by go_num, by rw [E.out]; exact hown1, app_keep HB5.out HSZ.out HO5.out hg1⟩
                        · have hke : k = x.hazs.length := by omega
                          subst hke
                          rw [List.take_length] at ho
                          have ho0 : Ow nc 1 wr w1.heap.size 9 _ (ln5 x ++ x.hazs.map hazL) := ho
                          have hB := hb
                          have q1 : ¬ (x.hazs.length : Int) < (x.hazs.length : Int) := Int.lt_irrefl _
                          clear ho hb hlt hk hgg
                          have HO := Lib.hid ho0
                          have HB := Lib.hid hB
                          clear ho0 hB
                          go_wp2_with fail
                          go_ret2
                          exact ⟨_, rfl, by rw [← ln_eq]; exact HO.out.lower HB1.out.size, HB1.out.trans (HB.out.mono HB1.out.size)⟩
end Go.Proofs.YtmihinhbcncbfaaGreatDoor
/- The walk of timetableref06.Text. -/
namespace Go.Proofs.YtmihinhbcncbfaaGreatDoor
open Go.RowKit
theorem textL_succ (l : Nms) (k : Nat) (h : k < l.length) : textL (l.take (k + 1)) = textL (l.take k) ++ l[k] ++ [10] := by
  rw [take_succ_eq l k h]
  unfold textL
  rw [List.flatMap_append]
  simp only [List.flatMap_cons, List.flatMap_nil, List.append_nil, List.append_assoc]
set_option maxHeartbeats 4000000 in
set_option maxRecDepth 100000 in
theorem ztext6_bad (w : World) (x : SheetM) {P : Nat → Prop} (hg : x.Good w P) (hf : x.Few) (hl : longD x.d = false) (hm : ∀ s ∈ namesD x.d, s.length ≤ maxLen) (hc : checkD x.d ≠ 0) :
    Calls Tryz.prog 11 #[x.v] w fun e w' => e = .returned (.tuple #[.string (ba []), .int .i64 (checkD x.d)]) ∧ Below w.heap.size w w' := by
  obtain ⟨w1, hw1⟩ : ∃ w1, w.alloc (.cells x.c.toArray 29) = w1 := ⟨_, rfl⟩
  have hS1 : SheetAt w.heap.size x w1 := by rw [← hw1]; exact SheetAt.of (heap_alloc_new _ _)
  have hb1 : Below w.heap.size w w1 := by rw [← hw1]; exact (Below.refl _ _).alloc (Nat.le_refl _) _
  have hlt : w.heap.size < w1.heap.size := by rw [← hw1]; simp
  have HB1 := Lib.hid hb1
  have HG1 := Lib.hid (hg.below_ hb1)
  have HS1 := Lib.hid hS1
  have HLT := Lib.hid hlt
  have HF := Lib.hid hf
  obtain ⟨As, cs, es, _, _⟩ := hg.stops.shape
  obtain ⟨Ap, cp, ep, _, _⟩ := hg.paths.shape
  obtain ⟨Ad, cd, ed, _, _⟩ := hg.doors.shape
  obtain ⟨Ar, cr, er, _, _⟩ := hg.routes.shape
  obtain ⟨At, ct, et, _, _⟩ := hg.trips.shape
  obtain ⟨Ah, ch, eh, _, _⟩ := hg.hazs.shape
  have n0 := hf.stops
  have n1 := hf.paths
  have n2 := hf.doors
  have n3 := hf.routes
  have n4 := hf.trips
  have n5 := hf.hazs
  have cells : ∀ wx, SheetAt w.heap.size x wx → wx.cell? ⟨w.heap.size, 0, none⟩ = some (.int .i64 x.hor) ∧ wx.cell? ⟨w.heap.size, 1, none⟩ = some (.slice As x.stops.length cs) ∧ wx.cell? ⟨w.heap.size, 2, none⟩ = some (.slice Ap x.paths.length cp) ∧ wx.cell? ⟨w.heap.size, 3, none⟩ = some (.slice Ad x.doors.length cd) ∧ wx.cell? ⟨w.heap.size, 4, none⟩ = some (.slice Ar x.routes.length cr) ∧ wx.cell? ⟨w.heap.size, 5, none⟩ = some (.slice At x.trips.length ct) ∧ wx.cell? ⟨w.heap.size, 6, none⟩ = some (.slice Ah x.hazs.length ch) := by
    rintro wx ⟨s0, s1, s2, s3, s4, s5, s6⟩
    rw [es] at s1
    rw [ep] at s2
    rw [ed] at s3
    rw [er] at s4
    rw [et] at s5
    rw [eh] at s6
    exact ⟨s0, s1, s2, s3, s4, s5, s6⟩
  have CELLS := Lib.hid cells
  have HES := Lib.hid es
  have HEP := Lib.hid ep
  have HED := Lib.hid ed
  have HER := Lib.hid er
  have HET := Lib.hid et
  have HEH := Lib.hid eh
  have hch := zlines_bad w1 x (hg.below_ hb1) hf hl hm hc
  unfold SheetM.v at hch ⊢
  unfold SheetM.c at hw1
  rw [es, ep, ed, er, et, eh] at hw1 hch
  rw [es, ep, ed, er, et, eh]
  obtain ⟨c0, c1, c2, c3, c4, c5, c6⟩ := cells w1 hS1
  have HCH := Lib.hid hch
  clear es ep ed er et eh hS1 hb1 hf hg cells hch hl hm
  clear HG1 HS1 HF CELLS HES HEP HED HER HET HEH
  generalize checkD x.d = q at *
  have hq : (q == 0) = false := beq_eq_false_iff_ne.2 hc
  have hq2 : (q != 0) = true := by rw [bne, hq]; rfl
  go_enter Tryz.func11, Tryz.ntmps11
  go_wp2_with fail
  clear c0 c1 c2 c3 c4 c5 c6 hw1
  refine HCH.out.mono ?_
  rintro e w2 ⟨rfl, hb2⟩
  have HB2 := Lib.hid (HB1.out.trans (hb2.mono HB1.out.size))
  clear hb2
  go_wp2_with fail
  go_ret2
  exact ⟨rfl, HB2.out⟩
set_option maxHeartbeats 4000000 in
set_option maxRecDepth 100000 in
theorem ztext6_ok (w : World) (x : SheetM) {P : Nat → Prop} (hg : x.Good w P) (hf : x.Few) (hl : longD x.d = false) (hm : ∀ s ∈ namesD x.d, s.length ≤ maxLen) (hc : checkD x.d = 0) :
    Calls Tryz.prog 11 #[x.v] w fun e w' => e = .returned (.tuple #[.string (ba (textL (linesD x.d))), .int .i64 0]) ∧ Below w.heap.size w w' := by
  have hll := linesD_len x hf
  have HLE := Lib.hid (linesD_le x hc)
  obtain ⟨w1, hw1⟩ : ∃ w1, w.alloc (.cells x.c.toArray 29) = w1 := ⟨_, rfl⟩
  have hS1 : SheetAt w.heap.size x w1 := by rw [← hw1]; exact SheetAt.of (heap_alloc_new _ _)
  have hb1 : Below w.heap.size w w1 := by rw [← hw1]; exact (Below.refl _ _).alloc (Nat.le_refl _) _
  have hlt : w.heap.size < w1.heap.size := by rw [← hw1]; simp
  have HB1 := Lib.hid hb1
  have HG1 := Lib.hid (hg.below_ hb1)
  have HS1 := Lib.hid hS1
  have HLT := Lib.hid hlt
  have HF := Lib.hid hf
  obtain ⟨As, cs, es, _, _⟩ := hg.stops.shape
  obtain ⟨Ap, cp, ep, _, _⟩ := hg.paths.shape
  obtain ⟨Ad, cd, ed, _, _⟩ := hg.doors.shape
  obtain ⟨Ar, cr, er, _, _⟩ := hg.routes.shape
  obtain ⟨At, ct, et, _, _⟩ := hg.trips.shape
  obtain ⟨Ah, ch, eh, _, _⟩ := hg.hazs.shape
  have n0 := hf.stops
  have n1 := hf.paths
  have n2 := hf.doors
  have n3 := hf.routes
  have n4 := hf.trips
  have n5 := hf.hazs
  have cells : ∀ wx, SheetAt w.heap.size x wx → wx.cell? ⟨w.heap.size, 0, none⟩ = some (.int .i64 x.hor) ∧ wx.cell? ⟨w.heap.size, 1, none⟩ = some (.slice As x.stops.length cs) ∧ wx.cell? ⟨w.heap.size, 2, none⟩ = some (.slice Ap x.paths.length cp) ∧ wx.cell? ⟨w.heap.size, 3, none⟩ = some (.slice Ad x.doors.length cd) ∧ wx.cell? ⟨w.heap.size, 4, none⟩ = some (.slice Ar x.routes.length cr) ∧ wx.cell? ⟨w.heap.size, 5, none⟩ = some (.slice At x.trips.length ct) ∧ wx.cell? ⟨w.heap.size, 6, none⟩ = some (.slice Ah x.hazs.length ch) := by
    rintro wx ⟨s0, s1, s2, s3, s4, s5, s6⟩
    rw [es] at s1
    rw [ep] at s2
    rw [ed] at s3
    rw [er] at s4
    rw [et] at s5
    rw [eh] at s6
    exact ⟨s0, s1, s2, s3, s4, s5, s6⟩
  have CELLS := Lib.hid cells
  have HES := Lib.hid es
  have HEP := Lib.hid ep
  have HED := Lib.hid ed
  have HER := Lib.hid er
  have HET := Lib.hid et
  have HEH := Lib.hid eh
  have hch := zlines_ok w1 x (hg.below_ hb1) hf hl hm hc
  unfold SheetM.v at hch ⊢
  unfold SheetM.c at hw1
  rw [es, ep, ed, er, et, eh] at hw1 hch
  rw [es, ep, ed, er, et, eh]
  obtain ⟨c0, c1, c2, c3, c4, c5, c6⟩ := cells w1 hS1
  have HCH := Lib.hid hch
  clear es ep ed er et eh hS1 hb1 hf hg cells hch hl hm
  clear HG1 HS1 HF CELLS HES HEP HED HER HET HEH hc
  generalize linesD x.d = L at *
  go_enter Tryz.func11, Tryz.ntmps11
  go_wp2_with fail
  clear c0 c1 c2 c3 c4 c5 c6 hw1
  refine HCH.out.mono ?_
  clear HCH
  rintro e w2 ⟨v2, rfl, ho2, hb2⟩
  have HB2 := Lib.hid (HB1.out.trans (hb2.mono HB1.out.size))
  have HN2 := Lib.hid (ho2.sl nc_len)
  obtain ⟨A2, n2, p2, rfl⟩ := ow_form ho2
  obtain rfl : n2 = L.length := by
    obtain ⟨A9, p9, e9, _, _⟩ := (ho2.sl nc_len).shape
    exact (Value.slice.inj e9).2.1
  clear ho2 hb2
  go_wp2_with fail
  go_loopg [6, 7] L.length (fun gg v s wr => ∃ k : Nat, k ≤ L.length ∧ L.length - k ≤ gg ∧ s = .int .i64 k ∧ v = .string (ba (textL (L.take k))) ∧ w2 = wr)
  case atStart => exact ⟨0, Nat.zero_le _, by omega, rfl, rfl, rfl⟩
  case round =>
    obtain ⟨k, hk, hgg, rfl, rfl, rfl⟩ := hrel
    by_cases hlt : k < L.length
    · obtain ⟨b1, o1, p1, e1, _, _, hl1, _, hx⟩ := HN2.out.at_ hlt
      injection e1 with e1 e2 e3
      subst e1
      have hx0 : w2.cell? ⟨b1, o1 + k, none⟩ = some (.string (ba L[k])) := by simpa using hx 0 _ rfl
      have hs4 := HLE.out L[k] (List.getElem_mem hlt)
      have hs3 : (textL (L.take k)).length ≤ 6200 * 4001 := by
        refine Nat.le_trans (textL_le (L.take k) (B := 4000) fun s hs => HLE.out s (List.mem_of_mem_take hs)) ?_
        exact Nat.mul_le_mul_right _ (by rw [List.length_take]; omega)
      have HE := Lib.hid (show ba (textL (L.take k)) ++ ba L[k] ++ ⟨#[10]⟩ = ba (textL (L.take (k + 1))) by
        rw [textL_succ _ _ hlt, cZ [10], ba_appZ, ba_appZ])
      obtain ⟨A, hA⟩ : ∃ A, textL (L.take k) = A := ⟨_, rfl⟩
      obtain ⟨y, hy⟩ : ∃ y, L[k] = y := ⟨_, rfl⟩
      rw [hA] at hs3 HE ⊢
      rw [hy] at hx0 hs4 HE
      have za : (ba A).size ≤ 24806200 := by rw [ba_size]; exact hs3
      have zb : (ba y).size ≤ 4000 := by rw [ba_size]; exact hs4
      have zc : (ba A ++ ba y).size ≤ 24810200 := by rw [ByteArray.size_append]; exact Nat.add_le_add za zb
      have zd : (ba A ++ ba y ++ ⟨#[10]⟩).size ≤ 24810201 := by rw [ByteArray.size_append]; exact Nat.add_le_add zc (Nat.le_of_eq rfl)
      have q1 : (0 : Int) ≤ (k : Int) := by omega
      have q2 : (k : Int) < (L.length : Int) := by omega
      clear hx e2 e3 hs3 hs4 hA hy
      go_wp2_with fail
      go_roundg (L.length - (k + 1))
      case measure => omega
      case rel => exact ⟨k + 1, by omega, by omega, by go_num, by rw [← HE.out], rfl⟩
    · have hke : k = L.length := by omega
      subst hke
      have q1 : ¬ (L.length : Int) < (L.length : Int) := Int.lt_irrefl _
      rw [List.take_length]
      go_wp2_with fail
      go_ret2
      exact ⟨rfl, HB2.out⟩
end Go.Proofs.YtmihinhbcncbfaaGreatDoor
