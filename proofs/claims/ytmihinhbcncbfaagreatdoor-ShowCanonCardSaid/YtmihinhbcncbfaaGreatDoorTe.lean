/- The walk of show.Text. -/
import Derived.Test.YtmihinhbcncbfaaGreatDoorLj
namespace Go.Proofs.YtmihinhbcncbfaaGreatDoor
open Go.RowKit

/-- Lines, each with an end behind it. -/
def textL (l : Nms) : List UInt8 := l.flatMap fun x => x ++ [10]
theorem textL_join (l : Nms) (h : 0 < l.length) : Lib.join (l ++ [[]]) [10] = textL l := by
  have key : ∀ r : Nms, Lib.joinTail [10] (r ++ [[]]) = [10] ++ textL r := by
    intro r
    induction r with
    | nil => rfl
    | cons y r ih =>
      unfold Lib.joinTail at ih ⊢
      rw [List.cons_append, List.map_cons, List.flatten_cons, ih]
      simp [textL]
  cases l with
  | nil => cases h
  | cons x r =>
    rw [List.cons_append, Lib.join_cons, key]
    simp [textL]
theorem textL_le (l : Nms) {B : Nat} (h : ∀ s ∈ l, s.length ≤ B) : (textL l).length ≤ l.length * (B + 1) := by
  induction l with
  | nil => simp [textL]
  | cons x r ih =>
    have h1 := h x (by simp)
    have h2 := ih fun s hs => h s (by simp [hs])
    unfold textL at h2 ⊢
    rw [List.flatMap_cons, List.length_append, List.length_append, show (x :: r).length = r.length + 1 from rfl, Nat.add_mul]
    simp only [List.length_cons, List.length_nil]
    omega
theorem horL_le40 {h : Int} (k : I64 h) : (horL h).length ≤ 4000 := by
  refine Nat.le_trans (line_le _ 24 ?_) (by show 25 * 2 ≤ _; decide)
  intro y hy
  simp only [List.mem_cons, List.not_mem_nil, or_false] at hy
  rcases hy with rfl | rfl
  · decide
  · exact dec_le k
theorem linesD_le (x : SheetM) (h : checkD x.d = 0) : ∀ s ∈ linesD x.d, s.length ≤ 4000 := by
  have hf := fineB_of x h
  intro s hs
  unfold linesD at hs
  simp only [List.mem_append, List.mem_singleton, List.mem_map] at hs
  rcases hs with (((((rfl | ⟨y, hy, rfl⟩) | ⟨y, hy, rfl⟩) | ⟨y, hy, rfl⟩) | ⟨y, hy, rfl⟩) | ⟨y, hy, rfl⟩) | ⟨y, hy, rfl⟩
  · exact horL_le40 hf.hor
  · exact hf.stops y hy
  · exact (hf.paths y hy).2
  · exact (hf.doors y hy).2.1
  · obtain ⟨r, hr, rfl⟩ := List.mem_map.1 hy
    exact (hf.routes r hr).2.2
  · exact (hf.trips y hy).2
  · exact (hf.hazs y hy).2.1
theorem linesD_len (x : SheetM) (hf : x.Few) : (linesD x.d).length ≤ 6200 := by
  have h1 := hf.stops
  have h2 := hf.paths
  have h3 := hf.doors
  have h4 := hf.routes
  have h5 := hf.trips
  have h6 := hf.hazs
  unfold linesD
  simp only [List.length_append, List.length_map, List.length_cons, List.length_nil, SheetM.d]
  omega
theorem linesD_pos (x : SheetD) : 0 < (linesD x).length := by unfold linesD; simp
theorem map_ba (l : Nms) : ((l.map ba).map fun s : ByteArray => s.data.toList) = l := by
  rw [List.map_map]
  conv => rhs; rw [← List.map_id l]
  exact List.map_congr_left fun s _ => rfl
theorem join_lines (w : World) (b off cap : Nat) (L : Nms) (h0 : 0 < L.length) (h1 : L.length ≤ 6200) (hl : ∀ s ∈ L, s.length ≤ 4000) (hb : b < w.heap.size) (hc : (L ++ [[]]).length ≤ cap)
    (hx : ∀ i x, (L ++ [[]])[i]? = some x → ∀ j u, (nc x)[j]? = some u → w.cell? ⟨b, off + i * 1 + j, none⟩ = some u) :
    Calls Tryz.prog 30 #[.slice (some ⟨b, off, none⟩) (L.length + 1) cap, .string ⟨#[10]⟩] w fun e w' => e = .returned (.string (ba (textL L))) ∧ Below w.heap.size w w' := by
  have ej : Lib.join (((L ++ [[]]).map ba).map fun s : ByteArray => s.data.toList) [10] = textL L := by rw [map_ba, textL_join L h0]
  have hle := textL_le L hl
  have hmul := Nat.mul_le_mul_right 4001 h1
  have hh := Any.strings_Join Tryz.lays156 (builderX _ rfl) b off cap ((L ++ [[]]).map ba) ⟨#[10]⟩ w (fun j x hj => by
    rw [List.getElem?_map] at hj
    rcases hr : (L ++ [[]])[j]? with _ | y
    · rw [hr] at hj; cases hj
    · rw [hr] at hj
      injection hj with hj
      subst hj
      have := hx j y hr 0 _ rfl
      simpa using this) hb (by rw [List.length_map, List.length_append]; simp; omega) (by rw [List.length_map]; exact hc) (by rw [show (⟨#[10]⟩ : ByteArray).data.toList = [10] from rfl, ej]; omega)
  rw [List.length_map, List.length_append, List.length_singleton, show (⟨#[10]⟩ : ByteArray).data.toList = [10] from rfl, ej] at hh
  exact hh
set_option maxHeartbeats 1000000 in
theorem text_bad (w : World) (x : SheetM) {P : Nat → Prop} (hg : x.Good w P) (hf : x.Few) (hl : longD x.d = false) (hT : Tabs w) (hm : ∀ s ∈ namesD x.d, s.length ≤ maxLen) (hc : checkD x.d ≠ 0) :
    Calls Tryz.prog 9 #[x.v] w fun e w' => e = .returned (.tuple #[.string (ba []), .int .i64 (checkD x.d)]) ∧ Below w.heap.size w w' := by
  obtain ⟨w1, hw1⟩ : ∃ w1, w.alloc (.cells x.c.toArray 29) = w1 := ⟨_, rfl⟩
  have hS1 : SheetAt w.heap.size x w1 := by rw [← hw1]; exact SheetAt.of (heap_alloc_new _ _)
  have hb1 : Below w.heap.size w w1 := by rw [← hw1]; exact (Below.refl _ _).alloc (Nat.le_refl _) _
  have HB1 := Lib.hid hb1
  have HCH := lines_bad w1 x (hg.below_ hb1) hf hl (hT.below hb1) hm hc
  obtain ⟨As, cs, es, _, _⟩ := hg.stops.shape
  obtain ⟨Ap, cp, ep, _, _⟩ := hg.paths.shape
  obtain ⟨Ad, cd, ed, _, _⟩ := hg.doors.shape
  obtain ⟨Ar, cr, er, _, _⟩ := hg.routes.shape
  obtain ⟨At, ct, et, _, _⟩ := hg.trips.shape
  obtain ⟨Ah, ch, eh, _, _⟩ := hg.hazs.shape
  obtain ⟨c0, c1, c2, c3, c4, c5, c6⟩ := hS1
  unfold SheetM.c at hw1
  unfold SheetM.v at HCH
  unfold SheetM.v
  rw [es, ep, ed, er, et, eh] at hw1 HCH
  rw [es, ep, ed, er, et, eh]
  rw [es] at c1
  rw [ep] at c2
  rw [ed] at c3
  rw [er] at c4
  rw [et] at c5
  rw [eh] at c6
  have HCC := Lib.hid HCH
  generalize checkD x.d = q at *
  have hq : (q == 0) = false := beq_eq_false_iff_ne.2 hc
  have hq2 : (q != 0) = true := by rw [bne, hq]; rfl
  clear HCH es ep ed er et eh hf hg hT hm hl hb1
  go_enter Tryz.func9, Tryz.ntmps9
  go_wp2_with fail
  refine HCC.out.mono ?_
  rintro e w2 ⟨rfl, hb2⟩
  have HB2 := Lib.hid (HB1.out.trans (hb2.mono HB1.out.size))
  clear hb2
  go_wp2_with fail
  go_ret2
  exact ⟨rfl, HB2.out⟩
set_option maxHeartbeats 2000000 in
set_option maxRecDepth 100000 in
theorem text_ok (w : World) (x : SheetM) {P : Nat → Prop} (hg : x.Good w P) (hf : x.Few) (hl : longD x.d = false) (hT : Tabs w) (hP : Pow w) (hm : ∀ s ∈ namesD x.d, s.length ≤ maxLen) (hc : checkD x.d = 0) :
    Calls Tryz.prog 9 #[x.v] w fun e w' => e = .returned (.tuple #[.string (ba (textL (linesD x.d))), .int .i64 0]) ∧ Below w.heap.size w w' := by
  obtain ⟨i0, hi0, hz0, hz1, hz2⟩ := info_parts info_string
  have hll := linesD_len x hf
  have hlp := linesD_pos x.d
  have HLE := Lib.hid (linesD_le x hc)
  obtain ⟨w1, hw1⟩ : ∃ w1, w.alloc (.cells x.c.toArray 29) = w1 := ⟨_, rfl⟩
  have hS1 : SheetAt w.heap.size x w1 := by rw [← hw1]; exact SheetAt.of (heap_alloc_new _ _)
  have hb1 : Below w.heap.size w w1 := by rw [← hw1]; exact (Below.refl _ _).alloc (Nat.le_refl _) _
  have HB1 := Lib.hid hb1
  have HCH := lines_ok w1 x (hg.below_ hb1) hf hl (hT.below hb1) (hP.below hb1) hm hc
  obtain ⟨As, cs, es, _, _⟩ := hg.stops.shape
  obtain ⟨Ap, cp, ep, _, _⟩ := hg.paths.shape
  obtain ⟨Ad, cd, ed, _, _⟩ := hg.doors.shape
  obtain ⟨Ar, cr, er, _, _⟩ := hg.routes.shape
  obtain ⟨At, ct, et, _, _⟩ := hg.trips.shape
  obtain ⟨Ah, ch, eh, _, _⟩ := hg.hazs.shape
  obtain ⟨c0, c1, c2, c3, c4, c5, c6⟩ := hS1
  unfold SheetM.c at hw1
  unfold SheetM.v at HCH
  unfold SheetM.v
  rw [es, ep, ed, er, et, eh] at hw1 HCH
  rw [es, ep, ed, er, et, eh]
  rw [es] at c1
  rw [ep] at c2
  rw [ed] at c3
  rw [er] at c4
  rw [et] at c5
  rw [eh] at c6
  generalize linesD x.d = L at *
  have HCC := Lib.hid HCH
  clear HCH es ep ed er et eh hf hg hT hm hl hc hP hb1
  go_enter Tryz.func9, Tryz.ntmps9
  go_wp2_with fail
  refine HCC.out.mono ?_
  rintro e w2 ⟨v, rfl, ho, hb2⟩
  have HB2 := Lib.hid hb2
  have HO := Lib.hid ho
  have HSZ := Lib.hid hb2.size
  clear hb2 ho
  go_wp2_with (at_builtin; refine wpList_append_sl _ rfl _ _ _ rfl w1.heap.size 9 i0 _ 16 Tryz.underlying22 hi0 hz0 hz1 hz2 rfl (by omega) nc_len nc_one _ _ L [[]] rfl rfl (HO.out.alloc _) (Sl.newl [[]] nc_len rfl rfl (by show 1 ≤ maxLen; decide) rfl) (by simp only [maxLen, List.length_cons, List.length_nil]; omega) (by simp only [List.length_cons, List.length_nil]; omega) (by simp; have := HSZ.out; omega) ?_; intro v6 w6 hown6 hg6 hmv6; obtain ⟨b6, o6, p6, rfl, hp6, _, hb6, _, hx6⟩ := (hown6.sl nc_len).form (by simp))
  have HB6 := Lib.hid ((HB2.out.alloc HSZ.out _).grown hg6 (by simp; have := HSZ.out; omega) fun k hk => (HO.out.lt hk).1)
  refine (join_lines w6 b6 o6 p6 L hlp hll HLE.out hb6 hp6 hx6).mono ?_
  rintro e w7 ⟨rfl, hb7⟩
  have HB7 := Lib.hid (HB1.out.trans ((HB6.out.trans (hb7.mono HB6.out.size)).mono HB1.out.size))
  clear hb7 hown6 hg6 hmv6 hx6
  go_wp2_with fail
  go_ret2
  exact ⟨rfl, HB7.out⟩
end Go.Proofs.YtmihinhbcncbfaaGreatDoor
