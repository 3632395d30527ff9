/- The reader's line and timetableref05.Parse: plain words. -/
import Derived.Test.YtmihinhbcncbfaaGreatDoorQg
import Derived.BigQuiet
import Derived.Deep.QuietTactic
import Derived.Test.YtmihinhbcncbfaaGreatDoorZq
namespace Go.Proofs.YtmihinhbcncbfaaGreatDoor
open Go.RowKit
def lineD (L : List TokD) (s : Rd) (d : SheetD) : Rd × SheetD :=
  if (nowD L s).kind = 2 ∧ (nowD L s).text ∈ keysL then
    if fullD d (nowD L s).text = true then (failD s 3 (nowD L s), d)
    else ((takeD L (thingD L ⟨s.at_ + 1, s.e, s.ln, s.cl⟩ d (nowD L s).text).1 4 []).1, (thingD L ⟨s.at_ + 1, s.e, s.ln, s.cl⟩ d (nowD L s).text).2)
  else (failD s 7 (nowD L s), d)
def parseRun (L : List TokD) : Nat → Rd → SheetD → Rd × SheetD
  | 0, s, d => (s, d)
  | n + 1, s, d => if s.e = 0 ∧ s.at_ < L.length then parseRun L n (lineD L s d).1 (lineD L s d).2 else (s, d)
def zeroD : SheetD := ⟨0, [], [], [], [], [], []⟩
def parseS (s : ByteArray) : SheetD × FaultD :=
  if (allD s).2.err ≠ 0 then (zeroD, (allD s).2)
  else
    let L := (allD s).1
    let n := numD L (keyD L ⟨0, 0, 0, 0⟩ kHorizon)
    let r := parseRun L (L.length + 1) (takeD L n.1 4 []).1 { zeroD with hor := n.2 }
    if r.1.e ≠ 0 then (zeroD, ⟨r.1.e, r.1.ln, r.1.cl⟩) else (r.2, ⟨0, 0, 0⟩)
theorem failD_at (s : Rd) (er : Int) (t : TokD) : (failD s er t).at_ = s.at_ := by unfold failD; split <;> rfl
theorem takeD_mono (L : List TokD) (s : Rd) (kind : Int) (k : List UInt8) : s.at_ ≤ (takeD L s kind k).1.at_ := by
  unfold takeD
  split
  · exact Nat.le_refl _
  · split
    · rw [failD_at]; exact Nat.le_refl _
    · exact Nat.le_succ _
theorem nameD_mono (L : List TokD) (s : Rd) : s.at_ ≤ (nameD L s).1.at_ := takeD_mono _ _ _ _
theorem numD_mono (L : List TokD) (s : Rd) : s.at_ ≤ (numD L s).1.at_ := takeD_mono _ _ _ _
theorem keyD_mono (L : List TokD) (s : Rd) (k : List UInt8) : s.at_ ≤ (keyD L s k).at_ := takeD_mono _ _ _ _
theorem afterD_mono (L : List TokD) (s : Rd) (k : List UInt8) : s.at_ ≤ (afterD L s k).1.at_ := Nat.le_trans (keyD_mono L s k) (numD_mono _ _)
theorem timesRD_mono (L : List TokD) (s : Rd) (k : List UInt8) : s.at_ ≤ (timesRD L s k).1.at_ :=
  Nat.le_trans (afterD_mono L s kFrom) (Nat.le_trans (afterD_mono _ _ _) (afterD_mono _ _ _))
theorem midR_at (L : List TokD) (s : Rd) (n : Nat) : (midR L s n).at_ = s.at_ := by unfold midR; split; exact failD_at _ _ _; rfl
theorem stayR_mono (L : List TokD) (s : Rd) : s.at_ ≤ (stayR L s).1.at_ := by unfold stayR; split; exact afterD_mono _ _ _; exact Nat.le_refl _
theorem routeRun_mono (L : List TokD) : ∀ (n : Nat) (s : Rd) (ss : Nms) (rs ys : List Int), s.at_ ≤ (routeRun L n s ss rs ys).1.at_ := by
  intro n
  induction n with
  | zero => intro s ss rs ys; exact Nat.le_refl _
  | succ n ih =>
    intro s ss rs ys
    have h1 := numD_mono L s
    have h2 := nameD_mono L (midR L (numD L s).1 ss.length)
    rw [midR_at] at h2
    by_cases he : s.e = 0
    · by_cases hm : (nameD L (midR L (numD L s).1 ss.length)).1.e ≠ 0 ∨ (nowD L (nameD L (midR L (numD L s).1 ss.length)).1).kind = 4
      · rw [routeRun_ret he hm]; exact Nat.le_trans h1 h2
      · rw [routeRun_go he hm]
        exact Nat.le_trans (Nat.le_trans h1 h2) (Nat.le_trans (stayR_mono _ _) (ih _ _ _ _))
    · rw [routeRun_bad he]; exact Nat.le_refl _
theorem routeRD_mono (L : List TokD) (s : Rd) : s.at_ ≤ (routeRD L s).1.at_ :=
  Nat.le_trans (nameD_mono L s) (Nat.le_trans (nameD_mono _ _) (routeRun_mono _ _ _ _ _ _))
theorem pathRD_mono (L : List TokD) (s : Rd) : s.at_ ≤ (pathRD L s).1.at_ :=
  Nat.le_trans (nameD_mono L s) (Nat.le_trans (nameD_mono _ _) (Nat.le_trans (nameD_mono _ _) (numD_mono _ _)))
theorem doorRD_mono (L : List TokD) (s : Rd) : s.at_ ≤ (doorRD L s).1.at_ := Nat.le_trans (pathRD_mono L s) (timesRD_mono _ _ _)
theorem tripRD_mono (L : List TokD) (s : Rd) : s.at_ ≤ (tripRD L s).1.at_ :=
  Nat.le_trans (nameD_mono L s) (Nat.le_trans (keyD_mono _ _ _) (Nat.le_trans (nameD_mono _ _) (Nat.le_trans (afterD_mono _ _ _) (Nat.le_trans (afterD_mono _ _ _) (afterD_mono _ _ _)))))
theorem hazRD_mono (L : List TokD) (s : Rd) : s.at_ ≤ (hazRD L s).1.at_ :=
  Nat.le_trans (nameD_mono L s) (Nat.le_trans (keyD_mono _ _ _) (Nat.le_trans (nameD_mono _ _) (timesRD_mono _ _ _)))
theorem thingD_mono (L : List TokD) (s : Rd) (d : SheetD) (k : List UInt8) : s.at_ ≤ (thingD L s d k).1.at_ := by
  unfold thingD
  split
  · exact nameD_mono _ _
  · split
    · exact pathRD_mono _ _
    · split
      · exact doorRD_mono _ _
      · split
        · exact routeRD_mono _ _
        · split
          · exact tripRD_mono _ _
          · exact hazRD_mono _ _
theorem failD_bad {s : Rd} {er : Int} {t : TokD} (h : s.e = 0) (he : er ≠ 0) : (failD s er t).e ≠ 0 := by unfold failD; rw [if_pos h]; exact he
theorem lineD_at {L : List TokD} {s : Rd} {d : SheetD} (h0 : s.e = 0) (h : (lineD L s d).1.e = 0) : s.at_ < (lineD L s d).1.at_ := by
  unfold lineD at h ⊢
  split
  · rename_i hk
    rw [if_pos hk] at h
    split
    · rename_i hf
      rw [if_pos hf] at h
      exact absurd h (failD_bad h0 (by decide))
    · exact Nat.lt_of_lt_of_le (Nat.lt_succ_self s.at_) (Nat.le_trans (thingD_mono L ⟨s.at_ + 1, s.e, s.ln, s.cl⟩ d _) (takeD_mono _ _ _ _))
  · rename_i hk
    rw [if_neg hk] at h
    exact absurd h (failD_bad h0 (by decide))
structure SmallD (x : SheetD) : Prop where
  s : x.stops.length ≤ 1024
  p : x.paths.length ≤ 1024
  d : x.doors.length ≤ 1024
  r : x.routes.length ≤ 1024
  t : x.trips.length ≤ 1024
  h : x.hazs.length ≤ 1024
theorem SmallD.s' {x : SheetM} (h : SmallD x.d) : SmallS x := ⟨h.s, h.p, h.d, by have := h.r; rw [d_len] at this; exact this, h.t, h.h⟩
theorem thingD_small {L : List TokD} {s : Rd} {d : SheetD} {k : List UInt8} (h : SmallD d) (hk : k ∈ keysL) (hf : fullD d k = false) : SmallD (thingD L s d k).2 := by
  obtain ⟨h1, h2, h3, h4, h5, h6⟩ := h
  unfold keysL at hk
  simp only [List.mem_cons, List.not_mem_nil, or_false] at hk
  rcases hk with rfl | rfl | rfl | rfl | rfl | rfl
  · have hf2 : decide (256 ≤ d.stops.length) = false := hf
    rw [decide_eq_false_iff_not] at hf2
    exact ⟨by show (d.stops ++ [_]).length ≤ _; rw [List.length_append, List.length_singleton]; omega, h2, h3, h4, h5, h6⟩
  · have hf2 : decide (1024 ≤ d.paths.length) = false := hf
    rw [decide_eq_false_iff_not] at hf2
    exact ⟨h1, by show (d.paths ++ [_]).length ≤ _; rw [List.length_append, List.length_singleton]; omega, h3, h4, h5, h6⟩
  · have hf2 : decide (256 ≤ d.doors.length) = false := hf
    rw [decide_eq_false_iff_not] at hf2
    exact ⟨h1, h2, by show (d.doors ++ [_]).length ≤ _; rw [List.length_append, List.length_singleton]; omega, h4, h5, h6⟩
  · have hf2 : decide (256 ≤ d.routes.length) = false := hf
    rw [decide_eq_false_iff_not] at hf2
    exact ⟨h1, h2, h3, by show (d.routes ++ [_]).length ≤ _; rw [List.length_append, List.length_singleton]; omega, h5, h6⟩
  · have hf2 : decide (1024 ≤ d.trips.length) = false := hf
    rw [decide_eq_false_iff_not] at hf2
    exact ⟨h1, h2, h3, h4, by show (d.trips ++ [_]).length ≤ _; rw [List.length_append, List.length_singleton]; omega, h6⟩
  · have hf2 : decide (256 ≤ d.hazs.length) = false := hf
    rw [decide_eq_false_iff_not] at hf2
    exact ⟨h1, h2, h3, h4, h5, by show (d.hazs ++ [_]).length ≤ _; rw [List.length_append, List.length_singleton]; omega⟩
theorem lineD_small {L : List TokD} {s : Rd} {d : SheetD} (h : SmallD d) : SmallD (lineD L s d).2 := by
  unfold lineD
  split
  · rename_i hk
    split
    · exact h
    · rename_i hf
      exact thingD_small h hk.2 (by simpa using hf)
  · exact h
def knownD (t : TokD) (i : Nat) : Bool := (t.kind == 2) && (keysL.take i).contains t.text
theorem knownD_zero (t : TokD) : knownD t 0 = false := by unfold knownD; simp
theorem knownD_succ (t : TokD) (i : Nat) (h : i < keysL.length) : knownD t (i + 1) = (knownD t i || ((t.kind == 2) && (t.text == keysL[i]))) := by
  unfold knownD
  rw [take_succ_eq keysL i h]
  generalize keysL.take i = A
  generalize keysL[i] = z
  rw [Bool.eq_iff_iff]
  simp
  constructor
  · rintro ⟨h1, h2 | h2⟩
    · exact .inl ⟨h1, h2⟩
    · exact .inr ⟨h1, h2⟩
  · rintro (⟨h1, h2⟩ | ⟨h1, h2⟩)
    · exact ⟨h1, .inl h2⟩
    · exact ⟨h1, .inr h2⟩
theorem knownD_six (t : TokD) : knownD t 6 = decide (t.kind = 2 ∧ t.text ∈ keysL) := by
  unfold knownD
  rw [show keysL.take 6 = keysL from rfl, Bool.eq_iff_iff]
  simp
end Go.Proofs.YtmihinhbcncbfaaGreatDoor
/- The walk of the reader's line. -/
namespace Go.Proofs.YtmihinhbcncbfaaGreatDoor
open Go.RowKit
theorem qthing_any (B b : Nat) (v : Value) (L : List TokD) (s : Rd) (x : SheetM) (k : List UInt8) (w : World) (h : RdOk b v L s x.xv w) (hs : ShAt B b x w) (hm : SmallS x) (hk : k ∈ keysL) :
    Calls Tryz.prog 96 #[.pointer (some ⟨b, 0, none⟩), .string (ba k)] w (Thing B b v L (thingD L s x.d k) w) := by
  unfold keysL at hk
  simp only [List.mem_cons, List.not_mem_nil, or_false] at hk
  rcases hk with rfl | rfl | rfl | rfl | rfl | rfl
  · exact qthing_stop B b v L s x w h hs hm
  · exact qthing_path B b v L s x w h hs hm
  · exact qthing_door B b v L s x w h hs hm
  · exact qthing_route B b v L s x w h hs hm
  · exact qthing_trip B b v L s x w h hs hm
  · exact qthing_haz B b v L s x w h hs hm
/-- What a line leaves: the reader may stand one behind the last token. -/
def LineT (B b : Nat) (v : Value) (L : List TokD) (r : Rd × SheetD) (w : World) (e : Ending) (w' : World) : Prop :=
  ∃ x' : SheetM, x'.d = r.2 ∧ e = .returned (.tuple #[]) ∧ Sl tkc 5 w' v L (fun k => k < b) ∧ RdAt b v r.1 x'.xv w' ∧ r.1.at_ ≤ L.length + 1 ∧ ShAt B b x' w' ∧ Below b w w'
theorem bool_or_of {a b : Bool} (h : a = true) : true = (a || b) := by rw [h]; rfl
set_option maxHeartbeats 8000000 in
set_option maxRecDepth 100000 in
theorem qline_any (B b : Nat) (v : Value) (L : List TokD) (s : Rd) (x : SheetM) (w : World) (h : RdOk b v L s x.xv w) (hs : ShAt B b x w) (hm : SmallS x) (hat : s.at_ < L.length) :
    Calls Tryz.prog 58 #[.pointer (some ⟨b, 0, none⟩)] w (LineT B b v L (lineD L s x.d) w) := by
  have HLT := Lib.hid h.lt
  have HO := Lib.hid h
  have HS := Lib.hid hs
  have HM := Lib.hid hm
  have HAT := Lib.hid hat
  obtain ⟨R, hR⟩ : ∃ r, lineD L s x.d = r := ⟨_, rfl⟩
  obtain ⟨t, ht⟩ : ∃ t, nowD L s = t := ⟨_, rfl⟩
  rw [hR]
  have hlen := h.len
  have HR := Lib.hid hR
  have HN := Lib.hid ht
  clear h hs hm hat hR ht
  go_enter Tryz.func58, Tryz.ntmps58
  go_wp2_with fail
  refine (qnow_any b v L s x.xv w HO.out.S HO.out.R).mono ?_
  rw [HN.out]
  unfold tkc
  rintro e w1 ⟨rfl, hb1⟩
  have HB1 := Lib.hid hb1
  clear hb1
  go_upto_region 1 with fail
  obtain ⟨g, hgq⟩ : ∃ g, w1.heap.size = g := ⟨_, rfl⟩
  obtain ⟨w2, hw2⟩ : ∃ w2, w1.alloc (.cells #[.int .i64 t.kind, .string (ba t.text), .int .i64 t.num, .int .i64 t.line, .int .i64 t.col] 95) = w2 := ⟨_, rfl⟩
  have HE2 := Lib.hid (show w2.heap[g]? = some (.cells #[.int .i64 t.kind, .string (ba t.text), .int .i64 t.num, .int .i64 t.line, .int .i64 t.col] 95 (0, 0)) by rw [← hw2, ← hgq]; exact heap_alloc_new _ _)
  have HB2 := Lib.hid (show Below w.heap.size w w2 by rw [← hw2]; exact HB1.out.alloc HB1.out.size _)
  have HZ2 := Lib.hid (show w2.heap.size = g + 1 by rw [← hw2, ← hgq]; simp)
  rw [hw2, hgq]
  clear hw2 hgq HB1
  go_upto_region 2 with fail
  obtain ⟨q, hq⟩ : ∃ q, w2.heap.size = q := ⟨_, rfl⟩
  obtain ⟨wd, hwd⟩ : ∃ wd, w2.alloc (.cells #[.string ⟨#[115, 116, 111, 112]⟩, .string ⟨#[112, 97, 116, 104]⟩, .string ⟨#[100, 111, 111, 114]⟩, .string ⟨#[114, 111, 117, 116, 101]⟩, .string ⟨#[116, 114, 105, 112]⟩, .string ⟨#[104, 97, 122, 97, 114, 100]⟩] 9) = wd := ⟨_, rfl⟩
  have HE := Lib.hid (show wd.heap[g]? = some (.cells #[.int .i64 t.kind, .string (ba t.text), .int .i64 t.num, .int .i64 t.line, .int .i64 t.col] 95 (0, 0)) by rw [← hwd, Below.heap_alloc _ _ _ (by have := HZ2.out; omega)]; exact HE2.out)
  have HKL := Lib.hid (show Sl nc 1 wd (.slice (some ⟨q, 0, none⟩) 6 6) keysL (fun _ => True) by rw [← hwd]; exact Sl.newl keysL nc_len rfl rfl (by decide) hq)
  have HB := Lib.hid (show Below w.heap.size w wd by rw [← hwd]; exact HB2.out.alloc HB2.out.size _)
  rw [hwd, hq]
  clear hwd hq HE2 HB2 HZ2
  go_wp2_with fail
  go_loopg [4, 5] 6 (fun gg v4 v5 wr => ∃ i : Nat, i ≤ 6 ∧ 6 - i ≤ gg ∧ v5 = .int .i64 i ∧ v4 = .bool (knownD t i) ∧ Hid (wr.heap = wd.heap ∧ Below w.heap.size w wr))
  case atStart => exact ⟨0, Nat.zero_le _, Nat.le_refl _, rfl, by rw [knownD_zero], Lib.hid ⟨rfl, HB.out⟩⟩
  case round =>
    obtain ⟨i, hi, hgi, rfl, rfl, hsame⟩ := hrel
    have HEr := Lib.hid (show wr.heap[g]? = some (.cells #[.int .i64 t.kind, .string (ba t.text), .int .i64 t.num, .int .i64 t.line, .int .i64 t.col] 95 (0, 0)) by rw [hsame.out.1]; exact HE.out)
    by_cases hlt : i < 6
    · have hkl : i < keysL.length := hlt
      have hks := knownD_succ t i hkl
      obtain ⟨b1, o1, p1, e1, _, _, hl1, _, hx⟩ := (HKL.out.keep (by rw [hsame.out.1]; exact Nat.le_refl _) fun k _ _ => by rw [hsame.out.1]).at_ hkl
      have e2 := (Addr.mk.inj (Option.some.inj (Value.slice.inj e1).1)).1
      have e3 := (Addr.mk.inj (Option.some.inj (Value.slice.inj e1).1)).2.1
      subst e2 e3
      obtain ⟨z, hz⟩ : ∃ z, keysL[i] = z := ⟨_, rfl⟩
      rw [hz] at hx hks
      have x0 : wr.cell? ⟨q, i, none⟩ = some (.string (ba z)) := by simpa using hx 0 _ rfl
      have t0 : wr.cell? ⟨g, 0, none⟩ = some (.int .i64 t.kind) := Lib.cell_of_heap HEr.out 0
      have t1 : wr.cell? ⟨g, 1, none⟩ = some (.string (ba t.text)) := Lib.cell_of_heap HEr.out 1
      have q0 : (0 : Int) ≤ (i : Int) := by omega
      have q1 : (i : Int) < 6 := by omega
      clear hx e1 hz hl1
      cases hkn : knownD t i
      · rw [hkn, Bool.false_or] at hks
        by_cases hk2 : t.kind = 2
        · have c1 : (t.kind == 2) = true := beq_iff_eq.2 hk2
          rw [c1, Bool.true_and] at hks
          have c2 : ((ba t.text).toList == (ba z).toList) = (t.text == z) := by rw [ba_toList, ba_toList]
          obtain ⟨y, hy⟩ : ∃ y, (t.text == z) = y := ⟨_, rfl⟩
          rw [hy] at hks c2
          have HKS := Lib.hid hks
          clear hks hy hk2 hkn
          go_wp2_with fail
          go_quiet (fail)
          go_wp2_with fail
          go_roundg (6 - (i + 1))
          case measure => omega
          case rel => exact ⟨i + 1, by omega, by omega, by go_num, by rw [HKS.out], Lib.hid ⟨hsame.out.1, below_drewN hsame.out.2 _⟩⟩
        · have c1 : (t.kind == 2) = false := beq_eq_false_iff_ne.2 hk2
          rw [c1, Bool.false_and] at hks
          have HKS := Lib.hid hks
          clear hks hk2 hkn
          go_wp2_with fail
          go_quiet (fail)
          go_wp2_with fail
          go_roundg (6 - (i + 1))
          case measure => omega
          case rel => exact ⟨i + 1, by omega, by omega, by go_num, by rw [HKS.out], Lib.hid ⟨hsame.out.1, below_drewN hsame.out.2 _⟩⟩
      · have HKS := Lib.hid (hks.trans (bool_or_of hkn).symm)
        clear hks hkn
        go_wp2_with fail
        go_quiet (fail)
        go_wp2_with fail
        go_roundg (6 - (i + 1))
        case measure => omega
        case rel => exact ⟨i + 1, by omega, by omega, by go_num, by rw [HKS.out], Lib.hid ⟨hsame.out.1, below_drewN hsame.out.2 _⟩⟩
    · obtain rfl : i = 6 := by omega
      rw [knownD_six]
      have HBr := Lib.hid hsame.out.2
      have HOr := Lib.hid (HO.out.new HBr.out)
      have HSr := Lib.hid (HS.out.keep (Keep.of HBr.out (Nat.le_of_lt HLT.out)))
      clear hsame
      by_cases hkn : t.kind = 2 ∧ t.text ∈ keysL
      · rw [decide_eq_true hkn]
        have HTK := Lib.hid hkn.2
        obtain ⟨As, cs, Ap, cp, Ad, cd, Ar, cr, At, ct, Ah, ch, es, ep, ed, er, et, eh⟩ := HSr.out.forms
        have hfu := fun W => qfull_any B b x t.text W wr HSr.out hkn.2
        have HLD := Lib.hid (show R = if fullD x.d t.text = true then (failD s 3 t, x.d) else ((takeD L (thingD L ⟨s.at_ + 1, s.e, s.ln, s.cl⟩ x.d t.text).1 4 []).1, (thingD L ⟨s.at_ + 1, s.e, s.ln, s.cl⟩ x.d t.text).2) by
          rw [← HR.out]; unfold lineD; rw [HN.out, if_pos hkn])
        unfold SheetM.v at hfu
        rw [es, ep, ed, er, et, eh] at hfu
        have HFU := Lib.hid hfu
        have HC := Lib.hid (fun (wy : World) (hy : Below wr.heap.size wr wy) => (show wy.cell? ⟨b, 5, none⟩ = some (.int .i64 x.hor) ∧ wy.cell? ⟨b, 6, none⟩ = some (.slice As x.stops.length cs) ∧ wy.cell? ⟨b, 7, none⟩ = some (.slice Ap x.paths.length cp) ∧ wy.cell? ⟨b, 8, none⟩ = some (.slice Ad x.doors.length cd) ∧ wy.cell? ⟨b, 9, none⟩ = some (.slice Ar x.routes.length cr) ∧ wy.cell? ⟨b, 10, none⟩ = some (.slice At x.trips.length ct) ∧ wy.cell? ⟨b, 11, none⟩ = some (.slice Ah x.hazs.length ch) ∧ wy.cell? ⟨g, 1, none⟩ = some (.string (ba t.text)) from
          ⟨(hy.cell (p := ⟨b, 5, none⟩) HOr.out.lt).trans (Lib.cell_of_heap HOr.out.R 5), (hy.cell (p := ⟨b, 6, none⟩) HOr.out.lt).trans (by rw [← es]; exact Lib.cell_of_heap HOr.out.R 6), (hy.cell (p := ⟨b, 7, none⟩) HOr.out.lt).trans (by rw [← ep]; exact Lib.cell_of_heap HOr.out.R 7), (hy.cell (p := ⟨b, 8, none⟩) HOr.out.lt).trans (by rw [← ed]; exact Lib.cell_of_heap HOr.out.R 8), (hy.cell (p := ⟨b, 9, none⟩) HOr.out.lt).trans (by rw [← er]; exact Lib.cell_of_heap HOr.out.R 9), (hy.cell (p := ⟨b, 10, none⟩) HOr.out.lt).trans (by rw [← et]; exact Lib.cell_of_heap HOr.out.R 10), (hy.cell (p := ⟨b, 11, none⟩) HOr.out.lt).trans (by rw [← eh]; exact Lib.cell_of_heap HOr.out.R 11), (hy.cell (p := ⟨g, 1, none⟩) (Array.getElem?_eq_some_iff.1 HEr.out).1).trans (Lib.cell_of_heap HEr.out 1)⟩))
        clear hkn hfu es ep ed er et eh
        go_upto_region 9 with fail
        have hSw : Below wr.heap.size wr wr := Below.refl _ _
        refine wp_region_kinds (fun wy => Below wr.heap.size wr wy) [6] [] [3, 5] [0, 1, 2, 4] [0, 1, 2, 3, 4, 5, 6] (by kernel_rfl) (by kernel_rfl) (fun w n h => below_drewN h n) ?_
        repeat (first | (refine wpKind_free (v := ?_) (by rfl) rfl (by rfl) ?_ ?_; rotate_left 1; (focus (intro wy; go_simp; try with_reducible rfl; done)); try simp only [Act.put, List.setIfInBounds_toArray, List.set_cons_zero, List.set_cons_succ]) | (refine wpKind_held (v := ?_) (by rfl) rfl (by rfl) hSw ?_ ?_; rotate_left 1; (focus (intro wy hSy; obtain ⟨s0, s1, s2, s3, s4, s5, s6, s7⟩ := HC.out wy hSy; go_simp; try with_reducible rfl; done)); try simp only [Act.put, List.setIfInBounds_toArray, List.set_cons_zero, List.set_cons_succ]))
        clear hSw HC
        refine wpKind_keeps (by rfl) rfl (fun n1 => ?_)
        go_wp2_with fail
        refine (HFU.out (wr.drewN n1)).mono ?_
        rintro e w3 ⟨rfl, hb3⟩
        have hS2 : Below wr.heap.size wr w3 := (below_drewN (Below.refl _ _) n1).trans hb3
        clear hb3 HFU
        go_wp2_with fail
        show _ ∧ _
        refine ⟨hS2, ?_⟩
        refine wpKind_nil fun n2 => ?_
        obtain ⟨w4, hw4⟩ : ∃ w4, w3.drewN n2 = w4 := ⟨_, rfl⟩
        have hb4 : Below wr.heap.size wr w4 := by rw [← hw4]; exact below_drewN hS2 n2
        have HO4 := Lib.hid (HOr.out.new hb4)
        have HS4 := Lib.hid (HSr.out.keep (Keep.of hb4 (Nat.le_of_lt HOr.out.lt)))
        have HE4 := Lib.hid ((hb4.block g (Array.getElem?_eq_some_iff.1 HEr.out).1).trans HEr.out)
        have HB4 := Lib.hid (HBr.out.trans (hb4.mono HBr.out.size))
        rw [hw4]
        clear hw4 hb4 hS2
        have t0 : w4.cell? ⟨g, 0, none⟩ = some (.int .i64 t.kind) := Lib.cell_of_heap HE4.out 0
        have t1 : w4.cell? ⟨g, 1, none⟩ = some (.string (ba t.text)) := Lib.cell_of_heap HE4.out 1
        have t2 : w4.cell? ⟨g, 2, none⟩ = some (.int .i64 t.num) := Lib.cell_of_heap HE4.out 2
        have t3 : w4.cell? ⟨g, 3, none⟩ = some (.int .i64 t.line) := Lib.cell_of_heap HE4.out 3
        have t4 : w4.cell? ⟨g, 4, none⟩ = some (.int .i64 t.col) := Lib.cell_of_heap HE4.out 4
        cases hf : fullD x.d t.text
        · rw [hf, if_neg (by decide)] at HLD
          have HFF := Lib.hid hf
          clear hf
          have x1 : w4.cell? ⟨b, 1, none⟩ = some (.int .i64 (s.at_ : Int)) := Lib.cell_of_heap HO4.out.R 1
          have f1 : w4.frozen? ⟨b, 1, none⟩ = false := Lib.frozen_of_heap HO4.out.R 1
          have hatl := HAT.out
          go_upto_region 12 with fail
          have hsum : ((s.at_ : Int) + 1) = ((s.at_ + 1 : Nat) : Int) := by omega
          try rw [hsum]
          obtain ⟨w5, hw5⟩ : ∃ w5, w4.setCell ⟨b, 1, none⟩ (.int .i64 ((s.at_ + 1 : Nat) : Int)) = w5 := ⟨_, rfl⟩
          have hk5 : Keep b w4 w5 := by rw [← hw5]; exact (Keep.refl b w4).set 1 _
          have HO5 := Lib.hid (show RdOk b v L ⟨s.at_ + 1, s.e, s.ln, s.cl⟩ x.xv w5 from HO4.out.next (by rw [← hw5]; exact HO4.out.R.set1 (s.at_ + 1)) hk5 (by show s.at_ + 1 ≤ L.length; omega))
          have HS5 := Lib.hid (HS4.out.keep hk5)
          have HB5 := Lib.hid ((HB4.out.mono (Nat.le_of_lt HLT.out)).trans hk5.below)
          have hneb : g ≠ b := fun e => by
            have h1 := HE4.out
            rw [e, HO4.out.R] at h1
            injection h1 with h1
            injection h1 with _ h2 _
            revert h2
            decide
          have ht5 := (hk5.block g (Array.getElem?_eq_some_iff.1 HE4.out).1 hneb).trans HE4.out
          rw [hw5]
          clear hw5 hk5 t0 t1 t2 t3 t4 x1 f1 hsum hneb
          have t1 : w5.cell? ⟨g, 1, none⟩ = some (.string (ba t.text)) := Lib.cell_of_heap ht5 1
          clear ht5
          go_wp2_with fail
          clear t1
          refine (qthing_any B b v L ⟨s.at_ + 1, s.e, s.ln, s.cl⟩ x t.text w5 HO5.out HS5.out HM.out HTK.out).mono ?_
          obtain ⟨⟨s6, d6⟩, h6⟩ : ∃ r, thingD L ⟨s.at_ + 1, s.e, s.ln, s.cl⟩ x.d t.text = r := ⟨_, rfl⟩
          rw [h6] at HLD ⊢
          rintro e w6 ⟨x6, hd6, rfl, ho6, hs6, hb6⟩
          have HO6 := Lib.hid ho6
          have HS6 := Lib.hid hs6
          have HD6 := Lib.hid hd6
          have HB6 := Lib.hid (HB5.out.trans hb6)
          clear ho6 hs6 hb6 hd6 h6
          have htk := qtake_any b v L s6 x6.xv 4 [] w6 HO6.out.S HO6.out.R (by have := HO6.out.at_; dsimp only at this; omega) hlen
          rw [show ba [] = ⟨#[]⟩ from rfl] at htk
          go_wp2_with fail
          refine htk.mono ?_
          clear htk
          rintro e w7 ⟨rfl, hr7, hk7⟩
          have HR7 := Lib.hid hr7
          have HK7 := Lib.hid hk7
          clear hr7 hk7
          go_wp2_with fail
          go_end0
          refine ⟨x6, ?_, rfl, sl_keep HO6.out.S HK7.out, ?_, ?_, HS6.out.keep HK7.out, HB6.out.trans HK7.out.below⟩
          · rw [HLD.out]; exact HD6.out
          · rw [HLD.out]; exact HR7.out
          · rw [HLD.out]; exact (takeD_le HO6.out.at_).1
        · rw [hf, if_pos rfl] at HLD
          clear hf
          go_wp2_with fail
          refine (qfail_any b v s x.xv 3 t w4 HO4.out.R).mono ?_
          rintro e w5 ⟨rfl, hr5, hk5⟩
          have HR5 := Lib.hid hr5
          have HK5 := Lib.hid hk5
          clear hr5 hk5 t0 t1 t2 t3 t4
          go_wp2_with fail
          ((try simp only [Exit.inBlock, Exit.then]); refine bodyPost_ret (results_none rfl _ _ _) rfl ?_)
          refine ⟨x, ?_, rfl, sl_keep HO4.out.S HK5.out, ?_, ?_, HS4.out.keep HK5.out, (HB4.out.mono (Nat.le_of_lt HLT.out)).trans HK5.out.below⟩
          · rw [HLD.out]
          · rw [HLD.out]; exact HR5.out
          · rw [HLD.out]; show (failD s 3 t).at_ ≤ _; rw [failD_at]; have := HAT.out; omega
      · rw [decide_eq_false hkn]
        have HLD := Lib.hid (show R = (failD s 7 t, x.d) by rw [← HR.out]; unfold lineD; rw [HN.out, if_neg hkn])
        clear hkn
        have t0 : wr.cell? ⟨g, 0, none⟩ = some (.int .i64 t.kind) := Lib.cell_of_heap HEr.out 0
        have t1 : wr.cell? ⟨g, 1, none⟩ = some (.string (ba t.text)) := Lib.cell_of_heap HEr.out 1
        have t2 : wr.cell? ⟨g, 2, none⟩ = some (.int .i64 t.num) := Lib.cell_of_heap HEr.out 2
        have t3 : wr.cell? ⟨g, 3, none⟩ = some (.int .i64 t.line) := Lib.cell_of_heap HEr.out 3
        have t4 : wr.cell? ⟨g, 4, none⟩ = some (.int .i64 t.col) := Lib.cell_of_heap HEr.out 4
        go_wp2_with fail
        refine (qfail_any b v s x.xv 7 t wr HOr.out.R).mono ?_
        rintro e w5 ⟨rfl, hr5, hk5⟩
        have HR5 := Lib.hid hr5
        have HK5 := Lib.hid hk5
        clear hr5 hk5 t0 t1 t2 t3 t4
        go_wp2_with fail
        ((try simp only [Exit.inBlock, Exit.then]); refine bodyPost_ret (results_none rfl _ _ _) rfl ?_)
        refine ⟨x, ?_, rfl, sl_keep HOr.out.S HK5.out, ?_, ?_, HSr.out.keep HK5.out, (HBr.out.mono (Nat.le_of_lt HLT.out)).trans HK5.out.below⟩
        · rw [HLD.out]
        · rw [HLD.out]; exact HR5.out
        · rw [HLD.out]; show (failD s 7 t).at_ ≤ _; rw [failD_at]; have := HAT.out; omega
end Go.Proofs.YtmihinhbcncbfaaGreatDoor
/- The walk of timetableref05.Parse. Printed by wip/bin/genqj.py. -/
namespace Go.Proofs.YtmihinhbcncbfaaGreatDoor
open Go.RowKit
theorem results_cc {P : Program} {fn : Func} {p q : Tmp} {ty ty2 : TypeId} (h : fn.results = #[.cell p ty, .cell q ty2]) (tmps : Array Value) (w : World) (g g2 : Nat) (t t2 : TypeId) (cs cs2 : Array Value) (fr fr2 : Nat × Nat) (d d2 : TypeDesc)
    (hp : tmps.getD p undef = .pointer (some ⟨g, 0, none⟩)) (hg : w.heap[g]? = some (.cells cs t fr)) (hu : P.underlying ty = some d) (hd : (match d with | .struct _ | .array _ _ => true | _ => false) = true) (hi : (P.info? ty).map (·.size) = some cs.size)
    (hp2 : tmps.getD q undef = .pointer (some ⟨g2, 0, none⟩)) (hg2 : w.heap[g2]? = some (.cells cs2 t2 fr2)) (hu2 : P.underlying ty2 = some d2) (hd2 : (match d2 with | .struct _ | .array _ _ => true | _ => false) = true) (hi2 : (P.info? ty2).map (·.size) = some cs2.size) :
    (results fn tmps).run P w = .ok (.tuple #[.agg cs, .agg cs2]) w := by
  have hp' : tmps[p]?.getD undef = .pointer (some ⟨g, 0, none⟩) := by simpa using hp
  have hq' : tmps[q]?.getD undef = .pointer (some ⟨g2, 0, none⟩) := by simpa using hp2
  simp [results, h, hp', hq', asAddr, run_loadVar_row w g t ty cs fr d hg hu hd hi, run_loadVar_row w g2 t2 ty2 cs2 fr2 d2 hg2 hu2 hd2 hi2]
section
variable {P : Program} {Q : Exit → Act → World → Prop} {S : World → Prop} {fin : Act → World → Prop} {s1 s2 hd fr rest : List Nat} {k : Nat} {o : Oper} {l : List Oper} {a : Act} {w : World}
theorem wpKind_free_no (hs : kdL s1 s2 hd fr k = 4) (ho : l[k]? = some o) (hw : Region.wanted o (yielded l.toArray a.tmps) = false)
    (h : wpKind P l.toArray Q S (kdL s1 s2 hd fr) fin rest (a.put o.dst undef) w) : wpKind P l.toArray Q S (kdL s1 s2 hd fr) fin (k :: rest) a w := by
  unfold wpKind
  rw [if_neg (by rw [hs]; decide), if_pos hs]
  exact ⟨o, undef, by simpa using ho, .inr ⟨hw, rfl⟩, h⟩
theorem wpKind_held_no (hs : kdL s1 s2 hd fr k = 3) (ho : l[k]? = some o) (hw : Region.wanted o (yielded l.toArray a.tmps) = false) (hS : S w)
    (h : wpKind P l.toArray Q S (kdL s1 s2 hd fr) fin rest (a.put o.dst undef) w) : wpKind P l.toArray Q S (kdL s1 s2 hd fr) fin (k :: rest) a w := by
  unfold wpKind
  rw [if_neg (by rw [hs]; decide), if_neg (by rw [hs]; decide)]
  exact ⟨o, undef, by simpa using ho, hS, .inr ⟨hw, rfl⟩, h⟩
end
/-- A struct that lies within a block is read. -/
theorem wpList_load_part {P : Program} {ops : Array Oper} {rest : List Oper} {o : Oper} {a : Act} {w : World} {Q : Exit → Act → World → Prop} (hgd : o.guard = none) (ty : TypeId) (x : Operand) (ho : o.op = .load ty x)
    (b off : Nat) (hx : a.eval x = .pointer (some ⟨b, off, none⟩)) (t : TypeId) (cs : Array Value) (fr : Nat × Nat) (d : TypeDesc) (hg : w.heap[b]? = some (.cells cs t fr)) (vs : List Value) (hvs : (cs.toList.drop off).take vs.length = vs)
    (hu : P.underlying ty = some d) (hd : (match d with | .struct _ | .array _ _ => true | _ => false) = true) (hi : (P.info? ty).map (·.size) = some vs.length)
    (h : wpList P ops Q rest (a.put o.dst (.agg vs.toArray)) w) : wpList P ops Q (o :: rest) a w := by
  refine wpList_plain hgd fun _ hK => ?_
  have hl : (loadCells ⟨b, off, none⟩ vs.length).run P w = .ok vs.toArray w :=
    run_loadCells_list (P := P) w ⟨b, off, none⟩ vs (fun j v hv => by
      have hadd : (⟨b, off, none⟩ : Addr).add j = ⟨b, off + j, none⟩ := by unfold Addr.add; split <;> simp_all
      rw [hadd, cell_of_row w b (off + j) cs t fr hg]
      rw [← hvs, List.getElem?_take] at hv
      split at hv
      · rw [List.getElem?_drop] at hv
        simpa using hv
      · cases hv)
  have hlv : (loadVar ty ⟨b, off, none⟩).run P w = .ok (.agg vs.toArray) w := by
    cases hq : P.info? ty with
    | none => simp [hq] at hi
    | some i =>
      have hs : i.size = vs.length := by simpa [hq] using hi
      have hagg : (isAgg ty).run P w = .ok true w := by
        unfold isAgg
        rw [Sem.run_bind, run_underlying hu w]
        cases d <;> simp_all
      simp [loadVar, Sem.run_bind, hagg, sizeOf, typeInfo, hq, hs, hl]
  unfold Oper.wp execOp
  simp only [ho, hx, Instr.loadAt, Instr.sureAddr, Sem.run_bind, Sem.run_pure, Result.andThen_ok, hlv]
  exact hK _ _ h
theorem seven_all (n : Int) (A1 : Option Addr) (n1 c1 : Nat) (A2 : Option Addr) (n2 c2 : Nat) (A3 : Option Addr) (n3 c3 : Nat) (A4 : Option Addr) (n4 c4 : Nat) (A5 : Option Addr) (n5 c5 : Nat) (A6 : Option Addr) (n6 c6 : Nat) :
    (#[Value.int .i64 n, .slice A1 n1 c1, .slice A2 n2 c2, .slice A3 n3 c3, .slice A4 n4 c4, .slice A5 n5 c5, .slice A6 n6 c6] : Array Value).all (·.oneCell') = true := by simp [Value.oneCell']
def zeroM : SheetM := ⟨0, .slice none 0 0, .slice none 0 0, .slice none 0 0, .slice none 0 0, .slice none 0 0, .slice none 0 0, [], [], [], [], [], []⟩
theorem zeroM_good (w : World) (P : Nat → Prop) : zeroM.Good w P := ⟨Sl.nil_, Sl.nil_, Sl.nil_, Sl.nil_, (fun r hr => by cases hr), Sl.nil_, Sl.nil_⟩
/-- What is read, as it stands in memory. -/
theorem ShAt.good {B b : Nat} {x : SheetM} {w w' : World} (h : ShAt B b x w) (hs : w.heap.size ≤ w'.heap.size) (hk : ∀ k, B ≤ k → k < w.heap.size → w'.heap[k]? = w.heap[k]?) : x.Good w' (fun k => B ≤ k) := by
  have h' := h.keepB hs hk
  have he : ∀ r ∈ x.routes, r.Good w' (fun k => B ≤ k) := fun r hr => (h'.each r hr).mono fun k hk => hk.1
  exact ⟨(h'.s.sl nc_len).mono fun k hk => hk.2, (h'.p.sl pc_len).mono fun k hk => hk.2, (h'.d.sl dc_len).mono fun k hk => hk.2, ((h'.r.sl rcN_len).mono (P' := fun k => B ≤ k) fun k hk => hk.2).congr fun r hr => rcN_eq (he r hr), he, (h'.t.sl trc_len).mono fun k hk => hk.2, (h'.h.sl hc_len).mono fun k hk => hk.2⟩
theorem parseRun_go {L : List TokD} {n : Nat} {s : Rd} {d : SheetD} (h : s.e = 0) (ha : s.at_ < L.length) : parseRun L (n + 1) s d = parseRun L n (lineD L s d).1 (lineD L s d).2 := by
  conv => lhs; unfold parseRun
  rw [if_pos ⟨h, ha⟩]
theorem parseRun_stop {L : List TokD} {n : Nat} {s : Rd} {d : SheetD} (h : ¬ (s.e = 0 ∧ s.at_ < L.length)) : parseRun L n s d = (s, d) := by
  cases n with
  | zero => rfl
  | succ n => unfold parseRun; rw [if_neg h]
set_option maxHeartbeats 16000000 in
set_option maxRecDepth 100000 in
theorem qparse_any (s : ByteArray) (w : World) (hs : s.size ≤ 65536) :
    Calls Tryz.prog 26 #[.string s] w fun e w' => ∃ x : SheetM, x.d = (parseS s).1 ∧ e = .returned (.tuple #[x.v, .agg #[.int .i64 (parseS s).2.err, .int .i64 (parseS s).2.line, .int .i64 (parseS s).2.col]]) ∧ x.Good w' (fun k => w.heap.size ≤ k) ∧ Below w.heap.size w w' := by
  have HLE := Lib.hid (show (allD s).1.length ≤ 1048576 by have := tok_count s; omega)
  have hall := fun W => yall_any s W hs
  obtain ⟨⟨L, e1, e2, e3⟩, hal⟩ : ∃ r, allD s = r := ⟨_, rfl⟩
  simp only [hal] at hall
  rw [hal] at HLE
  have HPS := Lib.hid (show parseS s = if e1 ≠ 0 then (zeroD, ⟨e1, e2, e3⟩) else
      if (parseRun L (L.length + 1) (takeD L (numD L (keyD L ⟨0, 0, 0, 0⟩ kHorizon)).1 4 []).1 { zeroD with hor := (numD L (keyD L ⟨0, 0, 0, 0⟩ kHorizon)).2 }).1.e ≠ 0 then (zeroD, ⟨(parseRun L (L.length + 1) (takeD L (numD L (keyD L ⟨0, 0, 0, 0⟩ kHorizon)).1 4 []).1 { zeroD with hor := (numD L (keyD L ⟨0, 0, 0, 0⟩ kHorizon)).2 }).1.e, (parseRun L (L.length + 1) (takeD L (numD L (keyD L ⟨0, 0, 0, 0⟩ kHorizon)).1 4 []).1 { zeroD with hor := (numD L (keyD L ⟨0, 0, 0, 0⟩ kHorizon)).2 }).1.ln, (parseRun L (L.length + 1) (takeD L (numD L (keyD L ⟨0, 0, 0, 0⟩ kHorizon)).1 4 []).1 { zeroD with hor := (numD L (keyD L ⟨0, 0, 0, 0⟩ kHorizon)).2 }).1.cl⟩)
      else ((parseRun L (L.length + 1) (takeD L (numD L (keyD L ⟨0, 0, 0, 0⟩ kHorizon)).1 4 []).1 { zeroD with hor := (numD L (keyD L ⟨0, 0, 0, 0⟩ kHorizon)).2 }).2, ⟨0, 0, 0⟩) by
    unfold parseS; rw [hal])
  have HALL := Lib.hid hall
  obtain ⟨⟨PD, g1, g2, g3⟩, hPD⟩ : ∃ r, parseS s = r := ⟨_, rfl⟩
  rw [hPD] at HPS ⊢
  dsimp only
  clear hall hal hPD hs
  go_enter Tryz.func26, Tryz.ntmps26
  go_upto_region 1 with fail
  obtain ⟨w1, hw1⟩ : ∃ w1, (w.alloc (.cells #[.int .i64 0, .slice none 0 0, .slice none 0 0, .slice none 0 0, .slice none 0 0, .slice none 0 0, .slice none 0 0] 29)).alloc (.cells #[.int .i64 0, .int .i64 0, .int .i64 0] 61) = w1 := ⟨_, rfl⟩
  have HB1 := Lib.hid (show Below w.heap.size w w1 by rw [← hw1]; exact ((Below.refl _ _).alloc (Nat.le_refl _) _).alloc (by simp) _)
  have HP1 := Lib.hid (show w1.heap[w.heap.size]? = some (.cells #[.int .i64 0, .slice none 0 0, .slice none 0 0, .slice none 0 0, .slice none 0 0, .slice none 0 0, .slice none 0 0] 29 (0, 0)) by rw [← hw1, Below.heap_alloc _ _ _ (by simp)]; exact heap_alloc_new _ _)
  have HQ1 := Lib.hid (show w1.heap[w.heap.size + 1]? = some (.cells #[.int .i64 0, .int .i64 0, .int .i64 0] 61 (0, 0)) by
    rw [← hw1]
    have h := heap_alloc_new (w.alloc (.cells #[.int .i64 0, .slice none 0 0, .slice none 0 0, .slice none 0 0, .slice none 0 0, .slice none 0 0, .slice none 0 0] 29)) (.cells #[.int .i64 0, .int .i64 0, .int .i64 0] 61)
    rw [show (w.alloc (.cells #[.int .i64 0, .slice none 0 0, .slice none 0 0, .slice none 0 0, .slice none 0 0, .slice none 0 0, .slice none 0 0] 29)).heap.size = w.heap.size + 1 by simp] at h
    exact h)
  have HZ1 := Lib.hid (show w1.heap.size = w.heap.size + 2 by rw [← hw1]; simp)
  rw [hw1]
  clear hw1
  go_wp2_with fail
  refine (HALL.out w1).mono ?_
  rintro e w2 ⟨v0, rfl, ho, hb⟩
  obtain ⟨A0, c0, rfl⟩ := ow_slice tkc_len ho
  have HT2 := Lib.hid ((ho.sl tkc_len).mono (P' := fun k => k < w2.heap.size) fun k hk => (ho.lt hk.1).2)
  have HB2 := Lib.hid (HB1.out.trans (hb.mono HB1.out.size))
  have HP2 := Lib.hid ((hb.block _ (by have := HZ1.out; omega)).trans HP1.out)
  have HQ2 := Lib.hid ((hb.block _ (by have := HZ1.out; omega)).trans HQ1.out)
  have HZ2 := Lib.hid (show w.heap.size + 2 ≤ w2.heap.size by have := hb.size; have := HZ1.out; omega)
  clear ho hb HP1 HQ1 HB1 HALL
  go_upto_region 2 with fail
  obtain ⟨g, hgq⟩ : ∃ g, w2.heap.size = g := ⟨_, rfl⟩
  obtain ⟨w3, hw3⟩ : ∃ w3, w2.alloc (.cells #[.int .i64 e1, .int .i64 e2, .int .i64 e3] 61) = w3 := ⟨_, rfl⟩
  have hb3 : Below w2.heap.size w2 w3 := by rw [← hw3]; exact (Below.refl _ _).alloc (Nat.le_refl _) _
  have HE3 := Lib.hid (show w3.heap[g]? = some (.cells #[.int .i64 e1, .int .i64 e2, .int .i64 e3] 61 (0, 0)) by rw [← hw3, ← hgq]; exact heap_alloc_new _ _)
  have HZ3 := Lib.hid (show w3.heap.size = g + 1 by rw [← hw3, ← hgq]; simp)
  have HT3 := Lib.hid (HT2.out.below_ hb3)
  have HB3 := Lib.hid (HB2.out.trans (hb3.mono HB2.out.size))
  have HP3 := Lib.hid ((hb3.block _ (by have := HZ2.out; omega)).trans HP2.out)
  have HQ3 := Lib.hid ((hb3.block _ (by have := HZ2.out; omega)).trans HQ2.out)
  have HG3 := Lib.hid (show w.heap.size + 2 ≤ g by rw [← hgq]; exact HZ2.out)
  rw [hw3, hgq]
  rw [hgq] at HT3
  clear hw3 hb3 hgq HT2 HB2 HP2 HQ2 HZ2
  have y0 : w3.cell? ⟨g, 0, none⟩ = some (.int .i64 e1) := Lib.cell_of_heap HE3.out 0
  by_cases he : e1 = 0
  · have k1 : (e1 == 0) = true := beq_iff_eq.2 he
    have k2 : (e1 != 0) = false := by rw [bne, k1]; rfl
    rw [if_neg (by simpa using he)] at HPS
    clear he
    go_upto_region 5 with fail
    obtain ⟨b, hbq⟩ : ∃ b, w3.heap.size = b := ⟨_, rfl⟩
    obtain ⟨w4, hw4⟩ : ∃ w4, w3.alloc (.cells #[.slice A0 L.length c0, .int .i64 0, .int .i64 0, .int .i64 0, .int .i64 0, .int .i64 0, .slice none 0 0, .slice none 0 0, .slice none 0 0, .slice none 0 0, .slice none 0 0, .slice none 0 0] 91) = w4 := ⟨_, rfl⟩
    have hb4 : Below w3.heap.size w3 w4 := by rw [← hw4]; exact (Below.refl _ _).alloc (Nat.le_refl _) _
    have HO4 := Lib.hid (show RdOk b (.slice A0 L.length c0) L ⟨0, 0, 0, 0⟩ zeroM.xv w4 from
      ⟨(HT3.out.below_ hb4).mono fun k hk => by have := HZ3.out; omega, by rw [← hw4, ← hbq]; exact heap_alloc_new _ _, Nat.zero_le _, HLE.out⟩)
    have HS4 := Lib.hid (show ShAt (b + 1) b zeroM w4 from
      ⟨Ow.nil_, Ow.nil_, Ow.nil_, Ow.nil_, Ow.nil_, Ow.nil_, (fun r hr => by cases hr), Nat.lt_succ_self b, by rw [← hw4, ← hbq]; simp⟩)
    have HB4 := Lib.hid (HB3.out.trans (hb4.mono HB3.out.size))
    have HP4 := Lib.hid ((hb4.block _ (by have := HG3.out; have := HZ3.out; omega)).trans HP3.out)
    have HQ4 := Lib.hid ((hb4.block _ (by have := HG3.out; have := HZ3.out; omega)).trans HQ3.out)
    have HGB := Lib.hid (show w.heap.size + 2 < b by have := HG3.out; have := HZ3.out; omega)
    have hlen := HLE.out
    rw [hw4, hbq]
    clear hw4 hb4 hbq y0 HT3 HB3 HP3 HQ3 HE3 HZ3 HG3 k1 k2
    have hke := qkey_any b (.slice A0 L.length c0) L ⟨0, 0, 0, 0⟩ zeroM.xv kHorizon w4 HO4.out
    rw [show ba kHorizon = ⟨#[104, 111, 114, 105, 122, 111, 110]⟩ from rfl] at hke
    obtain ⟨s1, h1⟩ : ∃ r, keyD L ⟨0, 0, 0, 0⟩ kHorizon = r := ⟨_, rfl⟩
    rw [h1] at hke HPS
    obtain ⟨⟨s2, hor⟩, h2⟩ : ∃ r, numD L s1 = r := ⟨_, rfl⟩
    rw [h2] at HPS
    dsimp only at HPS
    obtain ⟨⟨s3, t3⟩, h3⟩ : ∃ r, takeD L s2 4 [] = r := ⟨_, rfl⟩
    rw [h3] at HPS
    dsimp only at HPS
    obtain ⟨RES, hres⟩ : ∃ r, parseRun L (L.length + 1) s3 { zeroD with hor := hor } = r := ⟨_, rfl⟩
    rw [hres] at HPS
    have HH2 := Lib.hid h2
    have HH3 := Lib.hid h3
    have HRES := Lib.hid hres
    clear h1 h2 h3 hres
    go_wp2_with fail
    refine hke.mono ?_
    clear hke
    rintro e w5 ⟨rfl, ho, hk⟩
    have HO5 := Lib.hid ho
    have HK5 := Lib.hid hk
    clear ho hk HO4
    go_wp2_with fail
    refine (qnum_any b (.slice A0 L.length c0) L s1 zeroM.xv w5 HO5.out).mono ?_
    rw [HH2.out]
    rintro e w6 ⟨rfl, ho, hk⟩
    have HO6 := Lib.hid ho
    have HK6 := Lib.hid (HK5.out.trans hk)
    clear ho hk HO5 HK5
    have z5 : w6.cell? ⟨b, 5, none⟩ = some (.int .i64 0) := Lib.cell_of_heap HO6.out.R 5
    have z6 : w6.frozen? ⟨b, 5, none⟩ = false := Lib.frozen_of_heap HO6.out.R 5
    go_upto_region 7 with fail
    clear z5 z6
    obtain ⟨x0, hx0⟩ : ∃ x0 : SheetM, { zeroM with hor := hor } = x0 := ⟨_, rfl⟩
    obtain ⟨w7, hw7⟩ : ∃ w7, w6.setCell ⟨b, 5, none⟩ (.int .i64 hor) = w7 := ⟨_, rfl⟩
    have hk7 : Keep b w6 w7 := by rw [← hw7]; exact (Keep.refl b w6).set 5 _
    have HO7 := Lib.hid (show RdOk b (.slice A0 L.length c0) L s2 x0.xv w7 from HO6.out.next (by
      have h5 := heap_setCell_same w6 b 5 _ _ (.int .i64 hor) HO6.out.R
      rw [hw7] at h5
      unfold RdAt
      rw [h5, ← hx0]
      rfl) hk7 HO6.out.at_)
    have HK7 := Lib.hid (HK6.out.trans hk7)
    have HS7 := Lib.hid (show ShAt (b + 1) b x0 w7 by
      have h7 := HS4.out.keep HK7.out
      rw [← hx0]
      exact ⟨h7.s, h7.p, h7.d, h7.r, h7.t, h7.h, (fun r hr => by cases hr), h7.hb, h7.hB⟩)
    have HD0 := Lib.hid (show x0.d = { zeroD with hor := hor } by rw [← hx0]; rfl)
    rw [hw7]
    clear hw7 hk7 HO6 HK6 HS4 hx0
    have htk := qtake_any b (.slice A0 L.length c0) L s2 x0.xv 4 [] w7 HO7.out.S HO7.out.R (by have := HO7.out.at_; omega) hlen
    have hta := (takeD_le (L := L) (kind := 4) (k := []) HO7.out.at_).1
    rw [HH3.out] at htk hta
    rw [show ba [] = ⟨#[]⟩ from rfl] at htk
    dsimp only at htk hta
    go_wp2_with fail
    refine htk.mono ?_
    clear htk
    rintro e w8 ⟨rfl, hr, hk⟩
    have HT8 := Lib.hid (sl_keep HO7.out.S hk)
    have HR8 := Lib.hid hr
    have HS8 := Lib.hid (HS7.out.keep hk)
    have HK8 := Lib.hid (HK7.out.trans hk)
    have HA8 := Lib.hid hta
    clear hr hk hta HO7 HS7 HK7
    go_wp2_with fail
    go_loopg [] (L.length + 1) (fun gg wr => ∃ (st : Rd) (x : SheetM), Sl tkc 5 wr (.slice A0 L.length c0) L (fun k => k < b) ∧ RdAt b (.slice A0 L.length c0) st x.xv wr ∧ st.at_ ≤ L.length + 1 ∧ ShAt (b + 1) b x wr ∧ SmallD x.d ∧ Below b w4 wr ∧ (st.e = 0 → L.length - st.at_ < gg) ∧ parseRun L gg st x.d = RES)
    case atStart => exact ⟨s3, x0, HT8.out, HR8.out, HA8.out, HS8.out, by rw [HD0.out]; exact ⟨Nat.zero_le _, Nat.zero_le _, Nat.zero_le _, Nat.zero_le _, Nat.zero_le _, Nat.zero_le _⟩, HK8.out.below, fun _ => by omega, by rw [HD0.out]; exact HRES.out⟩
    case round =>
      clear HT8 HR8 HS8 HA8 HRES HD0
      obtain ⟨st, x, hT, hR, ha, hS, hsm, hbl, hgg, hrun⟩ := hrel
      have HT := Lib.hid hT
      have HR := Lib.hid hR
      have HS := Lib.hid hS
      have HSM := Lib.hid hsm
      have HBL := Lib.hid hbl
      have HRUN := Lib.hid hrun
      have HHA := Lib.hid ha
      have HC := Lib.hid (fun (wy : World) (hy : Below wr.heap.size wr wy) => (show wy.cell? ⟨b, 0, none⟩ = some (.slice A0 L.length c0) ∧ wy.cell? ⟨b, 1, none⟩ = some (.int .i64 (st.at_ : Int)) ∧ True from
        ⟨(hy.cell (p := ⟨b, 0, none⟩) HR.out.lt).trans (Lib.cell_of_heap HR.out 0), (hy.cell (p := ⟨b, 1, none⟩) HR.out.lt).trans (Lib.cell_of_heap HR.out 1), trivial⟩))
      clear hT hR hS hsm hbl hrun ha
      by_cases he : st.e = 0
      · have g0 : (st.e == 0) = true := beq_iff_eq.2 he
        have HHE := Lib.hid he
        have HGG := Lib.hid (hgg he)
        clear he hgg
        by_cases hlt : st.at_ < L.length
        · obtain ⟨n, rfl⟩ : ∃ n, gk = n + 1 := ⟨gk - 1, by have := HGG.out; omega⟩
          have q1 : (st.at_ : Int) < (L.length : Int) := by omega
          have HLT2 := Lib.hid hlt
          clear hlt
          go_upto_region 8 with fail
          have hSw : Below wr.heap.size wr wr := Below.refl _ _
          refine wp_region_kinds (fun wy => Below wr.heap.size wr wy) [1] [] [6, 10] [0, 2, 3, 4, 5, 7, 8, 9, 11, 12, 13] [0, 1, 2, 3, 4, 5, 6, 7, 8, 9, 10, 11, 12, 13] (by kernel_rfl) (by kernel_rfl) (fun w n h => below_drewN h n) ?_
          repeat (first | (refine wpKind_free (v := ?_) (by rfl) rfl (by rfl) ?_ ?_; rotate_left 1; (focus (intro wy; go_simp; try with_reducible rfl; done)); try simp only [Act.put, List.setIfInBounds_toArray, List.set_cons_zero, List.set_cons_succ]) | (refine wpKind_held (v := ?_) (by rfl) rfl (by rfl) hSw ?_ ?_; rotate_left 1; (focus (intro wy hSy; obtain ⟨s0, s1, s2⟩ := HC.out wy hSy; go_simp; try with_reducible rfl; done)); try simp only [Act.put, List.setIfInBounds_toArray, List.set_cons_zero, List.set_cons_succ]))
          clear hSw
          refine wpKind_keeps (by rfl) rfl (fun n1 => ?_)
          go_wp2_with fail
          refine (qgood_any b (.slice A0 L.length c0) st x.xv (wr.drewN n1) HR.out).mono ?_
          rintro e w' ⟨rfl, rfl⟩
          rw [g0]
          go_wp2_with fail
          show _ ∧ _
          have hSw : Below wr.heap.size wr (wr.drewN n1) := below_drewN (Below.refl _ _) n1
          refine ⟨hSw, ?_⟩
          repeat (first | (refine wpKind_free (v := ?_) (by rfl) rfl (by rfl) ?_ ?_; rotate_left 1; (focus (intro wy; go_simp; try with_reducible rfl; done)); try simp only [Act.put, List.setIfInBounds_toArray, List.set_cons_zero, List.set_cons_succ]) | (refine wpKind_held (v := ?_) (by rfl) rfl (by rfl) hSw ?_ ?_; rotate_left 1; (focus (intro wy hSy; obtain ⟨s0, s1, s2⟩ := HC.out wy hSy; go_simp; try with_reducible rfl; done)); try simp only [Act.put, List.setIfInBounds_toArray, List.set_cons_zero, List.set_cons_succ]))
          clear hSw
          refine wpKind_nil fun n2 => ?_
          obtain ⟨wl, hwl⟩ : ∃ wl, (wr.drewN n1).drewN n2 = wl := ⟨_, rfl⟩
          rw [hwl]
          have HTl := Lib.hid (show Sl tkc 5 wl (.slice A0 L.length c0) L (fun k => k < b) by rw [← hwl]; exact HT.out)
          have HRl := Lib.hid (show RdAt b (.slice A0 L.length c0) st x.xv wl by rw [← hwl]; exact HR.out)
          have HSl := Lib.hid (show ShAt (b + 1) b x wl by rw [← hwl]; exact HS.out.same rfl)
          have HBl := Lib.hid (show Below b w4 wl by rw [← hwl]; exact below_drewN (below_drewN HBL.out n1) n2)
          clear hwl HT HR HS HBL HC
          go_wp2_with fail
          refine (qline_any (b + 1) b (.slice A0 L.length c0) L st x wl ⟨HTl.out, HRl.out, Nat.le_of_lt HLT2.out, hlen⟩ HSl.out HSM.out.s' HLT2.out).mono ?_
          obtain ⟨⟨s9, d9⟩, h9⟩ : ∃ r, lineD L st x.d = r := ⟨_, rfl⟩
          have HRG := Lib.hid (parseRun_go (n := n) (d := x.d) HHE.out HLT2.out)
          have HSD := Lib.hid (lineD_small (L := L) (s := st) HSM.out)
          have HLA := Lib.hid (fun h => lineD_at (L := L) (d := x.d) HHE.out h)
          rw [h9, HRUN.out] at HRG
          rw [h9] at HSD HLA ⊢
          dsimp only at HRG HSD HLA
          rintro e w9 ⟨x9, hd9, rfl, hT9, hR9, ha9, hS9, hb9⟩
          dsimp only at hd9 hR9 ha9
          have HT9 := Lib.hid hT9
          have HR9 := Lib.hid hR9
          have HA9 := Lib.hid ha9
          have HS9 := Lib.hid hS9
          have HD9 := Lib.hid hd9
          have HB9 := Lib.hid (HBl.out.trans hb9)
          clear h9 hT9 hR9 ha9 hS9 hb9 hd9
          go_wp2_with fail
          go_roundg n
          case measure => omega
          case rel =>
            refine ⟨s9, x9, HT9.out, HR9.out, HA9.out, HS9.out, by rw [HD9.out]; exact HSD.out, HB9.out, fun h => ?_, by rw [HD9.out]; exact HRG.out.symm⟩
            have h1 := HLA.out h
            have h2 := HGG.out
            have h3 := HLT2.out
            omega
        · have q1 : ¬ (st.at_ : Int) < (L.length : Int) := by omega
          have HRG := Lib.hid (parseRun_stop (L := L) (n := gk) (s := st) (d := x.d) fun h => hlt h.2)
          rw [HRUN.out] at HRG
          clear hlt
          go_upto_region 8 with fail
          have hSw : Below wr.heap.size wr wr := Below.refl _ _
          refine wp_region_kinds (fun wy => Below wr.heap.size wr wy) [1] [] [6, 10] [0, 2, 3, 4, 5, 7, 8, 9, 11, 12, 13] [0, 1, 2, 3, 4, 5, 6, 7, 8, 9, 10, 11, 12, 13] (by kernel_rfl) (by kernel_rfl) (fun w n h => below_drewN h n) ?_
          repeat (first | (refine wpKind_free (v := ?_) (by rfl) rfl (by rfl) ?_ ?_; rotate_left 1; (focus (intro wy; go_simp; try with_reducible rfl; done)); try simp only [Act.put, List.setIfInBounds_toArray, List.set_cons_zero, List.set_cons_succ]) | (refine wpKind_held (v := ?_) (by rfl) rfl (by rfl) hSw ?_ ?_; rotate_left 1; (focus (intro wy hSy; obtain ⟨s0, s1, s2⟩ := HC.out wy hSy; go_simp; try with_reducible rfl; done)); try simp only [Act.put, List.setIfInBounds_toArray, List.set_cons_zero, List.set_cons_succ]))
          clear hSw
          refine wpKind_keeps (by rfl) rfl (fun n1 => ?_)
          go_wp2_with fail
          refine (qgood_any b (.slice A0 L.length c0) st x.xv (wr.drewN n1) HR.out).mono ?_
          rintro e w' ⟨rfl, rfl⟩
          rw [g0]
          go_wp2_with fail
          show _ ∧ _
          have hSw : Below wr.heap.size wr (wr.drewN n1) := below_drewN (Below.refl _ _) n1
          refine ⟨hSw, ?_⟩
          repeat (first | (refine wpKind_free (v := ?_) (by rfl) rfl (by rfl) ?_ ?_; rotate_left 1; (focus (intro wy; go_simp; try with_reducible rfl; done)); try simp only [Act.put, List.setIfInBounds_toArray, List.set_cons_zero, List.set_cons_succ]) | (refine wpKind_held (v := ?_) (by rfl) rfl (by rfl) hSw ?_ ?_; rotate_left 1; (focus (intro wy hSy; obtain ⟨s0, s1, s2⟩ := HC.out wy hSy; go_simp; try with_reducible rfl; done)); try simp only [Act.put, List.setIfInBounds_toArray, List.set_cons_zero, List.set_cons_succ]))
          clear hSw
          refine wpKind_nil fun n2 => ?_
          obtain ⟨wl, hwl⟩ : ∃ wl, (wr.drewN n1).drewN n2 = wl := ⟨_, rfl⟩
          rw [hwl]
          have HTl := Lib.hid (show Sl tkc 5 wl (.slice A0 L.length c0) L (fun k => k < b) by rw [← hwl]; exact HT.out)
          have HRl := Lib.hid (show RdAt b (.slice A0 L.length c0) st x.xv wl by rw [← hwl]; exact HR.out)
          have HSl := Lib.hid (show ShAt (b + 1) b x wl by rw [← hwl]; exact HS.out.same rfl)
          have HBl := Lib.hid (show Below b w4 wl by rw [← hwl]; exact below_drewN (below_drewN HBL.out n1) n2)
          clear hwl HT HR HS HBL HC
          go_wp2_with fail
          refine (qgood_any b (.slice A0 L.length c0) st x.xv wl HRl.out).mono ?_
          rintro e w' ⟨rfl, rfl⟩
          rw [show (st.e == 0) = true from beq_iff_eq.2 HHE.out]
          obtain ⟨As, cs, Ap, cp, Ad, cd, Ar, cr, At, ct, Ah, ch, es, ep, ed, er, et, eh⟩ := HSl.out.forms
          have HRZ := Lib.hid (show wl.heap[b]? = some (.cells #[.slice A0 L.length c0, .int .i64 st.at_, .int .i64 st.e, .int .i64 st.ln, .int .i64 st.cl, .int .i64 x.hor, .slice As x.stops.length cs, .slice Ap x.paths.length cp, .slice Ad x.doors.length cd, .slice Ar x.routes.length cr, .slice At x.trips.length ct, .slice Ah x.hazs.length ch] 91 (0, 0)) by rw [← es, ← ep, ← ed, ← er, ← et, ← eh]; exact HRl.out)
          have V : x.v = .agg #[.int .i64 x.hor, .slice As x.stops.length cs, .slice Ap x.paths.length cp, .slice Ad x.doors.length cd, .slice Ar x.routes.length cr, .slice At x.trips.length ct, .slice Ah x.hazs.length ch] := by
            unfold SheetM.v; rw [es, ep, ed, er, et, eh]
          have HV := Lib.hid V
          have HPl := Lib.hid ((HBl.out.block _ (by have := HGB.out; omega)).trans HP4.out)
          have HQl := Lib.hid ((HBl.out.block _ (by have := HGB.out; omega)).trans HQ4.out)
          clear es ep ed er et eh V
          go_wp2_with (first | (refine wpList_load_part rfl 29 _ rfl b 5 rfl 91 #[.slice A0 L.length c0, .int .i64 st.at_, .int .i64 st.e, .int .i64 st.ln, .int .i64 st.cl, .int .i64 x.hor, .slice As x.stops.length cs, .slice Ap x.paths.length cp, .slice Ad x.doors.length cd, .slice Ar x.routes.length cr, .slice At x.trips.length ct, .slice Ah x.hazs.length ch] (0, 0) _ HRZ.out #[.int .i64 x.hor, .slice As x.stops.length cs, .slice Ap x.paths.length cp, .slice Ad x.doors.length cd, .slice Ar x.routes.length cr, .slice At x.trips.length ct, .slice Ah x.hazs.length ch].toList rfl Tryz.underlying29 rfl (by kernel_rfl) ?_) | (refine wpList_store_row rfl 29 _ _ rfl w.heap.size #[.int .i64 x.hor, .slice As x.stops.length cs, .slice Ap x.paths.length cp, .slice Ad x.doors.length cd, .slice Ar x.routes.length cr, .slice At x.trips.length ct, .slice Ah x.hazs.length ch] rfl rfl 29 #[.int .i64 0, .slice none 0 0, .slice none 0 0, .slice none 0 0, .slice none 0 0, .slice none 0 0, .slice none 0 0] HPl.out (by kernel_rfl) rfl (seven_all _ _ _ _ _ _ _ _ _ _ _ _ _ _ _ _ _ _ _) ?_) | (refine wpList_store_row rfl 61 _ _ rfl (w.heap.size + 1) #[.int .i64 0, .int .i64 0, .int .i64 0] rfl rfl 61 #[.int .i64 0, .int .i64 0, .int .i64 0] ((setRow_other wl w.heap.size (w.heap.size + 1) _ (by omega)).trans HQl.out) (by kernel_rfl) rfl (three_allQ _ _ _) ?_))
          try simp only [Exit.inBlock, Exit.then]
          refine bodyPost_ret (results_cc rfl _ _ w.heap.size (w.heap.size + 1) _ _ _ _ (0, 0) (0, 0) _ _ rfl ((setRow_other (wl.setRow w.heap.size #[.int .i64 x.hor, .slice As x.stops.length cs, .slice Ap x.paths.length cp, .slice Ad x.doors.length cd, .slice Ar x.routes.length cr, .slice At x.trips.length ct, .slice Ah x.hazs.length ch]) (w.heap.size + 1) w.heap.size _ (by omega)).trans (setRow_heap wl _ _ _ _ _ HPl.out)) Tryz.underlying29 rfl (by kernel_rfl) rfl (setRow_heap _ _ _ _ _ _ ((setRow_other wl w.heap.size (w.heap.size + 1) _ (by omega)).trans HQl.out)) Tryz.underlying61 rfl (by kernel_rfl)) rfl ?_
          have hp : PD = x.d ∧ g1 = 0 ∧ g2 = 0 ∧ g3 = 0 := by
            have h := HPS.out
            rw [HRG.out] at h
            dsimp only at h
            rw [if_neg (by rw [HHE.out]; decide)] at h
            injection h with h1 h2
            injection h2 with h2 h3 h4
            exact ⟨h1, h2, h3, h4⟩
          refine ⟨x, hp.1.symm, by rw [hp.2.1, hp.2.2.1, hp.2.2.2, HV.out], (HSl.out.good (by simp [World.setRow]) fun k h1 h2 => (setRow_other _ _ _ _ (by have := HGB.out; omega)).trans (setRow_other _ _ _ _ (by have := HGB.out; omega))).mono fun k hk => by have := HGB.out; omega, ?_⟩
          exact below_setRow (below_setRow (HB4.out.trans (HBl.out.mono (by have := HGB.out; omega))) (Nat.le_refl _) _) (Nat.le_succ _) _
      · have g0 : (st.e == 0) = false := beq_eq_false_iff_ne.2 he
        have HRG := Lib.hid (parseRun_stop (L := L) (n := gk) (s := st) (d := x.d) fun h => he h.1)
        rw [HRUN.out] at HRG
        have HHE := Lib.hid he
        clear hgg he
        go_upto_region 8 with fail
        have hSw : Below wr.heap.size wr wr := Below.refl _ _
        refine wp_region_kinds (fun wy => Below wr.heap.size wr wy) [1] [] [6, 10] [0, 2, 3, 4, 5, 7, 8, 9, 11, 12, 13] [0, 1, 2, 3, 4, 5, 6, 7, 8, 9, 10, 11, 12, 13] (by kernel_rfl) (by kernel_rfl) (fun w n h => below_drewN h n) ?_
        (refine wpKind_free (v := ?_) (by rfl) rfl (by rfl) ?_ ?_; rotate_left 1; (focus (intro wy; go_simp; try with_reducible rfl; done)); try simp only [Act.put, List.setIfInBounds_toArray, List.set_cons_zero, List.set_cons_succ])
        clear hSw
        refine wpKind_keeps (by rfl) rfl (fun n1 => ?_)
        go_wp2_with fail
        refine (qgood_any b (.slice A0 L.length c0) st x.xv (wr.drewN n1) HR.out).mono ?_
        rintro e w' ⟨rfl, rfl⟩
        rw [g0]
        go_wp2_with fail
        show _ ∧ _
        refine ⟨below_drewN (Below.refl _ _) n1, ?_⟩
        have hSw : Below wr.heap.size wr (wr.drewN n1) := below_drewN (Below.refl _ _) n1
        (refine wpKind_free (v := ?_) (by rfl) rfl (by rfl) ?_ ?_; rotate_left 1; (focus (intro wy; go_simp; try with_reducible rfl; done)); try simp only [Act.put, List.setIfInBounds_toArray, List.set_cons_zero, List.set_cons_succ])
        (refine wpKind_free_no (by rfl) rfl (by rfl) ?_; try simp only [Act.put, List.setIfInBounds_toArray, List.set_cons_zero, List.set_cons_succ])
        (refine wpKind_free_no (by rfl) rfl (by rfl) ?_; try simp only [Act.put, List.setIfInBounds_toArray, List.set_cons_zero, List.set_cons_succ])
        (refine wpKind_free_no (by rfl) rfl (by rfl) ?_; try simp only [Act.put, List.setIfInBounds_toArray, List.set_cons_zero, List.set_cons_succ])
        (refine wpKind_held_no (by rfl) rfl (by rfl) hSw ?_; try simp only [Act.put, List.setIfInBounds_toArray, List.set_cons_zero, List.set_cons_succ])
        (refine wpKind_free_no (by rfl) rfl (by rfl) ?_; try simp only [Act.put, List.setIfInBounds_toArray, List.set_cons_zero, List.set_cons_succ])
        (refine wpKind_free_no (by rfl) rfl (by rfl) ?_; try simp only [Act.put, List.setIfInBounds_toArray, List.set_cons_zero, List.set_cons_succ])
        (refine wpKind_free_no (by rfl) rfl (by rfl) ?_; try simp only [Act.put, List.setIfInBounds_toArray, List.set_cons_zero, List.set_cons_succ])
        (refine wpKind_held_no (by rfl) rfl (by rfl) hSw ?_; try simp only [Act.put, List.setIfInBounds_toArray, List.set_cons_zero, List.set_cons_succ])
        (refine wpKind_free_no (by rfl) rfl (by rfl) ?_; try simp only [Act.put, List.setIfInBounds_toArray, List.set_cons_zero, List.set_cons_succ])
        (refine wpKind_free_no (by rfl) rfl (by rfl) ?_; try simp only [Act.put, List.setIfInBounds_toArray, List.set_cons_zero, List.set_cons_succ])
        (refine wpKind_free (v := ?_) (by rfl) rfl (by rfl) ?_ ?_; rotate_left 1; (focus (intro wy; go_simp; try with_reducible rfl; done)); try simp only [Act.put, List.setIfInBounds_toArray, List.set_cons_zero, List.set_cons_succ])
        clear hSw
        refine wpKind_nil fun n2 => ?_
        obtain ⟨wl, hwl⟩ : ∃ wl, (wr.drewN n1).drewN n2 = wl := ⟨_, rfl⟩
        rw [hwl]
        have HRl := Lib.hid (show RdAt b (.slice A0 L.length c0) st x.xv wl by rw [← hwl]; exact HR.out)
        have HBl := Lib.hid (show Below b w4 wl by rw [← hwl]; exact below_drewN (below_drewN HBL.out n1) n2)
        clear hwl HT HR HS HBL HC
        go_wp2_with fail
        refine (qgood_any b (.slice A0 L.length c0) st x.xv wl HRl.out).mono ?_
        rintro e w' ⟨rfl, rfl⟩
        rw [g0]
        have HPl := Lib.hid ((HBl.out.block _ (by have := HGB.out; omega)).trans HP4.out)
        have HQl := Lib.hid ((HBl.out.block _ (by have := HGB.out; omega)).trans HQ4.out)
        have HBz := Lib.hid (HB4.out.trans (HBl.out.mono (by have := HGB.out; omega)))
        go_upto_region 11 with fail
        have hSw : RdAt b (.slice A0 L.length c0) st x.xv wl := HRl.out
        refine wp_region_kinds (fun wy => RdAt b (.slice A0 L.length c0) st x.xv wy) [5] [6] [4] [0, 1, 2, 3] [0, 1, 2, 3, 4, 5, 6] (by kernel_rfl) (by kernel_rfl) (fun w n h => h) ?_
        repeat (first | (refine wpKind_free (v := ?_) (by rfl) rfl (by rfl) ?_ ?_; rotate_left 1; (focus (intro wy; go_simp; try with_reducible rfl; done)); try simp only [Act.put, List.setIfInBounds_toArray, List.set_cons_zero, List.set_cons_succ]) | (refine wpKind_held (v := ?_) (by rfl) rfl (by rfl) hSw ?_ ?_; rotate_left 1; (focus (intro wy hSy; have s2 : wy.cell? ⟨b, 2, none⟩ = some (.int .i64 st.e) := Lib.cell_of_heap hSy 2; have s3 : wy.cell? ⟨b, 3, none⟩ = some (.int .i64 st.ln) := Lib.cell_of_heap hSy 3; have s4 : wy.cell? ⟨b, 4, none⟩ = some (.int .i64 st.cl) := Lib.cell_of_heap hSy 4; clear hSy; go_simp; try with_reducible rfl; done)); try simp only [Act.put, List.setIfInBounds_toArray, List.set_cons_zero, List.set_cons_succ]))
        clear hSw
        refine wpKind_keeps (by rfl) rfl (fun m1 => ?_)
        refine wpList_store_row rfl 29 _ _ rfl w.heap.size #[.int .i64 0, .slice none 0 0, .slice none 0 0, .slice none 0 0, .slice none 0 0, .slice none 0 0, .slice none 0 0] rfl rfl 29 #[.int .i64 0, .slice none 0 0, .slice none 0 0, .slice none 0 0, .slice none 0 0, .slice none 0 0, .slice none 0 0] (show (wl.drewN m1).heap[w.heap.size]? = _ from HPl.out) (by kernel_rfl) rfl (seven_all _ _ _ _ _ _ _ _ _ _ _ _ _ _ _ _ _ _ _) ?_
        obtain ⟨wa, hwa⟩ : ∃ X, (wl.drewN m1).setRow w.heap.size #[.int .i64 0, .slice none 0 0, .slice none 0 0, .slice none 0 0, .slice none 0 0, .slice none 0 0, .slice none 0 0] = X := ⟨_, rfl⟩
        have ra := setRow_heap (wl.drewN m1) w.heap.size _ #[.int .i64 0, .slice none 0 0, .slice none 0 0, .slice none 0 0, .slice none 0 0, .slice none 0 0, .slice none 0 0] _ _ HPl.out
        have oa : ∀ c, c ≠ w.heap.size → wa.heap[c]? = wl.heap[c]? := fun c hc => by rw [← hwa]; exact setRow_other (wl.drewN m1) _ c _ hc
        have bwa := below_setRow (below_drewN HBz.out m1) (Nat.le_refl w.heap.size) #[.int .i64 0, .slice none 0 0, .slice none 0 0, .slice none 0 0, .slice none 0 0, .slice none 0 0, .slice none 0 0]
        rw [hwa] at ra bwa ⊢
        clear hwa
        show _ ∧ _
        refine ⟨(oa _ (by have := HGB.out; omega)).trans HRl.out, ?_⟩
        have RB2 := (oa (w.heap.size + 1) (by omega)).trans HQl.out
        refine wpKind_serial (by rfl) rfl (fun m2 => ?_)
        refine wpList_store_row rfl 61 _ _ rfl (w.heap.size + 1) #[.int .i64 st.e, .int .i64 st.ln, .int .i64 st.cl] rfl rfl 61 #[.int .i64 0, .int .i64 0, .int .i64 0] (show (wa.drewN m2).heap[w.heap.size + 1]? = _ from RB2) (by kernel_rfl) rfl (three_allQ _ _ _) ?_
        obtain ⟨wb, hwb⟩ : ∃ X, (wa.drewN m2).setRow (w.heap.size + 1) #[.int .i64 st.e, .int .i64 st.ln, .int .i64 st.cl] = X := ⟨_, rfl⟩
        have rb := setRow_heap (wa.drewN m2) (w.heap.size + 1) _ #[.int .i64 st.e, .int .i64 st.ln, .int .i64 st.cl] _ _ RB2
        have ob : wb.heap[w.heap.size]? = wa.heap[w.heap.size]? := by rw [← hwb]; exact setRow_other (wa.drewN m2) _ _ _ (by omega)
        have bwb := below_setRow (below_drewN bwa m2) (Nat.le_succ w.heap.size) #[.int .i64 st.e, .int .i64 st.ln, .int .i64 st.cl]
        rw [hwb] at rb bwb ⊢
        clear hwb
        intro m3
        show Exit.then _ _ _ _ _
        have RA := Lib.hid (show (wb.drewN m3).heap[w.heap.size]? = some (.cells #[.int .i64 0, .slice none 0 0, .slice none 0 0, .slice none 0 0, .slice none 0 0, .slice none 0 0, .slice none 0 0] 29 (0, 0)) from ob.trans ra)
        have RB := Lib.hid (show (wb.drewN m3).heap[w.heap.size + 1]? = some (.cells #[.int .i64 st.e, .int .i64 st.ln, .int .i64 st.cl] 61 (0, 0)) from rb)
        have RC := Lib.hid (below_drewN bwb m3)
        clear RB2 ra rb oa ob bwa bwb
        go_wp2_with fail
        try simp only [Exit.inBlock, Exit.then]
        refine bodyPost_ret (results_cc rfl _ _ w.heap.size (w.heap.size + 1) _ _ _ _ (0, 0) (0, 0) _ _ rfl RA.out Tryz.underlying29 rfl (by kernel_rfl) rfl RB.out Tryz.underlying61 rfl (by kernel_rfl)) rfl ?_
        have hp : PD = zeroD ∧ g1 = st.e ∧ g2 = st.ln ∧ g3 = st.cl := by
          have h := HPS.out
          rw [HRG.out] at h
          dsimp only at h
          rw [if_pos HHE.out] at h
          injection h with h1 h2
          injection h2 with h2 h3 h4
          exact ⟨h1, h2, h3, h4⟩
        exact ⟨zeroM, hp.1.symm, by rw [hp.2.1, hp.2.2.1, hp.2.2.2]; rfl, zeroM_good _ _, RC.out⟩
  · have k1 : (e1 == 0) = false := beq_eq_false_iff_ne.2 he
    have k2 : (e1 != 0) = true := by rw [bne, k1]; rfl
    rw [if_pos he] at HPS
    clear he
    go_upto_region 3 with fail
    clear y0
    have hSw : w3.heap[g]? = some (.cells #[.int .i64 e1, .int .i64 e2, .int .i64 e3] 61 (0, 0)) := HE3.out
    refine wp_region_kinds (fun wy => wy.heap[g]? = some (.cells #[.int .i64 e1, .int .i64 e2, .int .i64 e3] 61 (0, 0))) [2] [3] [1] [0] [0, 1, 2, 3] (by kernel_rfl) (by kernel_rfl) (fun w n h => h) ?_
    repeat (first | (refine wpKind_free (v := ?_) (by rfl) rfl (by rfl) ?_ ?_; rotate_left 1; (focus (intro wy; go_simp; try with_reducible rfl; done)); try simp only [Act.put, List.setIfInBounds_toArray, List.set_cons_zero, List.set_cons_succ]) | (refine wpKind_held (v := ?_) (by rfl) rfl (by rfl) hSw ?_ ?_; rotate_left 1; (focus (intro wy hSy; have s0 : wy.cell? ⟨g, 0, none⟩ = some (.int .i64 e1) := Lib.cell_of_heap hSy 0; have s1 : wy.cell? ⟨g, 1, none⟩ = some (.int .i64 e2) := Lib.cell_of_heap hSy 1; have s2 : wy.cell? ⟨g, 2, none⟩ = some (.int .i64 e3) := Lib.cell_of_heap hSy 2; clear hSy; go_simp; try with_reducible rfl; done)); try simp only [Act.put, List.setIfInBounds_toArray, List.set_cons_zero, List.set_cons_succ]))
    clear hSw
    refine wpKind_keeps (by rfl) rfl (fun m1 => ?_)
    refine wpList_store_row rfl 29 _ _ rfl w.heap.size #[.int .i64 0, .slice none 0 0, .slice none 0 0, .slice none 0 0, .slice none 0 0, .slice none 0 0, .slice none 0 0] rfl rfl 29 #[.int .i64 0, .slice none 0 0, .slice none 0 0, .slice none 0 0, .slice none 0 0, .slice none 0 0, .slice none 0 0] (show (w3.drewN m1).heap[w.heap.size]? = _ from HP3.out) (by kernel_rfl) rfl (seven_all _ _ _ _ _ _ _ _ _ _ _ _ _ _ _ _ _ _ _) ?_
    obtain ⟨wa, hwa⟩ : ∃ X, (w3.drewN m1).setRow w.heap.size #[.int .i64 0, .slice none 0 0, .slice none 0 0, .slice none 0 0, .slice none 0 0, .slice none 0 0, .slice none 0 0] = X := ⟨_, rfl⟩
    have ra := setRow_heap (w3.drewN m1) w.heap.size _ #[.int .i64 0, .slice none 0 0, .slice none 0 0, .slice none 0 0, .slice none 0 0, .slice none 0 0, .slice none 0 0] _ _ HP3.out
    have oa : ∀ c, c ≠ w.heap.size → wa.heap[c]? = w3.heap[c]? := fun c hc => by rw [← hwa]; exact setRow_other (w3.drewN m1) _ c _ hc
    have bwa := below_setRow (below_drewN HB3.out m1) (Nat.le_refl w.heap.size) #[.int .i64 0, .slice none 0 0, .slice none 0 0, .slice none 0 0, .slice none 0 0, .slice none 0 0, .slice none 0 0]
    rw [hwa] at ra bwa ⊢
    clear hwa
    show _ ∧ _
    refine ⟨(oa _ (by have := HG3.out; omega)).trans HE3.out, ?_⟩
    have RB2 := (oa (w.heap.size + 1) (by omega)).trans HQ3.out
    refine wpKind_serial (by rfl) rfl (fun m2 => ?_)
    refine wpList_store_row rfl 61 _ _ rfl (w.heap.size + 1) #[.int .i64 e1, .int .i64 e2, .int .i64 e3] rfl rfl 61 #[.int .i64 0, .int .i64 0, .int .i64 0] (show (wa.drewN m2).heap[w.heap.size + 1]? = _ from RB2) (by kernel_rfl) rfl (three_allQ _ _ _) ?_
    obtain ⟨wb, hwb⟩ : ∃ X, (wa.drewN m2).setRow (w.heap.size + 1) #[.int .i64 e1, .int .i64 e2, .int .i64 e3] = X := ⟨_, rfl⟩
    have rb := setRow_heap (wa.drewN m2) (w.heap.size + 1) _ #[.int .i64 e1, .int .i64 e2, .int .i64 e3] _ _ RB2
    have ob : wb.heap[w.heap.size]? = wa.heap[w.heap.size]? := by rw [← hwb]; exact setRow_other (wa.drewN m2) _ _ _ (by omega)
    have bwb := below_setRow (below_drewN bwa m2) (Nat.le_succ w.heap.size) #[.int .i64 e1, .int .i64 e2, .int .i64 e3]
    rw [hwb] at rb bwb ⊢
    clear hwb
    intro m3
    show Exit.then _ _ _ _ _
    have RA := Lib.hid (show (wb.drewN m3).heap[w.heap.size]? = some (.cells #[.int .i64 0, .slice none 0 0, .slice none 0 0, .slice none 0 0, .slice none 0 0, .slice none 0 0, .slice none 0 0] 29 (0, 0)) from ob.trans ra)
    have RB := Lib.hid (show (wb.drewN m3).heap[w.heap.size + 1]? = some (.cells #[.int .i64 e1, .int .i64 e2, .int .i64 e3] 61 (0, 0)) from rb)
    have RC := Lib.hid (below_drewN bwb m3)
    clear RB2 ra rb oa ob bwa bwb
    go_wp2_with fail
    try simp only [Exit.inBlock, Exit.then]
    refine bodyPost_ret (results_cc rfl _ _ w.heap.size (w.heap.size + 1) _ _ _ _ (0, 0) (0, 0) _ _ rfl RA.out Tryz.underlying29 rfl (by kernel_rfl) rfl RB.out Tryz.underlying61 rfl (by kernel_rfl)) rfl ?_
    have hp : PD = zeroD ∧ g1 = e1 ∧ g2 = e2 ∧ g3 = e3 := by
      have h := HPS.out
      injection h with h1 h2
      injection h2 with h2 h3 h4
      exact ⟨h1, h2, h3, h4⟩
    exact ⟨zeroM, hp.1.symm, by rw [hp.2.1, hp.2.2.1, hp.2.2.2]; rfl, zeroM_good _ _, RC.out⟩
end Go.Proofs.YtmihinhbcncbfaaGreatDoor
