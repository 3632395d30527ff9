/- A region that draws its order, where a call may panic: one walk of one order serves every order; a panic's way hangs on the frame's deferred calls alone. Nothing of the program. -/
import Derived.Test.YteonefgbdphmiaaGreatDoorMh
import Derived.Test.YteonefgbdphmiaaGreatDoorWa
namespace Go.Proofs.YteonefgbdphmiaaGreatDoor
open Go
/-- A panic is met by R (the frame's deferred calls are ds), all else by Q. -/
def PanicTo (ds : List Deferred) (R : List PanicEntry → World → Prop) (Q : Exit → Act → World → Prop) : Exit → Act → World → Prop
  | .panic c, a, w => a.defers = ds ∧ R c w
  | e, a, w => Q e a w
theorem put_defers (a : Act) (d : Option Tmp) (v : Value) : (a.put d v).defers = a.defers := by cases d <;> rfl
theorem wp_region_kindsP {P : Program} {Q : Exit → Act → World → Prop} {id : Nat} {a : Act} {w : World} {l : List Oper} (ds : List Deferred) (R : List PanicEntry → World → Prop) (hR : ∀ c a w, a.defers = ds → R c w → Q (.panic c) a w) (S : World → Prop) (s1 s2 hd fr σ : List Nat) (hm : P.follows .mixedOrders = true) (hB : kindAll l.toArray s1 s2 hd fr σ = true)
    (hdr : ∀ w n, S w → S (w.drewN n)) (h : wpKind P l.toArray (PanicTo ds R Q) S (kdL s1 s2 hd fr) (fun a w => ∀ n, Q .normal a (w.drewN n)) σ a w) : (Code.region id l.toArray true).wp P Q a w := by
  simp only [kindAll, Bool.and_eq_true, decide_eq_true_eq] at hB
  obtain ⟨⟨⟨⟨hsel, hs⟩, hlen⟩, hB⟩, hend⟩ := hB
  have hw : (Code.region id l.toArray true).wp P (PanicTo ds R Q) a w := by
    refine wp_region_any hm ?_
    have h' := wpKind_mono (fin' := GoOn P l.toArray (PanicTo ds R Q) S (kdL s1 s2 hd fr) 0 (listedBy σ (Array.replicate l.toArray.size false))) (fun a w hf _ => ⟨by simpa using hend, hf⟩) σ a w h
    have := wpAny_of_kinds (md := .any) _ _ _ _ 1 (wpAnyK_lex hsel (kd_lt hs) hdr (fun c a d v w h => ⟨(put_defers a d v).symm.trans h.1, h.2⟩) 0 σ _ a w (Closed.none _) hB h')
    rw [Nat.zero_add, hlen] at this
    exact this
  refine Code.wp_mono (fun e a w h => ?_) hw
  cases e with
  | panic c => exact hR c a w h.1 h.2
  | _ => exact h
theorem wpKind_nilP {P : Program} {Q : Exit → Act → World → Prop} {ds : List Deferred} {R : List PanicEntry → World → Prop} {S : World → Prop} {s1 s2 hd fr : List Nat} {l : List Oper} {a : Act} {w : World} (h : ∀ n, Q .normal a (w.drewN n)) : wpKind P l.toArray (PanicTo ds R Q) S (kdL s1 s2 hd fr) (fun a w => ∀ n, Q .normal a (w.drewN n)) [] a w := h
end Go.Proofs.YteonefgbdphmiaaGreatDoor
/- Package sheet: the walks of times, and of the closures that read a path, a door, a trip, a hazard. Printed by wip/bin/genwb.py. -/
namespace Go.Proofs.YteonefgbdphmiaaGreatDoor
open Go.RowKit
theorem got_elim {b : Nat} {L : List TokD} {X : XV} {w0 w : World} {r : Rd} {val : Value} {f : FuncId} {args : Array Value} {R : Ending → World → Prop} (h : Calls Tryz.prog f args w (Got b L X w0 r val))
    (h1 : ∀ w', r.e ≠ 0 → Keep b w0 w' → R (.panicked (give r)) w') (h2 : ∀ j w', r = rd j → SOk b L j X w' → Keep b w0 w' → R (.returned val) w') : Calls Tryz.prog f args w R := by
  refine h.mono ?_
  rintro e w' (⟨j, hj, rfl, ho, hk⟩ | ⟨he, rfl, hk⟩)
  · exact h2 j w' hj ho hk
  · exact h1 w' he hk
/-- Block p0 is a variable that holds the reader. -/
def CapAt (p0 b : Nat) (w : World) : Prop := w.heap[p0]? = some (.cells #[.pointer (some ⟨b, 0, none⟩)] 76 (0, 0)) ∧ b < p0
theorem CapAt.keep {p0 b : Nat} {w w' : World} (h : CapAt p0 b w) (k : Keep b w w') : CapAt p0 b w' := ⟨(k.block p0 (Array.getElem?_eq_some_iff.1 h.1).1 (by have := h.2; omega)).trans h.1, h.2⟩
theorem CapAt.lt {p0 b : Nat} {w : World} (h : CapAt p0 b w) : p0 < w.heap.size := (Array.getElem?_eq_some_iff.1 h.1).1
theorem CapAt.cell {p0 b : Nat} {w : World} (h : CapAt p0 b w) : w.cell? ⟨p0, 0, none⟩ = some (.pointer (some ⟨b, 0, none⟩)) := Lib.cell_of_heap h.1 0
theorem CapAt.new {p0 b : Nat} {w w' : World} (h : CapAt p0 b w) (k : Below w.heap.size w w') : CapAt p0 b w' := ⟨(k.block p0 h.lt).trans h.1, h.2⟩
theorem CapAt.set {p0 b : Nat} {w : World} (h : CapAt p0 b w) {g : Nat} (hg : p0 < g) (j : Nat) (u : Value) : CapAt p0 b (w.setCell ⟨g, j, none⟩ u) := ⟨(heap_setCell_other w ⟨g, j, none⟩ p0 u (by show p0 ≠ g; omega)).trans h.1, h.2⟩
set_option maxHeartbeats 8000000 in
set_option maxRecDepth 100000 in
theorem stimes_any (b : Nat) (L : List TokD) (i : Nat) (X : XV) (k : List UInt8) (w : World) (h : SOk b L i X w) :
    Calls Tryz.prog 111 #[.pointer (some ⟨b, 0, none⟩), .string (ba k)] w (Got b L X w (timesRD L (rd i) k).1 (.agg (tc (timesRD L (rd i) k).2).toArray)) := by
  have HLT := Lib.hid h.lt
  have HO := Lib.hid h
  have HK := Lib.hid (Keep.refl b w)
  obtain ⟨⟨s1, n1⟩, h1⟩ : ∃ r, afterD L (rd i) kFrom = r := ⟨_, rfl⟩
  obtain ⟨⟨s2, n2⟩, h2⟩ : ∃ r, afterD L s1 kEvery = r := ⟨_, rfl⟩
  obtain ⟨⟨s3, n3⟩, h3⟩ : ∃ r, afterD L s2 k = r := ⟨_, rfl⟩
  have HRES := Lib.hid (show timesRD L (rd i) k = (s3, ⟨n1, n2, n3⟩) by unfold timesRD; simp only [h1, h2, h3])
  have HB2 := Lib.hid (show s2.e ≠ 0 → s3 = s2 from fun he => by
    have e1 : s3 = s2 := (congrArg Prod.fst h3).symm.trans (afterD_bad he)
    exact e1)
  have HB1 := Lib.hid (show s1.e ≠ 0 → s3 = s1 from fun he => by
    have e1 : s2 = s1 := (congrArg Prod.fst h2).symm.trans (afterD_bad he)
    rw [HB2.out (by rw [e1]; exact he), e1])
  have HH1 := Lib.hid h1
  have HH2 := Lib.hid h2
  have HH3 := Lib.hid h3
  rw [HRES.out]
  dsimp only [tc]
  clear h h1 h2 h3
  go_enter Tryz.func111, Tryz.ntmps111
  go_upto_region 1 with fail
  obtain ⟨q, hq⟩ : ∃ q, w.heap.size = q := ⟨_, rfl⟩
  obtain ⟨a0, hw⟩ : ∃ w1, w.alloc (.cells #[.int .i64 0, .int .i64 0, .int .i64 0] 48) = w1 := ⟨_, rfl⟩
  have hb : Below w.heap.size w a0 := by rw [← hw]; exact (Below.refl _ _).alloc (Nat.le_refl _) _
  have HE := Lib.hid (show a0.heap[q]? = some (.cells #[.int .i64 0, .int .i64 0, .int .i64 0] 48 (0, 0)) by rw [← hw, ← hq]; exact heap_alloc_new _ _)
  have HBQ := Lib.hid (show b < q by rw [← hq]; exact HLT.out)
  have HWQ := Lib.hid (show w.heap.size ≤ q by rw [hq]; exact Nat.le_refl _)
  try rw [hw]
  try rw [hq]
  have HO2 := Lib.hid (HO.out.new hb)
  have HK2 := Lib.hid (HK.out.trans (Keep.of hb (Nat.le_of_lt HLT.out)))
  have HE2 := Lib.hid (show a0.heap[q]? = some (.cells #[.int .i64 0, .int .i64 0, .int .i64 0] 48 (0, 0)) from HE.out)
  clear HO HK HE
  have HO := Lib.hid HO2.out
  have HK := Lib.hid HK2.out
  have HE := Lib.hid HE2.out
  clear HO2 HK2 HE2
  clear hw hb hq
  try simp only [Exit.then]
  have hc := sbehind_any b L i X kFrom a0 HO.out
  rw [HH1.out] at hc
  dsimp only at hc
  rw [show ba kFrom = ⟨#[102, 114, 111, 109]⟩ from rfl] at hc
  have HCC := Lib.hid hc
  clear hc
  go_wp2_with fail
  refine got_elim HCC.out ?_ ?_
  · intro w9 he hk
    have hb := HB1.out he
    exact ⟨rfl, .inr ⟨by rw [hb]; exact he, by rw [hb], HK.out.trans hk⟩⟩
  rintro j1 d1 rfl ho hk
  have HO2 := Lib.hid (ho)
  have HK2 := Lib.hid (HK.out.trans hk)
  have HE2 := Lib.hid (show d1.heap[q]? = some (.cells #[.int .i64 0, .int .i64 0, .int .i64 0] 48 (0, 0)) from (hk.block q (Array.getElem?_eq_some_iff.1 HE.out).1 (by have := HBQ.out; omega)).trans HE.out)
  clear HO HK HE
  have HO := Lib.hid HO2.out
  have HK := Lib.hid HK2.out
  have HE := Lib.hid HE2.out
  clear HO2 HK2 HE2
  clear ho hk HCC
  have y1 : d1.cell? ⟨q, 0, none⟩ = some (.int .i64 0) := Lib.cell_of_heap HE.out 0
  have y2 : d1.frozen? ⟨q, 0, none⟩ = false := Lib.frozen_of_heap HE.out 0
  go_upto_region 2 with fail
  clear y1 y2
  obtain ⟨e1, hw⟩ : ∃ w9, d1.setCell ⟨q, 0, none⟩ (.int .i64 n1) = w9 := ⟨_, rfl⟩
  have HO2 := Lib.hid (show SOk b L j1 X e1 by rw [← hw]; exact (HO.out).set HBQ.out 0 _)
  have HK2 := Lib.hid (show Keep b w e1 by rw [← hw]; exact (HK.out).newSet HWQ.out (Nat.le_of_lt HLT.out) 0 _)
  have HE2 := Lib.hid (show e1.heap[q]? = some (.cells #[.int .i64 n1, .int .i64 0, .int .i64 0] 48 (0, 0)) from by rw [← hw]; exact heap_setCell_same _ q 0 _ _ _ (HE.out))
  clear HO HK HE
  have HO := Lib.hid HO2.out
  have HK := Lib.hid HK2.out
  have HE := Lib.hid HE2.out
  clear HO2 HK2 HE2
  try rw [hw]
  clear hw
  have hc := sbehind_any b L j1 X kEvery e1 HO.out
  rw [HH2.out] at hc
  dsimp only at hc
  rw [show ba kEvery = ⟨#[101, 118, 101, 114, 121]⟩ from rfl] at hc
  have HCC := Lib.hid hc
  clear hc
  go_wp2_with fail
  refine got_elim HCC.out ?_ ?_
  · intro w9 he hk
    have hb := HB2.out he
    exact ⟨rfl, .inr ⟨by rw [hb]; exact he, by rw [hb], HK.out.trans hk⟩⟩
  rintro j2 d2 rfl ho hk
  have HO2 := Lib.hid (ho)
  have HK2 := Lib.hid (HK.out.trans hk)
  have HE2 := Lib.hid (show d2.heap[q]? = some (.cells #[.int .i64 n1, .int .i64 0, .int .i64 0] 48 (0, 0)) from (hk.block q (Array.getElem?_eq_some_iff.1 HE.out).1 (by have := HBQ.out; omega)).trans HE.out)
  clear HO HK HE
  have HO := Lib.hid HO2.out
  have HK := Lib.hid HK2.out
  have HE := Lib.hid HE2.out
  clear HO2 HK2 HE2
  clear ho hk HCC
  have y1 : d2.cell? ⟨q, 1, none⟩ = some (.int .i64 0) := Lib.cell_of_heap HE.out 1
  have y2 : d2.frozen? ⟨q, 1, none⟩ = false := Lib.frozen_of_heap HE.out 1
  go_upto_region 3 with fail
  clear y1 y2
  obtain ⟨e2, hw⟩ : ∃ w9, d2.setCell ⟨q, 1, none⟩ (.int .i64 n2) = w9 := ⟨_, rfl⟩
  have HO2 := Lib.hid (show SOk b L j2 X e2 by rw [← hw]; exact (HO.out).set HBQ.out 1 _)
  have HK2 := Lib.hid (show Keep b w e2 by rw [← hw]; exact (HK.out).newSet HWQ.out (Nat.le_of_lt HLT.out) 1 _)
  have HE2 := Lib.hid (show e2.heap[q]? = some (.cells #[.int .i64 n1, .int .i64 n2, .int .i64 0] 48 (0, 0)) from by rw [← hw]; exact heap_setCell_same _ q 1 _ _ _ (HE.out))
  clear HO HK HE
  have HO := Lib.hid HO2.out
  have HK := Lib.hid HK2.out
  have HE := Lib.hid HE2.out
  clear HO2 HK2 HE2
  try rw [hw]
  clear hw
  have hc := sbehind_any b L j2 X k e2 HO.out
  rw [HH3.out] at hc
  dsimp only at hc
  have HCC := Lib.hid hc
  clear hc
  go_wp2_with fail
  refine got_elim HCC.out ?_ ?_
  · intro w9 he hk
    exact ⟨rfl, .inr ⟨he, rfl, HK.out.trans hk⟩⟩
  rintro j3 d3 rfl ho hk
  have HO2 := Lib.hid (ho)
  have HK2 := Lib.hid (HK.out.trans hk)
  have HE2 := Lib.hid (show d3.heap[q]? = some (.cells #[.int .i64 n1, .int .i64 n2, .int .i64 0] 48 (0, 0)) from (hk.block q (Array.getElem?_eq_some_iff.1 HE.out).1 (by have := HBQ.out; omega)).trans HE.out)
  clear HO HK HE
  have HO := Lib.hid HO2.out
  have HK := Lib.hid HK2.out
  have HE := Lib.hid HE2.out
  clear HO2 HK2 HE2
  clear ho hk HCC
  have y1 : d3.cell? ⟨q, 2, none⟩ = some (.int .i64 0) := Lib.cell_of_heap HE.out 2
  have y2 : d3.frozen? ⟨q, 2, none⟩ = false := Lib.frozen_of_heap HE.out 2
  go_upto_region 4 with fail
  clear y1 y2
  obtain ⟨e3, hw⟩ : ∃ w9, d3.setCell ⟨q, 2, none⟩ (.int .i64 n3) = w9 := ⟨_, rfl⟩
  have HO2 := Lib.hid (show SOk b L j3 X e3 by rw [← hw]; exact (HO.out).set HBQ.out 2 _)
  have HK2 := Lib.hid (show Keep b w e3 by rw [← hw]; exact (HK.out).newSet HWQ.out (Nat.le_of_lt HLT.out) 2 _)
  have HE2 := Lib.hid (show e3.heap[q]? = some (.cells #[.int .i64 n1, .int .i64 n2, .int .i64 n3] 48 (0, 0)) from by rw [← hw]; exact heap_setCell_same _ q 2 _ _ _ (HE.out))
  clear HO HK HE
  have HO := Lib.hid HO2.out
  have HK := Lib.hid HK2.out
  have HE := Lib.hid HE2.out
  clear HO2 HK2 HE2
  try rw [hw]
  clear hw
  have y0 : e3.cell? ⟨q, 0, none⟩ = some (.int .i64 n1) := Lib.cell_of_heap HE.out 0
  have y1 : e3.cell? ⟨q, 1, none⟩ = some (.int .i64 n2) := Lib.cell_of_heap HE.out 1
  have y2 : e3.cell? ⟨q, 2, none⟩ = some (.int .i64 n3) := Lib.cell_of_heap HE.out 2
  go_wp2_with (first | (refine wpList_store_row rfl 48 _ _ rfl q #[.int .i64 n1, .int .i64 n2, .int .i64 n3] rfl rfl 48 #[.int .i64 n1, .int .i64 n2, .int .i64 n3] HE.out (by kernel_rfl) rfl (three_allQ _ _ _) ?_))
  refine bodyPost_ret (results_cell_row rfl _ _ q _ _ (0, 0) _ rfl (setRow_heap _ _ _ _ _ _ HE.out) Tryz.underlying48 rfl (by kernel_rfl)) rfl ?_
  exact .inl ⟨j3, rfl, rfl, HO.out.row HBQ.out _, HK.out.newRow HWQ.out (Nat.le_of_lt HLT.out) _⟩
set_option maxHeartbeats 8000000 in
set_option maxRecDepth 100000 in
theorem spath_any (b : Nat) (L : List TokD) (i : Nat) (X : XV) (p0 : Nat) (w : World) (h : SOk b L i X w) (hp : CapAt p0 b w) :
    Calls Tryz.prog 108 #[.pointer (some ⟨p0, 0, none⟩)] w (Got b L X w (pathRD L (rd i)).1 (.agg (pc (pathRD L (rd i)).2).toArray)) := by
  have HLT := Lib.hid h.lt
  have HO := Lib.hid h
  have HK := Lib.hid (Keep.refl b w)
  have HX := Lib.hid hp
  obtain ⟨⟨s1, n1⟩, h1⟩ : ∃ r, nameD L (rd i) = r := ⟨_, rfl⟩
  obtain ⟨⟨s2, n2⟩, h2⟩ : ∃ r, nameD L s1 = r := ⟨_, rfl⟩
  obtain ⟨⟨s3, n3⟩, h3⟩ : ∃ r, nameD L s2 = r := ⟨_, rfl⟩
  obtain ⟨⟨s4, n4⟩, h4⟩ : ∃ r, numD L s3 = r := ⟨_, rfl⟩
  have HRES := Lib.hid (show pathRD L (rd i) = (s4, ⟨n1, n2, n3, n4⟩) by unfold pathRD; simp only [h1, h2, h3, h4])
  have HB3 := Lib.hid (show s3.e ≠ 0 → s4 = s3 from fun he => by
    have e1 : s4 = s3 := (congrArg Prod.fst h4).symm.trans (numD_bad he)
    exact e1)
  have HB2 := Lib.hid (show s2.e ≠ 0 → s4 = s2 from fun he => by
    have e1 : s3 = s2 := (congrArg Prod.fst h3).symm.trans (nameD_bad he)
    rw [HB3.out (by rw [e1]; exact he), e1])
  have HB1 := Lib.hid (show s1.e ≠ 0 → s4 = s1 from fun he => by
    have e1 : s2 = s1 := (congrArg Prod.fst h2).symm.trans (nameD_bad he)
    rw [HB2.out (by rw [e1]; exact he), e1])
  have HH1 := Lib.hid h1
  have HH2 := Lib.hid h2
  have HH3 := Lib.hid h3
  have HH4 := Lib.hid h4
  rw [HRES.out]
  dsimp only [pc]
  clear h h1 h2 h3 h4 hp
  go_enter Tryz.func108, Tryz.ntmps108
  go_upto_region 1 with fail
  obtain ⟨q, hq⟩ : ∃ q, w.heap.size = q := ⟨_, rfl⟩
  obtain ⟨a0, hw⟩ : ∃ w1, w.alloc (.cells #[.string ⟨#[]⟩, .string ⟨#[]⟩, .string ⟨#[]⟩, .int .i64 0] 61) = w1 := ⟨_, rfl⟩
  have hb : Below w.heap.size w a0 := by rw [← hw]; exact (Below.refl _ _).alloc (Nat.le_refl _) _
  have HE := Lib.hid (show a0.heap[q]? = some (.cells #[.string ⟨#[]⟩, .string ⟨#[]⟩, .string ⟨#[]⟩, .int .i64 0] 61 (0, 0)) by rw [← hw, ← hq]; exact heap_alloc_new _ _)
  have HBQ := Lib.hid (show b < q by rw [← hq]; exact HLT.out)
  have HWQ := Lib.hid (show w.heap.size ≤ q by rw [hq]; exact Nat.le_refl _)
  have HPQ := Lib.hid (show p0 < q by rw [← hq]; exact HX.out.lt)
  try rw [hw]
  try rw [hq]
  have HO2 := Lib.hid (HO.out.new hb)
  have HK2 := Lib.hid (HK.out.trans (Keep.of hb (Nat.le_of_lt HLT.out)))
  have HX2 := Lib.hid (HX.out.new hb)
  have HE2 := Lib.hid (show a0.heap[q]? = some (.cells #[.string ⟨#[]⟩, .string ⟨#[]⟩, .string ⟨#[]⟩, .int .i64 0] 61 (0, 0)) from HE.out)
  clear HO HK HE HX
  have HO := Lib.hid HO2.out
  have HK := Lib.hid HK2.out
  have HE := Lib.hid HE2.out
  have HX := Lib.hid HX2.out
  clear HO2 HK2 HE2 HX2
  clear hw hb hq
  have hSw : a0.cell? ⟨p0, 0, none⟩ = some (.pointer (some ⟨b, 0, none⟩)) := HX.out.cell
  refine wp_region_kindsP [] (fun c w9 => ∃ r : Rd, r.e ≠ 0 ∧ s4 = r ∧ c = give r ∧ Keep b w w9) ?_ (fun wy => wy.cell? ⟨p0, 0, none⟩ = some (.pointer (some ⟨b, 0, none⟩))) [1, 3, 5, 7] [9, 11, 13, 15] [0, 2, 4, 6] [8, 10, 12, 14] [0, 2, 4, 6, 1, 8, 3, 5, 7, 9, 10, 11, 12, 13, 14, 15] (by kernel_rfl) (by kernel_rfl) (fun w n h => h) ?_
  · rintro c a w9 hd ⟨r, he, hr, rfl, hk⟩
    refine ⟨hd, .inr ⟨?_, ?_, hk⟩⟩
    · rw [hr]; exact he
    · rw [hr]
  repeat (first | (refine wpKind_free (v := ?_) (by rfl) rfl (by rfl) ?_ ?_; rotate_left 1; (focus (intro wy; go_simp; try with_reducible rfl; done)); try simp only [Act.put, List.setIfInBounds_toArray, List.set_cons_zero, List.set_cons_succ]) | (refine wpKind_held (v := ?_) (by rfl) rfl (by rfl) hSw ?_ ?_; rotate_left 1; (focus (intro wy hSy; have s0 : wy.cell? ⟨p0, 0, none⟩ = some (.pointer (some ⟨b, 0, none⟩)) := hSy; go_simp; try with_reducible rfl; done)); try simp only [Act.put, List.setIfInBounds_toArray, List.set_cons_zero, List.set_cons_succ]))
  clear hSw
  refine wpKind_keeps (by rfl) rfl (fun m1 => ?_)
  have hc := sname_any b L i X (a0.drewN m1) (HO.out.drewN m1)
  rw [HH1.out] at hc
  dsimp only at hc
  have HCC := Lib.hid hc
  clear hc
  go_wp2_with fail
  refine got_elim HCC.out ?_ ?_
  · intro w9 he hk
    exact ⟨rfl, s1, he, HB1.out he, rfl, (HK.out.drewN m1).trans hk⟩
  rintro j1 a1 rfl ho hk
  have HO2 := Lib.hid (ho)
  have HK2 := Lib.hid ((HK.out.drewN m1).trans hk)
  have HX2 := Lib.hid (CapAt.keep (w := a0.drewN m1) HX.out hk)
  have HE2 := Lib.hid (show a1.heap[q]? = some (.cells #[.string ⟨#[]⟩, .string ⟨#[]⟩, .string ⟨#[]⟩, .int .i64 0] 61 (0, 0)) from (hk.block q (Array.getElem?_eq_some_iff.1 (show (a0.drewN m1).heap[q]? = _ from HE.out)).1 (by have := HBQ.out; omega)).trans HE.out)
  clear HO HK HE HX
  have HO := Lib.hid HO2.out
  have HK := Lib.hid HK2.out
  have HE := Lib.hid HE2.out
  have HX := Lib.hid HX2.out
  clear HO2 HK2 HE2 HX2
  clear ho hk HCC
  go_wp2_with fail
  show _ ∧ _
  refine ⟨HX.out.cell, ?_⟩
  have hSw : a1.cell? ⟨p0, 0, none⟩ = some (.pointer (some ⟨b, 0, none⟩)) := HX.out.cell
  repeat (first | (refine wpKind_free (v := ?_) (by rfl) rfl (by rfl) ?_ ?_; rotate_left 1; (focus (intro wy; go_simp; try with_reducible rfl; done)); try simp only [Act.put, List.setIfInBounds_toArray, List.set_cons_zero, List.set_cons_succ]) | (refine wpKind_held (v := ?_) (by rfl) rfl (by rfl) hSw ?_ ?_; rotate_left 1; (focus (intro wy hSy; have s0 : wy.cell? ⟨p0, 0, none⟩ = some (.pointer (some ⟨b, 0, none⟩)) := hSy; go_simp; try with_reducible rfl; done)); try simp only [Act.put, List.setIfInBounds_toArray, List.set_cons_zero, List.set_cons_succ]))
  clear hSw
  refine wpKind_keeps (by rfl) rfl (fun m2 => ?_)
  have hc := sname_any b L j1 X (a1.drewN m2) (HO.out.drewN m2)
  rw [HH2.out] at hc
  dsimp only at hc
  have HCC := Lib.hid hc
  clear hc
  go_wp2_with fail
  refine got_elim HCC.out ?_ ?_
  · intro w9 he hk
    exact ⟨rfl, s2, he, HB2.out he, rfl, (HK.out.drewN m2).trans hk⟩
  rintro j2 a2 rfl ho hk
  have HO2 := Lib.hid (ho)
  have HK2 := Lib.hid ((HK.out.drewN m2).trans hk)
  have HX2 := Lib.hid (CapAt.keep (w := a1.drewN m2) HX.out hk)
  have HE2 := Lib.hid (show a2.heap[q]? = some (.cells #[.string ⟨#[]⟩, .string ⟨#[]⟩, .string ⟨#[]⟩, .int .i64 0] 61 (0, 0)) from (hk.block q (Array.getElem?_eq_some_iff.1 (show (a1.drewN m2).heap[q]? = _ from HE.out)).1 (by have := HBQ.out; omega)).trans HE.out)
  clear HO HK HE HX
  have HO := Lib.hid HO2.out
  have HK := Lib.hid HK2.out
  have HE := Lib.hid HE2.out
  have HX := Lib.hid HX2.out
  clear HO2 HK2 HE2 HX2
  clear ho hk HCC
  go_wp2_with fail
  show _ ∧ _
  refine ⟨HX.out.cell, ?_⟩
  have hSw : a2.cell? ⟨p0, 0, none⟩ = some (.pointer (some ⟨b, 0, none⟩)) := HX.out.cell
  repeat (first | (refine wpKind_free (v := ?_) (by rfl) rfl (by rfl) ?_ ?_; rotate_left 1; (focus (intro wy; go_simp; try with_reducible rfl; done)); try simp only [Act.put, List.setIfInBounds_toArray, List.set_cons_zero, List.set_cons_succ]) | (refine wpKind_held (v := ?_) (by rfl) rfl (by rfl) hSw ?_ ?_; rotate_left 1; (focus (intro wy hSy; have s0 : wy.cell? ⟨p0, 0, none⟩ = some (.pointer (some ⟨b, 0, none⟩)) := hSy; go_simp; try with_reducible rfl; done)); try simp only [Act.put, List.setIfInBounds_toArray, List.set_cons_zero, List.set_cons_succ]))
  clear hSw
  refine wpKind_keeps (by rfl) rfl (fun m3 => ?_)
  have hc := sname_any b L j2 X (a2.drewN m3) (HO.out.drewN m3)
  rw [HH3.out] at hc
  dsimp only at hc
  have HCC := Lib.hid hc
  clear hc
  go_wp2_with fail
  refine got_elim HCC.out ?_ ?_
  · intro w9 he hk
    exact ⟨rfl, s3, he, HB3.out he, rfl, (HK.out.drewN m3).trans hk⟩
  rintro j3 a3 rfl ho hk
  have HO2 := Lib.hid (ho)
  have HK2 := Lib.hid ((HK.out.drewN m3).trans hk)
  have HX2 := Lib.hid (CapAt.keep (w := a2.drewN m3) HX.out hk)
  have HE2 := Lib.hid (show a3.heap[q]? = some (.cells #[.string ⟨#[]⟩, .string ⟨#[]⟩, .string ⟨#[]⟩, .int .i64 0] 61 (0, 0)) from (hk.block q (Array.getElem?_eq_some_iff.1 (show (a2.drewN m3).heap[q]? = _ from HE.out)).1 (by have := HBQ.out; omega)).trans HE.out)
  clear HO HK HE HX
  have HO := Lib.hid HO2.out
  have HK := Lib.hid HK2.out
  have HE := Lib.hid HE2.out
  have HX := Lib.hid HX2.out
  clear HO2 HK2 HE2 HX2
  clear ho hk HCC
  go_wp2_with fail
  show _ ∧ _
  refine ⟨HX.out.cell, ?_⟩
  have hSw : a3.cell? ⟨p0, 0, none⟩ = some (.pointer (some ⟨b, 0, none⟩)) := HX.out.cell
  repeat (first | (refine wpKind_free (v := ?_) (by rfl) rfl (by rfl) ?_ ?_; rotate_left 1; (focus (intro wy; go_simp; try with_reducible rfl; done)); try simp only [Act.put, List.setIfInBounds_toArray, List.set_cons_zero, List.set_cons_succ]) | (refine wpKind_held (v := ?_) (by rfl) rfl (by rfl) hSw ?_ ?_; rotate_left 1; (focus (intro wy hSy; have s0 : wy.cell? ⟨p0, 0, none⟩ = some (.pointer (some ⟨b, 0, none⟩)) := hSy; go_simp; try with_reducible rfl; done)); try simp only [Act.put, List.setIfInBounds_toArray, List.set_cons_zero, List.set_cons_succ]))
  clear hSw
  refine wpKind_keeps (by rfl) rfl (fun m4 => ?_)
  have hc := snum_any b L j3 X (a3.drewN m4) (HO.out.drewN m4)
  rw [HH4.out] at hc
  dsimp only at hc
  have HCC := Lib.hid hc
  clear hc
  go_wp2_with fail
  refine got_elim HCC.out ?_ ?_
  · intro w9 he hk
    exact ⟨rfl, s4, he, rfl, rfl, (HK.out.drewN m4).trans hk⟩
  rintro j4 a4 rfl ho hk
  have HO2 := Lib.hid (ho)
  have HK2 := Lib.hid ((HK.out.drewN m4).trans hk)
  have HX2 := Lib.hid (CapAt.keep (w := a3.drewN m4) HX.out hk)
  have HE2 := Lib.hid (show a4.heap[q]? = some (.cells #[.string ⟨#[]⟩, .string ⟨#[]⟩, .string ⟨#[]⟩, .int .i64 0] 61 (0, 0)) from (hk.block q (Array.getElem?_eq_some_iff.1 (show (a3.drewN m4).heap[q]? = _ from HE.out)).1 (by have := HBQ.out; omega)).trans HE.out)
  clear HO HK HE HX
  have HO := Lib.hid HO2.out
  have HK := Lib.hid HK2.out
  have HE := Lib.hid HE2.out
  have HX := Lib.hid HX2.out
  clear HO2 HK2 HE2 HX2
  clear ho hk HCC
  go_wp2_with fail
  show _ ∧ _
  refine ⟨HX.out.cell, ?_⟩
  have hSw : a4.cell? ⟨p0, 0, none⟩ = some (.pointer (some ⟨b, 0, none⟩)) := HX.out.cell
  repeat (first | (refine wpKind_free (v := ?_) (by rfl) rfl (by rfl) ?_ ?_; rotate_left 1; (focus (intro wy; go_simp; try with_reducible rfl; done)); try simp only [Act.put, List.setIfInBounds_toArray, List.set_cons_zero, List.set_cons_succ]) | (refine wpKind_held (v := ?_) (by rfl) rfl (by rfl) hSw ?_ ?_; rotate_left 1; (focus (intro wy hSy; have s0 : wy.cell? ⟨p0, 0, none⟩ = some (.pointer (some ⟨b, 0, none⟩)) := hSy; go_simp; try with_reducible rfl; done)); try simp only [Act.put, List.setIfInBounds_toArray, List.set_cons_zero, List.set_cons_succ]))
  clear hSw
  refine wpKind_serial (by rfl) rfl (fun m5 => ?_)
  have y1 : (a4.drewN m5).cell? ⟨q, 0, none⟩ = some (.string ⟨#[]⟩) := Lib.cell_of_heap (show (a4.drewN m5).heap[q]? = _ from HE.out) 0
  have y2 : (a4.drewN m5).frozen? ⟨q, 0, none⟩ = false := Lib.frozen_of_heap (show (a4.drewN m5).heap[q]? = _ from HE.out) 0
  go_wp2_with fail
  clear y1 y2
  obtain ⟨b1, hw⟩ : ∃ w9, (a4.drewN m5).setCell ⟨q, 0, none⟩ (.string (ba n1)) = w9 := ⟨_, rfl⟩
  try rw [hw]
  have HO2 := Lib.hid (show SOk b L j4 X b1 by rw [← hw]; exact (HO.out.drewN m5).set HBQ.out 0 _)
  have HK2 := Lib.hid (show Keep b w b1 by rw [← hw]; exact (HK.out.drewN m5).newSet HWQ.out (Nat.le_of_lt HLT.out) 0 _)
  have HX2 := Lib.hid (show CapAt p0 b b1 by rw [← hw]; exact CapAt.set (w := a4.drewN m5) HX.out HPQ.out 0 _)
  have HE2 := Lib.hid (show b1.heap[q]? = some (.cells #[.string (ba n1), .string ⟨#[]⟩, .string ⟨#[]⟩, .int .i64 0] 61 (0, 0)) from by rw [← hw]; exact heap_setCell_same (a4.drewN m5) q 0 _ _ _ HE.out)
  clear HO HK HE HX
  have HO := Lib.hid HO2.out
  have HK := Lib.hid HK2.out
  have HE := Lib.hid HE2.out
  have HX := Lib.hid HX2.out
  clear HO2 HK2 HE2 HX2
  clear hw
  repeat (first | (refine wpKind_free (v := ?_) (by rfl) rfl (by rfl) ?_ ?_; rotate_left 1; (focus (intro wy; go_simp; try with_reducible rfl; done)); try simp only [Act.put, List.setIfInBounds_toArray, List.set_cons_zero, List.set_cons_succ]) | (refine wpKind_held (v := ?_) (by rfl) rfl (by rfl) hSw ?_ ?_; rotate_left 1; (focus (intro wy hSy; have s0 : wy.cell? ⟨p0, 0, none⟩ = some (.pointer (some ⟨b, 0, none⟩)) := hSy; go_simp; try with_reducible rfl; done)); try simp only [Act.put, List.setIfInBounds_toArray, List.set_cons_zero, List.set_cons_succ]))
  refine wpKind_serial (by rfl) rfl (fun m6 => ?_)
  have y1 : (b1.drewN m6).cell? ⟨q, 1, none⟩ = some (.string ⟨#[]⟩) := Lib.cell_of_heap (show (b1.drewN m6).heap[q]? = _ from HE.out) 1
  have y2 : (b1.drewN m6).frozen? ⟨q, 1, none⟩ = false := Lib.frozen_of_heap (show (b1.drewN m6).heap[q]? = _ from HE.out) 1
  go_wp2_with fail
  clear y1 y2
  obtain ⟨b2, hw⟩ : ∃ w9, (b1.drewN m6).setCell ⟨q, 1, none⟩ (.string (ba n2)) = w9 := ⟨_, rfl⟩
  try rw [hw]
  have HO2 := Lib.hid (show SOk b L j4 X b2 by rw [← hw]; exact (HO.out.drewN m6).set HBQ.out 1 _)
  have HK2 := Lib.hid (show Keep b w b2 by rw [← hw]; exact (HK.out.drewN m6).newSet HWQ.out (Nat.le_of_lt HLT.out) 1 _)
  have HX2 := Lib.hid (show CapAt p0 b b2 by rw [← hw]; exact CapAt.set (w := b1.drewN m6) HX.out HPQ.out 1 _)
  have HE2 := Lib.hid (show b2.heap[q]? = some (.cells #[.string (ba n1), .string (ba n2), .string ⟨#[]⟩, .int .i64 0] 61 (0, 0)) from by rw [← hw]; exact heap_setCell_same (b1.drewN m6) q 1 _ _ _ HE.out)
  clear HO HK HE HX
  have HO := Lib.hid HO2.out
  have HK := Lib.hid HK2.out
  have HE := Lib.hid HE2.out
  have HX := Lib.hid HX2.out
  clear HO2 HK2 HE2 HX2
  clear hw
  repeat (first | (refine wpKind_free (v := ?_) (by rfl) rfl (by rfl) ?_ ?_; rotate_left 1; (focus (intro wy; go_simp; try with_reducible rfl; done)); try simp only [Act.put, List.setIfInBounds_toArray, List.set_cons_zero, List.set_cons_succ]) | (refine wpKind_held (v := ?_) (by rfl) rfl (by rfl) hSw ?_ ?_; rotate_left 1; (focus (intro wy hSy; have s0 : wy.cell? ⟨p0, 0, none⟩ = some (.pointer (some ⟨b, 0, none⟩)) := hSy; go_simp; try with_reducible rfl; done)); try simp only [Act.put, List.setIfInBounds_toArray, List.set_cons_zero, List.set_cons_succ]))
  refine wpKind_serial (by rfl) rfl (fun m7 => ?_)
  have y1 : (b2.drewN m7).cell? ⟨q, 2, none⟩ = some (.string ⟨#[]⟩) := Lib.cell_of_heap (show (b2.drewN m7).heap[q]? = _ from HE.out) 2
  have y2 : (b2.drewN m7).frozen? ⟨q, 2, none⟩ = false := Lib.frozen_of_heap (show (b2.drewN m7).heap[q]? = _ from HE.out) 2
  go_wp2_with fail
  clear y1 y2
  obtain ⟨b3, hw⟩ : ∃ w9, (b2.drewN m7).setCell ⟨q, 2, none⟩ (.string (ba n3)) = w9 := ⟨_, rfl⟩
  try rw [hw]
  have HO2 := Lib.hid (show SOk b L j4 X b3 by rw [← hw]; exact (HO.out.drewN m7).set HBQ.out 2 _)
  have HK2 := Lib.hid (show Keep b w b3 by rw [← hw]; exact (HK.out.drewN m7).newSet HWQ.out (Nat.le_of_lt HLT.out) 2 _)
  have HX2 := Lib.hid (show CapAt p0 b b3 by rw [← hw]; exact CapAt.set (w := b2.drewN m7) HX.out HPQ.out 2 _)
  have HE2 := Lib.hid (show b3.heap[q]? = some (.cells #[.string (ba n1), .string (ba n2), .string (ba n3), .int .i64 0] 61 (0, 0)) from by rw [← hw]; exact heap_setCell_same (b2.drewN m7) q 2 _ _ _ HE.out)
  clear HO HK HE HX
  have HO := Lib.hid HO2.out
  have HK := Lib.hid HK2.out
  have HE := Lib.hid HE2.out
  have HX := Lib.hid HX2.out
  clear HO2 HK2 HE2 HX2
  clear hw
  repeat (first | (refine wpKind_free (v := ?_) (by rfl) rfl (by rfl) ?_ ?_; rotate_left 1; (focus (intro wy; go_simp; try with_reducible rfl; done)); try simp only [Act.put, List.setIfInBounds_toArray, List.set_cons_zero, List.set_cons_succ]) | (refine wpKind_held (v := ?_) (by rfl) rfl (by rfl) hSw ?_ ?_; rotate_left 1; (focus (intro wy hSy; have s0 : wy.cell? ⟨p0, 0, none⟩ = some (.pointer (some ⟨b, 0, none⟩)) := hSy; go_simp; try with_reducible rfl; done)); try simp only [Act.put, List.setIfInBounds_toArray, List.set_cons_zero, List.set_cons_succ]))
  refine wpKind_serial (by rfl) rfl (fun m8 => ?_)
  have y1 : (b3.drewN m8).cell? ⟨q, 3, none⟩ = some (.int .i64 0) := Lib.cell_of_heap (show (b3.drewN m8).heap[q]? = _ from HE.out) 3
  have y2 : (b3.drewN m8).frozen? ⟨q, 3, none⟩ = false := Lib.frozen_of_heap (show (b3.drewN m8).heap[q]? = _ from HE.out) 3
  go_wp2_with fail
  clear y1 y2
  obtain ⟨b4, hw⟩ : ∃ w9, (b3.drewN m8).setCell ⟨q, 3, none⟩ (.int .i64 n4) = w9 := ⟨_, rfl⟩
  try rw [hw]
  have HO2 := Lib.hid (show SOk b L j4 X b4 by rw [← hw]; exact (HO.out.drewN m8).set HBQ.out 3 _)
  have HK2 := Lib.hid (show Keep b w b4 by rw [← hw]; exact (HK.out.drewN m8).newSet HWQ.out (Nat.le_of_lt HLT.out) 3 _)
  have HX2 := Lib.hid (show CapAt p0 b b4 by rw [← hw]; exact CapAt.set (w := b3.drewN m8) HX.out HPQ.out 3 _)
  have HE2 := Lib.hid (show b4.heap[q]? = some (.cells #[.string (ba n1), .string (ba n2), .string (ba n3), .int .i64 n4] 61 (0, 0)) from by rw [← hw]; exact heap_setCell_same (b3.drewN m8) q 3 _ _ _ HE.out)
  clear HO HK HE HX
  have HO := Lib.hid HO2.out
  have HK := Lib.hid HK2.out
  have HE := Lib.hid HE2.out
  have HX := Lib.hid HX2.out
  clear HO2 HK2 HE2 HX2
  clear hw
  show wpKind _ _ _ _ _ _ _ _ _
  refine wpKind_nilP fun m9 => ?_
  obtain ⟨c0, hw⟩ : ∃ w9, b4.drewN m9 = w9 := ⟨_, rfl⟩
  try rw [hw]
  have HO2 := Lib.hid (show SOk b L j4 X c0 by rw [← hw]; exact HO.out.drewN m9)
  have HK2 := Lib.hid (show Keep b w c0 by rw [← hw]; exact HK.out.drewN m9)
  have HX2 := Lib.hid (show CapAt p0 b c0 by rw [← hw]; exact HX.out)
  have HE2 := Lib.hid (show c0.heap[q]? = some (.cells #[.string (ba n1), .string (ba n2), .string (ba n3), .int .i64 n4] 61 (0, 0)) from by rw [← hw]; exact HE.out)
  clear HO HK HE HX
  have HO := Lib.hid HO2.out
  have HK := Lib.hid HK2.out
  have HE := Lib.hid HE2.out
  have HX := Lib.hid HX2.out
  clear HO2 HK2 HE2 HX2
  clear hw
  try simp only [Exit.then]
  have y0 : c0.cell? ⟨q, 0, none⟩ = some (.string (ba n1)) := Lib.cell_of_heap HE.out 0
  have y1 : c0.cell? ⟨q, 1, none⟩ = some (.string (ba n2)) := Lib.cell_of_heap HE.out 1
  have y2 : c0.cell? ⟨q, 2, none⟩ = some (.string (ba n3)) := Lib.cell_of_heap HE.out 2
  have y3 : c0.cell? ⟨q, 3, none⟩ = some (.int .i64 n4) := Lib.cell_of_heap HE.out 3
  go_wp2_with (first | (refine wpList_store_row rfl 61 _ _ rfl q #[.string (ba n1), .string (ba n2), .string (ba n3), .int .i64 n4] rfl rfl 61 #[.string (ba n1), .string (ba n2), .string (ba n3), .int .i64 n4] HE.out (by kernel_rfl) rfl (by simp [Value.oneCell']) ?_))
  refine bodyPost_ret (results_cell_row rfl _ _ q _ _ (0, 0) _ rfl (setRow_heap _ _ _ _ _ _ HE.out) Tryz.underlying61 rfl (by kernel_rfl)) rfl ?_
  exact .inl ⟨j4, rfl, rfl, HO.out.row HBQ.out _, HK.out.newRow HWQ.out (Nat.le_of_lt HLT.out) _⟩
set_option maxHeartbeats 8000000 in
set_option maxRecDepth 100000 in
theorem sdoor_any (b : Nat) (L : List TokD) (i : Nat) (X : XV) (p0 : Nat) (w : World) (h : SOk b L i X w) (hp : CapAt p0 b w) :
    Calls Tryz.prog 110 #[.pointer (some ⟨p0, 0, none⟩)] w (Got b L X w (doorRD L (rd i)).1 (.agg (dc (doorRD L (rd i)).2).toArray)) := by
  have HLT := Lib.hid h.lt
  have HO := Lib.hid h
  have HK := Lib.hid (Keep.refl b w)
  have HX := Lib.hid hp
  obtain ⟨⟨s1, n1⟩, h1⟩ : ∃ r, nameD L (rd i) = r := ⟨_, rfl⟩
  obtain ⟨⟨s2, n2⟩, h2⟩ : ∃ r, nameD L s1 = r := ⟨_, rfl⟩
  obtain ⟨⟨s3, n3⟩, h3⟩ : ∃ r, nameD L s2 = r := ⟨_, rfl⟩
  obtain ⟨⟨s4, n4⟩, h4⟩ : ∃ r, numD L s3 = r := ⟨_, rfl⟩
  obtain ⟨⟨s5, ⟨u1, u2, u3⟩⟩, h5⟩ : ∃ r, timesRD L s4 kOpen = r := ⟨_, rfl⟩
  have HRES := Lib.hid (show doorRD L (rd i) = (s5, ⟨n1, n2, n3, n4, ⟨u1, u2, u3⟩⟩) by unfold doorRD pathRD; simp only [h1, h2, h3, h4, h5])
  have HB4 := Lib.hid (show s4.e ≠ 0 → s5 = s4 from fun he => by
    have e1 : s5 = s4 := (congrArg Prod.fst h5).symm.trans (timesRD_bad he)
    exact e1)
  have HB3 := Lib.hid (show s3.e ≠ 0 → s5 = s3 from fun he => by
    have e1 : s4 = s3 := (congrArg Prod.fst h4).symm.trans (numD_bad he)
    rw [HB4.out (by rw [e1]; exact he), e1])
  have HB2 := Lib.hid (show s2.e ≠ 0 → s5 = s2 from fun he => by
    have e1 : s3 = s2 := (congrArg Prod.fst h3).symm.trans (nameD_bad he)
    rw [HB3.out (by rw [e1]; exact he), e1])
  have HB1 := Lib.hid (show s1.e ≠ 0 → s5 = s1 from fun he => by
    have e1 : s2 = s1 := (congrArg Prod.fst h2).symm.trans (nameD_bad he)
    rw [HB2.out (by rw [e1]; exact he), e1])
  have HH1 := Lib.hid h1
  have HH2 := Lib.hid h2
  have HH3 := Lib.hid h3
  have HH4 := Lib.hid h4
  have HH5 := Lib.hid h5
  rw [HRES.out]
  dsimp only [dc]
  clear h h1 h2 h3 h4 h5 hp
  go_enter Tryz.func110, Tryz.ntmps110
  go_upto_region 1 with fail
  obtain ⟨q, hq⟩ : ∃ q, w.heap.size = q := ⟨_, rfl⟩
  obtain ⟨a0, hw⟩ : ∃ w1, w.alloc (.cells #[.string ⟨#[]⟩, .string ⟨#[]⟩, .string ⟨#[]⟩, .int .i64 0, .int .i64 0, .int .i64 0, .int .i64 0] 50) = w1 := ⟨_, rfl⟩
  have hb : Below w.heap.size w a0 := by rw [← hw]; exact (Below.refl _ _).alloc (Nat.le_refl _) _
  have HE := Lib.hid (show a0.heap[q]? = some (.cells #[.string ⟨#[]⟩, .string ⟨#[]⟩, .string ⟨#[]⟩, .int .i64 0, .int .i64 0, .int .i64 0, .int .i64 0] 50 (0, 0)) by rw [← hw, ← hq]; exact heap_alloc_new _ _)
  have HBQ := Lib.hid (show b < q by rw [← hq]; exact HLT.out)
  have HWQ := Lib.hid (show w.heap.size ≤ q by rw [hq]; exact Nat.le_refl _)
  have HPQ := Lib.hid (show p0 < q by rw [← hq]; exact HX.out.lt)
  try rw [hw]
  try rw [hq]
  have HO2 := Lib.hid (HO.out.new hb)
  have HK2 := Lib.hid (HK.out.trans (Keep.of hb (Nat.le_of_lt HLT.out)))
  have HX2 := Lib.hid (HX.out.new hb)
  have HE2 := Lib.hid (show a0.heap[q]? = some (.cells #[.string ⟨#[]⟩, .string ⟨#[]⟩, .string ⟨#[]⟩, .int .i64 0, .int .i64 0, .int .i64 0, .int .i64 0] 50 (0, 0)) from HE.out)
  clear HO HK HE HX
  have HO := Lib.hid HO2.out
  have HK := Lib.hid HK2.out
  have HE := Lib.hid HE2.out
  have HX := Lib.hid HX2.out
  clear HO2 HK2 HE2 HX2
  clear hw hb hq
  have hSw : a0.cell? ⟨p0, 0, none⟩ = some (.pointer (some ⟨b, 0, none⟩)) := HX.out.cell
  refine wp_region_kindsP [] (fun c w9 => ∃ r : Rd, r.e ≠ 0 ∧ s5 = r ∧ c = give r ∧ Keep b w w9) ?_ (fun wy => wy.cell? ⟨p0, 0, none⟩ = some (.pointer (some ⟨b, 0, none⟩))) [1, 3, 5, 7] [9, 11, 13, 15] [0, 2, 4, 6] [8, 10, 12, 14] [0, 2, 4, 6, 1, 8, 3, 5, 7, 9, 10, 11, 12, 13, 14, 15] (by kernel_rfl) (by kernel_rfl) (fun w n h => h) ?_
  · rintro c a w9 hd ⟨r, he, hr, rfl, hk⟩
    refine ⟨hd, .inr ⟨?_, ?_, hk⟩⟩
    · rw [hr]; exact he
    · rw [hr]
  repeat (first | (refine wpKind_free (v := ?_) (by rfl) rfl (by rfl) ?_ ?_; rotate_left 1; (focus (intro wy; go_simp; try with_reducible rfl; done)); try simp only [Act.put, List.setIfInBounds_toArray, List.set_cons_zero, List.set_cons_succ]) | (refine wpKind_held (v := ?_) (by rfl) rfl (by rfl) hSw ?_ ?_; rotate_left 1; (focus (intro wy hSy; have s0 : wy.cell? ⟨p0, 0, none⟩ = some (.pointer (some ⟨b, 0, none⟩)) := hSy; go_simp; try with_reducible rfl; done)); try simp only [Act.put, List.setIfInBounds_toArray, List.set_cons_zero, List.set_cons_succ]))
  clear hSw
  refine wpKind_keeps (by rfl) rfl (fun m1 => ?_)
  have hc := sname_any b L i X (a0.drewN m1) (HO.out.drewN m1)
  rw [HH1.out] at hc
  dsimp only at hc
  have HCC := Lib.hid hc
  clear hc
  go_wp2_with fail
  refine got_elim HCC.out ?_ ?_
  · intro w9 he hk
    exact ⟨rfl, s1, he, HB1.out he, rfl, (HK.out.drewN m1).trans hk⟩
  rintro j1 a1 rfl ho hk
  have HO2 := Lib.hid (ho)
  have HK2 := Lib.hid ((HK.out.drewN m1).trans hk)
  have HX2 := Lib.hid (CapAt.keep (w := a0.drewN m1) HX.out hk)
  have HE2 := Lib.hid (show a1.heap[q]? = some (.cells #[.string ⟨#[]⟩, .string ⟨#[]⟩, .string ⟨#[]⟩, .int .i64 0, .int .i64 0, .int .i64 0, .int .i64 0] 50 (0, 0)) from (hk.block q (Array.getElem?_eq_some_iff.1 (show (a0.drewN m1).heap[q]? = _ from HE.out)).1 (by have := HBQ.out; omega)).trans HE.out)
  clear HO HK HE HX
  have HO := Lib.hid HO2.out
  have HK := Lib.hid HK2.out
  have HE := Lib.hid HE2.out
  have HX := Lib.hid HX2.out
  clear HO2 HK2 HE2 HX2
  clear ho hk HCC
  go_wp2_with fail
  show _ ∧ _
  refine ⟨HX.out.cell, ?_⟩
  have hSw : a1.cell? ⟨p0, 0, none⟩ = some (.pointer (some ⟨b, 0, none⟩)) := HX.out.cell
  repeat (first | (refine wpKind_free (v := ?_) (by rfl) rfl (by rfl) ?_ ?_; rotate_left 1; (focus (intro wy; go_simp; try with_reducible rfl; done)); try simp only [Act.put, List.setIfInBounds_toArray, List.set_cons_zero, List.set_cons_succ]) | (refine wpKind_held (v := ?_) (by rfl) rfl (by rfl) hSw ?_ ?_; rotate_left 1; (focus (intro wy hSy; have s0 : wy.cell? ⟨p0, 0, none⟩ = some (.pointer (some ⟨b, 0, none⟩)) := hSy; go_simp; try with_reducible rfl; done)); try simp only [Act.put, List.setIfInBounds_toArray, List.set_cons_zero, List.set_cons_succ]))
  clear hSw
  refine wpKind_keeps (by rfl) rfl (fun m2 => ?_)
  have hc := sname_any b L j1 X (a1.drewN m2) (HO.out.drewN m2)
  rw [HH2.out] at hc
  dsimp only at hc
  have HCC := Lib.hid hc
  clear hc
  go_wp2_with fail
  refine got_elim HCC.out ?_ ?_
  · intro w9 he hk
    exact ⟨rfl, s2, he, HB2.out he, rfl, (HK.out.drewN m2).trans hk⟩
  rintro j2 a2 rfl ho hk
  have HO2 := Lib.hid (ho)
  have HK2 := Lib.hid ((HK.out.drewN m2).trans hk)
  have HX2 := Lib.hid (CapAt.keep (w := a1.drewN m2) HX.out hk)
  have HE2 := Lib.hid (show a2.heap[q]? = some (.cells #[.string ⟨#[]⟩, .string ⟨#[]⟩, .string ⟨#[]⟩, .int .i64 0, .int .i64 0, .int .i64 0, .int .i64 0] 50 (0, 0)) from (hk.block q (Array.getElem?_eq_some_iff.1 (show (a1.drewN m2).heap[q]? = _ from HE.out)).1 (by have := HBQ.out; omega)).trans HE.out)
  clear HO HK HE HX
  have HO := Lib.hid HO2.out
  have HK := Lib.hid HK2.out
  have HE := Lib.hid HE2.out
  have HX := Lib.hid HX2.out
  clear HO2 HK2 HE2 HX2
  clear ho hk HCC
  go_wp2_with fail
  show _ ∧ _
  refine ⟨HX.out.cell, ?_⟩
  have hSw : a2.cell? ⟨p0, 0, none⟩ = some (.pointer (some ⟨b, 0, none⟩)) := HX.out.cell
  repeat (first | (refine wpKind_free (v := ?_) (by rfl) rfl (by rfl) ?_ ?_; rotate_left 1; (focus (intro wy; go_simp; try with_reducible rfl; done)); try simp only [Act.put, List.setIfInBounds_toArray, List.set_cons_zero, List.set_cons_succ]) | (refine wpKind_held (v := ?_) (by rfl) rfl (by rfl) hSw ?_ ?_; rotate_left 1; (focus (intro wy hSy; have s0 : wy.cell? ⟨p0, 0, none⟩ = some (.pointer (some ⟨b, 0, none⟩)) := hSy; go_simp; try with_reducible rfl; done)); try simp only [Act.put, List.setIfInBounds_toArray, List.set_cons_zero, List.set_cons_succ]))
  clear hSw
  refine wpKind_keeps (by rfl) rfl (fun m3 => ?_)
  have hc := sname_any b L j2 X (a2.drewN m3) (HO.out.drewN m3)
  rw [HH3.out] at hc
  dsimp only at hc
  have HCC := Lib.hid hc
  clear hc
  go_wp2_with fail
  refine got_elim HCC.out ?_ ?_
  · intro w9 he hk
    exact ⟨rfl, s3, he, HB3.out he, rfl, (HK.out.drewN m3).trans hk⟩
  rintro j3 a3 rfl ho hk
  have HO2 := Lib.hid (ho)
  have HK2 := Lib.hid ((HK.out.drewN m3).trans hk)
  have HX2 := Lib.hid (CapAt.keep (w := a2.drewN m3) HX.out hk)
  have HE2 := Lib.hid (show a3.heap[q]? = some (.cells #[.string ⟨#[]⟩, .string ⟨#[]⟩, .string ⟨#[]⟩, .int .i64 0, .int .i64 0, .int .i64 0, .int .i64 0] 50 (0, 0)) from (hk.block q (Array.getElem?_eq_some_iff.1 (show (a2.drewN m3).heap[q]? = _ from HE.out)).1 (by have := HBQ.out; omega)).trans HE.out)
  clear HO HK HE HX
  have HO := Lib.hid HO2.out
  have HK := Lib.hid HK2.out
  have HE := Lib.hid HE2.out
  have HX := Lib.hid HX2.out
  clear HO2 HK2 HE2 HX2
  clear ho hk HCC
  go_wp2_with fail
  show _ ∧ _
  refine ⟨HX.out.cell, ?_⟩
  have hSw : a3.cell? ⟨p0, 0, none⟩ = some (.pointer (some ⟨b, 0, none⟩)) := HX.out.cell
  repeat (first | (refine wpKind_free (v := ?_) (by rfl) rfl (by rfl) ?_ ?_; rotate_left 1; (focus (intro wy; go_simp; try with_reducible rfl; done)); try simp only [Act.put, List.setIfInBounds_toArray, List.set_cons_zero, List.set_cons_succ]) | (refine wpKind_held (v := ?_) (by rfl) rfl (by rfl) hSw ?_ ?_; rotate_left 1; (focus (intro wy hSy; have s0 : wy.cell? ⟨p0, 0, none⟩ = some (.pointer (some ⟨b, 0, none⟩)) := hSy; go_simp; try with_reducible rfl; done)); try simp only [Act.put, List.setIfInBounds_toArray, List.set_cons_zero, List.set_cons_succ]))
  clear hSw
  refine wpKind_keeps (by rfl) rfl (fun m4 => ?_)
  have hc := snum_any b L j3 X (a3.drewN m4) (HO.out.drewN m4)
  rw [HH4.out] at hc
  dsimp only at hc
  have HCC := Lib.hid hc
  clear hc
  go_wp2_with fail
  refine got_elim HCC.out ?_ ?_
  · intro w9 he hk
    exact ⟨rfl, s4, he, HB4.out he, rfl, (HK.out.drewN m4).trans hk⟩
  rintro j4 a4 rfl ho hk
  have HO2 := Lib.hid (ho)
  have HK2 := Lib.hid ((HK.out.drewN m4).trans hk)
  have HX2 := Lib.hid (CapAt.keep (w := a3.drewN m4) HX.out hk)
  have HE2 := Lib.hid (show a4.heap[q]? = some (.cells #[.string ⟨#[]⟩, .string ⟨#[]⟩, .string ⟨#[]⟩, .int .i64 0, .int .i64 0, .int .i64 0, .int .i64 0] 50 (0, 0)) from (hk.block q (Array.getElem?_eq_some_iff.1 (show (a3.drewN m4).heap[q]? = _ from HE.out)).1 (by have := HBQ.out; omega)).trans HE.out)
  clear HO HK HE HX
  have HO := Lib.hid HO2.out
  have HK := Lib.hid HK2.out
  have HE := Lib.hid HE2.out
  have HX := Lib.hid HX2.out
  clear HO2 HK2 HE2 HX2
  clear ho hk HCC
  go_wp2_with fail
  show _ ∧ _
  refine ⟨HX.out.cell, ?_⟩
  have hSw : a4.cell? ⟨p0, 0, none⟩ = some (.pointer (some ⟨b, 0, none⟩)) := HX.out.cell
  repeat (first | (refine wpKind_free (v := ?_) (by rfl) rfl (by rfl) ?_ ?_; rotate_left 1; (focus (intro wy; go_simp; try with_reducible rfl; done)); try simp only [Act.put, List.setIfInBounds_toArray, List.set_cons_zero, List.set_cons_succ]) | (refine wpKind_held (v := ?_) (by rfl) rfl (by rfl) hSw ?_ ?_; rotate_left 1; (focus (intro wy hSy; have s0 : wy.cell? ⟨p0, 0, none⟩ = some (.pointer (some ⟨b, 0, none⟩)) := hSy; go_simp; try with_reducible rfl; done)); try simp only [Act.put, List.setIfInBounds_toArray, List.set_cons_zero, List.set_cons_succ]))
  clear hSw
  refine wpKind_serial (by rfl) rfl (fun m5 => ?_)
  have y1 : (a4.drewN m5).cell? ⟨q, 0, none⟩ = some (.string ⟨#[]⟩) := Lib.cell_of_heap (show (a4.drewN m5).heap[q]? = _ from HE.out) 0
  have y2 : (a4.drewN m5).frozen? ⟨q, 0, none⟩ = false := Lib.frozen_of_heap (show (a4.drewN m5).heap[q]? = _ from HE.out) 0
  go_wp2_with fail
  clear y1 y2
  obtain ⟨b1, hw⟩ : ∃ w9, (a4.drewN m5).setCell ⟨q, 0, none⟩ (.string (ba n1)) = w9 := ⟨_, rfl⟩
  try rw [hw]
  have HO2 := Lib.hid (show SOk b L j4 X b1 by rw [← hw]; exact (HO.out.drewN m5).set HBQ.out 0 _)
  have HK2 := Lib.hid (show Keep b w b1 by rw [← hw]; exact (HK.out.drewN m5).newSet HWQ.out (Nat.le_of_lt HLT.out) 0 _)
  have HX2 := Lib.hid (show CapAt p0 b b1 by rw [← hw]; exact CapAt.set (w := a4.drewN m5) HX.out HPQ.out 0 _)
  have HE2 := Lib.hid (show b1.heap[q]? = some (.cells #[.string (ba n1), .string ⟨#[]⟩, .string ⟨#[]⟩, .int .i64 0, .int .i64 0, .int .i64 0, .int .i64 0] 50 (0, 0)) from by rw [← hw]; exact heap_setCell_same (a4.drewN m5) q 0 _ _ _ HE.out)
  clear HO HK HE HX
  have HO := Lib.hid HO2.out
  have HK := Lib.hid HK2.out
  have HE := Lib.hid HE2.out
  have HX := Lib.hid HX2.out
  clear HO2 HK2 HE2 HX2
  clear hw
  repeat (first | (refine wpKind_free (v := ?_) (by rfl) rfl (by rfl) ?_ ?_; rotate_left 1; (focus (intro wy; go_simp; try with_reducible rfl; done)); try simp only [Act.put, List.setIfInBounds_toArray, List.set_cons_zero, List.set_cons_succ]) | (refine wpKind_held (v := ?_) (by rfl) rfl (by rfl) hSw ?_ ?_; rotate_left 1; (focus (intro wy hSy; have s0 : wy.cell? ⟨p0, 0, none⟩ = some (.pointer (some ⟨b, 0, none⟩)) := hSy; go_simp; try with_reducible rfl; done)); try simp only [Act.put, List.setIfInBounds_toArray, List.set_cons_zero, List.set_cons_succ]))
  refine wpKind_serial (by rfl) rfl (fun m6 => ?_)
  have y1 : (b1.drewN m6).cell? ⟨q, 1, none⟩ = some (.string ⟨#[]⟩) := Lib.cell_of_heap (show (b1.drewN m6).heap[q]? = _ from HE.out) 1
  have y2 : (b1.drewN m6).frozen? ⟨q, 1, none⟩ = false := Lib.frozen_of_heap (show (b1.drewN m6).heap[q]? = _ from HE.out) 1
  go_wp2_with fail
  clear y1 y2
  obtain ⟨b2, hw⟩ : ∃ w9, (b1.drewN m6).setCell ⟨q, 1, none⟩ (.string (ba n2)) = w9 := ⟨_, rfl⟩
  try rw [hw]
  have HO2 := Lib.hid (show SOk b L j4 X b2 by rw [← hw]; exact (HO.out.drewN m6).set HBQ.out 1 _)
  have HK2 := Lib.hid (show Keep b w b2 by rw [← hw]; exact (HK.out.drewN m6).newSet HWQ.out (Nat.le_of_lt HLT.out) 1 _)
  have HX2 := Lib.hid (show CapAt p0 b b2 by rw [← hw]; exact CapAt.set (w := b1.drewN m6) HX.out HPQ.out 1 _)
  have HE2 := Lib.hid (show b2.heap[q]? = some (.cells #[.string (ba n1), .string (ba n2), .string ⟨#[]⟩, .int .i64 0, .int .i64 0, .int .i64 0, .int .i64 0] 50 (0, 0)) from by rw [← hw]; exact heap_setCell_same (b1.drewN m6) q 1 _ _ _ HE.out)
  clear HO HK HE HX
  have HO := Lib.hid HO2.out
  have HK := Lib.hid HK2.out
  have HE := Lib.hid HE2.out
  have HX := Lib.hid HX2.out
  clear HO2 HK2 HE2 HX2
  clear hw
  repeat (first | (refine wpKind_free (v := ?_) (by rfl) rfl (by rfl) ?_ ?_; rotate_left 1; (focus (intro wy; go_simp; try with_reducible rfl; done)); try simp only [Act.put, List.setIfInBounds_toArray, List.set_cons_zero, List.set_cons_succ]) | (refine wpKind_held (v := ?_) (by rfl) rfl (by rfl) hSw ?_ ?_; rotate_left 1; (focus (intro wy hSy; have s0 : wy.cell? ⟨p0, 0, none⟩ = some (.pointer (some ⟨b, 0, none⟩)) := hSy; go_simp; try with_reducible rfl; done)); try simp only [Act.put, List.setIfInBounds_toArray, List.set_cons_zero, List.set_cons_succ]))
  refine wpKind_serial (by rfl) rfl (fun m7 => ?_)
  have y1 : (b2.drewN m7).cell? ⟨q, 2, none⟩ = some (.string ⟨#[]⟩) := Lib.cell_of_heap (show (b2.drewN m7).heap[q]? = _ from HE.out) 2
  have y2 : (b2.drewN m7).frozen? ⟨q, 2, none⟩ = false := Lib.frozen_of_heap (show (b2.drewN m7).heap[q]? = _ from HE.out) 2
  go_wp2_with fail
  clear y1 y2
  obtain ⟨b3, hw⟩ : ∃ w9, (b2.drewN m7).setCell ⟨q, 2, none⟩ (.string (ba n3)) = w9 := ⟨_, rfl⟩
  try rw [hw]
  have HO2 := Lib.hid (show SOk b L j4 X b3 by rw [← hw]; exact (HO.out.drewN m7).set HBQ.out 2 _)
  have HK2 := Lib.hid (show Keep b w b3 by rw [← hw]; exact (HK.out.drewN m7).newSet HWQ.out (Nat.le_of_lt HLT.out) 2 _)
  have HX2 := Lib.hid (show CapAt p0 b b3 by rw [← hw]; exact CapAt.set (w := b2.drewN m7) HX.out HPQ.out 2 _)
  have HE2 := Lib.hid (show b3.heap[q]? = some (.cells #[.string (ba n1), .string (ba n2), .string (ba n3), .int .i64 0, .int .i64 0, .int .i64 0, .int .i64 0] 50 (0, 0)) from by rw [← hw]; exact heap_setCell_same (b2.drewN m7) q 2 _ _ _ HE.out)
  clear HO HK HE HX
  have HO := Lib.hid HO2.out
  have HK := Lib.hid HK2.out
  have HE := Lib.hid HE2.out
  have HX := Lib.hid HX2.out
  clear HO2 HK2 HE2 HX2
  clear hw
  repeat (first | (refine wpKind_free (v := ?_) (by rfl) rfl (by rfl) ?_ ?_; rotate_left 1; (focus (intro wy; go_simp; try with_reducible rfl; done)); try simp only [Act.put, List.setIfInBounds_toArray, List.set_cons_zero, List.set_cons_succ]) | (refine wpKind_held (v := ?_) (by rfl) rfl (by rfl) hSw ?_ ?_; rotate_left 1; (focus (intro wy hSy; have s0 : wy.cell? ⟨p0, 0, none⟩ = some (.pointer (some ⟨b, 0, none⟩)) := hSy; go_simp; try with_reducible rfl; done)); try simp only [Act.put, List.setIfInBounds_toArray, List.set_cons_zero, List.set_cons_succ]))
  refine wpKind_serial (by rfl) rfl (fun m8 => ?_)
  have y1 : (b3.drewN m8).cell? ⟨q, 3, none⟩ = some (.int .i64 0) := Lib.cell_of_heap (show (b3.drewN m8).heap[q]? = _ from HE.out) 3
  have y2 : (b3.drewN m8).frozen? ⟨q, 3, none⟩ = false := Lib.frozen_of_heap (show (b3.drewN m8).heap[q]? = _ from HE.out) 3
  go_wp2_with fail
  clear y1 y2
  obtain ⟨b4, hw⟩ : ∃ w9, (b3.drewN m8).setCell ⟨q, 3, none⟩ (.int .i64 n4) = w9 := ⟨_, rfl⟩
  try rw [hw]
  have HO2 := Lib.hid (show SOk b L j4 X b4 by rw [← hw]; exact (HO.out.drewN m8).set HBQ.out 3 _)
  have HK2 := Lib.hid (show Keep b w b4 by rw [← hw]; exact (HK.out.drewN m8).newSet HWQ.out (Nat.le_of_lt HLT.out) 3 _)
  have HX2 := Lib.hid (show CapAt p0 b b4 by rw [← hw]; exact CapAt.set (w := b3.drewN m8) HX.out HPQ.out 3 _)
  have HE2 := Lib.hid (show b4.heap[q]? = some (.cells #[.string (ba n1), .string (ba n2), .string (ba n3), .int .i64 n4, .int .i64 0, .int .i64 0, .int .i64 0] 50 (0, 0)) from by rw [← hw]; exact heap_setCell_same (b3.drewN m8) q 3 _ _ _ HE.out)
  clear HO HK HE HX
  have HO := Lib.hid HO2.out
  have HK := Lib.hid HK2.out
  have HE := Lib.hid HE2.out
  have HX := Lib.hid HX2.out
  clear HO2 HK2 HE2 HX2
  clear hw
  show wpKind _ _ _ _ _ _ _ _ _
  refine wpKind_nilP fun m9 => ?_
  obtain ⟨c0, hw⟩ : ∃ w9, b4.drewN m9 = w9 := ⟨_, rfl⟩
  try rw [hw]
  have HO2 := Lib.hid (show SOk b L j4 X c0 by rw [← hw]; exact HO.out.drewN m9)
  have HK2 := Lib.hid (show Keep b w c0 by rw [← hw]; exact HK.out.drewN m9)
  have HX2 := Lib.hid (show CapAt p0 b c0 by rw [← hw]; exact HX.out)
  have HE2 := Lib.hid (show c0.heap[q]? = some (.cells #[.string (ba n1), .string (ba n2), .string (ba n3), .int .i64 n4, .int .i64 0, .int .i64 0, .int .i64 0] 50 (0, 0)) from by rw [← hw]; exact HE.out)
  clear HO HK HE HX
  have HO := Lib.hid HO2.out
  have HK := Lib.hid HK2.out
  have HE := Lib.hid HE2.out
  have HX := Lib.hid HX2.out
  clear HO2 HK2 HE2 HX2
  clear hw
  try simp only [Exit.then]
  have hc := stimes_any b L j4 X kOpen c0 HO.out
  rw [HH5.out] at hc
  dsimp only [tc] at hc
  rw [show ba kOpen = ⟨#[111, 112, 101, 110]⟩ from rfl] at hc
  have HCC := Lib.hid hc
  clear hc
  have x0 := HX.out.cell
  go_wp2_with fail
  refine got_elim HCC.out ?_ ?_
  · intro w9 he hk
    exact ⟨rfl, .inr ⟨he, rfl, HK.out.trans hk⟩⟩
  rintro j5 d5 rfl ho hk
  have HO2 := Lib.hid (ho)
  have HK2 := Lib.hid (HK.out.trans hk)
  have HX2 := Lib.hid (HX.out.keep hk)
  have HE2 := Lib.hid (show d5.heap[q]? = some (.cells #[.string (ba n1), .string (ba n2), .string (ba n3), .int .i64 n4, .int .i64 0, .int .i64 0, .int .i64 0] 50 (0, 0)) from (hk.block q (Array.getElem?_eq_some_iff.1 HE.out).1 (by have := HBQ.out; omega)).trans HE.out)
  clear HO HK HE HX
  have HO := Lib.hid HO2.out
  have HK := Lib.hid HK2.out
  have HE := Lib.hid HE2.out
  have HX := Lib.hid HX2.out
  clear HO2 HK2 HE2 HX2
  clear ho hk HCC x0
  have y1 : d5.cell? ⟨q, 4, none⟩ = some (.int .i64 0) := Lib.cell_of_heap HE.out 4
  have y2 : d5.frozen? ⟨q, 4, none⟩ = false := Lib.frozen_of_heap HE.out 4
  have y3 : d5.cell? ⟨q, 5, none⟩ = some (.int .i64 0) := Lib.cell_of_heap HE.out 5
  have y4 : d5.frozen? ⟨q, 5, none⟩ = false := Lib.frozen_of_heap HE.out 5
  have y5 : d5.cell? ⟨q, 6, none⟩ = some (.int .i64 0) := Lib.cell_of_heap HE.out 6
  have y6 : d5.frozen? ⟨q, 6, none⟩ = false := Lib.frozen_of_heap HE.out 6
  go_upto_region 3 with fail
  clear y1 y2 y3 y4 y5 y6
  obtain ⟨e5, hw⟩ : ∃ w9, ((d5.setCell ⟨q, 4, none⟩ (.int .i64 u1)).setCell ⟨q, 5, none⟩ (.int .i64 u2)).setCell ⟨q, 6, none⟩ (.int .i64 u3) = w9 := ⟨_, rfl⟩
  have HO2 := Lib.hid (show SOk b L j5 X e5 by rw [← hw]; exact (((HO.out).set HBQ.out 4 _).set HBQ.out 5 _).set HBQ.out 6 _)
  have HK2 := Lib.hid (show Keep b w e5 by rw [← hw]; exact (((HK.out).newSet HWQ.out (Nat.le_of_lt HLT.out) 4 _).newSet HWQ.out (Nat.le_of_lt HLT.out) 5 _).newSet HWQ.out (Nat.le_of_lt HLT.out) 6 _)
  have HX2 := Lib.hid (show CapAt p0 b e5 by rw [← hw]; exact (((HX.out).set HPQ.out 4 _).set HPQ.out 5 _).set HPQ.out 6 _)
  have HE2 := Lib.hid (show e5.heap[q]? = some (.cells #[.string (ba n1), .string (ba n2), .string (ba n3), .int .i64 n4, .int .i64 u1, .int .i64 u2, .int .i64 u3] 50 (0, 0)) from by rw [← hw]; exact heap_setCell_same _ q 6 _ _ _ (heap_setCell_same _ q 5 _ _ _ (heap_setCell_same _ q 4 _ _ _ (HE.out))))
  clear HO HK HE HX
  have HO := Lib.hid HO2.out
  have HK := Lib.hid HK2.out
  have HE := Lib.hid HE2.out
  have HX := Lib.hid HX2.out
  clear HO2 HK2 HE2 HX2
  try rw [hw]
  clear hw
  have y0 : e5.cell? ⟨q, 0, none⟩ = some (.string (ba n1)) := Lib.cell_of_heap HE.out 0
  have y1 : e5.cell? ⟨q, 1, none⟩ = some (.string (ba n2)) := Lib.cell_of_heap HE.out 1
  have y2 : e5.cell? ⟨q, 2, none⟩ = some (.string (ba n3)) := Lib.cell_of_heap HE.out 2
  have y3 : e5.cell? ⟨q, 3, none⟩ = some (.int .i64 n4) := Lib.cell_of_heap HE.out 3
  have y4 : e5.cell? ⟨q, 4, none⟩ = some (.int .i64 u1) := Lib.cell_of_heap HE.out 4
  have y5 : e5.cell? ⟨q, 5, none⟩ = some (.int .i64 u2) := Lib.cell_of_heap HE.out 5
  have y6 : e5.cell? ⟨q, 6, none⟩ = some (.int .i64 u3) := Lib.cell_of_heap HE.out 6
  go_wp2_with (first | (refine wpList_store_row rfl 50 _ _ rfl q #[.string (ba n1), .string (ba n2), .string (ba n3), .int .i64 n4, .int .i64 u1, .int .i64 u2, .int .i64 u3] rfl rfl 50 #[.string (ba n1), .string (ba n2), .string (ba n3), .int .i64 n4, .int .i64 u1, .int .i64 u2, .int .i64 u3] HE.out (by kernel_rfl) rfl (by simp [Value.oneCell']) ?_))
  refine bodyPost_ret (results_cell_row rfl _ _ q _ _ (0, 0) _ rfl (setRow_heap _ _ _ _ _ _ HE.out) Tryz.underlying50 rfl (by kernel_rfl)) rfl ?_
  exact .inl ⟨j5, rfl, rfl, HO.out.row HBQ.out _, HK.out.newRow HWQ.out (Nat.le_of_lt HLT.out) _⟩
set_option maxHeartbeats 8000000 in
set_option maxRecDepth 100000 in
theorem strip_any (b : Nat) (L : List TokD) (i : Nat) (X : XV) (p0 : Nat) (w : World) (h : SOk b L i X w) (hp : CapAt p0 b w) :
    Calls Tryz.prog 115 #[.pointer (some ⟨p0, 0, none⟩)] w (Got b L X w (tripRD L (rd i)).1 (.agg (trc (tripRD L (rd i)).2).toArray)) := by
  have HLT := Lib.hid h.lt
  have HO := Lib.hid h
  have HK := Lib.hid (Keep.refl b w)
  have HX := Lib.hid hp
  obtain ⟨⟨s1, n1⟩, h1⟩ : ∃ r, nameD L (rd i) = r := ⟨_, rfl⟩
  obtain ⟨s2, h2⟩ : ∃ r, keyD L s1 kOf = r := ⟨_, rfl⟩
  obtain ⟨⟨s3, n3⟩, h3⟩ : ∃ r, nameD L s2 = r := ⟨_, rfl⟩
  obtain ⟨⟨s4, n4⟩, h4⟩ : ∃ r, afterD L s3 kFrom = r := ⟨_, rfl⟩
  obtain ⟨⟨s5, n5⟩, h5⟩ : ∃ r, afterD L s4 kEvery = r := ⟨_, rfl⟩
  obtain ⟨⟨s6, n6⟩, h6⟩ : ∃ r, afterD L s5 kUntil = r := ⟨_, rfl⟩
  have HRES := Lib.hid (show tripRD L (rd i) = (s6, ⟨n1, n3, n4, n5, n6⟩) by unfold tripRD; simp only [h1, h2, h3, h4, h5, h6])
  have HB5 := Lib.hid (show s5.e ≠ 0 → s6 = s5 from fun he => by
    have e1 : s6 = s5 := (congrArg Prod.fst h6).symm.trans (afterD_bad he)
    exact e1)
  have HB4 := Lib.hid (show s4.e ≠ 0 → s6 = s4 from fun he => by
    have e1 : s5 = s4 := (congrArg Prod.fst h5).symm.trans (afterD_bad he)
    rw [HB5.out (by rw [e1]; exact he), e1])
  have HB3 := Lib.hid (show s3.e ≠ 0 → s6 = s3 from fun he => by
    have e1 : s4 = s3 := (congrArg Prod.fst h4).symm.trans (afterD_bad he)
    rw [HB4.out (by rw [e1]; exact he), e1])
  have HB2 := Lib.hid (show s2.e ≠ 0 → s6 = s2 from fun he => by
    have e1 : s3 = s2 := (congrArg Prod.fst h3).symm.trans (nameD_bad he)
    rw [HB3.out (by rw [e1]; exact he), e1])
  have HB1 := Lib.hid (show s1.e ≠ 0 → s6 = s1 from fun he => by
    have e1 : s2 = s1 := h2.symm.trans (keyD_bad he)
    rw [HB2.out (by rw [e1]; exact he), e1])
  have HH1 := Lib.hid h1
  have HH2 := Lib.hid h2
  have HH3 := Lib.hid h3
  have HH4 := Lib.hid h4
  have HH5 := Lib.hid h5
  have HH6 := Lib.hid h6
  rw [HRES.out]
  dsimp only [trc]
  clear h h1 h2 h3 h4 h5 h6 hp
  go_enter Tryz.func115, Tryz.ntmps115
  go_upto_region 1 with fail
  obtain ⟨q, hq⟩ : ∃ q, w.heap.size = q := ⟨_, rfl⟩
  obtain ⟨a0, hw⟩ : ∃ w1, w.alloc (.cells #[.string ⟨#[]⟩, .string ⟨#[]⟩, .int .i64 0, .int .i64 0, .int .i64 0] 52) = w1 := ⟨_, rfl⟩
  have hb : Below w.heap.size w a0 := by rw [← hw]; exact (Below.refl _ _).alloc (Nat.le_refl _) _
  have HE := Lib.hid (show a0.heap[q]? = some (.cells #[.string ⟨#[]⟩, .string ⟨#[]⟩, .int .i64 0, .int .i64 0, .int .i64 0] 52 (0, 0)) by rw [← hw, ← hq]; exact heap_alloc_new _ _)
  have HBQ := Lib.hid (show b < q by rw [← hq]; exact HLT.out)
  have HWQ := Lib.hid (show w.heap.size ≤ q by rw [hq]; exact Nat.le_refl _)
  have HPQ := Lib.hid (show p0 < q by rw [← hq]; exact HX.out.lt)
  try rw [hw]
  try rw [hq]
  have HO2 := Lib.hid (HO.out.new hb)
  have HK2 := Lib.hid (HK.out.trans (Keep.of hb (Nat.le_of_lt HLT.out)))
  have HX2 := Lib.hid (HX.out.new hb)
  have HE2 := Lib.hid (show a0.heap[q]? = some (.cells #[.string ⟨#[]⟩, .string ⟨#[]⟩, .int .i64 0, .int .i64 0, .int .i64 0] 52 (0, 0)) from HE.out)
  clear HO HK HE HX
  have HO := Lib.hid HO2.out
  have HK := Lib.hid HK2.out
  have HE := Lib.hid HE2.out
  have HX := Lib.hid HX2.out
  clear HO2 HK2 HE2 HX2
  clear hw hb hq
  try simp only [Exit.then]
  have hc := sname_any b L i X a0 HO.out
  rw [HH1.out] at hc
  dsimp only at hc
  have HCC := Lib.hid hc
  clear hc
  have x0 := HX.out.cell
  go_wp2_with fail
  refine got_elim HCC.out ?_ ?_
  · intro w9 he hk
    have hb := HB1.out he
    exact ⟨rfl, .inr ⟨by rw [hb]; exact he, by rw [hb], HK.out.trans hk⟩⟩
  rintro j1 d1 rfl ho hk
  have HO2 := Lib.hid (ho)
  have HK2 := Lib.hid (HK.out.trans hk)
  have HX2 := Lib.hid (HX.out.keep hk)
  have HE2 := Lib.hid (show d1.heap[q]? = some (.cells #[.string ⟨#[]⟩, .string ⟨#[]⟩, .int .i64 0, .int .i64 0, .int .i64 0] 52 (0, 0)) from (hk.block q (Array.getElem?_eq_some_iff.1 HE.out).1 (by have := HBQ.out; omega)).trans HE.out)
  clear HO HK HE HX
  have HO := Lib.hid HO2.out
  have HK := Lib.hid HK2.out
  have HE := Lib.hid HE2.out
  have HX := Lib.hid HX2.out
  clear HO2 HK2 HE2 HX2
  clear ho hk HCC x0
  have y1 : d1.cell? ⟨q, 0, none⟩ = some (.string ⟨#[]⟩) := Lib.cell_of_heap HE.out 0
  have y2 : d1.frozen? ⟨q, 0, none⟩ = false := Lib.frozen_of_heap HE.out 0
  go_upto_region 2 with fail
  clear y1 y2
  obtain ⟨e1, hw⟩ : ∃ w9, d1.setCell ⟨q, 0, none⟩ (.string (ba n1)) = w9 := ⟨_, rfl⟩
  have HO2 := Lib.hid (show SOk b L j1 X e1 by rw [← hw]; exact (HO.out).set HBQ.out 0 _)
  have HK2 := Lib.hid (show Keep b w e1 by rw [← hw]; exact (HK.out).newSet HWQ.out (Nat.le_of_lt HLT.out) 0 _)
  have HX2 := Lib.hid (show CapAt p0 b e1 by rw [← hw]; exact (HX.out).set HPQ.out 0 _)
  have HE2 := Lib.hid (show e1.heap[q]? = some (.cells #[.string (ba n1), .string ⟨#[]⟩, .int .i64 0, .int .i64 0, .int .i64 0] 52 (0, 0)) from by rw [← hw]; exact heap_setCell_same _ q 0 _ _ _ (HE.out))
  clear HO HK HE HX
  have HO := Lib.hid HO2.out
  have HK := Lib.hid HK2.out
  have HE := Lib.hid HE2.out
  have HX := Lib.hid HX2.out
  clear HO2 HK2 HE2 HX2
  try rw [hw]
  clear hw
  have hc := skey_any b L j1 X kOf e1 HO.out
  rw [HH2.out] at hc
  rw [show ba kOf = ⟨#[111, 102]⟩ from rfl] at hc
  have HCC := Lib.hid hc
  clear hc
  have x0 := HX.out.cell
  go_wp2_with fail
  refine got_elim HCC.out ?_ ?_
  · intro w9 he hk
    have hb := HB2.out he
    exact ⟨rfl, .inr ⟨by rw [hb]; exact he, by rw [hb], HK.out.trans hk⟩⟩
  rintro j2 d2 rfl ho hk
  have HO2 := Lib.hid (ho)
  have HK2 := Lib.hid (HK.out.trans hk)
  have HX2 := Lib.hid (HX.out.keep hk)
  have HE2 := Lib.hid (show d2.heap[q]? = some (.cells #[.string (ba n1), .string ⟨#[]⟩, .int .i64 0, .int .i64 0, .int .i64 0] 52 (0, 0)) from (hk.block q (Array.getElem?_eq_some_iff.1 HE.out).1 (by have := HBQ.out; omega)).trans HE.out)
  clear HO HK HE HX
  have HO := Lib.hid HO2.out
  have HK := Lib.hid HK2.out
  have HE := Lib.hid HE2.out
  have HX := Lib.hid HX2.out
  clear HO2 HK2 HE2 HX2
  clear ho hk HCC x0
  have hc := sname_any b L j2 X d2 HO.out
  rw [HH3.out] at hc
  dsimp only at hc
  have HCC := Lib.hid hc
  clear hc
  have x0 := HX.out.cell
  go_wp2_with fail
  refine got_elim HCC.out ?_ ?_
  · intro w9 he hk
    have hb := HB3.out he
    exact ⟨rfl, .inr ⟨by rw [hb]; exact he, by rw [hb], HK.out.trans hk⟩⟩
  rintro j3 d3 rfl ho hk
  have HO2 := Lib.hid (ho)
  have HK2 := Lib.hid (HK.out.trans hk)
  have HX2 := Lib.hid (HX.out.keep hk)
  have HE2 := Lib.hid (show d3.heap[q]? = some (.cells #[.string (ba n1), .string ⟨#[]⟩, .int .i64 0, .int .i64 0, .int .i64 0] 52 (0, 0)) from (hk.block q (Array.getElem?_eq_some_iff.1 HE.out).1 (by have := HBQ.out; omega)).trans HE.out)
  clear HO HK HE HX
  have HO := Lib.hid HO2.out
  have HK := Lib.hid HK2.out
  have HE := Lib.hid HE2.out
  have HX := Lib.hid HX2.out
  clear HO2 HK2 HE2 HX2
  clear ho hk HCC x0
  have y1 : d3.cell? ⟨q, 1, none⟩ = some (.string ⟨#[]⟩) := Lib.cell_of_heap HE.out 1
  have y2 : d3.frozen? ⟨q, 1, none⟩ = false := Lib.frozen_of_heap HE.out 1
  go_upto_region 4 with fail
  clear y1 y2
  obtain ⟨e3, hw⟩ : ∃ w9, d3.setCell ⟨q, 1, none⟩ (.string (ba n3)) = w9 := ⟨_, rfl⟩
  have HO2 := Lib.hid (show SOk b L j3 X e3 by rw [← hw]; exact (HO.out).set HBQ.out 1 _)
  have HK2 := Lib.hid (show Keep b w e3 by rw [← hw]; exact (HK.out).newSet HWQ.out (Nat.le_of_lt HLT.out) 1 _)
  have HX2 := Lib.hid (show CapAt p0 b e3 by rw [← hw]; exact (HX.out).set HPQ.out 1 _)
  have HE2 := Lib.hid (show e3.heap[q]? = some (.cells #[.string (ba n1), .string (ba n3), .int .i64 0, .int .i64 0, .int .i64 0] 52 (0, 0)) from by rw [← hw]; exact heap_setCell_same _ q 1 _ _ _ (HE.out))
  clear HO HK HE HX
  have HO := Lib.hid HO2.out
  have HK := Lib.hid HK2.out
  have HE := Lib.hid HE2.out
  have HX := Lib.hid HX2.out
  clear HO2 HK2 HE2 HX2
  try rw [hw]
  clear hw
  have hc := sbehind_any b L j3 X kFrom e3 HO.out
  rw [HH4.out] at hc
  dsimp only at hc
  rw [show ba kFrom = ⟨#[102, 114, 111, 109]⟩ from rfl] at hc
  have HCC := Lib.hid hc
  clear hc
  have x0 := HX.out.cell
  go_wp2_with fail
  refine got_elim HCC.out ?_ ?_
  · intro w9 he hk
    have hb := HB4.out he
    exact ⟨rfl, .inr ⟨by rw [hb]; exact he, by rw [hb], HK.out.trans hk⟩⟩
  rintro j4 d4 rfl ho hk
  have HO2 := Lib.hid (ho)
  have HK2 := Lib.hid (HK.out.trans hk)
  have HX2 := Lib.hid (HX.out.keep hk)
  have HE2 := Lib.hid (show d4.heap[q]? = some (.cells #[.string (ba n1), .string (ba n3), .int .i64 0, .int .i64 0, .int .i64 0] 52 (0, 0)) from (hk.block q (Array.getElem?_eq_some_iff.1 HE.out).1 (by have := HBQ.out; omega)).trans HE.out)
  clear HO HK HE HX
  have HO := Lib.hid HO2.out
  have HK := Lib.hid HK2.out
  have HE := Lib.hid HE2.out
  have HX := Lib.hid HX2.out
  clear HO2 HK2 HE2 HX2
  clear ho hk HCC x0
  have y1 : d4.cell? ⟨q, 2, none⟩ = some (.int .i64 0) := Lib.cell_of_heap HE.out 2
  have y2 : d4.frozen? ⟨q, 2, none⟩ = false := Lib.frozen_of_heap HE.out 2
  go_upto_region 5 with fail
  clear y1 y2
  obtain ⟨e4, hw⟩ : ∃ w9, d4.setCell ⟨q, 2, none⟩ (.int .i64 n4) = w9 := ⟨_, rfl⟩
  have HO2 := Lib.hid (show SOk b L j4 X e4 by rw [← hw]; exact (HO.out).set HBQ.out 2 _)
  have HK2 := Lib.hid (show Keep b w e4 by rw [← hw]; exact (HK.out).newSet HWQ.out (Nat.le_of_lt HLT.out) 2 _)
  have HX2 := Lib.hid (show CapAt p0 b e4 by rw [← hw]; exact (HX.out).set HPQ.out 2 _)
  have HE2 := Lib.hid (show e4.heap[q]? = some (.cells #[.string (ba n1), .string (ba n3), .int .i64 n4, .int .i64 0, .int .i64 0] 52 (0, 0)) from by rw [← hw]; exact heap_setCell_same _ q 2 _ _ _ (HE.out))
  clear HO HK HE HX
  have HO := Lib.hid HO2.out
  have HK := Lib.hid HK2.out
  have HE := Lib.hid HE2.out
  have HX := Lib.hid HX2.out
  clear HO2 HK2 HE2 HX2
  try rw [hw]
  clear hw
  have hc := sbehind_any b L j4 X kEvery e4 HO.out
  rw [HH5.out] at hc
  dsimp only at hc
  rw [show ba kEvery = ⟨#[101, 118, 101, 114, 121]⟩ from rfl] at hc
  have HCC := Lib.hid hc
  clear hc
  have x0 := HX.out.cell
  go_wp2_with fail
  refine got_elim HCC.out ?_ ?_
  · intro w9 he hk
    have hb := HB5.out he
    exact ⟨rfl, .inr ⟨by rw [hb]; exact he, by rw [hb], HK.out.trans hk⟩⟩
  rintro j5 d5 rfl ho hk
  have HO2 := Lib.hid (ho)
  have HK2 := Lib.hid (HK.out.trans hk)
  have HX2 := Lib.hid (HX.out.keep hk)
  have HE2 := Lib.hid (show d5.heap[q]? = some (.cells #[.string (ba n1), .string (ba n3), .int .i64 n4, .int .i64 0, .int .i64 0] 52 (0, 0)) from (hk.block q (Array.getElem?_eq_some_iff.1 HE.out).1 (by have := HBQ.out; omega)).trans HE.out)
  clear HO HK HE HX
  have HO := Lib.hid HO2.out
  have HK := Lib.hid HK2.out
  have HE := Lib.hid HE2.out
  have HX := Lib.hid HX2.out
  clear HO2 HK2 HE2 HX2
  clear ho hk HCC x0
  have y1 : d5.cell? ⟨q, 3, none⟩ = some (.int .i64 0) := Lib.cell_of_heap HE.out 3
  have y2 : d5.frozen? ⟨q, 3, none⟩ = false := Lib.frozen_of_heap HE.out 3
  go_upto_region 6 with fail
  clear y1 y2
  obtain ⟨e5, hw⟩ : ∃ w9, d5.setCell ⟨q, 3, none⟩ (.int .i64 n5) = w9 := ⟨_, rfl⟩
  have HO2 := Lib.hid (show SOk b L j5 X e5 by rw [← hw]; exact (HO.out).set HBQ.out 3 _)
  have HK2 := Lib.hid (show Keep b w e5 by rw [← hw]; exact (HK.out).newSet HWQ.out (Nat.le_of_lt HLT.out) 3 _)
  have HX2 := Lib.hid (show CapAt p0 b e5 by rw [← hw]; exact (HX.out).set HPQ.out 3 _)
  have HE2 := Lib.hid (show e5.heap[q]? = some (.cells #[.string (ba n1), .string (ba n3), .int .i64 n4, .int .i64 n5, .int .i64 0] 52 (0, 0)) from by rw [← hw]; exact heap_setCell_same _ q 3 _ _ _ (HE.out))
  clear HO HK HE HX
  have HO := Lib.hid HO2.out
  have HK := Lib.hid HK2.out
  have HE := Lib.hid HE2.out
  have HX := Lib.hid HX2.out
  clear HO2 HK2 HE2 HX2
  try rw [hw]
  clear hw
  have hc := sbehind_any b L j5 X kUntil e5 HO.out
  rw [HH6.out] at hc
  dsimp only at hc
  rw [show ba kUntil = ⟨#[117, 110, 116, 105, 108]⟩ from rfl] at hc
  have HCC := Lib.hid hc
  clear hc
  have x0 := HX.out.cell
  go_wp2_with fail
  refine got_elim HCC.out ?_ ?_
  · intro w9 he hk
    exact ⟨rfl, .inr ⟨he, rfl, HK.out.trans hk⟩⟩
  rintro j6 d6 rfl ho hk
  have HO2 := Lib.hid (ho)
  have HK2 := Lib.hid (HK.out.trans hk)
  have HX2 := Lib.hid (HX.out.keep hk)
  have HE2 := Lib.hid (show d6.heap[q]? = some (.cells #[.string (ba n1), .string (ba n3), .int .i64 n4, .int .i64 n5, .int .i64 0] 52 (0, 0)) from (hk.block q (Array.getElem?_eq_some_iff.1 HE.out).1 (by have := HBQ.out; omega)).trans HE.out)
  clear HO HK HE HX
  have HO := Lib.hid HO2.out
  have HK := Lib.hid HK2.out
  have HE := Lib.hid HE2.out
  have HX := Lib.hid HX2.out
  clear HO2 HK2 HE2 HX2
  clear ho hk HCC x0
  have y1 : d6.cell? ⟨q, 4, none⟩ = some (.int .i64 0) := Lib.cell_of_heap HE.out 4
  have y2 : d6.frozen? ⟨q, 4, none⟩ = false := Lib.frozen_of_heap HE.out 4
  go_upto_region 7 with fail
  clear y1 y2
  obtain ⟨e6, hw⟩ : ∃ w9, d6.setCell ⟨q, 4, none⟩ (.int .i64 n6) = w9 := ⟨_, rfl⟩
  have HO2 := Lib.hid (show SOk b L j6 X e6 by rw [← hw]; exact (HO.out).set HBQ.out 4 _)
  have HK2 := Lib.hid (show Keep b w e6 by rw [← hw]; exact (HK.out).newSet HWQ.out (Nat.le_of_lt HLT.out) 4 _)
  have HX2 := Lib.hid (show CapAt p0 b e6 by rw [← hw]; exact (HX.out).set HPQ.out 4 _)
  have HE2 := Lib.hid (show e6.heap[q]? = some (.cells #[.string (ba n1), .string (ba n3), .int .i64 n4, .int .i64 n5, .int .i64 n6] 52 (0, 0)) from by rw [← hw]; exact heap_setCell_same _ q 4 _ _ _ (HE.out))
  clear HO HK HE HX
  have HO := Lib.hid HO2.out
  have HK := Lib.hid HK2.out
  have HE := Lib.hid HE2.out
  have HX := Lib.hid HX2.out
  clear HO2 HK2 HE2 HX2
  try rw [hw]
  clear hw
  have y0 : e6.cell? ⟨q, 0, none⟩ = some (.string (ba n1)) := Lib.cell_of_heap HE.out 0
  have y1 : e6.cell? ⟨q, 1, none⟩ = some (.string (ba n3)) := Lib.cell_of_heap HE.out 1
  have y2 : e6.cell? ⟨q, 2, none⟩ = some (.int .i64 n4) := Lib.cell_of_heap HE.out 2
  have y3 : e6.cell? ⟨q, 3, none⟩ = some (.int .i64 n5) := Lib.cell_of_heap HE.out 3
  have y4 : e6.cell? ⟨q, 4, none⟩ = some (.int .i64 n6) := Lib.cell_of_heap HE.out 4
  go_wp2_with (first | (refine wpList_store_row rfl 52 _ _ rfl q #[.string (ba n1), .string (ba n3), .int .i64 n4, .int .i64 n5, .int .i64 n6] rfl rfl 52 #[.string (ba n1), .string (ba n3), .int .i64 n4, .int .i64 n5, .int .i64 n6] HE.out (by kernel_rfl) rfl (by simp [Value.oneCell']) ?_))
  refine bodyPost_ret (results_cell_row rfl _ _ q _ _ (0, 0) _ rfl (setRow_heap _ _ _ _ _ _ HE.out) Tryz.underlying52 rfl (by kernel_rfl)) rfl ?_
  exact .inl ⟨j6, rfl, rfl, HO.out.row HBQ.out _, HK.out.newRow HWQ.out (Nat.le_of_lt HLT.out) _⟩
set_option maxHeartbeats 8000000 in
set_option maxRecDepth 100000 in
theorem shaz_any (b : Nat) (L : List TokD) (i : Nat) (X : XV) (p0 : Nat) (w : World) (h : SOk b L i X w) (hp : CapAt p0 b w) :
    Calls Tryz.prog 117 #[.pointer (some ⟨p0, 0, none⟩)] w (Got b L X w (hazRD L (rd i)).1 (.agg (hc (hazRD L (rd i)).2).toArray)) := by
  have HLT := Lib.hid h.lt
  have HO := Lib.hid h
  have HK := Lib.hid (Keep.refl b w)
  have HX := Lib.hid hp
  obtain ⟨⟨s1, n1⟩, h1⟩ : ∃ r, nameD L (rd i) = r := ⟨_, rfl⟩
  obtain ⟨s2, h2⟩ : ∃ r, keyD L s1 kOn = r := ⟨_, rfl⟩
  obtain ⟨⟨s3, n3⟩, h3⟩ : ∃ r, nameD L s2 = r := ⟨_, rfl⟩
  obtain ⟨⟨s4, ⟨u1, u2, u3⟩⟩, h4⟩ : ∃ r, timesRD L s3 kClosed = r := ⟨_, rfl⟩
  have HRES := Lib.hid (show hazRD L (rd i) = (s4, ⟨n1, n3, ⟨u1, u2, u3⟩⟩) by unfold hazRD; simp only [h1, h2, h3, h4])
  have HB3 := Lib.hid (show s3.e ≠ 0 → s4 = s3 from fun he => by
    have e1 : s4 = s3 := (congrArg Prod.fst h4).symm.trans (timesRD_bad he)
    exact e1)
  have HB2 := Lib.hid (show s2.e ≠ 0 → s4 = s2 from fun he => by
    have e1 : s3 = s2 := (congrArg Prod.fst h3).symm.trans (nameD_bad he)
    rw [HB3.out (by rw [e1]; exact he), e1])
  have HB1 := Lib.hid (show s1.e ≠ 0 → s4 = s1 from fun he => by
    have e1 : s2 = s1 := h2.symm.trans (keyD_bad he)
    rw [HB2.out (by rw [e1]; exact he), e1])
  have HH1 := Lib.hid h1
  have HH2 := Lib.hid h2
  have HH3 := Lib.hid h3
  have HH4 := Lib.hid h4
  rw [HRES.out]
  dsimp only [hc]
  clear h h1 h2 h3 h4 hp
  go_enter Tryz.func117, Tryz.ntmps117
  go_upto_region 1 with fail
  obtain ⟨q, hq⟩ : ∃ q, w.heap.size = q := ⟨_, rfl⟩
  obtain ⟨a0, hw⟩ : ∃ w1, w.alloc (.cells #[.string ⟨#[]⟩, .string ⟨#[]⟩, .int .i64 0, .int .i64 0, .int .i64 0] 54) = w1 := ⟨_, rfl⟩
  have hb : Below w.heap.size w a0 := by rw [← hw]; exact (Below.refl _ _).alloc (Nat.le_refl _) _
  have HE := Lib.hid (show a0.heap[q]? = some (.cells #[.string ⟨#[]⟩, .string ⟨#[]⟩, .int .i64 0, .int .i64 0, .int .i64 0] 54 (0, 0)) by rw [← hw, ← hq]; exact heap_alloc_new _ _)
  have HBQ := Lib.hid (show b < q by rw [← hq]; exact HLT.out)
  have HWQ := Lib.hid (show w.heap.size ≤ q by rw [hq]; exact Nat.le_refl _)
  have HPQ := Lib.hid (show p0 < q by rw [← hq]; exact HX.out.lt)
  try rw [hw]
  try rw [hq]
  have HO2 := Lib.hid (HO.out.new hb)
  have HK2 := Lib.hid (HK.out.trans (Keep.of hb (Nat.le_of_lt HLT.out)))
  have HX2 := Lib.hid (HX.out.new hb)
  have HE2 := Lib.hid (show a0.heap[q]? = some (.cells #[.string ⟨#[]⟩, .string ⟨#[]⟩, .int .i64 0, .int .i64 0, .int .i64 0] 54 (0, 0)) from HE.out)
  clear HO HK HE HX
  have HO := Lib.hid HO2.out
  have HK := Lib.hid HK2.out
  have HE := Lib.hid HE2.out
  have HX := Lib.hid HX2.out
  clear HO2 HK2 HE2 HX2
  clear hw hb hq
  try simp only [Exit.then]
  have hc := sname_any b L i X a0 HO.out
  rw [HH1.out] at hc
  dsimp only at hc
  have HCC := Lib.hid hc
  clear hc
  have x0 := HX.out.cell
  go_wp2_with fail
  refine got_elim HCC.out ?_ ?_
  · intro w9 he hk
    have hb := HB1.out he
    exact ⟨rfl, .inr ⟨by rw [hb]; exact he, by rw [hb], HK.out.trans hk⟩⟩
  rintro j1 d1 rfl ho hk
  have HO2 := Lib.hid (ho)
  have HK2 := Lib.hid (HK.out.trans hk)
  have HX2 := Lib.hid (HX.out.keep hk)
  have HE2 := Lib.hid (show d1.heap[q]? = some (.cells #[.string ⟨#[]⟩, .string ⟨#[]⟩, .int .i64 0, .int .i64 0, .int .i64 0] 54 (0, 0)) from (hk.block q (Array.getElem?_eq_some_iff.1 HE.out).1 (by have := HBQ.out; omega)).trans HE.out)
  clear HO HK HE HX
  have HO := Lib.hid HO2.out
  have HK := Lib.hid HK2.out
  have HE := Lib.hid HE2.out
  have HX := Lib.hid HX2.out
  clear HO2 HK2 HE2 HX2
  clear ho hk HCC x0
  have y1 : d1.cell? ⟨q, 0, none⟩ = some (.string ⟨#[]⟩) := Lib.cell_of_heap HE.out 0
  have y2 : d1.frozen? ⟨q, 0, none⟩ = false := Lib.frozen_of_heap HE.out 0
  go_upto_region 2 with fail
  clear y1 y2
  obtain ⟨e1, hw⟩ : ∃ w9, d1.setCell ⟨q, 0, none⟩ (.string (ba n1)) = w9 := ⟨_, rfl⟩
  have HO2 := Lib.hid (show SOk b L j1 X e1 by rw [← hw]; exact (HO.out).set HBQ.out 0 _)
  have HK2 := Lib.hid (show Keep b w e1 by rw [← hw]; exact (HK.out).newSet HWQ.out (Nat.le_of_lt HLT.out) 0 _)
  have HX2 := Lib.hid (show CapAt p0 b e1 by rw [← hw]; exact (HX.out).set HPQ.out 0 _)
  have HE2 := Lib.hid (show e1.heap[q]? = some (.cells #[.string (ba n1), .string ⟨#[]⟩, .int .i64 0, .int .i64 0, .int .i64 0] 54 (0, 0)) from by rw [← hw]; exact heap_setCell_same _ q 0 _ _ _ (HE.out))
  clear HO HK HE HX
  have HO := Lib.hid HO2.out
  have HK := Lib.hid HK2.out
  have HE := Lib.hid HE2.out
  have HX := Lib.hid HX2.out
  clear HO2 HK2 HE2 HX2
  try rw [hw]
  clear hw
  have hc := skey_any b L j1 X kOn e1 HO.out
  rw [HH2.out] at hc
  rw [show ba kOn = ⟨#[111, 110]⟩ from rfl] at hc
  have HCC := Lib.hid hc
  clear hc
  have x0 := HX.out.cell
  go_wp2_with fail
  refine got_elim HCC.out ?_ ?_
  · intro w9 he hk
    have hb := HB2.out he
    exact ⟨rfl, .inr ⟨by rw [hb]; exact he, by rw [hb], HK.out.trans hk⟩⟩
  rintro j2 d2 rfl ho hk
  have HO2 := Lib.hid (ho)
  have HK2 := Lib.hid (HK.out.trans hk)
  have HX2 := Lib.hid (HX.out.keep hk)
  have HE2 := Lib.hid (show d2.heap[q]? = some (.cells #[.string (ba n1), .string ⟨#[]⟩, .int .i64 0, .int .i64 0, .int .i64 0] 54 (0, 0)) from (hk.block q (Array.getElem?_eq_some_iff.1 HE.out).1 (by have := HBQ.out; omega)).trans HE.out)
  clear HO HK HE HX
  have HO := Lib.hid HO2.out
  have HK := Lib.hid HK2.out
  have HE := Lib.hid HE2.out
  have HX := Lib.hid HX2.out
  clear HO2 HK2 HE2 HX2
  clear ho hk HCC x0
  have hc := sname_any b L j2 X d2 HO.out
  rw [HH3.out] at hc
  dsimp only at hc
  have HCC := Lib.hid hc
  clear hc
  have x0 := HX.out.cell
  go_wp2_with fail
  refine got_elim HCC.out ?_ ?_
  · intro w9 he hk
    have hb := HB3.out he
    exact ⟨rfl, .inr ⟨by rw [hb]; exact he, by rw [hb], HK.out.trans hk⟩⟩
  rintro j3 d3 rfl ho hk
  have HO2 := Lib.hid (ho)
  have HK2 := Lib.hid (HK.out.trans hk)
  have HX2 := Lib.hid (HX.out.keep hk)
  have HE2 := Lib.hid (show d3.heap[q]? = some (.cells #[.string (ba n1), .string ⟨#[]⟩, .int .i64 0, .int .i64 0, .int .i64 0] 54 (0, 0)) from (hk.block q (Array.getElem?_eq_some_iff.1 HE.out).1 (by have := HBQ.out; omega)).trans HE.out)
  clear HO HK HE HX
  have HO := Lib.hid HO2.out
  have HK := Lib.hid HK2.out
  have HE := Lib.hid HE2.out
  have HX := Lib.hid HX2.out
  clear HO2 HK2 HE2 HX2
  clear ho hk HCC x0
  have y1 : d3.cell? ⟨q, 1, none⟩ = some (.string ⟨#[]⟩) := Lib.cell_of_heap HE.out 1
  have y2 : d3.frozen? ⟨q, 1, none⟩ = false := Lib.frozen_of_heap HE.out 1
  go_upto_region 4 with fail
  clear y1 y2
  obtain ⟨e3, hw⟩ : ∃ w9, d3.setCell ⟨q, 1, none⟩ (.string (ba n3)) = w9 := ⟨_, rfl⟩
  have HO2 := Lib.hid (show SOk b L j3 X e3 by rw [← hw]; exact (HO.out).set HBQ.out 1 _)
  have HK2 := Lib.hid (show Keep b w e3 by rw [← hw]; exact (HK.out).newSet HWQ.out (Nat.le_of_lt HLT.out) 1 _)
  have HX2 := Lib.hid (show CapAt p0 b e3 by rw [← hw]; exact (HX.out).set HPQ.out 1 _)
  have HE2 := Lib.hid (show e3.heap[q]? = some (.cells #[.string (ba n1), .string (ba n3), .int .i64 0, .int .i64 0, .int .i64 0] 54 (0, 0)) from by rw [← hw]; exact heap_setCell_same _ q 1 _ _ _ (HE.out))
  clear HO HK HE HX
  have HO := Lib.hid HO2.out
  have HK := Lib.hid HK2.out
  have HE := Lib.hid HE2.out
  have HX := Lib.hid HX2.out
  clear HO2 HK2 HE2 HX2
  try rw [hw]
  clear hw
  have hc := stimes_any b L j3 X kClosed e3 HO.out
  rw [HH4.out] at hc
  dsimp only [tc] at hc
  rw [show ba kClosed = ⟨#[99, 108, 111, 115, 101, 100]⟩ from rfl] at hc
  have HCC := Lib.hid hc
  clear hc
  have x0 := HX.out.cell
  go_wp2_with fail
  refine got_elim HCC.out ?_ ?_
  · intro w9 he hk
    exact ⟨rfl, .inr ⟨he, rfl, HK.out.trans hk⟩⟩
  rintro j4 d4 rfl ho hk
  have HO2 := Lib.hid (ho)
  have HK2 := Lib.hid (HK.out.trans hk)
  have HX2 := Lib.hid (HX.out.keep hk)
  have HE2 := Lib.hid (show d4.heap[q]? = some (.cells #[.string (ba n1), .string (ba n3), .int .i64 0, .int .i64 0, .int .i64 0] 54 (0, 0)) from (hk.block q (Array.getElem?_eq_some_iff.1 HE.out).1 (by have := HBQ.out; omega)).trans HE.out)
  clear HO HK HE HX
  have HO := Lib.hid HO2.out
  have HK := Lib.hid HK2.out
  have HE := Lib.hid HE2.out
  have HX := Lib.hid HX2.out
  clear HO2 HK2 HE2 HX2
  clear ho hk HCC x0
  have y1 : d4.cell? ⟨q, 2, none⟩ = some (.int .i64 0) := Lib.cell_of_heap HE.out 2
  have y2 : d4.frozen? ⟨q, 2, none⟩ = false := Lib.frozen_of_heap HE.out 2
  have y3 : d4.cell? ⟨q, 3, none⟩ = some (.int .i64 0) := Lib.cell_of_heap HE.out 3
  have y4 : d4.frozen? ⟨q, 3, none⟩ = false := Lib.frozen_of_heap HE.out 3
  have y5 : d4.cell? ⟨q, 4, none⟩ = some (.int .i64 0) := Lib.cell_of_heap HE.out 4
  have y6 : d4.frozen? ⟨q, 4, none⟩ = false := Lib.frozen_of_heap HE.out 4
  go_upto_region 5 with fail
  clear y1 y2 y3 y4 y5 y6
  obtain ⟨e4, hw⟩ : ∃ w9, ((d4.setCell ⟨q, 2, none⟩ (.int .i64 u1)).setCell ⟨q, 3, none⟩ (.int .i64 u2)).setCell ⟨q, 4, none⟩ (.int .i64 u3) = w9 := ⟨_, rfl⟩
  have HO2 := Lib.hid (show SOk b L j4 X e4 by rw [← hw]; exact (((HO.out).set HBQ.out 2 _).set HBQ.out 3 _).set HBQ.out 4 _)
  have HK2 := Lib.hid (show Keep b w e4 by rw [← hw]; exact (((HK.out).newSet HWQ.out (Nat.le_of_lt HLT.out) 2 _).newSet HWQ.out (Nat.le_of_lt HLT.out) 3 _).newSet HWQ.out (Nat.le_of_lt HLT.out) 4 _)
  have HX2 := Lib.hid (show CapAt p0 b e4 by rw [← hw]; exact (((HX.out).set HPQ.out 2 _).set HPQ.out 3 _).set HPQ.out 4 _)
  have HE2 := Lib.hid (show e4.heap[q]? = some (.cells #[.string (ba n1), .string (ba n3), .int .i64 u1, .int .i64 u2, .int .i64 u3] 54 (0, 0)) from by rw [← hw]; exact heap_setCell_same _ q 4 _ _ _ (heap_setCell_same _ q 3 _ _ _ (heap_setCell_same _ q 2 _ _ _ (HE.out))))
  clear HO HK HE HX
  have HO := Lib.hid HO2.out
  have HK := Lib.hid HK2.out
  have HE := Lib.hid HE2.out
  have HX := Lib.hid HX2.out
  clear HO2 HK2 HE2 HX2
  try rw [hw]
  clear hw
  have y0 : e4.cell? ⟨q, 0, none⟩ = some (.string (ba n1)) := Lib.cell_of_heap HE.out 0
  have y1 : e4.cell? ⟨q, 1, none⟩ = some (.string (ba n3)) := Lib.cell_of_heap HE.out 1
  have y2 : e4.cell? ⟨q, 2, none⟩ = some (.int .i64 u1) := Lib.cell_of_heap HE.out 2
  have y3 : e4.cell? ⟨q, 3, none⟩ = some (.int .i64 u2) := Lib.cell_of_heap HE.out 3
  have y4 : e4.cell? ⟨q, 4, none⟩ = some (.int .i64 u3) := Lib.cell_of_heap HE.out 4
  go_wp2_with (first | (refine wpList_store_row rfl 54 _ _ rfl q #[.string (ba n1), .string (ba n3), .int .i64 u1, .int .i64 u2, .int .i64 u3] rfl rfl 54 #[.string (ba n1), .string (ba n3), .int .i64 u1, .int .i64 u2, .int .i64 u3] HE.out (by kernel_rfl) rfl (by simp [Value.oneCell']) ?_))
  refine bodyPost_ret (results_cell_row rfl _ _ q _ _ (0, 0) _ rfl (setRow_heap _ _ _ _ _ _ HE.out) Tryz.underlying54 rfl (by kernel_rfl)) rfl ?_
  exact .inl ⟨j4, rfl, rfl, HO.out.row HBQ.out _, HK.out.newRow HWQ.out (Nat.le_of_lt HLT.out) _⟩
end Go.Proofs.YteonefgbdphmiaaGreatDoor
