/- The reader of timetableref05: plain words. -/
import Derived.Test.YtmihinhbcncbfaaGreatDoorZq
import Derived.Test.YtmihinhbcncbfaaGreatDoorSd
import Derived.Laws.CopyOwn
import Derived.Laws.Tables
import Derived.Test.YtmihinhbcncbfaaGreatDoorMh
import Derived.BigQuiet
import Derived.Deep.QuietTactic
import Derived.Test.YtmihinhbcncbfaaGreatDoorSw
import Derived.Test.YtmihinhbcncbfaaGreatDoorSx
import Derived.Deep.CutBlock
import Derived.Deep.CutRange
import Derived.Deep.DeepCutAuto
namespace Go.Proofs.YtmihinhbcncbfaaGreatDoor
open Go.RowKit
/-- Where the reader is, and its first fault. -/
structure Rd where
  at_ : Nat
  e : Int
  ln : Int
  cl : Int
def endT : TokD := ⟨4, [], 0, 1, 1⟩
def nowD (L : List TokD) (s : Rd) : TokD := L.getD s.at_ endT
def failD (s : Rd) (er : Int) (t : TokD) : Rd := if s.e = 0 then ⟨s.at_, er, t.line, t.col⟩ else s
def mis (t : TokD) (kind : Int) (k : List UInt8) : Bool := (t.kind != kind) || ((kind == 2) && (t.text != k))
def takeD (L : List TokD) (s : Rd) (kind : Int) (k : List UInt8) : Rd × TokD :=
  if s.e ≠ 0 then (s, zeroT) else if mis (nowD L s) kind k = true then (failD s 7 (nowD L s), zeroT) else (⟨s.at_ + 1, s.e, s.ln, s.cl⟩, nowD L s)
def nameD (L : List TokD) (s : Rd) : Rd × List UInt8 := ((takeD L s 1 []).1, (takeD L s 1 []).2.text)
def numD (L : List TokD) (s : Rd) : Rd × Int := ((takeD L s 3 []).1, (takeD L s 3 []).2.num)
def keyD (L : List TokD) (s : Rd) (k : List UInt8) : Rd := (takeD L s 2 k).1
def isD (L : List TokD) (s : Rd) (k : List UInt8) : Bool := ((nowD L s).kind == 2) && ((nowD L s).text == k)
def afterD (L : List TokD) (s : Rd) (k : List UInt8) : Rd × Int := numD L (keyD L s k)
theorem takeD_le {L : List TokD} {s : Rd} {kind : Int} {k : List UInt8} (h : s.at_ ≤ L.length) : (takeD L s kind k).1.at_ ≤ L.length + 1 ∧ (kind ≠ 4 → (takeD L s kind k).1.at_ ≤ L.length) := by
  unfold takeD
  split
  · exact ⟨by show s.at_ ≤ _; omega, fun _ => h⟩
  · split
    · unfold failD
      split
      · exact ⟨by show s.at_ ≤ _; omega, fun _ => h⟩
      · exact ⟨by show s.at_ ≤ _; omega, fun _ => h⟩
    · rename_i hm
      refine ⟨by show s.at_ + 1 ≤ _; omega, fun hk => ?_⟩
      show s.at_ + 1 ≤ L.length
      by_cases he : s.at_ = L.length
      · have hn : nowD L s = endT := by unfold nowD; rw [List.getD_eq_getElem?_getD, List.getElem?_eq_none (by omega)]; rfl
        rw [hn] at hm
        exact absurd (show mis endT kind k = true by
          have : ((4 : Int) == kind) = false := beq_eq_false_iff_ne.2 (Ne.symm hk)
          simp [mis, endT, this, bne]) hm
      · omega
theorem nameD_le {L : List TokD} {s : Rd} (h : s.at_ ≤ L.length) : (nameD L s).1.at_ ≤ L.length := (takeD_le h).2 (by decide)
theorem numD_le {L : List TokD} {s : Rd} (h : s.at_ ≤ L.length) : (numD L s).1.at_ ≤ L.length := (takeD_le h).2 (by decide)
theorem keyD_le {L : List TokD} {s : Rd} {k : List UInt8} (h : s.at_ ≤ L.length) : (keyD L s k).at_ ≤ L.length := (takeD_le h).2 (by decide)
theorem afterD_le {L : List TokD} {s : Rd} {k : List UInt8} (h : s.at_ ≤ L.length) : (afterD L s k).1.at_ ≤ L.length := numD_le (keyD_le h)
/-- The seven cells of the sheet that is read. -/
structure XV where
  h : Int
  vs : Value
  vp : Value
  vd : Value
  vr : Value
  vt : Value
  vh : Value
/-- The block b holds the reader. -/
def RdAt (b : Nat) (v : Value) (s : Rd) (X : XV) (w : World) : Prop :=
  w.heap[b]? = some (.cells #[v, .int .i64 s.at_, .int .i64 s.e, .int .i64 s.ln, .int .i64 s.cl, .int .i64 X.h, X.vs, X.vp, X.vd, X.vr, X.vt, X.vh] 91 (0, 0))
/-- Nothing is turned but the block b, and what is new. -/
structure Keep (b : Nat) (w w' : World) : Prop where
  below : Below b w w'
  block : ∀ k, k < w.heap.size → k ≠ b → w'.heap[k]? = w.heap[k]?
theorem Keep.refl (b : Nat) (w : World) : Keep b w w := ⟨Below.refl _ _, fun _ _ _ => rfl⟩
theorem Keep.size {b : Nat} {w w' : World} (h : Keep b w w') : w.heap.size ≤ w'.heap.size := h.below.size
theorem Keep.trans {b : Nat} {w w1 w2 : World} (h : Keep b w w1) (k : Keep b w1 w2) : Keep b w w2 :=
  ⟨h.below.trans k.below, fun i hi hb => (k.block i (Nat.lt_of_lt_of_le hi h.size) hb).trans (h.block i hi hb)⟩
theorem Keep.of {b : Nat} {w w' : World} (h : Below w.heap.size w w') (hb : b ≤ w.heap.size) : Keep b w w' :=
  ⟨h.mono hb, fun k hk _ => h.block k hk⟩
theorem Keep.alloc {b : Nat} {w w1 : World} (h : Keep b w w1) (hb : b ≤ w.heap.size) (o : Obj) : Keep b w (w1.alloc o) :=
  h.trans (Keep.of ((Below.refl _ _).alloc (Nat.le_refl _) o) (Nat.le_trans hb h.size))
theorem Keep.set {b : Nat} {w w1 : World} (h : Keep b w w1) (i : Nat) (v : Value) : Keep b w (w1.setCell ⟨b, i, none⟩ v) :=
  h.trans ⟨(Below.refl _ _).setCell (p := ⟨b, i, none⟩) (Nat.le_refl _) v, fun k _ hk => heap_setCell_other w1 ⟨b, i, none⟩ k v hk⟩
theorem Keep.row {b : Nat} {w w1 : World} (h : Keep b w w1) (cs : Array Value) : Keep b w (w1.setRow b cs) :=
  h.trans ⟨below_setRow (Below.refl _ _) (Nat.le_refl _) cs, fun k _ hk => setRow_other w1 b k cs hk⟩
theorem Keep.newRow {b : Nat} {w w1 : World} (h : Keep b w w1) {g : Nat} (hg : w.heap.size ≤ g) (hb : b ≤ w.heap.size) (cs : Array Value) : Keep b w (w1.setRow g cs) :=
  ⟨below_setRow h.below (Nat.le_trans hb hg) cs, fun k hk hkb => (setRow_other w1 g k cs (by omega)).trans (h.block k hk hkb)⟩
theorem Keep.newSet {b : Nat} {w w1 : World} (h : Keep b w w1) {g : Nat} (hg : w.heap.size ≤ g) (hb : b ≤ w.heap.size) (i : Nat) (u : Value) : Keep b w (w1.setCell ⟨g, i, none⟩ u) :=
  ⟨h.below.setCell (p := ⟨g, i, none⟩) (Nat.le_trans hb hg) u, fun k hk hkb => (heap_setCell_other w1 ⟨g, i, none⟩ k u (by show k ≠ g; omega)).trans (h.block k hk hkb)⟩
theorem Keep.drewN {b : Nat} {w w1 : World} (h : Keep b w w1) (n : Nat) : Keep b w (w1.drewN n) := ⟨below_drewN h.below n, h.block⟩
/-- The tokens' slice lies below the reader. -/
theorem sl_keep {b : Nat} {v : Value} {L : List TokD} {w w' : World} (h : Sl tkc 5 w v L (fun k => k < b)) (k : Keep b w w') : Sl tkc 5 w' v L (fun k => k < b) :=
  h.keep k.size fun i _ hi => k.below.block i hi
theorem RdAt.keep_new {b : Nat} {v : Value} {s : Rd} {X : XV} {w w' : World} (h : RdAt b v s X w) (k : Below w.heap.size w w') : RdAt b v s X w' :=
  (k.block b (Array.getElem?_eq_some_iff.1 h).1).trans h
theorem RdAt.lt {b : Nat} {v : Value} {s : Rd} {X : XV} {w : World} (h : RdAt b v s X w) : b < w.heap.size := (Array.getElem?_eq_some_iff.1 h).1
end Go.Proofs.YtmihinhbcncbfaaGreatDoor
/- The walks of the reader's now, fail and take. -/
namespace Go.Proofs.YtmihinhbcncbfaaGreatDoor
open Go.RowKit
theorem tok_all (t : TokD) : (#[.int .i64 t.kind, .string (ba t.text), .int .i64 t.num, .int .i64 t.line, .int .i64 t.col] : Array Value).all (·.oneCell') = true := by
  simp [Value.oneCell']
set_option maxHeartbeats 4000000 in
set_option maxRecDepth 100000 in
theorem qnow_any (b : Nat) (v : Value) (L : List TokD) (s : Rd) (X : XV) (w : World) (hS : Sl tkc 5 w v L (fun k => k < b)) (hR : RdAt b v s X w) :
    Calls Tryz.prog 93 #[.pointer (some ⟨b, 0, none⟩)] w fun e w' => e = .returned (.agg (tkc (nowD L s)).toArray) ∧ Below w.heap.size w w' := by
  obtain ⟨A, c, rfl, hl1, hl2⟩ := hS.shape
  have HZ := Lib.hid hR.lt
  have HR := Lib.hid hR
  by_cases hk : s.at_ < L.length
  · obtain ⟨b1, o1, p1, e1, _, _, hl3, hpb, hx⟩ := hS.at_ hk
    injection e1 with e1 e2 e3
    subst e1
    have hn : nowD L s = L[s.at_] := by unfold nowD; rw [List.getD_eq_getElem?_getD, List.getElem?_eq_getElem hk]; rfl
    rw [hn]
    obtain ⟨t, ht⟩ : ∃ t, L[s.at_] = t := ⟨_, rfl⟩
    rw [ht] at hx ⊢
    have HX := Lib.hid hx
    have HL3 := Lib.hid hl3
    have q0 : (0 : Int) ≤ (s.at_ : Int) := by omega
    have q1 : (s.at_ : Int) < (L.length : Int) := by omega
    clear hS hR e2 e3 hn ht hx hl3 hpb
    unfold tkc
    go_enter Tryz.func93, Tryz.ntmps93
    go_upto_region 1 with fail
    obtain ⟨w1, hw1⟩ : ∃ w1, w.alloc (.cells #[.int .i64 0, .string ⟨#[]⟩, .int .i64 0, .int .i64 0, .int .i64 0] 95) = w1 := ⟨_, rfl⟩
    have hb1 : Below w.heap.size w w1 := by rw [← hw1]; exact (Below.refl _ _).alloc (Nat.le_refl _) _
    have hq1 : w1.heap[w.heap.size]? = some (.cells #[.int .i64 0, .string ⟨#[]⟩, .int .i64 0, .int .i64 0, .int .i64 0] 95 (0, 0)) := by rw [← hw1]; exact heap_alloc_new _ _
    rw [hw1]
    clear hw1
    have HC := Lib.hid (fun (wy : World) (hy : Below w.heap.size w wy) => (show wy.cell? ⟨b, 0, none⟩ = some (.slice (some ⟨b1, o1, none⟩) L.length c) ∧ wy.cell? ⟨b, 1, none⟩ = some (.int .i64 (s.at_ : Int)) ∧ wy.cell? ⟨b1, o1 + s.at_ * 5, none⟩ = some (.int .i64 t.kind) ∧ wy.cell? ⟨b1, o1 + s.at_ * 5 + 1, none⟩ = some (.string (ba t.text)) ∧ wy.cell? ⟨b1, o1 + s.at_ * 5 + 2, none⟩ = some (.int .i64 t.num) ∧ wy.cell? ⟨b1, o1 + s.at_ * 5 + 3, none⟩ = some (.int .i64 t.line) ∧ wy.cell? ⟨b1, o1 + s.at_ * 5 + 4, none⟩ = some (.int .i64 t.col) from
      ⟨(hy.cell (p := ⟨b, 0, none⟩) HZ.out).trans (Lib.cell_of_heap HR.out 0), (hy.cell (p := ⟨b, 1, none⟩) HZ.out).trans (Lib.cell_of_heap HR.out 1), (hy.cell (p := ⟨b1, o1 + s.at_ * 5, none⟩) HL3.out).trans (by simpa using HX.out 0 _ rfl), (hy.cell (p := ⟨b1, o1 + s.at_ * 5 + 1, none⟩) HL3.out).trans (by simpa using HX.out 1 _ rfl), (hy.cell (p := ⟨b1, o1 + s.at_ * 5 + 2, none⟩) HL3.out).trans (by simpa using HX.out 2 _ rfl), (hy.cell (p := ⟨b1, o1 + s.at_ * 5 + 3, none⟩) HL3.out).trans (by simpa using HX.out 3 _ rfl), (hy.cell (p := ⟨b1, o1 + s.at_ * 5 + 4, none⟩) HL3.out).trans (by simpa using HX.out 4 _ rfl)⟩))
    have hSw : Below w.heap.size w w1 := hb1
    refine wp_region_kinds (fun wy => Below w.heap.size w wy) [] [] [3, 7] [0, 1, 2, 4, 5, 6, 8, 9] [0, 1, 2, 3, 4, 5, 6, 7, 8, 9] (by kernel_rfl) (by kernel_rfl) (fun w n h => below_drewN h n) ?_
    repeat (first | (refine wpKind_free (v := ?_) (by rfl) rfl (by rfl) ?_ ?_; rotate_left 1; (focus (intro wy; go_simp; try with_reducible rfl; done)); try simp only [Act.put, List.setIfInBounds_toArray, List.set_cons_zero, List.set_cons_succ]) | (refine wpKind_held (v := ?_) (by rfl) rfl (by rfl) hSw ?_ ?_; rotate_left 1; (focus (intro wy hSy; obtain ⟨s0, s1, s2, s3, s4, s5, s6⟩ := HC.out wy hSy; go_simp; try with_reducible rfl; done)); try simp only [Act.put, List.setIfInBounds_toArray, List.set_cons_zero, List.set_cons_succ]))
    refine wpKind_nil fun n1 => ?_
    go_upto_region 2 with fail
    clear hSw
    have hSw : Below w.heap.size w (w1.drewN n1) := below_drewN hb1 n1
    refine wp_region_kinds (fun wy => Below w.heap.size w wy) [] [10] [3, 7, 9] [0, 1, 2, 4, 5, 6, 8] [0, 1, 2, 3, 4, 5, 6, 7, 8, 9, 10] (by kernel_rfl) (by kernel_rfl) (fun w n h => below_drewN h n) ?_
    repeat (first | (refine wpKind_free (v := ?_) (by rfl) rfl (by rfl) ?_ ?_; rotate_left 1; (focus (intro wy; go_simp; rw [if_pos (show _ ∧ _ from ⟨by omega, by omega⟩)]; (try rw [Int.toNat_natCast]); (first | with_reducible rfl | (simp only [Nat.mul_one]; with_reducible rfl)); done)); try simp only [Act.put, List.setIfInBounds_toArray, List.set_cons_zero, List.set_cons_succ]) | (refine wpKind_free (v := ?_) (by rfl) rfl (by rfl) ?_ ?_; rotate_left 1; (focus (intro wy; go_simp; try with_reducible rfl; done)); try simp only [Act.put, List.setIfInBounds_toArray, List.set_cons_zero, List.set_cons_succ]) | (refine wpKind_held (v := ?_) (by rfl) rfl (by rfl) hSw ?_ ?_; rotate_left 1; (focus (intro wy hSy; obtain ⟨s0, s1, s2, s3, s4, s5, s6⟩ := HC.out wy hSy; go_simp; try with_reducible rfl; done)); try simp only [Act.put, List.setIfInBounds_toArray, List.set_cons_zero, List.set_cons_succ]))
    clear hSw
    refine wpKind_serial (by rfl) rfl (fun n2 => ?_)
    refine wpList_store_row rfl 95 _ _ rfl w.heap.size #[.int .i64 t.kind, .string (ba t.text), .int .i64 t.num, .int .i64 t.line, .int .i64 t.col] rfl rfl 95 #[.int .i64 0, .string ⟨#[]⟩, .int .i64 0, .int .i64 0, .int .i64 0] hq1 (by kernel_rfl) rfl (tok_all t) ?_
    go_wp2_with fail
    show wpKind _ _ _ _ _ _ _ _ _
    refine wpKind_nil fun n9 => ?_
    go_wp2_with fail
    refine bodyPost_ret (results_cell_row rfl _ _ w.heap.size _ _ (0, 0) _ rfl (setRow_heap _ _ _ _ _ _ hq1) Tryz.underlying95 rfl (by kernel_rfl)) rfl ⟨rfl, below_drewN (below_setRow (below_drewN hb1 _) (Nat.le_refl _) _) _⟩
  · have hn : nowD L s = endT := by unfold nowD; rw [List.getD_eq_getElem?_getD, List.getElem?_eq_none (by omega)]; rfl
    rw [hn]
    have q1 : ¬ (s.at_ : Int) < (L.length : Int) := by omega
    clear hS hR hn
    unfold tkc endT
    go_enter Tryz.func93, Tryz.ntmps93
    go_upto_region 1 with fail
    obtain ⟨w1, hw1⟩ : ∃ w1, w.alloc (.cells #[.int .i64 0, .string ⟨#[]⟩, .int .i64 0, .int .i64 0, .int .i64 0] 95) = w1 := ⟨_, rfl⟩
    have hb1 : Below w.heap.size w w1 := by rw [← hw1]; exact (Below.refl _ _).alloc (Nat.le_refl _) _
    have hq1 : w1.heap[w.heap.size]? = some (.cells #[.int .i64 0, .string ⟨#[]⟩, .int .i64 0, .int .i64 0, .int .i64 0] 95 (0, 0)) := by rw [← hw1]; exact heap_alloc_new _ _
    rw [hw1]
    clear hw1
    have HC := Lib.hid (fun (wy : World) (hy : Below w.heap.size w wy) => (show wy.cell? ⟨b, 0, none⟩ = some (.slice A L.length c) ∧ wy.cell? ⟨b, 1, none⟩ = some (.int .i64 (s.at_ : Int)) ∧ True ∧ True ∧ True ∧ True ∧ True from
      ⟨(hy.cell (p := ⟨b, 0, none⟩) HZ.out).trans (Lib.cell_of_heap HR.out 0), (hy.cell (p := ⟨b, 1, none⟩) HZ.out).trans (Lib.cell_of_heap HR.out 1), trivial, trivial, trivial, trivial, trivial⟩))
    have hSw : Below w.heap.size w w1 := hb1
    refine wp_region_kinds (fun wy => Below w.heap.size w wy) [] [] [3, 7] [0, 1, 2, 4, 5, 6, 8, 9] [0, 1, 2, 3, 4, 5, 6, 7, 8, 9] (by kernel_rfl) (by kernel_rfl) (fun w n h => below_drewN h n) ?_
    repeat (first | (refine wpKind_free (v := ?_) (by rfl) rfl (by rfl) ?_ ?_; rotate_left 1; (focus (intro wy; go_simp; try with_reducible rfl; done)); try simp only [Act.put, List.setIfInBounds_toArray, List.set_cons_zero, List.set_cons_succ]) | (refine wpKind_held (v := ?_) (by rfl) rfl (by rfl) hSw ?_ ?_; rotate_left 1; (focus (intro wy hSy; obtain ⟨s0, s1, s2, s3, s4, s5, s6⟩ := HC.out wy hSy; go_simp; try with_reducible rfl; done)); try simp only [Act.put, List.setIfInBounds_toArray, List.set_cons_zero, List.set_cons_succ]))
    clear hSw
    refine wpKind_nil fun n1 => ?_
    go_upto_region 3 with fail
    go_wp2_with (first | (refine wpList_store_row rfl 95 _ _ rfl w.heap.size #[.int .i64 4, .string ⟨#[]⟩, .int .i64 0, .int .i64 1, .int .i64 1] rfl rfl 95 #[.int .i64 0, .string ⟨#[]⟩, .int .i64 0, .int .i64 0, .int .i64 0] hq1 (by kernel_rfl) rfl (tok_all endT) ?_))
    refine bodyPost_ret (results_cell_row rfl _ _ w.heap.size _ _ (0, 0) _ rfl (setRow_heap _ _ _ _ _ _ hq1) Tryz.underlying95 rfl (by kernel_rfl)) rfl ⟨rfl, below_setRow (below_drewN hb1 _) (Nat.le_refl _) _⟩
theorem RdAt.set3 {b : Nat} {v : Value} {s : Rd} {X : XV} {w : World} (h : RdAt b v s X w) (e l c : Int) :
    RdAt b v ⟨s.at_, e, l, c⟩ X (((w.setCell ⟨b, 2, none⟩ (.int .i64 e)).setCell ⟨b, 3, none⟩ (.int .i64 l)).setCell ⟨b, 4, none⟩ (.int .i64 c)) := by
  have h1 := heap_setCell_same w b 2 _ _ (.int .i64 e) h
  have h2 := heap_setCell_same _ b 3 _ _ (.int .i64 l) h1
  have h3 := heap_setCell_same _ b 4 _ _ (.int .i64 c) h2
  unfold RdAt
  rw [h3]
  rfl
theorem RdAt.set1 {b : Nat} {v : Value} {s : Rd} {X : XV} {w : World} (h : RdAt b v s X w) (k : Nat) :
    RdAt b v ⟨k, s.e, s.ln, s.cl⟩ X (w.setCell ⟨b, 1, none⟩ (.int .i64 (k : Int))) := by
  have h1 := heap_setCell_same w b 1 _ _ (.int .i64 (k : Int)) h
  unfold RdAt
  rw [h1]
  rfl
set_option maxHeartbeats 4000000 in
set_option maxRecDepth 100000 in
theorem qfail_any (b : Nat) (v : Value) (s : Rd) (X : XV) (er : Int) (t : TokD) (w : World) (hR : RdAt b v s X w) :
    Calls Tryz.prog 94 #[.pointer (some ⟨b, 0, none⟩), .int .i64 er, .agg #[.int .i64 t.kind, .string (ba t.text), .int .i64 t.num, .int .i64 t.line, .int .i64 t.col]] w fun e w' => e = .returned (.tuple #[]) ∧ RdAt b v (failD s er t) X w' ∧ Keep b w w' := by
  have hlt := hR.lt
  have HR := Lib.hid hR
  by_cases he : s.e = 0
  · have hf : failD s er t = ⟨s.at_, er, t.line, t.col⟩ := by unfold failD; rw [if_pos he]
    rw [hf]
    have x2 : w.cell? ⟨b, 2, none⟩ = some (.int .i64 0) := by rw [← he]; exact Lib.cell_of_heap hR 2
    have x3 : w.cell? ⟨b, 3, none⟩ = some (.int .i64 s.ln) := Lib.cell_of_heap hR 3
    have x4 : w.cell? ⟨b, 4, none⟩ = some (.int .i64 s.cl) := Lib.cell_of_heap hR 4
    have z2 : w.frozen? ⟨b, 2, none⟩ = false := Lib.frozen_of_heap hR 2
    have z3 : w.frozen? ⟨b, 3, none⟩ = false := Lib.frozen_of_heap hR 3
    have z4 : w.frozen? ⟨b, 4, none⟩ = false := Lib.frozen_of_heap hR 4
    clear hR hf he
    go_enter Tryz.func94, Tryz.ntmps94
    go_wp2_with fail
    go_end0
    exact ⟨rfl, (HR.out.set3 er t.line t.col).keep_new ((Below.refl _ _).alloc (Nat.le_refl _) _), ((((Keep.refl b w).set 2 _).set 3 _).set 4 _).alloc (by omega) _⟩
  · have hf : failD s er t = s := by unfold failD; rw [if_neg he]
    rw [hf]
    have x2 : w.cell? ⟨b, 2, none⟩ = some (.int .i64 s.e) := Lib.cell_of_heap hR 2
    have q1 : (s.e == 0) = false := beq_eq_false_iff_ne.2 he
    clear hR hf
    go_enter Tryz.func94, Tryz.ntmps94
    go_wp2_with fail
    go_end0
    exact ⟨rfl, HR.out.keep_new ((Below.refl _ _).alloc (Nat.le_refl _) _), (Keep.refl b w).alloc (by omega) _⟩
set_option maxHeartbeats 8000000 in
set_option maxRecDepth 100000 in
theorem qtake_any (b : Nat) (v : Value) (L : List TokD) (s : Rd) (X : XV) (kind : Int) (k : List UInt8) (w : World) (hS : Sl tkc 5 w v L (fun k => k < b)) (hR : RdAt b v s X w) (hat : s.at_ ≤ L.length + 1) (hL : L.length ≤ 1048576) :
    Calls Tryz.prog 56 #[.pointer (some ⟨b, 0, none⟩), .int .i64 kind, .string (ba k)] w fun e w' => e = .returned (.agg (tkc (takeD L s kind k).2).toArray) ∧ RdAt b v (takeD L s kind k).1 X w' ∧ Keep b w w' := by
  have HLT := Lib.hid hR.lt
  have HS := Lib.hid hS
  have HR := Lib.hid hR
  obtain ⟨t, hn⟩ : ∃ t, nowD L s = t := ⟨_, rfl⟩
  have HN := Lib.hid hn
  clear hS hR
  go_enter Tryz.func56, Tryz.ntmps56
  go_upto_region 1 with fail
  obtain ⟨w1, hw1⟩ : ∃ w1, w.alloc (.cells #[.int .i64 0, .string ⟨#[]⟩, .int .i64 0, .int .i64 0, .int .i64 0] 95) = w1 := ⟨_, rfl⟩
  have HB1 := Lib.hid (show Below w.heap.size w w1 by rw [← hw1]; exact (Below.refl _ _).alloc (Nat.le_refl _) _)
  have HQ1 := Lib.hid (show w1.heap[w.heap.size]? = some (.cells #[.int .i64 0, .string ⟨#[]⟩, .int .i64 0, .int .i64 0, .int .i64 0] 95 (0, 0)) by rw [← hw1]; exact heap_alloc_new _ _)
  have HZ1 := Lib.hid (show w1.heap.size = w.heap.size + 1 by rw [← hw1]; simp)
  rw [hw1]
  clear hw1
  go_wp2_with fail
  refine (qnow_any b v L s X w1 (HS.out.below_ HB1.out) (HR.out.keep_new HB1.out)).mono ?_
  rintro e w2 ⟨rfl, hb⟩
  have HB2 := Lib.hid (HB1.out.trans (hb.mono HB1.out.size))
  have HQ2 := Lib.hid ((hb.block w.heap.size (by have := HZ1.out; omega)).trans HQ1.out)
  have HZ2 := Lib.hid (show w.heap.size + 1 ≤ w2.heap.size by have := hb.size; have := HZ1.out; omega)
  clear hb HQ1
  rw [HN.out]
  unfold tkc
  go_upto_region 2 with fail
  obtain ⟨w3, hw3⟩ : ∃ w3, w2.alloc (.cells #[.int .i64 t.kind, .string (ba t.text), .int .i64 t.num, .int .i64 t.line, .int .i64 t.col] 95) = w3 := ⟨_, rfl⟩
  have HB3 := Lib.hid (show Below w.heap.size w w3 by rw [← hw3]; exact HB2.out.alloc HB2.out.size _)
  have hq3 : w3.heap[w.heap.size]? = some (.cells #[.int .i64 0, .string ⟨#[]⟩, .int .i64 0, .int .i64 0, .int .i64 0] 95 (0, 0)) := by rw [← hw3, Below.heap_alloc _ _ _ (by have := HZ2.out; omega)]; exact HQ2.out
  have ht3 : w3.heap[w2.heap.size]? = some (.cells #[.int .i64 t.kind, .string (ba t.text), .int .i64 t.num, .int .i64 t.line, .int .i64 t.col] 95 (0, 0)) := by rw [← hw3]; exact heap_alloc_new _ _
  rw [hw3]
  clear hw3 HQ2 HB2
  have HQ3 := Lib.hid hq3
  have HR3 := Lib.hid (HR.out.keep_new HB3.out)
  have x2 : w3.cell? ⟨b, 2, none⟩ = some (.int .i64 s.e) := Lib.cell_of_heap HR3.out 2
  have x1 : w3.cell? ⟨b, 1, none⟩ = some (.int .i64 (s.at_ : Int)) := Lib.cell_of_heap HR3.out 1
  have f1 : w3.frozen? ⟨b, 1, none⟩ = false := Lib.frozen_of_heap HR3.out 1
  have t0 : w3.cell? ⟨w2.heap.size, 0, none⟩ = some (.int .i64 t.kind) := Lib.cell_of_heap ht3 0
  have t1 : w3.cell? ⟨w2.heap.size, 1, none⟩ = some (.string (ba t.text)) := Lib.cell_of_heap ht3 1
  have t2 : w3.cell? ⟨w2.heap.size, 2, none⟩ = some (.int .i64 t.num) := Lib.cell_of_heap ht3 2
  have t3 : w3.cell? ⟨w2.heap.size, 3, none⟩ = some (.int .i64 t.line) := Lib.cell_of_heap ht3 3
  have t4 : w3.cell? ⟨w2.heap.size, 4, none⟩ = some (.int .i64 t.col) := Lib.cell_of_heap ht3 4
  clear hq3
  by_cases he : s.e = 0
  · by_cases h1 : t.kind = kind
    · have c1 : (t.kind == kind) = true := beq_iff_eq.2 h1
      have c2 : (t.kind != kind) = false := by rw [bne, c1]; rfl
      by_cases h2 : kind = 2
      · have c3 : (kind == 2) = true := beq_iff_eq.2 h2
        by_cases h3 : t.text = k
        · have HTD := Lib.hid (show takeD L s kind k = (⟨s.at_ + 1, s.e, s.ln, s.cl⟩, t) by
            unfold takeD
            rw [if_neg (by rw [he]; decide), hn, if_neg (by unfold mis; rw [c2, h3]; simp)])
          have c4 : ((ba t.text).toList == (ba k).toList) = true := by rw [h3]; exact beq_self_eq_true _
          have c5 : ((ba t.text).toList != (ba k).toList) = false := by rw [bne, c4]; rfl
          have c6 : (s.e == 0) = true := beq_iff_eq.2 he
          have c7 : (s.e != 0) = false := by rw [bne, c6]; rfl
          clear he h1 h2 h3 hn
          go_upto_region 8 with fail
          have hsum : ((s.at_ : Int) + 1) = ((s.at_ + 1 : Nat) : Int) := by omega
          try rw [hsum]
          obtain ⟨w4, hw4⟩ : ∃ w4, w3.setCell ⟨b, 1, none⟩ (.int .i64 ((s.at_ + 1 : Nat) : Int)) = w4 := ⟨_, rfl⟩
          have HR4 := Lib.hid (show RdAt b v ⟨s.at_ + 1, s.e, s.ln, s.cl⟩ X w4 by rw [← hw4]; exact HR3.out.set1 (s.at_ + 1))
          have HK4 := Lib.hid (show Keep b w w4 by rw [← hw4]; exact (Keep.of HB3.out (by have := HLT.out; omega)).set 1 _)
          have hne : ∀ k, k ≠ b → w4.heap[k]? = w3.heap[k]? := fun k hk => by rw [← hw4]; exact heap_setCell_other w3 ⟨b, 1, none⟩ k _ hk
          have HQ4 := Lib.hid ((hne w.heap.size (by have := HLT.out; omega)).trans HQ3.out)
          have ht4 := (hne w2.heap.size (by have := HLT.out; have := HZ2.out; omega)).trans ht3
          rw [hw4]
          clear hw4 hne t0 t1 t2 t3 t4 x1 x2 f1 ht3 hsum
          have t0 : w4.cell? ⟨w2.heap.size, 0, none⟩ = some (.int .i64 t.kind) := Lib.cell_of_heap ht4 0
          have t1 : w4.cell? ⟨w2.heap.size, 1, none⟩ = some (.string (ba t.text)) := Lib.cell_of_heap ht4 1
          have t2 : w4.cell? ⟨w2.heap.size, 2, none⟩ = some (.int .i64 t.num) := Lib.cell_of_heap ht4 2
          have t3 : w4.cell? ⟨w2.heap.size, 3, none⟩ = some (.int .i64 t.line) := Lib.cell_of_heap ht4 3
          have t4 : w4.cell? ⟨w2.heap.size, 4, none⟩ = some (.int .i64 t.col) := Lib.cell_of_heap ht4 4
          clear ht4
          go_wp2_with (first | (refine wpList_store_row rfl 95 _ _ rfl w.heap.size #[.int .i64 t.kind, .string (ba t.text), .int .i64 t.num, .int .i64 t.line, .int .i64 t.col] rfl rfl 95 #[.int .i64 0, .string ⟨#[]⟩, .int .i64 0, .int .i64 0, .int .i64 0] HQ4.out (by kernel_rfl) rfl (tok_all t) ?_))
          refine bodyPost_ret (results_cell_row rfl _ _ w.heap.size _ _ (0, 0) _ rfl (setRow_heap _ _ _ _ _ _ HQ4.out) Tryz.underlying95 rfl (by kernel_rfl)) rfl ?_
          rw [HTD.out]
          exact ⟨rfl, (setRow_other _ _ _ _ (by have := HLT.out; omega)).trans HR4.out, HK4.out.newRow (Nat.le_refl _) (by have := HLT.out; omega) _⟩
        · have HTD := Lib.hid (show takeD L s kind k = (failD s 7 t, zeroT) by
            have c5 : (t.text != k) = true := by simpa using h3
            unfold takeD
            rw [if_neg (by rw [he]; decide), hn, if_pos (by unfold mis; rw [c3, c5]; simp)])
          have c4 : ((ba t.text).toList == (ba k).toList) = false := by rw [ba_toList, ba_toList]; exact beq_eq_false_iff_ne.2 h3
          have c5 : ((ba t.text).toList != (ba k).toList) = true := by rw [bne, c4]; rfl
          have c6 : (s.e == 0) = true := beq_iff_eq.2 he
          have c7 : (s.e != 0) = false := by rw [bne, c6]; rfl
          clear he h1 h2 h3 hn
          go_wp2_with fail
          refine (qfail_any b v s X 7 t w3 HR3.out).mono ?_
          rintro e w4 ⟨rfl, hr4, hk4⟩
          have HR4 := Lib.hid hr4
          have HK4 := Lib.hid hk4
          have HQ4 := Lib.hid ((hk4.block w.heap.size (by have := HB3.out.size; have := (Array.getElem?_eq_some_iff.1 HQ3.out).1; omega) (by have := HLT.out; omega)).trans HQ3.out)
          clear hr4 hk4 t0 t1 t2 t3 t4 x1 x2 f1 ht3
          go_wp2_with (first | (refine wpList_store_row rfl 95 _ _ rfl w.heap.size #[.int .i64 0, .string ⟨#[]⟩, .int .i64 0, .int .i64 0, .int .i64 0] rfl rfl 95 #[.int .i64 0, .string ⟨#[]⟩, .int .i64 0, .int .i64 0, .int .i64 0] HQ4.out (by kernel_rfl) rfl (tok_all zeroT) ?_))
          refine bodyPost_ret (results_cell_row rfl _ _ w.heap.size _ _ (0, 0) _ rfl (setRow_heap _ _ _ _ _ _ HQ4.out) Tryz.underlying95 rfl (by kernel_rfl)) rfl ?_
          rw [HTD.out]
          exact ⟨rfl, (setRow_other _ _ _ _ (by have := HLT.out; omega)).trans HR4.out, ((Keep.of HB3.out (by have := HLT.out; omega)).trans HK4.out).newRow (Nat.le_refl _) (by have := HLT.out; omega) _⟩
      · have c3 : (kind == 2) = false := beq_eq_false_iff_ne.2 h2
        have HTD := Lib.hid (show takeD L s kind k = (⟨s.at_ + 1, s.e, s.ln, s.cl⟩, t) by
          unfold takeD
          rw [if_neg (by rw [he]; decide), hn, if_neg (by unfold mis; rw [c2, c3]; simp)])
        have c6 : (s.e == 0) = true := beq_iff_eq.2 he
        have c7 : (s.e != 0) = false := by rw [bne, c6]; rfl
        clear he h1 h2 hn
        go_upto_region 8 with fail
        have hsum : ((s.at_ : Int) + 1) = ((s.at_ + 1 : Nat) : Int) := by omega
        try rw [hsum]
        obtain ⟨w4, hw4⟩ : ∃ w4, w3.setCell ⟨b, 1, none⟩ (.int .i64 ((s.at_ + 1 : Nat) : Int)) = w4 := ⟨_, rfl⟩
        have HR4 := Lib.hid (show RdAt b v ⟨s.at_ + 1, s.e, s.ln, s.cl⟩ X w4 by rw [← hw4]; exact HR3.out.set1 (s.at_ + 1))
        have HK4 := Lib.hid (show Keep b w w4 by rw [← hw4]; exact (Keep.of HB3.out (by have := HLT.out; omega)).set 1 _)
        have hne : ∀ k, k ≠ b → w4.heap[k]? = w3.heap[k]? := fun k hk => by rw [← hw4]; exact heap_setCell_other w3 ⟨b, 1, none⟩ k _ hk
        have HQ4 := Lib.hid ((hne w.heap.size (by have := HLT.out; omega)).trans HQ3.out)
        have ht4 := (hne w2.heap.size (by have := HLT.out; have := HZ2.out; omega)).trans ht3
        rw [hw4]
        clear hw4 hne t0 t1 t2 t3 t4 x1 x2 f1 ht3 hsum
        have t0 : w4.cell? ⟨w2.heap.size, 0, none⟩ = some (.int .i64 t.kind) := Lib.cell_of_heap ht4 0
        have t1 : w4.cell? ⟨w2.heap.size, 1, none⟩ = some (.string (ba t.text)) := Lib.cell_of_heap ht4 1
        have t2 : w4.cell? ⟨w2.heap.size, 2, none⟩ = some (.int .i64 t.num) := Lib.cell_of_heap ht4 2
        have t3 : w4.cell? ⟨w2.heap.size, 3, none⟩ = some (.int .i64 t.line) := Lib.cell_of_heap ht4 3
        have t4 : w4.cell? ⟨w2.heap.size, 4, none⟩ = some (.int .i64 t.col) := Lib.cell_of_heap ht4 4
        clear ht4
        go_wp2_with (first | (refine wpList_store_row rfl 95 _ _ rfl w.heap.size #[.int .i64 t.kind, .string (ba t.text), .int .i64 t.num, .int .i64 t.line, .int .i64 t.col] rfl rfl 95 #[.int .i64 0, .string ⟨#[]⟩, .int .i64 0, .int .i64 0, .int .i64 0] HQ4.out (by kernel_rfl) rfl (tok_all t) ?_))
        refine bodyPost_ret (results_cell_row rfl _ _ w.heap.size _ _ (0, 0) _ rfl (setRow_heap _ _ _ _ _ _ HQ4.out) Tryz.underlying95 rfl (by kernel_rfl)) rfl ?_
        rw [HTD.out]
        exact ⟨rfl, (setRow_other _ _ _ _ (by have := HLT.out; omega)).trans HR4.out, HK4.out.newRow (Nat.le_refl _) (by have := HLT.out; omega) _⟩
    · have c1 : (t.kind == kind) = false := beq_eq_false_iff_ne.2 h1
      have c2 : (t.kind != kind) = true := by rw [bne, c1]; rfl
      have HTD := Lib.hid (show takeD L s kind k = (failD s 7 t, zeroT) by
        unfold takeD
        rw [if_neg (by rw [he]; decide), hn, if_pos (by unfold mis; rw [c2]; rfl)])
      have c6 : (s.e == 0) = true := beq_iff_eq.2 he
      have c7 : (s.e != 0) = false := by rw [bne, c6]; rfl
      clear he h1 hn
      go_wp2_with fail
      refine (qfail_any b v s X 7 t w3 HR3.out).mono ?_
      rintro e w4 ⟨rfl, hr4, hk4⟩
      have HR4 := Lib.hid hr4
      have HK4 := Lib.hid hk4
      have HQ4 := Lib.hid ((hk4.block w.heap.size (by have := HB3.out.size; have := (Array.getElem?_eq_some_iff.1 HQ3.out).1; omega) (by have := HLT.out; omega)).trans HQ3.out)
      clear hr4 hk4 t0 t1 t2 t3 t4 x1 x2 f1 ht3
      go_wp2_with (first | (refine wpList_store_row rfl 95 _ _ rfl w.heap.size #[.int .i64 0, .string ⟨#[]⟩, .int .i64 0, .int .i64 0, .int .i64 0] rfl rfl 95 #[.int .i64 0, .string ⟨#[]⟩, .int .i64 0, .int .i64 0, .int .i64 0] HQ4.out (by kernel_rfl) rfl (tok_all zeroT) ?_))
      refine bodyPost_ret (results_cell_row rfl _ _ w.heap.size _ _ (0, 0) _ rfl (setRow_heap _ _ _ _ _ _ HQ4.out) Tryz.underlying95 rfl (by kernel_rfl)) rfl ?_
      rw [HTD.out]
      exact ⟨rfl, (setRow_other _ _ _ _ (by have := HLT.out; omega)).trans HR4.out, ((Keep.of HB3.out (by have := HLT.out; omega)).trans HK4.out).newRow (Nat.le_refl _) (by have := HLT.out; omega) _⟩
  · have HTD := Lib.hid (show takeD L s kind k = (s, zeroT) by unfold takeD; rw [if_pos he])
    have c6 : (s.e == 0) = false := beq_eq_false_iff_ne.2 he
    have c7 : (s.e != 0) = true := by rw [bne, c6]; rfl
    clear he hn
    clear t0 t1 t2 t3 t4
    go_wp2_with (first | (refine wpList_store_row rfl 95 _ _ rfl w.heap.size #[.int .i64 0, .string ⟨#[]⟩, .int .i64 0, .int .i64 0, .int .i64 0] rfl rfl 95 #[.int .i64 0, .string ⟨#[]⟩, .int .i64 0, .int .i64 0, .int .i64 0] HQ3.out (by kernel_rfl) rfl (tok_all zeroT) ?_))
    refine bodyPost_ret (results_cell_row rfl _ _ w.heap.size _ _ (0, 0) _ rfl (setRow_heap _ _ _ _ _ _ HQ3.out) Tryz.underlying95 rfl (by kernel_rfl)) rfl ?_
    rw [HTD.out]
    exact ⟨rfl, (setRow_other _ _ _ _ (by have := HLT.out; omega)).trans HR3.out, (Keep.of HB3.out (by have := HLT.out; omega)).newRow (Nat.le_refl _) (by have := HLT.out; omega) _⟩
end Go.Proofs.YtmihinhbcncbfaaGreatDoor
/- The walks of the reader's name, num, key, is, good, after, times. -/
namespace Go.Proofs.YtmihinhbcncbfaaGreatDoor
open Go.RowKit
theorem fd0 (t : TokD) (W : World) : (Instr.field 95 (.agg #[.int .i64 t.kind, .string (ba t.text), .int .i64 t.num, .int .i64 t.line, .int .i64 t.col]) 0).run Tryz.prog W = .ok (.int .i64 t.kind) W := by kernel_rfl
theorem fd1 (t : TokD) (W : World) : (Instr.field 95 (.agg #[.int .i64 t.kind, .string (ba t.text), .int .i64 t.num, .int .i64 t.line, .int .i64 t.col]) 1).run Tryz.prog W = .ok (.string (ba t.text)) W := by kernel_rfl
theorem fd2 (t : TokD) (W : World) : (Instr.field 95 (.agg #[.int .i64 t.kind, .string (ba t.text), .int .i64 t.num, .int .i64 t.line, .int .i64 t.col]) 2).run Tryz.prog W = .ok (.int .i64 t.num) W := by kernel_rfl
/-- The reader stands as it should. -/
structure RdOk (b : Nat) (v : Value) (L : List TokD) (s : Rd) (X : XV) (w : World) : Prop where
  S : Sl tkc 5 w v L (fun k => k < b)
  R : RdAt b v s X w
  at_ : s.at_ ≤ L.length
  len : L.length ≤ 1048576
theorem RdOk.lt {b : Nat} {v : Value} {L : List TokD} {s : Rd} {X : XV} {w : World} (h : RdOk b v L s X w) : b < w.heap.size := h.R.lt
theorem RdOk.next {b : Nat} {v : Value} {L : List TokD} {s s' : Rd} {X X' : XV} {w w' : World} (h : RdOk b v L s X w) (hr : RdAt b v s' X' w') (hk : Keep b w w') (ha : s'.at_ ≤ L.length) : RdOk b v L s' X' w' :=
  ⟨sl_keep h.S hk, hr, ha, h.len⟩
theorem RdOk.new {b : Nat} {v : Value} {L : List TokD} {s : Rd} {X : XV} {w w' : World} (h : RdOk b v L s X w) (k : Below w.heap.size w w') : RdOk b v L s X w' :=
  h.next (h.R.keep_new k) (Keep.of k (Nat.le_of_lt h.lt)) h.at_
theorem RdOk.frame {b : Nat} {v : Value} {L : List TokD} {s : Rd} {X : XV} {w w' : World} (h : RdOk b v L s X w) (hs : w.heap.size ≤ w'.heap.size) (hk : ∀ k, k ≤ b → w'.heap[k]? = w.heap[k]?) : RdOk b v L s X w' :=
  ⟨h.S.keep hs fun k _ hb => hk k (Nat.le_of_lt hb), (hk b (Nat.le_refl _)).trans h.R, h.at_, h.len⟩
theorem RdOk.set {b : Nat} {v : Value} {L : List TokD} {s : Rd} {X : XV} {w : World} (h : RdOk b v L s X w) {g : Nat} (hg : b < g) (i : Nat) (u : Value) : RdOk b v L s X (w.setCell ⟨g, i, none⟩ u) :=
  h.frame (by simp [World.setCell]) fun k hk => heap_setCell_other w ⟨g, i, none⟩ k u (by show k ≠ g; omega)
theorem RdOk.drewN {b : Nat} {v : Value} {L : List TokD} {s : Rd} {X : XV} {w : World} (h : RdOk b v L s X w) (n : Nat) : RdOk b v L s X (w.drewN n) := h.new (below_drewN (Below.refl _ _) n)
set_option maxRecDepth 100000 in
set_option maxHeartbeats 1000000 in
theorem qname_any (b : Nat) (v : Value) (L : List TokD) (s : Rd) (X : XV) (w : World) (h : RdOk b v L s X w) :
    Calls Tryz.prog 114 #[.pointer (some ⟨b, 0, none⟩)] w fun e w' => e = .returned (.string (ba (nameD L s).2)) ∧ RdOk b v L (nameD L s).1 X w' ∧ Keep b w w' := by
  have HT := qtake_any b v L s X 1 [] w h.S h.R (by have := h.at_; omega) h.len
  have HA := Lib.hid (nameD_le (s := s) h.at_)
  have HO := Lib.hid h
  unfold nameD at HA ⊢
  rw [show ba [] = ⟨#[]⟩ from rfl] at HT
  obtain ⟨⟨s', t⟩, ht⟩ : ∃ r, takeD L s 1 [] = r := ⟨_, rfl⟩
  rw [ht] at HT HA ⊢
  dsimp only [tkc] at HT HA ⊢
  clear ht h
  have hf1 := fd1 t
  go_enter Tryz.func114, Tryz.ntmps114
  go_wp2_with fail
  refine HT.mono ?_
  rintro e w2 ⟨rfl, hr, hk⟩
  have HK := Lib.hid hk
  have HN := Lib.hid (HO.out.next hr hk HA.out)
  clear hr hk HT
  go_wp2_with fail
  go_ret
  exact ⟨rfl, HN.out, HK.out⟩
set_option maxRecDepth 100000 in
set_option maxHeartbeats 1000000 in
theorem qnum_any (b : Nat) (v : Value) (L : List TokD) (s : Rd) (X : XV) (w : World) (h : RdOk b v L s X w) :
    Calls Tryz.prog 55 #[.pointer (some ⟨b, 0, none⟩)] w fun e w' => e = .returned (.int .i64 (numD L s).2) ∧ RdOk b v L (numD L s).1 X w' ∧ Keep b w w' := by
  have HT := qtake_any b v L s X 3 [] w h.S h.R (by have := h.at_; omega) h.len
  have HA := Lib.hid (numD_le (s := s) h.at_)
  have HO := Lib.hid h
  unfold numD at HA ⊢
  rw [show ba [] = ⟨#[]⟩ from rfl] at HT
  obtain ⟨⟨s', t⟩, ht⟩ : ∃ r, takeD L s 3 [] = r := ⟨_, rfl⟩
  rw [ht] at HT HA ⊢
  dsimp only [tkc] at HT HA ⊢
  clear ht h
  have hf2 := fd2 t
  go_enter Tryz.func55, Tryz.ntmps55
  go_wp2_with fail
  refine HT.mono ?_
  rintro e w2 ⟨rfl, hr, hk⟩
  have HK := Lib.hid hk
  have HN := Lib.hid (HO.out.next hr hk HA.out)
  clear hr hk HT
  go_wp2_with fail
  go_ret
  exact ⟨rfl, HN.out, HK.out⟩
set_option maxRecDepth 100000 in
set_option maxHeartbeats 1000000 in
theorem qkey_any (b : Nat) (v : Value) (L : List TokD) (s : Rd) (X : XV) (k : List UInt8) (w : World) (h : RdOk b v L s X w) :
    Calls Tryz.prog 54 #[.pointer (some ⟨b, 0, none⟩), .string (ba k)] w fun e w' => e = .returned (.tuple #[]) ∧ RdOk b v L (keyD L s k) X w' ∧ Keep b w w' := by
  have HT := qtake_any b v L s X 2 k w h.S h.R (by have := h.at_; omega) h.len
  have HA := Lib.hid (keyD_le (s := s) (k := k) h.at_)
  have HO := Lib.hid h
  unfold keyD at HA ⊢
  obtain ⟨⟨s', t⟩, ht⟩ : ∃ r, takeD L s 2 k = r := ⟨_, rfl⟩
  rw [ht] at HT HA ⊢
  dsimp only [tkc] at HT HA ⊢
  clear ht h
  go_enter Tryz.func54, Tryz.ntmps54
  go_wp2_with fail
  refine HT.mono ?_
  rintro e w2 ⟨rfl, hr, hk⟩
  have HK := Lib.hid hk
  have HN := Lib.hid (HO.out.next hr hk HA.out)
  clear hr hk HT
  go_wp2_with fail
  go_end0
  exact ⟨rfl, HN.out, HK.out⟩
set_option maxRecDepth 100000 in
set_option maxHeartbeats 1000000 in
theorem qgood_any (b : Nat) (v : Value) (s : Rd) (X : XV) (w : World) (h : RdAt b v s X w) :
    Calls Tryz.prog 57 #[.pointer (some ⟨b, 0, none⟩)] w fun e w' => e = .returned (.bool (s.e == 0)) ∧ w = w' := by
  have x2 : w.cell? ⟨b, 2, none⟩ = some (.int .i64 s.e) := Lib.cell_of_heap h 2
  clear h
  go_enter Tryz.func57, Tryz.ntmps57
  go_wp2_with fail
  go_ret
  exact ⟨rfl, rfl⟩
set_option maxRecDepth 100000 in
set_option maxHeartbeats 2000000 in
theorem qis_any (b : Nat) (v : Value) (L : List TokD) (s : Rd) (X : XV) (k : List UInt8) (w : World) (h : RdOk b v L s X w) :
    Calls Tryz.prog 128 #[.pointer (some ⟨b, 0, none⟩), .string (ba k)] w fun e w' => e = .returned (.bool (isD L s k)) ∧ Below w.heap.size w w' := by
  have HT := Lib.hid (qnow_any b v L s X w h.S h.R)
  have HT2 := Lib.hid (fun w2 hb => qnow_any b v L s X w2 (h.new hb).S (h.new hb).R)
  unfold isD
  obtain ⟨t, ht⟩ : ∃ t, nowD L s = t := ⟨_, rfl⟩
  simp only [ht] at HT HT2 ⊢
  dsimp only [tkc] at HT HT2
  clear ht h
  by_cases h1 : t.kind = 2
  · have c1 : (t.kind == 2) = true := beq_iff_eq.2 h1
    have HQ := Lib.hid (show ((ba t.text).toList == (ba k).toList) = (t.text == k) by rw [ba_toList, ba_toList])
    have c2 := HQ.out
    rw [c1, Bool.true_and]
    obtain ⟨q, hq⟩ : ∃ q, (t.text == k) = q := ⟨_, rfl⟩
    rw [hq] at c2 ⊢
    clear h1 hq HQ
    have hf0 := fd0 t
    have hf1 := fd1 t
    go_enter Tryz.func128, Tryz.ntmps128
    go_wp2_with fail
    refine HT.out.mono ?_
    rintro e w2 ⟨rfl, hb⟩
    have HB := Lib.hid hb
    clear hb
    go_wp2_with fail
    refine (HT2.out w2 HB.out).mono ?_
    rintro e w3 ⟨rfl, hb⟩
    have HB3 := Lib.hid (HB.out.trans (hb.mono HB.out.size))
    clear hb
    go_wp2_with fail
    go_ret
    exact ⟨rfl, HB3.out⟩
  · have c1 : (t.kind == 2) = false := beq_eq_false_iff_ne.2 h1
    rw [c1, Bool.false_and]
    clear h1
    have hf0 := fd0 t
    have hf1 := fd1 t
    go_enter Tryz.func128, Tryz.ntmps128
    go_wp2_with fail
    refine HT.out.mono ?_
    rintro e w2 ⟨rfl, hb⟩
    have HB := Lib.hid hb
    clear hb
    go_wp2_with fail
    go_ret
    exact ⟨rfl, HB.out⟩
set_option maxRecDepth 100000 in
set_option maxHeartbeats 1000000 in
theorem qafter_any (b : Nat) (v : Value) (L : List TokD) (s : Rd) (X : XV) (k : List UInt8) (w : World) (h : RdOk b v L s X w) :
    Calls Tryz.prog 117 #[.pointer (some ⟨b, 0, none⟩), .string (ba k)] w fun e w' => e = .returned (.int .i64 (afterD L s k).2) ∧ RdOk b v L (afterD L s k).1 X w' ∧ Keep b w w' := by
  have HT := Lib.hid (qkey_any b v L s X k w h)
  have HN := Lib.hid (fun w2 h2 => qnum_any b v L (keyD L s k) X w2 h2)
  unfold afterD
  clear h
  go_enter Tryz.func117, Tryz.ntmps117
  go_wp2_with fail
  refine HT.out.mono ?_
  rintro e w2 ⟨rfl, ho, hk⟩
  have HK := Lib.hid hk
  have HO := Lib.hid ho
  clear ho hk
  go_wp2_with fail
  refine (HN.out w2 HO.out).mono ?_
  rintro e w3 ⟨rfl, ho, hk⟩
  have HK3 := Lib.hid (HK.out.trans hk)
  have HO3 := Lib.hid ho
  clear ho hk HK HO
  go_wp2_with fail
  go_ret
  exact ⟨rfl, HO3.out, HK3.out⟩
def timesRD (L : List TokD) (s : Rd) (k : List UInt8) : Rd × TimesD :=
  ((afterD L (afterD L (afterD L s kFrom).1 kEvery).1 k).1, ⟨(afterD L s kFrom).2, (afterD L (afterD L s kFrom).1 kEvery).2, (afterD L (afterD L (afterD L s kFrom).1 kEvery).1 k).2⟩)
theorem three_allQ (a b c : Int) : (#[Value.int .i64 a, .int .i64 b, .int .i64 c] : Array Value).all (·.oneCell') = true := by simp [Value.oneCell']
set_option maxRecDepth 100000 in
set_option maxHeartbeats 4000000 in
theorem qtimes_any (b : Nat) (v : Value) (L : List TokD) (s : Rd) (X : XV) (k : List UInt8) (w : World) (h : RdOk b v L s X w) :
    Calls Tryz.prog 115 #[.pointer (some ⟨b, 0, none⟩), .string (ba k)] w fun e w' => e = .returned (.agg (tc (timesRD L s k).2).toArray) ∧ RdOk b v L (timesRD L s k).1 X w' ∧ Keep b w w' := by
  have HLT := Lib.hid h.lt
  have HO := Lib.hid h
  have h1 := fun w2 h2 => qafter_any b v L s X kFrom w2 h2
  have h2 := fun w2 h2 => qafter_any b v L (afterD L s kFrom).1 X kEvery w2 h2
  have h3 := fun w2 h2 => qafter_any b v L (afterD L (afterD L s kFrom).1 kEvery).1 X k w2 h2
  unfold timesRD
  obtain ⟨⟨s1, n1⟩, e1⟩ : ∃ r, afterD L s kFrom = r := ⟨_, rfl⟩
  simp only [e1] at h1 h2 h3 ⊢
  obtain ⟨⟨s2, n2⟩, e2⟩ : ∃ r, afterD L s1 kEvery = r := ⟨_, rfl⟩
  simp only [e2] at h2 h3 ⊢
  obtain ⟨⟨s3, n3⟩, e3⟩ : ∃ r, afterD L s2 k = r := ⟨_, rfl⟩
  simp only [e3] at h3 ⊢
  rw [show ba kFrom = ⟨#[102, 114, 111, 109]⟩ from rfl] at h1
  rw [show ba kEvery = ⟨#[101, 118, 101, 114, 121]⟩ from rfl] at h2
  have H1 := Lib.hid h1
  have H2 := Lib.hid h2
  have H3 := Lib.hid h3
  clear e1 e2 e3 h1 h2 h3 h
  unfold tc
  dsimp only
  go_enter Tryz.func115, Tryz.ntmps115
  go_upto_region 1 with fail
  obtain ⟨w1, hw1⟩ : ∃ w1, w.alloc (.cells #[.int .i64 0, .int .i64 0, .int .i64 0] 33) = w1 := ⟨_, rfl⟩
  have HB1 := Lib.hid (show Below w.heap.size w w1 by rw [← hw1]; exact (Below.refl _ _).alloc (Nat.le_refl _) _)
  have HQ1 := Lib.hid (show w1.heap[w.heap.size]? = some (.cells #[.int .i64 0, .int .i64 0, .int .i64 0] 33 (0, 0)) by rw [← hw1]; exact heap_alloc_new _ _)
  have HZ1 := Lib.hid (show w1.heap.size = w.heap.size + 1 by rw [← hw1]; simp)
  rw [hw1]
  clear hw1
  go_wp2_with fail
  refine (H1.out w1 (HO.out.new HB1.out)).mono ?_
  rintro e w2 ⟨rfl, ho, hk⟩
  have HO2 := Lib.hid ho
  have HK2 := Lib.hid ((Keep.of HB1.out (Nat.le_of_lt HLT.out)).trans hk)
  have HQ2 := Lib.hid ((hk.block w.heap.size (by have := HZ1.out; omega) (by have := HLT.out; omega)).trans HQ1.out)
  have HZ2 := Lib.hid (show w.heap.size + 1 ≤ w2.heap.size by have := hk.size; have := HZ1.out; omega)
  clear ho hk H1 HQ1 HB1
  go_upto_region 2 with fail
  obtain ⟨w3, hw3⟩ : ∃ w3, w2.alloc (.cells #[.int .i64 n1, .int .i64 0, .int .i64 0] 33) = w3 := ⟨_, rfl⟩
  have hb3 : Below w2.heap.size w2 w3 := by rw [← hw3]; exact (Below.refl _ _).alloc (Nat.le_refl _) _
  have HT3 := Lib.hid (show w3.heap[w2.heap.size]? = some (.cells #[.int .i64 n1, .int .i64 0, .int .i64 0] 33 (0, 0)) by rw [← hw3]; exact heap_alloc_new _ _)
  have HZ3 := Lib.hid (show w3.heap.size = w2.heap.size + 1 by rw [← hw3]; simp)
  have HO3 := Lib.hid (HO2.out.new hb3)
  have HK3 := Lib.hid (HK2.out.trans (Keep.of hb3 (by have := HLT.out; have := HZ2.out; omega)))
  have HQ3 := Lib.hid ((hb3.block w.heap.size (by have := HZ2.out; omega)).trans HQ2.out)
  rw [hw3]
  clear hw3 hb3 HO2 HK2 HQ2
  go_wp2_with fail
  refine (H2.out w3 HO3.out).mono ?_
  rintro e w4 ⟨rfl, ho, hk⟩
  have hne : ∀ k, w.heap.size ≤ k → k ≠ b := fun k h => by have := HLT.out; omega
  have HT4 := Lib.hid ((hk.block w2.heap.size (by have := HZ3.out; omega) (hne _ (by have := HZ2.out; omega))).trans HT3.out)
  have HQ4 := Lib.hid ((hk.block w.heap.size (by have := HZ3.out; have := HZ2.out; omega) (hne _ (Nat.le_refl _))).trans HQ3.out)
  have HK4 := Lib.hid (HK3.out.trans hk)
  have HO4 := Lib.hid ho
  have HZ4 := Lib.hid (show w2.heap.size < w4.heap.size by have := hk.size; have := HZ3.out; omega)
  clear ho hk H2 HT3 HQ3 HK3 HO3
  have y1 : w4.cell? ⟨w2.heap.size, 1, none⟩ = some (.int .i64 0) := Lib.cell_of_heap HT4.out 1
  have y2 : w4.frozen? ⟨w2.heap.size, 1, none⟩ = false := Lib.frozen_of_heap HT4.out 1
  go_upto_region 3 with fail
  clear y1 y2
  obtain ⟨w5, hw5⟩ : ∃ w5, w4.setCell ⟨w2.heap.size, 1, none⟩ (.int .i64 n2) = w5 := ⟨_, rfl⟩
  have HO5 := Lib.hid (show RdOk b v L s2 X w5 by rw [← hw5]; exact HO4.out.set (by have := HLT.out; have := HZ2.out; omega) _ _)
  have HK5 := Lib.hid (show Keep b w w5 by rw [← hw5]; exact HK4.out.newSet (by have := HZ2.out; omega) (Nat.le_of_lt HLT.out) _ _)
  have HT5 := Lib.hid (show w5.heap[w2.heap.size]? = some (.cells #[.int .i64 n1, .int .i64 n2, .int .i64 0] 33 (0, 0)) by rw [← hw5]; exact heap_setCell_same w4 w2.heap.size 1 _ _ _ HT4.out)
  have HQ5 := Lib.hid (show w5.heap[w.heap.size]? = some (.cells #[.int .i64 0, .int .i64 0, .int .i64 0] 33 (0, 0)) by rw [← hw5]; exact (heap_setCell_other w4 ⟨w2.heap.size, 1, none⟩ _ _ (by show w.heap.size ≠ w2.heap.size; have := HZ2.out; omega)).trans HQ4.out)
  have HZ5 := Lib.hid (show w2.heap.size < w5.heap.size from (Array.getElem?_eq_some_iff.1 HT5.out).1)
  rw [hw5]
  clear hw5 HO4 HK4 HT4 HQ4 HZ4
  go_wp2_with fail
  refine (H3.out w5 HO5.out).mono ?_
  rintro e w6 ⟨rfl, ho, hk⟩
  have HT6 := Lib.hid ((hk.block w2.heap.size HZ5.out (hne _ (by have := HZ2.out; omega))).trans HT5.out)
  have HQ6 := Lib.hid ((hk.block w.heap.size (by have := HZ5.out; have := HZ2.out; omega) (hne _ (Nat.le_refl _))).trans HQ5.out)
  have HK6 := Lib.hid (HK5.out.trans hk)
  have HO6 := Lib.hid ho
  clear ho hk H3 HT5 HQ5 HK5 HO5
  have y1 : w6.cell? ⟨w2.heap.size, 2, none⟩ = some (.int .i64 0) := Lib.cell_of_heap HT6.out 2
  have y2 : w6.frozen? ⟨w2.heap.size, 2, none⟩ = false := Lib.frozen_of_heap HT6.out 2
  go_upto_region 4 with fail
  clear y1 y2
  obtain ⟨w7, hw7⟩ : ∃ w7, w6.setCell ⟨w2.heap.size, 2, none⟩ (.int .i64 n3) = w7 := ⟨_, rfl⟩
  have HO7 := Lib.hid (show RdOk b v L s3 X w7 by rw [← hw7]; exact HO6.out.set (by have := HLT.out; have := HZ2.out; omega) _ _)
  have HK7 := Lib.hid (show Keep b w w7 by rw [← hw7]; exact HK6.out.newSet (by have := HZ2.out; omega) (Nat.le_of_lt HLT.out) _ _)
  have HT7 := Lib.hid (show w7.heap[w2.heap.size]? = some (.cells #[.int .i64 n1, .int .i64 n2, .int .i64 n3] 33 (0, 0)) by rw [← hw7]; exact heap_setCell_same w6 w2.heap.size 2 _ _ _ HT6.out)
  have HQ7 := Lib.hid (show w7.heap[w.heap.size]? = some (.cells #[.int .i64 0, .int .i64 0, .int .i64 0] 33 (0, 0)) by rw [← hw7]; exact (heap_setCell_other w6 ⟨w2.heap.size, 2, none⟩ _ _ (by show w.heap.size ≠ w2.heap.size; have := HZ2.out; omega)).trans HQ6.out)
  rw [hw7]
  clear hw7 HO6 HK6 HT6 HQ6
  have t0 : w7.cell? ⟨w2.heap.size, 0, none⟩ = some (.int .i64 n1) := Lib.cell_of_heap HT7.out 0
  have t1 : w7.cell? ⟨w2.heap.size, 1, none⟩ = some (.int .i64 n2) := Lib.cell_of_heap HT7.out 1
  have t2 : w7.cell? ⟨w2.heap.size, 2, none⟩ = some (.int .i64 n3) := Lib.cell_of_heap HT7.out 2
  go_wp2_with (first | (refine wpList_store_row rfl 33 _ _ rfl w.heap.size #[.int .i64 n1, .int .i64 n2, .int .i64 n3] rfl rfl 33 #[.int .i64 0, .int .i64 0, .int .i64 0] HQ7.out (by kernel_rfl) rfl (three_allQ _ _ _) ?_))
  refine bodyPost_ret (results_cell_row rfl _ _ w.heap.size _ _ (0, 0) _ rfl (setRow_heap _ _ _ _ _ _ HQ7.out) Tryz.underlying33 rfl (by kernel_rfl)) rfl ?_
  exact ⟨rfl, HO7.out.frame (by simp [World.setRow]) fun k hk => setRow_other _ _ _ _ (by have := HLT.out; omega), HK7.out.newRow (Nat.le_refl _) (Nat.le_of_lt HLT.out) _⟩
end Go.Proofs.YtmihinhbcncbfaaGreatDoor
/- The walk of the reader's route. Printed by wip/bin/genqd.py. -/
namespace Go.Proofs.YtmihinhbcncbfaaGreatDoor
open Go.RowKit
/-- The loop of a route's stops. -/
def midR (L : List TokD) (s : Rd) (n : Nat) : Rd := if n = 32 ∧ s.e = 0 ∧ (nowD L s).kind = 1 then failD s 3 (nowD L s) else s
def stayR (L : List TokD) (s : Rd) : Rd × Int := if isD L s kStay = true then afterD L s kStay else (s, 0)
def routeRun (L : List TokD) : Nat → Rd → Nms → List Int → List Int → Rd × RouteD × Unit
  | 0, s, ss, rs, ys => (s, ⟨[], ss, rs, ys⟩, ())
  | n + 1, s, ss, rs, ys =>
    if s.e ≠ 0 then (s, ⟨[], ss, rs, ys⟩, ())
    else
      let m := nameD L (midR L (numD L s).1 ss.length)
      if m.1.e ≠ 0 ∨ (nowD L m.1).kind = 4 then (m.1, ⟨[], ss ++ [m.2], rs ++ [(numD L s).2], ys⟩, ())
      else routeRun L n (stayR L m.1).1 (ss ++ [m.2]) (rs ++ [(numD L s).2]) (ys ++ [(stayR L m.1).2])
def routeRD (L : List TokD) (s : Rd) : Rd × RouteD :=
  let r := routeRun L (L.length + 1) (nameD L (nameD L s).1).1 [(nameD L (nameD L s).1).2] [] []
  (r.1, { r.2.1 with name := (nameD L s).2 })
theorem midR_le {L : List TokD} {s : Rd} {n : Nat} (h : s.at_ ≤ L.length) : (midR L s n).at_ ≤ L.length := by
  unfold midR
  split
  · unfold failD; split <;> exact h
  · exact h
theorem failD_e {s : Rd} {er : Int} {t : TokD} (h : s.e ≠ 0) : (failD s er t).e ≠ 0 := by unfold failD; rw [if_neg h]; exact h
theorem takeD_ok {L : List TokD} {s : Rd} {kind : Int} {k : List UInt8} (h : (takeD L s kind k).1.e = 0) : s.e = 0 ∧ (takeD L s kind k).1.at_ = s.at_ + 1 := by
  unfold takeD at h ⊢
  by_cases he : s.e ≠ 0
  · rw [if_pos he] at h; exact absurd h he
  · rw [if_neg he] at h ⊢
    have he0 : s.e = 0 := by simpa using he
    by_cases hm : mis (nowD L s) kind k = true
    · rw [if_pos hm] at h
      unfold failD at h
      rw [if_pos he0] at h
      exact absurd h (by show (7 : Int) ≠ 0; decide)
    · rw [if_neg hm]; exact ⟨he0, rfl⟩
theorem midR_ok {L : List TokD} {s : Rd} {n : Nat} (h : (midR L s n).e = 0) : midR L s n = s := by
  unfold midR at h ⊢
  split
  · rename_i hc
    rw [if_pos hc] at h
    unfold failD at h
    rw [if_pos hc.2.1] at h
    exact absurd h (by show (3 : Int) ≠ 0; decide)
  · rfl
theorem stayR_le {L : List TokD} {s : Rd} (h : s.at_ ≤ L.length) : (stayR L s).1.at_ ≤ L.length := by
  unfold stayR
  split
  · exact afterD_le h
  · exact h
theorem stayR_at {L : List TokD} {s : Rd} (h : (stayR L s).1.e = 0) : s.at_ ≤ (stayR L s).1.at_ := by
  unfold stayR at h ⊢
  split
  · rename_i hc
    rw [if_pos hc] at h
    have h1 := takeD_ok (show (takeD L (keyD L s kStay) 3 []).1.e = 0 from h)
    have h2 := takeD_ok (show (takeD L s 2 kStay).1.e = 0 from h1.1)
    have h3 : (afterD L s kStay).1.at_ = (keyD L s kStay).at_ + 1 := h1.2
    have h4 : (keyD L s kStay).at_ = s.at_ + 1 := h2.2
    omega
  · exact Nat.le_refl _
theorem round_at {L : List TokD} {s : Rd} {n : Nat} (h : (stayR L (nameD L (midR L (numD L s).1 n)).1).1.e = 0) (hm : (nameD L (midR L (numD L s).1 n)).1.e = 0) : s.at_ + 2 ≤ (stayR L (nameD L (midR L (numD L s).1 n)).1).1.at_ := by
  have h1 := stayR_at h
  have h2 := takeD_ok (show (takeD L (midR L (numD L s).1 n) 1 []).1.e = 0 from hm)
  have h3 := midR_ok h2.1
  have h4 := takeD_ok (show (takeD L s 3 []).1.e = 0 by have := h2.1; rw [h3] at this; exact this)
  have h5 : (nameD L (midR L (numD L s).1 n)).1.at_ = (midR L (numD L s).1 n).at_ + 1 := h2.2
  rw [h3] at h5 h1
  have h6 : (numD L s).1.at_ = s.at_ + 1 := h4.2
  rw [h3]
  omega
theorem routeRun_bad {L : List TokD} {n : Nat} {s : Rd} {ss : Nms} {rs ys : List Int} (h : s.e ≠ 0) : routeRun L n s ss rs ys = (s, ⟨[], ss, rs, ys⟩, ()) := by
  cases n with
  | zero => rfl
  | succ n => unfold routeRun; rw [if_pos h]
theorem routeRun_ret {L : List TokD} {n : Nat} {s : Rd} {ss : Nms} {rs ys : List Int} (h : s.e = 0) (hm : (nameD L (midR L (numD L s).1 ss.length)).1.e ≠ 0 ∨ (nowD L (nameD L (midR L (numD L s).1 ss.length)).1).kind = 4) :
    routeRun L (n + 1) s ss rs ys = ((nameD L (midR L (numD L s).1 ss.length)).1, ⟨[], ss ++ [(nameD L (midR L (numD L s).1 ss.length)).2], rs ++ [(numD L s).2], ys⟩, ()) := by
  unfold routeRun
  rw [if_neg (by rw [h]; decide), if_pos hm]
theorem routeRun_go {L : List TokD} {n : Nat} {s : Rd} {ss : Nms} {rs ys : List Int} (h : s.e = 0) (hm : ¬ ((nameD L (midR L (numD L s).1 ss.length)).1.e ≠ 0 ∨ (nowD L (nameD L (midR L (numD L s).1 ss.length)).1).kind = 4)) :
    routeRun L (n + 1) s ss rs ys = routeRun L n (stayR L (nameD L (midR L (numD L s).1 ss.length)).1).1 (ss ++ [(nameD L (midR L (numD L s).1 ss.length)).2]) (rs ++ [(numD L s).2]) (ys ++ [(stayR L (nameD L (midR L (numD L s).1 ss.length)).1).2]) := by
  conv => lhs; unfold routeRun
  rw [if_neg (by rw [h]; decide), if_neg hm]
/-- A route that is being read: its rows, its block, the result's block. -/
structure Rt (B p q b : Nat) (nm : List UInt8) (vs vr vy : Value) (ss : Nms) (rs ys : List Int) (w : World) : Prop where
  s : Ow nc 1 w B 9 vs ss
  r : Ow ic 1 w B 2 vr rs
  y : Ow ic 1 w B 2 vy ys
  ry : ∀ k, vr.ownBlock = some k → vy.ownBlock ≠ some k
  res : w.heap[p]? = some (.cells #[.string ⟨#[]⟩, .slice none 0 0, .slice none 0 0, .slice none 0 0] 38 (0, 0))
  x : w.heap[q]? = some (.cells #[.string (ba nm), vs, vr, vy] 38 (0, 0))
  hb : b < B
  hp : B ≤ p
  hq : B ≤ q
  hpq : p ≠ q
section
variable {B p q b : Nat} {nm : List UInt8} {vs vr vy v' : Value} {ss ss' : Nms} {rs ys xs' : List Int} {w w' : World}
theorem Rt.lq (h : Rt B p q b nm vs vr vy ss rs ys w) : q < w.heap.size := (Array.getElem?_eq_some_iff.1 h.x).1
theorem Rt.lp (h : Rt B p q b nm vs vr vy ss rs ys w) : p < w.heap.size := (Array.getElem?_eq_some_iff.1 h.res).1
theorem Rt.lB (h : Rt B p q b nm vs vr vy ss rs ys w) : B ≤ w.heap.size := Nat.le_trans h.hp (Nat.le_of_lt h.lp)
theorem Rt.keep (h : Rt B p q b nm vs vr vy ss rs ys w) (k : Keep b w w') : Rt B p q b nm vs vr vy ss rs ys w' := by
  have hk : ∀ i, B ≤ i → i < w.heap.size → w'.heap[i]? = w.heap[i]? := fun i h1 h2 => k.block i h2 (by have := h.hb; omega)
  exact ⟨h.s.keepB hk, h.r.keepB hk, h.y.keepB hk, h.ry, (hk p h.hp h.lp).trans h.res, (hk q h.hq h.lq).trans h.x, h.hb, h.hp, h.hq, h.hpq⟩
theorem Rt.same (h : Rt B p q b nm vs vr vy ss rs ys w) (e : w'.heap = w.heap) : Rt B p q b nm vs vr vy ss rs ys w' :=
  ⟨h.s.keepB fun i _ _ => by rw [e], h.r.keepB fun i _ _ => by rw [e], h.y.keepB fun i _ _ => by rw [e], h.ry, by rw [e]; exact h.res, by rw [e]; exact h.x, h.hb, h.hp, h.hq, h.hpq⟩
theorem Rt.drewN (h : Rt B p q b nm vs vr vy ss rs ys w) (n : Nat) : Rt B p q b nm vs vr vy ss rs ys (w.drewN n) := ⟨h.s.drewN n, h.r.drewN n, h.y.drewN n, h.ry, h.res, h.x, h.hb, h.hp, h.hq, h.hpq⟩
theorem Rt.alloc (h : Rt B p q b nm vs vr vy ss rs ys w) (o : Obj) : Rt B p q b nm vs vr vy ss rs ys (w.alloc o) := h.keep (Keep.of ((Below.refl _ _).alloc (Nat.le_refl _) o) (by have := h.hb; have := h.lB; omega))
theorem Rt.putS (h : Rt B p q b nm vs vr vy ss rs ys w) (hown : Ow nc 1 w' B 9 v' ss') (hg : w.grownBy w' vs.ownBlock) : Rt B p q b nm v' vr vy ss' rs ys (w'.setCell ⟨q, 1, none⟩ v') := by
  have hxq := (hg.block q h.lq (Ne.symm (ow_ne h.s h.x (by decide)))).trans h.x
  have hxp := (hg.block p h.lp (Ne.symm (ow_ne h.s h.res (by decide)))).trans h.res
  have hr := h.r.kept hg (ow_apart h.r h.s (by decide))
  have hy := h.y.kept hg (ow_apart h.y h.s (by decide))
  exact ⟨hown.set (ow_ne hown hxq (by decide)), hr.set (ow_ne hr hxq (by decide)), hy.set (ow_ne hy hxq (by decide)), h.ry, (heap_setCell_other w' ⟨q, 1, none⟩ p v' h.hpq).trans hxp, heap_setCell_same w' q 1 _ _ v' hxq, h.hb, h.hp, h.hq, h.hpq⟩
theorem Rt.putR (h : Rt B p q b nm vs vr vy ss rs ys w) (hown : Ow ic 1 w' B 2 v' xs') (hg : w.grownBy w' vr.ownBlock) (hm : Moved w vr v') : Rt B p q b nm vs v' vy ss xs' ys (w'.setCell ⟨q, 2, none⟩ v') := by
  have hxq := (hg.block q h.lq (Ne.symm (ow_ne h.r h.x (by decide)))).trans h.x
  have hxp := (hg.block p h.lp (Ne.symm (ow_ne h.r h.res (by decide)))).trans h.res
  have hs := h.s.kept hg (ow_apart h.s h.r (by decide))
  have hyr : vy.ownBlock = none ∨ vy.ownBlock ≠ vr.ownBlock := by
    rcases hv : vy.ownBlock with _ | k
    · exact .inl rfl
    · exact .inr fun e => h.ry k e.symm hv
  have hy := h.y.kept hg hyr
  refine ⟨hs.set (ow_ne hs hxq (by decide)), hown.set (ow_ne hown hxq (by decide)), hy.set (ow_ne hy hxq (by decide)), fun k hk hk2 => ?_, (heap_setCell_other w' ⟨q, 2, none⟩ p v' h.hpq).trans hxp, heap_setCell_same w' q 2 _ _ v' hxq, h.hb, h.hp, h.hq, h.hpq⟩
  rcases hm with hm | ⟨g, hm, hge⟩
  · exact h.ry k (hm ▸ hk) hk2
  · rw [hm] at hk; injection hk with hk; have := (h.y.lt hk2).2; omega
theorem Rt.putY (h : Rt B p q b nm vs vr vy ss rs ys w) (hown : Ow ic 1 w' B 2 v' xs') (hg : w.grownBy w' vy.ownBlock) (hm : Moved w vy v') : Rt B p q b nm vs vr v' ss rs xs' (w'.setCell ⟨q, 3, none⟩ v') := by
  have hxq := (hg.block q h.lq (Ne.symm (ow_ne h.y h.x (by decide)))).trans h.x
  have hxp := (hg.block p h.lp (Ne.symm (ow_ne h.y h.res (by decide)))).trans h.res
  have hs := h.s.kept hg (ow_apart h.s h.y (by decide))
  have hry : vr.ownBlock = none ∨ vr.ownBlock ≠ vy.ownBlock := by
    rcases hv : vr.ownBlock with _ | k
    · exact .inl rfl
    · exact .inr fun e => h.ry k hv e.symm
  have hr := h.r.kept hg hry
  refine ⟨hs.set (ow_ne hs hxq (by decide)), hr.set (ow_ne hr hxq (by decide)), hown.set (ow_ne hown hxq (by decide)), fun k hk hk2 => ?_, (heap_setCell_other w' ⟨q, 3, none⟩ p v' h.hpq).trans hxp, heap_setCell_same w' q 3 _ _ v' hxq, h.hb, h.hp, h.hq, h.hpq⟩
  rcases hm with hm | ⟨g, hm, hge⟩
  · exact h.ry k hk (hm ▸ hk2)
  · rw [hm] at hk2; injection hk2 with hk2; have := (h.r.lt hk).2; omega
theorem Rt.good (h : Rt B p q b nm vs vr vy ss rs ys w) (cs : Array Value) : (⟨nm, vs, vr, vy, ss, rs, ys⟩ : RouteM).Good (w.setRow p cs) (fun k => B ≤ k) := by
  have hs : ∀ k, k ≠ p → (w.setRow p cs).heap[k]? = w.heap[k]? := fun k hk => setRow_other w p k cs hk
  have hz : w.heap.size ≤ (w.setRow p cs).heap.size := by simp [World.setRow]
  refine ⟨?_, ?_, ?_⟩
  · exact ((h.s.sl nc_len).keep hz fun k _ hk => hs k (fun e => ow_ne h.s h.res (by decide) (e ▸ hk.1))).mono fun k hk => hk.2
  · exact ((h.r.sl ic_len).keep hz fun k _ hk => hs k (fun e => ow_ne h.r h.res (by decide) (e ▸ hk.1))).mono fun k hk => hk.2
  · exact ((h.y.sl ic_len).keep hz fun k _ hk => hs k (fun e => ow_ne h.y h.res (by decide) (e ▸ hk.1))).mono fun k hk => hk.2
/-- The row grown, and the cell stored: below the route's blocks nothing is turned. -/
theorem Rt.kp (h : Rt B p q b nm vs vr vy ss rs ys w) {W : World} (hW : Keep b W w) (hWB : W.heap.size ≤ B) {row : Option Nat} (hg : w.grownBy w' row) (hr : ∀ k, row = some k → B ≤ k) : Keep b W w' :=
  ⟨hW.below.grown hg (by have := h.lB; have := h.hb; omega) (fun k hk => by have := hr k hk; have := h.hb; omega), fun k hk hkb => (hg.block k (Nat.lt_of_lt_of_le hk hW.size) (fun e => by have := hr k e.symm; omega)).trans (hW.block k hk hkb)⟩
end
end Go.Proofs.YtmihinhbcncbfaaGreatDoor
