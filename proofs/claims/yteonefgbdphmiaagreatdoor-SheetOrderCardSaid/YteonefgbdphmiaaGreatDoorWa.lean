/- Package sheet's reader: its place in memory; the walks of its now, fail, take, is, key, name, num, behind, times. What it panics with. -/
import Derived.Test.YteonefgbdphmiaaGreatDoorPb
import Derived.Test.YteonefgbdphmiaaGreatDoorQk
import Derived.Defers
import Derived.Recover
namespace Go.Proofs.YteonefgbdphmiaaGreatDoor
open Go.RowKit
/-- The block b holds the reader. -/
def SrAt (b : Nat) (v : Value) (X : XV) (w : World) : Prop :=
  w.heap[b]? = some (.cells #[v, .int .i64 X.h, X.vs, X.vp, X.vd, X.vr, X.vt, X.vh] 78 (0, 0))
/-- The reader stands as it should: at token i. -/
structure SOk (b : Nat) (L : List TokD) (i : Nat) (X : XV) (w : World) : Prop where
  S : ∃ v, Sl tkc 5 w v (L.drop i) (fun k => k < b) ∧ SrAt b v X w
  at_ : i ≤ L.length
  len : L.length ≤ 1048576
section
variable {b i : Nat} {L : List TokD} {X : XV} {w w' : World}
theorem SOk.lt (h : SOk b L i X w) : b < w.heap.size := by
  obtain ⟨v, _, hR⟩ := h.S
  exact (Array.getElem?_eq_some_iff.1 hR).1
theorem SOk.frame (h : SOk b L i X w) (hs : w.heap.size ≤ w'.heap.size) (hk : ∀ k, k ≤ b → w'.heap[k]? = w.heap[k]?) : SOk b L i X w' := by
  obtain ⟨v, hS, hR⟩ := h.S
  exact ⟨⟨v, hS.keep hs fun k _ hb => hk k (Nat.le_of_lt hb), (hk b (Nat.le_refl _)).trans hR⟩, h.at_, h.len⟩
theorem SOk.new (h : SOk b L i X w) (k : Below w.heap.size w w') : SOk b L i X w' := h.frame k.size fun j hj => k.block j (Nat.lt_of_le_of_lt hj h.lt)
theorem SOk.set (h : SOk b L i X w) {g : Nat} (hg : b < g) (j : Nat) (u : Value) : SOk b L i X (w.setCell ⟨g, j, none⟩ u) :=
  h.frame (by simp [World.setCell]) fun k hk => heap_setCell_other w ⟨g, j, none⟩ k u (by show k ≠ g; omega)
theorem SOk.row (h : SOk b L i X w) {g : Nat} (hg : b < g) (cs : Array Value) : SOk b L i X (w.setRow g cs) :=
  h.frame (by simp [World.setRow]) fun k hk => setRow_other w g k cs (by omega)
theorem SOk.drewN (h : SOk b L i X w) (n : Nat) : SOk b L i X (w.drewN n) := h.new (below_drewN (Below.refl _ _) n)
end
/-- What the reader panics with. -/
def give (s : Rd) : List PanicEntry := [{ v := .iface 75 (.agg #[.int .i64 s.e, .int .i64 s.ln, .int .i64 s.cl]), recovered := false }]
/-- The call has read, or has given up. -/
def Got (b : Nat) (L : List TokD) (X : XV) (w : World) (r : Rd) (val : Value) (e : Ending) (w' : World) : Prop :=
  (∃ j, r = rd j ∧ e = .returned val ∧ SOk b L j X w' ∧ Keep b w w') ∨ (r.e ≠ 0 ∧ e = .panicked (give r) ∧ Keep b w w')
set_option maxHeartbeats 4000000 in
set_option maxRecDepth 100000 in
theorem snow_any (b : Nat) (L : List TokD) (i : Nat) (X : XV) (w : World) (h : SOk b L i X w) :
    Calls Tryz.prog 68 #[.pointer (some ⟨b, 0, none⟩)] w fun e w' => e = .returned (.agg (tkc (nowD L (rd i))).toArray) ∧ Below w.heap.size w w' := by
  obtain ⟨v, hS, hR⟩ := h.S
  have HLT := Lib.hid h.lt
  obtain ⟨A, c, rfl, hl1, hl2⟩ := hS.shape
  have x0 : w.cell? ⟨b, 0, none⟩ = some (.slice A (L.drop i).length c) := Lib.cell_of_heap hR 0
  by_cases hk : i < L.length
  · have hd : 0 < (L.drop i).length := by rw [List.length_drop]; omega
    obtain ⟨b1, o1, p1, e1, _, _, hl3, hpb, hx⟩ := hS.at_ hd
    injection e1 with e1 e2 e3
    subst e1
    have hn : nowD L (rd i) = (L.drop i)[0] := by rw [List.getElem_drop]; unfold nowD; rw [List.getD_eq_getElem?_getD, List.getElem?_eq_getElem (show (rd i).at_ < L.length from hk)]; rfl
    rw [hn]
    obtain ⟨t, ht⟩ : ∃ t, (L.drop i)[0] = t := ⟨_, rfl⟩
    rw [ht] at hx ⊢
    obtain ⟨n, hnn⟩ : ∃ n, (L.drop i).length = n := ⟨_, rfl⟩
    rw [hnn] at x0 hd
    have q1 : ((n : Int) == 0) = false := beq_eq_false_iff_ne.2 (by omega)
    have q2 : (0 : Int) < (n : Int) := by omega
    have hq0 : w.cell? ⟨b1, o1, none⟩ = some (.int .i64 t.kind) := by simpa using hx 0 _ rfl
    have hq1 : w.cell? ⟨b1, o1 + 1, none⟩ = some (.string (ba t.text)) := by simpa using hx 1 _ rfl
    have hq2 : w.cell? ⟨b1, o1 + 2, none⟩ = some (.int .i64 t.num) := by simpa using hx 2 _ rfl
    have hq3 : w.cell? ⟨b1, o1 + 3, none⟩ = some (.int .i64 t.line) := by simpa using hx 3 _ rfl
    have hq4 : w.cell? ⟨b1, o1 + 4, none⟩ = some (.int .i64 t.col) := by simpa using hx 4 _ rfl
    obtain ⟨w1, hw1⟩ : ∃ w1, w.alloc (.cells #[.int .i64 0, .string ⟨#[]⟩, .int .i64 0, .int .i64 0, .int .i64 0] 101) = w1 := ⟨_, rfl⟩
    have hb1 : Below w.heap.size w w1 := by rw [← hw1]; exact (Below.refl _ _).alloc (Nat.le_refl _) _
    have hq : w1.heap[w.heap.size]? = some (.cells #[.int .i64 0, .string ⟨#[]⟩, .int .i64 0, .int .i64 0, .int .i64 0] 101 (0, 0)) := by rw [← hw1]; exact heap_alloc_new _ _
    have y0 := (hb1.cell (p := ⟨b, 0, none⟩) HLT.out).trans x0
    have z0 := (hb1.cell (p := ⟨b1, o1, none⟩) hl3).trans hq0
    have z1 := (hb1.cell (p := ⟨b1, o1 + 1, none⟩) hl3).trans hq1
    have z2 := (hb1.cell (p := ⟨b1, o1 + 2, none⟩) hl3).trans hq2
    have z3 := (hb1.cell (p := ⟨b1, o1 + 3, none⟩) hl3).trans hq3
    have z4 := (hb1.cell (p := ⟨b1, o1 + 4, none⟩) hl3).trans hq4
    clear h hS hR e2 e3 hn ht hx hl3 hpb hnn hq0 hq1 hq2 hq3 hq4 x0
    unfold tkc
    go_enter Tryz.func68, Tryz.ntmps68
    go_upto_region 1 with fail
    try rw [hw1]
    clear hw1
    go_upto_region 3 with fail
    go_wp2_with (first | (refine wpList_store_row rfl 101 _ _ rfl w.heap.size #[.int .i64 t.kind, .string (ba t.text), .int .i64 t.num, .int .i64 t.line, .int .i64 t.col] rfl rfl 101 #[.int .i64 0, .string ⟨#[]⟩, .int .i64 0, .int .i64 0, .int .i64 0] hq (by kernel_rfl) rfl (tok_all t) ?_))
    refine bodyPost_ret (results_cell_row rfl _ _ w.heap.size _ _ (0, 0) _ rfl (setRow_heap _ _ _ _ _ _ hq) Tryz.underlying101 rfl (by kernel_rfl)) rfl ⟨rfl, below_setRow hb1 (Nat.le_refl _) _⟩
  · have hn : nowD L (rd i) = endT := now_out (show L.length ≤ i by omega)
    rw [hn]
    have hnn : (L.drop i).length = 0 := by rw [List.length_drop]; omega
    rw [hnn] at x0
    obtain ⟨w1, hw1⟩ : ∃ w1, w.alloc (.cells #[.int .i64 0, .string ⟨#[]⟩, .int .i64 0, .int .i64 0, .int .i64 0] 101) = w1 := ⟨_, rfl⟩
    have hb1 : Below w.heap.size w w1 := by rw [← hw1]; exact (Below.refl _ _).alloc (Nat.le_refl _) _
    have hq : w1.heap[w.heap.size]? = some (.cells #[.int .i64 0, .string ⟨#[]⟩, .int .i64 0, .int .i64 0, .int .i64 0] 101 (0, 0)) := by rw [← hw1]; exact heap_alloc_new _ _
    have y0 := (hb1.cell (p := ⟨b, 0, none⟩) HLT.out).trans x0
    clear h hS hR hn hnn x0
    unfold tkc endT
    go_enter Tryz.func68, Tryz.ntmps68
    go_upto_region 1 with fail
    try rw [hw1]
    clear hw1
    go_upto_region 2 with fail
    go_wp2_with (first | (refine wpList_store_row rfl 101 _ _ rfl w.heap.size #[.int .i64 4, .string ⟨#[]⟩, .int .i64 0, .int .i64 1, .int .i64 1] rfl rfl 101 #[.int .i64 0, .string ⟨#[]⟩, .int .i64 0, .int .i64 0, .int .i64 0] hq (by kernel_rfl) rfl (tok_all endT) ?_))
    refine bodyPost_ret (results_cell_row rfl _ _ w.heap.size _ _ (0, 0) _ rfl (setRow_heap _ _ _ _ _ _ hq) Tryz.underlying101 rfl (by kernel_rfl)) rfl ⟨rfl, below_setRow hb1 (Nat.le_refl _) _⟩
set_option maxHeartbeats 4000000 in
set_option maxRecDepth 100000 in
theorem sfail_any (b : Nat) (L : List TokD) (i : Nat) (X : XV) (er : Int) (w : World) (h : SOk b L i X w) :
    Calls Tryz.prog 69 #[.pointer (some ⟨b, 0, none⟩), .int .i64 er] w fun e w' => e = .panicked (give (failD (rd i) er (nowD L (rd i)))) ∧ Below w.heap.size w w' := by
  have HT := snow_any b L i X w h
  have HF := Lib.hid (show failD (rd i) er (nowD L (rd i)) = ⟨i, er, (nowD L (rd i)).line, (nowD L (rd i)).col⟩ by unfold failD; rw [if_pos (show (rd i).e = 0 from rfl)]; rfl)
  rw [HF.out]
  clear HF h
  obtain ⟨t, ht⟩ : ∃ t, nowD L (rd i) = t := ⟨_, rfl⟩
  rw [ht] at HT ⊢
  unfold tkc at HT
  clear ht
  go_enter Tryz.func69, Tryz.ntmps69
  go_wp2_with fail
  refine HT.mono ?_
  rintro e w2 ⟨rfl, hb⟩
  have HB := Lib.hid hb
  clear hb HT
  go_wp2_with fail
  refine ⟨rfl, rfl, HB.out.alloc HB.out.size _⟩
end Go.Proofs.YteonefgbdphmiaaGreatDoor
/- The walks of the reader's take, is, key, name, num, behind, times. -/
namespace Go.Proofs.YteonefgbdphmiaaGreatDoor
open Go.RowKit
theorem sl_tail {α : Type} {c : α → List Value} {size : Nat} {w : World} {b1 o1 : Nat} {cp : Nat} {l : List α} {P : Nat → Prop} (h : Sl c size w (.slice (some ⟨b1, o1, none⟩) l.length cp) l P) (hn : 0 < l.length) :
    Sl c size w (.slice (if cp = 1 then some ⟨b1, o1, none⟩ else some ⟨b1, o1 + size, none⟩) (l.length - 1) (cp - 1)) (l.drop 1) P := by
  obtain ⟨A, cap, e, h1, h2, h3⟩ := h
  injection e with e1 e2 e3
  obtain ⟨b, off, ea, hb, hP, hc⟩ := h3 hn
  rw [ea] at e1
  injection e1 with e1
  injection e1 with e1 e4
  subst e1 e4 e3
  by_cases hcp : cp = 1
  · exact ⟨_, _, by rw [List.length_drop], by rw [List.length_drop]; omega, by omega, fun hh => by rw [List.length_drop] at hh; omega⟩
  rw [if_neg hcp]
  refine ⟨_, _, by rw [List.length_drop], by rw [List.length_drop]; omega, by omega, fun _ => ⟨b1, o1 + size, rfl, hb, hP, fun i x hx j u hu => ?_⟩⟩
  have := hc (i + 1) x (by rw [List.getElem?_drop] at hx; rw [Nat.add_comm]; exact hx) j u hu
  rw [show o1 + size + i * size + j = o1 + (i + 1) * size + j by rw [Nat.add_mul]; omega]
  exact this
set_option maxHeartbeats 8000000 in
set_option maxRecDepth 100000 in
theorem stake_ok (b : Nat) (L : List TokD) (i : Nat) (X : XV) (kind : Int) (w : World) (h : SOk b L i X w) (hk : (nowD L (rd i)).kind = kind) (hi : i < L.length) :
    Calls Tryz.prog 66 #[.pointer (some ⟨b, 0, none⟩), .int .i64 kind] w fun e w' => e = .returned (.agg (tkc (nowD L (rd i))).toArray) ∧ SOk b L (i + 1) X w' ∧ Keep b w w' := by
  have HLT := Lib.hid h.lt
  have HO := Lib.hid h
  have hN := snow_any b L i X
  obtain ⟨t, hn⟩ : ∃ t, nowD L (rd i) = t := ⟨_, rfl⟩
  rw [hn] at hN hk ⊢
  dsimp only [tkc] at hN
  have HN := Lib.hid hN
  clear hN hn h
  have c1 : (t.kind == kind) = true := beq_iff_eq.2 hk
  have c2 : (t.kind != kind) = false := by rw [bne, c1]; rfl
  clear hk
  go_enter Tryz.func66, Tryz.ntmps66
  go_upto_region 1 with fail
  obtain ⟨w1, hw1⟩ : ∃ w1, w.alloc (.cells #[.int .i64 0, .string ⟨#[]⟩, .int .i64 0, .int .i64 0, .int .i64 0] 101) = w1 := ⟨_, rfl⟩
  have HB1 := Lib.hid (show Below w.heap.size w w1 by rw [← hw1]; exact (Below.refl _ _).alloc (Nat.le_refl _) _)
  have HQ1 := Lib.hid (show w1.heap[w.heap.size]? = some (.cells #[.int .i64 0, .string ⟨#[]⟩, .int .i64 0, .int .i64 0, .int .i64 0] 101 (0, 0)) by rw [← hw1]; exact heap_alloc_new _ _)
  have HZ1 := Lib.hid (show w1.heap.size = w.heap.size + 1 by rw [← hw1]; simp)
  rw [hw1]
  clear hw1
  go_wp2_with fail
  refine (HN.out w1 (HO.out.new HB1.out)).mono ?_
  rintro e w2 ⟨rfl, hb⟩
  have HB2 := Lib.hid (HB1.out.trans (hb.mono HB1.out.size))
  have HQ2 := Lib.hid ((hb.block w.heap.size (by have := HZ1.out; omega)).trans HQ1.out)
  have HZ2 := Lib.hid (show w.heap.size + 1 ≤ w2.heap.size by have := hb.size; have := HZ1.out; omega)
  clear hb HQ1 HZ1 HB1
  go_upto_region 2 with fail
  obtain ⟨w3, hw3⟩ : ∃ w3, w2.alloc (.cells #[.int .i64 t.kind, .string (ba t.text), .int .i64 t.num, .int .i64 t.line, .int .i64 t.col] 101) = w3 := ⟨_, rfl⟩
  have HB3 := Lib.hid (show Below w.heap.size w w3 by rw [← hw3]; exact HB2.out.alloc HB2.out.size _)
  have hq3 : w3.heap[w.heap.size]? = some (.cells #[.int .i64 0, .string ⟨#[]⟩, .int .i64 0, .int .i64 0, .int .i64 0] 101 (0, 0)) := by rw [← hw3, Below.heap_alloc _ _ _ (by have := HZ2.out; omega)]; exact HQ2.out
  have ht3 : w3.heap[w2.heap.size]? = some (.cells #[.int .i64 t.kind, .string (ba t.text), .int .i64 t.num, .int .i64 t.line, .int .i64 t.col] 101 (0, 0)) := by rw [← hw3]; exact heap_alloc_new _ _
  rw [hw3]
  clear hw3 HQ2 HB2
  have HQ3 := Lib.hid hq3
  have HO3 := Lib.hid (HO.out.new HB3.out)
  obtain ⟨v, hS, hR⟩ := HO3.out.S
  obtain ⟨A, c, rfl, hl1, hl2⟩ := hS.shape
  have hd : 0 < (L.drop i).length := by rw [List.length_drop]; omega
  obtain ⟨b1, o1, p1, e1, _, _, hl3, hpb, hx⟩ := hS.at_ hd
  injection e1 with e1 e2 e3
  subst e1
  have HT := Lib.hid (sl_tail hS hd)
  rw [List.drop_drop] at HT
  have HR := Lib.hid hR
  obtain ⟨n, hnn⟩ : ∃ n, (L.drop i).length = n := ⟨_, rfl⟩
  rw [hnn] at HT HR hd hl1
  have q1 : ((n : Int) == 0) = false := beq_eq_false_iff_ne.2 (by omega)
  have q2 : (0 : Int) < (n : Int) := by omega
  have q3 : (1 : Int) ≤ (n : Int) := by omega
  have q4 : (n : Int) ≤ (c : Int) := by omega
  have q5 : (1 : Int) ≤ (c : Int) := by omega
  have x0 : w3.cell? ⟨b, 0, none⟩ = some (.slice (some ⟨b1, o1, none⟩) n c) := Lib.cell_of_heap HR.out 0
  have f0 : w3.frozen? ⟨b, 0, none⟩ = false := Lib.frozen_of_heap HR.out 0
  have t0 : w3.cell? ⟨w2.heap.size, 0, none⟩ = some (.int .i64 t.kind) := Lib.cell_of_heap ht3 0
  clear hq3 hS hR hx e2 e3 hl2 hpb hl3 hnn
  go_upto_region 5 with fail
  obtain ⟨vv, hvv⟩ : ∃ vv, Value.slice (if c = 1 then some { block := b1, off := o1 } else some { block := b1, off := o1 + 5 }) (n - 1) (c - 1) = vv := ⟨_, rfl⟩
  rw [hvv] at HT ⊢
  clear hvv
  obtain ⟨w4, hw4⟩ : ∃ w4, w3.setCell ⟨b, 0, none⟩ vv = w4 := ⟨_, rfl⟩
  have hne : ∀ k, k ≠ b → w4.heap[k]? = w3.heap[k]? := fun k hk => by rw [← hw4]; exact heap_setCell_other w3 ⟨b, 0, none⟩ k _ hk
  have hr4 : SrAt b vv X w4 := by rw [← hw4]; exact heap_setCell_same w3 b 0 _ _ _ HR.out
  have hz4 : w3.heap.size ≤ w4.heap.size := by rw [← hw4]; simp [World.setCell]
  have HO4 := Lib.hid (show SOk b L (i + 1) X w4 from ⟨⟨vv, HT.out.keep hz4 fun k _ hk => hne k (Nat.ne_of_lt hk), hr4⟩, by omega, HO.out.len⟩)
  have HK4 := Lib.hid (show Keep b w w4 by rw [← hw4]; exact (Keep.of HB3.out (by have := HLT.out; omega)).set 0 _)
  have HQ4 := Lib.hid ((hne w.heap.size (by have := HLT.out; omega)).trans HQ3.out)
  have ht4 := (hne w2.heap.size (by have := HLT.out; have := HZ2.out; omega)).trans ht3
  rw [hw4]
  clear hw4 hne t0 x0 f0 ht3 hr4 hz4
  have t0 : w4.cell? ⟨w2.heap.size, 0, none⟩ = some (.int .i64 t.kind) := Lib.cell_of_heap ht4 0
  have t1 : w4.cell? ⟨w2.heap.size, 1, none⟩ = some (.string (ba t.text)) := Lib.cell_of_heap ht4 1
  have t2 : w4.cell? ⟨w2.heap.size, 2, none⟩ = some (.int .i64 t.num) := Lib.cell_of_heap ht4 2
  have t3 : w4.cell? ⟨w2.heap.size, 3, none⟩ = some (.int .i64 t.line) := Lib.cell_of_heap ht4 3
  have t4 : w4.cell? ⟨w2.heap.size, 4, none⟩ = some (.int .i64 t.col) := Lib.cell_of_heap ht4 4
  clear ht4
  go_wp2_with (first | (refine wpList_store_row rfl 101 _ _ rfl w.heap.size #[.int .i64 t.kind, .string (ba t.text), .int .i64 t.num, .int .i64 t.line, .int .i64 t.col] rfl rfl 101 #[.int .i64 0, .string ⟨#[]⟩, .int .i64 0, .int .i64 0, .int .i64 0] HQ4.out (by kernel_rfl) rfl (tok_all t) ?_))
  refine bodyPost_ret (results_cell_row rfl _ _ w.heap.size _ _ (0, 0) _ rfl (setRow_heap _ _ _ _ _ _ HQ4.out) Tryz.underlying101 rfl (by kernel_rfl)) rfl ?_
  exact ⟨rfl, HO4.out.row HLT.out _, HK4.out.newRow (Nat.le_refl _) (by have := HLT.out; omega) _⟩
set_option maxHeartbeats 8000000 in
set_option maxRecDepth 100000 in
theorem stake_bad (b : Nat) (L : List TokD) (i : Nat) (X : XV) (kind : Int) (w : World) (h : SOk b L i X w) (hk : (nowD L (rd i)).kind ≠ kind) :
    Calls Tryz.prog 66 #[.pointer (some ⟨b, 0, none⟩), .int .i64 kind] w fun e w' => e = .panicked (give (failD (rd i) 7 (nowD L (rd i)))) ∧ Below w.heap.size w w' := by
  have HO := Lib.hid h
  have HF := Lib.hid (sfail_any b L i X 7)
  have hN := snow_any b L i X
  obtain ⟨t, hn⟩ : ∃ t, nowD L (rd i) = t := ⟨_, rfl⟩
  rw [hn] at hN hk HF ⊢
  dsimp only [tkc] at hN
  have HN := Lib.hid hN
  clear hN hn h
  have c1 : (t.kind == kind) = false := beq_eq_false_iff_ne.2 hk
  have c2 : (t.kind != kind) = true := by rw [bne, c1]; rfl
  clear hk
  go_enter Tryz.func66, Tryz.ntmps66
  go_upto_region 1 with fail
  obtain ⟨w1, hw1⟩ : ∃ w1, w.alloc (.cells #[.int .i64 0, .string ⟨#[]⟩, .int .i64 0, .int .i64 0, .int .i64 0] 101) = w1 := ⟨_, rfl⟩
  have HB1 := Lib.hid (show Below w.heap.size w w1 by rw [← hw1]; exact (Below.refl _ _).alloc (Nat.le_refl _) _)
  rw [hw1]
  clear hw1
  go_wp2_with fail
  refine (HN.out w1 (HO.out.new HB1.out)).mono ?_
  rintro e w2 ⟨rfl, hb⟩
  have HB2 := Lib.hid (HB1.out.trans (hb.mono HB1.out.size))
  clear hb
  go_upto_region 2 with fail
  obtain ⟨w3, hw3⟩ : ∃ w3, w2.alloc (.cells #[.int .i64 t.kind, .string (ba t.text), .int .i64 t.num, .int .i64 t.line, .int .i64 t.col] 101) = w3 := ⟨_, rfl⟩
  have HB3 := Lib.hid (show Below w.heap.size w w3 by rw [← hw3]; exact HB2.out.alloc HB2.out.size _)
  have ht3 : w3.heap[w2.heap.size]? = some (.cells #[.int .i64 t.kind, .string (ba t.text), .int .i64 t.num, .int .i64 t.line, .int .i64 t.col] 101 (0, 0)) := by rw [← hw3]; exact heap_alloc_new _ _
  rw [hw3]
  clear hw3
  have t0 : w3.cell? ⟨w2.heap.size, 0, none⟩ = some (.int .i64 t.kind) := Lib.cell_of_heap ht3 0
  clear ht3
  go_wp2_with fail
  refine (HF.out w3 (HO.out.new HB3.out)).mono ?_
  rintro e w4 ⟨rfl, hb⟩
  have HB4 := Lib.hid (HB3.out.trans (hb.mono HB3.out.size))
  clear hb
  try go_wp2_with fail
  exact ⟨rfl, rfl, HB4.out⟩
/-- take's answer. -/
theorem take_rd_ok {L : List TokD} {i : Nat} {kind : Int} {k : List UInt8} (h1 : (nowD L (rd i)).kind = kind) (h2 : kind = 2 → (nowD L (rd i)).text = k) : takeD L (rd i) kind k = (rd (i + 1), nowD L (rd i)) := by
  unfold takeD
  rw [if_neg (show ¬ (rd i).e ≠ 0 from fun h => h rfl), if_neg]
  · rfl
  · unfold mis
    rw [h1]
    simp only [bne_self_eq_false, Bool.false_or, Bool.and_eq_true, beq_iff_eq, bne_iff_ne, ne_eq, not_and]
    exact fun hh hn => hn (h2 hh)
theorem take_rd_bad {L : List TokD} {i : Nat} {kind : Int} {k : List UInt8} (h : (nowD L (rd i)).kind ≠ kind ∨ (kind = 2 ∧ (nowD L (rd i)).text ≠ k)) : takeD L (rd i) kind k = (failD (rd i) 7 (nowD L (rd i)), zeroT) := by
  unfold takeD
  rw [if_neg (show ¬ (rd i).e ≠ 0 from fun h => h rfl), if_pos]
  unfold mis
  rcases h with h | ⟨h1, h2⟩
  · simp [h]
  · simp [h1, h2]
theorem fail_rd (L : List TokD) (i : Nat) (er : Int) (he : er ≠ 0) : (failD (rd i) er (nowD L (rd i))).e ≠ 0 := failD_bad rfl he
theorem kind_lt {L : List TokD} {i : Nat} {kind : Int} (h : (nowD L (rd i)).kind = kind) (hk : kind ≠ 4) : i < L.length := by
  refine Decidable.byContradiction fun hc => ?_
  rw [now_out (show L.length ≤ (rd i).at_ by show L.length ≤ i; omega)] at h
  exact hk h.symm
set_option maxRecDepth 100000 in
set_option maxHeartbeats 1000000 in
theorem sname_any (b : Nat) (L : List TokD) (i : Nat) (X : XV) (w : World) (h : SOk b L i X w) :
    Calls Tryz.prog 106 #[.pointer (some ⟨b, 0, none⟩)] w (Got b L X w (nameD L (rd i)).1 (.string (ba (nameD L (rd i)).2))) := by
  have HLT := Lib.hid h.lt
  unfold nameD
  by_cases hk : (nowD L (rd i)).kind = 1
  · have HT := Lib.hid (stake_ok b L i X 1 w h hk (kind_lt hk (by decide)))
    rw [take_rd_ok hk (fun e => absurd e (by decide))]
    obtain ⟨t, ht⟩ : ∃ t, nowD L (rd i) = t := ⟨_, rfl⟩
    rw [ht] at HT ⊢
    dsimp only [tkc] at HT ⊢
    clear ht h hk
    have hf1 := fd1 t
    go_enter Tryz.func106, Tryz.ntmps106
    go_wp2_with fail
    refine HT.out.mono ?_
    rintro e w2 ⟨rfl, ho, hk⟩
    have HK := Lib.hid hk
    have HN := Lib.hid ho
    clear ho hk
    go_wp2_with fail
    go_ret
    exact .inl ⟨i + 1, rfl, rfl, HN.out, HK.out⟩
  · have HT := Lib.hid (stake_bad b L i X 1 w h hk)
    rw [take_rd_bad (.inl hk)]
    have HF := Lib.hid (fail_rd L i 7 (by decide))
    clear h hk
    go_enter Tryz.func106, Tryz.ntmps106
    go_wp2_with fail
    refine HT.out.mono ?_
    rintro e w2 ⟨rfl, hb⟩
    have HK := Lib.hid (Keep.of hb (Nat.le_of_lt HLT.out))
    clear hb
    try go_wp2_with fail
    exact ⟨rfl, .inr ⟨HF.out, rfl, HK.out⟩⟩
set_option maxRecDepth 100000 in
set_option maxHeartbeats 1000000 in
theorem snum_any (b : Nat) (L : List TokD) (i : Nat) (X : XV) (w : World) (h : SOk b L i X w) :
    Calls Tryz.prog 89 #[.pointer (some ⟨b, 0, none⟩)] w (Got b L X w (numD L (rd i)).1 (.int .i64 (numD L (rd i)).2)) := by
  have HLT := Lib.hid h.lt
  unfold numD
  by_cases hk : (nowD L (rd i)).kind = 3
  · have HT := Lib.hid (stake_ok b L i X 3 w h hk (kind_lt hk (by decide)))
    rw [take_rd_ok hk (fun e => absurd e (by decide))]
    obtain ⟨t, ht⟩ : ∃ t, nowD L (rd i) = t := ⟨_, rfl⟩
    rw [ht] at HT ⊢
    dsimp only [tkc] at HT ⊢
    clear ht h hk
    have hf2 := fd2 t
    go_enter Tryz.func89, Tryz.ntmps89
    go_wp2_with fail
    refine HT.out.mono ?_
    rintro e w2 ⟨rfl, ho, hk⟩
    have HK := Lib.hid hk
    have HN := Lib.hid ho
    clear ho hk
    go_wp2_with fail
    go_ret
    exact .inl ⟨i + 1, rfl, rfl, HN.out, HK.out⟩
  · have HT := Lib.hid (stake_bad b L i X 3 w h hk)
    rw [take_rd_bad (.inl hk)]
    have HF := Lib.hid (fail_rd L i 7 (by decide))
    clear h hk
    go_enter Tryz.func89, Tryz.ntmps89
    go_wp2_with fail
    refine HT.out.mono ?_
    rintro e w2 ⟨rfl, hb⟩
    have HK := Lib.hid (Keep.of hb (Nat.le_of_lt HLT.out))
    clear hb
    try go_wp2_with fail
    exact ⟨rfl, .inr ⟨HF.out, rfl, HK.out⟩⟩
set_option maxRecDepth 100000 in
set_option maxHeartbeats 2000000 in
theorem sis_any (b : Nat) (L : List TokD) (i : Nat) (X : XV) (k : List UInt8) (w : World) (h : SOk b L i X w) :
    Calls Tryz.prog 104 #[.pointer (some ⟨b, 0, none⟩), .string (ba k)] w fun e w' => e = .returned (.bool (isD L (rd i) k)) ∧ Below w.heap.size w w' := by
  have hT := snow_any b L i X w h
  have hT2 := fun w2 hb => snow_any b L i X w2 (h.new hb)
  unfold isD
  obtain ⟨t, ht⟩ : ∃ t, nowD L (rd i) = t := ⟨_, rfl⟩
  simp only [ht] at hT hT2 ⊢
  dsimp only [tkc] at hT hT2
  have HT := Lib.hid hT
  have HT2 := Lib.hid hT2
  clear ht h hT hT2
  by_cases h1 : t.kind = 2
  · have c1 : (t.kind == 2) = true := beq_iff_eq.2 h1
    have HQ := Lib.hid (show ((ba t.text).toList == (ba k).toList) = (t.text == k) by rw [ba_toList, ba_toList])
    have c2 := HQ.out
    rw [c1, Bool.true_and]
    obtain ⟨q, hq⟩ : ∃ q, (t.text == k) = q := ⟨_, rfl⟩
    rw [hq] at c2 ⊢
    clear h1 hq HQ
    have hf0 := fd0 t
    have hf1 := fd1 t
    go_enter Tryz.func104, Tryz.ntmps104
    go_wp2_with fail
    refine HT.out.mono ?_
    rintro e w2 ⟨rfl, hb⟩
    have HB := Lib.hid hb
    clear hb
    go_wp2_with fail
    refine (HT2.out w2 HB.out).mono ?_
    rintro e w3 ⟨rfl, hb⟩
    have HB3 := Lib.hid (HB.out.trans (hb.mono HB.out.size))
    clear hb
    go_wp2_with fail
    go_ret
    exact ⟨rfl, HB3.out⟩
  · have c1 : (t.kind == 2) = false := beq_eq_false_iff_ne.2 h1
    rw [c1, Bool.false_and]
    clear h1
    have hf0 := fd0 t
    have hf1 := fd1 t
    go_enter Tryz.func104, Tryz.ntmps104
    go_wp2_with fail
    refine HT.out.mono ?_
    rintro e w2 ⟨rfl, hb⟩
    have HB := Lib.hid hb
    clear hb
    go_wp2_with fail
    go_ret
    exact ⟨rfl, HB.out⟩
set_option maxRecDepth 100000 in
set_option maxHeartbeats 1000000 in
theorem skey_any (b : Nat) (L : List TokD) (i : Nat) (X : XV) (k : List UInt8) (w : World) (h : SOk b L i X w) :
    Calls Tryz.prog 88 #[.pointer (some ⟨b, 0, none⟩), .string (ba k)] w (Got b L X w (keyD L (rd i) k) (.tuple #[])) := by
  have HLT := Lib.hid h.lt
  have HO := Lib.hid h
  have HI := Lib.hid (sis_any b L i X k w h)
  unfold keyD
  by_cases hk : isD L (rd i) k = true
  · rw [hk] at HI
    unfold isD at hk
    rw [Bool.and_eq_true, beq_iff_eq, beq_iff_eq] at hk
    have HT := Lib.hid (fun w2 h2 => stake_ok b L i X 2 w2 h2 hk.1 (kind_lt hk.1 (by decide)))
    rw [take_rd_ok hk.1 (fun _ => hk.2)]
    clear h hk
    go_enter Tryz.func88, Tryz.ntmps88
    go_wp2_with fail
    refine HI.out.mono ?_
    rintro e w2 ⟨rfl, hb⟩
    have HB := Lib.hid hb
    clear hb
    go_wp2_with fail
    refine (HT.out w2 (HO.out.new HB.out)).mono ?_
    rintro e w3 ⟨rfl, ho, hk⟩
    have HK := Lib.hid ((Keep.of HB.out (Nat.le_of_lt HLT.out)).trans hk)
    have HN := Lib.hid ho
    clear ho hk
    go_wp2_with fail
    go_end0
    exact .inl ⟨i + 1, rfl, rfl, HN.out, HK.out⟩
  · have hkf : isD L (rd i) k = false := by simpa using hk
    rw [hkf] at HI
    have hbad : (nowD L (rd i)).kind ≠ 2 ∨ ((2 : Int) = 2 ∧ (nowD L (rd i)).text ≠ k) := by
      by_cases h1 : (nowD L (rd i)).kind = 2
      · refine .inr ⟨rfl, fun h2 => hk ?_⟩
        unfold isD
        rw [h1, h2]
        simp
      · exact .inl h1
    rw [take_rd_bad hbad]
    have HF := Lib.hid (fail_rd L i 7 (by decide))
    have HS := Lib.hid (sfail_any b L i X 7)
    clear h hk hkf hbad
    go_enter Tryz.func88, Tryz.ntmps88
    go_wp2_with fail
    refine HI.out.mono ?_
    rintro e w2 ⟨rfl, hb⟩
    have HB := Lib.hid hb
    clear hb
    go_wp2_with fail
    refine (HS.out w2 (HO.out.new HB.out)).mono ?_
    rintro e w3 ⟨rfl, hb⟩
    have HK := Lib.hid (Keep.of (HB.out.trans (hb.mono HB.out.size)) (Nat.le_of_lt HLT.out))
    clear hb
    try go_wp2_with fail
    exact ⟨rfl, .inr ⟨HF.out, rfl, HK.out⟩⟩
set_option maxRecDepth 100000 in
set_option maxHeartbeats 1000000 in
theorem sbehind_any (b : Nat) (L : List TokD) (i : Nat) (X : XV) (k : List UInt8) (w : World) (h : SOk b L i X w) :
    Calls Tryz.prog 65 #[.pointer (some ⟨b, 0, none⟩), .string (ba k)] w (Got b L X w (afterD L (rd i) k).1 (.int .i64 (afterD L (rd i) k).2)) := by
  have HT := Lib.hid (skey_any b L i X k w h)
  have HN := Lib.hid (fun j w2 h2 => snum_any b L j X w2 h2)
  unfold afterD
  clear h
  obtain ⟨r, hr⟩ : ∃ r, keyD L (rd i) k = r := ⟨_, rfl⟩
  rw [hr] at HT ⊢
  clear hr
  go_enter Tryz.func65, Tryz.ntmps65
  go_wp2_with fail
  refine HT.out.mono ?_
  rintro e w2 (⟨j, rfl, rfl, ho, hk⟩ | ⟨he, rfl, hk⟩)
  · have HK := Lib.hid hk
    have HO := Lib.hid ho
    clear ho hk HT
    go_wp2_with fail
    refine (HN.out j w2 HO.out).mono ?_
    rintro e w3 (⟨j2, he, rfl, ho, hk⟩ | ⟨he, rfl, hk⟩)
    · have HK3 := Lib.hid (HK.out.trans hk)
      have HO3 := Lib.hid ho
      have HE := Lib.hid he
      clear ho hk HK HO he
      go_wp2_with fail
      go_ret
      exact .inl ⟨j2, HE.out, rfl, HO3.out, HK3.out⟩
    · have HK3 := Lib.hid (HK.out.trans hk)
      have HE := Lib.hid he
      clear hk HK HO he
      try go_wp2_with fail
      exact ⟨rfl, .inr ⟨HE.out, rfl, HK3.out⟩⟩
  · have HK := Lib.hid hk
    have HE := Lib.hid he
    clear hk HT he
    try go_wp2_with fail
    refine ⟨rfl, .inr ⟨?_, ?_, HK.out⟩⟩
    · rw [numD_bad HE.out]; exact HE.out
    · rw [numD_bad HE.out]
end Go.Proofs.YteonefgbdphmiaaGreatDoor
