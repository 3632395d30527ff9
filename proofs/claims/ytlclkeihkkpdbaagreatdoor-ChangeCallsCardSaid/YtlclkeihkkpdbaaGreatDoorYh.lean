/- The walk of timetableref17.line. -/
import Derived.Test.YtlclkeihkkpdbaaGreatDoorYf
import Derived.Test.YtlclkeihkkpdbaaGreatDoorYg
import Derived.Test.YtlclkeihkkpdbaaGreatDoorYb
import Derived.Laws.Tables
import Derived.Laws.CopyOwn
import Derived.Deep.QuietTactic
import Derived.BigQuiet
namespace Go.Proofs.YtlclkeihkkpdbaaGreatDoor
open Go.RowKit
theorem form_head (j : Nat) (h1 : 1 ≤ j) (h5 : j ≤ 5) : ∃ fs, formD (j : Int) = .word (headW j) :: fs := by
  have : j = 1 ∨ j = 2 ∨ j = 3 ∨ j = 4 ∨ j = 5 := by omega
  rcases this with rfl | rfl | rfl | rfl | rfl
  · exact ⟨_, form1⟩
  · exact ⟨_, form2⟩
  · exact ⟨_, form3⟩
  · exact ⟨_, form4⟩
  · exact ⟨_, form5⟩
/-- The update under way in block bu, its two numbers in bn and bp. -/
def FormB (bu bn bp : Nat) (f : FormU) (w : World) : Prop :=
  w.heap[bu]? = some (.cells #[.int .i64 0, .string (ba f.u.name), .int .i64 0, .int .i64 0, .int .i64 f.u.by_, .int .i64 f.u.from_, .int .i64 f.u.every, .int .i64 f.u.len] 25 (0, 0)) ∧
  w.heap[bn]? = some (.cells #[.int .i64 f.no] 2 (0, 0)) ∧ w.heap[bp]? = some (.cells #[.int .i64 f.pos] 2 (0, 0))
theorem FormB.keep {bu bn bp : Nat} {f : FormU} {w w' : World} (h : FormB bu bn bp f w) (h1 : w'.heap[bu]? = w.heap[bu]?) (h2 : w'.heap[bn]? = w.heap[bn]?) (h3 : w'.heap[bp]? = w.heap[bp]?) : FormB bu bn bp f w' :=
  ⟨h1.trans h.1, h2.trans h.2.1, h3.trans h.2.2⟩
theorem word_ne (k : Int) (wd : List UInt8) (h : Fld.word wd ∈ formD k) : wd ≠ [] := by
  rintro rfl
  unfold formD wordsD at h
  rw [List.mem_map] at h
  obtain ⟨x, hx, he⟩ := h
  have : x = [] := by
    unfold fldOf at he
    revert he
    (repeat' split) <;> intro he <;> first | (cases he; done) | (cases he; rfl) | (injection he)
  subst this
  revert hx
  (repeat' split) <;> decide
theorem not_last {l : List TokD} (hl : ∀ x, l.getLast? = some x → x.kind = 4) (h0 : 0 < l.length) (m : Nat) (hE : ∀ i x, i < m → l[i]? = some x → x.kind ≠ 4) : m < l.length := by
  rcases Nat.lt_or_ge m l.length with h | h
  · exact h
  · have hg : l[l.length - 1]? = some l[l.length - 1] := List.getElem?_eq_getElem (by omega)
    exact absurd (hl _ (by rw [List.getLast?_eq_getElem?]; exact hg)) (hE _ _ (by omega) hg)
theorem drop_get {α : Type} {l : List α} {m : Nat} {x : α} (h : l[m]? = some x) : l.drop m = x :: l.drop (m + 1) := by
  obtain ⟨hm, rfl⟩ := List.getElem?_eq_some_iff.1 h
  exact List.drop_eq_getElem_cons hm
theorem formB_name {bu bn bp : Nat} {f : FormU} {w : World} (h : FormB bu bn bp f w) (h1 : bu ≠ bn) (h2 : bu ≠ bp) (t : TokD) :
    w.cell? ⟨bu, 1, none⟩ = some (.string (ba f.u.name)) ∧ w.frozen? ⟨bu, 1, none⟩ = false ∧ FormB bu bn bp (setF .name t f) (w.setCell ⟨bu, 1, none⟩ (.string (ba t.text))) := by
  obtain ⟨a, b, c⟩ := h
  exact ⟨Lib.cell_of_heap a 1, Lib.frozen_of_heap a 1, heap_setCell_same w bu 1 _ _ _ a, (Below.heap_setCell _ _ _ _ (by exact fun e => h1 e.symm)).trans b, (Below.heap_setCell _ _ _ _ (by exact fun e => h2 e.symm)).trans c⟩
theorem formB_num {bu bn bp off : Nat} {low : Int} {f : FormU} {w : World} (h : FormB bu bn bp f w) (h1 : bu ≠ bn) (h2 : bu ≠ bp) (h3 : bn ≠ bp) (hoff : off ∈ [4, 5, 6, 7, 8, 9]) (t : TokD) :
    ∃ pb po old, (if off = 8 then (⟨bn, 0, none⟩ : Addr) else if off = 9 then ⟨bp, 0, none⟩ else ⟨bu, off, none⟩) = ⟨pb, po, none⟩ ∧ (pb = bu ∨ pb = bn ∨ pb = bp) ∧ w.cell? ⟨pb, po, none⟩ = some (.int .i64 old) ∧ w.frozen? ⟨pb, po, none⟩ = false ∧ FormB bu bn bp (setF (.num off low) t f) (w.setCell ⟨pb, po, none⟩ (.int .i64 t.num)) := by
  obtain ⟨a, b, c⟩ := h
  have kb : ∀ v o, (w.setCell ⟨bu, o, none⟩ v).heap[bn]? = w.heap[bn]? := fun v o => Below.heap_setCell _ _ _ _ (by exact fun e => h1 e.symm)
  have kc : ∀ v o, (w.setCell ⟨bu, o, none⟩ v).heap[bp]? = w.heap[bp]? := fun v o => Below.heap_setCell _ _ _ _ (by exact fun e => h2 e.symm)
  simp only [List.mem_cons, List.not_mem_nil, or_false] at hoff
  rcases hoff with rfl | rfl | rfl | rfl | rfl | rfl
  · exact ⟨bu, 4, _, rfl, .inl rfl, Lib.cell_of_heap a _, Lib.frozen_of_heap a _, heap_setCell_same w bu _ _ _ _ a, (kb _ _).trans b, (kc _ _).trans c⟩
  · exact ⟨bu, 5, _, rfl, .inl rfl, Lib.cell_of_heap a _, Lib.frozen_of_heap a _, heap_setCell_same w bu _ _ _ _ a, (kb _ _).trans b, (kc _ _).trans c⟩
  · exact ⟨bu, 6, _, rfl, .inl rfl, Lib.cell_of_heap a _, Lib.frozen_of_heap a _, heap_setCell_same w bu _ _ _ _ a, (kb _ _).trans b, (kc _ _).trans c⟩
  · exact ⟨bu, 7, _, rfl, .inl rfl, Lib.cell_of_heap a _, Lib.frozen_of_heap a _, heap_setCell_same w bu _ _ _ _ a, (kb _ _).trans b, (kc _ _).trans c⟩
  · exact ⟨bn, 0, _, rfl, .inr (.inl rfl), Lib.cell_of_heap b 0, Lib.frozen_of_heap b 0, (Below.heap_setCell _ _ _ _ (by exact h1)).trans a, heap_setCell_same w bn 0 _ _ _ b, (Below.heap_setCell _ _ _ _ (by exact fun e => h3 e.symm)).trans c⟩
  · exact ⟨bp, 0, _, rfl, .inr (.inr rfl), Lib.cell_of_heap c 0, Lib.frozen_of_heap c 0, (Below.heap_setCell _ _ _ _ (by exact h2)).trans a, (Below.heap_setCell _ _ _ _ (by exact h3)).trans b, heap_setCell_same w bp 0 _ _ _ c⟩
theorem setF_kind (y : Fld) (x : TokD) (f : FormU) : (setF y x f).u.kind = f.u.kind := by
  cases y <;> unfold setF <;> simp only <;> (repeat' split) <;> rfl
theorem take_kind {y : Fld} {x : TokD} (h : takeD y x = true) : x.kind ≠ 4 := by
  intro h4
  cases y <;> simp [takeD, h4] at h
theorem lineU_bad {t : TokD} {ts : List TokD} {j : Nat} {x : TokD} {f : FormU} (hk : kindU t = (j : Int)) (hj : j ≤ 5) (hr : runU (formD (j : Int)) (t :: ts) (blankU (j : Int)) = (f, some x)) : lineU (t :: ts) = (zeroU, 7, x.line, x.col) := by
  show (if kindU t = 6 then _ else _) = _
  rw [hk, if_neg (by omega), hr]
theorem lineU_good {t : TokD} {ts : List TokD} {j : Nat} {f : FormU} (hk : kindU t = (j : Int)) (hj : j ≤ 5) (hr : runU (formD (j : Int)) (t :: ts) (blankU (j : Int)) = (f, none)) (hf : f.u.kind = (j : Int)) : lineU (t :: ts) = (⟨(j : Int), f.u.name, f.no, f.pos, f.u.by_, f.u.from_, f.u.every, f.u.len⟩, 0, 0, 0) := by
  show (if kindU t = 6 then _ else _) = _
  rw [hk, if_neg (by omega), hr, ← hf]
theorem upc_allY (u : UpD) : (upc u).toArray.all (·.oneCell') = true := by
  rw [Array.all_eq_true_iff_forall_mem]
  intro x hx
  exact upc_one u x (by simpa using hx)
theorem three_all (a b c : Int) : (#[Value.int .i64 a, .int .i64 b, .int .i64 c] : Array Value).all (·.oneCell') = true := by
  rw [Array.all_eq_true_iff_forall_mem]
  intro x hx
  simp at hx
  rcases hx with rfl | rfl | rfl <;> rfl
set_option maxHeartbeats 16000000 in
set_option maxRecDepth 100000 in
theorem yline_any (v : Value) (t : TokD) (ts : List TokD) (w : World) {Pr : Nat → Prop} (hs : Sl tkc 5 w v (t :: ts) Pr) (hl : (t :: ts).length ≤ 1048576) (hlast : ∀ x, (t :: ts).getLast? = some x → x.kind = 4) (hkd : ∀ x ∈ t :: ts, 1 ≤ x.kind ∧ x.kind ≤ 4) :
    Calls Tryz.prog 18 #[v] w fun e w' => e = .returned (.tuple #[.agg (upc (lineU (t :: ts)).1).toArray, .agg #[.int .i64 (lineU (t :: ts)).2.1, .int .i64 (lineU (t :: ts)).2.2.1, .int .i64 (lineU (t :: ts)).2.2.2]]) ∧ Below w.heap.size w w' := by
  obtain ⟨bl, ol, cl, rfl, hc1, hc2, hbl, _, hcell⟩ := hs.form (Nat.succ_pos _)
  have HLAST := Lib.hid hlast
  have HKD := Lib.hid hkd
  clear hlast hkd
  obtain ⟨kd, tx, nu, li, co⟩ := t
  have HC := Lib.hid (fun (wy : World) (hy : Below w.heap.size w wy) => (show wy.cell? ⟨bl, ol, none⟩ = some (.int .i64 kd) ∧ wy.cell? ⟨bl, ol + 1, none⟩ = some (.string (ba tx)) ∧ wy.cell? ⟨bl, ol + 3, none⟩ = some (.int .i64 li) ∧ wy.cell? ⟨bl, ol + 4, none⟩ = some (.int .i64 co) from ⟨(hy.cell (p := ⟨bl, ol, none⟩) hbl).trans (by simpa using hcell 0 _ rfl 0 _ rfl), (hy.cell (p := ⟨bl, ol + 1, none⟩) hbl).trans (by simpa using hcell 0 _ rfl 1 _ rfl), (hy.cell (p := ⟨bl, ol + 3, none⟩) hbl).trans (by simpa using hcell 0 _ rfl 3 _ rfl), (hy.cell (p := ⟨bl, ol + 4, none⟩) hbl).trans (by simpa using hcell 0 _ rfl 4 _ rfl)⟩))
  have HCELL := Lib.hid hcell
  clear hcell
  have hl0 : 0 < (⟨kd, tx, nu, li, co⟩ :: ts : List TokD).length := Nat.succ_pos _
  obtain ⟨n, hn⟩ : ∃ n, (⟨kd, tx, nu, li, co⟩ :: ts : List TokD).length = n := ⟨_, rfl⟩
  have HN := Lib.hid hn
  rw [hn] at hc1 hl hl0 ⊢
  clear hn hs
  have q0 : (0 : Int) < (n : Int) := by omega
  go_enter Tryz.func18, Tryz.ntmps18
  go_wp2_with fail
  obtain ⟨w1, hw1⟩ : ∃ w1, ((((w.alloc (.cells #[.int .i64 0, .string ⟨#[]⟩, .int .i64 0, .int .i64 0, .int .i64 0, .int .i64 0, .int .i64 0, .int .i64 0] 25)).alloc (.cells #[.int .i64 0, .int .i64 0, .int .i64 0] 30)).alloc (.cells #[.int .i64 0, .string ⟨#[]⟩, .int .i64 0, .int .i64 0, .int .i64 0, .int .i64 0, .int .i64 0, .int .i64 0] 25)).alloc (.cells #[.int .i64 0] 2)).alloc (.cells #[.int .i64 0] 2) = w1 := ⟨_, rfl⟩
  have hz1 : w1.heap.size = w.heap.size + 5 := by rw [← hw1]; simp
  have HA1 := Lib.hid (show w1.heap[w.heap.size]? = some (.cells #[.int .i64 0, .string ⟨#[]⟩, .int .i64 0, .int .i64 0, .int .i64 0, .int .i64 0, .int .i64 0, .int .i64 0] 25 (0, 0)) by rw [← hw1, Below.heap_alloc _ _ _ (by simp <;> omega), Below.heap_alloc _ _ _ (by simp <;> omega), Below.heap_alloc _ _ _ (by simp <;> omega), Below.heap_alloc _ _ _ (by simp)]; exact heap_alloc_new _ _)
  have HF1 := Lib.hid (show w1.heap[w.heap.size + 1]? = some (.cells #[.int .i64 0, .int .i64 0, .int .i64 0] 30 (0, 0)) by rw [← hw1, Below.heap_alloc _ _ _ (by simp <;> omega), Below.heap_alloc _ _ _ (by simp <;> omega), Below.heap_alloc _ _ _ (by simp)]; exact alloc2_new _ _ _)
  have HU1 := Lib.hid (show FormB (w.heap.size + 2) (w.heap.size + 3) (w.heap.size + 4) ⟨⟨0, [], 0, 0, 0, 0, 0, 0⟩, 0, 0⟩ w1 by
    have e2 : ((w.alloc (.cells #[.int .i64 0, .string ⟨#[]⟩, .int .i64 0, .int .i64 0, .int .i64 0, .int .i64 0, .int .i64 0, .int .i64 0] 25)).alloc (.cells #[.int .i64 0, .int .i64 0, .int .i64 0] 30)).heap.size = w.heap.size + 2 := by simp
    refine ⟨?_, ?_, ?_⟩
    · rw [← hw1, Below.heap_alloc _ _ _ (by simp <;> omega), Below.heap_alloc _ _ _ (by simp), ← e2]; exact heap_alloc_new _ _
    · rw [← hw1, Below.heap_alloc _ _ _ (by simp), show w.heap.size + 3 = ((w.alloc (.cells #[.int .i64 0, .string ⟨#[]⟩, .int .i64 0, .int .i64 0, .int .i64 0, .int .i64 0, .int .i64 0, .int .i64 0] 25)).alloc (.cells #[.int .i64 0, .int .i64 0, .int .i64 0] 30)).heap.size + 1 by rw [e2]]; exact alloc2_new _ _ _
    · rw [← hw1, show w.heap.size + 4 = (((w.alloc (.cells #[.int .i64 0, .string ⟨#[]⟩, .int .i64 0, .int .i64 0, .int .i64 0, .int .i64 0, .int .i64 0, .int .i64 0] 25)).alloc (.cells #[.int .i64 0, .int .i64 0, .int .i64 0] 30)).alloc (.cells #[.int .i64 0, .string ⟨#[]⟩, .int .i64 0, .int .i64 0, .int .i64 0, .int .i64 0, .int .i64 0, .int .i64 0] 25)).heap.size + 1 by simp]; exact alloc2_new _ _ _)
  have HB1 := Lib.hid (show Below w.heap.size w w1 by rw [← hw1]; exact (((((Below.refl _ _).alloc (Nat.le_refl _) _).alloc (by simp) _).alloc (by simp <;> omega) _).alloc (by simp <;> omega) _).alloc (by simp <;> omega) _)
  have HZ1 := Lib.hid hz1
  rw [hw1]
  clear hw1 hz1
  go_loopg [7] 6 (fun gg i wr => ∃ j : Nat, 1 ≤ j ∧ j ≤ 6 ∧ 6 - j < gg ∧ i = .int .i64 j ∧ Hid (kd = 4 ∨ ∀ i, 1 ≤ i → i < j → headW i ≠ tx) ∧ Below w1.heap.size w1 wr)
  case atStart => exact ⟨1, Nat.le_refl _, by omega, by omega, rfl, Lib.hid (.inr fun i h1 h2 => by omega), Below.refl _ _⟩
  case round =>
    obtain ⟨j, hj1, hj6, hgj, rfl, hno, hb⟩ := hrel
    have HB := Lib.hid hb
    have HBW := Lib.hid (HB1.out.trans (hb.mono HB1.out.size))
    clear hb
    by_cases hj5 : j ≤ 5
    · have q1 : (j : Int) ≤ 5 := by omega
      go_wp2_with fail
      refine (parts_any (j : Int) (w.heap.size + 2) (w.heap.size + 3) (w.heap.size + 4) wr).mono ?_
      rintro e w3 ⟨v8, rfl, hsp, hb3⟩
      obtain ⟨fs, hfs⟩ := form_head j hj1 hj5
      obtain ⟨bq, oq, cq, rfl, hq1, hq2, hbq, hbr, hqc⟩ := hsp.form (by rw [hfs]; exact Nat.succ_pos _)
      have hh0 : w3.cell? ⟨bq, oq, none⟩ = some (.string (ba (headW j))) := by simpa using hqc 0 (.word (headW j)) (by rw [hfs]; rfl) 0 _ rfl
      have HB3 := Lib.hid (HB.out.trans (hb3.mono HB.out.size))
      have HBW3 := Lib.hid (HBW.out.trans (hb3.mono HBW.out.size))
      have HQC := Lib.hid hqc
      have hfl := form_len (j : Int)
      have hfp : 0 < (formD (j : Int)).length := by rw [hfs]; exact Nat.succ_pos _
      have q2 : (0 : Int) < ((formD (j : Int)).length : Int) := by omega
      have HFS := Lib.hid hfs
      clear hsp hb3 hqc hfs
      obtain ⟨x0, x1, x3, x4⟩ := HC.out w3 HBW3.out
      clear x3 x4
      by_cases hk4 : kd = 4
      · have e1 : (kd == 4) = true := beq_iff_eq.2 hk4
        have HK4 := Lib.hid hk4
        clear hk4
        go_upto_region 7 with fail
        go_quiet (fail)
        as_aux_lemma =>
          clear x0 x1 hh0
          go_wp2_with fail
          go_roundg (7 - (j + 1))
          case measure => omega
          case rel => exact ⟨j + 1, by omega, by omega, by omega, by go_num, Lib.hid (.inl HK4.out), below_drewN HB3.out _⟩
      · have e1 : (kd == 4) = false := beq_eq_false_iff_ne.2 hk4
        have HK4 := Lib.hid hk4
        clear hk4
        by_cases hx : headW j = tx
        · have hb2 : ((ba tx).toList == (ba (headW j)).toList) = true := by rw [ba_toList, ba_toList]; exact beq_iff_eq.2 hx.symm
          have HX := Lib.hid hx
          clear hx
          go_upto_region 7 with fail
          go_quiet (fail)
          clear x0 x1 hh0 hb2
          have HKU := Lib.hid (show kindU ⟨kd, tx, nu, li, co⟩ = (j : Int) from kindU_hit hj1 hj5 HK4.out (hno.out.resolve_left HK4.out) HX.out)
          generalize hw4 : World.drewN w3 _ = w4
          have HB4 := Lib.hid (show Below w1.heap.size w1 w4 by rw [← hw4]; exact below_drewN HB3.out _)
          have HBW4 := Lib.hid (show Below w.heap.size w w4 by rw [← hw4]; exact below_drewN HBW3.out _)
          have HU4 := Lib.hid (show FormB (w.heap.size + 2) (w.heap.size + 3) (w.heap.size + 4) (blankU (j : Int)) w4 from FormB.keep (f := blankU (j : Int)) HU1.out (HB4.out.block _ (by have := HZ1.out; omega)) (HB4.out.block _ (by have := HZ1.out; omega)) (HB4.out.block _ (by have := HZ1.out; omega)))
          have HQ4 := Lib.hid (show ∀ i x, (formD (j : Int))[i]? = some x → ∀ k u, (pdc (w.heap.size + 2) (w.heap.size + 3) (w.heap.size + 4) x)[k]? = some u → w4.cell? ⟨bq, oq + i * 4 + k, none⟩ = some u by rw [← hw4]; exact HQC.out)
          have HBQ := Lib.hid (show w.heap.size + 5 ≤ bq ∧ bq < w4.heap.size from ⟨by have := HB.out.size; have := HZ1.out; omega, by rw [← hw4]; exact hbq⟩)
          have HZ4 := Lib.hid (show w.heap.size + 5 ≤ w4.heap.size by have := HB4.out.size; have := HZ1.out; omega)
          have HA4 := Lib.hid ((HB4.out.block w.heap.size (by have := HZ1.out; omega)).trans HA1.out)
          have HF4 := Lib.hid ((HB4.out.block (w.heap.size + 1) (by have := HZ1.out; omega)).trans HF1.out)
          clear hw4 hbq hbr
          go_wp2_with fail
          go_loopg [9] (formD (j : Int)).length (fun gi s9 wr => ∃ (m : Nat) (f : FormU), m ≤ (formD (j : Int)).length ∧ (formD (j : Int)).length - m ≤ gi ∧ s9 = .int .i64 m ∧ Hid (f.u.kind = (j : Int)) ∧ Hid (FormB (w.heap.size + 2) (w.heap.size + 3) (w.heap.size + 4) f wr) ∧ Hid (runU (formD (j : Int)) (⟨kd, tx, nu, li, co⟩ :: ts) (blankU (j : Int)) = runU ((formD (j : Int)).drop m) ((⟨kd, tx, nu, li, co⟩ :: ts : List TokD).drop m) f) ∧ Hid (∀ i x, i < m → (⟨kd, tx, nu, li, co⟩ :: ts : List TokD)[i]? = some x → x.kind ≠ 4) ∧ Hid (∀ b, b < w4.heap.size → b ≠ w.heap.size + 2 → b ≠ w.heap.size + 3 → b ≠ w.heap.size + 4 → wr.heap[b]? = w4.heap[b]?) ∧ w4.heap.size ≤ wr.heap.size ∧ Below w.heap.size w wr)
          case atStart => exact ⟨0, blankU (j : Int), Nat.zero_le _, Nat.le_refl _, rfl, Lib.hid rfl, HU4, Lib.hid rfl, Lib.hid (fun i x h => absurd h (Nat.not_lt_zero _)), Lib.hid (fun b _ _ _ _ => rfl), Nat.le_refl _, HBW4.out⟩
          case round =>
            obtain ⟨m, f, hm, hgm, rfl, HKf, HFm, HRm, HEm, HPm, hsm, hbm⟩ := hrel
            have HBm := Lib.hid hbm
            clear hbm
            have hz4 := HZ4.out
            have hmn : m < n := by rw [← HN.out]; exact not_last HLAST.out (by rw [HN.out]; exact hl0) m HEm.out
            obtain ⟨x, hx⟩ : ∃ x, (⟨kd, tx, nu, li, co⟩ :: ts : List TokD)[m]? = some x := ⟨_, List.getElem?_eq_getElem (by rw [HN.out]; exact hmn)⟩
            have q3 : (m : Int) < (n : Int) := by omega
            have q5 : (0 : Int) ≤ (m : Int) := by omega
            by_cases hml : m < (formD (j : Int)).length
            · obtain ⟨y, hy⟩ : ∃ y, (formD (j : Int))[m]? = some y := ⟨_, List.getElem?_eq_getElem hml⟩
              have HYO := Lib.hid (show okF y from form_ok (j : Int) y (List.mem_of_getElem? hy))
              have HYW := Lib.hid (show ∀ wd, y = .word wd → wd ≠ [] from fun wd e => word_ne (j : Int) wd (e ▸ List.mem_of_getElem? hy))
              have HXK := Lib.hid (HKD.out x (List.mem_of_getElem? hx))
              have HRX := Lib.hid (show runU (formD (j : Int)) (⟨kd, tx, nu, li, co⟩ :: ts) (blankU (j : Int)) = if takeD y x = true then runU ((formD (j : Int)).drop (m + 1)) ((⟨kd, tx, nu, li, co⟩ :: ts : List TokD).drop (m + 1)) (setF y x f) else (f, some x) by rw [HRm.out, drop_get hy, drop_get hx]; rfl)
              have HXM := Lib.hid hx
              obtain ⟨xk, xt, xn, xl, xc⟩ := x
              have t0 : wr.cell? ⟨bl, ol + m * 5, none⟩ = some (.int .i64 xk) := (HBm.out.cell (p := ⟨bl, ol + m * 5, none⟩) hbl).trans (by simpa using HCELL.out m _ hx 0 _ rfl)
              have t1 : wr.cell? ⟨bl, ol + m * 5 + 1, none⟩ = some (.string (ba xt)) := (HBm.out.cell (p := ⟨bl, ol + m * 5 + 1, none⟩) hbl).trans (by simpa using HCELL.out m _ hx 1 _ rfl)
              have t2 : wr.cell? ⟨bl, ol + m * 5 + 2, none⟩ = some (.int .i64 xn) := (HBm.out.cell (p := ⟨bl, ol + m * 5 + 2, none⟩) hbl).trans (by simpa using HCELL.out m _ hx 2 _ rfl)
              have t3 : wr.cell? ⟨bl, ol + m * 5 + 3, none⟩ = some (.int .i64 xl) := (HBm.out.cell (p := ⟨bl, ol + m * 5 + 3, none⟩) hbl).trans (by simpa using HCELL.out m _ hx 3 _ rfl)
              have t4 : wr.cell? ⟨bl, ol + m * 5 + 4, none⟩ = some (.int .i64 xc) := (HBm.out.cell (p := ⟨bl, ol + m * 5 + 4, none⟩) hbl).trans (by simpa using HCELL.out m _ hx 4 _ rfl)
              have q4 : (m : Int) < ((formD (j : Int)).length : Int) := by omega
              have HY := Lib.hid hy
              clear hx hy
              go_upto_region 12 with fail
              obtain ⟨w5, hw5⟩ : ∃ w5, wr.alloc (.cells #[.int .i64 xk, .string (ba xt), .int .i64 xn, .int .i64 xl, .int .i64 xc] 51) = w5 := ⟨_, rfl⟩
              have ht5 : w5.heap[wr.heap.size]? = some (.cells #[.int .i64 xk, .string (ba xt), .int .i64 xn, .int .i64 xl, .int .i64 xc] 51 (0, 0)) := by rw [← hw5]; exact heap_alloc_new _ _
              have hold : ∀ b, b < wr.heap.size → w5.heap[b]? = wr.heap[b]? := fun b hb => by rw [← hw5]; exact heap_alloc_old _ _ hb
              have HF5 := Lib.hid (HFm.out.keep (hold _ (by omega)) (hold _ (by omega)) (hold _ (by omega)))
              have HP5 := Lib.hid (show ∀ b, b < w4.heap.size → b ≠ w.heap.size + 2 → b ≠ w.heap.size + 3 → b ≠ w.heap.size + 4 → w5.heap[b]? = w4.heap[b]? from fun b h1 h2 h3 h4 => (hold b (by omega)).trans (HPm.out b h1 h2 h3 h4))
              have HB5 := Lib.hid (show Below w.heap.size w w5 by rw [← hw5]; exact HBm.out.alloc HBm.out.size _)
              have HS5 := Lib.hid (show wr.heap.size < w5.heap.size by rw [← hw5]; simp)
              have HYC := Lib.hid (show ∀ k u, (pdc (w.heap.size + 2) (w.heap.size + 3) (w.heap.size + 4) y)[k]? = some u → w5.cell? ⟨bq, oq + m * 4 + k, none⟩ = some u from fun k u h => (World.cell?_of_block (a := ⟨bq, _, none⟩) (HP5.out bq HBQ.out.2 (by have := HBQ.out.1; omega) (by have := HBQ.out.1; omega) (by have := HBQ.out.1; omega))).trans (HQ4.out m y HY.out k u h))
              rw [hw5]
              clear hw5 t0 t1 t2 t3 t4 hold
              have HT5 := Lib.hid ht5
              clear ht5
              go_cut [11] (fun s11 wx => s11 = .bool (!takeD y ⟨xk, xt, xn, xl, xc⟩) ∧ Hid (wx.heap = w5.heap) ∧ Below w.heap.size w wx)
              case first =>
                have t0 : w5.cell? ⟨wr.heap.size, 0, none⟩ = some (.int .i64 xk) := Lib.cell_of_heap HT5.out 0
                have t1 : w5.cell? ⟨wr.heap.size, 1, none⟩ = some (.string (ba xt)) := Lib.cell_of_heap HT5.out 1
                have t2 : w5.cell? ⟨wr.heap.size, 2, none⟩ = some (.int .i64 xn) := Lib.cell_of_heap HT5.out 2
                cases y with
                | word wd =>
                  have y0 : w5.cell? ⟨bq, oq + m * 4, none⟩ = some (.string (ba wd)) := by simpa using HYC.out 0 _ rfl
                  have y1 : w5.cell? ⟨bq, oq + m * 4 + 1, none⟩ = some (.pointer none) := by simpa using HYC.out 1 _ rfl
                  have y2 : w5.cell? ⟨bq, oq + m * 4 + 2, none⟩ = some (.pointer none) := by simpa using HYC.out 2 _ rfl
                  have z0 : ((ba wd).toList == []) = false := by rw [ba_toList]; exact beq_eq_false_iff_ne.2 (HYW.out wd rfl)
                  by_cases h4 : xk = 4
                  · have e4 : (xk == 4) = true := beq_iff_eq.2 h4
                    have HTK := Lib.hid (show takeD (.word wd) ⟨xk, xt, xn, xl, xc⟩ = false by rw [h4]; simp [takeD])
                    clear h4
                    as_aux_lemma =>
                      go_quiet (fail)
                      go_wp2_with fail
                      go_meet
                      case rel => exact ⟨by rw [HTK.out]; rfl, Lib.hid rfl, below_drewN HB5.out _⟩
                  · have e4 : (xk == 4) = false := beq_eq_false_iff_ne.2 h4
                    by_cases h3 : xk = 3
                    · have e3 : (xk == 3) = true := beq_iff_eq.2 h3
                      have HTK := Lib.hid (show takeD (.word wd) ⟨xk, xt, xn, xl, xc⟩ = false by rw [h3]; simp [takeD])
                      clear h4 h3
                      as_aux_lemma =>
                        go_quiet (fail)
                        go_wp2_with fail
                        go_meet
                        case rel => exact ⟨by rw [HTK.out]; rfl, Lib.hid rfl, below_drewN HB5.out _⟩
                    · have e3 : (xk == 3) = false := beq_eq_false_iff_ne.2 h3
                      have h12 : xk = 1 ∨ xk = 2 := by have := HXK.out; dsimp only at this; omega
                      by_cases hw : xt = wd
                      · have z1 : ((ba xt).toList == (ba wd).toList) = true := by rw [hw]; exact beq_self_eq_true _
                        have HTK := Lib.hid (show takeD (.word wd) ⟨xk, xt, xn, xl, xc⟩ = true by rcases h12 with h | h <;> simp [takeD, h, hw])
                        clear h4 h3 h12 hw
                        as_aux_lemma =>
                          go_quiet (fail)
                          go_wp2_with fail
                          go_meet
                          case rel => exact ⟨by rw [HTK.out]; rfl, Lib.hid rfl, below_drewN HB5.out _⟩
                      · have z1 : ((ba xt).toList == (ba wd).toList) = false := by rw [ba_toList, ba_toList]; exact beq_eq_false_iff_ne.2 hw
                        have HTK := Lib.hid (show takeD (.word wd) ⟨xk, xt, xn, xl, xc⟩ = false by simp [takeD, hw])
                        clear h4 h3 h12 hw
                        as_aux_lemma =>
                          go_quiet (fail)
                          go_wp2_with fail
                          go_meet
                          case rel => exact ⟨by rw [HTK.out]; rfl, Lib.hid rfl, below_drewN HB5.out _⟩
                | name =>
                  have y0 : w5.cell? ⟨bq, oq + m * 4, none⟩ = some (.string ⟨#[]⟩) := by simpa using HYC.out 0 _ rfl
                  have y1 : w5.cell? ⟨bq, oq + m * 4 + 1, none⟩ = some (.pointer (some ⟨w.heap.size + 2, 1, none⟩)) := by simpa using HYC.out 1 _ rfl
                  have y2 : w5.cell? ⟨bq, oq + m * 4 + 2, none⟩ = some (.pointer none) := by simpa using HYC.out 2 _ rfl
                  by_cases h1 : xk = 1
                  · have e1 : (xk == 1) = true := beq_iff_eq.2 h1
                    have e1b : (xk != 1) = false := by rw [bne, e1]; rfl
                    have HTK := Lib.hid (show takeD .name ⟨xk, xt, xn, xl, xc⟩ = true by rw [h1]; simp [takeD])
                    clear h1
                    as_aux_lemma =>
                      go_quiet (fail)
                      go_wp2_with fail
                      go_meet
                      case rel => exact ⟨by rw [HTK.out]; rfl, Lib.hid rfl, below_drewN HB5.out _⟩
                  · have e1 : (xk == 1) = false := beq_eq_false_iff_ne.2 h1
                    have e1b : (xk != 1) = true := by rw [bne, e1]; rfl
                    have HTK := Lib.hid (show takeD .name ⟨xk, xt, xn, xl, xc⟩ = false by simp [takeD, h1])
                    clear h1
                    as_aux_lemma =>
                      go_quiet (fail)
                      go_wp2_with fail
                      go_meet
                      case rel => exact ⟨by rw [HTK.out]; rfl, Lib.hid rfl, below_drewN HB5.out _⟩
                | num off low =>
                  have hpa := formB_num (low := low) HF5.out (show w.heap.size + 2 ≠ w.heap.size + 3 by omega) (show w.heap.size + 2 ≠ w.heap.size + 4 by omega) (show w.heap.size + 3 ≠ w.heap.size + 4 by omega) HYO.out ⟨xk, xt, xn, xl, xc⟩
                  obtain ⟨pb, po, old, hpe, _⟩ := hpa
                  have y0 : w5.cell? ⟨bq, oq + m * 4, none⟩ = some (.string ⟨#[]⟩) := by simpa using HYC.out 0 _ rfl
                  have y1 : w5.cell? ⟨bq, oq + m * 4 + 1, none⟩ = some (.pointer none) := by simpa using HYC.out 1 _ rfl
                  have y2 : w5.cell? ⟨bq, oq + m * 4 + 2, none⟩ = some (.pointer (some ⟨pb, po, none⟩)) := by rw [← hpe]; exact HYC.out 2 _ rfl
                  have y3 : w5.cell? ⟨bq, oq + m * 4 + 3, none⟩ = some (.int .i64 low) := by simpa using HYC.out 3 _ rfl
                  clear hpe
                  by_cases h3 : xk = 3
                  · have e3 : (xk == 3) = true := beq_iff_eq.2 h3
                    have e3b : (xk != 3) = false := by rw [bne, e3]; rfl
                    by_cases hl2 : xn < low
                    · have HTK := Lib.hid (show takeD (.num off low) ⟨xk, xt, xn, xl, xc⟩ = false by rw [h3]; simp [takeD]; omega)
                      clear h3
                      as_aux_lemma =>
                        go_quiet (fail)
                        go_wp2_with fail
                        go_meet
                        case rel => exact ⟨by rw [HTK.out]; rfl, Lib.hid rfl, below_drewN HB5.out _⟩
                    · have HTK := Lib.hid (show takeD (.num off low) ⟨xk, xt, xn, xl, xc⟩ = true by rw [h3]; simp [takeD]; omega)
                      clear h3
                      as_aux_lemma =>
                        go_quiet (fail)
                        go_wp2_with fail
                        go_meet
                        case rel => exact ⟨by rw [HTK.out]; rfl, Lib.hid rfl, below_drewN HB5.out _⟩
                  · have e3 : (xk == 3) = false := beq_eq_false_iff_ne.2 h3
                    have e3b : (xk != 3) = true := by rw [bne, e3]; rfl
                    have HTK := Lib.hid (show takeD (.num off low) ⟨xk, xt, xn, xl, xc⟩ = false by simp [takeD, h3])
                    clear h3
                    as_aux_lemma =>
                      go_quiet (fail)
                      go_wp2_with fail
                      go_meet
                      case rel => exact ⟨by rw [HTK.out]; rfl, Lib.hid rfl, below_drewN HB5.out _⟩
              case rest =>
                obtain ⟨rfl, HHc, hbc⟩ := hcut
                have HBc := Lib.hid hbc
                clear hbc
                have HPc := Lib.hid (show ∀ b, b < w4.heap.size → b ≠ w.heap.size + 2 → b ≠ w.heap.size + 3 → b ≠ w.heap.size + 4 → wc.heap[b]? = w4.heap[b]? from fun b h1 h2 h3 h4 => by rw [HHc.out]; exact HP5.out b h1 h2 h3 h4)
                have HFc := Lib.hid (show FormB (w.heap.size + 2) (w.heap.size + 3) (w.heap.size + 4) f wc from HF5.out.keep (by rw [HHc.out]) (by rw [HHc.out]) (by rw [HHc.out]))
                have HTc := Lib.hid (show wc.heap[wr.heap.size]? = some (.cells #[.int .i64 xk, .string (ba xt), .int .i64 xn, .int .i64 xl, .int .i64 xc] 51 (0, 0)) by rw [HHc.out]; exact HT5.out)
                have HSc := Lib.hid (show w4.heap.size ≤ wc.heap.size by rw [HHc.out]; have := HS5.out; omega)
                have HYd := Lib.hid (show ∀ k u, (pdc (w.heap.size + 2) (w.heap.size + 3) (w.heap.size + 4) y)[k]? = some u → wc.cell? ⟨bq, oq + m * 4 + k, none⟩ = some u from fun k u h => (World.cell?_of_block (a := ⟨bq, _, none⟩) (by rw [HHc.out])).trans (HYC.out k u h))
                clear HHc
                cases htk : takeD y ⟨xk, xt, xn, xl, xc⟩
                · have HLU := Lib.hid (show lineU (⟨kd, tx, nu, li, co⟩ :: ts) = (zeroU, 7, xl, xc) from lineU_bad HKU.out hj5 (HRX.out.trans (if_neg (by rw [htk]; decide))))
                  clear htk
                  as_aux_lemma =>
                    have hSw : (fun wy : World => wy.cell? ⟨wr.heap.size, 3, none⟩ = some (.int .i64 xl) ∧ wy.cell? ⟨wr.heap.size, 4, none⟩ = some (.int .i64 xc)) wc := ⟨Lib.cell_of_heap HTc.out 3, Lib.cell_of_heap HTc.out 4⟩
                    have RA := (HPc.out w.heap.size (by omega) (by omega) (by omega) (by omega)).trans HA4.out
                    have RB := (HPc.out (w.heap.size + 1) (by omega) (by omega) (by omega) (by omega)).trans HF4.out
                    have RA0 := Lib.hid RA
                    have RB0 := Lib.hid RB
                    have HSw := Lib.hid hSw
                    clear RA RB hSw
                    go_upto_region 14 with fail
                    have RA := RA0.out
                    have RB := RB0.out
                    have hSw := HSw.out
                    try dsimp only at hSw
                    refine wp_region_kinds (fun wy : World => wy.cell? ⟨wr.heap.size, 3, none⟩ = some (.int .i64 xl) ∧ wy.cell? ⟨wr.heap.size, 4, none⟩ = some (.int .i64 xc)) [6, 7] [] [2, 4] [0, 1, 3, 5] [0, 1, 2, 3, 4, 5, 6, 7] (by kernel_rfl) (by kernel_rfl) (fun w n h => h) ?_
                    repeat (first | (refine wpKind_free (v := ?_) (by rfl) rfl (by rfl) ?_ ?_; rotate_left 1; (focus (intro wy; go_simp; try with_reducible rfl; done)); try simp only [Act.put, List.setIfInBounds_toArray, List.set_cons_zero, List.set_cons_succ]) | (refine wpKind_held (v := ?_) (by rfl) rfl (by rfl) hSw ?_ ?_; rotate_left 1; (focus (intro wy hSy; obtain ⟨s3, s4⟩ := hSy; go_simp; try with_reducible rfl; done)); try simp only [Act.put, List.setIfInBounds_toArray, List.set_cons_zero, List.set_cons_succ]))
                    refine wpKind_keeps (by rfl) rfl (fun m1 => ?_)
                    refine wpList_store_row rfl 25 _ _ rfl w.heap.size #[.int .i64 0, .string ⟨#[]⟩, .int .i64 0, .int .i64 0, .int .i64 0, .int .i64 0, .int .i64 0, .int .i64 0] rfl rfl 25 #[.int .i64 0, .string ⟨#[]⟩, .int .i64 0, .int .i64 0, .int .i64 0, .int .i64 0, .int .i64 0, .int .i64 0] (show (wc.drewN m1).heap[w.heap.size]? = _ from RA) (by kernel_rfl) rfl (upc_allY zeroU) ?_
                    obtain ⟨wa, hwa⟩ : ∃ X, (wc.drewN m1).setRow w.heap.size #[.int .i64 0, .string ⟨#[]⟩, .int .i64 0, .int .i64 0, .int .i64 0, .int .i64 0, .int .i64 0, .int .i64 0] = X := ⟨_, rfl⟩
                    have ra := setRow_heap (wc.drewN m1) w.heap.size _ #[.int .i64 0, .string ⟨#[]⟩, .int .i64 0, .int .i64 0, .int .i64 0, .int .i64 0, .int .i64 0, .int .i64 0] _ _ RA
                    have oa : ∀ c, c ≠ w.heap.size → wa.heap[c]? = wc.heap[c]? := fun c hc => by rw [← hwa]; exact setRow_other (wc.drewN m1) _ c _ hc
                    have bwa := below_setRow (below_drewN HBc.out m1) (Nat.le_refl w.heap.size) #[.int .i64 0, .string ⟨#[]⟩, .int .i64 0, .int .i64 0, .int .i64 0, .int .i64 0, .int .i64 0, .int .i64 0]
                    rw [hwa] at ra bwa ⊢
                    clear hwa
                    have hSw2 := And.intro ((World.cell?_of_block (a := ⟨wr.heap.size, 3, none⟩) (oa wr.heap.size (by omega))).trans hSw.1) ((World.cell?_of_block (a := ⟨wr.heap.size, 4, none⟩) (oa wr.heap.size (by omega))).trans hSw.2)
                    show _ ∧ _
                    refine ⟨hSw2, ?_⟩
                    have RB2 := (oa (w.heap.size + 1) (by omega)).trans RB
                    refine wpKind_keeps (by rfl) rfl (fun m2 => ?_)
                    refine wpList_store_row rfl 30 _ _ rfl (w.heap.size + 1) #[.int .i64 7, .int .i64 xl, .int .i64 xc] rfl rfl 30 #[.int .i64 0, .int .i64 0, .int .i64 0] (show (wa.drewN m2).heap[w.heap.size + 1]? = _ from RB2) (by kernel_rfl) rfl (three_all _ _ _) ?_
                    obtain ⟨wb, hwb⟩ : ∃ X, (wa.drewN m2).setRow (w.heap.size + 1) #[.int .i64 7, .int .i64 xl, .int .i64 xc] = X := ⟨_, rfl⟩
                    have rb := setRow_heap (wa.drewN m2) (w.heap.size + 1) _ #[.int .i64 7, .int .i64 xl, .int .i64 xc] _ _ RB2
                    have ob : ∀ c, c ≠ w.heap.size + 1 → wb.heap[c]? = wa.heap[c]? := fun c hc => by rw [← hwb]; exact setRow_other (wa.drewN m2) _ c _ hc
                    have bwb := below_setRow (below_drewN bwa m2) (Nat.le_succ w.heap.size) #[.int .i64 7, .int .i64 xl, .int .i64 xc]
                    rw [hwb] at rb bwb ⊢
                    clear hwb
                    show _ ∧ _
                    refine ⟨And.intro ((World.cell?_of_block (a := ⟨wr.heap.size, 3, none⟩) (ob wr.heap.size (by omega))).trans hSw2.1) ((World.cell?_of_block (a := ⟨wr.heap.size, 4, none⟩) (ob wr.heap.size (by omega))).trans hSw2.2), ?_⟩
                    refine wpKind_nil fun m3 => ?_
                    have RAx := Lib.hid (show (wb.drewN m3).heap[w.heap.size]? = some (.cells #[.int .i64 0, .string ⟨#[]⟩, .int .i64 0, .int .i64 0, .int .i64 0, .int .i64 0, .int .i64 0, .int .i64 0] 25 (0, 0)) from (ob w.heap.size (by omega)).trans ra)
                    have RBx := Lib.hid (show (wb.drewN m3).heap[w.heap.size + 1]? = some (.cells #[.int .i64 7, .int .i64 xl, .int .i64 xc] 30 (0, 0)) from rb)
                    have RBW := Lib.hid (below_drewN bwb m3)
                    clear RA RB RB2 ra rb oa ob bwa bwb hSw hSw2
                    go_wp2_with fail
                    refine bodyPost_ret (results_cc rfl _ _ w.heap.size (w.heap.size + 1) _ _ _ _ (0, 0) (0, 0) _ _ rfl RAx.out Tryz.underlying25 rfl (by kernel_rfl) rfl RBx.out Tryz.underlying30 rfl (by kernel_rfl)) rfl ⟨?_, RBW.out⟩
                    rw [HLU.out]; rfl
                · have HR2 := Lib.hid (HRX.out.trans (if_pos htk))
                  have HE2 := Lib.hid (show ∀ i x, i < m + 1 → (⟨kd, tx, nu, li, co⟩ :: ts : List TokD)[i]? = some x → x.kind ≠ 4 from fun i x hi hix => by
                    rcases Nat.lt_or_ge i m with h | h
                    · exact HEm.out i x h hix
                    · have e : i = m := by omega
                      rw [e, HXM.out] at hix
                      obtain rfl := Option.some.inj hix
                      exact take_kind htk)
                  have HK2 := Lib.hid (show (setF y ⟨xk, xt, xn, xl, xc⟩ f).u.kind = (j : Int) from (setF_kind _ _ _).trans HKf.out)
                  clear htk
                  have t1 : wc.cell? ⟨wr.heap.size, 1, none⟩ = some (.string (ba xt)) := Lib.cell_of_heap HTc.out 1
                  have t2 : wc.cell? ⟨wr.heap.size, 2, none⟩ = some (.int .i64 xn) := Lib.cell_of_heap HTc.out 2
                  have q4 : (m : Int) < ((formD (j : Int)).length : Int) := by omega
                  cases y with
                  | word wd =>
                    have y1 : wc.cell? ⟨bq, oq + m * 4 + 1, none⟩ = some (.pointer none) := by simpa using HYd.out 1 _ rfl
                    have y2 : wc.cell? ⟨bq, oq + m * 4 + 2, none⟩ = some (.pointer none) := by simpa using HYd.out 2 _ rfl
                    as_aux_lemma =>
                      go_wp2_with fail
                      go_roundg ((formD (j : Int)).length - (m + 1))
                      case measure => omega
                      case rel => exact ⟨m + 1, f, hml, by omega, by go_num, HKf, HFc, HR2, HE2, HPc, HSc.out, HBc.out⟩
                  | name =>
                    have y1 : wc.cell? ⟨bq, oq + m * 4 + 1, none⟩ = some (.pointer (some ⟨w.heap.size + 2, 1, none⟩)) := by simpa using HYd.out 1 _ rfl
                    have y2 : wc.cell? ⟨bq, oq + m * 4 + 2, none⟩ = some (.pointer none) := by simpa using HYd.out 2 _ rfl
                    as_aux_lemma =>
                      go_upto_region 16 with fail
                      have hSw : (fun wy : World => wy.cell? ⟨bq, oq + m * 4 + 1, none⟩ = some (.pointer (some ⟨w.heap.size + 2, 1, none⟩)) ∧ wy.cell? ⟨wr.heap.size, 1, none⟩ = some (.string (ba xt))) wc := ⟨y1, t1⟩
                      have hfn := formB_name HFc.out (show w.heap.size + 2 ≠ w.heap.size + 3 by omega) (show w.heap.size + 2 ≠ w.heap.size + 4 by omega) ⟨xk, xt, xn, xl, xc⟩
                      have HFN := Lib.hid hfn.2.2
                      have c1 := hfn.1
                      have f1 := hfn.2.1
                      clear hfn t1 t2 y1
                      dsimp only at hSw
                      refine wp_region_kinds (fun wy : World => wy.cell? ⟨bq, oq + m * 4 + 1, none⟩ = some (.pointer (some ⟨w.heap.size + 2, 1, none⟩)) ∧ wy.cell? ⟨wr.heap.size, 1, none⟩ = some (.string (ba xt))) [] [8] [4, 6] [0, 1, 2, 3, 5, 7] [0, 1, 2, 3, 4, 5, 6, 7, 8] (by kernel_rfl) (by kernel_rfl) (fun w n h => h) ?_
                      repeat (first | (refine wpKind_free (v := ?_) (by rfl) rfl (by rfl) ?_ ?_; rotate_left 1; (focus (intro wy; go_simp; try with_reducible rfl; done)); try simp only [Act.put, List.setIfInBounds_toArray, List.set_cons_zero, List.set_cons_succ]) | (refine wpKind_held (v := ?_) (by rfl) rfl (by rfl) hSw ?_ ?_; rotate_left 1; (focus (intro wy hSy; obtain ⟨s3, s4⟩ := hSy; go_simp; try with_reducible rfl; done)); try simp only [Act.put, List.setIfInBounds_toArray, List.set_cons_zero, List.set_cons_succ]))
                      refine wpKind_serial (by rfl) rfl (fun m1 => ?_)
                      go_wp2_with fail
                      obtain ⟨w6, hw6⟩ : ∃ w6, (wc.drewN m1).setCell ⟨w.heap.size + 2, 1, none⟩ (.string (ba xt)) = w6 := ⟨_, rfl⟩
                      have HF6 := Lib.hid (show FormB (w.heap.size + 2) (w.heap.size + 3) (w.heap.size + 4) (setF .name ⟨xk, xt, xn, xl, xc⟩ f) w6 by rw [← hw6]; exact HFN.out)
                      have HP6 := Lib.hid (show ∀ b, b < w4.heap.size → b ≠ w.heap.size + 2 → b ≠ w.heap.size + 3 → b ≠ w.heap.size + 4 → w6.heap[b]? = w4.heap[b]? from fun b h1 h2 h3 h4 => by rw [← hw6]; exact (Below.heap_setCell (wc.drewN m1) _ _ _ (by exact h2)).trans (HPc.out b h1 h2 h3 h4))
                      have HB6 := Lib.hid (show Below w.heap.size w w6 by rw [← hw6]; exact (below_drewN HBc.out m1).setCell (p := ⟨w.heap.size + 2, 1, none⟩) (by show w.heap.size ≤ w.heap.size + 2; omega) _)
                      have HS6 := Lib.hid (show w4.heap.size ≤ w6.heap.size by rw [← hw6]; have := HSc.out; simpa using this)
                      have y2b : w6.cell? ⟨bq, oq + m * 4 + 2, none⟩ = some (.pointer none) := by
                        refine (World.cell?_of_block (a := ⟨bq, _, none⟩) (?_ : w6.heap[bq]? = wc.heap[bq]?)).trans y2
                        rw [← hw6]; exact Below.heap_setCell (wc.drewN m1) _ _ _ (by show bq ≠ w.heap.size + 2; have := HBQ.out.1; omega)
                      rw [hw6]
                      clear hw6 y2 c1 f1 hSw
                      show wpKind _ _ _ _ _ _ _ _ _
                      refine wpKind_nil fun m4 => ?_
                      go_wp2_with fail
                      go_roundg ((formD (j : Int)).length - (m + 1))
                      case measure => omega
                      case rel => exact ⟨m + 1, setF .name ⟨xk, xt, xn, xl, xc⟩ f, hml, by omega, by go_num, HK2, HF6, HR2, HE2, HP6, HS6.out, below_drewN HB6.out m4⟩
                  | num off low =>
                    obtain ⟨pb, po, old, hpe, hpb, c1, f1, hfn⟩ := formB_num (low := low) HFc.out (show w.heap.size + 2 ≠ w.heap.size + 3 by omega) (show w.heap.size + 2 ≠ w.heap.size + 4 by omega) (show w.heap.size + 3 ≠ w.heap.size + 4 by omega) HYO.out ⟨xk, xt, xn, xl, xc⟩
                    have HFN := Lib.hid hfn
                    have HPB := Lib.hid hpb
                    have y1 : wc.cell? ⟨bq, oq + m * 4 + 1, none⟩ = some (.pointer none) := by simpa using HYd.out 1 _ rfl
                    have y2 : wc.cell? ⟨bq, oq + m * 4 + 2, none⟩ = some (.pointer (some ⟨pb, po, none⟩)) := by rw [← hpe]; exact HYd.out 2 _ rfl
                    clear hpe hfn hpb
                    as_aux_lemma =>
                      go_upto_region 18 with fail
                      have hSw : (fun wy : World => wy.cell? ⟨bq, oq + m * 4 + 2, none⟩ = some (.pointer (some ⟨pb, po, none⟩)) ∧ wy.cell? ⟨wr.heap.size, 2, none⟩ = some (.int .i64 xn)) wc := ⟨y2, t2⟩
                      clear t1 t2 y1 y2
                      dsimp only at hSw
                      refine wp_region_kinds (fun wy : World => wy.cell? ⟨bq, oq + m * 4 + 2, none⟩ = some (.pointer (some ⟨pb, po, none⟩)) ∧ wy.cell? ⟨wr.heap.size, 2, none⟩ = some (.int .i64 xn)) [] [8] [4, 6] [0, 1, 2, 3, 5, 7] [0, 1, 2, 3, 4, 5, 6, 7, 8] (by kernel_rfl) (by kernel_rfl) (fun w n h => h) ?_
                      repeat (first | (refine wpKind_free (v := ?_) (by rfl) rfl (by rfl) ?_ ?_; rotate_left 1; (focus (intro wy; go_simp; try with_reducible rfl; done)); try simp only [Act.put, List.setIfInBounds_toArray, List.set_cons_zero, List.set_cons_succ]) | (refine wpKind_held (v := ?_) (by rfl) rfl (by rfl) hSw ?_ ?_; rotate_left 1; (focus (intro wy hSy; obtain ⟨s3, s4⟩ := hSy; go_simp; try with_reducible rfl; done)); try simp only [Act.put, List.setIfInBounds_toArray, List.set_cons_zero, List.set_cons_succ]))
                      refine wpKind_serial (by rfl) rfl (fun m1 => ?_)
                      go_wp2_with fail
                      obtain ⟨w6, hw6⟩ : ∃ w6, (wc.drewN m1).setCell ⟨pb, po, none⟩ (.int .i64 xn) = w6 := ⟨_, rfl⟩
                      have HF6 := Lib.hid (show FormB (w.heap.size + 2) (w.heap.size + 3) (w.heap.size + 4) (setF (.num off low) ⟨xk, xt, xn, xl, xc⟩ f) w6 by rw [← hw6]; exact HFN.out)
                      have HP6 := Lib.hid (show ∀ b, b < w4.heap.size → b ≠ w.heap.size + 2 → b ≠ w.heap.size + 3 → b ≠ w.heap.size + 4 → w6.heap[b]? = w4.heap[b]? from fun b h1 h2 h3 h4 => by rw [← hw6]; exact (Below.heap_setCell (wc.drewN m1) _ _ _ (by show b ≠ pb; have := HPB.out; omega)).trans (HPc.out b h1 h2 h3 h4))
                      have HB6 := Lib.hid (show Below w.heap.size w w6 by rw [← hw6]; exact (below_drewN HBc.out m1).setCell (p := ⟨pb, po, none⟩) (by show w.heap.size ≤ pb; have := HPB.out; omega) _)
                      have HS6 := Lib.hid (show w4.heap.size ≤ w6.heap.size by rw [← hw6]; have := HSc.out; simpa using this)
                      rw [hw6]
                      clear hw6 c1 f1 hSw
                      show wpKind _ _ _ _ _ _ _ _ _
                      refine wpKind_nil fun m4 => ?_
                      go_wp2_with fail
                      go_roundg ((formD (j : Int)).length - (m + 1))
                      case measure => omega
                      case rel => exact ⟨m + 1, setF (.num off low) ⟨xk, xt, xn, xl, xc⟩ f, hml, by omega, by go_num, HK2, HF6, HR2, HE2, HP6, HS6.out, below_drewN HB6.out m4⟩
            · have hme : m = (formD (j : Int)).length := by omega
              subst hme
              have HRX := Lib.hid (show runU (formD (j : Int)) (⟨kd, tx, nu, li, co⟩ :: ts) (blankU (j : Int)) = if x.kind = 4 then (f, none) else (f, some x) by rw [HRm.out, List.drop_length, drop_get hx]; rfl)
              obtain ⟨xk, xt, xn, xl, xc⟩ := x
              have t0 : wr.cell? ⟨bl, ol + (formD (j : Int)).length * 5, none⟩ = some (.int .i64 xk) := (HBm.out.cell (p := ⟨bl, ol + (formD (j : Int)).length * 5, none⟩) hbl).trans (by simpa using HCELL.out _ _ hx 0 _ rfl)
              have t3 : wr.cell? ⟨bl, ol + (formD (j : Int)).length * 5 + 3, none⟩ = some (.int .i64 xl) := (HBm.out.cell (p := ⟨bl, ol + (formD (j : Int)).length * 5 + 3, none⟩) hbl).trans (by simpa using HCELL.out _ _ hx 3 _ rfl)
              have t4 : wr.cell? ⟨bl, ol + (formD (j : Int)).length * 5 + 4, none⟩ = some (.int .i64 xc) := (HBm.out.cell (p := ⟨bl, ol + (formD (j : Int)).length * 5 + 4, none⟩) hbl).trans (by simpa using HCELL.out _ _ hx 4 _ rfl)
              have q4 : ¬ ((formD (j : Int)).length : Int) < ((formD (j : Int)).length : Int) := Int.lt_irrefl _
              clear hx
              have RA0 := Lib.hid ((HPm.out w.heap.size (by omega) (by omega) (by omega) (by omega)).trans HA4.out)
              have RB0 := Lib.hid ((HPm.out (w.heap.size + 1) (by omega) (by omega) (by omega) (by omega)).trans HF4.out)
              by_cases h4 : xk = 4
              · have e4 : (xk == 4) = true := beq_iff_eq.2 h4
                have e4b : (xk != 4) = false := by rw [bne, e4]; rfl
                have HLU := Lib.hid (lineU_good HKU.out hj5 (HRX.out.trans (if_pos h4)) HKf.out)
                clear h4 t3 t4
                as_aux_lemma =>
                  obtain ⟨fa, fb, fc⟩ := HFm.out
                  have b0 : wr.cell? ⟨w.heap.size + 3, 0, none⟩ = some (.int .i64 f.no) := Lib.cell_of_heap fb 0
                  have b1 : wr.cell? ⟨w.heap.size + 4, 0, none⟩ = some (.int .i64 f.pos) := Lib.cell_of_heap fc 0
                  have a0 : wr.cell? ⟨w.heap.size + 2, 0, none⟩ = some (.int .i64 0) := Lib.cell_of_heap fa 0
                  have a2 : wr.cell? ⟨w.heap.size + 2, 2, none⟩ = some (.int .i64 0) := Lib.cell_of_heap fa 2
                  have a3 : wr.cell? ⟨w.heap.size + 2, 3, none⟩ = some (.int .i64 0) := Lib.cell_of_heap fa 3
                  have g0 : wr.frozen? ⟨w.heap.size + 2, 0, none⟩ = false := Lib.frozen_of_heap fa 0
                  have g2 : wr.frozen? ⟨w.heap.size + 2, 2, none⟩ = false := Lib.frozen_of_heap fa 2
                  have g3 : wr.frozen? ⟨w.heap.size + 2, 3, none⟩ = false := Lib.frozen_of_heap fa 3
                  have FA := Lib.hid fa
                  clear fa fb fc
                  go_upto_region 22 with fail
                  obtain ⟨wz, hwz⟩ : ∃ wz, ((wr.setCell ⟨w.heap.size + 2, 0, none⟩ (.int .i64 (j : Int))).setCell ⟨w.heap.size + 2, 2, none⟩ (.int .i64 f.no)).setCell ⟨w.heap.size + 2, 3, none⟩ (.int .i64 f.pos) = wz := ⟨_, rfl⟩
                  have hz : wz.heap[w.heap.size + 2]? = some (.cells #[.int .i64 (j : Int), .string (ba f.u.name), .int .i64 f.no, .int .i64 f.pos, .int .i64 f.u.by_, .int .i64 f.u.from_, .int .i64 f.u.every, .int .i64 f.u.len] 25 (0, 0)) := by
                    have c0 := heap_setCell_same _ (w.heap.size + 2) 0 _ _ (.int .i64 (j : Int)) FA.out
                    simp only [List.setIfInBounds_toArray, List.set_cons_zero] at c0
                    have c2 := heap_setCell_same _ (w.heap.size + 2) 2 _ _ (.int .i64 f.no) c0
                    simp only [List.setIfInBounds_toArray, List.set_cons_zero, List.set_cons_succ] at c2
                    have c3 := heap_setCell_same _ (w.heap.size + 2) 3 _ _ (.int .i64 f.pos) c2
                    simp only [List.setIfInBounds_toArray, List.set_cons_zero, List.set_cons_succ] at c3
                    rw [← hwz]; exact c3
                  have hoz : ∀ b, b ≠ w.heap.size + 2 → wz.heap[b]? = wr.heap[b]? := fun b hb => by rw [← hwz]; repeat rw [Below.heap_setCell _ _ _ _ (by exact hb)]
                  have BZ := Lib.hid (show Below w.heap.size w wz by rw [← hwz]; exact ((HBm.out.setCell (p := ⟨w.heap.size + 2, 0, none⟩) (by show w.heap.size ≤ w.heap.size + 2; omega) _).setCell (p := ⟨w.heap.size + 2, 2, none⟩) (by show w.heap.size ≤ w.heap.size + 2; omega) _).setCell (p := ⟨w.heap.size + 2, 3, none⟩) (by show w.heap.size ≤ w.heap.size + 2; omega) _)
                  rw [hwz]
                  clear hwz a0 a2 a3 g0 g2 g3 b0 b1
                  have rr := (hoz w.heap.size (by omega)).trans RA0.out
                  have rf := (hoz (w.heap.size + 1) (by omega)).trans RB0.out
                  have ra := setRow_heap wz w.heap.size _ #[.int .i64 (j : Int), .string (ba f.u.name), .int .i64 f.no, .int .i64 f.pos, .int .i64 f.u.by_, .int .i64 f.u.from_, .int .i64 f.u.every, .int .i64 f.u.len] _ _ rr
                  have rf2 := (setRow_other wz w.heap.size (w.heap.size + 1) #[.int .i64 (j : Int), .string (ba f.u.name), .int .i64 f.no, .int .i64 f.pos, .int .i64 f.u.by_, .int .i64 f.u.from_, .int .i64 f.u.every, .int .i64 f.u.len] (by omega)).trans rf
                  have rb := setRow_heap (wz.setRow w.heap.size #[.int .i64 (j : Int), .string (ba f.u.name), .int .i64 f.no, .int .i64 f.pos, .int .i64 f.u.by_, .int .i64 f.u.from_, .int .i64 f.u.every, .int .i64 f.u.len]) (w.heap.size + 1) _ #[.int .i64 0, .int .i64 0, .int .i64 0] _ _ rf2
                  have ra2 := (setRow_other (wz.setRow w.heap.size #[.int .i64 (j : Int), .string (ba f.u.name), .int .i64 f.no, .int .i64 f.pos, .int .i64 f.u.by_, .int .i64 f.u.from_, .int .i64 f.u.every, .int .i64 f.u.len]) (w.heap.size + 1) w.heap.size #[.int .i64 0, .int .i64 0, .int .i64 0] (by omega)).trans ra
                  have bz := below_setRow (below_setRow BZ.out (Nat.le_refl w.heap.size) #[.int .i64 (j : Int), .string (ba f.u.name), .int .i64 f.no, .int .i64 f.pos, .int .i64 f.u.by_, .int .i64 f.u.from_, .int .i64 f.u.every, .int .i64 f.u.len]) (Nat.le_succ w.heap.size) #[.int .i64 0, .int .i64 0, .int .i64 0]
                  have RAx := Lib.hid ra2
                  have RBx := Lib.hid rb
                  have RBW := Lib.hid bz
                  have HRR := Lib.hid rr
                  have HRF := Lib.hid rf2
                  have HZZ := Lib.hid hz
                  clear hoz rr rf ra rf2 rb ra2 bz hz
                  go_wp2_with (first | (refine wpList_load_row rfl 25 _ rfl (w.heap.size + 2) rfl 25 #[.int .i64 (j : Int), .string (ba f.u.name), .int .i64 f.no, .int .i64 f.pos, .int .i64 f.u.by_, .int .i64 f.u.from_, .int .i64 f.u.every, .int .i64 f.u.len] (0, 0) _ HZZ.out rfl rfl (by kernel_rfl) ?_) | (refine wpList_store_row rfl 25 _ _ rfl w.heap.size #[.int .i64 (j : Int), .string (ba f.u.name), .int .i64 f.no, .int .i64 f.pos, .int .i64 f.u.by_, .int .i64 f.u.from_, .int .i64 f.u.every, .int .i64 f.u.len] rfl rfl 25 #[.int .i64 0, .string ⟨#[]⟩, .int .i64 0, .int .i64 0, .int .i64 0, .int .i64 0, .int .i64 0, .int .i64 0] HRR.out (by kernel_rfl) rfl (upc_allY ⟨(j : Int), f.u.name, f.no, f.pos, f.u.by_, f.u.from_, f.u.every, f.u.len⟩) ?_) | (refine wpList_store_row rfl 30 _ _ rfl (w.heap.size + 1) #[.int .i64 0, .int .i64 0, .int .i64 0] rfl rfl 30 #[.int .i64 0, .int .i64 0, .int .i64 0] HRF.out (by kernel_rfl) rfl (three_all 0 0 0) ?_))
                  refine bodyPost_ret (results_cc rfl _ _ w.heap.size (w.heap.size + 1) _ _ _ _ (0, 0) (0, 0) _ _ rfl RAx.out Tryz.underlying25 rfl (by kernel_rfl) rfl RBx.out Tryz.underlying30 rfl (by kernel_rfl)) rfl ⟨?_, RBW.out⟩
                  rw [HLU.out]; rfl
              · have e4 : (xk == 4) = false := beq_eq_false_iff_ne.2 h4
                have e4b : (xk != 4) = true := by rw [bne, e4]; rfl
                have HLU := Lib.hid (show lineU (⟨kd, tx, nu, li, co⟩ :: ts) = (zeroU, 7, xl, xc) from lineU_bad HKU.out hj5 (HRX.out.trans (if_neg h4)))
                clear h4
                as_aux_lemma =>
                  have HSw := Lib.hid (show (fun wy : World => wy.cell? ⟨bl, ol + (formD (j : Int)).length * 5 + 3, none⟩ = some (.int .i64 xl) ∧ wy.cell? ⟨bl, ol + (formD (j : Int)).length * 5 + 4, none⟩ = some (.int .i64 xc)) wr from ⟨t3, t4⟩)
                  clear t3 t4
                  go_upto_region 20 with fail
                  have RA := RA0.out
                  have RB := RB0.out
                  have hSw := HSw.out
                  try dsimp only at hSw
                  refine wp_region_kinds (fun wy : World => wy.cell? ⟨bl, ol + (formD (j : Int)).length * 5 + 3, none⟩ = some (.int .i64 xl) ∧ wy.cell? ⟨bl, ol + (formD (j : Int)).length * 5 + 4, none⟩ = some (.int .i64 xc)) [14, 15] [] [6, 12] [0, 1, 2, 3, 4, 5, 7, 8, 9, 10, 11, 13] [0, 1, 2, 3, 4, 5, 6, 7, 8, 9, 10, 11, 12, 13, 14, 15] (by kernel_rfl) (by kernel_rfl) (fun w n h => h) ?_
                  repeat (first | (refine wpKind_free (v := ?_) (by rfl) rfl (by rfl) ?_ ?_; rotate_left 1; (focus (intro wy; go_simp; try with_reducible rfl; done)); try simp only [Act.put, List.setIfInBounds_toArray, List.set_cons_zero, List.set_cons_succ]) | (refine wpKind_held (v := ?_) (by rfl) rfl (by rfl) hSw ?_ ?_; rotate_left 1; (focus (intro wy hSy; obtain ⟨s3, s4⟩ := hSy; go_simp; try with_reducible rfl; done)); try simp only [Act.put, List.setIfInBounds_toArray, List.set_cons_zero, List.set_cons_succ]))
                  refine wpKind_keeps (by rfl) rfl (fun m1 => ?_)
                  refine wpList_store_row rfl 25 _ _ rfl w.heap.size #[.int .i64 0, .string ⟨#[]⟩, .int .i64 0, .int .i64 0, .int .i64 0, .int .i64 0, .int .i64 0, .int .i64 0] rfl rfl 25 #[.int .i64 0, .string ⟨#[]⟩, .int .i64 0, .int .i64 0, .int .i64 0, .int .i64 0, .int .i64 0, .int .i64 0] (show (wr.drewN m1).heap[w.heap.size]? = _ from RA) (by kernel_rfl) rfl (upc_allY zeroU) ?_
                  obtain ⟨wa, hwa⟩ : ∃ X, (wr.drewN m1).setRow w.heap.size #[.int .i64 0, .string ⟨#[]⟩, .int .i64 0, .int .i64 0, .int .i64 0, .int .i64 0, .int .i64 0, .int .i64 0] = X := ⟨_, rfl⟩
                  have ra := setRow_heap (wr.drewN m1) w.heap.size _ #[.int .i64 0, .string ⟨#[]⟩, .int .i64 0, .int .i64 0, .int .i64 0, .int .i64 0, .int .i64 0, .int .i64 0] _ _ RA
                  have oa : ∀ c, c ≠ w.heap.size → wa.heap[c]? = wr.heap[c]? := fun c hc => by rw [← hwa]; exact setRow_other (wr.drewN m1) _ c _ hc
                  have bwa := below_setRow (below_drewN HBm.out m1) (Nat.le_refl w.heap.size) #[.int .i64 0, .string ⟨#[]⟩, .int .i64 0, .int .i64 0, .int .i64 0, .int .i64 0, .int .i64 0, .int .i64 0]
                  rw [hwa] at ra bwa ⊢
                  clear hwa
                  have hSw2 := And.intro ((World.cell?_of_block (a := ⟨bl, ol + (formD (j : Int)).length * 5 + 3, none⟩) (oa bl (by omega))).trans hSw.1) ((World.cell?_of_block (a := ⟨bl, ol + (formD (j : Int)).length * 5 + 4, none⟩) (oa bl (by omega))).trans hSw.2)
                  show _ ∧ _
                  refine ⟨hSw2, ?_⟩
                  have RB2 := (oa (w.heap.size + 1) (by omega)).trans RB
                  refine wpKind_keeps (by rfl) rfl (fun m2 => ?_)
                  refine wpList_store_row rfl 30 _ _ rfl (w.heap.size + 1) #[.int .i64 7, .int .i64 xl, .int .i64 xc] rfl rfl 30 #[.int .i64 0, .int .i64 0, .int .i64 0] (show (wa.drewN m2).heap[w.heap.size + 1]? = _ from RB2) (by kernel_rfl) rfl (three_all _ _ _) ?_
                  obtain ⟨wb, hwb⟩ : ∃ X, (wa.drewN m2).setRow (w.heap.size + 1) #[.int .i64 7, .int .i64 xl, .int .i64 xc] = X := ⟨_, rfl⟩
                  have rb := setRow_heap (wa.drewN m2) (w.heap.size + 1) _ #[.int .i64 7, .int .i64 xl, .int .i64 xc] _ _ RB2
                  have ob : ∀ c, c ≠ w.heap.size + 1 → wb.heap[c]? = wa.heap[c]? := fun c hc => by rw [← hwb]; exact setRow_other (wa.drewN m2) _ c _ hc
                  have bwb := below_setRow (below_drewN bwa m2) (Nat.le_succ w.heap.size) #[.int .i64 7, .int .i64 xl, .int .i64 xc]
                  rw [hwb] at rb bwb ⊢
                  clear hwb
                  show _ ∧ _
                  refine ⟨And.intro ((World.cell?_of_block (a := ⟨bl, ol + (formD (j : Int)).length * 5 + 3, none⟩) (ob bl (by omega))).trans hSw2.1) ((World.cell?_of_block (a := ⟨bl, ol + (formD (j : Int)).length * 5 + 4, none⟩) (ob bl (by omega))).trans hSw2.2), ?_⟩
                  refine wpKind_nil fun m3 => ?_
                  have RAx := Lib.hid (show (wb.drewN m3).heap[w.heap.size]? = some (.cells #[.int .i64 0, .string ⟨#[]⟩, .int .i64 0, .int .i64 0, .int .i64 0, .int .i64 0, .int .i64 0, .int .i64 0] 25 (0, 0)) from (ob w.heap.size (by omega)).trans ra)
                  have RBx := Lib.hid (show (wb.drewN m3).heap[w.heap.size + 1]? = some (.cells #[.int .i64 7, .int .i64 xl, .int .i64 xc] 30 (0, 0)) from rb)
                  have RBW := Lib.hid (below_drewN bwb m3)
                  clear RA RB RB2 ra rb oa ob bwa bwb hSw hSw2
                  go_wp2_with fail
                  refine bodyPost_ret (results_cc rfl _ _ w.heap.size (w.heap.size + 1) _ _ _ _ (0, 0) (0, 0) _ _ rfl RAx.out Tryz.underlying25 rfl (by kernel_rfl) rfl RBx.out Tryz.underlying30 rfl (by kernel_rfl)) rfl ⟨?_, RBW.out⟩
                  rw [HLU.out]; rfl
        · have hb2 : ((ba tx).toList == (ba (headW j)).toList) = false := by rw [ba_toList, ba_toList]; exact beq_eq_false_iff_ne.2 fun h => hx h.symm
          have HX := Lib.hid hx
          clear hx
          go_upto_region 7 with fail
          go_quiet (fail)
          as_aux_lemma =>
            clear x0 x1 hh0 hb2
            go_wp2_with fail
            go_roundg (7 - (j + 1))
            case measure => omega
            case rel =>
              refine ⟨j + 1, by omega, by omega, by omega, by go_num, Lib.hid (.inr fun i h1 h2 => ?_), below_drewN HB3.out _⟩
              rcases Nat.lt_or_ge i j with h | h
              · exact (hno.out.resolve_left HK4.out) i h1 h
              · rw [show i = j by omega]; exact HX.out
    · have hj : j = 6 := by omega
      subst hj
      have HLU := Lib.hid (show lineU (⟨kd, tx, nu, li, co⟩ :: ts) = (zeroU, 7, li, co) by
        show (if kindU _ = 6 then _ else _) = _
        rw [if_pos (kindU_miss hno.out)])
      as_aux_lemma =>
        obtain ⟨x0, x1, x3, x4⟩ := HC.out wr HBW.out
        have hSw : (fun wy : World => wy.cell? ⟨bl, ol + 3, none⟩ = some (.int .i64 li) ∧ wy.cell? ⟨bl, ol + 4, none⟩ = some (.int .i64 co)) wr := ⟨x3, x4⟩
        clear x0 x1 x3 x4
        go_upto_region 23 with fail
        try dsimp only at hSw
        refine wp_region_kinds (fun wy : World => wy.cell? ⟨bl, ol + 3, none⟩ = some (.int .i64 li) ∧ wy.cell? ⟨bl, ol + 4, none⟩ = some (.int .i64 co)) [10, 11] [] [4, 8] [0, 1, 2, 3, 5, 6, 7, 9] [0, 1, 2, 3, 4, 5, 6, 7, 8, 9, 10, 11] (by kernel_rfl) (by kernel_rfl) (fun w n h => h) ?_
        repeat (first | (refine wpKind_free (v := ?_) (by rfl) rfl (by rfl) ?_ ?_; rotate_left 1; (focus (intro wy; go_simp; try with_reducible rfl; done)); try simp only [Act.put, List.setIfInBounds_toArray, List.set_cons_zero, List.set_cons_succ]) | (refine wpKind_held (v := ?_) (by rfl) rfl (by rfl) hSw ?_ ?_; rotate_left 1; (focus (intro wy hSy; obtain ⟨s3, s4⟩ := hSy; go_simp; try with_reducible rfl; done)); try simp only [Act.put, List.setIfInBounds_toArray, List.set_cons_zero, List.set_cons_succ]))
        have RA := (HB.out.block w.heap.size (by have := HZ1.out; omega)).trans HA1.out
        have RB := (HB.out.block (w.heap.size + 1) (by have := HZ1.out; omega)).trans HF1.out
        refine wpKind_keeps (by rfl) rfl (fun m1 => ?_)
        refine wpList_store_row rfl 25 _ _ rfl w.heap.size #[.int .i64 0, .string ⟨#[]⟩, .int .i64 0, .int .i64 0, .int .i64 0, .int .i64 0, .int .i64 0, .int .i64 0] rfl rfl 25 #[.int .i64 0, .string ⟨#[]⟩, .int .i64 0, .int .i64 0, .int .i64 0, .int .i64 0, .int .i64 0, .int .i64 0] (show (wr.drewN m1).heap[w.heap.size]? = _ from RA) (by kernel_rfl) rfl (upc_allY zeroU) ?_
        obtain ⟨wa, hwa⟩ : ∃ X, (wr.drewN m1).setRow w.heap.size #[.int .i64 0, .string ⟨#[]⟩, .int .i64 0, .int .i64 0, .int .i64 0, .int .i64 0, .int .i64 0, .int .i64 0] = X := ⟨_, rfl⟩
        have ra := setRow_heap (wr.drewN m1) w.heap.size _ #[.int .i64 0, .string ⟨#[]⟩, .int .i64 0, .int .i64 0, .int .i64 0, .int .i64 0, .int .i64 0, .int .i64 0] _ _ RA
        have oa : ∀ c, c ≠ w.heap.size → wa.heap[c]? = wr.heap[c]? := fun c hc => by rw [← hwa]; exact setRow_other (wr.drewN m1) _ c _ hc
        have bwa := below_setRow (below_drewN HBW.out m1) (Nat.le_refl w.heap.size) #[.int .i64 0, .string ⟨#[]⟩, .int .i64 0, .int .i64 0, .int .i64 0, .int .i64 0, .int .i64 0, .int .i64 0]
        rw [hwa] at ra bwa ⊢
        clear hwa
        have hSw2 := And.intro ((World.cell?_of_block (a := ⟨bl, ol + 3, none⟩) (oa bl (by omega))).trans hSw.1) ((World.cell?_of_block (a := ⟨bl, ol + 4, none⟩) (oa bl (by omega))).trans hSw.2)
        show _ ∧ _
        refine ⟨hSw2, ?_⟩
        have RB2 := (oa (w.heap.size + 1) (by omega)).trans RB
        refine wpKind_keeps (by rfl) rfl (fun m2 => ?_)
        refine wpList_store_row rfl 30 _ _ rfl (w.heap.size + 1) #[.int .i64 7, .int .i64 li, .int .i64 co] rfl rfl 30 #[.int .i64 0, .int .i64 0, .int .i64 0] (show (wa.drewN m2).heap[w.heap.size + 1]? = _ from RB2) (by kernel_rfl) rfl (three_all _ _ _) ?_
        obtain ⟨wb, hwb⟩ : ∃ X, (wa.drewN m2).setRow (w.heap.size + 1) #[.int .i64 7, .int .i64 li, .int .i64 co] = X := ⟨_, rfl⟩
        have rb := setRow_heap (wa.drewN m2) (w.heap.size + 1) _ #[.int .i64 7, .int .i64 li, .int .i64 co] _ _ RB2
        have ob : ∀ c, c ≠ w.heap.size + 1 → wb.heap[c]? = wa.heap[c]? := fun c hc => by rw [← hwb]; exact setRow_other (wa.drewN m2) _ c _ hc
        have bwb := below_setRow (below_drewN bwa m2) (Nat.le_succ w.heap.size) #[.int .i64 7, .int .i64 li, .int .i64 co]
        rw [hwb] at rb bwb ⊢
        clear hwb
        show _ ∧ _
        refine ⟨And.intro ((World.cell?_of_block (a := ⟨bl, ol + 3, none⟩) (ob bl (by omega))).trans hSw2.1) ((World.cell?_of_block (a := ⟨bl, ol + 4, none⟩) (ob bl (by omega))).trans hSw2.2), ?_⟩
        refine wpKind_nil fun m3 => ?_
        have RAx := Lib.hid (show (wb.drewN m3).heap[w.heap.size]? = some (.cells #[.int .i64 0, .string ⟨#[]⟩, .int .i64 0, .int .i64 0, .int .i64 0, .int .i64 0, .int .i64 0, .int .i64 0] 25 (0, 0)) from (ob w.heap.size (by omega)).trans ra)
        have RBx := Lib.hid (show (wb.drewN m3).heap[w.heap.size + 1]? = some (.cells #[.int .i64 7, .int .i64 li, .int .i64 co] 30 (0, 0)) from rb)
        have RBW := Lib.hid (below_drewN bwb m3)
        clear RA RB RB2 ra rb oa ob bwa bwb hSw hSw2
        go_wp2_with fail
        refine bodyPost_ret (results_cc rfl _ _ w.heap.size (w.heap.size + 1) _ _ _ _ (0, 0) (0, 0) _ _ rfl RAx.out Tryz.underlying25 rfl (by kernel_rfl) rfl RBx.out Tryz.underlying30 rfl (by kernel_rfl)) rfl ⟨?_, RBW.out⟩
        rw [HLU.out]; rfl
end Go.Proofs.YtlclkeihkkpdbaaGreatDoor

