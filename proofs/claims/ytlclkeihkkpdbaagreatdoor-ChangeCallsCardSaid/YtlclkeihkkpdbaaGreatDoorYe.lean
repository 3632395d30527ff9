/- The walks of timetableref17: in, Check. Printed by wip/bin/genye.py. -/
import Derived.Test.YtlclkeihkkpdbaaGreatDoorYb
import Derived.Test.YtlclkeihkkpdbaaGreatDoorUb
namespace Go.Proofs.YtlclkeihkkpdbaaGreatDoor
open Go.RowKit
set_option maxHeartbeats 1000000 in
theorem yin_any (n low : Int) (w : World) : Calls Tryz.prog 28 #[.int .i64 n, .int .i64 low] w fun e w' => e = .returned (.bool (inD n low)) ∧ w = w' := by
  by_cases h1 : low ≤ n
  · by_cases h2 : n ≤ 1099511627776
    · rw [show inD n low = true from decide_eq_true ⟨h1, h2⟩]
      go_enter Tryz.func28, Tryz.ntmps28
      go_wp2_with fail
      go_ret
      exact ⟨rfl, rfl⟩
    · rw [show inD n low = false from decide_eq_false fun h => h2 h.2]
      go_enter Tryz.func28, Tryz.ntmps28
      go_wp2_with fail
      go_ret
      exact ⟨rfl, rfl⟩
  · rw [show inD n low = false from decide_eq_false fun h => h1 h.1]
    go_enter Tryz.func28, Tryz.ntmps28
    go_wp2_with fail
    go_ret
    exact ⟨rfl, rfl⟩
/-- Whether an update may be, as the document has it. -/
def rOk (u : UpD) : Bool :=
  (((Nm.name u.name && decide (1 ≤ u.kind)) && decide (u.kind ≤ 5)) &&
    (if u.kind ≤ 3 then inD u.no 0 && decide (u.from_ = 0 ∧ u.every = 0 ∧ u.len = 0) else ((decide (u.no = 0) && inD u.from_ 0) && inD u.every 0) && inD u.len 0)) &&
    (if u.kind = 1 then inD u.pos 0 && inD u.by_ 1 else decide (u.pos = 0) && decide (u.by_ = 0))
theorem checkU_eq (u : UpD) : checkU u = if rOk u = true then 0 else 2 := by
  obtain ⟨k, nm, no, pos, by_, fr, ev, ln⟩ := u
  have key : ((bareD ⟨k, nm, no, pos, by_, fr, ev, ln⟩).2 = true ∧ Nm.name nm = true ∧ (bareD ⟨k, nm, no, pos, by_, fr, ev, ln⟩).1 = ⟨k, nm, 0, 0, 0, 0, 0, 0⟩) ↔ rOk ⟨k, nm, no, pos, by_, fr, ev, ln⟩ = true := by
    unfold rOk bareD
    dsimp only
    by_cases h1 : k = 1
    · subst h1
      simp
      constructor <;> (rintro h; simp_all)
    by_cases h2 : k = 2
    · subst h2
      simp
      constructor <;> (rintro h; simp_all)
    by_cases h3 : k = 3
    · subst h3
      simp
      constructor <;> (rintro h; simp_all)
    by_cases h4 : k = 4
    · subst h4
      simp
      constructor <;> (rintro h; simp_all)
    by_cases h5 : k = 5
    · subst h5
      simp
      constructor <;> (rintro h; simp_all)
    rw [if_neg h1, if_neg (by omega), if_neg (by omega)]
    have : (decide (1 ≤ k) && decide (k ≤ 5)) = false := by
      rw [Bool.eq_false_iff]; simp; omega
    constructor
    · intro h; exact absurd (show false = true from h.1) (by decide)
    · intro h
      simp only [Bool.and_eq_true, decide_eq_true_eq] at h
      omega
  unfold checkU
  by_cases h : rOk ⟨k, nm, no, pos, by_, fr, ev, ln⟩ = true
  · rw [if_pos h, if_pos (key.2 h)]
  · rw [if_neg h, if_neg (fun h2 => h (key.1 h2))]
theorem times_eqlY (a b c : Int) (W : World) : (Go.binOp BinOp.eql 23 (.agg #[.int .i64 a, .int .i64 b, .int .i64 c]) (.agg #[.int .i64 0, .int .i64 0, .int .i64 0])).run Tryz.prog W = .ok (.bool (decide (a = 0 ∧ b = 0 ∧ c = 0))) W := by
  rw [show decide (a = 0 ∧ b = 0 ∧ c = 0) = ((a == 0) && ((b == 0) && (c == 0))) by rw [Bool.eq_iff_iff]; simp]
  go_simp
  by_cases h1 : a = 0 <;> by_cases h2 : b = 0 <;> by_cases h3 : c = 0 <;> simp [h1, h2, h3]
set_option maxHeartbeats 16000000 in
set_option maxRecDepth 100000 in
theorem ycheck_any (k : Int) (nm : List UInt8) (no pos by_ fr ev ln : Int) (w : World) (hn : nm.length ≤ maxLen) : Calls Tryz.prog 13 #[.agg #[.int .i64 k, .string (ba nm), .int .i64 no, .int .i64 pos, .int .i64 by_, .int .i64 fr, .int .i64 ev, .int .i64 ln]] w fun e w' =>
    e = .returned (.int .i64 (checkU ⟨k, nm, no, pos, by_, fr, ev, ln⟩)) ∧ Below w.heap.size w w' := by
  rw [checkU_eq]
  have hte := times_eqlY fr ev ln
  cases hnm : Nm.name nm
  · have ksp : k ≤ 3 ∨ 3 < k := by omega
    by_cases k1 : k = 1
    · subst k1
      rw [show rOk ⟨1, nm, no, pos, by_, fr, ev, ln⟩ = false by simp [rOk, hnm]]
      rw [if_neg (by decide)]
      clear ksp
      go_enter Tryz.func13, Tryz.ntmps13
      go_upto_region 2 with fail
      obtain ⟨w1, hw1⟩ : ∃ w1, (w.alloc (.cells #[.int .i64 1, .string (ba nm), .int .i64 no, .int .i64 pos, .int .i64 by_, .int .i64 fr, .int .i64 ev, .int .i64 ln] 25)).alloc (.cells #[.int .i64 fr, .int .i64 ev, .int .i64 ln] 23) = w1 := ⟨_, rfl⟩
      have hu1 : w1.heap[w.heap.size]? = some (.cells #[.int .i64 1, .string (ba nm), .int .i64 no, .int .i64 pos, .int .i64 by_, .int .i64 fr, .int .i64 ev, .int .i64 ln] 25 (0, 0)) := by rw [← hw1, heap_alloc_old _ _ (by simp)]; exact heap_alloc_new _ _
      have ht1 : w1.heap[w.heap.size + 1]? = some (.cells #[.int .i64 fr, .int .i64 ev, .int .i64 ln] 23 (0, 0)) := by rw [← hw1]; exact alloc2_new _ _ _
      have hb1 : Below w.heap.size w w1 := by rw [← hw1]; exact ((Below.refl _ _).alloc (Nat.le_refl _) _).alloc (by simp) _
      rw [hw1]
      clear hw1
      have n1 : w1.cell? ⟨w.heap.size, 1, none⟩ = some (.string (ba nm)) := Lib.cell_of_heap hu1 1
      go_wp2_with fail
      clear n1
      have hyn := yname_any (ba nm) w1 (by rw [ba_size]; exact hn)
      rw [ba_list] at hyn
      refine hyn.mono ?_
      clear hyn
      rintro e w2 ⟨rfl, hb2⟩
      have hu2 := (hb2.block w.heap.size (Array.getElem?_eq_some_iff.1 hu1).1).trans hu1
      have ht2 := (hb2.block (w.heap.size + 1) (Array.getElem?_eq_some_iff.1 ht1).1).trans ht1
      have HB2 := Lib.hid (hb1.trans (hb2.mono hb1.size))
      clear hb1 hb2 hu1 ht1
      have y0 : w2.cell? ⟨w.heap.size, 0, none⟩ = some (.int .i64 1) := Lib.cell_of_heap hu2 0
      have y2 : w2.cell? ⟨w.heap.size, 2, none⟩ = some (.int .i64 no) := Lib.cell_of_heap hu2 2
      have y3 : w2.cell? ⟨w.heap.size, 3, none⟩ = some (.int .i64 pos) := Lib.cell_of_heap hu2 3
      have y4 : w2.cell? ⟨w.heap.size, 4, none⟩ = some (.int .i64 by_) := Lib.cell_of_heap hu2 4
      have t0 : w2.cell? ⟨w.heap.size + 1, 0, none⟩ = some (.int .i64 fr) := Lib.cell_of_heap ht2 0
      have t1 : w2.cell? ⟨w.heap.size + 1, 1, none⟩ = some (.int .i64 ev) := Lib.cell_of_heap ht2 1
      have t2 : w2.cell? ⟨w.heap.size + 1, 2, none⟩ = some (.int .i64 ln) := Lib.cell_of_heap ht2 2
      clear hu2 ht2
      go_wp2_with (go_at_call 28; refine (yin_any _ _ _).mono ?_; rintro e w' ⟨rfl, rfl⟩)
      go_ret
      exact ⟨rfl, HB2.out⟩
    · have b1 : (k == 1) = false := beq_eq_false_iff_ne.2 k1
      rcases ksp with k3 | k3
      · skip
        rw [show rOk ⟨k, nm, no, pos, by_, fr, ev, ln⟩ = false by simp [rOk, hnm]]
        rw [if_neg (by decide)]
        clear k1
        go_enter Tryz.func13, Tryz.ntmps13
        go_upto_region 2 with fail
        obtain ⟨w1, hw1⟩ : ∃ w1, (w.alloc (.cells #[.int .i64 k, .string (ba nm), .int .i64 no, .int .i64 pos, .int .i64 by_, .int .i64 fr, .int .i64 ev, .int .i64 ln] 25)).alloc (.cells #[.int .i64 fr, .int .i64 ev, .int .i64 ln] 23) = w1 := ⟨_, rfl⟩
        have hu1 : w1.heap[w.heap.size]? = some (.cells #[.int .i64 k, .string (ba nm), .int .i64 no, .int .i64 pos, .int .i64 by_, .int .i64 fr, .int .i64 ev, .int .i64 ln] 25 (0, 0)) := by rw [← hw1, heap_alloc_old _ _ (by simp)]; exact heap_alloc_new _ _
        have ht1 : w1.heap[w.heap.size + 1]? = some (.cells #[.int .i64 fr, .int .i64 ev, .int .i64 ln] 23 (0, 0)) := by rw [← hw1]; exact alloc2_new _ _ _
        have hb1 : Below w.heap.size w w1 := by rw [← hw1]; exact ((Below.refl _ _).alloc (Nat.le_refl _) _).alloc (by simp) _
        rw [hw1]
        clear hw1
        have n1 : w1.cell? ⟨w.heap.size, 1, none⟩ = some (.string (ba nm)) := Lib.cell_of_heap hu1 1
        go_wp2_with fail
        clear n1
        have hyn := yname_any (ba nm) w1 (by rw [ba_size]; exact hn)
        rw [ba_list] at hyn
        refine hyn.mono ?_
        clear hyn
        rintro e w2 ⟨rfl, hb2⟩
        have hu2 := (hb2.block w.heap.size (Array.getElem?_eq_some_iff.1 hu1).1).trans hu1
        have ht2 := (hb2.block (w.heap.size + 1) (Array.getElem?_eq_some_iff.1 ht1).1).trans ht1
        have HB2 := Lib.hid (hb1.trans (hb2.mono hb1.size))
        clear hb1 hb2 hu1 ht1
        have y0 : w2.cell? ⟨w.heap.size, 0, none⟩ = some (.int .i64 k) := Lib.cell_of_heap hu2 0
        have y2 : w2.cell? ⟨w.heap.size, 2, none⟩ = some (.int .i64 no) := Lib.cell_of_heap hu2 2
        have y3 : w2.cell? ⟨w.heap.size, 3, none⟩ = some (.int .i64 pos) := Lib.cell_of_heap hu2 3
        have y4 : w2.cell? ⟨w.heap.size, 4, none⟩ = some (.int .i64 by_) := Lib.cell_of_heap hu2 4
        have t0 : w2.cell? ⟨w.heap.size + 1, 0, none⟩ = some (.int .i64 fr) := Lib.cell_of_heap ht2 0
        have t1 : w2.cell? ⟨w.heap.size + 1, 1, none⟩ = some (.int .i64 ev) := Lib.cell_of_heap ht2 1
        have t2 : w2.cell? ⟨w.heap.size + 1, 2, none⟩ = some (.int .i64 ln) := Lib.cell_of_heap ht2 2
        clear hu2 ht2
        go_wp2_with (go_at_call 28; refine (yin_any _ _ _).mono ?_; rintro e w' ⟨rfl, rfl⟩)
        go_ret
        exact ⟨rfl, HB2.out⟩
      · have k3n : ¬ k ≤ 3 := by omega
        rw [show rOk ⟨k, nm, no, pos, by_, fr, ev, ln⟩ = false by simp [rOk, hnm]]
        rw [if_neg (by decide)]
        clear k1
        go_enter Tryz.func13, Tryz.ntmps13
        go_upto_region 2 with fail
        obtain ⟨w1, hw1⟩ : ∃ w1, (w.alloc (.cells #[.int .i64 k, .string (ba nm), .int .i64 no, .int .i64 pos, .int .i64 by_, .int .i64 fr, .int .i64 ev, .int .i64 ln] 25)).alloc (.cells #[.int .i64 fr, .int .i64 ev, .int .i64 ln] 23) = w1 := ⟨_, rfl⟩
        have hu1 : w1.heap[w.heap.size]? = some (.cells #[.int .i64 k, .string (ba nm), .int .i64 no, .int .i64 pos, .int .i64 by_, .int .i64 fr, .int .i64 ev, .int .i64 ln] 25 (0, 0)) := by rw [← hw1, heap_alloc_old _ _ (by simp)]; exact heap_alloc_new _ _
        have ht1 : w1.heap[w.heap.size + 1]? = some (.cells #[.int .i64 fr, .int .i64 ev, .int .i64 ln] 23 (0, 0)) := by rw [← hw1]; exact alloc2_new _ _ _
        have hb1 : Below w.heap.size w w1 := by rw [← hw1]; exact ((Below.refl _ _).alloc (Nat.le_refl _) _).alloc (by simp) _
        rw [hw1]
        clear hw1
        have n1 : w1.cell? ⟨w.heap.size, 1, none⟩ = some (.string (ba nm)) := Lib.cell_of_heap hu1 1
        go_wp2_with fail
        clear n1
        have hyn := yname_any (ba nm) w1 (by rw [ba_size]; exact hn)
        rw [ba_list] at hyn
        refine hyn.mono ?_
        clear hyn
        rintro e w2 ⟨rfl, hb2⟩
        have hu2 := (hb2.block w.heap.size (Array.getElem?_eq_some_iff.1 hu1).1).trans hu1
        have ht2 := (hb2.block (w.heap.size + 1) (Array.getElem?_eq_some_iff.1 ht1).1).trans ht1
        have HB2 := Lib.hid (hb1.trans (hb2.mono hb1.size))
        clear hb1 hb2 hu1 ht1
        have y0 : w2.cell? ⟨w.heap.size, 0, none⟩ = some (.int .i64 k) := Lib.cell_of_heap hu2 0
        have y2 : w2.cell? ⟨w.heap.size, 2, none⟩ = some (.int .i64 no) := Lib.cell_of_heap hu2 2
        have y3 : w2.cell? ⟨w.heap.size, 3, none⟩ = some (.int .i64 pos) := Lib.cell_of_heap hu2 3
        have y4 : w2.cell? ⟨w.heap.size, 4, none⟩ = some (.int .i64 by_) := Lib.cell_of_heap hu2 4
        have t0 : w2.cell? ⟨w.heap.size + 1, 0, none⟩ = some (.int .i64 fr) := Lib.cell_of_heap ht2 0
        have t1 : w2.cell? ⟨w.heap.size + 1, 1, none⟩ = some (.int .i64 ev) := Lib.cell_of_heap ht2 1
        have t2 : w2.cell? ⟨w.heap.size + 1, 2, none⟩ = some (.int .i64 ln) := Lib.cell_of_heap ht2 2
        clear hu2 ht2
        go_wp2_with (go_at_call 28; refine (yin_any _ _ _).mono ?_; rintro e w' ⟨rfl, rfl⟩)
        go_ret
        exact ⟨rfl, HB2.out⟩
  by_cases k1 : k = 1
  · subst k1
    cases hno : inD no 0
    · skip
      rw [show rOk ⟨1, nm, no, pos, by_, fr, ev, ln⟩ = false by simp [rOk, hnm, hno]]
      rw [if_neg (by decide)]
      go_enter Tryz.func13, Tryz.ntmps13
      go_upto_region 2 with fail
      obtain ⟨w1, hw1⟩ : ∃ w1, (w.alloc (.cells #[.int .i64 1, .string (ba nm), .int .i64 no, .int .i64 pos, .int .i64 by_, .int .i64 fr, .int .i64 ev, .int .i64 ln] 25)).alloc (.cells #[.int .i64 fr, .int .i64 ev, .int .i64 ln] 23) = w1 := ⟨_, rfl⟩
      have hu1 : w1.heap[w.heap.size]? = some (.cells #[.int .i64 1, .string (ba nm), .int .i64 no, .int .i64 pos, .int .i64 by_, .int .i64 fr, .int .i64 ev, .int .i64 ln] 25 (0, 0)) := by rw [← hw1, heap_alloc_old _ _ (by simp)]; exact heap_alloc_new _ _
      have ht1 : w1.heap[w.heap.size + 1]? = some (.cells #[.int .i64 fr, .int .i64 ev, .int .i64 ln] 23 (0, 0)) := by rw [← hw1]; exact alloc2_new _ _ _
      have hb1 : Below w.heap.size w w1 := by rw [← hw1]; exact ((Below.refl _ _).alloc (Nat.le_refl _) _).alloc (by simp) _
      rw [hw1]
      clear hw1
      have n1 : w1.cell? ⟨w.heap.size, 1, none⟩ = some (.string (ba nm)) := Lib.cell_of_heap hu1 1
      go_wp2_with fail
      clear n1
      have hyn := yname_any (ba nm) w1 (by rw [ba_size]; exact hn)
      rw [ba_list] at hyn
      refine hyn.mono ?_
      clear hyn
      rintro e w2 ⟨rfl, hb2⟩
      have hu2 := (hb2.block w.heap.size (Array.getElem?_eq_some_iff.1 hu1).1).trans hu1
      have ht2 := (hb2.block (w.heap.size + 1) (Array.getElem?_eq_some_iff.1 ht1).1).trans ht1
      have HB2 := Lib.hid (hb1.trans (hb2.mono hb1.size))
      clear hb1 hb2 hu1 ht1
      have y0 : w2.cell? ⟨w.heap.size, 0, none⟩ = some (.int .i64 1) := Lib.cell_of_heap hu2 0
      have y2 : w2.cell? ⟨w.heap.size, 2, none⟩ = some (.int .i64 no) := Lib.cell_of_heap hu2 2
      have y3 : w2.cell? ⟨w.heap.size, 3, none⟩ = some (.int .i64 pos) := Lib.cell_of_heap hu2 3
      have y4 : w2.cell? ⟨w.heap.size, 4, none⟩ = some (.int .i64 by_) := Lib.cell_of_heap hu2 4
      have t0 : w2.cell? ⟨w.heap.size + 1, 0, none⟩ = some (.int .i64 fr) := Lib.cell_of_heap ht2 0
      have t1 : w2.cell? ⟨w.heap.size + 1, 1, none⟩ = some (.int .i64 ev) := Lib.cell_of_heap ht2 1
      have t2 : w2.cell? ⟨w.heap.size + 1, 2, none⟩ = some (.int .i64 ln) := Lib.cell_of_heap ht2 2
      clear hu2 ht2
      go_wp2_with (go_at_call 28; refine (yin_any _ _ _).mono ?_; rintro e w' ⟨rfl, rfl⟩)
      go_ret
      exact ⟨rfl, HB2.out⟩
    · skip
      by_cases ht : fr = 0 ∧ ev = 0 ∧ ln = 0
      · rw [decide_eq_true ht] at hte
        have HT := ht
        cases hpos : inD pos 0
        · skip
          rw [show rOk ⟨1, nm, no, pos, by_, fr, ev, ln⟩ = false by simp [rOk, hnm, hno, ht, hpos]]
          rw [if_neg (by decide)]
          clear ht HT
          go_enter Tryz.func13, Tryz.ntmps13
          go_upto_region 2 with fail
          obtain ⟨w1, hw1⟩ : ∃ w1, (w.alloc (.cells #[.int .i64 1, .string (ba nm), .int .i64 no, .int .i64 pos, .int .i64 by_, .int .i64 fr, .int .i64 ev, .int .i64 ln] 25)).alloc (.cells #[.int .i64 fr, .int .i64 ev, .int .i64 ln] 23) = w1 := ⟨_, rfl⟩
          have hu1 : w1.heap[w.heap.size]? = some (.cells #[.int .i64 1, .string (ba nm), .int .i64 no, .int .i64 pos, .int .i64 by_, .int .i64 fr, .int .i64 ev, .int .i64 ln] 25 (0, 0)) := by rw [← hw1, heap_alloc_old _ _ (by simp)]; exact heap_alloc_new _ _
          have ht1 : w1.heap[w.heap.size + 1]? = some (.cells #[.int .i64 fr, .int .i64 ev, .int .i64 ln] 23 (0, 0)) := by rw [← hw1]; exact alloc2_new _ _ _
          have hb1 : Below w.heap.size w w1 := by rw [← hw1]; exact ((Below.refl _ _).alloc (Nat.le_refl _) _).alloc (by simp) _
          rw [hw1]
          clear hw1
          have n1 : w1.cell? ⟨w.heap.size, 1, none⟩ = some (.string (ba nm)) := Lib.cell_of_heap hu1 1
          go_wp2_with fail
          clear n1
          have hyn := yname_any (ba nm) w1 (by rw [ba_size]; exact hn)
          rw [ba_list] at hyn
          refine hyn.mono ?_
          clear hyn
          rintro e w2 ⟨rfl, hb2⟩
          have hu2 := (hb2.block w.heap.size (Array.getElem?_eq_some_iff.1 hu1).1).trans hu1
          have ht2 := (hb2.block (w.heap.size + 1) (Array.getElem?_eq_some_iff.1 ht1).1).trans ht1
          have HB2 := Lib.hid (hb1.trans (hb2.mono hb1.size))
          clear hb1 hb2 hu1 ht1
          have y0 : w2.cell? ⟨w.heap.size, 0, none⟩ = some (.int .i64 1) := Lib.cell_of_heap hu2 0
          have y2 : w2.cell? ⟨w.heap.size, 2, none⟩ = some (.int .i64 no) := Lib.cell_of_heap hu2 2
          have y3 : w2.cell? ⟨w.heap.size, 3, none⟩ = some (.int .i64 pos) := Lib.cell_of_heap hu2 3
          have y4 : w2.cell? ⟨w.heap.size, 4, none⟩ = some (.int .i64 by_) := Lib.cell_of_heap hu2 4
          have t0 : w2.cell? ⟨w.heap.size + 1, 0, none⟩ = some (.int .i64 fr) := Lib.cell_of_heap ht2 0
          have t1 : w2.cell? ⟨w.heap.size + 1, 1, none⟩ = some (.int .i64 ev) := Lib.cell_of_heap ht2 1
          have t2 : w2.cell? ⟨w.heap.size + 1, 2, none⟩ = some (.int .i64 ln) := Lib.cell_of_heap ht2 2
          clear hu2 ht2
          go_wp2_with (go_at_call 28; refine (yin_any _ _ _).mono ?_; rintro e w' ⟨rfl, rfl⟩)
          go_ret
          exact ⟨rfl, HB2.out⟩
        · skip
          cases hby : inD by_ 1
          · skip
            rw [show rOk ⟨1, nm, no, pos, by_, fr, ev, ln⟩ = false by simp [rOk, hnm, hno, ht, hpos, hby]]
            rw [if_neg (by decide)]
            clear ht HT
            go_enter Tryz.func13, Tryz.ntmps13
            go_upto_region 2 with fail
            obtain ⟨w1, hw1⟩ : ∃ w1, (w.alloc (.cells #[.int .i64 1, .string (ba nm), .int .i64 no, .int .i64 pos, .int .i64 by_, .int .i64 fr, .int .i64 ev, .int .i64 ln] 25)).alloc (.cells #[.int .i64 fr, .int .i64 ev, .int .i64 ln] 23) = w1 := ⟨_, rfl⟩
            have hu1 : w1.heap[w.heap.size]? = some (.cells #[.int .i64 1, .string (ba nm), .int .i64 no, .int .i64 pos, .int .i64 by_, .int .i64 fr, .int .i64 ev, .int .i64 ln] 25 (0, 0)) := by rw [← hw1, heap_alloc_old _ _ (by simp)]; exact heap_alloc_new _ _
            have ht1 : w1.heap[w.heap.size + 1]? = some (.cells #[.int .i64 fr, .int .i64 ev, .int .i64 ln] 23 (0, 0)) := by rw [← hw1]; exact alloc2_new _ _ _
            have hb1 : Below w.heap.size w w1 := by rw [← hw1]; exact ((Below.refl _ _).alloc (Nat.le_refl _) _).alloc (by simp) _
            rw [hw1]
            clear hw1
            have n1 : w1.cell? ⟨w.heap.size, 1, none⟩ = some (.string (ba nm)) := Lib.cell_of_heap hu1 1
            go_wp2_with fail
            clear n1
            have hyn := yname_any (ba nm) w1 (by rw [ba_size]; exact hn)
            rw [ba_list] at hyn
            refine hyn.mono ?_
            clear hyn
            rintro e w2 ⟨rfl, hb2⟩
            have hu2 := (hb2.block w.heap.size (Array.getElem?_eq_some_iff.1 hu1).1).trans hu1
            have ht2 := (hb2.block (w.heap.size + 1) (Array.getElem?_eq_some_iff.1 ht1).1).trans ht1
            have HB2 := Lib.hid (hb1.trans (hb2.mono hb1.size))
            clear hb1 hb2 hu1 ht1
            have y0 : w2.cell? ⟨w.heap.size, 0, none⟩ = some (.int .i64 1) := Lib.cell_of_heap hu2 0
            have y2 : w2.cell? ⟨w.heap.size, 2, none⟩ = some (.int .i64 no) := Lib.cell_of_heap hu2 2
            have y3 : w2.cell? ⟨w.heap.size, 3, none⟩ = some (.int .i64 pos) := Lib.cell_of_heap hu2 3
            have y4 : w2.cell? ⟨w.heap.size, 4, none⟩ = some (.int .i64 by_) := Lib.cell_of_heap hu2 4
            have t0 : w2.cell? ⟨w.heap.size + 1, 0, none⟩ = some (.int .i64 fr) := Lib.cell_of_heap ht2 0
            have t1 : w2.cell? ⟨w.heap.size + 1, 1, none⟩ = some (.int .i64 ev) := Lib.cell_of_heap ht2 1
            have t2 : w2.cell? ⟨w.heap.size + 1, 2, none⟩ = some (.int .i64 ln) := Lib.cell_of_heap ht2 2
            clear hu2 ht2
            go_wp2_with (go_at_call 28; refine (yin_any _ _ _).mono ?_; rintro e w' ⟨rfl, rfl⟩)
            go_ret
            exact ⟨rfl, HB2.out⟩
          · skip
            rw [show rOk ⟨1, nm, no, pos, by_, fr, ev, ln⟩ = true by simp [rOk, hnm, hno, ht, hpos, hby]]
            rw [if_pos rfl]
            clear ht HT
            go_enter Tryz.func13, Tryz.ntmps13
            go_upto_region 2 with fail
            obtain ⟨w1, hw1⟩ : ∃ w1, (w.alloc (.cells #[.int .i64 1, .string (ba nm), .int .i64 no, .int .i64 pos, .int .i64 by_, .int .i64 fr, .int .i64 ev, .int .i64 ln] 25)).alloc (.cells #[.int .i64 fr, .int .i64 ev, .int .i64 ln] 23) = w1 := ⟨_, rfl⟩
            have hu1 : w1.heap[w.heap.size]? = some (.cells #[.int .i64 1, .string (ba nm), .int .i64 no, .int .i64 pos, .int .i64 by_, .int .i64 fr, .int .i64 ev, .int .i64 ln] 25 (0, 0)) := by rw [← hw1, heap_alloc_old _ _ (by simp)]; exact heap_alloc_new _ _
            have ht1 : w1.heap[w.heap.size + 1]? = some (.cells #[.int .i64 fr, .int .i64 ev, .int .i64 ln] 23 (0, 0)) := by rw [← hw1]; exact alloc2_new _ _ _
            have hb1 : Below w.heap.size w w1 := by rw [← hw1]; exact ((Below.refl _ _).alloc (Nat.le_refl _) _).alloc (by simp) _
            rw [hw1]
            clear hw1
            have n1 : w1.cell? ⟨w.heap.size, 1, none⟩ = some (.string (ba nm)) := Lib.cell_of_heap hu1 1
            go_wp2_with fail
            clear n1
            have hyn := yname_any (ba nm) w1 (by rw [ba_size]; exact hn)
            rw [ba_list] at hyn
            refine hyn.mono ?_
            clear hyn
            rintro e w2 ⟨rfl, hb2⟩
            have hu2 := (hb2.block w.heap.size (Array.getElem?_eq_some_iff.1 hu1).1).trans hu1
            have ht2 := (hb2.block (w.heap.size + 1) (Array.getElem?_eq_some_iff.1 ht1).1).trans ht1
            have HB2 := Lib.hid (hb1.trans (hb2.mono hb1.size))
            clear hb1 hb2 hu1 ht1
            have y0 : w2.cell? ⟨w.heap.size, 0, none⟩ = some (.int .i64 1) := Lib.cell_of_heap hu2 0
            have y2 : w2.cell? ⟨w.heap.size, 2, none⟩ = some (.int .i64 no) := Lib.cell_of_heap hu2 2
            have y3 : w2.cell? ⟨w.heap.size, 3, none⟩ = some (.int .i64 pos) := Lib.cell_of_heap hu2 3
            have y4 : w2.cell? ⟨w.heap.size, 4, none⟩ = some (.int .i64 by_) := Lib.cell_of_heap hu2 4
            have t0 : w2.cell? ⟨w.heap.size + 1, 0, none⟩ = some (.int .i64 fr) := Lib.cell_of_heap ht2 0
            have t1 : w2.cell? ⟨w.heap.size + 1, 1, none⟩ = some (.int .i64 ev) := Lib.cell_of_heap ht2 1
            have t2 : w2.cell? ⟨w.heap.size + 1, 2, none⟩ = some (.int .i64 ln) := Lib.cell_of_heap ht2 2
            clear hu2 ht2
            go_wp2_with (go_at_call 28; refine (yin_any _ _ _).mono ?_; rintro e w' ⟨rfl, rfl⟩)
            go_ret
            exact ⟨rfl, HB2.out⟩
      · rw [decide_eq_false ht] at hte
        rw [show rOk ⟨1, nm, no, pos, by_, fr, ev, ln⟩ = false by simp [rOk, hnm, hno, ht]]
        rw [if_neg (by decide)]
        clear ht
        go_enter Tryz.func13, Tryz.ntmps13
        go_upto_region 2 with fail
        obtain ⟨w1, hw1⟩ : ∃ w1, (w.alloc (.cells #[.int .i64 1, .string (ba nm), .int .i64 no, .int .i64 pos, .int .i64 by_, .int .i64 fr, .int .i64 ev, .int .i64 ln] 25)).alloc (.cells #[.int .i64 fr, .int .i64 ev, .int .i64 ln] 23) = w1 := ⟨_, rfl⟩
        have hu1 : w1.heap[w.heap.size]? = some (.cells #[.int .i64 1, .string (ba nm), .int .i64 no, .int .i64 pos, .int .i64 by_, .int .i64 fr, .int .i64 ev, .int .i64 ln] 25 (0, 0)) := by rw [← hw1, heap_alloc_old _ _ (by simp)]; exact heap_alloc_new _ _
        have ht1 : w1.heap[w.heap.size + 1]? = some (.cells #[.int .i64 fr, .int .i64 ev, .int .i64 ln] 23 (0, 0)) := by rw [← hw1]; exact alloc2_new _ _ _
        have hb1 : Below w.heap.size w w1 := by rw [← hw1]; exact ((Below.refl _ _).alloc (Nat.le_refl _) _).alloc (by simp) _
        rw [hw1]
        clear hw1
        have n1 : w1.cell? ⟨w.heap.size, 1, none⟩ = some (.string (ba nm)) := Lib.cell_of_heap hu1 1
        go_wp2_with fail
        clear n1
        have hyn := yname_any (ba nm) w1 (by rw [ba_size]; exact hn)
        rw [ba_list] at hyn
        refine hyn.mono ?_
        clear hyn
        rintro e w2 ⟨rfl, hb2⟩
        have hu2 := (hb2.block w.heap.size (Array.getElem?_eq_some_iff.1 hu1).1).trans hu1
        have ht2 := (hb2.block (w.heap.size + 1) (Array.getElem?_eq_some_iff.1 ht1).1).trans ht1
        have HB2 := Lib.hid (hb1.trans (hb2.mono hb1.size))
        clear hb1 hb2 hu1 ht1
        have y0 : w2.cell? ⟨w.heap.size, 0, none⟩ = some (.int .i64 1) := Lib.cell_of_heap hu2 0
        have y2 : w2.cell? ⟨w.heap.size, 2, none⟩ = some (.int .i64 no) := Lib.cell_of_heap hu2 2
        have y3 : w2.cell? ⟨w.heap.size, 3, none⟩ = some (.int .i64 pos) := Lib.cell_of_heap hu2 3
        have y4 : w2.cell? ⟨w.heap.size, 4, none⟩ = some (.int .i64 by_) := Lib.cell_of_heap hu2 4
        have t0 : w2.cell? ⟨w.heap.size + 1, 0, none⟩ = some (.int .i64 fr) := Lib.cell_of_heap ht2 0
        have t1 : w2.cell? ⟨w.heap.size + 1, 1, none⟩ = some (.int .i64 ev) := Lib.cell_of_heap ht2 1
        have t2 : w2.cell? ⟨w.heap.size + 1, 2, none⟩ = some (.int .i64 ln) := Lib.cell_of_heap ht2 2
        clear hu2 ht2
        go_wp2_with (go_at_call 28; refine (yin_any _ _ _).mono ?_; rintro e w' ⟨rfl, rfl⟩)
        go_ret
        exact ⟨rfl, HB2.out⟩
  have b1 : (k == 1) = false := beq_eq_false_iff_ne.2 k1
  by_cases klo : k < 1
  · have k3 : k ≤ 3 := by omega
    have kn : ¬ 1 ≤ k := by omega
    rw [show rOk ⟨k, nm, no, pos, by_, fr, ev, ln⟩ = false by simp [rOk, hnm, kn]]
    rw [if_neg (by decide)]
    clear k1
    go_enter Tryz.func13, Tryz.ntmps13
    go_upto_region 2 with fail
    obtain ⟨w1, hw1⟩ : ∃ w1, (w.alloc (.cells #[.int .i64 k, .string (ba nm), .int .i64 no, .int .i64 pos, .int .i64 by_, .int .i64 fr, .int .i64 ev, .int .i64 ln] 25)).alloc (.cells #[.int .i64 fr, .int .i64 ev, .int .i64 ln] 23) = w1 := ⟨_, rfl⟩
    have hu1 : w1.heap[w.heap.size]? = some (.cells #[.int .i64 k, .string (ba nm), .int .i64 no, .int .i64 pos, .int .i64 by_, .int .i64 fr, .int .i64 ev, .int .i64 ln] 25 (0, 0)) := by rw [← hw1, heap_alloc_old _ _ (by simp)]; exact heap_alloc_new _ _
    have ht1 : w1.heap[w.heap.size + 1]? = some (.cells #[.int .i64 fr, .int .i64 ev, .int .i64 ln] 23 (0, 0)) := by rw [← hw1]; exact alloc2_new _ _ _
    have hb1 : Below w.heap.size w w1 := by rw [← hw1]; exact ((Below.refl _ _).alloc (Nat.le_refl _) _).alloc (by simp) _
    rw [hw1]
    clear hw1
    have n1 : w1.cell? ⟨w.heap.size, 1, none⟩ = some (.string (ba nm)) := Lib.cell_of_heap hu1 1
    go_wp2_with fail
    clear n1
    have hyn := yname_any (ba nm) w1 (by rw [ba_size]; exact hn)
    rw [ba_list] at hyn
    refine hyn.mono ?_
    clear hyn
    rintro e w2 ⟨rfl, hb2⟩
    have hu2 := (hb2.block w.heap.size (Array.getElem?_eq_some_iff.1 hu1).1).trans hu1
    have ht2 := (hb2.block (w.heap.size + 1) (Array.getElem?_eq_some_iff.1 ht1).1).trans ht1
    have HB2 := Lib.hid (hb1.trans (hb2.mono hb1.size))
    clear hb1 hb2 hu1 ht1
    have y0 : w2.cell? ⟨w.heap.size, 0, none⟩ = some (.int .i64 k) := Lib.cell_of_heap hu2 0
    have y2 : w2.cell? ⟨w.heap.size, 2, none⟩ = some (.int .i64 no) := Lib.cell_of_heap hu2 2
    have y3 : w2.cell? ⟨w.heap.size, 3, none⟩ = some (.int .i64 pos) := Lib.cell_of_heap hu2 3
    have y4 : w2.cell? ⟨w.heap.size, 4, none⟩ = some (.int .i64 by_) := Lib.cell_of_heap hu2 4
    have t0 : w2.cell? ⟨w.heap.size + 1, 0, none⟩ = some (.int .i64 fr) := Lib.cell_of_heap ht2 0
    have t1 : w2.cell? ⟨w.heap.size + 1, 1, none⟩ = some (.int .i64 ev) := Lib.cell_of_heap ht2 1
    have t2 : w2.cell? ⟨w.heap.size + 1, 2, none⟩ = some (.int .i64 ln) := Lib.cell_of_heap ht2 2
    clear hu2 ht2
    go_wp2_with (go_at_call 28; refine (yin_any _ _ _).mono ?_; rintro e w' ⟨rfl, rfl⟩)
    go_ret
    exact ⟨rfl, HB2.out⟩
  have k0 : 1 ≤ k := by omega
  by_cases khi : 5 < k
  · have k3 : ¬ k ≤ 3 := by omega
    have kn : ¬ k ≤ 5 := by omega
    rw [show rOk ⟨k, nm, no, pos, by_, fr, ev, ln⟩ = false by simp [rOk, hnm, kn]]
    rw [if_neg (by decide)]
    clear k1 klo
    go_enter Tryz.func13, Tryz.ntmps13
    go_upto_region 2 with fail
    obtain ⟨w1, hw1⟩ : ∃ w1, (w.alloc (.cells #[.int .i64 k, .string (ba nm), .int .i64 no, .int .i64 pos, .int .i64 by_, .int .i64 fr, .int .i64 ev, .int .i64 ln] 25)).alloc (.cells #[.int .i64 fr, .int .i64 ev, .int .i64 ln] 23) = w1 := ⟨_, rfl⟩
    have hu1 : w1.heap[w.heap.size]? = some (.cells #[.int .i64 k, .string (ba nm), .int .i64 no, .int .i64 pos, .int .i64 by_, .int .i64 fr, .int .i64 ev, .int .i64 ln] 25 (0, 0)) := by rw [← hw1, heap_alloc_old _ _ (by simp)]; exact heap_alloc_new _ _
    have ht1 : w1.heap[w.heap.size + 1]? = some (.cells #[.int .i64 fr, .int .i64 ev, .int .i64 ln] 23 (0, 0)) := by rw [← hw1]; exact alloc2_new _ _ _
    have hb1 : Below w.heap.size w w1 := by rw [← hw1]; exact ((Below.refl _ _).alloc (Nat.le_refl _) _).alloc (by simp) _
    rw [hw1]
    clear hw1
    have n1 : w1.cell? ⟨w.heap.size, 1, none⟩ = some (.string (ba nm)) := Lib.cell_of_heap hu1 1
    go_wp2_with fail
    clear n1
    have hyn := yname_any (ba nm) w1 (by rw [ba_size]; exact hn)
    rw [ba_list] at hyn
    refine hyn.mono ?_
    clear hyn
    rintro e w2 ⟨rfl, hb2⟩
    have hu2 := (hb2.block w.heap.size (Array.getElem?_eq_some_iff.1 hu1).1).trans hu1
    have ht2 := (hb2.block (w.heap.size + 1) (Array.getElem?_eq_some_iff.1 ht1).1).trans ht1
    have HB2 := Lib.hid (hb1.trans (hb2.mono hb1.size))
    clear hb1 hb2 hu1 ht1
    have y0 : w2.cell? ⟨w.heap.size, 0, none⟩ = some (.int .i64 k) := Lib.cell_of_heap hu2 0
    have y2 : w2.cell? ⟨w.heap.size, 2, none⟩ = some (.int .i64 no) := Lib.cell_of_heap hu2 2
    have y3 : w2.cell? ⟨w.heap.size, 3, none⟩ = some (.int .i64 pos) := Lib.cell_of_heap hu2 3
    have y4 : w2.cell? ⟨w.heap.size, 4, none⟩ = some (.int .i64 by_) := Lib.cell_of_heap hu2 4
    have t0 : w2.cell? ⟨w.heap.size + 1, 0, none⟩ = some (.int .i64 fr) := Lib.cell_of_heap ht2 0
    have t1 : w2.cell? ⟨w.heap.size + 1, 1, none⟩ = some (.int .i64 ev) := Lib.cell_of_heap ht2 1
    have t2 : w2.cell? ⟨w.heap.size + 1, 2, none⟩ = some (.int .i64 ln) := Lib.cell_of_heap ht2 2
    clear hu2 ht2
    go_wp2_with (go_at_call 28; refine (yin_any _ _ _).mono ?_; rintro e w' ⟨rfl, rfl⟩)
    go_ret
    exact ⟨rfl, HB2.out⟩
  have k5 : k ≤ 5 := by omega
  by_cases k3 : k ≤ 3
  · skip
    cases hno : inD no 0
    · skip
      rw [show rOk ⟨k, nm, no, pos, by_, fr, ev, ln⟩ = false by simp [rOk, hnm, k0, k5, k3, k1, hno]]
      rw [if_neg (by decide)]
      clear k1 klo khi
      go_enter Tryz.func13, Tryz.ntmps13
      go_upto_region 2 with fail
      obtain ⟨w1, hw1⟩ : ∃ w1, (w.alloc (.cells #[.int .i64 k, .string (ba nm), .int .i64 no, .int .i64 pos, .int .i64 by_, .int .i64 fr, .int .i64 ev, .int .i64 ln] 25)).alloc (.cells #[.int .i64 fr, .int .i64 ev, .int .i64 ln] 23) = w1 := ⟨_, rfl⟩
      have hu1 : w1.heap[w.heap.size]? = some (.cells #[.int .i64 k, .string (ba nm), .int .i64 no, .int .i64 pos, .int .i64 by_, .int .i64 fr, .int .i64 ev, .int .i64 ln] 25 (0, 0)) := by rw [← hw1, heap_alloc_old _ _ (by simp)]; exact heap_alloc_new _ _
      have ht1 : w1.heap[w.heap.size + 1]? = some (.cells #[.int .i64 fr, .int .i64 ev, .int .i64 ln] 23 (0, 0)) := by rw [← hw1]; exact alloc2_new _ _ _
      have hb1 : Below w.heap.size w w1 := by rw [← hw1]; exact ((Below.refl _ _).alloc (Nat.le_refl _) _).alloc (by simp) _
      rw [hw1]
      clear hw1
      have n1 : w1.cell? ⟨w.heap.size, 1, none⟩ = some (.string (ba nm)) := Lib.cell_of_heap hu1 1
      go_wp2_with fail
      clear n1
      have hyn := yname_any (ba nm) w1 (by rw [ba_size]; exact hn)
      rw [ba_list] at hyn
      refine hyn.mono ?_
      clear hyn
      rintro e w2 ⟨rfl, hb2⟩
      have hu2 := (hb2.block w.heap.size (Array.getElem?_eq_some_iff.1 hu1).1).trans hu1
      have ht2 := (hb2.block (w.heap.size + 1) (Array.getElem?_eq_some_iff.1 ht1).1).trans ht1
      have HB2 := Lib.hid (hb1.trans (hb2.mono hb1.size))
      clear hb1 hb2 hu1 ht1
      have y0 : w2.cell? ⟨w.heap.size, 0, none⟩ = some (.int .i64 k) := Lib.cell_of_heap hu2 0
      have y2 : w2.cell? ⟨w.heap.size, 2, none⟩ = some (.int .i64 no) := Lib.cell_of_heap hu2 2
      have y3 : w2.cell? ⟨w.heap.size, 3, none⟩ = some (.int .i64 pos) := Lib.cell_of_heap hu2 3
      have y4 : w2.cell? ⟨w.heap.size, 4, none⟩ = some (.int .i64 by_) := Lib.cell_of_heap hu2 4
      have t0 : w2.cell? ⟨w.heap.size + 1, 0, none⟩ = some (.int .i64 fr) := Lib.cell_of_heap ht2 0
      have t1 : w2.cell? ⟨w.heap.size + 1, 1, none⟩ = some (.int .i64 ev) := Lib.cell_of_heap ht2 1
      have t2 : w2.cell? ⟨w.heap.size + 1, 2, none⟩ = some (.int .i64 ln) := Lib.cell_of_heap ht2 2
      clear hu2 ht2
      go_wp2_with (go_at_call 28; refine (yin_any _ _ _).mono ?_; rintro e w' ⟨rfl, rfl⟩)
      go_ret
      exact ⟨rfl, HB2.out⟩
    · skip
      by_cases ht : fr = 0 ∧ ev = 0 ∧ ln = 0
      · rw [decide_eq_true ht] at hte
        have HT := ht
        by_cases hp : pos = 0
        · have bhp : (pos == 0) = true := by rw [hp]; rfl
          by_cases hb : by_ = 0
          · have bhb : (by_ == 0) = true := by rw [hb]; rfl
            rw [show rOk ⟨k, nm, no, pos, by_, fr, ev, ln⟩ = true by simp [rOk, hnm, k0, k5, k3, k1, hno, ht, hp, hb]]
            rw [if_pos rfl]
            clear k1 klo khi ht HT hp hb
            go_enter Tryz.func13, Tryz.ntmps13
            go_upto_region 2 with fail
            obtain ⟨w1, hw1⟩ : ∃ w1, (w.alloc (.cells #[.int .i64 k, .string (ba nm), .int .i64 no, .int .i64 pos, .int .i64 by_, .int .i64 fr, .int .i64 ev, .int .i64 ln] 25)).alloc (.cells #[.int .i64 fr, .int .i64 ev, .int .i64 ln] 23) = w1 := ⟨_, rfl⟩
            have hu1 : w1.heap[w.heap.size]? = some (.cells #[.int .i64 k, .string (ba nm), .int .i64 no, .int .i64 pos, .int .i64 by_, .int .i64 fr, .int .i64 ev, .int .i64 ln] 25 (0, 0)) := by rw [← hw1, heap_alloc_old _ _ (by simp)]; exact heap_alloc_new _ _
            have ht1 : w1.heap[w.heap.size + 1]? = some (.cells #[.int .i64 fr, .int .i64 ev, .int .i64 ln] 23 (0, 0)) := by rw [← hw1]; exact alloc2_new _ _ _
            have hb1 : Below w.heap.size w w1 := by rw [← hw1]; exact ((Below.refl _ _).alloc (Nat.le_refl _) _).alloc (by simp) _
            rw [hw1]
            clear hw1
            have n1 : w1.cell? ⟨w.heap.size, 1, none⟩ = some (.string (ba nm)) := Lib.cell_of_heap hu1 1
            go_wp2_with fail
            clear n1
            have hyn := yname_any (ba nm) w1 (by rw [ba_size]; exact hn)
            rw [ba_list] at hyn
            refine hyn.mono ?_
            clear hyn
            rintro e w2 ⟨rfl, hb2⟩
            have hu2 := (hb2.block w.heap.size (Array.getElem?_eq_some_iff.1 hu1).1).trans hu1
            have ht2 := (hb2.block (w.heap.size + 1) (Array.getElem?_eq_some_iff.1 ht1).1).trans ht1
            have HB2 := Lib.hid (hb1.trans (hb2.mono hb1.size))
            clear hb1 hb2 hu1 ht1
            have y0 : w2.cell? ⟨w.heap.size, 0, none⟩ = some (.int .i64 k) := Lib.cell_of_heap hu2 0
            have y2 : w2.cell? ⟨w.heap.size, 2, none⟩ = some (.int .i64 no) := Lib.cell_of_heap hu2 2
            have y3 : w2.cell? ⟨w.heap.size, 3, none⟩ = some (.int .i64 pos) := Lib.cell_of_heap hu2 3
            have y4 : w2.cell? ⟨w.heap.size, 4, none⟩ = some (.int .i64 by_) := Lib.cell_of_heap hu2 4
            have t0 : w2.cell? ⟨w.heap.size + 1, 0, none⟩ = some (.int .i64 fr) := Lib.cell_of_heap ht2 0
            have t1 : w2.cell? ⟨w.heap.size + 1, 1, none⟩ = some (.int .i64 ev) := Lib.cell_of_heap ht2 1
            have t2 : w2.cell? ⟨w.heap.size + 1, 2, none⟩ = some (.int .i64 ln) := Lib.cell_of_heap ht2 2
            clear hu2 ht2
            go_wp2_with (go_at_call 28; refine (yin_any _ _ _).mono ?_; rintro e w' ⟨rfl, rfl⟩)
            go_ret
            exact ⟨rfl, HB2.out⟩
          · have bhb : (by_ == 0) = false := beq_eq_false_iff_ne.2 hb
            rw [show rOk ⟨k, nm, no, pos, by_, fr, ev, ln⟩ = false by simp [rOk, hnm, k0, k5, k3, k1, hno, ht, hp, hb]]
            rw [if_neg (by decide)]
            clear k1 klo khi ht HT hp hb
            go_enter Tryz.func13, Tryz.ntmps13
            go_upto_region 2 with fail
            obtain ⟨w1, hw1⟩ : ∃ w1, (w.alloc (.cells #[.int .i64 k, .string (ba nm), .int .i64 no, .int .i64 pos, .int .i64 by_, .int .i64 fr, .int .i64 ev, .int .i64 ln] 25)).alloc (.cells #[.int .i64 fr, .int .i64 ev, .int .i64 ln] 23) = w1 := ⟨_, rfl⟩
            have hu1 : w1.heap[w.heap.size]? = some (.cells #[.int .i64 k, .string (ba nm), .int .i64 no, .int .i64 pos, .int .i64 by_, .int .i64 fr, .int .i64 ev, .int .i64 ln] 25 (0, 0)) := by rw [← hw1, heap_alloc_old _ _ (by simp)]; exact heap_alloc_new _ _
            have ht1 : w1.heap[w.heap.size + 1]? = some (.cells #[.int .i64 fr, .int .i64 ev, .int .i64 ln] 23 (0, 0)) := by rw [← hw1]; exact alloc2_new _ _ _
            have hb1 : Below w.heap.size w w1 := by rw [← hw1]; exact ((Below.refl _ _).alloc (Nat.le_refl _) _).alloc (by simp) _
            rw [hw1]
            clear hw1
            have n1 : w1.cell? ⟨w.heap.size, 1, none⟩ = some (.string (ba nm)) := Lib.cell_of_heap hu1 1
            go_wp2_with fail
            clear n1
            have hyn := yname_any (ba nm) w1 (by rw [ba_size]; exact hn)
            rw [ba_list] at hyn
            refine hyn.mono ?_
            clear hyn
            rintro e w2 ⟨rfl, hb2⟩
            have hu2 := (hb2.block w.heap.size (Array.getElem?_eq_some_iff.1 hu1).1).trans hu1
            have ht2 := (hb2.block (w.heap.size + 1) (Array.getElem?_eq_some_iff.1 ht1).1).trans ht1
            have HB2 := Lib.hid (hb1.trans (hb2.mono hb1.size))
            clear hb1 hb2 hu1 ht1
            have y0 : w2.cell? ⟨w.heap.size, 0, none⟩ = some (.int .i64 k) := Lib.cell_of_heap hu2 0
            have y2 : w2.cell? ⟨w.heap.size, 2, none⟩ = some (.int .i64 no) := Lib.cell_of_heap hu2 2
            have y3 : w2.cell? ⟨w.heap.size, 3, none⟩ = some (.int .i64 pos) := Lib.cell_of_heap hu2 3
            have y4 : w2.cell? ⟨w.heap.size, 4, none⟩ = some (.int .i64 by_) := Lib.cell_of_heap hu2 4
            have t0 : w2.cell? ⟨w.heap.size + 1, 0, none⟩ = some (.int .i64 fr) := Lib.cell_of_heap ht2 0
            have t1 : w2.cell? ⟨w.heap.size + 1, 1, none⟩ = some (.int .i64 ev) := Lib.cell_of_heap ht2 1
            have t2 : w2.cell? ⟨w.heap.size + 1, 2, none⟩ = some (.int .i64 ln) := Lib.cell_of_heap ht2 2
            clear hu2 ht2
            go_wp2_with (go_at_call 28; refine (yin_any _ _ _).mono ?_; rintro e w' ⟨rfl, rfl⟩)
            go_ret
            exact ⟨rfl, HB2.out⟩
        · have bhp : (pos == 0) = false := beq_eq_false_iff_ne.2 hp
          rw [show rOk ⟨k, nm, no, pos, by_, fr, ev, ln⟩ = false by simp [rOk, hnm, k0, k5, k3, k1, hno, ht, hp]]
          rw [if_neg (by decide)]
          clear k1 klo khi ht HT hp
          go_enter Tryz.func13, Tryz.ntmps13
          go_upto_region 2 with fail
          obtain ⟨w1, hw1⟩ : ∃ w1, (w.alloc (.cells #[.int .i64 k, .string (ba nm), .int .i64 no, .int .i64 pos, .int .i64 by_, .int .i64 fr, .int .i64 ev, .int .i64 ln] 25)).alloc (.cells #[.int .i64 fr, .int .i64 ev, .int .i64 ln] 23) = w1 := ⟨_, rfl⟩
          have hu1 : w1.heap[w.heap.size]? = some (.cells #[.int .i64 k, .string (ba nm), .int .i64 no, .int .i64 pos, .int .i64 by_, .int .i64 fr, .int .i64 ev, .int .i64 ln] 25 (0, 0)) := by rw [← hw1, heap_alloc_old _ _ (by simp)]; exact heap_alloc_new _ _
          have ht1 : w1.heap[w.heap.size + 1]? = some (.cells #[.int .i64 fr, .int .i64 ev, .int .i64 ln] 23 (0, 0)) := by rw [← hw1]; exact alloc2_new _ _ _
          have hb1 : Below w.heap.size w w1 := by rw [← hw1]; exact ((Below.refl _ _).alloc (Nat.le_refl _) _).alloc (by simp) _
          rw [hw1]
          clear hw1
          have n1 : w1.cell? ⟨w.heap.size, 1, none⟩ = some (.string (ba nm)) := Lib.cell_of_heap hu1 1
          go_wp2_with fail
          clear n1
          have hyn := yname_any (ba nm) w1 (by rw [ba_size]; exact hn)
          rw [ba_list] at hyn
          refine hyn.mono ?_
          clear hyn
          rintro e w2 ⟨rfl, hb2⟩
          have hu2 := (hb2.block w.heap.size (Array.getElem?_eq_some_iff.1 hu1).1).trans hu1
          have ht2 := (hb2.block (w.heap.size + 1) (Array.getElem?_eq_some_iff.1 ht1).1).trans ht1
          have HB2 := Lib.hid (hb1.trans (hb2.mono hb1.size))
          clear hb1 hb2 hu1 ht1
          have y0 : w2.cell? ⟨w.heap.size, 0, none⟩ = some (.int .i64 k) := Lib.cell_of_heap hu2 0
          have y2 : w2.cell? ⟨w.heap.size, 2, none⟩ = some (.int .i64 no) := Lib.cell_of_heap hu2 2
          have y3 : w2.cell? ⟨w.heap.size, 3, none⟩ = some (.int .i64 pos) := Lib.cell_of_heap hu2 3
          have y4 : w2.cell? ⟨w.heap.size, 4, none⟩ = some (.int .i64 by_) := Lib.cell_of_heap hu2 4
          have t0 : w2.cell? ⟨w.heap.size + 1, 0, none⟩ = some (.int .i64 fr) := Lib.cell_of_heap ht2 0
          have t1 : w2.cell? ⟨w.heap.size + 1, 1, none⟩ = some (.int .i64 ev) := Lib.cell_of_heap ht2 1
          have t2 : w2.cell? ⟨w.heap.size + 1, 2, none⟩ = some (.int .i64 ln) := Lib.cell_of_heap ht2 2
          clear hu2 ht2
          go_wp2_with (go_at_call 28; refine (yin_any _ _ _).mono ?_; rintro e w' ⟨rfl, rfl⟩)
          go_ret
          exact ⟨rfl, HB2.out⟩
      · rw [decide_eq_false ht] at hte
        rw [show rOk ⟨k, nm, no, pos, by_, fr, ev, ln⟩ = false by simp [rOk, hnm, k0, k5, k3, k1, hno, ht]]
        rw [if_neg (by decide)]
        clear k1 klo khi ht
        go_enter Tryz.func13, Tryz.ntmps13
        go_upto_region 2 with fail
        obtain ⟨w1, hw1⟩ : ∃ w1, (w.alloc (.cells #[.int .i64 k, .string (ba nm), .int .i64 no, .int .i64 pos, .int .i64 by_, .int .i64 fr, .int .i64 ev, .int .i64 ln] 25)).alloc (.cells #[.int .i64 fr, .int .i64 ev, .int .i64 ln] 23) = w1 := ⟨_, rfl⟩
        have hu1 : w1.heap[w.heap.size]? = some (.cells #[.int .i64 k, .string (ba nm), .int .i64 no, .int .i64 pos, .int .i64 by_, .int .i64 fr, .int .i64 ev, .int .i64 ln] 25 (0, 0)) := by rw [← hw1, heap_alloc_old _ _ (by simp)]; exact heap_alloc_new _ _
        have ht1 : w1.heap[w.heap.size + 1]? = some (.cells #[.int .i64 fr, .int .i64 ev, .int .i64 ln] 23 (0, 0)) := by rw [← hw1]; exact alloc2_new _ _ _
        have hb1 : Below w.heap.size w w1 := by rw [← hw1]; exact ((Below.refl _ _).alloc (Nat.le_refl _) _).alloc (by simp) _
        rw [hw1]
        clear hw1
        have n1 : w1.cell? ⟨w.heap.size, 1, none⟩ = some (.string (ba nm)) := Lib.cell_of_heap hu1 1
        go_wp2_with fail
        clear n1
        have hyn := yname_any (ba nm) w1 (by rw [ba_size]; exact hn)
        rw [ba_list] at hyn
        refine hyn.mono ?_
        clear hyn
        rintro e w2 ⟨rfl, hb2⟩
        have hu2 := (hb2.block w.heap.size (Array.getElem?_eq_some_iff.1 hu1).1).trans hu1
        have ht2 := (hb2.block (w.heap.size + 1) (Array.getElem?_eq_some_iff.1 ht1).1).trans ht1
        have HB2 := Lib.hid (hb1.trans (hb2.mono hb1.size))
        clear hb1 hb2 hu1 ht1
        have y0 : w2.cell? ⟨w.heap.size, 0, none⟩ = some (.int .i64 k) := Lib.cell_of_heap hu2 0
        have y2 : w2.cell? ⟨w.heap.size, 2, none⟩ = some (.int .i64 no) := Lib.cell_of_heap hu2 2
        have y3 : w2.cell? ⟨w.heap.size, 3, none⟩ = some (.int .i64 pos) := Lib.cell_of_heap hu2 3
        have y4 : w2.cell? ⟨w.heap.size, 4, none⟩ = some (.int .i64 by_) := Lib.cell_of_heap hu2 4
        have t0 : w2.cell? ⟨w.heap.size + 1, 0, none⟩ = some (.int .i64 fr) := Lib.cell_of_heap ht2 0
        have t1 : w2.cell? ⟨w.heap.size + 1, 1, none⟩ = some (.int .i64 ev) := Lib.cell_of_heap ht2 1
        have t2 : w2.cell? ⟨w.heap.size + 1, 2, none⟩ = some (.int .i64 ln) := Lib.cell_of_heap ht2 2
        clear hu2 ht2
        go_wp2_with (go_at_call 28; refine (yin_any _ _ _).mono ?_; rintro e w' ⟨rfl, rfl⟩)
        go_ret
        exact ⟨rfl, HB2.out⟩
  · skip
    by_cases hno : no = 0
    · have bhno : (no == 0) = true := by rw [hno]; rfl
      cases hfr : inD fr 0
      · skip
        rw [show rOk ⟨k, nm, no, pos, by_, fr, ev, ln⟩ = false by simp [rOk, hnm, k0, k5, k3, k1, hno, hfr]]
        rw [if_neg (by decide)]
        clear k1 klo khi hno
        go_enter Tryz.func13, Tryz.ntmps13
        go_upto_region 2 with fail
        obtain ⟨w1, hw1⟩ : ∃ w1, (w.alloc (.cells #[.int .i64 k, .string (ba nm), .int .i64 no, .int .i64 pos, .int .i64 by_, .int .i64 fr, .int .i64 ev, .int .i64 ln] 25)).alloc (.cells #[.int .i64 fr, .int .i64 ev, .int .i64 ln] 23) = w1 := ⟨_, rfl⟩
        have hu1 : w1.heap[w.heap.size]? = some (.cells #[.int .i64 k, .string (ba nm), .int .i64 no, .int .i64 pos, .int .i64 by_, .int .i64 fr, .int .i64 ev, .int .i64 ln] 25 (0, 0)) := by rw [← hw1, heap_alloc_old _ _ (by simp)]; exact heap_alloc_new _ _
        have ht1 : w1.heap[w.heap.size + 1]? = some (.cells #[.int .i64 fr, .int .i64 ev, .int .i64 ln] 23 (0, 0)) := by rw [← hw1]; exact alloc2_new _ _ _
        have hb1 : Below w.heap.size w w1 := by rw [← hw1]; exact ((Below.refl _ _).alloc (Nat.le_refl _) _).alloc (by simp) _
        rw [hw1]
        clear hw1
        have n1 : w1.cell? ⟨w.heap.size, 1, none⟩ = some (.string (ba nm)) := Lib.cell_of_heap hu1 1
        go_wp2_with fail
        clear n1
        have hyn := yname_any (ba nm) w1 (by rw [ba_size]; exact hn)
        rw [ba_list] at hyn
        refine hyn.mono ?_
        clear hyn
        rintro e w2 ⟨rfl, hb2⟩
        have hu2 := (hb2.block w.heap.size (Array.getElem?_eq_some_iff.1 hu1).1).trans hu1
        have ht2 := (hb2.block (w.heap.size + 1) (Array.getElem?_eq_some_iff.1 ht1).1).trans ht1
        have HB2 := Lib.hid (hb1.trans (hb2.mono hb1.size))
        clear hb1 hb2 hu1 ht1
        have y0 : w2.cell? ⟨w.heap.size, 0, none⟩ = some (.int .i64 k) := Lib.cell_of_heap hu2 0
        have y2 : w2.cell? ⟨w.heap.size, 2, none⟩ = some (.int .i64 no) := Lib.cell_of_heap hu2 2
        have y3 : w2.cell? ⟨w.heap.size, 3, none⟩ = some (.int .i64 pos) := Lib.cell_of_heap hu2 3
        have y4 : w2.cell? ⟨w.heap.size, 4, none⟩ = some (.int .i64 by_) := Lib.cell_of_heap hu2 4
        have t0 : w2.cell? ⟨w.heap.size + 1, 0, none⟩ = some (.int .i64 fr) := Lib.cell_of_heap ht2 0
        have t1 : w2.cell? ⟨w.heap.size + 1, 1, none⟩ = some (.int .i64 ev) := Lib.cell_of_heap ht2 1
        have t2 : w2.cell? ⟨w.heap.size + 1, 2, none⟩ = some (.int .i64 ln) := Lib.cell_of_heap ht2 2
        clear hu2 ht2
        go_wp2_with (go_at_call 28; refine (yin_any _ _ _).mono ?_; rintro e w' ⟨rfl, rfl⟩)
        go_ret
        exact ⟨rfl, HB2.out⟩
      · skip
        cases hev : inD ev 0
        · skip
          rw [show rOk ⟨k, nm, no, pos, by_, fr, ev, ln⟩ = false by simp [rOk, hnm, k0, k5, k3, k1, hno, hfr, hev]]
          rw [if_neg (by decide)]
          clear k1 klo khi hno
          go_enter Tryz.func13, Tryz.ntmps13
          go_upto_region 2 with fail
          obtain ⟨w1, hw1⟩ : ∃ w1, (w.alloc (.cells #[.int .i64 k, .string (ba nm), .int .i64 no, .int .i64 pos, .int .i64 by_, .int .i64 fr, .int .i64 ev, .int .i64 ln] 25)).alloc (.cells #[.int .i64 fr, .int .i64 ev, .int .i64 ln] 23) = w1 := ⟨_, rfl⟩
          have hu1 : w1.heap[w.heap.size]? = some (.cells #[.int .i64 k, .string (ba nm), .int .i64 no, .int .i64 pos, .int .i64 by_, .int .i64 fr, .int .i64 ev, .int .i64 ln] 25 (0, 0)) := by rw [← hw1, heap_alloc_old _ _ (by simp)]; exact heap_alloc_new _ _
          have ht1 : w1.heap[w.heap.size + 1]? = some (.cells #[.int .i64 fr, .int .i64 ev, .int .i64 ln] 23 (0, 0)) := by rw [← hw1]; exact alloc2_new _ _ _
          have hb1 : Below w.heap.size w w1 := by rw [← hw1]; exact ((Below.refl _ _).alloc (Nat.le_refl _) _).alloc (by simp) _
          rw [hw1]
          clear hw1
          have n1 : w1.cell? ⟨w.heap.size, 1, none⟩ = some (.string (ba nm)) := Lib.cell_of_heap hu1 1
          go_wp2_with fail
          clear n1
          have hyn := yname_any (ba nm) w1 (by rw [ba_size]; exact hn)
          rw [ba_list] at hyn
          refine hyn.mono ?_
          clear hyn
          rintro e w2 ⟨rfl, hb2⟩
          have hu2 := (hb2.block w.heap.size (Array.getElem?_eq_some_iff.1 hu1).1).trans hu1
          have ht2 := (hb2.block (w.heap.size + 1) (Array.getElem?_eq_some_iff.1 ht1).1).trans ht1
          have HB2 := Lib.hid (hb1.trans (hb2.mono hb1.size))
          clear hb1 hb2 hu1 ht1
          have y0 : w2.cell? ⟨w.heap.size, 0, none⟩ = some (.int .i64 k) := Lib.cell_of_heap hu2 0
          have y2 : w2.cell? ⟨w.heap.size, 2, none⟩ = some (.int .i64 no) := Lib.cell_of_heap hu2 2
          have y3 : w2.cell? ⟨w.heap.size, 3, none⟩ = some (.int .i64 pos) := Lib.cell_of_heap hu2 3
          have y4 : w2.cell? ⟨w.heap.size, 4, none⟩ = some (.int .i64 by_) := Lib.cell_of_heap hu2 4
          have t0 : w2.cell? ⟨w.heap.size + 1, 0, none⟩ = some (.int .i64 fr) := Lib.cell_of_heap ht2 0
          have t1 : w2.cell? ⟨w.heap.size + 1, 1, none⟩ = some (.int .i64 ev) := Lib.cell_of_heap ht2 1
          have t2 : w2.cell? ⟨w.heap.size + 1, 2, none⟩ = some (.int .i64 ln) := Lib.cell_of_heap ht2 2
          clear hu2 ht2
          go_wp2_with (go_at_call 28; refine (yin_any _ _ _).mono ?_; rintro e w' ⟨rfl, rfl⟩)
          go_ret
          exact ⟨rfl, HB2.out⟩
        · skip
          cases hln : inD ln 0
          · skip
            rw [show rOk ⟨k, nm, no, pos, by_, fr, ev, ln⟩ = false by simp [rOk, hnm, k0, k5, k3, k1, hno, hfr, hev, hln]]
            rw [if_neg (by decide)]
            clear k1 klo khi hno
            go_enter Tryz.func13, Tryz.ntmps13
            go_upto_region 2 with fail
            obtain ⟨w1, hw1⟩ : ∃ w1, (w.alloc (.cells #[.int .i64 k, .string (ba nm), .int .i64 no, .int .i64 pos, .int .i64 by_, .int .i64 fr, .int .i64 ev, .int .i64 ln] 25)).alloc (.cells #[.int .i64 fr, .int .i64 ev, .int .i64 ln] 23) = w1 := ⟨_, rfl⟩
            have hu1 : w1.heap[w.heap.size]? = some (.cells #[.int .i64 k, .string (ba nm), .int .i64 no, .int .i64 pos, .int .i64 by_, .int .i64 fr, .int .i64 ev, .int .i64 ln] 25 (0, 0)) := by rw [← hw1, heap_alloc_old _ _ (by simp)]; exact heap_alloc_new _ _
            have ht1 : w1.heap[w.heap.size + 1]? = some (.cells #[.int .i64 fr, .int .i64 ev, .int .i64 ln] 23 (0, 0)) := by rw [← hw1]; exact alloc2_new _ _ _
            have hb1 : Below w.heap.size w w1 := by rw [← hw1]; exact ((Below.refl _ _).alloc (Nat.le_refl _) _).alloc (by simp) _
            rw [hw1]
            clear hw1
            have n1 : w1.cell? ⟨w.heap.size, 1, none⟩ = some (.string (ba nm)) := Lib.cell_of_heap hu1 1
            go_wp2_with fail
            clear n1
            have hyn := yname_any (ba nm) w1 (by rw [ba_size]; exact hn)
            rw [ba_list] at hyn
            refine hyn.mono ?_
            clear hyn
            rintro e w2 ⟨rfl, hb2⟩
            have hu2 := (hb2.block w.heap.size (Array.getElem?_eq_some_iff.1 hu1).1).trans hu1
            have ht2 := (hb2.block (w.heap.size + 1) (Array.getElem?_eq_some_iff.1 ht1).1).trans ht1
            have HB2 := Lib.hid (hb1.trans (hb2.mono hb1.size))
            clear hb1 hb2 hu1 ht1
            have y0 : w2.cell? ⟨w.heap.size, 0, none⟩ = some (.int .i64 k) := Lib.cell_of_heap hu2 0
            have y2 : w2.cell? ⟨w.heap.size, 2, none⟩ = some (.int .i64 no) := Lib.cell_of_heap hu2 2
            have y3 : w2.cell? ⟨w.heap.size, 3, none⟩ = some (.int .i64 pos) := Lib.cell_of_heap hu2 3
            have y4 : w2.cell? ⟨w.heap.size, 4, none⟩ = some (.int .i64 by_) := Lib.cell_of_heap hu2 4
            have t0 : w2.cell? ⟨w.heap.size + 1, 0, none⟩ = some (.int .i64 fr) := Lib.cell_of_heap ht2 0
            have t1 : w2.cell? ⟨w.heap.size + 1, 1, none⟩ = some (.int .i64 ev) := Lib.cell_of_heap ht2 1
            have t2 : w2.cell? ⟨w.heap.size + 1, 2, none⟩ = some (.int .i64 ln) := Lib.cell_of_heap ht2 2
            clear hu2 ht2
            go_wp2_with (go_at_call 28; refine (yin_any _ _ _).mono ?_; rintro e w' ⟨rfl, rfl⟩)
            go_ret
            exact ⟨rfl, HB2.out⟩
          · skip
            by_cases hp : pos = 0
            · have bhp : (pos == 0) = true := by rw [hp]; rfl
              by_cases hb : by_ = 0
              · have bhb : (by_ == 0) = true := by rw [hb]; rfl
                rw [show rOk ⟨k, nm, no, pos, by_, fr, ev, ln⟩ = true by simp [rOk, hnm, k0, k5, k3, k1, hno, hfr, hev, hln, hp, hb]]
                rw [if_pos rfl]
                clear k1 klo khi hno hp hb
                go_enter Tryz.func13, Tryz.ntmps13
                go_upto_region 2 with fail
                obtain ⟨w1, hw1⟩ : ∃ w1, (w.alloc (.cells #[.int .i64 k, .string (ba nm), .int .i64 no, .int .i64 pos, .int .i64 by_, .int .i64 fr, .int .i64 ev, .int .i64 ln] 25)).alloc (.cells #[.int .i64 fr, .int .i64 ev, .int .i64 ln] 23) = w1 := ⟨_, rfl⟩
                have hu1 : w1.heap[w.heap.size]? = some (.cells #[.int .i64 k, .string (ba nm), .int .i64 no, .int .i64 pos, .int .i64 by_, .int .i64 fr, .int .i64 ev, .int .i64 ln] 25 (0, 0)) := by rw [← hw1, heap_alloc_old _ _ (by simp)]; exact heap_alloc_new _ _
                have ht1 : w1.heap[w.heap.size + 1]? = some (.cells #[.int .i64 fr, .int .i64 ev, .int .i64 ln] 23 (0, 0)) := by rw [← hw1]; exact alloc2_new _ _ _
                have hb1 : Below w.heap.size w w1 := by rw [← hw1]; exact ((Below.refl _ _).alloc (Nat.le_refl _) _).alloc (by simp) _
                rw [hw1]
                clear hw1
                have n1 : w1.cell? ⟨w.heap.size, 1, none⟩ = some (.string (ba nm)) := Lib.cell_of_heap hu1 1
                go_wp2_with fail
                clear n1
                have hyn := yname_any (ba nm) w1 (by rw [ba_size]; exact hn)
                rw [ba_list] at hyn
                refine hyn.mono ?_
                clear hyn
                rintro e w2 ⟨rfl, hb2⟩
                have hu2 := (hb2.block w.heap.size (Array.getElem?_eq_some_iff.1 hu1).1).trans hu1
                have ht2 := (hb2.block (w.heap.size + 1) (Array.getElem?_eq_some_iff.1 ht1).1).trans ht1
                have HB2 := Lib.hid (hb1.trans (hb2.mono hb1.size))
                clear hb1 hb2 hu1 ht1
                have y0 : w2.cell? ⟨w.heap.size, 0, none⟩ = some (.int .i64 k) := Lib.cell_of_heap hu2 0
                have y2 : w2.cell? ⟨w.heap.size, 2, none⟩ = some (.int .i64 no) := Lib.cell_of_heap hu2 2
                have y3 : w2.cell? ⟨w.heap.size, 3, none⟩ = some (.int .i64 pos) := Lib.cell_of_heap hu2 3
                have y4 : w2.cell? ⟨w.heap.size, 4, none⟩ = some (.int .i64 by_) := Lib.cell_of_heap hu2 4
                have t0 : w2.cell? ⟨w.heap.size + 1, 0, none⟩ = some (.int .i64 fr) := Lib.cell_of_heap ht2 0
                have t1 : w2.cell? ⟨w.heap.size + 1, 1, none⟩ = some (.int .i64 ev) := Lib.cell_of_heap ht2 1
                have t2 : w2.cell? ⟨w.heap.size + 1, 2, none⟩ = some (.int .i64 ln) := Lib.cell_of_heap ht2 2
                clear hu2 ht2
                go_wp2_with (go_at_call 28; refine (yin_any _ _ _).mono ?_; rintro e w' ⟨rfl, rfl⟩)
                go_ret
                exact ⟨rfl, HB2.out⟩
              · have bhb : (by_ == 0) = false := beq_eq_false_iff_ne.2 hb
                rw [show rOk ⟨k, nm, no, pos, by_, fr, ev, ln⟩ = false by simp [rOk, hnm, k0, k5, k3, k1, hno, hfr, hev, hln, hp, hb]]
                rw [if_neg (by decide)]
                clear k1 klo khi hno hp hb
                go_enter Tryz.func13, Tryz.ntmps13
                go_upto_region 2 with fail
                obtain ⟨w1, hw1⟩ : ∃ w1, (w.alloc (.cells #[.int .i64 k, .string (ba nm), .int .i64 no, .int .i64 pos, .int .i64 by_, .int .i64 fr, .int .i64 ev, .int .i64 ln] 25)).alloc (.cells #[.int .i64 fr, .int .i64 ev, .int .i64 ln] 23) = w1 := ⟨_, rfl⟩
                have hu1 : w1.heap[w.heap.size]? = some (.cells #[.int .i64 k, .string (ba nm), .int .i64 no, .int .i64 pos, .int .i64 by_, .int .i64 fr, .int .i64 ev, .int .i64 ln] 25 (0, 0)) := by rw [← hw1, heap_alloc_old _ _ (by simp)]; exact heap_alloc_new _ _
                have ht1 : w1.heap[w.heap.size + 1]? = some (.cells #[.int .i64 fr, .int .i64 ev, .int .i64 ln] 23 (0, 0)) := by rw [← hw1]; exact alloc2_new _ _ _
                have hb1 : Below w.heap.size w w1 := by rw [← hw1]; exact ((Below.refl _ _).alloc (Nat.le_refl _) _).alloc (by simp) _
                rw [hw1]
                clear hw1
                have n1 : w1.cell? ⟨w.heap.size, 1, none⟩ = some (.string (ba nm)) := Lib.cell_of_heap hu1 1
                go_wp2_with fail
                clear n1
                have hyn := yname_any (ba nm) w1 (by rw [ba_size]; exact hn)
                rw [ba_list] at hyn
                refine hyn.mono ?_
                clear hyn
                rintro e w2 ⟨rfl, hb2⟩
                have hu2 := (hb2.block w.heap.size (Array.getElem?_eq_some_iff.1 hu1).1).trans hu1
                have ht2 := (hb2.block (w.heap.size + 1) (Array.getElem?_eq_some_iff.1 ht1).1).trans ht1
                have HB2 := Lib.hid (hb1.trans (hb2.mono hb1.size))
                clear hb1 hb2 hu1 ht1
                have y0 : w2.cell? ⟨w.heap.size, 0, none⟩ = some (.int .i64 k) := Lib.cell_of_heap hu2 0
                have y2 : w2.cell? ⟨w.heap.size, 2, none⟩ = some (.int .i64 no) := Lib.cell_of_heap hu2 2
                have y3 : w2.cell? ⟨w.heap.size, 3, none⟩ = some (.int .i64 pos) := Lib.cell_of_heap hu2 3
                have y4 : w2.cell? ⟨w.heap.size, 4, none⟩ = some (.int .i64 by_) := Lib.cell_of_heap hu2 4
                have t0 : w2.cell? ⟨w.heap.size + 1, 0, none⟩ = some (.int .i64 fr) := Lib.cell_of_heap ht2 0
                have t1 : w2.cell? ⟨w.heap.size + 1, 1, none⟩ = some (.int .i64 ev) := Lib.cell_of_heap ht2 1
                have t2 : w2.cell? ⟨w.heap.size + 1, 2, none⟩ = some (.int .i64 ln) := Lib.cell_of_heap ht2 2
                clear hu2 ht2
                go_wp2_with (go_at_call 28; refine (yin_any _ _ _).mono ?_; rintro e w' ⟨rfl, rfl⟩)
                go_ret
                exact ⟨rfl, HB2.out⟩
            · have bhp : (pos == 0) = false := beq_eq_false_iff_ne.2 hp
              rw [show rOk ⟨k, nm, no, pos, by_, fr, ev, ln⟩ = false by simp [rOk, hnm, k0, k5, k3, k1, hno, hfr, hev, hln, hp]]
              rw [if_neg (by decide)]
              clear k1 klo khi hno hp
              go_enter Tryz.func13, Tryz.ntmps13
              go_upto_region 2 with fail
              obtain ⟨w1, hw1⟩ : ∃ w1, (w.alloc (.cells #[.int .i64 k, .string (ba nm), .int .i64 no, .int .i64 pos, .int .i64 by_, .int .i64 fr, .int .i64 ev, .int .i64 ln] 25)).alloc (.cells #[.int .i64 fr, .int .i64 ev, .int .i64 ln] 23) = w1 := ⟨_, rfl⟩
              have hu1 : w1.heap[w.heap.size]? = some (.cells #[.int .i64 k, .string (ba nm), .int .i64 no, .int .i64 pos, .int .i64 by_, .int .i64 fr, .int .i64 ev, .int .i64 ln] 25 (0, 0)) := by rw [← hw1, heap_alloc_old _ _ (by simp)]; exact heap_alloc_new _ _
              have ht1 : w1.heap[w.heap.size + 1]? = some (.cells #[.int .i64 fr, .int .i64 ev, .int .i64 ln] 23 (0, 0)) := by rw [← hw1]; exact alloc2_new _ _ _
              have hb1 : Below w.heap.size w w1 := by rw [← hw1]; exact ((Below.refl _ _).alloc (Nat.le_refl _) _).alloc (by simp) _
              rw [hw1]
              clear hw1
              have n1 : w1.cell? ⟨w.heap.size, 1, none⟩ = some (.string (ba nm)) := Lib.cell_of_heap hu1 1
              go_wp2_with fail
              clear n1
              have hyn := yname_any (ba nm) w1 (by rw [ba_size]; exact hn)
              rw [ba_list] at hyn
              refine hyn.mono ?_
              clear hyn
              rintro e w2 ⟨rfl, hb2⟩
              have hu2 := (hb2.block w.heap.size (Array.getElem?_eq_some_iff.1 hu1).1).trans hu1
              have ht2 := (hb2.block (w.heap.size + 1) (Array.getElem?_eq_some_iff.1 ht1).1).trans ht1
              have HB2 := Lib.hid (hb1.trans (hb2.mono hb1.size))
              clear hb1 hb2 hu1 ht1
              have y0 : w2.cell? ⟨w.heap.size, 0, none⟩ = some (.int .i64 k) := Lib.cell_of_heap hu2 0
              have y2 : w2.cell? ⟨w.heap.size, 2, none⟩ = some (.int .i64 no) := Lib.cell_of_heap hu2 2
              have y3 : w2.cell? ⟨w.heap.size, 3, none⟩ = some (.int .i64 pos) := Lib.cell_of_heap hu2 3
              have y4 : w2.cell? ⟨w.heap.size, 4, none⟩ = some (.int .i64 by_) := Lib.cell_of_heap hu2 4
              have t0 : w2.cell? ⟨w.heap.size + 1, 0, none⟩ = some (.int .i64 fr) := Lib.cell_of_heap ht2 0
              have t1 : w2.cell? ⟨w.heap.size + 1, 1, none⟩ = some (.int .i64 ev) := Lib.cell_of_heap ht2 1
              have t2 : w2.cell? ⟨w.heap.size + 1, 2, none⟩ = some (.int .i64 ln) := Lib.cell_of_heap ht2 2
              clear hu2 ht2
              go_wp2_with (go_at_call 28; refine (yin_any _ _ _).mono ?_; rintro e w' ⟨rfl, rfl⟩)
              go_ret
              exact ⟨rfl, HB2.out⟩
    · have bhno : (no == 0) = false := beq_eq_false_iff_ne.2 hno
      rw [show rOk ⟨k, nm, no, pos, by_, fr, ev, ln⟩ = false by simp [rOk, hnm, k0, k5, k3, k1, hno]]
      rw [if_neg (by decide)]
      clear k1 klo khi hno
      go_enter Tryz.func13, Tryz.ntmps13
      go_upto_region 2 with fail
      obtain ⟨w1, hw1⟩ : ∃ w1, (w.alloc (.cells #[.int .i64 k, .string (ba nm), .int .i64 no, .int .i64 pos, .int .i64 by_, .int .i64 fr, .int .i64 ev, .int .i64 ln] 25)).alloc (.cells #[.int .i64 fr, .int .i64 ev, .int .i64 ln] 23) = w1 := ⟨_, rfl⟩
      have hu1 : w1.heap[w.heap.size]? = some (.cells #[.int .i64 k, .string (ba nm), .int .i64 no, .int .i64 pos, .int .i64 by_, .int .i64 fr, .int .i64 ev, .int .i64 ln] 25 (0, 0)) := by rw [← hw1, heap_alloc_old _ _ (by simp)]; exact heap_alloc_new _ _
      have ht1 : w1.heap[w.heap.size + 1]? = some (.cells #[.int .i64 fr, .int .i64 ev, .int .i64 ln] 23 (0, 0)) := by rw [← hw1]; exact alloc2_new _ _ _
      have hb1 : Below w.heap.size w w1 := by rw [← hw1]; exact ((Below.refl _ _).alloc (Nat.le_refl _) _).alloc (by simp) _
      rw [hw1]
      clear hw1
      have n1 : w1.cell? ⟨w.heap.size, 1, none⟩ = some (.string (ba nm)) := Lib.cell_of_heap hu1 1
      go_wp2_with fail
      clear n1
      have hyn := yname_any (ba nm) w1 (by rw [ba_size]; exact hn)
      rw [ba_list] at hyn
      refine hyn.mono ?_
      clear hyn
      rintro e w2 ⟨rfl, hb2⟩
      have hu2 := (hb2.block w.heap.size (Array.getElem?_eq_some_iff.1 hu1).1).trans hu1
      have ht2 := (hb2.block (w.heap.size + 1) (Array.getElem?_eq_some_iff.1 ht1).1).trans ht1
      have HB2 := Lib.hid (hb1.trans (hb2.mono hb1.size))
      clear hb1 hb2 hu1 ht1
      have y0 : w2.cell? ⟨w.heap.size, 0, none⟩ = some (.int .i64 k) := Lib.cell_of_heap hu2 0
      have y2 : w2.cell? ⟨w.heap.size, 2, none⟩ = some (.int .i64 no) := Lib.cell_of_heap hu2 2
      have y3 : w2.cell? ⟨w.heap.size, 3, none⟩ = some (.int .i64 pos) := Lib.cell_of_heap hu2 3
      have y4 : w2.cell? ⟨w.heap.size, 4, none⟩ = some (.int .i64 by_) := Lib.cell_of_heap hu2 4
      have t0 : w2.cell? ⟨w.heap.size + 1, 0, none⟩ = some (.int .i64 fr) := Lib.cell_of_heap ht2 0
      have t1 : w2.cell? ⟨w.heap.size + 1, 1, none⟩ = some (.int .i64 ev) := Lib.cell_of_heap ht2 1
      have t2 : w2.cell? ⟨w.heap.size + 1, 2, none⟩ = some (.int .i64 ln) := Lib.cell_of_heap ht2 2
      clear hu2 ht2
      go_wp2_with (go_at_call 28; refine (yin_any _ _ _).mono ?_; rintro e w' ⟨rfl, rfl⟩)
      go_ret
      exact ⟨rfl, HB2.out⟩
end Go.Proofs.YtlclkeihkkpdbaaGreatDoor
