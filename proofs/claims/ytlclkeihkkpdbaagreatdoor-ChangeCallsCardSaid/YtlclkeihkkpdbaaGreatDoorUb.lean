/- The walks of change.in, change.bare, change.Check. -/
import Derived.Test.YtlclkeihkkpdbaaGreatDoorUa
import Derived.Test.YtlclkeihkkpdbaaGreatDoorLx
import Derived.Test.YtlclkeihkkpdbaaGreatDoorLd
namespace Go.Proofs.YtlclkeihkkpdbaaGreatDoor
open Go.RowKit
set_option maxHeartbeats 1000000 in
theorem in_any (n low : Int) (w : World) : Calls Tryz.prog 44 #[.int .i64 n, .int .i64 low] w fun e w' => e = .returned (.bool (inD n low)) ∧ w = w' := by
  by_cases h1 : low ≤ n
  · by_cases h2 : n ≤ 1099511627776
    · rw [show inD n low = true from decide_eq_true ⟨h1, h2⟩]
      go_enter Tryz.func44, Tryz.ntmps44
      go_wp2_with fail
      go_ret
      exact ⟨rfl, rfl⟩
    · rw [show inD n low = false from decide_eq_false fun h => h2 h.2]
      go_enter Tryz.func44, Tryz.ntmps44
      go_wp2_with fail
      go_ret
      exact ⟨rfl, rfl⟩
  · rw [show inD n low = false from decide_eq_false fun h => h1 h.1]
    go_enter Tryz.func44, Tryz.ntmps44
    go_wp2_with fail
    go_ret
    exact ⟨rfl, rfl⟩
theorem results_ct {P : Program} {fn : Func} {q p : Tmp} {ty : TypeId} (h : fn.results = #[.cell p ty, .tmp q]) (tmps : Array Value) (w : World) (g : Nat) (t : TypeId) (cs : Array Value) (fr : Nat × Nat) (d : TypeDesc)
    (hp : tmps.getD p undef = .pointer (some ⟨g, 0, none⟩)) (hg : w.heap[g]? = some (.cells cs t fr))
    (hu : P.underlying ty = some d) (hd : (match d with | .struct _ | .array _ _ => true | _ => false) = true) (hi : (P.info? ty).map (·.size) = some cs.size) :
    (results fn tmps).run P w = .ok (.tuple #[.agg cs, tmps.getD q undef]) w := by
  have hp' : tmps[p]?.getD undef = .pointer (some ⟨g, 0, none⟩) := by simpa using hp
  simp [results, h, hp', asAddr, run_loadVar_row w g t ty cs fr d hg hu hd hi]
theorem results_cc {P : Program} {fn : Func} {p q : Tmp} {ty ty2 : TypeId} (h : fn.results = #[.cell p ty, .cell q ty2]) (tmps : Array Value) (w : World) (g g2 : Nat) (t t2 : TypeId) (cs cs2 : Array Value) (fr fr2 : Nat × Nat) (d d2 : TypeDesc)
    (hp : tmps.getD p undef = .pointer (some ⟨g, 0, none⟩)) (hg : w.heap[g]? = some (.cells cs t fr)) (hu : P.underlying ty = some d) (hd : (match d with | .struct _ | .array _ _ => true | _ => false) = true) (hi : (P.info? ty).map (·.size) = some cs.size)
    (hp2 : tmps.getD q undef = .pointer (some ⟨g2, 0, none⟩)) (hg2 : w.heap[g2]? = some (.cells cs2 t2 fr2)) (hu2 : P.underlying ty2 = some d2) (hd2 : (match d2 with | .struct _ | .array _ _ => true | _ => false) = true) (hi2 : (P.info? ty2).map (·.size) = some cs2.size) :
    (results fn tmps).run P w = .ok (.tuple #[.agg cs, .agg cs2]) w := by
  have hp' : tmps[p]?.getD undef = .pointer (some ⟨g, 0, none⟩) := by simpa using hp
  have hq' : tmps[q]?.getD undef = .pointer (some ⟨g2, 0, none⟩) := by simpa using hp2
  simp [results, h, hp', hq', asAddr, run_loadVar_row w g t ty cs fr d hg hu hd hi, run_loadVar_row w g2 t2 ty2 cs2 fr2 d2 hg2 hu2 hd2 hi2]
theorem alloc2_new (w : World) (o1 o2 : Obj) : ((w.alloc o1).alloc o2).heap[w.heap.size + 1]? = some o2 := by
  have h := heap_alloc_new (w.alloc o1) o2
  have e : (w.alloc o1).heap.size = w.heap.size + 1 := by simp
  rw [e] at h; exact h
set_option maxHeartbeats 4000000 in
set_option maxRecDepth 100000 in
theorem bare_any (k : Int) (nm : List UInt8) (no pos by_ fr ev ln : Int) (w : World) : Calls Tryz.prog 25 #[.agg #[.int .i64 k, .string (ba nm), .int .i64 no, .int .i64 pos, .int .i64 by_, .int .i64 fr, .int .i64 ev, .int .i64 ln]] w fun e w' =>
    e = .returned (.tuple #[.agg (upc (bareD ⟨k, nm, no, pos, by_, fr, ev, ln⟩).1).toArray, .bool (bareD ⟨k, nm, no, pos, by_, fr, ev, ln⟩).2]) ∧ Below w.heap.size w w' := by
  by_cases h1 : k = 1
  · subst h1
    have hD : bareD ⟨1, nm, no, pos, by_, fr, ev, ln⟩ = (⟨1, nm, 0, 0, 0, fr, ev, ln⟩, (inD pos 0 && inD by_ 1) && inD no 0) := by unfold bareD; rw [if_pos rfl]
    rw [hD]
    clear hD
    cases i1 : inD pos 0
    · skip
      go_enter Tryz.func25, Tryz.ntmps25
      go_wp2_with (go_at_call 44; refine (in_any _ _ _).mono ?_; rintro e w' ⟨rfl, rfl⟩)
      refine bodyPost_ret (results_ct rfl _ _ (w.heap.size + 1) _ _ (0, 0) _ rfl (alloc2_new _ _ _) Tryz.underlying25 rfl (by kernel_rfl)) rfl ⟨rfl, ((Below.refl _ _).alloc (Nat.le_refl _) _).alloc (by simp) _⟩
    · cases i2 : inD by_ 1
      · skip
        go_enter Tryz.func25, Tryz.ntmps25
        go_wp2_with (go_at_call 44; refine (in_any _ _ _).mono ?_; rintro e w' ⟨rfl, rfl⟩)
        refine bodyPost_ret (results_ct rfl _ _ (w.heap.size + 1) _ _ (0, 0) _ rfl (alloc2_new _ _ _) Tryz.underlying25 rfl (by kernel_rfl)) rfl ⟨rfl, ((Below.refl _ _).alloc (Nat.le_refl _) _).alloc (by simp) _⟩
      · skip
        go_enter Tryz.func25, Tryz.ntmps25
        go_wp2_with (go_at_call 44; refine (in_any _ _ _).mono ?_; rintro e w' ⟨rfl, rfl⟩)
        refine bodyPost_ret (results_ct rfl _ _ (w.heap.size + 1) _ _ (0, 0) _ rfl (alloc2_new _ _ _) Tryz.underlying25 rfl (by kernel_rfl)) rfl ⟨rfl, ((Below.refl _ _).alloc (Nat.le_refl _) _).alloc (by simp) _⟩
  by_cases h2 : k = 2
  · subst h2
    have hD : bareD ⟨2, nm, no, pos, by_, fr, ev, ln⟩ = (⟨2, nm, 0, pos, by_, fr, ev, ln⟩, inD no 0) := by unfold bareD; rw [if_neg h1, if_pos (.inl rfl)]
    rw [hD]
    clear hD h1
    go_enter Tryz.func25, Tryz.ntmps25
    go_wp2_with (go_at_call 44; refine (in_any _ _ _).mono ?_; rintro e w' ⟨rfl, rfl⟩)
    refine bodyPost_ret (results_ct rfl _ _ (w.heap.size + 1) _ _ (0, 0) _ rfl (alloc2_new _ _ _) Tryz.underlying25 rfl (by kernel_rfl)) rfl ⟨rfl, ((Below.refl _ _).alloc (Nat.le_refl _) _).alloc (by simp) _⟩
  by_cases h3 : k = 3
  · subst h3
    have hD : bareD ⟨3, nm, no, pos, by_, fr, ev, ln⟩ = (⟨3, nm, 0, pos, by_, fr, ev, ln⟩, inD no 0) := by unfold bareD; rw [if_neg h1, if_pos (.inr rfl)]
    rw [hD]
    clear hD h1 h2
    go_enter Tryz.func25, Tryz.ntmps25
    go_wp2_with (go_at_call 44; refine (in_any _ _ _).mono ?_; rintro e w' ⟨rfl, rfl⟩)
    refine bodyPost_ret (results_ct rfl _ _ (w.heap.size + 1) _ _ (0, 0) _ rfl (alloc2_new _ _ _) Tryz.underlying25 rfl (by kernel_rfl)) rfl ⟨rfl, ((Below.refl _ _).alloc (Nat.le_refl _) _).alloc (by simp) _⟩
  by_cases h4 : k = 4
  · subst h4
    have hD : bareD ⟨4, nm, no, pos, by_, fr, ev, ln⟩ = (⟨4, nm, no, pos, by_, 0, 0, 0⟩, inD fr 0 && inD ev 0 && inD ln 0) := by unfold bareD; rw [if_neg h1, if_neg (by show ¬ ((4 : Int) = 2 ∨ (4 : Int) = 3); decide), if_pos (.inl rfl)]
    rw [hD]
    clear hD h1 h2 h3
    cases i1 : inD fr 0
    · skip
      go_enter Tryz.func25, Tryz.ntmps25
      go_wp2_with (go_at_call 44; refine (in_any _ _ _).mono ?_; rintro e w' ⟨rfl, rfl⟩)
      refine bodyPost_ret (results_ct rfl _ _ (w.heap.size + 1) _ _ (0, 0) _ rfl (alloc2_new _ _ _) Tryz.underlying25 rfl (by kernel_rfl)) rfl ⟨rfl, ((Below.refl _ _).alloc (Nat.le_refl _) _).alloc (by simp) _⟩
    · cases i2 : inD ev 0
      · skip
        go_enter Tryz.func25, Tryz.ntmps25
        go_wp2_with (go_at_call 44; refine (in_any _ _ _).mono ?_; rintro e w' ⟨rfl, rfl⟩)
        refine bodyPost_ret (results_ct rfl _ _ (w.heap.size + 1) _ _ (0, 0) _ rfl (alloc2_new _ _ _) Tryz.underlying25 rfl (by kernel_rfl)) rfl ⟨rfl, ((Below.refl _ _).alloc (Nat.le_refl _) _).alloc (by simp) _⟩
      · skip
        go_enter Tryz.func25, Tryz.ntmps25
        go_wp2_with (go_at_call 44; refine (in_any _ _ _).mono ?_; rintro e w' ⟨rfl, rfl⟩)
        refine bodyPost_ret (results_ct rfl _ _ (w.heap.size + 1) _ _ (0, 0) _ rfl (alloc2_new _ _ _) Tryz.underlying25 rfl (by kernel_rfl)) rfl ⟨rfl, ((Below.refl _ _).alloc (Nat.le_refl _) _).alloc (by simp) _⟩
  by_cases h5 : k = 5
  · subst h5
    have hD : bareD ⟨5, nm, no, pos, by_, fr, ev, ln⟩ = (⟨5, nm, no, pos, by_, 0, 0, 0⟩, inD fr 0 && inD ev 0 && inD ln 0) := by unfold bareD; rw [if_neg h1, if_neg (by show ¬ ((5 : Int) = 2 ∨ (5 : Int) = 3); decide), if_pos (.inr rfl)]
    rw [hD]
    clear hD h1 h2 h3 h4
    cases i1 : inD fr 0
    · skip
      go_enter Tryz.func25, Tryz.ntmps25
      go_wp2_with (go_at_call 44; refine (in_any _ _ _).mono ?_; rintro e w' ⟨rfl, rfl⟩)
      refine bodyPost_ret (results_ct rfl _ _ (w.heap.size + 1) _ _ (0, 0) _ rfl (alloc2_new _ _ _) Tryz.underlying25 rfl (by kernel_rfl)) rfl ⟨rfl, ((Below.refl _ _).alloc (Nat.le_refl _) _).alloc (by simp) _⟩
    · cases i2 : inD ev 0
      · skip
        go_enter Tryz.func25, Tryz.ntmps25
        go_wp2_with (go_at_call 44; refine (in_any _ _ _).mono ?_; rintro e w' ⟨rfl, rfl⟩)
        refine bodyPost_ret (results_ct rfl _ _ (w.heap.size + 1) _ _ (0, 0) _ rfl (alloc2_new _ _ _) Tryz.underlying25 rfl (by kernel_rfl)) rfl ⟨rfl, ((Below.refl _ _).alloc (Nat.le_refl _) _).alloc (by simp) _⟩
      · skip
        go_enter Tryz.func25, Tryz.ntmps25
        go_wp2_with (go_at_call 44; refine (in_any _ _ _).mono ?_; rintro e w' ⟨rfl, rfl⟩)
        refine bodyPost_ret (results_ct rfl _ _ (w.heap.size + 1) _ _ (0, 0) _ rfl (alloc2_new _ _ _) Tryz.underlying25 rfl (by kernel_rfl)) rfl ⟨rfl, ((Below.refl _ _).alloc (Nat.le_refl _) _).alloc (by simp) _⟩
  have hD : bareD ⟨k, nm, no, pos, by_, fr, ev, ln⟩ = (⟨k, nm, no, pos, by_, fr, ev, ln⟩, false) := by unfold bareD; rw [if_neg h1, if_neg (by rintro (h | h); exact h2 h; exact h3 h), if_neg (by rintro (h | h); exact h4 h; exact h5 h)]
  have k1 : (k == 1) = false := beq_eq_false_iff_ne.2 h1
  have k2 : (k == 2) = false := beq_eq_false_iff_ne.2 h2
  have k3 : (k == 3) = false := beq_eq_false_iff_ne.2 h3
  have k4 : (k == 4) = false := beq_eq_false_iff_ne.2 h4
  have k5 : (k == 5) = false := beq_eq_false_iff_ne.2 h5
  rw [hD]
  clear hD h1 h2 h3 h4 h5
  go_enter Tryz.func25, Tryz.ntmps25
  go_wp2_with (go_at_call 44; refine (in_any _ _ _).mono ?_; rintro e w' ⟨rfl, rfl⟩)
  refine bodyPost_ret (results_ct rfl _ _ (w.heap.size + 1) _ _ (0, 0) _ rfl (alloc2_new _ _ _) Tryz.underlying25 rfl (by kernel_rfl)) rfl ⟨rfl, ((Below.refl _ _).alloc (Nat.le_refl _) _).alloc (by simp) _⟩
theorem upd_neq (a b : UpD) (W : World) : (Go.binOp BinOp.neq 25 (.agg #[.int .i64 a.kind, .string (ba a.name), .int .i64 a.no, .int .i64 a.pos, .int .i64 a.by_, .int .i64 a.from_, .int .i64 a.every, .int .i64 a.len]) (.agg #[.int .i64 b.kind, .string (ba b.name), .int .i64 b.no, .int .i64 b.pos, .int .i64 b.by_, .int .i64 b.from_, .int .i64 b.every, .int .i64 b.len])).run Tryz.prog W = .ok (.bool (!decide (a = b))) W := by
  obtain ⟨a1, a2, a3, a4, a5, a6, a7, a8⟩ := a
  obtain ⟨b1, b2, b3, b4, b5, b6, b7, b8⟩ := b
  rw [show decide (UpD.mk a1 a2 a3 a4 a5 a6 a7 a8 = UpD.mk b1 b2 b3 b4 b5 b6 b7 b8) = ((a1 == b1) && ((a2 == b2) && ((a3 == b3) && ((a4 == b4) && ((a5 == b5) && ((a6 == b6) && ((a7 == b7) && (a8 == b8)))))))) by
    rw [Bool.eq_iff_iff]; simp]
  go_simp
  rw [ba_toList, ba_toList]
  by_cases h1 : a1 = b1 <;> by_cases h2 : a2 = b2 <;> by_cases h3 : a3 = b3 <;> by_cases h4 : a4 = b4 <;> by_cases h5 : a5 = b5 <;> by_cases h6 : a6 = b6 <;> by_cases h7 : a7 = b7 <;> by_cases h8 : a8 = b8 <;> simp [h1, h2, h3, h4, h5, h6, h7, h8]
set_option maxHeartbeats 4000000 in
set_option maxRecDepth 100000 in
theorem ucheck_any (k : Int) (nm : List UInt8) (no pos by_ fr ev ln : Int) (w : World) (hn : nm.length ≤ maxLen) (hT : Tabs w) : Calls Tryz.prog 12 #[.agg #[.int .i64 k, .string (ba nm), .int .i64 no, .int .i64 pos, .int .i64 by_, .int .i64 fr, .int .i64 ev, .int .i64 ln]] w fun e w' =>
    e = .returned (.int .i64 (checkU ⟨k, nm, no, pos, by_, fr, ev, ln⟩)) ∧ Below w.heap.size w w' := by
  have HT := Lib.hid hT
  have hU : checkU ⟨k, nm, no, pos, by_, fr, ev, ln⟩ = if (bareD ⟨k, nm, no, pos, by_, fr, ev, ln⟩).2 = true ∧ Nm.name nm = true ∧ (bareD ⟨k, nm, no, pos, by_, fr, ev, ln⟩).1 = ⟨k, nm, 0, 0, 0, 0, 0, 0⟩ then 0 else 2 := rfl
  rw [hU]
  clear hT hU
  obtain ⟨⟨r, ok⟩, hbd⟩ : ∃ x, bareD ⟨k, nm, no, pos, by_, fr, ev, ln⟩ = x := ⟨_, rfl⟩
  rw [hbd]
  dsimp only
  cases ok
  · rw [if_neg (by simp)]
    go_enter Tryz.func12, Tryz.ntmps12
    go_wp2_with fail
    refine (bare_any _ _ _ _ _ _ _ _ _).mono ?_
    rintro e w1 ⟨rfl, hb1⟩
    rw [hbd]
    dsimp only [upc]
    have hbw : Below w.heap.size w w1 := ((Below.refl _ _).alloc (Nat.le_refl _) _).trans (hb1.mono (by simp))
    have hu1 := (hb1.block w.heap.size (by simp)).trans (heap_alloc_new _ _)
    obtain ⟨wA, hwA⟩ : ∃ wA, w1.alloc (.cells #[.int .i64 r.kind, .string (ba r.name), .int .i64 r.no, .int .i64 r.pos, .int .i64 r.by_, .int .i64 r.from_, .int .i64 r.every, .int .i64 r.len] 25) = wA := ⟨_, rfl⟩
    have hu2 := (show wA.heap[w.heap.size]? = w1.heap[w.heap.size]? by rw [← hwA]; exact heap_alloc_old _ _ (Array.getElem?_eq_some_iff.1 hu1).1).trans hu1
    have hr2 : wA.heap[w1.heap.size]? = some (.cells #[.int .i64 r.kind, .string (ba r.name), .int .i64 r.no, .int .i64 r.pos, .int .i64 r.by_, .int .i64 r.from_, .int .i64 r.every, .int .i64 r.len] 25 (0, 0)) := by rw [← hwA]; exact heap_alloc_new _ _
    have HB1 := Lib.hid (show Below w.heap.size w wA by rw [← hwA]; exact hbw.alloc hbw.size _)
    have HU2 := Lib.hid hu2
    have HR2 := Lib.hid hr2
    have c0 : wA.cell? ⟨w.heap.size, 0, none⟩ = some (.int .i64 k) := Lib.cell_of_heap hu2 0
    have c1 : wA.cell? ⟨w.heap.size, 1, none⟩ = some (.string (ba nm)) := Lib.cell_of_heap hu2 1
    clear hb1 hbd hu1 hu2 hr2 hbw
    go_wp2_with fail
    go_ret
    exact ⟨rfl, HB1.out⟩
  · cases hnm : Nm.name nm
    · rw [if_neg (by simp)]
      go_enter Tryz.func12, Tryz.ntmps12
      go_wp2_with fail
      refine (bare_any _ _ _ _ _ _ _ _ _).mono ?_
      rintro e w1 ⟨rfl, hb1⟩
      rw [hbd]
      dsimp only [upc]
      have hbw : Below w.heap.size w w1 := ((Below.refl _ _).alloc (Nat.le_refl _) _).trans (hb1.mono (by simp))
      have hu1 := (hb1.block w.heap.size (by simp)).trans (heap_alloc_new _ _)
      obtain ⟨wA, hwA⟩ : ∃ wA, w1.alloc (.cells #[.int .i64 r.kind, .string (ba r.name), .int .i64 r.no, .int .i64 r.pos, .int .i64 r.by_, .int .i64 r.from_, .int .i64 r.every, .int .i64 r.len] 25) = wA := ⟨_, rfl⟩
      have hu2 := (show wA.heap[w.heap.size]? = w1.heap[w.heap.size]? by rw [← hwA]; exact heap_alloc_old _ _ (Array.getElem?_eq_some_iff.1 hu1).1).trans hu1
      have hr2 : wA.heap[w1.heap.size]? = some (.cells #[.int .i64 r.kind, .string (ba r.name), .int .i64 r.no, .int .i64 r.pos, .int .i64 r.by_, .int .i64 r.from_, .int .i64 r.every, .int .i64 r.len] 25 (0, 0)) := by rw [← hwA]; exact heap_alloc_new _ _
      have HB1 := Lib.hid (show Below w.heap.size w wA by rw [← hwA]; exact hbw.alloc hbw.size _)
      have HU2 := Lib.hid hu2
      have HR2 := Lib.hid hr2
      have c0 : wA.cell? ⟨w.heap.size, 0, none⟩ = some (.int .i64 k) := Lib.cell_of_heap hu2 0
      have c1 : wA.cell? ⟨w.heap.size, 1, none⟩ = some (.string (ba nm)) := Lib.cell_of_heap hu2 1
      clear hb1 hbd hu1 hu2 hr2 hbw
      go_wp2_with fail
      refine (lname_any (ba nm) wA (by rw [ba_size]; exact hn) (HT.out.below HB1.out)).mono ?_
      rintro e w2 ⟨rfl, hb2⟩
      rw [ba_list, hnm]
      have HB2 := Lib.hid (HB1.out.trans (hb2.mono HB1.out.size))
      have hu3 := (hb2.block w.heap.size (Array.getElem?_eq_some_iff.1 HU2.out).1).trans HU2.out
      have hr3 := (hb2.block w1.heap.size (Array.getElem?_eq_some_iff.1 HR2.out).1).trans HR2.out
      have d0 : w2.cell? ⟨w.heap.size, 0, none⟩ = some (.int .i64 k) := Lib.cell_of_heap hu3 0
      have d1 : w2.cell? ⟨w.heap.size, 1, none⟩ = some (.string (ba nm)) := Lib.cell_of_heap hu3 1
      have r0 : w2.cell? ⟨w1.heap.size, 0, none⟩ = some (.int .i64 r.kind) := Lib.cell_of_heap hr3 0
      have r1 : w2.cell? ⟨w1.heap.size, 1, none⟩ = some (.string (ba r.name)) := Lib.cell_of_heap hr3 1
      have r2 : w2.cell? ⟨w1.heap.size, 2, none⟩ = some (.int .i64 r.no) := Lib.cell_of_heap hr3 2
      have r3 : w2.cell? ⟨w1.heap.size, 3, none⟩ = some (.int .i64 r.pos) := Lib.cell_of_heap hr3 3
      have r4 : w2.cell? ⟨w1.heap.size, 4, none⟩ = some (.int .i64 r.by_) := Lib.cell_of_heap hr3 4
      have r5 : w2.cell? ⟨w1.heap.size, 5, none⟩ = some (.int .i64 r.from_) := Lib.cell_of_heap hr3 5
      have r6 : w2.cell? ⟨w1.heap.size, 6, none⟩ = some (.int .i64 r.every) := Lib.cell_of_heap hr3 6
      have r7 : w2.cell? ⟨w1.heap.size, 7, none⟩ = some (.int .i64 r.len) := Lib.cell_of_heap hr3 7
      clear hb2 hu3 hr3 c0 c1 hwA
      go_wp2_with fail
      go_ret
      exact ⟨rfl, HB2.out⟩
    · by_cases hr : r = ⟨k, nm, 0, 0, 0, 0, 0, 0⟩
      · have hneq := upd_neq r ⟨k, nm, 0, 0, 0, 0, 0, 0⟩
        rw [decide_eq_true hr] at hneq
        rw [if_pos ⟨rfl, rfl, hr⟩]
        clear hr
        go_enter Tryz.func12, Tryz.ntmps12
        go_wp2_with fail
        refine (bare_any _ _ _ _ _ _ _ _ _).mono ?_
        rintro e w1 ⟨rfl, hb1⟩
        rw [hbd]
        dsimp only [upc]
        have hbw : Below w.heap.size w w1 := ((Below.refl _ _).alloc (Nat.le_refl _) _).trans (hb1.mono (by simp))
        have hu1 := (hb1.block w.heap.size (by simp)).trans (heap_alloc_new _ _)
        obtain ⟨wA, hwA⟩ : ∃ wA, w1.alloc (.cells #[.int .i64 r.kind, .string (ba r.name), .int .i64 r.no, .int .i64 r.pos, .int .i64 r.by_, .int .i64 r.from_, .int .i64 r.every, .int .i64 r.len] 25) = wA := ⟨_, rfl⟩
        have hu2 := (show wA.heap[w.heap.size]? = w1.heap[w.heap.size]? by rw [← hwA]; exact heap_alloc_old _ _ (Array.getElem?_eq_some_iff.1 hu1).1).trans hu1
        have hr2 : wA.heap[w1.heap.size]? = some (.cells #[.int .i64 r.kind, .string (ba r.name), .int .i64 r.no, .int .i64 r.pos, .int .i64 r.by_, .int .i64 r.from_, .int .i64 r.every, .int .i64 r.len] 25 (0, 0)) := by rw [← hwA]; exact heap_alloc_new _ _
        have HB1 := Lib.hid (show Below w.heap.size w wA by rw [← hwA]; exact hbw.alloc hbw.size _)
        have HU2 := Lib.hid hu2
        have HR2 := Lib.hid hr2
        have c0 : wA.cell? ⟨w.heap.size, 0, none⟩ = some (.int .i64 k) := Lib.cell_of_heap hu2 0
        have c1 : wA.cell? ⟨w.heap.size, 1, none⟩ = some (.string (ba nm)) := Lib.cell_of_heap hu2 1
        clear hb1 hbd hu1 hu2 hr2 hbw
        go_wp2_with fail
        refine (lname_any (ba nm) wA (by rw [ba_size]; exact hn) (HT.out.below HB1.out)).mono ?_
        rintro e w2 ⟨rfl, hb2⟩
        rw [ba_list, hnm]
        have HB2 := Lib.hid (HB1.out.trans (hb2.mono HB1.out.size))
        have hu3 := (hb2.block w.heap.size (Array.getElem?_eq_some_iff.1 HU2.out).1).trans HU2.out
        have hr3 := (hb2.block w1.heap.size (Array.getElem?_eq_some_iff.1 HR2.out).1).trans HR2.out
        have d0 : w2.cell? ⟨w.heap.size, 0, none⟩ = some (.int .i64 k) := Lib.cell_of_heap hu3 0
        have d1 : w2.cell? ⟨w.heap.size, 1, none⟩ = some (.string (ba nm)) := Lib.cell_of_heap hu3 1
        have r0 : w2.cell? ⟨w1.heap.size, 0, none⟩ = some (.int .i64 r.kind) := Lib.cell_of_heap hr3 0
        have r1 : w2.cell? ⟨w1.heap.size, 1, none⟩ = some (.string (ba r.name)) := Lib.cell_of_heap hr3 1
        have r2 : w2.cell? ⟨w1.heap.size, 2, none⟩ = some (.int .i64 r.no) := Lib.cell_of_heap hr3 2
        have r3 : w2.cell? ⟨w1.heap.size, 3, none⟩ = some (.int .i64 r.pos) := Lib.cell_of_heap hr3 3
        have r4 : w2.cell? ⟨w1.heap.size, 4, none⟩ = some (.int .i64 r.by_) := Lib.cell_of_heap hr3 4
        have r5 : w2.cell? ⟨w1.heap.size, 5, none⟩ = some (.int .i64 r.from_) := Lib.cell_of_heap hr3 5
        have r6 : w2.cell? ⟨w1.heap.size, 6, none⟩ = some (.int .i64 r.every) := Lib.cell_of_heap hr3 6
        have r7 : w2.cell? ⟨w1.heap.size, 7, none⟩ = some (.int .i64 r.len) := Lib.cell_of_heap hr3 7
        clear hb2 hu3 hr3 c0 c1 hwA
        go_wp2_with fail
        go_ret
        exact ⟨rfl, HB2.out⟩
      · have hneq := upd_neq r ⟨k, nm, 0, 0, 0, 0, 0, 0⟩
        rw [decide_eq_false hr] at hneq
        rw [if_neg (fun h => hr h.2.2)]
        clear hr
        go_enter Tryz.func12, Tryz.ntmps12
        go_wp2_with fail
        refine (bare_any _ _ _ _ _ _ _ _ _).mono ?_
        rintro e w1 ⟨rfl, hb1⟩
        rw [hbd]
        dsimp only [upc]
        have hbw : Below w.heap.size w w1 := ((Below.refl _ _).alloc (Nat.le_refl _) _).trans (hb1.mono (by simp))
        have hu1 := (hb1.block w.heap.size (by simp)).trans (heap_alloc_new _ _)
        obtain ⟨wA, hwA⟩ : ∃ wA, w1.alloc (.cells #[.int .i64 r.kind, .string (ba r.name), .int .i64 r.no, .int .i64 r.pos, .int .i64 r.by_, .int .i64 r.from_, .int .i64 r.every, .int .i64 r.len] 25) = wA := ⟨_, rfl⟩
        have hu2 := (show wA.heap[w.heap.size]? = w1.heap[w.heap.size]? by rw [← hwA]; exact heap_alloc_old _ _ (Array.getElem?_eq_some_iff.1 hu1).1).trans hu1
        have hr2 : wA.heap[w1.heap.size]? = some (.cells #[.int .i64 r.kind, .string (ba r.name), .int .i64 r.no, .int .i64 r.pos, .int .i64 r.by_, .int .i64 r.from_, .int .i64 r.every, .int .i64 r.len] 25 (0, 0)) := by rw [← hwA]; exact heap_alloc_new _ _
        have HB1 := Lib.hid (show Below w.heap.size w wA by rw [← hwA]; exact hbw.alloc hbw.size _)
        have HU2 := Lib.hid hu2
        have HR2 := Lib.hid hr2
        have c0 : wA.cell? ⟨w.heap.size, 0, none⟩ = some (.int .i64 k) := Lib.cell_of_heap hu2 0
        have c1 : wA.cell? ⟨w.heap.size, 1, none⟩ = some (.string (ba nm)) := Lib.cell_of_heap hu2 1
        clear hb1 hbd hu1 hu2 hr2 hbw
        go_wp2_with fail
        refine (lname_any (ba nm) wA (by rw [ba_size]; exact hn) (HT.out.below HB1.out)).mono ?_
        rintro e w2 ⟨rfl, hb2⟩
        rw [ba_list, hnm]
        have HB2 := Lib.hid (HB1.out.trans (hb2.mono HB1.out.size))
        have hu3 := (hb2.block w.heap.size (Array.getElem?_eq_some_iff.1 HU2.out).1).trans HU2.out
        have hr3 := (hb2.block w1.heap.size (Array.getElem?_eq_some_iff.1 HR2.out).1).trans HR2.out
        have d0 : w2.cell? ⟨w.heap.size, 0, none⟩ = some (.int .i64 k) := Lib.cell_of_heap hu3 0
        have d1 : w2.cell? ⟨w.heap.size, 1, none⟩ = some (.string (ba nm)) := Lib.cell_of_heap hu3 1
        have r0 : w2.cell? ⟨w1.heap.size, 0, none⟩ = some (.int .i64 r.kind) := Lib.cell_of_heap hr3 0
        have r1 : w2.cell? ⟨w1.heap.size, 1, none⟩ = some (.string (ba r.name)) := Lib.cell_of_heap hr3 1
        have r2 : w2.cell? ⟨w1.heap.size, 2, none⟩ = some (.int .i64 r.no) := Lib.cell_of_heap hr3 2
        have r3 : w2.cell? ⟨w1.heap.size, 3, none⟩ = some (.int .i64 r.pos) := Lib.cell_of_heap hr3 3
        have r4 : w2.cell? ⟨w1.heap.size, 4, none⟩ = some (.int .i64 r.by_) := Lib.cell_of_heap hr3 4
        have r5 : w2.cell? ⟨w1.heap.size, 5, none⟩ = some (.int .i64 r.from_) := Lib.cell_of_heap hr3 5
        have r6 : w2.cell? ⟨w1.heap.size, 6, none⟩ = some (.int .i64 r.every) := Lib.cell_of_heap hr3 6
        have r7 : w2.cell? ⟨w1.heap.size, 7, none⟩ = some (.int .i64 r.len) := Lib.cell_of_heap hr3 7
        clear hb2 hu3 hr3 c0 c1 hwA
        go_wp2_with fail
        go_ret
        exact ⟨rfl, HB2.out⟩
end Go.Proofs.YtlclkeihkkpdbaaGreatDoor
