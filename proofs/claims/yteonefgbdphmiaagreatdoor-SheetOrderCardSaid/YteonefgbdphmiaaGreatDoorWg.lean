/- Package sheet: Parse's deferred closure, at a frame that panics and at one that returns; Parse. -/
import Derived.Test.YteonefgbdphmiaaGreatDoorWf
import Derived.Test.YteonefgbdphmiaaGreatDoorPc
namespace Go.Proofs.YteonefgbdphmiaaGreatDoor
open Go.RowKit
/-- The two results' variables. -/
def ResAt (p q : Nat) (cs cf : Array Value) (w : World) : Prop :=
  w.heap[p]? = some (.cells cs 29 (0, 0)) ∧ w.heap[q]? = some (.cells cf 39 (0, 0))
/-- Nothing is turned but these two blocks, and what is new. -/
def Keep2 (p q : Nat) (w w' : World) : Prop := w.heap.size ≤ w'.heap.size ∧ (∀ k, k < w.heap.size → k ≠ p → k ≠ q → w'.heap[k]? = w.heap[k]?) ∧ ∀ B, B ≤ p → B ≤ q → Below B w w'
set_option maxHeartbeats 4000000 in
set_option maxRecDepth 100000 in
theorem catch_panic (p q : Nat) (hpq : p ≠ q) (s : Rd) (w : World) (h : ResAt p q #[.int .i64 0, .slice none 0 0, .slice none 0 0, .slice none 0 0, .slice none 0 0, .slice none 0 0, .slice none 0 0] #[.int .i64 0, .int .i64 0, .int .i64 0] w) :
    CallsD Tryz.prog 34 #[.pointer (some ⟨p, 0, none⟩), .pointer (some ⟨q, 0, none⟩)] (.panicking (give s)) w fun e u' w' =>
      e = .returned (.tuple #[]) ∧ u' = .panicking [{ v := .iface 75 (.agg #[.int .i64 s.e, .int .i64 s.ln, .int .i64 s.cl]), recovered := true }] ∧
      ResAt p q #[.int .i64 0, .slice none 0 0, .slice none 0 0, .slice none 0 0, .slice none 0 0, .slice none 0 0, .slice none 0 0] #[.int .i64 s.e, .int .i64 s.ln, .int .i64 s.cl] w' ∧ Keep2 p q w w' := by
  have HRS := Lib.hid h
  clear h
  refine callsD_of_wpS Tryz.func34 rfl fun c₀ cs hu => ?_
  apply wpS_seq
  apply wpS_region
  simp [wpOpsS, go_sem, recoverD, hu, Tryz.ntmps34, Exit.thenS, give]
  obtain ⟨V, hV⟩ : ∃ V, Value.iface 75 (.agg #[.int .i64 s.e, .int .i64 s.ln, .int .i64 s.cl]) = V := ⟨_, rfl⟩
  rw [hV]
  refine wpS_of_wp ?_
  change Code.wp _ _ _ { tmps := #[.pointer (some ⟨p, 0, none⟩), .pointer (some ⟨q, 0, none⟩), V, V, undef, undef, undef, undef, undef, undef], defers := [] } w
  subst hV
  have hta : ∀ W : World, (Instr.typeAssert (.iface 75 (.agg #[.int .i64 s.e, .int .i64 s.ln, .int .i64 s.cl])) 20 75 false).run Tryz.prog W = .ok (.agg #[.int .i64 s.e, .int .i64 s.ln, .int .i64 s.cl]) W := fun W => by as_aux_lemma => kernel_rfl
  have hfd : ∀ W : World, (Instr.field 75 (.agg #[.int .i64 s.e, .int .i64 s.ln, .int .i64 s.cl]) 0).run Tryz.prog W = .ok (.agg #[.int .i64 s.e, .int .i64 s.ln, .int .i64 s.cl]) W := fun W => by as_aux_lemma => kernel_rfl
  go_wp2_with fail
  refine wp_region_kinds (fun _ => True) [] [4, 5] [] [0, 1, 2, 3] [0, 1, 2, 3, 4, 5] (by kernel_rfl) (by kernel_rfl) (fun _ _ _ => trivial) ?_
  repeat (first | (refine wpKind_free (v := ?_) (by rfl) rfl (by rfl) ?_ ?_; rotate_left 1; (focus (intro wy; go_simp; try with_reducible rfl; done)); try simp only [Act.put, List.setIfInBounds_toArray, List.set_cons_zero, List.set_cons_succ]))
  refine wpKind_serial (by rfl) rfl (fun m1 => ?_)
  refine wpList_store_row rfl 29 _ _ rfl p #[.int .i64 0, .slice none 0 0, .slice none 0 0, .slice none 0 0, .slice none 0 0, .slice none 0 0, .slice none 0 0] rfl rfl 29 #[.int .i64 0, .slice none 0 0, .slice none 0 0, .slice none 0 0, .slice none 0 0, .slice none 0 0, .slice none 0 0] (show (w.drewN m1).heap[p]? = _ from HRS.out.1) (by kernel_rfl) rfl (by simp [Value.oneCell']) ?_
  have hp1 := setRow_heap (w.drewN m1) p _ #[.int .i64 0, .slice none 0 0, .slice none 0 0, .slice none 0 0, .slice none 0 0, .slice none 0 0, .slice none 0 0] _ _ HRS.out.1
  have ho1 : ∀ k, k ≠ p → ((w.drewN m1).setRow p #[.int .i64 0, .slice none 0 0, .slice none 0 0, .slice none 0 0, .slice none 0 0, .slice none 0 0, .slice none 0 0]).heap[k]? = w.heap[k]? := fun k hk => setRow_other (w.drewN m1) p k _ hk
  have hz1 : ((w.drewN m1).setRow p #[.int .i64 0, .slice none 0 0, .slice none 0 0, .slice none 0 0, .slice none 0 0, .slice none 0 0, .slice none 0 0]).heap.size = w.heap.size := by simp [World.setRow]
  have hB1 : ∀ B, B ≤ p → Below B w ((w.drewN m1).setRow p #[.int .i64 0, .slice none 0 0, .slice none 0 0, .slice none 0 0, .slice none 0 0, .slice none 0 0, .slice none 0 0]) := fun B hB => below_setRow (below_drewN (Below.refl _ _) m1) hB _
  obtain ⟨w1, hw1⟩ : ∃ w1, (w.drewN m1).setRow p #[.int .i64 0, .slice none 0 0, .slice none 0 0, .slice none 0 0, .slice none 0 0, .slice none 0 0, .slice none 0 0] = w1 := ⟨_, rfl⟩
  rw [hw1] at hp1 ho1 hz1 hB1
  try rw [hw1]
  clear hw1
  show wpKind _ _ _ _ _ _ _ _ _
  refine wpKind_serial (by rfl) rfl (fun m2 => ?_)
  have hq1 := (ho1 q (Ne.symm hpq)).trans HRS.out.2
  refine wpList_store_row rfl 39 _ _ rfl q #[.int .i64 s.e, .int .i64 s.ln, .int .i64 s.cl] rfl rfl 39 #[.int .i64 0, .int .i64 0, .int .i64 0] (show (w1.drewN m2).heap[q]? = _ from hq1) (by kernel_rfl) rfl (three_allQ _ _ _) ?_
  have hq2 := setRow_heap (w1.drewN m2) q _ #[.int .i64 s.e, .int .i64 s.ln, .int .i64 s.cl] _ _ hq1
  have ho2 : ∀ k, k ≠ q → ((w1.drewN m2).setRow q #[.int .i64 s.e, .int .i64 s.ln, .int .i64 s.cl]).heap[k]? = w1.heap[k]? := fun k hk => setRow_other (w1.drewN m2) q k _ hk
  have hz2 : ((w1.drewN m2).setRow q #[.int .i64 s.e, .int .i64 s.ln, .int .i64 s.cl]).heap.size = w1.heap.size := by simp [World.setRow]
  have hB2 : ∀ B, B ≤ p → B ≤ q → Below B w ((w1.drewN m2).setRow q #[.int .i64 s.e, .int .i64 s.ln, .int .i64 s.cl]) := fun B h1 h2 => below_setRow (below_drewN (hB1 B h1) m2) h2 _
  obtain ⟨w2, hw2⟩ : ∃ w2, (w1.drewN m2).setRow q #[.int .i64 s.e, .int .i64 s.ln, .int .i64 s.cl] = w2 := ⟨_, rfl⟩
  rw [hw2] at hq2 ho2 hz2 hB2
  try rw [hw2]
  clear hw2
  show wpKind _ _ _ _ _ _ _ _ _
  refine wpKind_nil fun m3 => ?_
  have HH := Lib.hid (show ResAt p q #[.int .i64 0, .slice none 0 0, .slice none 0 0, .slice none 0 0, .slice none 0 0, .slice none 0 0, .slice none 0 0] #[.int .i64 s.e, .int .i64 s.ln, .int .i64 s.cl] (w2.drewN m3) ∧ Keep2 p q w (w2.drewN m3) from
    ⟨⟨(ho2 p hpq).trans hp1, hq2⟩, by show w.heap.size ≤ w2.heap.size; omega, fun k hk h1 h2 => (ho2 k h2).trans (ho1 k h1), fun B h1 h2 => below_drewN (hB2 B h1 h2) m3⟩)
  clear hp1 ho1 hz1 hB1 hq1 hq2 ho2 hz2 hB2
  exact ⟨rfl, _, rfl, .tuple #[], results_none rfl _ _ _, rfl, rfl, HH.out⟩
theorem catch_idle (p q : Nat) (w : World) :
    CallsD Tryz.prog 34 #[.pointer (some ⟨p, 0, none⟩), .pointer (some ⟨q, 0, none⟩)] .returning w fun e u' w' => e = .returned (.tuple #[]) ∧ u' = .returning ∧ w' = w := by
  refine callsD_of_wpS Tryz.func34 rfl fun c₀ cs hu => ?_
  apply wpS_seq
  apply wpS_region
  simp [wpOpsS, go_sem, recoverD, hu, Tryz.ntmps34, Exit.thenS]
  refine wpS_of_wp ?_
  change Code.wp _ _ _ { tmps := #[.pointer (some ⟨p, 0, none⟩), .pointer (some ⟨q, 0, none⟩), .nilIface, .nilIface, undef, undef, undef, undef, undef, undef], defers := [] } w
  have hni : ∀ W : World, (Go.binOp BinOp.neq 20 .nilIface .nilIface).run Tryz.prog W = .ok (.bool false) W := fun W => by as_aux_lemma => kernel_rfl
  go_wp2_with fail
  refine ⟨rfl, c₀.mode, ?_, .tuple #[], results_none rfl _ _ _, rfl, hu, rfl⟩
  cases c₀
  rfl
theorem Sl.of_ow {L : List TokD} {v : Value} {w : World} {B : Nat} (h : Ow tkc 5 w B 101 v L) {b : Nat} (hb : w.heap.size ≤ b) : Sl tkc 5 w v L (fun k => k < b) := by
  obtain ⟨A, cap, e, h1, h2, h3⟩ := h.sl tkc_len
  exact ⟨A, cap, e, h1, h2, fun hn => by obtain ⟨c, off, ea, hlt, hP, hc⟩ := h3 hn; exact ⟨c, off, ea, hlt, Nat.lt_of_lt_of_le hlt hb, hc⟩⟩
theorem tok_bound (s : ByteArray) : (allD s).1.length ≤ 1048576 := by
  by_cases hs : s.size ≤ 65536
  · have := tok_count s; omega
  · unfold allD
    rw [if_pos (by omega)]
    exact Nat.zero_le _
theorem ends_any (s : ByteArray) (h : (allD s).2.err = 0) : EndsE (allD s).1 := by
  by_cases hs : s.size ≤ 65536
  · exact ((places s hs).2 h).2
  · unfold allD at h
    rw [if_pos (by omega)] at h
    cases h
theorem all_any (s : ByteArray) (w : World) (hT : Tabs w) (hL : LibOk w) :
    Calls Tryz.prog 33 #[.string s] w fun r w' => ∃ v, r = .returned (.tuple #[v, (allD s).2.v]) ∧ Ow tkc 5 w' w.heap.size 101 v (allD s).1 ∧ Below w.heap.size w w' := by
  by_cases hs : s.size ≤ 65536
  · exact all_ok s w hs hT hL
  · refine (all_big s w hs).mono ?_
    rintro e w' ⟨rfl, hb⟩
    refine ⟨_, rfl, ?_, hb⟩
    have : (allD s).1 = [] := by unfold allD; rw [if_pos (by omega)]
    rw [this]
    exact Ow.nil_
set_option maxHeartbeats 16000000 in
set_option maxRecDepth 100000 in
theorem sparse_any (s : ByteArray) (w : World) (hT : Tabs w) (hL : LibOk w) :
    Calls Tryz.prog 15 #[.string s] w fun e w' => ∃ x : SheetM, x.d = (parseS s).1 ∧ e = .returned (.tuple #[x.v, (parseS s).2.v]) ∧ x.Good w' (fun k => w.heap.size ≤ k) ∧ Below w.heap.size w w' := by
  have hmf : ∀ (fn : Fn) (first cap : Array Value) (w : World), (Instr.makeFunc fn first cap).run Tryz.prog w = .ok (.func fn first cap) w := fun _ _ _ _ => rfl
  have HTT := Lib.hid hT
  have HLL := Lib.hid hL
  have HLEN := Lib.hid (tok_bound s)
  have HAL := Lib.hid (fun w2 h2 l2 => all_any s w2 h2 l2)
  have HPL := Lib.hid (ends_any s)
  clear hT hL
  obtain ⟨w1, hw1⟩ : ∃ w1, (w.alloc (.cells #[.int .i64 0, .slice none 0 0, .slice none 0 0, .slice none 0 0, .slice none 0 0, .slice none 0 0, .slice none 0 0] 29)).alloc (.cells #[.int .i64 0, .int .i64 0, .int .i64 0] 39) = w1 := ⟨_, rfl⟩
  have hz0 : (w.alloc (.cells #[.int .i64 0, .slice none 0 0, .slice none 0 0, .slice none 0 0, .slice none 0 0, .slice none 0 0, .slice none 0 0] 29)).heap.size = w.heap.size + 1 := by simp
  have HB1 := Lib.hid (show Below w.heap.size w w1 by rw [← hw1]; exact ((Below.refl _ _).alloc (Nat.le_refl _) _).alloc (by simp) _)
  have HP1 := Lib.hid (show w1.heap[w.heap.size]? = some (.cells #[.int .i64 0, .slice none 0 0, .slice none 0 0, .slice none 0 0, .slice none 0 0, .slice none 0 0, .slice none 0 0] 29 (0, 0)) by rw [← hw1, Below.heap_alloc _ _ _ (by simp)]; exact heap_alloc_new _ _)
  have HQ1 := Lib.hid (show w1.heap[w.heap.size + 1]? = some (.cells #[.int .i64 0, .int .i64 0, .int .i64 0] 39 (0, 0)) by rw [← hw1, ← hz0]; exact heap_alloc_new _ _)
  have HZ1 := Lib.hid (show w1.heap.size = w.heap.size + 2 by rw [← hw1]; simp)
  clear hz0
  go_enter_defers Tryz.func15, Tryz.ntmps15
  go_upto_region 1 with fail
  try rw [hw1]
  clear hw1
  go_wp2_with fail
  refine (HAL.out w1 (HTT.out.below HB1.out) (HLL.out.below HB1.out)).mono ?_
  rintro e w2 ⟨v, rfl, hov, hb⟩
  obtain ⟨⟨e1, e2, e3⟩, hf⟩ : ∃ f, (allD s).2 = f := ⟨_, rfl⟩
  have HF := Lib.hid hf
  rw [hf]
  unfold FaultD.v
  have HOV := Lib.hid hov
  have HP2 := Lib.hid ((hb.block w.heap.size (by have := HZ1.out; omega)).trans HP1.out)
  have HQ2 := Lib.hid ((hb.block (w.heap.size + 1) (by have := HZ1.out; omega)).trans HQ1.out)
  have HB2 := Lib.hid (HB1.out.trans (hb.mono HB1.out.size))
  have HZ2 := Lib.hid (show w.heap.size + 2 ≤ w2.heap.size by have := hb.size; have := HZ1.out; omega)
  clear hf hov hb HP1 HQ1 HB1
  dsimp only
  go_upto_region 2 with (first | (refine wpList_store_row rfl 39 _ _ rfl (w.heap.size + 1) #[.int .i64 e1, .int .i64 e2, .int .i64 e3] rfl rfl 39 #[.int .i64 0, .int .i64 0, .int .i64 0] HQ2.out (by kernel_rfl) rfl (three_allQ _ _ _) ?_))
  have hq3 := setRow_heap w2 (w.heap.size + 1) _ #[.int .i64 e1, .int .i64 e2, .int .i64 e3] _ _ HQ2.out
  have ho3 : ∀ k, k ≠ w.heap.size + 1 → (w2.setRow (w.heap.size + 1) #[.int .i64 e1, .int .i64 e2, .int .i64 e3]).heap[k]? = w2.heap[k]? := fun k hk => setRow_other w2 _ k _ hk
  have hz3 : (w2.setRow (w.heap.size + 1) #[.int .i64 e1, .int .i64 e2, .int .i64 e3]).heap.size = w2.heap.size := by simp [World.setRow]
  have hb3 : Below w.heap.size w (w2.setRow (w.heap.size + 1) #[.int .i64 e1, .int .i64 e2, .int .i64 e3]) := below_setRow HB2.out (Nat.le_succ _) _
  obtain ⟨w3, hw3⟩ : ∃ w3, w2.setRow (w.heap.size + 1) #[.int .i64 e1, .int .i64 e2, .int .i64 e3] = w3 := ⟨_, rfl⟩
  rw [hw3] at hq3 ho3 hz3 hb3 ⊢
  clear hw3
  have HQ3 := Lib.hid hq3
  have HP3 := Lib.hid ((ho3 w.heap.size (by omega)).trans HP2.out)
  have HB3 := Lib.hid hb3
  have HZ3 := Lib.hid hz3
  have HV3 := Lib.hid (HOV.out.keepB (w' := w3) fun k hk _ => ho3 k (by have := HZ1.out; omega))
  have x0 : w3.cell? ⟨w.heap.size + 1, 0, none⟩ = some (.int .i64 e1) := Lib.cell_of_heap hq3 0
  clear hq3 ho3 hz3 hb3 HQ2 HP2 HB2 HOV
  by_cases he : e1 = 0
  · have hE : (⟨e1, e2, e3⟩ : FaultD) = ⟨0, 0, 0⟩ := HF.out.symm.trans (allD_zero (by rw [HF.out]; exact he))
    injection hE with g1 g2 g3
    subst g1 g2 g3
    obtain ⟨L, hLL⟩ : ∃ L, (allD s).1 = L := ⟨_, rfl⟩
    have HEN := Lib.hid (show EndsE L by rw [← hLL]; exact HPL.out (by rw [HF.out]))
    have HLN := Lib.hid (show L.length ≤ 1048576 by rw [← hLL]; exact HLEN.out)
    have HPS := Lib.hid (parseS_ok (u := s) (L := L) (Prod.ext hLL HF.out))
    have HV4 := Lib.hid (show Ow tkc 5 w3 w1.heap.size 101 v L by rw [← hLL]; exact HV3.out)
    obtain ⟨r, hr⟩ : ∃ r, parseRun L (L.length + 1) (takeD L (afterD L (rd 0) kHorizon).1 4 []).1 { zeroD with hor := (afterD L (rd 0) kHorizon).2 } = r := ⟨_, rfl⟩
    have HPR := Lib.hid (show parseL L = if r.1.e ≠ 0 then (zeroD, ⟨r.1.e, r.1.ln, r.1.cl⟩) else (r.2, ⟨0, 0, 0⟩) by rw [← hr]; rfl)
    have HR := Lib.hid hr
    obtain ⟨A, c, rfl, _, _⟩ := (HV4.out.sl tkc_len).shape
    clear he hLL hr HV3 HF HPL HLEN HAL HLL HTT
    go_upto_region 6 with fail
    obtain ⟨b, hbb⟩ : ∃ b, w3.heap.size = b := ⟨_, rfl⟩
    obtain ⟨w4, hw4⟩ : ∃ w4, w3.alloc (.cells #[.slice A L.length c, .int .i64 0, .slice none 0 0, .slice none 0 0, .slice none 0 0, .slice none 0 0, .slice none 0 0, .slice none 0 0] 78) = w4 := ⟨_, rfl⟩
    have hb4 : Below w3.heap.size w3 w4 := by rw [← hw4]; exact (Below.refl _ _).alloc (Nat.le_refl _) _
    have HO4 := Lib.hid (show SOk b L 0 zeroM.xv w4 from ⟨⟨.slice A L.length c, by rw [List.drop_zero]; exact (Sl.of_ow HV4.out (by rw [hbb]; exact Nat.le_refl _)).below_ hb4, by unfold SrAt; rw [← hw4, ← hbb]; exact heap_alloc_new _ _⟩, Nat.zero_le _, HLN.out⟩)
    have HS4 := Lib.hid (show ShAt (b + 1) b zeroM w4 from ⟨Ow.nil_, Ow.nil_, Ow.nil_, Ow.nil_, Ow.nil_, Ow.nil_, (fun r hr => by cases hr), Nat.lt_succ_self _, by rw [← hw4, ← hbb]; simp⟩)
    have HBW := Lib.hid (show w.heap.size + 2 ≤ b by rw [← hbb]; have := HZ3.out; have := HZ2.out; omega)
    have HP4 := Lib.hid ((hb4.block w.heap.size (by have := HBW.out; omega)).trans HP3.out)
    have HQ4 := Lib.hid ((hb4.block (w.heap.size + 1) (by have := HBW.out; omega)).trans HQ3.out)
    have HB4 := Lib.hid (HB3.out.trans (hb4.mono (by have := HBW.out; omega)))
    try rw [hw4]
    try rw [hbb]
    clear hw4 hb4 hbb HV4 HP3 HQ3 HB3 HZ3 HZ2 x0
    have hal := sall_any (b + 1) b L w4 HEN.out HO4.out HS4.out r HR.out
    have HALL := Lib.hid hal
    clear hal HR HO4 HS4 HEN HLN
    go_wp2_with fail
    refine HALL.out.mono ?_
    rintro e w5 (⟨j, x, hj, hd, rfl, ho, hs5, hb⟩ | ⟨hne, rfl, hb⟩)
    · have HRZ : Hid (parseS s = (r.2, ⟨0, 0, 0⟩)) := Lib.hid (by rw [HPS.out, HPR.out, hj, if_neg (fun h => h rfl)])
      have HD := Lib.hid hd
      have HS5 := Lib.hid hs5
      have HP5 := Lib.hid ((hb.block w.heap.size (by have := HBW.out; omega)).trans HP4.out)
      have HQ5 := Lib.hid ((hb.block (w.heap.size + 1) (by have := HBW.out; omega)).trans HQ4.out)
      have HB5 := Lib.hid (HB4.out.trans (hb.mono (by have := HBW.out; omega)))
      obtain ⟨v5, _, hR5⟩ := ho.S
      unfold SrAt SheetM.xv at hR5
      dsimp only at hR5
      obtain ⟨As, cs, Ap, cp, Ad, cd, Ar, cr, At, ct, Ah, ch, es, ep, ed, er, et, eh⟩ := hs5.forms
      rw [es, ep, ed, er, et, eh] at hR5
      have HR5 := Lib.hid hR5
      have HXV := Lib.hid (show x.v = .agg #[.int .i64 x.hor, .slice As x.stops.length cs, .slice Ap x.paths.length cp, .slice Ad x.doors.length cd, .slice Ar x.routes.length cr, .slice At x.trips.length ct, .slice Ah x.hazs.length ch] by unfold SheetM.v; rw [es, ep, ed, er, et, eh])
      clear hj hd ho hs5 hb hR5 es ep ed er et eh HP4 HQ4 HB4 HALL HPR HPS
      go_wp2_with (first | (refine wpList_load_part rfl 29 _ rfl b 1 rfl 78 #[v5, .int .i64 x.hor, .slice As x.stops.length cs, .slice Ap x.paths.length cp, .slice Ad x.doors.length cd, .slice Ar x.routes.length cr, .slice At x.trips.length ct, .slice Ah x.hazs.length ch] (0, 0) _ HR5.out #[.int .i64 x.hor, .slice As x.stops.length cs, .slice Ap x.paths.length cp, .slice Ad x.doors.length cd, .slice Ar x.routes.length cr, .slice At x.trips.length ct, .slice Ah x.hazs.length ch].toList rfl Tryz.underlying29 rfl (by kernel_rfl) ?_) | (refine wpList_store_row rfl 29 _ _ rfl w.heap.size #[.int .i64 x.hor, .slice As x.stops.length cs, .slice Ap x.paths.length cp, .slice Ad x.doors.length cd, .slice Ar x.routes.length cr, .slice At x.trips.length ct, .slice Ah x.hazs.length ch] rfl rfl 29 #[.int .i64 0, .slice none 0 0, .slice none 0 0, .slice none 0 0, .slice none 0 0, .slice none 0 0, .slice none 0 0] HP5.out (by kernel_rfl) rfl (seven_all _ _ _ _ _ _ _ _ _ _ _ _ _ _ _ _ _ _ _) ?_) | (refine wpList_store_row rfl 39 _ _ rfl (w.heap.size + 1) #[.int .i64 0, .int .i64 0, .int .i64 0] rfl rfl 39 #[.int .i64 0, .int .i64 0, .int .i64 0] ((setRow_other w5 w.heap.size (w.heap.size + 1) _ (by omega)).trans HQ5.out) (by kernel_rfl) rfl (three_allQ _ _ _) ?_))
      try simp only [Exit.inBlock, Exit.then]
      refine leaves_cons (f := 34) (args := #[.pointer (some ⟨w.heap.size, 0, none⟩), .pointer (some ⟨w.heap.size + 1, 0, none⟩)]) (by simp) (by simp [go_sem]) ?_
      refine (catch_idle w.heap.size (w.heap.size + 1) _).mono ?_
      rintro e u' w'' ⟨rfl, rfl, rfl⟩
      refine ⟨_, results_cc rfl _ _ w.heap.size (w.heap.size + 1) _ _ _ _ (0, 0) (0, 0) _ _ rfl ((setRow_other (w5.setRow w.heap.size #[.int .i64 x.hor, .slice As x.stops.length cs, .slice Ap x.paths.length cp, .slice Ad x.doors.length cd, .slice Ar x.routes.length cr, .slice At x.trips.length ct, .slice Ah x.hazs.length ch]) (w.heap.size + 1) w.heap.size _ (by omega)).trans (setRow_heap w5 _ _ _ _ _ HP5.out)) Tryz.underlying29 rfl (by kernel_rfl) rfl (setRow_heap _ _ _ _ _ _ ((setRow_other w5 w.heap.size (w.heap.size + 1) _ (by omega)).trans HQ5.out)) Tryz.underlying39 rfl (by kernel_rfl), ?_⟩
      refine ⟨x, by rw [HRZ.out]; exact HD.out, by rw [HRZ.out, HXV.out]; rfl, (HS5.out.good (by simp [World.setRow]) fun k h1 h2 => (setRow_other _ _ _ _ (by have := HBW.out; omega)).trans (setRow_other _ _ _ _ (by have := HBW.out; omega))).mono fun k hk => by have := HBW.out; omega, ?_⟩
      exact below_setRow (below_setRow HB5.out (Nat.le_refl _) _) (Nat.le_succ _) _
    · have HRZ : Hid (parseS s = (zeroD, ⟨r.1.e, r.1.ln, r.1.cl⟩)) := Lib.hid (by rw [HPS.out, HPR.out, if_pos hne])
      have HP5 := Lib.hid ((hb.block w.heap.size (by have := HBW.out; omega)).trans HP4.out)
      have HQ5 := Lib.hid ((hb.block (w.heap.size + 1) (by have := HBW.out; omega)).trans HQ4.out)
      have HB5 := Lib.hid (HB4.out.trans (hb.mono (by have := HBW.out; omega)))
      clear hne hb
      try go_wp2_with fail
      refine leaves_cons (f := 34) (args := #[.pointer (some ⟨w.heap.size, 0, none⟩), .pointer (some ⟨w.heap.size + 1, 0, none⟩)]) (by simp) (by simp [go_sem]) ?_
      refine (catch_panic w.heap.size (w.heap.size + 1) (by omega) r.1 w5 ⟨HP5.out, HQ5.out⟩).mono ?_
      rintro e u' w6 ⟨rfl, rfl, hra, hk2⟩
      refine ⟨_, results_cc rfl _ _ w.heap.size (w.heap.size + 1) _ _ _ _ (0, 0) (0, 0) _ _ rfl hra.1 Tryz.underlying29 rfl (by kernel_rfl) rfl hra.2 Tryz.underlying39 rfl (by kernel_rfl), ?_⟩
      exact ⟨zeroM, by rw [HRZ.out]; rfl, by rw [HRZ.out]; rfl, zeroM_good _ _, HB5.out.trans (hk2.2.2 _ (Nat.le_refl _) (Nat.le_succ _))⟩
  · have HPS := Lib.hid (parseS_bad (u := s) (by rw [HF.out]; exact he))
    have c1 : (e1 == 0) = false := beq_eq_false_iff_ne.2 he
    have c2 : (e1 != 0) = true := by rw [bne, c1]; rfl
    clear he
    go_upto_region 3 with fail
    clear x0
    have hSw : w3.heap[w.heap.size + 1]? = some (.cells #[.int .i64 e1, .int .i64 e2, .int .i64 e3] 39 (0, 0)) := HQ3.out
    refine wp_region_kinds (fun wy => wy.heap[w.heap.size + 1]? = some (.cells #[.int .i64 e1, .int .i64 e2, .int .i64 e3] 39 (0, 0))) [2] [3] [1] [0] [0, 1, 2, 3] (by kernel_rfl) (by kernel_rfl) (fun w n h => h) ?_
    repeat (first | (refine wpKind_free (v := ?_) (by rfl) rfl (by rfl) ?_ ?_; rotate_left 1; (focus (intro wy; go_simp; try with_reducible rfl; done)); try simp only [Act.put, List.setIfInBounds_toArray, List.set_cons_zero, List.set_cons_succ]) | (refine wpKind_held (v := ?_) (by rfl) rfl (by rfl) hSw ?_ ?_; rotate_left 1; (focus (intro wy hSy; have s0 : wy.cell? ⟨w.heap.size + 1, 0, none⟩ = some (.int .i64 e1) := Lib.cell_of_heap hSy 0; have s1 : wy.cell? ⟨w.heap.size + 1, 1, none⟩ = some (.int .i64 e2) := Lib.cell_of_heap hSy 1; have s2 : wy.cell? ⟨w.heap.size + 1, 2, none⟩ = some (.int .i64 e3) := Lib.cell_of_heap hSy 2; clear hSy; go_simp; try with_reducible rfl; done)); try simp only [Act.put, List.setIfInBounds_toArray, List.set_cons_zero, List.set_cons_succ]))
    clear hSw
    refine wpKind_keeps (by rfl) rfl (fun m1 => ?_)
    refine wpList_store_row rfl 29 _ _ rfl w.heap.size #[.int .i64 0, .slice none 0 0, .slice none 0 0, .slice none 0 0, .slice none 0 0, .slice none 0 0, .slice none 0 0] rfl rfl 29 #[.int .i64 0, .slice none 0 0, .slice none 0 0, .slice none 0 0, .slice none 0 0, .slice none 0 0, .slice none 0 0] (show (w3.drewN m1).heap[w.heap.size]? = _ from HP3.out) (by kernel_rfl) rfl (seven_all _ _ _ _ _ _ _ _ _ _ _ _ _ _ _ _ _ _ _) ?_
    have ra := setRow_heap (w3.drewN m1) w.heap.size _ #[.int .i64 0, .slice none 0 0, .slice none 0 0, .slice none 0 0, .slice none 0 0, .slice none 0 0, .slice none 0 0] _ _ HP3.out
    have oa : ∀ c, c ≠ w.heap.size → ((w3.drewN m1).setRow w.heap.size #[.int .i64 0, .slice none 0 0, .slice none 0 0, .slice none 0 0, .slice none 0 0, .slice none 0 0, .slice none 0 0]).heap[c]? = w3.heap[c]? := fun c hc => setRow_other (w3.drewN m1) _ c _ hc
    have bwa := below_setRow (below_drewN HB3.out m1) (Nat.le_refl w.heap.size) #[.int .i64 0, .slice none 0 0, .slice none 0 0, .slice none 0 0, .slice none 0 0, .slice none 0 0, .slice none 0 0]
    obtain ⟨wa, hwa⟩ : ∃ X, (w3.drewN m1).setRow w.heap.size #[.int .i64 0, .slice none 0 0, .slice none 0 0, .slice none 0 0, .slice none 0 0, .slice none 0 0, .slice none 0 0] = X := ⟨_, rfl⟩
    rw [hwa] at ra bwa oa ⊢
    clear hwa
    show _ ∧ _
    refine ⟨(oa _ (by omega)).trans HQ3.out, ?_⟩
    have RB2 := (oa (w.heap.size + 1) (by omega)).trans HQ3.out
    refine wpKind_serial (by rfl) rfl (fun m2 => ?_)
    refine wpList_store_row rfl 39 _ _ rfl (w.heap.size + 1) #[.int .i64 e1, .int .i64 e2, .int .i64 e3] rfl rfl 39 #[.int .i64 e1, .int .i64 e2, .int .i64 e3] (show (wa.drewN m2).heap[w.heap.size + 1]? = _ from RB2) (by kernel_rfl) rfl (three_allQ _ _ _) ?_
    have rb := setRow_heap (wa.drewN m2) (w.heap.size + 1) _ #[.int .i64 e1, .int .i64 e2, .int .i64 e3] _ _ RB2
    have ob : ((wa.drewN m2).setRow (w.heap.size + 1) #[.int .i64 e1, .int .i64 e2, .int .i64 e3]).heap[w.heap.size]? = wa.heap[w.heap.size]? := setRow_other (wa.drewN m2) _ _ _ (by omega)
    have bwb := below_setRow (below_drewN bwa m2) (Nat.le_succ w.heap.size) #[.int .i64 e1, .int .i64 e2, .int .i64 e3]
    obtain ⟨wb, hwb⟩ : ∃ X, (wa.drewN m2).setRow (w.heap.size + 1) #[.int .i64 e1, .int .i64 e2, .int .i64 e3] = X := ⟨_, rfl⟩
    rw [hwb] at rb bwb ob ⊢
    clear hwb
    intro m3
    show Exit.then _ _ _ _ _
    have RA := Lib.hid (show (wb.drewN m3).heap[w.heap.size]? = some (.cells #[.int .i64 0, .slice none 0 0, .slice none 0 0, .slice none 0 0, .slice none 0 0, .slice none 0 0, .slice none 0 0] 29 (0, 0)) from ob.trans ra)
    have RB := Lib.hid (show (wb.drewN m3).heap[w.heap.size + 1]? = some (.cells #[.int .i64 e1, .int .i64 e2, .int .i64 e3] 39 (0, 0)) from rb)
    have RC := Lib.hid (below_drewN bwb m3)
    clear RB2 ra rb oa ob bwa bwb
    go_wp2_with fail
    try simp only [Exit.inBlock, Exit.then]
    refine ⟨_, results_cc rfl _ _ w.heap.size (w.heap.size + 1) _ _ _ _ (0, 0) (0, 0) _ _ rfl RA.out Tryz.underlying29 rfl (by kernel_rfl) rfl RB.out Tryz.underlying39 rfl (by kernel_rfl), ?_⟩
    exact ⟨zeroM, by rw [HPS.out]; rfl, by rw [HPS.out, HF.out]; rfl, zeroM_good _ _, RC.out⟩
end Go.Proofs.YteonefgbdphmiaaGreatDoor
