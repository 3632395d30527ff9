/- The walk of change.blank. -/
import Derived.Test.YtlclkeihkkpdbaaGreatDoorUe
namespace Go.Proofs.YtlclkeihkkpdbaaGreatDoor
open Go.RowKit
variable {P : Program} {Q : Exit → Act → World → Prop} {S : World → Prop}
/-- The form in block b: an update, two numbers beside it, its parts. -/
def FormAt (B b : Nat) (f : FormU) (fs : List Fld) (w : World) : Prop :=
  ∃ v, w.heap[b]? = some (.cells #[.int .i64 f.u.kind, .string (ba f.u.name), .int .i64 f.u.no, .int .i64 f.u.pos, .int .i64 f.u.by_, .int .i64 f.u.from_, .int .i64 f.u.every, .int .i64 f.u.len, .int .i64 f.no, .int .i64 f.pos, v] 55 (0, 0)) ∧ Ow (fdc b) 4 w B 61 v fs
theorem info_fld : (Tryz.prog.info? 61).map (fun i => (i.zero, i.size, i.bytes)) = some (some (.agg #[.string ByteArray.empty, .pointer none, .pointer none, .int .i64 0]), 4, 40) := by kernel_rfl
theorem form_at {H : Nat} {wA w5 w6 : World} {B : Nat} {f : FormU} {fs : List Fld} {Av : Option Addr} {nv cv : Nat} (hfb : wA.heap[H + 1]? = some (.cells #[.int .i64 f.u.kind, .string (ba f.u.name), .int .i64 f.u.no, .int .i64 f.u.pos, .int .i64 f.u.by_, .int .i64 f.u.from_, .int .i64 f.u.every, .int .i64 f.u.len, .int .i64 f.no, .int .i64 f.pos, .slice Av nv cv] 55 (0, 0)))
    (hov : Ow (fdc (H + 1)) 4 wA (H + 4) 61 (.slice Av nv cv) fs) (h5 : Below B wA w5) (hB : B = wA.heap.size) (hg : w5.grownBy w6 (Value.slice Av nv cv).ownBlock) :
    (∀ c, c < H + 4 → c < wA.heap.size → w6.heap[c]? = wA.heap[c]?) ∧ w6.heap[H + 1]? = some (.cells #[.int .i64 f.u.kind, .string (ba f.u.name), .int .i64 f.u.no, .int .i64 f.u.pos, .int .i64 f.u.by_, .int .i64 f.u.from_, .int .i64 f.u.every, .int .i64 f.u.len, .int .i64 f.no, .int .i64 f.pos, .slice Av nv cv] 55 (0, 0)) ∧ w6.frozen? ⟨H + 1, 10, none⟩ = false ∧ w6.cell? ⟨H + 1, 10, none⟩ = some (.slice Av nv cv) := by
  subst hB
  have hold : ∀ c, c < H + 4 → c < wA.heap.size → w6.heap[c]? = wA.heap[c]? := fun c hc hc2 =>
    (hg.block c (Nat.lt_of_lt_of_le hc2 h5.size) (fun e => by have := (hov.lt e.symm).1; omega)).trans (h5.block c hc2)
  have hb6 := (hold (H + 1) (by omega) (Array.getElem?_eq_some_iff.1 hfb).1).trans hfb
  exact ⟨hold, hb6, Lib.frozen_of_heap hb6 10, Lib.cell_of_heap hb6 10⟩
theorem form_put {H : Nat} {w0 wA w5 w6 : World} {B : Nat} {f : FormU} {fs : List Fld} {x : Fld} {Av : Option Addr} {nv cv : Nat} {v6 : Value} {om ow : Obj} (hfb : wA.heap[H + 1]? = some (.cells #[.int .i64 f.u.kind, .string (ba f.u.name), .int .i64 f.u.no, .int .i64 f.u.pos, .int .i64 f.u.by_, .int .i64 f.u.from_, .int .i64 f.u.every, .int .i64 f.u.len, .int .i64 f.no, .int .i64 f.pos, .slice Av nv cv] 55 (0, 0)))
    (hov : Ow (fdc (H + 1)) 4 wA (H + 4) 61 (.slice Av nv cv) fs) (h5 : Below B wA w5) (hB : B = wA.heap.size) (hg : w5.grownBy w6 (Value.slice Av nv cv).ownBlock) (hown : Ow (fdc (H + 1)) 4 w6 (H + 4) 61 v6 (fs ++ [x]))
    (hz : H + 4 ≤ wA.heap.size) (hm : wA.heap[H + 2]? = some om) (hw : wA.heap[H + 3]? = some ow) (hb : Below H w0 wA) :
    FormAt (H + 4) (H + 1) f (fs ++ [x]) (w6.setCell ⟨H + 1, 10, none⟩ v6) ∧ (w6.setCell ⟨H + 1, 10, none⟩ v6).heap[H + 2]? = some om ∧ (w6.setCell ⟨H + 1, 10, none⟩ v6).heap[H + 3]? = some ow ∧ Below H w0 (w6.setCell ⟨H + 1, 10, none⟩ v6) ∧ H + 4 ≤ (w6.setCell ⟨H + 1, 10, none⟩ v6).heap.size := by
  obtain ⟨hold, hb6, _, _⟩ := form_at hfb hov h5 hB hg
  subst hB
  have hs : (w6.setCell ⟨H + 1, 10, none⟩ v6).heap.size = w6.heap.size := by have := ((Below.refl 0 w6).setCell (p := ⟨H + 1, 10, none⟩) (Nat.zero_le _) v6).size; simp [World.setCell]
  have hz6 : wA.heap.size ≤ w6.heap.size := Nat.le_trans h5.size hg.size
  refine ⟨⟨v6, heap_setCell_same _ (H + 1) 10 _ _ v6 hb6, hown.keepB fun c hc _ => Below.heap_setCell _ _ _ _ (by show c ≠ H + 1; omega)⟩, ?_, ?_, ?_, by rw [hs]; omega⟩
  · rw [Below.heap_setCell _ _ _ _ (by show H + 2 ≠ H + 1; omega)]
    exact (hold _ (by omega) (by omega)).trans hm
  · rw [Below.heap_setCell _ _ _ _ (by show H + 3 ≠ H + 1; omega)]
    exact (hold _ (by omega) (by omega)).trans hw
  · refine Below.setCell ?_ (p := ⟨H + 1, 10, none⟩) (Nat.le_succ _) v6
    exact (hb.trans (h5.mono (by omega))).grown hg (by have := h5.size; omega) fun c hc => by have := (hov.lt hc).1; omega
set_option maxHeartbeats 4000000 in
set_option maxRecDepth 100000 in
theorem blank_any (k : Int) (nm : List UInt8) (no pos by_ fr ev ln : Int) (w : World) (hT : Tabs w) : Calls Tryz.prog 20 #[.agg #[.int .i64 k, .string (ba nm), .int .i64 no, .int .i64 pos, .int .i64 by_, .int .i64 fr, .int .i64 ev, .int .i64 ln]] w fun e w' =>
    e = .returned (.pointer (some ⟨w.heap.size + 1, 0, none⟩)) ∧ FormAt (w.heap.size + 2) (w.heap.size + 1) ⟨⟨k, nm, no, pos, by_, fr, ev, ln⟩, no, pos⟩ (formD k) w' ∧ Below w.heap.size w w' := by
  obtain ⟨i0, hi0, hy0, hy1, hy2⟩ := info_parts info_fld
  have HT := Lib.hid hT
  clear hT
  go_enter Tryz.func20, Tryz.ntmps20
  go_wp2_with fail
  obtain ⟨w1, hw1⟩ : ∃ w1, (w.alloc (.cells #[.int .i64 k, .string (ba nm), .int .i64 no, .int .i64 pos, .int .i64 by_, .int .i64 fr, .int .i64 ev, .int .i64 ln] 25)).alloc (.cells #[.int .i64 k, .string (ba nm), .int .i64 no, .int .i64 pos, .int .i64 by_, .int .i64 fr, .int .i64 ev, .int .i64 ln, .int .i64 no, .int .i64 pos, .slice none 0 0] 55) = w1 := ⟨_, rfl⟩
  have hz1 : w1.heap.size = w.heap.size + 2 := by rw [← hw1]; simp
  have HF1 := Lib.hid (show w1.heap[w.heap.size + 1]? = some (.cells #[.int .i64 k, .string (ba nm), .int .i64 no, .int .i64 pos, .int .i64 by_, .int .i64 fr, .int .i64 ev, .int .i64 ln, .int .i64 no, .int .i64 pos, .slice none 0 0] 55 (0, 0)) by rw [← hw1]; exact alloc2_new _ _ _)
  have HU1 := Lib.hid (show w1.heap[w.heap.size]? = some (.cells #[.int .i64 k, .string (ba nm), .int .i64 no, .int .i64 pos, .int .i64 by_, .int .i64 fr, .int .i64 ev, .int .i64 ln] 25 (0, 0)) by rw [← hw1, heap_alloc_old _ _ (by simp)]; exact heap_alloc_new _ _)
  have HB1 := Lib.hid (show Below w.heap.size w w1 by rw [← hw1]; exact ((Below.refl _ _).alloc (Nat.le_refl _) _).alloc (by simp) _)
  rw [hw1]
  clear hw1
  refine wp_region_goon (fun _ => True) [] [0, 6, 11, 16, 22, 29, 36, 43] [] [1, 2, 3, 4, 5, 7, 8, 9, 10, 12, 13, 14, 15, 17, 18, 19, 20, 21, 23, 24, 25, 26, 27, 28, 30, 31, 32, 33, 34, 35, 37, 38, 39, 40, 41, 42, 44, 45] (by kernel_rfl) ?_
  refine goon_walk [1, 2, 3, 4, 5, 7, 8, 9, 10, 12, 13, 14, 15, 17, 18, 19, 20, 21, 23, 24, 25, 26, 27, 28, 30, 31, 32, 33, 34, 35, 37, 38, 39, 40, 41, 42, 0] 9 (by rfl) (by as_aux_lemma => kernel_rfl) (by as_aux_lemma => kernel_rfl) (fun _ _ _ => trivial) ?_
  repeat (first | (refine wpKind_free (v := ?_) (by rfl) rfl (by rfl) ?_ ?_; rotate_left 1; (focus (intro wy; go_simp; try with_reducible rfl; done)); try simp only [Act.put, List.setIfInBounds_toArray, List.set_cons_zero, List.set_cons_succ]))
  have hmm := @run_makeMap Tryz.prog
  refine wpKind_serial (by rfl) rfl (fun n1 => ?_)
  go_wp2_with fail
  clear hmm
  show wpKind _ _ _ _ _ _ _ _ _
  refine wpKind_fin ?_
  refine goon_listed (l2 := lstOf idxI) (by kernel_rfl) ?_
  refine goon_inserts (by as_aux_lemma => kernel_rfl) (MapI ((w1.drewN n1).alloc (.map #[] 0)) (w.heap.size + 2) (w.heap.size + 1)) ?step ?hend 7 idxI (lstOf idxI) rfl (by decide) (fun _ h => h) Rest.start _ (hz1 ▸ MapI.init _ _)
  case step =>
    intro r k9 hk hi hn W hI
    simp only [idxI, List.mem_cons, List.not_mem_nil, or_false] at hi
    rcases hi with rfl | rfl | rfl | rfl | rfl | rfl | rfl
    · as_aux_lemma => (refine hOp_serial (by rfl) rfl fun n3 => ?_; obtain ⟨w', hrun, hI'⟩ := hI.step Tryz.underlying78 Tryz.underlying9 hk (by decide) hn n3; exact wpList_insert rfl _ _ _ _ rfl hrun ⟨rfl, hI'⟩)
    · as_aux_lemma => (refine hOp_serial (by rfl) rfl fun n3 => ?_; obtain ⟨w', hrun, hI'⟩ := hI.step Tryz.underlying78 Tryz.underlying9 hk (by decide) hn n3; exact wpList_insert rfl _ _ _ _ rfl hrun ⟨rfl, hI'⟩)
    · as_aux_lemma => (refine hOp_serial (by rfl) rfl fun n3 => ?_; obtain ⟨w', hrun, hI'⟩ := hI.step Tryz.underlying78 Tryz.underlying9 hk (by decide) hn n3; exact wpList_insert rfl _ _ _ _ rfl hrun ⟨rfl, hI'⟩)
    · as_aux_lemma => (refine hOp_serial (by rfl) rfl fun n3 => ?_; obtain ⟨w', hrun, hI'⟩ := hI.step Tryz.underlying78 Tryz.underlying9 hk (by decide) hn n3; exact wpList_insert rfl _ _ _ _ rfl hrun ⟨rfl, hI'⟩)
    · as_aux_lemma => (refine hOp_serial (by rfl) rfl fun n3 => ?_; obtain ⟨w', hrun, hI'⟩ := hI.step Tryz.underlying78 Tryz.underlying9 hk (by decide) hn n3; exact wpList_insert rfl _ _ _ _ rfl hrun ⟨rfl, hI'⟩)
    · as_aux_lemma => (refine hOp_serial (by rfl) rfl fun n3 => ?_; obtain ⟨w', hrun, hI'⟩ := hI.step Tryz.underlying78 Tryz.underlying9 hk (by decide) hn n3; exact wpList_insert rfl _ _ _ _ rfl hrun ⟨rfl, hI'⟩)
    · as_aux_lemma => (refine hOp_serial (by rfl) rfl fun n3 => ?_; obtain ⟨w', hrun, hI'⟩ := hI.step Tryz.underlying78 Tryz.underlying9 hk (by decide) hn n3; exact wpList_insert rfl _ _ _ _ rfl hrun ⟨rfl, hI'⟩)
  case hend =>
    intro W hI
    refine goon_walk [44, 45] 0 rfl (by as_aux_lemma => kernel_rfl) (by as_aux_lemma => kernel_rfl) (fun _ _ _ => trivial) ?_
    repeat (first | (refine wpKind_free (v := ?_) (by rfl) rfl (by rfl) ?_ ?_; rotate_left 1; (focus (intro wy; go_simp; try with_reducible rfl; done)); try simp only [Act.put, List.setIfInBounds_toArray, List.set_cons_zero, List.set_cons_succ]))
    refine wpKind_fin ?_
    refine goon_end (by kernel_rfl) fun n2 => ?_
    obtain ⟨⟨es, clock, hmW, hlk⟩, hbW, hzW⟩ := hI.fin hz1
    obtain ⟨wm, hwm⟩ : ∃ wm, W.drewN n2 = wm := ⟨_, rfl⟩
    have HM := Lib.hid (show wm.heap[w.heap.size + 2]? = some (.map es clock) by rw [← hwm]; exact hmW)
    have hbm : Below (w.heap.size + 2) w1 wm := by rw [← hwm]; exact below_drewN hbW n2
    have hzm : wm.heap.size = w.heap.size + 3 := by rw [← hwm]; exact hzW
    have HLK := Lib.hid hlk
    have HFm := Lib.hid ((hbm.block (w.heap.size + 1) (by omega)).trans HF1.out)
    have HUm := (hbm.block w.heap.size (by omega)).trans HU1.out
    have HBm := Lib.hid (HB1.out.trans (hbm.mono (by omega)))
    have x0 : wm.cell? ⟨w.heap.size, 0, none⟩ = some (.int .i64 k) := Lib.cell_of_heap HUm 0
    rw [hwm]
    clear hwm hmW hlk hbW hzW hI hbm HUm HF1 HU1 HB1
    go_wp2_with fail
    refine (words_any k wm (HT.out.below HBm.out)).mono ?_
    rintro e w3 ⟨rfl, hw3⟩
    rw [hzm]
    have HW3 := Lib.hid (show w3.heap[w.heap.size + 3]? = some (.cells ((wordsD k).flatMap nc).toArray 9 (0, 0)) by rw [hw3, ← hzm]; exact heap_alloc_new _ _)
    have hold : ∀ c, c < w.heap.size + 3 → w3.heap[c]? = wm.heap[c]? := fun c hc => by rw [hw3]; exact heap_alloc_old _ _ (by omega)
    have HM3 := Lib.hid ((hold _ (by omega)).trans HM.out)
    have HF3 := Lib.hid ((hold _ (by omega)).trans HFm.out)
    have HB3 := Lib.hid (show Below w.heap.size w w3 by rw [hw3]; exact HBm.out.alloc HBm.out.size _)
    have hz3 : w3.heap.size = w.heap.size + 4 := by rw [hw3]; simp [hzm]
    have hwl := wordsD_len k
    clear hold hw3 x0 HM HFm HBm hzm
    go_wp2_with fail
    go_loopg [58] (wordsD k).length (fun gg i wr => ∃ j : Nat, j ≤ (wordsD k).length ∧ (wordsD k).length - j ≤ gg ∧ i = .int .i64 j ∧ FormAt (w.heap.size + 4) (w.heap.size + 1) ⟨⟨k, nm, no, pos, by_, fr, ev, ln⟩, no, pos⟩ ((formD k).take j) wr ∧ wr.heap[w.heap.size + 2]? = some (.map es clock) ∧ wr.heap[w.heap.size + 3]? = some (.cells ((wordsD k).flatMap nc).toArray 9 (0, 0)) ∧ Below w.heap.size w wr ∧ w.heap.size + 4 ≤ wr.heap.size)
    case atStart => exact ⟨0, Nat.zero_le _, by omega, rfl, ⟨_, HF3.out, Ow.nil_⟩, HM3.out, HW3.out, HB3.out, by omega⟩
    case round =>
      obtain ⟨j, hj, hgj, rfl, ⟨v, hfb, hov⟩, hm, hw, hb, hz⟩ := hrel
      obtain ⟨Av, nv, cv, rfl⟩ := ow_form hov
      by_cases hjl : j < (wordsD k).length
      · have hsw := (Sl.block (wordsD k) nc_len hw rfl rfl (Nat.le_trans hwl (by decide))).at_ hjl
        obtain ⟨b4, o4, c4, e4, _, _, _, _, hx4⟩ := hsw
        have e5 := Option.some.inj (Value.slice.inj e4).1
        have e6 := (Addr.mk.inj e5).1
        have e7 := (Addr.mk.inj e5).2.1
        subst e6 e7
        obtain ⟨wd, hwd⟩ : ∃ wd, (wordsD k)[j] = wd := ⟨_, rfl⟩
        rw [hwd] at hx4
        have hc4 : wr.cell? ⟨w.heap.size + 3, j, none⟩ = some (.string (ba wd)) := by simpa using hx4 0 _ rfl
        have hnext : (formD k).take (j + 1) = (formD k).take j ++ [fldOf wd] := by
          have hg : (formD k)[j]? = some (fldOf wd) := by unfold formD; rw [List.getElem?_map, List.getElem?_eq_getElem hjl, hwd]; rfl
          rw [List.take_add_one, hg]; rfl
        have q0 : (0 : Int) ≤ (j : Int) := by omega
        have q1 : (j : Int) < ((wordsD k).length : Int) := by omega
        have hnt : ((formD k).take j).length ≤ 8 := by rw [List.length_take]; omega
        have HNEXT := Lib.hid hnext
        have HFB := Lib.hid hfb
        have HOV := Lib.hid hov
        have HW := Lib.hid hw
        have HBR := Lib.hid hb
        have HZ := Lib.hid hz
        have HMR := Lib.hid hm
        clear hx4 hnext hfb hov hw hb hwd e4 e5
        rcases fldOf_cases wd with ⟨k9, hk9, hkw, hval⟩ | ⟨hno, hfl⟩
        · obtain ⟨p1, p2, low, hfd⟩ : ∃ p1 p2 low, fdc (w.heap.size + 1) (fldOf wd) = [.string ⟨#[]⟩, .pointer p1, .pointer p2, .int .i64 low] := by
            simp only [idxI, List.mem_cons, List.not_mem_nil, or_false] at hk9
            rcases hk9 with rfl | rfl | rfl | rfl | rfl | rfl | rfl <;> subst hkw <;> exact ⟨_, _, _, rfl⟩
          have hlook := look_yes hm HLK.out hk9 (v := .agg #[.string ⟨#[]⟩, .pointer p1, .pointer p2, .int .i64 low]) (by rw [hval, hfd])
          rw [← hkw] at hlook
          have HFD := Lib.hid hfd
          clear hm hz hkw hval hfd
          go_wp2_with fail
          obtain ⟨wA, hwA⟩ : ∃ wA, wr.alloc (.cells #[.string ⟨#[]⟩, .pointer p1, .pointer p2, .int .i64 low] 61) = wA := ⟨_, rfl⟩
          have hkeep : ∀ c, c < wr.heap.size → wA.heap[c]? = wr.heap[c]? := fun c hc => by rw [← hwA]; exact heap_alloc_old _ _ hc
          have hzz := HZ.out
          have HFA := Lib.hid ((hkeep _ (by omega)).trans HFB.out)
          have HMA := Lib.hid ((hkeep _ (by omega)).trans HMR.out)
          have HWA := Lib.hid ((hkeep _ (by omega)).trans HW.out)
          have HXA := Lib.hid (show wA.heap[wr.heap.size]? = some (.cells #[.string ⟨#[]⟩, .pointer p1, .pointer p2, .int .i64 low] 61 (0, 0)) by rw [← hwA]; exact heap_alloc_new _ _)
          have HOA := Lib.hid (show Ow (fdc (w.heap.size + 1)) 4 wA (w.heap.size + 4) 61 (.slice Av nv cv) ((formD k).take j) by rw [← hwA]; exact HOV.out.alloc _)
          have HBA := Lib.hid (show Below w.heap.size w wA by rw [← hwA]; exact HBR.out.alloc HBR.out.size _)
          have hzA : wA.heap.size = wr.heap.size + 1 := by rw [← hwA]; simp
          rw [hwA]
          clear hkeep hwA HFB HMR HW HOV HBR
          have hSw : wA.heap[w.heap.size + 1]? = some (.cells #[.int .i64 k, .string (ba nm), .int .i64 no, .int .i64 pos, .int .i64 by_, .int .i64 fr, .int .i64 ev, .int .i64 ln, .int .i64 no, .int .i64 pos, .slice Av nv cv] 55 (0, 0)) ∧ wA.heap[wr.heap.size]? = some (.cells #[.string ⟨#[]⟩, .pointer p1, .pointer p2, .int .i64 low] 61 (0, 0)) := ⟨HFA.out, HXA.out⟩
          refine wp_region_kinds (fun wy => wy.heap[w.heap.size + 1]? = some (.cells #[.int .i64 k, .string (ba nm), .int .i64 no, .int .i64 pos, .int .i64 by_, .int .i64 fr, .int .i64 ev, .int .i64 ln, .int .i64 no, .int .i64 pos, .slice Av nv cv] 55 (0, 0)) ∧ wy.heap[wr.heap.size]? = some (.cells #[.string ⟨#[]⟩, .pointer p1, .pointer p2, .int .i64 low] 61 (0, 0))) [6] [7, 10] [4, 5] [0, 1, 2, 3, 8, 9] [0, 1, 2, 3, 4, 5, 6, 7, 8, 9, 10] (by kernel_rfl) (by kernel_rfl) (fun w n h => h) ?_
          repeat (first | (refine wpKind_free (v := ?_) (by rfl) rfl (by rfl) ?_ ?_; rotate_left 1; (focus (intro wy; go_simp; try with_reducible rfl; done)); try simp only [Act.put, List.setIfInBounds_toArray, List.set_cons_zero, List.set_cons_succ]) | (refine wpKind_held (v := ?_) (by rfl) rfl (by rfl) hSw ?_ ?_; rotate_left 1; (focus (intro wy hSy; obtain ⟨hSb, hSq⟩ := hSy; have s1 : wy.cell? ⟨w.heap.size + 1, 10, none⟩ = some (.slice Av nv cv) := Lib.cell_of_heap hSb 10; have q0 : wy.cell? ⟨wr.heap.size, 0, none⟩ = some (.string ⟨#[]⟩) := Lib.cell_of_heap hSq 0; have q1 : wy.cell? ⟨wr.heap.size, 1, none⟩ = some (.pointer p1) := Lib.cell_of_heap hSq 1; have q2 : wy.cell? ⟨wr.heap.size, 2, none⟩ = some (.pointer p2) := Lib.cell_of_heap hSq 2; have q3 : wy.cell? ⟨wr.heap.size, 3, none⟩ = some (.int .i64 low) := Lib.cell_of_heap hSq 3; go_simp; try with_reducible rfl; done)); try simp only [Act.put, List.setIfInBounds_toArray, List.set_cons_zero, List.set_cons_succ]))
          refine wpKind_keeps (by rfl) rfl (fun n5 => ?_)
          go_wp2_with fail
          have h5b : Below wA.heap.size wA ((wA.drewN n5).alloc (.cells #[.string ⟨#[]⟩, .pointer p1, .pointer p2, .int .i64 low] 61)) := (below_drewN (Below.refl _ _) n5).alloc (Nat.le_refl _) _
          obtain ⟨w5, hw5⟩ : ∃ w5, (wA.drewN n5).alloc (.cells #[.string ⟨#[]⟩, .pointer p1, .pointer p2, .int .i64 low] 61) = w5 := ⟨_, rfl⟩
          have HX5 := Lib.hid (show Sl (fdc (w.heap.size + 1)) 4 w5 (.slice (some ⟨wr.heap.size + 1, 0, none⟩) 1 1) [fldOf wd] (fun _ => True) by rw [← hw5]; exact Sl.newl [fldOf wd] (fdc_len _) (by rw [List.flatMap_cons, HFD.out]; rfl) rfl (by decide) hzA)
          have HO5 := Lib.hid (show Ow (fdc (w.heap.size + 1)) 4 w5 (w.heap.size + 4) 61 (.slice Av nv cv) ((formD k).take j) by rw [← hw5]; exact (HOA.out.drewN n5).alloc _)
          rw [hw5] at h5b ⊢
          have H5B := Lib.hid h5b
          have hS5 : w5.heap[w.heap.size + 1]? = some (.cells #[.int .i64 k, .string (ba nm), .int .i64 no, .int .i64 pos, .int .i64 by_, .int .i64 fr, .int .i64 ev, .int .i64 ln, .int .i64 no, .int .i64 pos, .slice Av nv cv] 55 (0, 0)) ∧ w5.heap[wr.heap.size]? = some (.cells #[.string ⟨#[]⟩, .pointer p1, .pointer p2, .int .i64 low] 61 (0, 0)) := ⟨(h5b.block _ (by omega)).trans hSw.1, (h5b.block _ (by omega)).trans hSw.2⟩
          have hz5 : w.heap.size + 4 ≤ w5.heap.size := by have := h5b.size; omega
          clear hSw hw5 h5b
          show _ ∧ _
          refine ⟨hS5, ?_⟩
          refine wpKind_serial (by rfl) rfl (fun n6 => ?_)
          go_wp2_with (at_builtin; refine wpList_append_sl _ rfl _ _ _ rfl (w.heap.size + 4) 61 i0 _ 40 Tryz.underlying53 hi0 hy0 hy1 hy2 (by rfl) (by omega) (fdc_len _) (fdc_one _) _ _ ((formD k).take j) [fldOf wd] rfl rfl (HO5.out.drewN _) (HX5.out.drewN _) (by simp only [maxLen, List.length_cons, List.length_nil]; omega) (by simp only [List.length_cons, List.length_nil]; omega) (by exact hz5) ?_; intro v6 w6 hown6 hg6 hmv6; obtain ⟨Aw, nw, cw, ew⟩ := ow_form hown6; subst ew)
          have hfa := form_at (H := w.heap.size) (f := ⟨⟨k, nm, no, pos, by_, fr, ev, ln⟩, no, pos⟩) HFA.out HOA.out (below_drewN H5B.out n6) rfl hg6
          have hf6 := hfa.2.2.1
          have hc6 := hfa.2.2.2
          have HG6 := Lib.hid hg6
          have HW6 := Lib.hid hown6
          clear hfa hg6 hown6 hS5 hmv6
          show wpKind _ _ _ _ _ _ _ _ _
          repeat (first | (refine wpKind_free (v := ?_) (by rfl) rfl (by rfl) ?_ ?_; rotate_left 1; (focus (intro wy; go_simp; try with_reducible rfl; done)); try simp only [Act.put, List.setIfInBounds_toArray, List.set_cons_zero, List.set_cons_succ]))
          refine wpKind_serial (by rfl) rfl (fun n7 => ?_)
          go_wp2_with fail
          show wpKind _ _ _ _ _ _ _ _ _
          refine wpKind_nil fun n8 => ?_
          clear hf6 hc6
          go_wp2_with fail
          go_roundg ((wordsD k).length - (j + 1))
          case measure => omega
          case rel =>
            obtain ⟨r1, r2, r3, r4, r5⟩ := form_put (H := w.heap.size) (f := ⟨⟨k, nm, no, pos, by_, fr, ev, ln⟩, no, pos⟩) HFA.out HOA.out (below_drewN H5B.out n6) rfl (grown_drewN HG6.out n7) (x := fldOf wd) (HW6.out.drewN n7) (by omega) HMA.out HWA.out HBA.out
            rw [← HNEXT.out] at r1
            exact ⟨j + 1, by omega, by omega, by go_num, r1, r2, r3, below_drewN r4 n8, r5⟩
        · have hlook := look_no hm HLK.out hno
          have HFL := Lib.hid hfl
          clear hm hz hno hfl
          go_upto_region 9 with fail
          obtain ⟨wA, hwA⟩ : ∃ wA, wr.alloc (.cells #[.string ⟨#[]⟩, .pointer none, .pointer none, .int .i64 0] 61) = wA := ⟨_, rfl⟩
          have hkeep : ∀ c, c < wr.heap.size → wA.heap[c]? = wr.heap[c]? := fun c hc => by rw [← hwA]; exact heap_alloc_old _ _ hc
          have hzz := HZ.out
          have HFA := Lib.hid ((hkeep _ (by omega)).trans HFB.out)
          have HMA := Lib.hid ((hkeep _ (by omega)).trans HMR.out)
          have HWA := Lib.hid ((hkeep _ (by omega)).trans HW.out)
          have HXA := Lib.hid (show wA.heap[wr.heap.size]? = some (.cells #[.string ⟨#[]⟩, .pointer none, .pointer none, .int .i64 0] 61 (0, 0)) by rw [← hwA]; exact heap_alloc_new _ _)
          have HOA := Lib.hid (show Ow (fdc (w.heap.size + 1)) 4 wA (w.heap.size + 4) 61 (.slice Av nv cv) ((formD k).take j) by rw [← hwA]; exact HOV.out.alloc _)
          have HBA := Lib.hid (show Below w.heap.size w wA by rw [← hwA]; exact HBR.out.alloc HBR.out.size _)
          have hzA : wA.heap.size = wr.heap.size + 1 := by rw [← hwA]; simp
          rw [hwA]
          clear hkeep hwA HFB HMR HW HOV HBR
          have s10 : wA.cell? ⟨w.heap.size + 1, 10, none⟩ = some (.slice Av nv cv) := Lib.cell_of_heap HFA.out 10
          go_wp2_with (at_builtin; refine wpList_append_sl _ rfl _ _ _ rfl (w.heap.size + 4) 61 i0 _ 40 Tryz.underlying53 hi0 hy0 hy1 hy2 (by rfl) (by omega) (fdc_len _) (fdc_one _) _ _ ((formD k).take j) [fldOf wd] rfl rfl (HOA.out.alloc _) (Sl.newl [fldOf wd] (fdc_len (w.heap.size + 1)) (by rw [List.flatMap_cons, HFL.out]; rfl) rfl (by decide) hzA) (by simp only [maxLen, List.length_cons, List.length_nil]; omega) (by simp only [List.length_cons, List.length_nil]; omega) (by simp; omega) ?_; intro v6 w6 hown6 hg6 hmv6; obtain ⟨Aw, nw, cw, ew⟩ := ow_form hown6; subst ew; have hfa := form_at (H := w.heap.size) (f := ⟨⟨k, nm, no, pos, by_, fr, ev, ln⟩, no, pos⟩) HFA.out HOA.out ((Below.refl _ _).alloc (Nat.le_refl _) _) rfl hg6; have hf6 := hfa.2.2.1; have hc6 := hfa.2.2.2)
          go_roundg ((wordsD k).length - (j + 1))
          case measure => omega
          case rel =>
            obtain ⟨r1, r2, r3, r4, r5⟩ := form_put (H := w.heap.size) (f := ⟨⟨k, nm, no, pos, by_, fr, ev, ln⟩, no, pos⟩) HFA.out HOA.out ((Below.refl _ _).alloc (Nat.le_refl _) _) rfl hg6 (x := fldOf wd) hown6 (by omega) HMA.out HWA.out HBA.out
            rw [← HNEXT.out] at r1
            exact ⟨j + 1, by omega, by omega, by go_num, r1, r2, r3, r4, r5⟩
      · have hjj : (formD k).take j = formD k := List.take_of_length_le (by unfold formD; rw [List.length_map]; omega)
        rw [hjj] at hov
        have t1 : ¬ (j : Int) < ((wordsD k).length : Int) := by omega
        have HFA := Lib.hid (show FormAt (w.heap.size + 2) (w.heap.size + 1) ⟨⟨k, nm, no, pos, by_, fr, ev, ln⟩, no, pos⟩ (formD k) wr from ⟨_, hfb, hov.lower (by omega)⟩)
        have HBR := Lib.hid hb
        clear hjj hfb hov hm hw hb
        go_wp2_with fail
        go_ret
        exact ⟨rfl, HFA.out, HBR.out⟩
end Go.Proofs.YtlclkeihkkpdbaaGreatDoor
