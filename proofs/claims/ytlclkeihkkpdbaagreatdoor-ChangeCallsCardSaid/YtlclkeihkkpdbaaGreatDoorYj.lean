/- The walk of timetableref17.All. Printed by wip/bin/genyi.py. -/
import Derived.Test.YtlclkeihkkpdbaaGreatDoorYh
import Derived.Test.YtlclkeihkkpdbaaGreatDoorYd
namespace Go.Proofs.YtlclkeihkkpdbaaGreatDoor
open Go.RowKit
theorem split_ok : ∀ (l acc : List TokD) (sm : Bool), Order sm l → (sm = false → acc = []) → ∀ g ∈ splitE acc l, g ≠ [] ∧ (∀ x, g.getLast? = some x → x.kind = 4) ∧ g.length ≤ acc.length + l.length := by
  intro l
  induction l with
  | nil =>
    intro acc sm h hs g hg
    obtain rfl : sm = false := h
    rw [hs rfl] at hg
    cases hg
  | cons t l ih =>
    intro acc sm h hs g hg
    obtain ⟨h1, h2⟩ := h
    rw [splitE] at hg
    by_cases h4 : t.kind = 4
    · rw [if_pos h4] at hg
      rcases List.mem_cons.1 hg with rfl | hg
      · refine ⟨by simp, fun x hx => ?_, by simp only [List.length_append, List.length_cons, List.length_nil]; omega⟩
        rw [List.getLast?_append] at hx
        simp at hx
        rw [← hx]; exact h4
      · obtain ⟨a, b, c⟩ := ih [] _ h2 (fun _ => rfl) g hg
        exact ⟨a, b, by simp at c ⊢; omega⟩
    · rw [if_neg h4] at hg
      obtain ⟨a, b, c⟩ := ih (acc ++ [t]) _ h2 (fun h => by rw [decide_eq_true h4] at h; cases h) g hg
      exact ⟨a, b, by simp at c ⊢; omega⟩
theorem good_kind {t : TokD} (h : GoodT t) : 1 ≤ t.kind ∧ t.kind ≤ 4 := by
  rcases h with ⟨h, _⟩ | ⟨h, _⟩ | ⟨h, _⟩
  · rw [h]; decide
  · rw [h]; split <;> decide
  · rw [h]; decide
theorem readL_first : ∀ (gs : List (List TokD)) (k : Nat) (g : List TokD), (∀ i g, i < k → gs[i]? = some g → (lineU g).2.1 = 0) → gs[k]? = some g → (lineU g).2.1 ≠ 0 → readL gs = ⟨[], [], (lineU g).2.1, (lineU g).2.2.1, (lineU g).2.2.2⟩ := by
  intro gs
  induction gs with
  | nil => intro k g _ h; simp at h
  | cons a gs ih =>
    intro k g h hk hb
    cases k with
    | zero =>
      obtain rfl : a = g := by simpa using hk
      unfold readL
      rw [if_pos hb]
    | succ k =>
      have h0 := h 0 a (Nat.succ_pos _) rfl
      have := ih k g (fun i x hi hx => h (i + 1) x (by omega) (by simpa using hx)) (by simpa using hk) hb
      unfold readL
      rw [if_neg (fun h => h h0), this, if_pos hb]
theorem readL_fine : ∀ (gs : List (List TokD)), (∀ g ∈ gs, (lineU g).2.1 = 0) → (readL gs).us = gs.map (fun g => (lineU g).1) ∧ (readL gs).err = 0 ∧ (readL gs).line = 0 ∧ (readL gs).col = 0 := by
  intro gs
  induction gs with
  | nil => intro _; exact ⟨rfl, rfl, rfl, rfl⟩
  | cons a gs ih =>
    intro h
    obtain ⟨a1, a2, a3, a4⟩ := ih fun g hg => h g (List.mem_cons_of_mem _ hg)
    have h0 := h a (List.mem_cons_self ..)
    unfold readL
    rw [if_neg (fun h => h h0), if_neg (fun h => h a2)]
    exact ⟨by rw [a1]; rfl, rfl, rfl, rfl⟩
theorem readU_fault {s : ByteArray} (h : (allD s).2.err ≠ 0) : readU s = ⟨[], [], (allD s).2.err, (allD s).2.line, (allD s).2.col⟩ := by unfold readU; rw [if_pos h]
theorem readU_lines {s : ByteArray} (h : (allD s).2.err = 0) : readU s = readL (splitE [] (allD s).1) := by unfold readU; rw [if_neg (fun x => x h)]
theorem info_updY : (Tryz.prog.info? 25).map (fun i => (i.zero, i.size, i.bytes)) = some (some (.agg #[.int .i64 0, .string ByteArray.empty, .int .i64 0, .int .i64 0, .int .i64 0, .int .i64 0, .int .i64 0, .int .i64 0]), 8, 72) := by kernel_rfl
set_option maxHeartbeats 16000000 in
set_option maxRecDepth 100000 in
theorem zall_any (s : ByteArray) (w : World) (hs : s.size ≤ 65536) :
    Calls Tryz.prog 6 #[.string s] w fun e w' => ∃ vo, e = .returned (.tuple #[vo, .agg #[.int .i64 (readU s).err, .int .i64 (readU s).line, .int .i64 (readU s).col]]) ∧ Ow upc 8 w' w.heap.size 25 vo (readU s).us ∧ Below w.heap.size w w' := by
  obtain ⟨i0, hi0, hz0, hz1, hz2⟩ := info_parts info_updY
  have HCOUNT := Lib.hid (show (allD s).1.length ≤ 1048576 by have := tok_count s; omega)
  go_enter Tryz.func6, Tryz.ntmps6
  go_wp2_with fail
  obtain ⟨w1, hw1⟩ : ∃ w1, w.alloc (.cells #[.int .i64 0, .int .i64 0, .int .i64 0] 30) = w1 := ⟨_, rfl⟩
  have HB1 := Lib.hid (show Below w.heap.size w w1 by rw [← hw1]; exact (Below.refl _ _).alloc (Nat.le_refl _) _)
  have HZ1 := Lib.hid (show w1.heap.size = w.heap.size + 1 by rw [← hw1]; simp)
  have HQ1 := Lib.hid (show w1.heap[w.heap.size]? = some (.cells #[.int .i64 0, .int .i64 0, .int .i64 0] 30 (0, 0)) by rw [← hw1]; exact heap_alloc_new _ _)
  rw [hw1]
  clear hw1
  refine (yall_any s w1 hs).mono ?_
  rintro e w2 ⟨v, rfl, ho, hb⟩
  have HB2 := Lib.hid (HB1.out.trans (hb.mono (by have := HZ1.out; omega)))
  have HQ2 := Lib.hid ((hb.block w.heap.size (by have := HZ1.out; omega)).trans HQ1.out)
  have HZ2 := Lib.hid (show w.heap.size + 1 ≤ w2.heap.size by have := hb.size; have := HZ1.out; omega)
  have HO2 := Lib.hid ho
  clear ho hb
  obtain ⟨fe, h1⟩ : ∃ x, (allD s).2.err = x := ⟨_, rfl⟩
  obtain ⟨fl, h2⟩ : ∃ x, (allD s).2.line = x := ⟨_, rfl⟩
  obtain ⟨fc, h3⟩ : ∃ x, (allD s).2.col = x := ⟨_, rfl⟩
  rw [h1, h2, h3]
  have HE := Lib.hid (And.intro h1 (And.intro h2 h3))
  clear h1 h2 h3
  go_upto_region 2 with fail
  obtain ⟨w3, hw3⟩ : ∃ w3, w2.alloc (.cells #[.int .i64 fe, .int .i64 fl, .int .i64 fc] 30) = w3 := ⟨_, rfl⟩
  have hf3 : w3.heap[w2.heap.size]? = some (.cells #[.int .i64 fe, .int .i64 fl, .int .i64 fc] 30 (0, 0)) := by rw [← hw3]; exact heap_alloc_new _ _
  have HQ3 := Lib.hid (show w3.heap[w.heap.size]? = some (.cells #[.int .i64 0, .int .i64 0, .int .i64 0] 30 (0, 0)) by rw [← hw3, Below.heap_alloc _ _ _ (by have := HZ2.out; omega)]; exact HQ2.out)
  have HO3 := Lib.hid (show Ow tkc 5 w3 w1.heap.size 51 v (allD s).1 by rw [← hw3]; exact HO2.out.alloc _)
  have HB3 := Lib.hid (show Below w.heap.size w w3 by rw [← hw3]; exact HB2.out.alloc HB2.out.size _)
  have HZ3 := Lib.hid (show w.heap.size + 2 ≤ w3.heap.size by rw [← hw3]; have := HZ2.out; simp; omega)
  have HF3 := Lib.hid hf3
  rw [hw3]
  clear hw3 HO2 HB2 HQ2
  have x0 : w3.cell? ⟨w2.heap.size, 0, none⟩ = some (.int .i64 fe) := Lib.cell_of_heap hf3 0
  clear hf3
  by_cases he : fe = 0
  · have e0 : (fe == 0) = true := beq_iff_eq.2 he
    have e1 : (fe != 0) = false := by rw [bne, e0]; rfl
    have HOKE := Lib.hid (show (allD s).2.err = 0 from HE.out.1.trans he)
    clear he
    go_wp2_with fail
    clear x0 e0 e1
    refine (ylines_any v (allD s).1 w3 (HO3.out.sl tkc_len) HCOUNT.out (order_all s hs HOKE.out)).mono ?_
    rintro e w4 ⟨v4, rs, rfl, ho4, hmap, hrows, hrl, hb4⟩
    obtain ⟨A4, c4, rfl, _, _⟩ := ho4.shape
    have HQ4 := Lib.hid ((hb4.block w.heap.size (by have := HZ3.out; omega)).trans HQ3.out)
    have HB4 := Lib.hid (HB3.out.trans (hb4.mono HB3.out.size))
    have HZ4 := Lib.hid (show w.heap.size + 2 ≤ w4.heap.size by have := HZ3.out; have := hb4.size; omega)
    have HS4 := Lib.hid (ho4.sl rwc_len)
    have HMAP := Lib.hid hmap
    have HROWS := Lib.hid hrows
    have hrl2 : rs.length ≤ 131072 := by have := tok_count s; omega
    have HRG := Lib.hid (show ∀ r ∈ rs, r.l ≠ [] ∧ (∀ x, r.l.getLast? = some x → x.kind = 4) ∧ r.l.length ≤ 1048576 ∧ ∀ x ∈ r.l, 1 ≤ x.kind ∧ x.kind ≤ 4 from fun r hr => by
      have hm : r.l ∈ splitE [] (allD s).1 := by rw [← HMAP.out]; exact List.mem_map_of_mem hr
      obtain ⟨a, b, c⟩ := split_ok (allD s).1 [] false (order_all s hs HOKE.out) (fun _ => rfl) r.l hm
      refine ⟨a, b, by have := HCOUNT.out; simp at c; omega, fun x hx => good_kind (good_all s x ?_)⟩
      rcases splitE_mem _ _ _ hm x hx with h | h
      · cases h
      · exact h)
    clear ho4 hmap hrows hb4 hrl
    go_wp2_with fail
    go_loopg [6, 8] rs.length (fun gg v6 v8 wr => ∃ k : Nat, k ≤ rs.length ∧ rs.length - k ≤ gg ∧ v8 = .int .i64 k ∧ Ow upc 8 wr w4.heap.size 25 v6 ((rs.take k).map fun r => (lineU r.l).1) ∧ Hid (∀ i r, i < k → rs[i]? = some r → (lineU r.l).2.1 = 0) ∧ Below w4.heap.size w4 wr)
    case atStart => exact ⟨0, Nat.zero_le _, Nat.le_refl _, rfl, Ow.nil_, Lib.hid (fun i r h => absurd h (Nat.not_lt_zero _)), Below.refl _ _⟩
    case round =>
      obtain ⟨k, hk, hgk, rfl, ho6, HOK, hb6⟩ := hrel
      obtain ⟨Ao, no, co, rfl⟩ := ow_form ho6
      have HO6 := Lib.hid ho6
      have HB6 := Lib.hid hb6
      have HBW6 := Lib.hid (HB4.out.trans (hb6.mono HB4.out.size))
      clear ho6 hb6
      by_cases hkl : k < rs.length
      · have q0 : (0 : Int) ≤ (k : Int) := by omega
        have q1 : (k : Int) < (rs.length : Int) := by omega
        obtain ⟨r, hr⟩ : ∃ r, rs[k]? = some r := ⟨_, List.getElem?_eq_getElem hkl⟩
        obtain ⟨ra, rl, rcap⟩ := r
        obtain ⟨g1, g2, g3, g4⟩ := HRG.out _ (List.mem_of_getElem? hr)
        dsimp only at g1 g2 g3 g4
        obtain ⟨t, ts, rfl⟩ : ∃ t ts, rl = t :: ts := by cases rl with
          | nil => exact absurd rfl g1
          | cons t ts => exact ⟨t, ts, rfl⟩
        obtain ⟨b4, o4, k4, e4, _, _, hb4, _, hx4⟩ := HS4.out.form (by omega)
        have e5 := (Value.slice.inj e4).1
        subst e5
        have x1 : wr.cell? ⟨b4, o4 + k, none⟩ = some (.slice ra (t :: ts).length rcap) := (HB6.out.cell (p := ⟨b4, o4 + k, none⟩) hb4).trans (by have h := hx4 k _ hr 0 _ rfl; rw [show o4 + k * 1 + 0 = o4 + k by omega] at h; exact h)
        have hrow := HROWS.out _ (List.mem_of_getElem? hr)
        have HROW := Lib.hid (show Sl tkc 5 wr (.slice ra (t :: ts).length rcap) (t :: ts) (fun _ => True) from hrow.below_ HB6.out)
        have HR := Lib.hid hr
        have G2 := Lib.hid g2
        have G4 := Lib.hid g4
        have G3 := Lib.hid g3
        clear e4 hx4 hrow hr g1 g2 g4 g3
        go_wp2_with fail
        clear x1
        refine (yline_any (.slice ra (t :: ts).length rcap) t ts wr HROW.out G3.out G2.out G4.out).mono ?_
        rintro e w5 ⟨rfl, hb5⟩
        have HO5 := Lib.hid (HO6.out.keepB fun b hb hb2 => hb5.block b hb2)
        have HB5 := Lib.hid (HB6.out.trans (hb5.mono HB6.out.size))
        clear hb5
        obtain ⟨L, hL⟩ : ∃ L, lineU (t :: ts) = L := ⟨_, rfl⟩
        obtain ⟨⟨uk, un, uo, up, ub, uf, ue, ul⟩, e2, l2, c2⟩ := L
        rw [hL]
        have HL := Lib.hid hL
        clear hL
        dsimp only [upc]
        go_upto_region 10 with fail
        obtain ⟨wA, hwA⟩ : ∃ wA, (w5.alloc (.cells #[.int .i64 uk, .string (ba un), .int .i64 uo, .int .i64 up, .int .i64 ub, .int .i64 uf, .int .i64 ue, .int .i64 ul] 25)).alloc (.cells #[.int .i64 e2, .int .i64 l2, .int .i64 c2] 30) = wA := ⟨_, rfl⟩
        have hfA : wA.heap[w5.heap.size + 1]? = some (.cells #[.int .i64 e2, .int .i64 l2, .int .i64 c2] 30 (0, 0)) := by rw [← hwA]; exact alloc2_new _ _ _
        have hqA : wA.heap[w5.heap.size]? = some (.cells #[.int .i64 uk, .string (ba un), .int .i64 uo, .int .i64 up, .int .i64 ub, .int .i64 uf, .int .i64 ue, .int .i64 ul] 25 (0, 0)) := by rw [← hwA, Below.heap_alloc _ _ _ (by simp)]; exact heap_alloc_new _ _
        have HOA := Lib.hid (show Ow upc 8 wA w4.heap.size 25 (.slice Ao no co) ((rs.take k).map fun r => (lineU r.l).1) by rw [← hwA]; exact (HO5.out.alloc _).alloc _)
        have HBA := Lib.hid (show Below w4.heap.size w4 wA by rw [← hwA]; exact (HB5.out.alloc HB5.out.size _).alloc (by have := HB5.out.size; simp; omega) _)
        have HFA := Lib.hid hfA
        have HQA := Lib.hid hqA
        have x0 : wA.cell? ⟨w5.heap.size + 1, 0, none⟩ = some (.int .i64 e2) := Lib.cell_of_heap hfA 0
        rw [hwA]
        clear hwA hfA hqA
        by_cases he2 : e2 = 0
        · have k0 : (e2 == 0) = true := beq_iff_eq.2 he2
          have k1 : (e2 != 0) = false := by rw [bne, k0]; rfl
          have HOK2 := Lib.hid (show ∀ i r, i < k + 1 → rs[i]? = some r → (lineU r.l).2.1 = 0 from fun i r hi hr => by
            rcases Nat.lt_or_ge i k with h | h
            · exact HOK.out i r h hr
            · have e : i = k := by omega
              rw [e, HR.out] at hr
              obtain rfl := Option.some.inj hr
              show (lineU (t :: ts)).2.1 = 0
              rw [HL.out]; exact he2)
          have HTK := Lib.hid (show ((rs.take (k + 1)).map fun r => (lineU r.l).1) = ((rs.take k).map fun r => (lineU r.l).1) ++ [⟨uk, un, uo, up, ub, uf, ue, ul⟩] by
            rw [List.take_add_one, HR.out, List.map_append]
            show _ ++ [(lineU (t :: ts)).1] = _
            rw [HL.out])
          have HLEN := Lib.hid (show ((rs.take k).map fun r => (lineU r.l).1).length ≤ 131072 by rw [List.length_map, List.length_take]; omega)
          clear he2
          obtain ⟨us, hus⟩ : ∃ us, ((rs.take k).map fun r => (lineU r.l).1) = us := ⟨_, rfl⟩
          rw [hus] at HOA HTK HLEN
          clear hus
          have u0 : wA.cell? ⟨w5.heap.size, 0, none⟩ = some (.int .i64 uk) := Lib.cell_of_heap HQA.out 0
          have u1 : wA.cell? ⟨w5.heap.size, 1, none⟩ = some (.string (ba un)) := Lib.cell_of_heap HQA.out 1
          have u2 : wA.cell? ⟨w5.heap.size, 2, none⟩ = some (.int .i64 uo) := Lib.cell_of_heap HQA.out 2
          have u3 : wA.cell? ⟨w5.heap.size, 3, none⟩ = some (.int .i64 up) := Lib.cell_of_heap HQA.out 3
          have u4 : wA.cell? ⟨w5.heap.size, 4, none⟩ = some (.int .i64 ub) := Lib.cell_of_heap HQA.out 4
          have u5 : wA.cell? ⟨w5.heap.size, 5, none⟩ = some (.int .i64 uf) := Lib.cell_of_heap HQA.out 5
          have u6 : wA.cell? ⟨w5.heap.size, 6, none⟩ = some (.int .i64 ue) := Lib.cell_of_heap HQA.out 6
          have u7 : wA.cell? ⟨w5.heap.size, 7, none⟩ = some (.int .i64 ul) := Lib.cell_of_heap HQA.out 7
          go_wp2_with (at_builtin; go_loud (refine wpList_append_sl _ rfl _ _ _ rfl w4.heap.size 25 i0 _ 72 Tryz.underlying27 hi0 hz0 hz1 hz2 (by rfl) (by omega) upc_len upc_one _ _ us [⟨uk, un, uo, up, ub, uf, ue, ul⟩] rfl rfl (HOA.out.alloc _) (Sl.newl [⟨uk, un, uo, up, ub, uf, ue, ul⟩] upc_len rfl rfl (show 1 ≤ maxLen by decide) rfl) (by have := HLEN.out; simp only [maxLen, List.length_cons, List.length_nil]; omega) (by have := HLEN.out; simp only [List.length_cons, List.length_nil]; omega) (by have := HBA.out.size; simp; omega) ?_; intro v7 w7 hown7 hg7 hmv7))
          have hb7 : Below w4.heap.size w4 w7 := (HBA.out.alloc HBA.out.size _).grown hg7 (by have := HBA.out.size; simp; omega) fun q hq => (HOA.out.lt hq).1
          go_roundg (rs.length - (k + 1))
          case measure => omega
          case rel => exact ⟨k + 1, by omega, by omega, by go_num, by rw [HTK.out]; exact hown7, HOK2, hb7⟩
        · have k0 : (e2 == 0) = false := beq_eq_false_iff_ne.2 he2
          have k1 : (e2 != 0) = true := by rw [bne, k0]; rfl
          have HRU := Lib.hid (show readU s = ⟨[], [], e2, l2, c2⟩ by
            rw [readU_lines HOKE.out, ← HMAP.out]
            have h := readL_first (rs.map RowD.l) k (t :: ts) (fun i g hi hg => by
              rw [List.getElem?_map] at hg
              obtain ⟨r, hr, rfl⟩ := Option.map_eq_some_iff.1 hg
              exact HOK.out i r hi hr) (by rw [List.getElem?_map, HR.out]; rfl) (by rw [HL.out]; exact he2)
            rw [h, HL.out])
          have HQF := Lib.hid ((HBA.out.block w.heap.size (by have := HZ4.out; omega)).trans HQ4.out)
          have HBF := Lib.hid (HB4.out.trans (HBA.out.mono HB4.out.size))
          clear he2
          go_upto_region 11 with fail
          clear x0
          have hSw : (fun wy : World => wy.cell? ⟨w5.heap.size + 1, 0, none⟩ = some (.int .i64 e2) ∧ wy.cell? ⟨w5.heap.size + 1, 1, none⟩ = some (.int .i64 l2) ∧ wy.cell? ⟨w5.heap.size + 1, 2, none⟩ = some (.int .i64 c2)) wA := ⟨Lib.cell_of_heap HFA.out 0, Lib.cell_of_heap HFA.out 1, Lib.cell_of_heap HFA.out 2⟩
          try dsimp only at hSw
          refine wp_region_kinds (fun wy : World => wy.cell? ⟨w5.heap.size + 1, 0, none⟩ = some (.int .i64 e2) ∧ wy.cell? ⟨w5.heap.size + 1, 1, none⟩ = some (.int .i64 l2) ∧ wy.cell? ⟨w5.heap.size + 1, 2, none⟩ = some (.int .i64 c2)) [] [2] [0] [1] [0, 1, 2] (by kernel_rfl) (by kernel_rfl) (fun w n h => h) ?_
          repeat (first | (refine wpKind_free (v := ?_) (by rfl) rfl (by rfl) ?_ ?_; rotate_left 1; (focus (intro wy; go_simp; try with_reducible rfl; done)); try simp only [Act.put, List.setIfInBounds_toArray, List.set_cons_zero, List.set_cons_succ]) | (refine wpKind_held (v := ?_) (by rfl) rfl (by rfl) hSw ?_ ?_; rotate_left 1; (focus (intro wy hSy; obtain ⟨s0, s1, s2⟩ := hSy; go_simp; try with_reducible rfl; done)); try simp only [Act.put, List.setIfInBounds_toArray, List.set_cons_zero, List.set_cons_succ]))
          clear hSw
          refine wpKind_serial (by rfl) rfl (fun n1 => ?_)
          refine wpList_store_row rfl 30 _ _ rfl w.heap.size #[.int .i64 e2, .int .i64 l2, .int .i64 c2] rfl rfl 30 #[.int .i64 0, .int .i64 0, .int .i64 0] (show (wA.drewN n1).heap[w.heap.size]? = _ from HQF.out) (by kernel_rfl) rfl (three_all _ _ _) ?_
          have ra := setRow_heap (wA.drewN n1) w.heap.size _ #[.int .i64 e2, .int .i64 l2, .int .i64 c2] _ _ HQF.out
          have ba := below_setRow (below_drewN HBF.out n1) (Nat.le_refl w.heap.size) #[.int .i64 e2, .int .i64 l2, .int .i64 c2]
          show wpKind _ _ _ _ _ _ _ _ _
          refine wpKind_nil fun n2 => ?_
          have RAx := Lib.hid ra
          have BAx := Lib.hid ba
          clear ra ba
          go_wp2_with fail
          refine bodyPost_ret (results_tc rfl _ _ w.heap.size _ _ (0, 0) _ rfl (show (World.drewN _ n2).heap[w.heap.size]? = _ from RAx.out) Tryz.underlying30 rfl (by kernel_rfl)) rfl ⟨.slice none 0 0, ?_, ?_, below_drewN BAx.out n2⟩
          · rw [HRU.out]; rfl
          · rw [HRU.out]; exact Ow.nil_
      · have hkk : k = rs.length := by omega
        subst hkk
        have q1 : ¬ (rs.length : Int) < (rs.length : Int) := Int.lt_irrefl _
        have HRU := Lib.hid (show (readU s).us = ((rs.take rs.length).map fun r => (lineU r.l).1) ∧ (readU s).err = 0 ∧ (readU s).line = 0 ∧ (readU s).col = 0 by
          obtain ⟨a1, a2, a3, a4⟩ := readL_fine (rs.map RowD.l) (fun g hg => by
            obtain ⟨r, hr, rfl⟩ := List.mem_map.1 hg
            obtain ⟨i, hi, rfl⟩ := List.getElem_of_mem hr
            exact HOK.out i _ hi (List.getElem?_eq_getElem hi))
          rw [HMAP.out, ← readU_lines HOKE.out] at a1 a2 a3 a4
          refine ⟨?_, a2, a3, a4⟩
          rw [a1, ← HMAP.out, List.take_length, List.map_map]; rfl)
        have rr := (HB6.out.block w.heap.size (by have := HZ4.out; omega)).trans HQ4.out
        have ra := setRow_heap wr w.heap.size _ #[.int .i64 0, .int .i64 0, .int .i64 0] _ _ rr
        have ba := below_setRow HBW6.out (Nat.le_refl w.heap.size) #[.int .i64 0, .int .i64 0, .int .i64 0]
        have HOZ := Lib.hid (HO6.out.keepB (w' := wr.setRow w.heap.size #[.int .i64 0, .int .i64 0, .int .i64 0]) fun b hb hb2 => setRow_other wr w.heap.size b #[.int .i64 0, .int .i64 0, .int .i64 0] (by have := HZ4.out; omega))
        have HRR := Lib.hid rr
        have RAx := Lib.hid ra
        have BAx := Lib.hid ba
        clear rr ra ba
        go_wp2_with (refine wpList_store_row rfl 30 _ _ rfl w.heap.size #[.int .i64 0, .int .i64 0, .int .i64 0] rfl rfl 30 #[.int .i64 0, .int .i64 0, .int .i64 0] HRR.out (by kernel_rfl) rfl (three_all 0 0 0) ?_)
        refine bodyPost_ret (results_tc rfl _ _ w.heap.size _ _ (0, 0) _ rfl RAx.out Tryz.underlying30 rfl (by kernel_rfl)) rfl ⟨.slice Ao no co, ?_, ?_, BAx.out⟩
        · rw [HRU.out.2.1, HRU.out.2.2.1, HRU.out.2.2.2]; rfl
        · rw [HRU.out.1]; exact HOZ.out.lower (by have := HZ4.out; omega)
  · have e0 : (fe == 0) = false := beq_eq_false_iff_ne.2 he
    have e1 : (fe != 0) = true := by rw [bne, e0]; rfl
    have HRU := Lib.hid (show readU s = ⟨[], [], fe, fl, fc⟩ by
      have h := readU_fault (s := s) (by rw [HE.out.1]; exact he)
      rw [HE.out.1, HE.out.2.1, HE.out.2.2] at h
      exact h)
    clear he
    go_upto_region 3 with fail
    clear x0
    have hSw : (fun wy : World => wy.cell? ⟨w2.heap.size, 0, none⟩ = some (.int .i64 fe) ∧ wy.cell? ⟨w2.heap.size, 1, none⟩ = some (.int .i64 fl) ∧ wy.cell? ⟨w2.heap.size, 2, none⟩ = some (.int .i64 fc)) w3 := ⟨Lib.cell_of_heap HF3.out 0, Lib.cell_of_heap HF3.out 1, Lib.cell_of_heap HF3.out 2⟩
    try dsimp only at hSw
    refine wp_region_kinds (fun wy : World => wy.cell? ⟨w2.heap.size, 0, none⟩ = some (.int .i64 fe) ∧ wy.cell? ⟨w2.heap.size, 1, none⟩ = some (.int .i64 fl) ∧ wy.cell? ⟨w2.heap.size, 2, none⟩ = some (.int .i64 fc)) [] [2] [0] [1] [0, 1, 2] (by kernel_rfl) (by kernel_rfl) (fun w n h => h) ?_
    repeat (first | (refine wpKind_free (v := ?_) (by rfl) rfl (by rfl) ?_ ?_; rotate_left 1; (focus (intro wy; go_simp; try with_reducible rfl; done)); try simp only [Act.put, List.setIfInBounds_toArray, List.set_cons_zero, List.set_cons_succ]) | (refine wpKind_held (v := ?_) (by rfl) rfl (by rfl) hSw ?_ ?_; rotate_left 1; (focus (intro wy hSy; obtain ⟨s0, s1, s2⟩ := hSy; go_simp; try with_reducible rfl; done)); try simp only [Act.put, List.setIfInBounds_toArray, List.set_cons_zero, List.set_cons_succ]))
    clear hSw
    refine wpKind_serial (by rfl) rfl (fun n1 => ?_)
    refine wpList_store_row rfl 30 _ _ rfl w.heap.size #[.int .i64 fe, .int .i64 fl, .int .i64 fc] rfl rfl 30 #[.int .i64 0, .int .i64 0, .int .i64 0] (show (w3.drewN n1).heap[w.heap.size]? = _ from HQ3.out) (by kernel_rfl) rfl (three_all _ _ _) ?_
    have ra := setRow_heap (w3.drewN n1) w.heap.size _ #[.int .i64 fe, .int .i64 fl, .int .i64 fc] _ _ HQ3.out
    have ba := below_setRow (below_drewN HB3.out n1) (Nat.le_refl w.heap.size) #[.int .i64 fe, .int .i64 fl, .int .i64 fc]
    show wpKind _ _ _ _ _ _ _ _ _
    refine wpKind_nil fun n2 => ?_
    have RAx := Lib.hid ra
    have BAx := Lib.hid ba
    clear ra ba
    go_wp2_with fail
    refine bodyPost_ret (results_tc rfl _ _ w.heap.size _ _ (0, 0) _ rfl (show (World.drewN _ n2).heap[w.heap.size]? = _ from RAx.out) Tryz.underlying30 rfl (by kernel_rfl)) rfl ⟨.slice none 0 0, ?_, ?_, below_drewN BAx.out n2⟩
    · rw [HRU.out]; rfl
    · rw [HRU.out]; exact Ow.nil_
end Go.Proofs.YtlclkeihkkpdbaaGreatDoor
/- The walk of timetableref17.Parse. Printed by wip/bin/genyj.py. -/
namespace Go.Proofs.YtlclkeihkkpdbaaGreatDoor
open Go.RowKit
theorem readL_bs : ∀ gs : List (List TokD), (readL gs).err = 0 → (readL gs).bs = gs.map (fun g => g.headD ⟨0, [], 0, 0, 0⟩) := by
  intro gs
  induction gs with
  | nil => intro _; rfl
  | cons a gs ih =>
    intro h
    unfold readL at h ⊢
    by_cases h0 : (lineU a).2.1 ≠ 0
    · rw [if_pos h0] at h; exact absurd h h0
    · rw [if_neg h0] at h ⊢
      by_cases h1 : (readL gs).err ≠ 0
      · rw [if_pos h1] at h; exact absurd h h1
      · rw [if_neg h1]
        show _ :: _ = _ :: _
        rw [ih (by simpa using h1)]
theorem readU_lex {s : ByteArray} (h : (readU s).err = 0) : (allD s).2.err = 0 := by
  by_cases h0 : (allD s).2.err = 0
  · exact h0
  · rw [readU_fault h0] at h; exact absurd h h0
set_option maxHeartbeats 16000000 in
set_option maxRecDepth 100000 in
theorem zparse_any (s : ByteArray) (w : World) (hs : s.size ≤ 65536) :
    Calls Tryz.prog 8 #[.string s] w fun e w' => e = .returned (.tuple #[.agg (upc (parseU s).1).toArray, .agg #[.int .i64 (parseU s).2.1, .int .i64 (parseU s).2.2.1, .int .i64 (parseU s).2.2.2]]) ∧ Below w.heap.size w w' := by
  have hlen := readU_len s
  have hPU : parseU s = if (readU s).err ≠ 0 then (zeroU, (readU s).err, (readU s).line, (readU s).col)
    else if (readU s).us.length = 0 then (zeroU, 7, 1, 1)
    else if 1 < (readU s).us.length then (zeroU, 7, ((readU s).bs.getD 1 ⟨0, [], 0, 0, 0⟩).line, ((readU s).bs.getD 1 ⟨0, [], 0, 0, 0⟩).col)
    else ((readU s).us.headD zeroU, 0, 0, 0) := rfl
  have HCOUNT := Lib.hid (show (allD s).1.length ≤ 1048576 by have := tok_count s; omega)
  go_enter Tryz.func8, Tryz.ntmps8
  go_wp2_with fail
  obtain ⟨w1, hw1⟩ : ∃ w1, (w.alloc (.cells #[.int .i64 0, .string ⟨#[]⟩, .int .i64 0, .int .i64 0, .int .i64 0, .int .i64 0, .int .i64 0, .int .i64 0] 25)).alloc (.cells #[.int .i64 0, .int .i64 0, .int .i64 0] 30) = w1 := ⟨_, rfl⟩
  have HB1 := Lib.hid (show Below w.heap.size w w1 by rw [← hw1]; exact ((Below.refl _ _).alloc (Nat.le_refl _) _).alloc (by simp) _)
  have HZ1 := Lib.hid (show w1.heap.size = w.heap.size + 2 by rw [← hw1]; simp)
  have HF1 := Lib.hid (show w1.heap[w.heap.size + 1]? = some (.cells #[.int .i64 0, .int .i64 0, .int .i64 0] 30 (0, 0)) by rw [← hw1]; exact alloc2_new _ _ _)
  have HR1 := Lib.hid (show w1.heap[w.heap.size]? = some (.cells #[.int .i64 0, .string ⟨#[]⟩, .int .i64 0, .int .i64 0, .int .i64 0, .int .i64 0, .int .i64 0, .int .i64 0] 25 (0, 0)) by rw [← hw1, Below.heap_alloc _ _ _ (by simp)]; exact heap_alloc_new _ _)
  rw [hw1]
  clear hw1
  refine (zall_any s w1 hs).mono ?_
  rintro e w2 ⟨vo, rfl, ho, hbl⟩
  have HZ2 := Lib.hid (show w.heap.size + 2 ≤ w2.heap.size by have := hbl.size; have := HZ1.out; omega)
  have HBL := Lib.hid hbl
  obtain ⟨us, h0⟩ : ∃ x, (readU s).us = x := ⟨_, rfl⟩
  obtain ⟨bs, h4⟩ : ∃ x, (readU s).bs = x := ⟨_, rfl⟩
  obtain ⟨fe, h1⟩ : ∃ x, (readU s).err = x := ⟨_, rfl⟩
  obtain ⟨fl, h2⟩ : ∃ x, (readU s).line = x := ⟨_, rfl⟩
  obtain ⟨fc, h3⟩ : ∃ x, (readU s).col = x := ⟨_, rfl⟩
  rw [h0, h1, h2, h3, h4] at hPU
  rw [h0, h4] at hlen
  rw [h0] at ho
  rw [h1, h2, h3]
  have HERR := Lib.hid h1
  have HBS := Lib.hid h4
  have HUS := Lib.hid h0
  have HPU := Lib.hid hPU
  obtain ⟨Ao, co, rfl, _, _⟩ := ho.shape
  have HO := Lib.hid (ho.sl upc_len)
  have HLEN := Lib.hid hlen
  clear h0 h1 h2 h3 h4 hPU ho hbl hlen
  go_upto_region 2 with fail
  obtain ⟨wz, hwz⟩ : ∃ wz, w2.alloc (.cells #[.int .i64 fe, .int .i64 fl, .int .i64 fc] 30) = wz := ⟨_, rfl⟩
  have hf3 : wz.heap[w2.heap.size]? = some (.cells #[.int .i64 fe, .int .i64 fl, .int .i64 fc] 30 (0, 0)) := by rw [← hwz]; exact heap_alloc_new _ _
  have hbz : Below w1.heap.size w1 wz := by rw [← hwz]; exact HBL.out.alloc HBL.out.size _
  have HOz := Lib.hid (HO.out.below_ (show Below w2.heap.size w2 wz by rw [← hwz]; exact (Below.refl _ _).alloc (Nat.le_refl _) _))
  have BZ := Lib.hid (HB1.out.trans (hbz.mono HB1.out.size))
  have RR := Lib.hid ((hbz.block w.heap.size (by have := HZ1.out; omega)).trans HR1.out)
  have RF := Lib.hid ((hbz.block (w.heap.size + 1) (by have := HZ1.out; omega)).trans HF1.out)
  have HZz := Lib.hid (show w.heap.size + 2 ≤ wz.heap.size by have := hbz.size; have := HZ1.out; omega)
  have HF3 := Lib.hid hf3
  have k0 : wz.cell? ⟨w2.heap.size, 0, none⟩ = some (.int .i64 fe) := Lib.cell_of_heap hf3 0
  rw [hwz]
  clear hwz HBL hbz hf3
  by_cases he : fe = 0
  · have e0 : (fe == 0) = true := beq_iff_eq.2 he
    have e1 : (fe != 0) = false := by rw [bne, e0]; rfl
    have HRE := Lib.hid (show (readU s).err = 0 from HERR.out.trans he)
    by_cases hn : us.length = 0
    · have q0 : ((us.length : Int) == 0) = true := beq_iff_eq.2 (by omega)
      have HLU := Lib.hid (show parseU s = (zeroU, 7, 1, 1) by rw [HPU.out, if_neg (fun h => h he), if_pos hn])
      clear HPU he hn
      go_upto_region 5 with fail
      clear k0
      have ra := setRow_heap wz w.heap.size _ #[.int .i64 0, .string ⟨#[]⟩, .int .i64 0, .int .i64 0, .int .i64 0, .int .i64 0, .int .i64 0, .int .i64 0] _ _ RR.out
      have rf2 := (setRow_other wz w.heap.size (w.heap.size + 1) #[.int .i64 0, .string ⟨#[]⟩, .int .i64 0, .int .i64 0, .int .i64 0, .int .i64 0, .int .i64 0, .int .i64 0] (by omega)).trans RF.out
      have rb := setRow_heap (wz.setRow w.heap.size #[.int .i64 0, .string ⟨#[]⟩, .int .i64 0, .int .i64 0, .int .i64 0, .int .i64 0, .int .i64 0, .int .i64 0]) (w.heap.size + 1) _ #[.int .i64 7, .int .i64 1, .int .i64 1] _ _ rf2
      have ra2 := (setRow_other (wz.setRow w.heap.size #[.int .i64 0, .string ⟨#[]⟩, .int .i64 0, .int .i64 0, .int .i64 0, .int .i64 0, .int .i64 0, .int .i64 0]) (w.heap.size + 1) w.heap.size #[.int .i64 7, .int .i64 1, .int .i64 1] (by omega)).trans ra
      have bz := below_setRow (below_setRow BZ.out (Nat.le_refl w.heap.size) #[.int .i64 0, .string ⟨#[]⟩, .int .i64 0, .int .i64 0, .int .i64 0, .int .i64 0, .int .i64 0, .int .i64 0]) (Nat.le_succ w.heap.size) #[.int .i64 7, .int .i64 1, .int .i64 1]
      have RAx := Lib.hid ra2
      have RBx := Lib.hid rb
      have RBW := Lib.hid bz
      have HRF := Lib.hid rf2
      clear ra rf2 rb ra2 bz
      go_wp2_with (first | (refine wpList_store_row rfl 25 _ _ rfl w.heap.size #[.int .i64 0, .string ⟨#[]⟩, .int .i64 0, .int .i64 0, .int .i64 0, .int .i64 0, .int .i64 0, .int .i64 0] rfl rfl 25 #[.int .i64 0, .string ⟨#[]⟩, .int .i64 0, .int .i64 0, .int .i64 0, .int .i64 0, .int .i64 0, .int .i64 0] RR.out (by kernel_rfl) rfl (upc_allY zeroU) ?_) | (refine wpList_store_row rfl 30 _ _ rfl (w.heap.size + 1) #[.int .i64 7, .int .i64 1, .int .i64 1] rfl rfl 30 #[.int .i64 0, .int .i64 0, .int .i64 0] HRF.out (by kernel_rfl) rfl (three_all 7 1 1) ?_))
      refine bodyPost_ret (results_cc rfl _ _ w.heap.size (w.heap.size + 1) _ _ _ _ (0, 0) (0, 0) _ _ rfl RAx.out Tryz.underlying25 rfl (by kernel_rfl) rfl RBx.out Tryz.underlying30 rfl (by kernel_rfl)) rfl ⟨?_, RBW.out⟩
      rw [HLU.out]; rfl
    · have q0 : ((us.length : Int) == 0) = false := beq_eq_false_iff_ne.2 (by omega)
      by_cases hm : 1 < us.length
      · have q1 : (1 : Int) < (us.length : Int) := by omega
        have HPA := Lib.hid (show parseU s = (zeroU, 7, (bs.getD 1 ⟨0, [], 0, 0, 0⟩).line, (bs.getD 1 ⟨0, [], 0, 0, 0⟩).col) by rw [HPU.out, if_neg (fun h => h he), if_neg hn, if_pos hm])
        have HM := Lib.hid hm
        clear HPU he hn hm
        go_upto_region 7 with fail
        clear k0
        go_wp2_with fail
        refine (yall_any s wz hs).mono ?_
        rintro e w3 ⟨v3, rfl, ho3, hb3⟩
        have HAE := Lib.hid (readU_lex HRE.out)
        obtain ⟨ge, g1⟩ : ∃ x, (allD s).2.err = x := ⟨_, rfl⟩
        obtain ⟨gl, g2⟩ : ∃ x, (allD s).2.line = x := ⟨_, rfl⟩
        obtain ⟨gc, g3⟩ : ∃ x, (allD s).2.col = x := ⟨_, rfl⟩
        rw [g1, g2, g3]
        clear g1 g2 g3
        have HO3 := Lib.hid (ho3.sl tkc_len)
        have HB3 := Lib.hid (BZ.out.trans (hb3.mono BZ.out.size))
        have HP3 := Lib.hid (show ∀ b, b < wz.heap.size → w3.heap[b]? = wz.heap[b]? from fun b h => hb3.block b h)
        have HZ3 := Lib.hid (show wz.heap.size ≤ w3.heap.size from hb3.size)
        clear ho3 hb3
        go_upto_region 8 with fail
        obtain ⟨w4, hw4⟩ : ∃ w4, w3.alloc (.cells #[.int .i64 ge, .int .i64 gl, .int .i64 gc] 30) = w4 := ⟨_, rfl⟩
        have HO4 := Lib.hid (HO3.out.below_ (show Below w3.heap.size w3 w4 by rw [← hw4]; exact (Below.refl _ _).alloc (Nat.le_refl _) _))
        have HB4 := Lib.hid (show Below w.heap.size w w4 by rw [← hw4]; exact HB3.out.alloc HB3.out.size _)
        have HP4 := Lib.hid (show ∀ b, b < wz.heap.size → w4.heap[b]? = wz.heap[b]? from fun b h => by rw [← hw4, heap_alloc_old _ _ (by have := HZ3.out; omega)]; exact HP3.out b h)
        have HZ4 := Lib.hid (show wz.heap.size ≤ w4.heap.size by rw [← hw4]; have := HZ3.out; simp; omega)
        rw [hw4]
        clear hw4 HO3 HB3 HP3 HZ3
        go_wp2_with fail
        refine (ylines_any v3 (allD s).1 w4 HO4.out HCOUNT.out (order_all s hs HAE.out)).mono ?_
        rintro e w5 ⟨v5, rs, rfl, ho5, hmap, hrows, _, hb5⟩
        have HMAP := Lib.hid hmap
        have hgs : readU s = readL (rs.map RowD.l) := by rw [hmap]; exact readU_lines HAE.out
        have hbs : bs = (rs.map RowD.l).map (fun g => g.headD ⟨0, [], 0, 0, 0⟩) := by
          rw [← HBS.out, hgs]; exact readL_bs _ (by rw [← hgs]; exact HRE.out)
        have hlr : 1 < rs.length := by
          have h1 := HLEN.out
          have h2 := HM.out
          rw [hbs, List.length_map, List.length_map] at h1
          omega
        have hq1 : (1 : Int) < (rs.length : Int) := by omega
        obtain ⟨r, hr⟩ : ∃ r, rs[1]? = some r := ⟨_, List.getElem?_eq_getElem hlr⟩
        obtain ⟨ra, rl, rcap⟩ := r
        have hml : rl ∈ splitE [] (allD s).1 := by rw [← hmap]; exact List.mem_map_of_mem (f := RowD.l) (List.mem_of_getElem? hr)
        obtain ⟨g1, _, _⟩ := split_ok (allD s).1 [] false (order_all s hs HAE.out) (fun _ => rfl) rl hml
        obtain ⟨t, ts, rfl⟩ : ∃ t ts, rl = t :: ts := by cases rl with
          | nil => exact absurd rfl g1
          | cons t ts => exact ⟨t, ts, rfl⟩
        have HT := Lib.hid (show bs.getD 1 ⟨0, [], 0, 0, 0⟩ = t by
          rw [hbs, List.getD_eq_getElem?_getD, List.getElem?_map, List.getElem?_map, hr]; rfl)
        obtain ⟨b5, o5, k5, e5, _, _, _, _, hx5⟩ := (ho5.sl rwc_len).form (by omega)
        subst e5
        have x1 : w5.cell? ⟨b5, o5 + 1, none⟩ = some (.slice ra (t :: ts).length rcap) := by have h := hx5 1 _ hr 0 _ rfl; rw [show o5 + 1 * 1 + 0 = o5 + 1 by omega] at h; exact h
        have hrow := hrows _ (List.mem_of_getElem? hr)
        obtain ⟨b6, o6, k6, e6, _, _, _, _, hx6⟩ := hrow.form (Nat.succ_pos _)
        have e7 := (Value.slice.inj e6).1
        subst e7
        obtain ⟨tk, tt, tn, tl, tc⟩ := t
        have y0 : w5.cell? ⟨b6, o6, none⟩ = some (.int .i64 tk) := by simpa using hx6 0 _ rfl 0 _ rfl
        have y1 : w5.cell? ⟨b6, o6 + 1, none⟩ = some (.string (ba tt)) := by simpa using hx6 0 _ rfl 1 _ rfl
        have y2 : w5.cell? ⟨b6, o6 + 2, none⟩ = some (.int .i64 tn) := by simpa using hx6 0 _ rfl 2 _ rfl
        have y3 : w5.cell? ⟨b6, o6 + 3, none⟩ = some (.int .i64 tl) := by simpa using hx6 0 _ rfl 3 _ rfl
        have y4 : w5.cell? ⟨b6, o6 + 4, none⟩ = some (.int .i64 tc) := by simpa using hx6 0 _ rfl 4 _ rfl
        have hq2 : (0 : Int) < ((⟨tk, tt, tn, tl, tc⟩ :: ts : List TokD).length : Int) := by simp only [List.length_cons]; omega
        have HB5 := Lib.hid (HB4.out.trans (hb5.mono HB4.out.size))
        have HP5 := Lib.hid (show ∀ b, b < wz.heap.size → w5.heap[b]? = wz.heap[b]? from fun b h => (hb5.block b (by have := HZ4.out; omega)).trans (HP4.out b h))
        have HZ5 := Lib.hid (show wz.heap.size ≤ w5.heap.size from Nat.le_trans HZ4.out hb5.size)
        clear ho5 hmap hrows hb5 hgs hbs hlr hr hml g1 hx5 hrow e6 hx6
        go_upto_region 9 with fail
        clear x1 y0 y1 y2 y3 y4
        obtain ⟨w6, hw6⟩ : ∃ w6, w5.alloc (.cells #[.int .i64 tk, .string (ba tt), .int .i64 tn, .int .i64 tl, .int .i64 tc] 51) = w6 := ⟨_, rfl⟩
        have hf6 : w6.heap[w5.heap.size]? = some (.cells #[.int .i64 tk, .string (ba tt), .int .i64 tn, .int .i64 tl, .int .i64 tc] 51 (0, 0)) := by rw [← hw6]; exact heap_alloc_new _ _
        have HB6 := Lib.hid (show Below w.heap.size w w6 by rw [← hw6]; exact HB5.out.alloc HB5.out.size _)
        have hp6 : ∀ b, b < wz.heap.size → w6.heap[b]? = wz.heap[b]? := fun b h => by rw [← hw6, heap_alloc_old _ _ (by have := HZ5.out; omega)]; exact HP5.out b h
        have RA := (hp6 w.heap.size (by have := HZz.out; omega)).trans RR.out
        have RB := (hp6 (w.heap.size + 1) (by have := HZz.out; omega)).trans RF.out
        have hz5 : w.heap.size + 2 ≤ w5.heap.size := Nat.le_trans HZz.out HZ5.out
        have HLU := Lib.hid (show parseU s = (zeroU, 7, tl, tc) by rw [HPA.out, HT.out])
        rw [hw6]
        clear hw6 hp6
        have hSw : (fun wy : World => wy.cell? ⟨w5.heap.size, 3, none⟩ = some (.int .i64 tl) ∧ wy.cell? ⟨w5.heap.size, 4, none⟩ = some (.int .i64 tc)) w6 := ⟨Lib.cell_of_heap hf6 3, Lib.cell_of_heap hf6 4⟩
        clear hf6
        try dsimp only at hSw
        refine wp_region_kinds (fun wy : World => wy.cell? ⟨w5.heap.size, 3, none⟩ = some (.int .i64 tl) ∧ wy.cell? ⟨w5.heap.size, 4, none⟩ = some (.int .i64 tc)) [6, 7] [] [2, 4] [0, 1, 3, 5] [0, 1, 2, 3, 4, 5, 6, 7] (by kernel_rfl) (by kernel_rfl) (fun w n h => h) ?_
        repeat (first | (refine wpKind_free (v := ?_) (by rfl) rfl (by rfl) ?_ ?_; rotate_left 1; (focus (intro wy; go_simp; try with_reducible rfl; done)); try simp only [Act.put, List.setIfInBounds_toArray, List.set_cons_zero, List.set_cons_succ]) | (refine wpKind_held (v := ?_) (by rfl) rfl (by rfl) hSw ?_ ?_; rotate_left 1; (focus (intro wy hSy; obtain ⟨s3, s4⟩ := hSy; go_simp; try with_reducible rfl; done)); try simp only [Act.put, List.setIfInBounds_toArray, List.set_cons_zero, List.set_cons_succ]))
        refine wpKind_keeps (by rfl) rfl (fun m1 => ?_)
        refine wpList_store_row rfl 25 _ _ rfl w.heap.size #[.int .i64 0, .string ⟨#[]⟩, .int .i64 0, .int .i64 0, .int .i64 0, .int .i64 0, .int .i64 0, .int .i64 0] rfl rfl 25 #[.int .i64 0, .string ⟨#[]⟩, .int .i64 0, .int .i64 0, .int .i64 0, .int .i64 0, .int .i64 0, .int .i64 0] (show (w6.drewN m1).heap[w.heap.size]? = _ from RA) (by kernel_rfl) rfl (upc_allY zeroU) ?_
        obtain ⟨wa, hwa⟩ : ∃ X, (w6.drewN m1).setRow w.heap.size #[.int .i64 0, .string ⟨#[]⟩, .int .i64 0, .int .i64 0, .int .i64 0, .int .i64 0, .int .i64 0, .int .i64 0] = X := ⟨_, rfl⟩
        have ra := setRow_heap (w6.drewN m1) w.heap.size _ #[.int .i64 0, .string ⟨#[]⟩, .int .i64 0, .int .i64 0, .int .i64 0, .int .i64 0, .int .i64 0, .int .i64 0] _ _ RA
        have oa : ∀ c, c ≠ w.heap.size → wa.heap[c]? = w6.heap[c]? := fun c hc => by rw [← hwa]; exact setRow_other (w6.drewN m1) _ c _ hc
        have bwa := below_setRow (below_drewN HB6.out m1) (Nat.le_refl w.heap.size) #[.int .i64 0, .string ⟨#[]⟩, .int .i64 0, .int .i64 0, .int .i64 0, .int .i64 0, .int .i64 0, .int .i64 0]
        rw [hwa] at ra bwa ⊢
        clear hwa
        have hSw2 := And.intro ((World.cell?_of_block (a := ⟨w5.heap.size, 3, none⟩) (oa (w5.heap.size) (by omega))).trans hSw.1) ((World.cell?_of_block (a := ⟨w5.heap.size, 4, none⟩) (oa (w5.heap.size) (by omega))).trans hSw.2)
        show _ ∧ _
        refine ⟨hSw2, ?_⟩
        have RB2 := (oa (w.heap.size + 1) (by omega)).trans RB
        refine wpKind_keeps (by rfl) rfl (fun m2 => ?_)
        refine wpList_store_row rfl 30 _ _ rfl (w.heap.size + 1) #[.int .i64 7, .int .i64 tl, .int .i64 tc] rfl rfl 30 #[.int .i64 0, .int .i64 0, .int .i64 0] (show (wa.drewN m2).heap[w.heap.size + 1]? = _ from RB2) (by kernel_rfl) rfl (three_all _ _ _) ?_
        obtain ⟨wb, hwb⟩ : ∃ X, (wa.drewN m2).setRow (w.heap.size + 1) #[.int .i64 7, .int .i64 tl, .int .i64 tc] = X := ⟨_, rfl⟩
        have rb := setRow_heap (wa.drewN m2) (w.heap.size + 1) _ #[.int .i64 7, .int .i64 tl, .int .i64 tc] _ _ RB2
        have ob : ∀ c, c ≠ w.heap.size + 1 → wb.heap[c]? = wa.heap[c]? := fun c hc => by rw [← hwb]; exact setRow_other (wa.drewN m2) _ c _ hc
        have bwb := below_setRow (below_drewN bwa m2) (Nat.le_succ w.heap.size) #[.int .i64 7, .int .i64 tl, .int .i64 tc]
        rw [hwb] at rb bwb ⊢
        clear hwb
        show _ ∧ _
        refine ⟨And.intro ((World.cell?_of_block (a := ⟨w5.heap.size, 3, none⟩) (ob (w5.heap.size) (by omega))).trans hSw2.1) ((World.cell?_of_block (a := ⟨w5.heap.size, 4, none⟩) (ob (w5.heap.size) (by omega))).trans hSw2.2), ?_⟩
        refine wpKind_nil fun m3 => ?_
        have RAx := Lib.hid (show (wb.drewN m3).heap[w.heap.size]? = some (.cells #[.int .i64 0, .string ⟨#[]⟩, .int .i64 0, .int .i64 0, .int .i64 0, .int .i64 0, .int .i64 0, .int .i64 0] 25 (0, 0)) from (ob w.heap.size (by omega)).trans ra)
        have RBx := Lib.hid (show (wb.drewN m3).heap[w.heap.size + 1]? = some (.cells #[.int .i64 7, .int .i64 tl, .int .i64 tc] 30 (0, 0)) from rb)
        have RBW := Lib.hid (below_drewN bwb m3)
        clear RA RB RB2 ra rb oa ob bwa bwb hSw hSw2
        go_wp2_with fail
        refine bodyPost_ret (results_cc rfl _ _ w.heap.size (w.heap.size + 1) _ _ _ _ (0, 0) (0, 0) _ _ rfl RAx.out Tryz.underlying25 rfl (by kernel_rfl) rfl RBx.out Tryz.underlying30 rfl (by kernel_rfl)) rfl ⟨?_, RBW.out⟩
        rw [HLU.out]; rfl
      · have q1 : ¬ (1 : Int) < (us.length : Int) := by omega
        have HPA := Lib.hid (show parseU s = (us.headD zeroU, 0, 0, 0) by rw [HPU.out, if_neg (fun h => h he), if_neg hn, if_neg hm])
        obtain ⟨u, hu⟩ : ∃ u, us = [u] := by
          match us, hn, hm with
          | [u], _, _ => exact ⟨u, rfl⟩
          | [], hn, _ => exact absurd rfl hn
          | _ :: _ :: _, _, hm => exact absurd (by simp) hm
        subst hu
        obtain ⟨uk, un, uo, up, ub, uf, ue, ul⟩ := u
        have HLU := Lib.hid (show parseU s = (⟨uk, un, uo, up, ub, uf, ue, ul⟩, 0, 0, 0) from HPA.out)
        obtain ⟨b1, o1, c1, e9, _, _, _, _, hx⟩ := HOz.out.at_ (show 0 < [(⟨uk, un, uo, up, ub, uf, ue, ul⟩ : UpD)].length from Nat.zero_lt_one)
        have ea := (Value.slice.inj e9).1
        subst ea
        have z0 : wz.cell? ⟨b1, o1, none⟩ = some (.int .i64 uk) := by simpa using hx 0 _ rfl
        have z1 : wz.cell? ⟨b1, o1 + 1, none⟩ = some (.string (ba un)) := by simpa using hx 1 _ rfl
        have z2 : wz.cell? ⟨b1, o1 + 2, none⟩ = some (.int .i64 uo) := by simpa using hx 2 _ rfl
        have z3 : wz.cell? ⟨b1, o1 + 3, none⟩ = some (.int .i64 up) := by simpa using hx 3 _ rfl
        have z4 : wz.cell? ⟨b1, o1 + 4, none⟩ = some (.int .i64 ub) := by simpa using hx 4 _ rfl
        have z5 : wz.cell? ⟨b1, o1 + 5, none⟩ = some (.int .i64 uf) := by simpa using hx 5 _ rfl
        have z6 : wz.cell? ⟨b1, o1 + 6, none⟩ = some (.int .i64 ue) := by simpa using hx 6 _ rfl
        have z7 : wz.cell? ⟨b1, o1 + 7, none⟩ = some (.int .i64 ul) := by simpa using hx 7 _ rfl
        clear HPU he hn hm e9 hx
        go_upto_region 10 with fail
        clear k0
        have ra := setRow_heap wz w.heap.size _ #[.int .i64 uk, .string (ba un), .int .i64 uo, .int .i64 up, .int .i64 ub, .int .i64 uf, .int .i64 ue, .int .i64 ul] _ _ RR.out
        have rf2 := (setRow_other wz w.heap.size (w.heap.size + 1) #[.int .i64 uk, .string (ba un), .int .i64 uo, .int .i64 up, .int .i64 ub, .int .i64 uf, .int .i64 ue, .int .i64 ul] (by omega)).trans RF.out
        have rb := setRow_heap (wz.setRow w.heap.size #[.int .i64 uk, .string (ba un), .int .i64 uo, .int .i64 up, .int .i64 ub, .int .i64 uf, .int .i64 ue, .int .i64 ul]) (w.heap.size + 1) _ #[.int .i64 0, .int .i64 0, .int .i64 0] _ _ rf2
        have ra2 := (setRow_other (wz.setRow w.heap.size #[.int .i64 uk, .string (ba un), .int .i64 uo, .int .i64 up, .int .i64 ub, .int .i64 uf, .int .i64 ue, .int .i64 ul]) (w.heap.size + 1) w.heap.size #[.int .i64 0, .int .i64 0, .int .i64 0] (by omega)).trans ra
        have bz := below_setRow (below_setRow BZ.out (Nat.le_refl w.heap.size) #[.int .i64 uk, .string (ba un), .int .i64 uo, .int .i64 up, .int .i64 ub, .int .i64 uf, .int .i64 ue, .int .i64 ul]) (Nat.le_succ w.heap.size) #[.int .i64 0, .int .i64 0, .int .i64 0]
        have RAx := Lib.hid ra2
        have RBx := Lib.hid rb
        have RBW := Lib.hid bz
        have HRF := Lib.hid rf2
        clear ra rf2 rb ra2 bz
        go_wp2_with (first | (refine wpList_store_row rfl 25 _ _ rfl w.heap.size #[.int .i64 uk, .string (ba un), .int .i64 uo, .int .i64 up, .int .i64 ub, .int .i64 uf, .int .i64 ue, .int .i64 ul] rfl rfl 25 #[.int .i64 0, .string ⟨#[]⟩, .int .i64 0, .int .i64 0, .int .i64 0, .int .i64 0, .int .i64 0, .int .i64 0] RR.out (by kernel_rfl) rfl (upc_allY ⟨uk, un, uo, up, ub, uf, ue, ul⟩) ?_) | (refine wpList_store_row rfl 30 _ _ rfl (w.heap.size + 1) #[.int .i64 0, .int .i64 0, .int .i64 0] rfl rfl 30 #[.int .i64 0, .int .i64 0, .int .i64 0] HRF.out (by kernel_rfl) rfl (three_all 0 0 0) ?_))
        refine bodyPost_ret (results_cc rfl _ _ w.heap.size (w.heap.size + 1) _ _ _ _ (0, 0) (0, 0) _ _ rfl RAx.out Tryz.underlying25 rfl (by kernel_rfl) rfl RBx.out Tryz.underlying30 rfl (by kernel_rfl)) rfl ⟨?_, RBW.out⟩
        rw [HLU.out]; rfl
  · have e0 : (fe == 0) = false := beq_eq_false_iff_ne.2 he
    have e1 : (fe != 0) = true := by rw [bne, e0]; rfl
    have HLU := Lib.hid (show parseU s = (zeroU, fe, fl, fc) by rw [HPU.out, if_pos he])
    clear HPU he
    go_upto_region 3 with fail
    clear k0
    have hz2 : w.heap.size + 2 ≤ w2.heap.size := HZ2.out
    have RA := RR.out
    have RB := RF.out
    have hSw : (fun wy : World => wy.cell? ⟨w2.heap.size, 0, none⟩ = some (.int .i64 fe) ∧ wy.cell? ⟨w2.heap.size, 1, none⟩ = some (.int .i64 fl) ∧ wy.cell? ⟨w2.heap.size, 2, none⟩ = some (.int .i64 fc)) wz := ⟨Lib.cell_of_heap HF3.out 0, Lib.cell_of_heap HF3.out 1, Lib.cell_of_heap HF3.out 2⟩
    try dsimp only at hSw
    refine wp_region_kinds (fun wy : World => wy.cell? ⟨w2.heap.size, 0, none⟩ = some (.int .i64 fe) ∧ wy.cell? ⟨w2.heap.size, 1, none⟩ = some (.int .i64 fl) ∧ wy.cell? ⟨w2.heap.size, 2, none⟩ = some (.int .i64 fc)) [2] [3] [1] [0] [0, 1, 2, 3] (by kernel_rfl) (by kernel_rfl) (fun w n h => h) ?_
    repeat (first | (refine wpKind_free (v := ?_) (by rfl) rfl (by rfl) ?_ ?_; rotate_left 1; (focus (intro wy; go_simp; try with_reducible rfl; done)); try simp only [Act.put, List.setIfInBounds_toArray, List.set_cons_zero, List.set_cons_succ]) | (refine wpKind_held (v := ?_) (by rfl) rfl (by rfl) hSw ?_ ?_; rotate_left 1; (focus (intro wy hSy; obtain ⟨s0, s1, s2⟩ := hSy; go_simp; try with_reducible rfl; done)); try simp only [Act.put, List.setIfInBounds_toArray, List.set_cons_zero, List.set_cons_succ]))
    refine wpKind_keeps (by rfl) rfl (fun m1 => ?_)
    refine wpList_store_row rfl 25 _ _ rfl w.heap.size #[.int .i64 0, .string ⟨#[]⟩, .int .i64 0, .int .i64 0, .int .i64 0, .int .i64 0, .int .i64 0, .int .i64 0] rfl rfl 25 #[.int .i64 0, .string ⟨#[]⟩, .int .i64 0, .int .i64 0, .int .i64 0, .int .i64 0, .int .i64 0, .int .i64 0] (show (wz.drewN m1).heap[w.heap.size]? = _ from RA) (by kernel_rfl) rfl (upc_allY zeroU) ?_
    obtain ⟨wa, hwa⟩ : ∃ X, (wz.drewN m1).setRow w.heap.size #[.int .i64 0, .string ⟨#[]⟩, .int .i64 0, .int .i64 0, .int .i64 0, .int .i64 0, .int .i64 0, .int .i64 0] = X := ⟨_, rfl⟩
    have ra := setRow_heap (wz.drewN m1) w.heap.size _ #[.int .i64 0, .string ⟨#[]⟩, .int .i64 0, .int .i64 0, .int .i64 0, .int .i64 0, .int .i64 0, .int .i64 0] _ _ RA
    have oa : ∀ c, c ≠ w.heap.size → wa.heap[c]? = wz.heap[c]? := fun c hc => by rw [← hwa]; exact setRow_other (wz.drewN m1) _ c _ hc
    have bwa := below_setRow (below_drewN BZ.out m1) (Nat.le_refl w.heap.size) #[.int .i64 0, .string ⟨#[]⟩, .int .i64 0, .int .i64 0, .int .i64 0, .int .i64 0, .int .i64 0, .int .i64 0]
    rw [hwa] at ra bwa ⊢
    clear hwa
    have hSw2 := And.intro ((World.cell?_of_block (a := ⟨w2.heap.size, 0, none⟩) (oa (w2.heap.size) (by omega))).trans hSw.1) (And.intro ((World.cell?_of_block (a := ⟨w2.heap.size, 1, none⟩) (oa (w2.heap.size) (by omega))).trans hSw.2.1) ((World.cell?_of_block (a := ⟨w2.heap.size, 2, none⟩) (oa (w2.heap.size) (by omega))).trans hSw.2.2))
    show _ ∧ _
    refine ⟨hSw2, ?_⟩
    have RB2 := (oa (w.heap.size + 1) (by omega)).trans RB
    refine wpKind_serial (by rfl) rfl (fun m2 => ?_)
    refine wpList_store_row rfl 30 _ _ rfl (w.heap.size + 1) #[.int .i64 fe, .int .i64 fl, .int .i64 fc] rfl rfl 30 #[.int .i64 0, .int .i64 0, .int .i64 0] (show (wa.drewN m2).heap[w.heap.size + 1]? = _ from RB2) (by kernel_rfl) rfl (three_all _ _ _) ?_
    obtain ⟨wb, hwb⟩ : ∃ X, (wa.drewN m2).setRow (w.heap.size + 1) #[.int .i64 fe, .int .i64 fl, .int .i64 fc] = X := ⟨_, rfl⟩
    have rb := setRow_heap (wa.drewN m2) (w.heap.size + 1) _ #[.int .i64 fe, .int .i64 fl, .int .i64 fc] _ _ RB2
    have ob : ∀ c, c ≠ w.heap.size + 1 → wb.heap[c]? = wa.heap[c]? := fun c hc => by rw [← hwb]; exact setRow_other (wa.drewN m2) _ c _ hc
    have bwb := below_setRow (below_drewN bwa m2) (Nat.le_succ w.heap.size) #[.int .i64 fe, .int .i64 fl, .int .i64 fc]
    rw [hwb] at rb bwb ⊢
    clear hwb
    show wpKind _ _ _ _ _ _ _ _ _
    refine wpKind_nil fun m3 => ?_
    have RAx := Lib.hid (show (wb.drewN m3).heap[w.heap.size]? = some (.cells #[.int .i64 0, .string ⟨#[]⟩, .int .i64 0, .int .i64 0, .int .i64 0, .int .i64 0, .int .i64 0, .int .i64 0] 25 (0, 0)) from (ob w.heap.size (by omega)).trans ra)
    have RBx := Lib.hid (show (wb.drewN m3).heap[w.heap.size + 1]? = some (.cells #[.int .i64 fe, .int .i64 fl, .int .i64 fc] 30 (0, 0)) from rb)
    have RBW := Lib.hid (below_drewN bwb m3)
    clear RA RB RB2 ra rb oa ob bwa bwb hSw hSw2
    go_wp2_with fail
    refine bodyPost_ret (results_cc rfl _ _ w.heap.size (w.heap.size + 1) _ _ _ _ (0, 0) (0, 0) _ _ rfl RAx.out Tryz.underlying25 rfl (by kernel_rfl) rfl RBx.out Tryz.underlying30 rfl (by kernel_rfl)) rfl ⟨?_, RBW.out⟩
    rw [HLU.out]; rfl
end Go.Proofs.YtlclkeihkkpdbaaGreatDoor
