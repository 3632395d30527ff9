/- The walk of timetableref17.Text. -/
import Derived.Test.YtlclkeihkkpdbaaGreatDoorYe
import Derived.Test.YtlclkeihkkpdbaaGreatDoorYf
import Derived.Test.YtlclkeihkkpdbaaGreatDoorYb
namespace Go.Proofs.YtlclkeihkkpdbaaGreatDoor
open Go.RowKit
theorem joinTail_app (l r : List (List UInt8)) : Lib.joinTail [32] (l ++ r) = Lib.joinTail [32] l ++ Lib.joinTail [32] r := by
  unfold Lib.joinTail
  rw [List.map_append, List.flatten_append]
theorem join_snoc0 (y : List UInt8) : Lib.join ([] ++ [y]) [32] = y := Lib.join_one y [32]
theorem join_snoc (l : List (List UInt8)) (y : List UInt8) (h : l ≠ []) : Lib.join (l ++ [y]) [32] = Lib.join l [32] ++ [32] ++ y := by
  cases l with
  | nil => exact absurd rfl h
  | cons x r =>
    rw [List.cons_append, Lib.join_cons, Lib.join_cons, joinTail_app, joinTail_cons, joinTail_nil]
    simp
theorem tail_len : ∀ (r : List (List UInt8)), (∀ x ∈ r, x.length ≤ 24) → (Lib.joinTail [32] r).length ≤ 25 * r.length := by
  intro r
  induction r with
  | nil => intro _; rw [joinTail_nil]; simp
  | cons x r ih =>
    intro h
    have h1 := h x (List.mem_cons_self ..)
    have h2 := ih fun y hy => h y (List.mem_cons_of_mem _ hy)
    rw [joinTail_cons]
    simp only [List.length_cons, List.length_append]
    omega
theorem join_len (l : List (List UInt8)) (h : ∀ x ∈ l, x.length ≤ 24) : (Lib.join l [32]).length ≤ 25 * l.length := by
  cases l with
  | nil => rw [Lib.join_nil]; simp
  | cons x r =>
    have h1 := h x (List.mem_cons_self ..)
    have h2 := tail_len r fun y hy => h y (List.mem_cons_of_mem _ hy)
    rw [Lib.join_cons]
    simp only [List.length_cons, List.length_append]
    omega
theorem ba_appK (x y : List UInt8) : ba x ++ ba y = ba (x ++ y) := by
  apply ByteArray.ext
  apply Array.ext'
  simp [ba]
theorem itoa_text {n : Int} (h : IsTk n) : Tk.textB n = Lib.itoa n := by
  have hT := Tk.isT_tick h
  unfold Tk.textB
  rw [if_neg (by have := h.2; omega), if_pos hT]
theorem check_two (u : UpD) (h : checkU u ≠ 0) : checkU u = 2 := by
  unfold checkU at h ⊢
  split at h
  · exact absurd rfl h
  · rename_i h1; rw [if_neg h1]
theorem num_cell {bu bn bp off : Nat} {u : UpD} {w : World} (ha : w.heap[bu]? = some (.cells (upc u).toArray 25 (0, 0))) (hb : w.heap[bn]? = some (.cells #[.int .i64 u.no] 2 (0, 0))) (hc : w.heap[bp]? = some (.cells #[.int .i64 u.pos] 2 (0, 0))) (hoff : off ∈ [4, 5, 6, 7, 8, 9]) :
    ∃ pb po, (if off = 8 then (⟨bn, 0, none⟩ : Addr) else if off = 9 then ⟨bp, 0, none⟩ else ⟨bu, off, none⟩) = ⟨pb, po, none⟩ ∧ w.cell? ⟨pb, po, none⟩ = some (.int .i64 (numU u off)) := by
  simp only [List.mem_cons, List.not_mem_nil, or_false] at hoff
  rcases hoff with rfl | rfl | rfl | rfl | rfl | rfl
  · exact ⟨bu, 4, rfl, Lib.cell_of_heap ha 4⟩
  · exact ⟨bu, 5, rfl, Lib.cell_of_heap ha 5⟩
  · exact ⟨bu, 6, rfl, Lib.cell_of_heap ha 6⟩
  · exact ⟨bu, 7, rfl, Lib.cell_of_heap ha 7⟩
  · exact ⟨bn, 0, rfl, Lib.cell_of_heap hb 0⟩
  · exact ⟨bp, 0, rfl, Lib.cell_of_heap hc 0⟩
theorem fldT_len (u : UpD) (x : Fld) (h : GoodF u x) : (fldT u x).length ≤ 24 := (tokF_good u x h).2.2
theorem hqcC {bu bn bp bq oq : Nat} {k : Int} {w : World} (h : ∀ i x, (formD k)[i]? = some x → ∀ j u, (pdc bu bn bp x)[j]? = some u → w.cell? ⟨bq, oq + i * 4 + j, none⟩ = some u) {m : Nat} {y : Fld} (hy : (formD k)[m]? = some y) : ∀ j u, (pdc bu bn bp y)[j]? = some u → w.cell? ⟨bq, oq + m * 4 + j, none⟩ = some u := h m y hy
set_option maxHeartbeats 16000000 in
set_option maxRecDepth 100000 in
theorem ztext_any (k : Int) (nm : List UInt8) (no pos by_ fr ev ln : Int) (w : World) (hn : nm.length ≤ maxLen) : Calls Tryz.prog 10 #[.agg #[.int .i64 k, .string (ba nm), .int .i64 no, .int .i64 pos, .int .i64 by_, .int .i64 fr, .int .i64 ev, .int .i64 ln]] w fun e w' =>
    e = .returned (.tuple #[.string (ba (if checkU (⟨k, nm, no, pos, by_, fr, ev, ln⟩ : UpD) = 0 then textU (⟨k, nm, no, pos, by_, fr, ev, ln⟩ : UpD) else [])), .int .i64 (checkU (⟨k, nm, no, pos, by_, fr, ev, ln⟩ : UpD))]) ∧ Below w.heap.size w w' := by
  obtain ⟨c, hcc⟩ : ∃ c, checkU (⟨k, nm, no, pos, by_, fr, ev, ln⟩ : UpD) = c := ⟨_, rfl⟩
  obtain ⟨V, hV⟩ : ∃ V, ba (if checkU (⟨k, nm, no, pos, by_, fr, ev, ln⟩ : UpD) = 0 then textU (⟨k, nm, no, pos, by_, fr, ev, ln⟩ : UpD) else []) = V := ⟨_, rfl⟩
  rw [hV, hcc]
  have HCC := Lib.hid hcc
  have HV := Lib.hid hV
  clear hcc hV
  go_enter Tryz.func10, Tryz.ntmps10
  go_upto_region 1 with fail
  obtain ⟨w1, hw1⟩ : ∃ w1, w.alloc (.cells #[.int .i64 k, .string (ba nm), .int .i64 no, .int .i64 pos, .int .i64 by_, .int .i64 fr, .int .i64 ev, .int .i64 ln] 25) = w1 := ⟨_, rfl⟩
  have hu1 : w1.heap[w.heap.size]? = some (.cells #[.int .i64 k, .string (ba nm), .int .i64 no, .int .i64 pos, .int .i64 by_, .int .i64 fr, .int .i64 ev, .int .i64 ln] 25 (0, 0)) := by rw [← hw1]; exact heap_alloc_new _ _
  have HB1 := Lib.hid (show Below w.heap.size w w1 by rw [← hw1]; exact (Below.refl _ _).alloc (Nat.le_refl _) _)
  have HS1 := Lib.hid (show w.heap.size < w1.heap.size by rw [← hw1]; simp)
  rw [hw1]
  clear hw1
  have u0 : w1.cell? ⟨w.heap.size, 0, none⟩ = some (.int .i64 k) := Lib.cell_of_heap hu1 0
  have u1 : w1.cell? ⟨w.heap.size, 1, none⟩ = some (.string (ba nm)) := Lib.cell_of_heap hu1 1
  have u2 : w1.cell? ⟨w.heap.size, 2, none⟩ = some (.int .i64 no) := Lib.cell_of_heap hu1 2
  have u3 : w1.cell? ⟨w.heap.size, 3, none⟩ = some (.int .i64 pos) := Lib.cell_of_heap hu1 3
  have u4 : w1.cell? ⟨w.heap.size, 4, none⟩ = some (.int .i64 by_) := Lib.cell_of_heap hu1 4
  have u5 : w1.cell? ⟨w.heap.size, 5, none⟩ = some (.int .i64 fr) := Lib.cell_of_heap hu1 5
  have u6 : w1.cell? ⟨w.heap.size, 6, none⟩ = some (.int .i64 ev) := Lib.cell_of_heap hu1 6
  have u7 : w1.cell? ⟨w.heap.size, 7, none⟩ = some (.int .i64 ln) := Lib.cell_of_heap hu1 7
  have HU1 := Lib.hid hu1
  clear hu1
  go_wp2_with fail
  clear u0 u1 u2 u3 u4 u5 u6 u7
  refine (ycheck_any k nm no pos by_ fr ev ln w1 hn).mono ?_
  rintro e w2 ⟨rfl, hb2⟩
  have HU2 := Lib.hid ((hb2.block w.heap.size HS1.out).trans HU1.out)
  have HB2 := Lib.hid (HB1.out.trans (hb2.mono HB1.out.size))
  have HS2 := Lib.hid (show w.heap.size < w2.heap.size from Nat.lt_of_lt_of_le HS1.out hb2.size)
  clear hb2
  rw [HCC.out]
  by_cases hc : c = 0
  · subst hc
    have HGF := Lib.hid (check_form (⟨k, nm, no, pos, by_, fr, ev, ln⟩ : UpD) HCC.out)
    have u0 : w2.cell? ⟨w.heap.size, 0, none⟩ = some (.int .i64 k) := Lib.cell_of_heap HU2.out 0
    have u2 : w2.cell? ⟨w.heap.size, 2, none⟩ = some (.int .i64 no) := Lib.cell_of_heap HU2.out 2
    have u3 : w2.cell? ⟨w.heap.size, 3, none⟩ = some (.int .i64 pos) := Lib.cell_of_heap HU2.out 3
    go_upto_region 4 with fail
    clear u0 u2 u3
    obtain ⟨w3, hw3⟩ : ∃ w3, (w2.alloc (.cells #[.int .i64 no] 2)).alloc (.cells #[.int .i64 pos] 2) = w3 := ⟨_, rfl⟩
    have HU3 := Lib.hid (show w3.heap[w.heap.size]? = some (.cells #[.int .i64 k, .string (ba nm), .int .i64 no, .int .i64 pos, .int .i64 by_, .int .i64 fr, .int .i64 ev, .int .i64 ln] 25 (0, 0)) by rw [← hw3, Below.heap_alloc _ _ _ (by have := HS2.out; simp; omega), Below.heap_alloc _ _ _ HS2.out]; exact HU2.out)
    have HN3 := Lib.hid (show w3.heap[w2.heap.size]? = some (.cells #[.int .i64 no] 2 (0, 0)) by rw [← hw3, Below.heap_alloc _ _ _ (by simp)]; exact heap_alloc_new _ _)
    have HP3 := Lib.hid (show w3.heap[w2.heap.size + 1]? = some (.cells #[.int .i64 pos] 2 (0, 0)) by rw [← hw3]; exact alloc2_new _ _ _)
    have HB3 := Lib.hid (show Below w.heap.size w w3 by rw [← hw3]; exact (HB2.out.alloc HB2.out.size _).alloc (by have := HB2.out.size; simp; omega) _)
    have HS3 := Lib.hid (show w2.heap.size + 2 ≤ w3.heap.size by rw [← hw3]; simp)
    rw [hw3]
    clear hw3
    have u0 : w3.cell? ⟨w.heap.size, 0, none⟩ = some (.int .i64 k) := Lib.cell_of_heap HU3.out 0
    go_wp2_with fail
    clear u0
    refine (parts_any k w.heap.size w2.heap.size (w2.heap.size + 1) w3).mono ?_
    rintro e w4 ⟨v6, rfl, hsp, hb4⟩
    have HU4 := Lib.hid ((hb4.block w.heap.size (by have := HS2.out; have := HS3.out; omega)).trans HU3.out)
    have HN4 := Lib.hid ((hb4.block w2.heap.size (by have := HS3.out; omega)).trans HN3.out)
    have HP4 := Lib.hid ((hb4.block (w2.heap.size + 1) (by have := HS3.out; omega)).trans HP3.out)
    have HB4 := Lib.hid (HB3.out.trans (hb4.mono HB3.out.size))
    obtain ⟨x0, xs0, hf0⟩ := form_cons k
    obtain ⟨bq, oq, cq, rfl, _, _, _, _, hqc⟩ := hsp.form (by rw [hf0]; exact Nat.succ_pos _)
    have HQC := Lib.hid hqc
    have hlen8 := form_len k
    clear hsp hb4 hqc hf0
    go_wp2_with fail
    go_loopg [7, 8] (formD k).length (fun gg v7 v8 wr => ∃ m : Nat, m ≤ (formD k).length ∧ (formD k).length - m ≤ gg ∧ v8 = .int .i64 m ∧ v7 = .string (ba (Lib.join (((formD k).take m).map (fldT (⟨k, nm, no, pos, by_, fr, ev, ln⟩ : UpD))) [32])) ∧ w4 = wr)
    case atStart => exact ⟨0, Nat.zero_le _, Nat.le_refl _, rfl, rfl, rfl⟩
    case round =>
      obtain ⟨m, hm, hgm, rfl, rfl, rfl⟩ := hrel
      by_cases hml : m < (formD k).length
      · have q0 : (0 : Int) ≤ (m : Int) := by omega
        have q1 : (m : Int) < ((formD k).length : Int) := by omega
        obtain ⟨y, hy⟩ : ∃ y, (formD k)[m]? = some y := ⟨_, List.getElem?_eq_getElem hml⟩
        have HYO := Lib.hid (show okF y from form_ok k y (List.mem_of_getElem? hy))
        have hgy : GoodF (⟨k, nm, no, pos, by_, fr, ev, ln⟩ : UpD) y := HGF.out y (List.mem_of_getElem? hy)
        have hjl : (Lib.join (((formD k).take m).map (fldT (⟨k, nm, no, pos, by_, fr, ev, ln⟩ : UpD))) [32]).length ≤ 200 := by
          have h := join_len (((formD k).take m).map (fldT (⟨k, nm, no, pos, by_, fr, ev, ln⟩ : UpD))) (fun x hx => by
            obtain ⟨z, hz, rfl⟩ := List.mem_map.1 hx
            exact fldT_len _ z (HGF.out z (List.mem_of_mem_take hz)))
          rw [List.length_map, List.length_take] at h
          omega
        have hfl := fldT_len _ y hgy
        have htk : ((formD k).take (m + 1)).map (fldT (⟨k, nm, no, pos, by_, fr, ev, ln⟩ : UpD)) = ((formD k).take m).map (fldT (⟨k, nm, no, pos, by_, fr, ev, ln⟩ : UpD)) ++ [fldT (⟨k, nm, no, pos, by_, fr, ev, ln⟩ : UpD) y] := by
          rw [List.take_add_one, hy, List.map_append]; rfl
        have HYC := Lib.hid (hqcC HQC.out hy)
        have HTK := Lib.hid htk
        have hne : m ≠ 0 → ((formD k).take m).map (fldT (⟨k, nm, no, pos, by_, fr, ev, ln⟩ : UpD)) ≠ [] := fun h e => by
          have := congrArg List.length e
          rw [List.length_map, List.length_take, List.length_nil] at this
          omega
        have hzz : m = 0 → ((formD k).take m).map (fldT (⟨k, nm, no, pos, by_, fr, ev, ln⟩ : UpD)) = [] := fun h => by rw [h]; rfl
        obtain ⟨P, hP⟩ : ∃ P, ((formD k).take m).map (fldT (⟨k, nm, no, pos, by_, fr, ev, ln⟩ : UpD)) = P := ⟨_, rfl⟩
        rw [hP] at hjl hne hzz HTK ⊢
        obtain ⟨A, hA⟩ : ∃ A, Lib.join P [32] = A := ⟨_, rfl⟩
        rw [hA] at hjl ⊢
        have hsA : (ba A).size ≤ 200 := by rw [ba_size]; exact hjl
        have HGF := Lib.hid hgy
        have hf24 : (ba (fldT (⟨k, nm, no, pos, by_, fr, ev, ln⟩ : UpD) y)).size ≤ 24 := by rw [ba_size]; exact hfl
        clear hP htk hy hgy
        by_cases h0 : m = 0
        · have HNX := Lib.hid (show Value.string (ba A ++ ba (fldT (⟨k, nm, no, pos, by_, fr, ev, ln⟩ : UpD) y)) = .string (ba (Lib.join (((formD k).take (m + 1)).map (fldT (⟨k, nm, no, pos, by_, fr, ev, ln⟩ : UpD))) [32])) by
            rw [HTK.out, hzz h0, join_snoc0, ← hA, hzz h0, ba_appK]; rfl)
          have q2 : ¬ (0 : Int) < (m : Int) := by omega
          have hfs : (ba A ++ ba (fldT (⟨k, nm, no, pos, by_, fr, ev, ln⟩ : UpD) y)).size ≤ 400 := by rw [ByteArray.size_append, ba_size (fldT (⟨k, nm, no, pos, by_, fr, ev, ln⟩ : UpD) y)]; omega
          clear hjl hne hzz hA h0 hfl
          cases y with
          | word wd =>
            dsimp only [fldT] at hfs hf24
            have y0 : w4.cell? ⟨bq, oq + m * 4, none⟩ = some (.string (ba wd)) := by simpa using HYC.out 0 _ rfl
            have y1 : w4.cell? ⟨bq, oq + m * 4 + 1, none⟩ = some (.pointer none) := by simpa using HYC.out 1 _ rfl
            have y2 : w4.cell? ⟨bq, oq + m * 4 + 2, none⟩ = some (.pointer none) := by simpa using HYC.out 2 _ rfl
            go_wp2_with fail
            go_roundg ((formD k).length - (m + 1))
            case measure => omega
            case rel => exact ⟨m + 1, hml, by omega, by go_num, HNX.out, rfl⟩
          | name =>
            dsimp only [fldT] at hfs hf24
            have y0 : w4.cell? ⟨bq, oq + m * 4, none⟩ = some (.string ⟨#[]⟩) := by simpa using HYC.out 0 _ rfl
            have y1 : w4.cell? ⟨bq, oq + m * 4 + 1, none⟩ = some (.pointer (some ⟨w.heap.size, 1, none⟩)) := by simpa using HYC.out 1 _ rfl
            have y2 : w4.cell? ⟨bq, oq + m * 4 + 2, none⟩ = some (.pointer none) := by simpa using HYC.out 2 _ rfl
            have p1 : w4.cell? ⟨w.heap.size, 1, none⟩ = some (.string (ba nm)) := Lib.cell_of_heap HU4.out 1
            go_wp2_with fail
            go_roundg ((formD k).length - (m + 1))
            case measure => omega
            case rel => exact ⟨m + 1, hml, by omega, by go_num, HNX.out, rfl⟩
          | num off low =>
            obtain ⟨pb, po, hpe, p1⟩ := num_cell (u := (⟨k, nm, no, pos, by_, fr, ev, ln⟩ : UpD)) HU4.out HN4.out HP4.out HYO.out
            have y0 : w4.cell? ⟨bq, oq + m * 4, none⟩ = some (.string ⟨#[]⟩) := by simpa using HYC.out 0 _ rfl
            have y1 : w4.cell? ⟨bq, oq + m * 4 + 1, none⟩ = some (.pointer none) := by simpa using HYC.out 1 _ rfl
            have y2 : w4.cell? ⟨bq, oq + m * 4 + 2, none⟩ = some (.pointer (some ⟨pb, po, none⟩)) := by rw [← hpe]; exact HYC.out 2 _ rfl
            have HTX := Lib.hid (show (⟨(Tk.textB (numU (⟨k, nm, no, pos, by_, fr, ev, ln⟩ : UpD) off)).toArray⟩ : ByteArray) = ba (fldT (⟨k, nm, no, pos, by_, fr, ev, ln⟩ : UpD) (.num off low)) by rw [itoa_text HGF.out.1]; rfl)
            obtain ⟨nv, hnv⟩ : ∃ nv, numU (⟨k, nm, no, pos, by_, fr, ev, ln⟩ : UpD) off = nv := ⟨_, rfl⟩
            rw [hnv] at p1 HTX
            clear hpe hnv
            go_wp2_with fail
            refine (rtext_any nv w4).mono ?_
            rintro e w5 ⟨rfl, rfl⟩
            rw [HTX.out]
            go_wp2_with fail
            go_roundg ((formD k).length - (m + 1))
            case measure => omega
            case rel => exact ⟨m + 1, hml, by omega, by go_num, HNX.out, rfl⟩
        · have HNX := Lib.hid (show Value.string (ba A ++ ⟨#[32]⟩ ++ ba (fldT (⟨k, nm, no, pos, by_, fr, ev, ln⟩ : UpD) y)) = .string (ba (Lib.join (((formD k).take (m + 1)).map (fldT (⟨k, nm, no, pos, by_, fr, ev, ln⟩ : UpD))) [32])) by
            rw [HTK.out, join_snoc _ _ (hne h0), hA, show (⟨#[32]⟩ : ByteArray) = ba [32] from rfl, ba_appK, ba_appK])
          have q2 : (0 : Int) < (m : Int) := by omega
          have hs1 : (ba A ++ ⟨#[32]⟩).size ≤ 201 := by rw [ByteArray.size_append]; exact Nat.add_le_add hsA (Nat.le_refl _)
          have hfs : (ba A ++ ⟨#[32]⟩ ++ ba (fldT (⟨k, nm, no, pos, by_, fr, ev, ln⟩ : UpD) y)).size ≤ 400 := by rw [ByteArray.size_append, ba_size (fldT (⟨k, nm, no, pos, by_, fr, ev, ln⟩ : UpD) y)]; omega
          clear hjl hne hzz hA h0 hfl
          cases y with
          | word wd =>
            dsimp only [fldT] at hfs hf24
            have y0 : w4.cell? ⟨bq, oq + m * 4, none⟩ = some (.string (ba wd)) := by simpa using HYC.out 0 _ rfl
            have y1 : w4.cell? ⟨bq, oq + m * 4 + 1, none⟩ = some (.pointer none) := by simpa using HYC.out 1 _ rfl
            have y2 : w4.cell? ⟨bq, oq + m * 4 + 2, none⟩ = some (.pointer none) := by simpa using HYC.out 2 _ rfl
            go_wp2_with fail
            go_roundg ((formD k).length - (m + 1))
            case measure => omega
            case rel => exact ⟨m + 1, hml, by omega, by go_num, HNX.out, rfl⟩
          | name =>
            dsimp only [fldT] at hfs hf24
            have y0 : w4.cell? ⟨bq, oq + m * 4, none⟩ = some (.string ⟨#[]⟩) := by simpa using HYC.out 0 _ rfl
            have y1 : w4.cell? ⟨bq, oq + m * 4 + 1, none⟩ = some (.pointer (some ⟨w.heap.size, 1, none⟩)) := by simpa using HYC.out 1 _ rfl
            have y2 : w4.cell? ⟨bq, oq + m * 4 + 2, none⟩ = some (.pointer none) := by simpa using HYC.out 2 _ rfl
            have p1 : w4.cell? ⟨w.heap.size, 1, none⟩ = some (.string (ba nm)) := Lib.cell_of_heap HU4.out 1
            go_wp2_with fail
            go_roundg ((formD k).length - (m + 1))
            case measure => omega
            case rel => exact ⟨m + 1, hml, by omega, by go_num, HNX.out, rfl⟩
          | num off low =>
            obtain ⟨pb, po, hpe, p1⟩ := num_cell (u := (⟨k, nm, no, pos, by_, fr, ev, ln⟩ : UpD)) HU4.out HN4.out HP4.out HYO.out
            have y0 : w4.cell? ⟨bq, oq + m * 4, none⟩ = some (.string ⟨#[]⟩) := by simpa using HYC.out 0 _ rfl
            have y1 : w4.cell? ⟨bq, oq + m * 4 + 1, none⟩ = some (.pointer none) := by simpa using HYC.out 1 _ rfl
            have y2 : w4.cell? ⟨bq, oq + m * 4 + 2, none⟩ = some (.pointer (some ⟨pb, po, none⟩)) := by rw [← hpe]; exact HYC.out 2 _ rfl
            have HTX := Lib.hid (show (⟨(Tk.textB (numU (⟨k, nm, no, pos, by_, fr, ev, ln⟩ : UpD) off)).toArray⟩ : ByteArray) = ba (fldT (⟨k, nm, no, pos, by_, fr, ev, ln⟩ : UpD) (.num off low)) by rw [itoa_text HGF.out.1]; rfl)
            obtain ⟨nv, hnv⟩ : ∃ nv, numU (⟨k, nm, no, pos, by_, fr, ev, ln⟩ : UpD) off = nv := ⟨_, rfl⟩
            rw [hnv] at p1 HTX
            clear hpe hnv
            go_wp2_with fail
            refine (rtext_any nv w4).mono ?_
            rintro e w5 ⟨rfl, rfl⟩
            rw [HTX.out]
            go_wp2_with fail
            go_roundg ((formD k).length - (m + 1))
            case measure => omega
            case rel => exact ⟨m + 1, hml, by omega, by go_num, HNX.out, rfl⟩
      · have hme : m = (formD k).length := by omega
        subst hme
        have q1 : ¬ ((formD k).length : Int) < ((formD k).length : Int) := Int.lt_irrefl _
        have HTX := Lib.hid (show Lib.join (((formD k).take (formD k).length).map (fldT (⟨k, nm, no, pos, by_, fr, ev, ln⟩ : UpD))) [32] = textU (⟨k, nm, no, pos, by_, fr, ev, ln⟩ : UpD) by rw [List.take_length]; rfl)
        rw [HTX.out]
        go_wp2_with fail
        go_ret2
        exact ⟨by rw [← HV.out, if_pos HCC.out]; rfl, HB4.out⟩
  · obtain rfl : c = 2 := by rw [← HCC.out]; exact check_two _ (by rw [HCC.out]; exact hc)
    clear hc
    go_wp2_with fail
    go_ret2
    exact ⟨by rw [← HV.out, if_neg (by rw [HCC.out]; decide)]; rfl, HB2.out⟩
end Go.Proofs.YtlclkeihkkpdbaaGreatDoor
