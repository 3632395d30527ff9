/- The walks of tick.Text at a tick, and of strings.Join with blanks between. -/
import Derived.Test.YtlclkeihkkpdbaaGreatDoorUn
import Derived.Test.YtlclkeihkkpdbaaGreatDoorUtx
import Derived.Shelf.Strings.OnBuilder
import Derived.Shelf.Strings.BuilderX
namespace Go.Proofs.YtlclkeihkkpdbaaGreatDoor
open Go.RowKit Go.Shelf
/-- The table of powers of ten holds what it was laid with. -/
def Pow (w : World) : Prop := Lib.TabIs Tryz.prog w "internal/strconv.uint64pow10" .u64 Lib.pow10Tab
theorem Pow.below {w w' : World} (h : Pow w) (hb : Below w.heap.size w w') : Pow w' := Lib.tabBelow_of_tabIs h w' hb
set_option maxHeartbeats 400000 in
theorem tis_any (t : Int) (h : IsTk t) (w : World) : Calls Tryz.prog 37 #[.int .i64 t] w fun e w' => e = .returned (.bool true) ∧ w = w' := by
  have h2 := Tk.chk_ok h
  have h3 : (t == 4611686018427387904) = false := beq_eq_false_iff_ne.2 (by have := h.2; omega)
  clear h
  go_enter Tryz.func37, Tryz.ntmps37
  go_wp2_with (go_at_call 56; refine (check_any _ _).mono ?_; rintro e w' ⟨rfl, rfl⟩)
  go_ret
  exact ⟨rfl, rfl⟩
set_option maxHeartbeats 1000000 in
theorem ttext_any (t : Int) (ht : IsTk t) (w : World) (hP : Pow w) :
    Calls Tryz.prog 21 #[.int .i64 t] w fun e w' => e = .returned (.string (ba (Lib.itoa t))) ∧ Below w.heap.size w w' := by
  have h3 : (t == 4611686018427387904) = false := beq_eq_false_iff_ne.2 (by have := ht.2; omega)
  have hpos : 0 < (Lib.itoa t).length := by
    obtain ⟨⟨b, r, e, _⟩, _⟩ := num_parts ht
    rw [e]; exact Nat.succ_pos _
  have hT := Lib.tabBelow_of_tabIs hP
  obtain ⟨t1, t2⟩ := ht
  obtain ⟨l, hl⟩ : ∃ l, Hid (Lib.itoa t = l) := ⟨_, Lib.hid rfl⟩
  rw [hl.out] at hpos
  rw [hl.out]
  have hc := Any.strconv_AppendInt_10 Tryz.laysM176 w.heap.size 0 t (by omega) (by omega) (.slice none 0 0) [] w (World.ownsRow_nil _ _ _ _) (Nat.le_refl _) (by omega) hT
  rw [hl.out] at hc
  have Hc := Lib.hid hc
  have HI := Lib.hid (tis_any t ⟨t1, t2⟩)
  clear hc hT hP
  go_enter Tryz.func21, Tryz.ntmps21
  go_wp2_with (first | (go_at_call 37; refine (HI.out _).mono ?_; rintro e w' ⟨rfl, rfl⟩) | (go_at_call 38; refine Hc.out.mono ?_; rintro e w1 ⟨v1, rfl, hown1, hnx1, -⟩; refine Hid.out ?_))
  refine Lib.hid ?_
  rw [Nat.zero_add, List.nil_append] at hown1
  rcases hown1.2 with ⟨-, h0⟩ | ⟨g, cap, cur, rfl, -, -, -, -, -, -⟩
  · omega
  · have hcv := run_convert_bytes_back (P := Tryz.prog) w1 82 9 5 ⟨g, 0, none⟩ cap l Tryz.underlying82 Tryz.underlying5 Tryz.underlying9 (fun j hj => hown1.cells (g := g) rfl j _ (by simp [Lib.byteCells, hj]))
    go_wp2
    go_ret
    exact ⟨rfl, hnx1⟩
theorem joinX (r : Go.Shelf.Ren) (h : r.t = Tryz.lays156_ren.t) : Go.Proofs.Builder.Extra Tryz.prog r := by
  obtain ⟨f, t, g⟩ := r
  obtain rfl : t = Tryz.lays156_ren.t := h
  exact { sizeBuilder := by kernel_rfl, liesBuilder := by kernel_rfl, t5 := Tryz.underlying5, a5 := Tryz.isAgg5, z5 := Tryz.sizeOf5, v5 := Tryz.zeroValue5, infoByte := by kernel_rfl, cellsByte := by kernel_rfl, sizeByte := by kernel_rfl, neB5 := (show ¬ (86 : Nat) = 5 by decide) }
theorem map_ba (l : List (List UInt8)) : ((l.map ba).map fun s : ByteArray => s.data.toList) = l := by
  rw [List.map_map]
  conv => rhs; rw [← List.map_id l]
  exact List.map_congr_left fun s _ => rfl
theorem join_any (w : World) (v : Value) (L : List (List UInt8)) {Pr : Nat → Prop} (hs : Sl nc 1 w v L Pr) (h1 : 2 ≤ L.length) (h3 : L.length ≤ 8) (hl : (Lib.join L [32]).length ≤ 4096) :
    Calls Tryz.prog 22 #[v, .string ⟨#[32]⟩] w fun e w' => e = .returned (.string (ba (Lib.join L [32]))) ∧ Below w.heap.size w w' := by
  obtain ⟨b, off, cap, rfl, hc1, hc2, hb, _, hx⟩ := hs.form (by omega)
  have hh := Any.strings_Join Tryz.lays156 (joinX _ rfl) b off cap (L.map ba) ⟨#[32]⟩ w (fun j x hj => by
    rw [List.getElem?_map] at hj
    rcases hr : L[j]? with _ | y
    · rw [hr] at hj; cases hj
    · rw [hr] at hj
      injection hj with hj
      subst hj
      have := hx j y hr 0 _ rfl
      simpa using this) hb (by rw [List.length_map]; omega) (by rw [List.length_map]; exact hc1) (by rw [show (⟨#[32]⟩ : ByteArray).data.toList = [32] from rfl, map_ba]; omega)
  rw [List.length_map, show (⟨#[32]⟩ : ByteArray).data.toList = [32] from rfl, map_ba] at hh
  exact hh
end Go.Proofs.YtlclkeihkkpdbaaGreatDoor
/- The walk of change.Text. -/
namespace Go.Proofs.YtlclkeihkkpdbaaGreatDoor
open Go.RowKit
theorem info_strU : (Tryz.prog.info? 9).map (fun i => (i.zero, i.size, i.bytes)) = some (some (.string ByteArray.empty), 1, 16) := by kernel_rfl
theorem nc_oneU : ∀ x, ∀ u ∈ nc x, u.oneCell' = true := by intro x u hu; simp [nc] at hu; subst hu; rfl
/-- A number of a form. -/
theorem form_numU {B b off : Nat} {u : UpD} {fs : List Fld} {w : World} (h : FormAt B b ⟨u, u.no, u.pos⟩ fs w) (hoff : off ∈ [4, 5, 6, 7, 8, 9]) : w.cell? ⟨b, off, none⟩ = some (.int .i64 (numU u off)) := by
  obtain ⟨v, h1, h2⟩ := h
  simp only [List.mem_cons, List.not_mem_nil, or_false] at hoff
  rcases hoff with rfl | rfl | rfl | rfl | rfl | rfl <;> exact Lib.cell_of_heap h1 _
set_option maxHeartbeats 4000000 in
set_option maxRecDepth 100000 in
theorem utext_any (k : Int) (nm : List UInt8) (no pos by_ fr ev ln : Int) (w : World) (hn : nm.length ≤ maxLen) (hT : Tabs w) (hP : Pow w) : Calls Tryz.prog 9 #[.agg #[.int .i64 k, .string (ba nm), .int .i64 no, .int .i64 pos, .int .i64 by_, .int .i64 fr, .int .i64 ev, .int .i64 ln]] w fun e w' =>
    e = .returned (.tuple #[.string (ba (if checkU ⟨k, nm, no, pos, by_, fr, ev, ln⟩ = 0 then textU ⟨k, nm, no, pos, by_, fr, ev, ln⟩ else [])), .int .i64 (checkU ⟨k, nm, no, pos, by_, fr, ev, ln⟩)]) ∧ Below w.heap.size w w' := by
  obtain ⟨i0, hi0, hy0, hy1, hy2⟩ := info_parts info_strU
  have HT := Lib.hid hT
  have HP := Lib.hid hP
  clear hT hP
  by_cases h0 : checkU ⟨k, nm, no, pos, by_, fr, ev, ln⟩ = 0
  · rw [if_pos h0, h0]
    have HG := Lib.hid (check_form _ h0)
    have hlen := form_len k
    have htf := (text_facts _ h0).2
    have HTL := Lib.hid htf
    clear htf
    go_enter Tryz.func9, Tryz.ntmps9
    go_wp2_with fail
    obtain ⟨w0, hw0⟩ : ∃ w0, w.alloc (.cells #[.int .i64 k, .string (ba nm), .int .i64 no, .int .i64 pos, .int .i64 by_, .int .i64 fr, .int .i64 ev, .int .i64 ln] 25) = w0 := ⟨_, rfl⟩
    have HU0 := Lib.hid (show w0.heap[w.heap.size]? = some (.cells #[.int .i64 k, .string (ba nm), .int .i64 no, .int .i64 pos, .int .i64 by_, .int .i64 fr, .int .i64 ev, .int .i64 ln] 25 (0, 0)) by rw [← hw0]; exact heap_alloc_new _ _)
    have HB0 := Lib.hid (show Below w.heap.size w w0 by rw [← hw0]; exact (Below.refl _ _).alloc (Nat.le_refl _) _)
    rw [hw0]
    clear hw0
    have hcu := ucheck_any k nm no pos by_ fr ev ln w0 hn (HT.out.below HB0.out)
    rw [h0] at hcu
    refine hcu.mono ?_
    clear hcu h0
    rintro e w1 ⟨rfl, hb1⟩
    have hu1 := (hb1.block w.heap.size (Array.getElem?_eq_some_iff.1 HU0.out).1).trans HU0.out
    have HB1 := Lib.hid (HB0.out.trans (hb1.mono HB0.out.size))
    have u0 : w1.cell? ⟨w.heap.size, 0, none⟩ = some (.int .i64 k) := Lib.cell_of_heap hu1 0
    have u1 : w1.cell? ⟨w.heap.size, 1, none⟩ = some (.string (ba nm)) := Lib.cell_of_heap hu1 1
    have u2 : w1.cell? ⟨w.heap.size, 2, none⟩ = some (.int .i64 no) := Lib.cell_of_heap hu1 2
    have u3 : w1.cell? ⟨w.heap.size, 3, none⟩ = some (.int .i64 pos) := Lib.cell_of_heap hu1 3
    have u4 : w1.cell? ⟨w.heap.size, 4, none⟩ = some (.int .i64 by_) := Lib.cell_of_heap hu1 4
    have u5 : w1.cell? ⟨w.heap.size, 5, none⟩ = some (.int .i64 fr) := Lib.cell_of_heap hu1 5
    have u6 : w1.cell? ⟨w.heap.size, 6, none⟩ = some (.int .i64 ev) := Lib.cell_of_heap hu1 6
    have u7 : w1.cell? ⟨w.heap.size, 7, none⟩ = some (.int .i64 ln) := Lib.cell_of_heap hu1 7
    clear hb1 hu1 HU0 HB0
    go_wp2_with fail
    clear u0 u1 u2 u3 u4 u5 u6 u7
    have hbl := blank_any k nm no pos by_ fr ev ln w1 (HT.out.below HB1.out)
    refine hbl.mono ?_
    clear hbl
    rintro e w2 ⟨rfl, hF, hb2⟩
    have HF := Lib.hid hF
    obtain ⟨v, hfb, hov⟩ := hF
    obtain ⟨A0, n0, c0, rfl⟩ := ow_form hov
    have hn0 : n0 = (formD k).length := by
      obtain ⟨A, cap, e, _⟩ := hov.shape
      injection e
    subst hn0
    have c10 : w2.cell? ⟨w1.heap.size + 1, 10, none⟩ = some (.slice A0 (formD k).length c0) := Lib.cell_of_heap hfb 10
    have HB2 := Lib.hid (HB1.out.trans (hb2.mono HB1.out.size))
    have HOV := Lib.hid (hov.sl (fdc_len _) |>.mono (P' := fun _ => True) fun _ _ => trivial)
    have hz12 : w1.heap.size + 1 < w2.heap.size := (Array.getElem?_eq_some_iff.1 hfb).1
    clear hb2 hfb hov
    go_wp2_with fail
    clear c10
    go_loopg [5, 19] (formD k).length (fun gg v5 i wr => ∃ j : Nat, j ≤ (formD k).length ∧ (formD k).length - j ≤ gg ∧ i = .int .i64 j ∧ Ow nc 1 wr w2.heap.size 9 v5 ((partsU ⟨k, nm, no, pos, by_, fr, ev, ln⟩).take j) ∧ Below w2.heap.size w2 wr)
    case atStart => exact ⟨0, Nat.zero_le _, by omega, rfl, Ow.nil_, Below.refl _ _⟩
    case round =>
      obtain ⟨j, hj, hgj, rfl, ho, hb⟩ := hrel
      obtain ⟨Av, nv, cv, rfl⟩ := ow_form ho
      have HO := Lib.hid ho
      have HB := Lib.hid hb
      clear ho hb
      by_cases hjl : j < (formD k).length
      · have q0 : (0 : Int) ≤ (j : Int) := by omega
        have q1 : (j : Int) < ((formD k).length : Int) := by omega
        obtain ⟨x, hx⟩ : ∃ x, (formD k)[j] = x := ⟨_, rfl⟩
        have hxm : x ∈ formD k := by rw [← hx]; exact List.getElem_mem _
        have hgx : GoodF ⟨k, nm, no, pos, by_, fr, ev, ln⟩ x := HG.out x hxm
        have hokx := form_ok k x hxm
        have hpl : ((partsU ⟨k, nm, no, pos, by_, fr, ev, ln⟩).take j).length ≤ 8 := by rw [List.length_take]; omega
        have HNEXT := Lib.hid (show (partsU ⟨k, nm, no, pos, by_, fr, ev, ln⟩).take (j + 1) = (partsU ⟨k, nm, no, pos, by_, fr, ev, ln⟩).take j ++ [fldT ⟨k, nm, no, pos, by_, fr, ev, ln⟩ x] by
          have hg : (partsU ⟨k, nm, no, pos, by_, fr, ev, ln⟩)[j]? = some (fldT ⟨k, nm, no, pos, by_, fr, ev, ln⟩ x) := by unfold partsU; rw [List.getElem?_map, List.getElem?_eq_getElem hjl, hx]; rfl
          rw [List.take_add_one, hg]; rfl)
        obtain ⟨b4, o4, c4, e4, _, _, hb4, _, hx4⟩ := HOV.out.form (by omega)
        have e5 := (Value.slice.inj e4).1
        have e6 := (Value.slice.inj e4).2.2
        subst e5 e6
        have hxx : ∀ i y, (fdc (w1.heap.size + 1) x)[i]? = some y → wr.cell? ⟨b4, o4 + j * 4 + i, none⟩ = some y := fun i y hy => (HB.out.cell (p := ⟨b4, o4 + j * 4 + i, none⟩) hb4).trans (hx4 j x (by rw [List.getElem?_eq_getElem hjl, hx]) i y hy)
        clear hx4 e4 hx hxm
        cases x with
        | word wd =>
          have s0 : wr.cell? ⟨b4, o4 + j * 4, none⟩ = some (.string (ba wd)) := hxx 0 _ rfl
          have s1 : wr.cell? ⟨b4, o4 + j * 4 + 1, none⟩ = some (.pointer none) := hxx 1 _ rfl
          have s2 : wr.cell? ⟨b4, o4 + j * 4 + 2, none⟩ = some (.pointer none) := hxx 2 _ rfl
          have s3 : wr.cell? ⟨b4, o4 + j * 4 + 3, none⟩ = some (.int .i64 0) := hxx 3 _ rfl
          clear hxx hgx hokx
          go_upto_region 9 with fail
          obtain ⟨cx, hcx⟩ : ∃ cx : Array Value, cx = #[.string (ba wd), .pointer none, .pointer none, .int .i64 0] := ⟨_, rfl⟩
          obtain ⟨wX, hwX⟩ : ∃ wX, wr.alloc (.cells cx 61) = wX := ⟨_, rfl⟩
          have hXX : wX.heap[wr.heap.size]? = some (.cells cx 61 (0, 0)) := by rw [← hwX]; exact heap_alloc_new _ _
          have HOX := Lib.hid (show Ow nc 1 wX w2.heap.size 9 (.slice Av nv cv) ((partsU ⟨k, nm, no, pos, by_, fr, ev, ln⟩).take j) by rw [← hwX]; exact HO.out.alloc _)
          have HBX := Lib.hid (show Below w2.heap.size w2 wX by rw [← hwX]; exact HB.out.alloc HB.out.size _)
          subst hcx
          rw [hwX]
          have x0 : wX.cell? ⟨wr.heap.size, 0, none⟩ = some (.string (ba wd)) := Lib.cell_of_heap hXX 0
          have x1 : wX.cell? ⟨wr.heap.size, 1, none⟩ = some (.pointer none) := Lib.cell_of_heap hXX 1
          have x2 : wX.cell? ⟨wr.heap.size, 2, none⟩ = some (.pointer none) := Lib.cell_of_heap hXX 2
          clear s0 s1 s2 s3 hXX hwX HO HB
          go_wp2_with (at_builtin; refine wpList_append_sl _ rfl _ _ _ rfl w2.heap.size 9 i0 _ 16 Tryz.underlying52 hi0 hy0 hy1 hy2 (by rfl) (by omega) nc_len nc_oneU _ _ ((partsU ⟨k, nm, no, pos, by_, fr, ev, ln⟩).take j) [wd] rfl rfl (HOX.out.alloc _) (Sl.newl [wd] nc_len rfl rfl (by show 1 ≤ maxLen; decide) rfl) (by simp only [maxLen, List.length_cons, List.length_nil]; omega) (by simp only [List.length_cons, List.length_nil]; omega) (by have := HBX.out.size; simp; omega) ?_; intro v6 w6 hown6 hg6 hmv6)
          go_roundg ((formD k).length - (j + 1))
          case measure => omega
          case rel =>
            refine ⟨j + 1, by omega, by omega, by go_num, ?_, ?_⟩
            · rw [HNEXT.out]; exact hown6
            · exact (HBX.out.alloc HBX.out.size _).grown hg6 (by have := HBX.out.size; simp; omega) fun q hq => (HOX.out.lt hq).1
        | name =>
          have s0 : wr.cell? ⟨b4, o4 + j * 4, none⟩ = some (.string ⟨#[]⟩) := hxx 0 _ rfl
          have s1 : wr.cell? ⟨b4, o4 + j * 4 + 1, none⟩ = some (.pointer (some ⟨w1.heap.size + 1, 1, none⟩)) := hxx 1 _ rfl
          have s2 : wr.cell? ⟨b4, o4 + j * 4 + 2, none⟩ = some (.pointer none) := hxx 2 _ rfl
          have s3 : wr.cell? ⟨b4, o4 + j * 4 + 3, none⟩ = some (.int .i64 0) := hxx 3 _ rfl
          clear hxx hgx hokx
          go_upto_region 9 with fail
          obtain ⟨cx, hcx⟩ : ∃ cx : Array Value, cx = #[.string ⟨#[]⟩, .pointer (some ⟨w1.heap.size + 1, 1, none⟩), .pointer none, .int .i64 0] := ⟨_, rfl⟩
          obtain ⟨wX, hwX⟩ : ∃ wX, wr.alloc (.cells cx 61) = wX := ⟨_, rfl⟩
          have hXX : wX.heap[wr.heap.size]? = some (.cells cx 61 (0, 0)) := by rw [← hwX]; exact heap_alloc_new _ _
          have HOX := Lib.hid (show Ow nc 1 wX w2.heap.size 9 (.slice Av nv cv) ((partsU ⟨k, nm, no, pos, by_, fr, ev, ln⟩).take j) by rw [← hwX]; exact HO.out.alloc _)
          have HBX := Lib.hid (show Below w2.heap.size w2 wX by rw [← hwX]; exact HB.out.alloc HB.out.size _)
          subst hcx
          rw [hwX]
          have x0 : wX.cell? ⟨wr.heap.size, 0, none⟩ = some (.string ⟨#[]⟩) := Lib.cell_of_heap hXX 0
          have x1 : wX.cell? ⟨wr.heap.size, 1, none⟩ = some (.pointer (some ⟨w1.heap.size + 1, 1, none⟩)) := Lib.cell_of_heap hXX 1
          have y1 : wX.cell? ⟨w1.heap.size + 1, 1, none⟩ = some (.string (ba nm)) := by
            obtain ⟨v, hfb, _⟩ := HF.out
            exact (HBX.out.cell (p := ⟨w1.heap.size + 1, 1, none⟩) hz12).trans (Lib.cell_of_heap hfb 1)
          clear s0 s1 s2 s3 hXX hwX HO HB
          rw [show fldT ⟨k, nm, no, pos, by_, fr, ev, ln⟩ .name = nm from rfl] at HNEXT
          go_wp2_with (at_builtin; refine wpList_append_sl _ rfl _ _ _ rfl w2.heap.size 9 i0 _ 16 Tryz.underlying52 hi0 hy0 hy1 hy2 (by rfl) (by omega) nc_len nc_oneU _ _ ((partsU ⟨k, nm, no, pos, by_, fr, ev, ln⟩).take j) [nm] rfl rfl (HOX.out.alloc _) (Sl.newl [nm] nc_len rfl rfl (by show 1 ≤ maxLen; decide) rfl) (by simp only [maxLen, List.length_cons, List.length_nil]; omega) (by simp only [List.length_cons, List.length_nil]; omega) (by have := HBX.out.size; simp; omega) ?_; intro v6 w6 hown6 hg6 hmv6)
          go_roundg ((formD k).length - (j + 1))
          case measure => omega
          case rel =>
            refine ⟨j + 1, by omega, by omega, by go_num, ?_, ?_⟩
            · rw [HNEXT.out]; exact hown6
            · exact (HBX.out.alloc HBX.out.size _).grown hg6 (by have := HBX.out.size; simp; omega) fun q hq => (HOX.out.lt hq).1
        | num off low =>
          have s0 : wr.cell? ⟨b4, o4 + j * 4, none⟩ = some (.string ⟨#[]⟩) := hxx 0 _ rfl
          have s1 : wr.cell? ⟨b4, o4 + j * 4 + 1, none⟩ = some (.pointer none) := hxx 1 _ rfl
          have s2 : wr.cell? ⟨b4, o4 + j * 4 + 2, none⟩ = some (.pointer (some ⟨w1.heap.size + 1, off, none⟩)) := hxx 2 _ rfl
          have s3 : wr.cell? ⟨b4, o4 + j * 4 + 3, none⟩ = some (.int .i64 low) := hxx 3 _ rfl
          have HTK := Lib.hid hgx.1
          have HOK := Lib.hid (show off ∈ [4, 5, 6, 7, 8, 9] from hokx)
          clear hxx hgx hokx
          go_upto_region 9 with fail
          obtain ⟨cx, hcx⟩ : ∃ cx : Array Value, cx = #[.string ⟨#[]⟩, .pointer none, .pointer (some ⟨w1.heap.size + 1, off, none⟩), .int .i64 low] := ⟨_, rfl⟩
          obtain ⟨wX, hwX⟩ : ∃ wX, wr.alloc (.cells cx 61) = wX := ⟨_, rfl⟩
          have hXX : wX.heap[wr.heap.size]? = some (.cells cx 61 (0, 0)) := by rw [← hwX]; exact heap_alloc_new _ _
          have HOX := Lib.hid (show Ow nc 1 wX w2.heap.size 9 (.slice Av nv cv) ((partsU ⟨k, nm, no, pos, by_, fr, ev, ln⟩).take j) by rw [← hwX]; exact HO.out.alloc _)
          have HBX := Lib.hid (show Below w2.heap.size w2 wX by rw [← hwX]; exact HB.out.alloc HB.out.size _)
          subst hcx
          rw [hwX]
          have x0 : wX.cell? ⟨wr.heap.size, 0, none⟩ = some (.string ⟨#[]⟩) := Lib.cell_of_heap hXX 0
          have x1 : wX.cell? ⟨wr.heap.size, 1, none⟩ = some (.pointer none) := Lib.cell_of_heap hXX 1
          have x2 : wX.cell? ⟨wr.heap.size, 2, none⟩ = some (.pointer (some ⟨w1.heap.size + 1, off, none⟩)) := Lib.cell_of_heap hXX 2
          obtain ⟨n, hnn⟩ : ∃ n, numU ⟨k, nm, no, pos, by_, fr, ev, ln⟩ off = n := ⟨_, rfl⟩
          have y1 : wX.cell? ⟨w1.heap.size + 1, off, none⟩ = some (.int .i64 n) := by
            rw [← hnn]
            exact (HBX.out.cell (p := ⟨w1.heap.size + 1, off, none⟩) hz12).trans (form_numU HF.out HOK.out)
          rw [hnn] at HTK
          rw [show fldT ⟨k, nm, no, pos, by_, fr, ev, ln⟩ (.num off low) = Lib.itoa n by rw [← hnn]; rfl] at HNEXT
          clear s0 s1 s2 s3 hXX hwX HO HB hnn
          go_wp2_with fail
          clear x0 x1 x2 y1
          have htt := ttext_any n HTK.out wX (HP.out.below (HB2.out.trans (HBX.out.mono HB2.out.size)))
          refine htt.mono ?_
          clear htt
          rintro e wY ⟨rfl, hbY⟩
          have hoy := HOX.out.keepB fun b hb hb2 => hbY.block b hb2
          have hby := HBX.out.trans (hbY.mono HBX.out.size)
          clear HOX HBX hbY
          have HOX := Lib.hid hoy
          have HBX := Lib.hid hby
          clear hoy hby
          go_wp2_with (at_builtin; refine wpList_append_sl _ rfl _ _ _ rfl w2.heap.size 9 i0 _ 16 Tryz.underlying52 hi0 hy0 hy1 hy2 (by rfl) (by omega) nc_len nc_oneU _ _ ((partsU ⟨k, nm, no, pos, by_, fr, ev, ln⟩).take j) [Lib.itoa n] rfl rfl (HOX.out.alloc _) (Sl.newl [Lib.itoa n] nc_len rfl rfl (by show 1 ≤ maxLen; decide) rfl) (by simp only [maxLen, List.length_cons, List.length_nil]; omega) (by simp only [List.length_cons, List.length_nil]; omega) (by have := HBX.out.size; simp; omega) ?_; intro v6 w6 hown6 hg6 hmv6)
          go_roundg ((formD k).length - (j + 1))
          case measure => omega
          case rel =>
            refine ⟨j + 1, by omega, by omega, by go_num, ?_, ?_⟩
            · rw [HNEXT.out]; exact hown6
            · exact (HBX.out.alloc HBX.out.size _).grown hg6 (by have := HBX.out.size; simp; omega) fun q hq => (HOX.out.lt hq).1
      · have hjj : (partsU ⟨k, nm, no, pos, by_, fr, ev, ln⟩).take j = partsU ⟨k, nm, no, pos, by_, fr, ev, ln⟩ := List.take_of_length_le (by unfold partsU; rw [List.length_map]; show (formD k).length ≤ j; omega)
        have t1 : ¬ (j : Int) < ((formD k).length : Int) := by omega
        have HSL := Lib.hid (show Sl nc 1 wr (.slice Av nv cv) (partsU ⟨k, nm, no, pos, by_, fr, ev, ln⟩) (fun _ => True) by
          have := HO.out
          rw [hjj] at this
          exact this.sl nc_len |>.mono fun _ _ => trivial)
        clear hjj HO
        go_wp2_with fail
        have hjn := join_any wr (.slice Av nv cv) (partsU ⟨k, nm, no, pos, by_, fr, ev, ln⟩) HSL.out (by unfold partsU; rw [List.length_map]; exact form_two k) (by unfold partsU; rw [List.length_map]; exact form_len k) (by have := HTL.out; unfold textU at this; omega)
        refine hjn.mono ?_
        clear hjn
        rintro e w9 ⟨rfl, hb9⟩
        have HB9 := Lib.hid (HB2.out.trans ((HB.out.trans (hb9.mono HB.out.size)).mono HB2.out.size))
        clear hb9
        go_wp2_with fail
        go_ret2
        exact ⟨rfl, HB9.out⟩
  · rw [if_neg h0]
    obtain ⟨q, hq⟩ : ∃ q, checkU ⟨k, nm, no, pos, by_, fr, ev, ln⟩ = q := ⟨_, rfl⟩
    rw [hq] at h0 ⊢
    rw [show ba [] = ⟨#[]⟩ from rfl]
    have k1 : (q == 0) = false := beq_eq_false_iff_ne.2 h0
    have k2 : (q != 0) = true := by rw [bne, k1]; rfl
    go_enter Tryz.func9, Tryz.ntmps9
    go_wp2_with fail
    have hb0 : Below w.heap.size w (w.alloc (.cells #[.int .i64 k, .string (ba nm), .int .i64 no, .int .i64 pos, .int .i64 by_, .int .i64 fr, .int .i64 ev, .int .i64 ln] 25)) := (Below.refl _ _).alloc (Nat.le_refl _) _
    have hcu := ucheck_any k nm no pos by_ fr ev ln _ hn (HT.out.below hb0)
    rw [hq] at hcu
    refine hcu.mono ?_
    clear hcu hq h0
    rintro e w1 ⟨rfl, hb1⟩
    have HB1 := Lib.hid (hb0.trans (hb1.mono hb0.size))
    clear hb0 hb1
    go_wp2_with fail
    go_ret2
    exact ⟨rfl, HB1.out⟩
end Go.Proofs.YtlclkeihkkpdbaaGreatDoor
