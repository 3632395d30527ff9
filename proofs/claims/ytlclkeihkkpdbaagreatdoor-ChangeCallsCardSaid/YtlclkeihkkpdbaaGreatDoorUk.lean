/- The walk of change.read. -/
import Derived.Test.YtlclkeihkkpdbaaGreatDoorUka
import Derived.Deep.CutBlock
import Derived.Deep.CutRange
import Derived.Deep.DeepCutAuto
namespace Go.Proofs.YtlclkeihkkpdbaaGreatDoor
open Go.RowKit
set_option maxHeartbeats 4000000 in
set_option maxRecDepth 100000 in
theorem read_any (s : ByteArray) (w : World) (hs : s.size ≤ 65536) (hT : Tabs w) (hL : LibOk w) :
    Calls Tryz.prog 15 #[.string s] w fun e w' => ∃ vo vb, e = .returned (.tuple #[vo, vb, .agg #[.int .i64 (readU s).err, .int .i64 (readU s).line, .int .i64 (readU s).col]]) ∧ Ow upc 8 w' w.heap.size 25 vo (readU s).us ∧ Ow tkc 5 w' w.heap.size 51 vb (readU s).bs ∧ Below w.heap.size w w' := by
  have hRU : readU s = if (allD s).2.err ≠ 0 then ⟨[], [], (allD s).2.err, (allD s).2.line, (allD s).2.col⟩ else readL (splitE [] (allD s).1) := rfl
  have hord := order_all s hs
  have hct := tok_count s
  have hT0 : Tabs (w.alloc (.cells #[.int .i64 0, .int .i64 0, .int .i64 0] 30)) := hT.below ((Below.refl _ _).alloc (Nat.le_refl _) _)
  have hL0 : LibOk (w.alloc (.cells #[.int .i64 0, .int .i64 0, .int .i64 0] 30)) := hL.below ((Below.refl _ _).alloc (Nat.le_refl _) _)
  have HT := Lib.hid hT
  have HL := Lib.hid hL
  have HT0 := Lib.hid hT0
  have HL0 := Lib.hid hL0
  clear hT hL hT0 hL0
  go_enter Tryz.func15, Tryz.ntmps15
  go_wp2_with fail
  refine (all_ok s _ hs HT0.out HL0.out).mono ?_
  rintro e w2 ⟨v2, rfl, ho2, hb2⟩
  obtain ⟨l, hl⟩ : ∃ l, (allD s).1 = l := ⟨_, rfl⟩
  obtain ⟨⟨fe, fl, fc⟩, hf⟩ : ∃ f, (allD s).2 = f := ⟨_, rfl⟩
  rw [hl] at ho2 hRU hord hct
  rw [hf] at hRU hord ⊢
  dsimp only at hRU hord
  dsimp only [FaultD.v]
  have HRU := Lib.hid hRU
  have hz0 : (w.alloc (.cells #[.int .i64 0, .int .i64 0, .int .i64 0] 30)).heap.size = w.heap.size + 1 := by simp
  rw [hz0] at hb2 ho2
  have hq2 := (hb2.block w.heap.size (by omega)).trans (heap_alloc_new _ _)
  have hB2 : Below w.heap.size w w2 := ((Below.refl _ _).alloc (Nat.le_refl _) _).trans (hb2.mono (by omega))
  obtain ⟨A1, n1, c1, rfl⟩ := ow_form ho2
  have hn1 : n1 = l.length := by
    obtain ⟨A, cap, e, _⟩ := ho2.shape
    injection e
  subst hn1
  have HO2 := Lib.hid ho2
  have HQ2 := Lib.hid hq2
  have HB2 := Lib.hid hB2
  have HORD := Lib.hid hord
  have hsz2 : w.heap.size + 1 ≤ w2.heap.size := by have := hb2.size; omega
  have x0 : w2.cell? ⟨w.heap.size, 0, none⟩ = some (.int .i64 0) := Lib.cell_of_heap hq2 0
  have x1 : w2.cell? ⟨w.heap.size, 1, none⟩ = some (.int .i64 0) := Lib.cell_of_heap hq2 1
  have x2 : w2.cell? ⟨w.heap.size, 2, none⟩ = some (.int .i64 0) := Lib.cell_of_heap hq2 2
  have f0 : w2.frozen? ⟨w.heap.size, 0, none⟩ = false := Lib.frozen_of_heap hq2 0
  have f1 : w2.frozen? ⟨w.heap.size, 1, none⟩ = false := Lib.frozen_of_heap hq2 1
  have f2 : w2.frozen? ⟨w.heap.size, 2, none⟩ = false := Lib.frozen_of_heap hq2 2
  clear ho2 hq2 hB2 hb2 hz0 hl hf hRU hord
  go_upto_region 2 with fail
  clear x0 x1 x2 f0 f1 f2
  obtain ⟨w3, hw3⟩ : ∃ w3, ((w2.setCell ⟨w.heap.size, 0, none⟩ (.int .i64 fe)).setCell ⟨w.heap.size, 1, none⟩ (.int .i64 fl)).setCell ⟨w.heap.size, 2, none⟩ (.int .i64 fc) = w3 := ⟨_, rfl⟩
  obtain ⟨hq3, hk3, hb3⟩ := set3 (.int .i64 fe) (.int .i64 fl) (.int .i64 fc) HQ2.out HB2.out (Nat.le_refl _)
  rw [hw3] at hq3 hk3 hb3 ⊢
  have hz3 : w2.heap.size = w3.heap.size := by rw [← hw3]; simp [World.setCell]
  have HO3 := Lib.hid (HO2.out.keepB (w' := w3) fun c hc _ => hk3 c (by omega))
  have HQ3 := Lib.hid hq3
  have HB3 := Lib.hid hb3
  have x0 : w3.cell? ⟨w.heap.size, 0, none⟩ = some (.int .i64 fe) := Lib.cell_of_heap hq3 0
  clear hw3 hk3 hb3 HO2 HQ2 HB2
  by_cases he : fe = 0
  · have e0 : (fe == 0) = true := beq_iff_eq.2 he
    have e1 : (fe != 0) = false := by rw [bne, e0]; rfl
    have hor := HORD.out he
    have HOR := Lib.hid hor
    have HR := Lib.hid (show readU s = readL (splitE [] l) by rw [HRU.out, if_neg (fun h => h he)])
    clear he hor HORD HRU
    go_wp2_with fail
    go_loopg [2, 3, 5] l.length (fun gg vu vb v5 wr => ∃ (k : Nat) (us : List UpD) (bs : List TokD) (A' : Option Addr) (cap' : Nat), v5 = .slice A' (l.length - k) cap' ∧ k ≤ l.length ∧ l.length - k ≤ gg ∧ Sl tkc 5 w3 v5 (l.drop k) (fun _ => True) ∧ Order false (l.drop k) ∧ readL (splitE [] l) = combD us bs (readL (splitE [] (l.drop k))) ∧ us.length ≤ k ∧ bs.length ≤ k ∧ Ow upc 8 wr w3.heap.size 25 vu us ∧ Ow tkc 5 wr w3.heap.size 51 vb bs ∧ Below w3.heap.size w3 wr)
    case atStart => exact ⟨0, [], [], A1, c1, rfl, Nat.zero_le _, by omega, HO3.out.sl tkc_len |>.mono fun _ _ => trivial, HOR.out, (combD_start _).symm, Nat.le_refl _, Nat.le_refl _, Ow.nil_, Ow.nil_, Below.refl _ _⟩
    case round =>
      obtain ⟨k, us, bs, A', cap', rfl, hk, hgg, hs5, hord, hrd, hul, hbl, hu, hb, hbw⟩ := hrel
      by_cases hlt : k < l.length
      · obtain ⟨hc1, hord2, hc0⟩ := order_cut _ _ hord (.inl fun h => by have := congrArg List.length h; rw [List.length_drop, List.length_nil] at this; omega)
        obtain ⟨rest, hrest⟩ : ∃ rest, l.drop k = rest := ⟨_, rfl⟩
        have hrl : rest.length = l.length - k := by rw [← hrest, List.length_drop]
        rw [hrest] at hc1 hord2 hc0 hs5 hrd hord
        obtain ⟨c, hc⟩ : ∃ c, cutE rest = c := ⟨_, rfl⟩
        have hix : idxE rest = (c : Int) := by unfold idxE; rw [if_pos hc1, hc]
        have hlast := cut_last rest hc1
        have hbad := combD_bad us bs rest hc1
        have hok := combD_ok us bs rest hc1
        rw [hc] at hc1 hord2 hc0 hlast hbad hok
        rw [← hrl] at hs5 ⊢
        obtain ⟨A2, cp2, ev, hcp1, hcp2⟩ := hs5.shape
        have e3 := (Value.slice.inj ev).2.2
        rw [← e3] at hcp1 hcp2
        clear ev e3
        obtain ⟨x, xs, hxs⟩ : ∃ x xs, rest.take (c + 1) = x :: xs := by
          cases rest with
          | nil => exact absurd hc1 (Nat.not_lt_zero _)
          | cons a b => exact ⟨a, b.take c, rfl⟩
        rw [hxs] at hlast hbad hok
        have hsp := hs5.part (A' := A') (cap' := cap') (i := 0) (j := c + 1) (Nat.zero_le _) hc1 (fun _ => by cases A' <;> simp [Addr.add]) (by omega) hcp2
        rw [List.drop_zero, hxs] at hsp
        have hsd := hs5.cut (i := c + 1) (j := rest.length) (m := rest.length - (c + 1)) hc1 (Nat.le_refl _) rfl
        rw [List.take_length] at hsd
        have hxl : (x :: xs).length = c + 1 := by rw [← hxs, List.length_take]; omega
        have q1 : (0 : Int) < (rest.length : Int) := by omega
        have HCT := Lib.hid (show rest.length ≤ 131072 by omega)
        have HLC := Lib.hid (show l.length ≤ 131072 by omega)
        have hwr : IntKind.i64.wrap (1 + (c : Int)) = ((c + 1 : Nat) : Int) := by rw [IntWalk.i64_in _ (by omega)]; omega
        have HS5 := Lib.hid hs5
        have HSP := Lib.hid hsp
        have HSD := Lib.hid hsd
        have HBAD := Lib.hid hbad
        have HOK := Lib.hid hok
        have HLAST := Lib.hid hlast
        have HORD := Lib.hid hord2
        have HRD := Lib.hid hrd
        have HIX := Lib.hid hix
        have HXL := Lib.hid hxl
        have HXS := Lib.hid hxs
        have HU := Lib.hid hu
        have HBB := Lib.hid hb
        have HBW := Lib.hid hbw
        have HREST := Lib.hid hrest
        have HRL := Lib.hid hrl
        clear hsp hsd hbad hok hlast hord2 hord hrd hix hxl hxs hu hb hbw hrest hrl hs5 hct x0 hc hc0
        go_wp2_with fail
        have hsr := HS5.out.below_ HBW.out
        have hrl2 : rest.length ≤ 1048576 := by have := HCT.out; omega
        have hidx := idx_any (.slice A' rest.length cap') rest wr hsr hrl2
        refine hidx.mono ?_
        clear hidx hsr
        rintro e w4 ⟨rfl, hb4⟩
        rw [HIX.out]
        have HB4 := Lib.hid (HBW.out.trans (hb4.mono HBW.out.size))
        have HU4 := Lib.hid (HU.out.keepB fun b hb hb2 => hb4.block b hb2)
        have HBB4 := Lib.hid (HBB.out.keepB fun b hb hb2 => hb4.block b hb2)
        clear hb4
        go_wp2_with fail
        have hlin := line_any (.slice A' (c + 1) cap') x xs w4 (HSP.out.below_ HB4.out) (by have := HCT.out; have := HXL.out; omega) HLAST.out (HT.out.below (HB3.out.trans (HB4.out.mono HB3.out.size)))
        refine hlin.mono ?_
        clear hlin
        rintro e w5 ⟨rfl, hb5⟩
        have HB5 := Lib.hid (HB4.out.trans (hb5.mono HB4.out.size))
        have HU5 := Lib.hid (HU4.out.keepB fun b hb hb2 => hb5.block b hb2)
        have HBB5 := Lib.hid (HBB4.out.keepB fun b hb hb2 => hb5.block b hb2)
        clear hb5
        obtain ⟨r, hr⟩ : ∃ r, lineU (x :: xs) = r := ⟨_, rfl⟩
        obtain ⟨⟨uk, un, uo, up, ub, uf, ue, ul⟩, e2, l2, c2⟩ := r
        rw [hr] at HBAD HOK ⊢
        dsimp only [upc] at HBAD HOK ⊢
        clear hr
        go_upto_region 7 with fail
        obtain ⟨wA, hwA⟩ : ∃ wA, (w5.alloc (.cells #[.int .i64 uk, .string (ba un), .int .i64 uo, .int .i64 up, .int .i64 ub, .int .i64 uf, .int .i64 ue, .int .i64 ul] 25)).alloc (.cells #[.int .i64 e2, .int .i64 l2, .int .i64 c2] 30) = wA := ⟨_, rfl⟩
        have hfA : wA.heap[w5.heap.size + 1]? = some (.cells #[.int .i64 e2, .int .i64 l2, .int .i64 c2] 30 (0, 0)) := by rw [← hwA]; exact alloc2_new _ _ _
        have hqA : wA.heap[w5.heap.size]? = some (.cells #[.int .i64 uk, .string (ba un), .int .i64 uo, .int .i64 up, .int .i64 ub, .int .i64 uf, .int .i64 ue, .int .i64 ul] 25 (0, 0)) := by rw [← hwA, Below.heap_alloc _ _ _ (by simp)]; exact heap_alloc_new _ _
        have HPA := Lib.hid (show Two w3 w3.heap.size w5.heap.size #[.int .i64 uk, .string (ba un), .int .i64 uo, .int .i64 up, .int .i64 ub, .int .i64 uf, .int .i64 ue, .int .i64 ul] u2 u3 us bs wA from ⟨by rw [← hwA]; exact (HU5.out.alloc _).alloc _, by rw [← hwA]; exact (HBB5.out.alloc _).alloc _, by rw [← hwA]; exact (HB5.out.alloc HB5.out.size _).alloc (by have := HB5.out.size; simp; omega) _, Nat.le_refl _, hqA, fun k hk => by have := (HU5.out.lt hk).2; omega⟩)
        have y0 : wA.cell? ⟨w5.heap.size + 1, 0, none⟩ = some (.int .i64 e2) := Lib.cell_of_heap hfA 0
        have hqw : wA.heap[w.heap.size]? = some (.cells #[.int .i64 fe, .int .i64 fl, .int .i64 fc] 30 (0, 0)) := (HPA.out.below.block w.heap.size (by omega)).trans HQ3.out
        have HFA := Lib.hid hfA
        have HQW := Lib.hid hqw
        rw [hwA]
        clear hwA hqA
        by_cases he2 : e2 = 0
        · have k0 : (e2 == 0) = true := beq_iff_eq.2 he2
          have k1 : (e2 != 0) = false := by rw [bne, k0]; rfl
          have HOK2 := Lib.hid (HOK.out he2)
          clear he2 hfA hqw
          obtain ⟨b1, o1, cp1, ev1, _, _, hlt1, _, hcl⟩ := HS5.out.form (by omega)
          have ea := (Value.slice.inj ev1).1
          subst ea
          obtain ⟨xk, xt, xn, xl, xc⟩ := x
          have hx0 : rest[0]? = some ⟨xk, xt, xn, xl, xc⟩ := by
            have := congrArg (fun l : List TokD => l[0]?) HXS.out
            simpa using this
          have HSW := Lib.hid (fun (vu vb : Value) (us' : List UpD) (bs' : List TokD) (wy : World) (h : Two w3 w3.heap.size w5.heap.size #[.int .i64 uk, .string (ba un), .int .i64 uo, .int .i64 up, .int .i64 ub, .int .i64 uf, .int .i64 ue, .int .i64 ul] vu vb us' bs' wy) => show (fun wy : World => (wy.cell? ⟨w5.heap.size, 0, none⟩ = some (.int .i64 uk) ∧ wy.cell? ⟨w5.heap.size, 1, none⟩ = some (.string (ba un)) ∧ wy.cell? ⟨w5.heap.size, 2, none⟩ = some (.int .i64 uo) ∧ wy.cell? ⟨w5.heap.size, 3, none⟩ = some (.int .i64 up) ∧ wy.cell? ⟨w5.heap.size, 4, none⟩ = some (.int .i64 ub) ∧ wy.cell? ⟨w5.heap.size, 5, none⟩ = some (.int .i64 uf) ∧ wy.cell? ⟨w5.heap.size, 6, none⟩ = some (.int .i64 ue) ∧ wy.cell? ⟨w5.heap.size, 7, none⟩ = some (.int .i64 ul)) ∧ wy.cell? ⟨b1, o1, none⟩ = some (.int .i64 xk) ∧ wy.cell? ⟨b1, o1 + 1, none⟩ = some (.string (ba xt)) ∧ wy.cell? ⟨b1, o1 + 2, none⟩ = some (.int .i64 xn) ∧ wy.cell? ⟨b1, o1 + 3, none⟩ = some (.int .i64 xl) ∧ wy.cell? ⟨b1, o1 + 4, none⟩ = some (.int .i64 xc)) wy from
            ⟨⟨Lib.cell_of_heap h.qq 0, Lib.cell_of_heap h.qq 1, Lib.cell_of_heap h.qq 2, Lib.cell_of_heap h.qq 3, Lib.cell_of_heap h.qq 4, Lib.cell_of_heap h.qq 5, Lib.cell_of_heap h.qq 6, Lib.cell_of_heap h.qq 7⟩,
              (World.cell?_of_block (a := ⟨b1, _, none⟩) (h.below.block b1 hlt1)).trans (by simpa using hcl 0 _ hx0 0 _ rfl),
              (World.cell?_of_block (a := ⟨b1, _, none⟩) (h.below.block b1 hlt1)).trans (by simpa using hcl 0 _ hx0 1 _ rfl),
              (World.cell?_of_block (a := ⟨b1, _, none⟩) (h.below.block b1 hlt1)).trans (by simpa using hcl 0 _ hx0 2 _ rfl),
              (World.cell?_of_block (a := ⟨b1, _, none⟩) (h.below.block b1 hlt1)).trans (by simpa using hcl 0 _ hx0 3 _ rfl),
              (World.cell?_of_block (a := ⟨b1, _, none⟩) (h.below.block b1 hlt1)).trans (by simpa using hcl 0 _ hx0 4 _ rfl)⟩)
          have HUL := Lib.hid (show us.length ≤ 131072 by have := HLC.out; omega)
          have HBL := Lib.hid (show bs.length ≤ 131072 by have := HLC.out; omega)
          clear ev1 hcl hx0 hlt1
          go_upto_region 9 with fail
          clear y0
          go_cut [2, 3] (fun s2 s3 wx => Ow upc 8 wx w3.heap.size 25 s2 (us ++ [⟨uk, un, uo, up, ub, uf, ue, ul⟩]) ∧ Ow tkc 5 wx w3.heap.size 51 s3 (bs ++ [⟨xk, xt, xn, xl, xc⟩]) ∧ Below w3.heap.size w3 wx)
          case first =>
            obtain ⟨iu, hu0, hu1, hu2, hu3⟩ := info_parts info_upd
            obtain ⟨ib, hb0, hb1, hb2, hb3⟩ := info_parts info_tok
            have hSw := HSW.out _ _ _ _ _ HPA.out
            dsimp only at hSw
            have q2 : (0 : Int) < (rest.length : Int) + 1 := by omega
            refine wp_region_goon (fun wy : World => (wy.cell? ⟨w5.heap.size, 0, none⟩ = some (.int .i64 uk) ∧ wy.cell? ⟨w5.heap.size, 1, none⟩ = some (.string (ba un)) ∧ wy.cell? ⟨w5.heap.size, 2, none⟩ = some (.int .i64 uo) ∧ wy.cell? ⟨w5.heap.size, 3, none⟩ = some (.int .i64 up) ∧ wy.cell? ⟨w5.heap.size, 4, none⟩ = some (.int .i64 ub) ∧ wy.cell? ⟨w5.heap.size, 5, none⟩ = some (.int .i64 uf) ∧ wy.cell? ⟨w5.heap.size, 6, none⟩ = some (.int .i64 ue) ∧ wy.cell? ⟨w5.heap.size, 7, none⟩ = some (.int .i64 ul)) ∧ wy.cell? ⟨b1, o1, none⟩ = some (.int .i64 xk) ∧ wy.cell? ⟨b1, o1 + 1, none⟩ = some (.string (ba xt)) ∧ wy.cell? ⟨b1, o1 + 2, none⟩ = some (.int .i64 xn) ∧ wy.cell? ⟨b1, o1 + 3, none⟩ = some (.int .i64 xl) ∧ wy.cell? ⟨b1, o1 + 4, none⟩ = some (.int .i64 xc)) [2, 3, 8, 9] [] [1, 7] [0, 4, 5, 6, 10, 11] (by kernel_rfl) ?_
            refine goon_walk [0, 1, 4, 5, 6, 7] 6 rfl (by kernel_rfl) (by kernel_rfl) (fun w n h => h) ?_
            repeat (first | (refine wpKind_free (v := ?_) (by rfl) rfl (by rfl) ?_ ?_; rotate_left 1; (focus (intro wy; go_simp; try with_reducible rfl; done)); try simp only [Act.put, List.setIfInBounds_toArray, List.set_cons_zero, List.set_cons_succ]) | (refine wpKind_held (v := ?_) (by rfl) rfl (by rfl) hSw ?_ ?_; rotate_left 1; (focus (intro wy hSy; obtain ⟨⟨s0, s1, s2, s3, s4, s5, s6, s7⟩, z0, z1, z2, z3, z4⟩ := hSy; go_simp; try with_reducible rfl; done)); try simp only [Act.put, List.setIfInBounds_toArray, List.set_cons_zero, List.set_cons_succ]) | (refine wpKind_free (v := ?_) (by rfl) rfl (by rfl) ?_ ?_; rotate_left 1; (focus (intro wy; go_simp; rw [if_pos (show _ ∧ _ from ⟨by omega, by omega⟩)]; (try rw [Int.toNat_natCast]); (first | with_reducible rfl | (simp only [Nat.mul_one]; with_reducible rfl)); done)); try simp only [Act.put, List.setIfInBounds_toArray, List.set_cons_zero, List.set_cons_succ]))
            refine wpKind_fin ?_
            clear hSw
-- ORDERS BEGIN
            refine goon_two 2 8 (by kernel_rfl) ?_ ?_
            · skip
              refine hOp_keeps (by rfl) rfl (fun m1 => ?_)
              go_wp2_with fail
              generalize hw1 : World.alloc _ (.cells #[.int .i64 uk, .string (ba un), .int .i64 uo, .int .i64 up, .int .i64 ub, .int .i64 uf, .int .i64 ue, .int .i64 ul] 25) = y1
              have HP1 := Lib.hid (show Two w3 w3.heap.size w5.heap.size #[.int .i64 uk, .string (ba un), .int .i64 uo, .int .i64 up, .int .i64 ub, .int .i64 uf, .int .i64 ue, .int .i64 ul] u2 u3 (us) (bs) y1 by rw [← hw1]; exact (HPA.out.drewN _).alloc _)
              have HSU1 := Lib.hid (show Sl upc 8 y1 (.slice (some ⟨wA.heap.size, 0, none⟩) 1 1) [⟨uk, un, uo, up, ub, uf, ue, ul⟩] (fun b => b = wA.heap.size) by rw [← hw1]; exact Sl.newEq (c := upc) (size := 8) ⟨uk, un, uo, up, ub, uf, ue, ul⟩ rfl)
              clear hw1
              show _ ∧ _
              refine ⟨HSW.out _ _ _ _ _ HP1.out, ?_⟩
              refine goon_two 3 8 (by kernel_rfl) ?_ ?_
              · skip
                refine hOp_keeps (by rfl) rfl (fun m2 => ?_)
                go_wp2_with (at_builtin; refine wpList_append_sl _ rfl _ _ _ rfl w3.heap.size 25 iu _ 72 Tryz.underlying27 hu0 hu1 hu2 hu3 (by rfl) (by omega) upc_len upc_one _ _ us [⟨uk, un, uo, up, ub, uf, ue, ul⟩] rfl rfl (HP1.out.u.drewN m2) (HSU1.out.drewN m2) (by have := HUL.out; simp only [maxLen, List.length_cons, List.length_nil]; omega) (by have := HUL.out; simp only [List.length_cons, List.length_nil]; omega) (by exact HP1.out.size) ?_; intro v2 y2 hown2 hg2 hmv2; obtain ⟨Av2, nv2, cv2, ev2⟩ := ow_form hown2; subst ev2)
                have HP2 := Lib.hid ((HP1.out.drewN m2).appU hown2 hg2 hmv2)
                clear hown2 hg2 hmv2
                show _ ∧ _
                refine ⟨HSW.out _ _ _ _ _ HP2.out, ?_⟩
                refine goon_walk [8, 9, 10, 11] 0 rfl (by kernel_rfl) (by kernel_rfl) (fun w n h => h) ?_
                refine wpKind_keeps (by rfl) rfl (fun m3 => ?_)
                go_wp2_with fail
                generalize hw3 : World.alloc _ (.cells #[.int .i64 xk, .string (ba xt), .int .i64 xn, .int .i64 xl, .int .i64 xc] 51) = y3
                have HP3 := Lib.hid (show Two w3 w3.heap.size w5.heap.size #[.int .i64 uk, .string (ba un), .int .i64 uo, .int .i64 up, .int .i64 ub, .int .i64 uf, .int .i64 ue, .int .i64 ul] (.slice Av2 nv2 cv2) u3 (us ++ [⟨uk, un, uo, up, ub, uf, ue, ul⟩]) (bs) y3 by rw [← hw3]; exact (HP2.out.drewN _).alloc _)
                have HSX3 := Lib.hid (show Sl tkc 5 y3 (.slice (some ⟨y2.heap.size, 0, none⟩) 1 1) [⟨xk, xt, xn, xl, xc⟩] (fun b => b = y2.heap.size) by rw [← hw3]; exact Sl.newEq (c := tkc) (size := 5) ⟨xk, xt, xn, xl, xc⟩ rfl)
                clear hw3
                show _ ∧ _
                refine ⟨HSW.out _ _ _ _ _ HP3.out, ?_⟩
                refine wpKind_keeps (by rfl) rfl (fun m4 => ?_)
                go_wp2_with (at_builtin; refine wpList_append_sl _ rfl _ _ _ rfl w3.heap.size 51 ib _ 48 Tryz.underlying41 hb0 hb1 hb2 hb3 (by rfl) (by omega) tkc_len tkc_one _ _ bs [⟨xk, xt, xn, xl, xc⟩] rfl rfl (HP3.out.b.drewN m4) (HSX3.out.drewN m4) (by have := HBL.out; simp only [maxLen, List.length_cons, List.length_nil]; omega) (by have := HBL.out; simp only [List.length_cons, List.length_nil]; omega) (by exact HP3.out.size) ?_; intro v4 y4 hown4 hg4 hmv4; obtain ⟨Av4, nv4, cv4, ev4⟩ := ow_form hown4; subst ev4)
                have HP4 := Lib.hid ((HP3.out.drewN m4).appB hown4 hg4)
                clear hown4 hg4 hmv4
                show _ ∧ _
                refine ⟨HSW.out _ _ _ _ _ HP4.out, ?_⟩
                repeat (first | (refine wpKind_free (v := ?_) (by rfl) rfl (by rfl) ?_ ?_; rotate_left 1; (focus (intro wy; go_simp; try with_reducible rfl; done)); try simp only [Act.put, List.setIfInBounds_toArray, List.set_cons_zero, List.set_cons_succ]))
                refine wpKind_fin ?_
                refine goon_end (by kernel_rfl) (fun mz => ?_)
                go_wp2_with fail
                go_meet
                case rel => exact ⟨HP4.out.u.drewN mz, HP4.out.b.drewN mz, below_drewN HP4.out.below mz⟩
              · skip
                refine hOp_keeps (by rfl) rfl (fun m2 => ?_)
                go_wp2_with fail
                generalize hw2 : World.alloc _ (.cells #[.int .i64 xk, .string (ba xt), .int .i64 xn, .int .i64 xl, .int .i64 xc] 51) = y2
                have HP2 := Lib.hid (show Two w3 w3.heap.size w5.heap.size #[.int .i64 uk, .string (ba un), .int .i64 uo, .int .i64 up, .int .i64 ub, .int .i64 uf, .int .i64 ue, .int .i64 ul] u2 u3 (us) (bs) y2 by rw [← hw2]; exact (HP1.out.drewN _).alloc _)
                have HSX2 := Lib.hid (show Sl tkc 5 y2 (.slice (some ⟨y1.heap.size, 0, none⟩) 1 1) [⟨xk, xt, xn, xl, xc⟩] (fun b => b = y1.heap.size) by rw [← hw2]; exact Sl.newEq (c := tkc) (size := 5) ⟨xk, xt, xn, xl, xc⟩ rfl)
                have HSU2 := Lib.hid (show Sl upc 8 y2 (.slice (some ⟨wA.heap.size, 0, none⟩) 1 1) [⟨uk, un, uo, up, ub, uf, ue, ul⟩] (fun b => b = wA.heap.size) by rw [← hw2]; exact (HSU1.out.drewN _).alloc _)
                clear hw2
                show _ ∧ _
                refine ⟨HSW.out _ _ _ _ _ HP2.out, ?_⟩
                refine goon_walk [3, 9, 10, 11] 0 rfl (by kernel_rfl) (by kernel_rfl) (fun w n h => h) ?_
                refine wpKind_keeps (by rfl) rfl (fun m3 => ?_)
                go_wp2_with (at_builtin; refine wpList_append_sl _ rfl _ _ _ rfl w3.heap.size 25 iu _ 72 Tryz.underlying27 hu0 hu1 hu2 hu3 (by rfl) (by omega) upc_len upc_one _ _ us [⟨uk, un, uo, up, ub, uf, ue, ul⟩] rfl rfl (HP2.out.u.drewN m3) (HSU2.out.drewN m3) (by have := HUL.out; simp only [maxLen, List.length_cons, List.length_nil]; omega) (by have := HUL.out; simp only [List.length_cons, List.length_nil]; omega) (by exact HP2.out.size) ?_; intro v3 y3 hown3 hg3 hmv3; obtain ⟨Av3, nv3, cv3, ev3⟩ := ow_form hown3; subst ev3)
                have HP3 := Lib.hid ((HP2.out.drewN m3).appU hown3 hg3 hmv3)
                have HSX3 := Lib.hid (Two.one (HSX2.out.drewN m3) hg3 fun k hk => by have h1 := (HU5.out.lt hk).2; have h2 := HP1.out.lt; omega)
                clear hown3 hg3 hmv3
                show _ ∧ _
                refine ⟨HSW.out _ _ _ _ _ HP3.out, ?_⟩
                refine wpKind_keeps (by rfl) rfl (fun m4 => ?_)
                go_wp2_with (at_builtin; refine wpList_append_sl _ rfl _ _ _ rfl w3.heap.size 51 ib _ 48 Tryz.underlying41 hb0 hb1 hb2 hb3 (by rfl) (by omega) tkc_len tkc_one _ _ bs [⟨xk, xt, xn, xl, xc⟩] rfl rfl (HP3.out.b.drewN m4) (HSX3.out.drewN m4) (by have := HBL.out; simp only [maxLen, List.length_cons, List.length_nil]; omega) (by have := HBL.out; simp only [List.length_cons, List.length_nil]; omega) (by exact HP3.out.size) ?_; intro v4 y4 hown4 hg4 hmv4; obtain ⟨Av4, nv4, cv4, ev4⟩ := ow_form hown4; subst ev4)
                have HP4 := Lib.hid ((HP3.out.drewN m4).appB hown4 hg4)
                clear hown4 hg4 hmv4
                show _ ∧ _
                refine ⟨HSW.out _ _ _ _ _ HP4.out, ?_⟩
                repeat (first | (refine wpKind_free (v := ?_) (by rfl) rfl (by rfl) ?_ ?_; rotate_left 1; (focus (intro wy; go_simp; try with_reducible rfl; done)); try simp only [Act.put, List.setIfInBounds_toArray, List.set_cons_zero, List.set_cons_succ]))
                refine wpKind_fin ?_
                refine goon_end (by kernel_rfl) (fun mz => ?_)
                go_wp2_with fail
                go_meet
                case rel => exact ⟨HP4.out.u.drewN mz, HP4.out.b.drewN mz, below_drewN HP4.out.below mz⟩
            · skip
              refine hOp_keeps (by rfl) rfl (fun m1 => ?_)
              go_wp2_with fail
              generalize hw1 : World.alloc _ (.cells #[.int .i64 xk, .string (ba xt), .int .i64 xn, .int .i64 xl, .int .i64 xc] 51) = y1
              have HP1 := Lib.hid (show Two w3 w3.heap.size w5.heap.size #[.int .i64 uk, .string (ba un), .int .i64 uo, .int .i64 up, .int .i64 ub, .int .i64 uf, .int .i64 ue, .int .i64 ul] u2 u3 (us) (bs) y1 by rw [← hw1]; exact (HPA.out.drewN _).alloc _)
              have HSX1 := Lib.hid (show Sl tkc 5 y1 (.slice (some ⟨wA.heap.size, 0, none⟩) 1 1) [⟨xk, xt, xn, xl, xc⟩] (fun b => b = wA.heap.size) by rw [← hw1]; exact Sl.newEq (c := tkc) (size := 5) ⟨xk, xt, xn, xl, xc⟩ rfl)
              clear hw1
              show _ ∧ _
              refine ⟨HSW.out _ _ _ _ _ HP1.out, ?_⟩
              refine goon_walk [2, 3, 9, 10, 11] 0 rfl (by kernel_rfl) (by kernel_rfl) (fun w n h => h) ?_
              refine wpKind_keeps (by rfl) rfl (fun m2 => ?_)
              go_wp2_with fail
              generalize hw2 : World.alloc _ (.cells #[.int .i64 uk, .string (ba un), .int .i64 uo, .int .i64 up, .int .i64 ub, .int .i64 uf, .int .i64 ue, .int .i64 ul] 25) = y2
              have HP2 := Lib.hid (show Two w3 w3.heap.size w5.heap.size #[.int .i64 uk, .string (ba un), .int .i64 uo, .int .i64 up, .int .i64 ub, .int .i64 uf, .int .i64 ue, .int .i64 ul] u2 u3 (us) (bs) y2 by rw [← hw2]; exact (HP1.out.drewN _).alloc _)
              have HSU2 := Lib.hid (show Sl upc 8 y2 (.slice (some ⟨y1.heap.size, 0, none⟩) 1 1) [⟨uk, un, uo, up, ub, uf, ue, ul⟩] (fun b => b = y1.heap.size) by rw [← hw2]; exact Sl.newEq (c := upc) (size := 8) ⟨uk, un, uo, up, ub, uf, ue, ul⟩ rfl)
              have HSX2 := Lib.hid (show Sl tkc 5 y2 (.slice (some ⟨wA.heap.size, 0, none⟩) 1 1) [⟨xk, xt, xn, xl, xc⟩] (fun b => b = wA.heap.size) by rw [← hw2]; exact (HSX1.out.drewN _).alloc _)
              clear hw2
              show _ ∧ _
              refine ⟨HSW.out _ _ _ _ _ HP2.out, ?_⟩
              refine wpKind_keeps (by rfl) rfl (fun m3 => ?_)
              go_wp2_with (at_builtin; refine wpList_append_sl _ rfl _ _ _ rfl w3.heap.size 25 iu _ 72 Tryz.underlying27 hu0 hu1 hu2 hu3 (by rfl) (by omega) upc_len upc_one _ _ us [⟨uk, un, uo, up, ub, uf, ue, ul⟩] rfl rfl (HP2.out.u.drewN m3) (HSU2.out.drewN m3) (by have := HUL.out; simp only [maxLen, List.length_cons, List.length_nil]; omega) (by have := HUL.out; simp only [List.length_cons, List.length_nil]; omega) (by exact HP2.out.size) ?_; intro v3 y3 hown3 hg3 hmv3; obtain ⟨Av3, nv3, cv3, ev3⟩ := ow_form hown3; subst ev3)
              have HP3 := Lib.hid ((HP2.out.drewN m3).appU hown3 hg3 hmv3)
              have HSX3 := Lib.hid (Two.one (HSX2.out.drewN m3) hg3 fun k hk => by have h1 := (HU5.out.lt hk).2; have h2 := HPA.out.lt; omega)
              clear hown3 hg3 hmv3
              show _ ∧ _
              refine ⟨HSW.out _ _ _ _ _ HP3.out, ?_⟩
              refine wpKind_keeps (by rfl) rfl (fun m4 => ?_)
              go_wp2_with (at_builtin; refine wpList_append_sl _ rfl _ _ _ rfl w3.heap.size 51 ib _ 48 Tryz.underlying41 hb0 hb1 hb2 hb3 (by rfl) (by omega) tkc_len tkc_one _ _ bs [⟨xk, xt, xn, xl, xc⟩] rfl rfl (HP3.out.b.drewN m4) (HSX3.out.drewN m4) (by have := HBL.out; simp only [maxLen, List.length_cons, List.length_nil]; omega) (by have := HBL.out; simp only [List.length_cons, List.length_nil]; omega) (by exact HP3.out.size) ?_; intro v4 y4 hown4 hg4 hmv4; obtain ⟨Av4, nv4, cv4, ev4⟩ := ow_form hown4; subst ev4)
              have HP4 := Lib.hid ((HP3.out.drewN m4).appB hown4 hg4)
              clear hown4 hg4 hmv4
              show _ ∧ _
              refine ⟨HSW.out _ _ _ _ _ HP4.out, ?_⟩
              repeat (first | (refine wpKind_free (v := ?_) (by rfl) rfl (by rfl) ?_ ?_; rotate_left 1; (focus (intro wy; go_simp; try with_reducible rfl; done)); try simp only [Act.put, List.setIfInBounds_toArray, List.set_cons_zero, List.set_cons_succ]))
              refine wpKind_fin ?_
              refine goon_end (by kernel_rfl) (fun mz => ?_)
              go_wp2_with fail
              go_meet
              case rel => exact ⟨HP4.out.u.drewN mz, HP4.out.b.drewN mz, below_drewN HP4.out.below mz⟩
-- ORDERS END
          case rest =>
            obtain ⟨hu9, hb9, hw9⟩ := hcut
            have HU9 := Lib.hid hu9
            have HB9 := Lib.hid hb9
            have HW9 := Lib.hid hw9
            have hcp3 : c + 1 ≤ cap' := by omega
            have HK2 := Lib.hid (show k + (c + 1) ≤ l.length by have := HRL.out; omega)
            have HN2 := Lib.hid (show rest.length - (c + 1) = l.length - (k + (c + 1)) by have := HRL.out; omega)
            have HD2 := Lib.hid (show rest.drop (c + 1) = l.drop (k + (c + 1)) by rw [← HREST.out, List.drop_drop])
            have HRD2 := Lib.hid (HRD.out.trans HOK2.out)
            clear hu9 hb9 hw9
            by_cases hcc : cap' = c + 1
            · subst hcc
              go_wp2_with fail
              go_roundg (l.length - (k + (c + 1)))
              case measure => have := HK2.out; omega
              case rel =>
                have hs9 := HSD.out
                have hr9 := HRD2.out
                have ho9 := HORD.out
                rw [if_pos trivial, Nat.sub_self, show rest.length - (c + 1) = 0 by omega] at hs9
                rw [HD2.out] at hs9
                rw [HD2.out] at hr9 ho9
                exact ⟨k + (c + 1), us ++ [⟨uk, un, uo, up, ub, uf, ue, ul⟩], bs ++ [⟨xk, xt, xn, xl, xc⟩], _, _, by rw [← HN2.out, show rest.length - (c + 1) = 0 by omega], HK2.out, Nat.le_refl _, hs9, ho9, hr9, by rw [List.length_append, List.length_singleton]; omega, by rw [List.length_append, List.length_singleton]; omega, HU9.out, HB9.out, HW9.out⟩
            · have hcc2 : ¬ (cap' : Int) = (c : Int) + 1 := by omega
              go_wp2_with fail
              go_roundg (l.length - (k + (c + 1)))
              case measure => have := HK2.out; omega
              case rel =>
                have hs9 := HSD.out
                have hr9 := HRD2.out
                have ho9 := HORD.out
                rw [if_neg hcc] at hs9
                rw [HD2.out] at hs9
                rw [HD2.out] at hr9 ho9
                exact ⟨k + (c + 1), us ++ [⟨uk, un, uo, up, ub, uf, ue, ul⟩], bs ++ [⟨xk, xt, xn, xl, xc⟩], _, _, by rw [← HN2.out], HK2.out, Nat.le_refl _, hs9, ho9, hr9, by rw [List.length_append, List.length_singleton]; omega, by rw [List.length_append, List.length_singleton]; omega, HU9.out, HB9.out, HW9.out⟩
        · have k0 : (e2 == 0) = false := beq_eq_false_iff_ne.2 he2
          have k1 : (e2 != 0) = true := by rw [bne, k0]; rfl
          have HR2 := Lib.hid (show readU s = ⟨[], [], e2, l2, c2⟩ by rw [HR.out, HRD.out]; exact HBAD.out he2)
          have hSw : (fun wy : World => wy.cell? ⟨w5.heap.size + 1, 0, none⟩ = some (.int .i64 e2) ∧ wy.cell? ⟨w5.heap.size + 1, 1, none⟩ = some (.int .i64 l2) ∧ wy.cell? ⟨w5.heap.size + 1, 2, none⟩ = some (.int .i64 c2)) wA := ⟨y0, Lib.cell_of_heap hfA 1, Lib.cell_of_heap hfA 2⟩
          clear he2 hfA hqw
          dsimp only at hSw
          go_wp2_with fail
          refine wp_region_kinds (fun wy : World => wy.cell? ⟨w5.heap.size + 1, 0, none⟩ = some (.int .i64 e2) ∧ wy.cell? ⟨w5.heap.size + 1, 1, none⟩ = some (.int .i64 l2) ∧ wy.cell? ⟨w5.heap.size + 1, 2, none⟩ = some (.int .i64 c2)) [] [3] [0] [1, 2] [0, 1, 2, 3] (by kernel_rfl) (by kernel_rfl) (fun w n h => h) ?_
          repeat (first | (refine wpKind_free (v := ?_) (by rfl) rfl (by rfl) ?_ ?_; rotate_left 1; (focus (intro wy; go_simp; try with_reducible rfl; done)); try simp only [Act.put, List.setIfInBounds_toArray, List.set_cons_zero, List.set_cons_succ]) | (refine wpKind_held (v := ?_) (by rfl) rfl (by rfl) hSw ?_ ?_; rotate_left 1; (focus (intro wy hSy; obtain ⟨s0, s1, s2⟩ := hSy; go_simp; try with_reducible rfl; done)); try simp only [Act.put, List.setIfInBounds_toArray, List.set_cons_zero, List.set_cons_succ]))
          clear hSw y0
          refine wpKind_serial (by rfl) rfl (fun n1 => ?_)
          obtain ⟨wa, hwa⟩ : ∃ wa, wA.drewN n1 = wa := ⟨_, rfl⟩
          have hqa : wa.heap[w.heap.size]? = some (.cells #[.int .i64 fe, .int .i64 fl, .int .i64 fc] 30 (0, 0)) := by rw [← hwa]; exact HQW.out
          have HA := Lib.hid (set3 (.int .i64 e2) (.int .i64 l2) (.int .i64 c2) hqa (by rw [← hwa]; exact below_drewN (HB3.out.trans (HPA.out.below.mono HB3.out.size)) n1) (Nat.le_refl _))
          have g0 : wa.frozen? ⟨w.heap.size, 0, none⟩ = false := Lib.frozen_of_heap hqa 0
          have g1 : wa.frozen? ⟨w.heap.size, 1, none⟩ = false := Lib.frozen_of_heap hqa 1
          have g2 : wa.frozen? ⟨w.heap.size, 2, none⟩ = false := Lib.frozen_of_heap hqa 2
          have x0 : wa.cell? ⟨w.heap.size, 0, none⟩ = some (.int .i64 fe) := Lib.cell_of_heap hqa 0
          have x1 : wa.cell? ⟨w.heap.size, 1, none⟩ = some (.int .i64 fl) := Lib.cell_of_heap hqa 1
          have x2 : wa.cell? ⟨w.heap.size, 2, none⟩ = some (.int .i64 fc) := Lib.cell_of_heap hqa 2
          rw [hwa]
          clear hwa hqa
          go_wp2_with fail
          show wpKind _ _ _ _ _ _ _ _ _
          refine wpKind_nil fun n2 => ?_
          obtain ⟨wE, hwE⟩ : ∃ wE, ((wa.setCell ⟨w.heap.size, 0, none⟩ (.int .i64 e2)).setCell ⟨w.heap.size, 1, none⟩ (.int .i64 l2)).setCell ⟨w.heap.size, 2, none⟩ (.int .i64 c2) = wE := ⟨_, rfl⟩
          obtain ⟨hE1, _, hE2⟩ := HA.out
          rw [hwE] at hE1 hE2 ⊢
          go_wp2_with fail
          refine bodyPost_ret (results_ttc rfl _ _ w.heap.size _ _ (0, 0) _ rfl (show (wE.drewN n2).heap[w.heap.size]? = _ from hE1) Tryz.underlying30 rfl (by kernel_rfl)) rfl ⟨.slice none 0 0, .slice none 0 0, ?_, ?_, ?_, below_drewN hE2 n2⟩
          · rw [HR2.out]; rfl
          · rw [HR2.out]; exact Ow.nil_
          · rw [HR2.out]; exact Ow.nil_
      · have hkk : k = l.length := by omega
        have hR2 : readL (splitE [] l) = ⟨us, bs, 0, 0, 0⟩ := by rw [hrd, show l.drop k = [] by rw [hkk]; exact List.drop_length, combD_nil]
        have HR2 := Lib.hid (HR.out.trans hR2)
        have HU := Lib.hid hu
        have HBB := Lib.hid hb
        have HBW := Lib.hid hbw
        have t6 : ¬ (0 : Int) < ((l.length - k : Nat) : Int) := by omega
        have hq4 := (hbw.block w.heap.size (Nat.lt_of_lt_of_le (Nat.lt_succ_self _) (hz3 ▸ hsz2))).trans HQ3.out
        have HQ4 := Lib.hid hq4
        have g0 : wr.frozen? ⟨w.heap.size, 0, none⟩ = false := Lib.frozen_of_heap hq4 0
        have g1 : wr.frozen? ⟨w.heap.size, 1, none⟩ = false := Lib.frozen_of_heap hq4 1
        have g2 : wr.frozen? ⟨w.heap.size, 2, none⟩ = false := Lib.frozen_of_heap hq4 2
        have x0 : wr.cell? ⟨w.heap.size, 0, none⟩ = some (.int .i64 fe) := Lib.cell_of_heap hq4 0
        have x1 : wr.cell? ⟨w.heap.size, 1, none⟩ = some (.int .i64 fl) := Lib.cell_of_heap hq4 1
        have x2 : wr.cell? ⟨w.heap.size, 2, none⟩ = some (.int .i64 fc) := Lib.cell_of_heap hq4 2
        clear hkk hrd hR2 hs5 hord hul hbl hu hb hbw hgg hk hlt hq4
        go_wp2_with fail
        obtain ⟨hE1, _, hE2⟩ := set3 (.int .i64 0) (.int .i64 0) (.int .i64 0) HQ4.out (HB3.out.trans (HBW.out.mono HB3.out.size)) (Nat.le_refl _)
        have hlt3 : w.heap.size < w3.heap.size := by omega
        refine bodyPost_ret (results_ttc rfl _ _ w.heap.size _ _ (0, 0) _ rfl hE1 Tryz.underlying30 rfl (by kernel_rfl)) rfl ⟨u2, u3, ?_, ?_, ?_, hE2⟩
        · rw [HR2.out]; rfl
        · rw [HR2.out]; exact (HU.out.keepB (fun c hc hc2 => (set3 (.int .i64 0) (.int .i64 0) (.int .i64 0) HQ4.out (Below.refl w.heap.size _) (Nat.le_refl _)).2.1 c (by omega))).lower (by omega)
        · rw [HR2.out]; exact (HBB.out.keepB (fun c hc hc2 => (set3 (.int .i64 0) (.int .i64 0) (.int .i64 0) HQ4.out (Below.refl w.heap.size _) (Nat.le_refl _)).2.1 c (by omega))).lower (by omega)
  · have e0 : (fe == 0) = false := beq_eq_false_iff_ne.2 he
    have e1 : (fe != 0) = true := by rw [bne, e0]; rfl
    have HR := Lib.hid (show readU s = ⟨[], [], fe, fl, fc⟩ by rw [HRU.out, if_pos he])
    have hSw : (fun wy => wy.cell? ⟨w.heap.size, 0, none⟩ = some (.int .i64 fe) ∧ wy.cell? ⟨w.heap.size, 1, none⟩ = some (.int .i64 fl) ∧ wy.cell? ⟨w.heap.size, 2, none⟩ = some (.int .i64 fc)) w3 := ⟨x0, Lib.cell_of_heap hq3 1, Lib.cell_of_heap hq3 2⟩
    have x1 : w3.cell? ⟨w.heap.size, 1, none⟩ = some (.int .i64 fl) := Lib.cell_of_heap hq3 1
    have x2 : w3.cell? ⟨w.heap.size, 2, none⟩ = some (.int .i64 fc) := Lib.cell_of_heap hq3 2
    clear he HORD hq3 HRU
    dsimp only at hSw
    go_wp2_with fail
    refine wp_region_kinds (fun wy => wy.cell? ⟨w.heap.size, 0, none⟩ = some (.int .i64 fe) ∧ wy.cell? ⟨w.heap.size, 1, none⟩ = some (.int .i64 fl) ∧ wy.cell? ⟨w.heap.size, 2, none⟩ = some (.int .i64 fc)) [] [3] [0] [1, 2] [0, 1, 2, 3] (by kernel_rfl) (by kernel_rfl) (fun w n h => h) ?_
    repeat (first | (refine wpKind_free (v := ?_) (by rfl) rfl (by rfl) ?_ ?_; rotate_left 1; (focus (intro wy; go_simp; try with_reducible rfl; done)); try simp only [Act.put, List.setIfInBounds_toArray, List.set_cons_zero, List.set_cons_succ]) | (refine wpKind_held (v := ?_) (by rfl) rfl (by rfl) hSw ?_ ?_; rotate_left 1; (focus (intro wy hSy; obtain ⟨s0, s1, s2⟩ := hSy; go_simp; try with_reducible rfl; done)); try simp only [Act.put, List.setIfInBounds_toArray, List.set_cons_zero, List.set_cons_succ]))
    clear hSw x0 x1 x2
    refine wpKind_serial (by rfl) rfl (fun n1 => ?_)
    obtain ⟨wa, hwa⟩ : ∃ wa, w3.drewN n1 = wa := ⟨_, rfl⟩
    have hqa : wa.heap[w.heap.size]? = some (.cells #[.int .i64 fe, .int .i64 fl, .int .i64 fc] 30 (0, 0)) := by rw [← hwa]; exact HQ3.out
    have HA := Lib.hid (set3 (.int .i64 fe) (.int .i64 fl) (.int .i64 fc) hqa (by rw [← hwa]; exact below_drewN HB3.out n1) (Nat.le_refl _))
    have g0 : wa.frozen? ⟨w.heap.size, 0, none⟩ = false := Lib.frozen_of_heap hqa 0
    have g1 : wa.frozen? ⟨w.heap.size, 1, none⟩ = false := Lib.frozen_of_heap hqa 1
    have g2 : wa.frozen? ⟨w.heap.size, 2, none⟩ = false := Lib.frozen_of_heap hqa 2
    have x0 : wa.cell? ⟨w.heap.size, 0, none⟩ = some (.int .i64 fe) := Lib.cell_of_heap hqa 0
    have x1 : wa.cell? ⟨w.heap.size, 1, none⟩ = some (.int .i64 fl) := Lib.cell_of_heap hqa 1
    have x2 : wa.cell? ⟨w.heap.size, 2, none⟩ = some (.int .i64 fc) := Lib.cell_of_heap hqa 2
    rw [hwa]
    clear hwa hqa
    go_wp2_with fail
    show wpKind _ _ _ _ _ _ _ _ _
    refine wpKind_nil fun n2 => ?_
    obtain ⟨wE, hwE⟩ : ∃ wE, ((wa.setCell ⟨w.heap.size, 0, none⟩ (.int .i64 fe)).setCell ⟨w.heap.size, 1, none⟩ (.int .i64 fl)).setCell ⟨w.heap.size, 2, none⟩ (.int .i64 fc) = wE := ⟨_, rfl⟩
    obtain ⟨hE1, _, hE2⟩ := HA.out
    rw [hwE] at hE1 hE2 ⊢
    go_wp2_with fail
    refine bodyPost_ret (results_ttc rfl _ _ w.heap.size _ _ (0, 0) _ rfl (show (wE.drewN n2).heap[w.heap.size]? = _ from hE1) Tryz.underlying30 rfl (by kernel_rfl)) rfl ⟨.slice none 0 0, .slice none 0 0, ?_, ?_, ?_, below_drewN hE2 n2⟩
    · rw [HR.out]; rfl
    · rw [HR.out]; exact Ow.nil_
    · rw [HR.out]; exact Ow.nil_
end Go.Proofs.YtlclkeihkkpdbaaGreatDoor
