/- The law ChangeBack: its walk. Printed by wip/bin/genubw.py. -/
import Derived.Test.YtlclkeihkkpdbaaDoorUfw
import Derived.Test.YtlclkeihkkpdbaaDoorUgo
import Derived.Test.YtlclkeihkkpdbaaDoorPk
namespace Go.Proofs.YtlclkeihkkpdbaaDoor
open Go.RowKit
/-- The text of the updates among l that may be. -/
def backF (i k : Nat) (l : List UpD) : List UInt8 := (upsU l).flatMap fun u => pieceU i k u ++ [10]
theorem ahead_le (i : Nat) : (aheadB i).length ≤ 4 := by
  match i with
  | 0 => decide
  | 1 => decide
  | 2 => decide
  | _ + 3 => exact (by decide : ([10, 10, 9] : List UInt8).length ≤ 4)
theorem behind_le (i : Nat) : (behindB i).length ≤ 4 := by
  match i with
  | 0 => decide
  | 1 => decide
  | _ + 2 => exact (by decide : ([32] : List UInt8).length ≤ 4)
theorem backF_len (i k : Nat) (l : List UpD) : (backF i k l).length ≤ 210 * l.length := by
  have h := flat_le (fun u => pieceU i k u ++ [10]) 210 (upsU l) fun u hu => by
    have := (text_facts u (upsU_ok l u hu)).2
    have h1 := ahead_le i
    have h2 := behind_le k
    unfold pieceU
    simp only [List.length_append, List.length_singleton]
    omega
  have := upsU_le l
  unfold backF
  omega
theorem backF_yes (i k : Nat) (l : List UpD) (j : Nat) (h : j < l.length) (hc : checkU l[j] = 0) : backF i k (l.take (j + 1)) = backF i k (l.take j) ++ (pieceU i k l[j] ++ [10]) := by
  unfold backF
  rw [upsU_yes l j h hc, List.flatMap_append]
  simp
theorem backF_no (i k : Nat) (l : List UpD) (j : Nat) (h : j < l.length) (hc : checkU l[j] ≠ 0) : backF i k (l.take (j + 1)) = backF i k (l.take j) := by
  unfold backF
  rw [upsU_no l j h hc]
theorem rowA_at {W : World} {q : Nat} {t : TypeId} (h : W.heap[q]? = some (.cells #[.string ⟨#[]⟩, .string ⟨#[32, 32]⟩, .string ⟨#[35, 32, 120, 10]⟩, .string ⟨#[10, 10, 9]⟩] t (0, 0))) {i : Nat} (hi : i < 4) : W.cell? ⟨q, i, none⟩ = some (.string (ba (aheadB i))) := by
  have : i = 0 ∨ i = 1 ∨ i = 2 ∨ i = 3 := by omega
  rcases this with rfl | rfl | rfl | rfl
  · exact Lib.cell_of_heap h 0
  · exact Lib.cell_of_heap h 1
  · exact Lib.cell_of_heap h 2
  · exact Lib.cell_of_heap h 3
theorem rowB_at {W : World} {q : Nat} {t : TypeId} (h : W.heap[q]? = some (.cells #[.string ⟨#[10]⟩, .string ⟨#[32, 35, 32, 121, 10]⟩, .string ⟨#[32, 10]⟩] t (0, 0))) {i : Nat} (hi : i < 3) : W.cell? ⟨q, i, none⟩ = some (.string (ba (behindB i ++ [10]))) := by
  have : i = 0 ∨ i = 1 ∨ i = 2 := by omega
  rcases this with rfl | rfl | rfl
  · exact Lib.cell_of_heap h 0
  · exact Lib.cell_of_heap h 1
  · exact Lib.cell_of_heap h 2
theorem kept_alloc {W : World} {q : Nat} {o x : Obj} (h : W.heap[q]? = some o) (n : Nat) : ((W.drewN n).alloc x).heap[q]? = some o := by
  rw [Below.heap_alloc _ _ _ (by exact (Array.getElem?_eq_some_iff.1 h).1)]; exact h
theorem kept_drewN {W : World} {q : Nat} {o : Obj} (h : W.heap[q]? = some o) (n : Nat) : (W.drewN n).heap[q]? = some o := h
set_option maxHeartbeats 16000000 in
set_option maxRecDepth 100000 in
theorem chback_any (v : Value) (l : List UpD) (bl : Int) (w : World) {Pr : Nat → Prop} (hs : Sl upc 8 w v l Pr) (hg : ∀ u ∈ l, GUpd u) (hT : Tabs w) (hL : LibOk w) (hP : Pow w) :
    Calls Tryd.prog 5 #[v, .int .i64 bl] w fun e w' => e = .returned (.bool true) ∧ Below w.heap.size w w' := by
  obtain ⟨i0, hi0, hz0, hz1, hz2⟩ := info_parts info_upd
  obtain ⟨A0, c0, rfl, hl0, hl1⟩ := hs.shape
  have HT := Lib.hid hT
  have HL := Lib.hid hL
  have HP := Lib.hid hP
  have HS := Lib.hid hs
  have HG := Lib.hid hg
  obtain ⟨i4, hi4, hp4⟩ : ∃ i4 : Nat, i4 < 4 ∧ bl % 4 = (i4 : Int) := ⟨(bl % 4).toNat, by have := pick_lt bl 4 (by decide); omega, by have := pick_lt bl 4 (by decide); omega⟩
  obtain ⟨k3, hk3, hp3⟩ : ∃ k3 : Nat, k3 < 3 ∧ bl % 3 = (k3 : Int) := ⟨(bl % 3).toNat, by have := pick_lt bl 3 (by decide); omega, by have := pick_lt bl 3 (by decide); omega⟩
  have HPK4 := Lib.hid (fun W : World => pick_any bl 4 W (by decide) (by decide))
  have HPK3 := Lib.hid (fun W : World => pick_any bl 3 W (by decide) (by decide))
  rw [hp4] at HPK4
  rw [hp3] at HPK3
  have hah := ahead_le i4
  have hbh := behind_le k3
  have hi4' : ((i4 : Nat) : Int) < 4 := by omega
  have hk3' : ((k3 : Nat) : Int) < 3 := by omega
  clear hT hL hP hs hg hp4 hp3
  go_enter Tryd.func5, Tryd.ntmps5
  go_wp2_with fail
  refine (chlives_any w HT.out HL.out).mono ?_
  rintro e w1 ⟨rfl, hb1⟩
  have HB1 := Lib.hid hb1
  clear hb1
  by_cases hbig : 40 < l.length
  · have t1 : (40 : Int) < (l.length : Int) := by omega
    go_wp2_with fail
    go_ret
    exact ⟨rfl, HB1.out⟩
  have t1 : ¬ (40 : Int) < (l.length : Int) := by omega
  have HT1 := Lib.hid (fun (wy : World) (hy : Below w1.heap.size w1 wy) => HT.out.below (HB1.out.trans (hy.mono HB1.out.size)))
  have HL1 := Lib.hid (fun (wy : World) (hy : Below w1.heap.size w1 wy) => HL.out.below (HB1.out.trans (hy.mono HB1.out.size)))
  have HP1 := Lib.hid (fun (wy : World) (hy : Below w1.heap.size w1 wy) => HP.out.below (HB1.out.trans (hy.mono HB1.out.size)))
  have HS1 := Lib.hid (HS.out.below_ HB1.out)
  clear HT HL HP HS
  go_wp2_with fail
  go_loopg [5, 6, 7] l.length (fun gg v5 v6 v7 wr => ∃ j : Nat, j ≤ l.length ∧ l.length - j ≤ gg ∧ v7 = .int .i64 j ∧ Ow upc 8 wr w1.heap.size 33 v5 (upsU (l.take j)) ∧ v6 = .string (ba (backF i4 k3 (l.take j))) ∧ Below w1.heap.size w1 wr)
  case atStart => exact ⟨0, Nat.zero_le _, by omega, rfl, Ow.nil_, rfl, Below.refl _ _⟩
  case round =>
    obtain ⟨j, hj, hgj, rfl, ho, rfl, hb⟩ := hrel
    obtain ⟨Gv, nv, cv, rfl⟩ := ow_form ho
    have HO := Lib.hid ho
    have HB := Lib.hid hb
    clear ho hb
    by_cases hjl : j < l.length
    · have q0 : (0 : Int) ≤ (j : Int) := by omega
      have q1 : (j : Int) < (l.length : Int) := by omega
      obtain ⟨b4, o4, c4, e4, _, _, hb4, _, hx4⟩ := HS1.out.form (by omega)
      have e5 := (Value.slice.inj e4).1
      have e6 := (Value.slice.inj e4).2.2
      subst e5 e6
      obtain ⟨x, hx⟩ : ∃ x, l[j] = x := ⟨_, rfl⟩
      have hxg : GUpd x := HG.out x (by rw [← hx]; exact List.getElem_mem _)
      have hxx : ∀ i y, (upc x)[i]? = some y → w1.cell? ⟨b4, o4 + j * 8 + i, none⟩ = some y := fun i y hy => hx4 j x (by rw [List.getElem?_eq_getElem hjl, hx]) i y hy
      have hyes := backF_yes i4 k3 l j hjl
      have hno := backF_no i4 k3 l j hjl
      have hyes2 := upsU_yes l j hjl
      have hno2 := upsU_no l j hjl
      have hle := upsU_le (l.take j)
      have hal := backF_len i4 k3 (l.take j)
      have hlt0 : (l.take j).length ≤ 40 := by rw [List.length_take]; omega
      have HAL := Lib.hid (show (backF i4 k3 (l.take j)).length ≤ 8400 by omega)
      clear hal hlt0
      rw [hx] at hyes hno hyes2 hno2
      rw [List.length_take] at hle
      obtain ⟨A, hA⟩ : ∃ A, backF i4 k3 (l.take j) = A := ⟨_, rfl⟩
      obtain ⟨N, hN⟩ : ∃ N, upsU (l.take j) = N := ⟨_, rfl⟩
      rw [hA] at hyes hno HAL ⊢
      rw [hN] at hyes2 hno2 hle HO
      have HYES := Lib.hid hyes
      have HNO := Lib.hid hno
      have HYES2 := Lib.hid hyes2
      have HNO2 := Lib.hid hno2
      have HTF := Lib.hid (text_facts x)
      have HCK := Lib.hid (check_kinds x)
      have HPP := Lib.hid (parse_piece x)
      obtain ⟨kk, nm, no, pos, by_, fr, ev, ln⟩ := x
      have HCL := Lib.hid (fun (wy : World) (hy : Below w1.heap.size w1 wy) => (show wy.cell? ⟨b4, o4 + j * 8, none⟩ = some (.int .i64 kk) ∧ wy.cell? ⟨b4, o4 + j * 8 + 1, none⟩ = some (.string (ba nm)) ∧ wy.cell? ⟨b4, o4 + j * 8 + 2, none⟩ = some (.int .i64 no) ∧ wy.cell? ⟨b4, o4 + j * 8 + 3, none⟩ = some (.int .i64 pos) ∧ wy.cell? ⟨b4, o4 + j * 8 + 4, none⟩ = some (.int .i64 by_) ∧ wy.cell? ⟨b4, o4 + j * 8 + 5, none⟩ = some (.int .i64 fr) ∧ wy.cell? ⟨b4, o4 + j * 8 + 6, none⟩ = some (.int .i64 ev) ∧ wy.cell? ⟨b4, o4 + j * 8 + 7, none⟩ = some (.int .i64 ln) from ⟨(hy.cell (p := ⟨b4, o4 + j * 8, none⟩) hb4).trans (hxx 0 _ rfl), (hy.cell (p := ⟨b4, o4 + j * 8 + 1, none⟩) hb4).trans (hxx 1 _ rfl), (hy.cell (p := ⟨b4, o4 + j * 8 + 2, none⟩) hb4).trans (hxx 2 _ rfl), (hy.cell (p := ⟨b4, o4 + j * 8 + 3, none⟩) hb4).trans (hxx 3 _ rfl), (hy.cell (p := ⟨b4, o4 + j * 8 + 4, none⟩) hb4).trans (hxx 4 _ rfl), (hy.cell (p := ⟨b4, o4 + j * 8 + 5, none⟩) hb4).trans (hxx 5 _ rfl), (hy.cell (p := ⟨b4, o4 + j * 8 + 6, none⟩) hb4).trans (hxx 6 _ rfl), (hy.cell (p := ⟨b4, o4 + j * 8 + 7, none⟩) hb4).trans (hxx 7 _ rfl)⟩))
      have hnm := hxg.name
      have hnz : (ba nm).size = nm.length := ba_size nm
      clear hxx hx4 e4 hx hxg hyes hno hyes2 hno2 hA hN
      obtain ⟨s0, s1, s2, s3, s4, s5, s6, s7⟩ := HCL.out wr HB.out
      by_cases hlong : 100 < nm.length
      · have q2 : (100 : Int) < ((ba nm).size : Int) := by rw [hnz]; omega
        have hc : checkU ⟨kk, nm, no, pos, by_, fr, ev, ln⟩ ≠ 0 := fun hc => by
          have := (name_parts (HCK.out hc).1).2.2.1
          dsimp only at this
          omega
        have h1 := Lib.hid (HNO.out hc)
        have h2 := Lib.hid (HNO2.out hc)
        clear hc
        go_wp2_with fail
        go_roundg (l.length - (j + 1))
        case measure => omega
        case rel => exact ⟨j + 1, by omega, by omega, by go_num, by rw [h2.out]; exact HO.out, by rw [h1.out], HB.out⟩
      have q2 : ¬ (100 : Int) < ((ba nm).size : Int) := by rw [hnz]; omega
      go_wp2_with fail
      have hck := ucheck_any kk nm no pos by_ fr ev ln wr hnm (HT1.out _ HB.out)
      clear s0 s1 s2 s3 s4 s5 s6 s7
      by_cases hc : checkU ⟨kk, nm, no, pos, by_, fr, ev, ln⟩ = 0
      · rw [hc] at hck
        refine hck.mono ?_
        clear hck
        rintro e w3 ⟨rfl, hb3⟩
        have HB3 := Lib.hid (HB.out.trans (hb3.mono HB.out.size))
        have HO3 := Lib.hid (HO.out.keepB fun b hb hb2 => hb3.block b hb2)
        clear hb3 HO HB
        obtain ⟨s0, s1, s2, s3, s4, s5, s6, s7⟩ := HCL.out w3 HB3.out
        go_wp2_with fail
        clear s0 s1 s2 s3 s4 s5 s6 s7
        have htx := utext_any kk nm no pos by_ fr ev ln w3 hnm (HT1.out _ HB3.out) (HP1.out _ HB3.out)
        rw [if_pos hc, hc] at htx
        refine htx.mono ?_
        clear htx
        rintro e w4 ⟨rfl, hb4'⟩
        have HB4 := Lib.hid (HB3.out.trans (hb4'.mono HB3.out.size))
        have HO4 := Lib.hid (HO3.out.keepB fun b hb hb2 => hb4'.block b hb2)
        clear hb4' HO3 HB3
        have hlt := (HTF.out hc).2
        have h1 := HYES.out hc
        have h2 := HYES2.out hc
        obtain ⟨T, hT⟩ : ∃ T, textU ⟨kk, nm, no, pos, by_, fr, ev, ln⟩ = T := ⟨_, rfl⟩
        have hpp := HPP.out hc (ba T) (by rw [ba_size, ← hT]; omega) (by rw [ba_list, hT])
        unfold pieceU at h1
        rw [hT] at hlt h1 ⊢
        have HTXT := Lib.hid (show ba A ++ ba (aheadB i4) ++ ba T ++ ba (behindB k3 ++ [10]) = ba (backF i4 k3 (l.take (j + 1))) by
          rw [h1, ba_appU, ba_appU, ba_appU]; simp)
        have HNEXT := Lib.hid h2
        clear h1 h2 hc
        go_wp2_with fail
        have hca := chparse_any (ba T) w4 (by rw [ba_size]; omega) (HT1.out _ HB4.out) (HL1.out _ HB4.out)
        rw [hpp] at hca
        dsimp only [upc] at hca
        refine hca.mono ?_
        clear hca hpp
        rintro e w5 ⟨rfl, hb5⟩
        have HB5 := Lib.hid (HB4.out.trans (hb5.mono HB4.out.size))
        have HO5 := Lib.hid (HO4.out.keepB fun b hb hb2 => hb5.block b hb2)
        clear hb5 HO4 HB4
        go_upto_region 13 with fail
        obtain ⟨w6, hw6⟩ : ∃ w6, (w5.alloc (.cells #[.int .i64 kk, .string (ba nm), .int .i64 no, .int .i64 pos, .int .i64 by_, .int .i64 fr, .int .i64 ev, .int .i64 ln] 33)).alloc (.cells #[.int .i64 0, .int .i64 0, .int .i64 0] 26) = w6 := ⟨_, rfl⟩
        have hq6 : w6.heap[w5.heap.size + 1]? = some (.cells #[.int .i64 0, .int .i64 0, .int .i64 0] 26 (0, 0)) := by rw [← hw6]; exact alloc2_new _ _ _
        have hu6 : w6.heap[w5.heap.size]? = some (.cells #[.int .i64 kk, .string (ba nm), .int .i64 no, .int .i64 pos, .int .i64 by_, .int .i64 fr, .int .i64 ev, .int .i64 ln] 33 (0, 0)) := by rw [← hw6, Below.heap_alloc _ _ _ (by simp)]; exact heap_alloc_new _ _
        have HB6 := Lib.hid (show Below w1.heap.size w1 w6 by rw [← hw6]; exact (HB5.out.alloc HB5.out.size _).alloc (by have := HB5.out.size; simp; omega) _)
        have HO6 := Lib.hid (show Ow upc 8 w6 w1.heap.size 33 (.slice Gv nv cv) N by rw [← hw6]; exact (HO5.out.alloc _).alloc _)
        rw [hw6]
        clear hw6 HO5 HB5
        have y0 : w6.cell? ⟨w5.heap.size, 0, none⟩ = some (.int .i64 kk) := Lib.cell_of_heap hu6 0
        have y1 : w6.cell? ⟨w5.heap.size, 1, none⟩ = some (.string (ba nm)) := Lib.cell_of_heap hu6 1
        have y2 : w6.cell? ⟨w5.heap.size, 2, none⟩ = some (.int .i64 no) := Lib.cell_of_heap hu6 2
        have y3 : w6.cell? ⟨w5.heap.size, 3, none⟩ = some (.int .i64 pos) := Lib.cell_of_heap hu6 3
        have y4 : w6.cell? ⟨w5.heap.size, 4, none⟩ = some (.int .i64 by_) := Lib.cell_of_heap hu6 4
        have y5 : w6.cell? ⟨w5.heap.size, 5, none⟩ = some (.int .i64 fr) := Lib.cell_of_heap hu6 5
        have y6 : w6.cell? ⟨w5.heap.size, 6, none⟩ = some (.int .i64 ev) := Lib.cell_of_heap hu6 6
        have y7 : w6.cell? ⟨w5.heap.size, 7, none⟩ = some (.int .i64 ln) := Lib.cell_of_heap hu6 7
        have z0 : w6.cell? ⟨w5.heap.size + 1, 0, none⟩ = some (.int .i64 0) := Lib.cell_of_heap hq6 0
        have z1 : w6.cell? ⟨w5.heap.size + 1, 1, none⟩ = some (.int .i64 0) := Lib.cell_of_heap hq6 1
        have z2 : w6.cell? ⟨w5.heap.size + 1, 2, none⟩ = some (.int .i64 0) := Lib.cell_of_heap hq6 2
        obtain ⟨s0, s1, s2, s3, s4, s5, s6, s7⟩ := HCL.out w6 HB6.out
        have hqn := upd_neq ⟨kk, nm, no, pos, by_, fr, ev, ln⟩ ⟨kk, nm, no, pos, by_, fr, ev, ln⟩
        rw [decide_eq_true rfl] at hqn
        clear hq6 hu6
        go_quiet (fail)
        clear y0 y1 y2 y3 y4 y5 y6 y7 z0 z1 z2 s0 s1 s2 s3 s4 s5 s6 s7 hqn
        obtain ⟨w7, hw7⟩ : ∃ w7, w6.drewN nq = w7 := ⟨_, rfl⟩
        have HB7 := Lib.hid (show Below w1.heap.size w1 w7 by rw [← hw7]; exact below_drewN HB6.out nq)
        have HO7 := Lib.hid (show Ow upc 8 w7 w1.heap.size 33 (.slice Gv nv cv) N by rw [← hw7]; exact HO6.out.drewN nq)
        rw [hw7]
        clear hw7 HO6 HB6
        obtain ⟨s0, s1, s2, s3, s4, s5, s6, s7⟩ := HCL.out w7 HB7.out
        go_upto_region 16 with (at_builtin; refine wpList_append_sl _ rfl _ _ _ rfl w1.heap.size 33 i0 _ 72 Tryd.underlying23 hi0 hz0 hz1 hz2 (by rfl) (by omega) upc_len upc_one _ _ N [⟨kk, nm, no, pos, by_, fr, ev, ln⟩] rfl rfl (HO7.out.alloc _) (Sl.newl [⟨kk, nm, no, pos, by_, fr, ev, ln⟩] upc_len rfl rfl (by show 1 ≤ maxLen; decide) rfl) (by simp only [maxLen, List.length_cons, List.length_nil]; omega) (by simp only [List.length_cons, List.length_nil]; omega) (by have := HB7.out.size; simp; omega) ?_; intro v8 w8 hown8 hg8 hmv8; obtain ⟨Gw, nw, cw, ew⟩ := ow_form hown8; subst ew)
        have HBw8 := Lib.hid (show Below w1.heap.size w1 w8 from (HB7.out.alloc HB7.out.size _).grown hg8 (by have := HB7.out.size; simp; omega) fun q hq => (HO7.out.lt hq).1)
        have HOw8 := Lib.hid hown8
        have hsA : (ba A).size ≤ 8400 := by rw [ba_size]; exact HAL.out
        have hsB : (ba (aheadB i4)).size ≤ 4 := by rw [ba_size]; exact hah
        have hsT : (ba T).size ≤ 200 := by rw [ba_size]; omega
        have hsC : (ba (behindB k3 ++ [10])).size ≤ 5 := by rw [ba_size, List.length_append]; simp only [List.length_cons, List.length_nil]; omega
        have hsAB : (ba A ++ ba (aheadB i4)).size ≤ 8404 := by rw [ByteArray.size_append]; omega
        have hsABT : (ba A ++ ba (aheadB i4) ++ ba T).size ≤ 8604 := by rw [ByteArray.size_append]; omega
        have hadd1 : ¬ 9223372036854775807 < (ba A).size + (ba (aheadB i4)).size := by omega
        have hadd2 : ¬ 9223372036854775807 < (ba A).size + (ba (aheadB i4)).size + (ba T).size := by omega
        have hadd3 : ¬ 9223372036854775807 < (ba A).size + (ba (aheadB i4)).size + (ba T).size + (ba (behindB k3 ++ [10])).size := by omega
        clear hown8 hg8 hmv8 s0 s1 s2 s3 s4 s5 s6 s7 HO7 HB7
        have hSw : True := trivial
        refine wp_region_goon (fun _ => True) [1, 3, 9, 11] [] [5, 13] [0, 2, 4, 6, 7, 8, 10, 12, 14, 15] (by kernel_rfl) ?_

        refine goon_walk [0, 2, 7, 10] 12 rfl (by kernel_rfl) (by kernel_rfl) (fun _ _ h => h) ?_
        repeat (first | (refine wpKind_free (v := ?_) (by rfl) rfl (by rfl) ?_ ?_; rotate_left 1; (focus (intro wy; go_simp; try with_reducible rfl; done)); try simp only [Act.put, List.setIfInBounds_toArray, List.set_cons_zero, List.set_cons_succ]) | (refine wpKind_free (v := ?_) (by rfl) rfl (by rfl) ?_ ?_; rotate_left 1; (focus (intro wy; go_simp; (first | rw [if_pos hi4'] | rw [if_pos hk3']); (first | with_reducible rfl | (simp only [Nat.mul_one]; with_reducible rfl)); done)); try simp only [Act.put, List.setIfInBounds_toArray, List.set_cons_zero, List.set_cons_succ]) | (refine wpKind_free (v := ?_) (by rfl) rfl (by rfl) ?_ ?_; rotate_left 1; (focus (intro wy; go_simp; rw [if_pos (by omega)]; done)); try simp only [Act.put, List.setIfInBounds_toArray, List.set_cons_zero, List.set_cons_succ]) | fail)
        refine wpKind_fin ?_
        refine goon_three 1 3 9 (by kernel_rfl) ?_ ?_ ?_
        · skip
          refine hOp_keeps (by rfl) rfl (fun m1 => ?_)
          go_wp2_with fail
          obtain ⟨w8_1, hw8_1⟩ : ∃ W, (w8.drewN m1).alloc (.cells #[.string ⟨#[]⟩, .string ⟨#[32, 32]⟩, .string ⟨#[35, 32, 120, 10]⟩, .string ⟨#[10, 10, 9]⟩] 9) = W := ⟨_, rfl⟩
          have R1 := Lib.hid (show w8_1.heap[w8.heap.size]? = some (.cells #[.string ⟨#[]⟩, .string ⟨#[32, 32]⟩, .string ⟨#[35, 32, 120, 10]⟩, .string ⟨#[10, 10, 9]⟩] 9 (0, 0)) by rw [← hw8_1]; exact heap_alloc_new (w8.drewN m1) _)
          have HBw8_1 := Lib.hid (show Below w1.heap.size w1 w8_1 by rw [← hw8_1]; exact (below_drewN HBw8.out m1).alloc (by exact HBw8.out.size) _)
          have HOw8_1 := Lib.hid (show Ow upc 8 w8_1 w1.heap.size 33 (.slice Gw nw cw) (N ++ [⟨kk, nm, no, pos, by_, fr, ev, ln⟩]) by rw [← hw8_1]; exact (HOw8.out.drewN m1).alloc _)
          rw [hw8_1]
          clear hw8_1 hSw
          show _ ∧ _
          refine ⟨trivial, ?_⟩
          refine goon_weaken (fun wy => wy.heap[w8.heap.size]? = some (.cells #[.string ⟨#[]⟩, .string ⟨#[32, 32]⟩, .string ⟨#[35, 32, 120, 10]⟩, .string ⟨#[10, 10, 9]⟩] 9 (0, 0))) (fun _ h => trivial) ?_
          have hSw : w8_1.heap[w8.heap.size]? = some (.cells #[.string ⟨#[]⟩, .string ⟨#[32, 32]⟩, .string ⟨#[35, 32, 120, 10]⟩, .string ⟨#[10, 10, 9]⟩] 9 (0, 0)) := R1.out
          refine goon_two 3 9 (by kernel_rfl) ?_ ?_
          · skip
            refine hOp_keeps (by rfl) rfl (fun m2 => ?_)
            go_wp2_with fail
            refine (HPK4.out _).mono ?_
            rintro e W' ⟨rfl, rfl⟩
            go_wp2_with fail
            obtain ⟨w8_1_3, hw8_1_3⟩ : ∃ W, w8_1.drewN m2 = W := ⟨_, rfl⟩
            have HBw8_1_3 := Lib.hid (show Below w1.heap.size w1 w8_1_3 by rw [← hw8_1_3]; exact below_drewN HBw8_1.out m2)
            have R1 := Lib.hid (show w8_1_3.heap[w8.heap.size]? = some (.cells #[.string ⟨#[]⟩, .string ⟨#[32, 32]⟩, .string ⟨#[35, 32, 120, 10]⟩, .string ⟨#[10, 10, 9]⟩] 9 (0, 0)) by rw [← hw8_1_3]; exact kept_drewN R1.out m2)
            have HOw8_1_3 := Lib.hid (show Ow upc 8 w8_1_3 w1.heap.size 33 (.slice Gw nw cw) (N ++ [⟨kk, nm, no, pos, by_, fr, ev, ln⟩]) by rw [← hw8_1_3]; exact HOw8_1.out.drewN m2)
            rw [hw8_1_3]
            clear hw8_1_3 hSw
            show _ ∧ _
            refine ⟨R1.out, ?_⟩
            have hSw : w8_1_3.heap[w8.heap.size]? = some (.cells #[.string ⟨#[]⟩, .string ⟨#[32, 32]⟩, .string ⟨#[35, 32, 120, 10]⟩, .string ⟨#[10, 10, 9]⟩] 9 (0, 0)) := R1.out
            refine goon_walk [4, 5, 6, 8] 6 rfl (by kernel_rfl) (by kernel_rfl) (fun _ _ h => h) ?_
            repeat (first | (refine wpKind_free (v := ?_) (by rfl) rfl (by rfl) ?_ ?_; rotate_left 1; (focus (intro wy; go_simp; try with_reducible rfl; done)); try simp only [Act.put, List.setIfInBounds_toArray, List.set_cons_zero, List.set_cons_succ]) | (refine wpKind_free (v := ?_) (by rfl) rfl (by rfl) ?_ ?_; rotate_left 1; (focus (intro wy; go_simp; (first | rw [if_pos hi4'] | rw [if_pos hk3']); (first | with_reducible rfl | (simp only [Nat.mul_one]; with_reducible rfl)); done)); try simp only [Act.put, List.setIfInBounds_toArray, List.set_cons_zero, List.set_cons_succ]) | (refine wpKind_free (v := ?_) (by rfl) rfl (by rfl) ?_ ?_; rotate_left 1; (focus (intro wy; go_simp; rw [if_pos (by omega)]; done)); try simp only [Act.put, List.setIfInBounds_toArray, List.set_cons_zero, List.set_cons_succ]) | (refine wpKind_held (v := ?_) (by rfl) rfl (by rfl) hSw ?_ ?_; rotate_left 1; (focus (intro wy hSy; have x4 := rowA_at hSy hi4; go_simp; try with_reducible rfl; done)); try simp only [Act.put, List.setIfInBounds_toArray, List.set_cons_zero, List.set_cons_succ]))
            refine wpKind_fin ?_
            refine goon_two 9 11 (by kernel_rfl) ?_ ?_
            · skip
              refine hOp_keeps (by rfl) rfl (fun m3 => ?_)
              go_wp2_with fail
              obtain ⟨w8_1_3_9, hw8_1_3_9⟩ : ∃ W, (w8_1_3.drewN m3).alloc (.cells #[.string ⟨#[10]⟩, .string ⟨#[32, 35, 32, 121, 10]⟩, .string ⟨#[32, 10]⟩] 9) = W := ⟨_, rfl⟩
              have R9 := Lib.hid (show w8_1_3_9.heap[w8_1_3.heap.size]? = some (.cells #[.string ⟨#[10]⟩, .string ⟨#[32, 35, 32, 121, 10]⟩, .string ⟨#[32, 10]⟩] 9 (0, 0)) by rw [← hw8_1_3_9]; exact heap_alloc_new (w8_1_3.drewN m3) _)
              have HBw8_1_3_9 := Lib.hid (show Below w1.heap.size w1 w8_1_3_9 by rw [← hw8_1_3_9]; exact (below_drewN HBw8_1_3.out m3).alloc (by exact HBw8_1_3.out.size) _)
              have R1 := Lib.hid (show w8_1_3_9.heap[w8.heap.size]? = some (.cells #[.string ⟨#[]⟩, .string ⟨#[32, 32]⟩, .string ⟨#[35, 32, 120, 10]⟩, .string ⟨#[10, 10, 9]⟩] 9 (0, 0)) by rw [← hw8_1_3_9]; exact kept_alloc R1.out m3)
              have HOw8_1_3_9 := Lib.hid (show Ow upc 8 w8_1_3_9 w1.heap.size 33 (.slice Gw nw cw) (N ++ [⟨kk, nm, no, pos, by_, fr, ev, ln⟩]) by rw [← hw8_1_3_9]; exact (HOw8_1_3.out.drewN m3).alloc _)
              rw [hw8_1_3_9]
              clear hw8_1_3_9 hSw
              show _ ∧ _
              refine ⟨R1.out, ?_⟩
              refine goon_weaken (fun wy => wy.heap[w8.heap.size]? = some (.cells #[.string ⟨#[]⟩, .string ⟨#[32, 32]⟩, .string ⟨#[35, 32, 120, 10]⟩, .string ⟨#[10, 10, 9]⟩] 9 (0, 0)) ∧ wy.heap[w8_1_3.heap.size]? = some (.cells #[.string ⟨#[10]⟩, .string ⟨#[32, 35, 32, 121, 10]⟩, .string ⟨#[32, 10]⟩] 9 (0, 0))) (fun _ h => h.1) ?_
              have hSw : w8_1_3_9.heap[w8.heap.size]? = some (.cells #[.string ⟨#[]⟩, .string ⟨#[32, 32]⟩, .string ⟨#[35, 32, 120, 10]⟩, .string ⟨#[10, 10, 9]⟩] 9 (0, 0)) ∧ w8_1_3_9.heap[w8_1_3.heap.size]? = some (.cells #[.string ⟨#[10]⟩, .string ⟨#[32, 35, 32, 121, 10]⟩, .string ⟨#[32, 10]⟩] 9 (0, 0)) := ⟨R1.out, R9.out⟩
              refine goon_any [11] (by decide) (by kernel_rfl) ?_
              intro ii hii
              obtain rfl := List.mem_singleton.1 hii
              clear hii
              refine hOp_keeps (by rfl) rfl (fun m4 => ?_)
              go_wp2_with fail
              refine (HPK3.out _).mono ?_
              rintro e W' ⟨rfl, rfl⟩
              go_wp2_with fail
              obtain ⟨w8_1_3_9_11, hw8_1_3_9_11⟩ : ∃ W, w8_1_3_9.drewN m4 = W := ⟨_, rfl⟩
              have HBw8_1_3_9_11 := Lib.hid (show Below w1.heap.size w1 w8_1_3_9_11 by rw [← hw8_1_3_9_11]; exact below_drewN HBw8_1_3_9.out m4)
              have R1 := Lib.hid (show w8_1_3_9_11.heap[w8.heap.size]? = some (.cells #[.string ⟨#[]⟩, .string ⟨#[32, 32]⟩, .string ⟨#[35, 32, 120, 10]⟩, .string ⟨#[10, 10, 9]⟩] 9 (0, 0)) by rw [← hw8_1_3_9_11]; exact kept_drewN R1.out m4)
              have R9 := Lib.hid (show w8_1_3_9_11.heap[w8_1_3.heap.size]? = some (.cells #[.string ⟨#[10]⟩, .string ⟨#[32, 35, 32, 121, 10]⟩, .string ⟨#[32, 10]⟩] 9 (0, 0)) by rw [← hw8_1_3_9_11]; exact kept_drewN R9.out m4)
              have HOw8_1_3_9_11 := Lib.hid (show Ow upc 8 w8_1_3_9_11 w1.heap.size 33 (.slice Gw nw cw) (N ++ [⟨kk, nm, no, pos, by_, fr, ev, ln⟩]) by rw [← hw8_1_3_9_11]; exact HOw8_1_3_9.out.drewN m4)
              rw [hw8_1_3_9_11]
              clear hw8_1_3_9_11 hSw
              show _ ∧ _
              refine ⟨⟨R1.out, R9.out⟩, ?_⟩
              have hSw : w8_1_3_9_11.heap[w8.heap.size]? = some (.cells #[.string ⟨#[]⟩, .string ⟨#[32, 32]⟩, .string ⟨#[35, 32, 120, 10]⟩, .string ⟨#[10, 10, 9]⟩] 9 (0, 0)) ∧ w8_1_3_9_11.heap[w8_1_3.heap.size]? = some (.cells #[.string ⟨#[10]⟩, .string ⟨#[32, 35, 32, 121, 10]⟩, .string ⟨#[32, 10]⟩] 9 (0, 0)) := ⟨R1.out, R9.out⟩
              refine goon_walk [12, 13, 14, 15] 0 rfl (by kernel_rfl) (by kernel_rfl) (fun _ _ h => h) ?_
              repeat (first | (refine wpKind_free (v := ?_) (by rfl) rfl (by rfl) ?_ ?_; rotate_left 1; (focus (intro wy; go_simp; try with_reducible rfl; done)); try simp only [Act.put, List.setIfInBounds_toArray, List.set_cons_zero, List.set_cons_succ]) | (refine wpKind_free (v := ?_) (by rfl) rfl (by rfl) ?_ ?_; rotate_left 1; (focus (intro wy; go_simp; (first | rw [if_pos hi4'] | rw [if_pos hk3']); (first | with_reducible rfl | (simp only [Nat.mul_one]; with_reducible rfl)); done)); try simp only [Act.put, List.setIfInBounds_toArray, List.set_cons_zero, List.set_cons_succ]) | (refine wpKind_free (v := ?_) (by rfl) rfl (by rfl) ?_ ?_; rotate_left 1; (focus (intro wy; go_simp; rw [if_pos (by omega)]; done)); try simp only [Act.put, List.setIfInBounds_toArray, List.set_cons_zero, List.set_cons_succ]) | (refine wpKind_held (v := ?_) (by rfl) rfl (by rfl) hSw ?_ ?_; rotate_left 1; (focus (intro wy hSy; have x4 := rowA_at hSy.1 hi4; have x3 := rowB_at hSy.2 hk3; go_simp; try with_reducible rfl; done)); try simp only [Act.put, List.setIfInBounds_toArray, List.set_cons_zero, List.set_cons_succ]))
              refine wpKind_fin ?_
              clear hSw
              refine goon_end (by kernel_rfl) (fun m9 => ?_)
              go_wp2_with fail
              go_roundg (l.length - (j + 1))
              case measure => omega
              case rel => exact ⟨j + 1, by omega, by omega, by go_num, by rw [HNEXT.out]; exact HOw8_1_3_9_11.out.drewN m9, by rw [← HTXT.out], below_drewN HBw8_1_3_9_11.out m9⟩
            · skip
              refine hOp_keeps (by rfl) rfl (fun m3 => ?_)
              go_wp2_with fail
              refine (HPK3.out _).mono ?_
              rintro e W' ⟨rfl, rfl⟩
              go_wp2_with fail
              obtain ⟨w8_1_3_11, hw8_1_3_11⟩ : ∃ W, w8_1_3.drewN m3 = W := ⟨_, rfl⟩
              have HBw8_1_3_11 := Lib.hid (show Below w1.heap.size w1 w8_1_3_11 by rw [← hw8_1_3_11]; exact below_drewN HBw8_1_3.out m3)
              have R1 := Lib.hid (show w8_1_3_11.heap[w8.heap.size]? = some (.cells #[.string ⟨#[]⟩, .string ⟨#[32, 32]⟩, .string ⟨#[35, 32, 120, 10]⟩, .string ⟨#[10, 10, 9]⟩] 9 (0, 0)) by rw [← hw8_1_3_11]; exact kept_drewN R1.out m3)
              have HOw8_1_3_11 := Lib.hid (show Ow upc 8 w8_1_3_11 w1.heap.size 33 (.slice Gw nw cw) (N ++ [⟨kk, nm, no, pos, by_, fr, ev, ln⟩]) by rw [← hw8_1_3_11]; exact HOw8_1_3.out.drewN m3)
              rw [hw8_1_3_11]
              clear hw8_1_3_11 hSw
              show _ ∧ _
              refine ⟨R1.out, ?_⟩
              have hSw : w8_1_3_11.heap[w8.heap.size]? = some (.cells #[.string ⟨#[]⟩, .string ⟨#[32, 32]⟩, .string ⟨#[35, 32, 120, 10]⟩, .string ⟨#[10, 10, 9]⟩] 9 (0, 0)) := R1.out
              refine goon_any [9] (by decide) (by kernel_rfl) ?_
              intro ii hii
              obtain rfl := List.mem_singleton.1 hii
              clear hii
              refine hOp_keeps (by rfl) rfl (fun m4 => ?_)
              go_wp2_with fail
              obtain ⟨w8_1_3_11_9, hw8_1_3_11_9⟩ : ∃ W, (w8_1_3_11.drewN m4).alloc (.cells #[.string ⟨#[10]⟩, .string ⟨#[32, 35, 32, 121, 10]⟩, .string ⟨#[32, 10]⟩] 9) = W := ⟨_, rfl⟩
              have R9 := Lib.hid (show w8_1_3_11_9.heap[w8_1_3_11.heap.size]? = some (.cells #[.string ⟨#[10]⟩, .string ⟨#[32, 35, 32, 121, 10]⟩, .string ⟨#[32, 10]⟩] 9 (0, 0)) by rw [← hw8_1_3_11_9]; exact heap_alloc_new (w8_1_3_11.drewN m4) _)
              have HBw8_1_3_11_9 := Lib.hid (show Below w1.heap.size w1 w8_1_3_11_9 by rw [← hw8_1_3_11_9]; exact (below_drewN HBw8_1_3_11.out m4).alloc (by exact HBw8_1_3_11.out.size) _)
              have R1 := Lib.hid (show w8_1_3_11_9.heap[w8.heap.size]? = some (.cells #[.string ⟨#[]⟩, .string ⟨#[32, 32]⟩, .string ⟨#[35, 32, 120, 10]⟩, .string ⟨#[10, 10, 9]⟩] 9 (0, 0)) by rw [← hw8_1_3_11_9]; exact kept_alloc R1.out m4)
              have HOw8_1_3_11_9 := Lib.hid (show Ow upc 8 w8_1_3_11_9 w1.heap.size 33 (.slice Gw nw cw) (N ++ [⟨kk, nm, no, pos, by_, fr, ev, ln⟩]) by rw [← hw8_1_3_11_9]; exact (HOw8_1_3_11.out.drewN m4).alloc _)
              rw [hw8_1_3_11_9]
              clear hw8_1_3_11_9 hSw
              show _ ∧ _
              refine ⟨R1.out, ?_⟩
              refine goon_weaken (fun wy => wy.heap[w8.heap.size]? = some (.cells #[.string ⟨#[]⟩, .string ⟨#[32, 32]⟩, .string ⟨#[35, 32, 120, 10]⟩, .string ⟨#[10, 10, 9]⟩] 9 (0, 0)) ∧ wy.heap[w8_1_3_11.heap.size]? = some (.cells #[.string ⟨#[10]⟩, .string ⟨#[32, 35, 32, 121, 10]⟩, .string ⟨#[32, 10]⟩] 9 (0, 0))) (fun _ h => h.1) ?_
              have hSw : w8_1_3_11_9.heap[w8.heap.size]? = some (.cells #[.string ⟨#[]⟩, .string ⟨#[32, 32]⟩, .string ⟨#[35, 32, 120, 10]⟩, .string ⟨#[10, 10, 9]⟩] 9 (0, 0)) ∧ w8_1_3_11_9.heap[w8_1_3_11.heap.size]? = some (.cells #[.string ⟨#[10]⟩, .string ⟨#[32, 35, 32, 121, 10]⟩, .string ⟨#[32, 10]⟩] 9 (0, 0)) := ⟨R1.out, R9.out⟩
              refine goon_walk [12, 13, 14, 15] 0 rfl (by kernel_rfl) (by kernel_rfl) (fun _ _ h => h) ?_
              repeat (first | (refine wpKind_free (v := ?_) (by rfl) rfl (by rfl) ?_ ?_; rotate_left 1; (focus (intro wy; go_simp; try with_reducible rfl; done)); try simp only [Act.put, List.setIfInBounds_toArray, List.set_cons_zero, List.set_cons_succ]) | (refine wpKind_free (v := ?_) (by rfl) rfl (by rfl) ?_ ?_; rotate_left 1; (focus (intro wy; go_simp; (first | rw [if_pos hi4'] | rw [if_pos hk3']); (first | with_reducible rfl | (simp only [Nat.mul_one]; with_reducible rfl)); done)); try simp only [Act.put, List.setIfInBounds_toArray, List.set_cons_zero, List.set_cons_succ]) | (refine wpKind_free (v := ?_) (by rfl) rfl (by rfl) ?_ ?_; rotate_left 1; (focus (intro wy; go_simp; rw [if_pos (by omega)]; done)); try simp only [Act.put, List.setIfInBounds_toArray, List.set_cons_zero, List.set_cons_succ]) | (refine wpKind_held (v := ?_) (by rfl) rfl (by rfl) hSw ?_ ?_; rotate_left 1; (focus (intro wy hSy; have x4 := rowA_at hSy.1 hi4; have x3 := rowB_at hSy.2 hk3; go_simp; try with_reducible rfl; done)); try simp only [Act.put, List.setIfInBounds_toArray, List.set_cons_zero, List.set_cons_succ]))
              refine wpKind_fin ?_
              clear hSw
              refine goon_end (by kernel_rfl) (fun m9 => ?_)
              go_wp2_with fail
              go_roundg (l.length - (j + 1))
              case measure => omega
              case rel => exact ⟨j + 1, by omega, by omega, by go_num, by rw [HNEXT.out]; exact HOw8_1_3_11_9.out.drewN m9, by rw [← HTXT.out], below_drewN HBw8_1_3_11_9.out m9⟩
          · skip
            refine hOp_keeps (by rfl) rfl (fun m2 => ?_)
            go_wp2_with fail
            obtain ⟨w8_1_9, hw8_1_9⟩ : ∃ W, (w8_1.drewN m2).alloc (.cells #[.string ⟨#[10]⟩, .string ⟨#[32, 35, 32, 121, 10]⟩, .string ⟨#[32, 10]⟩] 9) = W := ⟨_, rfl⟩
            have R9 := Lib.hid (show w8_1_9.heap[w8_1.heap.size]? = some (.cells #[.string ⟨#[10]⟩, .string ⟨#[32, 35, 32, 121, 10]⟩, .string ⟨#[32, 10]⟩] 9 (0, 0)) by rw [← hw8_1_9]; exact heap_alloc_new (w8_1.drewN m2) _)
            have HBw8_1_9 := Lib.hid (show Below w1.heap.size w1 w8_1_9 by rw [← hw8_1_9]; exact (below_drewN HBw8_1.out m2).alloc (by exact HBw8_1.out.size) _)
            have R1 := Lib.hid (show w8_1_9.heap[w8.heap.size]? = some (.cells #[.string ⟨#[]⟩, .string ⟨#[32, 32]⟩, .string ⟨#[35, 32, 120, 10]⟩, .string ⟨#[10, 10, 9]⟩] 9 (0, 0)) by rw [← hw8_1_9]; exact kept_alloc R1.out m2)
            have HOw8_1_9 := Lib.hid (show Ow upc 8 w8_1_9 w1.heap.size 33 (.slice Gw nw cw) (N ++ [⟨kk, nm, no, pos, by_, fr, ev, ln⟩]) by rw [← hw8_1_9]; exact (HOw8_1.out.drewN m2).alloc _)
            rw [hw8_1_9]
            clear hw8_1_9 hSw
            show _ ∧ _
            refine ⟨R1.out, ?_⟩
            refine goon_weaken (fun wy => wy.heap[w8.heap.size]? = some (.cells #[.string ⟨#[]⟩, .string ⟨#[32, 32]⟩, .string ⟨#[35, 32, 120, 10]⟩, .string ⟨#[10, 10, 9]⟩] 9 (0, 0)) ∧ wy.heap[w8_1.heap.size]? = some (.cells #[.string ⟨#[10]⟩, .string ⟨#[32, 35, 32, 121, 10]⟩, .string ⟨#[32, 10]⟩] 9 (0, 0))) (fun _ h => h.1) ?_
            have hSw : w8_1_9.heap[w8.heap.size]? = some (.cells #[.string ⟨#[]⟩, .string ⟨#[32, 32]⟩, .string ⟨#[35, 32, 120, 10]⟩, .string ⟨#[10, 10, 9]⟩] 9 (0, 0)) ∧ w8_1_9.heap[w8_1.heap.size]? = some (.cells #[.string ⟨#[10]⟩, .string ⟨#[32, 35, 32, 121, 10]⟩, .string ⟨#[32, 10]⟩] 9 (0, 0)) := ⟨R1.out, R9.out⟩
            refine goon_any [3] (by decide) (by kernel_rfl) ?_
            intro ii hii
            obtain rfl := List.mem_singleton.1 hii
            clear hii
            refine hOp_keeps (by rfl) rfl (fun m3 => ?_)
            go_wp2_with fail
            refine (HPK4.out _).mono ?_
            rintro e W' ⟨rfl, rfl⟩
            go_wp2_with fail
            obtain ⟨w8_1_9_3, hw8_1_9_3⟩ : ∃ W, w8_1_9.drewN m3 = W := ⟨_, rfl⟩
            have HBw8_1_9_3 := Lib.hid (show Below w1.heap.size w1 w8_1_9_3 by rw [← hw8_1_9_3]; exact below_drewN HBw8_1_9.out m3)
            have R1 := Lib.hid (show w8_1_9_3.heap[w8.heap.size]? = some (.cells #[.string ⟨#[]⟩, .string ⟨#[32, 32]⟩, .string ⟨#[35, 32, 120, 10]⟩, .string ⟨#[10, 10, 9]⟩] 9 (0, 0)) by rw [← hw8_1_9_3]; exact kept_drewN R1.out m3)
            have R9 := Lib.hid (show w8_1_9_3.heap[w8_1.heap.size]? = some (.cells #[.string ⟨#[10]⟩, .string ⟨#[32, 35, 32, 121, 10]⟩, .string ⟨#[32, 10]⟩] 9 (0, 0)) by rw [← hw8_1_9_3]; exact kept_drewN R9.out m3)
            have HOw8_1_9_3 := Lib.hid (show Ow upc 8 w8_1_9_3 w1.heap.size 33 (.slice Gw nw cw) (N ++ [⟨kk, nm, no, pos, by_, fr, ev, ln⟩]) by rw [← hw8_1_9_3]; exact HOw8_1_9.out.drewN m3)
            rw [hw8_1_9_3]
            clear hw8_1_9_3 hSw
            show _ ∧ _
            refine ⟨⟨R1.out, R9.out⟩, ?_⟩
            have hSw : w8_1_9_3.heap[w8.heap.size]? = some (.cells #[.string ⟨#[]⟩, .string ⟨#[32, 32]⟩, .string ⟨#[35, 32, 120, 10]⟩, .string ⟨#[10, 10, 9]⟩] 9 (0, 0)) ∧ w8_1_9_3.heap[w8_1.heap.size]? = some (.cells #[.string ⟨#[10]⟩, .string ⟨#[32, 35, 32, 121, 10]⟩, .string ⟨#[32, 10]⟩] 9 (0, 0)) := ⟨R1.out, R9.out⟩
            refine goon_walk [4, 5, 6, 8] 5 rfl (by kernel_rfl) (by kernel_rfl) (fun _ _ h => h) ?_
            repeat (first | (refine wpKind_free (v := ?_) (by rfl) rfl (by rfl) ?_ ?_; rotate_left 1; (focus (intro wy; go_simp; try with_reducible rfl; done)); try simp only [Act.put, List.setIfInBounds_toArray, List.set_cons_zero, List.set_cons_succ]) | (refine wpKind_free (v := ?_) (by rfl) rfl (by rfl) ?_ ?_; rotate_left 1; (focus (intro wy; go_simp; (first | rw [if_pos hi4'] | rw [if_pos hk3']); (first | with_reducible rfl | (simp only [Nat.mul_one]; with_reducible rfl)); done)); try simp only [Act.put, List.setIfInBounds_toArray, List.set_cons_zero, List.set_cons_succ]) | (refine wpKind_free (v := ?_) (by rfl) rfl (by rfl) ?_ ?_; rotate_left 1; (focus (intro wy; go_simp; rw [if_pos (by omega)]; done)); try simp only [Act.put, List.setIfInBounds_toArray, List.set_cons_zero, List.set_cons_succ]) | (refine wpKind_held (v := ?_) (by rfl) rfl (by rfl) hSw ?_ ?_; rotate_left 1; (focus (intro wy hSy; have x4 := rowA_at hSy.1 hi4; have x3 := rowB_at hSy.2 hk3; go_simp; try with_reducible rfl; done)); try simp only [Act.put, List.setIfInBounds_toArray, List.set_cons_zero, List.set_cons_succ]))
            refine wpKind_fin ?_
            refine goon_any [11] (by decide) (by kernel_rfl) ?_
            intro ii hii
            obtain rfl := List.mem_singleton.1 hii
            clear hii
            refine hOp_keeps (by rfl) rfl (fun m4 => ?_)
            go_wp2_with fail
            refine (HPK3.out _).mono ?_
            rintro e W' ⟨rfl, rfl⟩
            go_wp2_with fail
            obtain ⟨w8_1_9_3_11, hw8_1_9_3_11⟩ : ∃ W, w8_1_9_3.drewN m4 = W := ⟨_, rfl⟩
            have HBw8_1_9_3_11 := Lib.hid (show Below w1.heap.size w1 w8_1_9_3_11 by rw [← hw8_1_9_3_11]; exact below_drewN HBw8_1_9_3.out m4)
            have R1 := Lib.hid (show w8_1_9_3_11.heap[w8.heap.size]? = some (.cells #[.string ⟨#[]⟩, .string ⟨#[32, 32]⟩, .string ⟨#[35, 32, 120, 10]⟩, .string ⟨#[10, 10, 9]⟩] 9 (0, 0)) by rw [← hw8_1_9_3_11]; exact kept_drewN R1.out m4)
            have R9 := Lib.hid (show w8_1_9_3_11.heap[w8_1.heap.size]? = some (.cells #[.string ⟨#[10]⟩, .string ⟨#[32, 35, 32, 121, 10]⟩, .string ⟨#[32, 10]⟩] 9 (0, 0)) by rw [← hw8_1_9_3_11]; exact kept_drewN R9.out m4)
            have HOw8_1_9_3_11 := Lib.hid (show Ow upc 8 w8_1_9_3_11 w1.heap.size 33 (.slice Gw nw cw) (N ++ [⟨kk, nm, no, pos, by_, fr, ev, ln⟩]) by rw [← hw8_1_9_3_11]; exact HOw8_1_9_3.out.drewN m4)
            rw [hw8_1_9_3_11]
            clear hw8_1_9_3_11 hSw
            show _ ∧ _
            refine ⟨⟨R1.out, R9.out⟩, ?_⟩
            have hSw : w8_1_9_3_11.heap[w8.heap.size]? = some (.cells #[.string ⟨#[]⟩, .string ⟨#[32, 32]⟩, .string ⟨#[35, 32, 120, 10]⟩, .string ⟨#[10, 10, 9]⟩] 9 (0, 0)) ∧ w8_1_9_3_11.heap[w8_1.heap.size]? = some (.cells #[.string ⟨#[10]⟩, .string ⟨#[32, 35, 32, 121, 10]⟩, .string ⟨#[32, 10]⟩] 9 (0, 0)) := ⟨R1.out, R9.out⟩
            refine goon_walk [12, 13, 14, 15] 0 rfl (by kernel_rfl) (by kernel_rfl) (fun _ _ h => h) ?_
            repeat (first | (refine wpKind_free (v := ?_) (by rfl) rfl (by rfl) ?_ ?_; rotate_left 1; (focus (intro wy; go_simp; try with_reducible rfl; done)); try simp only [Act.put, List.setIfInBounds_toArray, List.set_cons_zero, List.set_cons_succ]) | (refine wpKind_free (v := ?_) (by rfl) rfl (by rfl) ?_ ?_; rotate_left 1; (focus (intro wy; go_simp; (first | rw [if_pos hi4'] | rw [if_pos hk3']); (first | with_reducible rfl | (simp only [Nat.mul_one]; with_reducible rfl)); done)); try simp only [Act.put, List.setIfInBounds_toArray, List.set_cons_zero, List.set_cons_succ]) | (refine wpKind_free (v := ?_) (by rfl) rfl (by rfl) ?_ ?_; rotate_left 1; (focus (intro wy; go_simp; rw [if_pos (by omega)]; done)); try simp only [Act.put, List.setIfInBounds_toArray, List.set_cons_zero, List.set_cons_succ]) | (refine wpKind_held (v := ?_) (by rfl) rfl (by rfl) hSw ?_ ?_; rotate_left 1; (focus (intro wy hSy; have x4 := rowA_at hSy.1 hi4; have x3 := rowB_at hSy.2 hk3; go_simp; try with_reducible rfl; done)); try simp only [Act.put, List.setIfInBounds_toArray, List.set_cons_zero, List.set_cons_succ]))
            refine wpKind_fin ?_
            clear hSw
            refine goon_end (by kernel_rfl) (fun m9 => ?_)
            go_wp2_with fail
            go_roundg (l.length - (j + 1))
            case measure => omega
            case rel => exact ⟨j + 1, by omega, by omega, by go_num, by rw [HNEXT.out]; exact HOw8_1_9_3_11.out.drewN m9, by rw [← HTXT.out], below_drewN HBw8_1_9_3_11.out m9⟩
        · skip
          refine hOp_keeps (by rfl) rfl (fun m1 => ?_)
          go_wp2_with fail
          refine (HPK4.out _).mono ?_
          rintro e W' ⟨rfl, rfl⟩
          go_wp2_with fail
          obtain ⟨w8_3, hw8_3⟩ : ∃ W, w8.drewN m1 = W := ⟨_, rfl⟩
          have HBw8_3 := Lib.hid (show Below w1.heap.size w1 w8_3 by rw [← hw8_3]; exact below_drewN HBw8.out m1)
          have HOw8_3 := Lib.hid (show Ow upc 8 w8_3 w1.heap.size 33 (.slice Gw nw cw) (N ++ [⟨kk, nm, no, pos, by_, fr, ev, ln⟩]) by rw [← hw8_3]; exact HOw8.out.drewN m1)
          rw [hw8_3]
          clear hw8_3 hSw
          show _ ∧ _
          refine ⟨trivial, ?_⟩
          have hSw : True := trivial
          refine goon_three 1 9 11 (by kernel_rfl) ?_ ?_ ?_
          · skip
            refine hOp_keeps (by rfl) rfl (fun m2 => ?_)
            go_wp2_with fail
            obtain ⟨w8_3_1, hw8_3_1⟩ : ∃ W, (w8_3.drewN m2).alloc (.cells #[.string ⟨#[]⟩, .string ⟨#[32, 32]⟩, .string ⟨#[35, 32, 120, 10]⟩, .string ⟨#[10, 10, 9]⟩] 9) = W := ⟨_, rfl⟩
            have R1 := Lib.hid (show w8_3_1.heap[w8_3.heap.size]? = some (.cells #[.string ⟨#[]⟩, .string ⟨#[32, 32]⟩, .string ⟨#[35, 32, 120, 10]⟩, .string ⟨#[10, 10, 9]⟩] 9 (0, 0)) by rw [← hw8_3_1]; exact heap_alloc_new (w8_3.drewN m2) _)
            have HBw8_3_1 := Lib.hid (show Below w1.heap.size w1 w8_3_1 by rw [← hw8_3_1]; exact (below_drewN HBw8_3.out m2).alloc (by exact HBw8_3.out.size) _)
            have HOw8_3_1 := Lib.hid (show Ow upc 8 w8_3_1 w1.heap.size 33 (.slice Gw nw cw) (N ++ [⟨kk, nm, no, pos, by_, fr, ev, ln⟩]) by rw [← hw8_3_1]; exact (HOw8_3.out.drewN m2).alloc _)
            rw [hw8_3_1]
            clear hw8_3_1 hSw
            show _ ∧ _
            refine ⟨trivial, ?_⟩
            refine goon_weaken (fun wy => wy.heap[w8_3.heap.size]? = some (.cells #[.string ⟨#[]⟩, .string ⟨#[32, 32]⟩, .string ⟨#[35, 32, 120, 10]⟩, .string ⟨#[10, 10, 9]⟩] 9 (0, 0))) (fun _ h => trivial) ?_
            have hSw : w8_3_1.heap[w8_3.heap.size]? = some (.cells #[.string ⟨#[]⟩, .string ⟨#[32, 32]⟩, .string ⟨#[35, 32, 120, 10]⟩, .string ⟨#[10, 10, 9]⟩] 9 (0, 0)) := R1.out
            refine goon_walk [4, 5, 6, 8] 6 rfl (by kernel_rfl) (by kernel_rfl) (fun _ _ h => h) ?_
            repeat (first | (refine wpKind_free (v := ?_) (by rfl) rfl (by rfl) ?_ ?_; rotate_left 1; (focus (intro wy; go_simp; try with_reducible rfl; done)); try simp only [Act.put, List.setIfInBounds_toArray, List.set_cons_zero, List.set_cons_succ]) | (refine wpKind_free (v := ?_) (by rfl) rfl (by rfl) ?_ ?_; rotate_left 1; (focus (intro wy; go_simp; (first | rw [if_pos hi4'] | rw [if_pos hk3']); (first | with_reducible rfl | (simp only [Nat.mul_one]; with_reducible rfl)); done)); try simp only [Act.put, List.setIfInBounds_toArray, List.set_cons_zero, List.set_cons_succ]) | (refine wpKind_free (v := ?_) (by rfl) rfl (by rfl) ?_ ?_; rotate_left 1; (focus (intro wy; go_simp; rw [if_pos (by omega)]; done)); try simp only [Act.put, List.setIfInBounds_toArray, List.set_cons_zero, List.set_cons_succ]) | (refine wpKind_held (v := ?_) (by rfl) rfl (by rfl) hSw ?_ ?_; rotate_left 1; (focus (intro wy hSy; have x4 := rowA_at hSy hi4; go_simp; try with_reducible rfl; done)); try simp only [Act.put, List.setIfInBounds_toArray, List.set_cons_zero, List.set_cons_succ]))
            refine wpKind_fin ?_
            refine goon_two 9 11 (by kernel_rfl) ?_ ?_
            · skip
              refine hOp_keeps (by rfl) rfl (fun m3 => ?_)
              go_wp2_with fail
              obtain ⟨w8_3_1_9, hw8_3_1_9⟩ : ∃ W, (w8_3_1.drewN m3).alloc (.cells #[.string ⟨#[10]⟩, .string ⟨#[32, 35, 32, 121, 10]⟩, .string ⟨#[32, 10]⟩] 9) = W := ⟨_, rfl⟩
              have R9 := Lib.hid (show w8_3_1_9.heap[w8_3_1.heap.size]? = some (.cells #[.string ⟨#[10]⟩, .string ⟨#[32, 35, 32, 121, 10]⟩, .string ⟨#[32, 10]⟩] 9 (0, 0)) by rw [← hw8_3_1_9]; exact heap_alloc_new (w8_3_1.drewN m3) _)
              have HBw8_3_1_9 := Lib.hid (show Below w1.heap.size w1 w8_3_1_9 by rw [← hw8_3_1_9]; exact (below_drewN HBw8_3_1.out m3).alloc (by exact HBw8_3_1.out.size) _)
              have R1 := Lib.hid (show w8_3_1_9.heap[w8_3.heap.size]? = some (.cells #[.string ⟨#[]⟩, .string ⟨#[32, 32]⟩, .string ⟨#[35, 32, 120, 10]⟩, .string ⟨#[10, 10, 9]⟩] 9 (0, 0)) by rw [← hw8_3_1_9]; exact kept_alloc R1.out m3)
              have HOw8_3_1_9 := Lib.hid (show Ow upc 8 w8_3_1_9 w1.heap.size 33 (.slice Gw nw cw) (N ++ [⟨kk, nm, no, pos, by_, fr, ev, ln⟩]) by rw [← hw8_3_1_9]; exact (HOw8_3_1.out.drewN m3).alloc _)
              rw [hw8_3_1_9]
              clear hw8_3_1_9 hSw
              show _ ∧ _
              refine ⟨R1.out, ?_⟩
              refine goon_weaken (fun wy => wy.heap[w8_3.heap.size]? = some (.cells #[.string ⟨#[]⟩, .string ⟨#[32, 32]⟩, .string ⟨#[35, 32, 120, 10]⟩, .string ⟨#[10, 10, 9]⟩] 9 (0, 0)) ∧ wy.heap[w8_3_1.heap.size]? = some (.cells #[.string ⟨#[10]⟩, .string ⟨#[32, 35, 32, 121, 10]⟩, .string ⟨#[32, 10]⟩] 9 (0, 0))) (fun _ h => h.1) ?_
              have hSw : w8_3_1_9.heap[w8_3.heap.size]? = some (.cells #[.string ⟨#[]⟩, .string ⟨#[32, 32]⟩, .string ⟨#[35, 32, 120, 10]⟩, .string ⟨#[10, 10, 9]⟩] 9 (0, 0)) ∧ w8_3_1_9.heap[w8_3_1.heap.size]? = some (.cells #[.string ⟨#[10]⟩, .string ⟨#[32, 35, 32, 121, 10]⟩, .string ⟨#[32, 10]⟩] 9 (0, 0)) := ⟨R1.out, R9.out⟩
              refine goon_any [11] (by decide) (by kernel_rfl) ?_
              intro ii hii
              obtain rfl := List.mem_singleton.1 hii
              clear hii
              refine hOp_keeps (by rfl) rfl (fun m4 => ?_)
              go_wp2_with fail
              refine (HPK3.out _).mono ?_
              rintro e W' ⟨rfl, rfl⟩
              go_wp2_with fail
              obtain ⟨w8_3_1_9_11, hw8_3_1_9_11⟩ : ∃ W, w8_3_1_9.drewN m4 = W := ⟨_, rfl⟩
              have HBw8_3_1_9_11 := Lib.hid (show Below w1.heap.size w1 w8_3_1_9_11 by rw [← hw8_3_1_9_11]; exact below_drewN HBw8_3_1_9.out m4)
              have R1 := Lib.hid (show w8_3_1_9_11.heap[w8_3.heap.size]? = some (.cells #[.string ⟨#[]⟩, .string ⟨#[32, 32]⟩, .string ⟨#[35, 32, 120, 10]⟩, .string ⟨#[10, 10, 9]⟩] 9 (0, 0)) by rw [← hw8_3_1_9_11]; exact kept_drewN R1.out m4)
              have R9 := Lib.hid (show w8_3_1_9_11.heap[w8_3_1.heap.size]? = some (.cells #[.string ⟨#[10]⟩, .string ⟨#[32, 35, 32, 121, 10]⟩, .string ⟨#[32, 10]⟩] 9 (0, 0)) by rw [← hw8_3_1_9_11]; exact kept_drewN R9.out m4)
              have HOw8_3_1_9_11 := Lib.hid (show Ow upc 8 w8_3_1_9_11 w1.heap.size 33 (.slice Gw nw cw) (N ++ [⟨kk, nm, no, pos, by_, fr, ev, ln⟩]) by rw [← hw8_3_1_9_11]; exact HOw8_3_1_9.out.drewN m4)
              rw [hw8_3_1_9_11]
              clear hw8_3_1_9_11 hSw
              show _ ∧ _
              refine ⟨⟨R1.out, R9.out⟩, ?_⟩
              have hSw : w8_3_1_9_11.heap[w8_3.heap.size]? = some (.cells #[.string ⟨#[]⟩, .string ⟨#[32, 32]⟩, .string ⟨#[35, 32, 120, 10]⟩, .string ⟨#[10, 10, 9]⟩] 9 (0, 0)) ∧ w8_3_1_9_11.heap[w8_3_1.heap.size]? = some (.cells #[.string ⟨#[10]⟩, .string ⟨#[32, 35, 32, 121, 10]⟩, .string ⟨#[32, 10]⟩] 9 (0, 0)) := ⟨R1.out, R9.out⟩
              refine goon_walk [12, 13, 14, 15] 0 rfl (by kernel_rfl) (by kernel_rfl) (fun _ _ h => h) ?_
              repeat (first | (refine wpKind_free (v := ?_) (by rfl) rfl (by rfl) ?_ ?_; rotate_left 1; (focus (intro wy; go_simp; try with_reducible rfl; done)); try simp only [Act.put, List.setIfInBounds_toArray, List.set_cons_zero, List.set_cons_succ]) | (refine wpKind_free (v := ?_) (by rfl) rfl (by rfl) ?_ ?_; rotate_left 1; (focus (intro wy; go_simp; (first | rw [if_pos hi4'] | rw [if_pos hk3']); (first | with_reducible rfl | (simp only [Nat.mul_one]; with_reducible rfl)); done)); try simp only [Act.put, List.setIfInBounds_toArray, List.set_cons_zero, List.set_cons_succ]) | (refine wpKind_free (v := ?_) (by rfl) rfl (by rfl) ?_ ?_; rotate_left 1; (focus (intro wy; go_simp; rw [if_pos (by omega)]; done)); try simp only [Act.put, List.setIfInBounds_toArray, List.set_cons_zero, List.set_cons_succ]) | (refine wpKind_held (v := ?_) (by rfl) rfl (by rfl) hSw ?_ ?_; rotate_left 1; (focus (intro wy hSy; have x4 := rowA_at hSy.1 hi4; have x3 := rowB_at hSy.2 hk3; go_simp; try with_reducible rfl; done)); try simp only [Act.put, List.setIfInBounds_toArray, List.set_cons_zero, List.set_cons_succ]))
              refine wpKind_fin ?_
              clear hSw
              refine goon_end (by kernel_rfl) (fun m9 => ?_)
              go_wp2_with fail
              go_roundg (l.length - (j + 1))
              case measure => omega
              case rel => exact ⟨j + 1, by omega, by omega, by go_num, by rw [HNEXT.out]; exact HOw8_3_1_9_11.out.drewN m9, by rw [← HTXT.out], below_drewN HBw8_3_1_9_11.out m9⟩
            · skip
              refine hOp_keeps (by rfl) rfl (fun m3 => ?_)
              go_wp2_with fail
              refine (HPK3.out _).mono ?_
              rintro e W' ⟨rfl, rfl⟩
              go_wp2_with fail
              obtain ⟨w8_3_1_11, hw8_3_1_11⟩ : ∃ W, w8_3_1.drewN m3 = W := ⟨_, rfl⟩
              have HBw8_3_1_11 := Lib.hid (show Below w1.heap.size w1 w8_3_1_11 by rw [← hw8_3_1_11]; exact below_drewN HBw8_3_1.out m3)
              have R1 := Lib.hid (show w8_3_1_11.heap[w8_3.heap.size]? = some (.cells #[.string ⟨#[]⟩, .string ⟨#[32, 32]⟩, .string ⟨#[35, 32, 120, 10]⟩, .string ⟨#[10, 10, 9]⟩] 9 (0, 0)) by rw [← hw8_3_1_11]; exact kept_drewN R1.out m3)
              have HOw8_3_1_11 := Lib.hid (show Ow upc 8 w8_3_1_11 w1.heap.size 33 (.slice Gw nw cw) (N ++ [⟨kk, nm, no, pos, by_, fr, ev, ln⟩]) by rw [← hw8_3_1_11]; exact HOw8_3_1.out.drewN m3)
              rw [hw8_3_1_11]
              clear hw8_3_1_11 hSw
              show _ ∧ _
              refine ⟨R1.out, ?_⟩
              have hSw : w8_3_1_11.heap[w8_3.heap.size]? = some (.cells #[.string ⟨#[]⟩, .string ⟨#[32, 32]⟩, .string ⟨#[35, 32, 120, 10]⟩, .string ⟨#[10, 10, 9]⟩] 9 (0, 0)) := R1.out
              refine goon_any [9] (by decide) (by kernel_rfl) ?_
              intro ii hii
              obtain rfl := List.mem_singleton.1 hii
              clear hii
              refine hOp_keeps (by rfl) rfl (fun m4 => ?_)
              go_wp2_with fail
              obtain ⟨w8_3_1_11_9, hw8_3_1_11_9⟩ : ∃ W, (w8_3_1_11.drewN m4).alloc (.cells #[.string ⟨#[10]⟩, .string ⟨#[32, 35, 32, 121, 10]⟩, .string ⟨#[32, 10]⟩] 9) = W := ⟨_, rfl⟩
              have R9 := Lib.hid (show w8_3_1_11_9.heap[w8_3_1_11.heap.size]? = some (.cells #[.string ⟨#[10]⟩, .string ⟨#[32, 35, 32, 121, 10]⟩, .string ⟨#[32, 10]⟩] 9 (0, 0)) by rw [← hw8_3_1_11_9]; exact heap_alloc_new (w8_3_1_11.drewN m4) _)
              have HBw8_3_1_11_9 := Lib.hid (show Below w1.heap.size w1 w8_3_1_11_9 by rw [← hw8_3_1_11_9]; exact (below_drewN HBw8_3_1_11.out m4).alloc (by exact HBw8_3_1_11.out.size) _)
              have R1 := Lib.hid (show w8_3_1_11_9.heap[w8_3.heap.size]? = some (.cells #[.string ⟨#[]⟩, .string ⟨#[32, 32]⟩, .string ⟨#[35, 32, 120, 10]⟩, .string ⟨#[10, 10, 9]⟩] 9 (0, 0)) by rw [← hw8_3_1_11_9]; exact kept_alloc R1.out m4)
              have HOw8_3_1_11_9 := Lib.hid (show Ow upc 8 w8_3_1_11_9 w1.heap.size 33 (.slice Gw nw cw) (N ++ [⟨kk, nm, no, pos, by_, fr, ev, ln⟩]) by rw [← hw8_3_1_11_9]; exact (HOw8_3_1_11.out.drewN m4).alloc _)
              rw [hw8_3_1_11_9]
              clear hw8_3_1_11_9 hSw
              show _ ∧ _
              refine ⟨R1.out, ?_⟩
              refine goon_weaken (fun wy => wy.heap[w8_3.heap.size]? = some (.cells #[.string ⟨#[]⟩, .string ⟨#[32, 32]⟩, .string ⟨#[35, 32, 120, 10]⟩, .string ⟨#[10, 10, 9]⟩] 9 (0, 0)) ∧ wy.heap[w8_3_1_11.heap.size]? = some (.cells #[.string ⟨#[10]⟩, .string ⟨#[32, 35, 32, 121, 10]⟩, .string ⟨#[32, 10]⟩] 9 (0, 0))) (fun _ h => h.1) ?_
              have hSw : w8_3_1_11_9.heap[w8_3.heap.size]? = some (.cells #[.string ⟨#[]⟩, .string ⟨#[32, 32]⟩, .string ⟨#[35, 32, 120, 10]⟩, .string ⟨#[10, 10, 9]⟩] 9 (0, 0)) ∧ w8_3_1_11_9.heap[w8_3_1_11.heap.size]? = some (.cells #[.string ⟨#[10]⟩, .string ⟨#[32, 35, 32, 121, 10]⟩, .string ⟨#[32, 10]⟩] 9 (0, 0)) := ⟨R1.out, R9.out⟩
              refine goon_walk [12, 13, 14, 15] 0 rfl (by kernel_rfl) (by kernel_rfl) (fun _ _ h => h) ?_
              repeat (first | (refine wpKind_free (v := ?_) (by rfl) rfl (by rfl) ?_ ?_; rotate_left 1; (focus (intro wy; go_simp; try with_reducible rfl; done)); try simp only [Act.put, List.setIfInBounds_toArray, List.set_cons_zero, List.set_cons_succ]) | (refine wpKind_free (v := ?_) (by rfl) rfl (by rfl) ?_ ?_; rotate_left 1; (focus (intro wy; go_simp; (first | rw [if_pos hi4'] | rw [if_pos hk3']); (first | with_reducible rfl | (simp only [Nat.mul_one]; with_reducible rfl)); done)); try simp only [Act.put, List.setIfInBounds_toArray, List.set_cons_zero, List.set_cons_succ]) | (refine wpKind_free (v := ?_) (by rfl) rfl (by rfl) ?_ ?_; rotate_left 1; (focus (intro wy; go_simp; rw [if_pos (by omega)]; done)); try simp only [Act.put, List.setIfInBounds_toArray, List.set_cons_zero, List.set_cons_succ]) | (refine wpKind_held (v := ?_) (by rfl) rfl (by rfl) hSw ?_ ?_; rotate_left 1; (focus (intro wy hSy; have x4 := rowA_at hSy.1 hi4; have x3 := rowB_at hSy.2 hk3; go_simp; try with_reducible rfl; done)); try simp only [Act.put, List.setIfInBounds_toArray, List.set_cons_zero, List.set_cons_succ]))
              refine wpKind_fin ?_
              clear hSw
              refine goon_end (by kernel_rfl) (fun m9 => ?_)
              go_wp2_with fail
              go_roundg (l.length - (j + 1))
              case measure => omega
              case rel => exact ⟨j + 1, by omega, by omega, by go_num, by rw [HNEXT.out]; exact HOw8_3_1_11_9.out.drewN m9, by rw [← HTXT.out], below_drewN HBw8_3_1_11_9.out m9⟩
          · skip
            refine hOp_keeps (by rfl) rfl (fun m2 => ?_)
            go_wp2_with fail
            obtain ⟨w8_3_9, hw8_3_9⟩ : ∃ W, (w8_3.drewN m2).alloc (.cells #[.string ⟨#[10]⟩, .string ⟨#[32, 35, 32, 121, 10]⟩, .string ⟨#[32, 10]⟩] 9) = W := ⟨_, rfl⟩
            have R9 := Lib.hid (show w8_3_9.heap[w8_3.heap.size]? = some (.cells #[.string ⟨#[10]⟩, .string ⟨#[32, 35, 32, 121, 10]⟩, .string ⟨#[32, 10]⟩] 9 (0, 0)) by rw [← hw8_3_9]; exact heap_alloc_new (w8_3.drewN m2) _)
            have HBw8_3_9 := Lib.hid (show Below w1.heap.size w1 w8_3_9 by rw [← hw8_3_9]; exact (below_drewN HBw8_3.out m2).alloc (by exact HBw8_3.out.size) _)
            have HOw8_3_9 := Lib.hid (show Ow upc 8 w8_3_9 w1.heap.size 33 (.slice Gw nw cw) (N ++ [⟨kk, nm, no, pos, by_, fr, ev, ln⟩]) by rw [← hw8_3_9]; exact (HOw8_3.out.drewN m2).alloc _)
            rw [hw8_3_9]
            clear hw8_3_9 hSw
            show _ ∧ _
            refine ⟨trivial, ?_⟩
            refine goon_weaken (fun wy => wy.heap[w8_3.heap.size]? = some (.cells #[.string ⟨#[10]⟩, .string ⟨#[32, 35, 32, 121, 10]⟩, .string ⟨#[32, 10]⟩] 9 (0, 0))) (fun _ h => trivial) ?_
            have hSw : w8_3_9.heap[w8_3.heap.size]? = some (.cells #[.string ⟨#[10]⟩, .string ⟨#[32, 35, 32, 121, 10]⟩, .string ⟨#[32, 10]⟩] 9 (0, 0)) := R9.out
            refine goon_two 1 11 (by kernel_rfl) ?_ ?_
            · skip
              refine hOp_keeps (by rfl) rfl (fun m3 => ?_)
              go_wp2_with fail
              obtain ⟨w8_3_9_1, hw8_3_9_1⟩ : ∃ W, (w8_3_9.drewN m3).alloc (.cells #[.string ⟨#[]⟩, .string ⟨#[32, 32]⟩, .string ⟨#[35, 32, 120, 10]⟩, .string ⟨#[10, 10, 9]⟩] 9) = W := ⟨_, rfl⟩
              have R1 := Lib.hid (show w8_3_9_1.heap[w8_3_9.heap.size]? = some (.cells #[.string ⟨#[]⟩, .string ⟨#[32, 32]⟩, .string ⟨#[35, 32, 120, 10]⟩, .string ⟨#[10, 10, 9]⟩] 9 (0, 0)) by rw [← hw8_3_9_1]; exact heap_alloc_new (w8_3_9.drewN m3) _)
              have HBw8_3_9_1 := Lib.hid (show Below w1.heap.size w1 w8_3_9_1 by rw [← hw8_3_9_1]; exact (below_drewN HBw8_3_9.out m3).alloc (by exact HBw8_3_9.out.size) _)
              have R9 := Lib.hid (show w8_3_9_1.heap[w8_3.heap.size]? = some (.cells #[.string ⟨#[10]⟩, .string ⟨#[32, 35, 32, 121, 10]⟩, .string ⟨#[32, 10]⟩] 9 (0, 0)) by rw [← hw8_3_9_1]; exact kept_alloc R9.out m3)
              have HOw8_3_9_1 := Lib.hid (show Ow upc 8 w8_3_9_1 w1.heap.size 33 (.slice Gw nw cw) (N ++ [⟨kk, nm, no, pos, by_, fr, ev, ln⟩]) by rw [← hw8_3_9_1]; exact (HOw8_3_9.out.drewN m3).alloc _)
              rw [hw8_3_9_1]
              clear hw8_3_9_1 hSw
              show _ ∧ _
              refine ⟨R9.out, ?_⟩
              refine goon_weaken (fun wy => wy.heap[w8_3.heap.size]? = some (.cells #[.string ⟨#[10]⟩, .string ⟨#[32, 35, 32, 121, 10]⟩, .string ⟨#[32, 10]⟩] 9 (0, 0)) ∧ wy.heap[w8_3_9.heap.size]? = some (.cells #[.string ⟨#[]⟩, .string ⟨#[32, 32]⟩, .string ⟨#[35, 32, 120, 10]⟩, .string ⟨#[10, 10, 9]⟩] 9 (0, 0))) (fun _ h => h.1) ?_
              have hSw : w8_3_9_1.heap[w8_3.heap.size]? = some (.cells #[.string ⟨#[10]⟩, .string ⟨#[32, 35, 32, 121, 10]⟩, .string ⟨#[32, 10]⟩] 9 (0, 0)) ∧ w8_3_9_1.heap[w8_3_9.heap.size]? = some (.cells #[.string ⟨#[]⟩, .string ⟨#[32, 32]⟩, .string ⟨#[35, 32, 120, 10]⟩, .string ⟨#[10, 10, 9]⟩] 9 (0, 0)) := ⟨R9.out, R1.out⟩
              refine goon_walk [4, 5, 6, 8] 5 rfl (by kernel_rfl) (by kernel_rfl) (fun _ _ h => h) ?_
              repeat (first | (refine wpKind_free (v := ?_) (by rfl) rfl (by rfl) ?_ ?_; rotate_left 1; (focus (intro wy; go_simp; try with_reducible rfl; done)); try simp only [Act.put, List.setIfInBounds_toArray, List.set_cons_zero, List.set_cons_succ]) | (refine wpKind_free (v := ?_) (by rfl) rfl (by rfl) ?_ ?_; rotate_left 1; (focus (intro wy; go_simp; (first | rw [if_pos hi4'] | rw [if_pos hk3']); (first | with_reducible rfl | (simp only [Nat.mul_one]; with_reducible rfl)); done)); try simp only [Act.put, List.setIfInBounds_toArray, List.set_cons_zero, List.set_cons_succ]) | (refine wpKind_free (v := ?_) (by rfl) rfl (by rfl) ?_ ?_; rotate_left 1; (focus (intro wy; go_simp; rw [if_pos (by omega)]; done)); try simp only [Act.put, List.setIfInBounds_toArray, List.set_cons_zero, List.set_cons_succ]) | (refine wpKind_held (v := ?_) (by rfl) rfl (by rfl) hSw ?_ ?_; rotate_left 1; (focus (intro wy hSy; have x4 := rowA_at hSy.2 hi4; have x3 := rowB_at hSy.1 hk3; go_simp; try with_reducible rfl; done)); try simp only [Act.put, List.setIfInBounds_toArray, List.set_cons_zero, List.set_cons_succ]))
              refine wpKind_fin ?_
              refine goon_any [11] (by decide) (by kernel_rfl) ?_
              intro ii hii
              obtain rfl := List.mem_singleton.1 hii
              clear hii
              refine hOp_keeps (by rfl) rfl (fun m4 => ?_)
              go_wp2_with fail
              refine (HPK3.out _).mono ?_
              rintro e W' ⟨rfl, rfl⟩
              go_wp2_with fail
              obtain ⟨w8_3_9_1_11, hw8_3_9_1_11⟩ : ∃ W, w8_3_9_1.drewN m4 = W := ⟨_, rfl⟩
              have HBw8_3_9_1_11 := Lib.hid (show Below w1.heap.size w1 w8_3_9_1_11 by rw [← hw8_3_9_1_11]; exact below_drewN HBw8_3_9_1.out m4)
              have R1 := Lib.hid (show w8_3_9_1_11.heap[w8_3_9.heap.size]? = some (.cells #[.string ⟨#[]⟩, .string ⟨#[32, 32]⟩, .string ⟨#[35, 32, 120, 10]⟩, .string ⟨#[10, 10, 9]⟩] 9 (0, 0)) by rw [← hw8_3_9_1_11]; exact kept_drewN R1.out m4)
              have R9 := Lib.hid (show w8_3_9_1_11.heap[w8_3.heap.size]? = some (.cells #[.string ⟨#[10]⟩, .string ⟨#[32, 35, 32, 121, 10]⟩, .string ⟨#[32, 10]⟩] 9 (0, 0)) by rw [← hw8_3_9_1_11]; exact kept_drewN R9.out m4)
              have HOw8_3_9_1_11 := Lib.hid (show Ow upc 8 w8_3_9_1_11 w1.heap.size 33 (.slice Gw nw cw) (N ++ [⟨kk, nm, no, pos, by_, fr, ev, ln⟩]) by rw [← hw8_3_9_1_11]; exact HOw8_3_9_1.out.drewN m4)
              rw [hw8_3_9_1_11]
              clear hw8_3_9_1_11 hSw
              show _ ∧ _
              refine ⟨⟨R9.out, R1.out⟩, ?_⟩
              have hSw : w8_3_9_1_11.heap[w8_3.heap.size]? = some (.cells #[.string ⟨#[10]⟩, .string ⟨#[32, 35, 32, 121, 10]⟩, .string ⟨#[32, 10]⟩] 9 (0, 0)) ∧ w8_3_9_1_11.heap[w8_3_9.heap.size]? = some (.cells #[.string ⟨#[]⟩, .string ⟨#[32, 32]⟩, .string ⟨#[35, 32, 120, 10]⟩, .string ⟨#[10, 10, 9]⟩] 9 (0, 0)) := ⟨R9.out, R1.out⟩
              refine goon_walk [12, 13, 14, 15] 0 rfl (by kernel_rfl) (by kernel_rfl) (fun _ _ h => h) ?_
              repeat (first | (refine wpKind_free (v := ?_) (by rfl) rfl (by rfl) ?_ ?_; rotate_left 1; (focus (intro wy; go_simp; try with_reducible rfl; done)); try simp only [Act.put, List.setIfInBounds_toArray, List.set_cons_zero, List.set_cons_succ]) | (refine wpKind_free (v := ?_) (by rfl) rfl (by rfl) ?_ ?_; rotate_left 1; (focus (intro wy; go_simp; (first | rw [if_pos hi4'] | rw [if_pos hk3']); (first | with_reducible rfl | (simp only [Nat.mul_one]; with_reducible rfl)); done)); try simp only [Act.put, List.setIfInBounds_toArray, List.set_cons_zero, List.set_cons_succ]) | (refine wpKind_free (v := ?_) (by rfl) rfl (by rfl) ?_ ?_; rotate_left 1; (focus (intro wy; go_simp; rw [if_pos (by omega)]; done)); try simp only [Act.put, List.setIfInBounds_toArray, List.set_cons_zero, List.set_cons_succ]) | (refine wpKind_held (v := ?_) (by rfl) rfl (by rfl) hSw ?_ ?_; rotate_left 1; (focus (intro wy hSy; have x4 := rowA_at hSy.2 hi4; have x3 := rowB_at hSy.1 hk3; go_simp; try with_reducible rfl; done)); try simp only [Act.put, List.setIfInBounds_toArray, List.set_cons_zero, List.set_cons_succ]))
              refine wpKind_fin ?_
              clear hSw
              refine goon_end (by kernel_rfl) (fun m9 => ?_)
              go_wp2_with fail
              go_roundg (l.length - (j + 1))
              case measure => omega
              case rel => exact ⟨j + 1, by omega, by omega, by go_num, by rw [HNEXT.out]; exact HOw8_3_9_1_11.out.drewN m9, by rw [← HTXT.out], below_drewN HBw8_3_9_1_11.out m9⟩
            · skip
              refine hOp_keeps (by rfl) rfl (fun m3 => ?_)
              go_wp2_with fail
              refine (HPK3.out _).mono ?_
              rintro e W' ⟨rfl, rfl⟩
              go_wp2_with fail
              obtain ⟨w8_3_9_11, hw8_3_9_11⟩ : ∃ W, w8_3_9.drewN m3 = W := ⟨_, rfl⟩
              have HBw8_3_9_11 := Lib.hid (show Below w1.heap.size w1 w8_3_9_11 by rw [← hw8_3_9_11]; exact below_drewN HBw8_3_9.out m3)
              have R9 := Lib.hid (show w8_3_9_11.heap[w8_3.heap.size]? = some (.cells #[.string ⟨#[10]⟩, .string ⟨#[32, 35, 32, 121, 10]⟩, .string ⟨#[32, 10]⟩] 9 (0, 0)) by rw [← hw8_3_9_11]; exact kept_drewN R9.out m3)
              have HOw8_3_9_11 := Lib.hid (show Ow upc 8 w8_3_9_11 w1.heap.size 33 (.slice Gw nw cw) (N ++ [⟨kk, nm, no, pos, by_, fr, ev, ln⟩]) by rw [← hw8_3_9_11]; exact HOw8_3_9.out.drewN m3)
              rw [hw8_3_9_11]
              clear hw8_3_9_11 hSw
              show _ ∧ _
              refine ⟨R9.out, ?_⟩
              have hSw : w8_3_9_11.heap[w8_3.heap.size]? = some (.cells #[.string ⟨#[10]⟩, .string ⟨#[32, 35, 32, 121, 10]⟩, .string ⟨#[32, 10]⟩] 9 (0, 0)) := R9.out
              refine goon_walk [12, 13] 7 rfl (by kernel_rfl) (by kernel_rfl) (fun _ _ h => h) ?_
              repeat (first | (refine wpKind_free (v := ?_) (by rfl) rfl (by rfl) ?_ ?_; rotate_left 1; (focus (intro wy; go_simp; try with_reducible rfl; done)); try simp only [Act.put, List.setIfInBounds_toArray, List.set_cons_zero, List.set_cons_succ]) | (refine wpKind_free (v := ?_) (by rfl) rfl (by rfl) ?_ ?_; rotate_left 1; (focus (intro wy; go_simp; (first | rw [if_pos hi4'] | rw [if_pos hk3']); (first | with_reducible rfl | (simp only [Nat.mul_one]; with_reducible rfl)); done)); try simp only [Act.put, List.setIfInBounds_toArray, List.set_cons_zero, List.set_cons_succ]) | (refine wpKind_free (v := ?_) (by rfl) rfl (by rfl) ?_ ?_; rotate_left 1; (focus (intro wy; go_simp; rw [if_pos (by omega)]; done)); try simp only [Act.put, List.setIfInBounds_toArray, List.set_cons_zero, List.set_cons_succ]) | (refine wpKind_held (v := ?_) (by rfl) rfl (by rfl) hSw ?_ ?_; rotate_left 1; (focus (intro wy hSy; have x3 := rowB_at hSy hk3; go_simp; try with_reducible rfl; done)); try simp only [Act.put, List.setIfInBounds_toArray, List.set_cons_zero, List.set_cons_succ]))
              refine wpKind_fin ?_
              refine goon_any [1] (by decide) (by kernel_rfl) ?_
              intro ii hii
              obtain rfl := List.mem_singleton.1 hii
              clear hii
              refine hOp_keeps (by rfl) rfl (fun m4 => ?_)
              go_wp2_with fail
              obtain ⟨w8_3_9_11_1, hw8_3_9_11_1⟩ : ∃ W, (w8_3_9_11.drewN m4).alloc (.cells #[.string ⟨#[]⟩, .string ⟨#[32, 32]⟩, .string ⟨#[35, 32, 120, 10]⟩, .string ⟨#[10, 10, 9]⟩] 9) = W := ⟨_, rfl⟩
              have R1 := Lib.hid (show w8_3_9_11_1.heap[w8_3_9_11.heap.size]? = some (.cells #[.string ⟨#[]⟩, .string ⟨#[32, 32]⟩, .string ⟨#[35, 32, 120, 10]⟩, .string ⟨#[10, 10, 9]⟩] 9 (0, 0)) by rw [← hw8_3_9_11_1]; exact heap_alloc_new (w8_3_9_11.drewN m4) _)
              have HBw8_3_9_11_1 := Lib.hid (show Below w1.heap.size w1 w8_3_9_11_1 by rw [← hw8_3_9_11_1]; exact (below_drewN HBw8_3_9_11.out m4).alloc (by exact HBw8_3_9_11.out.size) _)
              have R9 := Lib.hid (show w8_3_9_11_1.heap[w8_3.heap.size]? = some (.cells #[.string ⟨#[10]⟩, .string ⟨#[32, 35, 32, 121, 10]⟩, .string ⟨#[32, 10]⟩] 9 (0, 0)) by rw [← hw8_3_9_11_1]; exact kept_alloc R9.out m4)
              have HOw8_3_9_11_1 := Lib.hid (show Ow upc 8 w8_3_9_11_1 w1.heap.size 33 (.slice Gw nw cw) (N ++ [⟨kk, nm, no, pos, by_, fr, ev, ln⟩]) by rw [← hw8_3_9_11_1]; exact (HOw8_3_9_11.out.drewN m4).alloc _)
              rw [hw8_3_9_11_1]
              clear hw8_3_9_11_1 hSw
              show _ ∧ _
              refine ⟨R9.out, ?_⟩
              refine goon_weaken (fun wy => wy.heap[w8_3.heap.size]? = some (.cells #[.string ⟨#[10]⟩, .string ⟨#[32, 35, 32, 121, 10]⟩, .string ⟨#[32, 10]⟩] 9 (0, 0)) ∧ wy.heap[w8_3_9_11.heap.size]? = some (.cells #[.string ⟨#[]⟩, .string ⟨#[32, 32]⟩, .string ⟨#[35, 32, 120, 10]⟩, .string ⟨#[10, 10, 9]⟩] 9 (0, 0))) (fun _ h => h.1) ?_
              have hSw : w8_3_9_11_1.heap[w8_3.heap.size]? = some (.cells #[.string ⟨#[10]⟩, .string ⟨#[32, 35, 32, 121, 10]⟩, .string ⟨#[32, 10]⟩] 9 (0, 0)) ∧ w8_3_9_11_1.heap[w8_3_9_11.heap.size]? = some (.cells #[.string ⟨#[]⟩, .string ⟨#[32, 32]⟩, .string ⟨#[35, 32, 120, 10]⟩, .string ⟨#[10, 10, 9]⟩] 9 (0, 0)) := ⟨R9.out, R1.out⟩
              refine goon_walk [4, 5, 6, 8, 14, 15] 0 rfl (by kernel_rfl) (by kernel_rfl) (fun _ _ h => h) ?_
              repeat (first | (refine wpKind_free (v := ?_) (by rfl) rfl (by rfl) ?_ ?_; rotate_left 1; (focus (intro wy; go_simp; try with_reducible rfl; done)); try simp only [Act.put, List.setIfInBounds_toArray, List.set_cons_zero, List.set_cons_succ]) | (refine wpKind_free (v := ?_) (by rfl) rfl (by rfl) ?_ ?_; rotate_left 1; (focus (intro wy; go_simp; (first | rw [if_pos hi4'] | rw [if_pos hk3']); (first | with_reducible rfl | (simp only [Nat.mul_one]; with_reducible rfl)); done)); try simp only [Act.put, List.setIfInBounds_toArray, List.set_cons_zero, List.set_cons_succ]) | (refine wpKind_free (v := ?_) (by rfl) rfl (by rfl) ?_ ?_; rotate_left 1; (focus (intro wy; go_simp; rw [if_pos (by omega)]; done)); try simp only [Act.put, List.setIfInBounds_toArray, List.set_cons_zero, List.set_cons_succ]) | (refine wpKind_held (v := ?_) (by rfl) rfl (by rfl) hSw ?_ ?_; rotate_left 1; (focus (intro wy hSy; have x4 := rowA_at hSy.2 hi4; have x3 := rowB_at hSy.1 hk3; go_simp; try with_reducible rfl; done)); try simp only [Act.put, List.setIfInBounds_toArray, List.set_cons_zero, List.set_cons_succ]))
              refine wpKind_fin ?_
              clear hSw
              refine goon_end (by kernel_rfl) (fun m9 => ?_)
              go_wp2_with fail
              go_roundg (l.length - (j + 1))
              case measure => omega
              case rel => exact ⟨j + 1, by omega, by omega, by go_num, by rw [HNEXT.out]; exact HOw8_3_9_11_1.out.drewN m9, by rw [← HTXT.out], below_drewN HBw8_3_9_11_1.out m9⟩
          · skip
            refine hOp_keeps (by rfl) rfl (fun m2 => ?_)
            go_wp2_with fail
            refine (HPK3.out _).mono ?_
            rintro e W' ⟨rfl, rfl⟩
            go_wp2_with fail
            obtain ⟨w8_3_11, hw8_3_11⟩ : ∃ W, w8_3.drewN m2 = W := ⟨_, rfl⟩
            have HBw8_3_11 := Lib.hid (show Below w1.heap.size w1 w8_3_11 by rw [← hw8_3_11]; exact below_drewN HBw8_3.out m2)
            have HOw8_3_11 := Lib.hid (show Ow upc 8 w8_3_11 w1.heap.size 33 (.slice Gw nw cw) (N ++ [⟨kk, nm, no, pos, by_, fr, ev, ln⟩]) by rw [← hw8_3_11]; exact HOw8_3.out.drewN m2)
            rw [hw8_3_11]
            clear hw8_3_11 hSw
            show _ ∧ _
            refine ⟨trivial, ?_⟩
            have hSw : True := trivial
            refine goon_two 1 9 (by kernel_rfl) ?_ ?_
            · skip
              refine hOp_keeps (by rfl) rfl (fun m3 => ?_)
              go_wp2_with fail
              obtain ⟨w8_3_11_1, hw8_3_11_1⟩ : ∃ W, (w8_3_11.drewN m3).alloc (.cells #[.string ⟨#[]⟩, .string ⟨#[32, 32]⟩, .string ⟨#[35, 32, 120, 10]⟩, .string ⟨#[10, 10, 9]⟩] 9) = W := ⟨_, rfl⟩
              have R1 := Lib.hid (show w8_3_11_1.heap[w8_3_11.heap.size]? = some (.cells #[.string ⟨#[]⟩, .string ⟨#[32, 32]⟩, .string ⟨#[35, 32, 120, 10]⟩, .string ⟨#[10, 10, 9]⟩] 9 (0, 0)) by rw [← hw8_3_11_1]; exact heap_alloc_new (w8_3_11.drewN m3) _)
              have HBw8_3_11_1 := Lib.hid (show Below w1.heap.size w1 w8_3_11_1 by rw [← hw8_3_11_1]; exact (below_drewN HBw8_3_11.out m3).alloc (by exact HBw8_3_11.out.size) _)
              have HOw8_3_11_1 := Lib.hid (show Ow upc 8 w8_3_11_1 w1.heap.size 33 (.slice Gw nw cw) (N ++ [⟨kk, nm, no, pos, by_, fr, ev, ln⟩]) by rw [← hw8_3_11_1]; exact (HOw8_3_11.out.drewN m3).alloc _)
              rw [hw8_3_11_1]
              clear hw8_3_11_1 hSw
              show _ ∧ _
              refine ⟨trivial, ?_⟩
              refine goon_weaken (fun wy => wy.heap[w8_3_11.heap.size]? = some (.cells #[.string ⟨#[]⟩, .string ⟨#[32, 32]⟩, .string ⟨#[35, 32, 120, 10]⟩, .string ⟨#[10, 10, 9]⟩] 9 (0, 0))) (fun _ h => trivial) ?_
              have hSw : w8_3_11_1.heap[w8_3_11.heap.size]? = some (.cells #[.string ⟨#[]⟩, .string ⟨#[32, 32]⟩, .string ⟨#[35, 32, 120, 10]⟩, .string ⟨#[10, 10, 9]⟩] 9 (0, 0)) := R1.out
              refine goon_walk [4, 5, 6, 8] 5 rfl (by kernel_rfl) (by kernel_rfl) (fun _ _ h => h) ?_
              repeat (first | (refine wpKind_free (v := ?_) (by rfl) rfl (by rfl) ?_ ?_; rotate_left 1; (focus (intro wy; go_simp; try with_reducible rfl; done)); try simp only [Act.put, List.setIfInBounds_toArray, List.set_cons_zero, List.set_cons_succ]) | (refine wpKind_free (v := ?_) (by rfl) rfl (by rfl) ?_ ?_; rotate_left 1; (focus (intro wy; go_simp; (first | rw [if_pos hi4'] | rw [if_pos hk3']); (first | with_reducible rfl | (simp only [Nat.mul_one]; with_reducible rfl)); done)); try simp only [Act.put, List.setIfInBounds_toArray, List.set_cons_zero, List.set_cons_succ]) | (refine wpKind_free (v := ?_) (by rfl) rfl (by rfl) ?_ ?_; rotate_left 1; (focus (intro wy; go_simp; rw [if_pos (by omega)]; done)); try simp only [Act.put, List.setIfInBounds_toArray, List.set_cons_zero, List.set_cons_succ]) | (refine wpKind_held (v := ?_) (by rfl) rfl (by rfl) hSw ?_ ?_; rotate_left 1; (focus (intro wy hSy; have x4 := rowA_at hSy hi4; go_simp; try with_reducible rfl; done)); try simp only [Act.put, List.setIfInBounds_toArray, List.set_cons_zero, List.set_cons_succ]))
              refine wpKind_fin ?_
              refine goon_any [9] (by decide) (by kernel_rfl) ?_
              intro ii hii
              obtain rfl := List.mem_singleton.1 hii
              clear hii
              refine hOp_keeps (by rfl) rfl (fun m4 => ?_)
              go_wp2_with fail
              obtain ⟨w8_3_11_1_9, hw8_3_11_1_9⟩ : ∃ W, (w8_3_11_1.drewN m4).alloc (.cells #[.string ⟨#[10]⟩, .string ⟨#[32, 35, 32, 121, 10]⟩, .string ⟨#[32, 10]⟩] 9) = W := ⟨_, rfl⟩
              have R9 := Lib.hid (show w8_3_11_1_9.heap[w8_3_11_1.heap.size]? = some (.cells #[.string ⟨#[10]⟩, .string ⟨#[32, 35, 32, 121, 10]⟩, .string ⟨#[32, 10]⟩] 9 (0, 0)) by rw [← hw8_3_11_1_9]; exact heap_alloc_new (w8_3_11_1.drewN m4) _)
              have HBw8_3_11_1_9 := Lib.hid (show Below w1.heap.size w1 w8_3_11_1_9 by rw [← hw8_3_11_1_9]; exact (below_drewN HBw8_3_11_1.out m4).alloc (by exact HBw8_3_11_1.out.size) _)
              have R1 := Lib.hid (show w8_3_11_1_9.heap[w8_3_11.heap.size]? = some (.cells #[.string ⟨#[]⟩, .string ⟨#[32, 32]⟩, .string ⟨#[35, 32, 120, 10]⟩, .string ⟨#[10, 10, 9]⟩] 9 (0, 0)) by rw [← hw8_3_11_1_9]; exact kept_alloc R1.out m4)
              have HOw8_3_11_1_9 := Lib.hid (show Ow upc 8 w8_3_11_1_9 w1.heap.size 33 (.slice Gw nw cw) (N ++ [⟨kk, nm, no, pos, by_, fr, ev, ln⟩]) by rw [← hw8_3_11_1_9]; exact (HOw8_3_11_1.out.drewN m4).alloc _)
              rw [hw8_3_11_1_9]
              clear hw8_3_11_1_9 hSw
              show _ ∧ _
              refine ⟨R1.out, ?_⟩
              refine goon_weaken (fun wy => wy.heap[w8_3_11.heap.size]? = some (.cells #[.string ⟨#[]⟩, .string ⟨#[32, 32]⟩, .string ⟨#[35, 32, 120, 10]⟩, .string ⟨#[10, 10, 9]⟩] 9 (0, 0)) ∧ wy.heap[w8_3_11_1.heap.size]? = some (.cells #[.string ⟨#[10]⟩, .string ⟨#[32, 35, 32, 121, 10]⟩, .string ⟨#[32, 10]⟩] 9 (0, 0))) (fun _ h => h.1) ?_
              have hSw : w8_3_11_1_9.heap[w8_3_11.heap.size]? = some (.cells #[.string ⟨#[]⟩, .string ⟨#[32, 32]⟩, .string ⟨#[35, 32, 120, 10]⟩, .string ⟨#[10, 10, 9]⟩] 9 (0, 0)) ∧ w8_3_11_1_9.heap[w8_3_11_1.heap.size]? = some (.cells #[.string ⟨#[10]⟩, .string ⟨#[32, 35, 32, 121, 10]⟩, .string ⟨#[32, 10]⟩] 9 (0, 0)) := ⟨R1.out, R9.out⟩
              refine goon_walk [12, 13, 14, 15] 0 rfl (by kernel_rfl) (by kernel_rfl) (fun _ _ h => h) ?_
              repeat (first | (refine wpKind_free (v := ?_) (by rfl) rfl (by rfl) ?_ ?_; rotate_left 1; (focus (intro wy; go_simp; try with_reducible rfl; done)); try simp only [Act.put, List.setIfInBounds_toArray, List.set_cons_zero, List.set_cons_succ]) | (refine wpKind_free (v := ?_) (by rfl) rfl (by rfl) ?_ ?_; rotate_left 1; (focus (intro wy; go_simp; (first | rw [if_pos hi4'] | rw [if_pos hk3']); (first | with_reducible rfl | (simp only [Nat.mul_one]; with_reducible rfl)); done)); try simp only [Act.put, List.setIfInBounds_toArray, List.set_cons_zero, List.set_cons_succ]) | (refine wpKind_free (v := ?_) (by rfl) rfl (by rfl) ?_ ?_; rotate_left 1; (focus (intro wy; go_simp; rw [if_pos (by omega)]; done)); try simp only [Act.put, List.setIfInBounds_toArray, List.set_cons_zero, List.set_cons_succ]) | (refine wpKind_held (v := ?_) (by rfl) rfl (by rfl) hSw ?_ ?_; rotate_left 1; (focus (intro wy hSy; have x4 := rowA_at hSy.1 hi4; have x3 := rowB_at hSy.2 hk3; go_simp; try with_reducible rfl; done)); try simp only [Act.put, List.setIfInBounds_toArray, List.set_cons_zero, List.set_cons_succ]))
              refine wpKind_fin ?_
              clear hSw
              refine goon_end (by kernel_rfl) (fun m9 => ?_)
              go_wp2_with fail
              go_roundg (l.length - (j + 1))
              case measure => omega
              case rel => exact ⟨j + 1, by omega, by omega, by go_num, by rw [HNEXT.out]; exact HOw8_3_11_1_9.out.drewN m9, by rw [← HTXT.out], below_drewN HBw8_3_11_1_9.out m9⟩
            · skip
              refine hOp_keeps (by rfl) rfl (fun m3 => ?_)
              go_wp2_with fail
              obtain ⟨w8_3_11_9, hw8_3_11_9⟩ : ∃ W, (w8_3_11.drewN m3).alloc (.cells #[.string ⟨#[10]⟩, .string ⟨#[32, 35, 32, 121, 10]⟩, .string ⟨#[32, 10]⟩] 9) = W := ⟨_, rfl⟩
              have R9 := Lib.hid (show w8_3_11_9.heap[w8_3_11.heap.size]? = some (.cells #[.string ⟨#[10]⟩, .string ⟨#[32, 35, 32, 121, 10]⟩, .string ⟨#[32, 10]⟩] 9 (0, 0)) by rw [← hw8_3_11_9]; exact heap_alloc_new (w8_3_11.drewN m3) _)
              have HBw8_3_11_9 := Lib.hid (show Below w1.heap.size w1 w8_3_11_9 by rw [← hw8_3_11_9]; exact (below_drewN HBw8_3_11.out m3).alloc (by exact HBw8_3_11.out.size) _)
              have HOw8_3_11_9 := Lib.hid (show Ow upc 8 w8_3_11_9 w1.heap.size 33 (.slice Gw nw cw) (N ++ [⟨kk, nm, no, pos, by_, fr, ev, ln⟩]) by rw [← hw8_3_11_9]; exact (HOw8_3_11.out.drewN m3).alloc _)
              rw [hw8_3_11_9]
              clear hw8_3_11_9 hSw
              show _ ∧ _
              refine ⟨trivial, ?_⟩
              refine goon_weaken (fun wy => wy.heap[w8_3_11.heap.size]? = some (.cells #[.string ⟨#[10]⟩, .string ⟨#[32, 35, 32, 121, 10]⟩, .string ⟨#[32, 10]⟩] 9 (0, 0))) (fun _ h => trivial) ?_
              have hSw : w8_3_11_9.heap[w8_3_11.heap.size]? = some (.cells #[.string ⟨#[10]⟩, .string ⟨#[32, 35, 32, 121, 10]⟩, .string ⟨#[32, 10]⟩] 9 (0, 0)) := R9.out
              refine goon_walk [12, 13] 7 rfl (by kernel_rfl) (by kernel_rfl) (fun _ _ h => h) ?_
              repeat (first | (refine wpKind_free (v := ?_) (by rfl) rfl (by rfl) ?_ ?_; rotate_left 1; (focus (intro wy; go_simp; try with_reducible rfl; done)); try simp only [Act.put, List.setIfInBounds_toArray, List.set_cons_zero, List.set_cons_succ]) | (refine wpKind_free (v := ?_) (by rfl) rfl (by rfl) ?_ ?_; rotate_left 1; (focus (intro wy; go_simp; (first | rw [if_pos hi4'] | rw [if_pos hk3']); (first | with_reducible rfl | (simp only [Nat.mul_one]; with_reducible rfl)); done)); try simp only [Act.put, List.setIfInBounds_toArray, List.set_cons_zero, List.set_cons_succ]) | (refine wpKind_free (v := ?_) (by rfl) rfl (by rfl) ?_ ?_; rotate_left 1; (focus (intro wy; go_simp; rw [if_pos (by omega)]; done)); try simp only [Act.put, List.setIfInBounds_toArray, List.set_cons_zero, List.set_cons_succ]) | (refine wpKind_held (v := ?_) (by rfl) rfl (by rfl) hSw ?_ ?_; rotate_left 1; (focus (intro wy hSy; have x3 := rowB_at hSy hk3; go_simp; try with_reducible rfl; done)); try simp only [Act.put, List.setIfInBounds_toArray, List.set_cons_zero, List.set_cons_succ]))
              refine wpKind_fin ?_
              refine goon_any [1] (by decide) (by kernel_rfl) ?_
              intro ii hii
              obtain rfl := List.mem_singleton.1 hii
              clear hii
              refine hOp_keeps (by rfl) rfl (fun m4 => ?_)
              go_wp2_with fail
              obtain ⟨w8_3_11_9_1, hw8_3_11_9_1⟩ : ∃ W, (w8_3_11_9.drewN m4).alloc (.cells #[.string ⟨#[]⟩, .string ⟨#[32, 32]⟩, .string ⟨#[35, 32, 120, 10]⟩, .string ⟨#[10, 10, 9]⟩] 9) = W := ⟨_, rfl⟩
              have R1 := Lib.hid (show w8_3_11_9_1.heap[w8_3_11_9.heap.size]? = some (.cells #[.string ⟨#[]⟩, .string ⟨#[32, 32]⟩, .string ⟨#[35, 32, 120, 10]⟩, .string ⟨#[10, 10, 9]⟩] 9 (0, 0)) by rw [← hw8_3_11_9_1]; exact heap_alloc_new (w8_3_11_9.drewN m4) _)
              have HBw8_3_11_9_1 := Lib.hid (show Below w1.heap.size w1 w8_3_11_9_1 by rw [← hw8_3_11_9_1]; exact (below_drewN HBw8_3_11_9.out m4).alloc (by exact HBw8_3_11_9.out.size) _)
              have R9 := Lib.hid (show w8_3_11_9_1.heap[w8_3_11.heap.size]? = some (.cells #[.string ⟨#[10]⟩, .string ⟨#[32, 35, 32, 121, 10]⟩, .string ⟨#[32, 10]⟩] 9 (0, 0)) by rw [← hw8_3_11_9_1]; exact kept_alloc R9.out m4)
              have HOw8_3_11_9_1 := Lib.hid (show Ow upc 8 w8_3_11_9_1 w1.heap.size 33 (.slice Gw nw cw) (N ++ [⟨kk, nm, no, pos, by_, fr, ev, ln⟩]) by rw [← hw8_3_11_9_1]; exact (HOw8_3_11_9.out.drewN m4).alloc _)
              rw [hw8_3_11_9_1]
              clear hw8_3_11_9_1 hSw
              show _ ∧ _
              refine ⟨R9.out, ?_⟩
              refine goon_weaken (fun wy => wy.heap[w8_3_11.heap.size]? = some (.cells #[.string ⟨#[10]⟩, .string ⟨#[32, 35, 32, 121, 10]⟩, .string ⟨#[32, 10]⟩] 9 (0, 0)) ∧ wy.heap[w8_3_11_9.heap.size]? = some (.cells #[.string ⟨#[]⟩, .string ⟨#[32, 32]⟩, .string ⟨#[35, 32, 120, 10]⟩, .string ⟨#[10, 10, 9]⟩] 9 (0, 0))) (fun _ h => h.1) ?_
              have hSw : w8_3_11_9_1.heap[w8_3_11.heap.size]? = some (.cells #[.string ⟨#[10]⟩, .string ⟨#[32, 35, 32, 121, 10]⟩, .string ⟨#[32, 10]⟩] 9 (0, 0)) ∧ w8_3_11_9_1.heap[w8_3_11_9.heap.size]? = some (.cells #[.string ⟨#[]⟩, .string ⟨#[32, 32]⟩, .string ⟨#[35, 32, 120, 10]⟩, .string ⟨#[10, 10, 9]⟩] 9 (0, 0)) := ⟨R9.out, R1.out⟩
              refine goon_walk [4, 5, 6, 8, 14, 15] 0 rfl (by kernel_rfl) (by kernel_rfl) (fun _ _ h => h) ?_
              repeat (first | (refine wpKind_free (v := ?_) (by rfl) rfl (by rfl) ?_ ?_; rotate_left 1; (focus (intro wy; go_simp; try with_reducible rfl; done)); try simp only [Act.put, List.setIfInBounds_toArray, List.set_cons_zero, List.set_cons_succ]) | (refine wpKind_free (v := ?_) (by rfl) rfl (by rfl) ?_ ?_; rotate_left 1; (focus (intro wy; go_simp; (first | rw [if_pos hi4'] | rw [if_pos hk3']); (first | with_reducible rfl | (simp only [Nat.mul_one]; with_reducible rfl)); done)); try simp only [Act.put, List.setIfInBounds_toArray, List.set_cons_zero, List.set_cons_succ]) | (refine wpKind_free (v := ?_) (by rfl) rfl (by rfl) ?_ ?_; rotate_left 1; (focus (intro wy; go_simp; rw [if_pos (by omega)]; done)); try simp only [Act.put, List.setIfInBounds_toArray, List.set_cons_zero, List.set_cons_succ]) | (refine wpKind_held (v := ?_) (by rfl) rfl (by rfl) hSw ?_ ?_; rotate_left 1; (focus (intro wy hSy; have x4 := rowA_at hSy.2 hi4; have x3 := rowB_at hSy.1 hk3; go_simp; try with_reducible rfl; done)); try simp only [Act.put, List.setIfInBounds_toArray, List.set_cons_zero, List.set_cons_succ]))
              refine wpKind_fin ?_
              clear hSw
              refine goon_end (by kernel_rfl) (fun m9 => ?_)
              go_wp2_with fail
              go_roundg (l.length - (j + 1))
              case measure => omega
              case rel => exact ⟨j + 1, by omega, by omega, by go_num, by rw [HNEXT.out]; exact HOw8_3_11_9_1.out.drewN m9, by rw [← HTXT.out], below_drewN HBw8_3_11_9_1.out m9⟩
        · skip
          refine hOp_keeps (by rfl) rfl (fun m1 => ?_)
          go_wp2_with fail
          obtain ⟨w8_9, hw8_9⟩ : ∃ W, (w8.drewN m1).alloc (.cells #[.string ⟨#[10]⟩, .string ⟨#[32, 35, 32, 121, 10]⟩, .string ⟨#[32, 10]⟩] 9) = W := ⟨_, rfl⟩
          have R9 := Lib.hid (show w8_9.heap[w8.heap.size]? = some (.cells #[.string ⟨#[10]⟩, .string ⟨#[32, 35, 32, 121, 10]⟩, .string ⟨#[32, 10]⟩] 9 (0, 0)) by rw [← hw8_9]; exact heap_alloc_new (w8.drewN m1) _)
          have HBw8_9 := Lib.hid (show Below w1.heap.size w1 w8_9 by rw [← hw8_9]; exact (below_drewN HBw8.out m1).alloc (by exact HBw8.out.size) _)
          have HOw8_9 := Lib.hid (show Ow upc 8 w8_9 w1.heap.size 33 (.slice Gw nw cw) (N ++ [⟨kk, nm, no, pos, by_, fr, ev, ln⟩]) by rw [← hw8_9]; exact (HOw8.out.drewN m1).alloc _)
          rw [hw8_9]
          clear hw8_9 hSw
          show _ ∧ _
          refine ⟨trivial, ?_⟩
          refine goon_weaken (fun wy => wy.heap[w8.heap.size]? = some (.cells #[.string ⟨#[10]⟩, .string ⟨#[32, 35, 32, 121, 10]⟩, .string ⟨#[32, 10]⟩] 9 (0, 0))) (fun _ h => trivial) ?_
          have hSw : w8_9.heap[w8.heap.size]? = some (.cells #[.string ⟨#[10]⟩, .string ⟨#[32, 35, 32, 121, 10]⟩, .string ⟨#[32, 10]⟩] 9 (0, 0)) := R9.out
          refine goon_two 1 3 (by kernel_rfl) ?_ ?_
          · skip
            refine hOp_keeps (by rfl) rfl (fun m2 => ?_)
            go_wp2_with fail
            obtain ⟨w8_9_1, hw8_9_1⟩ : ∃ W, (w8_9.drewN m2).alloc (.cells #[.string ⟨#[]⟩, .string ⟨#[32, 32]⟩, .string ⟨#[35, 32, 120, 10]⟩, .string ⟨#[10, 10, 9]⟩] 9) = W := ⟨_, rfl⟩
            have R1 := Lib.hid (show w8_9_1.heap[w8_9.heap.size]? = some (.cells #[.string ⟨#[]⟩, .string ⟨#[32, 32]⟩, .string ⟨#[35, 32, 120, 10]⟩, .string ⟨#[10, 10, 9]⟩] 9 (0, 0)) by rw [← hw8_9_1]; exact heap_alloc_new (w8_9.drewN m2) _)
            have HBw8_9_1 := Lib.hid (show Below w1.heap.size w1 w8_9_1 by rw [← hw8_9_1]; exact (below_drewN HBw8_9.out m2).alloc (by exact HBw8_9.out.size) _)
            have R9 := Lib.hid (show w8_9_1.heap[w8.heap.size]? = some (.cells #[.string ⟨#[10]⟩, .string ⟨#[32, 35, 32, 121, 10]⟩, .string ⟨#[32, 10]⟩] 9 (0, 0)) by rw [← hw8_9_1]; exact kept_alloc R9.out m2)
            have HOw8_9_1 := Lib.hid (show Ow upc 8 w8_9_1 w1.heap.size 33 (.slice Gw nw cw) (N ++ [⟨kk, nm, no, pos, by_, fr, ev, ln⟩]) by rw [← hw8_9_1]; exact (HOw8_9.out.drewN m2).alloc _)
            rw [hw8_9_1]
            clear hw8_9_1 hSw
            show _ ∧ _
            refine ⟨R9.out, ?_⟩
            refine goon_weaken (fun wy => wy.heap[w8.heap.size]? = some (.cells #[.string ⟨#[10]⟩, .string ⟨#[32, 35, 32, 121, 10]⟩, .string ⟨#[32, 10]⟩] 9 (0, 0)) ∧ wy.heap[w8_9.heap.size]? = some (.cells #[.string ⟨#[]⟩, .string ⟨#[32, 32]⟩, .string ⟨#[35, 32, 120, 10]⟩, .string ⟨#[10, 10, 9]⟩] 9 (0, 0))) (fun _ h => h.1) ?_
            have hSw : w8_9_1.heap[w8.heap.size]? = some (.cells #[.string ⟨#[10]⟩, .string ⟨#[32, 35, 32, 121, 10]⟩, .string ⟨#[32, 10]⟩] 9 (0, 0)) ∧ w8_9_1.heap[w8_9.heap.size]? = some (.cells #[.string ⟨#[]⟩, .string ⟨#[32, 32]⟩, .string ⟨#[35, 32, 120, 10]⟩, .string ⟨#[10, 10, 9]⟩] 9 (0, 0)) := ⟨R9.out, R1.out⟩
            refine goon_any [3] (by decide) (by kernel_rfl) ?_
            intro ii hii
            obtain rfl := List.mem_singleton.1 hii
            clear hii
            refine hOp_keeps (by rfl) rfl (fun m3 => ?_)
            go_wp2_with fail
            refine (HPK4.out _).mono ?_
            rintro e W' ⟨rfl, rfl⟩
            go_wp2_with fail
            obtain ⟨w8_9_1_3, hw8_9_1_3⟩ : ∃ W, w8_9_1.drewN m3 = W := ⟨_, rfl⟩
            have HBw8_9_1_3 := Lib.hid (show Below w1.heap.size w1 w8_9_1_3 by rw [← hw8_9_1_3]; exact below_drewN HBw8_9_1.out m3)
            have R1 := Lib.hid (show w8_9_1_3.heap[w8_9.heap.size]? = some (.cells #[.string ⟨#[]⟩, .string ⟨#[32, 32]⟩, .string ⟨#[35, 32, 120, 10]⟩, .string ⟨#[10, 10, 9]⟩] 9 (0, 0)) by rw [← hw8_9_1_3]; exact kept_drewN R1.out m3)
            have R9 := Lib.hid (show w8_9_1_3.heap[w8.heap.size]? = some (.cells #[.string ⟨#[10]⟩, .string ⟨#[32, 35, 32, 121, 10]⟩, .string ⟨#[32, 10]⟩] 9 (0, 0)) by rw [← hw8_9_1_3]; exact kept_drewN R9.out m3)
            have HOw8_9_1_3 := Lib.hid (show Ow upc 8 w8_9_1_3 w1.heap.size 33 (.slice Gw nw cw) (N ++ [⟨kk, nm, no, pos, by_, fr, ev, ln⟩]) by rw [← hw8_9_1_3]; exact HOw8_9_1.out.drewN m3)
            rw [hw8_9_1_3]
            clear hw8_9_1_3 hSw
            show _ ∧ _
            refine ⟨⟨R9.out, R1.out⟩, ?_⟩
            have hSw : w8_9_1_3.heap[w8.heap.size]? = some (.cells #[.string ⟨#[10]⟩, .string ⟨#[32, 35, 32, 121, 10]⟩, .string ⟨#[32, 10]⟩] 9 (0, 0)) ∧ w8_9_1_3.heap[w8_9.heap.size]? = some (.cells #[.string ⟨#[]⟩, .string ⟨#[32, 32]⟩, .string ⟨#[35, 32, 120, 10]⟩, .string ⟨#[10, 10, 9]⟩] 9 (0, 0)) := ⟨R9.out, R1.out⟩
            refine goon_walk [4, 5, 6, 8] 5 rfl (by kernel_rfl) (by kernel_rfl) (fun _ _ h => h) ?_
            repeat (first | (refine wpKind_free (v := ?_) (by rfl) rfl (by rfl) ?_ ?_; rotate_left 1; (focus (intro wy; go_simp; try with_reducible rfl; done)); try simp only [Act.put, List.setIfInBounds_toArray, List.set_cons_zero, List.set_cons_succ]) | (refine wpKind_free (v := ?_) (by rfl) rfl (by rfl) ?_ ?_; rotate_left 1; (focus (intro wy; go_simp; (first | rw [if_pos hi4'] | rw [if_pos hk3']); (first | with_reducible rfl | (simp only [Nat.mul_one]; with_reducible rfl)); done)); try simp only [Act.put, List.setIfInBounds_toArray, List.set_cons_zero, List.set_cons_succ]) | (refine wpKind_free (v := ?_) (by rfl) rfl (by rfl) ?_ ?_; rotate_left 1; (focus (intro wy; go_simp; rw [if_pos (by omega)]; done)); try simp only [Act.put, List.setIfInBounds_toArray, List.set_cons_zero, List.set_cons_succ]) | (refine wpKind_held (v := ?_) (by rfl) rfl (by rfl) hSw ?_ ?_; rotate_left 1; (focus (intro wy hSy; have x4 := rowA_at hSy.2 hi4; have x3 := rowB_at hSy.1 hk3; go_simp; try with_reducible rfl; done)); try simp only [Act.put, List.setIfInBounds_toArray, List.set_cons_zero, List.set_cons_succ]))
            refine wpKind_fin ?_
            refine goon_any [11] (by decide) (by kernel_rfl) ?_
            intro ii hii
            obtain rfl := List.mem_singleton.1 hii
            clear hii
            refine hOp_keeps (by rfl) rfl (fun m4 => ?_)
            go_wp2_with fail
            refine (HPK3.out _).mono ?_
            rintro e W' ⟨rfl, rfl⟩
            go_wp2_with fail
            obtain ⟨w8_9_1_3_11, hw8_9_1_3_11⟩ : ∃ W, w8_9_1_3.drewN m4 = W := ⟨_, rfl⟩
            have HBw8_9_1_3_11 := Lib.hid (show Below w1.heap.size w1 w8_9_1_3_11 by rw [← hw8_9_1_3_11]; exact below_drewN HBw8_9_1_3.out m4)
            have R1 := Lib.hid (show w8_9_1_3_11.heap[w8_9.heap.size]? = some (.cells #[.string ⟨#[]⟩, .string ⟨#[32, 32]⟩, .string ⟨#[35, 32, 120, 10]⟩, .string ⟨#[10, 10, 9]⟩] 9 (0, 0)) by rw [← hw8_9_1_3_11]; exact kept_drewN R1.out m4)
            have R9 := Lib.hid (show w8_9_1_3_11.heap[w8.heap.size]? = some (.cells #[.string ⟨#[10]⟩, .string ⟨#[32, 35, 32, 121, 10]⟩, .string ⟨#[32, 10]⟩] 9 (0, 0)) by rw [← hw8_9_1_3_11]; exact kept_drewN R9.out m4)
            have HOw8_9_1_3_11 := Lib.hid (show Ow upc 8 w8_9_1_3_11 w1.heap.size 33 (.slice Gw nw cw) (N ++ [⟨kk, nm, no, pos, by_, fr, ev, ln⟩]) by rw [← hw8_9_1_3_11]; exact HOw8_9_1_3.out.drewN m4)
            rw [hw8_9_1_3_11]
            clear hw8_9_1_3_11 hSw
            show _ ∧ _
            refine ⟨⟨R9.out, R1.out⟩, ?_⟩
            have hSw : w8_9_1_3_11.heap[w8.heap.size]? = some (.cells #[.string ⟨#[10]⟩, .string ⟨#[32, 35, 32, 121, 10]⟩, .string ⟨#[32, 10]⟩] 9 (0, 0)) ∧ w8_9_1_3_11.heap[w8_9.heap.size]? = some (.cells #[.string ⟨#[]⟩, .string ⟨#[32, 32]⟩, .string ⟨#[35, 32, 120, 10]⟩, .string ⟨#[10, 10, 9]⟩] 9 (0, 0)) := ⟨R9.out, R1.out⟩
            refine goon_walk [12, 13, 14, 15] 0 rfl (by kernel_rfl) (by kernel_rfl) (fun _ _ h => h) ?_
            repeat (first | (refine wpKind_free (v := ?_) (by rfl) rfl (by rfl) ?_ ?_; rotate_left 1; (focus (intro wy; go_simp; try with_reducible rfl; done)); try simp only [Act.put, List.setIfInBounds_toArray, List.set_cons_zero, List.set_cons_succ]) | (refine wpKind_free (v := ?_) (by rfl) rfl (by rfl) ?_ ?_; rotate_left 1; (focus (intro wy; go_simp; (first | rw [if_pos hi4'] | rw [if_pos hk3']); (first | with_reducible rfl | (simp only [Nat.mul_one]; with_reducible rfl)); done)); try simp only [Act.put, List.setIfInBounds_toArray, List.set_cons_zero, List.set_cons_succ]) | (refine wpKind_free (v := ?_) (by rfl) rfl (by rfl) ?_ ?_; rotate_left 1; (focus (intro wy; go_simp; rw [if_pos (by omega)]; done)); try simp only [Act.put, List.setIfInBounds_toArray, List.set_cons_zero, List.set_cons_succ]) | (refine wpKind_held (v := ?_) (by rfl) rfl (by rfl) hSw ?_ ?_; rotate_left 1; (focus (intro wy hSy; have x4 := rowA_at hSy.2 hi4; have x3 := rowB_at hSy.1 hk3; go_simp; try with_reducible rfl; done)); try simp only [Act.put, List.setIfInBounds_toArray, List.set_cons_zero, List.set_cons_succ]))
            refine wpKind_fin ?_
            clear hSw
            refine goon_end (by kernel_rfl) (fun m9 => ?_)
            go_wp2_with fail
            go_roundg (l.length - (j + 1))
            case measure => omega
            case rel => exact ⟨j + 1, by omega, by omega, by go_num, by rw [HNEXT.out]; exact HOw8_9_1_3_11.out.drewN m9, by rw [← HTXT.out], below_drewN HBw8_9_1_3_11.out m9⟩
          · skip
            refine hOp_keeps (by rfl) rfl (fun m2 => ?_)
            go_wp2_with fail
            refine (HPK4.out _).mono ?_
            rintro e W' ⟨rfl, rfl⟩
            go_wp2_with fail
            obtain ⟨w8_9_3, hw8_9_3⟩ : ∃ W, w8_9.drewN m2 = W := ⟨_, rfl⟩
            have HBw8_9_3 := Lib.hid (show Below w1.heap.size w1 w8_9_3 by rw [← hw8_9_3]; exact below_drewN HBw8_9.out m2)
            have R9 := Lib.hid (show w8_9_3.heap[w8.heap.size]? = some (.cells #[.string ⟨#[10]⟩, .string ⟨#[32, 35, 32, 121, 10]⟩, .string ⟨#[32, 10]⟩] 9 (0, 0)) by rw [← hw8_9_3]; exact kept_drewN R9.out m2)
            have HOw8_9_3 := Lib.hid (show Ow upc 8 w8_9_3 w1.heap.size 33 (.slice Gw nw cw) (N ++ [⟨kk, nm, no, pos, by_, fr, ev, ln⟩]) by rw [← hw8_9_3]; exact HOw8_9.out.drewN m2)
            rw [hw8_9_3]
            clear hw8_9_3 hSw
            show _ ∧ _
            refine ⟨R9.out, ?_⟩
            have hSw : w8_9_3.heap[w8.heap.size]? = some (.cells #[.string ⟨#[10]⟩, .string ⟨#[32, 35, 32, 121, 10]⟩, .string ⟨#[32, 10]⟩] 9 (0, 0)) := R9.out
            refine goon_two 1 11 (by kernel_rfl) ?_ ?_
            · skip
              refine hOp_keeps (by rfl) rfl (fun m3 => ?_)
              go_wp2_with fail
              obtain ⟨w8_9_3_1, hw8_9_3_1⟩ : ∃ W, (w8_9_3.drewN m3).alloc (.cells #[.string ⟨#[]⟩, .string ⟨#[32, 32]⟩, .string ⟨#[35, 32, 120, 10]⟩, .string ⟨#[10, 10, 9]⟩] 9) = W := ⟨_, rfl⟩
              have R1 := Lib.hid (show w8_9_3_1.heap[w8_9_3.heap.size]? = some (.cells #[.string ⟨#[]⟩, .string ⟨#[32, 32]⟩, .string ⟨#[35, 32, 120, 10]⟩, .string ⟨#[10, 10, 9]⟩] 9 (0, 0)) by rw [← hw8_9_3_1]; exact heap_alloc_new (w8_9_3.drewN m3) _)
              have HBw8_9_3_1 := Lib.hid (show Below w1.heap.size w1 w8_9_3_1 by rw [← hw8_9_3_1]; exact (below_drewN HBw8_9_3.out m3).alloc (by exact HBw8_9_3.out.size) _)
              have R9 := Lib.hid (show w8_9_3_1.heap[w8.heap.size]? = some (.cells #[.string ⟨#[10]⟩, .string ⟨#[32, 35, 32, 121, 10]⟩, .string ⟨#[32, 10]⟩] 9 (0, 0)) by rw [← hw8_9_3_1]; exact kept_alloc R9.out m3)
              have HOw8_9_3_1 := Lib.hid (show Ow upc 8 w8_9_3_1 w1.heap.size 33 (.slice Gw nw cw) (N ++ [⟨kk, nm, no, pos, by_, fr, ev, ln⟩]) by rw [← hw8_9_3_1]; exact (HOw8_9_3.out.drewN m3).alloc _)
              rw [hw8_9_3_1]
              clear hw8_9_3_1 hSw
              show _ ∧ _
              refine ⟨R9.out, ?_⟩
              refine goon_weaken (fun wy => wy.heap[w8.heap.size]? = some (.cells #[.string ⟨#[10]⟩, .string ⟨#[32, 35, 32, 121, 10]⟩, .string ⟨#[32, 10]⟩] 9 (0, 0)) ∧ wy.heap[w8_9_3.heap.size]? = some (.cells #[.string ⟨#[]⟩, .string ⟨#[32, 32]⟩, .string ⟨#[35, 32, 120, 10]⟩, .string ⟨#[10, 10, 9]⟩] 9 (0, 0))) (fun _ h => h.1) ?_
              have hSw : w8_9_3_1.heap[w8.heap.size]? = some (.cells #[.string ⟨#[10]⟩, .string ⟨#[32, 35, 32, 121, 10]⟩, .string ⟨#[32, 10]⟩] 9 (0, 0)) ∧ w8_9_3_1.heap[w8_9_3.heap.size]? = some (.cells #[.string ⟨#[]⟩, .string ⟨#[32, 32]⟩, .string ⟨#[35, 32, 120, 10]⟩, .string ⟨#[10, 10, 9]⟩] 9 (0, 0)) := ⟨R9.out, R1.out⟩
              refine goon_walk [4, 5, 6, 8] 5 rfl (by kernel_rfl) (by kernel_rfl) (fun _ _ h => h) ?_
              repeat (first | (refine wpKind_free (v := ?_) (by rfl) rfl (by rfl) ?_ ?_; rotate_left 1; (focus (intro wy; go_simp; try with_reducible rfl; done)); try simp only [Act.put, List.setIfInBounds_toArray, List.set_cons_zero, List.set_cons_succ]) | (refine wpKind_free (v := ?_) (by rfl) rfl (by rfl) ?_ ?_; rotate_left 1; (focus (intro wy; go_simp; (first | rw [if_pos hi4'] | rw [if_pos hk3']); (first | with_reducible rfl | (simp only [Nat.mul_one]; with_reducible rfl)); done)); try simp only [Act.put, List.setIfInBounds_toArray, List.set_cons_zero, List.set_cons_succ]) | (refine wpKind_free (v := ?_) (by rfl) rfl (by rfl) ?_ ?_; rotate_left 1; (focus (intro wy; go_simp; rw [if_pos (by omega)]; done)); try simp only [Act.put, List.setIfInBounds_toArray, List.set_cons_zero, List.set_cons_succ]) | (refine wpKind_held (v := ?_) (by rfl) rfl (by rfl) hSw ?_ ?_; rotate_left 1; (focus (intro wy hSy; have x4 := rowA_at hSy.2 hi4; have x3 := rowB_at hSy.1 hk3; go_simp; try with_reducible rfl; done)); try simp only [Act.put, List.setIfInBounds_toArray, List.set_cons_zero, List.set_cons_succ]))
              refine wpKind_fin ?_
              refine goon_any [11] (by decide) (by kernel_rfl) ?_
              intro ii hii
              obtain rfl := List.mem_singleton.1 hii
              clear hii
              refine hOp_keeps (by rfl) rfl (fun m4 => ?_)
              go_wp2_with fail
              refine (HPK3.out _).mono ?_
              rintro e W' ⟨rfl, rfl⟩
              go_wp2_with fail
              obtain ⟨w8_9_3_1_11, hw8_9_3_1_11⟩ : ∃ W, w8_9_3_1.drewN m4 = W := ⟨_, rfl⟩
              have HBw8_9_3_1_11 := Lib.hid (show Below w1.heap.size w1 w8_9_3_1_11 by rw [← hw8_9_3_1_11]; exact below_drewN HBw8_9_3_1.out m4)
              have R1 := Lib.hid (show w8_9_3_1_11.heap[w8_9_3.heap.size]? = some (.cells #[.string ⟨#[]⟩, .string ⟨#[32, 32]⟩, .string ⟨#[35, 32, 120, 10]⟩, .string ⟨#[10, 10, 9]⟩] 9 (0, 0)) by rw [← hw8_9_3_1_11]; exact kept_drewN R1.out m4)
              have R9 := Lib.hid (show w8_9_3_1_11.heap[w8.heap.size]? = some (.cells #[.string ⟨#[10]⟩, .string ⟨#[32, 35, 32, 121, 10]⟩, .string ⟨#[32, 10]⟩] 9 (0, 0)) by rw [← hw8_9_3_1_11]; exact kept_drewN R9.out m4)
              have HOw8_9_3_1_11 := Lib.hid (show Ow upc 8 w8_9_3_1_11 w1.heap.size 33 (.slice Gw nw cw) (N ++ [⟨kk, nm, no, pos, by_, fr, ev, ln⟩]) by rw [← hw8_9_3_1_11]; exact HOw8_9_3_1.out.drewN m4)
              rw [hw8_9_3_1_11]
              clear hw8_9_3_1_11 hSw
              show _ ∧ _
              refine ⟨⟨R9.out, R1.out⟩, ?_⟩
              have hSw : w8_9_3_1_11.heap[w8.heap.size]? = some (.cells #[.string ⟨#[10]⟩, .string ⟨#[32, 35, 32, 121, 10]⟩, .string ⟨#[32, 10]⟩] 9 (0, 0)) ∧ w8_9_3_1_11.heap[w8_9_3.heap.size]? = some (.cells #[.string ⟨#[]⟩, .string ⟨#[32, 32]⟩, .string ⟨#[35, 32, 120, 10]⟩, .string ⟨#[10, 10, 9]⟩] 9 (0, 0)) := ⟨R9.out, R1.out⟩
              refine goon_walk [12, 13, 14, 15] 0 rfl (by kernel_rfl) (by kernel_rfl) (fun _ _ h => h) ?_
              repeat (first | (refine wpKind_free (v := ?_) (by rfl) rfl (by rfl) ?_ ?_; rotate_left 1; (focus (intro wy; go_simp; try with_reducible rfl; done)); try simp only [Act.put, List.setIfInBounds_toArray, List.set_cons_zero, List.set_cons_succ]) | (refine wpKind_free (v := ?_) (by rfl) rfl (by rfl) ?_ ?_; rotate_left 1; (focus (intro wy; go_simp; (first | rw [if_pos hi4'] | rw [if_pos hk3']); (first | with_reducible rfl | (simp only [Nat.mul_one]; with_reducible rfl)); done)); try simp only [Act.put, List.setIfInBounds_toArray, List.set_cons_zero, List.set_cons_succ]) | (refine wpKind_free (v := ?_) (by rfl) rfl (by rfl) ?_ ?_; rotate_left 1; (focus (intro wy; go_simp; rw [if_pos (by omega)]; done)); try simp only [Act.put, List.setIfInBounds_toArray, List.set_cons_zero, List.set_cons_succ]) | (refine wpKind_held (v := ?_) (by rfl) rfl (by rfl) hSw ?_ ?_; rotate_left 1; (focus (intro wy hSy; have x4 := rowA_at hSy.2 hi4; have x3 := rowB_at hSy.1 hk3; go_simp; try with_reducible rfl; done)); try simp only [Act.put, List.setIfInBounds_toArray, List.set_cons_zero, List.set_cons_succ]))
              refine wpKind_fin ?_
              clear hSw
              refine goon_end (by kernel_rfl) (fun m9 => ?_)
              go_wp2_with fail
              go_roundg (l.length - (j + 1))
              case measure => omega
              case rel => exact ⟨j + 1, by omega, by omega, by go_num, by rw [HNEXT.out]; exact HOw8_9_3_1_11.out.drewN m9, by rw [← HTXT.out], below_drewN HBw8_9_3_1_11.out m9⟩
            · skip
              refine hOp_keeps (by rfl) rfl (fun m3 => ?_)
              go_wp2_with fail
              refine (HPK3.out _).mono ?_
              rintro e W' ⟨rfl, rfl⟩
              go_wp2_with fail
              obtain ⟨w8_9_3_11, hw8_9_3_11⟩ : ∃ W, w8_9_3.drewN m3 = W := ⟨_, rfl⟩
              have HBw8_9_3_11 := Lib.hid (show Below w1.heap.size w1 w8_9_3_11 by rw [← hw8_9_3_11]; exact below_drewN HBw8_9_3.out m3)
              have R9 := Lib.hid (show w8_9_3_11.heap[w8.heap.size]? = some (.cells #[.string ⟨#[10]⟩, .string ⟨#[32, 35, 32, 121, 10]⟩, .string ⟨#[32, 10]⟩] 9 (0, 0)) by rw [← hw8_9_3_11]; exact kept_drewN R9.out m3)
              have HOw8_9_3_11 := Lib.hid (show Ow upc 8 w8_9_3_11 w1.heap.size 33 (.slice Gw nw cw) (N ++ [⟨kk, nm, no, pos, by_, fr, ev, ln⟩]) by rw [← hw8_9_3_11]; exact HOw8_9_3.out.drewN m3)
              rw [hw8_9_3_11]
              clear hw8_9_3_11 hSw
              show _ ∧ _
              refine ⟨R9.out, ?_⟩
              have hSw : w8_9_3_11.heap[w8.heap.size]? = some (.cells #[.string ⟨#[10]⟩, .string ⟨#[32, 35, 32, 121, 10]⟩, .string ⟨#[32, 10]⟩] 9 (0, 0)) := R9.out
              refine goon_walk [12, 13] 7 rfl (by kernel_rfl) (by kernel_rfl) (fun _ _ h => h) ?_
              repeat (first | (refine wpKind_free (v := ?_) (by rfl) rfl (by rfl) ?_ ?_; rotate_left 1; (focus (intro wy; go_simp; try with_reducible rfl; done)); try simp only [Act.put, List.setIfInBounds_toArray, List.set_cons_zero, List.set_cons_succ]) | (refine wpKind_free (v := ?_) (by rfl) rfl (by rfl) ?_ ?_; rotate_left 1; (focus (intro wy; go_simp; (first | rw [if_pos hi4'] | rw [if_pos hk3']); (first | with_reducible rfl | (simp only [Nat.mul_one]; with_reducible rfl)); done)); try simp only [Act.put, List.setIfInBounds_toArray, List.set_cons_zero, List.set_cons_succ]) | (refine wpKind_free (v := ?_) (by rfl) rfl (by rfl) ?_ ?_; rotate_left 1; (focus (intro wy; go_simp; rw [if_pos (by omega)]; done)); try simp only [Act.put, List.setIfInBounds_toArray, List.set_cons_zero, List.set_cons_succ]) | (refine wpKind_held (v := ?_) (by rfl) rfl (by rfl) hSw ?_ ?_; rotate_left 1; (focus (intro wy hSy; have x3 := rowB_at hSy hk3; go_simp; try with_reducible rfl; done)); try simp only [Act.put, List.setIfInBounds_toArray, List.set_cons_zero, List.set_cons_succ]))
              refine wpKind_fin ?_
              refine goon_any [1] (by decide) (by kernel_rfl) ?_
              intro ii hii
              obtain rfl := List.mem_singleton.1 hii
              clear hii
              refine hOp_keeps (by rfl) rfl (fun m4 => ?_)
              go_wp2_with fail
              obtain ⟨w8_9_3_11_1, hw8_9_3_11_1⟩ : ∃ W, (w8_9_3_11.drewN m4).alloc (.cells #[.string ⟨#[]⟩, .string ⟨#[32, 32]⟩, .string ⟨#[35, 32, 120, 10]⟩, .string ⟨#[10, 10, 9]⟩] 9) = W := ⟨_, rfl⟩
              have R1 := Lib.hid (show w8_9_3_11_1.heap[w8_9_3_11.heap.size]? = some (.cells #[.string ⟨#[]⟩, .string ⟨#[32, 32]⟩, .string ⟨#[35, 32, 120, 10]⟩, .string ⟨#[10, 10, 9]⟩] 9 (0, 0)) by rw [← hw8_9_3_11_1]; exact heap_alloc_new (w8_9_3_11.drewN m4) _)
              have HBw8_9_3_11_1 := Lib.hid (show Below w1.heap.size w1 w8_9_3_11_1 by rw [← hw8_9_3_11_1]; exact (below_drewN HBw8_9_3_11.out m4).alloc (by exact HBw8_9_3_11.out.size) _)
              have R9 := Lib.hid (show w8_9_3_11_1.heap[w8.heap.size]? = some (.cells #[.string ⟨#[10]⟩, .string ⟨#[32, 35, 32, 121, 10]⟩, .string ⟨#[32, 10]⟩] 9 (0, 0)) by rw [← hw8_9_3_11_1]; exact kept_alloc R9.out m4)
              have HOw8_9_3_11_1 := Lib.hid (show Ow upc 8 w8_9_3_11_1 w1.heap.size 33 (.slice Gw nw cw) (N ++ [⟨kk, nm, no, pos, by_, fr, ev, ln⟩]) by rw [← hw8_9_3_11_1]; exact (HOw8_9_3_11.out.drewN m4).alloc _)
              rw [hw8_9_3_11_1]
              clear hw8_9_3_11_1 hSw
              show _ ∧ _
              refine ⟨R9.out, ?_⟩
              refine goon_weaken (fun wy => wy.heap[w8.heap.size]? = some (.cells #[.string ⟨#[10]⟩, .string ⟨#[32, 35, 32, 121, 10]⟩, .string ⟨#[32, 10]⟩] 9 (0, 0)) ∧ wy.heap[w8_9_3_11.heap.size]? = some (.cells #[.string ⟨#[]⟩, .string ⟨#[32, 32]⟩, .string ⟨#[35, 32, 120, 10]⟩, .string ⟨#[10, 10, 9]⟩] 9 (0, 0))) (fun _ h => h.1) ?_
              have hSw : w8_9_3_11_1.heap[w8.heap.size]? = some (.cells #[.string ⟨#[10]⟩, .string ⟨#[32, 35, 32, 121, 10]⟩, .string ⟨#[32, 10]⟩] 9 (0, 0)) ∧ w8_9_3_11_1.heap[w8_9_3_11.heap.size]? = some (.cells #[.string ⟨#[]⟩, .string ⟨#[32, 32]⟩, .string ⟨#[35, 32, 120, 10]⟩, .string ⟨#[10, 10, 9]⟩] 9 (0, 0)) := ⟨R9.out, R1.out⟩
              refine goon_walk [4, 5, 6, 8, 14, 15] 0 rfl (by kernel_rfl) (by kernel_rfl) (fun _ _ h => h) ?_
              repeat (first | (refine wpKind_free (v := ?_) (by rfl) rfl (by rfl) ?_ ?_; rotate_left 1; (focus (intro wy; go_simp; try with_reducible rfl; done)); try simp only [Act.put, List.setIfInBounds_toArray, List.set_cons_zero, List.set_cons_succ]) | (refine wpKind_free (v := ?_) (by rfl) rfl (by rfl) ?_ ?_; rotate_left 1; (focus (intro wy; go_simp; (first | rw [if_pos hi4'] | rw [if_pos hk3']); (first | with_reducible rfl | (simp only [Nat.mul_one]; with_reducible rfl)); done)); try simp only [Act.put, List.setIfInBounds_toArray, List.set_cons_zero, List.set_cons_succ]) | (refine wpKind_free (v := ?_) (by rfl) rfl (by rfl) ?_ ?_; rotate_left 1; (focus (intro wy; go_simp; rw [if_pos (by omega)]; done)); try simp only [Act.put, List.setIfInBounds_toArray, List.set_cons_zero, List.set_cons_succ]) | (refine wpKind_held (v := ?_) (by rfl) rfl (by rfl) hSw ?_ ?_; rotate_left 1; (focus (intro wy hSy; have x4 := rowA_at hSy.2 hi4; have x3 := rowB_at hSy.1 hk3; go_simp; try with_reducible rfl; done)); try simp only [Act.put, List.setIfInBounds_toArray, List.set_cons_zero, List.set_cons_succ]))
              refine wpKind_fin ?_
              clear hSw
              refine goon_end (by kernel_rfl) (fun m9 => ?_)
              go_wp2_with fail
              go_roundg (l.length - (j + 1))
              case measure => omega
              case rel => exact ⟨j + 1, by omega, by omega, by go_num, by rw [HNEXT.out]; exact HOw8_9_3_11_1.out.drewN m9, by rw [← HTXT.out], below_drewN HBw8_9_3_11_1.out m9⟩
      · obtain ⟨q, hq⟩ : ∃ q, checkU ⟨kk, nm, no, pos, by_, fr, ev, ln⟩ = q := ⟨_, rfl⟩
        have h1 := Lib.hid (HNO.out hc)
        have h2 := Lib.hid (HNO2.out hc)
        rw [hq] at hck hc
        have k1 : (q == 0) = false := beq_eq_false_iff_ne.2 hc
        have k2 : (q != 0) = true := by rw [bne, k1]; rfl
        refine hck.mono ?_
        clear hck hq hc
        rintro e w3 ⟨rfl, hb3⟩
        have HB3 := Lib.hid (HB.out.trans (hb3.mono HB.out.size))
        have HO3 := Lib.hid (HO.out.keepB fun b hb hb2 => hb3.block b hb2)
        clear hb3 HO HB
        go_wp2_with fail
        go_roundg (l.length - (j + 1))
        case measure => omega
        case rel => exact ⟨j + 1, by omega, by omega, by go_num, by rw [h2.out]; exact HO3.out, by rw [h1.out], HB3.out⟩
    · have hjj : l.take j = l := List.take_of_length_le (by omega)
      rw [hjj] at HO ⊢
      have t3 : ¬ (j : Int) < (l.length : Int) := by omega
      have hal := backF_len i4 k3 l
      have hul := upsU_le l
      have hsz : (ba (backF i4 k3 l)).size ≤ 65536 := by rw [ba_size]; omega
      obtain ⟨r1, r2, r3, r4⟩ := back_text (upsU l) (upsU_ok l) i4 k3 (ba (backF i4 k3 l)) hsz (by rw [ba_list]; rfl)
      obtain ⟨U, hU⟩ : ∃ U, upsU l = U := ⟨_, rfl⟩
      obtain ⟨y, hy⟩ : ∃ y, ba (backF i4 k3 l) = y := ⟨_, rfl⟩
      rw [hU] at HO r1 hul
      rw [hy] at hsz r1 r2 r3 r4 ⊢
      clear hjj hal hU hy
      go_wp2_with fail
      have hca := chall_any y wr hsz (HT1.out _ HB.out) (HL1.out _ HB.out)
      rw [r1, r2, r3, r4] at hca
      refine hca.mono ?_
      clear hca r1 r2 r3 r4
      rintro e w3 ⟨va, rfl, ho3, hb3⟩
      have HB3 := Lib.hid (HB.out.trans (hb3.mono HB.out.size))
      have HSG := Lib.hid (show Sl upc 8 w3 (.slice Gv nv cv) U (fun _ => True) from ((HO.out.keepB fun b hb hb2 => hb3.block b hb2).sl upc_len).mono fun _ _ => trivial)
      have HSA := Lib.hid (ho3.sl upc_len |>.mono (P' := fun _ => True) fun _ _ => trivial)
      clear ho3 hb3 HO HB
      go_upto_region 18 with fail
      obtain ⟨wA, hwA⟩ : ∃ wA, w3.alloc (.cells #[.int .i64 0, .int .i64 0, .int .i64 0] 26) = wA := ⟨_, rfl⟩
      have hqA : wA.heap[w3.heap.size]? = some (.cells #[.int .i64 0, .int .i64 0, .int .i64 0] 26 (0, 0)) := by rw [← hwA]; exact heap_alloc_new _ _
      have HBA := Lib.hid (show Below w1.heap.size w1 wA by rw [← hwA]; exact HB3.out.alloc HB3.out.size _)
      have HGA := Lib.hid (show Sl upc 8 wA (.slice Gv nv cv) U (fun _ => True) by rw [← hwA]; exact HSG.out.alloc _)
      have HAA := Lib.hid (show Sl upc 8 wA va U (fun _ => True) by rw [← hwA]; exact HSA.out.alloc _)
      rw [hwA]
      clear hwA HB3 HSG HSA
      have z0 : wA.cell? ⟨w3.heap.size, 0, none⟩ = some (.int .i64 0) := Lib.cell_of_heap hqA 0
      have z1 : wA.cell? ⟨w3.heap.size, 1, none⟩ = some (.int .i64 0) := Lib.cell_of_heap hqA 1
      have z2 : wA.cell? ⟨w3.heap.size, 2, none⟩ = some (.int .i64 0) := Lib.cell_of_heap hqA 2
      clear hqA
      have hsm := sameUpd_any va (.slice Gv nv cv) U U wA HAA.out HGA.out (by omega)
      rw [decide_eq_true rfl] at hsm
      have HSM := Lib.hid hsm
      clear hsm
      go_wp2_with fail
      refine HSM.out.mono ?_
      rintro e w9 ⟨rfl, n9, rfl⟩
      go_wp2_with fail
      go_ret
      exact ⟨rfl, HB1.out.trans ((below_drewN HBA.out n9).mono HB1.out.size)⟩
end Go.Proofs.YtlclkeihkkpdbaaDoor
