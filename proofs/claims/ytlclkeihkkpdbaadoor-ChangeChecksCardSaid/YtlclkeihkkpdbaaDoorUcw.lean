/- The law ChangeChecks: its walk. Printed by wip/bin/genucw.py. -/
import Derived.Test.YtlclkeihkkpdbaaDoorUtz
import Derived.Test.YtlclkeihkkpdbaaDoorUop
import Derived.Test.YtlclkeihkkpdbaaDoorUfo
import Derived.Laws.Tables
import Derived.Laws.CopyOwn
import Derived.Deep.CutBlock
import Derived.Deep.CutRange
import Derived.Deep.DeepCutAuto
namespace Go.Proofs.YtlclkeihkkpdbaaDoor
open Go.RowKit
theorem upc_all (u : UpD) : (upc u).toArray.all (·.oneCell') = true := by
  rw [Array.all_eq_true_iff_forall_mem]
  intro x hx
  exact upc_one u x (by simpa using hx)
theorem keepU_alloc {W : World} {q : Nat} {o x : Obj} (h : W.heap[q]? = some o) (n : Nat) : ((W.drewN n).alloc x).heap[q]? = some o := by
  rw [Below.heap_alloc _ _ _ (by exact (Array.getElem?_eq_some_iff.1 h).1)]; exact h
def lstF (a b c d : Bool) : Array Bool := #[true, true, true, true, a, b, c, d, false, false, false, false]
def actU (a0 : Act) (v6 v7 v8 v9 : Value) : Act := (((a0.put (some 6) v6).put (some 7) v7).put (some 8) v8).put (some 9) v9
/-- Four unlike blocks, each with the cells c. -/
structure FourU (c : Array Value) (B : Nat) (w0 : World) (p6 p7 p8 p9 : Nat) (W : World) : Prop where
  h6 : W.heap[p6]? = some (.cells c 33 (0, 0))
  h7 : W.heap[p7]? = some (.cells c 33 (0, 0))
  h8 : W.heap[p8]? = some (.cells c 33 (0, 0))
  h9 : W.heap[p9]? = some (.cells c 33 (0, 0))
  n67 : p6 ≠ p7
  n68 : p6 ≠ p8
  n69 : p6 ≠ p9
  n78 : p7 ≠ p8
  n79 : p7 ≠ p9
  n89 : p8 ≠ p9
  l6 : B < p6
  l7 : B < p7
  l8 : B < p8
  l9 : B < p9
  below : Below B w0 W
  old : ∀ o, w0.heap[B]? = some o → W.heap[B]? = some o
set_option maxHeartbeats 16000000 in
set_option maxRecDepth 100000 in
theorem chchecks_any (k : Int) (nm : List UInt8) (no pos by_ fr ev ln n : Int) (w : World) (hg : GUpd ⟨k, nm, no, pos, by_, fr, ev, ln⟩) (hT : Tabs w) (hL : LibOk w) :
    Calls Tryd.prog 4 #[.agg #[.int .i64 k, .string (ba nm), .int .i64 no, .int .i64 pos, .int .i64 by_, .int .i64 fr, .int .i64 ev, .int .i64 ln], .int .i64 n] w fun e w' => e = .returned (.bool true) ∧ Below w.heap.size w w' := by
  have hnm : nm.length ≤ maxLen := hg.name
  have HT := Lib.hid hT
  have HL := Lib.hid hL
  clear hT hL hg
  have hnz : (ba nm).size = nm.length := ba_size nm
  go_enter Tryd.func4, Tryd.ntmps4
  go_wp2_with fail
  obtain ⟨w0, hw0⟩ : ∃ w0, w.alloc (.cells #[.int .i64 k, .string (ba nm), .int .i64 no, .int .i64 pos, .int .i64 by_, .int .i64 fr, .int .i64 ev, .int .i64 ln] 33) = w0 := ⟨_, rfl⟩
  have HU0 := Lib.hid (show w0.heap[w.heap.size]? = some (.cells #[.int .i64 k, .string (ba nm), .int .i64 no, .int .i64 pos, .int .i64 by_, .int .i64 fr, .int .i64 ev, .int .i64 ln] 33 (0, 0)) by rw [← hw0]; exact heap_alloc_new _ _)
  have HB0 := Lib.hid (show Below w.heap.size w w0 by rw [← hw0]; exact (Below.refl _ _).alloc (Nat.le_refl _) _)
  rw [hw0]
  clear hw0
  refine (chlives_any w0 (HT.out.below HB0.out) (HL.out.below HB0.out)).mono ?_
  rintro e w1 ⟨rfl, hb1⟩
  have hu1 := (hb1.block w.heap.size (Array.getElem?_eq_some_iff.1 HU0.out).1).trans HU0.out
  have HB1 := Lib.hid (HB0.out.trans (hb1.mono HB0.out.size))
  have HU1 := Lib.hid hu1
  clear hb1 HU0 HB0
  have s0 : w1.cell? ⟨w.heap.size, 0, none⟩ = some (.int .i64 k) := Lib.cell_of_heap hu1 0
  have s1 : w1.cell? ⟨w.heap.size, 1, none⟩ = some (.string (ba nm)) := Lib.cell_of_heap hu1 1
  have s2 : w1.cell? ⟨w.heap.size, 2, none⟩ = some (.int .i64 no) := Lib.cell_of_heap hu1 2
  have s3 : w1.cell? ⟨w.heap.size, 3, none⟩ = some (.int .i64 pos) := Lib.cell_of_heap hu1 3
  have s4 : w1.cell? ⟨w.heap.size, 4, none⟩ = some (.int .i64 by_) := Lib.cell_of_heap hu1 4
  have s5 : w1.cell? ⟨w.heap.size, 5, none⟩ = some (.int .i64 fr) := Lib.cell_of_heap hu1 5
  have s6 : w1.cell? ⟨w.heap.size, 6, none⟩ = some (.int .i64 ev) := Lib.cell_of_heap hu1 6
  have s7 : w1.cell? ⟨w.heap.size, 7, none⟩ = some (.int .i64 ln) := Lib.cell_of_heap hu1 7
  clear hu1
  by_cases hbig : 2000 < nm.length
  · have q2 : (2000 : Int) < ((ba nm).size : Int) := by rw [hnz]; omega
    go_wp2_with fail
    go_ret
    exact ⟨rfl, HB1.out⟩
  have q2 : ¬ (2000 : Int) < ((ba nm).size : Int) := by rw [hnz]; omega
  go_wp2_with fail
  clear s0 s1 s2 s3 s4 s5 s6 s7
  have hck := ucheck_any k nm no pos by_ fr ev ln w1 hnm (HT.out.below HB1.out)
  by_cases hc : checkU ⟨k, nm, no, pos, by_, fr, ev, ln⟩ = 0
  case neg =>
    obtain ⟨q, hq⟩ : ∃ q, checkU ⟨k, nm, no, pos, by_, fr, ev, ln⟩ = q := ⟨_, rfl⟩
    rw [hq] at hck hc
    have k1 : (q == 0) = false := beq_eq_false_iff_ne.2 hc
    have k2 : (q != 0) = true := by rw [bne, k1]; rfl
    refine hck.mono ?_
    clear hck hq hc
    rintro e w2 ⟨rfl, hb2⟩
    have HB2 := Lib.hid (HB1.out.trans (hb2.mono HB1.out.size))
    clear hb2
    go_wp2_with fail
    go_ret
    exact ⟨rfl, HB2.out⟩
  rw [hc] at hck
  refine hck.mono ?_
  clear hck
  rintro e w2 ⟨rfl, hb2⟩
  have hu2 := (hb2.block w.heap.size (Array.getElem?_eq_some_iff.1 HU1.out).1).trans HU1.out
  have HB2 := Lib.hid (HB1.out.trans (hb2.mono HB1.out.size))
  clear hb2 HB1 HU1
  by_cases hn1 : n < 1
  · go_wp2_with fail
    go_ret
    exact ⟨rfl, HB2.out⟩
  obtain ⟨r, hr, hr0, hr1⟩ : ∃ r, n.tmod 1000 = r ∧ 0 ≤ r ∧ r < 1000 := ⟨n.tmod 1000, rfl, by rw [Int.tmod_eq_emod_of_nonneg (by omega)]; omega, by rw [Int.tmod_eq_emod_of_nonneg (by omega)]; omega⟩
  obtain ⟨a1, a2, a3, a4⟩ := check_alters ⟨k, nm, no, pos, by_, fr, ev, ln⟩ (r + 1) (by omega) (by omega) hc
  dsimp only at a1 a2 a3 a4
  have x0 : w2.cell? ⟨w.heap.size, 0, none⟩ = some (.int .i64 k) := Lib.cell_of_heap hu2 0
  have HU2 := Lib.hid hu2
  have A1 := Lib.hid a1
  have A2 := Lib.hid a2
  have A3 := Lib.hid a3
  have A4 := Lib.hid a4
  clear hc hu2 a1 a2 a3 a4
  go_upto_region 6 with fail
  clear x0
  go_cut [6, 7, 8, 9] (fun s6 s7 s8 s9 wx => ∃ p6 p7 p8 p9, s6 = .pointer (some ⟨p6, 0, none⟩) ∧ s7 = .pointer (some ⟨p7, 0, none⟩) ∧ s8 = .pointer (some ⟨p8, 0, none⟩) ∧ s9 = .pointer (some ⟨p9, 0, none⟩) ∧ FourU #[.int .i64 k, .string (ba nm), .int .i64 no, .int .i64 pos, .int .i64 by_, .int .i64 fr, .int .i64 ev, .int .i64 ln] w.heap.size w2 p6 p7 p8 p9 wx)
  case first =>
    have hSw : w2.heap[w.heap.size]? = some (.cells #[.int .i64 k, .string (ba nm), .int .i64 no, .int .i64 pos, .int .i64 by_, .int .i64 fr, .int .i64 ev, .int .i64 ln] 33 (0, 0)) := HU2.out
    refine wp_region_goon (fun wy => wy.heap[w.heap.size]? = some (.cells #[.int .i64 k, .string (ba nm), .int .i64 no, .int .i64 pos, .int .i64 by_, .int .i64 fr, .int .i64 ev, .int .i64 ln] 33 (0, 0))) [4, 5, 6, 7, 8, 9, 10, 11] [] [0, 1, 2, 3] [] (by kernel_rfl) ?_
    refine goon_walk [0, 1, 2, 3] 8 rfl (by kernel_rfl) (by kernel_rfl) (fun w n h => h) ?_
    repeat (first | (refine wpKind_held (v := ?_) (by rfl) rfl (by rfl) hSw ?_ ?_; rotate_left 1; (focus (intro wy hSy; have s0 : wy.cell? ⟨w.heap.size, 0, none⟩ = some (.int .i64 k) := Lib.cell_of_heap hSy 0; have s1 : wy.cell? ⟨w.heap.size, 1, none⟩ = some (.string (ba nm)) := Lib.cell_of_heap hSy 1; have s2 : wy.cell? ⟨w.heap.size, 2, none⟩ = some (.int .i64 no) := Lib.cell_of_heap hSy 2; have s3 : wy.cell? ⟨w.heap.size, 3, none⟩ = some (.int .i64 pos) := Lib.cell_of_heap hSy 3; have s4 : wy.cell? ⟨w.heap.size, 4, none⟩ = some (.int .i64 by_) := Lib.cell_of_heap hSy 4; have s5 : wy.cell? ⟨w.heap.size, 5, none⟩ = some (.int .i64 fr) := Lib.cell_of_heap hSy 5; have s6 : wy.cell? ⟨w.heap.size, 6, none⟩ = some (.int .i64 ev) := Lib.cell_of_heap hSy 6; have s7 : wy.cell? ⟨w.heap.size, 7, none⟩ = some (.int .i64 ln) := Lib.cell_of_heap hSy 7; go_simp; try with_reducible rfl; done)); try simp only [Act.put, List.setIfInBounds_toArray, List.set_cons_zero, List.set_cons_succ]))
    refine wpKind_fin ?_
    clear hSw
    refine goon_act ?_
    intro a0 ha0
    refine goon_listed (l2 := lstF false false false false) (by kernel_rfl) ?_
    have hact : a0 = actU a0 undef undef undef undef := by subst ha0; rfl
    rw [hact]
    clear hact
    refine goon_alloc4 #[.int .i64 0, .string ⟨#[]⟩, .int .i64 0, .int .i64 0, .int .i64 0, .int .i64 0, .int .i64 0, .int .i64 0] 33 w.heap.size w2 lstF (fun a b c d => by cases a <;> cases b <;> cases c <;> cases d <;> exact ⟨rfl, rfl, rfl, rfl⟩) (fun a b c d h => by cases a <;> cases b <;> cases c <;> cases d <;> first | exact absurd h (by decide) | kernel_rfl) (actU a0) (by intro a b c d u; subst ha0; rfl) (by intro a b c d u; subst ha0; rfl) (by intro a b c d u; subst ha0; rfl) (by intro a b c d u; subst ha0; rfl) ?hop (fun ps W hM => hM.old _ HU2.out) (Array.getElem?_eq_some_iff.1 HU2.out).1 ?tail
    case hop =>
      intro i d hid a W K hK
      simp only [List.mem_cons, Prod.mk.injEq, List.not_mem_nil, or_false] at hid
      rcases hid with ⟨rfl, rfl⟩ | ⟨rfl, rfl⟩ | ⟨rfl, rfl⟩ | ⟨rfl, rfl⟩
      · refine hOp_keeps (by rfl) rfl (fun m => ?_)
        go_wp2_with fail
        exact hK m
      · refine hOp_keeps (by rfl) rfl (fun m => ?_)
        go_wp2_with fail
        exact hK m
      · refine hOp_keeps (by rfl) rfl (fun m => ?_)
        go_wp2_with fail
        exact hK m
      · refine hOp_keeps (by rfl) rfl (fun m => ?_)
        go_wp2_with fail
        exact hK m
    case tail =>
      intro p6 p7 p8 p9 W hM
      have hF : FourU #[.int .i64 0, .string ⟨#[]⟩, .int .i64 0, .int .i64 0, .int .i64 0, .int .i64 0, .int .i64 0, .int .i64 0] w.heap.size w2 p6 p7 p8 p9 W := by
        have hn := hM.nodup
        simp only [List.nodup_cons, List.mem_cons, List.not_mem_nil, or_false, not_or] at hn
        obtain ⟨⟨n67, n68, n69⟩, ⟨n78, n79⟩, n89, _⟩ := hn
        exact ⟨(hM.at_ p6 (by simp)).1, (hM.at_ p7 (by simp)).1, (hM.at_ p8 (by simp)).1, (hM.at_ p9 (by simp)).1, n67, n68, n69, n78, n79, n89, (hM.at_ p6 (by simp)).2, (hM.at_ p7 (by simp)).2, (hM.at_ p8 (by simp)).2, (hM.at_ p9 (by simp)).2, hM.below, hM.old⟩
      subst ha0
      simp only [actU, ptrU, Act.put, List.setIfInBounds_toArray, List.set_cons_zero, List.set_cons_succ]
      refine goon_walk [8, 9, 10, 11] 0 rfl (by kernel_rfl) (by kernel_rfl) (fun w n h => h) ?_
      have Gp6 := Lib.hid hF.h6
      have Gp7 := Lib.hid hF.h7
      have Gp8 := Lib.hid hF.h8
      have Gp9 := Lib.hid hF.h9
      have HBW := Lib.hid hF.below
      have HOW := Lib.hid hF.old
      obtain ⟨_, _, _, _, n67, n68, n69, n78, n79, n89, l6, l7, l8, l9, _, _⟩ := hF
      have HNL := Lib.hid (show (p6 ≠ p7 ∧ p6 ≠ p8 ∧ p6 ≠ p9 ∧ p7 ≠ p8 ∧ p7 ≠ p9 ∧ p8 ≠ p9) ∧ w.heap.size < p6 ∧ w.heap.size < p7 ∧ w.heap.size < p8 ∧ w.heap.size < p9 from ⟨⟨n67, n68, n69, n78, n79, n89⟩, l6, l7, l8, l9⟩)
      clear n67 n68 n69 n78 n79 n89 l6 l7 l8 l9 hM
      refine wpKind_keeps (by rfl) rfl (fun m1 => ?_)
      refine wpList_store_row rfl 33 _ _ rfl p6 #[.int .i64 k, .string (ba nm), .int .i64 no, .int .i64 pos, .int .i64 by_, .int .i64 fr, .int .i64 ev, .int .i64 ln] rfl rfl 33 #[.int .i64 0, .string ⟨#[]⟩, .int .i64 0, .int .i64 0, .int .i64 0, .int .i64 0, .int .i64 0, .int .i64 0] (show (W.drewN m1).heap[p6]? = some (.cells #[.int .i64 0, .string ⟨#[]⟩, .int .i64 0, .int .i64 0, .int .i64 0, .int .i64 0, .int .i64 0, .int .i64 0] 33 (0, 0)) from Gp6.out) (by kernel_rfl) rfl (upc_all ⟨k, nm, no, pos, by_, fr, ev, ln⟩) ?_
      obtain ⟨⟨n67, n68, n69, n78, n79, n89⟩, l6, l7, l8, l9⟩ := HNL.out
      have ra := setRow_heap (W.drewN m1) p6 _ #[.int .i64 k, .string (ba nm), .int .i64 no, .int .i64 pos, .int .i64 by_, .int .i64 fr, .int .i64 ev, .int .i64 ln] _ _ Gp6.out
      have rb := fun (c : Nat) (hc : c ≠ p6) => setRow_other (W.drewN m1) p6 c #[.int .i64 k, .string (ba nm), .int .i64 no, .int .i64 pos, .int .i64 by_, .int .i64 fr, .int .i64 ev, .int .i64 ln] hc
      have rc := below_setRow (below_drewN HBW.out m1) (show w.heap.size ≤ p6 by omega) #[.int .i64 k, .string (ba nm), .int .i64 no, .int .i64 pos, .int .i64 by_, .int .i64 fr, .int .i64 ev, .int .i64 ln]
      obtain ⟨W6, hW6⟩ : ∃ X, (W.drewN m1).setRow p6 #[.int .i64 k, .string (ba nm), .int .i64 no, .int .i64 pos, .int .i64 by_, .int .i64 fr, .int .i64 ev, .int .i64 ln] = X := ⟨_, rfl⟩
      rw [hW6] at ra rc ⊢
      have rb : ∀ c, c ≠ p6 → W6.heap[c]? = W.heap[c]? := fun c hc => by rw [← hW6]; exact rb c hc
      have Gp6' := Lib.hid ra
      have Gp7' := Lib.hid (show W6.heap[p7]? = some (.cells #[.int .i64 0, .string ⟨#[]⟩, .int .i64 0, .int .i64 0, .int .i64 0, .int .i64 0, .int .i64 0, .int .i64 0] 33 (0, 0)) from (rb p7 (by omega)).trans Gp7.out)
      have Gp8' := Lib.hid (show W6.heap[p8]? = some (.cells #[.int .i64 0, .string ⟨#[]⟩, .int .i64 0, .int .i64 0, .int .i64 0, .int .i64 0, .int .i64 0, .int .i64 0] 33 (0, 0)) from (rb p8 (by omega)).trans Gp8.out)
      have Gp9' := Lib.hid (show W6.heap[p9]? = some (.cells #[.int .i64 0, .string ⟨#[]⟩, .int .i64 0, .int .i64 0, .int .i64 0, .int .i64 0, .int .i64 0, .int .i64 0] 33 (0, 0)) from (rb p9 (by omega)).trans Gp9.out)
      have HOW6 := Lib.hid (fun (o : Obj) (ho : w2.heap[w.heap.size]? = some o) => (show W6.heap[w.heap.size]? = some o from (rb w.heap.size (by omega)).trans (HOW.out o ho)))
      have HBW6 := Lib.hid rc
      clear n67 n68 n69 n78 n79 n89 l6 l7 l8 l9 ra rb rc hW6 Gp6 Gp7 Gp8 Gp9
      have Gp6 := Gp6'
      have Gp7 := Gp7'
      have Gp8 := Gp8'
      have Gp9 := Gp9'
      clear Gp6' Gp7' Gp8' Gp9'
      show _ ∧ _
      refine ⟨HOW6.out _ HU2.out, ?_⟩
      refine wpKind_keeps (by rfl) rfl (fun m2 => ?_)
      refine wpList_store_row rfl 33 _ _ rfl p7 #[.int .i64 k, .string (ba nm), .int .i64 no, .int .i64 pos, .int .i64 by_, .int .i64 fr, .int .i64 ev, .int .i64 ln] rfl rfl 33 #[.int .i64 0, .string ⟨#[]⟩, .int .i64 0, .int .i64 0, .int .i64 0, .int .i64 0, .int .i64 0, .int .i64 0] (show (W6.drewN m2).heap[p7]? = some (.cells #[.int .i64 0, .string ⟨#[]⟩, .int .i64 0, .int .i64 0, .int .i64 0, .int .i64 0, .int .i64 0, .int .i64 0] 33 (0, 0)) from Gp7.out) (by kernel_rfl) rfl (upc_all ⟨k, nm, no, pos, by_, fr, ev, ln⟩) ?_
      obtain ⟨⟨n67, n68, n69, n78, n79, n89⟩, l6, l7, l8, l9⟩ := HNL.out
      have ra := setRow_heap (W6.drewN m2) p7 _ #[.int .i64 k, .string (ba nm), .int .i64 no, .int .i64 pos, .int .i64 by_, .int .i64 fr, .int .i64 ev, .int .i64 ln] _ _ Gp7.out
      have rb := fun (c : Nat) (hc : c ≠ p7) => setRow_other (W6.drewN m2) p7 c #[.int .i64 k, .string (ba nm), .int .i64 no, .int .i64 pos, .int .i64 by_, .int .i64 fr, .int .i64 ev, .int .i64 ln] hc
      have rc := below_setRow (below_drewN HBW6.out m2) (show w.heap.size ≤ p7 by omega) #[.int .i64 k, .string (ba nm), .int .i64 no, .int .i64 pos, .int .i64 by_, .int .i64 fr, .int .i64 ev, .int .i64 ln]
      obtain ⟨W7, hW7⟩ : ∃ X, (W6.drewN m2).setRow p7 #[.int .i64 k, .string (ba nm), .int .i64 no, .int .i64 pos, .int .i64 by_, .int .i64 fr, .int .i64 ev, .int .i64 ln] = X := ⟨_, rfl⟩
      rw [hW7] at ra rc ⊢
      have rb : ∀ c, c ≠ p7 → W7.heap[c]? = W6.heap[c]? := fun c hc => by rw [← hW7]; exact rb c hc
      have Gp6' := Lib.hid (show W7.heap[p6]? = some (.cells #[.int .i64 k, .string (ba nm), .int .i64 no, .int .i64 pos, .int .i64 by_, .int .i64 fr, .int .i64 ev, .int .i64 ln] 33 (0, 0)) from (rb p6 (by omega)).trans Gp6.out)
      have Gp7' := Lib.hid ra
      have Gp8' := Lib.hid (show W7.heap[p8]? = some (.cells #[.int .i64 0, .string ⟨#[]⟩, .int .i64 0, .int .i64 0, .int .i64 0, .int .i64 0, .int .i64 0, .int .i64 0] 33 (0, 0)) from (rb p8 (by omega)).trans Gp8.out)
      have Gp9' := Lib.hid (show W7.heap[p9]? = some (.cells #[.int .i64 0, .string ⟨#[]⟩, .int .i64 0, .int .i64 0, .int .i64 0, .int .i64 0, .int .i64 0, .int .i64 0] 33 (0, 0)) from (rb p9 (by omega)).trans Gp9.out)
      have HOW7 := Lib.hid (fun (o : Obj) (ho : w2.heap[w.heap.size]? = some o) => (show W7.heap[w.heap.size]? = some o from (rb w.heap.size (by omega)).trans (HOW6.out o ho)))
      have HBW7 := Lib.hid rc
      clear n67 n68 n69 n78 n79 n89 l6 l7 l8 l9 ra rb rc hW7 Gp6 Gp7 Gp8 Gp9
      have Gp6 := Gp6'
      have Gp7 := Gp7'
      have Gp8 := Gp8'
      have Gp9 := Gp9'
      clear Gp6' Gp7' Gp8' Gp9'
      show _ ∧ _
      refine ⟨HOW7.out _ HU2.out, ?_⟩
      refine wpKind_keeps (by rfl) rfl (fun m3 => ?_)
      refine wpList_store_row rfl 33 _ _ rfl p8 #[.int .i64 k, .string (ba nm), .int .i64 no, .int .i64 pos, .int .i64 by_, .int .i64 fr, .int .i64 ev, .int .i64 ln] rfl rfl 33 #[.int .i64 0, .string ⟨#[]⟩, .int .i64 0, .int .i64 0, .int .i64 0, .int .i64 0, .int .i64 0, .int .i64 0] (show (W7.drewN m3).heap[p8]? = some (.cells #[.int .i64 0, .string ⟨#[]⟩, .int .i64 0, .int .i64 0, .int .i64 0, .int .i64 0, .int .i64 0, .int .i64 0] 33 (0, 0)) from Gp8.out) (by kernel_rfl) rfl (upc_all ⟨k, nm, no, pos, by_, fr, ev, ln⟩) ?_
      obtain ⟨⟨n67, n68, n69, n78, n79, n89⟩, l6, l7, l8, l9⟩ := HNL.out
      have ra := setRow_heap (W7.drewN m3) p8 _ #[.int .i64 k, .string (ba nm), .int .i64 no, .int .i64 pos, .int .i64 by_, .int .i64 fr, .int .i64 ev, .int .i64 ln] _ _ Gp8.out
      have rb := fun (c : Nat) (hc : c ≠ p8) => setRow_other (W7.drewN m3) p8 c #[.int .i64 k, .string (ba nm), .int .i64 no, .int .i64 pos, .int .i64 by_, .int .i64 fr, .int .i64 ev, .int .i64 ln] hc
      have rc := below_setRow (below_drewN HBW7.out m3) (show w.heap.size ≤ p8 by omega) #[.int .i64 k, .string (ba nm), .int .i64 no, .int .i64 pos, .int .i64 by_, .int .i64 fr, .int .i64 ev, .int .i64 ln]
      obtain ⟨W8, hW8⟩ : ∃ X, (W7.drewN m3).setRow p8 #[.int .i64 k, .string (ba nm), .int .i64 no, .int .i64 pos, .int .i64 by_, .int .i64 fr, .int .i64 ev, .int .i64 ln] = X := ⟨_, rfl⟩
      rw [hW8] at ra rc ⊢
      have rb : ∀ c, c ≠ p8 → W8.heap[c]? = W7.heap[c]? := fun c hc => by rw [← hW8]; exact rb c hc
      have Gp6' := Lib.hid (show W8.heap[p6]? = some (.cells #[.int .i64 k, .string (ba nm), .int .i64 no, .int .i64 pos, .int .i64 by_, .int .i64 fr, .int .i64 ev, .int .i64 ln] 33 (0, 0)) from (rb p6 (by omega)).trans Gp6.out)
      have Gp7' := Lib.hid (show W8.heap[p7]? = some (.cells #[.int .i64 k, .string (ba nm), .int .i64 no, .int .i64 pos, .int .i64 by_, .int .i64 fr, .int .i64 ev, .int .i64 ln] 33 (0, 0)) from (rb p7 (by omega)).trans Gp7.out)
      have Gp8' := Lib.hid ra
      have Gp9' := Lib.hid (show W8.heap[p9]? = some (.cells #[.int .i64 0, .string ⟨#[]⟩, .int .i64 0, .int .i64 0, .int .i64 0, .int .i64 0, .int .i64 0, .int .i64 0] 33 (0, 0)) from (rb p9 (by omega)).trans Gp9.out)
      have HOW8 := Lib.hid (fun (o : Obj) (ho : w2.heap[w.heap.size]? = some o) => (show W8.heap[w.heap.size]? = some o from (rb w.heap.size (by omega)).trans (HOW7.out o ho)))
      have HBW8 := Lib.hid rc
      clear n67 n68 n69 n78 n79 n89 l6 l7 l8 l9 ra rb rc hW8 Gp6 Gp7 Gp8 Gp9
      have Gp6 := Gp6'
      have Gp7 := Gp7'
      have Gp8 := Gp8'
      have Gp9 := Gp9'
      clear Gp6' Gp7' Gp8' Gp9'
      show _ ∧ _
      refine ⟨HOW8.out _ HU2.out, ?_⟩
      refine wpKind_keeps (by rfl) rfl (fun m4 => ?_)
      refine wpList_store_row rfl 33 _ _ rfl p9 #[.int .i64 k, .string (ba nm), .int .i64 no, .int .i64 pos, .int .i64 by_, .int .i64 fr, .int .i64 ev, .int .i64 ln] rfl rfl 33 #[.int .i64 0, .string ⟨#[]⟩, .int .i64 0, .int .i64 0, .int .i64 0, .int .i64 0, .int .i64 0, .int .i64 0] (show (W8.drewN m4).heap[p9]? = some (.cells #[.int .i64 0, .string ⟨#[]⟩, .int .i64 0, .int .i64 0, .int .i64 0, .int .i64 0, .int .i64 0, .int .i64 0] 33 (0, 0)) from Gp9.out) (by kernel_rfl) rfl (upc_all ⟨k, nm, no, pos, by_, fr, ev, ln⟩) ?_
      obtain ⟨⟨n67, n68, n69, n78, n79, n89⟩, l6, l7, l8, l9⟩ := HNL.out
      have ra := setRow_heap (W8.drewN m4) p9 _ #[.int .i64 k, .string (ba nm), .int .i64 no, .int .i64 pos, .int .i64 by_, .int .i64 fr, .int .i64 ev, .int .i64 ln] _ _ Gp9.out
      have rb := fun (c : Nat) (hc : c ≠ p9) => setRow_other (W8.drewN m4) p9 c #[.int .i64 k, .string (ba nm), .int .i64 no, .int .i64 pos, .int .i64 by_, .int .i64 fr, .int .i64 ev, .int .i64 ln] hc
      have rc := below_setRow (below_drewN HBW8.out m4) (show w.heap.size ≤ p9 by omega) #[.int .i64 k, .string (ba nm), .int .i64 no, .int .i64 pos, .int .i64 by_, .int .i64 fr, .int .i64 ev, .int .i64 ln]
      obtain ⟨W9, hW9⟩ : ∃ X, (W8.drewN m4).setRow p9 #[.int .i64 k, .string (ba nm), .int .i64 no, .int .i64 pos, .int .i64 by_, .int .i64 fr, .int .i64 ev, .int .i64 ln] = X := ⟨_, rfl⟩
      rw [hW9] at ra rc ⊢
      have rb : ∀ c, c ≠ p9 → W9.heap[c]? = W8.heap[c]? := fun c hc => by rw [← hW9]; exact rb c hc
      have Gp6' := Lib.hid (show W9.heap[p6]? = some (.cells #[.int .i64 k, .string (ba nm), .int .i64 no, .int .i64 pos, .int .i64 by_, .int .i64 fr, .int .i64 ev, .int .i64 ln] 33 (0, 0)) from (rb p6 (by omega)).trans Gp6.out)
      have Gp7' := Lib.hid (show W9.heap[p7]? = some (.cells #[.int .i64 k, .string (ba nm), .int .i64 no, .int .i64 pos, .int .i64 by_, .int .i64 fr, .int .i64 ev, .int .i64 ln] 33 (0, 0)) from (rb p7 (by omega)).trans Gp7.out)
      have Gp8' := Lib.hid (show W9.heap[p8]? = some (.cells #[.int .i64 k, .string (ba nm), .int .i64 no, .int .i64 pos, .int .i64 by_, .int .i64 fr, .int .i64 ev, .int .i64 ln] 33 (0, 0)) from (rb p8 (by omega)).trans Gp8.out)
      have Gp9' := Lib.hid ra
      have HOW9 := Lib.hid (fun (o : Obj) (ho : w2.heap[w.heap.size]? = some o) => (show W9.heap[w.heap.size]? = some o from (rb w.heap.size (by omega)).trans (HOW8.out o ho)))
      have HBW9 := Lib.hid rc
      clear n67 n68 n69 n78 n79 n89 l6 l7 l8 l9 ra rb rc hW9 Gp6 Gp7 Gp8 Gp9
      have Gp6 := Gp6'
      have Gp7 := Gp7'
      have Gp8 := Gp8'
      have Gp9 := Gp9'
      clear Gp6' Gp7' Gp8' Gp9'
      show _ ∧ _
      refine ⟨HOW9.out _ HU2.out, ?_⟩
      refine wpKind_fin ?_
      refine goon_end (by kernel_rfl) (fun m9 => ?_)
      go_wp2_with fail
      go_meet
      obtain ⟨⟨n67, n68, n69, n78, n79, n89⟩, l6, l7, l8, l9⟩ := HNL.out
      case rel => exact ⟨p6, p7, p8, p9, rfl, rfl, rfl, rfl, ⟨Gp6.out, Gp7.out, Gp8.out, Gp9.out, n67, n68, n69, n78, n79, n89, l6, l7, l8, l9, below_drewN HBW9.out m9, HOW9.out⟩⟩
  case rest =>
    obtain ⟨p6, p7, p8, p9, rfl, rfl, rfl, rfl, hF⟩ := hcut
    have hwr : IntKind.i64.wrap (r + 1) = r + 1 := IntWalk.i64_in _ (by omega)
    have HOW := Lib.hid (hF.old _ HU2.out)
    have HBW := Lib.hid hF.below
    have G6 := Lib.hid hF.h6
    have G7 := Lib.hid hF.h7
    have G8 := Lib.hid hF.h8
    have G9 := Lib.hid hF.h9
    obtain ⟨_, _, _, _, n67, n68, n69, n78, n79, n89, l6, l7, l8, l9, _, _⟩ := hF

    have z6 : wc.cell? ⟨p6, 3, none⟩ = some (.int .i64 pos) := Lib.cell_of_heap G6.out 3
    have f6 : wc.frozen? ⟨p6, 3, none⟩ = false := Lib.frozen_of_heap G6.out 3
    have z7 : wc.cell? ⟨p7, 4, none⟩ = some (.int .i64 by_) := Lib.cell_of_heap G7.out 4
    have f7 : wc.frozen? ⟨p7, 4, none⟩ = false := Lib.frozen_of_heap G7.out 4
    have z8 : wc.cell? ⟨p8, 2, none⟩ = some (.int .i64 no) := Lib.cell_of_heap G8.out 2
    have f8 : wc.frozen? ⟨p8, 2, none⟩ = false := Lib.frozen_of_heap G8.out 2
    have z9 : wc.cell? ⟨p9, 7, none⟩ = some (.int .i64 ln) := Lib.cell_of_heap G9.out 7
    have f9 : wc.frozen? ⟨p9, 7, none⟩ = false := Lib.frozen_of_heap G9.out 7
    have n76 : ¬ p7 = p6 := fun h => n67 h.symm
    have n86 : ¬ p8 = p6 := fun h => n68 h.symm
    have n96 : ¬ p9 = p6 := fun h => n69 h.symm
    have n87 : ¬ p8 = p7 := fun h => n78 h.symm
    have n97 : ¬ p9 = p7 := fun h => n79 h.symm
    have n98 : ¬ p9 = p8 := fun h => n89 h.symm
    go_upto_region 8 with fail
    clear z6 z7 z8 z9 f6 f7 f8 f9
    obtain ⟨wd, hwd⟩ : ∃ wd, (((wc.setCell ⟨p6, 3, none⟩ (.int .i64 (r + 1))).setCell ⟨p7, 4, none⟩ (.int .i64 (r + 1))).setCell ⟨p8, 2, none⟩ (.int .i64 (r + 1))).setCell ⟨p9, 7, none⟩ (.int .i64 (r + 1)) = wd := ⟨_, rfl⟩
    have hz6 : wd.heap[p6]? = some (.cells #[.int .i64 k, .string (ba nm), .int .i64 no, .int .i64 (r + 1), .int .i64 by_, .int .i64 fr, .int .i64 ev, .int .i64 ln] 33 (0, 0)) := by
      rw [← hwd]
      rw [Below.heap_setCell _ _ _ _ (by show p6 ≠ p9; omega)]
      rw [Below.heap_setCell _ _ _ _ (by show p6 ≠ p8; omega)]
      rw [Below.heap_setCell _ _ _ _ (by show p6 ≠ p7; omega)]
      have h0 : wc.heap[p6]? = some (.cells #[.int .i64 k, .string (ba nm), .int .i64 no, .int .i64 pos, .int .i64 by_, .int .i64 fr, .int .i64 ev, .int .i64 ln] 33 (0, 0)) := by
        exact G6.out
      exact heap_setCell_same _ p6 3 _ _ _ h0
    have hz7 : wd.heap[p7]? = some (.cells #[.int .i64 k, .string (ba nm), .int .i64 no, .int .i64 pos, .int .i64 (r + 1), .int .i64 fr, .int .i64 ev, .int .i64 ln] 33 (0, 0)) := by
      rw [← hwd]
      rw [Below.heap_setCell _ _ _ _ (by show p7 ≠ p9; omega)]
      rw [Below.heap_setCell _ _ _ _ (by show p7 ≠ p8; omega)]
      have h0 : (wc.setCell ⟨p6, 3, none⟩ (.int .i64 (r + 1))).heap[p7]? = some (.cells #[.int .i64 k, .string (ba nm), .int .i64 no, .int .i64 pos, .int .i64 by_, .int .i64 fr, .int .i64 ev, .int .i64 ln] 33 (0, 0)) := by
        rw [Below.heap_setCell _ _ _ _ (by show p7 ≠ p6; omega)]
        exact G7.out
      exact heap_setCell_same _ p7 4 _ _ _ h0
    have hz8 : wd.heap[p8]? = some (.cells #[.int .i64 k, .string (ba nm), .int .i64 (r + 1), .int .i64 pos, .int .i64 by_, .int .i64 fr, .int .i64 ev, .int .i64 ln] 33 (0, 0)) := by
      rw [← hwd]
      rw [Below.heap_setCell _ _ _ _ (by show p8 ≠ p9; omega)]
      have h0 : ((wc.setCell ⟨p6, 3, none⟩ (.int .i64 (r + 1))).setCell ⟨p7, 4, none⟩ (.int .i64 (r + 1))).heap[p8]? = some (.cells #[.int .i64 k, .string (ba nm), .int .i64 no, .int .i64 pos, .int .i64 by_, .int .i64 fr, .int .i64 ev, .int .i64 ln] 33 (0, 0)) := by
        rw [Below.heap_setCell _ _ _ _ (by show p8 ≠ p7; omega)]
        rw [Below.heap_setCell _ _ _ _ (by show p8 ≠ p6; omega)]
        exact G8.out
      exact heap_setCell_same _ p8 2 _ _ _ h0
    have hz9 : wd.heap[p9]? = some (.cells #[.int .i64 k, .string (ba nm), .int .i64 no, .int .i64 pos, .int .i64 by_, .int .i64 fr, .int .i64 ev, .int .i64 (r + 1)] 33 (0, 0)) := by
      rw [← hwd]
      have h0 : (((wc.setCell ⟨p6, 3, none⟩ (.int .i64 (r + 1))).setCell ⟨p7, 4, none⟩ (.int .i64 (r + 1))).setCell ⟨p8, 2, none⟩ (.int .i64 (r + 1))).heap[p9]? = some (.cells #[.int .i64 k, .string (ba nm), .int .i64 no, .int .i64 pos, .int .i64 by_, .int .i64 fr, .int .i64 ev, .int .i64 ln] 33 (0, 0)) := by
        rw [Below.heap_setCell _ _ _ _ (by show p9 ≠ p8; omega)]
        rw [Below.heap_setCell _ _ _ _ (by show p9 ≠ p7; omega)]
        rw [Below.heap_setCell _ _ _ _ (by show p9 ≠ p6; omega)]
        exact G9.out
      exact heap_setCell_same _ p9 7 _ _ _ h0
    have hud : wd.heap[w.heap.size]? = some (.cells #[.int .i64 k, .string (ba nm), .int .i64 no, .int .i64 pos, .int .i64 by_, .int .i64 fr, .int .i64 ev, .int .i64 ln] 33 (0, 0)) := by
      rw [← hwd]
      rw [Below.heap_setCell _ _ _ _ (by show w.heap.size ≠ p9; omega)]
      rw [Below.heap_setCell _ _ _ _ (by show w.heap.size ≠ p8; omega)]
      rw [Below.heap_setCell _ _ _ _ (by show w.heap.size ≠ p7; omega)]
      rw [Below.heap_setCell _ _ _ _ (by show w.heap.size ≠ p6; omega)]
      exact HOW.out
    have HBD := Lib.hid (show Below w.heap.size w wd by rw [← hwd]; exact HB2.out.trans ((((HBW.out.mono (by exact Nat.le_refl _)).setCell (p := ⟨p6, 3, none⟩) (by show w.heap.size ≤ p6; omega) _).setCell (p := ⟨p7, 4, none⟩) (by show w.heap.size ≤ p7; omega) _).setCell (p := ⟨p8, 2, none⟩) (by show w.heap.size ≤ p8; omega) _ |>.setCell (p := ⟨p9, 7, none⟩) (by show w.heap.size ≤ p9; omega) _))
    rw [hwd]
    have H6 := Lib.hid hz6
    have H7 := Lib.hid hz7
    have H8 := Lib.hid hz8
    have H9 := Lib.hid hz9
    clear hwd hz7 hz8 hz9 G6 G7 G8 G9 HBW HOW HB2
    have a0 : wd.cell? ⟨p6, 0, none⟩ = some (.int .i64 k) := Lib.cell_of_heap hz6 0
    have a1 : wd.cell? ⟨p6, 1, none⟩ = some (.string (ba nm)) := Lib.cell_of_heap hz6 1
    have a2 : wd.cell? ⟨p6, 2, none⟩ = some (.int .i64 no) := Lib.cell_of_heap hz6 2
    have a3 : wd.cell? ⟨p6, 3, none⟩ = some (.int .i64 (r + 1)) := Lib.cell_of_heap hz6 3
    have a4 : wd.cell? ⟨p6, 4, none⟩ = some (.int .i64 by_) := Lib.cell_of_heap hz6 4
    have a5 : wd.cell? ⟨p6, 5, none⟩ = some (.int .i64 fr) := Lib.cell_of_heap hz6 5
    have a6 : wd.cell? ⟨p6, 6, none⟩ = some (.int .i64 ev) := Lib.cell_of_heap hz6 6
    have a7 : wd.cell? ⟨p6, 7, none⟩ = some (.int .i64 ln) := Lib.cell_of_heap hz6 7
    have x0 : wd.cell? ⟨w.heap.size, 0, none⟩ = some (.int .i64 k) := Lib.cell_of_heap hud 0
    clear hz6 hud
    go_wp2_with fail
    clear x0 a0 a1 a2 a3 a4 a5 a6 a7
    have hck := ucheck_any k nm no (r + 1) by_ fr ev ln wd hnm (HT.out.below HBD.out)
    obtain ⟨q6, hq6⟩ : ∃ q, checkU ⟨k, nm, no, (r + 1), by_, fr, ev, ln⟩ = q := ⟨_, rfl⟩
    have e6 : ((q6 == 0) == (k == 1)) = true := by
      have := A1.out
      rw [hq6] at this
      rw [beq_iff_eq, Bool.eq_iff_iff]
      simpa using this
    rw [hq6] at hck
    refine hck.mono ?_
    clear hck hq6
    rintro e we6 ⟨rfl, hbx⟩
    have H7' := Lib.hid ((hbx.block p7 (Array.getElem?_eq_some_iff.1 H7.out).1).trans H7.out)
    have H8' := Lib.hid ((hbx.block p8 (Array.getElem?_eq_some_iff.1 H8.out).1).trans H8.out)
    have H9' := Lib.hid ((hbx.block p9 (Array.getElem?_eq_some_iff.1 H9.out).1).trans H9.out)
    have HBD' := Lib.hid (HBD.out.trans (hbx.mono HBD.out.size))
    clear hbx HBD H6 H7 H8 H9
    have HBD := HBD'
    have H7 := H7'
    have H8 := H8'
    have H9 := H9'
    clear HBD' H7' H8' H9'
    have a0 : we6.cell? ⟨p7, 0, none⟩ = some (.int .i64 k) := Lib.cell_of_heap H7.out 0
    have a1 : we6.cell? ⟨p7, 1, none⟩ = some (.string (ba nm)) := Lib.cell_of_heap H7.out 1
    have a2 : we6.cell? ⟨p7, 2, none⟩ = some (.int .i64 no) := Lib.cell_of_heap H7.out 2
    have a3 : we6.cell? ⟨p7, 3, none⟩ = some (.int .i64 pos) := Lib.cell_of_heap H7.out 3
    have a4 : we6.cell? ⟨p7, 4, none⟩ = some (.int .i64 (r + 1)) := Lib.cell_of_heap H7.out 4
    have a5 : we6.cell? ⟨p7, 5, none⟩ = some (.int .i64 fr) := Lib.cell_of_heap H7.out 5
    have a6 : we6.cell? ⟨p7, 6, none⟩ = some (.int .i64 ev) := Lib.cell_of_heap H7.out 6
    have a7 : we6.cell? ⟨p7, 7, none⟩ = some (.int .i64 ln) := Lib.cell_of_heap H7.out 7
    go_wp2_with fail
    clear a0 a1 a2 a3 a4 a5 a6 a7
    have hck := ucheck_any k nm no pos (r + 1) fr ev ln we6 hnm (HT.out.below HBD.out)
    obtain ⟨q7, hq7⟩ : ∃ q, checkU ⟨k, nm, no, pos, (r + 1), fr, ev, ln⟩ = q := ⟨_, rfl⟩
    have e7 : ((q7 == 0) == (k == 1)) = true := by
      have := A2.out
      rw [hq7] at this
      rw [beq_iff_eq, Bool.eq_iff_iff]
      simpa using this
    rw [hq7] at hck
    refine hck.mono ?_
    clear hck hq7
    rintro e we7 ⟨rfl, hbx⟩
    have H8' := Lib.hid ((hbx.block p8 (Array.getElem?_eq_some_iff.1 H8.out).1).trans H8.out)
    have H9' := Lib.hid ((hbx.block p9 (Array.getElem?_eq_some_iff.1 H9.out).1).trans H9.out)
    have HBD' := Lib.hid (HBD.out.trans (hbx.mono HBD.out.size))
    clear hbx HBD H7 H8 H9
    have HBD := HBD'
    have H8 := H8'
    have H9 := H9'
    clear HBD' H8' H9'
    have a0 : we7.cell? ⟨p8, 0, none⟩ = some (.int .i64 k) := Lib.cell_of_heap H8.out 0
    have a1 : we7.cell? ⟨p8, 1, none⟩ = some (.string (ba nm)) := Lib.cell_of_heap H8.out 1
    have a2 : we7.cell? ⟨p8, 2, none⟩ = some (.int .i64 (r + 1)) := Lib.cell_of_heap H8.out 2
    have a3 : we7.cell? ⟨p8, 3, none⟩ = some (.int .i64 pos) := Lib.cell_of_heap H8.out 3
    have a4 : we7.cell? ⟨p8, 4, none⟩ = some (.int .i64 by_) := Lib.cell_of_heap H8.out 4
    have a5 : we7.cell? ⟨p8, 5, none⟩ = some (.int .i64 fr) := Lib.cell_of_heap H8.out 5
    have a6 : we7.cell? ⟨p8, 6, none⟩ = some (.int .i64 ev) := Lib.cell_of_heap H8.out 6
    have a7 : we7.cell? ⟨p8, 7, none⟩ = some (.int .i64 ln) := Lib.cell_of_heap H8.out 7
    go_wp2_with fail
    clear a0 a1 a2 a3 a4 a5 a6 a7
    have hck := ucheck_any k nm (r + 1) pos by_ fr ev ln we7 hnm (HT.out.below HBD.out)
    obtain ⟨q8, hq8⟩ : ∃ q, checkU ⟨k, nm, (r + 1), pos, by_, fr, ev, ln⟩ = q := ⟨_, rfl⟩
    have e8 : ((q8 == 0) == decide (k ≤ 3)) = true := by
      have := A3.out
      rw [hq8] at this
      rw [beq_iff_eq, Bool.eq_iff_iff]
      simpa using this
    rw [hq8] at hck
    refine hck.mono ?_
    clear hck hq8
    rintro e we8 ⟨rfl, hbx⟩
    have H9' := Lib.hid ((hbx.block p9 (Array.getElem?_eq_some_iff.1 H9.out).1).trans H9.out)
    have HBD' := Lib.hid (HBD.out.trans (hbx.mono HBD.out.size))
    clear hbx HBD H8 H9
    have HBD := HBD'
    have H9 := H9'
    clear HBD' H9'
    have a0 : we8.cell? ⟨p9, 0, none⟩ = some (.int .i64 k) := Lib.cell_of_heap H9.out 0
    have a1 : we8.cell? ⟨p9, 1, none⟩ = some (.string (ba nm)) := Lib.cell_of_heap H9.out 1
    have a2 : we8.cell? ⟨p9, 2, none⟩ = some (.int .i64 no) := Lib.cell_of_heap H9.out 2
    have a3 : we8.cell? ⟨p9, 3, none⟩ = some (.int .i64 pos) := Lib.cell_of_heap H9.out 3
    have a4 : we8.cell? ⟨p9, 4, none⟩ = some (.int .i64 by_) := Lib.cell_of_heap H9.out 4
    have a5 : we8.cell? ⟨p9, 5, none⟩ = some (.int .i64 fr) := Lib.cell_of_heap H9.out 5
    have a6 : we8.cell? ⟨p9, 6, none⟩ = some (.int .i64 ev) := Lib.cell_of_heap H9.out 6
    have a7 : we8.cell? ⟨p9, 7, none⟩ = some (.int .i64 (r + 1)) := Lib.cell_of_heap H9.out 7
    go_wp2_with fail
    clear a0 a1 a2 a3 a4 a5 a6 a7
    have hck := ucheck_any k nm no pos by_ fr ev (r + 1) we8 hnm (HT.out.below HBD.out)
    obtain ⟨q9, hq9⟩ : ∃ q, checkU ⟨k, nm, no, pos, by_, fr, ev, (r + 1)⟩ = q := ⟨_, rfl⟩
    have e9 : ((q9 == 0) == !decide (k ≤ 3)) = true := by
      have := A4.out
      rw [hq9] at this
      rw [beq_iff_eq, Bool.eq_iff_iff]
      simpa using this
    rw [hq9] at hck
    refine hck.mono ?_
    clear hck hq9
    rintro e we9 ⟨rfl, hbx⟩
    have HBD' := Lib.hid (HBD.out.trans (hbx.mono HBD.out.size))
    clear hbx HBD H9
    have HBD := HBD'
    clear HBD' 
    go_wp2_with fail
    go_ret
    exact ⟨rfl, HBD.out⟩
end Go.Proofs.YtlclkeihkkpdbaaDoor
