/- The walk of lex.All. -/
import Derived.Test.YtlclkeihkkpdbaaGreatDoorLn
namespace Go.Proofs.YtlclkeihkkpdbaaGreatDoor
open Go.RowKit
/-- A fault as a value. -/
def FaultD.v (f : FaultD) : Value := .agg #[.int .i64 f.err, .int .i64 f.line, .int .i64 f.col]
def St.f : St → FuncId
  | .any => 51
  | .end_ => 61
  | .remark => 62
  | .word => 63
  | .number => 64
  | .none => 0
theorem step_any (w : World) (B b : Nat) (st : St) (c : Cur) (hst : st ≠ .none) (h : CurAt B b c w) (hBw : B ≤ w.heap.size) (hi : Inv st c) (hT : Tabs w) (hL : LibOk w) :
    Calls Tryz.prog st.f #[.pointer (some ⟨b, 0, none⟩)] w fun r w' => r = .returned (stepSt st c).1.v ∧ CurAt B b (stepSt st c).2 w' ∧ Below B w w' := by
  have ho : c.out.length ≤ 200000 := by have := hi.out; have := hi.ok.pos; have := hi.ok.size; omega
  cases st with
  | none => exact absurd rfl hst
  | any => exact any_any w B b c h hi.ok
  | end_ => exact end_any w B b c h hBw hi.ok ho
  | remark => exact remark_any w B b c h hi.ok
  | word => exact word_any w B b c h hBw hi.ok ho hT
  | number => exact number_any w B b c h hBw hi.ok ho hL
theorem LibOk.below' {B : Nat} {w0 w w' : World} (h0 : LibOk w0) (hB : w0.heap.size ≤ B) (h : LibOk w) (hb : Below B w w') : LibOk w' := by
  obtain ⟨t0, p0, h0⟩ := h0
  obtain ⟨te, pe, hc⟩ := h
  exact ⟨te, pe, (hb.cell (p := ⟨7, 0, none⟩) (Nat.lt_of_lt_of_le (World.block_lt_of_cell? w0 _ h0) hB)).trans hc⟩
theorem results_tc {P : Program} {fn : Func} {q p : Tmp} {ty : TypeId} (h : fn.results = #[.tmp q, .cell p ty]) (tmps : Array Value) (w : World) (g : Nat) (t : TypeId) (cs : Array Value) (fr : Nat × Nat) (d : TypeDesc)
    (hp : tmps.getD p undef = .pointer (some ⟨g, 0, none⟩)) (hg : w.heap[g]? = some (.cells cs t fr))
    (hu : P.underlying ty = some d) (hd : (match d with | .struct _ | .array _ _ => true | _ => false) = true) (hi : (P.info? ty).map (·.size) = some cs.size) :
    (results fn tmps).run P w = .ok (.tuple #[tmps.getD q undef, .agg cs]) w := by
  have hp' : tmps[p]?.getD undef = .pointer (some ⟨g, 0, none⟩) := by simpa using hp
  simp [results, h, hp', asAddr, run_loadVar_row w g t ty cs fr d hg hu hd hi]
theorem fn_no (W : World) : (Go.binOp BinOp.neq 100 .nilFunc .nilFunc).run Tryz.prog W = .ok (.bool false) W := by kernel_rfl
theorem fn_1 (W : World) : (Go.binOp BinOp.neq 100 (.func (.func 51) #[] #[]) .nilFunc).run Tryz.prog W = .ok (.bool true) W := by kernel_rfl
theorem fn_2 (W : World) : (Go.binOp BinOp.neq 100 (.func (.func 61) #[] #[]) .nilFunc).run Tryz.prog W = .ok (.bool true) W := by kernel_rfl
theorem fn_3 (W : World) : (Go.binOp BinOp.neq 100 (.func (.func 62) #[] #[]) .nilFunc).run Tryz.prog W = .ok (.bool true) W := by kernel_rfl
theorem fn_4 (W : World) : (Go.binOp BinOp.neq 100 (.func (.func 63) #[] #[]) .nilFunc).run Tryz.prog W = .ok (.bool true) W := by kernel_rfl
theorem fn_5 (W : World) : (Go.binOp BinOp.neq 100 (.func (.func 64) #[] #[]) .nilFunc).run Tryz.prog W = .ok (.bool true) W := by kernel_rfl
set_option maxHeartbeats 4000000 in
set_option maxRecDepth 100000 in
theorem all_ok (s : ByteArray) (w : World) (hs : s.size ≤ 65536) (hT : Tabs w) (hL : LibOk w) :
    Calls Tryz.prog 29 #[.string s] w fun r w' => ∃ v, r = .returned (.tuple #[v, (allD s).2.v]) ∧ Ow tkc 5 w' w.heap.size 51 v (allD s).1 ∧ Below w.heap.size w w' := by
  obtain ⟨w1, hw1⟩ : ∃ w1, (w.alloc (.cells #[.int .i64 0, .int .i64 0, .int .i64 0] 30)).alloc (.cells ((Cur.start s).cells (.slice none 0 0)) 98) = w1 := ⟨_, rfl⟩
  have hsz : (w.alloc (.cells #[.int .i64 0, .int .i64 0, .int .i64 0] 30)).heap.size = w.heap.size + 1 := by simp
  have hcur : CurAt (w.heap.size + 1) (w.heap.size + 1) (Cur.start s) w1 := ⟨Nat.le_refl _, .slice none 0 0, by rw [← hw1]; have := heap_alloc_new (w.alloc (.cells #[.int .i64 0, .int .i64 0, .int .i64 0] 30)) (.cells ((Cur.start s).cells (.slice none 0 0)) 98); rw [hsz] at this; exact this, Ow.nil_⟩
  have hq1 : w1.heap[w.heap.size]? = some (.cells #[.int .i64 0, .int .i64 0, .int .i64 0] 30 (0, 0)) := by rw [← hw1, heap_alloc_old _ _ (by simp)]; exact heap_alloc_new _ _
  have hb1 : Below w.heap.size w w1 := by rw [← hw1]; exact ((Below.refl _ _).alloc (Nat.le_refl _) _).alloc (by simp) _
  have hz1 : w.heap.size + 1 ≤ w1.heap.size := by rw [← hw1]; simp
  have HCUR := Lib.hid hcur
  have HQ1 := Lib.hid hq1
  have HB1 := Lib.hid hb1
  have HZ1 := Lib.hid hz1
  have HT1 := Lib.hid (hT.below hb1)
  have HL1 := Lib.hid (hL.below hb1)
  have HT0 := Lib.hid hT.2
  have HL0 := Lib.hid hL
  have HI := Lib.hid (start_inv s hs)
  have t1 : ¬ (65536 : Int) < (s.size : Int) := by omega
  have HS := Lib.hid hs
  unfold Cur.cells Cur.start at hw1
  clear hcur hq1 hb1 hT hL hsz hz1 hs
  go_enter Tryz.func29, Tryz.ntmps29
  go_wp2_with fail
  rw [show ((w.alloc (.cells #[.int .i64 0, .int .i64 0, .int .i64 0] 30)).alloc (.cells #[.string s, .int .i64 1, .int .i64 0, .int .i64 0, .slice none 0 0, .bool false, .int .i64 0, .int .i64 0, .int .i64 0] 98)) = w1 from hw1]
  clear hw1
  go_loopg [5] (2 * s.size + 2) (fun gg sv wr => ∃ (x : St) (c : Cur), sv = x.v ∧ CurAt (w.heap.size + 1) (w.heap.size + 1) c wr ∧ Below (w.heap.size + 1) w1 wr ∧ (x = .none ∨ Inv x c) ∧ mu x c ≤ gg ∧ ∀ n, mu x c ≤ n → (runs n x c).2 = lexed s)
  case atStart =>
    refine ⟨.any, Cur.start s, rfl, HCUR.out, Below.refl _ _, .inr HI.out, ?_, fun n hn => ?_⟩
    · show 2 * (s.size - 0) + 2 ≤ _; omega
    · exact congrArg Prod.snd (runs_stable (2 * s.size + 2) (.inr HI.out) (by show 2 * (s.size - 0) + 2 ≤ _; omega) n hn).1
  case round =>
    obtain ⟨x, c, rfl, hcu, hbw, hiv, hmu, hru⟩ := hrel
    by_cases hx : x = .none
    · subst hx
      have hlex : c = lexed s := hru 0 (Nat.le_refl _)
      subst hlex
      clear hru hmu hiv
      obtain ⟨_, v, hb, hov⟩ := hcu
      have hq := (hbw.block _ (Nat.lt_succ_self _)).trans HQ1.out
      have c6 : wr.cell? ⟨w.heap.size + 1, 6, none⟩ = some (.int .i64 (lexed s).err) := Lib.cell_of_heap hb 6
      have HB := Lib.hid hb
      have HQ := Lib.hid hq
      have HO := Lib.hid hov
      have HBW := Lib.hid (HB1.out.trans (hbw.mono (Nat.le_succ _)))
      have hne := ow_ne hov hq (by decide)
      have HNE := Lib.hid hne
      have hvn : St.none.v = .nilFunc := rfl
      have hfn := fn_no
      obtain ⟨Av, nv, cv, ev⟩ := ow_form hov
      subst ev
      have c4 : wr.cell? ⟨w.heap.size + 1, 4, none⟩ = some (.slice Av nv cv) := Lib.cell_of_heap hb 4
      have c7 : wr.cell? ⟨w.heap.size + 1, 7, none⟩ = some (.int .i64 (lexed s).fl) := Lib.cell_of_heap hb 7
      have c8 : wr.cell? ⟨w.heap.size + 1, 8, none⟩ = some (.int .i64 (lexed s).fc) := Lib.cell_of_heap hb 8
      have x0 : wr.cell? ⟨w.heap.size, 0, none⟩ = some (.int .i64 0) := Lib.cell_of_heap hq 0
      have x1 : wr.cell? ⟨w.heap.size, 1, none⟩ = some (.int .i64 0) := Lib.cell_of_heap hq 1
      have x2 : wr.cell? ⟨w.heap.size, 2, none⟩ = some (.int .i64 0) := Lib.cell_of_heap hq 2
      have f0 : wr.frozen? ⟨w.heap.size, 0, none⟩ = false := Lib.frozen_of_heap hq 0
      have f1 : wr.frozen? ⟨w.heap.size, 1, none⟩ = false := Lib.frozen_of_heap hq 1
      have f2 : wr.frozen? ⟨w.heap.size, 2, none⟩ = false := Lib.frozen_of_heap hq 2
      have hSw : wr.cell? ⟨w.heap.size + 1, 6, none⟩ = some (.int .i64 (lexed s).err) ∧ wr.cell? ⟨w.heap.size + 1, 7, none⟩ = some (.int .i64 (lexed s).fl) ∧ wr.cell? ⟨w.heap.size + 1, 8, none⟩ = some (.int .i64 (lexed s).fc) := ⟨c6, c7, c8⟩
      clear hb hq hov hbw hne
      by_cases he : (lexed s).err = 0
      · have e0 : ((lexed s).err == 0) = true := beq_iff_eq.2 he
        have e1 : ((lexed s).err != 0) = false := by rw [bne, e0]; rfl
        go_wp2_with fail
        clear c4 c6 c7 c8 x0 x1 x2 f0 f1 f2 hSw
        (try simp only [Exit.inBlock, Exit.then])
        have hA : allD s = ((lexed s).out, ⟨0, 0, 0⟩) := by unfold allD; rw [if_neg (Nat.not_lt.2 HS.out), if_neg (fun h => h he)]
        rw [hA]
        refine bodyPost_ret (results_tc rfl _ _ w.heap.size _ _ (0, 0) _ rfl (heap_setCell_same _ w.heap.size 2 _ _ (.int .i64 0) (heap_setCell_same _ w.heap.size 1 _ _ (.int .i64 0) (heap_setCell_same _ w.heap.size 0 _ _ (.int .i64 0) HQ.out))) Tryz.underlying30 rfl (by kernel_rfl)) rfl ⟨.slice Av nv cv, rfl, ?_, ?_⟩
        · exact (((HO.out.set HNE.out).set HNE.out).set HNE.out).lower (Nat.le_succ _)
        · exact ((HBW.out.setCell (p := ⟨w.heap.size, 0, none⟩) (Nat.le_refl _) _).setCell (p := ⟨w.heap.size, 1, none⟩) (Nat.le_refl _) _).setCell (p := ⟨w.heap.size, 2, none⟩) (Nat.le_refl _) _
      · have e0 : ((lexed s).err == 0) = false := beq_eq_false_iff_ne.2 he
        have e1 : ((lexed s).err != 0) = true := by rw [bne, e0]; rfl
        go_wp2_with fail
        refine wp_region_kinds (fun wy => wy.cell? ⟨w.heap.size + 1, 6, none⟩ = some (.int .i64 (lexed s).err) ∧ wy.cell? ⟨w.heap.size + 1, 7, none⟩ = some (.int .i64 (lexed s).fl) ∧ wy.cell? ⟨w.heap.size + 1, 8, none⟩ = some (.int .i64 (lexed s).fc)) [] [5] [3] [0, 1, 2, 4] [0, 1, 2, 3, 4, 5] (by kernel_rfl) (by kernel_rfl) (fun w n h => h) ?_
        repeat (first | (refine wpKind_free (v := ?_) (by rfl) rfl (by rfl) ?_ ?_; rotate_left 1; (focus (intro wy; go_simp; try with_reducible rfl; done)); try simp only [Act.put, List.setIfInBounds_toArray, List.set_cons_zero, List.set_cons_succ]) | (refine wpKind_held (v := ?_) (by rfl) rfl (by rfl) hSw ?_ ?_; rotate_left 1; (focus (intro wy hSy; obtain ⟨s0, s1, s2⟩ := hSy; go_simp; try with_reducible rfl; done)); try simp only [Act.put, List.setIfInBounds_toArray, List.set_cons_zero, List.set_cons_succ]))
        refine wpKind_serial (by rfl) rfl (fun n1 => ?_)
        go_wp2_with fail
        show wpKind _ _ _ _ _ _ _ _ _
        refine wpKind_nil fun n2 => ?_
        go_wp2_with fail
        clear c4 c6 c7 c8 x0 x1 x2 f0 f1 f2 hSw
        (try simp only [Exit.inBlock, Exit.then])
        have hA : allD s = ([], ⟨(lexed s).err, (lexed s).fl, (lexed s).fc⟩) := by unfold allD; rw [if_neg (Nat.not_lt.2 HS.out), if_pos he]
        rw [hA]
        refine bodyPost_ret (results_tc rfl _ _ w.heap.size _ _ (0, 0) _ rfl (heap_setCell_same _ w.heap.size 2 _ _ (.int .i64 (lexed s).fc) (heap_setCell_same _ w.heap.size 1 _ _ (.int .i64 (lexed s).fl) (heap_setCell_same _ w.heap.size 0 _ _ (.int .i64 (lexed s).err) HQ.out))) Tryz.underlying30 rfl (by kernel_rfl)) rfl ⟨.slice none 0 0, rfl, Ow.nil_, ?_⟩
        exact below_drewN ((((below_drewN HBW.out n1).setCell (p := ⟨w.heap.size, 0, none⟩) (Nat.le_refl _) _).setCell (p := ⟨w.heap.size, 1, none⟩) (Nat.le_refl _) _).setCell (p := ⟨w.heap.size, 2, none⟩) (Nat.le_refl _) _) n2
    · have hi : Inv x c := hiv.resolve_left hx
      have hcall := step_any wr _ _ x c hx hcu (Nat.le_trans HZ1.out hbw.size) hi (HT1.out.below' (Nat.lt_succ_of_lt HT0.out) hbw) (HL0.out.below' (Nat.le_succ _) HL1.out hbw)
      obtain ⟨h1, h2⟩ := step_inv hi hx
      have HBW := Lib.hid hbw
      have HI1 := Lib.hid h1
      have HRU := Lib.hid (show ∀ n, mu (stepSt x c).1 (stepSt x c).2 ≤ n → (runs n (stepSt x c).1 (stepSt x c).2).2 = lexed s from fun n hn => by
        have hn2 := (runs_stable (n + mu x c) h1 (by omega) n hn).1
        have h5 := hru (n + mu x c + 1) (by omega)
        simp only [runs, if_neg hx] at h5
        rw [hn2]; exact h5)
      obtain ⟨m9, hm9⟩ : ∃ m9, mu (stepSt x c).1 (stepSt x c).2 = m9 := ⟨_, rfl⟩
      rw [hm9] at h2
      have HM9 := Lib.hid hm9
      generalize mu x c = M9 at *
      generalize hsx : (stepSt x c).1 = x2 at *
      generalize hsc : (stepSt x c).2 = c2 at *
      have HCA := Lib.hid hcall
      clear hru hcall hbw h1 hiv hcu hi hm9 hsx hsc
      cases x with
      | none => exact absurd rfl hx
      | any =>
        have hfn := fn_1
        dsimp only [St.f] at HCA
        dsimp only [St.v]
        go_wp2_with fail
        refine HCA.out.mono ?_
        rintro e w3 ⟨rfl, hc3, hb3⟩
        have HC3 := Lib.hid hc3
        have HB3 := Lib.hid (HBW.out.trans hb3)
        clear hc3 hb3
        go_wp2_with fail
        go_roundg m9
        case measure => omega
        case rel => exact ⟨_, _, rfl, HC3.out, HB3.out, HI1.out, Nat.le_of_eq HM9.out, HRU.out⟩
      | end_ =>
        have hfn := fn_2
        dsimp only [St.f] at HCA
        dsimp only [St.v]
        go_wp2_with fail
        refine HCA.out.mono ?_
        rintro e w3 ⟨rfl, hc3, hb3⟩
        have HC3 := Lib.hid hc3
        have HB3 := Lib.hid (HBW.out.trans hb3)
        clear hc3 hb3
        go_wp2_with fail
        go_roundg m9
        case measure => omega
        case rel => exact ⟨_, _, rfl, HC3.out, HB3.out, HI1.out, Nat.le_of_eq HM9.out, HRU.out⟩
      | remark =>
        have hfn := fn_3
        dsimp only [St.f] at HCA
        dsimp only [St.v]
        go_wp2_with fail
        refine HCA.out.mono ?_
        rintro e w3 ⟨rfl, hc3, hb3⟩
        have HC3 := Lib.hid hc3
        have HB3 := Lib.hid (HBW.out.trans hb3)
        clear hc3 hb3
        go_wp2_with fail
        go_roundg m9
        case measure => omega
        case rel => exact ⟨_, _, rfl, HC3.out, HB3.out, HI1.out, Nat.le_of_eq HM9.out, HRU.out⟩
      | word =>
        have hfn := fn_4
        dsimp only [St.f] at HCA
        dsimp only [St.v]
        go_wp2_with fail
        refine HCA.out.mono ?_
        rintro e w3 ⟨rfl, hc3, hb3⟩
        have HC3 := Lib.hid hc3
        have HB3 := Lib.hid (HBW.out.trans hb3)
        clear hc3 hb3
        go_wp2_with fail
        go_roundg m9
        case measure => omega
        case rel => exact ⟨_, _, rfl, HC3.out, HB3.out, HI1.out, Nat.le_of_eq HM9.out, HRU.out⟩
      | number =>
        have hfn := fn_5
        dsimp only [St.f] at HCA
        dsimp only [St.v]
        go_wp2_with fail
        refine HCA.out.mono ?_
        rintro e w3 ⟨rfl, hc3, hb3⟩
        have HC3 := Lib.hid hc3
        have HB3 := Lib.hid (HBW.out.trans hb3)
        clear hc3 hb3
        go_wp2_with fail
        go_roundg m9
        case measure => omega
        case rel => exact ⟨_, _, rfl, HC3.out, HB3.out, HI1.out, Nat.le_of_eq HM9.out, HRU.out⟩
set_option maxHeartbeats 1000000 in
set_option maxRecDepth 100000 in
theorem all_big (s : ByteArray) (w : World) (hs : ¬ s.size ≤ 65536) :
    Calls Tryz.prog 29 #[.string s] w fun r w' => r = .returned (.tuple #[.slice none 0 0, (allD s).2.v]) ∧ Below w.heap.size w w' := by
  have hA : allD s = ([], ⟨3, 1, 1⟩) := by unfold allD; rw [if_pos (by omega)]
  rw [hA]
  have t1 : ¬ (s.size : Int) ≤ 65536 := by omega
  clear hA
  go_enter Tryz.func29, Tryz.ntmps29
  go_wp2_with fail
  (try simp only [Exit.inBlock, Exit.then])
  exact bodyPost_ret (results_tc rfl _ _ w.heap.size _ _ (0, 0) _ rfl (heap_alloc_new _ _) Tryz.underlying30 rfl (by kernel_rfl)) rfl ⟨rfl, (Below.refl _ _).alloc (Nat.le_refl _) _⟩
end Go.Proofs.YtlclkeihkkpdbaaGreatDoor
