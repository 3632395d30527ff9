/- The walk of lex.Lines. -/
import Derived.Test.YtongaakijljnaaaDoorLrg
import Derived.RangeFuncNested
import Derived.RangeFuncBound
import Derived.RangeFuncCalls
import Derived.WalkKit
import Derived.TacticsInMore
import Derived.LoopNIn
import Derived.LoopIn
namespace Go.Proofs.YtongaakijljnaaaDoor
open Go.RowKit
attribute [local go_sem] Oper.semAt_some
/-- Tokens, line by line; acc is of the first line. -/
def grpE : List TokD → List TokD → List (List TokD)
  | acc, [] => if acc = [] then [] else [acc]
  | acc, t :: l => if t.kind = 4 then (if acc = [] then [] else [acc]) ++ grpE [] l else grpE (acc ++ [t]) l
theorem grpE_cut : ∀ (l acc : List TokD), grpE acc l = (if acc ++ l.take (cutE l) = [] then [] else [acc ++ l.take (cutE l)]) ++ grpE [] (l.drop (cutE l + 1)) := by
  intro l
  induction l with
  | nil => intro acc; simp [grpE]
  | cons t l ih =>
    intro acc
    by_cases h4 : t.kind = 4
    · have e : cutE (t :: l) = 0 := by unfold cutE; rw [if_pos h4]
      rw [e, grpE, if_pos h4]
      simp
    · have e : cutE (t :: l) = cutE l + 1 := by rw [cutE, if_neg h4]
      rw [e, grpE, if_neg h4, ih, List.take_succ_cons, List.append_assoc, List.singleton_append, List.drop_succ_cons]
/-- A row of tokens as a value. -/
structure RowD where
  a : Option Addr
  cap : Nat
  l : List TokD
def RowD.v (r : RowD) : Value := .slice r.a r.l.length r.cap
def rwc (r : RowD) : List Value := [r.v]
theorem rwc_len : ∀ x, (rwc x).length = 1 := fun _ => rfl
theorem rwc_one : ∀ x, ∀ u ∈ rwc x, u.oneCell' = true := by intro x u hu; simp [rwc] at hu; subst hu; rfl
theorem Ow.keepB {α : Type} {c : α → List Value} {size base : Nat} {e : TypeId} {v : Value} {l : List α} {w w' : World} (h : Ow c size w base e v l) (hk : ∀ b, base ≤ b → b < w.heap.size → w'.heap[b]? = w.heap[b]?) : Ow c size w' base e v l := by
  refine ⟨h.1, ?_⟩
  rcases h.2 with h0 | ⟨g, cap, cur, rfl, h1, h2, h3⟩
  · exact .inl h0
  · exact .inr ⟨g, cap, cur, rfl, h1, (hk g h1 (Array.getElem?_eq_some_iff.1 h2).1).trans h2, h3⟩
/-- Rows of unlike types lie in unlike blocks. -/
theorem ow_apart {α β : Type} {c1 : α → List Value} {c2 : β → List Value} {s1 s2 B1 B2 : Nat} {e1 e2 : TypeId} {v1 v2 : Value} {l1 : List α} {l2 : List β} {w : World} (h1 : Ow c1 s1 w B1 e1 v1 l1) (h2 : Ow c2 s2 w B2 e2 v2 l2) (hne : e1 ≠ e2) : v1.ownBlock = none ∨ v1.ownBlock ≠ v2.ownBlock := by
  rcases h1.2 with ⟨rfl, _⟩ | ⟨g, cap, cur, rfl, _, hg, _⟩
  · exact .inl rfl
  · refine .inr fun h => ?_
    rcases h2.2 with ⟨rfl, _⟩ | ⟨g2, cap2, cur2, rfl, _, hg2, _⟩
    · cases h
    · have e : g = g2 := by simpa [Value.ownBlock] using h
      subst e
      rw [hg] at hg2
      injection hg2 with hg2
      injection hg2 with _ h3 _
      exact hne h3
/-- Lines' variable at block H, and its rows from block H + 4 on. -/
def LinesAt (H : Nat) (w0 : World) (s : List RowD) (W : World) : Prop :=
  Below H w0 W ∧ H + 4 ≤ W.heap.size ∧ (∃ v, W.heap[H]? = some (.cells #[v] 36 (0, 0)) ∧ Ow rwc 1 W (H + 4) 23 v s) ∧ ∀ r ∈ s, Ow tkc 5 W (H + 4) 31 r.v r.l
theorem LinesAt.keep {H : Nat} {w0 W W' : World} {s : List RowD} (h : LinesAt H w0 s W) (hb : Below H W W') (hk : ∀ b, b = H ∨ H + 4 ≤ b → b < W.heap.size → W'.heap[b]? = W.heap[b]?) : LinesAt H w0 s W' := by
  obtain ⟨h1, h2, ⟨v, h3, h4⟩, h5⟩ := h
  exact ⟨h1.trans hb, Nat.le_trans h2 hb.size, ⟨v, (hk H (.inl rfl) (by omega)).trans h3, h4.keepB fun b h6 h7 => hk b (.inr h6) h7⟩, fun r hr => (h5 r hr).keepB fun b h6 h7 => hk b (.inr h6) h7⟩
theorem LinesAt.below {H : Nat} {w0 W W' : World} {s : List RowD} (h : LinesAt H w0 s W) (hb : Below W.heap.size W W') : LinesAt H w0 s W' :=
  h.keep (hb.mono (by have := h.2.1; omega)) fun b _ hb2 => hb.block b hb2
theorem below_put {H : Nat} (W : World) (b : Nat) (o : Obj) (h : H ≤ b) : Below H W (W.putObj b o) :=
  ⟨rfl, rfl, rfl, by simp, fun k hk => World.putObj_heap_other (by omega)⟩
theorem LinesAt.put {H : Nat} {w0 W : World} {s : List RowD} (h : LinesAt H w0 s W) (b : Nat) (o : Obj) (hb : b = H + 2 ∨ b = H + 3) : LinesAt H w0 s (W.putObj b o) :=
  h.keep (below_put W b o (by omega)) fun k hk _ => World.putObj_heap_other (by omega)
theorem LinesAt.box {H : Nat} {w0 W : World} {s : List RowD} (h : LinesAt H w0 s W) (v : Value) : LinesAt H w0 s (W.setCell ⟨H + 1, 0, none⟩ v) :=
  h.keep ((Below.refl H W).setCell (p := ⟨H + 1, 0, none⟩) (Nat.le_succ _) v) fun k hk _ => Below.heap_setCell W ⟨H + 1, 0, none⟩ v k (by show k ≠ H + 1; omega)
def boxN (b : Nat) (W : World) : Nat := match W.cell? ⟨b, 0, none⟩ with | some (.slice _ n _) => n | _ => 0
theorem tail_rel (H : Nat) (w0 wz : World) (la : List TokD) {P : Nat → Prop} (o1 o2 : Obj) {k i m cap' cap'' ba oa : Nat} {s : List RowD} {A'' : Option Addr} {v : Value} (hm : la.length - k = m) (hk : k ≤ la.length) (hi : 0 < i) (him : i ≤ m) (hs : s.length ≤ k + i)
    (hg : s.map RowD.l ++ grpE [] (la.drop (k + i)) = grpE [] la) (hL : LinesAt H w0 s wz) (hb : wz.heap[H + 1]? = some (.cells #[v] 23 (0, 0))) (hsl : Sl tkc 5 w0 (.slice (some ⟨ba, oa, none⟩) m cap') (la.drop k) P)
    (hA : i < m → A'' = some ⟨ba, oa + i * 5, none⟩) (hc : m - i ≤ cap'') (hc2 : cap'' ≤ maxLen) (z1 : wz.heap[H + 2]? = some o1) (z2 : wz.heap[H + 3]? = some o2) :
    (∃ (k : Nat) (s : List RowD) (A' : Option Addr) (cap' : Nat), k ≤ la.length ∧ s.length ≤ k ∧ s.map RowD.l ++ grpE [] (la.drop k) = grpE [] la ∧ LinesAt H w0 s (wz.setCell ⟨H + 1, 0, none⟩ (.slice A'' (m - i) cap'')) ∧ (wz.setCell ⟨H + 1, 0, none⟩ (.slice A'' (m - i) cap'')).heap[H + 1]? = some (.cells #[.slice A' (la.length - k) cap'] 23 (0, 0)) ∧ Sl tkc 5 w0 (.slice A' (la.length - k) cap') (la.drop k) P ∧ (wz.setCell ⟨H + 1, 0, none⟩ (.slice A'' (m - i) cap'')).heap[H + 2]? = some o1 ∧ (wz.setCell ⟨H + 1, 0, none⟩ (.slice A'' (m - i) cap'')).heap[H + 3]? = some o2) ∧
    boxN (H + 1) (wz.setCell ⟨H + 1, 0, none⟩ (.slice A'' (m - i) cap'')) < m := by
  have hbn := heap_setCell_same wz (H + 1) 0 _ _ (.slice A'' (m - i) cap'') hb
  have hle : la.length - (k + i) = m - i := by omega
  refine ⟨⟨k + i, s, A'', cap'', by omega, hs, hg, hL.box _, by rw [hle]; exact hbn, ?_, ?_, ?_⟩, ?_⟩
  · have h9 := Sl.part (A' := A'') (cap' := cap'') hsl him (by rw [List.length_drop]; omega) (fun h => by rw [hA h]; simp [Addr.add]; omega) hc hc2
    rw [List.take_of_length_le (by rw [List.length_drop]; omega), List.drop_drop] at h9
    rw [hle]; exact h9
  · rw [Below.heap_setCell _ _ _ _ (by show H + 2 ≠ H + 1; omega)]; exact z1
  · rw [Below.heap_setCell _ _ _ _ (by show H + 3 ≠ H + 1; omega)]; exact z2
  · have : (wz.setCell ⟨H + 1, 0, none⟩ (.slice A'' (m - i) cap'')).cell? ⟨H + 1, 0, none⟩ = some (.slice A'' (m - i) cap'') := Lib.cell_of_heap hbn 0
    unfold boxN
    rw [this]
    show m - i < m
    omega
set_option maxHeartbeats 4000000 in
set_option maxRecDepth 100000 in
theorem iter_any (H : Nat) (w0 w : World) (va : Value) (la : List TokD) {P : Nat → Prop} (hH : w0.heap.size = H) (hs : Sl tkc 5 w0 va la P) (hn : la.length ≤ 1048576) (hw : w.heap.size = H + 2)
    (hb : Below H w0 w) (hout : w.heap[H]? = some (.cells #[.slice none 0 0] 36 (0, 0))) (hbox : w.heap[H + 1]? = some (.cells #[va] 23 (0, 0))) (o1 o2 : Obj)
    (hY : ∀ (s : List RowD) (x : RowD) (W : World), LinesAt H w0 s W → Ow tkc 5 W (H + 4) 31 x.v x.l → s.length < la.length → W.heap[H + 2]? = some o1 → W.heap[H + 3]? = some o2 →
      YieldAt Fence.wide 1 Tryd.prog (H + 3) #[x.v] W fun e W' => e = .returned (.bool true) ∧ LinesAt H w0 (s ++ [x]) W' ∧ ∀ b, H + 1 ≤ b → b ≤ H + 3 → W'.heap[b]? = W.heap[b]?) :
    CallsIn Fence.wide 2 Tryd.prog 37 (#[.func (.yield (H + 3)) #[] #[]] ++ #[.pointer (some ⟨H + 1, 0, none⟩)]) ((w.alloc o1).alloc o2) fun e W' => (∃ v, e = .returned v) ∧ ∃ s : List RowD, s.map RowD.l = grpE [] la ∧ LinesAt H w0 s W' ∧ W'.heap[H + 2]? = some o1 ∧ W'.heap[H + 3]? = some o2 := by
  obtain ⟨A, cap, rfl, hc1, hc2⟩ := hs.shape
  have e1 : ((w.alloc o1).alloc o2).heap[H + 2]? = some o1 := by rw [← hw]; exact (Below.heap_alloc _ _ _ (by simp)).trans (World.alloc_heap_new w o1)
  have e2 : ((w.alloc o1).alloc o2).heap[H + 3]? = some o2 := by have := World.alloc_heap_new (w.alloc o1) o2; rwa [World.size_alloc, hw] at this
  have hbe : Below H w0 ((w.alloc o1).alloc o2) := (hb.alloc (by omega) _).alloc (by simp; omega) _
  have hx0 : ((w.alloc o1).alloc o2).heap[H + 1]? = some (.cells #[.slice A la.length cap] 23 (0, 0)) := by rw [Below.heap_alloc _ _ _ (by simp; omega), Below.heap_alloc _ _ _ (by omega)]; exact hbox
  have hL0 : LinesAt H w0 [] ((w.alloc o1).alloc o2) := ⟨hbe, by simp; omega, ⟨_, by rw [Below.heap_alloc _ _ _ (by simp; omega), Below.heap_alloc _ _ _ (by omega)]; exact hout, Ow.nil_⟩, fun r hr => by cases hr⟩
  obtain ⟨w1, hw1⟩ : ∃ w1, (w.alloc o1).alloc o2 = w1 := ⟨_, rfl⟩
  rw [hw1] at e1 e2 hbe hx0 hL0 ⊢
  have HS := Lib.hid hs
  have HY := Lib.hid hY
  have HH := Lib.hid hH
  clear hw1 hout hbox hb hw w hs hY hbe hH
  refine callsIn_of_wp Tryd.func37 rfl trivial ?_ rfl
  simp only [Tryd.ntmps37, List.size_toArray, List.length_cons, List.length_nil, Nat.reduceAdd, Nat.reduceSub, Array.replicate_succ, Array.replicate_zero, List.push_toArray, List.append_toArray, List.nil_append, List.cons_append]
  gi_wp2_with fail
  gi_loopw [] (fun (wr : World) => ∃ (k : Nat) (s : List RowD) (A' : Option Addr) (cap' : Nat), k ≤ la.length ∧ s.length ≤ k ∧ s.map RowD.l ++ grpE [] (la.drop k) = grpE [] la ∧ LinesAt H w0 s wr ∧ wr.heap[H + 1]? = some (.cells #[.slice A' (la.length - k) cap'] 23 (0, 0)) ∧ Sl tkc 5 w0 (.slice A' (la.length - k) cap') (la.drop k) P ∧ wr.heap[H + 2]? = some o1 ∧ wr.heap[H + 3]? = some o2) (fun (wr : World) => boxN (H + 1) wr)
  case atStart => exact ⟨0, [], A, cap, Nat.zero_le _, Nat.le_refl _, rfl, hL0, hx0, HS.out, e1, e2⟩
  case round =>
    obtain ⟨k, s, A', cap', hk, hsk, hgr, hL, hbx, hsl, k1, k2⟩ := hrel
    obtain ⟨m, hm⟩ : ∃ m, la.length - k = m := ⟨_, rfl⟩
    rw [hm] at hbx hsl
    have hlm : (la.drop k).length = m := by rw [List.length_drop, hm]
    have x0 : wr.cell? ⟨H + 1, 0, none⟩ = some (.slice A' m cap') := Lib.cell_of_heap hbx 0
    have hms : boxN (H + 1) wr = m := by unfold boxN; rw [x0]
    rw [hms]
    have HL := Lib.hid hL
    have HGR := Lib.hid hgr
    have HSL := Lib.hid hsl
    have HK1 := Lib.hid k1
    have HK2 := Lib.hid k2
    have HBX := Lib.hid hbx
    clear hms hL hgr hsl k1 k2 hbx hL0 hx0 e1 e2
    by_cases hm0 : 0 < m
    · have q0 : (0 : Int) < (m : Int) := by omega
      have hcut := grpE_cut (la.drop k) []
      have hcle := cutE_le (la.drop k)
      obtain ⟨c, hc⟩ : ∃ c, cutE (la.drop k) = c := ⟨_, rfl⟩
      have hidx : idxE (la.drop k) = if c < m then (c : Int) else -1 := by unfold idxE; rw [hc, hlm]
      obtain ⟨ba, oa, cc, e9, hcc, hcm, _, _, _⟩ := HSL.out.form (by omega)
      rw [hlm] at e9 hcle hcc
      injection e9 with e9 _ e10
      subst e9 e10
      have hmax : cap' ≤ maxLen := by assumption
      simp only [hc, List.nil_append, List.drop_drop] at hcut hcle
      have HCUT := Lib.hid hcut
      have HIDX := Lib.hid hidx
      clear hcut hidx hc
      gi_wp2_with fail
      refine ⟨trivial, (callsIn_wide.2 (idx_any _ _ wr (HSL.out.below_ (HH.out.symm ▸ HL.out.1)) (by omega))).mono ?_⟩
      rintro e w2 ⟨rfl, hb2⟩
      rw [HIDX.out]
      have h3 := (Array.getElem?_eq_some_iff.1 HK2.out).1
      have hL2 := HL.out.below hb2
      have hX2 := Lib.hid ((hb2.block (H + 1) (by omega)).trans HBX.out)
      have hx2 : w2.cell? ⟨H + 1, 0, none⟩ = some (.slice (some ⟨ba, oa, none⟩) m cap') := (hb2.cell (p := ⟨H + 1, 0, none⟩) (World.block_lt_of_cell? wr _ x0)).trans x0
      have hf2 : w2.frozen? ⟨H + 1, 0, none⟩ = false := Lib.frozen_of_heap hX2.out 0
      have f1 := Lib.hid ((hb2.block (H + 2) (by omega)).trans HK1.out)
      have f2 := Lib.hid ((hb2.block (H + 3) (by omega)).trans HK2.out)
      clear hb2 x0 HIDX HL HK1 HK2 h3 q0
      by_cases hcm : c < m
      · rw [if_pos hcm]
        have t0 : ¬ (c : Int) < 0 := by omega
        by_cases hc0 : c = 0
        · subst hc0
          have hmin : min (1 : Int) (m : Int) = ((1 : Nat) : Int) := by omega
          have HL2 := Lib.hid hL2
          have hg2 : s.map RowD.l ++ grpE [] (la.drop (k + 1)) = grpE [] la := by rw [← HGR.out, HCUT.out]; rfl
          have HG2 := Lib.hid hg2
          clear hg2 hL2
          gi_wp2_with fail
          refine ⟨trivial, ?_⟩
          gi_wp2_with fail
          refine ⟨fun _ _ => trivial, ?_⟩
          gi_wp2_with fail
          exact tail_rel H w0 w2 la o1 o2 hm hk (Nat.le_refl 1) (by omega) (by omega) HG2.out HL2.out hX2.out HSL.out (fun h => if_neg (by omega)) (by omega) (by omega) f1.out f2.out
        · have t1 : (0 : Int) < (c : Int) := by omega
          have hmin : min ((c : Int) + 1) (m : Int) = ((c + 1 : Nat) : Int) := by omega
          gi_wp2_with fail
          have hsl2 : Sl tkc 5 w2 (.slice (some ⟨ba, oa, none⟩) c cap') ((la.drop k).take c) P := by
            have h9 := Sl.part (A' := some ⟨ba, oa, none⟩) (cap' := cap') (HSL.out.below_ (HH.out.symm ▸ hL2.1)) (Nat.zero_le c) (by omega) (fun _ => by simp [Addr.add]) (by omega) hmax
            simpa using h9
          have htk : ((la.drop k).take c).length = c := by rw [List.length_take, hlm]; omega
          have HG2 := Lib.hid (fun A9 c9 => show (s ++ [RowD.mk A9 c9 ((la.drop k).take c)]).map RowD.l ++ grpE [] (la.drop (k + (c + 1))) = grpE [] la by
            rw [List.map_append, ← HGR.out, HCUT.out, if_neg (by intro h; rw [h] at htk; simp at htk; omega), List.append_assoc]; rfl)
          refine ⟨trivial, (callsIn_wide.2 (clone_any w2 _ _ hsl2 (by omega) (by omega))).mono ?_⟩
          rintro e w3 ⟨v3, rfl, ho3, hb3⟩
          have hL3 := hL2.below hb3
          have hx3 := (hb3.cell (p := ⟨H + 1, 0, none⟩) (World.block_lt_of_cell? w2 _ hx2)).trans hx2
          have hz2 := hL2.2.1
          have hX3 := Lib.hid ((hb3.block (H + 1) (by omega)).trans hX2.out)
          have g1 := Lib.hid ((hb3.block (H + 2) (by omega)).trans f1.out)
          have g2 := Lib.hid ((hb3.block (H + 3) (by omega)).trans f2.out)
          obtain ⟨A3, c3, rfl, _, _⟩ := ho3.shape
          obtain ⟨fn, tmps, assign, body, hy, hR⟩ := HY.out s ⟨A3, c3, (la.drop k).take c⟩ w3 hL3 (ho3.lower hz2) (by omega) g1.out g2.out
          dsimp only [RowD.v] at hy
          rw [htk] at hy
          clear hL2 hx2 hf2 f1 f2 hb3 hsl2 ho3 hz2 hL3
          gi_wp2_with fail
          refine hR.mono ?_
          rintro e w4 ⟨rfl, hL4, hk4⟩
          have hX4 := Lib.hid ((hk4 (H + 1) (Nat.le_refl _) (by omega)).trans hX3.out)
          have z1 := Lib.hid ((hk4 (H + 2) (by omega) (by omega)).trans g1.out)
          have z2 := Lib.hid ((hk4 (H + 3) (by omega) (by omega)).trans g2.out)
          have HL4 := Lib.hid hL4
          have hf4 : w4.frozen? ⟨H + 1, 0, none⟩ = false := Lib.frozen_of_heap hX4.out 0
          have hx4 := (World.cell?_of_block (a := ⟨H + 1, 0, none⟩) (hk4 (H + 1) (Nat.le_refl _) (by omega))).trans hx3
          clear hx3 hy hR hL4 hk4 g1 g2
          gi_wp2_with fail
          exact tail_rel H w0 w4 la o1 o2 hm hk (Nat.succ_pos c) (by omega) (by rw [List.length_append]; show s.length + 1 ≤ _; omega) (HG2.out _ _) HL4.out hX4.out HSL.out (fun h => if_neg (by omega)) (by omega) (by omega) z1.out z2.out
      · rw [if_neg hcm]
        obtain rfl : c = m := by omega
        have t1 : (0 : Int) < (c : Int) := by omega
        have hmin : min ((c : Int) + 1) (c : Int) = (c : Int) := by omega
        gi_wp2_with fail
        have hsl2 : Sl tkc 5 w2 (.slice (some ⟨ba, oa, none⟩) c cap') ((la.drop k).take c) P := by
          have h9 := Sl.part (A' := some ⟨ba, oa, none⟩) (cap' := cap') (HSL.out.below_ (HH.out.symm ▸ hL2.1)) (Nat.zero_le c) (by omega) (fun _ => by simp [Addr.add]) (by omega) hmax
          simpa using h9
        have htk : ((la.drop k).take c).length = c := by rw [List.length_take, hlm]; omega
        have HG2 := Lib.hid (fun A9 c9 => show (s ++ [RowD.mk A9 c9 ((la.drop k).take c)]).map RowD.l ++ grpE [] (la.drop (k + (c + 1))) = grpE [] la by
          rw [List.map_append, ← HGR.out, HCUT.out, if_neg (by intro h; rw [h] at htk; simp at htk; omega), List.append_assoc]; rfl)
        refine ⟨trivial, (callsIn_wide.2 (clone_any w2 _ _ hsl2 (by omega) (by omega))).mono ?_⟩
        rintro e w3 ⟨v3, rfl, ho3, hb3⟩
        have hL3 := hL2.below hb3
        have hx3 := (hb3.cell (p := ⟨H + 1, 0, none⟩) (World.block_lt_of_cell? w2 _ hx2)).trans hx2
        have hz2 := hL2.2.1
        have hX3 := Lib.hid ((hb3.block (H + 1) (by omega)).trans hX2.out)
        have g1 := Lib.hid ((hb3.block (H + 2) (by omega)).trans f1.out)
        have g2 := Lib.hid ((hb3.block (H + 3) (by omega)).trans f2.out)
        obtain ⟨A3, c3, rfl, _, _⟩ := ho3.shape
        obtain ⟨fn, tmps, assign, body, hy, hR⟩ := HY.out s ⟨A3, c3, (la.drop k).take c⟩ w3 hL3 (ho3.lower hz2) (by omega) g1.out g2.out
        dsimp only [RowD.v] at hy
        rw [htk] at hy
        clear hL2 hx2 hf2 f1 f2 hb3 hsl2 ho3 hz2 hL3
        gi_wp2_with fail
        refine hR.mono ?_
        rintro e w4 ⟨rfl, hL4, hk4⟩
        have hX4 := Lib.hid ((hk4 (H + 1) (Nat.le_refl _) (by omega)).trans hX3.out)
        have z1 := Lib.hid ((hk4 (H + 2) (by omega) (by omega)).trans g1.out)
        have z2 := Lib.hid ((hk4 (H + 3) (by omega) (by omega)).trans g2.out)
        have HL4 := Lib.hid hL4
        have hf4 : w4.frozen? ⟨H + 1, 0, none⟩ = false := Lib.frozen_of_heap hX4.out 0
        have hx4 := (World.cell?_of_block (a := ⟨H + 1, 0, none⟩) (hk4 (H + 1) (Nat.le_refl _) (by omega))).trans hx3
        clear hx3 hy hR hL4 hk4 g1 g2
        gi_wp2_with fail
        have R := tail_rel H w0 w4 la o1 o2 (A'' := if cap' = c then some ⟨ba, oa, none⟩ else some ⟨ba, oa + c * 5, none⟩) (cap'' := cap' - c) hm hk hm0 (Nat.le_refl c) (by rw [List.length_append]; show s.length + 1 ≤ _; omega) (by have h9 := HG2.out A3 c3; have e1 : la.drop (k + (c + 1)) = [] := List.drop_of_length_le (by omega); have e2 : la.drop (k + c) = [] := List.drop_of_length_le (by omega); rw [e1] at h9; rw [e2]; exact h9) HL4.out hX4.out HSL.out (fun h => absurd h (Nat.lt_irrefl _)) (by omega) (by omega) z1.out z2.out
        rw [Nat.sub_self] at R
        exact R
    · have hm1 : m = 0 := by omega
      subst hm1
      have q0 : ¬ ((0 : Nat) : Int) > 0 := by omega
      gi_wp2_with fail
      go_end0
      refine ⟨⟨_, rfl⟩, s, ?_, HL.out, HK1.out, HK2.out⟩
      have := HGR.out
      rw [List.eq_nil_of_length_eq_zero hlm, grpE, if_pos rfl, List.append_nil] at this
      exact this
set_option maxHeartbeats 1000000 in
theorem linesF_any (A : Option Addr) (n cap : Nat) (w : World) : Calls Tryd.prog 20 #[.slice A n cap] w fun e w' => e = .returned (.func (.func 37) #[] #[.pointer (some ⟨w.heap.size, 0, none⟩)]) ∧ w' = w.alloc (.cells #[.slice A n cap] 23) := by
  go_enter Tryd.func20, Tryd.ntmps20
  go_wp2_with fail
  go_ret
  exact ⟨rfl, rfl⟩
theorem body_at {W w1 : World} {h : Nat} {v u : Value} {t e : TypeId} {o : Obj} {l : List RowD} (hv : W.heap[h]? = some (.cells #[u] t (0, 0))) (hov : Ow rwc 1 W (h + 4) e v l) (hg : (W.alloc o).grownBy w1 v.ownBlock) (hz : h + 4 ≤ W.heap.size) :
    w1.heap[h]? = some (.cells #[u] t (0, 0)) ∧ w1.cell? ⟨h, 0, none⟩ = some u ∧ w1.frozen? ⟨h, 0, none⟩ = false := by
  have h1 : w1.heap[h]? = some (.cells #[u] t (0, 0)) := (hg.block h (by simp; omega) (fun e => by have := (hov.lt e.symm).1; omega)).trans ((Below.heap_alloc _ _ _ (by omega)).trans hv)
  exact ⟨h1, Lib.cell_of_heap h1 0, Lib.frozen_of_heap h1 0⟩
theorem info_row : (Tryd.prog.info? 23).map (fun i => (i.zero, i.size, i.bytes)) = some (some (.slice none 0 0), 1, 24) := by kernel_rfl
set_option maxHeartbeats 4000000 in
set_option maxRecDepth 100000 in
theorem lines_any (w : World) (va : Value) (la : List TokD) {P : Nat → Prop} (hs : Sl tkc 5 w va la P) (hn : la.length ≤ 1048576) :
    Calls Tryd.prog 13 #[va] w fun e w' => ∃ v, ∃ s : List RowD, e = .returned v ∧ s.map RowD.l = grpE [] la ∧ Below w.heap.size w w' ∧ Ow rwc 1 w' w.heap.size 23 v s ∧ ∀ r ∈ s, Ow tkc 5 w' w.heap.size 31 r.v r.l := by
  obtain ⟨i0, hi0, hz0, hz1, hz2'⟩ := info_parts info_row
  obtain ⟨A, cap, rfl, hc1, hc2⟩ := hs.shape
  have HS := Lib.hid hs
  clear hs
  refine (callsIn_wide (n := 3)).1 ?_
  refine callsIn_of_wp_marks Tryd.func13 rfl trivial ?_ rfl
  simp only [Tryd.ntmps13, List.size_toArray, List.length_cons, List.length_nil, Nat.reduceAdd, Nat.reduceSub, Array.replicate_succ, Array.replicate_zero, List.push_toArray, List.append_toArray, List.nil_append, List.cons_append]
  refine wpIn_wide.2 ?_
  go_wp2_with fail
  refine (linesF_any A la.length cap _).mono ?_
  rintro e w2 ⟨rfl, hw2⟩
  have hz : (w.alloc (.cells #[.slice none 0 0] 36)).heap.size = w.heap.size + 1 := by simp
  rw [hz]
  have hz2 : w2.heap.size = w.heap.size + 2 := by rw [hw2]; simp
  have hb2 : Below w.heap.size w w2 := by rw [hw2]; exact ((Below.refl _ _).alloc (Nat.le_refl _) _).alloc (by simp) _
  have ho2 : w2.heap[w.heap.size]? = some (.cells #[.slice none 0 0] 36 (0, 0)) := by rw [hw2, Below.heap_alloc _ _ _ (by simp)]; exact World.alloc_heap_new w _
  have hx2 : w2.heap[w.heap.size + 1]? = some (.cells #[.slice A la.length cap] 23 (0, 0)) := by
    rw [hw2]; have := World.alloc_heap_new (w.alloc (.cells #[.slice none 0 0] 36)) (.cells #[.slice A la.length cap] 23); rwa [hz] at this
  clear hw2 hz
  go_wp2_with fail
  refine wpIn_wide.1 (wp_rangeFunc_state (n := 1) (gf := 37) (lb := #[.pointer (some ⟨w.heap.size + 1, 0, none⟩)]) rfl (enters_of Tryd.func37 (by kernel_rfl) rfl)
    (fun x : RowD => #[x.v]) (fun _ => rfl) (LinesAt w.heap.size w) (fun x W => Ow tkc 5 W (w.heap.size + 4) 31 x.v x.l) (fun s => s.map RowD.l = grpE [] la) la.length (w.heap.size + 1) (by omega) ?hI ?hG
    (fun x => { tmps := #[.slice A la.length cap, undef, .slice none 0 0, .pointer (some ⟨w.heap.size, 0, none⟩), x.v, .slice A la.length cap, .func (.func 37) #[] #[.pointer (some ⟨w.heap.size + 1, 0, none⟩)], x.v, undef, undef, undef, undef, undef], defers := [] }) ?assign ?body ?iter ?done)
  case hI => exact fun s W b o hb h => h.put b o (by omega)
  case hG => exact fun x W b o hb h => h.keepB fun k hk _ => World.putObj_heap_other (by omega)
  case iter =>
    intro o1 o2 hY
    rw [hz2] at hY ⊢
    exact iter_any w.heap.size w w2 _ la rfl HS.out hn hz2 hb2 ho2 hx2 o1 o2 hY
  case assign =>
    intro x W K hK
    gi_wp2_with fail
    exact hK
  case body =>
    rintro s ⟨xa, xc, xl⟩ W hL hGx hN hsz
    dsimp only [RowD.v]
    rw [hz2] at hsz ⊢
    obtain ⟨hb, hsz4, ⟨v, hv, hov⟩, hr⟩ := hL
    obtain ⟨Av, nv, cv, rfl⟩ := ow_form hov
    have x0 : W.cell? ⟨w.heap.size, 0, none⟩ = some (.slice Av nv cv) := Lib.cell_of_heap hv 0
    have HV := Lib.hid hv
    have HOV := Lib.hid hov
    have HB := Lib.hid hb
    have HR := Lib.hid hr
    have HGX := Lib.hid hGx
    have hsz5 := hsz4
    clear hb hr hv hov hGx
    gi_wp2_with (gi_at_builtin; refine wpListIn_append_sl _ rfl _ _ _ rfl (w.heap.size + 4) 23 i0 _ 24 Tryd.underlying36 hi0 hz0 hz1 hz2' (by rfl) (by omega) rwc_len rwc_one _ _ s [⟨xa, xc, xl⟩] rfl rfl (HOV.out.alloc _) (Sl.newl [⟨xa, xc, xl⟩] rwc_len rfl rfl (by show 1 ≤ maxLen; decide) rfl) (by simp only [maxLen, List.length_cons, List.length_nil]; omega) (by simp only [List.length_cons, List.length_nil]; omega) (by simp; omega) ?_; intro v1 w1 hown1 hg1 hmv1; obtain ⟨A1, n1, cv1, rfl⟩ := ow_form hown1; have hv1 := Lib.hid (body_at HV.out HOV.out hg1 hsz5); have hx1 := hv1.out.2.1; have hf1 := hv1.out.2.2)
    have hrow : ∀ k, (Value.slice Av nv cv).ownBlock = some k → w.heap.size + 4 ≤ k := fun k hk => (HOV.out.lt hk).1
    have hgo : ∀ b, b < W.heap.size → (Value.slice Av nv cv).ownBlock ≠ some b → w1.heap[b]? = W.heap[b]? := fun b hb hne => (hg1.block b (by simp; omega) hne.symm).trans (Below.heap_alloc _ _ _ hb)
    have hsz1 : W.heap.size ≤ w1.heap.size := Nat.le_trans (by simp) hg1.size
    have hbz : Below w.heap.size w w1 := (HB.out.alloc (by omega) _).grown hg1 (by simp; omega) fun k hk => by have := hrow k hk; omega
    refine ⟨fun b hb1 hb2 => ?_, hbz.setCell (p := ⟨w.heap.size, 0, none⟩) (Nat.le_refl _) _, ?_, ⟨_, heap_setCell_same _ w.heap.size 0 _ _ _ hv1.out.1, ?_⟩, ?_⟩
    · rw [Below.heap_setCell _ _ _ _ (by show b ≠ w.heap.size; omega)]
      exact hgo b (by omega) fun h => by have := hrow b h; omega
    · show _ ≤ (World.setCell _ _ _).heap.size
      have := ((Below.refl 0 w1).setCell (p := ⟨w.heap.size, 0, none⟩) (Nat.zero_le _) (.slice A1 n1 cv1)).size
      omega
    · exact hown1.keepB fun k hk _ => Below.heap_setCell _ _ _ _ (by show k ≠ w.heap.size; omega)
    · intro r hr
      refine Ow.keepB (w := w1) ?_ fun k hk _ => Below.heap_setCell _ _ _ _ (by show k ≠ w.heap.size; omega)
      rcases List.mem_append.1 hr with hr | hr
      · exact ((HR.out r hr).alloc _).kept hg1 (ow_apart (HR.out r hr) HOV.out (by decide))
      · rw [List.mem_singleton] at hr
        subst hr
        exact (HGX.out.alloc _).kept hg1 (ow_apart HGX.out HOV.out (by decide))
  case done =>
    intro s W hS hL hD
    obtain ⟨hb, hsz4, ⟨v, hv, hov⟩, hr⟩ := hL
    obtain ⟨Av, nv, cv, rfl⟩ := ow_form hov
    have x0 : W.cell? ⟨w.heap.size, 0, none⟩ = some (.slice Av nv cv) := Lib.cell_of_heap hv 0
    go_wp2_with fail
    refine ⟨by simp, .inl ⟨_, _, rfl, run_takeDeferred hD, ?_⟩⟩
    have hbp : Below w.heap.size W (W.putObj w2.heap.size (.deferred none)) := below_put W _ _ (by omega)
    have hlt : ∀ k, w.heap.size + 4 ≤ k → k ≠ w2.heap.size := fun k hk => by omega
    exact ⟨_, results_tmp rfl _ _ _, _, s, rfl, hS, hb.trans hbp, (hov.keepB fun k hk _ => World.putObj_heap_other (hlt k hk)).lower (by omega), fun r hr2 => ((hr r hr2).keepB fun k hk _ => World.putObj_heap_other (hlt k hk)).lower (by omega)⟩
end Go.Proofs.YtongaakijljnaaaDoor
