/- The walks of slices.Equal, slices.Clone at uint64; of bitset.Set's Same, Clone, with, Or, And, Minus. -/
import Derived.Test.YtaaladekamfpnaaDoorBc
namespace Go.Proofs.YtaaladekamfpnaaDoor
open Go.RowKit Bs

/-- It returns v, and only draws. -/
def Quiet (v : Value) (w : World) (e : Ending) (w' : World) : Prop := e = .returned v ∧ ∃ n, w' = w.drewN n
theorem take_succ_eq {α : Type} (l : List α) (k : Nat) (h : k < l.length) : l.take (k + 1) = l.take k ++ [l[k]] := by rw [List.take_succ_eq_append_getElem h]
def SameRel {α : Type} (la lb : List α) (w : World) (s : Value) (wr : World) : Prop := ∃ k n : Nat, k ≤ la.length ∧ s = .int .i64 k ∧ la.take k = lb.take k ∧ wr = w.drewN n
theorem same_ne {α : Type} {la lb : List α} {k : Nat} (h1 : k < la.length) (h2 : k < lb.length) (h : la[k] ≠ lb[k]) : la ≠ lb := by
  rintro rfl
  exact h rfl
theorem same_eq {α : Type} {la lb : List α} (hl : la.length = lb.length) (h : la.take la.length = lb.take la.length) : la = lb := by
  rw [List.take_of_length_le (Nat.le_refl _), List.take_of_length_le (by omega)] at h
  exact h
theorem same_step {α : Type} {la lb : List α} {k : Nat} (h1 : k < la.length) (h2 : k < lb.length) (h : la.take k = lb.take k) (he : la[k] = lb[k]) : la.take (k + 1) = lb.take (k + 1) := by
  rw [take_succ_eq la k h1, take_succ_eq lb k h2, h, he]

set_option maxHeartbeats 1000000 in
theorem equal_any (w : World) (lo hi lo' hi' : Nat) (va vb : Value) (la lb : List Nat) (ha : Words w lo hi va la) (hb : Words w lo' hi' vb lb) (hsz : la.length ≤ 1048576) :
    Calls Tryd.prog 41 #[va, vb] w (Quiet (.bool (decide (la = lb))) w) := by
  have ha0 := ha
  have hb0 := hb
  obtain ⟨A, capa, rfl, ha1, ha2, _⟩ := ha
  obtain ⟨B, capb, e, hb1, hb2, _⟩ := hb
  by_cases hlen : la.length = lb.length
  · rw [← hlen] at e hb1
    subst e
    go_enter Tryd.func41, Tryd.ntmps41
    have Hlen := Lib.hid hlen
    clear hlen
    go_wp2
    go_loopw [5, 13] (fun _ s wr => SameRel la lb w s wr) (fun _ s _ => la.length - (intOf s).toNat)
    case atStart => exact ⟨0, 0, Nat.zero_le _, rfl, rfl, rfl⟩
    case round =>
      obtain ⟨k, n, hk, rfl, hkk, rfl⟩ := hrel
      by_cases hlt : k < la.length
      · have hlt2 : k < lb.length := by rw [← Hlen.out]; exact hlt
        obtain ⟨b1, rfl, _, _, hx, _⟩ := ha0.word hlt
        obtain ⟨b2, rfl, _, _, hy, _⟩ := hb0.word hlt2
        obtain ⟨x, Hx⟩ : ∃ x, Hid (la[k] = x) := ⟨_, Lib.hid rfl⟩
        obtain ⟨y, Hy⟩ : ∃ y, Hid (lb[k] = y) := ⟨_, Lib.hid rfl⟩
        rw [Hx.out] at hx
        rw [Hy.out] at hy
        have Hkk := Lib.hid hkk
        clear hkk
        have q1 : (0 : Int) ≤ (k : Int) := by omega
        have q2 : (k : Int) < (la.length : Int) := by omega
        by_cases hxy : x = y
        · have hb0 : ((x : Int) != (y : Int)) = false := by rw [hxy]; exact bne_self_eq_false _
          have Hxy := Lib.hid hxy
          clear hxy
          go_wp2
          go_quiet (fail)
          go_wp2
          go_roundw
          case rel => exact ⟨k + 1, _, by omega, by go_num, same_step hlt hlt2 Hkk.out (by rw [Hx.out, Hy.out]; exact Hxy.out), by first | rfl | exact World.drewN_drewN _ _ _⟩
          case measure => simp [intOf]; omega
        · have hb0 : ((x : Int) != (y : Int)) = true := by simp; omega
          have hne := same_ne hlt hlt2 (by rw [Hx.out, Hy.out]; exact hxy)
          have Hne := Lib.hid hne
          clear hne hxy
          go_wp2
          go_quiet (fail)
          go_wp2
          go_ret
          exact ⟨ret_bool (decide_eq_false Hne.out).symm, _, by first | rfl | exact World.drewN_drewN _ _ _⟩
      · have hkl : k = la.length := by omega
        subst hkl
        have Heq := Lib.hid (same_eq Hlen.out hkk)
        clear hkk
        go_wp2
        go_ret
        exact ⟨ret_bool (decide_eq_true Heq.out).symm, n, rfl⟩
  · have hne : la ≠ lb := fun h => hlen (by rw [h])
    rw [decide_eq_false hne]
    obtain rfl := e
    have hd : ((la.length : Int) != (lb.length : Int)) = true := by simp; omega
    clear hne hlen
    go_enter Tryd.func41, Tryd.ntmps41
    go_wp2
    go_ret
    exact ⟨rfl, 0, rfl⟩

theorem Words.sl {w : World} {lo hi : Nat} {v : Value} {ws : List Nat} (h : Words w lo hi v ws) (hh : hi ≤ w.heap.size) : Sl uc 1 w v ws (fun b => lo ≤ b ∧ b < hi) := by
  obtain ⟨A, cap, e, h1, h2, h3⟩ := h
  refine ⟨A, cap, e, h1, h2, fun hn => ?_⟩
  obtain ⟨g, cs, ea, hl, hu, hb, hc⟩ := h3 hn
  refine ⟨g, 0, ea, by omega, ⟨hl, hu⟩, fun i x hx j u hu' => ?_⟩
  match j, hu' with
  | 0, hu' =>
    simp [uc] at hu'
    subst hu'
    rw [cell_of_row w g _ cs _ (0, 0) hb]
    simpa using hc i x hx
theorem Words.of_own {w : World} {base : Nat} {v : Value} {ws : List Nat} (h : Ow uc 1 w base 62 v ws) : Words w base w.heap.size v ws := by
  have hs := h.sl uc_len
  have hcells := h
  rcases h.2 with ⟨rfl, h0⟩ | ⟨g, cap, cur, rfl, hb, hg, hn, hm, hsz, ht⟩
  · exact ⟨none, 0, by rw [h0], by omega, by omega, fun hp => by omega⟩
  · refine ⟨_, cap, rfl, hn, hm, fun hp => ⟨g, cur, rfl, hb, (Array.getElem?_eq_some_iff.1 hg).1, hg, fun i x hx => ?_⟩⟩
    obtain ⟨b, off, cap', e, _, _, _, _, hc⟩ := hs.form hp
    injection e with e _ _
    injection e with e
    injection e with e1 e2
    subst e1 e2
    have := hc i x hx 0 _ rfl
    rw [cell_of_row w g _ cur _ (0, 0) hg] at this
    simpa using this

set_option maxHeartbeats 400000 in
theorem sclone_any (w : World) (lo hi : Nat) (v : Value) (ws : List Nat) (h : Words w lo hi v ws) (hh : hi ≤ w.heap.size) (hsz : ws.length ≤ 1048576) :
    Calls Tryd.prog 44 #[v] w (Made uc 1 62 ws w) := by
  obtain ⟨i0, hi0, hz0, hz1, hz2⟩ := info_parts info_u64
  have hs := h.sl hh
  obtain ⟨A, cap, rfl, h1, h2, h3⟩ := h
  rcases A with _ | ad
  · have h0 : ws = [] := List.eq_nil_of_length_eq_zero (by
      rcases Nat.eq_zero_or_pos ws.length with h0 | h0
      · exact h0
      · obtain ⟨g, cs, e, _⟩ := h3 h0
        cases e)
    subst h0
    have hnil := fun wx => Lib.run_eql_slice_nil (P := Tryd.prog) wx 58 62 none 0 cap 0 0 Tryd.underlying58
    go_enter Tryd.func44, Tryd.ntmps44
    go_wp2
    go_ret
    exact ⟨_, rfl, Ow.nil_, Below.refl _ _⟩
  · have hz1' : ∀ o, (w.alloc o).heap.size = w.heap.size + 1 := fun o => by simp
    have hnil := fun wx => Lib.run_eql_slice_nil (P := Tryd.prog) wx 58 62 (some ad) ws.length cap 0 0 Tryd.underlying58
    go_enter Tryd.func44, Tryd.ntmps44
    go_wp2_with (at_builtin; refine wpList_append_sl _ rfl _ _ _ rfl w.heap.size 62 i0 _ 8 Tryd.underlying58 hi0 hz0 hz1 hz2 rfl (by omega) uc_len uc_one (.slice (some ⟨w.heap.size, 0, none⟩) 0 0) _ [] ws rfl rfl (Ow.empty (Nat.le_refl _)) (hs.alloc _) (by simp only [maxLen, List.length_nil]; omega) (by simp only [List.length_nil]; omega) (by rw [hz1']; omega) ?_; intro v1 w1 hown1 hg1 hmv1)
    go_ret
    exact ⟨v1, rfl, hown1, ((Below.refl _ _).alloc (Nat.le_refl _) _).grown hg1 (by rw [hz1']; omega) fun k hk => by
      have : w.heap.size = k := by simpa [Value.ownBlock] using hk
      omega⟩

/-- A set that was made: blocks of its own from the heap's end on. -/
def MadeSet (w : World) (l : List Bool) (e : Ending) (w' : World) : Prop :=
  ∃ p, e = .returned (.pointer (some ⟨p, 0, none⟩)) ∧ BSet w' w.heap.size w'.heap.size p l ∧ Below w.heap.size w w'
theorem BSet.made {w w1 : World} {A : Option Addr} {n c : Nat} {ws : List Nat} {l : List Bool} (ho : Ow uc 1 w1 w.heap.size 62 (.slice A n c) ws) (hb : Below w.heap.size w w1) (hw : Wd l ws) (hl : l.length ≤ 1048576) :
    BSet (w1.alloc (.cells #[.int .i64 (l.length : Int), .slice A n c] 60)) w.heap.size (w1.alloc (.cells #[.int .i64 (l.length : Int), .slice A n c] 60)).heap.size w1.heap.size l := by
  have e1 : (w1.alloc (.cells #[.int .i64 (l.length : Int), .slice A n c] 60)).heap.size = w1.heap.size + 1 := by simp
  refine ⟨_, ws, hb.size, by rw [e1]; omega, Nat.le_refl _, hl, heap_alloc_new _ _, ?_, hw⟩
  obtain ⟨A', c', e, h1, h2, h3⟩ := Words.of_own ho
  refine ⟨A', c', e, h1, h2, fun hp => ?_⟩
  obtain ⟨g, cs, ea, hl', hh, hbk, hc⟩ := h3 hp
  exact ⟨g, cs, ea, hl', by rw [e1]; omega, (Below.heap_alloc _ _ _ hh).trans hbk, hc⟩

set_option maxHeartbeats 1000000 in
theorem clone_any (w : World) (lo hi p : Nat) (l : List Bool) (h : BSet w lo hi p l) : Calls Tryd.prog 22 #[.pointer (some ⟨p, 0, none⟩)] w (MadeSet w l) := by
  obtain ⟨A, cap, ws, c0, c1, hc1, hc2, hwd, hW, hp1, hp2⟩ := h.open_
  have hle := h.le
  have hsz : ws.length ≤ 1048576 := by rw [hwd.1]; omega
  have hpl : p < w.heap.size := by have := h.hi_le; omega
  have Hwd := Lib.hid hwd
  have HC := Lib.hid (sclone_any (w := w.drew) (lo := lo) (hi := hi) (v := .slice A ws.length cap) (ws := ws) hW h.hi_le hsz)
  clear hwd
  go_enter Tryd.func22, Tryd.ntmps22
  go_wp2
  go_region_held3 (fun w' => w'.cell? ⟨p, 0, none⟩ = some (.int .i64 (l.length : Int)) ∧ w'.cell? ⟨p, 1, none⟩ = some (.slice A ws.length cap))
    (first | go_keep | exact ⟨(hb1.cell (p := ⟨p, 0, none⟩) hpl).trans c0, (hb1.cell (p := ⟨p, 1, none⟩) hpl).trans c1⟩)
    ((go_at_call 44; refine HC.out.mono ?_; rintro e w1 ⟨v1, rfl, ho1, hb1⟩; obtain ⟨A1, cp1, rfl, hd1, hd2⟩ := ho1.shape; dsimp only))
  go_wp2
  go_ret
  have hb : Below w.heap.size w w1 := ⟨hb1.os, hb1.tape, hb1.output, hb1.size, hb1.block⟩
  exact ⟨w1.heap.size, rfl, BSet.made ho1 hb Hwd.out hle, hb.alloc hb.size _⟩
set_option maxHeartbeats 400000 in
theorem clone_nil (w : World) : Calls Tryd.prog 22 #[.pointer none] w fun e w' => e = .returned (.pointer none) ∧ w = w' := by
  go_enter Tryd.func22, Tryd.ntmps22
  go_wp2
  go_ret
  exact ⟨rfl, rfl⟩

/-! Same -/
theorem quiet_any_left {P : Program} {f : FuncId} {args : Array Value} {w : World} {v : Value} (h : ∀ n, Calls P f args (w.drewN n) (Quiet v (w.drewN n))) (n : Nat) : Calls P f args (w.drewN n) fun e w'' => e = .returned v ∧ ∃ m, w'' = w.drewN m :=
  (h n).mono fun _ _ ⟨he, m, hm⟩ => ⟨he, n + m, by rw [hm]; first | rfl | exact World.drewN_drewN _ _ _⟩
set_option maxHeartbeats 1000000 in
theorem setSame_any (w : World) (lo hi p lo' hi' p' : Nat) (l m : List Bool) (h : BSet w lo hi p l) (k : BSet w lo' hi' p' m) :
    Calls Tryd.prog 19 #[.pointer (some ⟨p, 0, none⟩), .pointer (some ⟨p', 0, none⟩)] w (Quiet (.bool (decide (l = m))) w) := by
  obtain ⟨A, cap, ws, c0, c1, hc1, hc2, hwd, hW, hp1, hp2⟩ := h.open_
  obtain ⟨B, cap', us, d0, d1, hd1, hd2, hud, hU, hq1, hq2⟩ := k.open_
  have hle := h.le
  have hsz : ws.length ≤ 1048576 := by rw [hwd.1]; omega
  by_cases hlm : l.length = m.length
  · have hq : ((l.length : Int) == (m.length : Int)) = true := beq_iff_eq.2 (by omega)
    have HC := Lib.hid (fun n => equal_any (w.drewN n) lo hi lo' hi' (.slice A ws.length cap) (.slice B us.length cap') ws us hW hU hsz)
    have HE := Lib.hid (show decide (ws = us) = decide (l = m) from decide_eq_decide.2 (hwd.eq_iff hud hlm))
    rw [HE.out] at HC
    clear hlm hwd hud
    go_enter Tryd.func19, Tryd.ntmps19
    go_wp2
    go_quiet ((go_at_call 41; exact quiet_any_left HC.out _))
    go_wp2
    go_ret
    exact ⟨rfl, _, rfl⟩
  · have hq : ((l.length : Int) == (m.length : Int)) = false := beq_eq_false_iff_ne.2 (by omega)
    have hne : decide (l = m) = false := decide_eq_false (fun e => hlm (by rw [e]))
    rw [hne]
    clear hlm hwd hud hne
    go_enter Tryd.func19, Tryd.ntmps19
    go_wp2
    go_quiet (fail)
    go_wp2
    go_ret
    exact ⟨rfl, _, rfl⟩
set_option maxHeartbeats 400000 in
theorem setSame_nil_nil (w : World) : Calls Tryd.prog 19 #[.pointer none, .pointer none] w fun e w' => e = .returned (.bool true) ∧ w = w' := by
  go_enter Tryd.func19, Tryd.ntmps19
  go_wp2
  go_ret
  exact ⟨rfl, rfl⟩
set_option maxHeartbeats 400000 in
theorem setSame_set_nil (w : World) (p : Nat) : Calls Tryd.prog 19 #[.pointer (some ⟨p, 0, none⟩), .pointer none] w fun e w' => e = .returned (.bool false) ∧ w = w' := by
  go_enter Tryd.func19, Tryd.ntmps19
  go_wp2
  go_ret
  exact ⟨rfl, rfl⟩

/-! with -/
/-- Words after k rounds. -/
def mix (G : Nat → Nat → Nat) (ws us : List Nat) (k : Nat) : List Nat := (List.zipWith G ws us).take k ++ ws.drop k
theorem mix_zero (G : Nat → Nat → Nat) (ws us : List Nat) : mix G ws us 0 = ws := rfl
theorem mix_length {G : Nat → Nat → Nat} {ws us : List Nat} (h : ws.length = us.length) (k : Nat) (hk : k ≤ ws.length) : (mix G ws us k).length = ws.length := by
  unfold mix
  rw [List.length_append, List.length_take, List.length_zipWith, List.length_drop]; omega
theorem mix_at {G : Nat → Nat → Nat} {ws us : List Nat} (h : ws.length = us.length) {k : Nat} (hk : k < ws.length) : (mix G ws us k)[k]? = some ws[k] := by
  unfold mix
  have hl : ((List.zipWith G ws us).take k).length = k := by rw [List.length_take, List.length_zipWith]; omega
  rw [List.getElem?_append_right (by omega), hl, Nat.sub_self, List.getElem?_drop, Nat.add_zero, List.getElem?_eq_getElem hk]
theorem mix_set {G : Nat → Nat → Nat} {ws us : List Nat} (h : ws.length = us.length) {k : Nat} (hk : k < ws.length) : (mix G ws us k).set k (G ws[k] (us[k]'(by omega))) = mix G ws us (k + 1) := by
  have hl : ((List.zipWith G ws us).take k).length = k := by rw [List.length_take, List.length_zipWith]; omega
  have hz : k < (List.zipWith G ws us).length := by rw [List.length_zipWith]; omega
  unfold mix
  rw [List.set_append_right _ _ (by omega), hl, Nat.sub_self, take_succ_eq _ k hz, List.drop_eq_getElem_cons hk, List.set_cons_zero, List.getElem_zipWith, List.append_assoc]
  rfl
theorem mix_end {G : Nat → Nat → Nat} {ws us : List Nat} (h : ws.length = us.length) : mix G ws us ws.length = List.zipWith G ws us := by
  unfold mix
  rw [List.drop_length, List.append_nil, List.take_of_length_le (by rw [List.length_zipWith]; omega)]
theorem Words.store {w : World} {lo hi g n cap : Nat} {ws : List Nat} (h : Words w lo hi (.slice (some ⟨g, 0, none⟩) n cap) ws) {k : Nat} (hk : k < ws.length) (y : Nat) :
    Words (w.setCell ⟨g, k, none⟩ (.int .u64 (y : Int))) lo hi (.slice (some ⟨g, 0, none⟩) n cap) (ws.set k y) := by
  obtain ⟨A, cap', e, h1, h2, h3⟩ := h
  obtain ⟨g', cs, ea, hl, hh, hbk, hc⟩ := h3 (by omega)
  rw [ea] at e
  injection e with e1 e2 e3
  injection e1 with e1
  injection e1 with e1
  subst e1
  refine ⟨_, cap, by rw [List.length_set, e2], by rw [List.length_set, e3]; exact h1, by rw [e3]; exact h2, fun _ => ⟨g, cs.setIfInBounds k (.int .u64 (y : Int)), rfl, hl, hh, ?_, fun j x hx => ?_⟩⟩
  · simp [World.setCell, Array.getElem?_modify, hbk]
  · rw [List.getElem?_set] at hx
    rw [Array.getElem?_setIfInBounds]
    by_cases he : k = j
    · subst he
      rw [if_pos rfl, if_pos hk] at hx
      have hlt := (Array.getElem?_eq_some_iff.1 (hc _ _ (List.getElem?_eq_getElem hk))).1
      rw [if_pos rfl, if_pos hlt]
      injection hx with hx
      rw [hx]
    · rw [if_neg he] at hx
      rw [if_neg he]
      exact hc j x hx
end Go.Proofs.YtaaladekamfpnaaDoor
