/- The walks of timetableref03.Set's Clear, Clone, Same; of bitset.Set's Clear, and Next below 0. -/
import Derived.Test.YtaaladekamfpnaaDoorBu
import Derived.Lib.SliceRun
namespace Go.Proofs.YtaaladekamfpnaaDoor
open Go.RowKit Bs

theorem RSet.thaw {w : World} {p g : Nat} {l : List Bool} (h : RSet w p g l) : w.frozen? ⟨p, 0, none⟩ = false := by
  obtain ⟨cap, cs, h1, _⟩ := h
  simp [World.frozen?, h1]
def RCleared (w : World) (p : Nat) (l : List Bool) (e : Ending) (w' : World) : Prop :=
  e = .returned (.tuple #[]) ∧ ∃ g', w.heap.size ≤ g' ∧ RSet w' p g' (List.replicate l.length false) ∧ w.grownBy w' (some p)
set_option maxHeartbeats 1000000 in
theorem rclear_any (w : World) (p g : Nat) (l : List Bool) (h : RSet w p g l) : Calls Tryd.prog 32 #[.pointer (some ⟨p, 0, none⟩)] w (RCleared w p l) := by
  obtain ⟨cap, c0, hc1, hc2⟩ := h.open_
  have hle := h.le
  have hpl := h.lt.1
  obtain ⟨i0, hi0, hz0, hz1, hz2⟩ := info_parts info_bool
  have hmk := run_make_fresh (Pr := Tryd.prog) 54 4 i0 _ 1 1 Tryd.underlying54 hi0 hz0 hz1 hz2 l.length l.length (by omega) (by omega) (by omega)
  have c1 := h.thaw
  go_enter Tryd.func32, Tryd.ntmps32
  go_wp2
  go_end0
  have e1 : ∀ o, (w.alloc o).heap.size = w.heap.size + 1 := by simp
  refine ⟨rfl, w.heap.size, Nat.le_refl _, ⟨l.length, madeCells (Value.bool false).cells (l.length * 1), ?_, by rw [List.length_replicate]; exact Nat.le_refl _, by unfold maxLen; omega, by rw [List.length_replicate]; exact hle, ?_, fresh_false⟩, ?_⟩
  · obtain ⟨_, cs, h1, _⟩ := h
    rw [List.length_replicate]
    refine (Below.heap_alloc _ _ p (by simpa [World.setCell] using hpl)).trans ?_
    simp [World.setCell, Array.getElem?_modify, h1]
  · have e2 : (w.setCell ⟨p, 0, none⟩ (Value.slice (some ⟨w.heap.size, 0, none⟩) l.length l.length)).heap.size = w.heap.size := by simp [World.setCell]
    have := heap_alloc_new (w.setCell ⟨p, 0, none⟩ (Value.slice (some ⟨w.heap.size, 0, none⟩) l.length l.length)) (freshRow (.bool false) 1 l.length 4)
    rw [e2] at this
    exact this
  · exact ⟨rfl, rfl, rfl, by simp [World.setCell], fun k hk hn => (Below.heap_alloc _ _ k (by simpa [World.setCell] using hk)).trans (Below.heap_setCell w _ _ k (by intro e; exact hn (by rw [e])))⟩

set_option maxHeartbeats 2000000 in
theorem next_below (w : World) (lo hi p : Nat) (l : List Bool) (i0 : Int) (h00 : i0 < 0) (h : BSet w lo hi p l) (hT : Tab w) :
    Calls Tryd.prog 17 #[.pointer (some ⟨p, 0, none⟩), .int .i64 i0] w fun e w' => e = .returned (.int .i64 (next l 0)) ∧ w = w' := by
  obtain ⟨A, cap, ws, c0, c1, hc1, hc2, hwd, hW, _, _⟩ := h.open_
  by_cases hi_ : 0 < l.length
  · have hk := hwd.idx hi_
    rw [show 0 / 64 = 0 from rfl] at hk
    obtain ⟨g, rfl, _, _, cw, _⟩ := hW.word hk
    have hn : ws.length ≤ 16384 := by rw [hwd.1]; have := h.le; omega
    have hlen := Lib.hid hwd.1
    have HB := Lib.hid hwd.2
    have HT := Lib.hid hT
    have d2 : decide (l.length ≤ 0) = false := decide_eq_false (by omega)
    have q2 : (0 : Int) < (l.length : Int) := by omega
    have q3 : l ≠ [] := List.ne_nil_of_length_pos hi_
    have q4 : (0 : Int) < (ws.length : Int) := by omega
    have hx := hwd.lt hk
    have H0 := Lib.hid ((hwd.2 _ hk).2)
    generalize hxx : ws[0] = x at *
    have e3 : IntKind.u64.wrap (x : Int) = (x : Int) := wrap_nat x (by omega)
    obtain ⟨i, hi1⟩ : ∃ i : Nat, i = 0 := ⟨_, rfl⟩
    have hQ : ∀ (e : Ending) (w' : World), (e = .returned (.int .i64 (next l i)) ∧ w = w') → (e = .returned (.int .i64 (next l 0)) ∧ w = w') := fun e w' hh => by rw [hi1] at hh; exact hh
    refine Calls.mono ?_ hQ
    have Hi := Lib.hid hi1
    clear hwd hxx hT hi1 hQ
    go_enter Tryd.func17, Tryd.ntmps17
    go_wp2
    go_loop [5, 6] (fun s5 s6 => NxRel l ws i s5 s6) (fun _ s6 => ws.length - (intOf s6).toNat)
    case atStart =>
      have hz := Hi.out
      refine ⟨0, x, hk, by omega, rfl, rfl, hx, fun m hm => ?_, fun m a b => by omega⟩
      have h1 := H0.out m hm
      rw [h1, decide_eq_true (show i ≤ 64 * 0 + m by omega), Bool.and_true]
    case round =>
      obtain ⟨k, y, hk, hik, rfl, rfl, hy, h1, h2⟩ := hrel
      have q7 : (k : Int) < (ws.length : Int) := by omega
      by_cases h0 : y = 0
      · subst h0
        have HM := Lib.hid (nx_more h1 h2)
        clear h1 h2
        by_cases hend : k + 1 = ws.length
        · have hr : next l i = -1 := (Nx.eq (.inl ⟨rfl, fun m hm => by
            by_cases hml : m < l.length
            · exact HM.out m hm (by have := hlen.out; omega)
            · exact at_ge (by omega)⟩)).symm
          have hq : (((k : Int) + 1) == (ws.length : Int)) = true := beq_iff_eq.2 (by omega)
          have Hr := Lib.hid hr
          clear hr hend
          go_wp2
          go_ret
          exact ⟨ret_i64 Hr.out.symm, rfl⟩
        · have hk1 : k + 1 < ws.length := by omega
          have hq : (((k : Int) + 1) == (ws.length : Int)) = false := beq_eq_false_iff_ne.2 (by omega)
          obtain ⟨g', eg, _, _, cw', _⟩ := hW.word hk1
          injection eg with eg
          injection eg with eg
          subst eg
          have hb := HB.out (k + 1) hk1
          generalize ws[k + 1] = z at *
          have q8 : (k : Int) + 1 < (ws.length : Int) := by omega
          clear hend
          go_wp2
          go_round
          case rel => exact ⟨k + 1, z, hk1, by omega, rfl, by go_num, hb.1, fun m hm => by rw [hb.2 m hm, decide_eq_true (by omega), Bool.and_true], HM.out⟩
          case measure => simp [intOf]; omega
      · have hq : ((y : Int) != 0) = true := by simpa using h0
        have HR := Lib.hid (nx_hit h0 hy h1 h2)
        have c1 := (ctz_spec h0 hy).1
        clear h1 h2
        go_wp2_with (go_at_call 40; refine (tz64_any y hy h0 _ HT.out).mono ?_; rintro e w' ⟨rfl, rfl⟩)
        go_ret
        exact ⟨ret_i64 HR.out, rfl⟩
  · have hr : next l 0 = -1 := (Nx.eq (.inl ⟨rfl, fun k hk => at_ge (by omega)⟩)).symm
    rw [hr]
    obtain rfl : l = [] := List.eq_nil_of_length_eq_zero (by omega)
    clear hwd hW hi_ hr
    go_enter Tryd.func17, Tryd.ntmps17
    go_wp2
    go_ret
    exact ⟨rfl, rfl⟩
theorem next_int (w : World) (lo hi p : Nat) (l : List Bool) (i : Int) (h : BSet w lo hi p l) (hT : Tab w) :
    Calls Tryd.prog 17 #[.pointer (some ⟨p, 0, none⟩), .int .i64 i] w fun e w' => e = .returned (.int .i64 (next l i.toNat)) ∧ w = w' := by
  by_cases h0 : i < 0
  · have := next_below w lo hi p l i h0 h hT
    rwa [show i.toNat = 0 by omega]
  · obtain ⟨k, rfl⟩ := Int.eq_ofNat_of_zero_le (show 0 ≤ i by omega)
    exact next_any w lo hi p l k h hT

/-! Clear of a set. -/
theorem setCells_row {g : Nat} {t : TypeId} {fr : Nat × Nat} (x : Value) : ∀ (n o : Nat) (w : World) (cs : Array Value), w.heap[g]? = some (.cells cs t fr) →
    ∃ cs' : Array Value, (w.setCells g o (List.replicate n x)).heap[g]? = some (.cells cs' t fr) ∧ cs'.size = cs.size ∧ ∀ i, cs'[i]? = if o ≤ i ∧ i < o + n ∧ i < cs.size then some x else cs[i]?
  | 0, o, w, cs, h => ⟨cs, h, rfl, fun i => by rw [if_neg (by omega)]⟩
  | n + 1, o, w, cs, h => by
    have h' : (w.setCell ⟨g, o, none⟩ x).heap[g]? = some (.cells (cs.setIfInBounds o x) t fr) := by simp [World.setCell, Array.getElem?_modify, h]
    obtain ⟨cs', h1, h2, h3⟩ := setCells_row x n (o + 1) (w.setCell ⟨g, o, none⟩ x) _ h'
    refine ⟨cs', h1, h2.trans (by simp), fun i => ?_⟩
    rw [h3 i, Array.getElem?_setIfInBounds, Array.size_setIfInBounds]
    by_cases e : o = i
    · subst e
      rw [if_neg (by omega), if_pos rfl]
      by_cases hs : o < cs.size
      · rw [if_pos hs, if_pos (by omega)]
      · rw [if_neg hs, if_neg (by omega), Array.getElem?_eq_none (by omega)]
    · rw [if_neg e]
      by_cases hc : o + 1 ≤ i ∧ i < o + 1 + n ∧ i < cs.size
      · rw [if_pos hc, if_pos (by omega)]
      · rw [if_neg hc, if_neg (by omega)]
theorem setCells_chg {lo hi g : Nat} (h1 : lo ≤ g) (h2 : g < hi) (x : Value) : ∀ (n o : Nat) (w : World), Chg lo hi w (w.setCells g o (List.replicate n x))
  | 0, _, w => Chg.refl lo hi w
  | n + 1, o, w => (show Chg lo hi w (w.setCell ⟨g, o, none⟩ x) from ⟨rfl, rfl, rfl, by simp [World.setCell], fun b hb => Below.heap_setCell w _ _ b (by show b ≠ g; omega)⟩).trans (setCells_chg h1 h2 x n (o + 1) _)
theorem BSet.cleared {w : World} {lo hi p g n cap : Nat} {l : List Bool} {ws : List Nat} (h : BSet w lo hi p l) (c1 : w.cell? ⟨p, 1, none⟩ = some (.slice (some ⟨g, 0, none⟩) n cap)) (hwd : Wd l ws) (h0 : 0 < ws.length) :
    BSet (w.setCells g 0 (List.replicate ws.length (.int .u64 0))) lo hi p (List.replicate l.length false) ∧ Chg lo hi w (w.setCells g 0 (List.replicate ws.length (.int .u64 0))) := by
  obtain ⟨v, ws', h1, h2, h3, h4, h5, h6, h7⟩ := h
  have hv : v = .slice (some ⟨g, 0, none⟩) n cap := by
    rw [cell_of_row w p 1 _ _ (0, 0) h5] at c1
    simpa using c1
  have hw := hwd.uniq h7
  subst hw
  obtain ⟨A, cap', e, g1, g2, g3⟩ := h6
  obtain ⟨g', cs, ea, hl, hh, hbk, hc⟩ := g3 h0
  rw [e, ea] at hv
  injection hv with hv1 hv2 hv3
  injection hv1 with hv1
  injection hv1 with hv1
  subst hv1
  have hne : p < lo ∨ hi ≤ p ∨ p ≠ g' := by
    refine .inr (.inr ?_)
    rintro rfl
    rw [h5] at hbk
    injection hbk with hbk
    injection hbk with _ ht
    exact absurd ht (by decide)
  have hchg := setCells_chg hl hh (.int .u64 0) ws.length 0 w
  have hp : (w.setCells g' 0 (List.replicate ws.length (.int .u64 0))).heap[p]? = w.heap[p]? := (setCells_chg (Nat.le_refl g') (Nat.lt_succ_self g') (.int .u64 0) ws.length 0 w).block p (by omega)
  obtain ⟨cs', b1, b2, b3⟩ := setCells_row (.int .u64 0) ws.length 0 w cs hbk
  have hsz : ws.length = ((List.replicate l.length false).length + 63) / 64 := by rw [List.length_replicate]; exact hwd.1
  have hwn := Wd.new l.length
  rw [show (l.length + 63) / 64 = ws.length from hwd.1.symm] at hwn
  refine ⟨⟨v, List.replicate ws.length 0, h1, h2, by rw [hchg.size]; exact h3, by rw [List.length_replicate]; exact h4, ?_, ⟨A, cap', by rw [List.length_replicate]; exact e, by rw [List.length_replicate]; exact g1, g2, fun _ => ⟨g', cs', ea, hl, hh, b1, fun i x hx => ?_⟩⟩, hwn⟩, hchg⟩
  · rw [List.length_replicate]
    exact hp.trans h5
  · rw [List.getElem?_replicate] at hx
    split at hx
    · rename_i hi_
      injection hx with hx
      subst hx
      have := (Array.getElem?_eq_some_iff.1 (hc i _ (List.getElem?_eq_getElem hi_))).1
      rw [b3 i, if_pos (by omega)]
      rfl
    · cases hx
set_option maxHeartbeats 1000000 in
theorem setClear_any (w : World) (lo hi p : Nat) (l : List Bool) (h : BSet w lo hi p l) : Calls Tryd.prog 31 #[.pointer (some ⟨p, 0, none⟩)] w fun e w' => e = .returned (.tuple #[]) ∧ BSet w' lo hi p (List.replicate l.length false) ∧ Chg lo hi w w' := by
  obtain ⟨A, cap, ws, c0, c1, hc1, hc2, hwd, hW, _, _⟩ := h.open_
  have hle := h.le
  rcases Nat.eq_zero_or_pos ws.length with h0 | h0
  · have hl0 : l = [] := List.eq_nil_of_length_eq_zero (by have := hwd.1; omega)
    subst hl0
    rw [h0] at c1
    have hcl : ∀ ty, (Builtin.clear_ #[58] ty #[.slice A 0 cap]).run Tryd.prog w = .ok (.tuple #[]) w := fun ty => by
      cases A <;> simp [Builtin.clear_, run_underlying Tryd.underlying58]
    go_enter Tryd.func31, Tryd.ntmps31
    go_wp2
    go_end0
    exact ⟨rfl, h, Chg.refl _ _ _⟩
  · obtain ⟨g, rfl, g1, g2, _⟩ := hW.word h0
    have hcl : ∀ ty, (Builtin.clear_ #[58] ty #[.slice (some ⟨g, 0, none⟩) ws.length cap]).run Tryd.prog w = .ok (.tuple #[]) (w.setCells g 0 (List.replicate ws.length (.int .u64 0))) := fun ty => by
      refine Lib.run_clear_slice w 58 62 ty (.int .u64 0) Tryd.underlying58 (fun w => by rfl) rfl rfl g 0 ws.length cap h0 (fun j hj => ?_) (fun j hj => ?_)
      · obtain ⟨g', e, _, _, hc, hf⟩ := hW.word hj
        injection e with e
        injection e with e
        subst e
        rw [Nat.zero_add, hc]; rfl
      · obtain ⟨g', e, _, _, hc, hf⟩ := hW.word hj
        injection e with e
        injection e with e
        subst e
        rw [Nat.zero_add]; exact hf
    go_enter Tryd.func31, Tryd.ntmps31
    go_wp2
    go_end0
    obtain ⟨k1, k2⟩ := h.cleared c1 hwd h0
    exact ⟨rfl, k1, k2⟩
end Go.Proofs.YtaaladekamfpnaaDoor
