/- A bit set in memory: words. -/
import Derived.Test.YtaaladekamfpnaaDoorRows
import Derived.Test.YtaaladekamfpnaaDoorSl
import Derived.Test.YtaaladekamfpnaaDoorBs
import Derived.Laws.BitsAllLaws
import Derived.Laws.ShiftsVarLaws
import Derived.Lib.TrailingZeros
import Derived.WalkSpells
import Derived.WalkLawsBesides
import Derived.Deep.QuietTactic
import Derived.BigQuiet
import Derived.Deep.RegionHeld3
namespace Go.Proofs.YtaaladekamfpnaaDoor
open Go.RowKit Bs

theorem ret_bool {a b : Bool} (h : a = b) : Ending.returned (.bool a) = .returned (.bool b) := by rw [h]
theorem ret_i64 {a b : Int} (h : a = b) : Ending.returned (.int .i64 a) = .returned (.int .i64 b) := by rw [h]
/-- The cell of a word. -/
def uc (x : Nat) : List Value := [.int .u64 (x : Int)]
theorem uc_len : ∀ x, (uc x).length = 1 := fun _ => rfl
theorem uc_one : ∀ x, ∀ u ∈ uc x, u.oneCell' = true := by intro x u hu; simp [uc] at hu; subst hu; rfl
theorem info_u64 : (Tryd.prog.info? 62).map (fun i => (i.zero, i.size, i.bytes)) = some (some (.int .u64 0), 1, 8) := by kernel_rfl

/-- The slice value v holds the words ws, in a block from lo on and below hi. -/
def Words (w : World) (lo hi : Nat) (v : Value) (ws : List Nat) : Prop :=
  ∃ A cap, v = .slice A ws.length cap ∧ ws.length ≤ cap ∧ cap ≤ maxLen ∧
    (0 < ws.length → ∃ (g : Nat) (cs : Array Value), A = some ⟨g, 0, none⟩ ∧ lo ≤ g ∧ g < hi ∧ w.heap[g]? = some (.cells cs 62 (0, 0)) ∧ ∀ (i x : Nat), ws[i]? = some x → cs[i]? = some (.int .u64 (x : Int)))
/-- Block p is the set l; all of it lies from lo on and below hi. -/
def BSet (w : World) (lo hi p : Nat) (l : List Bool) : Prop :=
  ∃ v ws, lo ≤ p ∧ p < hi ∧ hi ≤ w.heap.size ∧ l.length ≤ 1048576 ∧ w.heap[p]? = some (.cells #[Value.int .i64 (l.length : Int), v] 60 (0, 0)) ∧ Words w lo hi v ws ∧ Wd l ws

theorem Words.keep {w w' : World} {lo hi : Nat} {v : Value} {ws : List Nat} (h : Words w lo hi v ws) (hk : ∀ b, lo ≤ b → b < hi → w'.heap[b]? = w.heap[b]?) : Words w' lo hi v ws := by
  obtain ⟨A, cap, e, h1, h2, h3⟩ := h
  refine ⟨A, cap, e, h1, h2, fun hn => ?_⟩
  obtain ⟨g, cs, ea, hl, hh, hb, hc⟩ := h3 hn
  exact ⟨g, cs, ea, hl, hh, (hk g hl hh).trans hb, hc⟩
theorem BSet.keep {w w' : World} {lo hi p : Nat} {l : List Bool} (h : BSet w lo hi p l) (hs : w.heap.size ≤ w'.heap.size) (hk : ∀ b, lo ≤ b → b < hi → w'.heap[b]? = w.heap[b]?) : BSet w' lo hi p l := by
  obtain ⟨v, ws, h1, h2, h3, h4, h5, h6, h7⟩ := h
  exact ⟨v, ws, h1, h2, Nat.le_trans h3 hs, h4, (hk p h1 h2).trans h5, h6.keep hk, h7⟩
theorem BSet.hi_le {w : World} {lo hi p : Nat} {l : List Bool} (h : BSet w lo hi p l) : hi ≤ w.heap.size := by
  obtain ⟨v, ws, h1, h2, h3, _⟩ := h; exact h3
theorem BSet.le {w : World} {lo hi p : Nat} {l : List Bool} (h : BSet w lo hi p l) : l.length ≤ 1048576 := by
  obtain ⟨v, ws, h1, h2, h3, h4, _⟩ := h; exact h4
theorem BSet.below {w w' : World} {lo hi p B : Nat} {l : List Bool} (h : BSet w lo hi p l) (hb : Below B w w') (hB : hi ≤ B) : BSet w' lo hi p l :=
  h.keep hb.size fun b _ h2 => hb.block b (by omega)
theorem BSet.below_ {w w' : World} {lo hi p : Nat} {l : List Bool} (h : BSet w lo hi p l) (hb : Below w.heap.size w w') : BSet w' lo hi p l := h.below hb h.hi_le
theorem BSet.alloc {w : World} {lo hi p : Nat} {l : List Bool} (h : BSet w lo hi p l) (o : Obj) : BSet (w.alloc o) lo hi p l :=
  h.keep (by simp) fun b _ h2 => Below.heap_alloc w o b (by have := h.hi_le; omega)
theorem BSet.drewN {w : World} {lo hi p : Nat} {l : List Bool} (h : BSet w lo hi p l) (n : Nat) : BSet (w.drewN n) lo hi p l := h

/-- What a walk reads of a set. -/
theorem BSet.open_ {w : World} {lo hi p : Nat} {l : List Bool} (h : BSet w lo hi p l) : ∃ A cap ws, w.cell? ⟨p, 0, none⟩ = some (.int .i64 (l.length : Int)) ∧ w.cell? ⟨p, 1, none⟩ = some (.slice A ws.length cap) ∧ ws.length ≤ cap ∧ cap ≤ maxLen ∧ Wd l ws ∧ Words w lo hi (.slice A ws.length cap) ws ∧ lo ≤ p ∧ p < hi := by
  obtain ⟨v, ws, h1, h2, h3, h4, h5, h6, h7⟩ := h
  have h6' := h6
  obtain ⟨A, cap, rfl, g1, g2, g3⟩ := h6
  refine ⟨A, cap, ws, ?_, ?_, g1, g2, h7, h6', h1, h2⟩
  · rw [cell_of_row w p 0 _ _ (0, 0) h5]; rfl
  · rw [cell_of_row w p 1 _ _ (0, 0) h5]; rfl
theorem Words.word {w : World} {lo hi : Nat} {A : Option Addr} {n cap : Nat} {ws : List Nat} (h : Words w lo hi (.slice A n cap) ws) {k : Nat} (hk : k < ws.length) :
    ∃ g, A = some ⟨g, 0, none⟩ ∧ lo ≤ g ∧ g < hi ∧ w.cell? ⟨g, k, none⟩ = some (.int .u64 (ws[k] : Int)) ∧ w.frozen? ⟨g, k, none⟩ = false := by
  obtain ⟨A', cap', e, h1, h2, h3⟩ := h
  injection e with e1 e2 e3
  subst e1
  obtain ⟨g, cs, ea, hl, hh, hb, hc⟩ := h3 (by omega)
  refine ⟨g, ea, hl, hh, ?_, ?_⟩
  · rw [cell_of_row w g k cs _ (0, 0) hb]
    exact hc k _ (List.getElem?_eq_getElem hk)
  · simp [World.frozen?, hb]
/-- Nothing outside lo .. hi has turned, and nothing was made. -/
structure Chg (lo hi : Nat) (w w' : World) : Prop where
  os : w'.os = w.os
  tape : w'.tape = w.tape
  output : w'.output = w.output
  size : w'.heap.size = w.heap.size
  block : ∀ b, b < lo ∨ hi ≤ b → w'.heap[b]? = w.heap[b]?
theorem Chg.refl (lo hi : Nat) (w : World) : Chg lo hi w w := ⟨rfl, rfl, rfl, rfl, fun _ _ => rfl⟩
theorem Chg.trans {lo hi : Nat} {a b c : World} (h : Chg lo hi a b) (k : Chg lo hi b c) : Chg lo hi a c :=
  ⟨k.os.trans h.os, k.tape.trans h.tape, k.output.trans h.output, k.size.trans h.size, fun i hi => (k.block i hi).trans (h.block i hi)⟩
theorem Chg.below {lo hi B : Nat} {w w' : World} (h : Chg lo hi w w') (hB : B ≤ lo) : Below B w w' :=
  ⟨h.os, h.tape, h.output, Nat.le_of_eq h.size.symm, fun k hk => h.block k (.inl (by omega))⟩
theorem Chg.drewN {lo hi : Nat} {a w : World} (h : Chg lo hi a w) (n : Nat) : Chg lo hi a (w.drewN n) := ⟨h.os, h.tape, h.output, h.size, h.block⟩
theorem BSet.chg {w w' : World} {lo hi lo' hi' p : Nat} {l : List Bool} (h : BSet w lo hi p l) (hc : Chg lo' hi' w w') (hd : hi ≤ lo' ∨ hi' ≤ lo) : BSet w' lo hi p l :=
  h.keep (Nat.le_of_eq hc.size.symm) fun b h1 h2 => hc.block b (by omega)
/-- A word stored: the set with one bit turned. -/
theorem BSet.store {w : World} {lo hi p g n cap : Nat} {l : List Bool} (h : BSet w lo hi p l) {i : Nat} (hi_ : i < l.length) (b : Bool) (hb : l[i] = !b) (c1 : w.cell? ⟨p, 1, none⟩ = some (.slice (some ⟨g, 0, none⟩) n cap)) :
    ∀ (m : Nat) (x : Nat), w.cell? ⟨g, i / 64, none⟩ = some (.int .u64 (x : Int)) → BSet ((w.drewN m).setCell ⟨g, i / 64, none⟩ (.int .u64 ((x ^^^ 2 ^ (i % 64) : Nat) : Int))) lo hi p (l.set i b) ∧ Chg lo hi w ((w.drewN m).setCell ⟨g, i / 64, none⟩ (.int .u64 ((x ^^^ 2 ^ (i % 64) : Nat) : Int))) := by
  intro m x cx
  obtain ⟨v, ws, h1, h2, h3, h4, h5, h6, h7⟩ := h
  have hk := h7.idx hi_
  have hv : v = .slice (some ⟨g, 0, none⟩) n cap := by
    rw [cell_of_row w p 1 _ _ (0, 0) h5] at c1
    simpa using c1
  obtain ⟨A, cap', e, g1, g2, g3⟩ := h6
  obtain ⟨g', cs, ea, hl, hh, hbk, hc⟩ := g3 (by omega)
  rw [e, ea] at hv
  injection hv with hv1 hv2 hv3
  injection hv1 with hv1
  injection hv1 with hv1
  subst hv1
  have hne : g' ≠ p := by
    rintro rfl
    rw [h5] at hbk
    injection hbk with hbk
    injection hbk with _ ht
    exact absurd ht (by decide)
  have hcx : ws[i / 64] = x := by
    rw [cell_of_row w g' (i / 64) cs _ (0, 0) hbk, hc _ _ (List.getElem?_eq_getElem hk)] at cx
    injection cx with cx
    injection cx with _ cx
    omega
  have hchg : Chg lo hi w ((w.drewN m).setCell ⟨g', i / 64, none⟩ (.int .u64 ((x ^^^ 2 ^ (i % 64) : Nat) : Int))) :=
    ⟨rfl, rfl, rfl, by simp [World.setCell], fun b hb => Below.heap_setCell (w.drewN m) _ _ b (by show b ≠ g'; omega)⟩
  refine ⟨⟨v, ws.set (i / 64) (x ^^^ 2 ^ (i % 64)), h1, h2, by rw [hchg.size]; exact h3, by rw [List.length_set]; exact h4, ?_, ⟨A, cap', by rw [List.length_set]; exact e, by rw [List.length_set]; exact g1, g2, fun _ => ⟨g', cs.setIfInBounds (i / 64) (.int .u64 ((x ^^^ 2 ^ (i % 64) : Nat) : Int)), ea, hl, hh, ?_, fun k y hy => ?_⟩⟩, ?_⟩, hchg⟩
  · rw [List.length_set]
    exact (Below.heap_setCell (w.drewN m) _ _ p (by show p ≠ g'; omega)).trans h5
  · simp [World.setCell, Array.getElem?_modify, hbk]
  · rw [List.getElem?_set] at hy
    rw [Array.getElem?_setIfInBounds]
    by_cases hek : i / 64 = k
    · subst hek
      rw [if_pos rfl, if_pos hk] at hy
      have hlt := (Array.getElem?_eq_some_iff.1 (hc _ _ (List.getElem?_eq_getElem hk))).1
      rw [if_pos rfl, if_pos hlt]
      injection hy with hy
      rw [hy]
    · rw [if_neg hek] at hy
      rw [if_neg hek]
      exact hc k y hy
  · rw [← hcx]
    exact h7.set hi_ b hb
theorem ediv_pow (x j : Nat) : (x : Int) / 2 ^ j = ((x / 2 ^ j : Nat) : Int) := by rw [Int.natCast_ediv, Int.natCast_pow]; rfl
theorem has_form (x j : Nat) (hx : x < 18446744073709551616) : (bits BinOp.and IntKind.u64 ((x : Int) / 2 ^ j) 1 == 1) = decide (x / 2 ^ j % 2 = 1) := by
  have hlt : x / 2 ^ j < 18446744073709551616 := Nat.lt_of_le_of_lt (Nat.div_le_self _ _) hx
  rw [ediv_pow, show (1 : Int) = ((1 : Nat) : Int) from rfl, u64_and_nat _ _ hlt (by decide), nat_mask1]
  rw [Bool.eq_iff_iff, beq_iff_eq, decide_eq_true_iff]
  omega
theorem wrap_pow (j : Nat) (hj : j < 64) : IntKind.u64.wrap (2 ^ j) = 2 ^ j := by
  have hp : 2 ^ j < 18446744073709551616 := by
    have := Nat.pow_lt_pow_right (a := 2) (by decide) hj
    simpa using this
  have e : (2 : Int) ^ j = ((2 ^ j : Nat) : Int) := by rw [Int.natCast_pow]; rfl
  rw [e, IntKind.wrap_u64]
  generalize 2 ^ j = y at hp
  omega
theorem xor_form (x j : Nat) (hx : x < 18446744073709551616) (hj : j < 64) : bits BinOp.xor IntKind.u64 (x : Int) (2 ^ j) = ((x ^^^ 2 ^ j : Nat) : Int) := by
  have hp : 2 ^ j < 18446744073709551616 := by
    have := Nat.pow_lt_pow_right (a := 2) (by decide) hj
    simpa using this
  rw [← u64_xor_nat x (2 ^ j) hx hp, Int.natCast_pow]; rfl
end Go.Proofs.YtaaladekamfpnaaDoor
