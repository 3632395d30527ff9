/- BitsetScript: the calls of a round, at any number; and what a round keeps. -/
import Derived.Test.YtaaladekamfpnaaDoorCc
namespace Go.Proofs.YtaaladekamfpnaaDoor
open Go.RowKit Bs

def hasI (l : List Bool) (i : Int) : Bool := if 0 ≤ i ∧ i < (l.length : Int) then at_ l i.toNat else false
def newI (l : List Bool) (i : Int) : Bool := if 0 ≤ i ∧ i < (l.length : Int) then !at_ l i.toNat else false
def errI (l : List Bool) (i : Int) : Int := if 0 ≤ i ∧ i < (l.length : Int) then 0 else 2
def putI (b : Bool) (l : List Bool) (i : Int) : List Bool := if 0 ≤ i ∧ i < (l.length : Int) then l.set i.toNat b else l
def sameL (l m : List Bool) : Bool := decide (l = m)
theorem split_in (l : List Bool) (i : Int) : (∃ k : Nat, i = (k : Int) ∧ k < l.length ∧ (0 ≤ i ∧ i < (l.length : Int))) ∨ ((i < 0 ∨ (l.length : Int) ≤ i) ∧ ¬ (0 ≤ i ∧ i < (l.length : Int))) := by
  by_cases h : 0 ≤ i ∧ i < (l.length : Int)
  · obtain ⟨k, hk⟩ := Int.eq_ofNat_of_zero_le h.1
    exact .inl ⟨k, hk, by omega, h⟩
  · exact .inr ⟨by omega, h⟩
section
variable (w : World) (lo hi p g : Nat) (l : List Bool) (i : Int)
theorem put_int (h : BSet w lo hi p l) : Calls Tryd.prog 12 #[.pointer (some ⟨p, 0, none⟩), .int .i64 i] w fun e w' => e = .returned (.tuple #[.bool (newI l i), .int .i64 (errI l i)]) ∧ BSet w' lo hi p (putI true l i) ∧ Chg lo hi w w' := by
  unfold newI errI putI
  rcases split_in l i with ⟨k, e, hk, hin⟩ | ⟨ho, hin⟩
  · rw [if_pos hin, if_pos hin, if_pos hin, e]
    exact put_any w lo hi p l k h hk
  · rw [if_neg hin, if_neg hin, if_neg hin]
    refine (put_out w lo hi p l i h ho).mono ?_
    rintro e w' ⟨h1, rfl⟩
    exact ⟨h1, h, Chg.refl _ _ _⟩
theorem take_int (h : BSet w lo hi p l) : Calls Tryd.prog 20 #[.pointer (some ⟨p, 0, none⟩), .int .i64 i] w fun e w' => e = .returned (.tuple #[.bool (hasI l i), .int .i64 (errI l i)]) ∧ BSet w' lo hi p (putI false l i) ∧ Chg lo hi w w' := by
  unfold hasI errI putI
  rcases split_in l i with ⟨k, e, hk, hin⟩ | ⟨ho, hin⟩
  · rw [if_pos hin, if_pos hin, if_pos hin, e]
    exact take_any w lo hi p l k h hk
  · rw [if_neg hin, if_neg hin, if_neg hin]
    refine (take_out w lo hi p l i h ho).mono ?_
    rintro e w' ⟨h1, rfl⟩
    exact ⟨h1, h, Chg.refl _ _ _⟩
theorem rput_int (h : RSet w p g l) : Calls Tryd.prog 26 #[.pointer (some ⟨p, 0, none⟩), .int .i64 i] w fun e w' => e = .returned (.tuple #[.bool (newI l i), .int .i64 (errI l i)]) ∧ RSet w' p g (putI true l i) ∧ w.grownBy w' (some g) := by
  unfold newI errI putI
  rcases split_in l i with ⟨k, e, hk, hin⟩ | ⟨ho, hin⟩
  · rw [if_pos hin, if_pos hin, if_pos hin, e]
    exact rput_any w p g l k h hk
  · rw [if_neg hin, if_neg hin, if_neg hin]
    refine (rput_out w p g l i h ho).mono ?_
    rintro e w' ⟨h1, rfl⟩
    exact ⟨h1, h, grown_refl _ _⟩
theorem rtake_int (h : RSet w p g l) : Calls Tryd.prog 27 #[.pointer (some ⟨p, 0, none⟩), .int .i64 i] w fun e w' => e = .returned (.tuple #[.bool (hasI l i), .int .i64 (errI l i)]) ∧ RSet w' p g (putI false l i) ∧ w.grownBy w' (some g) := by
  unfold hasI errI putI
  rcases split_in l i with ⟨k, e, hk, hin⟩ | ⟨ho, hin⟩
  · rw [if_pos hin, if_pos hin, if_pos hin, e]
    exact rtake_any w p g l k h hk
  · rw [if_neg hin, if_neg hin, if_neg hin]
    refine (rtake_out w p g l i h ho).mono ?_
    rintro e w' ⟨h1, rfl⟩
    exact ⟨h1, h, grown_refl _ _⟩
theorem has_int (h : BSet w lo hi p l) : Calls Tryd.prog 18 #[.pointer (some ⟨p, 0, none⟩), .int .i64 i] w fun e w' => e = .returned (.bool (hasI l i)) ∧ w = w' := by
  unfold hasI
  rcases split_in l i with ⟨k, e, hk, hin⟩ | ⟨ho, hin⟩
  · rw [if_pos hin, e, Int.toNat_natCast]
    exact has_in w lo hi p l k h hk
  · rw [if_neg hin]
    exact has_out w lo hi p l i h ho
theorem rhas_int (h : RSet w p g l) : Calls Tryd.prog 36 #[.pointer (some ⟨p, 0, none⟩), .int .i64 i] w fun e w' => e = .returned (.bool (hasI l i)) ∧ w = w' := by
  unfold hasI
  rcases split_in l i with ⟨k, e, hk, hin⟩ | ⟨ho, hin⟩
  · rw [if_pos hin, e, Int.toNat_natCast]
    exact rhas_in w p g l k h hk
  · rw [if_neg hin]
    exact rhas_out w p g l i h ho
theorem countL_any (h : BSet w lo hi p l) : Calls Tryd.prog 15 #[.pointer (some ⟨p, 0, none⟩)] w fun e w' => e = .returned (.int .i64 ((lst l).length : Nat)) ∧ w = w' := by
  rw [count_lst]
  exact count_any w lo hi p l h
theorem sameL_any (lo' hi' p' : Nat) (m : List Bool) (h : BSet w lo hi p l) (k : BSet w lo' hi' p' m) : Calls Tryd.prog 19 #[.pointer (some ⟨p, 0, none⟩), .pointer (some ⟨p', 0, none⟩)] w (Quiet (.bool (sameL l m)) w) := setSame_any w lo hi p lo' hi' p' l m h k
theorem rsameL_any (p' g' : Nat) (m : List Bool) (h : RSet w p g l) (k : RSet w p' g' m) : Calls Tryd.prog 37 #[.pointer (some ⟨p, 0, none⟩), .pointer (some ⟨p', 0, none⟩)] w (Quiet (.bool (sameL l m)) w) := rsame_any w p g p' g' l m h k
end
theorem lst_le (l : List Bool) : (lst l).length ≤ l.length := upTo_length_le l _

/-- In a round: the four sets, and the act's number in its cell. -/
structure Rd (w0 : World) (za : Nat) (I : Int) (w : World) (lo hi ps : Nat) (ls : List Bool) (px gx : Nat) (lx : List Bool) (lo' hi' pt : Nat) (lt : List Bool) (py gy : Nat) (ly : List Bool) : Prop where
  four : Four w0.heap.size w lo hi ps ls px gx lx lo' hi' pt lt py gy ly
  act : w.cell? ⟨za, 1, none⟩ = some (.int .i64 I)
  zlt : za < w.heap.size
  below : Below w0.heap.size w0 w
section
variable {w0 : World} {za : Nat} {I : Int} {w w' : World} {lo hi ps : Nat} {ls ls' : List Bool} {px gx : Nat} {lx lx' : List Bool} {lo' hi' pt : Nat} {lt lt' : List Bool} {py gy : Nat} {ly ly' : List Bool}
theorem Rd.onS (h : Rd w0 za I w lo hi ps ls px gx lx lo' hi' pt lt py gy ly) (hc : Chg lo hi w w') (hs : BSet w' lo hi ps ls') (hz : za < lo ∨ hi ≤ za) : Rd w0 za I w' lo hi ps ls' px gx lx lo' hi' pt lt py gy ly :=
  ⟨h.four.onS hc hs, (World.cell?_of_block (a := ⟨za, 1, none⟩) (hc.block za hz)).trans h.act, by rw [hc.size]; exact h.zlt, h.below.trans (hc.below h.four.bs)⟩
theorem Rd.onT (h : Rd w0 za I w lo hi ps ls px gx lx lo' hi' pt lt py gy ly) (hc : Chg lo' hi' w w') (hs : BSet w' lo' hi' pt lt') (hz : za < lo' ∨ hi' ≤ za) : Rd w0 za I w' lo hi ps ls px gx lx lo' hi' pt lt' py gy ly :=
  ⟨h.four.onT hc hs, (World.cell?_of_block (a := ⟨za, 1, none⟩) (hc.block za hz)).trans h.act, by rw [hc.size]; exact h.zlt, h.below.trans (hc.below h.four.bt)⟩
theorem cell_far {g : Nat} (hg : w.grownBy w' (some g)) (h1 : za < w.heap.size) (h2 : za ≠ g) (j : Nat) : w'.cell? ⟨za, j, none⟩ = w.cell? ⟨za, j, none⟩ :=
  World.cell?_of_block (a := ⟨za, j, none⟩) (hg.block za h1 (by intro e; injection e with e; exact h2 e))
theorem Rd.onX (h : Rd w0 za I w lo hi ps ls px gx lx lo' hi' pt lt py gy ly) (hg : w.grownBy w' (some gx)) (hx : RSet w' px gx lx') (hz : za ≠ gx) : Rd w0 za I w' lo hi ps ls px gx lx' lo' hi' pt lt py gy ly :=
  ⟨h.four.onX hg hx, (cell_far hg h.zlt hz 1).trans h.act, Nat.lt_of_lt_of_le h.zlt hg.size, h.below.trans (far_below hg h.four.bgx h.below.size)⟩
theorem Rd.onY (h : Rd w0 za I w lo hi ps ls px gx lx lo' hi' pt lt py gy ly) (hg : w.grownBy w' (some gy)) (hy : RSet w' py gy ly') (hz : za ≠ gy) : Rd w0 za I w' lo hi ps ls px gx lx lo' hi' pt lt py gy ly' :=
  ⟨h.four.onY hg hy, (cell_far hg h.zlt hz 1).trans h.act, Nat.lt_of_lt_of_le h.zlt hg.size, h.below.trans (far_below hg h.four.bgy h.below.size)⟩
theorem Rd.clearX {gx' : Nat} (h : Rd w0 za I w lo hi ps ls px gx lx lo' hi' pt lt py gy ly) (hg : w.grownBy w' (some px)) (hx : RSet w' px gx' lx') (hn : w.heap.size ≤ gx') (hz : za ≠ px) : Rd w0 za I w' lo hi ps ls px gx' lx' lo' hi' pt lt py gy ly :=
  ⟨h.four.clearX hg hx hn h.below.size, (cell_far hg h.zlt hz 1).trans h.act, Nat.lt_of_lt_of_le h.zlt hg.size, h.below.trans (far_below hg h.four.bpx h.below.size)⟩
theorem Rd.grow (h : Rd w0 za I w lo hi ps ls px gx lx lo' hi' pt lt py gy ly) (hb : Below w.heap.size w w') : Rd w0 za I w' lo hi ps ls px gx lx lo' hi' pt lt py gy ly :=
  ⟨h.four.grow hb, (hb.cell (p := ⟨za, 1, none⟩) h.zlt).trans h.act, Nat.lt_of_lt_of_le h.zlt hb.size, Below.lift h.below hb⟩
theorem Rd.drewN (h : Rd w0 za I w lo hi ps ls px gx lx lo' hi' pt lt py gy ly) (n : Nat) : Rd w0 za I (w.drewN n) lo hi ps ls px gx lx lo' hi' pt lt py gy ly :=
  ⟨h.four.drewN n, h.act, h.zlt, below_drewN h.below n⟩
theorem Rd.cloneT {w'' : World} {pt' py' gy' : Nat} (h : Rd w0 za I w lo hi ps ls px gx lx lo' hi' pt lt py gy ly) (h1 : BSet w' w.heap.size w'.heap.size pt' lt') (b1 : Below w.heap.size w w') (h2 : RSet w'' py' gy' ly') (b2 : Below w'.heap.size w' w'') (hp : w'.heap.size ≤ py') (hg : w'.heap.size ≤ gy') :
    Rd w0 za I w'' lo hi ps ls px gx lx w.heap.size w'.heap.size pt' lt' py' gy' ly' :=
  have hb := Below.lift b1 b2
  ⟨h.four.cloneT h1 b1 h2 b2 hp hg h.below.size, (hb.cell (p := ⟨za, 1, none⟩) h.zlt).trans h.act, Nat.lt_of_lt_of_le h.zlt hb.size, Below.lift h.below hb⟩
theorem Rd.tab (h : Rd w0 za I w lo hi ps ls px gx lx lo' hi' pt lt py gy ly) (hT : Tab w0) (hg : 0 < w0.heap.size) : Tab w := hT.below h.below hg
theorem Rd.ex (h : Rd w0 za I w lo hi ps ls px gx ls lo' hi' pt lt py gy lt) : ∃ LS LT, Hid (Rd w0 za I w lo hi ps LS px gx LS lo' hi' pt LT py gy LT) := ⟨_, _, Lib.hid h⟩
end

/-- The same, with the row of x's header. -/
structure Rt (w0 : World) (za : Nat) (I : Int) (w : World) (lo hi ps : Nat) (ls : List Bool) (px gx lo' hi' pt : Nat) (lt : List Bool) (py gy capx : Nat) : Prop where
  rd : Rd w0 za I w lo hi ps ls px gx ls lo' hi' pt lt py gy lt
  cx : w.cell? ⟨px, 0, none⟩ = some (.slice (some ⟨gx, 0, none⟩) ls.length capx)
section
variable {w0 : World} {za : Nat} {I : Int} {w w' : World} {lo hi ps : Nat} {ls : List Bool} {px gx lo' hi' pt : Nat} {lt : List Bool} {py gy capx : Nat}
theorem Rt.grow (h : Rt w0 za I w lo hi ps ls px gx lo' hi' pt lt py gy capx) (hb : Below w.heap.size w w') : Rt w0 za I w' lo hi ps ls px gx lo' hi' pt lt py gy capx :=
  ⟨h.rd.grow hb, (hb.cell (p := ⟨px, 0, none⟩) h.rd.four.x.lt.1).trans h.cx⟩
theorem Rt.drewN (h : Rt w0 za I w lo hi ps ls px gx lo' hi' pt lt py gy capx) (n : Nat) : Rt w0 za I (w.drewN n) lo hi ps ls px gx lo' hi' pt lt py gy capx :=
  ⟨h.rd.drewN n, h.cx⟩
theorem Rt.growl (h : Rt w0 za I w lo hi ps ls px gx lo' hi' pt lt py gy capx) {n : Nat} (hb : Below (w.drewN n).heap.size (w.drewN n) w') : Rt w0 za I w' lo hi ps ls px gx lo' hi' pt lt py gy capx := (h.drewN n).grow hb
theorem Rd.rt (h : Rd w0 za I w lo hi ps ls px gx ls lo' hi' pt lt py gy lt) : ∃ capx, Rt w0 za I w lo hi ps ls px gx lo' hi' pt lt py gy capx := by
  obtain ⟨capx, c, _, _⟩ := h.four.x.open_
  exact ⟨capx, h, c⟩
theorem Rt.tabn (h : Rt w0 za I w lo hi ps ls px gx lo' hi' pt lt py gy capx) (hT : Tab w0) (hg : 0 < w0.heap.size) : Tab w ∧ 0 < w.heap.size := ⟨h.rd.tab hT hg, Nat.lt_of_lt_of_le hg h.rd.below.size⟩
end
/-- Behind an act: the four sets agree again. -/
def Meet (w1 : World) (za : Nat) (I : Int) (lo hi ps px : Nat) (s9 s13 s17 : Value) (wx : World) : Prop :=
  s17 = .bool true ∧ ∃ (LS LT : List Bool) (gx lo' hi' pt py gy : Nat), s9 = .pointer (some ⟨pt, 0, none⟩) ∧ s13 = .pointer (some ⟨py, 0, none⟩) ∧ Rd w1 za I wx lo hi ps LS px gx LS lo' hi' pt LT py gy LT
end Go.Proofs.YtaaladekamfpnaaDoor
