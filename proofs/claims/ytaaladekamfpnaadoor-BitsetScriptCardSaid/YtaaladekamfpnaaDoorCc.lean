/- BitsetScript: two sets and two of the document's sets, side by side in memory. -/
import Derived.Test.YtaaladekamfpnaaDoorCb
namespace Go.Proofs.YtaaladekamfpnaaDoor
open Go.RowKit Bs

/-- Two sets (their ranges) and two of the document's sets (their blocks), all from B on, none in another's place. -/
structure Four (B : Nat) (w : World) (lo hi ps : Nat) (ls : List Bool) (px gx : Nat) (lx : List Bool) (lo' hi' pt : Nat) (lt : List Bool) (py gy : Nat) (ly : List Bool) : Prop where
  s : BSet w lo hi ps ls
  x : RSet w px gx lx
  t : BSet w lo' hi' pt lt
  y : RSet w py gy ly
  bs : B ≤ lo
  bt : B ≤ lo'
  bpx : B ≤ px
  bgx : B ≤ gx
  bpy : B ≤ py
  bgy : B ≤ gy
  st : hi ≤ lo' ∨ hi' ≤ lo
  spx : px < lo ∨ hi ≤ px
  sgx : gx < lo ∨ hi ≤ gx
  spy : py < lo ∨ hi ≤ py
  sgy : gy < lo ∨ hi ≤ gy
  tpx : px < lo' ∨ hi' ≤ px
  tgx : gx < lo' ∨ hi' ≤ gx
  tpy : py < lo' ∨ hi' ≤ py
  tgy : gy < lo' ∨ hi' ≤ gy
  xy1 : px ≠ py
  xy2 : gx ≠ gy
  xy3 : px ≠ gy
  xy4 : py ≠ gx
section
variable {B : Nat} {w w' : World} {lo hi ps : Nat} {ls ls' : List Bool} {px gx : Nat} {lx lx' : List Bool} {lo' hi' pt : Nat} {lt lt' : List Bool} {py gy : Nat} {ly ly' : List Bool}
theorem Four.onS (h : Four B w lo hi ps ls px gx lx lo' hi' pt lt py gy ly) (hc : Chg lo hi w w') (hs : BSet w' lo hi ps ls') : Four B w' lo hi ps ls' px gx lx lo' hi' pt lt py gy ly :=
  { h with s := hs, x := h.x.chg hc h.spx h.sgx, t := h.t.chg hc (by have := h.st; omega), y := h.y.chg hc h.spy h.sgy }
theorem Four.onT (h : Four B w lo hi ps ls px gx lx lo' hi' pt lt py gy ly) (hc : Chg lo' hi' w w') (ht : BSet w' lo' hi' pt lt') : Four B w' lo hi ps ls px gx lx lo' hi' pt lt' py gy ly :=
  { h with s := h.s.chg hc (by have := h.st; omega), x := h.x.chg hc h.tpx h.tgx, t := ht, y := h.y.chg hc h.tpy h.tgy }
theorem Four.onX (h : Four B w lo hi ps ls px gx lx lo' hi' pt lt py gy ly) (hg : w.grownBy w' (some gx)) (hx : RSet w' px gx lx') : Four B w' lo hi ps ls px gx lx' lo' hi' pt lt py gy ly :=
  { h with s := h.s.far hg h.sgx, x := hx, t := h.t.far hg h.tgx, y := h.y.far hg h.xy4 (Ne.symm h.xy2) }
theorem Four.onY (h : Four B w lo hi ps ls px gx lx lo' hi' pt lt py gy ly) (hg : w.grownBy w' (some gy)) (hy : RSet w' py gy ly') : Four B w' lo hi ps ls px gx lx lo' hi' pt lt py gy ly' :=
  { h with s := h.s.far hg h.sgy, x := h.x.far hg h.xy3 h.xy2, t := h.t.far hg h.tgy, y := hy }
theorem Four.grow (h : Four B w lo hi ps ls px gx lx lo' hi' pt lt py gy ly) (hb : Below w.heap.size w w') : Four B w' lo hi ps ls px gx lx lo' hi' pt lt py gy ly :=
  { h with s := h.s.below_ hb, x := h.x.below_ hb, t := h.t.below_ hb, y := h.y.below_ hb }
theorem Four.drewN (h : Four B w lo hi ps ls px gx lx lo' hi' pt lt py gy ly) (n : Nat) : Four B (w.drewN n) lo hi ps ls px gx lx lo' hi' pt lt py gy ly :=
  { h with s := h.s.drewN n, x := h.x.drewN n, t := h.t.drewN n, y := h.y.drewN n }
theorem Four.clearX {gx' : Nat} (h : Four B w lo hi ps ls px gx lx lo' hi' pt lt py gy ly) (hg : w.grownBy w' (some px)) (hx : RSet w' px gx' lx') (hn : w.heap.size ≤ gx') (hB : B ≤ w.heap.size) : Four B w' lo hi ps ls px gx' lx' lo' hi' pt lt py gy ly := by
  have e1 := h.s.hi_le
  have e2 := h.t.hi_le
  have e3 := h.y.lt
  exact { h with s := h.s.far hg h.spx, x := hx, t := h.t.far hg h.tpx, y := h.y.far hg (Ne.symm h.xy1) (Ne.symm h.xy3), bgx := by omega, sgx := by omega, tgx := by omega, xy2 := by omega, xy4 := by omega }
theorem Four.cloneT {w'' : World} {pt' py' gy' : Nat} (h : Four B w lo hi ps ls px gx lx lo' hi' pt lt py gy ly) (h1 : BSet w' w.heap.size w'.heap.size pt' lt') (b1 : Below w.heap.size w w') (h2 : RSet w'' py' gy' ly') (b2 : Below w'.heap.size w' w'') (hp : w'.heap.size ≤ py') (hg : w'.heap.size ≤ gy') (hB : B ≤ w.heap.size) :
    Four B w'' lo hi ps ls px gx lx w.heap.size w'.heap.size pt' lt' py' gy' ly' := by
  have e1 := h.s.hi_le
  have e3 := h.x.lt
  have e4 := b1.size
  exact { s := (h.s.below_ b1).below_ b2, x := (h.x.below_ b1).below_ b2, t := h1.below_ b2, y := h2, bs := h.bs, bt := hB, bpx := h.bpx, bgx := h.bgx, bpy := by omega, bgy := by omega, st := by omega, spx := h.spx, sgx := h.sgx, spy := by omega, sgy := by omega, tpx := by omega, tgx := by omega, tpy := by omega, tgy := by omega, xy1 := by omega, xy2 := by omega, xy3 := by omega, xy4 := by omega }
theorem Four.start {w0 w1 w2 w3 w4 : World} {ps pt px gx py gy : Nat} {ls lx lt ly : List Bool} (h1 : BSet w1 w0.heap.size w1.heap.size ps ls) (b1 : Below w0.heap.size w0 w1) (h2 : BSet w2 w1.heap.size w2.heap.size pt lt) (b2 : Below w1.heap.size w1 w2)
    (h3 : RSet w3 px gx lx) (b3 : Below w2.heap.size w2 w3) (p3 : w2.heap.size ≤ px) (g3 : w2.heap.size ≤ gx) (h4 : RSet w4 py gy ly) (b4 : Below w3.heap.size w3 w4) (p4 : w3.heap.size ≤ py) (g4 : w3.heap.size ≤ gy) :
    Four w0.heap.size w4 w0.heap.size w1.heap.size ps ls px gx lx w1.heap.size w2.heap.size pt lt py gy ly := by
  have e1 := b1.size
  have e2 := b2.size
  have e3 := b3.size
  have e4 := h3.lt
  exact { s := ((h1.below_ b2).below_ b3).below_ b4, x := h3.below_ b4, t := (h2.below_ b3).below_ b4, y := h4, bs := Nat.le_refl _, bt := by omega, bpx := by omega, bgx := by omega, bpy := by omega, bgy := by omega, st := by omega, spx := by omega, sgx := by omega, spy := by omega, sgy := by omega, tpx := by omega, tgx := by omega, tpy := by omega, tgy := by omega, xy1 := by omega, xy2 := by omega, xy3 := by omega, xy4 := by omega }
end
end Go.Proofs.YtaaladekamfpnaaDoor
