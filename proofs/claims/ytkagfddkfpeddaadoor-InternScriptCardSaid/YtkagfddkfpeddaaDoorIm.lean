/- A table of names in memory. -/
import Derived.Test.YtkagfddkfpeddaaDoorIp
import Derived.Test.YtkagfddkfpeddaaDoorNx
import Derived.Test.YtkagfddkfpeddaaDoorSi0
import Derived.Maps.OwnSet
import Derived.Maps.OwnOps
import Derived.WideKeyEntry
import Derived.StringKeys
namespace Go.Proofs.YtkagfddkfpeddaaDoor
open Go.RowKit Go.Maps It

/-- A name in memory: one cell. -/
def nc (x : List UInt8) : List Value := [.string (ba x)]
theorem nc_len : ∀ x, (nc x).length = 1 := fun _ => rfl
theorem nc_one : ∀ x, ∀ u ∈ nc x, u.oneCell' = true := by intro x u hu; simp [nc] at hu; subst hu; rfl
theorem info_string : (Tryd.prog.info? 9).map (fun i => (i.zero, i.size, i.bytes)) = some (some (.string ByteArray.empty), 1, 16) := by kernel_rfl
theorem lawS : Keyed Tryd.prog 9 := string_keyed Tryd.underlying9
theorem zeroI (w : World) : (zeroValue 3).run Tryd.prog w = .ok (.int .i64 0) w := by kernel_rfl
theorem keyS {x : List UInt8} (hx : x.length ≤ maxLen) : keyOf Tryd.prog 9 (.string (ba x)) = some (.string x) := by
  have h := WideMaps.keyOf_string_mk (P := Tryd.prog) Tryd.underlying9 (s := ba x) (by rw [ba_size]; exact hx)
  rwa [ba_list] at h
theorem wf_small {i : Nat} (h : i ≤ 1048576) : (Lit.int .i64 (i : Int)).wf = true := WalkArith.wf_i64 (by omega)

/-- Block b is the map of the names to their numbers. -/
def TMap (w : World) (b : Nat) (l : Nms) : Prop :=
  ∃ D : DataW Unit, w.ownsMap Tryd.prog 9 (plainElem Tryd.prog 3) b l.length D ∧ MapOf D l
theorem TMap.made (w : World) : TMap (w.alloc (.map #[] 0)) w.heap.size [] := ⟨.map [], World.ownsMap_made _ _ _ _, MapOf.nil_⟩
theorem TMap.lt {w : World} {b : Nat} {l : Nms} (h : TMap w b l) : b < w.heap.size := by
  obtain ⟨D, h, _⟩ := h; exact h.lt
theorem TMap.keep {w w' : World} {b : Nat} {l : Nms} (h : TMap w b l) (hk : w'.heap[b]? = w.heap[b]?) : TMap w' b l := by
  obtain ⟨D, ⟨es, clock, hb, F, hs, hD⟩, h2⟩ := h
  exact ⟨D, ⟨es, clock, hk.trans hb, F, hs, hD⟩, h2⟩
theorem TMap.notCells {w : World} {b : Nat} {l : Nms} (h : TMap w b l) {cs : Array Value} {t : TypeId} {fr : Nat × Nat} : w.heap[b]? ≠ some (.cells cs t fr) := by
  obtain ⟨D, ⟨es, clock, hb, _⟩, _⟩ := h
  rw [hb]; intro e; injection e with e; cases e
/-- What a look-up gives. -/
theorem TMap.look {w : World} {b : Nat} {l : Nms} (h : TMap w b l) {x : List UInt8} (hx : x.length ≤ maxLen) :
    (Instr.lookup 52 (.map (some b)) (.string (ba x)) true).run Tryd.prog w = .ok (.tuple #[.int .i64 (num l x : Nat), .bool (l.contains x)]) w := by
  obtain ⟨D, ho, hm⟩ := h
  obtain ⟨v, ps, hrun, hv⟩ := ho.look_ok lawS Tryd.underlying52 (zeroI w) (plainElem_int Tryd.underlying3 (by decide)) (keyS hx)
  rw [hm.2.2 x] at hv
  rw [hm.2.1 x] at hrun
  obtain ⟨a, rfl, e, _⟩ := plainElem_int_inv Tryd.underlying3 hv
  simp only [Prod.mk.injEq, DataW.lit.injEq, Lit.int.injEq] at e
  rw [hrun, e.1.2]
/-- A new name's entry, in two steps; between them the count of draws may move. -/
theorem TMap.entry {w : World} {b : Nat} {l : Nms} (h : TMap w b l) {x : List UInt8} (hx : x.length ≤ maxLen) (hnew : l.contains x = false) (hle : l.length < 4096) :
    ∃ (v0 : Value) (st : Int) (w1 : World), (Instr.mapEntry 52 (.map (some b)) (.string (ba x))).run Tryd.prog w = .ok (.tuple #[v0, .int .i64 st]) w1 ∧
      ∀ n, ∃ w2, (Instr.entryStore 52 (.map (some b)) (.int .i64 st) (.int .i64 (l.length : Nat))).run Tryd.prog (w1.drewN n) = .ok () w2 ∧ TMap w2 b (l ++ [x]) ∧ w.grownBy w2 (some b) := by
  obtain ⟨D, ho, hm⟩ := h
  obtain ⟨w', hrun, hown, hturn⟩ := ho.store lawS Tryd.underlying52 (by unfold maxLen; omega) (keyS hx) (plainElem_int Tryd.underlying3 (wf_small (i := l.length) (by omega)))
  obtain ⟨es, clock, hb, F, hs, hD⟩ := ho
  obtain ⟨v0, st, es1, clock1, h1, _, h2⟩ := WideElems.entry_then_store (R := plainElem (H := Unit) Tryd.prog 3) (WideMaps.string_law Tryd.underlying9) Tryd.underlying52 (fun u => zeroI u) hb F (keyS hx)
  refine ⟨v0, st, _, h1, fun n => ?_⟩
  obtain ⟨es', clock', h3, h4⟩ := h2 ((ChangeMaps.setBlock w b (.map es1 clock1)).drewN n) (.int .i64 (l.length : Nat)) (by rw [World.heap_drewN]; exact ChangeMaps.heap_setBlock_same hb _)
  rw [h4] at hrun
  injection hrun with _ hrun
  have e : ChangeMaps.setBlock ((ChangeMaps.setBlock w b (.map es1 clock1)).drewN n) b (.map es' clock') = w'.drewN n := by
    rw [← hrun]; simp [ChangeMaps.setBlock, World.drewN]
  refine ⟨_, h3, ?_, ?_⟩
  · rw [e]
    refine TMap.keep (w := w') ⟨_, ?_, hm.put hnew⟩ rfl
    rw [List.length_append]
    exact hown
  · rw [e]
    exact grown_drewN hturn.grown n

/-- A table: its header at p, its map at b, its row of names v, all from B on. -/
structure Tbl (w : World) (B p b : Nat) (v : Value) (l : Nms) : Prop where
  hdr : w.heap[p]? = some (.cells #[v, .map (some b)] 56 (0, 0))
  row : Ow nc 1 w B 9 v l
  map : TMap w b l
  bp : B ≤ p
  bb : B ≤ b
  vp : v.ownBlock ≠ some p
  ok : Ok l
theorem Tbl.lt {w : World} {B p b : Nat} {v : Value} {l : Nms} (h : Tbl w B p b v l) : p < w.heap.size := (Array.getElem?_eq_some_iff.1 h.hdr).1
theorem Tbl.pb {w : World} {B p b : Nat} {v : Value} {l : Nms} (h : Tbl w B p b v l) : p ≠ b := by
  rintro rfl
  exact h.map.notCells h.hdr
theorem Tbl.vb {w : World} {B p b : Nat} {v : Value} {l : Nms} (h : Tbl w B p b v l) : v.ownBlock ≠ some b := by
  intro e
  rcases h.row.2 with ⟨rfl, _⟩ | ⟨g, cap, cur, rfl, _, hg, _⟩
  · cases e
  · injection e with e
    subst e
    exact h.map.notCells hg
/-- The blocks that a table lies in. -/
def Tbl.In (p b : Nat) (v : Value) (k : Nat) : Prop := k = p ∨ k = b ∨ v.ownBlock = some k
theorem Tbl.keep {w w' : World} {B p b : Nat} {v : Value} {l : Nms} (h : Tbl w B p b v l) (hk : ∀ k, k < w.heap.size → Tbl.In p b v k → w'.heap[k]? = w.heap[k]?) : Tbl w' B p b v l := by
  refine { h with hdr := (hk p h.lt (.inl rfl)).trans h.hdr, map := h.map.keep (hk b h.map.lt (.inr (.inl rfl))), row := ?_ }
  rcases h.row.2 with ⟨e, h0⟩ | ⟨g, cap, cur, e, h1, h2, h3⟩
  · exact ⟨h.row.1, .inl ⟨e, h0⟩⟩
  · refine ⟨h.row.1, .inr ⟨g, cap, cur, e, h1, ?_, h3⟩⟩
    have hlt := (Array.getElem?_eq_some_iff.1 h2).1
    exact (hk g hlt (.inr (.inr (by rw [e]; rfl)))).trans h2
theorem Tbl.below_ {w w' : World} {B p b : Nat} {v : Value} {l : Nms} (h : Tbl w B p b v l) (hb : Below w.heap.size w w') : Tbl w' B p b v l :=
  h.keep fun k hk _ => hb.block k hk
theorem Tbl.drewN {w : World} {B p b : Nat} {v : Value} {l : Nms} (h : Tbl w B p b v l) (n : Nat) : Tbl (w.drewN n) B p b v l := { h with row := h.row.drewN n }
theorem Tbl.in_lt {w : World} {B p b : Nat} {v : Value} {l : Nms} (h : Tbl w B p b v l) {k : Nat} (hk : Tbl.In p b v k) : B ≤ k ∧ k < w.heap.size := by
  rcases hk with rfl | rfl | hk
  · exact ⟨h.bp, h.lt⟩
  · exact ⟨h.bb, h.map.lt⟩
  · exact h.row.lt hk
/-- What a walk reads. -/
theorem Tbl.open_ {w : World} {B p b : Nat} {v : Value} {l : Nms} (h : Tbl w B p b v l) : ∃ A cap, v = .slice A l.length cap ∧ l.length ≤ cap ∧ cap ≤ maxLen ∧ w.cell? ⟨p, 0, none⟩ = some v ∧ w.cell? ⟨p, 1, none⟩ = some (.map (some b)) ∧ w.frozen? ⟨p, 0, none⟩ = false := by
  obtain ⟨A, cap, e, h1, h2⟩ := h.row.shape
  exact ⟨A, cap, e, h1, h2, by rw [cell_of_row w p 0 _ _ (0, 0) h.hdr]; rfl, by rw [cell_of_row w p 1 _ _ (0, 0) h.hdr]; rfl, by simp [World.frozen?, h.hdr]⟩
/-- Behind a new block and an append to the row of names. -/
theorem Tbl.step {w w2 : World} {B p b k : Nat} {v : Value} {l : Nms} {o : Obj} (h : Tbl w B p b v l) (hg : ((w.drewN k).alloc o).grownBy w2 v.ownBlock) : w2.heap[p]? = w.heap[p]? ∧ w2.heap[b]? = w.heap[b]? := by
  have hg' := grown_of_alloc hg
  exact ⟨hg'.block p h.lt (Ne.symm h.vp), hg'.block b h.map.lt (Ne.symm h.vb)⟩
/-- Behind the store of the new row and the new entry. -/
theorem Tbl.added {w w2 w5 : World} {B p b k : Nat} {v v1 : Value} {l : Nms} {x : List UInt8} {o : Obj} (h : Tbl w B p b v l) (hg : ((w.drewN k).alloc o).grownBy w2 v.ownBlock) (hown : Ow nc 1 w2 B 9 v1 (l ++ [x])) (hm : Moved ((w.drewN k).alloc o) v v1)
    (g5 : (w2.setCell ⟨p, 0, none⟩ v1).grownBy w5 (some b)) (t5 : TMap w5 b (l ++ [x])) (hok : Ok (l ++ [x])) :
    Tbl w5 B p b v1 (l ++ [x]) ∧ w.heap.size ≤ w5.heap.size ∧ (∀ j, j < w.heap.size → ¬ Tbl.In p b v j → w5.heap[j]? = w.heap[j]?) ∧ (v1.ownBlock = v.ownBlock ∨ ∃ g, v1.ownBlock = some g ∧ w.heap.size ≤ g) ∧ w5.os = w.os ∧ w5.tape = w.tape ∧ w5.output = w.output := by
  obtain ⟨s1, s2⟩ := h.step hg
  have hg' := grown_of_alloc hg
  have hm' := moved_of_alloc hm
  have hsz : (w2.setCell ⟨p, 0, none⟩ v1).heap.size = w2.heap.size := by simp [World.setCell]
  have hpw : p < (w2.setCell ⟨p, 0, none⟩ v1).heap.size := by rw [hsz]; exact Nat.lt_of_lt_of_le h.lt hg'.size
  have hv1p : v1.ownBlock ≠ some p := by
    rcases hm' with e | ⟨g, e, hge⟩
    · rw [e]; exact h.vp
    · rw [e]; intro e'; injection e' with e'; have := h.lt; omega
  have hp3 : (w2.setCell ⟨p, 0, none⟩ v1).heap[p]? = some (.cells #[v1, .map (some b)] 56 (0, 0)) := by
    simp [World.setCell, Array.getElem?_modify, s1, h.hdr]
  have hot : ∀ j, j ≠ p → (w2.setCell ⟨p, 0, none⟩ v1).heap[j]? = w2.heap[j]? := fun j hj => Below.heap_setCell w2 _ _ j hj
  have hp5 : w5.heap[p]? = some (.cells #[v1, .map (some b)] 56 (0, 0)) := (g5.block p hpw (by intro e; injection e with e; exact h.pb e)).trans hp3
  have hrow : Ow nc 1 w5 B 9 v1 (l ++ [x]) := by
    rcases hown.2 with ⟨e, h0⟩ | ⟨g, cap, cur, e, h1, h2, h3⟩
    · exact ⟨hown.1, .inl ⟨e, h0⟩⟩
    · have hgo : v1.ownBlock = some g := by rw [e]; rfl
      have hlt := (Array.getElem?_eq_some_iff.1 h2).1
      have hgp : g ≠ p := fun e' => hv1p (by rw [hgo, e'])
      have hgb : g ≠ b := by
        rintro rfl
        rcases hm' with e' | ⟨g', e', hge⟩
        · exact h.vb (by rw [← e', hgo])
        · rw [hgo] at e'; injection e' with e'; have := h.map.lt; omega
      refine ⟨hown.1, .inr ⟨g, cap, cur, e, h1, ?_, h3⟩⟩
      rw [g5.block g (by rw [hsz]; exact hlt) (by intro e'; injection e' with e'; exact hgb e'), hot g hgp]
      exact h2
  refine ⟨⟨hp5, hrow, t5, h.bp, h.bb, hv1p, hok⟩, ?_, fun j hj hn => ?_, hm', ?_, ?_, ?_⟩
  · have := g5.size; have := hg'.size; omega
  · have n1 : j ≠ p := fun e => hn (.inl e)
    have n2 : j ≠ b := fun e => hn (.inr (.inl e))
    have n3 : some j ≠ v.ownBlock := fun e => hn (.inr (.inr e.symm))
    rw [g5.block j (by rw [hsz]; exact Nat.lt_of_lt_of_le hj hg'.size) (by intro e; injection e with e; exact n2 e), hot j n1]
    exact hg'.block j hj n3
  · exact g5.os.trans hg'.os
  · exact g5.tape.trans hg'.tape
  · exact g5.output.trans hg'.output
end Go.Proofs.YtkagfddkfpeddaaDoor
