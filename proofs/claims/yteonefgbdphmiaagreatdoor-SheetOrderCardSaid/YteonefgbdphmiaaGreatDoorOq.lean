/- An argument that is a slice of structs, or a struct with slices, opened (nothing of the program). -/
import Derived.Test.YteonefgbdphmiaaGreatDoorOp
import Derived.Lib.SmallJoins
namespace Go.Proofs.YteonefgbdphmiaaGreatDoor
open Go.RowKit Go.ChangeShapes Go.WideShapes Go.Deep

/-- Whatever reads as an element of type e has the cells of an x that is good in the world. -/
def DecW {α : Type} (P : Program) (e : TypeId) (c : α → List Value) (good : World → α → Prop) : Prop :=
  ∀ (H : Type) (enc : TypeId × Value → H) (w : World) (base : Nat) (spare : Nat → Bool) (held : Bool) (n : Nat) (cs : List Value) (y : DataW H × List MemPlace), DataW.trod enc P w base spare held n e cs = some y → ∃ x, good w x ∧ cs = c x
theorem Dec.w {α : Type} {P : Program} {e : TypeId} {c : α → List Value} {good : α → Prop} (h : Dec P e c good) : DecW P e c (fun _ => good) :=
  fun H enc w base spare held n cs y k => h H enc w base spare held n cs y k
/-- One field of what reads as a struct. -/
theorem fld {H : Type} {enc : TypeId × Value → H} {P : Program} {w : World} {base : Nat} {spare : Nat → Bool} {held : Bool} {n : Nat} {e : TypeId} {cs : List Value} {y : DataW H × List MemPlace} {fs : Array Field}
    (he : P.underlying e = some (.struct fs)) (h : DataW.trod enc P w base spare held n e cs = some y) (i : Nat) (f : Field) (hf : fs[i]? = some f) {T : TypeId} {k : Nat} (hT : f.type = T) (hC : P.cellsOf T = k) {cs' : List Value} (hcs : (cs.drop f.offset).take k = cs') :
    ∃ m y', DataW.trod enc P w base spare held m T cs' = some y' := by
  obtain ⟨xs, m, _, _, _, hl, hx⟩ := DataW.trod_struct he h
  have h1 := hx i f hf
  subst hT hC hcs
  have hi : i < xs.length := by rw [hl]; exact (Array.getElem?_eq_some_iff.1 hf).1
  exact ⟨m, xs[i], by rw [h1]; exact List.getElem?_eq_getElem hi⟩
theorem cells_len {H : Type} {enc : TypeId × Value → H} {P : Program} {w : World} {base : Nat} {spare : Nat → Bool} {held : Bool} {n : Nat} {e : TypeId} {cs : List Value} {y : DataW H × List MemPlace} {fs : Array Field}
    (he : P.underlying e = some (.struct fs)) (h : DataW.trod enc P w base spare held n e cs = some y) : cs.length = P.cellsOf e := by
  obtain ⟨_, _, _, _, h1, _, _⟩ := DataW.trod_struct he h
  exact h1
theorem of_int {H : Type} {enc : TypeId × Value → H} {P : Program} {w : World} {base : Nat} {spare : Nat → Bool} {held : Bool} {e : TypeId} {v : Value} (he : P.underlying e = some (.int .i64))
    (h : ∃ n y, DataW.trod enc P w base spare held n e [v] = some y) : ∃ x, (Lit.int .i64 x).wf = true ∧ v = .int .i64 x := by
  obtain ⟨n, y, h⟩ := h
  obtain ⟨a, ea, _, wa⟩ := DataW.trod_int he h
  simp at ea
  exact ⟨a, wa, ea⟩
theorem of_string {H : Type} {enc : TypeId × Value → H} {P : Program} {w : World} {base : Nat} {spare : Nat → Bool} {held : Bool} {e : TypeId} {v : Value} (he : P.underlying e = some .string)
    (h : ∃ n y, DataW.trod enc P w base spare held n e [v] = some y) : ∃ x : ByteArray, x.size ≤ maxLen ∧ v = .string x := by
  obtain ⟨n, y, h⟩ := h
  obtain ⟨a, ea, _, ha⟩ := DataW.trod_string he h
  simp at ea
  exact ⟨a, ha, ea⟩
theorem of_sl {α : Type} [Inhabited α] {H : Type} {enc : TypeId × Value → H} {P : Program} {w : World} {base : Nat} {spare : Nat → Bool} {held : Bool} {c : α → List Value} {good : World → α → Prop} {size : Nat} {t e : TypeId} {v : Value}
    (ht : P.underlying t = some (.slice e)) (hC : P.cellsOf e = size) (hs : 0 < size) (hc : ∀ a, (c a).length = size) (hdec : DecW P e c good) (h : ∃ n y, DataW.trod enc P w base spare held n t [v] = some y) :
    ∃ l : List α, Sl c size w v l (fun _ => True) ∧ ∀ x ∈ l, good w x := by
  obtain ⟨fuel, y, hf⟩ := h
  rcases open_slice ht hf with ⟨hcs, _⟩ | ⟨a, len0, cap0, m, n, D, Pl, hcs, _, hl, hm, hmm, _, hi⟩
  · simp at hcs
    subst hcs
    exact ⟨[], Sl.nil_, fun x hx => by cases hx⟩
  · simp at hcs
    subst hcs
    have hle : len0 ≤ m := by rw [hmm]; split <;> omega
    have key : ∀ i, ∃ x : α, i < len0 → good w x ∧ ∀ j u, (c x)[j]? = some u → w.cell? ((a.add (i * size)).add j) = some u := by
      intro i
      by_cases hil : i < len0
      · obtain ⟨cs', h1, h2⟩ := hi i (by omega)
        obtain ⟨x, hg, hx⟩ := hdec _ _ _ _ _ _ _ _ _ h2
        obtain ⟨_, hlen, hcell⟩ := World.cells?_some h1
        rw [hC] at hlen hcell
        refine ⟨x, fun _ => ⟨hg, fun j u hu => ?_⟩⟩
        have hj : j < size := by rw [← hc x]; exact (List.getElem?_eq_some_iff.1 hu).1
        have := hcell j hj
        rw [hx, hu] at this
        exact this
      · exact ⟨default, fun h => absurd h hil⟩
    obtain ⟨f, hf⟩ := Classical.axiomOfChoice key
    have hlen : ((List.range len0).map f).length = len0 := by simp
    refine ⟨(List.range len0).map f, ⟨some a, cap0, by rw [hlen], by rw [hlen]; exact hl, hm, fun hn => ?_⟩, fun x hx => ?_⟩
    · rw [hlen] at hn
      have h0 := (hf 0 hn).2 0 ((c (f 0))[0]'(by rw [hc]; exact hs)) (List.getElem?_eq_getElem _)
      rw [Nat.zero_mul] at h0
      have h0' : w.cell? a = some ((c (f 0))[0]'(by rw [hc]; exact hs)) := by simpa [Addr.add] using h0
      have hspot : a.spot = none := by
        cases hsp : a.spot with
        | none => rfl
        | some q =>
          unfold World.cell? at h0'
          rw [hsp] at h0'
          split at h0' <;> simp at h0'
      obtain ⟨b, off, spot⟩ := a
      have : spot = none := hspot
      subst this
      refine ⟨b, off, rfl, World.block_lt_of_cell? w _ h0', trivial, fun i x hx j u hu => ?_⟩
      rw [List.getElem?_map] at hx
      rcases hr : (List.range len0)[i]? with _ | k
      · rw [hr] at hx; cases hx
      · rw [hr] at hx
        have hki : k = i ∧ i < len0 := by
          obtain ⟨q1, q2⟩ := List.getElem?_eq_some_iff.1 hr
          rw [List.getElem_range] at q2
          exact ⟨q2.symm, by simpa using q1⟩
        obtain ⟨rfl, hk⟩ := hki
        injection hx with hx
        subst hx
        have := (hf k hk).2 j u hu
        rw [Go.Deep.add_add] at this
        have hadd : (⟨b, off, none⟩ : Addr).add (k * size + j) = ⟨b, off + k * size + j, none⟩ := by
          unfold Addr.add
          split
          · rename_i hz; rw [show off + k * size + j = off from by omega]
          · rw [Nat.add_assoc]
        rw [hadd] at this
        exact this
    · obtain ⟨i, hi1, rfl⟩ := List.mem_map.1 hx
      exact (hf i (List.mem_range.1 hi1)).1
end Go.Proofs.YteonefgbdphmiaaGreatDoor
