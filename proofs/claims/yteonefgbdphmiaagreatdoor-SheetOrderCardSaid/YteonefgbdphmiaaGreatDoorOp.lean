/- An argument that is a slice, opened: it reads as a list (nothing of the program). -/
import Derived.Test.YteonefgbdphmiaaGreatDoorNb
import Derived.Deep.Slices
import Derived.Deep.Fields
import Derived.ProofKit
import Derived.ChangeOld
import Derived.OpenShut
import Derived.ShutString
namespace Go.Proofs.YteonefgbdphmiaaGreatDoor
open Go.RowKit Go.ChangeShapes Go.WideShapes Go.Deep

/-- Whatever reads as an element of type e has the cells of a good x. -/
def Dec {α : Type} (P : Program) (e : TypeId) (c : α → List Value) (good : α → Prop) : Prop :=
  ∀ (H : Type) (enc : TypeId × Value → H) (w : World) (base : Nat) (spare : Nat → Bool) (held : Bool) (n : Nat) (cs : List Value) (y : DataW H × List MemPlace), DataW.trod enc P w base spare held n e cs = some y → ∃ x, good x ∧ cs = c x

theorem dec_int {P : Program} {e : TypeId} (he : P.underlying e = some (.int .i64)) : Dec P e (fun x : Int => [Value.int .i64 x]) (fun x => (Lit.int .i64 x).wf = true) := by
  intro H enc w base spare held n cs y h
  obtain ⟨x, h1, _, h3⟩ := DataW.trod_int he h
  exact ⟨x, h3, h1⟩
theorem dec_string {P : Program} {e : TypeId} (he : P.underlying e = some .string) : Dec P e (fun x : ByteArray => [Value.string x]) (fun x => x.size ≤ maxLen) := by
  intro H enc w base spare held n cs y h
  obtain ⟨x, h1, _, h3⟩ := DataW.trod_string he h
  exact ⟨x, h3, h1⟩
theorem dec_pair {P : Program} {e : TypeId} {f0 f1 : Field} (he : P.underlying e = some (.struct #[f0, f1])) (hone : oneCellFields P #[f0, f1] = true) (hC : P.cellsOf e = 2) (h0 : P.underlying f0.type = some (.int .i64)) (h1 : P.underlying f1.type = some (.int .i64)) :
    Dec P e (fun x : Int × Int => [Value.int .i64 x.1, .int .i64 x.2]) (fun x => (Lit.int .i64 x.1).wf = true ∧ (Lit.int .i64 x.2).wf = true) := by
  intro H enc w base spare held n cs y h
  obtain ⟨ys, m, _, _, hlen, _, hf⟩ := DataW.trod_struct he h
  obtain ⟨o0, k0⟩ := hone_of hone 0 f0 rfl
  obtain ⟨o1, k1⟩ := hone_of hone 1 f1 rfl
  rw [hC] at hlen
  match cs, hlen with
  | [c0, c1], _ =>
    have g0 := hf 0 f0 rfl
    have g1 := hf 1 f1 rfl
    rw [o0, k0] at g0
    rw [o1, k1] at g1
    rename_i hl0
    match ys, hl0 with
    | [y0, y1], _ =>
      obtain ⟨a, ea, _, wa⟩ := DataW.trod_int h0 g0
      obtain ⟨b, eb, _, wb⟩ := DataW.trod_int h1 g1
      simp at ea eb
      exact ⟨(a, b), ⟨wa, wb⟩, by rw [ea, eb]⟩

theorem open_sl {α : Type} [Inhabited α] {H : Type} {enc : TypeId × Value → H} {P : Program} {w : World} {base : Nat} {spare : Nat → Bool} {held : Bool} {c : α → List Value} {good : α → Prop} {size : Nat} {t e : TypeId} {v : Value} {d : DataW H} {p : List MemPlace}
    (ht : P.underlying t = some (.slice e)) (hC : P.cellsOf e = size) (hs : 0 < size) (hc : ∀ a, (c a).length = size) (hdec : Dec P e c good) (hv : ∃ a len cap, v = .slice a len cap) (h : DataW.Trod enc P w base spare held t v d p) :
    ∃ l : List α, Sl c size w v l (fun _ => True) ∧ ∀ x ∈ l, good x := by
  obtain ⟨fuel, hf⟩ := h
  obtain ⟨a0, len0, cap0, rfl⟩ := hv
  rcases open_slice ht hf with ⟨hcs, _⟩ | ⟨a, len, cap, m, n, D, Pl, hcs, _, hl, hm, hmm, _, hi⟩
  · simp [Value.cells] at hcs
    obtain ⟨rfl, rfl, rfl⟩ := hcs
    exact ⟨[], Sl.nil_, fun x hx => by cases hx⟩
  · simp [Value.cells] at hcs
    obtain ⟨rfl, rfl, rfl⟩ := hcs
    have hle : len0 ≤ m := by rw [hmm]; split <;> omega
    have key : ∀ i, ∃ x : α, i < len0 → good x ∧ ∀ j u, (c x)[j]? = some u → w.cell? ((a.add (i * size)).add j) = some u := by
      intro i
      by_cases hil : i < len0
      · obtain ⟨cs', h1, h2⟩ := hi i (by omega)
        obtain ⟨x, hg, hx⟩ := hdec _ _ _ _ _ _ _ _ _ h2
        obtain ⟨_, hlen, hcell⟩ := World.cells?_some h1
        rw [hC] at hlen hcell
        refine ⟨x, fun _ => ⟨hg, fun j u hu => ?_⟩⟩
        have hj : j < size := by rw [← hc x]; exact (List.getElem?_eq_some_iff.1 hu).1
        have := hcell j hj
        rw [hx, hu] at this
        exact this
      · exact ⟨default, fun h => absurd h hil⟩
    obtain ⟨f, hf⟩ := Classical.axiomOfChoice key
    have hlen : ((List.range len0).map f).length = len0 := by simp
    refine ⟨(List.range len0).map f, ⟨some a, cap0, by rw [hlen], by rw [hlen]; exact hl, hm, fun hn => ?_⟩, fun x hx => ?_⟩
    · rw [hlen] at hn
      have h0 := (hf 0 hn).2 0 ((c (f 0))[0]'(by rw [hc]; exact hs)) (List.getElem?_eq_getElem _)
      rw [Nat.zero_mul] at h0
      have h0' : w.cell? a = some ((c (f 0))[0]'(by rw [hc]; exact hs)) := by simpa [Addr.add] using h0
      have hspot : a.spot = none := by
        cases hsp : a.spot with
        | none => rfl
        | some q =>
          unfold World.cell? at h0'
          rw [hsp] at h0'
          split at h0' <;> simp at h0'
      obtain ⟨b, off, spot⟩ := a
      have : spot = none := hspot
      subst this
      refine ⟨b, off, rfl, World.block_lt_of_cell? w _ h0', trivial, fun i x hx j u hu => ?_⟩
      rw [List.getElem?_map] at hx
      rcases hr : (List.range len0)[i]? with _ | k
      · rw [hr] at hx; cases hx
      · rw [hr] at hx
        have hki : k = i ∧ i < len0 := by
          obtain ⟨q1, q2⟩ := List.getElem?_eq_some_iff.1 hr
          rw [List.getElem_range] at q2
          exact ⟨q2.symm, by simpa using q1⟩
        obtain ⟨rfl, hk⟩ := hki
        injection hx with hx
        subst hx
        have := (hf k hk).2 j u hu
        rw [Go.Deep.add_add] at this
        have hadd : (⟨b, off, none⟩ : Addr).add (k * size + j) = ⟨b, off + k * size + j, none⟩ := by
          unfold Addr.add
          split
          · rename_i hz; rw [show off + k * size + j = off from by omega]
          · rw [Nat.add_assoc]
        rw [hadd] at this
        exact this
    · obtain ⟨i, hi1, rfl⟩ := List.mem_map.1 hx
      exact (hf i (List.mem_range.1 hi1)).1

end Go.Proofs.YteonefgbdphmiaaGreatDoor
