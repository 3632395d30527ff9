/- An argument that is a slice, opened: it reads as a list (nothing of the program). -/
import Derived.Test.YtlclkeihkkpdbaaGreatDoorSl
import Derived.Deep.Slices
import Derived.Deep.Fields
import Derived.ProofKit
import Derived.ChangeOld
import Derived.OpenShut
import Derived.ShutString
import Derived.Lib.SmallJoins
import Derived.Test.YtlclkeihkkpdbaaGreatDoorUa
import Derived.DataShut
namespace Go.Proofs.YtlclkeihkkpdbaaGreatDoor
open Go.RowKit Go.ChangeShapes Go.WideShapes Go.Deep

/-- Whatever reads as an element of type e has the cells of a good x. -/
def Dec {α : Type} (P : Program) (e : TypeId) (c : α → List Value) (good : α → Prop) : Prop :=
  ∀ (H : Type) (enc : TypeId × Value → H) (w : World) (base : Nat) (spare : Nat → Bool) (held : Bool) (n : Nat) (cs : List Value) (y : DataW H × List MemPlace), DataW.trod enc P w base spare held n e cs = some y → ∃ x, good x ∧ cs = c x

theorem dec_int {P : Program} {e : TypeId} (he : P.underlying e = some (.int .i64)) : Dec P e (fun x : Int => [Value.int .i64 x]) (fun x => (Lit.int .i64 x).wf = true) := by
  intro H enc w base spare held n cs y h
  obtain ⟨x, h1, _, h3⟩ := DataW.trod_int he h
  exact ⟨x, h3, h1⟩
theorem dec_string {P : Program} {e : TypeId} (he : P.underlying e = some .string) : Dec P e (fun x : ByteArray => [Value.string x]) (fun x => x.size ≤ maxLen) := by
  intro H enc w base spare held n cs y h
  obtain ⟨x, h1, _, h3⟩ := DataW.trod_string he h
  exact ⟨x, h3, h1⟩
theorem dec_pair {P : Program} {e : TypeId} {f0 f1 : Field} (he : P.underlying e = some (.struct #[f0, f1])) (hone : oneCellFields P #[f0, f1] = true) (hC : P.cellsOf e = 2) (h0 : P.underlying f0.type = some (.int .i64)) (h1 : P.underlying f1.type = some (.int .i64)) :
    Dec P e (fun x : Int × Int => [Value.int .i64 x.1, .int .i64 x.2]) (fun x => (Lit.int .i64 x.1).wf = true ∧ (Lit.int .i64 x.2).wf = true) := by
  intro H enc w base spare held n cs y h
  obtain ⟨ys, m, _, _, hlen, _, hf⟩ := DataW.trod_struct he h
  obtain ⟨o0, k0⟩ := hone_of hone 0 f0 rfl
  obtain ⟨o1, k1⟩ := hone_of hone 1 f1 rfl
  rw [hC] at hlen
  match cs, hlen with
  | [c0, c1], _ =>
    have g0 := hf 0 f0 rfl
    have g1 := hf 1 f1 rfl
    rw [o0, k0] at g0
    rw [o1, k1] at g1
    rename_i hl0
    match ys, hl0 with
    | [y0, y1], _ =>
      obtain ⟨a, ea, _, wa⟩ := DataW.trod_int h0 g0
      obtain ⟨b, eb, _, wb⟩ := DataW.trod_int h1 g1
      simp at ea eb
      exact ⟨(a, b), ⟨wa, wb⟩, by rw [ea, eb]⟩

theorem open_sl {α : Type} [Inhabited α] {H : Type} {enc : TypeId × Value → H} {P : Program} {w : World} {base : Nat} {spare : Nat → Bool} {held : Bool} {c : α → List Value} {good : α → Prop} {size : Nat} {t e : TypeId} {v : Value} {d : DataW H} {p : List MemPlace}
    (ht : P.underlying t = some (.slice e)) (hC : P.cellsOf e = size) (hs : 0 < size) (hc : ∀ a, (c a).length = size) (hdec : Dec P e c good) (hv : ∃ a len cap, v = .slice a len cap) (h : DataW.Trod enc P w base spare held t v d p) :
    ∃ l : List α, Sl c size w v l (fun _ => True) ∧ ∀ x ∈ l, good x := by
  obtain ⟨fuel, hf⟩ := h
  obtain ⟨a0, len0, cap0, rfl⟩ := hv
  rcases open_slice ht hf with ⟨hcs, _⟩ | ⟨a, len, cap, m, n, D, Pl, hcs, _, hl, hm, hmm, _, hi⟩
  · simp [Value.cells] at hcs
    obtain ⟨rfl, rfl, rfl⟩ := hcs
    exact ⟨[], Sl.nil_, fun x hx => by cases hx⟩
  · simp [Value.cells] at hcs
    obtain ⟨rfl, rfl, rfl⟩ := hcs
    have hle : len0 ≤ m := by rw [hmm]; split <;> omega
    have key : ∀ i, ∃ x : α, i < len0 → good x ∧ ∀ j u, (c x)[j]? = some u → w.cell? ((a.add (i * size)).add j) = some u := by
      intro i
      by_cases hil : i < len0
      · obtain ⟨cs', h1, h2⟩ := hi i (by omega)
        obtain ⟨x, hg, hx⟩ := hdec _ _ _ _ _ _ _ _ _ h2
        obtain ⟨_, hlen, hcell⟩ := World.cells?_some h1
        rw [hC] at hlen hcell
        refine ⟨x, fun _ => ⟨hg, fun j u hu => ?_⟩⟩
        have hj : j < size := by rw [← hc x]; exact (List.getElem?_eq_some_iff.1 hu).1
        have := hcell j hj
        rw [hx, hu] at this
        exact this
      · exact ⟨default, fun h => absurd h hil⟩
    obtain ⟨f, hf⟩ := Classical.axiomOfChoice key
    have hlen : ((List.range len0).map f).length = len0 := by simp
    refine ⟨(List.range len0).map f, ⟨some a, cap0, by rw [hlen], by rw [hlen]; exact hl, hm, fun hn => ?_⟩, fun x hx => ?_⟩
    · rw [hlen] at hn
      have h0 := (hf 0 hn).2 0 ((c (f 0))[0]'(by rw [hc]; exact hs)) (List.getElem?_eq_getElem _)
      rw [Nat.zero_mul] at h0
      have h0' : w.cell? a = some ((c (f 0))[0]'(by rw [hc]; exact hs)) := by simpa [Addr.add] using h0
      have hspot : a.spot = none := by
        cases hsp : a.spot with
        | none => rfl
        | some q =>
          unfold World.cell? at h0'
          rw [hsp] at h0'
          split at h0' <;> simp at h0'
      obtain ⟨b, off, spot⟩ := a
      have : spot = none := hspot
      subst this
      refine ⟨b, off, rfl, World.block_lt_of_cell? w _ h0', trivial, fun i x hx j u hu => ?_⟩
      rw [List.getElem?_map] at hx
      rcases hr : (List.range len0)[i]? with _ | k
      · rw [hr] at hx; cases hx
      · rw [hr] at hx
        have hki : k = i ∧ i < len0 := by
          obtain ⟨q1, q2⟩ := List.getElem?_eq_some_iff.1 hr
          rw [List.getElem_range] at q2
          exact ⟨q2.symm, by simpa using q1⟩
        obtain ⟨rfl, hk⟩ := hki
        injection hx with hx
        subst hx
        have := (hf k hk).2 j u hu
        rw [Go.Deep.add_add] at this
        have hadd : (⟨b, off, none⟩ : Addr).add (k * size + j) = ⟨b, off + k * size + j, none⟩ := by
          unfold Addr.add
          split
          · rename_i hz; rw [show off + k * size + j = off from by omega]
          · rw [Nat.add_assoc]
        rw [hadd] at this
        exact this
    · obtain ⟨i, hi1, rfl⟩ := List.mem_map.1 hx
      exact (hf i (List.mem_range.1 hi1)).1

end Go.Proofs.YtlclkeihkkpdbaaGreatDoor
/- An argument that is a slice of structs, or a struct with slices, opened (nothing of the program). -/
namespace Go.Proofs.YtlclkeihkkpdbaaGreatDoor
open Go.RowKit Go.ChangeShapes Go.WideShapes Go.Deep

/-- Whatever reads as an element of type e has the cells of an x that is good in the world. -/
def DecW {α : Type} (P : Program) (e : TypeId) (c : α → List Value) (good : World → α → Prop) : Prop :=
  ∀ (H : Type) (enc : TypeId × Value → H) (w : World) (base : Nat) (spare : Nat → Bool) (held : Bool) (n : Nat) (cs : List Value) (y : DataW H × List MemPlace), DataW.trod enc P w base spare held n e cs = some y → ∃ x, good w x ∧ cs = c x
theorem Dec.w {α : Type} {P : Program} {e : TypeId} {c : α → List Value} {good : α → Prop} (h : Dec P e c good) : DecW P e c (fun _ => good) :=
  fun H enc w base spare held n cs y k => h H enc w base spare held n cs y k
/-- One field of what reads as a struct. -/
theorem fld {H : Type} {enc : TypeId × Value → H} {P : Program} {w : World} {base : Nat} {spare : Nat → Bool} {held : Bool} {n : Nat} {e : TypeId} {cs : List Value} {y : DataW H × List MemPlace} {fs : Array Field}
    (he : P.underlying e = some (.struct fs)) (h : DataW.trod enc P w base spare held n e cs = some y) (i : Nat) (f : Field) (hf : fs[i]? = some f) {T : TypeId} {k : Nat} (hT : f.type = T) (hC : P.cellsOf T = k) {cs' : List Value} (hcs : (cs.drop f.offset).take k = cs') :
    ∃ m y', DataW.trod enc P w base spare held m T cs' = some y' := by
  obtain ⟨xs, m, _, _, _, hl, hx⟩ := DataW.trod_struct he h
  have h1 := hx i f hf
  subst hT hC hcs
  have hi : i < xs.length := by rw [hl]; exact (Array.getElem?_eq_some_iff.1 hf).1
  exact ⟨m, xs[i], by rw [h1]; exact List.getElem?_eq_getElem hi⟩
theorem cells_len {H : Type} {enc : TypeId × Value → H} {P : Program} {w : World} {base : Nat} {spare : Nat → Bool} {held : Bool} {n : Nat} {e : TypeId} {cs : List Value} {y : DataW H × List MemPlace} {fs : Array Field}
    (he : P.underlying e = some (.struct fs)) (h : DataW.trod enc P w base spare held n e cs = some y) : cs.length = P.cellsOf e := by
  obtain ⟨_, _, _, _, h1, _, _⟩ := DataW.trod_struct he h
  exact h1
theorem of_int {H : Type} {enc : TypeId × Value → H} {P : Program} {w : World} {base : Nat} {spare : Nat → Bool} {held : Bool} {e : TypeId} {v : Value} (he : P.underlying e = some (.int .i64))
    (h : ∃ n y, DataW.trod enc P w base spare held n e [v] = some y) : ∃ x, (Lit.int .i64 x).wf = true ∧ v = .int .i64 x := by
  obtain ⟨n, y, h⟩ := h
  obtain ⟨a, ea, _, wa⟩ := DataW.trod_int he h
  simp at ea
  exact ⟨a, wa, ea⟩
theorem of_string {H : Type} {enc : TypeId × Value → H} {P : Program} {w : World} {base : Nat} {spare : Nat → Bool} {held : Bool} {e : TypeId} {v : Value} (he : P.underlying e = some .string)
    (h : ∃ n y, DataW.trod enc P w base spare held n e [v] = some y) : ∃ x : ByteArray, x.size ≤ maxLen ∧ v = .string x := by
  obtain ⟨n, y, h⟩ := h
  obtain ⟨a, ea, _, ha⟩ := DataW.trod_string he h
  simp at ea
  exact ⟨a, ha, ea⟩
theorem of_sl {α : Type} [Inhabited α] {H : Type} {enc : TypeId × Value → H} {P : Program} {w : World} {base : Nat} {spare : Nat → Bool} {held : Bool} {c : α → List Value} {good : World → α → Prop} {size : Nat} {t e : TypeId} {v : Value}
    (ht : P.underlying t = some (.slice e)) (hC : P.cellsOf e = size) (hs : 0 < size) (hc : ∀ a, (c a).length = size) (hdec : DecW P e c good) (h : ∃ n y, DataW.trod enc P w base spare held n t [v] = some y) :
    ∃ l : List α, Sl c size w v l (fun _ => True) ∧ ∀ x ∈ l, good w x := by
  obtain ⟨fuel, y, hf⟩ := h
  rcases open_slice ht hf with ⟨hcs, _⟩ | ⟨a, len0, cap0, m, n, D, Pl, hcs, _, hl, hm, hmm, _, hi⟩
  · simp at hcs
    subst hcs
    exact ⟨[], Sl.nil_, fun x hx => by cases hx⟩
  · simp at hcs
    subst hcs
    have hle : len0 ≤ m := by rw [hmm]; split <;> omega
    have key : ∀ i, ∃ x : α, i < len0 → good w x ∧ ∀ j u, (c x)[j]? = some u → w.cell? ((a.add (i * size)).add j) = some u := by
      intro i
      by_cases hil : i < len0
      · obtain ⟨cs', h1, h2⟩ := hi i (by omega)
        obtain ⟨x, hg, hx⟩ := hdec _ _ _ _ _ _ _ _ _ h2
        obtain ⟨_, hlen, hcell⟩ := World.cells?_some h1
        rw [hC] at hlen hcell
        refine ⟨x, fun _ => ⟨hg, fun j u hu => ?_⟩⟩
        have hj : j < size := by rw [← hc x]; exact (List.getElem?_eq_some_iff.1 hu).1
        have := hcell j hj
        rw [hx, hu] at this
        exact this
      · exact ⟨default, fun h => absurd h hil⟩
    obtain ⟨f, hf⟩ := Classical.axiomOfChoice key
    have hlen : ((List.range len0).map f).length = len0 := by simp
    refine ⟨(List.range len0).map f, ⟨some a, cap0, by rw [hlen], by rw [hlen]; exact hl, hm, fun hn => ?_⟩, fun x hx => ?_⟩
    · rw [hlen] at hn
      have h0 := (hf 0 hn).2 0 ((c (f 0))[0]'(by rw [hc]; exact hs)) (List.getElem?_eq_getElem _)
      rw [Nat.zero_mul] at h0
      have h0' : w.cell? a = some ((c (f 0))[0]'(by rw [hc]; exact hs)) := by simpa [Addr.add] using h0
      have hspot : a.spot = none := by
        cases hsp : a.spot with
        | none => rfl
        | some q =>
          unfold World.cell? at h0'
          rw [hsp] at h0'
          split at h0' <;> simp at h0'
      obtain ⟨b, off, spot⟩ := a
      have : spot = none := hspot
      subst this
      refine ⟨b, off, rfl, World.block_lt_of_cell? w _ h0', trivial, fun i x hx j u hu => ?_⟩
      rw [List.getElem?_map] at hx
      rcases hr : (List.range len0)[i]? with _ | k
      · rw [hr] at hx; cases hx
      · rw [hr] at hx
        have hki : k = i ∧ i < len0 := by
          obtain ⟨q1, q2⟩ := List.getElem?_eq_some_iff.1 hr
          rw [List.getElem_range] at q2
          exact ⟨q2.symm, by simpa using q1⟩
        obtain ⟨rfl, hk⟩ := hki
        injection hx with hx
        subst hx
        have := (hf k hk).2 j u hu
        rw [Go.Deep.add_add] at this
        have hadd : (⟨b, off, none⟩ : Addr).add (k * size + j) = ⟨b, off + k * size + j, none⟩ := by
          unfold Addr.add
          split
          · rename_i hz; rw [show off + k * size + j = off from by omega]
          · rw [Nat.add_assoc]
        rw [hadd] at this
        exact this
    · obtain ⟨i, hi1, rfl⟩ := List.mem_map.1 hx
      exact (hf i (List.mem_range.1 hi1)).1
end Go.Proofs.YtlclkeihkkpdbaaGreatDoor
/- An update that is an argument, or a slice of updates, opened. -/
namespace Go.Proofs.YtlclkeihkkpdbaaGreatDoor
open Go.RowKit Go.ChangeShapes Go.WideShapes Go.Deep
def IsI (n : Int) : Prop := -9223372036854775808 ≤ n ∧ n ≤ 9223372036854775807
theorem of_wfU {n : Int} (h : (Lit.int .i64 n).wf = true) : IsI n := by
  have := (Lit.wf_int_iff .i64 n).1 h
  exact ⟨this.1, this.2⟩
/-- What an update obeys that comes as an argument. -/
structure GUpd (u : UpD) : Prop where
  name : u.name.length ≤ maxLen
  kind : IsI u.kind
  no : IsI u.no
  pos : IsI u.pos
  by_ : IsI u.by_
  from_ : IsI u.from_
  every : IsI u.every
  len : IsI u.len
theorem sl_ofU {s : ByteArray} (h : s.size ≤ maxLen) : s.data.toList.length ≤ maxLen := by rw [Nm.len_size]; exact h
theorem cs1U : Tryz.prog.cellsOf 9 = 1 := by kernel_rfl
theorem ci1U : Tryz.prog.cellsOf 2 = 1 := by kernel_rfl
theorem cj1U : Tryz.prog.cellsOf 3 = 1 := by kernel_rfl
theorem ct3U : Tryz.prog.cellsOf 23 = 3 := by kernel_rfl
theorem cu8U : Tryz.prog.cellsOf 25 = 8 := by kernel_rfl
theorem upd_list {H : Type} {enc : TypeId × Value → H} {w : World} {base : Nat} {spare : Nat → Bool} {held : Bool} {n : Nat} {cs : List Value} {y : DataW H × List MemPlace} (h : DataW.trod enc Tryz.prog w base spare held n 25 cs = some y) :
    ∃ u : UpD, GUpd u ∧ cs = upc u := by
  have U := Tryz.underlying25
  have hl := cells_len U h
  rw [cu8U] at hl
  match cs, hl with
  | [c0, c1, c2, c3, c4, c5, c6, c7], _ =>
    obtain ⟨n0, k0, rfl⟩ := of_int Tryz.underlying3 (fld U h 0 _ rfl rfl cj1U (cs' := [c0]) rfl)
    obtain ⟨s1, k1, rfl⟩ := of_string Tryz.underlying9 (fld U h 1 _ rfl rfl cs1U (cs' := [c1]) rfl)
    obtain ⟨n2, k2, rfl⟩ := of_int Tryz.underlying3 (fld U h 2 _ rfl rfl cj1U (cs' := [c2]) rfl)
    obtain ⟨n3, k3, rfl⟩ := of_int Tryz.underlying3 (fld U h 3 _ rfl rfl cj1U (cs' := [c3]) rfl)
    obtain ⟨n4, k4, rfl⟩ := of_int Tryz.underlying2 (fld U h 4 _ rfl rfl ci1U (cs' := [c4]) rfl)
    obtain ⟨m, z, hz⟩ := fld U h 5 _ rfl rfl ct3U (cs' := [c5, c6, c7]) rfl
    have V := Tryz.underlying23
    obtain ⟨n5, k5, rfl⟩ := of_int Tryz.underlying2 (fld V hz 0 _ rfl rfl ci1U (cs' := [c5]) rfl)
    obtain ⟨n6, k6, rfl⟩ := of_int Tryz.underlying2 (fld V hz 1 _ rfl rfl ci1U (cs' := [c6]) rfl)
    obtain ⟨n7, k7, rfl⟩ := of_int Tryz.underlying2 (fld V hz 2 _ rfl rfl ci1U (cs' := [c7]) rfl)
    exact ⟨⟨n0, s1.data.toList, n2, n3, n4, n5, n6, n7⟩, ⟨sl_ofU k1, of_wfU k0, of_wfU k2, of_wfU k3, of_wfU k4, of_wfU k5, of_wfU k6, of_wfU k7⟩, by simp only [upc, ba_of]⟩
theorem dec_upd : Dec Tryz.prog 25 upc GUpd := fun _ _ _ _ _ _ _ _ _ h => upd_list h
instance : Inhabited UpD := ⟨⟨0, [], 0, 0, 0, 0, 0, 0⟩⟩
set_option maxRecDepth 100000 in
theorem open_upd {H : Type} {enc : TypeId × Value → H} {w : World} {base b0 : Nat} {spare : Nat → Bool} {held : Bool} {r : Reach} {v : Value} {d : DataW H} {p : List MemPlace}
    (hv : Value.okWide Tryz.prog w r b0 25 v) (h : DataW.Trod enc Tryz.prog w base spare held 25 v d p) :
    ∃ u : UpD, v = .agg (upc u).toArray ∧ GUpd u := by
  obtain ⟨cs, rfl, _⟩ := okWide_struct Tryz.underlying25 hv
  obtain ⟨l, rfl⟩ : ∃ l : List Value, cs = l.toArray := ⟨cs.toList, by simp⟩
  obtain ⟨n, h⟩ := h
  obtain ⟨u, hu, e⟩ := upd_list h
  exact ⟨u, by rw [show l = upc u from e], hu⟩
end Go.Proofs.YtlclkeihkkpdbaaGreatDoor
