/- A sheet that is an argument, opened, with what its bulk bounds: the lengths of its stops' and trips' names. -/
import Derived.Test.YtmihinhbcncbfaaGreatDoorOt
import Derived.Test.YtmihinhbcncbfaaGreatDoorRows
namespace Go.Proofs.YtmihinhbcncbfaaGreatDoor
open Go.RowKit Go.ChangeShapes Go.WideShapes Go.Deep

theorem bulk_part {H : Type} {d : DataW H} {l : List (DataW H)} (h : d ∈ l) : Rows.uptoBulk d ≤ Rows.uptoBulkAll l := by
  induction l with
  | nil => cases h
  | cons x r ih =>
    simp only [Rows.uptoBulkAll]
    rcases List.mem_cons.1 h with e | e
    · subst e; omega
    · have := ih e; omega
theorem fldM {H : Type} {enc : TypeId × Value → H} {P : Program} {w : World} {base : Nat} {spare : Nat → Bool} {held : Bool} {n M : Nat} {e : TypeId} {cs : List Value} {y : DataW H × List MemPlace} {fs : Array Field}
    (he : P.underlying e = some (.struct fs)) (h : DataW.trod enc P w base spare held n e cs = some y) (hM : Rows.uptoBulk y.1 ≤ M) (i : Nat) (f : Field) (hf : fs[i]? = some f) {T : TypeId} {k : Nat} (hT : f.type = T) (hC : P.cellsOf T = k) {cs' : List Value} (hcs : (cs.drop f.offset).take k = cs') :
    ∃ m y', DataW.trod enc P w base spare held m T cs' = some y' ∧ Rows.uptoBulk y'.1 ≤ M := by
  obtain ⟨xs, m, _, hy, _, hl, hx⟩ := DataW.trod_struct he h
  have h1 := hx i f hf
  subst hT hC hcs
  have hi : i < xs.length := by rw [hl]; exact (Array.getElem?_eq_some_iff.1 hf).1
  refine ⟨m, xs[i], by rw [h1]; exact List.getElem?_eq_getElem hi, ?_⟩
  have h2 : xs[i].1 ∈ xs.map (·.1) := List.mem_map_of_mem (List.getElem_mem hi)
  have h3 := bulk_part h2
  rw [hy] at hM
  simp only [Rows.uptoBulk] at hM
  omega
theorem of_stringM {H : Type} {enc : TypeId × Value → H} {P : Program} {w : World} {base : Nat} {spare : Nat → Bool} {held : Bool} {e : TypeId} {v : Value} {M : Nat} (he : P.underlying e = some .string)
    (h : ∃ n y, DataW.trod enc P w base spare held n e [v] = some y ∧ Rows.uptoBulk y.1 ≤ M) : ∃ x : ByteArray, x.size ≤ maxLen ∧ x.size ≤ M ∧ v = .string x := by
  obtain ⟨n, y, h, hM⟩ := h
  obtain ⟨a, ea, ey, ha⟩ := DataW.trod_string he h
  simp at ea
  refine ⟨a, ha, ?_, ea⟩
  rw [ey] at hM
  simp only [Rows.uptoBulk] at hM
  rw [Nm.len_size] at hM
  omega
theorem drop_M {H : Type} {enc : TypeId × Value → H} {P : Program} {w : World} {base : Nat} {spare : Nat → Bool} {held : Bool} {T : TypeId} {cs' : List Value} {M : Nat} (h : ∃ m y', DataW.trod enc P w base spare held m T cs' = some y' ∧ Rows.uptoBulk y'.1 ≤ M) : ∃ m y', DataW.trod enc P w base spare held m T cs' = some y' := by
  obtain ⟨m, y, h, _⟩ := h
  exact ⟨m, y, h⟩
/-- As DecW, with a bound. -/
def DecM {α : Type} (P : Program) (e : TypeId) (c : α → List Value) (good : Nat → α → Prop) : Prop :=
  ∀ (H : Type) (enc : TypeId × Value → H) (w : World) (base : Nat) (spare : Nat → Bool) (held : Bool) (n M : Nat) (cs : List Value) (y : DataW H × List MemPlace), DataW.trod enc P w base spare held n e cs = some y → Rows.uptoBulk y.1 ≤ M → ∃ x, good M x ∧ cs = c x
/-- The elements of a list that a slice reads as, bounded by its bulk. -/
theorem sl_M {α : Type} {H : Type} {enc : TypeId × Value → H} {P : Program} {w : World} {base : Nat} {spare : Nat → Bool} {held : Bool} {c : α → List Value} {good : Nat → α → Prop} {size M : Nat} {t e : TypeId} {v : Value} {l : List α} {Q : Nat → Prop}
    (ht : P.underlying t = some (.slice e)) (hC : P.cellsOf e = size) (hc : ∀ a, (c a).length = size) (hinj : ∀ a b, c a = c b → a = b) (hdec : DecM P e c good) (hl : Sl c size w v l Q) (h : ∃ n y, DataW.trod enc P w base spare held n t [v] = some y ∧ Rows.uptoBulk y.1 ≤ M) :
    ∀ x ∈ l, good M x := by
  obtain ⟨fuel, y, hf, hM⟩ := h
  intro x hx
  obtain ⟨i, hi, rfl⟩ := List.getElem_of_mem hx
  obtain ⟨b, off, cap, rfl, _, _, _, _, hcc⟩ := hl.at_ hi
  rcases open_slice ht hf with ⟨hcs, _⟩ | ⟨a, len0, cap0, m, n, D, Pl, hcs, _, hl0, hm, hmm, hy, hix⟩
  · simp at hcs
  · simp at hcs
    obtain ⟨rfl, hlen, rfl⟩ := hcs
    have hle : len0 ≤ m := by rw [hmm]; split <;> omega
    have hil : i < len0 := by omega
    obtain ⟨cs', h1, h2⟩ := hix i (by omega)
    have hDM : Rows.uptoBulk (D i) ≤ M := by
      have h3 : D i ∈ (List.range len0).map D := List.mem_map_of_mem (List.mem_range.2 hil)
      have h4 := bulk_part h3
      rw [hy] at hM
      simp only [Rows.uptoBulk] at hM
      omega
    obtain ⟨x', hg, hx'⟩ := hdec _ _ _ _ _ _ _ M _ _ h2 hDM
    obtain ⟨_, hlen2, hcell⟩ := World.cells?_some h1
    rw [hC] at hlen2 hcell
    have heq : c x' = c l[i] := by
      rw [← hx']
      apply List.ext_getElem?
      intro j
      by_cases hj : j < size
      · have g1 := hcell j hj
        have g2 := hcc j _ (List.getElem?_eq_getElem (by rw [hc]; exact hj))
        have hadd : ((⟨b, off, none⟩ : Addr).add (i * P.cellsOf e)).add j = ⟨b, off + i * size + j, none⟩ := by
          rw [Go.Deep.add_add, hC]
          unfold Addr.add
          split
          · rename_i hz; rw [show off + i * size + j = off from by omega]
          · rw [Nat.add_assoc]
        rw [hC] at hadd
        rw [hadd, g2] at g1
        rw [← g1]
        exact (List.getElem?_eq_getElem (by rw [hc]; exact hj)).symm
      · rw [List.getElem?_eq_none (by omega), List.getElem?_eq_none (by rw [hc]; omega)]
    rw [← hinj _ _ heq]
    exact hg
theorem nc_inj : ∀ a b : List UInt8, nc a = nc b → a = b := by
  intro a b h
  simp only [nc, List.cons.injEq, Value.string.injEq, and_true] at h
  exact ba_inj h
theorem trc_inj : ∀ a b : TripD, trc a = trc b → a = b := by
  rintro ⟨a1, a2, a3, a4, a5⟩ ⟨b1, b2, b3, b4, b5⟩ h
  simp only [trc, List.cons.injEq, Value.string.injEq, Value.int.injEq, true_and, and_true] at h
  obtain ⟨h1, h2, h3, h4, h5⟩ := h
  rw [ba_inj h1, ba_inj h2, h3, h4, h5]
theorem decM_nm : DecM Tryz.prog 9 nc (fun M s => s.length ≤ M) := by
  intro H enc w base spare held n M cs y h hM
  obtain ⟨s, h1, hy, h3⟩ := DataW.trod_string Tryz.underlying9 h
  rw [hy] at hM
  simp only [Rows.uptoBulk] at hM
  exact ⟨s.data.toList, by show s.data.toList.length ≤ M; omega, by rw [h1]; simp only [nc, ba_of]⟩
theorem decM_trip : DecM Tryz.prog 40 trc (fun M p => p.name.length ≤ M ∧ p.route.length ≤ M) := by
  intro H enc w base spare held n M cs y h hM
  have U := Tryz.underlying40
  have hl := cells_len U h
  rw [ctrip] at hl
  match cs, hl with
  | [c0, c1, c2, c3, c4], _ =>
    obtain ⟨s0, k0, m0, rfl⟩ := of_stringM Tryz.underlying9 (fldM U h hM 0 _ rfl rfl cs1 (cs' := [c0]) rfl)
    obtain ⟨s1, k1, m1, rfl⟩ := of_stringM Tryz.underlying9 (fldM U h hM 1 _ rfl rfl cs1 (cs' := [c1]) rfl)
    obtain ⟨n2, k2, rfl⟩ := of_int Tryz.underlying2 (fld U h 2 _ rfl rfl ci1 (cs' := [c2]) rfl)
    obtain ⟨n3, k3, rfl⟩ := of_int Tryz.underlying2 (fld U h 3 _ rfl rfl ci1 (cs' := [c3]) rfl)
    obtain ⟨n4, k4, rfl⟩ := of_int Tryz.underlying2 (fld U h 4 _ rfl rfl ci1 (cs' := [c4]) rfl)
    refine ⟨⟨s0.data.toList, s1.data.toList, n2, n3, n4⟩, ⟨?_, ?_⟩, by simp only [trc, ba_of]⟩
    · show s0.data.toList.length ≤ M; rw [Nm.len_size]; exact m0
    · show s1.data.toList.length ≤ M; rw [Nm.len_size]; exact m1
set_option maxRecDepth 100000 in
theorem sheet_M {H : Type} {enc : TypeId × Value → H} {w : World} {base : Nat} {spare : Nat → Bool} {held : Bool} {x : SheetM} {d : DataW H} {p : List MemPlace} {Q : Nat → Prop}
    (hg : x.Good w Q) (h : DataW.Trod enc Tryz.prog w base spare held 29 x.v d p) :
    (∀ s ∈ x.stops, s.length ≤ Rows.uptoBulk d) ∧ ∀ t ∈ x.trips, t.name.length ≤ Rows.uptoBulk d ∧ t.route.length ≤ Rows.uptoBulk d := by
  have U := Tryz.underlying29
  obtain ⟨n, h⟩ := h
  exact ⟨sl_M Tryz.underlying22 cs1 nc_len nc_inj decM_nm hg.stops (fldM U h (Nat.le_refl _) 1 _ rfl rfl cn1 (cs' := [x.vs]) rfl),
    sl_M Tryz.underlying26 ctrip trc_len trc_inj decM_trip hg.trips (fldM U h (Nat.le_refl _) 5 _ rfl rfl clt (cs' := [x.vt]) rfl)⟩
end Go.Proofs.YtmihinhbcncbfaaGreatDoor
