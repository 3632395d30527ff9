/- The walk of timetableref17.lines. -/
import Derived.Test.YtlclkeihkkpdbaaGreatDoorUtx
import Derived.Test.YtlclkeihkkpdbaaGreatDoorUka
namespace Go.Proofs.YtlclkeihkkpdbaaGreatDoor
open Go.RowKit
/-- A row of rows: where it lies, its tokens. -/
structure RowD where
  a : Option Addr
  l : List TokD
  cap : Nat
def RowD.v (r : RowD) : Value := .slice r.a r.l.length r.cap
def rwc (r : RowD) : List Value := [r.v]
theorem rwc_len : ∀ x, (rwc x).length = 1 := fun _ => rfl
theorem rwc_one : ∀ x, ∀ u ∈ rwc x, u.oneCell' = true := by intro x u hu; simp [rwc] at hu; subst hu; rfl
theorem info_rowY : (Tryz.prog.info? 41).map (fun i => (i.zero, i.size, i.bytes)) = some (some (.slice none 0 0), 1, 24) := by kernel_rfl
/-- What lines tells: rows of tokens, as they stand in memory. -/
def RowsAt (w : World) (s : List RowD) : Prop := ∀ r ∈ s, Sl tkc 5 w r.v r.l (fun _ => True)
theorem take_snoc {l : List TokD} {f j : Nat} (hf : f ≤ j) (hj : j < l.length) : (l.take (j + 1)).drop f = (l.take j).drop f ++ [l[j]] := by
  rw [List.take_add_one, List.getElem?_eq_getElem hj, List.drop_append_of_le_length (by rw [List.length_take]; omega)]
  rfl
set_option maxHeartbeats 4000000 in
set_option maxRecDepth 100000 in
theorem ylines_any (v : Value) (l : List TokD) (w : World) {Pr : Nat → Prop} (hs : Sl tkc 5 w v l Pr) (hl : l.length ≤ 1048576) (hord : Order false l) :
    Calls Tryz.prog 17 #[v] w fun e w' => ∃ v' s, e = .returned v' ∧ Ow rwc 1 w' w.heap.size 41 v' s ∧ s.map RowD.l = splitE [] l ∧ RowsAt w' s ∧ s.length ≤ l.length ∧ Below w.heap.size w w' := by
  obtain ⟨i0, hi0, hz0, hz1, hz2⟩ := info_parts info_rowY
  obtain ⟨A0, c0, rfl, hc1, hc2⟩ := hs.shape
  have HS := Lib.hid (hs.mono (P' := fun _ => True) fun _ _ => trivial)
  have HORD := Lib.hid hord
  clear hs hord
  go_enter Tryz.func17, Tryz.ntmps17
  go_wp2_with fail
  go_loopg [3, 4, 5] l.length (fun gg v3 v4 v5 wr => ∃ (j f : Nat) (s : List RowD), j ≤ l.length ∧ l.length - j ≤ gg ∧ f ≤ j ∧ v5 = .int .i64 j ∧ v4 = .int .i64 f ∧ Ow rwc 1 wr w.heap.size 41 v3 s ∧ s.length ≤ j ∧
    splitE [] l = s.map RowD.l ++ splitE ((l.take j).drop f) (l.drop j) ∧ Order (decide (f < j)) (l.drop j) ∧ (∀ r ∈ s, Sl tkc 5 w r.v r.l (fun _ => True)) ∧ Below w.heap.size w wr)
  case atStart => exact ⟨0, 0, [], Nat.zero_le _, by omega, Nat.le_refl _, rfl, rfl, Ow.nil_, Nat.le_refl _, rfl, HORD.out, fun r hr => (by cases hr), Below.refl _ _⟩
  case round =>
    obtain ⟨j, f, s, hj, hgj, hfj, rfl, rfl, ho, hsl, hsp, hor, hrows, hb⟩ := hrel
    obtain ⟨Av, nv, cv, rfl⟩ := ow_form ho
    have HO := Lib.hid ho
    have HB := Lib.hid hb
    have HSP := Lib.hid hsp
    have HOR := Lib.hid hor
    have HROWS := Lib.hid hrows
    clear ho hb hsp hor hrows
    by_cases hjl : j < l.length
    · have q0 : (0 : Int) ≤ (j : Int) := by omega
      have q1 : (j : Int) < (l.length : Int) := by omega
      obtain ⟨b4, o4, c4, e4, _, _, hb4, _, hx4⟩ := HS.out.form (by omega)
      have e5 := (Value.slice.inj e4).1
      have e6 := (Value.slice.inj e4).2.2
      subst e5 e6
      obtain ⟨t, ht⟩ : ∃ t, l[j] = t := ⟨_, rfl⟩
      have hd : l.drop j = t :: l.drop (j + 1) := by rw [List.drop_eq_getElem_cons hjl, ht]
      have hts := take_snoc hfj hjl
      rw [ht] at hts
      have x0 : wr.cell? ⟨b4, o4 + j * 5, none⟩ = some (.int .i64 t.kind) := (HB.out.cell (p := ⟨b4, o4 + j * 5, none⟩) hb4).trans (by simpa using hx4 j t (by rw [List.getElem?_eq_getElem hjl, ht]) 0 _ rfl)
      have hsp := HSP.out
      have hor := HOR.out
      rw [hd] at hsp hor
      obtain ⟨ho1, ho2⟩ := hor
      by_cases h4 : t.kind = 4
      · have k4 : (t.kind == 4) = true := beq_iff_eq.2 h4
        have hfl : f < j := by simpa using ho1 h4
        have hcut := HS.out.part (A' := some ⟨b4, o4 + f * 5, none⟩) (cap' := c0 - f) (i := f) (j := j + 1) (by omega) hjl (fun _ => by simp [Addr.add]) (by omega) (by omega)
        rw [hts] at hcut
        have HCUT := Lib.hid hcut
        have HSP2 := Lib.hid (show splitE [] l = (s.map RowD.l ++ [(l.take j).drop f ++ [t]]) ++ splitE [] (l.drop (j + 1)) by
          rw [hsp, splitE, if_pos h4]; simp)
        have HOR2 := Lib.hid (show Order false (l.drop (j + 1)) by
          have : decide (t.kind ≠ 4) = false := decide_eq_false fun h => h h4
          rw [this] at ho2; exact ho2)
        have hlen : ((l.take j).drop f ++ [t]).length = j + 1 - f := by rw [← hts, List.length_drop, List.length_take]; omega
        have HLEN := Lib.hid hlen
        have hwj : IntKind.i64.wrap ((j : Int) + 1) = ((j + 1 : Nat) : Int) := by rw [IntWalk.i64_in _ (by omega)]; omega
        clear hsp ho1 ho2 h4 ht hd hts hcut hlen hx4 e4
        obtain ⟨row, hrow⟩ : ∃ row : RowD, row = ⟨some ⟨b4, o4 + f * 5, none⟩, (l.take j).drop f ++ [t], c0 - f⟩ := ⟨_, rfl⟩
        have hrv : row.v = .slice (some ⟨b4, o4 + f * 5, none⟩) (j + 1 - f) (c0 - f) := by rw [hrow]; unfold RowD.v; rw [show ((l.take j).drop f ++ [t]).length = j + 1 - f from HLEN.out]
        have hrl : row.l = (l.take j).drop f ++ [t] := by rw [hrow]
        have hrs : Sl tkc 5 w row.v row.l (fun _ => True) := by rw [hrv, hrl]; exact HCUT.out
        have HRV := Lib.hid (show (#[Value.slice (some ⟨b4, o4 + f * 5, none⟩) (j + 1 - f) (c0 - f)] : Array Value).toList = [row].flatMap rwc by rw [← hrv]; rfl)
        have HRL := Lib.hid hrl
        have HRS := Lib.hid hrs
        clear hrow hrv hrl hrs HCUT HLEN
        go_wp2_with (at_builtin; go_loud (refine wpList_append_sl _ rfl _ _ _ rfl w.heap.size 41 i0 _ 24 Tryz.underlying46 hi0 hz0 hz1 hz2 (by rfl) (by omega) rwc_len rwc_one _ _ s [row] rfl rfl (HO.out.alloc _) (Sl.newl [row] rwc_len HRV.out rfl (by show 1 ≤ maxLen; decide) rfl) (by simp only [maxLen, List.length_cons, List.length_nil]; omega) (by simp only [List.length_cons, List.length_nil]; omega) (by have := HB.out.size; simp; omega) ?_; intro v6 w6 hown6 hg6 hmv6))
        have hb6 : Below w.heap.size w w6 := (HB.out.alloc HB.out.size _).grown hg6 (by have := HB.out.size; simp; omega) fun q hq => (HO.out.lt hq).1
        go_roundg (l.length - (j + 1))
        case measure => omega
        case rel =>
          refine ⟨j + 1, j + 1, s ++ [row], by omega, by omega, Nat.le_refl _, by go_num, by go_num, hown6, by rw [List.length_append]; simp only [List.length_cons, List.length_nil]; omega, ?_, ?_, ?_, hb6⟩
          · have hnil : (l.take (j + 1)).drop (j + 1) = [] := List.drop_eq_nil_of_le (by rw [List.length_take]; omega)
            rw [List.map_append, List.map_cons, List.map_nil, HRL.out, hnil]
            exact HSP2.out
          · rw [show decide (j + 1 < j + 1) = false from decide_eq_false (Nat.lt_irrefl _)]
            exact HOR2.out
          · intro r hr
            rcases List.mem_append.1 hr with hr | hr
            · exact HROWS.out r hr
            · rw [List.mem_singleton] at hr; subst hr; exact HRS.out
      · have k4 : (t.kind == 4) = false := beq_eq_false_iff_ne.2 h4
        have HSP2 := Lib.hid (show splitE [] l = s.map RowD.l ++ splitE ((l.take (j + 1)).drop f) (l.drop (j + 1)) by
          rw [hsp, splitE, if_neg h4, hts])
        have HOR2 := Lib.hid (show Order (decide (f < j + 1)) (l.drop (j + 1)) by
          have e1 : decide (t.kind ≠ 4) = true := decide_eq_true h4
          have e2 : decide (f < j + 1) = true := decide_eq_true (by omega)
          rw [e1] at ho2; rw [e2]; exact ho2)
        clear hsp ho1 ho2 h4 ht hd hts hx4 e4
        go_wp2_with fail
        go_roundg (l.length - (j + 1))
        case measure => omega
        case rel => exact ⟨j + 1, f, s, by omega, by omega, by omega, by go_num, rfl, HO.out, by omega, HSP2.out, HOR2.out, HROWS.out, HB.out⟩
    · have hjj : j = l.length := by omega
      have q1 : ¬ (j : Int) < (l.length : Int) := by omega
      have HFIN := Lib.hid (show s.map RowD.l = splitE [] l by
        have h1 := HSP.out
        have h2 := HOR.out
        rw [hjj, List.drop_length] at h1 h2
        have h3 : ¬ f < l.length := by
          intro h
          have : decide (f < l.length) = false := h2
          rw [decide_eq_true h] at this
          cases this
        rw [List.take_length, List.drop_eq_nil_of_le (by omega)] at h1
        rw [h1]
        show _ = _ ++ (if ([] : List TokD) = [] then [] else _)
        rw [if_pos rfl, List.append_nil])
      clear hjj
      go_wp2_with fail
      go_ret
      exact ⟨.slice Av nv cv, rfl, s, HO.out, HFIN.out, fun r hr => (HROWS.out r hr).below_ HB.out, by omega, HB.out⟩
end Go.Proofs.YtlclkeihkkpdbaaGreatDoor
