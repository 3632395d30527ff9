/- A sheet that may be is not much (plain). -/
import Derived.Test.YteonefgbdphmiaaGreatDoorQs
namespace Go.Proofs.YteonefgbdphmiaaGreatDoor
open Go.RowKit
/-- A sheet that may be is not much. -/
theorem may_few {x : SheetM} (h : checkD x.d = 0) : x.Few := by
  obtain ⟨hl, _, _, hr⟩ := check_ok h
  unfold longD at hl
  rw [decide_eq_false_iff_not] at hl
  have e : x.d.routes.length = x.routes.length := by simp [SheetM.d]
  rw [e] at hl
  simp only [SheetM.d] at hl
  refine ⟨by omega, by omega, by omega, by omega, by omega, by omega, fun r hr2 => ?_⟩
  have h2 := hr r.d (List.mem_map_of_mem hr2)
  unfold okR at h2
  rw [decide_eq_true_eq] at h2
  have h3 : r.stops.length ≤ 32 := h2.2.1
  have h4 : r.rides.length + 1 = r.stops.length := h2.2.2.1
  have h5 : r.stays.length + 2 = r.stops.length := h2.2.2.2
  omega
theorem may_small {x : SheetM} (h : checkD x.d = 0) : x.Small := by
  have f := may_few h
  have := f.stops; have := f.paths; have := f.doors; have := f.routes; have := f.trips; have := f.hazs
  refine ⟨by omega, by omega, by omega, by omega, by omega, by omega, fun r hr => ?_⟩
  have h3 := f.each r hr
  exact ⟨by omega, by omega, by omega⟩
theorem may_names {d : SheetD} (h : checkD d = 0) : ∀ s ∈ namesD d, s.length ≤ maxLen := fun s hs => Nat.le_trans (Nm.name_len ((check_ok h).2.1 s hs)).2 (by decide)
end Go.Proofs.YteonefgbdphmiaaGreatDoor
