/- LightSheet at any sheet; what follows (as in ShowLines). -/
import Derived.Test.YteonefgbdphmiaaGreatDoorKl
import Derived.Test.YteonefgbdphmiaaGreatDoorOt
namespace Go.Proofs.YteonefgbdphmiaaGreatDoor
open Go.RowKit
theorem light_any (w : World) (x : SheetM) {P : Nat → Prop} (hg : x.Good w P) :
    Calls Tryz.prog 10 #[x.v, .int .i64 60] w fun e w' => e = .returned (.bool (lightD x.d 60)) ∧ Below w.heap.size w w' := by
  rcases h : fewD x.d 60
  · have h2 : lightD x.d 60 = false := by unfold lightD; rw [h]; rfl
    rw [h2]
    exact lightS_bad w x hg h
  · exact lightS_any w x hg h
theorem light_parts {x : SheetM} (h : lightD x.d 60 = true) : (x.stops.length ≤ 60 ∧ x.paths.length ≤ 60 ∧ x.doors.length ≤ 60 ∧ x.routes.length ≤ 60 ∧ x.trips.length ≤ 60 ∧ x.hazs.length ≤ 60) ∧ ∀ r ∈ x.routes, r.stops.length ≤ 60 ∧ r.rides.length ≤ 60 ∧ r.stays.length ≤ 60 := by
  unfold lightD at h
  rw [Bool.and_eq_true] at h
  have e : x.d.routes.length = x.routes.length := by simp [SheetM.d]
  have h1 := h.1
  unfold fewD at h1
  rw [decide_eq_true_eq, e] at h1
  refine ⟨h1, fun r hr => ?_⟩
  have h2 := List.all_eq_true.1 h.2 r.d (List.mem_map_of_mem hr)
  unfold lightR at h2
  exact of_decide_eq_true h2
theorem light_few {x : SheetM} (h : lightD x.d 60 = true) : x.Few := by
  obtain ⟨⟨h1, h2, h3, h4, h5, h6⟩, h7⟩ := light_parts h
  exact ⟨by omega, by omega, by omega, by omega, by omega, by omega, fun r hr => by have := h7 r hr; omega⟩
theorem light_long {x : SheetM} (h : lightD x.d 60 = true) : longD x.d = false := by
  obtain ⟨⟨h1, h2, h3, h4, h5, h6⟩, h7⟩ := light_parts h
  have e : x.d.routes.length = x.routes.length := by simp [SheetM.d]
  unfold longD
  rw [e]
  exact decide_eq_false (by simp only [SheetM.d]; omega)
theorem arg_names {x : SheetM} {w : World} (h : x.Arg w) : ∀ s ∈ namesD x.d, s.length ≤ maxLen := by
  intro s hs
  unfold namesD at hs
  simp only [List.mem_append, List.mem_flatMap, List.mem_cons, List.not_mem_nil, or_false] at hs
  rcases hs with ((((hs | ⟨p, hp, hs⟩) | ⟨p, hp, hs⟩) | ⟨p, hp, hs⟩) | ⟨p, hp, hs⟩) | ⟨p, hp, hs⟩
  · exact h.stops s hs
  · obtain ⟨h1, h2, h3, _⟩ := h.paths p hp
    rcases hs with rfl | rfl | rfl <;> assumption
  · obtain ⟨h1, h2, h3, _⟩ := h.doors p hp
    rcases hs with rfl | rfl | rfl <;> assumption
  · obtain ⟨r, hr, rfl⟩ := List.mem_map.1 hp
    obtain ⟨h1, _, h2, _⟩ := h.routes r hr
    rcases hs with rfl | hs
    · exact h1
    · exact h2 s hs
  · obtain ⟨h1, h2, _⟩ := h.trips p hp
    rcases hs with rfl | rfl <;> assumption
  · obtain ⟨h1, h2, _⟩ := h.hazs p hp
    rcases hs with rfl | rfl <;> assumption
end Go.Proofs.YteonefgbdphmiaaGreatDoor
