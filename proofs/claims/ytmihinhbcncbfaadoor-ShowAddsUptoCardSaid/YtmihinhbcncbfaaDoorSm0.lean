/- What ShowLines needs: plain facts, and the calls at a sheet that is light. -/
import Derived.Test.YtmihinhbcncbfaaDoorTe
import Derived.Test.YtmihinhbcncbfaaDoorNe
import Derived.Test.YtmihinhbcncbfaaDoorKl
import Derived.Test.YtmihinhbcncbfaaDoorOt
import Derived.Test.YtmihinhbcncbfaaDoorVv
namespace Go.Proofs.YtmihinhbcncbfaaDoor
open Go.RowKit

theorem light_any (w : World) (x : SheetM) {P : Nat → Prop} (hg : x.Good w P) :
    Calls Tryd.prog 7 #[x.v, .int .i64 60] w fun e w' => e = .returned (.bool (lightD x.d 60)) ∧ Below w.heap.size w w' := by
  rcases h : fewD x.d 60
  · have h2 : lightD x.d 60 = false := by unfold lightD; rw [h]; rfl
    rw [h2]
    exact lightS_bad w x hg h
  · exact lightS_any w x hg h
theorem light_parts {x : SheetM} (h : lightD x.d 60 = true) : (x.stops.length ≤ 60 ∧ x.paths.length ≤ 60 ∧ x.doors.length ≤ 60 ∧ x.routes.length ≤ 60 ∧ x.trips.length ≤ 60 ∧ x.hazs.length ≤ 60) ∧ ∀ r ∈ x.routes, r.stops.length ≤ 60 ∧ r.rides.length ≤ 60 ∧ r.stays.length ≤ 60 := by
  unfold lightD at h
  rw [Bool.and_eq_true] at h
  have e : x.d.routes.length = x.routes.length := by simp [SheetM.d]
  have h1 := h.1
  unfold fewD at h1
  rw [decide_eq_true_eq, e] at h1
  refine ⟨h1, fun r hr => ?_⟩
  have h2 := List.all_eq_true.1 h.2 r.d (List.mem_map_of_mem hr)
  unfold lightR at h2
  exact of_decide_eq_true h2
theorem light_few {x : SheetM} (h : lightD x.d 60 = true) : x.Few := by
  obtain ⟨⟨h1, h2, h3, h4, h5, h6⟩, h7⟩ := light_parts h
  exact ⟨by omega, by omega, by omega, by omega, by omega, by omega, fun r hr => by have := h7 r hr; omega⟩
theorem light_long {x : SheetM} (h : lightD x.d 60 = true) : longD x.d = false := by
  obtain ⟨⟨h1, h2, h3, h4, h5, h6⟩, h7⟩ := light_parts h
  have e : x.d.routes.length = x.routes.length := by simp [SheetM.d]
  unfold longD
  rw [e]
  exact decide_eq_false (by simp only [SheetM.d]; omega)
theorem arg_names {x : SheetM} {w : World} (h : x.Arg w) : ∀ s ∈ namesD x.d, s.length ≤ maxLen := by
  intro s hs
  unfold namesD at hs
  simp only [List.mem_append, List.mem_flatMap, List.mem_cons, List.not_mem_nil, or_false] at hs
  rcases hs with ((((hs | ⟨p, hp, hs⟩) | ⟨p, hp, hs⟩) | ⟨p, hp, hs⟩) | ⟨p, hp, hs⟩) | ⟨p, hp, hs⟩
  · exact h.stops s hs
  · obtain ⟨h1, h2, h3, _⟩ := h.paths p hp
    rcases hs with rfl | rfl | rfl <;> assumption
  · obtain ⟨h1, h2, h3, _⟩ := h.doors p hp
    rcases hs with rfl | rfl | rfl <;> assumption
  · obtain ⟨r, hr, rfl⟩ := List.mem_map.1 hp
    obtain ⟨h1, _, h2, _⟩ := h.routes r hr
    rcases hs with rfl | hs
    · exact h1
    · exact h2 s hs
  · obtain ⟨h1, h2, _⟩ := h.trips p hp
    rcases hs with rfl | rfl <;> assumption
  · obtain ⟨h1, h2, _⟩ := h.hazs p hp
    rcases hs with rfl | rfl <;> assumption
theorem mid_at {α β : Type} (p r : List β) (q : List α) (f : α → β) (i k : Nat) (h : k < q.length) (hi : i = p.length + k) : (p ++ q.map f ++ r)[i]? = some (f q[k]) := by
  subst hi
  rw [List.getElem?_append_left (by rw [List.length_append, List.length_map]; omega), List.getElem?_append_right (by omega), Nat.add_sub_cancel_left, List.getElem?_map, List.getElem?_eq_getElem h]
  rfl
theorem at_path (x : SheetM) (k : Nat) (h : k < x.paths.length) : (linesD x.d)[1 + x.stops.length + k]? = some (pathL x.paths[k]) := by
  rw [show linesD x.d = ([horL x.hor] ++ x.stops.map stopL) ++ x.paths.map pathL ++ (x.doors.map doorL ++ x.d.routes.map routeL ++ x.trips.map tripL ++ x.hazs.map hazL) by unfold linesD; simp [SheetM.d]]
  exact mid_at _ _ _ _ _ _ h (by simp; omega)
theorem at_door (x : SheetM) (k : Nat) (h : k < x.doors.length) : (linesD x.d)[1 + x.stops.length + x.paths.length + k]? = some (doorL x.doors[k]) := by
  rw [show linesD x.d = ([horL x.hor] ++ x.stops.map stopL ++ x.paths.map pathL) ++ x.doors.map doorL ++ (x.d.routes.map routeL ++ x.trips.map tripL ++ x.hazs.map hazL) by unfold linesD; simp [SheetM.d]]
  exact mid_at _ _ _ _ _ _ h (by simp; omega)
theorem at_route (x : SheetM) (k : Nat) (h : k < x.routes.length) : (linesD x.d)[1 + x.stops.length + x.paths.length + x.doors.length + k]? = some (routeL x.routes[k].d) := by
  rw [show linesD x.d = ([horL x.hor] ++ x.stops.map stopL ++ x.paths.map pathL ++ x.doors.map doorL) ++ x.routes.map (fun r => routeL r.d) ++ (x.trips.map tripL ++ x.hazs.map hazL) by unfold linesD; simp [SheetM.d, Function.comp_def]]
  exact mid_at _ _ _ _ _ _ h (by simp; omega)
theorem at_trip (x : SheetM) (k : Nat) (h : k < x.trips.length) : (linesD x.d)[1 + x.stops.length + x.paths.length + x.doors.length + x.routes.length + k]? = some (tripL x.trips[k]) := by
  rw [show linesD x.d = ([horL x.hor] ++ x.stops.map stopL ++ x.paths.map pathL ++ x.doors.map doorL ++ x.d.routes.map routeL) ++ x.trips.map tripL ++ (x.hazs.map hazL) by unfold linesD; simp [SheetM.d]]
  exact mid_at _ _ _ _ _ _ h (by simp [SheetM.d]; omega)
theorem at_haz (x : SheetM) (k : Nat) (h : k < x.hazs.length) : (linesD x.d)[1 + x.stops.length + x.paths.length + x.doors.length + x.routes.length + x.trips.length + k]? = some (hazL x.hazs[k]) := by
  rw [show linesD x.d = ([horL x.hor] ++ x.stops.map stopL ++ x.paths.map pathL ++ x.doors.map doorL ++ x.d.routes.map routeL ++ x.trips.map tripL) ++ x.hazs.map hazL ++ [] by unfold linesD; simp [SheetM.d]]
  exact mid_at _ _ _ _ _ _ h (by simp [SheetM.d]; omega)
theorem lines_count (x : SheetM) : (linesD x.d).length = 1 + thingsD x.d := by
  unfold linesD thingsD
  simp only [List.length_append, List.length_map, List.length_cons, List.length_nil]
  omega
end Go.Proofs.YtmihinhbcncbfaaDoor
