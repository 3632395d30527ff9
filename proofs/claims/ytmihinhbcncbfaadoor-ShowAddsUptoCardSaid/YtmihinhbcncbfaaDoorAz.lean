/- The law ShowAdds: all inputs whose stops' and trips' names are not too long. -/
import Derived.Test.YtmihinhbcncbfaaDoorAd
namespace Go.Proofs.YtmihinhbcncbfaaDoor
open Go.RowKit
theorem tripL_le {t : TripD} (h1 : t.name.length ≤ 1048576) (h2 : t.route.length ≤ 1048576) (i1 : I64 t.start) (i2 : I64 t.every) (i3 : I64 t.stop) : (tripL t).length ≤ 140737488355328 := by
  refine Nat.le_trans (line_le (tripW t) 1048576 ?_) (by show 1048577 * 10 ≤ _; decide)
  unfold tripW
  intro y hy
  simp only [List.mem_cons, List.not_mem_nil, or_false] at hy
  rcases hy with rfl | rfl | rfl | rfl | rfl | rfl | rfl | rfl | rfl | rfl
  · decide
  · exact h1
  · decide
  · exact h2
  · decide
  · exact Nat.le_trans (dec_le i1) (by decide)
  · decide
  · exact Nat.le_trans (dec_le i2) (by decide)
  · decide
  · exact Nat.le_trans (dec_le i3) (by decide)
theorem adds_law (w : World) (x : SheetM) (n : Int) (tr : Bool) {P : Nat → Prop} (hg : x.Good w P) (ha : x.Arg w) (hT : Tabs w) (hP : Pow w) (hb : (∀ s ∈ x.stops, s.length ≤ 1048576) ∧ ∀ t ∈ x.trips, t.name.length ≤ 1048576 ∧ t.route.length ≤ 1048576) :
    Calls Tryd.prog 3 #[x.v, .int .i64 n, .bool tr] w fun e w' => e = .returned (.bool true) ∧ Below w.heap.size w w' := by
  rcases hl : lightD x.d 60
  · exact adds_dark w x n tr hg ha hT hP hl
  · exact adds_light w x n tr hg ha hT hP hl (fun t ht => tripL_le (hb.2 t ht).1 (hb.2 t ht).2 (ha.trips t ht).2.2.1 (ha.trips t ht).2.2.2.1 (ha.trips t ht).2.2.2.2) (fun s hs => Nat.le_trans (hb.1 s hs) (by decide))
end Go.Proofs.YtmihinhbcncbfaaDoor
