/- The law ShowLines: all inputs. -/
import Derived.Test.YtmihinhbcncbfaaDoorSm
namespace Go.Proofs.YtmihinhbcncbfaaDoor
open Go.RowKit
theorem slines_law (w : World) (x : SheetM) {P : Nat → Prop} (hg : x.Good w P) (ha : x.Arg w) (hT : Tabs w) (hP : Pow w) : Calls Tryd.prog 5 #[x.v] w fun e w' => e = .returned (.bool true) ∧ Below w.heap.size w w' := by
  rcases hl : lightD x.d 60
  · exact slines_dark w x hg ha hT hP hl
  · by_cases hc : checkD x.d = 0
    · exact slines_ok w x hg ha hT hP hl hc
    · exact slines_bad w x hg ha hT hP hl hc
end Go.Proofs.YtmihinhbcncbfaaDoor
