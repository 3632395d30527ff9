/- BitsetScript: the law returns true, whatever the input. -/
import Derived.Test.YtaaladekamfpnaaDoorCg
import Derived.Test.YtaaladekamfpnaaDoorCi
namespace Go.Proofs.YtaaladekamfpnaaDoor
open Go.RowKit Bs

theorem script_any (n m : Int) (va : Value) (l : List (Int × Int)) (w : World) {P : Nat → Prop} (hl : Sl ac 2 w va l P) (hT : Tab w) (hg : 0 < w.heap.size) :
    Calls Tryd.prog 7 #[.int .i64 n, .int .i64 m, va] w fun e w' => e = .returned (.bool true) ∧ Below w.heap.size w w' := by
  obtain ⟨A, cap, e, _, _⟩ := hl.shape
  by_cases hlen : l.length ≤ 150
  · by_cases n1 : 2000 < n ∧ n ≤ 1048576
    · exact script_n n m va l.length cap A w hT hg e hlen n1.1 n1.2
    · by_cases m1 : 2000 < m ∧ m ≤ 1048576
      · by_cases h0 : n ≤ 2000
        · exact script_m1 n m va l.length cap A w hT hg e hlen h0 m1.1 m1.2
        · exact script_m2 n m va l.length cap A w hT hg e hlen (by omega) m1.1 m1.2
      · by_cases hn : n < 0 ∨ 1048576 < n
        · by_cases hm : m < 0 ∨ 1048576 < m
          · exact script_bad n m va l.length cap A w hT hg e hlen hn hm
          · obtain ⟨k, rfl⟩ := Int.eq_ofNat_of_zero_le (show 0 ≤ m by omega)
            exact script_badn n k va l.length cap A w hT hg e hlen hn (by omega)
        · obtain ⟨j, rfl⟩ := Int.eq_ofNat_of_zero_le (show 0 ≤ n by omega)
          by_cases hm : m < 0 ∨ 1048576 < m
          · exact script_badm j m va l.length cap A w hT hg e hlen (by omega) hm
          · obtain ⟨k, rfl⟩ := Int.eq_ofNat_of_zero_le (show 0 ≤ m by omega)
            exact script_ok j k va l w hl hT hg hlen (by omega) (by omega)
  · exact script_long n m va l.length cap A w hT hg e (by omega)
end Go.Proofs.YtaaladekamfpnaaDoor
