/- The walks of math/bits.OnesCount64, TrailingZeros64; of bitset.Set's Count, Next, List, New. -/
import Derived.Test.YtaaladekamfpnaaDoorBh
import Derived.Test.YtaaladekamfpnaaDoorPp
import Derived.Laws.Bits128
namespace Go.Proofs.YtaaladekamfpnaaDoor
open Go.RowKit Bs

/-- The library's table, as it is laid. -/
def Tab (w : World) : Prop := ∀ j, j < Lib.deBruijn64tab.length → w.cell? ⟨0, j, none⟩ = some (.int .u8 (Lib.deBruijn64tab.getD j 0))
theorem Tab.below {w w' : World} {B : Nat} (h : Tab w) (hb : Below B w w') (hB : 0 < B) : Tab w' := fun j hj => (hb.cell (p := ⟨0, j, none⟩) hB).trans (h j hj)

set_option maxHeartbeats 1000000 in
theorem tz64_core (x k idx : Nat) (w : World) (hx0 : ((x : Int) == 0) = false)
    (key : IntKind.u64.wrap (bits BinOp.and IntKind.u64 (x : Int) (IntKind.u64.wrap (-(x : Int))) * 285870213051353865) / 288230376151711744 = (idx : Int))
    (hi : idx < 64) (hk : k < 64) (hcell : w.cell? ⟨0, idx, none⟩ = some (.int .u8 k)) :
    Calls Tryd.prog 40 #[.int .u64 x] w fun e w' => e = .returned (.int .i64 k) ∧ w = w' := by
  go_enter Tryd.func40, Tryd.ntmps40
  go_wp2_with (simp only [key])
  go_ret
  exact ⟨rfl, rfl⟩
theorem tz64_key (x a : Nat) (hx : x < 18446744073709551616) (hx0 : x ≠ 0) (hlow : x &&& (18446744073709551616 - x) = a) :
    IntKind.u64.wrap (bits BinOp.and IntKind.u64 (x : Int) (IntKind.u64.wrap (-(x : Int))) * 285870213051353865) / 288230376151711744 = ((a * 285870213051353865 % 18446744073709551616 / 288230376151711744 : Nat) : Int) := by
  have e1 : IntKind.u64.wrap (-(x : Int)) = ((18446744073709551616 - x : Nat) : Int) := by rw [IntKind.wrap_u64]; omega
  rw [e1, u64_and_nat x _ hx (by omega), hlow, IntKind.wrap_u64]
  omega
theorem tz64_any (x : Nat) (hx : x < 18446744073709551616) (hx0 : x ≠ 0) (w : World) (hT : Tab w) :
    Calls Tryd.prog 40 #[.int .u64 x] w fun e w' => e = .returned (.int .i64 (Lib.ctz 64 x)) ∧ w = w' := by
  obtain ⟨hlow, hk⟩ := Lib.lowest_bit 64 x hx0 hx
  obtain ⟨hi, htab⟩ := Lib.deBruijn64_at _ hk
  have hcell := hT _ hi
  rw [htab] at hcell
  exact tz64_core x _ _ w (by simp; omega) (tz64_key x _ hx hx0 hlow) hi hk hcell

theorem and_lit (y c : Nat) (hy : y < 18446744073709551616) (hc : c < 18446744073709551616) : bits BinOp.and IntKind.u64 (y : Int) (c : Int) = ((y &&& c : Nat) : Int) := u64_and_nat y c hy hc
theorem wrap_nat (y : Nat) (hy : y < 18446744073709551616) : IntKind.u64.wrap (y : Int) = (y : Int) := by rw [IntKind.wrap_u64]; omega
set_option maxHeartbeats 1000000 in
theorem ones_any (x : Nat) (hx : x < 18446744073709551616) (w : World) :
    Calls Tryd.prog 39 #[.int .u64 x] w fun e w' => e = .returned (.int .i64 (pop x)) ∧ w = w' := by
  have key : ∃ a1 a2 a3 a4 a5 a6 : Nat, IntKind.u64.wrap (bits BinOp.and IntKind.u64 ((x : Int) / 2) 6148914691236517205 + bits BinOp.and IntKind.u64 (x : Int) 6148914691236517205) = (a1 : Int) ∧
      IntKind.u64.wrap (bits BinOp.and IntKind.u64 ((a1 : Int) / 4) 3689348814741910323 + bits BinOp.and IntKind.u64 (a1 : Int) 3689348814741910323) = (a2 : Int) ∧
      bits BinOp.and IntKind.u64 (IntKind.u64.wrap ((a2 : Int) / 16 + (a2 : Int))) 1085102592571150095 = (a3 : Int) ∧ IntKind.u64.wrap ((a3 : Int) + (a3 : Int) / 256) = (a4 : Int) ∧
      IntKind.u64.wrap ((a4 : Int) + (a4 : Int) / 65536) = (a5 : Int) ∧ IntKind.u64.wrap ((a5 : Int) + (a5 : Int) / 4294967296) = (a6 : Int) ∧ bits BinOp.and IntKind.i64 (wrap64 (a6 : Int)) 127 = (pop x : Int) := by
    obtain ⟨s1, s2, s3⟩ := swar x hx _ _ _ _ _ _ rfl rfl rfl rfl rfl rfl
    have m1 : x / 2 &&& 6148914691236517205 ≤ 6148914691236517205 := Nat.and_le_right
    have m2 : x &&& 6148914691236517205 ≤ 6148914691236517205 := Nat.and_le_right
    have e1 := and_lit (x / 2) 6148914691236517205 (by omega) (by decide)
    have e2 := and_lit x 6148914691236517205 hx (by decide)
    generalize x / 2 &&& 6148914691236517205 = b1 at *
    generalize x &&& 6148914691236517205 = b2 at *
    have m3 : (b1 + b2) / 4 &&& 3689348814741910323 ≤ 3689348814741910323 := Nat.and_le_right
    have m4 : (b1 + b2) &&& 3689348814741910323 ≤ 3689348814741910323 := Nat.and_le_right
    have e3 := and_lit ((b1 + b2) / 4) 3689348814741910323 (by omega) (by decide)
    have e4 := and_lit (b1 + b2) 3689348814741910323 (by omega) (by decide)
    generalize hb3 : (b1 + b2) / 4 &&& 3689348814741910323 = b3 at *
    generalize hb4 : (b1 + b2) &&& 3689348814741910323 = b4 at *
    have e5 := and_lit ((b3 + b4) / 16 + (b3 + b4)) 1085102592571150095 (by omega) (by decide)
    generalize ((b3 + b4) / 16 + (b3 + b4)) &&& 1085102592571150095 = a3 at *
    generalize ha4 : a3 + a3 / 256 = a4 at *
    generalize ha5 : a4 + a4 / 65536 = a5 at *
    generalize ha6 : a5 + a5 / 4294967296 = a6 at *
    refine ⟨b1 + b2, b3 + b4, a3, a4, a5, a6, ?_, ?_, ?_, ?_, ?_, ?_, ?_⟩
    · have f1 : bits BinOp.and IntKind.u64 ((x : Int) / 2) 6148914691236517205 = (b1 : Int) := e1
      have f2 : bits BinOp.and IntKind.u64 (x : Int) 6148914691236517205 = (b2 : Int) := e2
      rw [f1, f2, IntKind.wrap_u64]; omega
    · have f1 : bits BinOp.and IntKind.u64 (((b1 + b2 : Nat) : Int) / 4) 3689348814741910323 = (b3 : Int) := e3
      have f2 : bits BinOp.and IntKind.u64 ((b1 + b2 : Nat) : Int) 3689348814741910323 = (b4 : Int) := e4
      rw [f1, f2, IntKind.wrap_u64]; omega
    · have f1 : IntKind.u64.wrap (((b3 + b4 : Nat) : Int) / 16 + ((b3 + b4 : Nat) : Int)) = (((b3 + b4) / 16 + (b3 + b4) : Nat) : Int) := by rw [IntKind.wrap_u64]; omega
      rw [f1]; exact e5
    · rw [IntKind.wrap_u64]; omega
    · rw [IntKind.wrap_u64]; omega
    · rw [IntKind.wrap_u64]; omega
    · rw [i64_and127, ← s2, IntWalk.wrap64_in _ ⟨by omega, by omega⟩]; omega
  obtain ⟨a1, a2, a3, a4, a5, a6, k1, k2, k3, k4, k5, k6, k7⟩ := key
  go_enter Tryd.func39, Tryd.ntmps39
  go_wp2
  go_ret
  exact ⟨rfl, rfl⟩
end Go.Proofs.YtaaladekamfpnaaDoor
