/- Walks on strings.Builder and strconv.FormatInt, turned to this program from the kit's shelf. -/
import Derived.Test.YtmihinhbcncbfaaGreatDoorNs
import Derived.Lib.AppendIntMem
import Derived.Shelf.Strings.OnBuilder
import Derived.Shelf.Strconv.Itoa4
namespace Go.Proofs.YtmihinhbcncbfaaGreatDoor
open Go.RowKit

def buRen : Go.Shelf.Ren := ⟨fun | 167 => 86 | n => Tryz.lays156_ren.f n, Tryz.lays156_ren.t, Tryz.lays156_ren.g⟩
theorem lays166b : Go.Proofs.Lays.n166 Tryz.prog Tryz.lays156_ren := { Tryz.lays156 with }
theorem lays167b : Go.Proofs.Lays.n167 Tryz.prog buRen := { Tryz.lays156 with f167 := Tryz.func86.trans (congrArg some (by kernel_rfl)), t5 := Tryz.underlying5, a5 := Tryz.isAgg5, z5 := Tryz.sizeOf5, v5 := Tryz.zeroValue5 }
theorem lays169b : Go.Proofs.Lays.n169 Tryz.prog Tryz.lays156_ren := { Tryz.lays156 with }
theorem builderX (r : Go.Shelf.Ren) (h : r.t = Tryz.lays156_ren.t) : Go.Proofs.Builder.Extra Tryz.prog r := by
  obtain ⟨f, t, g⟩ := r
  obtain rfl : t = Tryz.lays156_ren.t := h
  exact { sizeBuilder := by kernel_rfl, liesBuilder := by kernel_rfl, t5 := Tryz.underlying5, a5 := Tryz.isAgg5, z5 := Tryz.sizeOf5, v5 := Tryz.zeroValue5, infoByte := by kernel_rfl, cellsByte := by kernel_rfl, sizeByte := by kernel_rfl, neB5 := (show ¬ (105 : Nat) = 5 by decide) }

/-- The builder at block b holds the bytes l; its row lies at B or behind. -/
def Bld (w : World) (B b : Nat) (l : List UInt8) : Prop := Lib.IsBuilder 105 5 B b (Lib.byteCells l) w
theorem byteCells_app (l m : List UInt8) : Lib.byteCells (l ++ m) = Lib.byteCells l ++ Lib.byteCells m := by unfold Lib.byteCells; rw [List.map_append]
theorem byteCells_len (l : List UInt8) : (Lib.byteCells l).length = l.length := by unfold Lib.byteCells; rw [List.length_map]
theorem wbyte_any (w : World) (B b : Nat) (l : List UInt8) (c : UInt8) (h : Bld w B b l) (hlen : l.length + 1 ≤ 140737488355328) (hB : B ≤ w.heap.size) :
    Calls Tryz.prog 86 #[.pointer (some ⟨b, 0, none⟩), .int .u8 (c.toNat : Int)] w fun e w' => e = .returned .nilIface ∧ Bld w' B b (l ++ [c]) ∧ Below B w w' := by
  refine (Any.Builder_WriteByte lays167b (builderX _ rfl) B b (Lib.byteCells l) (c.toNat : Int) w h (by rw [byteCells_len]; exact hlen) hB).mono ?_
  rintro e w' ⟨he, h1, h2⟩
  exact ⟨he, .inr (by rw [byteCells_app]; exact h1), h2⟩
theorem wstr_any (w : World) (B b : Nat) (l x : List UInt8) (h : Bld w B b l) (hlen : l.length + x.length ≤ 140737488355328) (hB : B ≤ w.heap.size) :
    Calls Tryz.prog 65 #[.pointer (some ⟨b, 0, none⟩), .string (ba x)] w fun e w' => e = .returned (.tuple #[.int .i64 x.length, .nilIface]) ∧ Bld w' B b (l ++ x) ∧ Below B w w' := by
  refine (Any.Builder_WriteString lays166b (builderX _ rfl) B b (Lib.byteCells l) (ba x) w h (by rw [byteCells_len, ba_size]; exact hlen) hB).mono ?_
  rintro e w' ⟨he, h1, h2⟩
  exact ⟨by rw [he, ba_size], .inr (by rw [byteCells_app]; exact h1), h2⟩
theorem bstr_any (w : World) (B b : Nat) (l : List UInt8) (h : Bld w B b l) (hB : B ≤ w.heap.size) :
    Calls Tryz.prog 66 #[.pointer (some ⟨b, 0, none⟩)] w fun e w' => e = .returned (.string (ba l)) ∧ Below B w w' := by
  refine (Any.Builder_String_any lays169b (builderX _ rfl) B b l w h hB).mono ?_
  rintro e w' ⟨he, h2⟩
  exact ⟨he, h2⟩
theorem Bld.below {w w' : World} {B b : Nat} {l : List UInt8} (h : Bld w B b l) (hb : Below w.heap.size w w') : Bld w' B b l := by
  have key : ∀ p, Lib.BuilderAt 105 5 B b p (Lib.byteCells l) w → Lib.BuilderAt 105 5 B b p (Lib.byteCells l) w' := by
    rintro p ⟨h1, v, h2, h3, h4⟩
    refine ⟨h1, v, (hb.block b (Array.getElem?_eq_some_iff.1 h2).1).trans h2, ⟨h3.1, ?_⟩, h4⟩
    rcases h3.2 with ⟨rfl, h0⟩ | ⟨g, cap, cur, rfl, k1, k2, k3⟩
    · exact .inl ⟨rfl, h0⟩
    · exact .inr ⟨g, cap, cur, rfl, k1, (hb.block g (Array.getElem?_eq_some_iff.1 k2).1).trans k2, k3⟩
  rcases h with h | h
  · exact .inl (key _ h)
  · exact .inr (key _ h)
/-- A builder that has just been made. -/
theorem Bld.fresh (w : World) (B : Nat) (hB : B ≤ w.heap.size) : Bld (w.alloc (.cells #[.pointer none, .slice none 0 0] 105)) B w.heap.size [] :=
  .inl ⟨hB, .slice none 0 0, heap_alloc_new w _, World.ownsRow_nil _ _ _ _, by simp [Value.ownBlock]⟩
/-- The table of powers of ten holds what it was laid with. -/
def Pow (w : World) : Prop := Lib.TabIs Tryz.prog w "internal/strconv.uint64pow10" .u64 Lib.pow10Tab
theorem Pow.below {w w' : World} (h : Pow w) (hb : Below w.heap.size w w') : Pow w' := Lib.tabBelow_of_tabIs h w' hb
/-- A number's digits. -/
def dec (n : Int) : List UInt8 := Lib.itoa n
theorem fmt_any (w : World) (n : Int) (h0 : -9223372036854775808 ≤ n) (h1 : n ≤ 9223372036854775807) (hT : Pow w) :
    Calls Tryz.prog 87 #[.int .i64 n, .int .i64 10] w fun e w' => e = .returned (.string (ba (dec n))) ∧ Below w.heap.size w w' := by
  refine (Any.strconv_FormatInt_10 Tryz.laysM173 n h0 h1 w hT).mono ?_
  rintro e w' ⟨he, k, os, rfl⟩
  refine ⟨he, ?_⟩
  exact Lib.below_grow _ _ (Nat.le_refl _) _ _
end Go.Proofs.YtmihinhbcncbfaaGreatDoor
