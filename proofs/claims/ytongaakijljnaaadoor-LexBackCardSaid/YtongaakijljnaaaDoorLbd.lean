/- Walks on strings.Builder and strconv.FormatInt, turned to this program from the kit's shelf. -/
import Derived.Test.YtongaakijljnaaaDoorLo
import Derived.Test.YtongaakijljnaaaDoorShelf
import Derived.Lib.AppendIntMem
import Derived.Shelf.Strings.OnBuilder
import Derived.Shelf.Strings.BuilderK
import Derived.Shelf.Strconv.Itoa4
namespace Go.Proofs.YtongaakijljnaaaDoor
open Go.RowKit

def buRen : Go.Shelf.Ren := ⟨fun | 166 => 27 | 167 => 26 | 169 => 29 | 240 => 44 | 276 => 52 | n => n,
  fun | 3 => 3 | 4 => 4 | 5 => 5 | 9 => 9 | 20 => 20 | 37 => 38 | 70 => 57 | 72 => 59 | 75 => 61 | 80 => 66 | 127 => 77 | 164 => 88 | n => n, fun | n => n⟩
theorem lays166b : Go.Proofs.Lays.n166 Tryd.prog buRen := { mixed := by kernel_rfl, f166 := Tryd.func27.trans (congrArg some (by kernel_rfl)), f240 := Tryd.func44.trans (congrArg some (by kernel_rfl)), f276 := Tryd.func52.trans (congrArg some (by kernel_rfl)), t0 := Tryd.underlying0, a0 := Tryd.isAgg0, z0 := Tryd.sizeOf0, v0 := Tryd.zeroValue0, t3 := Tryd.underlying3, a3 := Tryd.isAgg3, z3 := Tryd.sizeOf3, v3 := Tryd.zeroValue3, t4 := Tryd.underlying4, a4 := Tryd.isAgg4, z4 := Tryd.sizeOf4, v4 := Tryd.zeroValue4, t9 := Tryd.underlying9, a9 := Tryd.isAgg9, z9 := Tryd.sizeOf9, v9 := Tryd.zeroValue9, t20 := Tryd.underlying20, a20 := Tryd.isAgg20, z20 := Tryd.sizeOf20, v20 := Tryd.zeroValue20, t37 := Tryd.underlying38, a37 := Tryd.isAgg38, z37 := Tryd.sizeOf38, v37 := Tryd.zeroValue38, t70 := Tryd.underlying57, a70 := Tryd.isAgg57, z70 := Tryd.sizeOf57, v70 := Tryd.zeroValue57, t72 := Tryd.underlying59, a72 := Tryd.isAgg59, z72 := Tryd.sizeOf59, v72 := Tryd.zeroValue59, t75 := Tryd.underlying61, a75 := Tryd.isAgg61, z75 := Tryd.sizeOf61, v75 := Tryd.zeroValue61, t164 := Tryd.underlying88, a164 := Tryd.isAgg88, z164 := Tryd.sizeOf88, v164 := Tryd.zeroValue88 }
theorem lays167b : Go.Proofs.Lays.n167 Tryd.prog buRen := { mixed := by kernel_rfl, f167 := Tryd.func26.trans (congrArg some (by kernel_rfl)), f240 := Tryd.func44.trans (congrArg some (by kernel_rfl)), f276 := Tryd.func52.trans (congrArg some (by kernel_rfl)), t0 := Tryd.underlying0, a0 := Tryd.isAgg0, z0 := Tryd.sizeOf0, v0 := Tryd.zeroValue0, t4 := Tryd.underlying4, a4 := Tryd.isAgg4, z4 := Tryd.sizeOf4, v4 := Tryd.zeroValue4, t5 := Tryd.underlying5, a5 := Tryd.isAgg5, z5 := Tryd.sizeOf5, v5 := Tryd.zeroValue5, t9 := Tryd.underlying9, a9 := Tryd.isAgg9, z9 := Tryd.sizeOf9, v9 := Tryd.zeroValue9, t20 := Tryd.underlying20, a20 := Tryd.isAgg20, z20 := Tryd.sizeOf20, v20 := Tryd.zeroValue20, t37 := Tryd.underlying38, a37 := Tryd.isAgg38, z37 := Tryd.sizeOf38, v37 := Tryd.zeroValue38, t70 := Tryd.underlying57, a70 := Tryd.isAgg57, z70 := Tryd.sizeOf57, v70 := Tryd.zeroValue57, t72 := Tryd.underlying59, a72 := Tryd.isAgg59, z72 := Tryd.sizeOf59, v72 := Tryd.zeroValue59, t75 := Tryd.underlying61, a75 := Tryd.isAgg61, z75 := Tryd.sizeOf61, v75 := Tryd.zeroValue61, t164 := Tryd.underlying88, a164 := Tryd.isAgg88, z164 := Tryd.sizeOf88, v164 := Tryd.zeroValue88 }
theorem lays169b : Go.Proofs.Lays.n169 Tryd.prog buRen := { mixed := by kernel_rfl, f169 := Tryd.func29.trans (congrArg some (by kernel_rfl)), t0 := Tryd.underlying0, a0 := Tryd.isAgg0, z0 := Tryd.sizeOf0, v0 := Tryd.zeroValue0, t3 := Tryd.underlying3, a3 := Tryd.isAgg3, z3 := Tryd.sizeOf3, v3 := Tryd.zeroValue3, t9 := Tryd.underlying9, a9 := Tryd.isAgg9, z9 := Tryd.sizeOf9, v9 := Tryd.zeroValue9, t37 := Tryd.underlying38, a37 := Tryd.isAgg38, z37 := Tryd.sizeOf38, v37 := Tryd.zeroValue38, t70 := Tryd.underlying57, a70 := Tryd.isAgg57, z70 := Tryd.sizeOf57, v70 := Tryd.zeroValue57, t72 := Tryd.underlying59, a72 := Tryd.isAgg59, z72 := Tryd.sizeOf59, v72 := Tryd.zeroValue59, t127 := Tryd.underlying77, a127 := Tryd.isAgg77, z127 := Tryd.sizeOf77, v127 := Tryd.zeroValue77 }
theorem builderX (r : Go.Shelf.Ren) (h : r.t = buRen.t) : Go.Proofs.Builder.Extra Tryd.prog r := by
  obtain ⟨f, t, g⟩ := r
  obtain rfl : t = buRen.t := h
  exact { sizeBuilder := by kernel_rfl, liesBuilder := by kernel_rfl, t5 := Tryd.underlying5, a5 := Tryd.isAgg5, z5 := Tryd.sizeOf5, v5 := Tryd.zeroValue5, infoByte := by kernel_rfl, cellsByte := by kernel_rfl, sizeByte := by kernel_rfl, neB5 := (show ¬ (59 : Nat) = 5 by decide) }

/-- The builder at block b holds the bytes l; its row lies at B or behind. -/
def Bld (w : World) (B b : Nat) (l : List UInt8) : Prop := Lib.IsBuilderF 59 5 B b (Lib.byteCells l) w
theorem byteCells_app (l m : List UInt8) : Lib.byteCells (l ++ m) = Lib.byteCells l ++ Lib.byteCells m := by unfold Lib.byteCells; rw [List.map_append]
theorem byteCells_len (l : List UInt8) : (Lib.byteCells l).length = l.length := by unfold Lib.byteCells; rw [List.length_map]
theorem wbyte_any (w : World) (B b : Nat) (l : List UInt8) (c : UInt8) (h : Bld w B b l) (hlen : l.length + 1 ≤ 140737488355328) (hB : B ≤ w.heap.size) :
    Calls Tryd.prog 26 #[.pointer (some ⟨b, 0, none⟩), .int .u8 (c.toNat : Int)] w fun e w' => e = .returned .nilIface ∧ Bld w' B b (l ++ [c]) ∧ Below B w w' ∧ Lib.OthersKept 5 (some b) w w' := by
  refine (Any.Builder_WriteByte_k lays167b (builderX _ rfl) B b (Lib.byteCells l) (c.toNat : Int) w h (by rw [byteCells_len]; exact hlen) hB).mono ?_
  rintro e w' ⟨he, h1, h2, h3⟩
  exact ⟨he, .inr (by rw [byteCells_app]; exact h1), h2, h3⟩
theorem wstr_any (w : World) (B b : Nat) (l x : List UInt8) (h : Bld w B b l) (hlen : l.length + x.length ≤ 140737488355328) (hB : B ≤ w.heap.size) :
    Calls Tryd.prog 27 #[.pointer (some ⟨b, 0, none⟩), .string (ba x)] w fun e w' => e = .returned (.tuple #[.int .i64 x.length, .nilIface]) ∧ Bld w' B b (l ++ x) ∧ Below B w w' ∧ Lib.OthersKept 5 (some b) w w' := by
  refine (Any.Builder_WriteString_k lays166b (builderX _ rfl) B b (Lib.byteCells l) (ba x) w h (by rw [byteCells_len, ba_size]; exact hlen) hB).mono ?_
  rintro e w' ⟨he, h1, h2, h3⟩
  exact ⟨by rw [he, ba_size], .inr (by rw [byteCells_app]; exact h1), h2, h3⟩
theorem bstr_any (w : World) (B b : Nat) (l : List UInt8) (h : Bld w B b l) (hB : B ≤ w.heap.size) :
    Calls Tryd.prog 29 #[.pointer (some ⟨b, 0, none⟩)] w fun e w' => e = .returned (.string (ba l)) ∧ Below B w w' := by
  refine (Any.Builder_String_any_k lays169b (builderX _ rfl) B b l w h hB).mono ?_
  rintro e w' ⟨he, _, h2, _⟩
  exact ⟨he, h2⟩
theorem Bld.below {w w' : World} {B b : Nat} {l : List UInt8} (h : Bld w B b l) (hb : Below w.heap.size w w') : Bld w' B b l := by
  have key : ∀ p, Lib.BuilderAtF 59 5 B b p (Lib.byteCells l) w → Lib.BuilderAtF 59 5 B b p (Lib.byteCells l) w' := by
    rintro p ⟨h1, v, h2, h3, h4⟩
    refine ⟨h1, v, (hb.block b (Array.getElem?_eq_some_iff.1 h2).1).trans h2, ⟨h3.1, ?_⟩, h4⟩
    rcases h3.2 with ⟨rfl, h0⟩ | ⟨g, cap, cur, fz, rfl, k1, k2, k3⟩
    · exact .inl ⟨rfl, h0⟩
    · exact .inr ⟨g, cap, cur, fz, rfl, k1, (hb.block g (Array.getElem?_eq_some_iff.1 k2).1).trans k2, k3⟩
  rcases h with h | h
  · exact .inl (key _ h)
  · exact .inr (key _ h)
/-- A builder that has just been made. -/
theorem Bld.fresh (w : World) (B : Nat) (hB : B ≤ w.heap.size) : Bld (w.alloc (.cells #[.pointer none, .slice none 0 0] 59)) B w.heap.size [] :=
  .inl ⟨hB, .slice none 0 0, heap_alloc_new w _, World.ownsRowF_nil _ _ _ _, by simp [Value.ownBlock]⟩
theorem Bld.lt {w : World} {B b : Nat} {l : List UInt8} (h : Bld w B b l) : b < w.heap.size := h.elim (fun h => h.lt) fun h => h.lt
/-- Another block stands. -/
theorem kept_block {w w' : World} {b k : Nat} {cs : Array Value} {t : TypeId} {fr : Nat × Nat} (h : Lib.OthersKept 5 (some b) w w') (hk : w.heap[k]? = some (.cells cs t fr)) (hb : k ≠ b) (ht : t ≠ 5) : w'.heap[k]? = some (.cells cs t fr) :=
  h k _ hk (by simpa using hb) fun c fz e => by injection e with _ e; exact ht e
/-- The table of powers of ten holds what it was laid with. -/
def Pow (w : World) : Prop := Lib.TabIs Tryd.prog w "internal/strconv.uint64pow10" .u64 Lib.pow10Tab
theorem Pow.below {w w' : World} (h : Pow w) (hb : Below w.heap.size w w') : Pow w' := Lib.tabBelow_of_tabIs h w' hb
/-- A number's digits. -/
def dec (n : Int) : List UInt8 := Lib.itoa n
theorem fmt_any (w : World) (n : Int) (h0 : -9223372036854775808 ≤ n) (h1 : n ≤ 9223372036854775807) (hT : Pow w) :
    Calls Tryd.prog 28 #[.int .i64 n, .int .i64 10] w fun e w' => e = .returned (.string (ba (dec n))) ∧ Below w.heap.size w w' := by
  refine (Any.strconv_FormatInt_10 Tryd.laysM173 n h0 h1 w hT).mono ?_
  rintro e w' ⟨he, k, os, rfl⟩
  refine ⟨he, ?_⟩
  exact Lib.below_grow _ _ (Nat.le_refl _) _ _
end Go.Proofs.YtongaakijljnaaaDoor
