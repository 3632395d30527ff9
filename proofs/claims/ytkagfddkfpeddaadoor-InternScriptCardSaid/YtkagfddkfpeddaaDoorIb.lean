/- The walks of a table's Sorted and Clone, and of New. -/
import Derived.Test.YtkagfddkfpeddaaDoorIa
import Derived.Shelf.SlIter.Nil
import Derived.Shelf.SortM.Plain
import Derived.Shelf.SortM.SortNone
import Derived.Shelf.SlMaps.Clone
import Derived.Lib.OwnBridge
namespace Go.Proofs.YtkagfddkfpeddaaDoor
open Go.RowKit Go.Maps It Go.Shelf Go.Sort

/-- A list of names, sorted. -/
def srt (l : Nms) : Nms := l.mergeSort leB
theorem srt_perm {l l' : Nms} (h : l.Perm l') : srt l = srt l' := mergeSort_of_perm h
theorem srt_len (l : Nms) : (srt l).length = l.length := (List.mergeSort_perm l leB).length_eq
theorem nc_flat (l : Nms) : l.flatMap nc = l.map encStr := by
  induction l with
  | nil => rfl
  | cons x l ih => rw [List.flatMap_cons, ih]; simp [nc, ba, encStr]
theorem keys_perm {w : World} {b : Nat} {l : Nms} {D : DataW Unit} (ho : w.ownsMap Tryd.prog 9 (plainElem Tryd.prog 3) b l.length D) (hm : MapOf D l) (hn : l.Nodup) : l.Perm (strKeys D) := by
  obtain ⟨es, rfl, hko⟩ := ho.keysOf
  obtain ⟨es', hD, hpw⟩ := hm.1
  obtain rfl : es = es' := by simpa using hD
  exact perm_strKeys hpw (fun p hp => by obtain ⟨v, hv⟩ := hko p hp; obtain ⟨x, _, hx, _⟩ := Maps.keyOf_str Tryd.underlying9 hv; exact ⟨x, hx⟩) hn (fun x => by rw [hm.2.1 x, List.contains_iff_mem])
theorem sorts_w (m : Nat) : AnyZ.SortsIn Tryd.prog Tryd.sortedL_ren Fence.wide m :=
  ⟨fun blk off cap ss W hH hblk hsz => callsIn_wide.2 (AnyM.slices_Sort_string Tryd.sortL blk off cap ss W hH hblk hsz),
   fun p cap W => callsIn_wide.2 (AnyM.slices_Sort_string_none Tryd.sortL p cap W)⟩
theorem keys_any (b : Nat) (w : World) : Calls Tryd.prog 30 #[.map (some b)] w fun e w' => e = .returned (.func (.func 41) #[] #[.pointer (some ⟨w.heap.size, 0, none⟩)]) ∧ w' = w.alloc (.cells #[.map (some b)] 52) :=
  (callsIn_wide (n := 5)).1 (AnyZ.keys_in Tryd.keysL Fence.wide 5 trivial rfl (some b) w)
set_option maxHeartbeats 1000000 in
theorem sortedOf_any (w : World) (b : Nat) (l : Nms) (h : TMap w b l) (hok : Ok l) :
    Calls Tryd.prog 29 #[.func (.func 41) #[] #[.pointer (some ⟨w.heap.size, 0, none⟩)]] (w.alloc (.cells #[.map (some b)] 52)) (Made nc 1 9 (srt l) w) := by
  obtain ⟨D, hown, hm⟩ := h
  have hp := keys_perm hown hm hok.nd
  have hsz := hown.size_le
  have hbl := hown.lt
  have hle := hok.le
  have hseq : SeqGives Fence.wide 2 Tryd.prog 41 #[.pointer (some ⟨w.heap.size, 0, none⟩)] encStr (fun ss => ss.Perm (strKeys D)) (Maps.size D) (w.alloc (.cells #[.map (some b)] 52)) :=
    AnyZ.keys_gives (ρ := Tryd.keysL_ren) { Tryd.keysL with } Fence.wide _ trivial rfl (by omega) w.heap.size b l.length D _ (by simp) (by simp) (by
      obtain ⟨es, clock, hb, Ft, hs, hD⟩ := hown
      exact ⟨es, clock, (Below.heap_alloc _ _ b hbl).trans hb, Ft, hs, hD⟩)
  have H := (callsIn_wide (n := 5)).1 (AnyZ.sorted_in Tryd.sortedL Fence.wide 5 trivial trivial trivial trivial rfl (by omega) (sorts_w _) (enters_of Tryd.func40 (by kernel_rfl) rfl) 41 #[.pointer (some ⟨w.heap.size, 0, none⟩)] trivial (enters_of Tryd.func41 (by kernel_rfl) rfl) _ _ (by unfold maxLen; omega) (by omega) _ hseq)
  refine H.mono ?_
  rintro e w' ⟨v, ss, rfl, hS, hrow, _, hb⟩
  refine ⟨v, rfl, ?_, Below.lift ((Below.refl _ _).alloc (Nat.le_refl _) _) hb⟩
  have e1 : srt l = ss.mergeSort (fun x y => decide (x ≤ y)) := srt_perm (hp.trans hS.symm)
  have hrow' : Ow nc 1 w' (w.alloc (.cells #[.map (some b)] 52)).heap.size 9 v (srt l) := by
    unfold Ow
    rw [nc_flat, srt_len, (hp.trans hS.symm).length_eq, e1]
    exact hrow
  exact hrow'.lower (by simp)
set_option maxHeartbeats 1000000 in
theorem sorted_any (w : World) (B p b : Nat) (v : Value) (l : Nms) (h : Tbl w B p b v l) :
    Calls Tryd.prog 16 #[.pointer (some ⟨p, 0, none⟩)] w (Made nc 1 9 (srt l) w) := by
  have HS := Lib.hid (sortedOf_any w b l h.map h.ok)
  have HK := Lib.hid (keys_any b w)
  obtain ⟨A, cap, rfl, h1, h2, c0, c1, _⟩ := h.open_
  go_enter Tryd.func16, Tryd.ntmps16
  go_wp2_with fail
  refine HK.out.mono ?_
  rintro e w' ⟨rfl, rfl⟩
  go_wp2_with fail
  refine HS.out.mono ?_
  rintro e w' ⟨v', rfl, ho, hb⟩
  have HO := Lib.hid ho
  have HB := Lib.hid hb
  clear ho hb
  go_wp2_with fail
  go_ret
  exact ⟨v', rfl, HO.out, HB.out⟩
theorem mclone_any (w : World) (b : Nat) (l : Nms) (h : TMap w b l) : Calls Tryd.prog 34 #[.map (some b)] w fun e w' => e = .returned (.map (some w.heap.size)) ∧ TMap w' w.heap.size l ∧ Below w.heap.size w w' := by
  obtain ⟨D, hown, hm⟩ := h
  refine (AnyW.maps_Clone_owns Tryd.mcloneL 9 _ b l.length D w hown).mono ?_
  rintro e w' ⟨he, h1, h2, hb⟩
  exact ⟨he, ⟨D, h1, hm⟩, hb⟩
end Go.Proofs.YtkagfddkfpeddaaDoor
