/- The walks of timetablekit.digits and when. Printed by wip/bin/genkd.py. -/
import Derived.Test.YteonefgbdphmiaaGreatDoorZa
import Derived.Test.YteonefgbdphmiaaGreatDoorZp
import Derived.Test.YteonefgbdphmiaaGreatDoorMh
namespace Go.Proofs.YteonefgbdphmiaaGreatDoor
open Go.RowKit
/-- The names of a thing are no longer than this. -/
def Lo (s : List UInt8) : Prop := s.length ≤ 1048576
/-- A number that may be. -/
def NN (n : Int) : Prop := 0 ≤ n ∧ n ≤ 1099511627776
theorem NN.i64 {n : Int} (h : NN n) : I64 n := by unfold NN at h; unfold I64; omega
/-- Times that may be. -/
def TimesD.Nn (t : TimesD) : Prop := NN t.start ∧ NN t.every ∧ NN t.len
theorem TimesD.Nn.fit {t : TimesD} (h : t.Nn) : t.Fit := ⟨h.1.i64, h.2.1.i64, h.2.2.i64⟩
set_option maxRecDepth 100000 in
set_option maxHeartbeats 1000000 in
theorem kdig1_any (n : Nat) : ∀ (w : World), n < 9223372036854775808 →
    Calls Tryz.prog 30 #[.int .i64 n] w fun e w' => e = .returned (.string ⟨(Lib.decDigits n).toArray⟩) ∧ w = w' := by
  induction n using Nat.strongRecOn with
  | ind n ih =>
    intro w hn
    by_cases h : n < 10
    · have hr := ten_piece n h
      rw [Tk.dec_one h]
      clear ih
      have Hr := Lib.hid hr
      clear hr
      have hm : max (0 : Int) (n : Int) = (n : Int) := by omega
      go_enter Tryz.func30, Tryz.ntmps30
      go_wp2_with fail
      go_ret
      refine ⟨?_, rfl⟩
      rw [← Hr.out]
      rfl
    · have H1 := Lib.hid (ih (n / 10) (by omega) w (by omega))
      have H2 := Lib.hid (ih (n % 10) (by omega) w (by omega))
      have h' : 10 ≤ (n : Int) := by omega
      have HJ := Lib.hid (join_dec h)
      have hfit : ¬ 9223372036854775807 < (Lib.decDigits (n / 10)).length + (Lib.decDigits (n % 10)).length := by
        rw [Lib.decDigits_length, Lib.decDigits_length]
        have := Lib.nDigits_le20 (n / 10) (by omega)
        have := Lib.nDigits_le20 (n % 10) (by omega)
        omega
      clear ih h
      go_enter Tryz.func30, Tryz.ntmps30
      go_wp2_with fail
      refine H1.out.mono ?_
      rintro e w' ⟨rfl, rfl⟩
      go_wp2_with fail
      refine H2.out.mono ?_
      rintro e w' ⟨rfl, rfl⟩
      go_wp2_with fail
      go_ret
      exact ⟨by rw [← HJ.out]; rfl, rfl⟩
theorem kdig_any (x : Int) (h : NN x) (w : World) : Calls Tryz.prog 30 #[.int .i64 x] w fun e w' => e = .returned (.string (ba (dec x))) ∧ Below w.heap.size w w' := by
  obtain ⟨n, rfl⟩ : ∃ n : Nat, x = n := ⟨x.toNat, by unfold NN at h; omega⟩
  refine (kdig1_any n w (by unfold NN at h; omega)).mono ?_
  rintro e w' ⟨rfl, rfl⟩
  refine ⟨?_, Below.refl _ _⟩
  unfold dec
  rw [Lib.itoa_nonneg]
  rfl
set_option maxHeartbeats 4000000 in
set_option maxRecDepth 100000 in
theorem kwhen_any (w : World) (t : TimesD) (k : List UInt8) (hf : t.Nn) (hk : k.length ≤ 24) : Calls Tryz.prog 31 #[.agg #[.int .i64 t.start, .int .i64 t.every, .int .i64 t.len], .string (ba k)] w fun e w' => e = .returned (.string (ba (32 :: timesL t k))) ∧ Below w.heap.size w w' := by
  have HS := Lib.hid (times_sum t k)
  have b0 : (ba (dec t.start)).size ≤ 24 := by rw [ba_size]; exact dec_len24 hf.1.i64
  have b1 : (ba (dec t.every)).size ≤ 24 := by rw [ba_size]; exact dec_len24 hf.2.1.i64
  have b2 : (ba k).size ≤ 24 := by rw [ba_size]; exact hk
  have b3 : (ba (dec t.len)).size ≤ 24 := by rw [ba_size]; exact dec_len24 hf.2.2.i64
  have z1 : ((⟨#[32, 102, 114, 111, 109, 32]⟩ : ByteArray) ++ ba (dec t.start) : ByteArray).size ≤ 30 := by rw [ByteArray.size_append]; exact Nat.add_le_add (Nat.le_of_eq rfl) b0
  have z2 : ((⟨#[32, 102, 114, 111, 109, 32]⟩ : ByteArray) ++ ba (dec t.start) ++ ⟨#[32, 101, 118, 101, 114, 121, 32]⟩ : ByteArray).size ≤ 37 := by rw [ByteArray.size_append]; exact Nat.add_le_add z1 (Nat.le_of_eq rfl)
  have z3 : ((⟨#[32, 102, 114, 111, 109, 32]⟩ : ByteArray) ++ ba (dec t.start) ++ ⟨#[32, 101, 118, 101, 114, 121, 32]⟩ ++ ba (dec t.every) : ByteArray).size ≤ 61 := by rw [ByteArray.size_append]; exact Nat.add_le_add z2 b1
  have z4 : ((⟨#[32, 102, 114, 111, 109, 32]⟩ : ByteArray) ++ ba (dec t.start) ++ ⟨#[32, 101, 118, 101, 114, 121, 32]⟩ ++ ba (dec t.every) ++ ⟨#[32]⟩ : ByteArray).size ≤ 62 := by rw [ByteArray.size_append]; exact Nat.add_le_add z3 (Nat.le_of_eq rfl)
  have z5 : ((⟨#[32, 102, 114, 111, 109, 32]⟩ : ByteArray) ++ ba (dec t.start) ++ ⟨#[32, 101, 118, 101, 114, 121, 32]⟩ ++ ba (dec t.every) ++ ⟨#[32]⟩ ++ ba k : ByteArray).size ≤ 86 := by rw [ByteArray.size_append]; exact Nat.add_le_add z4 b2
  have z6 : ((⟨#[32, 102, 114, 111, 109, 32]⟩ : ByteArray) ++ ba (dec t.start) ++ ⟨#[32, 101, 118, 101, 114, 121, 32]⟩ ++ ba (dec t.every) ++ ⟨#[32]⟩ ++ ba k ++ ⟨#[32]⟩ : ByteArray).size ≤ 87 := by rw [ByteArray.size_append]; exact Nat.add_le_add z5 (Nat.le_of_eq rfl)
  have z7 : ((⟨#[32, 102, 114, 111, 109, 32]⟩ : ByteArray) ++ ba (dec t.start) ++ ⟨#[32, 101, 118, 101, 114, 121, 32]⟩ ++ ba (dec t.every) ++ ⟨#[32]⟩ ++ ba k ++ ⟨#[32]⟩ ++ ba (dec t.len) : ByteArray).size ≤ 111 := by rw [ByteArray.size_append]; exact Nat.add_le_add z6 b3
  obtain ⟨hf0, hf1, hf2⟩ := hf
  go_enter Tryz.func31, Tryz.ntmps31
  go_upto_region 1 with fail
  obtain ⟨w1, hw1⟩ : ∃ w1, w.alloc (.cells #[.int .i64 t.start, .int .i64 t.every, .int .i64 t.len] 48) = w1 := ⟨_, rfl⟩
  have hq1 : w1.heap[w.heap.size]? = some (.cells #[.int .i64 t.start, .int .i64 t.every, .int .i64 t.len] 48 (0, 0)) := by rw [← hw1]; exact heap_alloc_new _ _
  have HB1 := Lib.hid (show Below w.heap.size w w1 by rw [← hw1]; exact (Below.refl _ _).alloc (Nat.le_refl _) _)
  have hlt : w.heap.size < w1.heap.size := by rw [← hw1]; simp
  rw [hw1]
  clear hw1
  have HC := Lib.hid (fun (wy : World) (hy : Below w1.heap.size w1 wy) => (show wy.cell? ⟨w.heap.size, 0, none⟩ = some (.int .i64 t.start) ∧ wy.cell? ⟨w.heap.size, 1, none⟩ = some (.int .i64 t.every) ∧ wy.cell? ⟨w.heap.size, 2, none⟩ = some (.int .i64 t.len) ∧ True ∧ True ∧ True ∧ True from ⟨(hy.cell (p := ⟨w.heap.size, 0, none⟩) hlt).trans (Lib.cell_of_heap hq1 0), (hy.cell (p := ⟨w.heap.size, 1, none⟩) hlt).trans (Lib.cell_of_heap hq1 1), (hy.cell (p := ⟨w.heap.size, 2, none⟩) hlt).trans (Lib.cell_of_heap hq1 2), trivial, trivial, trivial, trivial⟩))
  clear hq1 hlt
  have hSw : Below w1.heap.size w1 w1 := Below.refl _ _
  refine wp_region_kinds (fun wy => Below w1.heap.size w1 wy) [2, 7, 15] [] [1, 6, 14] [0, 3, 4, 5, 8, 9, 10, 11, 12, 13, 16, 17] [0, 1, 5, 6, 10, 13, 14, 2, 3, 4, 7, 8, 9, 11, 12, 15, 16, 17] (by kernel_rfl) (by kernel_rfl) (fun w n h => below_drewN h n) ?_
  repeat (first | (refine wpKind_free (v := ?_) (by rfl) rfl (by rfl) ?_ ?_; rotate_left 1; (focus (intro wy; go_simp; rw [if_neg (by omega)]; done)); try simp only [Act.put, List.setIfInBounds_toArray, List.set_cons_zero, List.set_cons_succ]) | (refine wpKind_free (v := ?_) (by rfl) rfl (by rfl) ?_ ?_; rotate_left 1; (focus (intro wy; go_simp; try with_reducible rfl; done)); try simp only [Act.put, List.setIfInBounds_toArray, List.set_cons_zero, List.set_cons_succ]) | (refine wpKind_held (v := ?_) (by rfl) rfl (by rfl) hSw ?_ ?_; rotate_left 1; (focus (intro wy hSy; obtain ⟨s0, s1, s2, s3, s4, s5, s6⟩ := HC.out wy hSy; go_simp; try with_reducible rfl; done)); try simp only [Act.put, List.setIfInBounds_toArray, List.set_cons_zero, List.set_cons_succ]))
  refine wpKind_keeps (by rfl) rfl (fun n1 => ?_)
  go_wp2_with fail
  refine (kdig_any t.start hf0 (w1.drewN n1)).mono ?_
  rintro e w2 ⟨rfl, hb⟩
  have hSw2 : Below w1.heap.size w1 w2 := (below_drewN hSw n1).trans (hb.mono (by exact hSw.size))
  clear hb hSw
  go_wp2_with fail
  show _ ∧ _
  refine ⟨hSw2, ?_⟩
  have hSw := hSw2
  clear hSw2
  repeat (first | (refine wpKind_free (v := ?_) (by rfl) rfl (by rfl) ?_ ?_; rotate_left 1; (focus (intro wy; go_simp; rw [if_neg (by omega)]; done)); try simp only [Act.put, List.setIfInBounds_toArray, List.set_cons_zero, List.set_cons_succ]) | (refine wpKind_free (v := ?_) (by rfl) rfl (by rfl) ?_ ?_; rotate_left 1; (focus (intro wy; go_simp; try with_reducible rfl; done)); try simp only [Act.put, List.setIfInBounds_toArray, List.set_cons_zero, List.set_cons_succ]) | (refine wpKind_held (v := ?_) (by rfl) rfl (by rfl) hSw ?_ ?_; rotate_left 1; (focus (intro wy hSy; obtain ⟨s0, s1, s2, s3, s4, s5, s6⟩ := HC.out wy hSy; go_simp; try with_reducible rfl; done)); try simp only [Act.put, List.setIfInBounds_toArray, List.set_cons_zero, List.set_cons_succ]))
  refine wpKind_keeps (by rfl) rfl (fun n2 => ?_)
  go_wp2_with fail
  refine (kdig_any t.every hf1 (w2.drewN n2)).mono ?_
  rintro e w3 ⟨rfl, hb⟩
  have hSw2 : Below w1.heap.size w1 w3 := (below_drewN hSw n2).trans (hb.mono (by exact hSw.size))
  clear hb hSw
  go_wp2_with fail
  show _ ∧ _
  refine ⟨hSw2, ?_⟩
  have hSw := hSw2
  clear hSw2
  repeat (first | (refine wpKind_free (v := ?_) (by rfl) rfl (by rfl) ?_ ?_; rotate_left 1; (focus (intro wy; go_simp; rw [if_neg (by omega)]; done)); try simp only [Act.put, List.setIfInBounds_toArray, List.set_cons_zero, List.set_cons_succ]) | (refine wpKind_free (v := ?_) (by rfl) rfl (by rfl) ?_ ?_; rotate_left 1; (focus (intro wy; go_simp; try with_reducible rfl; done)); try simp only [Act.put, List.setIfInBounds_toArray, List.set_cons_zero, List.set_cons_succ]) | (refine wpKind_held (v := ?_) (by rfl) rfl (by rfl) hSw ?_ ?_; rotate_left 1; (focus (intro wy hSy; obtain ⟨s0, s1, s2, s3, s4, s5, s6⟩ := HC.out wy hSy; go_simp; try with_reducible rfl; done)); try simp only [Act.put, List.setIfInBounds_toArray, List.set_cons_zero, List.set_cons_succ]))
  refine wpKind_keeps (by rfl) rfl (fun n3 => ?_)
  go_wp2_with fail
  refine (kdig_any t.len hf2 (w3.drewN n3)).mono ?_
  rintro e w4 ⟨rfl, hb⟩
  have hSw2 : Below w1.heap.size w1 w4 := (below_drewN hSw n3).trans (hb.mono (by exact hSw.size))
  clear hb hSw
  go_wp2_with fail
  show _ ∧ _
  refine ⟨hSw2, ?_⟩
  have hSw := hSw2
  clear hSw2
  repeat (first | (refine wpKind_free (v := ?_) (by rfl) rfl (by rfl) ?_ ?_; rotate_left 1; (focus (intro wy; go_simp; rw [if_neg (by omega)]; done)); try simp only [Act.put, List.setIfInBounds_toArray, List.set_cons_zero, List.set_cons_succ]) | (refine wpKind_free (v := ?_) (by rfl) rfl (by rfl) ?_ ?_; rotate_left 1; (focus (intro wy; go_simp; try with_reducible rfl; done)); try simp only [Act.put, List.setIfInBounds_toArray, List.set_cons_zero, List.set_cons_succ]) | (refine wpKind_held (v := ?_) (by rfl) rfl (by rfl) hSw ?_ ?_; rotate_left 1; (focus (intro wy hSy; obtain ⟨s0, s1, s2, s3, s4, s5, s6⟩ := HC.out wy hSy; go_simp; try with_reducible rfl; done)); try simp only [Act.put, List.setIfInBounds_toArray, List.set_cons_zero, List.set_cons_succ]))
  refine wpKind_nil fun n9 => ?_
  go_wp2_with fail
  go_ret
  exact ⟨by rw [← HS.out]; rfl, HB1.out.trans ((below_drewN hSw n9).mono HB1.out.size)⟩
end Go.Proofs.YteonefgbdphmiaaGreatDoor
