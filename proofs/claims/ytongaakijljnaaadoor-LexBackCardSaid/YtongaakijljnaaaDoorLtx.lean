/- The walk of lex.Text. -/
import Derived.Test.YtongaakijljnaaaDoorLbd
import Derived.Test.YtongaakijljnaaaDoorLs
namespace Go.Proofs.YtongaakijljnaaaDoor
open Go.RowKit
/-- What is told of a token that ends no line. -/
def bodyT (t : TokD) : List UInt8 := if t.kind = 3 then dec t.num else t.text
/-- Tokens as a text; whether a line begins. -/
def textF : Bool → List TokD → List UInt8
  | _, [] => []
  | f, t :: l => if t.kind = 4 then 10 :: textF true l else (if f = true then [] else [32]) ++ bodyT t ++ textF false l
def stepT (s : List UInt8 × Bool) (t : TokD) : List UInt8 × Bool := if t.kind = 4 then (s.1 ++ [10], true) else (s.1 ++ (if s.2 = true then [] else [32]) ++ bodyT t, false)
def stT (l : List TokD) (k : Nat) : List UInt8 × Bool := (l.take k).foldl stepT ([], true)
theorem stT_succ (l : List TokD) {k : Nat} (h : k < l.length) : stT l (k + 1) = stepT (stT l k) l[k] := by
  unfold stT
  rw [List.take_succ_eq_append_getElem h, List.foldl_append]
  rfl
theorem stT_text (l : List TokD) : ∀ k, k ≤ l.length → (stT l k).1 ++ textF (stT l k).2 (l.drop k) = textF true l := by
  intro k
  induction k with
  | zero => intro _; rfl
  | succ k ih =>
    intro h
    rw [← ih (by omega), stT_succ l (show k < l.length by omega), List.drop_eq_getElem_cons (show k < l.length by omega)]
    unfold stepT
    by_cases h4 : l[k].kind = 4
    · rw [if_pos h4]
      simp only [textF, if_pos h4, List.append_assoc]
      rfl
    · rw [if_neg h4]
      simp only [textF, if_neg h4, List.append_assoc]
theorem stT_room (l : List TokD) {k : Nat} (h : k < l.length) : (l[k].kind = 4 → (stT l k).1.length + 1 ≤ (textF true l).length) ∧ (l[k].kind ≠ 4 → (stT l k).1.length + (if (stT l k).2 = true then 0 else 1) + (bodyT l[k]).length ≤ (textF true l).length) := by
  rw [← stT_text l k (by omega), List.drop_eq_getElem_cons h]
  refine ⟨fun h4 => ?_, fun h4 => ?_⟩
  · simp only [textF, if_pos h4, List.length_append, List.length_cons]
    omega
  · simp only [textF, if_neg h4, List.length_append]
    split <;> simp <;> omega
set_option maxHeartbeats 4000000 in
set_option maxRecDepth 100000 in
theorem text_any (w : World) (v : Value) (l : List TokD) {P : Nat → Prop} (hs : Sl tkc 5 w v l P) (hn : ∀ t ∈ l, -9223372036854775808 ≤ t.num ∧ t.num ≤ 9223372036854775807) (hlen : (textF true l).length ≤ 140737488355328) (hT : Pow w) :
    Calls Tryd.prog 16 #[v] w fun e w' => e = .returned (.string (ba (textF true l))) ∧ Below w.heap.size w w' := by
  obtain ⟨A, cap, rfl, hc1, hc2⟩ := hs.shape
  have HS := Lib.hid hs
  have HN := Lib.hid hn
  have HLEN := Lib.hid hlen
  have HT := Lib.hid hT
  have hll : (l.length : Int) ≤ 9223372036854775807 := by unfold maxLen at hc2; omega
  clear hs hn hlen hT
  go_enter Tryd.func16, Tryd.ntmps16
  go_wp2_with fail
  go_loopg [9, 4] l.length (fun gg i f wr => ∃ k : Nat, k ≤ l.length ∧ l.length - k ≤ gg ∧ i = .int .i64 k ∧ f = .bool (stT l k).2 ∧ Bld wr w.heap.size w.heap.size (stT l k).1 ∧ Below w.heap.size w wr)
  case atStart => exact ⟨0, Nat.zero_le _, by omega, rfl, rfl, Bld.fresh w _ (Nat.le_refl _), (Below.refl _ _).alloc (Nat.le_refl _) _⟩
  case round =>
    obtain ⟨k, hk, hgg, rfl, rfl, hbd, hb⟩ := hrel
    have HBD := Lib.hid hbd
    have HB := Lib.hid hb
    have hsz : w.heap.size ≤ wr.heap.size := hb.size
    have HLB := Lib.hid (show w.heap.size < wr.heap.size from hbd.lt)
    by_cases hkl : k < l.length
    · obtain ⟨b1, o1, cc, e1, _, _, hl1, _, hx⟩ := (HS.out.below_ hb).at_ hkl
      injection e1 with e1 e2 e3
      subst e1
      have hnum := HN.out _ (List.getElem_mem hkl)
      have E := Lib.hid (stT_succ l hkl)
      have R := Lib.hid (stT_room l hkl)
      obtain ⟨x, hx9⟩ : ∃ x, l[k] = x := ⟨_, rfl⟩
      rw [hx9] at hx hnum E R
      obtain ⟨kd, tx, nm, li, co⟩ := x
      dsimp only at hnum
      obtain ⟨⟨acc, fst⟩, hst⟩ : ∃ s, stT l k = s := ⟨_, rfl⟩
      rw [hst] at HBD E R ⊢
      dsimp only [stepT] at HBD E R ⊢
      have hx0 : wr.cell? ⟨b1, o1 + k * 5, none⟩ = some (.int .i64 kd) := by simpa using hx 0 _ rfl
      have hx1 : wr.cell? ⟨b1, o1 + k * 5 + 1, none⟩ = some (.string (ba tx)) := by simpa using hx 1 _ rfl
      have hx2 : wr.cell? ⟨b1, o1 + k * 5 + 2, none⟩ = some (.int .i64 nm) := by simpa using hx 2 _ rfl
      have hx3 : wr.cell? ⟨b1, o1 + k * 5 + 3, none⟩ = some (.int .i64 li) := by simpa using hx 3 _ rfl
      have hx4 : wr.cell? ⟨b1, o1 + k * 5 + 4, none⟩ = some (.int .i64 co) := by simpa using hx 4 _ rfl
      have q1 : (0 : Int) ≤ (k : Int) := by omega
      have q2 : (k : Int) < (l.length : Int) := by omega
      obtain ⟨wq, hwq⟩ : ∃ wq, wr.alloc (.cells #[.int .i64 kd, .string (ba tx), .int .i64 nm, .int .i64 li, .int .i64 co] 31) = wq := ⟨_, rfl⟩
      have hqq : wq.heap[wr.heap.size]? = some (.cells #[.int .i64 kd, .string (ba tx), .int .i64 nm, .int .i64 li, .int .i64 co] 31 (0, 0)) := by rw [← hwq]; exact heap_alloc_new _ _
      have hBq : Below w.heap.size w wq := by rw [← hwq]; exact HB.out.alloc HB.out.size _
      have hDq : Bld wq w.heap.size w.heap.size acc := by rw [← hwq]; exact HBD.out.below ((Below.refl _ _).alloc (Nat.le_refl _) _)
      have x0 : wq.cell? ⟨wr.heap.size, 0, none⟩ = some (.int .i64 kd) := Lib.cell_of_heap hqq 0
      have HQQ := Lib.hid hqq
      have HBQ := Lib.hid hBq
      have HDQ := Lib.hid hDq
      have HWQ := Lib.hid (show w.heap.size ≤ wq.heap.size from hBq.size)
      have HNB := Lib.hid (show wr.heap.size ≠ w.heap.size by have := HLB.out; omega)
      clear hbd hb hx hx9 e2 e3 hqq hBq hDq hst HBD
      by_cases h4 : kd = 4
      · have k1 : (kd == 4) = true := beq_iff_eq.2 h4
        have R1 := R.out.1 h4
        have hl9 : acc.length + 1 ≤ 140737488355328 := Nat.le_trans R1 HLEN.out
        have E2 := Lib.hid (show stT l (k + 1) = (acc ++ [10], true) by rw [E.out, if_pos h4])
        clear h4 R R1 E
        go_wp2_with fail
        refine (wbyte_any wq _ _ acc 10 HDQ.out hl9 HWQ.out).mono ?_
        rintro e w3 ⟨rfl, hd3, hb3, _⟩
        have HD3 := Lib.hid hd3
        have HB3 := Lib.hid (HBQ.out.trans hb3)
        clear hd3 hb3 x0 hx0 hx1 hx2 hx3 hx4 hwq
        go_wp2_with fail
        go_roundg (l.length - (k + 1))
        case measure => omega
        case rel => exact ⟨k + 1, by omega, by omega, by go_num, by rw [E2.out], by rw [E2.out]; exact HD3.out, HB3.out⟩
      · have k1 : (kd == 4) = false := beq_eq_false_iff_ne.2 h4
        have x1 : wq.cell? ⟨wr.heap.size, 1, none⟩ = some (.string (ba tx)) := Lib.cell_of_heap HQQ.out 1
        have x2 : wq.cell? ⟨wr.heap.size, 2, none⟩ = some (.int .i64 nm) := Lib.cell_of_heap HQQ.out 2
        have R1 := R.out.2 h4
        have E1 := E.out
        rw [if_neg h4] at E1
        clear h4 R E
        cases fst
        · have R2 : (acc ++ [32]).length + (bodyT ⟨kd, tx, nm, li, co⟩).length ≤ 140737488355328 := by
            rw [List.length_append, List.length_singleton]
            exact Nat.le_trans R1 HLEN.out
          have E2 : stT l (k + 1) = (acc ++ [32] ++ bodyT ⟨kd, tx, nm, li, co⟩, false) := E1
          have hl9 : acc.length + 1 ≤ 140737488355328 := by rw [List.length_append, List.length_singleton] at R2; omega
          clear R1 E1
          go_wp2_with fail
          refine (wbyte_any wq _ _ acc 32 HDQ.out hl9 HWQ.out).mono ?_
          rintro e w3 ⟨rfl, hd3, hb3, hk3⟩
          have hq3 := kept_block hk3 HQQ.out (fun e => HNB.out e) (by decide)
          have x0 : w3.cell? ⟨wr.heap.size, 0, none⟩ = some (.int .i64 kd) := Lib.cell_of_heap hq3 0
          have x1 : w3.cell? ⟨wr.heap.size, 1, none⟩ = some (.string (ba tx)) := Lib.cell_of_heap hq3 1
          have x2 : w3.cell? ⟨wr.heap.size, 2, none⟩ = some (.int .i64 nm) := Lib.cell_of_heap hq3 2
          have HD3 := Lib.hid hd3
          have HB3 := Lib.hid (HBQ.out.trans hb3)
          clear hd3 hb3 hk3 hq3 hx0 hx1 hx2 hx3 hx4 hwq
          by_cases h3 : kd = 3
          · have k3 : (kd == 3) = true := beq_iff_eq.2 h3
            have hbt : bodyT ⟨kd, tx, nm, li, co⟩ = dec nm := if_pos h3
            rw [hbt] at R2 E2
            have R3 := Lib.hid R2
            clear h3 hbt R2
            go_wp2_with fail
            refine (fmt_any w3 nm hnum.1 hnum.2 (HT.out.below HB3.out)).mono ?_
            rintro e w6 ⟨rfl, hb6⟩
            have HD6 := Lib.hid (HD3.out.below hb6)
            have HB6 := Lib.hid (HB3.out.trans (hb6.mono HB3.out.size))
            clear hb6 x0 x1 x2
            go_wp2_with fail
            refine (wstr_any w6 _ _ (acc ++ [32]) (dec nm) HD6.out R3.out HB6.out.size).mono ?_
            rintro e w7 ⟨rfl, hd7, hb7, _⟩
            have HD7 := Lib.hid hd7
            have HB7 := Lib.hid (HB6.out.trans hb7)
            clear hd7 hb7
            go_wp2_with fail
            go_roundg (l.length - (k + 1))
            case measure => omega
            case rel => exact ⟨k + 1, by omega, by omega, by go_num, by rw [E2], by rw [E2]; exact HD7.out, HB7.out⟩
          · have k3 : (kd == 3) = false := beq_eq_false_iff_ne.2 h3
            have hbt : bodyT ⟨kd, tx, nm, li, co⟩ = tx := if_neg h3
            rw [hbt] at R2 E2
            have R3 := Lib.hid R2
            clear h3 hbt R2
            go_wp2_with fail
            refine (wstr_any w3 _ _ (acc ++ [32]) tx HD3.out R3.out HB3.out.size).mono ?_
            rintro e w7 ⟨rfl, hd7, hb7, _⟩
            have HD7 := Lib.hid hd7
            have HB7 := Lib.hid (HB3.out.trans hb7)
            clear hd7 hb7 x0 x1 x2
            go_wp2_with fail
            go_roundg (l.length - (k + 1))
            case measure => omega
            case rel => exact ⟨k + 1, by omega, by omega, by go_num, by rw [E2], by rw [E2]; exact HD7.out, HB7.out⟩
        · have R2 : acc.length + (bodyT ⟨kd, tx, nm, li, co⟩).length ≤ 140737488355328 := Nat.le_trans R1 HLEN.out
          have E2 : stT l (k + 1) = (acc ++ bodyT ⟨kd, tx, nm, li, co⟩, false) := by rw [E1]; simp
          clear R1 E1
          by_cases h3 : kd = 3
          · have k3 : (kd == 3) = true := beq_iff_eq.2 h3
            have hbt : bodyT ⟨kd, tx, nm, li, co⟩ = dec nm := if_pos h3
            rw [hbt] at R2 E2
            have R3 := Lib.hid R2
            clear h3 hbt R2
            go_wp2_with fail
            refine (fmt_any wq nm hnum.1 hnum.2 (HT.out.below HBQ.out)).mono ?_
            rintro e w6 ⟨rfl, hb6⟩
            have HD6 := Lib.hid (HDQ.out.below hb6)
            have HB6 := Lib.hid (HBQ.out.trans (hb6.mono HBQ.out.size))
            clear hb6 x0 x1 x2
            go_wp2_with fail
            refine (wstr_any w6 _ _ acc (dec nm) HD6.out R3.out HB6.out.size).mono ?_
            rintro e w7 ⟨rfl, hd7, hb7, _⟩
            have HD7 := Lib.hid hd7
            have HB7 := Lib.hid (HB6.out.trans hb7)
            clear hd7 hb7
            go_wp2_with fail
            go_roundg (l.length - (k + 1))
            case measure => omega
            case rel => exact ⟨k + 1, by omega, by omega, by go_num, by rw [E2], by rw [E2]; exact HD7.out, HB7.out⟩
          · have k3 : (kd == 3) = false := beq_eq_false_iff_ne.2 h3
            have hbt : bodyT ⟨kd, tx, nm, li, co⟩ = tx := if_neg h3
            rw [hbt] at R2 E2
            have R3 := Lib.hid R2
            clear h3 hbt R2
            go_wp2_with fail
            refine (wstr_any wq _ _ acc tx HDQ.out R3.out HBQ.out.size).mono ?_
            rintro e w7 ⟨rfl, hd7, hb7, _⟩
            have HD7 := Lib.hid hd7
            have HB7 := Lib.hid (HBQ.out.trans hb7)
            clear hd7 hb7 x0 x1 x2
            go_wp2_with fail
            go_roundg (l.length - (k + 1))
            case measure => omega
            case rel => exact ⟨k + 1, by omega, by omega, by go_num, by rw [E2], by rw [E2]; exact HD7.out, HB7.out⟩
    · have hkk : k = l.length := by omega
      have t6 : ¬ (k : Int) < (l.length : Int) := by omega
      have E := Lib.hid (show (stT l k).1 = textF true l by
        rw [← stT_text l k hk, hkk, List.drop_length]
        simp [textF])
      clear hbd hb hkk
      obtain ⟨wo, rfl⟩ : ∃ wo, wo = wr := ⟨_, rfl⟩
      go_wp2_with fail
      refine (bstr_any wo _ _ _ HBD.out hsz).mono ?_
      rintro e w' ⟨rfl, hb2⟩
      rw [E.out]
      have HB2 := Lib.hid (HB.out.trans hb2)
      clear hb2
      go_wp2_with fail
      go_ret
      exact ⟨rfl, HB2.out⟩
end Go.Proofs.YtongaakijljnaaaDoor
