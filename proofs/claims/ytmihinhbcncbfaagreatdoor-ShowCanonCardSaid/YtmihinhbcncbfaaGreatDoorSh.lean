/- Lines of words and numbers: the plain words, and the walk of show.line. -/
import Derived.Test.YtmihinhbcncbfaaGreatDoorBd
namespace Go.Proofs.YtmihinhbcncbfaaGreatDoor
open Go.RowKit

/-- A word of a line: a text or a number. -/
inductive Wd where
  | s (x : List UInt8)
  | n (i : Int)
def Wd.v : Wd → Value
  | .s x => .iface 9 (.string (ba x))
  | .n i => .iface 2 (.int .i64 i)
def Wd.t : Wd → List UInt8
  | .s x => x
  | .n i => dec i
def Wd.ok : Wd → Prop
  | .s _ => True
  | .n i => -9223372036854775808 ≤ i ∧ i ≤ 9223372036854775807
def wdc (x : Wd) : List Value := [x.v]
theorem wdc_len : ∀ x, (wdc x).length = 1 := fun _ => rfl
theorem wdc_one : ∀ x, ∀ u ∈ wdc x, u.oneCell' = true := by intro x u hu; simp [wdc] at hu; subst hu; cases x <;> rfl
/-- The words with one blank between. -/
def line : List Wd → List UInt8
  | [] => []
  | x :: r => x.t ++ r.flatMap fun y => 32 :: y.t
theorem line_snoc {l : List Wd} (h : 0 < l.length) (y : Wd) : line (l ++ [y]) = (line l ++ [32]) ++ y.t := by
  cases l with
  | nil => cases h
  | cons x r => simp [line]
theorem line_snoc_len (l : List Wd) (y : Wd) : (line l).length + y.t.length ≤ (line (l ++ [y])).length ∧ (0 < l.length → (line l).length + 1 + y.t.length = (line (l ++ [y])).length) := by
  cases l with
  | nil => simp [line]
  | cons x r => simp [line]; omega
theorem line_take_len (l : List Wd) (k : Nat) : (line (l.take k)).length ≤ (line l).length := by
  cases l with
  | nil => simp [line]
  | cons x r =>
    cases k with
    | zero => simp [line]
    | succ k =>
      have h : r = r.take k ++ r.drop k := (List.take_append_drop k r).symm
      simp only [line, List.take_succ_cons]
      conv => rhs; rw [h]
      simp only [List.flatMap_append, List.length_append]
      omega

theorem line_step0 {l : List Wd} (h : 0 < l.length) : line (l.take 0) ++ l[0].t = line (l.take 1) := by
  cases l with
  | nil => cases h
  | cons x r => simp [line]
theorem line_step {l : List Wd} {k : Nat} (h : k < l.length) (hk : 0 < k) : (line (l.take k) ++ [32]) ++ l[k].t = line (l.take (k + 1)) := by
  rw [take_succ_eq l k h, line_snoc (by rw [List.length_take]; omega)]
theorem ta_s (W : World) (v : Value) : (Instr.typeAssert (.iface 9 v) 20 9 true).run Tryz.prog W = .ok (.tuple #[v, .bool true]) W := by kernel_rfl
theorem ta_n (W : World) (v : Value) : (Instr.typeAssert (.iface 2 v) 20 9 true).run Tryz.prog W = .ok (.tuple #[.string ⟨#[]⟩, .bool false]) W := by kernel_rfl
theorem ta_i (W : World) (v : Value) : (Instr.typeAssert (.iface 2 v) 20 2 true).run Tryz.prog W = .ok (.tuple #[v, .bool true]) W := by kernel_rfl
def LineRel (B b n : Nat) (ws : List Wd) (w : World) (s : Value) (wr : World) : Prop := ∃ k : Nat, k ≤ n ∧ s = .int .i64 k ∧ Bld wr B b (line (ws.take k)) ∧ Below B w wr
set_option maxHeartbeats 1000000 in
theorem line_any (w : World) (v : Value) (ws : List Wd) {P : Nat → Prop} (hs : Sl wdc 1 w v ws P) (hlen : (line ws).length ≤ 140737488355328) (hok : ∀ x ∈ ws, x.ok) (hT : Pow w) (hn : ws.length ≤ 1048576) :
    Calls Tryz.prog 46 #[v] w fun e w' => e = .returned (.string (ba (line ws))) ∧ Below w.heap.size w w' := by
  obtain ⟨A, cap, rfl, h1, h2⟩ := hs.shape
  have HT := Lib.hid hT
  have HL := Lib.hid hlen
  have HO := Lib.hid hok
  have HS := Lib.hid hs
  clear hT hlen hok hs
  go_enter Tryz.func46, Tryz.ntmps46
  go_wp2_with fail
  go_loopw [10] (fun s wr => LineRel w.heap.size w.heap.size ws.length ws w s wr) (fun s _ => ws.length - (intOf s).toNat)
  case atStart => exact ⟨0, Nat.zero_le _, rfl, Bld.fresh w _ (Nat.le_refl _), (Below.refl _ _).alloc (Nat.le_refl _) _⟩
  case round =>
    obtain ⟨k, hk, rfl, hb, hbl⟩ := hrel
    by_cases hlt : k < ws.length
    · obtain ⟨b1, o1, c1, e1, _, _, hl1, _, hx⟩ := (HS.out.below_ hbl).at_ hlt
      injection e1 with e1 e2 e3
      subst e1
      have hx0 : wr.cell? ⟨b1, o1 + k, none⟩ = some (ws[k].v) := by simpa using hx 0 _ rfl
      have hsz : w.heap.size ≤ wr.heap.size := hbl.size
      have hO := HO.out _ (List.getElem_mem hlt)
      have hle := line_take_len ws (k + 1)
      have HT2 := Lib.hid (HT.out.below hbl)
      obtain ⟨x, hxe⟩ : ∃ x, ws[k] = x := ⟨_, rfl⟩
      rw [hxe] at hx0 hO
      have HB := Lib.hid hbl
      have HX := Lib.hid hx
      clear hx hbl e2 e3
      have q1 : (0 : Int) ≤ (k : Int) := by omega
      have q2 : (k : Int) < (ws.length : Int) := by omega
      by_cases hk0 : k = 0
      · subst hk0
        have hst := line_step0 hlt
        rw [hxe] at hst
        have HLN := Lib.hid (show (line (ws.take 0)).length + x.t.length ≤ 140737488355328 by
          rw [← List.length_append, hst]; exact Nat.le_trans hle HL.out)
        have HST := Lib.hid hst
        clear hst hle
        cases x with
        | s y =>
          replace hx0 : wr.cell? ⟨b1, o1, none⟩ = some (.iface 9 (.string (ba y))) := hx0
          have ta := fun W => ta_s W (.string (ba y))
          have HB2 := Lib.hid hb
          have HSZ := Lib.hid hsz
          clear hb hsz
          go_wp2_with fail
          refine (wstr_any wr w.heap.size w.heap.size _ y HB2.out HLN.out HSZ.out).mono ?_
          rintro e w3 ⟨rfl, h3, hb3⟩
          have H3 := Lib.hid h3
          have HB3 := Lib.hid (HB.out.trans hb3)
          clear h3 hb3
          go_wp2_with fail
          go_roundw
          case rel => exact ⟨1, by omega, by go_num, by have := H3.out; rwa [show line (ws.take 0) ++ y = _ from HST.out] at this, HB3.out⟩
          case measure => simp [intOf]; omega
        | n y =>
          replace hx0 : wr.cell? ⟨b1, o1, none⟩ = some (.iface 2 (.int .i64 y)) := hx0
          have ta := fun W => ta_n W (.int .i64 y)
          have tb := fun W => ta_i W (.int .i64 y)
          have HB2 := Lib.hid hb
          have HSZ := Lib.hid hsz
          clear hb hsz
          go_wp2_with fail
          refine (fmt_any wr y hO.1 hO.2 HT2.out).mono ?_
          rintro e w2 ⟨rfl, hb2⟩
          have HB22 := Lib.hid (HB2.out.below hb2)
          have HSZ2 := Lib.hid (Nat.le_trans HSZ.out hb2.size)
          have HB4 := Lib.hid (HB.out.trans (hb2.mono HSZ.out))
          clear hb2
          go_wp2_with fail
          refine (wstr_any w2 w.heap.size w.heap.size _ (dec y) HB22.out HLN.out HSZ2.out).mono ?_
          rintro e w3 ⟨rfl, h3, hb3⟩
          have H3 := Lib.hid h3
          have HB3 := Lib.hid (HB4.out.trans hb3)
          clear h3 hb3
          go_wp2_with fail
          go_roundw
          case rel => exact ⟨1, by omega, by go_num, by have := H3.out; rwa [show line (ws.take 0) ++ dec y = _ from HST.out] at this, HB3.out⟩
          case measure => simp [intOf]; omega
      · have hst := line_step hlt (by omega)
        rw [hxe] at hst
        have HLN := Lib.hid (show (line (ws.take k) ++ [32]).length + x.t.length ≤ 140737488355328 by
          rw [← List.length_append, hst]; exact Nat.le_trans hle HL.out)
        have HST := Lib.hid hst
        have q3 : (0 : Int) < (k : Int) := by omega
        have HK0 := Lib.hid hk0
        clear hst hle hk0
        cases x with
        | s y =>
          replace hx0 : wr.cell? ⟨b1, o1 + k, none⟩ = some (.iface 9 (.string (ba y))) := hx0
          have ta := fun W => ta_s W (.string (ba y))
          have HB2 := Lib.hid hb
          have HSZ := Lib.hid hsz
          clear hb hsz
          go_wp2_with fail
          refine (wbyte_any wr w.heap.size w.heap.size _ 32 HB2.out (by have := HLN.out; rw [List.length_append] at this; simp at this; omega) HSZ.out).mono ?_
          rintro e wb ⟨rfl, hwb, hbb⟩
          have HWB := Lib.hid hwb
          have HBB := Lib.hid (HB.out.trans hbb)
          have HSB := Lib.hid (Nat.le_trans HSZ.out hbb.size)
          clear hwb hbb
          go_wp2_with fail
          refine (wstr_any wb w.heap.size w.heap.size _ y HWB.out HLN.out HSB.out).mono ?_
          rintro e w3 ⟨rfl, h3, hb3⟩
          have H3 := Lib.hid h3
          have HB3 := Lib.hid (HBB.out.trans hb3)
          clear h3 hb3
          go_wp2_with fail
          go_roundw
          case rel => exact ⟨k + 1, by omega, by go_num, by have := H3.out; rwa [show line (ws.take k) ++ [32] ++ y = _ from HST.out] at this, HB3.out⟩
          case measure => simp [intOf]; omega
        | n y =>
          replace hx0 : wr.cell? ⟨b1, o1 + k, none⟩ = some (.iface 2 (.int .i64 y)) := hx0
          have ta := fun W => ta_n W (.int .i64 y)
          have tb := fun W => ta_i W (.int .i64 y)
          have HB2 := Lib.hid hb
          have HSZ := Lib.hid hsz
          clear hb hsz
          go_wp2_with fail
          refine (wbyte_any wr w.heap.size w.heap.size _ 32 HB2.out (by have := HLN.out; rw [List.length_append] at this; simp at this; omega) HSZ.out).mono ?_
          rintro e wb ⟨rfl, hwb, hbb⟩
          have HWB := Lib.hid hwb
          have HBB := Lib.hid (HB.out.trans hbb)
          have HSB := Lib.hid (Nat.le_trans HSZ.out hbb.size)
          clear hwb hbb
          go_wp2_with fail
          have HTB := Lib.hid (HT.out.below HBB.out)
          refine (fmt_any wb y hO.1 hO.2 HTB.out).mono ?_
          rintro e w2 ⟨rfl, hb2⟩
          have HB22 := Lib.hid (HWB.out.below hb2)
          have HSZ2 := Lib.hid (Nat.le_trans HSB.out hb2.size)
          have HB4 := Lib.hid (HBB.out.trans (hb2.mono HSB.out))
          clear hb2
          go_wp2_with fail
          refine (wstr_any w2 w.heap.size w.heap.size _ (dec y) HB22.out HLN.out HSZ2.out).mono ?_
          rintro e w3 ⟨rfl, h3, hb3⟩
          have H3 := Lib.hid h3
          have HB3 := Lib.hid (HB4.out.trans hb3)
          clear h3 hb3
          go_wp2_with fail
          go_roundw
          case rel => exact ⟨k + 1, by omega, by go_num, by have := H3.out; rwa [show line (ws.take k) ++ [32] ++ dec y = _ from HST.out] at this, HB3.out⟩
          case measure => simp [intOf]; omega
    · have hkl : k = ws.length := by omega
      subst hkl
      rw [List.take_length] at hb
      have hsz : w.heap.size ≤ wr.heap.size := hbl.size
      have HB := Lib.hid hb
      have HBL := Lib.hid hbl
      have HSZ := Lib.hid hsz
      clear hb hbl hsz
      go_wp2_with fail
      refine (bstr_any wr w.heap.size w.heap.size _ HB.out HSZ.out).mono ?_
      rintro e w3 ⟨rfl, hb3⟩
      have HB3 := Lib.hid (HBL.out.trans hb3)
      clear hb3
      go_wp2_with fail
      go_ret
      exact ⟨rfl, HB3.out⟩
end Go.Proofs.YtmihinhbcncbfaaGreatDoor
