/- Walk of the cursor: number. -/
import Derived.Test.YtlclkeihkkpdbaaGreatDoorLk
import Derived.Test.YtlclkeihkkpdbaaGreatDoorPy
namespace Go.Proofs.YtlclkeihkkpdbaaGreatDoor
open Go.RowKit
def stepNumber (c : Cur) : St × Cur :=
  let n := Nm.pre Nm.dig c.rest
  if Tk.parseE (c.rest.take n) = 7 then (.none, c.fail 7 c.pos)
  else if Tk.parseE (c.rest.take n) ≠ 0 then (.none, c.fail 3 c.pos)
  else if n < c.rest.length ∧ Nm.cls (c.rest.getD n 0) ≠ 0 then (.none, c.fail 7 (c.pos + n))
  else (.any, c.put 3 (c.rest.take n) (Tk.parseV (c.rest.take n)) n)
theorem LibOk.drewN {w : World} (h : LibOk w) (n : Nat) : LibOk (w.drewN n) := h
set_option maxHeartbeats 4000000 in
set_option maxRecDepth 100000 in
theorem number_any (w : World) (B b : Nat) (c : Cur) (h : CurAt B b c w) (hBw : B ≤ w.heap.size) (hc : c.Ok) (ho : c.out.length ≤ 200000) (hL : LibOk w) :
    Calls Tryz.prog 64 #[.pointer (some ⟨b, 0, none⟩)] w fun r w' => r = .returned (stepNumber c).1.v ∧ CurAt B b (stepNumber c).2 w' ∧ Below B w w' := by
  have k1 := hc.size
  have k2 := hc.pos
  have k3 := hc.org
  have hB := h.1
  have HH := Lib.hid h
  have HL := Lib.hid hL
  have HF := Lib.hid fun wx (hx : CurAt B b c wx) e p (hp : p ≤ 1000000) => fail_any wx B b c hx e p hp (by omega)
  have HPU := Lib.hid fun wx (hx : CurAt B b c wx) (hs : B ≤ wx.heap.size) t v n (hn : n ≤ 100000) => put_any wx B b c hx hs 3 t v n hn hc ho
  obtain ⟨_, v, hb, _⟩ := h
  have hlb : b < w.heap.size := (Array.getElem?_eq_some_iff.1 hb).1
  have c0 : w.cell? ⟨b, 0, none⟩ = some (.string c.s) := Lib.cell_of_heap hb 0
  have c3 : w.cell? ⟨b, 3, none⟩ = some (.int .i64 c.pos) := Lib.cell_of_heap hb 3
  have r1 : (0 : Int) ≤ (c.pos : Int) := by omega
  have r2 : (c.pos : Int) ≤ (c.s.size : Int) := by omega
  have ht := rest_cut c
  have hrl : c.rest.length = c.s.size - c.pos := by unfold Cur.rest; rw [List.length_drop, Nm.len_size]
  obtain ⟨n, hn⟩ : ∃ n, Nm.pre Nm.dig c.rest = n := ⟨_, rfl⟩
  have hnl : n ≤ c.rest.length := by rw [← hn]; exact Nm.pre_le _ _
  have HR := Lib.hid fun wx => (show Calls Tryz.prog 47 #[.string (ba c.rest), .func (.func 76) #[] #[]] wx fun e w' => e = .returned (.int .i64 (n : Int)) ∧ wx = w' by
    have := nrun_any (ba c.rest) wx (by rw [ba_size]; simp only [maxLen]; omega)
    rw [ba_list, hn] at this
    exact this)
  have hu := ba_cut c.rest n
  have s1 : (ba c.rest).size = c.rest.length := ba_size _
  have r3 : (n : Int) ≤ (c.rest.length : Int) := by omega
  have r4 : (0 : Int) ≤ (n : Int) := by omega
  have HPA := Lib.hid fun wx (hx : LibOk wx) => (show Calls Tryz.prog 77 #[.string (ba (c.rest.take n))] wx fun e w' => e = .returned (.tuple #[.int .i64 (Tk.parseV (c.rest.take n)), .int .i64 (Tk.parseE (c.rest.take n))]) ∧ Below wx.heap.size wx w' by
    have := parse_any (ba (c.rest.take n)) wx (by rw [ba_size, List.length_take]; omega) hx
    rw [ba_list] at this
    exact this)
  have E := Lib.hid (show stepNumber c = if Tk.parseE (c.rest.take n) = 7 then (.none, c.fail 7 c.pos) else if Tk.parseE (c.rest.take n) ≠ 0 then (.none, c.fail 3 c.pos) else if n < c.rest.length ∧ Nm.cls (c.rest.getD n 0) ≠ 0 then (.none, c.fail 7 (c.pos + n)) else (.any, c.put 3 (c.rest.take n) (Tk.parseV (c.rest.take n)) n) by unfold stepNumber; rw [hn])
  have HN := Lib.hid hn
  generalize Tk.parseE (c.rest.take n) = pe at *
  generalize Tk.parseV (c.rest.take n) = pv at *
  clear hb hL hn
  by_cases h7 : pe = 7
  · have t7 : (pe == 7) = true := beq_iff_eq.2 h7
    rw [if_pos h7] at E
    clear h7
    go_enter Tryz.func64, Tryz.ntmps64
    go_wp2_with fail
    go_quiet (fail)
    go_wp2_with fail
    refine (HR.out _).mono ?_
    rintro e w2 ⟨rfl, rfl⟩
    go_wp2_with fail
    refine (HPA.out _ (HL.out.drewN _)).mono ?_
    rintro e w3 ⟨rfl, hb3⟩
    have hb3 : Below w.heap.size w w3 := Below.lift (below_drewN (Below.refl _ _) _) hb3
    have HC3 := Lib.hid (HH.out.below hb3)
    have HB3 := Lib.hid (hb3.mono hBw)
    have HS3 := Lib.hid (Nat.le_trans hBw hb3.size)
    have d3 : w3.cell? ⟨b, 3, none⟩ = some (.int .i64 c.pos) := (hb3.cell (p := ⟨b, 3, none⟩) hlb).trans c3
    clear hb3
    go_wp2_with fail
    refine (HF.out w3 HC3.out 7 c.pos (by omega)).mono ?_
    rintro e w4 ⟨rfl, hc4, hb4⟩
    have HC4 := Lib.hid hc4
    have HB4 := Lib.hid (HB3.out.trans hb4)
    clear hc4 hb4
    go_wp2_with fail
    go_ret
    rw [E.out]
    exact ⟨rfl, HC4.out, HB4.out⟩
  · have t7 : (pe == 7) = false := beq_eq_false_iff_ne.2 h7
    rw [if_neg h7] at E
    by_cases h0 : pe ≠ 0
    · have t0 : (pe == 0) = false := beq_eq_false_iff_ne.2 h0
      have t0' : (pe != 0) = true := by rw [bne, t0]; rfl
      rw [if_pos h0] at E
      clear h0 h7
      go_enter Tryz.func64, Tryz.ntmps64
      go_wp2_with fail
      go_quiet (fail)
      go_wp2_with fail
      refine (HR.out _).mono ?_
      rintro e w2 ⟨rfl, rfl⟩
      go_wp2_with fail
      refine (HPA.out _ (HL.out.drewN _)).mono ?_
      rintro e w3 ⟨rfl, hb3⟩
      have hb3 : Below w.heap.size w w3 := Below.lift (below_drewN (Below.refl _ _) _) hb3
      have HC3 := Lib.hid (HH.out.below hb3)
      have HB3 := Lib.hid (hb3.mono hBw)
      have HS3 := Lib.hid (Nat.le_trans hBw hb3.size)
      have d3 : w3.cell? ⟨b, 3, none⟩ = some (.int .i64 c.pos) := (hb3.cell (p := ⟨b, 3, none⟩) hlb).trans c3
      clear hb3
      go_wp2_with fail
      refine (HF.out w3 HC3.out 3 c.pos (by omega)).mono ?_
      rintro e w4 ⟨rfl, hc4, hb4⟩
      have HC4 := Lib.hid hc4
      have HB4 := Lib.hid (HB3.out.trans hb4)
      clear hc4 hb4
      go_wp2_with fail
      go_ret
      rw [E.out]
      exact ⟨rfl, HC4.out, HB4.out⟩
    · have h0' : pe = 0 := by simpa using h0
      have t0 : (pe == 0) = true := beq_iff_eq.2 h0'
      have t0' : (pe != 0) = false := by rw [bne, t0]; rfl
      rw [if_neg h0] at E
      clear h0 h7 h0'
      by_cases hlt : n < c.rest.length
      · obtain ⟨y, hy⟩ : ∃ y, (ba c.rest)[n]'(by rw [s1]; exact hlt) = y := ⟨_, rfl⟩
        have hyg : c.rest.getD n 0 = y := by
          rw [List.getD_eq_getElem?_getD, List.getElem?_eq_getElem hlt, ← hy]
          rfl
        have q1 : (n : Int) < (c.rest.length : Int) := by omega
        have HCL := Lib.hid fun wx => class_any y wx
        rw [hyg] at E
        clear hyg
        generalize Nm.cls y = z at *
        by_cases hz : z = 0
        · have z0 : (z == 0) = true := beq_iff_eq.2 hz
          have z1 : (z != 0) = false := by rw [bne, z0]; rfl
          rw [if_neg (fun h => h.2 hz)] at E
          clear hz
          go_enter Tryz.func64, Tryz.ntmps64
          go_wp2_with fail
          go_quiet (fail)
          go_wp2_with fail
          refine (HR.out _).mono ?_
          rintro e w2 ⟨rfl, rfl⟩
          go_wp2_with fail
          refine (HPA.out _ (HL.out.drewN _)).mono ?_
          rintro e w3 ⟨rfl, hb3⟩
          have hb3 : Below w.heap.size w w3 := Below.lift (below_drewN (Below.refl _ _) _) hb3
          have HC3 := Lib.hid (HH.out.below hb3)
          have HB3 := Lib.hid (hb3.mono hBw)
          have HS3 := Lib.hid (Nat.le_trans hBw hb3.size)
          have d3 : w3.cell? ⟨b, 3, none⟩ = some (.int .i64 c.pos) := (hb3.cell (p := ⟨b, 3, none⟩) hlb).trans c3
          clear hb3
          go_wp2_with fail
          refine (HCL.out _).mono ?_
          rintro e w5 ⟨rfl, rfl⟩
          go_wp2_with fail
          refine (HPU.out w3 HC3.out HS3.out (c.rest.take n) pv n (by omega)).mono ?_
          rintro e w4 ⟨rfl, hc4, hb4⟩
          have HC4 := Lib.hid hc4
          have HB4 := Lib.hid (HB3.out.trans hb4)
          clear hc4 hb4
          go_wp2_with fail
          go_ret
          rw [E.out]
          exact ⟨rfl, HC4.out, HB4.out⟩
        · have z0 : (z == 0) = false := beq_eq_false_iff_ne.2 hz
          have z1 : (z != 0) = true := by rw [bne, z0]; rfl
          rw [if_pos ⟨hlt, hz⟩] at E
          clear hz
          go_enter Tryz.func64, Tryz.ntmps64
          go_wp2_with fail
          go_quiet (fail)
          go_wp2_with fail
          refine (HR.out _).mono ?_
          rintro e w2 ⟨rfl, rfl⟩
          go_wp2_with fail
          refine (HPA.out _ (HL.out.drewN _)).mono ?_
          rintro e w3 ⟨rfl, hb3⟩
          have hb3 : Below w.heap.size w w3 := Below.lift (below_drewN (Below.refl _ _) _) hb3
          have HC3 := Lib.hid (HH.out.below hb3)
          have HB3 := Lib.hid (hb3.mono hBw)
          have HS3 := Lib.hid (Nat.le_trans hBw hb3.size)
          have d3 : w3.cell? ⟨b, 3, none⟩ = some (.int .i64 c.pos) := (hb3.cell (p := ⟨b, 3, none⟩) hlb).trans c3
          clear hb3
          go_wp2_with fail
          refine (HCL.out _).mono ?_
          rintro e w5 ⟨rfl, rfl⟩
          go_wp2_with fail
          refine (HF.out w3 HC3.out 7 (c.pos + n) (by omega)).mono ?_
          rintro e w4 ⟨rfl, hc4, hb4⟩
          have HC4 := Lib.hid hc4
          have HB4 := Lib.hid (HB3.out.trans hb4)
          clear hc4 hb4
          go_wp2_with fail
          go_ret
          rw [E.out]
          exact ⟨rfl, HC4.out, HB4.out⟩
      · have q1 : ¬ (n : Int) < (c.rest.length : Int) := by omega
        rw [if_neg (fun h => hlt h.1)] at E
        go_enter Tryz.func64, Tryz.ntmps64
        go_wp2_with fail
        go_quiet (fail)
        go_wp2_with fail
        refine (HR.out _).mono ?_
        rintro e w2 ⟨rfl, rfl⟩
        go_wp2_with fail
        refine (HPA.out _ (HL.out.drewN _)).mono ?_
        rintro e w3 ⟨rfl, hb3⟩
        have hb3 : Below w.heap.size w w3 := Below.lift (below_drewN (Below.refl _ _) _) hb3
        have HC3 := Lib.hid (HH.out.below hb3)
        have HB3 := Lib.hid (hb3.mono hBw)
        have HS3 := Lib.hid (Nat.le_trans hBw hb3.size)
        have d3 : w3.cell? ⟨b, 3, none⟩ = some (.int .i64 c.pos) := (hb3.cell (p := ⟨b, 3, none⟩) hlb).trans c3
        clear hb3
        go_wp2_with fail
        refine (HPU.out w3 HC3.out HS3.out (c.rest.take n) pv n (by omega)).mono ?_
        rintro e w4 ⟨rfl, hc4, hb4⟩
        have HC4 := Lib.hid hc4
        have HB4 := Lib.hid (HB3.out.trans hb4)
        clear hc4 hb4
        go_wp2_with fail
        go_ret
        rw [E.out]
        exact ⟨rfl, HC4.out, HB4.out⟩
end Go.Proofs.YtlclkeihkkpdbaaGreatDoor
