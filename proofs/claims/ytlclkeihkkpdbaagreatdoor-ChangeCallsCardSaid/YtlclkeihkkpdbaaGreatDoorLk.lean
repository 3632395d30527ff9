/- Walk of the cursor: word. -/
import Derived.Test.YtlclkeihkkpdbaaGreatDoorLh
namespace Go.Proofs.YtlclkeihkkpdbaaGreatDoor
open Go.RowKit
theorem CurAt.below {B b : Nat} {c : Cur} {w w' : World} (h : CurAt B b c w) (hb : Below w.heap.size w w') : CurAt B b c w' := by
  obtain ⟨hB, v, h1, h2⟩ := h
  exact ⟨hB, v, (hb.block b (Array.getElem?_eq_some_iff.1 h1).1).trans h1, Ow.below h2 hb fun k hk => (h2.lt hk).2⟩
theorem ba_cut (l : List UInt8) (n : Nat) : (ba l).extract 0 n = ba (l.take n) := by
  apply ByteArray.ext
  rw [ByteArray.data_extract]
  apply Array.ext'
  simp [ba]
theorem rest_cut (c : Cur) : c.s.extract c.pos c.s.size = ba c.rest := by
  apply ByteArray.ext
  rw [ByteArray.data_extract]
  apply Array.ext'
  unfold Cur.rest ba
  simp only [Array.toList_extract, List.extract_eq_take_drop]
  exact List.take_of_length_le (by rw [List.length_drop, Nm.len_size]; exact Nat.le_refl _)
set_option maxHeartbeats 4000000 in
set_option maxRecDepth 100000 in
theorem word_any (w : World) (B b : Nat) (c : Cur) (h : CurAt B b c w) (hBw : B ≤ w.heap.size) (hc : c.Ok) (ho : c.out.length ≤ 200000) (hT : Tabs w) :
    Calls Tryz.prog 63 #[.pointer (some ⟨b, 0, none⟩)] w fun r w' => r = .returned (stepWord c).1.v ∧ CurAt B b (stepWord c).2 w' ∧ Below B w w' := by
  have k1 := hc.size
  have k2 := hc.pos
  have k3 := hc.org
  have hB := h.1
  have HH := Lib.hid h
  have HT := Lib.hid hT
  have HF := Lib.hid fun n => fail_any (w.drewN n) B b c (h.drewN n) 3 c.pos (by omega) (by omega)
  have HPU := Lib.hid fun wx (hx : CurAt B b c wx) (hs : B ≤ wx.heap.size) k t n (hn : n ≤ 100000) => put_any wx B b c hx hs k t 0 n hn hc ho
  obtain ⟨_, v, hb, _⟩ := h
  have c0 : w.cell? ⟨b, 0, none⟩ = some (.string c.s) := Lib.cell_of_heap hb 0
  have c3 : w.cell? ⟨b, 3, none⟩ = some (.int .i64 c.pos) := Lib.cell_of_heap hb 3
  have r1 : (0 : Int) ≤ (c.pos : Int) := by omega
  have r2 : (c.pos : Int) ≤ (c.s.size : Int) := by omega
  have ht := rest_cut c
  have hrl : c.rest.length = c.s.size - c.pos := by unfold Cur.rest; rw [List.length_drop, Nm.len_size]
  obtain ⟨n, hn⟩ : ∃ n, Nm.pre Nm.more c.rest = n := ⟨_, rfl⟩
  have hnl : n ≤ c.rest.length := by rw [← hn]; exact Nm.pre_le _ _
  have HR := Lib.hid fun wx => (show Calls Tryz.prog 47 #[.string (ba c.rest), .func (.func 75) #[] #[]] wx fun e w' => e = .returned (.int .i64 (n : Int)) ∧ wx = w' by
    have := wrun_any (ba c.rest) wx (by rw [ba_size]; simp only [maxLen]; omega)
    rw [ba_list, hn] at this
    exact this)
  have hu := ba_cut c.rest n
  have E := Lib.hid (show stepWord c = if 24 < n then (.none, c.fail 3 c.pos) else (.any, c.put (if Nm.res (c.rest.take n) = true then 2 else 1) (c.rest.take n) 0 n) by unfold stepWord; rw [hn])
  have s1 : (ba c.rest).size = c.rest.length := ba_size _
  have r3 : (n : Int) ≤ (c.rest.length : Int) := by omega
  have r4 : (0 : Int) ≤ (n : Int) := by omega
  have HRV := Lib.hid fun wx (hx : Tabs wx) => (show Calls Tryz.prog 46 #[.string (ba (c.rest.take n))] wx fun e w' => e = .returned (.bool (Nm.res (c.rest.take n))) ∧ Below wx.heap.size wx w' by
    have := lres_any (ba (c.rest.take n)) wx hx
    rw [ba_list] at this
    exact this)
  have HN := Lib.hid hn
  clear hb hT hn
  by_cases h24 : 24 < n
  · have t24 : ¬ (n : Int) ≤ 24 := by omega
    go_enter Tryz.func63, Tryz.ntmps63
    go_wp2_with fail
    go_quiet (fail)
    go_wp2_with fail
    refine (HR.out _).mono ?_
    rintro e w2 ⟨rfl, rfl⟩
    go_wp2_with fail
    refine (HF.out _).mono ?_
    rintro e w2 ⟨rfl, hc2, hb2⟩
    have HC2 := Lib.hid hc2
    have HB2 := Lib.hid hb2
    clear hc2 hb2
    go_wp2_with fail
    go_ret
    rw [E.out, if_pos h24]
    exact ⟨rfl, HC2.out, (below_drewN (Below.refl _ _) _).trans HB2.out⟩
  · have t24 : (n : Int) ≤ 24 := by omega
    rw [if_neg h24] at E
    go_enter Tryz.func63, Tryz.ntmps63
    go_wp2_with fail
    go_quiet (fail)
    go_wp2_with fail
    refine (HR.out _).mono ?_
    rintro e w2 ⟨rfl, rfl⟩
    go_wp2_with fail
    refine (HRV.out _ (HT.out.drewN _)).mono ?_
    rintro e w3 ⟨rfl, hb3⟩
    have hb3 : Below w.heap.size w w3 := Below.lift (below_drewN (Below.refl _ _) _) hb3
    have HC3 := Lib.hid (HH.out.below hb3)
    have HB3 := Lib.hid (hb3.mono hBw)
    have HS3 := Lib.hid (Nat.le_trans hBw hb3.size)
    clear hb3
    cases hres : Nm.res (c.rest.take n)
    · rw [hres] at E
      go_wp2_with fail
      refine (HPU.out w3 HC3.out HS3.out 1 (c.rest.take n) n (by omega)).mono ?_
      rintro e w4 ⟨rfl, hc4, hb4⟩
      have HC4 := Lib.hid hc4
      have HB4 := Lib.hid (HB3.out.trans hb4)
      clear hc4 hb4
      go_wp2_with fail
      go_ret
      rw [E.out]
      exact ⟨rfl, HC4.out, HB4.out⟩
    · rw [hres] at E
      go_wp2_with fail
      refine (HPU.out w3 HC3.out HS3.out 2 (c.rest.take n) n (by omega)).mono ?_
      rintro e w4 ⟨rfl, hc4, hb4⟩
      have HC4 := Lib.hid hc4
      have HB4 := Lib.hid (HB3.out.trans hb4)
      clear hc4 hb4
      go_wp2_with fail
      go_ret
      rw [E.out]
      exact ⟨rfl, HC4.out, HB4.out⟩
end Go.Proofs.YtlclkeihkkpdbaaGreatDoor
