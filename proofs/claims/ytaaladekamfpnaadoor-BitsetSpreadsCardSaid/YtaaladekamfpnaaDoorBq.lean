/- The walk of the statement BitsetSpreads. -/
import Derived.Test.YtaaladekamfpnaaDoorBp
namespace Go.Proofs.YtaaladekamfpnaaDoor
open Go.RowKit Bs

abbrev ST := Nat × Nat × Nat × List Bool
/-- At the head of the loop over the three rows. -/
def SpRel (n : Nat) (w : World) (s9 s11 : Value) (wr : World) : Prop :=
  ∃ (k : Nat) (S : List ST), k ≤ 3 ∧ s11 = .int .i64 (k : Int) ∧ S.length = k ∧ Ow pc 1 wr w.heap.size 25 s9 (S.map fun x => x.2.2.1) ∧ Below w.heap.size w wr ∧
    (∀ x ∈ S, BSet wr x.1 x.2.1 x.2.2.1 x.2.2.2 ∧ x.2.2.2.length = n) ∧ S.Pairwise (fun a b => a.2.1 ≤ b.1)
def SpIn (n : Nat) (r : List Int) (w3 : World) (lo hi p : Nat) (s14 : Value) (wi : World) : Prop :=
  ∃ (j : Nat) (lx : List Bool), j ≤ r.length ∧ s14 = .int .i64 (j : Int) ∧ BSet wi lo hi p lx ∧ lx.length = n ∧ Chg lo hi w3 wi
theorem SpRel.next {n k : Nat} {S : List ST} {w wr wi w4 : World} {s9 v4 : Value} {o : Obj} {hi p : Nat} {lx : List Bool} (hk : k < 3) (hS : S.length = k) (hown : Ow pc 1 wi w.heap.size 25 s9 (S.map fun x => x.2.2.1)) (hbel : Below w.heap.size w wi)
    (hall : ∀ x ∈ S, BSet wi x.1 x.2.1 x.2.2.1 x.2.2.2 ∧ x.2.2.2.length = n) (hpw : S.Pairwise (fun a b => a.2.1 ≤ b.1)) (hlo : ∀ x ∈ S, x.2.1 ≤ wr.heap.size) (hx : BSet wi wr.heap.size hi p lx) (hxl : lx.length = n)
    (h4 : Ow pc 1 w4 w.heap.size 25 v4 ((S.map fun x => x.2.2.1) ++ [p])) (hg : (wi.alloc o).grownBy w4 s9.ownBlock) : SpRel n w v4 (.int .i64 ((k : Int) + 1)) w4 := by
  have hz : w.heap.size ≤ (wi.alloc o).heap.size := Nat.le_trans hbel.size (by simp)
  refine ⟨k + 1, S ++ [(wr.heap.size, hi, p, lx)], by omega, by go_num, by simp [hS], by simpa using h4, (hbel.alloc hbel.size o).grown hg hz fun g hk => (hown.lt hk).1, fun x hm => ?_, ?_⟩
  · rcases List.mem_append.1 hm with hm | hm
    · exact ⟨((hall x hm).1.alloc o).row (hown.alloc o) hg, (hall x hm).2⟩
    · rcases List.mem_singleton.1 hm with rfl
      exact ⟨(hx.alloc o).row (hown.alloc o) hg, hxl⟩
  · refine List.pairwise_append.2 ⟨hpw, List.pairwise_singleton _ _, fun a ha b hb => ?_⟩
    rcases List.mem_singleton.1 hb with rfl
    exact hlo a ha

set_option maxRecDepth 100000 in
set_option maxHeartbeats 4000000 in
theorem spreads_any (n0 : Int) (vl vm vk : Value) (ll lm lk : List Int) (w : World) {P Q R : Nat → Prop} (hl : Sl ic 1 w vl ll P) (hm : Sl ic 1 w vm lm Q) (hk : Sl ic 1 w vk lk R) (hT : Tab w) (hg : 0 < w.heap.size) :
    Calls Tryd.prog 5 #[.int .i64 n0, vl, vm, vk] w fun r w' => r = .returned (.bool true) ∧ Below w.heap.size w w' := by
  obtain ⟨i0, hi0, hz0, hz1, hz2⟩ := info_parts info_ptr
  obtain ⟨A, ca, rfl, ha1, ha2⟩ := hl.shape
  obtain ⟨B, cb, rfl, hb1, hb2⟩ := hm.shape
  obtain ⟨C, cc, rfl, hc1, hc2⟩ := hk.shape
  have HL := Lib.hid (lives_any w hT hg)
  have HT := Lib.hid hT
  clear hT
  by_cases hla : (150 : Int) < (ll.length : Int)
  · go_enter Tryd.func5, Tryd.ntmps5
    go_wp2_with fail
    refine HL.out.mono ?_
    rintro e w1 ⟨rfl, hbel1⟩
    go_wp2_with fail
    go_ret
    exact ⟨rfl, hbel1⟩
  have hd : decide ((150 : Int) < (ll.length : Int)) = false := decide_eq_false hla
  by_cases hlb : (150 : Int) < (lm.length : Int)
  · go_enter Tryd.func5, Tryd.ntmps5
    go_wp2_with fail
    refine HL.out.mono ?_
    rintro e w1 ⟨rfl, hbel1⟩
    go_wp2_with fail
    go_ret
    exact ⟨rfl, hbel1⟩
  have hd' : decide ((150 : Int) < (lm.length : Int)) = false := decide_eq_false hlb
  by_cases hlc : (150 : Int) < (lk.length : Int)
  · go_enter Tryd.func5, Tryd.ntmps5
    go_wp2_with fail
    refine HL.out.mono ?_
    rintro e w1 ⟨rfl, hbel1⟩
    go_wp2_with fail
    go_ret
    exact ⟨rfl, hbel1⟩
  have hd'' : decide ((150 : Int) < (lk.length : Int)) = false := decide_eq_false hlc
  have h1 : ll.length ≤ 150 := by omega
  have h2 : lm.length ≤ 150 := by omega
  have h3 : lk.length ≤ 150 := by omega
  clear hla hlb hlc
  have hn := pick_lt n0 300 (by omega)
  have HPn := Lib.hid (fun wx => pick_any n0 300 wx (by omega) (by omega))
  generalize n0 % 300 = n1 at *
  obtain ⟨q, rfl⟩ := Int.eq_ofNat_of_zero_le hn.1
  obtain ⟨N, hN⟩ : ∃ N : Nat, 1 + (q : Int) = (N : Int) := ⟨q + 1, by omega⟩
  have hN1 : 1 ≤ N := by omega
  have hN2 : N ≤ 300 := by omega
  have hN3 : (1 : Int) ≤ (N : Int) := by omega
  clear hn
  go_enter Tryd.func5, Tryd.ntmps5
  go_wp2_with fail
  refine HL.out.mono ?_
  rintro e w1 ⟨rfl, hbel1⟩
  go_wp2_with fail
  refine (HPn.out w1).mono ?_
  rintro e w' ⟨rfl, rfl⟩
  have hl1 := hl.below_ hbel1
  have hm1 := hm.below_ hbel1
  have hk1 := hk.below_ hbel1
  clear hl hm hk
  go_wp2_with fail
  have HR : ∀ k : Nat, k < 3 → ∃ (A' : Option Addr) (c' : Nat) (r : List Int), r.length ≤ 150 ∧ (w1.alloc (.cells #[.slice A ll.length ca, .slice B lm.length cb, .slice C lk.length cc] 22)).cell? ⟨w1.heap.size, k, none⟩ = some (.slice A' r.length c') ∧ Sl ic 1 (w1.alloc (.cells #[.slice A ll.length ca, .slice B lm.length cb, .slice C lk.length cc] 22)) (.slice A' r.length c') r (fun _ => True) := by
    intro k hk
    match k, hk with
    | 0, _ => exact ⟨A, ca, ll, h1, by rw [cell_of_row _ _ _ _ _ (0, 0) (heap_alloc_new w1 _)]; rfl, (hl1.alloc _).mono fun _ _ => trivial⟩
    | 1, _ => exact ⟨B, cb, lm, h2, by rw [cell_of_row _ _ _ _ _ (0, 0) (heap_alloc_new w1 _)]; rfl, (hm1.alloc _).mono fun _ _ => trivial⟩
    | 2, _ => exact ⟨C, cc, lk, h3, by rw [cell_of_row _ _ _ _ _ (0, 0) (heap_alloc_new w1 _)]; rfl, (hk1.alloc _).mono fun _ _ => trivial⟩
  have hw2 : Below w.heap.size w (w1.alloc (.cells #[.slice A ll.length ca, .slice B lm.length cb, .slice C lk.length cc] 22)) := hbel1.alloc hbel1.size _
  have hRlt : w1.heap.size < (w1.alloc (.cells #[.slice A ll.length ca, .slice B lm.length cb, .slice C lk.length cc] 22)).heap.size := by simp
  generalize w1.alloc (.cells #[.slice A ll.length ca, .slice B lm.length cb, .slice C lk.length cc] 22) = w2 at *
  generalize w1.heap.size = RB at *
  have HR' := Lib.hid HR
  clear HR hl1 hm1 hk1 hbel1
  go_loopw [9, 11, 12, 13, 14] (fun s9 s11 _ _ _ wr => SpRel N w2 s9 s11 wr) (fun _ s11 _ _ _ _ => 3 - (intOf s11).toNat)
  case atStart => exact ⟨0, [], by omega, rfl, rfl, Ow.nil_, Below.refl _ _, (fun x hx => by cases hx), List.Pairwise.nil⟩
  case round =>
    obtain ⟨wo, rfl⟩ : ∃ wo : World, wo = wr := ⟨_, rfl⟩
    obtain ⟨k, S, hk3, rfl, hSl, hown, hbel, hall, hpw⟩ := hrel
    by_cases hlt : k < 3
    · obtain ⟨A', c', r, hr150, hcell, hsl⟩ := HR'.out k hlt
      have q1 : (0 : Int) ≤ (k : Int) := by omega
      have q2 : (k : Int) < 3 := by omega
      have HS := Lib.hid hSl
      have Hall := Lib.hid hall
      have Hpw := Lib.hid hpw
      clear hSl hall hpw
      go_wp2_with fail
      refine (new_ok N wo (by omega)).mono ?_
      rintro e w3 ⟨p, rfl, hx, hb3⟩
      have hbw3 : Below w2.heap.size w2 w3 := hbel.trans (hb3.mono hbel.size)
      go_wp2_with fail
      go_loopw [14] (fun s14 wi => SpIn N r w3 wo.heap.size w3.heap.size p s14 wi) (fun s14 _ => r.length - (intOf s14).toNat)
      case atStart => exact ⟨0, _, Nat.zero_le _, rfl, hx, by rw [List.length_replicate], Chg.refl _ _ _⟩
      case round =>
        obtain ⟨j, lx, hj, rfl, hX, hXl, hchg⟩ := hrel
        have hbi : Below w2.heap.size w2 wr := hbw3.trans (hchg.below hbel.size)
        have hci : wr.cell? ⟨RB, k, none⟩ = some (.slice A' r.length c') := (hbi.cell (p := ⟨RB, k, none⟩) hRlt).trans hcell
        by_cases hjl : j < r.length
        · obtain ⟨b, off, c, e, _, _, _, _, h5⟩ := (hsl.below_ hbi).at_ hjl
          injection e with e e' e''
          subst e
          obtain ⟨x, Hx⟩ : ∃ x, Hid (r[j] = x) := ⟨_, Lib.hid rfl⟩
          rw [Hx.out] at h5
          have hc : wr.cell? ⟨b, off + j, none⟩ = some (.int .i64 x) := by simpa using h5 0 _ rfl
          have r1 : (0 : Int) ≤ (j : Int) := by omega
          have r2 : (j : Int) < (r.length : Int) := by omega
          have hpk := pick_lt x N hN3
          have HP := Lib.hid (pick_any x N wr hN3 (by omega))
          generalize x % (N : Int) = xi at *
          obtain ⟨i, rfl⟩ := Int.eq_ofNat_of_zero_le hpk.1
          have hiN : i < lx.length := by omega
          clear h5 e' e'' hpk
          go_wp2_with fail
          refine HP.out.mono ?_
          rintro e w' ⟨rfl, rfl⟩
          go_wp2_with fail
          refine (put_any wr _ _ p lx i hX hiN).mono ?_
          rintro e w4 ⟨rfl, hX4, c4⟩
          have HRel := Lib.hid (show SpIn N r w3 wo.heap.size w3.heap.size p (.int .i64 ((j : Int) + 1)) w4 from ⟨j + 1, _, by omega, by go_num, hX4, by rw [List.length_set]; exact hXl, hchg.trans c4⟩)
          clear hX hX4
          go_wp2_with fail
          have R := HRel.out
          go_roundw
          case rel => first | exact R | ((repeat apply Exists.intro); exact ⟨R, rfl⟩)
          case measure => simp [intOf]; omega
        · have hjr : j = r.length := by omega
          subst hjr
          have hwi : Below wo.heap.size wo wr := hb3.trans (hchg.below (Nat.le_refl _))
          have hown' : Ow pc 1 wr w2.heap.size 25 _ (S.map fun x => x.2.2.1) := hown.below hwi fun g hg => (hown.lt hg).2
          have Hall' := Lib.hid (show ∀ x ∈ S, BSet wr x.1 x.2.1 x.2.2.1 x.2.2.2 ∧ x.2.2.2.length = N from fun x hm => ⟨((Hall.out x hm).1).below_ hwi, (Hall.out x hm).2⟩)
          have Hlo := Lib.hid (show ∀ x ∈ S, x.2.1 ≤ wo.heap.size from fun x hm => (Hall.out x hm).1.hi_le)
          have Hlen := Lib.hid (show (S.map fun x => x.2.2.1).length = k by rw [List.length_map]; exact HS.out)
          have hzz := hbi.size
          generalize hps : (S.map fun x => x.2.2.1) = ps at *
          have Hps := Lib.hid hps
          clear hps
          go_wp2_with (at_builtin; refine wpList_append_sl _ rfl _ _ _ rfl w2.heap.size 25 i0 _ 8 Tryd.underlying39 hi0 hz0 hz1 hz2 rfl (by omega) pc_len pc_one _ _ ps [p] rfl rfl (hown'.alloc _) (Sl.new1 p (by first | rfl | simp)) (by rw [Hlen.out]; simp only [maxLen, List.length_cons, List.length_nil]; omega) (by rw [Hlen.out]; simp only [List.length_cons, List.length_nil]; omega) (by simp; omega) ?_; intro v4 w4 hown4 hg4 hmv4)
          have R : SpRel N w2 v4 (.int .i64 ((k : Int) + 1)) w4 := SpRel.next hlt HS.out (by rw [Hps.out]; exact hown') hbi Hall'.out Hpw.out Hlo.out hX hXl (by rw [Hps.out]; exact hown4) hg4
          go_roundw
          case rel => first | exact R | ((repeat apply Exists.intro); exact ⟨R, rfl⟩)
          case measure => simp [intOf]; omega
    · have hk' : k = 3 := by omega
      subst hk'
      obtain ⟨⟨l1, u1, p1, X⟩, ⟨l2, u2, p2, Y⟩, ⟨l3, u3, p3, Z⟩, rfl⟩ : ∃ a b c : ST, S = [a, b, c] := by
        match S, hSl with
        | [a, b, c], _ => exact ⟨a, b, c, rfl⟩
      obtain ⟨hX, hXl⟩ := hall _ (List.mem_cons_self ..)
      obtain ⟨hY, hYl⟩ := hall _ (List.mem_cons_of_mem _ (List.mem_cons_self ..))
      obtain ⟨hZ, hZl⟩ := hall _ (List.mem_cons_of_mem _ (List.mem_cons_of_mem _ (List.mem_cons_self ..)))
      simp only at hX hXl hY hYl hZ hZl
      have g12 : u1 ≤ l2 := (List.pairwise_cons.1 hpw).1 (l2, u2, p2, Y) (by simp)
      have g23 : u2 ≤ l3 := (List.pairwise_cons.1 (List.pairwise_cons.1 hpw).2).1 (l3, u3, p3, Z) (by simp)
      have g1 := hX.lt
      have g2 := hY.lt
      have g3 := hZ.lt
      have g4 := hZ.hi_le
      obtain ⟨rb, ro, rc, e, f1, f2, f3, _, fcell⟩ := (hown.sl pc_len).form (by simp)
      subst e
      have c0 : wo.cell? ⟨rb, ro, none⟩ = some (.pointer (some ⟨p1, 0, none⟩)) := by simpa using fcell 0 p1 rfl 0 _ rfl
      have c1 : wo.cell? ⟨rb, ro + 1, none⟩ = some (.pointer (some ⟨p2, 0, none⟩)) := by simpa using fcell 1 p2 rfl 0 _ rfl
      have c2 : wo.cell? ⟨rb, ro + 2, none⟩ = some (.pointer (some ⟨p3, 0, none⟩)) := by simpa using fcell 2 p3 rfl 0 _ rfl
      have hbw := Lib.hid (hw2.trans (hbel.mono hw2.size))
      clear fcell hall hpw hown hSl hbel
      have lnX : X.length = N := hXl
      have lnY : Y.length = N := hYl
      have lnZ : Z.length = N := hZl
      have hw0 := hbw.out.size
      clear hXl hYl hZl
      go_wp2_with fail
      refine (clone_any wo _ _ p2 _ hY).mono ?_
      rintro e w4 ⟨qE, rfl, hE, hb4⟩
      have sz4 := hb4.size
      have lt4 := hE.lt
      have hX := hX.below_ hb4
      have hY := hY.below_ hb4
      have hZ := hZ.below_ hb4
      have c0 := (hb4.cell (p := ⟨rb, ro, none⟩) (by show rb < _; omega)).trans c0
      have c1 := (hb4.cell (p := ⟨rb, ro + 1, none⟩) (by show rb < _; omega)).trans c1
      have c2 := (hb4.cell (p := ⟨rb, ro + 2, none⟩) (by show rb < _; omega)).trans c2
      have hbw := Lib.hid (Below.lift hbw.out hb4)
      have lnE : (Y).length = N := lnY
      go_wp2_with fail
      refine (setOr_any w4 _ _ qE _ _ p3 _ _ hE hZ (by omega) (by omega)).mono ?_
      rintro e w5 ⟨rfl, hE, ch5⟩
      have hE : BSet w5 wo.heap.size w4.heap.size qE (orL (Y) (Z)) := hE
      have lnE : (orL (Y) (Z)).length = N := by rw [orL_len (by omega)]; exact lnE
      have sa5 : w5.heap.size ≤ w4.heap.size := Nat.le_of_eq ch5.size
      have sb5 : w4.heap.size ≤ w5.heap.size := Nat.le_of_eq ch5.size.symm
      have hX := hX.chg ch5 (by omega)
      have hY := hY.chg ch5 (by omega)
      have hZ := hZ.chg ch5 (by omega)
      have c0 := ((ch5.below (Nat.le_refl _)).cell (p := ⟨rb, ro, none⟩) (by show rb < _; omega)).trans c0
      have c1 := ((ch5.below (Nat.le_refl _)).cell (p := ⟨rb, ro + 1, none⟩) (by show rb < _; omega)).trans c1
      have c2 := ((ch5.below (Nat.le_refl _)).cell (p := ⟨rb, ro + 2, none⟩) (by show rb < _; omega)).trans c2
      have hbw := Lib.hid (hbw.out.trans (ch5.below (by omega)))
      go_wp2_with fail
      have hrlt : rb < w5.drew.heap.size := by show rb < w5.heap.size; omega
      go_region_held3 (fun w' => w'.cell? ⟨rb, ro, none⟩ = some (.pointer (some ⟨p1, 0, none⟩))) (first | go_keep | exact (hb8.cell (p := ⟨rb, ro, none⟩) (hrlt8)).trans ((hb7.cell (p := ⟨rb, ro, none⟩) (hrlt7)).trans ((hb6.cell (p := ⟨rb, ro, none⟩) (hrlt6)).trans (c0))) | exact (hb7.cell (p := ⟨rb, ro, none⟩) (hrlt7)).trans ((hb6.cell (p := ⟨rb, ro, none⟩) (hrlt6)).trans (c0)) | exact (hb6.cell (p := ⟨rb, ro, none⟩) (hrlt6)).trans (c0)) (first | (go_at_call 22; refine (clone_any _ _ _ p1 _ (((hX.drew).below_ hb6).below_ hb7)).mono ?_; rintro e w8 ⟨qC, rfl, hC, hb8⟩; have hrlt8 := hr7x; have hr8x := Nat.lt_of_lt_of_le hr7x hb8.size; dsimp only) | (go_at_call 22; refine (clone_any _ _ _ p1 _ ((hX.drew).below_ hb6)).mono ?_; rintro e w7 ⟨qB, rfl, hB, hb7⟩; have hrlt7 := hr6x; have hr7x := Nat.lt_of_lt_of_le hr6x hb7.size; dsimp only) | (go_at_call 22; refine (clone_any _ _ _ p1 _ (hX.drew)).mono ?_; rintro e w6 ⟨qA, rfl, hA, hb6⟩; have hrlt6 := hrlt; have hr6x := Nat.lt_of_lt_of_le hrlt hb6.size; dsimp only))
      have sz6 : w5.heap.size ≤ w6.heap.size := hb6.size
      have lt6 := hA.lt
      have sz7 : w6.heap.size ≤ w7.heap.size := hb7.size
      have lt7 := hB.lt
      have sz8 : w7.heap.size ≤ w8.heap.size := hb8.size
      have lt8 := hC.lt
      have hX := (((hX.drew).below_ hb6).below_ hb7).below_ hb8
      have hY := (((hY.drew).below_ hb6).below_ hb7).below_ hb8
      have hZ := (((hZ.drew).below_ hb6).below_ hb7).below_ hb8
      have hE := (((hE.drew).below_ hb6).below_ hb7).below_ hb8
      have hA : BSet w8 w5.heap.size w6.heap.size qA X := ((hA).below_ hb7).below_ hb8
      have lnA : (X).length = N := lnX
      have hB : BSet w8 w6.heap.size w7.heap.size qB X := (hB).below_ hb8
      have lnB : (X).length = N := lnX
      have hC : BSet w8 w7.heap.size w8.heap.size qC X := hC
      have lnC : (X).length = N := lnX
      have c0 := (hb8.cell (p := ⟨rb, ro, none⟩) (by show rb < w7.heap.size; omega)).trans ((hb7.cell (p := ⟨rb, ro, none⟩) (by show rb < w6.heap.size; omega)).trans ((hb6.cell (p := ⟨rb, ro, none⟩) (by show rb < w5.heap.size; omega)).trans (c0)))
      have c1 := (hb8.cell (p := ⟨rb, ro + 1, none⟩) (by show rb < w7.heap.size; omega)).trans ((hb7.cell (p := ⟨rb, ro + 1, none⟩) (by show rb < w6.heap.size; omega)).trans ((hb6.cell (p := ⟨rb, ro + 1, none⟩) (by show rb < w5.heap.size; omega)).trans (c1)))
      have c2 := (hb8.cell (p := ⟨rb, ro + 2, none⟩) (by show rb < w7.heap.size; omega)).trans ((hb7.cell (p := ⟨rb, ro + 2, none⟩) (by show rb < w6.heap.size; omega)).trans ((hb6.cell (p := ⟨rb, ro + 2, none⟩) (by show rb < w5.heap.size; omega)).trans (c2)))
      have hbw := Lib.hid (Below.lift (Below.lift (Below.lift (hbw.out.drew) hb6) hb7) hb8)
      go_wp2_with fail
      refine (setAnd_any w8 _ _ qA _ _ qE _ _ hA hE (by omega) (by omega)).mono ?_
      rintro e w9 ⟨rfl, hA, ch9⟩
      have hA : BSet w9 w5.heap.size w6.heap.size qA (andL (X) (orL (Y) (Z))) := hA
      have lnA : (andL (X) (orL (Y) (Z))).length = N := by rw [andL_len (by omega)]; exact lnA
      have sa9 : w9.heap.size ≤ w8.heap.size := Nat.le_of_eq ch9.size
      have sb9 : w8.heap.size ≤ w9.heap.size := Nat.le_of_eq ch9.size.symm
      have hX := hX.chg ch9 (by omega)
      have hY := hY.chg ch9 (by omega)
      have hZ := hZ.chg ch9 (by omega)
      have hE := hE.chg ch9 (by omega)
      have hB := hB.chg ch9 (by omega)
      have hC := hC.chg ch9 (by omega)
      have c0 := ((ch9.below (Nat.le_refl _)).cell (p := ⟨rb, ro, none⟩) (by show rb < _; omega)).trans c0
      have c1 := ((ch9.below (Nat.le_refl _)).cell (p := ⟨rb, ro + 1, none⟩) (by show rb < _; omega)).trans c1
      have c2 := ((ch9.below (Nat.le_refl _)).cell (p := ⟨rb, ro + 2, none⟩) (by show rb < _; omega)).trans c2
      have hbw := Lib.hid (hbw.out.trans (ch9.below (by omega)))
      go_wp2_with fail
      refine (setAnd_any w9 _ _ qB _ _ p2 _ _ hB hY (by omega) (by omega)).mono ?_
      rintro e w10 ⟨rfl, hB, ch10⟩
      have hB : BSet w10 w6.heap.size w7.heap.size qB (andL (X) (Y)) := hB
      have lnB : (andL (X) (Y)).length = N := by rw [andL_len (by omega)]; exact lnB
      have sa10 : w10.heap.size ≤ w9.heap.size := Nat.le_of_eq ch10.size
      have sb10 : w9.heap.size ≤ w10.heap.size := Nat.le_of_eq ch10.size.symm
      have hX := hX.chg ch10 (by omega)
      have hY := hY.chg ch10 (by omega)
      have hZ := hZ.chg ch10 (by omega)
      have hE := hE.chg ch10 (by omega)
      have hA := hA.chg ch10 (by omega)
      have hC := hC.chg ch10 (by omega)
      have c0 := ((ch10.below (Nat.le_refl _)).cell (p := ⟨rb, ro, none⟩) (by show rb < _; omega)).trans c0
      have c1 := ((ch10.below (Nat.le_refl _)).cell (p := ⟨rb, ro + 1, none⟩) (by show rb < _; omega)).trans c1
      have c2 := ((ch10.below (Nat.le_refl _)).cell (p := ⟨rb, ro + 2, none⟩) (by show rb < _; omega)).trans c2
      have hbw := Lib.hid (hbw.out.trans (ch10.below (by omega)))
      go_wp2_with fail
      refine (setAnd_any w10 _ _ qC _ _ p3 _ _ hC hZ (by omega) (by omega)).mono ?_
      rintro e w11 ⟨rfl, hC, ch11⟩
      have hC : BSet w11 w7.heap.size w8.heap.size qC (andL (X) (Z)) := hC
      have lnC : (andL (X) (Z)).length = N := by rw [andL_len (by omega)]; exact lnC
      have sa11 : w11.heap.size ≤ w10.heap.size := Nat.le_of_eq ch11.size
      have sb11 : w10.heap.size ≤ w11.heap.size := Nat.le_of_eq ch11.size.symm
      have hX := hX.chg ch11 (by omega)
      have hY := hY.chg ch11 (by omega)
      have hZ := hZ.chg ch11 (by omega)
      have hE := hE.chg ch11 (by omega)
      have hA := hA.chg ch11 (by omega)
      have hB := hB.chg ch11 (by omega)
      have c0 := ((ch11.below (Nat.le_refl _)).cell (p := ⟨rb, ro, none⟩) (by show rb < _; omega)).trans c0
      have c1 := ((ch11.below (Nat.le_refl _)).cell (p := ⟨rb, ro + 1, none⟩) (by show rb < _; omega)).trans c1
      have c2 := ((ch11.below (Nat.le_refl _)).cell (p := ⟨rb, ro + 2, none⟩) (by show rb < _; omega)).trans c2
      have hbw := Lib.hid (hbw.out.trans (ch11.below (by omega)))
      go_wp2_with fail
      refine (setOr_any w11 _ _ qB _ _ qC _ _ hB hC (by omega) (by omega)).mono ?_
      rintro e w12 ⟨rfl, hB, ch12⟩
      have hB : BSet w12 w6.heap.size w7.heap.size qB (orL (andL (X) (Y)) (andL (X) (Z))) := hB
      have lnB : (orL (andL (X) (Y)) (andL (X) (Z))).length = N := by rw [orL_len (by omega)]; exact lnB
      have sa12 : w12.heap.size ≤ w11.heap.size := Nat.le_of_eq ch12.size
      have sb12 : w11.heap.size ≤ w12.heap.size := Nat.le_of_eq ch12.size.symm
      have hX := hX.chg ch12 (by omega)
      have hY := hY.chg ch12 (by omega)
      have hZ := hZ.chg ch12 (by omega)
      have hE := hE.chg ch12 (by omega)
      have hA := hA.chg ch12 (by omega)
      have hC := hC.chg ch12 (by omega)
      have c0 := ((ch12.below (Nat.le_refl _)).cell (p := ⟨rb, ro, none⟩) (by show rb < _; omega)).trans c0
      have c1 := ((ch12.below (Nat.le_refl _)).cell (p := ⟨rb, ro + 1, none⟩) (by show rb < _; omega)).trans c1
      have c2 := ((ch12.below (Nat.le_refl _)).cell (p := ⟨rb, ro + 2, none⟩) (by show rb < _; omega)).trans c2
      have hbw := Lib.hid (hbw.out.trans (ch12.below (by omega)))
      go_wp2_with fail
      have hrlt : rb < w12.drew.heap.size := by show rb < w12.heap.size; omega
      go_region_held3 (fun w' => w'.cell? ⟨rb, ro, none⟩ = some (.pointer (some ⟨p1, 0, none⟩))) (first | go_keep | exact (hb14.cell (p := ⟨rb, ro, none⟩) (hrlt14)).trans ((hb13.cell (p := ⟨rb, ro, none⟩) (hrlt13)).trans (c0)) | exact (hb13.cell (p := ⟨rb, ro, none⟩) (hrlt13)).trans (c0)) (first | (go_at_call 22; refine (clone_any _ _ _ p1 _ ((hX.drew).below_ hb13)).mono ?_; rintro e w14 ⟨qF, rfl, hF, hb14⟩; have hrlt14 := hr13x; have hr14x := Nat.lt_of_lt_of_le hr13x hb14.size; dsimp only) | (go_at_call 22; refine (clone_any _ _ _ p1 _ (hX.drew)).mono ?_; rintro e w13 ⟨qD, rfl, hD, hb13⟩; have hrlt13 := hrlt; have hr13x := Nat.lt_of_lt_of_le hrlt hb13.size; dsimp only))
      have sz13 : w12.heap.size ≤ w13.heap.size := hb13.size
      have lt13 := hD.lt
      have sz14 : w13.heap.size ≤ w14.heap.size := hb14.size
      have lt14 := hF.lt
      have hX := ((hX.drew).below_ hb13).below_ hb14
      have hY := ((hY.drew).below_ hb13).below_ hb14
      have hZ := ((hZ.drew).below_ hb13).below_ hb14
      have hE := ((hE.drew).below_ hb13).below_ hb14
      have hA := ((hA.drew).below_ hb13).below_ hb14
      have hB := ((hB.drew).below_ hb13).below_ hb14
      have hC := ((hC.drew).below_ hb13).below_ hb14
      have hD : BSet w14 w12.heap.size w13.heap.size qD X := (hD).below_ hb14
      have lnD : (X).length = N := lnX
      have hF : BSet w14 w13.heap.size w14.heap.size qF X := hF
      have lnF : (X).length = N := lnX
      have c0 := (hb14.cell (p := ⟨rb, ro, none⟩) (by show rb < w13.heap.size; omega)).trans ((hb13.cell (p := ⟨rb, ro, none⟩) (by show rb < w12.heap.size; omega)).trans (c0))
      have c1 := (hb14.cell (p := ⟨rb, ro + 1, none⟩) (by show rb < w13.heap.size; omega)).trans ((hb13.cell (p := ⟨rb, ro + 1, none⟩) (by show rb < w12.heap.size; omega)).trans (c1))
      have c2 := (hb14.cell (p := ⟨rb, ro + 2, none⟩) (by show rb < w13.heap.size; omega)).trans ((hb13.cell (p := ⟨rb, ro + 2, none⟩) (by show rb < w12.heap.size; omega)).trans (c2))
      have hbw := Lib.hid (Below.lift (Below.lift (hbw.out.drew) hb13) hb14)
      go_wp2_with fail
      refine (setMinus_any w14 _ _ qD _ _ qE _ _ hD hE (by omega) (by omega)).mono ?_
      rintro e w15 ⟨rfl, hD, ch15⟩
      have hD : BSet w15 w12.heap.size w13.heap.size qD (minusL (X) (orL (Y) (Z))) := hD
      have lnD : (minusL (X) (orL (Y) (Z))).length = N := by rw [minusL_len (by omega)]; exact lnD
      have sa15 : w15.heap.size ≤ w14.heap.size := Nat.le_of_eq ch15.size
      have sb15 : w14.heap.size ≤ w15.heap.size := Nat.le_of_eq ch15.size.symm
      have hX := hX.chg ch15 (by omega)
      have hY := hY.chg ch15 (by omega)
      have hZ := hZ.chg ch15 (by omega)
      have hE := hE.chg ch15 (by omega)
      have hA := hA.chg ch15 (by omega)
      have hB := hB.chg ch15 (by omega)
      have hC := hC.chg ch15 (by omega)
      have hF := hF.chg ch15 (by omega)
      have c0 := ((ch15.below (Nat.le_refl _)).cell (p := ⟨rb, ro, none⟩) (by show rb < _; omega)).trans c0
      have c1 := ((ch15.below (Nat.le_refl _)).cell (p := ⟨rb, ro + 1, none⟩) (by show rb < _; omega)).trans c1
      have c2 := ((ch15.below (Nat.le_refl _)).cell (p := ⟨rb, ro + 2, none⟩) (by show rb < _; omega)).trans c2
      have hbw := Lib.hid (hbw.out.trans (ch15.below (by omega)))
      go_wp2_with fail
      refine (setMinus_any w15 _ _ qF _ _ p2 _ _ hF hY (by omega) (by omega)).mono ?_
      rintro e w16 ⟨rfl, hF, ch16⟩
      have hF : BSet w16 w13.heap.size w14.heap.size qF (minusL (X) (Y)) := hF
      have lnF : (minusL (X) (Y)).length = N := by rw [minusL_len (by omega)]; exact lnF
      have sa16 : w16.heap.size ≤ w15.heap.size := Nat.le_of_eq ch16.size
      have sb16 : w15.heap.size ≤ w16.heap.size := Nat.le_of_eq ch16.size.symm
      have hX := hX.chg ch16 (by omega)
      have hY := hY.chg ch16 (by omega)
      have hZ := hZ.chg ch16 (by omega)
      have hE := hE.chg ch16 (by omega)
      have hA := hA.chg ch16 (by omega)
      have hB := hB.chg ch16 (by omega)
      have hC := hC.chg ch16 (by omega)
      have hD := hD.chg ch16 (by omega)
      have c0 := ((ch16.below (Nat.le_refl _)).cell (p := ⟨rb, ro, none⟩) (by show rb < _; omega)).trans c0
      have c1 := ((ch16.below (Nat.le_refl _)).cell (p := ⟨rb, ro + 1, none⟩) (by show rb < _; omega)).trans c1
      have c2 := ((ch16.below (Nat.le_refl _)).cell (p := ⟨rb, ro + 2, none⟩) (by show rb < _; omega)).trans c2
      have hbw := Lib.hid (hbw.out.trans (ch16.below (by omega)))
      go_wp2_with fail
      refine (setMinus_any w16 _ _ qF _ _ p3 _ _ hF hZ (by omega) (by omega)).mono ?_
      rintro e w17 ⟨rfl, hF, ch17⟩
      have hF : BSet w17 w13.heap.size w14.heap.size qF (minusL (minusL (X) (Y)) (Z)) := hF
      have lnF : (minusL (minusL (X) (Y)) (Z)).length = N := by rw [minusL_len (by omega)]; exact lnF
      have sa17 : w17.heap.size ≤ w16.heap.size := Nat.le_of_eq ch17.size
      have sb17 : w16.heap.size ≤ w17.heap.size := Nat.le_of_eq ch17.size.symm
      have hX := hX.chg ch17 (by omega)
      have hY := hY.chg ch17 (by omega)
      have hZ := hZ.chg ch17 (by omega)
      have hE := hE.chg ch17 (by omega)
      have hA := hA.chg ch17 (by omega)
      have hB := hB.chg ch17 (by omega)
      have hC := hC.chg ch17 (by omega)
      have hD := hD.chg ch17 (by omega)
      have c0 := ((ch17.below (Nat.le_refl _)).cell (p := ⟨rb, ro, none⟩) (by show rb < _; omega)).trans c0
      have c1 := ((ch17.below (Nat.le_refl _)).cell (p := ⟨rb, ro + 1, none⟩) (by show rb < _; omega)).trans c1
      have c2 := ((ch17.below (Nat.le_refl _)).cell (p := ⟨rb, ro + 2, none⟩) (by show rb < _; omega)).trans c2
      have hbw := Lib.hid (hbw.out.trans (ch17.below (by omega)))
      go_wp2_with fail
      refine (clone_any w17 _ _ qA _ hA).mono ?_
      rintro e w18 ⟨qG, rfl, hG, hb18⟩
      have sz18 := hb18.size
      have lt18 := hG.lt
      have hX := hX.below_ hb18
      have hY := hY.below_ hb18
      have hZ := hZ.below_ hb18
      have hE := hE.below_ hb18
      have hA := hA.below_ hb18
      have hB := hB.below_ hb18
      have hC := hC.below_ hb18
      have hD := hD.below_ hb18
      have hF := hF.below_ hb18
      have c0 := (hb18.cell (p := ⟨rb, ro, none⟩) (by show rb < _; omega)).trans c0
      have c1 := (hb18.cell (p := ⟨rb, ro + 1, none⟩) (by show rb < _; omega)).trans c1
      have c2 := (hb18.cell (p := ⟨rb, ro + 2, none⟩) (by show rb < _; omega)).trans c2
      have hbw := Lib.hid (Below.lift hbw.out hb18)
      have lnG : (andL (X) (orL (Y) (Z))).length = N := lnA
      go_wp2_with fail
      refine (setOr_any w18 _ _ qG _ _ qD _ _ hG hD (by omega) (by omega)).mono ?_
      rintro e w19 ⟨rfl, hG, ch19⟩
      have hG : BSet w19 w17.heap.size w18.heap.size qG (orL (andL (X) (orL (Y) (Z))) (minusL (X) (orL (Y) (Z)))) := hG
      have lnG : (orL (andL (X) (orL (Y) (Z))) (minusL (X) (orL (Y) (Z)))).length = N := by rw [orL_len (by omega)]; exact lnG
      have sa19 : w19.heap.size ≤ w18.heap.size := Nat.le_of_eq ch19.size
      have sb19 : w18.heap.size ≤ w19.heap.size := Nat.le_of_eq ch19.size.symm
      have hX := hX.chg ch19 (by omega)
      have hY := hY.chg ch19 (by omega)
      have hZ := hZ.chg ch19 (by omega)
      have hE := hE.chg ch19 (by omega)
      have hA := hA.chg ch19 (by omega)
      have hB := hB.chg ch19 (by omega)
      have hC := hC.chg ch19 (by omega)
      have hD := hD.chg ch19 (by omega)
      have hF := hF.chg ch19 (by omega)
      have c0 := ((ch19.below (Nat.le_refl _)).cell (p := ⟨rb, ro, none⟩) (by show rb < _; omega)).trans c0
      have c1 := ((ch19.below (Nat.le_refl _)).cell (p := ⟨rb, ro + 1, none⟩) (by show rb < _; omega)).trans c1
      have c2 := ((ch19.below (Nat.le_refl _)).cell (p := ⟨rb, ro + 2, none⟩) (by show rb < _; omega)).trans c2
      have hbw := Lib.hid (hbw.out.trans (ch19.below (by omega)))
      have e1 : andL (X) (orL (Y) (Z)) = orL (andL (X) (Y)) (andL (X) (Z)) := sp1 (by omega) (by omega)
      have e2 : minusL (X) (orL (Y) (Z)) = minusL (minusL (X) (Y)) (Z) := sp2 (by omega) (by omega)
      have e3 : orL (andL (X) (orL (Y) (Z))) (minusL (X) (orL (Y) (Z))) = X := sp3 (by rw [orL_len (by omega)]; omega)
      have e4 : Bs.count (andL (X) (orL (Y) (Z))) + Bs.count (minusL (X) (orL (Y) (Z))) = Bs.count X := sp4 (by rw [orL_len (by omega)]; omega)
      have HA := Lib.hid (fun m => setSame_self (w19.drewN m) _ _ qA _ _ qB _ _ (hA.drewN m) (hB.drewN m) e1)
      have HD := Lib.hid (fun m => setSame_self (w19.drewN m) _ _ qD _ _ qF _ _ (hD.drewN m) (hF.drewN m) e2)
      have HG := Lib.hid (fun m => setSame_self (w19.drewN m) _ _ qG _ _ p1 _ _ (hG.drewN m) (hX.drewN m) e3)
      have HCA := Lib.hid (fun m => count_any (w19.drewN m) _ _ qA _ (hA.drewN m))
      have HCD := Lib.hid (fun m => count_any (w19.drewN m) _ _ qD _ (hD.drewN m))
      have HCX := Lib.hid (fun m => count_any (w19.drewN m) _ _ p1 _ (hX.drewN m))
      have lc1 := cnt_le (at_ (andL (X) (orL (Y) (Z)))) (andL (X) (orL (Y) (Z))).length
      have lc2 := cnt_le (at_ (minusL (X) (orL (Y) (Z)))) (minusL (X) (orL (Y) (Z))).length
      change Bs.count (andL (X) (orL (Y) (Z))) ≤ _ at lc1
      change Bs.count (minusL (X) (orL (Y) (Z))) ≤ _ at lc2
      generalize Bs.count (andL (X) (orL (Y) (Z))) = nA at *
      generalize Bs.count (minusL (X) (orL (Y) (Z))) = nD at *
      generalize Bs.count X = nX at *
      have b1 : (nA : Int) ≤ 300 := by omega
      have b2 : (nD : Int) ≤ 300 := by omega
      have hw : IntKind.i64.wrap ((nA : Int) + (nD : Int)) = (nA : Int) + (nD : Int) := IntWalk.i64_in _ (by omega)
      have hq : ((nA : Int) + (nD : Int) == (nX : Int)) = true := beq_iff_eq.2 (by omega)
      clear e1 e2 e3 e4 lc1 lc2
      go_wp2_with fail
      go_quiet (first | (go_at_call 19; with_reducible exact quiet_any_left HA.out _) | (go_at_call 19; with_reducible exact quiet_any_left HD.out _) | (go_at_call 19; with_reducible exact quiet_any_left HG.out _) | (go_at_call 15; with_reducible exact quiet_same_left HCA.out _) | (go_at_call 15; with_reducible exact quiet_same_left HCD.out _) | (go_at_call 15; with_reducible exact quiet_same_left HCX.out _))
      go_wp2_with fail
      go_ret
      exact ⟨rfl, below_drewN hbw.out _⟩
end Go.Proofs.YtaaladekamfpnaaDoor
