/- The walks of bitset.Set's with, Or, And, Minus, each at another set and at itself. -/
import Derived.Test.YtaaladekamfpnaaDoorBe
import Derived.StillTailTactics
namespace Go.Proofs.YtaaladekamfpnaaDoor
open Go.RowKit Bs

/-- At the head of with's loop. -/
def WithRel (G : Nat → Nat → Nat) (ws us : List Nat) (w : World) (lo hi p : Nat) (v : Value) (s31 : Value) (wr : World) : Prop :=
  ∃ k : Nat, k ≤ ws.length ∧ s31 = .int .i64 (k : Int) ∧ Words wr lo hi v (mix G ws us k) ∧ wr.heap[p]? = w.heap[p]? ∧ Chg lo hi w wr
theorem at_zip {f : Bool → Bool → Bool} (hf : f false false = false) {l m : List Bool} (h : l.length = m.length) (k : Nat) : at_ (List.zipWith f l m) k = f (at_ l k) (at_ m k) := by
  by_cases hk : k < l.length
  · rw [at_lt (by rw [List.length_zipWith]; omega), List.getElem_zipWith, at_lt hk, at_lt (by omega)]
  · rw [at_ge (by rw [List.length_zipWith]; omega), at_ge (by omega), at_ge (by omega), hf]
theorem wd_zipWith {f : Bool → Bool → Bool} {F : Nat → Nat → Nat} (hF : ∀ x y, x < 18446744073709551616 → y < 18446744073709551616 → F x y < 18446744073709551616 ∧ ∀ j, j < 64 → (F x y).testBit j = f (x.testBit j) (y.testBit j)) (hf : f false false = false)
    {l m : List Bool} {ws us : List Nat} (hl : Wd l ws) (hm : Wd m us) (hlm : l.length = m.length) : Wd (List.zipWith f l m) (List.zipWith F ws us) := by
  have hwu : ws.length = us.length := by rw [hl.1, hm.1, hlm]
  exact Wd.zip f F hF hl hm hlm (by rw [List.length_zipWith]; omega) (at_zip hf hlm) (by rw [List.length_zipWith]; omega) fun k hk => List.getElem_zipWith
/-- What with leaves. -/
def WithPost (r : List Bool) (lo hi p : Nat) (w : World) (e : Ending) (w' : World) : Prop := e = .returned (.int .i64 0) ∧ BSet w' lo hi p r ∧ Chg lo hi w w'
theorem WithPost.of {f : Bool → Bool → Bool} {G : Nat → Nat → Nat} (hG : ∀ x y, x < 18446744073709551616 → y < 18446744073709551616 → G x y < 18446744073709551616 ∧ ∀ j, j < 64 → (G x y).testBit j = f (x.testBit j) (y.testBit j)) (hf : f false false = false)
    {l m : List Bool} {ws us : List Nat} {w wr : World} {lo hi p : Nat} {A : Option Addr} {n cap : Nat} (h : BSet w lo hi p l) (c1 : w.cell? ⟨p, 1, none⟩ = some (.slice A n cap)) (hl : Wd l ws) (hm : Wd m us) (hlm : l.length = m.length)
    (hW : Words wr lo hi (.slice A n cap) (mix G ws us ws.length)) (hp : wr.heap[p]? = w.heap[p]?) (hc : Chg lo hi w wr) : WithPost (List.zipWith f l m) lo hi p w (.returned (.int .i64 0)) wr := by
  have hwu : ws.length = us.length := by rw [hl.1, hm.1, hlm]
  rw [mix_end hwu] at hW
  obtain ⟨v, ws', h1, h2, h3, h4, h5, h6, h7⟩ := h
  have hv : v = .slice A n cap := by
    rw [cell_of_row w p 1 _ _ (0, 0) h5] at c1
    simpa using c1
  have hz : (List.zipWith f l m).length = l.length := by rw [List.length_zipWith]; omega
  refine ⟨rfl, ⟨v, List.zipWith G ws us, h1, h2, by rw [hc.size]; exact h3, by rw [hz]; exact h4, by rw [hz]; exact hp.trans h5, by rw [hv]; exact hW, wd_zipWith hG hf hl hm hlm⟩, hc⟩

set_option maxHeartbeats 400000 in
theorem with_nil1 (w : World) (q : Option Addr) (f : Value) : Calls Tryd.prog 42 #[.pointer none, .pointer q, f] w fun e w' => e = .returned (.int .i64 1) ∧ w = w' := by
  go_enter Tryd.func42, Tryd.ntmps42
  go_wp2
  go_ret
  exact ⟨rfl, rfl⟩
set_option maxHeartbeats 400000 in
theorem with_nil2 (w : World) (p : Nat) (f : Value) : Calls Tryd.prog 42 #[.pointer (some ⟨p, 0, none⟩), .pointer none, f] w fun e w' => e = .returned (.int .i64 1) ∧ w = w' := by
  go_enter Tryd.func42, Tryd.ntmps42
  go_wp2
  go_ret
  exact ⟨rfl, rfl⟩
set_option maxHeartbeats 1000000 in
theorem with_arg (w : World) (lo hi p lo' hi' p' : Nat) (l m : List Bool) (f : Value) (h : BSet w lo hi p l) (k : BSet w lo' hi' p' m) (hlm : l.length ≠ m.length) :
    Calls Tryd.prog 42 #[.pointer (some ⟨p, 0, none⟩), .pointer (some ⟨p', 0, none⟩), f] w (Quiet (.int .i64 2) w) := by
  obtain ⟨A, cap, ws, c0, c1, hc1, hc2, hwd, hW, hp1, hp2⟩ := h.open_
  obtain ⟨B, cap', us, d0, d1, hd1, hd2, hud, hU, hq1, hq2⟩ := k.open_
  have hdec : ((l.length : Int) != (m.length : Int)) = true := by simp; omega
  clear hwd hud hW hU hlm
  go_enter Tryd.func42, Tryd.ntmps42
  go_wp2
  go_quiet (fail)
  go_wp2
  go_ret
  exact ⟨rfl, _, rfl⟩

set_option maxHeartbeats 400000 in
theorem opOr_any (x y : Nat) (hx : x < 18446744073709551616) (hy : y < 18446744073709551616) (w : World) : Calls Tryd.prog 43 #[.int .u64 (x : Int), .int .u64 (y : Int)] w fun e w' => e = .returned (.int .u64 ((x ||| y : Nat) : Int)) ∧ w' = w := by
  have H := Lib.hid (u64_or_nat x y hx hy)
  go_enter Tryd.func43, Tryd.ntmps43
  go_wp2
  go_ret
  exact ⟨congrArg (fun z => Ending.returned (.int .u64 z)) H.out, rfl⟩

set_option maxHeartbeats 4000000 in
theorem withOr_any (w : World) (lo hi p lo' hi' p' : Nat) (l m : List Bool) (h : BSet w lo hi p l) (k : BSet w lo' hi' p' m) (hlm : l.length = m.length) (hd : hi ≤ lo' ∨ hi' ≤ lo ∨ (p' = p ∧ m = l)) :
    Calls Tryd.prog 42 #[.pointer (some ⟨p, 0, none⟩), .pointer (some ⟨p', 0, none⟩), .func (.func 43) #[] #[]] w (WithPost (List.zipWith (fun a b => a || b) l m) lo hi p w) := by
  have h0 := h
  obtain ⟨A, cap, ws, c0, c1, hc1, hc2, hwd, hW, hp1, hp2⟩ := h.open_
  obtain ⟨B, cap', us, d0, d1, hd1, hd2, hud, hU, hq1, hq2⟩ := k.open_
  have hwu : ws.length = us.length := by rw [hwd.1, hud.1, hlm]
  have HK : Hid (∀ wr, Chg lo hi w wr → ∀ j, Words wr lo hi (.slice A ws.length cap) (mix (fun x y => x ||| y) ws us j) → ∀ (hj : j < us.length), ∃ g, B = some ⟨g, 0, none⟩ ∧ wr.cell? ⟨g, j, none⟩ = some (.int .u64 (us[j] : Int))) := by
    intro wr hchg j hWj hj
    rcases hd with hd | hd | ⟨rfl, rfl⟩
    · obtain ⟨g, e, _, _, hc, _⟩ := (hU.keep (w' := wr) fun b b1 b2 => hchg.block b (by omega)).word hj
      exact ⟨g, e, hc⟩
    · obtain ⟨g, e, _, _, hc, _⟩ := (hU.keep (w' := wr) fun b b1 b2 => hchg.block b (by omega)).word hj
      exact ⟨g, e, hc⟩
    · have e1 : (Value.slice A ws.length cap) = .slice B us.length cap' := by
        rw [c1] at d1
        injection d1
      injection e1 with e1 e2 e3
      have hu := hwd.uniq hud
      subst e1 e3 hu
      have hlm' : j < (mix (fun x y => x ||| y) ws ws j).length := by rw [mix_length rfl j (by omega)]; exact hj
      obtain ⟨g, e, _, _, hc, _⟩ := hWj.word hlm'
      have := mix_at (G := fun x y => x ||| y) (ws := ws) (us := ws) rfl hj
      rw [List.getElem?_eq_getElem hlm'] at this
      injection this with this
      rw [this] at hc
      exact ⟨g, e, hc⟩
  have hdec : ((l.length : Int) != (m.length : Int)) = false := by simp; omega
  have hn : us.length ≤ 16384 := by rw [hud.1]; have := k.le; omega
  have Hwu := Lib.hid hwu
  have HP := Lib.hid (fun wr hWr hpr hcr => WithPost.of (f := fun a b => a || b) or_ok rfl h0 c1 hwd hud hlm (wr := wr) hWr hpr hcr)
  have HX := Lib.hid (fun j (hj : j < ws.length) => hwd.lt hj)
  have HY := Lib.hid (fun j (hj : j < us.length) => hud.lt hj)
  have Hc1 := Lib.hid (fun (wr : World) (hpr : wr.heap[p]? = w.heap[p]?) => (World.cell?_of_block (w := w) (a := ⟨p, 1, none⟩) hpr).trans c1)
  have hne : ∀ g, lo ≤ g → g < hi → ∀ cs fr, w.heap[g]? = some (.cells cs 62 fr) → g ≠ p := by
    rintro g _ _ cs fr hg rfl
    obtain ⟨v, ws', _, _, _, _, h5, _⟩ := h0
    rw [h5] at hg
    injection hg with hg
    injection hg with _ ht
    exact absurd ht (by decide)
  have Hne := Lib.hid hne
  clear hwu hlm hwd hud hd hne
  go_enter Tryd.func42, Tryd.ntmps42
  go_wp2
  go_quiet (fail)
  go_wp2
  go_loopw [7, 8, 31] (fun _ _ s31 wr => WithRel (fun x y => x ||| y) ws us w lo hi p (.slice A ws.length cap) s31 wr) (fun _ _ s31 _ => us.length - (intOf s31).toNat)
  case atStart => exact ⟨0, Nat.zero_le _, rfl, hW, rfl, ⟨rfl, rfl, rfl, rfl, fun _ _ => rfl⟩⟩
  case round =>
    obtain ⟨k, hk, rfl, hWk, hpk, hchg⟩ := hrel
    by_cases hlt : k < us.length
    · have hks : k < ws.length := by rw [Hwu.out]; exact hlt
      have hkm : k < (mix (fun x y => x ||| y) ws us k).length := by rw [mix_length Hwu.out k hk]; exact hks
      obtain ⟨g, rfl, g1, g2, cs, cf⟩ := hWk.word hkm
      have hWk0 := hWk
      obtain ⟨g', rfl, co⟩ := HK.out wr hchg k hWk hlt
      have hmx : (mix (fun x y => x ||| y) ws us k)[k] = ws[k] := by
        have := mix_at (G := fun x y => x ||| y) (ws := ws) (us := us) Hwu.out hks
        rw [List.getElem?_eq_getElem hkm] at this
        injection this
      rw [hmx] at cs
      have cp := Hc1.out wr hpk
      have hx := HX.out k hks
      have hy := HY.out k hlt
      have HS := Lib.hid (show WithRel (fun x y => x ||| y) ws us w lo hi p (.slice (some ⟨g, 0, none⟩) ws.length cap) (.int .i64 ((k : Int) + 1)) ((wr.setCell ⟨g, k, none⟩ (.int .u64 (((fun x y => x ||| y) ws[k] us[k] : Nat) : Int))).drew) from by
        obtain ⟨A', c', e, _, _, h3⟩ := hWk
        obtain ⟨g'', cs', ea, _, _, hbk, _⟩ := h3 (by omega)
        rw [ea] at e
        injection e with e _ _
        injection e with e
        injection e with e
        subst e
        have hgp : g ≠ p := by
          obtain ⟨_, c2, e2, _, _, h32⟩ := hW
          obtain ⟨g3, cs3, ea3, l3, u3, hbk3, _⟩ := h32 (by omega)
          rw [ea3] at e2
          injection e2 with e2 _ _
          injection e2 with e2
          injection e2 with e2
          subst e2
          exact Hne.out g l3 u3 _ _ hbk3
        refine ⟨k + 1, by omega, by go_num, ?_, ?_, ?_⟩
        · have := hWk0.store hkm ((fun x y => x ||| y) ws[k] us[k])
          rw [mix_set Hwu.out hks] at this
          exact this
        · exact (Below.heap_setCell wr _ _ p (by show p ≠ g; omega)).trans hpk
        · exact ⟨hchg.os, hchg.tape, hchg.output, (by simpa [World.setCell] using hchg.size), fun b hb => (Below.heap_setCell wr _ _ b (by show b ≠ g; omega)).trans (hchg.block b hb)⟩)
      generalize ws[k] = x at *
      generalize us[k] = y at *
      have q1 : (0 : Int) ≤ (k : Int) := by omega
      have q2 : (k : Int) < (us.length : Int) := by omega
      have q3 : (k : Int) < (ws.length : Int) := by omega
      clear hmx
      go_wp2
      refine wp_region_still_tail 16 (by kernel_rfl) (by kernel_rfl) ?_
      simp only [List.take_succ_cons, List.take_zero, List.drop_succ_cons, List.drop_zero]
      repeat still_step
      still_call (opOr_any x y hx hy _)
      repeat still_step
      try refine wpStill_nil ?_
      change wpList _ _ _ _ _ wr.drew
      go_wp2
      have R := HS.out
      go_roundw
      case rel => first | exact R | ((repeat apply Exists.intro); exact ⟨R, rfl⟩)
      case measure => simp [intOf]; omega
    · obtain rfl : k = us.length := by have := Hwu.out; omega
      rw [← Hwu.out] at hWk
      go_wp2
      go_ret
      exact HP.out wr hWk hpk hchg

set_option maxHeartbeats 400000 in
theorem ofOr {Q : Ending → World → Prop} (w : World) (p q : Value) (h : Calls Tryd.prog 42 #[p, q, .func (.func 43) #[] #[]] w Q) (hQ : ∀ e w', Q e w' → ∃ b, e = .returned (.int .i64 b)) : Calls Tryd.prog 21 #[p, q] w Q := by
  have H := Lib.hid h
  have HQ := Lib.hid hQ
  clear h hQ
  go_enter Tryd.func21, Tryd.ntmps21
  go_wp2_with (go_at_call 42; refine H.out.mono ?_; intro e w' hq; obtain ⟨b, rfl⟩ := HQ.out e w' hq; have hq' := Lib.hid hq; clear hq)
  exact hq'.out
theorem setOr_any (w : World) (lo hi p lo' hi' p' : Nat) (l m : List Bool) (h : BSet w lo hi p l) (k : BSet w lo' hi' p' m) (hlm : l.length = m.length) (hd : hi ≤ lo' ∨ hi' ≤ lo ∨ (p' = p ∧ m = l)) :
    Calls Tryd.prog 21 #[.pointer (some ⟨p, 0, none⟩), .pointer (some ⟨p', 0, none⟩)] w (WithPost (List.zipWith (fun a b => a || b) l m) lo hi p w) :=
  ofOr w _ _ (withOr_any w lo hi p lo' hi' p' l m h k hlm hd) fun _ _ h => ⟨0, h.1⟩
theorem setOr_nil1 (w : World) (q : Option Addr) : Calls Tryd.prog 21 #[.pointer none, .pointer q] w fun e w' => e = .returned (.int .i64 1) ∧ w = w' :=
  ofOr w _ _ (with_nil1 w q _) fun _ _ h => ⟨1, h.1⟩
theorem setOr_nil2 (w : World) (p : Nat) : Calls Tryd.prog 21 #[.pointer (some ⟨p, 0, none⟩), .pointer none] w fun e w' => e = .returned (.int .i64 1) ∧ w = w' :=
  ofOr w _ _ (with_nil2 w p _) fun _ _ h => ⟨1, h.1⟩
theorem setOr_arg (w : World) (lo hi p lo' hi' p' : Nat) (l m : List Bool) (h : BSet w lo hi p l) (k : BSet w lo' hi' p' m) (hlm : l.length ≠ m.length) :
    Calls Tryd.prog 21 #[.pointer (some ⟨p, 0, none⟩), .pointer (some ⟨p', 0, none⟩)] w (Quiet (.int .i64 2) w) :=
  ofOr w _ _ (with_arg w lo hi p lo' hi' p' l m _ h k hlm) fun _ _ h => ⟨2, h.1⟩

set_option maxHeartbeats 400000 in
theorem opAnd_any (x y : Nat) (hx : x < 18446744073709551616) (hy : y < 18446744073709551616) (w : World) : Calls Tryd.prog 45 #[.int .u64 (x : Int), .int .u64 (y : Int)] w fun e w' => e = .returned (.int .u64 ((x &&& y : Nat) : Int)) ∧ w' = w := by
  have H := Lib.hid (u64_and_nat x y hx hy)
  go_enter Tryd.func45, Tryd.ntmps45
  go_wp2
  go_ret
  exact ⟨congrArg (fun z => Ending.returned (.int .u64 z)) H.out, rfl⟩

set_option maxHeartbeats 4000000 in
theorem withAnd_any (w : World) (lo hi p lo' hi' p' : Nat) (l m : List Bool) (h : BSet w lo hi p l) (k : BSet w lo' hi' p' m) (hlm : l.length = m.length) (hd : hi ≤ lo' ∨ hi' ≤ lo ∨ (p' = p ∧ m = l)) :
    Calls Tryd.prog 42 #[.pointer (some ⟨p, 0, none⟩), .pointer (some ⟨p', 0, none⟩), .func (.func 45) #[] #[]] w (WithPost (List.zipWith (fun a b => a && b) l m) lo hi p w) := by
  have h0 := h
  obtain ⟨A, cap, ws, c0, c1, hc1, hc2, hwd, hW, hp1, hp2⟩ := h.open_
  obtain ⟨B, cap', us, d0, d1, hd1, hd2, hud, hU, hq1, hq2⟩ := k.open_
  have hwu : ws.length = us.length := by rw [hwd.1, hud.1, hlm]
  have HK : Hid (∀ wr, Chg lo hi w wr → ∀ j, Words wr lo hi (.slice A ws.length cap) (mix (fun x y => x &&& y) ws us j) → ∀ (hj : j < us.length), ∃ g, B = some ⟨g, 0, none⟩ ∧ wr.cell? ⟨g, j, none⟩ = some (.int .u64 (us[j] : Int))) := by
    intro wr hchg j hWj hj
    rcases hd with hd | hd | ⟨rfl, rfl⟩
    · obtain ⟨g, e, _, _, hc, _⟩ := (hU.keep (w' := wr) fun b b1 b2 => hchg.block b (by omega)).word hj
      exact ⟨g, e, hc⟩
    · obtain ⟨g, e, _, _, hc, _⟩ := (hU.keep (w' := wr) fun b b1 b2 => hchg.block b (by omega)).word hj
      exact ⟨g, e, hc⟩
    · have e1 : (Value.slice A ws.length cap) = .slice B us.length cap' := by
        rw [c1] at d1
        injection d1
      injection e1 with e1 e2 e3
      have hu := hwd.uniq hud
      subst e1 e3 hu
      have hlm' : j < (mix (fun x y => x &&& y) ws ws j).length := by rw [mix_length rfl j (by omega)]; exact hj
      obtain ⟨g, e, _, _, hc, _⟩ := hWj.word hlm'
      have := mix_at (G := fun x y => x &&& y) (ws := ws) (us := ws) rfl hj
      rw [List.getElem?_eq_getElem hlm'] at this
      injection this with this
      rw [this] at hc
      exact ⟨g, e, hc⟩
  have hdec : ((l.length : Int) != (m.length : Int)) = false := by simp; omega
  have hn : us.length ≤ 16384 := by rw [hud.1]; have := k.le; omega
  have Hwu := Lib.hid hwu
  have HP := Lib.hid (fun wr hWr hpr hcr => WithPost.of (f := fun a b => a && b) and_ok rfl h0 c1 hwd hud hlm (wr := wr) hWr hpr hcr)
  have HX := Lib.hid (fun j (hj : j < ws.length) => hwd.lt hj)
  have HY := Lib.hid (fun j (hj : j < us.length) => hud.lt hj)
  have Hc1 := Lib.hid (fun (wr : World) (hpr : wr.heap[p]? = w.heap[p]?) => (World.cell?_of_block (w := w) (a := ⟨p, 1, none⟩) hpr).trans c1)
  have hne : ∀ g, lo ≤ g → g < hi → ∀ cs fr, w.heap[g]? = some (.cells cs 62 fr) → g ≠ p := by
    rintro g _ _ cs fr hg rfl
    obtain ⟨v, ws', _, _, _, _, h5, _⟩ := h0
    rw [h5] at hg
    injection hg with hg
    injection hg with _ ht
    exact absurd ht (by decide)
  have Hne := Lib.hid hne
  clear hwu hlm hwd hud hd hne
  go_enter Tryd.func42, Tryd.ntmps42
  go_wp2
  go_quiet (fail)
  go_wp2
  go_loopw [7, 8, 31] (fun _ _ s31 wr => WithRel (fun x y => x &&& y) ws us w lo hi p (.slice A ws.length cap) s31 wr) (fun _ _ s31 _ => us.length - (intOf s31).toNat)
  case atStart => exact ⟨0, Nat.zero_le _, rfl, hW, rfl, ⟨rfl, rfl, rfl, rfl, fun _ _ => rfl⟩⟩
  case round =>
    obtain ⟨k, hk, rfl, hWk, hpk, hchg⟩ := hrel
    by_cases hlt : k < us.length
    · have hks : k < ws.length := by rw [Hwu.out]; exact hlt
      have hkm : k < (mix (fun x y => x &&& y) ws us k).length := by rw [mix_length Hwu.out k hk]; exact hks
      obtain ⟨g, rfl, g1, g2, cs, cf⟩ := hWk.word hkm
      have hWk0 := hWk
      obtain ⟨g', rfl, co⟩ := HK.out wr hchg k hWk hlt
      have hmx : (mix (fun x y => x &&& y) ws us k)[k] = ws[k] := by
        have := mix_at (G := fun x y => x &&& y) (ws := ws) (us := us) Hwu.out hks
        rw [List.getElem?_eq_getElem hkm] at this
        injection this
      rw [hmx] at cs
      have cp := Hc1.out wr hpk
      have hx := HX.out k hks
      have hy := HY.out k hlt
      have HS := Lib.hid (show WithRel (fun x y => x &&& y) ws us w lo hi p (.slice (some ⟨g, 0, none⟩) ws.length cap) (.int .i64 ((k : Int) + 1)) ((wr.setCell ⟨g, k, none⟩ (.int .u64 (((fun x y => x &&& y) ws[k] us[k] : Nat) : Int))).drew) from by
        obtain ⟨A', c', e, _, _, h3⟩ := hWk
        obtain ⟨g'', cs', ea, _, _, hbk, _⟩ := h3 (by omega)
        rw [ea] at e
        injection e with e _ _
        injection e with e
        injection e with e
        subst e
        have hgp : g ≠ p := by
          obtain ⟨_, c2, e2, _, _, h32⟩ := hW
          obtain ⟨g3, cs3, ea3, l3, u3, hbk3, _⟩ := h32 (by omega)
          rw [ea3] at e2
          injection e2 with e2 _ _
          injection e2 with e2
          injection e2 with e2
          subst e2
          exact Hne.out g l3 u3 _ _ hbk3
        refine ⟨k + 1, by omega, by go_num, ?_, ?_, ?_⟩
        · have := hWk0.store hkm ((fun x y => x &&& y) ws[k] us[k])
          rw [mix_set Hwu.out hks] at this
          exact this
        · exact (Below.heap_setCell wr _ _ p (by show p ≠ g; omega)).trans hpk
        · exact ⟨hchg.os, hchg.tape, hchg.output, (by simpa [World.setCell] using hchg.size), fun b hb => (Below.heap_setCell wr _ _ b (by show b ≠ g; omega)).trans (hchg.block b hb)⟩)
      generalize ws[k] = x at *
      generalize us[k] = y at *
      have q1 : (0 : Int) ≤ (k : Int) := by omega
      have q2 : (k : Int) < (us.length : Int) := by omega
      have q3 : (k : Int) < (ws.length : Int) := by omega
      clear hmx
      go_wp2
      refine wp_region_still_tail 16 (by kernel_rfl) (by kernel_rfl) ?_
      simp only [List.take_succ_cons, List.take_zero, List.drop_succ_cons, List.drop_zero]
      repeat still_step
      still_call (opAnd_any x y hx hy _)
      repeat still_step
      try refine wpStill_nil ?_
      change wpList _ _ _ _ _ wr.drew
      go_wp2
      have R := HS.out
      go_roundw
      case rel => first | exact R | ((repeat apply Exists.intro); exact ⟨R, rfl⟩)
      case measure => simp [intOf]; omega
    · obtain rfl : k = us.length := by have := Hwu.out; omega
      rw [← Hwu.out] at hWk
      go_wp2
      go_ret
      exact HP.out wr hWk hpk hchg

set_option maxHeartbeats 400000 in
theorem ofAnd {Q : Ending → World → Prop} (w : World) (p q : Value) (h : Calls Tryd.prog 42 #[p, q, .func (.func 45) #[] #[]] w Q) (hQ : ∀ e w', Q e w' → ∃ b, e = .returned (.int .i64 b)) : Calls Tryd.prog 23 #[p, q] w Q := by
  have H := Lib.hid h
  have HQ := Lib.hid hQ
  clear h hQ
  go_enter Tryd.func23, Tryd.ntmps23
  go_wp2_with (go_at_call 42; refine H.out.mono ?_; intro e w' hq; obtain ⟨b, rfl⟩ := HQ.out e w' hq; have hq' := Lib.hid hq; clear hq)
  exact hq'.out
theorem setAnd_any (w : World) (lo hi p lo' hi' p' : Nat) (l m : List Bool) (h : BSet w lo hi p l) (k : BSet w lo' hi' p' m) (hlm : l.length = m.length) (hd : hi ≤ lo' ∨ hi' ≤ lo ∨ (p' = p ∧ m = l)) :
    Calls Tryd.prog 23 #[.pointer (some ⟨p, 0, none⟩), .pointer (some ⟨p', 0, none⟩)] w (WithPost (List.zipWith (fun a b => a && b) l m) lo hi p w) :=
  ofAnd w _ _ (withAnd_any w lo hi p lo' hi' p' l m h k hlm hd) fun _ _ h => ⟨0, h.1⟩
theorem setAnd_nil1 (w : World) (q : Option Addr) : Calls Tryd.prog 23 #[.pointer none, .pointer q] w fun e w' => e = .returned (.int .i64 1) ∧ w = w' :=
  ofAnd w _ _ (with_nil1 w q _) fun _ _ h => ⟨1, h.1⟩
theorem setAnd_nil2 (w : World) (p : Nat) : Calls Tryd.prog 23 #[.pointer (some ⟨p, 0, none⟩), .pointer none] w fun e w' => e = .returned (.int .i64 1) ∧ w = w' :=
  ofAnd w _ _ (with_nil2 w p _) fun _ _ h => ⟨1, h.1⟩
theorem setAnd_arg (w : World) (lo hi p lo' hi' p' : Nat) (l m : List Bool) (h : BSet w lo hi p l) (k : BSet w lo' hi' p' m) (hlm : l.length ≠ m.length) :
    Calls Tryd.prog 23 #[.pointer (some ⟨p, 0, none⟩), .pointer (some ⟨p', 0, none⟩)] w (Quiet (.int .i64 2) w) :=
  ofAnd w _ _ (with_arg w lo hi p lo' hi' p' l m _ h k hlm) fun _ _ h => ⟨2, h.1⟩

set_option maxHeartbeats 400000 in
theorem opMinus_any (x y : Nat) (hx : x < 18446744073709551616) (hy : y < 18446744073709551616) (w : World) : Calls Tryd.prog 46 #[.int .u64 (x : Int), .int .u64 (y : Int)] w fun e w' => e = .returned (.int .u64 ((x &&& (18446744073709551615 - y) : Nat) : Int)) ∧ w' = w := by
  have H := Lib.hid (u64_andNot_nat x y hx hy)
  go_enter Tryd.func46, Tryd.ntmps46
  go_wp2
  go_ret
  exact ⟨congrArg (fun z => Ending.returned (.int .u64 z)) H.out, rfl⟩

set_option maxHeartbeats 4000000 in
theorem withMinus_any (w : World) (lo hi p lo' hi' p' : Nat) (l m : List Bool) (h : BSet w lo hi p l) (k : BSet w lo' hi' p' m) (hlm : l.length = m.length) (hd : hi ≤ lo' ∨ hi' ≤ lo ∨ (p' = p ∧ m = l)) :
    Calls Tryd.prog 42 #[.pointer (some ⟨p, 0, none⟩), .pointer (some ⟨p', 0, none⟩), .func (.func 46) #[] #[]] w (WithPost (List.zipWith (fun a b => a && !b) l m) lo hi p w) := by
  have h0 := h
  obtain ⟨A, cap, ws, c0, c1, hc1, hc2, hwd, hW, hp1, hp2⟩ := h.open_
  obtain ⟨B, cap', us, d0, d1, hd1, hd2, hud, hU, hq1, hq2⟩ := k.open_
  have hwu : ws.length = us.length := by rw [hwd.1, hud.1, hlm]
  have HK : Hid (∀ wr, Chg lo hi w wr → ∀ j, Words wr lo hi (.slice A ws.length cap) (mix (fun x y => x &&& (18446744073709551615 - y)) ws us j) → ∀ (hj : j < us.length), ∃ g, B = some ⟨g, 0, none⟩ ∧ wr.cell? ⟨g, j, none⟩ = some (.int .u64 (us[j] : Int))) := by
    intro wr hchg j hWj hj
    rcases hd with hd | hd | ⟨rfl, rfl⟩
    · obtain ⟨g, e, _, _, hc, _⟩ := (hU.keep (w' := wr) fun b b1 b2 => hchg.block b (by omega)).word hj
      exact ⟨g, e, hc⟩
    · obtain ⟨g, e, _, _, hc, _⟩ := (hU.keep (w' := wr) fun b b1 b2 => hchg.block b (by omega)).word hj
      exact ⟨g, e, hc⟩
    · have e1 : (Value.slice A ws.length cap) = .slice B us.length cap' := by
        rw [c1] at d1
        injection d1
      injection e1 with e1 e2 e3
      have hu := hwd.uniq hud
      subst e1 e3 hu
      have hlm' : j < (mix (fun x y => x &&& (18446744073709551615 - y)) ws ws j).length := by rw [mix_length rfl j (by omega)]; exact hj
      obtain ⟨g, e, _, _, hc, _⟩ := hWj.word hlm'
      have := mix_at (G := fun x y => x &&& (18446744073709551615 - y)) (ws := ws) (us := ws) rfl hj
      rw [List.getElem?_eq_getElem hlm'] at this
      injection this with this
      rw [this] at hc
      exact ⟨g, e, hc⟩
  have hdec : ((l.length : Int) != (m.length : Int)) = false := by simp; omega
  have hn : us.length ≤ 16384 := by rw [hud.1]; have := k.le; omega
  have Hwu := Lib.hid hwu
  have HP := Lib.hid (fun wr hWr hpr hcr => WithPost.of (f := fun a b => a && !b) minus_ok rfl h0 c1 hwd hud hlm (wr := wr) hWr hpr hcr)
  have HX := Lib.hid (fun j (hj : j < ws.length) => hwd.lt hj)
  have HY := Lib.hid (fun j (hj : j < us.length) => hud.lt hj)
  have Hc1 := Lib.hid (fun (wr : World) (hpr : wr.heap[p]? = w.heap[p]?) => (World.cell?_of_block (w := w) (a := ⟨p, 1, none⟩) hpr).trans c1)
  have hne : ∀ g, lo ≤ g → g < hi → ∀ cs fr, w.heap[g]? = some (.cells cs 62 fr) → g ≠ p := by
    rintro g _ _ cs fr hg rfl
    obtain ⟨v, ws', _, _, _, _, h5, _⟩ := h0
    rw [h5] at hg
    injection hg with hg
    injection hg with _ ht
    exact absurd ht (by decide)
  have Hne := Lib.hid hne
  clear hwu hlm hwd hud hd hne
  go_enter Tryd.func42, Tryd.ntmps42
  go_wp2
  go_quiet (fail)
  go_wp2
  go_loopw [7, 8, 31] (fun _ _ s31 wr => WithRel (fun x y => x &&& (18446744073709551615 - y)) ws us w lo hi p (.slice A ws.length cap) s31 wr) (fun _ _ s31 _ => us.length - (intOf s31).toNat)
  case atStart => exact ⟨0, Nat.zero_le _, rfl, hW, rfl, ⟨rfl, rfl, rfl, rfl, fun _ _ => rfl⟩⟩
  case round =>
    obtain ⟨k, hk, rfl, hWk, hpk, hchg⟩ := hrel
    by_cases hlt : k < us.length
    · have hks : k < ws.length := by rw [Hwu.out]; exact hlt
      have hkm : k < (mix (fun x y => x &&& (18446744073709551615 - y)) ws us k).length := by rw [mix_length Hwu.out k hk]; exact hks
      obtain ⟨g, rfl, g1, g2, cs, cf⟩ := hWk.word hkm
      have hWk0 := hWk
      obtain ⟨g', rfl, co⟩ := HK.out wr hchg k hWk hlt
      have hmx : (mix (fun x y => x &&& (18446744073709551615 - y)) ws us k)[k] = ws[k] := by
        have := mix_at (G := fun x y => x &&& (18446744073709551615 - y)) (ws := ws) (us := us) Hwu.out hks
        rw [List.getElem?_eq_getElem hkm] at this
        injection this
      rw [hmx] at cs
      have cp := Hc1.out wr hpk
      have hx := HX.out k hks
      have hy := HY.out k hlt
      have HS := Lib.hid (show WithRel (fun x y => x &&& (18446744073709551615 - y)) ws us w lo hi p (.slice (some ⟨g, 0, none⟩) ws.length cap) (.int .i64 ((k : Int) + 1)) ((wr.setCell ⟨g, k, none⟩ (.int .u64 (((fun x y => x &&& (18446744073709551615 - y)) ws[k] us[k] : Nat) : Int))).drew) from by
        obtain ⟨A', c', e, _, _, h3⟩ := hWk
        obtain ⟨g'', cs', ea, _, _, hbk, _⟩ := h3 (by omega)
        rw [ea] at e
        injection e with e _ _
        injection e with e
        injection e with e
        subst e
        have hgp : g ≠ p := by
          obtain ⟨_, c2, e2, _, _, h32⟩ := hW
          obtain ⟨g3, cs3, ea3, l3, u3, hbk3, _⟩ := h32 (by omega)
          rw [ea3] at e2
          injection e2 with e2 _ _
          injection e2 with e2
          injection e2 with e2
          subst e2
          exact Hne.out g l3 u3 _ _ hbk3
        refine ⟨k + 1, by omega, by go_num, ?_, ?_, ?_⟩
        · have := hWk0.store hkm ((fun x y => x &&& (18446744073709551615 - y)) ws[k] us[k])
          rw [mix_set Hwu.out hks] at this
          exact this
        · exact (Below.heap_setCell wr _ _ p (by show p ≠ g; omega)).trans hpk
        · exact ⟨hchg.os, hchg.tape, hchg.output, (by simpa [World.setCell] using hchg.size), fun b hb => (Below.heap_setCell wr _ _ b (by show b ≠ g; omega)).trans (hchg.block b hb)⟩)
      generalize ws[k] = x at *
      generalize us[k] = y at *
      have q1 : (0 : Int) ≤ (k : Int) := by omega
      have q2 : (k : Int) < (us.length : Int) := by omega
      have q3 : (k : Int) < (ws.length : Int) := by omega
      clear hmx
      go_wp2
      refine wp_region_still_tail 16 (by kernel_rfl) (by kernel_rfl) ?_
      simp only [List.take_succ_cons, List.take_zero, List.drop_succ_cons, List.drop_zero]
      repeat still_step
      still_call (opMinus_any x y hx hy _)
      repeat still_step
      try refine wpStill_nil ?_
      change wpList _ _ _ _ _ wr.drew
      go_wp2
      have R := HS.out
      go_roundw
      case rel => first | exact R | ((repeat apply Exists.intro); exact ⟨R, rfl⟩)
      case measure => simp [intOf]; omega
    · obtain rfl : k = us.length := by have := Hwu.out; omega
      rw [← Hwu.out] at hWk
      go_wp2
      go_ret
      exact HP.out wr hWk hpk hchg

set_option maxHeartbeats 400000 in
theorem ofMinus {Q : Ending → World → Prop} (w : World) (p q : Value) (h : Calls Tryd.prog 42 #[p, q, .func (.func 46) #[] #[]] w Q) (hQ : ∀ e w', Q e w' → ∃ b, e = .returned (.int .i64 b)) : Calls Tryd.prog 24 #[p, q] w Q := by
  have H := Lib.hid h
  have HQ := Lib.hid hQ
  clear h hQ
  go_enter Tryd.func24, Tryd.ntmps24
  go_wp2_with (go_at_call 42; refine H.out.mono ?_; intro e w' hq; obtain ⟨b, rfl⟩ := HQ.out e w' hq; have hq' := Lib.hid hq; clear hq)
  exact hq'.out
theorem setMinus_any (w : World) (lo hi p lo' hi' p' : Nat) (l m : List Bool) (h : BSet w lo hi p l) (k : BSet w lo' hi' p' m) (hlm : l.length = m.length) (hd : hi ≤ lo' ∨ hi' ≤ lo ∨ (p' = p ∧ m = l)) :
    Calls Tryd.prog 24 #[.pointer (some ⟨p, 0, none⟩), .pointer (some ⟨p', 0, none⟩)] w (WithPost (List.zipWith (fun a b => a && !b) l m) lo hi p w) :=
  ofMinus w _ _ (withMinus_any w lo hi p lo' hi' p' l m h k hlm hd) fun _ _ h => ⟨0, h.1⟩
theorem setMinus_nil1 (w : World) (q : Option Addr) : Calls Tryd.prog 24 #[.pointer none, .pointer q] w fun e w' => e = .returned (.int .i64 1) ∧ w = w' :=
  ofMinus w _ _ (with_nil1 w q _) fun _ _ h => ⟨1, h.1⟩
theorem setMinus_nil2 (w : World) (p : Nat) : Calls Tryd.prog 24 #[.pointer (some ⟨p, 0, none⟩), .pointer none] w fun e w' => e = .returned (.int .i64 1) ∧ w = w' :=
  ofMinus w _ _ (with_nil2 w p _) fun _ _ h => ⟨1, h.1⟩
theorem setMinus_arg (w : World) (lo hi p lo' hi' p' : Nat) (l m : List Bool) (h : BSet w lo hi p l) (k : BSet w lo' hi' p' m) (hlm : l.length ≠ m.length) :
    Calls Tryd.prog 24 #[.pointer (some ⟨p, 0, none⟩), .pointer (some ⟨p', 0, none⟩)] w (Quiet (.int .i64 2) w) :=
  ofMinus w _ _ (with_arg w lo hi p lo' hi' p' l m _ h k hlm) fun _ _ h => ⟨2, h.1⟩
end Go.Proofs.YtaaladekamfpnaaDoor
