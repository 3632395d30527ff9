/- The walks of show.Lines and show.Text. -/
import Derived.Test.YteonefgbdphmiaaGreatDoorCk
import Derived.Test.YteonefgbdphmiaaGreatDoorPb
namespace Go.Proofs.YteonefgbdphmiaaGreatDoor
open Go.RowKit

def horL (h : Int) : List UInt8 := line [.s kHorizon, .n h]
theorem horL_le {h : Int} (k : I64 h) : (horL h).length ≤ 140737488355328 := by
  refine Nat.le_trans (line_le _ 24 ?_) (by show 25 * 2 ≤ _; decide)
  intro y hy
  simp only [List.mem_cons, List.not_mem_nil, or_false] at hy
  rcases hy with rfl | rfl
  · decide
  · exact dec_le k
/-- The lines of each group. -/
def grp (x : SheetM) (k : Nat) : Nms :=
  match k with
  | 0 => [horL x.hor]
  | 1 => x.stops.map stopL
  | 2 => x.paths.map pathL
  | 3 => x.doors.map doorL
  | 4 => x.routes.map (fun r => routeL r.d)
  | 5 => x.trips.map tripL
  | _ => x.hazs.map hazL
/-- A sheet's lines. -/
def linesD (x : SheetD) : Nms := [horL x.hor] ++ x.stops.map stopL ++ x.paths.map pathL ++ x.doors.map doorL ++ x.routes.map routeL ++ x.trips.map tripL ++ x.hazs.map hazL
theorem grp_all (x : SheetM) : (List.range 7).flatMap (grp x) = linesD x.d := by
  show grp x 0 ++ (grp x 1 ++ (grp x 2 ++ (grp x 3 ++ (grp x 4 ++ (grp x 5 ++ (grp x 6 ++ [])))))) = _
  unfold linesD
  have e : x.d.routes.map routeL = x.routes.map (fun r => routeL r.d) := by
    show (x.routes.map RouteM.d).map routeL = _
    rw [List.map_map]; rfl
  rw [e]
  simp [grp, SheetM.d]
theorem grp_len (x : SheetM) (hf : x.Few) (k : Nat) : (grp x k).length ≤ 1024 := by
  unfold grp
  split <;> simp [hf.stops, hf.paths, hf.doors, hf.routes, hf.trips, hf.hazs]
end Go.Proofs.YteonefgbdphmiaaGreatDoor
/- The walk of show.Lines. -/
namespace Go.Proofs.YteonefgbdphmiaaGreatDoor
open Go.RowKit

end Go.Proofs.YteonefgbdphmiaaGreatDoor
/- Lines, each with an end behind it (plain). -/
namespace Go.Proofs.YteonefgbdphmiaaGreatDoor
open Go.RowKit

/-- Lines, each with an end behind it. -/
def textL (l : Nms) : List UInt8 := l.flatMap fun x => x ++ [10]
theorem textL_le (l : Nms) {B : Nat} (h : ∀ s ∈ l, s.length ≤ B) : (textL l).length ≤ l.length * (B + 1) := by
  induction l with
  | nil => simp [textL]
  | cons x r ih =>
    have h1 := h x (by simp)
    have h2 := ih fun s hs => h s (by simp [hs])
    unfold textL at h2 ⊢
    rw [List.flatMap_cons, List.length_append, List.length_append, show (x :: r).length = r.length + 1 from rfl, Nat.add_mul]
    simp only [List.length_cons, List.length_nil]
    omega
theorem horL_le40 {h : Int} (k : I64 h) : (horL h).length ≤ 4000 := by
  refine Nat.le_trans (line_le _ 24 ?_) (by show 25 * 2 ≤ _; decide)
  intro y hy
  simp only [List.mem_cons, List.not_mem_nil, or_false] at hy
  rcases hy with rfl | rfl
  · decide
  · exact dec_le k
theorem linesD_le (x : SheetM) (h : checkD x.d = 0) : ∀ s ∈ linesD x.d, s.length ≤ 4000 := by
  have hf := fineB_of x h
  intro s hs
  unfold linesD at hs
  simp only [List.mem_append, List.mem_singleton, List.mem_map] at hs
  rcases hs with (((((rfl | ⟨y, hy, rfl⟩) | ⟨y, hy, rfl⟩) | ⟨y, hy, rfl⟩) | ⟨y, hy, rfl⟩) | ⟨y, hy, rfl⟩) | ⟨y, hy, rfl⟩
  · exact horL_le40 hf.hor
  · exact hf.stops y hy
  · exact (hf.paths y hy).2
  · exact (hf.doors y hy).2.1
  · obtain ⟨r, hr, rfl⟩ := List.mem_map.1 hy
    exact (hf.routes r hr).2.2
  · exact (hf.trips y hy).2
  · exact (hf.hazs y hy).2.1
theorem linesD_len (x : SheetM) (hf : x.Few) : (linesD x.d).length ≤ 6200 := by
  have h1 := hf.stops
  have h2 := hf.paths
  have h3 := hf.doors
  have h4 := hf.routes
  have h5 := hf.trips
  have h6 := hf.hazs
  unfold linesD
  simp only [List.length_append, List.length_map, List.length_cons, List.length_nil, SheetM.d]
  omega
theorem linesD_pos (x : SheetD) : 0 < (linesD x).length := by unfold linesD; simp
theorem map_ba (l : Nms) : ((l.map ba).map fun s : ByteArray => s.data.toList) = l := by
  rw [List.map_map]
  conv => rhs; rw [← List.map_id l]
  exact List.map_congr_left fun s _ => rfl
end Go.Proofs.YteonefgbdphmiaaGreatDoor
/- What is shown is read as it was: plain words. The tokens of a sheet's text. -/
namespace Go.Proofs.YteonefgbdphmiaaGreatDoor
open Go.RowKit
abbrev KK := Int × List UInt8 × Int
def nk (s : List UInt8) : KK := (1, s, 0)
def kk (s : List UInt8) : KK := (2, s, 0)
def vk (n : Int) : KK := (3, Lib.itoa n, n)
/-- A word, and what its token tells. -/
def Tk1 (w : Wd) (k : KK) : Prop := ∃ t : TokD, key t = k ∧ t.text = w.t ∧ GoodT t ∧ t.kind ≠ 4
def Lay : List Wd → List KK → Prop
  | [], [] => True
  | w :: ws, k :: ks => Tk1 w k ∧ Lay ws ks
  | _, _ => False
theorem Lay.append {ws ws2 : List Wd} {ks ks2 : List KK} (h : Lay ws ks) (h2 : Lay ws2 ks2) : Lay (ws ++ ws2) (ks ++ ks2) := by
  induction ws generalizing ks with
  | nil => cases ks with
    | nil => exact h2
    | cons k ks => exact h.elim
  | cons w ws ih => cases ks with
    | nil => exact h.elim
    | cons k ks => exact ⟨h.1, ih h.2⟩
theorem nk_good {s : List UInt8} (h : Nm.name s = true) : Tk1 (.s s) (nk s) := by
  obtain ⟨h1, h2, h3, h4⟩ := name_parts h
  refine ⟨⟨1, s, 0, 0, 0⟩, rfl, rfl, .inr (.inl ⟨?_, rfl, h1, h2, h3⟩), by show (1 : Int) ≠ 4; decide⟩
  show (1 : Int) = if Nm.res s = true then 2 else 1
  rw [h4]; rfl
theorem vk_good {n : Int} (h : okN n = true) : Tk1 (.n n) (vk n) := by
  unfold okN at h
  rw [decide_eq_true_eq] at h
  obtain ⟨h1, h2, h3, h4, _⟩ := num_parts (n := n) h
  exact ⟨⟨3, Lib.itoa n, n, 0, 0⟩, rfl, rfl, .inr (.inr ⟨rfl, h4.symm, h1, h2, h3⟩), by show (3 : Int) ≠ 4; decide⟩
theorem kk_good {s : List UInt8} (hr : Nm.res s = true) (h1 : ∃ b r, s = b :: r ∧ Nm.cls b = 1) (h2 : s.all Nm.more = true) (h3 : s.length ≤ 24) : Tk1 (.s s) (kk s) :=
  ⟨⟨2, s, 0, 0, 0⟩, rfl, rfl, .inr (.inl ⟨by rw [if_pos hr], rfl, h1, h2, h3⟩), by show (2 : Int) ≠ 4; decide⟩
theorem kHorizon_g : Tk1 (.s kHorizon) (kk kHorizon) := kk_good (by decide) ⟨_, _, rfl, by decide⟩ (by decide) (by decide)
theorem kStop_g : Tk1 (.s kStop) (kk kStop) := kk_good (by decide) ⟨_, _, rfl, by decide⟩ (by decide) (by decide)
theorem kPath_g : Tk1 (.s kPath) (kk kPath) := kk_good (by decide) ⟨_, _, rfl, by decide⟩ (by decide) (by decide)
theorem kDoor_g : Tk1 (.s kDoor) (kk kDoor) := kk_good (by decide) ⟨_, _, rfl, by decide⟩ (by decide) (by decide)
theorem kRoute_g : Tk1 (.s kRoute) (kk kRoute) := kk_good (by decide) ⟨_, _, rfl, by decide⟩ (by decide) (by decide)
theorem kTrip_g : Tk1 (.s kTrip) (kk kTrip) := kk_good (by decide) ⟨_, _, rfl, by decide⟩ (by decide) (by decide)
theorem kHazard_g : Tk1 (.s kHazard) (kk kHazard) := kk_good (by decide) ⟨_, _, rfl, by decide⟩ (by decide) (by decide)
theorem kFrom_g : Tk1 (.s kFrom) (kk kFrom) := kk_good (by decide) ⟨_, _, rfl, by decide⟩ (by decide) (by decide)
theorem kEvery_g : Tk1 (.s kEvery) (kk kEvery) := kk_good (by decide) ⟨_, _, rfl, by decide⟩ (by decide) (by decide)
theorem kUntil_g : Tk1 (.s kUntil) (kk kUntil) := kk_good (by decide) ⟨_, _, rfl, by decide⟩ (by decide) (by decide)
theorem kOpen_g : Tk1 (.s kOpen) (kk kOpen) := kk_good (by decide) ⟨_, _, rfl, by decide⟩ (by decide) (by decide)
theorem kClosed_g : Tk1 (.s kClosed) (kk kClosed) := kk_good (by decide) ⟨_, _, rfl, by decide⟩ (by decide) (by decide)
theorem kOf_g : Tk1 (.s kOf) (kk kOf) := kk_good (by decide) ⟨_, _, rfl, by decide⟩ (by decide) (by decide)
theorem kOn_g : Tk1 (.s kOn) (kk kOn) := kk_good (by decide) ⟨_, _, rfl, by decide⟩ (by decide) (by decide)
theorem kStay_g : Tk1 (.s kStay) (kk kStay) := kk_good (by decide) ⟨_, _, rfl, by decide⟩ (by decide) (by decide)

/-- The lexer goes through a line's words. -/
theorem mid_words {F : Cur} {R : List UInt8} (hR : ∀ b r, R = b :: r → Nm.cls b = 0) : ∀ (ws : List Wd) (ks k0 : List KK), Lay ws ks → Mid F ((ws.flatMap fun y => 32 :: y.t) ++ R) k0 true → Mid F R (k0 ++ ks) true := by
  intro ws
  induction ws with
  | nil =>
    intro ks k0 hl h
    cases ks with
    | nil => rw [List.append_nil]; exact h
    | cons k ks => exact hl.elim
  | cons w ws ih =>
    intro ks k0 hl h
    cases ks with
    | nil => exact hl.elim
    | cons k ks =>
      obtain ⟨⟨t, ht, htx, hg, h4⟩, hl2⟩ := hl
      rw [List.flatMap_cons, List.append_assoc, List.cons_append, ← htx] at h
      have h2 := (h.blank (.inl rfl)).tok hg h4 (fun b r e => by
        cases ws with
        | nil => exact hR b r (by simpa using e)
        | cons y ws =>
          rw [List.flatMap_cons, List.cons_append, List.cons_append] at e
          injection e with e1 e2
          rw [← e1]; decide)
      have h3 := ih ks _ hl2 h2
      rw [ht, List.append_assoc] at h3
      exact h3
theorem mid_line {F : Cur} {R : List UInt8} {ws : List Wd} {ks k0 : List KK} (hl : Lay ws ks) (h0 : ws ≠ []) (h : Mid F (line ws ++ 10 :: R) k0 false) : Mid F R (k0 ++ (ks ++ [endK])) false := by
  cases ws with
  | nil => exact absurd rfl h0
  | cons w ws =>
    cases ks with
    | nil => exact hl.elim
    | cons k ks =>
      obtain ⟨⟨t, ht, htx, hg, h4⟩, hl2⟩ := hl
      replace h : Mid F ((w.t ++ ws.flatMap fun y => 32 :: y.t) ++ 10 :: R) k0 false := h
      rw [← htx, List.append_assoc] at h
      have h2 := h.tok hg h4 (fun b r e => by
        cases ws with
        | nil => rw [List.flatMap_nil, List.nil_append] at e; injection e with e1 e2; rw [← e1]; decide
        | cons y ws =>
          rw [List.flatMap_cons, List.cons_append, List.cons_append] at e
          injection e with e1 e2
          rw [← e1]; decide)
      have h3 := (mid_words (fun b r e => by injection e with e1 e2; rw [← e1]; decide) ws ks _ hl2 h2).line
      rw [if_pos rfl, ht, List.append_assoc, List.append_assoc] at h3
      exact h3
abbrev LP := List Wd × List KK
def keysP (l : List LP) : List KK := l.flatMap fun p => p.2 ++ [endK]
theorem mid_text {F : Cur} : ∀ (l : List LP) (k0 : List KK), (∀ p ∈ l, p.1 ≠ [] ∧ Lay p.1 p.2) → Mid F (textL (l.map fun p => line p.1)) k0 false → Mid F [] (k0 ++ keysP l) false := by
  intro l
  induction l with
  | nil => intro k0 _ h; rw [show keysP [] = [] from rfl, List.append_nil]; exact h
  | cons p l ih =>
    intro k0 hp h
    unfold textL at h
    rw [List.map_cons, List.flatMap_cons, List.append_assoc] at h
    have h2 := mid_line (hp p (List.mem_cons_self ..)).2 (hp p (List.mem_cons_self ..)).1 h
    have h3 := ih _ (fun q hq => hp q (List.mem_cons_of_mem _ hq)) h2
    rw [List.append_assoc] at h3
    exact h3
/-- The lexer's answer on lines of words. -/
theorem lex_text (u : ByteArray) (l : List LP) (hu : u.data.toList = textL (l.map fun p => line p.1)) (hs : u.size ≤ 65536) (hl : ∀ p ∈ l, p.1 ≠ [] ∧ Lay p.1 p.2) :
    (allD u).1.map key = keysP l ∧ (allD u).2 = ⟨0, 0, 0⟩ := by
  have h := Mid.start u hs
  rw [hu] at h
  have h2 := (mid_text l [] hl h).fin
  rw [List.nil_append] at h2
  unfold allD
  rw [if_neg (by omega), if_neg (by rw [h2.2]; decide)]
  exact ⟨h2.1, rfl⟩
theorem line_flat (a b : List Wd) (ha : a ≠ []) (hb : b ≠ []) : line (a ++ [.s (line b)]) = line (a ++ b) := by
  cases a with
  | nil => exact absurd rfl ha
  | cons x a =>
    cases b with
    | nil => exact absurd rfl hb
    | cons y b =>
      rw [List.cons_append, List.cons_append]
      show x.t ++ ((a ++ [Wd.s (line (y :: b))]).flatMap fun z => 32 :: z.t) = x.t ++ ((a ++ y :: b).flatMap fun z => 32 :: z.t)
      rw [List.flatMap_append, List.flatMap_append, List.flatMap_cons, List.flatMap_nil, List.append_nil, List.flatMap_cons]
      show _ = x.t ++ (_ ++ ((32 :: y.t) ++ _))
      rfl
def timesK (t : TimesD) (k : List UInt8) : List KK := [kk kFrom, vk t.start, kk kEvery, vk t.every, kk k, vk t.len]
def horP (h : Int) : LP := ([.s kHorizon, .n h], [kk kHorizon, vk h])
def stopP (s : List UInt8) : LP := ([.s kStop, .s s], [kk kStop, nk s])
def pathP (p : PathD) : LP := (pathW p, [kk kPath, nk p.name, nk p.a, nk p.b, vk p.len])
def doorP (p : DoorD) : LP := ([.s kDoor, .s p.name, .s p.a, .s p.b, .n p.len] ++ timesW p.times kOpen, [kk kDoor, nk p.name, nk p.a, nk p.b, vk p.len] ++ timesK p.times kOpen)
def stayK (ys : List Int) : List KK := match ys with | [] => [] | y :: _ => if 0 < y then [kk kStay, vk y] else []
def restK : Nms → List Int → List Int → List KK
  | [], _, _ => []
  | s :: ss, rs, ys => vk (rs.headD 0) :: nk s :: (stayK ys ++ restK ss rs.tail ys.tail)
def routeP (r : RouteD) : LP := (routeW r, [kk kRoute, nk r.name, nk (r.stops.headD [])] ++ restK r.stops.tail r.rides r.stays)
def tripP (p : TripD) : LP := (tripW p, [kk kTrip, nk p.name, kk kOf, nk p.route, kk kFrom, vk p.start, kk kEvery, vk p.every, kk kUntil, vk p.stop])
def hazP (p : HazD) : LP := ([.s kHazard, .s p.name, .s kOn, .s p.on] ++ timesW p.times kClosed, [kk kHazard, nk p.name, kk kOn, nk p.on] ++ timesK p.times kClosed)
def linesP (x : SheetD) : List LP := [horP x.hor] ++ x.stops.map stopP ++ x.paths.map pathP ++ x.doors.map doorP ++ x.routes.map routeP ++ x.trips.map tripP ++ x.hazs.map hazP
theorem linesP_D (x : SheetD) : ((linesP x).map fun p => line p.1) = linesD x := by
  unfold linesP linesD
  have e1 : (fun p : LP => line p.1) ∘ doorP = doorL := funext fun p => (line_flat [.s kDoor, .s p.name, .s p.a, .s p.b, .n p.len] (timesW p.times kOpen) (by simp) (by simp [timesW])).symm
  have e2 : (fun p : LP => line p.1) ∘ hazP = hazL := funext fun p => (line_flat [.s kHazard, .s p.name, .s kOn, .s p.on] (timesW p.times kClosed) (by simp) (by simp [timesW])).symm
  simp only [List.map_append, List.map_map, List.map_cons, List.map_nil]
  rw [e1, e2]
  rfl
theorem times_lay {t : TimesD} {k : List UInt8} (hk : Tk1 (.s k) (kk k)) (h : ∀ n ∈ timesN t, okN n = true) : Lay (timesW t k) (timesK t k) :=
  ⟨kFrom_g, vk_good (h _ (by simp [timesN])), kEvery_g, vk_good (h _ (by simp [timesN])), hk, vk_good (h _ (by simp [timesN])), trivial⟩
theorem drop_one {α : Type} (l : List α) (i : Nat) (d : α) (h : i < l.length) : l.drop i = l.getD i d :: l.drop (i + 1) := by
  rw [List.drop_eq_getElem_cons h, List.getD_eq_getElem?_getD, List.getElem?_eq_getElem h]; rfl
theorem rest_lay (r : RouteD) (hn : ∀ s ∈ r.stops, Nm.name s = true) (hr : ∀ n ∈ r.rides, okN n = true) (hy : ∀ n ∈ r.stays, okN n = true) (h1 : r.rides.length + 1 = r.stops.length) (h2 : r.stays.length + 2 = r.stops.length) :
    ∀ (n i : Nat), 0 < i → i + n = r.stops.length → Lay ((List.range' i n).flatMap (stepW r)) (restK (r.stops.drop i) (r.rides.drop (i - 1)) (r.stays.drop (i - 1))) := by
  intro n
  induction n with
  | zero =>
    intro i h0 hi
    rw [List.drop_eq_nil_of_le (by omega)]
    exact trivial
  | succ n ih =>
    intro i h0 hi
    obtain ⟨j, rfl⟩ : ∃ j, i = j + 1 := ⟨i - 1, by omega⟩
    rw [List.range'_succ, List.flatMap_cons, drop_one r.stops (j + 1) [] (by omega), show j + 1 - 1 = j from rfl, drop_one r.rides j 0 (by omega)]
    have hlast := ih (j + 1 + 1) (by omega) (by omega)
    rw [show j + 1 + 1 - 1 = j + 1 from rfl] at hlast
    have hs := nk_good (hn _ (getD_mem (d := []) (show j + 1 < r.stops.length by omega)))
    have hv := vk_good (hr _ (getD_mem (d := 0) (show j < r.rides.length by omega)))
    unfold restK stepW rideW
    rw [if_pos (show 0 < j + 1 ∧ j + 1 - 1 < r.rides.length from ⟨by omega, by show j < _; omega⟩), show j + 1 - 1 = j from rfl]
    show Lay (Wd.n _ :: ((Wd.s _ :: stayW r (j + 1)) ++ _)) (vk _ :: nk _ :: (_ ++ restK _ (r.rides.drop (j + 1)) (r.stays.drop j).tail))
    refine ⟨hv, hs, ?_⟩
    have htl : (r.stays.drop j).tail = r.stays.drop (j + 1) := by rw [List.tail_drop]
    rw [htl]
    refine Lay.append ?_ hlast
    unfold stayW stayK
    rw [show j + 1 - 1 = j from rfl]
    by_cases hj : j < r.stays.length
    · rw [drop_one r.stays j 0 hj]
      dsimp only
      by_cases hp : 0 < r.stays.getD j 0
      · rw [if_pos ⟨by omega, hj, hp⟩, if_pos hp]
        exact ⟨kStay_g, vk_good (hy _ (getD_mem hj)), trivial⟩
      · rw [if_neg (fun h => hp h.2.2), if_neg hp]
        exact trivial
    · rw [if_neg (fun h => hj h.2.1), List.drop_eq_nil_of_le (by omega)]
      exact trivial
theorem linesP_lay {x : SheetD} (h : checkD x = 0) : ∀ p ∈ linesP x, p.1 ≠ [] ∧ Lay p.1 p.2 := by
  obtain ⟨_, hn, hi, hr⟩ := check_ok h
  intro p hp
  unfold linesP at hp
  simp only [List.mem_append, List.mem_singleton, List.mem_map] at hp
  rcases hp with (((((rfl | ⟨y, hy, rfl⟩) | ⟨y, hy, rfl⟩) | ⟨y, hy, rfl⟩) | ⟨y, hy, rfl⟩) | ⟨y, hy, rfl⟩) | ⟨y, hy, rfl⟩
  · exact ⟨by simp [horP], kHorizon_g, vk_good (hi _ (in_nums (.inl rfl))), trivial⟩
  · exact ⟨by simp [stopP], kStop_g, nk_good (hn _ (in_names (.inl hy))), trivial⟩
  · have h1 := fun s hs => nk_good (hn s (in_names (.inr (.inl ⟨y, hy, hs⟩))))
    have h2 := vk_good (hi _ (in_nums (.inr (.inl ⟨y, hy, List.mem_cons_self ..⟩))))
    exact ⟨by simp [pathP, pathW], kPath_g, h1 _ (by simp), h1 _ (by simp), h1 _ (by simp), h2, trivial⟩
  · have h1 := fun s hs => nk_good (hn s (in_names (.inr (.inr (.inl ⟨y, hy, hs⟩)))))
    have h2 := fun n hn => hi n (in_nums (.inr (.inr (.inl ⟨y, hy, hn⟩))))
    refine ⟨by simp [doorP], Lay.append (ws := [.s kDoor, .s y.name, .s y.a, .s y.b, .n y.len]) ⟨kDoor_g, h1 _ (by simp), h1 _ (by simp), h1 _ (by simp), vk_good (h2 _ (by simp)), trivial⟩ (times_lay kOpen_g fun n hn => h2 n (by simp [hn]))⟩
  · have h1 := fun s hs => hn s (in_names (.inr (.inr (.inr (.inl ⟨y, hy, hs⟩)))))
    have h2 := fun n hn => hi n (in_nums (.inr (.inr (.inr (.inl ⟨y, hy, hn⟩)))))
    have h3 := hr y hy
    unfold okR at h3
    rw [decide_eq_true_eq] at h3
    obtain ⟨a1, a2, a3, a4⟩ := h3
    refine ⟨by simp [routeP, routeW, preW], ?_⟩
    have hl := rest_lay y (fun s hs => h1 s (by simp [hs])) (fun n hn => h2 n (by simp [hn])) (fun n hn => h2 n (by simp [hn])) a3 a4 (y.stops.length - 1) 1 (by omega) (by omega)
    have hsplit : List.range y.stops.length = 0 :: List.range' 1 (y.stops.length - 1) := by
      rw [List.range_eq_range']
      conv => lhs; rw [show y.stops.length = y.stops.length - 1 + 1 by omega]
      rfl
    show Lay (preW y y.stops.length) ([kk kRoute, nk y.name, nk (y.stops.headD [])] ++ restK y.stops.tail y.rides y.stays)
    unfold preW
    rw [hsplit, List.flatMap_cons, ← List.append_assoc]
    have h0 : stepW y 0 = [.s (y.stops.headD [])] := by
      unfold stepW rideW stayW
      rw [if_neg (by omega), if_neg (by omega)]
      cases hq : y.stops with
      | nil => rfl
      | cons a b => rfl
    rw [h0]
    have hd : y.stops.headD [] ∈ y.stops := by
      cases hq : y.stops with
      | nil => rw [hq] at a1; cases a1
      | cons a b => exact List.mem_cons_self ..
    refine Lay.append (ws := [.s kRoute, .s y.name, .s (y.stops.headD [])]) ⟨kRoute_g, nk_good (h1 _ (by simp)), nk_good (h1 _ (List.mem_append_right _ hd)), trivial⟩ ?_
    rw [List.drop_one] at hl
    exact hl
  · have h1 := fun s hs => nk_good (hn s (in_names (.inr (.inr (.inr (.inr (.inl ⟨y, hy, hs⟩)))))))
    have h2 := fun n hn => vk_good (hi n (in_nums (.inr (.inr (.inr (.inr (.inl ⟨y, hy, hn⟩)))))))
    exact ⟨by simp [tripP, tripW], kTrip_g, h1 _ (by simp), kOf_g, h1 _ (by simp), kFrom_g, h2 _ (by simp), kEvery_g, h2 _ (by simp), kUntil_g, h2 _ (by simp), trivial⟩
  · have h1 := fun s hs => nk_good (hn s (in_names (.inr (.inr (.inr (.inr (.inr ⟨y, hy, hs⟩)))))))
    have h2 := fun n hn => hi n (in_nums (.inr (.inr (.inr (.inr (.inr ⟨y, hy, hn⟩))))))
    exact ⟨by simp [hazP], Lay.append (ws := [.s kHazard, .s y.name, .s kOn, .s y.on]) ⟨kHazard_g, h1 _ (by simp), kOn_g, h1 _ (by simp), trivial⟩ (times_lay kClosed_g fun n hn => h2 n (by simp [hn]))⟩
end Go.Proofs.YteonefgbdphmiaaGreatDoor
/- What is shown is read as it was: plain words. The reader on the tokens of a sheet's text. -/
namespace Go.Proofs.YteonefgbdphmiaaGreatDoor
open Go.RowKit
/-- What is left for the reader. -/
def See (L : List TokD) (i : Nat) (K : List KK) : Prop := (L.map key).drop i = K
def rd (i : Nat) : Rd := ⟨i, 0, 0, 0⟩
variable {L : List TokD} {i : Nat} {K : List KK} {k : KK}
theorem See.next (h : See L i (k :: K)) : See L (i + 1) K := by
  unfold See at h ⊢
  rw [← List.drop_drop, h]; rfl
theorem See.at_ (h : See L i (k :: K)) : i < L.length ∧ key (nowD L (rd i)) = k := by
  unfold See at h
  have hlt : i < L.length := by
    rcases Nat.lt_or_ge i L.length with h1 | h1
    · exact h1
    · rw [List.drop_eq_nil_of_le (by rw [List.length_map]; exact h1)] at h; cases h
  refine ⟨hlt, ?_⟩
  rw [List.drop_eq_getElem_cons (by rw [List.length_map]; exact hlt)] at h
  injection h with h1 _
  unfold nowD
  rw [List.getD_eq_getElem?_getD, show (rd i).at_ = i from rfl, List.getElem?_eq_getElem hlt]
  rw [List.getElem_map] at h1
  exact h1
theorem See.le (h : See L i (k :: K)) : K.length + 1 + i ≤ L.length := by
  have h1 := h.at_.1
  have h2 := congrArg List.length (show (L.map key).drop i = k :: K from h)
  rw [List.length_drop, List.length_map, List.length_cons] at h2
  omega
theorem see_take {kind : Int} {w : List UInt8} (h : See L i (k :: K)) (h1 : k.1 = kind) (h2 : kind = 2 → k.2.1 = w) : (takeD L (rd i) kind w).1 = rd (i + 1) ∧ (takeD L (rd i) kind w).2.text = k.2.1 ∧ (takeD L (rd i) kind w).2.num = k.2.2 := by
  have hk := h.at_.2
  unfold takeD
  rw [if_neg (by show ¬ (0 : Int) ≠ 0; decide), if_neg]
  · exact ⟨rfl, by rw [← hk]; rfl, by rw [← hk]; rfl⟩
  · unfold mis
    have e1 : (nowD L (rd i)).kind = kind := by rw [← h1, ← hk]; rfl
    have e2 : kind = 2 → (nowD L (rd i)).text = w := fun hh => by rw [← h2 hh, ← hk]; rfl
    rw [e1]
    simp only [bne_self_eq_false, Bool.false_or, Bool.and_eq_true, beq_iff_eq, bne_iff_ne, ne_eq, not_and]
    exact fun hh hn => hn (e2 hh)
theorem see_name {s : List UInt8} (h : See L i (nk s :: K)) : nameD L (rd i) = (rd (i + 1), s) := by
  have := see_take (kind := 1) (w := []) h rfl (fun e => absurd e (by decide))
  unfold nameD
  rw [this.1, this.2.1]; rfl
theorem see_num {n : Int} (h : See L i (vk n :: K)) : numD L (rd i) = (rd (i + 1), n) := by
  have := see_take (kind := 3) (w := []) h rfl (fun e => absurd e (by decide))
  unfold numD
  rw [this.1, this.2.2]; rfl
theorem see_key {s : List UInt8} (h : See L i (kk s :: K)) : keyD L (rd i) s = rd (i + 1) := (see_take (kind := 2) (w := s) h rfl (fun _ => rfl)).1
theorem see_end (h : See L i (endK :: K)) : (takeD L (rd i) 4 []).1 = rd (i + 1) := (see_take (kind := 4) (w := []) h rfl (fun e => absurd e (by decide))).1
theorem see_after {s : List UInt8} {n : Int} (h : See L i (kk s :: vk n :: K)) : afterD L (rd i) s = (rd (i + 2), n) := by
  unfold afterD
  rw [see_key h, see_num h.next]
theorem see_times {s : List UInt8} {t : TimesD} (h : See L i (timesK t s ++ K)) : timesRD L (rd i) s = (rd (i + 6), t) ∧ See L (i + 6) K := by
  have h : See L i (kk kFrom :: vk t.start :: kk kEvery :: vk t.every :: kk s :: vk t.len :: K) := h
  unfold timesRD
  simp only [see_after h, see_after h.next.next, see_after h.next.next.next.next]
  exact ⟨trivial, h.next.next.next.next.next.next⟩
theorem see_path {p : PathD} (h : See L i ([nk p.name, nk p.a, nk p.b, vk p.len] ++ K)) : pathRD L (rd i) = (rd (i + 4), p) ∧ See L (i + 4) K := by
  have h : See L i (nk p.name :: nk p.a :: nk p.b :: vk p.len :: K) := h
  unfold pathRD
  simp only [see_name h, see_name h.next, see_name h.next.next, see_num h.next.next.next]
  exact ⟨trivial, h.next.next.next.next⟩
theorem see_door {p : DoorD} (h : See L i (([nk p.name, nk p.a, nk p.b, vk p.len] ++ timesK p.times kOpen) ++ K)) : doorRD L (rd i) = (rd (i + 10), p) ∧ See L (i + 10) K := by
  rw [List.append_assoc] at h
  have h1 := see_path (p := ⟨p.name, p.a, p.b, p.len⟩) h
  have h2 := see_times h1.2
  unfold doorRD
  simp only [h1.1, h2.1]
  exact ⟨trivial, h2.2⟩
theorem see_trip {p : TripD} (h : See L i ([nk p.name, kk kOf, nk p.route, kk kFrom, vk p.start, kk kEvery, vk p.every, kk kUntil, vk p.stop] ++ K)) : tripRD L (rd i) = (rd (i + 9), p) ∧ See L (i + 9) K := by
  have h : See L i (nk p.name :: kk kOf :: nk p.route :: kk kFrom :: vk p.start :: kk kEvery :: vk p.every :: kk kUntil :: vk p.stop :: K) := h
  unfold tripRD
  simp only [see_name h, see_key h.next, see_name h.next.next, see_after h.next.next.next, see_after h.next.next.next.next.next, see_after h.next.next.next.next.next.next.next]
  exact ⟨trivial, h.next.next.next.next.next.next.next.next.next⟩
theorem see_haz {p : HazD} (h : See L i (([nk p.name, kk kOn, nk p.on] ++ timesK p.times kClosed) ++ K)) : hazRD L (rd i) = (rd (i + 9), p) ∧ See L (i + 9) K := by
  rw [List.append_assoc] at h
  have h : See L i (nk p.name :: kk kOn :: nk p.on :: (timesK p.times kClosed ++ K)) := h
  have h2 := see_times h.next.next.next
  unfold hazRD
  simp only [see_name h, see_key h.next, see_name h.next.next, h2.1]
  exact ⟨trivial, h2.2⟩
/-- A route's rest. -/
theorem see_rest : ∀ (ss : Nms) (rs ys : List Int) (n i : Nat) (az : Nms) (ar ay : List Int), See L i (restK ss rs ys ++ endK :: K) → 0 < ss.length → rs.length = ss.length → ys.length + 1 = ss.length → (∀ y ∈ ys, 0 ≤ y) → az.length + ss.length ≤ 32 → ss.length ≤ n →
    ∃ j, routeRun L n (rd i) az ar ay = (rd j, ⟨[], az ++ ss, ar ++ rs, ay ++ ys⟩, ()) ∧ See L j (endK :: K) := by
  intro ss
  induction ss with
  | nil => intro rs ys n i az ar ay _ h; cases h
  | cons s ss ih =>
    intro rs ys n i az ar ay h _ hr hy hpos h32 hn
    cases rs with
    | nil => cases hr
    | cons r rs =>
      obtain ⟨n, rfl⟩ : ∃ m, n = m + 1 := ⟨n - 1, by rw [List.length_cons] at hn; omega⟩
      rw [List.length_cons, List.length_cons] at hr
      rw [List.length_cons] at hy h32 hn
      have h : See L i (vk r :: nk s :: ((stayK ys ++ restK ss rs ys.tail) ++ endK :: K)) := h
      have hm : midR L (rd (i + 1)) az.length = rd (i + 1) := by
        unfold midR
        rw [if_neg (fun hh => by have := hh.1; omega)]
      have hnum := see_num h
      have hnm := see_name h.next
      have h2 := h.next.next
      cases ys with
      | nil =>
        rw [List.length_nil] at hy
        have h0 : ss = [] := List.length_eq_zero_iff.1 (by omega)
        subst h0
        have h0 : rs = [] := List.length_eq_zero_iff.1 (by simpa using hr)
        subst h0
        have h2 : See L (i + 2) (endK :: K) := h2
        refine ⟨i + 2, ?_, h2⟩
        rw [routeRun_ret rfl]
        · simp only [hnum, hm, hnm, List.append_nil]
        · right
          simp only [hnum, hm, hnm]
          have := h2.at_.2
          exact congrArg Prod.fst this
      | cons y ys =>
        rw [List.length_cons] at hy
        have h2 : See L (i + 2) (((if 0 < y then [kk kStay, vk y] else []) ++ restK ss rs ys) ++ endK :: K) := h2
        have hss : 0 < ss.length := by omega
        have hst : ∃ j, stayR L (rd (i + 2)) = (rd j, y) ∧ See L j (restK ss rs ys ++ endK :: K) ∧ (nowD L (rd (i + 2))).kind ≠ 4 := by
          by_cases hp : 0 < y
          · rw [if_pos hp] at h2
            have h2 : See L (i + 2) (kk kStay :: vk y :: (restK ss rs ys ++ endK :: K)) := h2
            refine ⟨i + 4, ?_, h2.next.next, ?_⟩
            · unfold stayR isD
              have e1 : (nowD L (rd (i + 2))).kind = 2 := congrArg Prod.fst h2.at_.2
              have e2 : (nowD L (rd (i + 2))).text = kStay := congrArg (fun q => q.2.1) h2.at_.2
              rw [if_pos (by rw [e1, e2]; decide), see_after h2]
            · rw [show (nowD L (rd (i + 2))).kind = 2 from congrArg Prod.fst h2.at_.2]; decide
          · rw [if_neg hp] at h2
            have hy0 : y = 0 := by have := hpos y (List.mem_cons_self ..); omega
            subst hy0
            have h2 : See L (i + 2) (restK ss rs ys ++ endK :: K) := h2
            obtain ⟨s9, ss9, rfl⟩ : ∃ a b, ss = a :: b := by cases ss with | nil => cases hss | cons a b => exact ⟨a, b, rfl⟩
            have h3 : See L (i + 2) (vk (rs.headD 0) :: (nk s9 :: ((stayK ys ++ restK ss9 rs.tail ys.tail)) ++ endK :: K)) := h2
            have e1 : (nowD L (rd (i + 2))).kind = 3 := congrArg Prod.fst h3.at_.2
            refine ⟨i + 2, ?_, h2, by rw [e1]; decide⟩
            unfold stayR isD
            rw [if_neg (by rw [e1]; simp)]
        obtain ⟨j, hst1, hst2, hst3⟩ := hst
        obtain ⟨q, hq1, hq2⟩ := ih rs ys n j (az ++ [s]) (ar ++ [r]) (ay ++ [y]) hst2 hss (by omega) (by omega) (fun z hz => hpos z (List.mem_cons_of_mem _ hz)) (by rw [List.length_append, List.length_singleton]; omega) (by omega)
        refine ⟨q, ?_, hq2⟩
        rw [routeRun_go rfl]
        · simp only [hnum, hm, hnm, hst1, hq1, List.append_assoc, List.singleton_append]
        · simp only [hnum, hm, hnm]
          rintro (h9 | h9)
          · exact h9 rfl
          · exact hst3 h9
theorem restK_len : ∀ (ss : Nms) (rs ys : List Int), ss.length ≤ (restK ss rs ys).length := by
  intro ss
  induction ss with
  | nil => intro _ _; exact Nat.zero_le _
  | cons s ss ih =>
    intro rs ys
    have := ih rs.tail ys.tail
    unfold restK
    rw [List.length_cons, List.length_cons, List.length_cons, List.length_append]
    omega
theorem see_route {r : RouteD} (hk : okR r = true) (hy : ∀ n ∈ r.stays, okN n = true) (h : See L i (([nk r.name, nk (r.stops.headD [])] ++ restK r.stops.tail r.rides r.stays) ++ endK :: K)) : ∃ j, routeRD L (rd i) = (rd j, r) ∧ See L j (endK :: K) := by
  unfold okR at hk
  rw [decide_eq_true_eq] at hk
  obtain ⟨a1, a2, a3, a4⟩ := hk
  obtain ⟨nm, stops, rides, stays⟩ := r
  cases stops with
  | nil => cases a1
  | cons s0 ss =>
    simp only [List.length_cons] at a1 a2 a3 a4
    have h : See L i (nk nm :: nk s0 :: (restK ss rides stays ++ endK :: K)) := h
    have hle := h.le
    have := restK_len ss rides stays
    rw [List.length_cons, List.length_append] at hle
    obtain ⟨j, h1, h2⟩ := see_rest ss rides stays (L.length + 1) (i + 2) [s0] [] [] h.next.next (by omega) (by omega) (by omega) (fun y hy2 => by have := hy y hy2; unfold okN at this; rw [decide_eq_true_eq] at this; exact this.1) (by simp only [List.length_cons, List.length_nil]; omega) (by omega)
    refine ⟨j, ?_, h2⟩
    unfold routeRD
    simp only [see_name h, see_name h.next, h1]
    rfl
/-- A line that is read. -/
theorem see_line {x : List UInt8} {d d2 : SheetD} {T : List KK} (hx : x ∈ keysL) (h : See L i ((kk x :: T) ++ endK :: K)) (hf : fullD d x = false) (ht : See L (i + 1) (T ++ endK :: K) → ∃ j, thingD L (rd (i + 1)) d x = (rd j, d2) ∧ See L j (endK :: K)) :
    ∃ j, lineD L (rd i) d = (rd j, d2) ∧ See L j K := by
  have h : See L i (kk x :: (T ++ endK :: K)) := h
  obtain ⟨j, h1, h2⟩ := ht h.next
  have e1 : (nowD L (rd i)).kind = 2 := congrArg Prod.fst h.at_.2
  have e2 : (nowD L (rd i)).text = x := congrArg (fun q => q.2.1) h.at_.2
  refine ⟨j + 1, ?_, h2.next⟩
  unfold lineD
  rw [e1, e2, if_pos ⟨rfl, hx⟩, if_neg (by rw [hf]; decide)]
  rw [show (⟨(rd i).at_ + 1, (rd i).e, (rd i).ln, (rd i).cl⟩ : Rd) = rd (i + 1) from rfl, h1]
  simp only [see_end h2]
/-- Lines of one kind. -/
theorem see_many {α : Type} (kf : α → List KK) (hne : ∀ x, kf x ≠ []) (puts : List α → SheetD) (l : List α)
    (hstep : ∀ (a : List α) (x : α) (b : List α), l = a ++ x :: b → ∀ (i : Nat) (K : List KK), See L i (kf x ++ endK :: K) → ∃ j, lineD L (rd i) (puts a) = (rd j, puts (a ++ [x])) ∧ See L j K) :
    ∀ (b a : List α) (i m : Nat) (K : List KK), l = a ++ b → See L i (keysP (b.map fun x => ([], kf x)) ++ K) → ∃ j, parseRun L (m + b.length) (rd i) (puts a) = parseRun L m (rd j) (puts l) ∧ See L j K := by
  intro b
  induction b with
  | nil => intro a i m K hl h; rw [List.append_nil] at hl; subst hl; exact ⟨i, rfl, h⟩
  | cons x b ih =>
    intro a i m K hl h
    have h : See L i (((kf x ++ [endK]) ++ keysP (b.map fun x => ([], kf x))) ++ K) := by
      unfold keysP at h ⊢
      rw [List.map_cons, List.flatMap_cons] at h
      exact h
    rw [List.append_assoc, List.append_assoc, List.singleton_append] at h
    obtain ⟨j, h1, h2⟩ := hstep a x b hl i _ h
    obtain ⟨q, h3, h4⟩ := ih (a ++ [x]) j m K (by rw [hl, List.append_assoc]; rfl) h2
    refine ⟨q, ?_, h4⟩
    have hi : i < L.length := by
      obtain ⟨k, T, hk⟩ : ∃ k T, kf x = k :: T := by cases hh : kf x with | nil => exact absurd hh (hne x) | cons k T => exact ⟨k, T, rfl⟩
      rw [hk] at h
      exact (show See L i (k :: _) from h).at_.1
    rw [List.length_cons, ← Nat.add_assoc, parseRun_go rfl hi, h1]
    exact h3
end Go.Proofs.YteonefgbdphmiaaGreatDoor
/- What is shown is read as it was: plain words. The whole. -/
namespace Go.Proofs.YteonefgbdphmiaaGreatDoor
open Go.RowKit
variable {L : List TokD}
theorem keysP_map {α : Type} (f : α → LP) (l : List α) : keysP (l.map f) = keysP (l.map fun x => (([] : List Wd), (f x).2)) := by
  unfold keysP
  rw [List.flatMap_map, List.flatMap_map]
theorem keysP_app (a b : List LP) : keysP (a ++ b) = keysP a ++ keysP b := by unfold keysP; rw [List.flatMap_append]
theorem keysP_len (l : List LP) : l.length ≤ (keysP l).length := by
  unfold keysP
  induction l with
  | nil => exact Nat.zero_le _
  | cons p l ih => rw [List.flatMap_cons, List.length_append, List.length_append, List.length_cons, List.length_singleton]; omega
theorem mid_len {α : Type} {l a b : List α} {x : α} (h : l = a ++ x :: b) : a.length < l.length := by rw [h, List.length_append, List.length_cons]; omega
theorem mid_mem {α : Type} {l a b : List α} {x : α} (h : l = a ++ x :: b) : x ∈ l := by rw [h]; simp
/-- What is shown is read as it was. -/
theorem read_back (x : SheetD) (u : ByteArray) (hc : checkD x = 0) (hu : u.data.toList = textL (linesD x)) (hs : u.size ≤ 65536) : parseS u = (x, ⟨0, 0, 0⟩) := by
  obtain ⟨hlong, _, hnum, hro⟩ := check_ok hc
  unfold longD at hlong
  rw [decide_eq_false_iff_not] at hlong
  obtain ⟨hk, hf⟩ := lex_text u (linesP x) (by rw [hu, linesP_D]) hs (linesP_lay hc)
  unfold parseS
  rw [hf, if_neg (by decide)]
  obtain ⟨L, hL⟩ : ∃ L, (allD u).1 = L := ⟨_, rfl⟩
  rw [hL] at hk ⊢
  dsimp only
  have h0 : See L 0 (keysP (linesP x)) := by unfold See; rw [List.drop_zero]; exact hk
  have hlen : (linesP x).length ≤ L.length := by
    have := keysP_len (linesP x)
    rw [← hk, List.length_map] at this
    exact this
  unfold linesP at h0 hlen
  simp only [keysP_app, List.append_assoc] at h0
  simp only [List.length_append, List.length_map, List.length_singleton] at hlen
  rw [keysP_map stopP, keysP_map pathP, keysP_map doorP, keysP_map routeP, keysP_map tripP, keysP_map hazP, ← List.append_nil (keysP (x.hazs.map _))] at h0
  have h0 : See L 0 (kk kHorizon :: vk x.hor :: endK :: _) := h0
  rw [show (⟨0, 0, 0, 0⟩ : Rd) = rd 0 from rfl, see_key h0, see_num h0.next]
  dsimp only
  rw [see_end h0.next.next]
  have h1 := h0.next.next.next
  obtain ⟨hor, stops, paths, doors, routes, trips, hazs⟩ := x
  dsimp only at h1 hlong hlen hro ⊢
  obtain ⟨j1, e1, h2⟩ := see_many (L := L) (fun s => (stopP s).2) (fun s => by simp [stopP]) (fun a => { zeroD with hor := hor, stops := a }) stops
    (fun a s b hl i K h => see_line (x := kStop) (d2 := { zeroD with hor := hor, stops := a ++ [s] }) (by decide) h (by
      have := mid_len hl
      exact decide_eq_false (by show ¬ 256 ≤ a.length; omega)) (fun h2 => ⟨i + 2, by
        unfold thingD
        rw [if_pos rfl, see_name h2], h2.next⟩)) stops [] 3 (L.length + 1 - (stops.length + paths.length + doors.length + routes.length + trips.length + hazs.length) + hazs.length + trips.length + routes.length + doors.length + paths.length) _ rfl h1
  obtain ⟨j2, e2, h3⟩ := see_many (L := L) (fun s => (pathP s).2) (fun s => by simp [pathP]) (fun a => { zeroD with hor := hor, stops := stops, paths := a }) paths
    (fun a s b hl i K h => see_line (x := kPath) (d2 := { zeroD with hor := hor, stops := stops, paths := a ++ [s] }) (by decide) h (by
      have := mid_len hl
      exact decide_eq_false (by show ¬ 1024 ≤ a.length; omega)) (fun h2 => ⟨_, by
        unfold thingD
        rw [if_neg (by decide), if_pos rfl, (see_path (p := s) h2).1], (see_path (p := s) h2).2⟩)) paths [] j1 (L.length + 1 - (stops.length + paths.length + doors.length + routes.length + trips.length + hazs.length) + hazs.length + trips.length + routes.length + doors.length) _ rfl h2
  obtain ⟨j3, e3, h4⟩ := see_many (L := L) (fun s => (doorP s).2) (fun s => by simp [doorP]) (fun a => { zeroD with hor := hor, stops := stops, paths := paths, doors := a }) doors
    (fun a s b hl i K h => see_line (x := kDoor) (d2 := { zeroD with hor := hor, stops := stops, paths := paths, doors := a ++ [s] }) (by decide) h (by
      have := mid_len hl
      exact decide_eq_false (by show ¬ 256 ≤ a.length; omega)) (fun h2 => ⟨_, by
        unfold thingD
        rw [if_neg (by decide), if_neg (by decide), if_pos rfl, (see_door (p := s) h2).1], (see_door (p := s) h2).2⟩)) doors [] j2 (L.length + 1 - (stops.length + paths.length + doors.length + routes.length + trips.length + hazs.length) + hazs.length + trips.length + routes.length) _ rfl h3
  obtain ⟨j4, e4, h5⟩ := see_many (L := L) (fun s => (routeP s).2) (fun s => by simp [routeP]) (fun a => { zeroD with hor := hor, stops := stops, paths := paths, doors := doors, routes := a }) routes
    (fun a s b hl i K h => see_line (x := kRoute) (d2 := { zeroD with hor := hor, stops := stops, paths := paths, doors := doors, routes := a ++ [s] }) (by decide) h (by
      have := mid_len hl
      exact decide_eq_false (by show ¬ 256 ≤ a.length; omega)) (fun h2 => by
        obtain ⟨j, r1, r2⟩ := see_route (hro s (mid_mem hl)) (fun n hn => hnum n (in_nums (.inr (.inr (.inr (.inl ⟨s, mid_mem hl, List.mem_append_right _ hn⟩)))))) h2
        refine ⟨j, ?_, r2⟩
        unfold thingD
        rw [if_neg (by decide), if_neg (by decide), if_neg (by decide), if_pos rfl, r1])) routes [] j3 (L.length + 1 - (stops.length + paths.length + doors.length + routes.length + trips.length + hazs.length) + hazs.length + trips.length) _ rfl h4
  obtain ⟨j5, e5, h6⟩ := see_many (L := L) (fun s => (tripP s).2) (fun s => by simp [tripP]) (fun a => { zeroD with hor := hor, stops := stops, paths := paths, doors := doors, routes := routes, trips := a }) trips
    (fun a s b hl i K h => see_line (x := kTrip) (d2 := { zeroD with hor := hor, stops := stops, paths := paths, doors := doors, routes := routes, trips := a ++ [s] }) (by decide) h (by
      have := mid_len hl
      exact decide_eq_false (by show ¬ 1024 ≤ a.length; omega)) (fun h2 => ⟨_, by
        unfold thingD
        rw [if_neg (by decide), if_neg (by decide), if_neg (by decide), if_neg (by decide), if_pos rfl, (see_trip (p := s) h2).1], (see_trip (p := s) h2).2⟩)) trips [] j4 (L.length + 1 - (stops.length + paths.length + doors.length + routes.length + trips.length + hazs.length) + hazs.length) _ rfl h5
  obtain ⟨j6, e6, h7⟩ := see_many (L := L) (fun s => (hazP s).2) (fun s => by simp [hazP]) (fun a => { zeroD with hor := hor, stops := stops, paths := paths, doors := doors, routes := routes, trips := trips, hazs := a }) hazs
    (fun a s b hl i K h => see_line (x := kHazard) (d2 := { zeroD with hor := hor, stops := stops, paths := paths, doors := doors, routes := routes, trips := trips, hazs := a ++ [s] }) (by decide) h (by
      have := mid_len hl
      exact decide_eq_false (by show ¬ 256 ≤ a.length; omega)) (fun h2 => ⟨_, by
        unfold thingD
        rw [if_neg (by decide), if_neg (by decide), if_neg (by decide), if_neg (by decide), if_neg (by decide), (see_haz (p := s) h2).1], (see_haz (p := s) h2).2⟩)) hazs [] j5 (L.length + 1 - (stops.length + paths.length + doors.length + routes.length + trips.length + hazs.length)) _ rfl h6
  have hend : ¬ ((rd j6).e = 0 ∧ (rd j6).at_ < L.length) := by
    rintro ⟨_, hlt⟩
    have h9 := congrArg List.length (show (L.map key).drop j6 = [] from h7)
    rw [List.length_drop, List.length_map, List.length_nil] at h9
    have : (rd j6).at_ = j6 := rfl
    omega
  have hall := e1.trans (e2.trans (e3.trans (e4.trans (e5.trans (e6.trans (parseRun_stop hend))))))
  rw [show L.length + 1 - (stops.length + paths.length + doors.length + routes.length + trips.length + hazs.length) + hazs.length + trips.length + routes.length + doors.length + paths.length + stops.length = L.length + 1 by omega] at hall
  replace hall : parseRun L (L.length + 1) (rd (0 + 1 + 1 + 1)) { zeroD with hor := hor } = (rd j6, { zeroD with hor := hor, stops := stops, paths := paths, doors := doors, routes := routes, trips := trips, hazs := hazs }) := hall
  rw [hall]
  rfl
end Go.Proofs.YteonefgbdphmiaaGreatDoor
