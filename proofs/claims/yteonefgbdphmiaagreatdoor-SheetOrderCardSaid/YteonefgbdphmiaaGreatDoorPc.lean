/- A sheet's things in whatever order: plain words. What is read from their lines. -/
import Derived.Test.YteonefgbdphmiaaGreatDoorQk
import Derived.Test.YteonefgbdphmiaaGreatDoorPb
namespace Go.Proofs.YteonefgbdphmiaaGreatDoor
open Go.RowKit
inductive ItemD where
  | stop (s : List UInt8)
  | path (p : PathD)
  | door (p : DoorD)
  | route (r : RouteD)
  | trip (p : TripD)
  | haz (p : HazD)
def ItemD.P : ItemD → LP
  | .stop s => stopP s
  | .path p => pathP p
  | .door p => doorP p
  | .route r => routeP r
  | .trip p => tripP p
  | .haz p => hazP p
def putD (d : SheetD) : ItemD → SheetD
  | .stop s => { d with stops := d.stops ++ [s] }
  | .path p => { d with paths := d.paths ++ [p] }
  | .door p => { d with doors := d.doors ++ [p] }
  | .route r => { d with routes := d.routes ++ [r] }
  | .trip p => { d with trips := d.trips ++ [p] }
  | .haz p => { d with hazs := d.hazs ++ [p] }
def ItemD.Ok : ItemD → Prop
  | .route r => okR r = true ∧ ∀ n ∈ r.stays, okN n = true
  | _ => True
def itemsD (x : SheetD) : List ItemD := x.stops.map .stop ++ x.paths.map .path ++ x.doors.map .door ++ x.routes.map .route ++ x.trips.map .trip ++ x.hazs.map .haz
theorem linesP_items (x : SheetD) : linesP x = horP x.hor :: (itemsD x).map ItemD.P := by
  unfold linesP itemsD
  simp only [List.map_append, List.map_map, List.append_assoc, List.singleton_append]
  rfl
/-- One sheet's rows begin as the other's. -/
structure PreD (a e : SheetD) : Prop where
  h : a.hor = e.hor
  s : ∃ l, e.stops = a.stops ++ l
  p : ∃ l, e.paths = a.paths ++ l
  d : ∃ l, e.doors = a.doors ++ l
  r : ∃ l, e.routes = a.routes ++ l
  t : ∃ l, e.trips = a.trips ++ l
  z : ∃ l, e.hazs = a.hazs ++ l
theorem pre_nil {α : Type} (l : List α) : ∃ m, l = l ++ m := ⟨[], (List.append_nil l).symm⟩
theorem pre_trans {α : Type} {a b c : List α} (h : ∃ l, b = a ++ l) (k : ∃ l, c = b ++ l) : ∃ l, c = a ++ l := by
  obtain ⟨l, rfl⟩ := h
  obtain ⟨m, rfl⟩ := k
  exact ⟨l ++ m, List.append_assoc ..⟩
theorem PreD.refl (d : SheetD) : PreD d d := ⟨rfl, pre_nil _, pre_nil _, pre_nil _, pre_nil _, pre_nil _, pre_nil _⟩
theorem PreD.trans {a b c : SheetD} (h : PreD a b) (k : PreD b c) : PreD a c :=
  ⟨h.h.trans k.h, pre_trans h.s k.s, pre_trans h.p k.p, pre_trans h.d k.d, pre_trans h.r k.r, pre_trans h.t k.t, pre_trans h.z k.z⟩
theorem PreD.put (d : SheetD) (i : ItemD) : PreD d (putD d i) := by
  cases i with
  | stop s => exact ⟨rfl, ⟨[s], rfl⟩, pre_nil _, pre_nil _, pre_nil _, pre_nil _, pre_nil _⟩
  | path s => exact ⟨rfl, pre_nil _, ⟨[s], rfl⟩, pre_nil _, pre_nil _, pre_nil _, pre_nil _⟩
  | door s => exact ⟨rfl, pre_nil _, pre_nil _, ⟨[s], rfl⟩, pre_nil _, pre_nil _, pre_nil _⟩
  | route s => exact ⟨rfl, pre_nil _, pre_nil _, pre_nil _, ⟨[s], rfl⟩, pre_nil _, pre_nil _⟩
  | trip s => exact ⟨rfl, pre_nil _, pre_nil _, pre_nil _, pre_nil _, ⟨[s], rfl⟩, pre_nil _⟩
  | haz s => exact ⟨rfl, pre_nil _, pre_nil _, pre_nil _, pre_nil _, pre_nil _, ⟨[s], rfl⟩⟩
theorem PreD.fold (l : List ItemD) : ∀ d : SheetD, PreD d (l.foldl putD d) := by
  induction l with
  | nil => intro d; exact PreD.refl d
  | cons i l ih => intro d; exact (PreD.put d i).trans (ih _)
theorem pre_len {α : Type} {a b : List α} (h : ∃ l, b = a ++ l) : a.length ≤ b.length := by
  obtain ⟨l, rfl⟩ := h
  rw [List.length_append]; omega
theorem long_parts {x : SheetD} (h : longD x = false) : x.stops.length ≤ 256 ∧ x.paths.length ≤ 1024 ∧ x.doors.length ≤ 256 ∧ x.routes.length ≤ 256 ∧ x.trips.length ≤ 1024 ∧ x.hazs.length ≤ 256 := by
  unfold longD at h
  rw [decide_eq_false_iff_not] at h
  omega
theorem long_of {x : SheetD} (h : x.stops.length ≤ 256 ∧ x.paths.length ≤ 1024 ∧ x.doors.length ≤ 256 ∧ x.routes.length ≤ 256 ∧ x.trips.length ≤ 1024 ∧ x.hazs.length ≤ 256) : longD x = false := by
  unfold longD
  rw [decide_eq_false_iff_not]
  omega
theorem PreD.long {a b : SheetD} (h : PreD a b) (k : longD b = false) : longD a = false := by
  have h1 := pre_len h.s
  have h2 := pre_len h.p
  have h3 := pre_len h.d
  have h4 := pre_len h.r
  have h5 := pre_len h.t
  have h6 := pre_len h.z
  have := long_parts k
  exact long_of (by omega)
section
variable {L : List TokD} {i : Nat} {K : List KK}
theorem see_item {it : ItemD} {d : SheetD} (h : See L i (it.P.2 ++ endK :: K)) (hok : it.Ok) (hf : longD (putD d it) = false) : ∃ j, lineD L (rd i) d = (rd j, putD d it) ∧ See L j K := by
  have hp := long_parts hf
  cases it with
  | stop s =>
    have hq : (d.stops ++ [s]).length ≤ 256 := hp.1
    rw [List.length_append, List.length_singleton] at hq
    exact see_line (x := kStop) (d2 := putD d (.stop s)) (by decide) h (decide_eq_false (by show ¬ 256 ≤ d.stops.length; omega)) (fun h2 => ⟨i + 2, by
      unfold thingD
      rw [if_pos rfl, see_name h2]; rfl, h2.next⟩)
  | path s =>
    have hq : (d.paths ++ [s]).length ≤ 1024 := hp.2.1
    rw [List.length_append, List.length_singleton] at hq
    exact see_line (x := kPath) (d2 := putD d (.path s)) (by decide) h (decide_eq_false (by show ¬ 1024 ≤ d.paths.length; omega)) (fun h2 => ⟨_, by
      unfold thingD
      rw [if_neg (by decide), if_pos rfl, (see_path (p := s) h2).1]; rfl, (see_path (p := s) h2).2⟩)
  | door s =>
    have hq : (d.doors ++ [s]).length ≤ 256 := hp.2.2.1
    rw [List.length_append, List.length_singleton] at hq
    exact see_line (x := kDoor) (d2 := putD d (.door s)) (by decide) h (decide_eq_false (by show ¬ 256 ≤ d.doors.length; omega)) (fun h2 => ⟨_, by
      unfold thingD
      rw [if_neg (by decide), if_neg (by decide), if_pos rfl, (see_door (p := s) h2).1]; rfl, (see_door (p := s) h2).2⟩)
  | route s =>
    have hq : (d.routes ++ [s]).length ≤ 256 := hp.2.2.2.1
    rw [List.length_append, List.length_singleton] at hq
    exact see_line (x := kRoute) (d2 := putD d (.route s)) (by decide) h (decide_eq_false (by show ¬ 256 ≤ d.routes.length; omega)) (fun h2 => by
      obtain ⟨j, r1, r2⟩ := see_route hok.1 hok.2 h2
      refine ⟨j, ?_, r2⟩
      unfold thingD
      rw [if_neg (by decide), if_neg (by decide), if_neg (by decide), if_pos rfl, r1]; rfl)
  | trip s =>
    have hq : (d.trips ++ [s]).length ≤ 1024 := hp.2.2.2.2.1
    rw [List.length_append, List.length_singleton] at hq
    exact see_line (x := kTrip) (d2 := putD d (.trip s)) (by decide) h (decide_eq_false (by show ¬ 1024 ≤ d.trips.length; omega)) (fun h2 => ⟨_, by
      unfold thingD
      rw [if_neg (by decide), if_neg (by decide), if_neg (by decide), if_neg (by decide), if_pos rfl, (see_trip (p := s) h2).1]; rfl, (see_trip (p := s) h2).2⟩)
  | haz s =>
    have hq : (d.hazs ++ [s]).length ≤ 256 := hp.2.2.2.2.2
    rw [List.length_append, List.length_singleton] at hq
    exact see_line (x := kHazard) (d2 := putD d (.haz s)) (by decide) h (decide_eq_false (by show ¬ 256 ≤ d.hazs.length; omega)) (fun h2 => ⟨_, by
      unfold thingD
      rw [if_neg (by decide), if_neg (by decide), if_neg (by decide), if_neg (by decide), if_neg (by decide), (see_haz (p := s) h2).1]; rfl, (see_haz (p := s) h2).2⟩)
theorem item_ne (it : ItemD) : it.P.2 ≠ [] := by cases it <;> simp [ItemD.P, stopP, pathP, doorP, routeP, tripP, hazP]
theorem see_items : ∀ (l : List ItemD) (d : SheetD) (i m : Nat) (K : List KK), (∀ it ∈ l, it.Ok) → longD (l.foldl putD d) = false → See L i (keysP (l.map ItemD.P) ++ K) →
    ∃ j, parseRun L (m + l.length) (rd i) d = parseRun L m (rd j) (l.foldl putD d) ∧ See L j K := by
  intro l
  induction l with
  | nil => intro d i m K _ _ h; exact ⟨i, rfl, h⟩
  | cons it l ih =>
    intro d i m K hok hf h
    have h : See L i (((it.P.2 ++ [endK]) ++ keysP (l.map ItemD.P)) ++ K) := by
      unfold keysP at h ⊢
      rw [List.map_cons, List.flatMap_cons] at h
      exact h
    rw [List.append_assoc, List.append_assoc, List.singleton_append] at h
    obtain ⟨j, h1, h2⟩ := see_item (d := d) h (hok it (List.mem_cons_self ..)) ((PreD.fold l (putD d it)).long hf)
    obtain ⟨q, h3, h4⟩ := ih (putD d it) j m K (fun x hx => hok x (List.mem_cons_of_mem _ hx)) hf h2
    refine ⟨q, ?_, h4⟩
    have hi : i < L.length := by
      obtain ⟨k, T, hk⟩ : ∃ k T, it.P.2 = k :: T := by cases hh : it.P.2 with | nil => exact absurd hh (item_ne it) | cons k T => exact ⟨k, T, rfl⟩
      rw [hk] at h
      exact (show See L i (k :: _) from h).at_.1
    rw [List.length_cons, ← Nat.add_assoc, parseRun_go rfl hi, h1]
    exact h3
end
/-- What is read where the tokens are a horizon's and things'. -/
theorem parse_keys (u : ByteArray) (hor : Int) (l : List ItemD) (hk : (allD u).1.map key = keysP (horP hor :: l.map ItemD.P)) (he : (allD u).2 = ⟨0, 0, 0⟩) (hok : ∀ it ∈ l, it.Ok) (hlim : longD (l.foldl putD { zeroD with hor := hor }) = false) :
    parseS u = (l.foldl putD { zeroD with hor := hor }, ⟨0, 0, 0⟩) := by
  unfold parseS
  rw [he, if_neg (by decide)]
  obtain ⟨L, hL⟩ : ∃ L, (allD u).1 = L := ⟨_, rfl⟩
  rw [hL] at hk ⊢
  dsimp only
  have h0 : See L 0 (keysP (horP hor :: l.map ItemD.P)) := by unfold See; rw [List.drop_zero]; exact hk
  have hlen : (l.map ItemD.P).length + 1 ≤ L.length := by
    have := keysP_len (horP hor :: l.map ItemD.P)
    rw [← hk, List.length_map] at this
    exact this
  rw [List.length_map] at hlen
  have h0 : See L 0 (kk kHorizon :: vk hor :: endK :: keysP (l.map ItemD.P)) := h0
  rw [show (⟨0, 0, 0, 0⟩ : Rd) = rd 0 from rfl, see_key h0, see_num h0.next]
  dsimp only
  rw [see_end h0.next.next]
  have h1 := h0.next.next.next
  rw [← List.append_nil (keysP _)] at h1
  obtain ⟨j, e1, h2⟩ := see_items (L := L) l { zeroD with hor := hor } (0 + 1 + 1 + 1) (L.length + 1 - l.length) [] hok hlim h1
  have hend : ¬ ((rd j).e = 0 ∧ (rd j).at_ < L.length) := by
    rintro ⟨_, hlt⟩
    have h9 := congrArg List.length (show (L.map key).drop j = [] from h2)
    rw [List.length_drop, List.length_map, List.length_nil] at h9
    have : (rd j).at_ = j := rfl
    omega
  rw [show L.length + 1 - l.length + l.length = L.length + 1 by omega] at e1
  rw [e1, parseRun_stop hend]
  rfl
/-- Things of a kind. -/
def stopsI (l : List ItemD) : Nms := l.filterMap fun | .stop s => some s | _ => none
def pathsI (l : List ItemD) : List PathD := l.filterMap fun | .path s => some s | _ => none
def doorsI (l : List ItemD) : List DoorD := l.filterMap fun | .door s => some s | _ => none
def routesI (l : List ItemD) : List RouteD := l.filterMap fun | .route s => some s | _ => none
def tripsI (l : List ItemD) : List TripD := l.filterMap fun | .trip s => some s | _ => none
def hazsI (l : List ItemD) : List HazD := l.filterMap fun | .haz s => some s | _ => none
theorem fold_put : ∀ (l : List ItemD) (d : SheetD), l.foldl putD d = ⟨d.hor, d.stops ++ stopsI l, d.paths ++ pathsI l, d.doors ++ doorsI l, d.routes ++ routesI l, d.trips ++ tripsI l, d.hazs ++ hazsI l⟩ := by
  intro l
  induction l with
  | nil => intro d; simp [stopsI, pathsI, doorsI, routesI, tripsI, hazsI]
  | cons i l ih =>
    intro d
    rw [List.foldl_cons, ih]
    cases i <;> simp [putD, stopsI, pathsI, doorsI, routesI, tripsI, hazsI]
theorem fm_map_none {α β γ : Type} (f : α → β) (g : β → Option γ) (l : List α) (h : ∀ a, g (f a) = none) : (l.map f).filterMap g = [] := by
  induction l with
  | nil => rfl
  | cons a l ih => rw [List.map_cons, List.filterMap_cons, h, ih]
theorem fm_map_some {α β : Type} (f : α → β) (g : β → Option α) (l : List α) (h : ∀ a, g (f a) = some a) : (l.map f).filterMap g = l := by
  induction l with
  | nil => rfl
  | cons a l ih => rw [List.map_cons, List.filterMap_cons, h, ih]
theorem items_of (x : SheetD) : stopsI (itemsD x) = x.stops ∧ pathsI (itemsD x) = x.paths ∧ doorsI (itemsD x) = x.doors ∧ routesI (itemsD x) = x.routes ∧ tripsI (itemsD x) = x.trips ∧ hazsI (itemsD x) = x.hazs := by
  unfold itemsD stopsI pathsI doorsI routesI tripsI hazsI
  simp only [List.filterMap_append]
  refine ⟨?_, ?_, ?_, ?_, ?_, ?_⟩
  · rw [fm_map_some ItemD.stop _ x.stops (fun _ => rfl), fm_map_none ItemD.path _ x.paths (fun _ => rfl), fm_map_none ItemD.door _ x.doors (fun _ => rfl), fm_map_none ItemD.route _ x.routes (fun _ => rfl), fm_map_none ItemD.trip _ x.trips (fun _ => rfl), fm_map_none ItemD.haz _ x.hazs (fun _ => rfl)]; simp
  · rw [fm_map_none ItemD.stop _ x.stops (fun _ => rfl), fm_map_some ItemD.path _ x.paths (fun _ => rfl), fm_map_none ItemD.door _ x.doors (fun _ => rfl), fm_map_none ItemD.route _ x.routes (fun _ => rfl), fm_map_none ItemD.trip _ x.trips (fun _ => rfl), fm_map_none ItemD.haz _ x.hazs (fun _ => rfl)]; simp
  · rw [fm_map_none ItemD.stop _ x.stops (fun _ => rfl), fm_map_none ItemD.path _ x.paths (fun _ => rfl), fm_map_some ItemD.door _ x.doors (fun _ => rfl), fm_map_none ItemD.route _ x.routes (fun _ => rfl), fm_map_none ItemD.trip _ x.trips (fun _ => rfl), fm_map_none ItemD.haz _ x.hazs (fun _ => rfl)]; simp
  · rw [fm_map_none ItemD.stop _ x.stops (fun _ => rfl), fm_map_none ItemD.path _ x.paths (fun _ => rfl), fm_map_none ItemD.door _ x.doors (fun _ => rfl), fm_map_some ItemD.route _ x.routes (fun _ => rfl), fm_map_none ItemD.trip _ x.trips (fun _ => rfl), fm_map_none ItemD.haz _ x.hazs (fun _ => rfl)]; simp
  · rw [fm_map_none ItemD.stop _ x.stops (fun _ => rfl), fm_map_none ItemD.path _ x.paths (fun _ => rfl), fm_map_none ItemD.door _ x.doors (fun _ => rfl), fm_map_none ItemD.route _ x.routes (fun _ => rfl), fm_map_some ItemD.trip _ x.trips (fun _ => rfl), fm_map_none ItemD.haz _ x.hazs (fun _ => rfl)]; simp
  · rw [fm_map_none ItemD.stop _ x.stops (fun _ => rfl), fm_map_none ItemD.path _ x.paths (fun _ => rfl), fm_map_none ItemD.door _ x.doors (fun _ => rfl), fm_map_none ItemD.route _ x.routes (fun _ => rfl), fm_map_none ItemD.trip _ x.trips (fun _ => rfl), fm_map_some ItemD.haz _ x.hazs (fun _ => rfl)]; simp
theorem fold_items (x : SheetD) : (itemsD x).foldl putD { zeroD with hor := x.hor } = x := by
  obtain ⟨h1, h2, h3, h4, h5, h6⟩ := items_of x
  rw [fold_put, h1, h2, h3, h4, h5, h6]
  rfl
theorem items_ok {x : SheetD} (h : checkD x = 0) : ∀ it ∈ itemsD x, it.Ok := by
  obtain ⟨_, _, hnum, hro⟩ := check_ok h
  intro it hit
  unfold itemsD at hit
  simp only [List.mem_append, List.mem_map] at hit
  rcases hit with ((((⟨y, hy, rfl⟩ | ⟨y, hy, rfl⟩) | ⟨y, hy, rfl⟩) | ⟨y, hy, rfl⟩) | ⟨y, hy, rfl⟩) | ⟨y, hy, rfl⟩
  · trivial
  · trivial
  · trivial
  · exact ⟨hro y hy, fun n hn => hnum n (in_nums (.inr (.inr (.inr (.inl ⟨y, hy, List.mem_append_right _ hn⟩)))))⟩
  · trivial
  · trivial
/-- What the lexer needs of a line. -/
def LP.Good (p : LP) : Prop := p.1 ≠ [] ∧ Lay p.1 p.2
theorem items_lay {x : SheetD} (h : checkD x = 0) : LP.Good (horP x.hor) ∧ ∀ it ∈ itemsD x, LP.Good it.P := by
  have h1 := linesP_lay h
  rw [linesP_items] at h1
  exact ⟨h1 _ (List.mem_cons_self ..), fun it hit => h1 _ (List.mem_cons_of_mem _ (List.mem_map_of_mem hit))⟩
/-- The lexer at a text whose last line has no end of its own. -/
theorem Mid.fin2 {F : Cur} {ks : List KK} (h : Mid F [] ks true) : F.out.map key = ks ++ [endK] ∧ F.err = 0 := by
  obtain ⟨c, h1, h2, h3, h4, h5, h6⟩ := h
  have hp := rest_nil h2.ok h3
  have hst : stepSt .any c = (.end_, c) := by
    show stepAny c = _
    unfold stepAny
    rw [if_pos (.inl hp)]
  rw [final_step h2 St.noConfusion, hst] at h1
  have h7 := (step_inv h2 St.noConfusion).1
  rw [hst] at h7
  have h8 := h7.resolve_left St.noConfusion
  have hst2 : stepSt .end_ c = (.none, c.put 4 [] 0 0) := by
    show stepEnd c = _
    unfold stepEnd Cur.close
    rw [if_pos hp, if_pos h5]
  rw [final_step h8 St.noConfusion, hst2, final_none] at h1
  subst h1
  refine ⟨?_, h6⟩
  show (c.out ++ [_]).map key = _
  rw [List.map_append, h4]
  rfl
theorem mid_end {F : Cur} {ws : List Wd} {ks k0 : List KK} (hl : Lay ws ks) (h0 : ws ≠ []) (h : Mid F (line ws) k0 false) : Mid F [] (k0 ++ ks) true := by
  cases ws with
  | nil => exact absurd rfl h0
  | cons w ws =>
    cases ks with
    | nil => exact hl.elim
    | cons k ks =>
      obtain ⟨⟨t, ht, htx, hg, h4⟩, hl2⟩ := hl
      replace h : Mid F (w.t ++ ws.flatMap fun y => 32 :: y.t) k0 false := h
      rw [← htx] at h
      have h2 := h.tok hg h4 (fun b r e => by
        cases ws with
        | nil => rw [List.flatMap_nil] at e; cases e
        | cons y ws =>
          rw [List.flatMap_cons, List.cons_append] at e
          injection e with e1 e2
          rw [← e1]; decide)
      rw [← List.append_nil (ws.flatMap _)] at h2
      have h3 := mid_words (R := []) (fun b r e => by cases e) ws ks _ hl2 h2
      rw [ht, List.append_assoc] at h3
      exact h3
/-- Lines with an end between two. -/
def joinN : List (List UInt8) → List UInt8
  | [] => []
  | a :: l => a ++ l.flatMap fun x => 10 :: x
theorem mid_join {F : Cur} : ∀ (l : List LP) (p : LP) (k0 : List KK), p.Good → (∀ q ∈ l, q.Good) → Mid F (joinN ((p :: l).map fun p => line p.1)) k0 false → Mid F [] (k0 ++ (keysP (p :: l)).dropLast) true := by
  intro l
  induction l with
  | nil =>
    intro p k0 hp _ h
    have h : Mid F (line p.1 ++ []) k0 false := h
    rw [List.append_nil] at h
    have h2 := mid_end hp.2 hp.1 h
    unfold keysP
    rw [List.flatMap_cons, List.flatMap_nil, List.append_nil, List.dropLast_concat]
    exact h2
  | cons q l ih =>
    intro p k0 hp hq h
    have h : Mid F (line p.1 ++ 10 :: joinN ((q :: l).map fun p => line p.1)) k0 false := h
    have h2 := mid_line hp.2 hp.1 h
    have h3 := ih q _ (hq q (List.mem_cons_self ..)) (fun x hx => hq x (List.mem_cons_of_mem _ hx)) h2
    rw [List.append_assoc] at h3
    have e : keysP (p :: q :: l) = (p.2 ++ [endK]) ++ keysP (q :: l) := by unfold keysP; rw [List.flatMap_cons]
    rw [e, List.dropLast_append_of_ne_nil (by unfold keysP; rw [List.flatMap_cons]; simp)]
    exact h3
theorem keys_last : ∀ (l : List LP) (p : LP), (keysP (p :: l)).dropLast ++ [endK] = keysP (p :: l) := by
  intro l
  induction l with
  | nil => intro p; unfold keysP; rw [List.flatMap_cons, List.flatMap_nil, List.append_nil, List.dropLast_concat]
  | cons q l ih =>
    intro p
    have e : keysP (p :: q :: l) = (p.2 ++ [endK]) ++ keysP (q :: l) := by unfold keysP; rw [List.flatMap_cons]
    rw [e, List.dropLast_append_of_ne_nil (by unfold keysP; rw [List.flatMap_cons]; simp), List.append_assoc, ih]
theorem lex_join (u : ByteArray) (p : LP) (l : List LP) (hu : u.data.toList = joinN ((p :: l).map fun p => line p.1)) (hs : u.size ≤ 65536) (hp : p.Good) (hl : ∀ q ∈ l, q.Good) :
    (allD u).1.map key = keysP (p :: l) ∧ (allD u).2 = ⟨0, 0, 0⟩ := by
  have h := Mid.start u hs
  rw [hu] at h
  have h2 := (mid_join l p [] hp hl h).fin2
  rw [List.nil_append, keys_last] at h2
  unfold allD
  rw [if_neg (by omega), if_neg (by rw [h2.2]; decide)]
  exact ⟨h2.1, rfl⟩
/-- A line with a blank ahead, a remark behind, and an empty line. -/
def oddT : List UInt8 := [32, 32, 35, 32, 114, 101, 109, 97, 114, 107, 10, 10]
def oddL (s : List UInt8) : List UInt8 := 9 :: (s ++ oddT)
theorem mid_odd {F : Cur} : ∀ (l : List LP) (k0 : List KK), (∀ q ∈ l, q.Good) → Mid F ((l.map fun p => oddL (line p.1)).flatten) k0 false → Mid F [] (k0 ++ keysP l) false := by
  intro l
  induction l with
  | nil => intro k0 _ h; rw [show keysP [] = [] from rfl, List.append_nil]; exact h
  | cons p l ih =>
    intro k0 hp h
    rw [List.map_cons, List.flatten_cons] at h
    generalize hR : (l.map fun p => oddL (line p.1)).flatten = R at h
    have hg := hp p (List.mem_cons_self ..)
    obtain ⟨ws, ks⟩ := p
    have hl : Lay ws ks := hg.2
    have hn : ws ≠ [] := hg.1
    have h : Mid F (9 :: ((line ws ++ oddT) ++ R)) k0 false := h
    have h1 := h.blank (.inr rfl)
    rw [List.append_assoc] at h1
    have h9 : Mid F (10 :: (10 :: R)) (k0 ++ ks) true := by
      cases ws with
      | nil => exact absurd rfl hn
      | cons w ws =>
        cases ks with
        | nil => exact hl.elim
        | cons k ks =>
          obtain ⟨⟨t, ht, htx, hg, h4⟩, hl2⟩ := hl
          replace h1 : Mid F ((w.t ++ ws.flatMap fun y => 32 :: y.t) ++ (oddT ++ R)) k0 false := h1
          rw [← htx, List.append_assoc] at h1
          have h2 := h1.tok hg h4 (fun b r e => by
            cases ws with
            | nil => rw [List.flatMap_nil, List.nil_append] at e; injection e with e1 e2; rw [← e1]; decide
            | cons y ws =>
              rw [List.flatMap_cons, List.cons_append, List.cons_append] at e
              injection e with e1 e2
              rw [← e1]; decide)
          have h3 := mid_words (R := oddT ++ R) (fun b r e => by injection e with e1 e2; rw [← e1]; decide) ws ks _ hl2 h2
          have h3 : Mid F (32 :: 32 :: 35 :: ([32, 114, 101, 109, 97, 114, 107] ++ 10 :: (10 :: R))) ((k0 ++ [key t]) ++ ks) true := h3
          have h4 := ((h3.blank (.inl rfl)).blank (.inl rfl)).remark (by decide)
          rw [ht, List.append_assoc] at h4
          exact h4
    have h5 := h9.line.line
    rw [if_pos rfl, if_neg (by decide)] at h5
    rw [← hR] at h5
    have h6 := ih _ (fun q hq => hp q (List.mem_cons_of_mem _ hq)) h5
    have e : keysP ((ws, ks) :: l) = (ks ++ [endK]) ++ keysP l := by unfold keysP; rw [List.flatMap_cons]
    rw [e]
    rw [List.append_assoc, List.append_assoc] at h6
    rw [List.append_assoc]
    exact h6
theorem lex_odd (u : ByteArray) (l : List LP) (hu : u.data.toList = (l.map fun p => oddL (line p.1)).flatten) (hs : u.size ≤ 65536) (hl : ∀ q ∈ l, q.Good) :
    (allD u).1.map key = keysP l ∧ (allD u).2 = ⟨0, 0, 0⟩ := by
  have h := Mid.start u hs
  rw [hu] at h
  have h2 := (mid_odd l [] hl h).fin
  rw [List.nil_append] at h2
  unfold allD
  rw [if_neg (by omega), if_neg (by rw [h2.2]; decide)]
  exact ⟨h2.1, rfl⟩
end Go.Proofs.YteonefgbdphmiaaGreatDoor
/- A text that is cut behind a line is read as its first lines; where a fault stands (plain words). -/
namespace Go.Proofs.YteonefgbdphmiaaGreatDoor
open Go.RowKit
section
variable {L M : List TokD} {s : Rd}
theorem now_agree (h : s.at_ < L.length) : nowD (L ++ M) s = nowD L s := by
  unfold nowD
  rw [List.getD_eq_getElem?_getD, List.getD_eq_getElem?_getD, List.getElem?_append_left h]
theorem take_agree {kind : Int} {k : List UInt8} (h : s.at_ < L.length) : takeD (L ++ M) s kind k = takeD L s kind k := by
  unfold takeD
  rw [now_agree h]
theorem take_in {kind : Int} {k : List UInt8} (hL : EndsE L) (hk : kind ≠ 4) (h : s.at_ < L.length) : (takeD L s kind k).1.at_ < L.length := by
  rcases Decidable.em ((takeD L s kind k).1.e = 0) with he | he
  · exact take_lt hL hk he
  · unfold takeD at he ⊢
    split
    · exact h
    · rename_i h1
      rw [if_neg h1] at he
      split
      · rw [failD_at]; exact h
      · rename_i h2
        rw [if_neg h2] at he
        exact absurd (by simpa using h1) he
theorem name_agree (hL : EndsE L) (h : s.at_ < L.length) : nameD (L ++ M) s = nameD L s ∧ (nameD L s).1.at_ < L.length := by
  unfold nameD
  rw [take_agree h]
  exact ⟨rfl, take_in hL (by decide) h⟩
theorem num_agree (hL : EndsE L) (h : s.at_ < L.length) : numD (L ++ M) s = numD L s ∧ (numD L s).1.at_ < L.length := by
  unfold numD
  rw [take_agree h]
  exact ⟨rfl, take_in hL (by decide) h⟩
theorem key_agree {k : List UInt8} (hL : EndsE L) (h : s.at_ < L.length) : keyD (L ++ M) s k = keyD L s k ∧ (keyD L s k).at_ < L.length := by
  unfold keyD
  rw [take_agree h]
  exact ⟨rfl, take_in hL (by decide) h⟩
theorem after_agree {k : List UInt8} (hL : EndsE L) (h : s.at_ < L.length) : afterD (L ++ M) s k = afterD L s k ∧ (afterD L s k).1.at_ < L.length := by
  unfold afterD
  rw [(key_agree hL h).1]
  exact num_agree hL (key_agree (M := M) hL h).2
theorem times_agree {k : List UInt8} (hL : EndsE L) (h : s.at_ < L.length) : timesRD (L ++ M) s k = timesRD L s k ∧ (timesRD L s k).1.at_ < L.length := by
  obtain ⟨a1, a2⟩ := after_agree (M := M) (k := kFrom) hL h
  obtain ⟨b1, b2⟩ := after_agree (M := M) (k := kEvery) hL a2
  obtain ⟨c1, c2⟩ := after_agree (M := M) (k := k) hL b2
  unfold timesRD
  rw [a1, b1, c1]
  exact ⟨rfl, c2⟩
theorem path_agree (hL : EndsE L) (h : s.at_ < L.length) : pathRD (L ++ M) s = pathRD L s ∧ (pathRD L s).1.at_ < L.length := by
  obtain ⟨a1, a2⟩ := name_agree (M := M) hL h
  obtain ⟨b1, b2⟩ := name_agree (M := M) hL a2
  obtain ⟨c1, c2⟩ := name_agree (M := M) hL b2
  obtain ⟨d1, d2⟩ := num_agree (M := M) hL c2
  unfold pathRD
  dsimp only
  rw [a1, b1, c1, d1]
  exact ⟨rfl, d2⟩
theorem door_agree (hL : EndsE L) (h : s.at_ < L.length) : doorRD (L ++ M) s = doorRD L s ∧ (doorRD L s).1.at_ < L.length := by
  obtain ⟨a1, a2⟩ := path_agree (M := M) hL h
  obtain ⟨b1, b2⟩ := times_agree (M := M) (k := kOpen) hL a2
  unfold doorRD
  dsimp only
  rw [a1, b1]
  exact ⟨rfl, b2⟩
theorem trip_agree (hL : EndsE L) (h : s.at_ < L.length) : tripRD (L ++ M) s = tripRD L s ∧ (tripRD L s).1.at_ < L.length := by
  obtain ⟨a1, a2⟩ := name_agree (M := M) hL h
  obtain ⟨b1, b2⟩ := key_agree (M := M) (k := kOf) hL a2
  obtain ⟨c1, c2⟩ := name_agree (M := M) hL b2
  obtain ⟨d1, d2⟩ := after_agree (M := M) (k := kFrom) hL c2
  obtain ⟨e1, e2⟩ := after_agree (M := M) (k := kEvery) hL d2
  obtain ⟨f1, f2⟩ := after_agree (M := M) (k := kUntil) hL e2
  unfold tripRD
  dsimp only
  rw [a1, b1, c1, d1, e1, f1]
  exact ⟨rfl, f2⟩
theorem haz_agree (hL : EndsE L) (h : s.at_ < L.length) : hazRD (L ++ M) s = hazRD L s ∧ (hazRD L s).1.at_ < L.length := by
  obtain ⟨a1, a2⟩ := name_agree (M := M) hL h
  obtain ⟨b1, b2⟩ := key_agree (M := M) (k := kOn) hL a2
  obtain ⟨c1, c2⟩ := name_agree (M := M) hL b2
  obtain ⟨d1, d2⟩ := times_agree (M := M) (k := kClosed) hL c2
  unfold hazRD
  dsimp only
  rw [a1, b1, c1, d1]
  exact ⟨rfl, d2⟩
theorem mid_agree {n : Nat} (h : s.at_ < L.length) : midR (L ++ M) s n = midR L s n ∧ (midR L s n).at_ < L.length := by
  refine ⟨?_, by rw [midR_at]; exact h⟩
  unfold midR
  rw [now_agree h]
theorem stay_agree (hL : EndsE L) (h : s.at_ < L.length) : stayR (L ++ M) s = stayR L s ∧ (stayR L s).1.at_ < L.length := by
  obtain ⟨a1, a2⟩ := after_agree (M := M) (k := kStay) hL h
  unfold stayR isD
  rw [now_agree h, a1]
  refine ⟨rfl, ?_⟩
  split
  · exact a2
  · exact h
theorem run_agree (hL : EndsE L) : ∀ (n : Nat) (s : Rd) (ss : Nms) (rs ys : List Int), s.at_ < L.length → routeRun (L ++ M) n s ss rs ys = routeRun L n s ss rs ys ∧ (routeRun L n s ss rs ys).1.at_ < L.length := by
  intro n
  induction n with
  | zero => intro s ss rs ys h; exact ⟨rfl, h⟩
  | succ n ih =>
    intro s ss rs ys h
    obtain ⟨a1, a2⟩ := num_agree (M := M) hL h
    obtain ⟨b1, b2⟩ := mid_agree (M := M) (n := ss.length) a2
    obtain ⟨c1, c2⟩ := name_agree (M := M) hL b2
    obtain ⟨d1, d2⟩ := stay_agree (M := M) hL c2
    unfold routeRun
    dsimp only
    rw [a1, b1, c1, now_agree c2, d1]
    split
    · exact ⟨rfl, h⟩
    · split
      · exact ⟨rfl, c2⟩
      · exact ih _ _ _ _ d2
end
theorem run_fuel {L : List TokD} : ∀ (n : Nat) (s : Rd) (ss : Nms) (rs ys : List Int), (s.e = 0 → L.length - s.at_ < n) → routeRun L (n + 1) s ss rs ys = routeRun L n s ss rs ys := by
  intro n
  induction n with
  | zero =>
    intro s ss rs ys h
    have he : s.e ≠ 0 := fun he => absurd (h he) (Nat.not_lt_zero _)
    rw [routeRun_bad he, routeRun_bad he]
  | succ n ih =>
    intro s ss rs ys h
    by_cases he : s.e = 0
    · by_cases hm : (nameD L (midR L (numD L s).1 ss.length)).1.e ≠ 0 ∨ (nowD L (nameD L (midR L (numD L s).1 ss.length)).1).kind = 4
      · rw [routeRun_ret he hm, routeRun_ret he hm]
      · rw [routeRun_go he hm, routeRun_go he hm]
        refine ih _ _ _ _ fun hst => ?_
        have hm1 : (nameD L (midR L (numD L s).1 ss.length)).1.e = 0 := Decidable.byContradiction fun h => hm (.inl h)
        have hat := round_at hst hm1
        have h1 := (take_kind (kind := 1) (k := []) hm1).1
        rw [midR_ok h1] at h1
        have h3 := (take_kind (kind := 3) (k := []) h1).2.2.1
        have hnow : s.at_ < L.length := by
          refine Decidable.byContradiction fun hh => ?_
          rw [now_out (by omega)] at h3
          cases h3
        have := h he
        omega
    · rw [routeRun_bad he, routeRun_bad he]
theorem run_fuel_add {L : List TokD} {n : Nat} {s : Rd} {ss : Nms} {rs ys : List Int} (h : s.e = 0 → L.length - s.at_ < n) : ∀ k, routeRun L (n + k) s ss rs ys = routeRun L n s ss rs ys := by
  intro k
  induction k with
  | zero => rfl
  | succ k ih => rw [← Nat.add_assoc, run_fuel _ _ _ _ _ (fun he => by have := h he; omega), ih]
section
variable {L M : List TokD} {s : Rd}
theorem route_agree (hL : EndsE L) (h : s.at_ < L.length) : routeRD (L ++ M) s = routeRD L s ∧ (routeRD L s).1.at_ < L.length := by
  obtain ⟨a1, a2⟩ := name_agree (M := M) hL h
  obtain ⟨b1, b2⟩ := name_agree (M := M) hL a2
  have c := run_agree (M := M) hL (L.length + 1 + M.length) (nameD L (nameD L s).1).1 [(nameD L (nameD L s).1).2] [] [] b2
  rw [run_fuel_add (L := L) (n := L.length + 1) (fun _ => by omega)] at c
  have hlen : (L ++ M).length + 1 = L.length + 1 + M.length := by rw [List.length_append]; omega
  unfold routeRD
  dsimp only
  rw [a1, b1, hlen, c.1]
  exact ⟨rfl, c.2⟩
theorem thing_agree {d : SheetD} {k : List UInt8} (hL : EndsE L) (h : s.at_ < L.length) : thingD (L ++ M) s d k = thingD L s d k ∧ (thingD L s d k).1.at_ < L.length := by
  unfold thingD
  rw [(name_agree (M := M) hL h).1, (path_agree (M := M) hL h).1, (door_agree (M := M) hL h).1, (route_agree (M := M) hL h).1, (trip_agree (M := M) hL h).1, (haz_agree (M := M) hL h).1]
  refine ⟨rfl, ?_⟩
  split
  · exact (name_agree (M := M) hL h).2
  · split
    · exact (path_agree (M := M) hL h).2
    · split
      · exact (door_agree (M := M) hL h).2
      · split
        · exact (route_agree (M := M) hL h).2
        · split
          · exact (trip_agree (M := M) hL h).2
          · exact (haz_agree (M := M) hL h).2
theorem take_le {kind : Int} {k : List UInt8} (h : s.at_ < L.length) : (takeD L s kind k).1.at_ ≤ L.length := by
  unfold takeD
  split
  · exact Nat.le_of_lt h
  · split
    · rw [failD_at]; exact Nat.le_of_lt h
    · exact h
theorem line_agree {d : SheetD} (hL : EndsE L) (h : s.at_ < L.length) : lineD (L ++ M) s d = lineD L s d ∧ (lineD L s d).1.at_ ≤ L.length := by
  unfold lineD
  rw [now_agree h]
  split
  · rename_i hk
    have h1 : s.at_ + 1 < L.length := by
      refine Decidable.byContradiction fun hc => ?_
      have h5 := hL (nowD L s) (by
        rw [List.getLast?_eq_getElem?, show L.length - 1 = s.at_ by omega]
        exact now_in h)
      rw [hk.1] at h5
      cases h5
    obtain ⟨a1, a2⟩ := thing_agree (M := M) (s := ⟨s.at_ + 1, s.e, s.ln, s.cl⟩) (d := d) (k := (nowD L s).text) hL h1
    rw [a1, take_agree a2]
    split
    · exact ⟨rfl, by rw [failD_at]; exact Nat.le_of_lt h⟩
    · exact ⟨rfl, take_le a2⟩
  · exact ⟨rfl, by rw [failD_at]; exact Nat.le_of_lt h⟩
theorem thing_pre (d : SheetD) (k : List UInt8) : PreD d (thingD L s d k).2 := by
  unfold thingD
  split
  · exact PreD.put d (.stop _)
  · split
    · exact PreD.put d (.path _)
    · split
      · exact PreD.put d (.door _)
      · split
        · exact PreD.put d (.route _)
        · split
          · exact PreD.put d (.trip _)
          · exact PreD.put d (.haz _)
theorem line_pre (d : SheetD) : PreD d (lineD L s d).2 := by
  unfold lineD
  split
  · split
    · exact PreD.refl d
    · exact thing_pre d _
  · exact PreD.refl d
end
theorem parse_pre {L : List TokD} : ∀ (n : Nat) (s : Rd) (d : SheetD), PreD d (parseRun L n s d).2 := by
  intro n
  induction n with
  | zero => intro s d; exact PreD.refl d
  | succ n ih =>
    intro s d
    unfold parseRun
    split
    · exact (line_pre d).trans (ih _ _)
    · exact PreD.refl d
theorem parse_agree {L M : List TokD} (hL : EndsE L) : ∀ (n : Nat) (s : Rd) (d : SheetD), s.at_ ≤ L.length → (parseRun (L ++ M) n s d).1.e = 0 → (parseRun L n s d).1.e = 0 ∧ PreD (parseRun L n s d).2 (parseRun (L ++ M) n s d).2 := by
  intro n
  induction n with
  | zero => intro s d _ h; exact ⟨h, PreD.refl d⟩
  | succ n ih =>
    intro s d hs h
    by_cases he : s.e = 0
    · by_cases hlt : s.at_ < L.length
      · rw [parseRun_go (L := L ++ M) he (by rw [List.length_append]; omega)] at h ⊢
        rw [parseRun_go he hlt]
        obtain ⟨a1, a2⟩ := line_agree (M := M) (d := d) hL hlt
        rw [a1] at h ⊢
        exact ih _ _ a2 h
      · rw [parseRun_stop (L := L) (fun hh => hlt hh.2)]
        exact ⟨he, parse_pre (n + 1) s d⟩
    · rw [parseRun_bad he] at h
      exact absurd h he
theorem parse_fuel {L : List TokD} : ∀ (n : Nat) (s : Rd) (d : SheetD), (s.e = 0 → L.length - s.at_ < n) → parseRun L (n + 1) s d = parseRun L n s d := by
  intro n
  induction n with
  | zero =>
    intro s d h
    have he : s.e ≠ 0 := fun he => absurd (h he) (Nat.not_lt_zero _)
    rw [parseRun_bad he, parseRun_bad he]
  | succ n ih =>
    intro s d h
    by_cases hc : s.e = 0 ∧ s.at_ < L.length
    · rw [parseRun_go hc.1 hc.2, parseRun_go hc.1 hc.2]
      refine ih _ _ fun he => ?_
      have := lineD_at hc.1 he
      have := h hc.1
      omega
    · rw [parseRun_stop hc, parseRun_stop hc]
theorem parse_fuel_add {L : List TokD} {n : Nat} {s : Rd} {d : SheetD} (h : s.e = 0 → L.length - s.at_ < n) : ∀ k, parseRun L (n + k) s d = parseRun L n s d := by
  intro k
  induction k with
  | zero => rfl
  | succ k ih => rw [← Nat.add_assoc, parse_fuel _ _ _ (fun he => by have := h he; omega), ih]
/-- What is read of tokens. -/
def parseL (L : List TokD) : SheetD × FaultD :=
  let n := numD L (keyD L ⟨0, 0, 0, 0⟩ kHorizon)
  let r := parseRun L (L.length + 1) (takeD L n.1 4 []).1 { zeroD with hor := n.2 }
  if r.1.e ≠ 0 then (zeroD, ⟨r.1.e, r.1.ln, r.1.cl⟩) else (r.2, ⟨0, 0, 0⟩)
theorem parseS_ok {u : ByteArray} {L : List TokD} (h : allD u = (L, ⟨0, 0, 0⟩)) : parseS u = parseL L := by
  unfold parseS
  rw [h, if_neg (fun h => h rfl)]
  rfl
theorem parseS_bad {u : ByteArray} (h : (allD u).2.err ≠ 0) : parseS u = (zeroD, (allD u).2) := by
  unfold parseS
  rw [if_pos h]
theorem allD_zero {u : ByteArray} (h : (allD u).2.err = 0) : (allD u).2 = ⟨0, 0, 0⟩ := by
  unfold allD at h ⊢
  split
  · rename_i h1; rw [if_pos h1] at h; cases h
  · rename_i h1
    rw [if_neg h1] at h
    split
    · rename_i h2; rw [if_pos h2] at h; exact absurd h h2
    · rfl
theorem parse_all {u : ByteArray} (h : (parseS u).2.err = 0) : (allD u).2.err = 0 := by
  refine Decidable.byContradiction fun hh => ?_
  rw [parseS_bad hh] at h
  exact hh h
/-- What is read of a text that is read, cut behind a line. -/
theorem cut_read {s pre post : ByteArray} (hu : Joined pre post s) (hs : s.size ≤ 65536) (hx : (parseS s).2.err = 0) : parseS pre = (zeroD, ⟨7, 1, 1⟩) ∨ ((parseS pre).2 = ⟨0, 0, 0⟩ ∧ PreD (parseS pre).1 (parseS s).1) := by
  have hz := hu.size
  obtain ⟨j1, j2, j3⟩ := joins hu hs
  have he := parse_all hx
  have he1 : (allD pre).2.err = 0 := Decidable.byContradiction fun h => by rw [j1 h] at he; exact h he
  have he2 : (allD post).2.err = 0 := Decidable.byContradiction fun h => by rw [j2 he1 h] at he; exact h he
  have hall := j3 he1 he2
  obtain ⟨_, hp⟩ := places pre (by omega)
  obtain ⟨_, hL⟩ := hp he1
  have hE := allD_zero he1
  obtain ⟨L, hLL⟩ : ∃ L, (allD pre).1 = L := ⟨_, rfl⟩
  obtain ⟨M, hM⟩ : ∃ M, (allD post).1.map (mvT (linesOf pre)) = M := ⟨_, rfl⟩
  rw [hLL, hM] at hall
  rw [hLL] at hL
  have hpre : allD pre = (L, ⟨0, 0, 0⟩) := Prod.ext hLL hE
  cases hLn : L with
  | nil =>
    left
    rw [parseS_ok hpre, hLn]
    rfl
  | cons t0 L0 =>
    right
    have h0 : 0 < L.length := by rw [hLn]; exact Nat.succ_pos _
    clear hLn
    rw [parseS_ok hall] at hx
    rw [parseS_ok hpre, parseS_ok hall]
    obtain ⟨a1, a2⟩ := key_agree (M := M) (s := ⟨0, 0, 0, 0⟩) (k := kHorizon) hL h0
    obtain ⟨b1, b2⟩ := num_agree (M := M) hL a2
    have hle := take_le (kind := 4) (k := []) b2
    have t1 := take_agree (M := M) (kind := 4) (k := []) b2
    unfold parseL at hx ⊢
    dsimp only at hx ⊢
    rw [a1, b1, t1] at hx ⊢
    generalize numD L (keyD L ⟨0, 0, 0, 0⟩ kHorizon) = nr at hx hle ⊢
    generalize (takeD L nr.1 4 []).1 = st at hx hle ⊢
    generalize ({ hor := nr.2, stops := zeroD.stops, paths := zeroD.paths, doors := zeroD.doors, routes := zeroD.routes, trips := zeroD.trips, hazs := zeroD.hazs } : SheetD) = d0 at hx ⊢
    have hfu := parse_fuel_add (L := L) (n := L.length + 1) (s := st) (d := d0) (fun _ => by omega) M.length
    have hag := fun h => parse_agree (M := M) hL (L.length + 1 + M.length) st d0 hle h
    rw [hfu] at hag
    rw [show (L ++ M).length + 1 = L.length + 1 + M.length by rw [List.length_append]; omega] at hx ⊢
    generalize parseRun (L ++ M) (L.length + 1 + M.length) st d0 = q at hx hag ⊢
    generalize parseRun L (L.length + 1) st d0 = q0 at hag ⊢
    have hg : q.1.e = 0 := by
      refine Decidable.byContradiction fun h => ?_
      rw [if_pos h] at hx
      exact h hx
    obtain ⟨c1, c2⟩ := hag hg
    simp only [hg, c1, ne_eq, not_true_eq_false, if_false]
    exact ⟨trivial, c2⟩
/-- Where a fault stands. -/
def GoodF (s : Rd) : Prop := s.e ≠ 0 → 1 ≤ s.ln ∧ 1 ≤ s.cl
def GoodP (L : List TokD) : Prop := ∀ t ∈ L, 1 ≤ t.line ∧ 1 ≤ t.col
section
variable {L : List TokD} {s : Rd}
theorem now_at (g : GoodP L) (s : Rd) : 1 ≤ (nowD L s).line ∧ 1 ≤ (nowD L s).col := by
  unfold nowD
  rw [List.getD_eq_getElem?_getD]
  cases hh : L[s.at_]? with
  | none => exact ⟨Int.le_refl _, Int.le_refl _⟩
  | some t => exact g t (List.mem_of_getElem? hh)
theorem fail_f {er : Int} (g : GoodP L) (h : GoodF s) : GoodF (failD s er (nowD L s)) := by
  unfold failD
  split
  · exact fun _ => now_at g s
  · exact h
theorem take_f {kind : Int} {k : List UInt8} (g : GoodP L) (h : GoodF s) : GoodF (takeD L s kind k).1 := by
  unfold takeD
  split
  · exact h
  · split
    · exact fail_f g h
    · exact h
theorem name_f (g : GoodP L) (h : GoodF s) : GoodF (nameD L s).1 := take_f g h
theorem num_f (g : GoodP L) (h : GoodF s) : GoodF (numD L s).1 := take_f g h
theorem key_f {k : List UInt8} (g : GoodP L) (h : GoodF s) : GoodF (keyD L s k) := take_f g h
theorem after_f {k : List UInt8} (g : GoodP L) (h : GoodF s) : GoodF (afterD L s k).1 := num_f g (key_f g h)
theorem times_f {k : List UInt8} (g : GoodP L) (h : GoodF s) : GoodF (timesRD L s k).1 := after_f g (after_f g (after_f g h))
theorem mid_f {n : Nat} (g : GoodP L) (h : GoodF s) : GoodF (midR L s n) := by
  unfold midR
  split
  · exact fail_f g h
  · exact h
theorem stay_f (g : GoodP L) (h : GoodF s) : GoodF (stayR L s).1 := by
  unfold stayR
  split
  · exact after_f g h
  · exact h
theorem run_f (g : GoodP L) : ∀ (n : Nat) (s : Rd) (ss : Nms) (rs ys : List Int), GoodF s → GoodF (routeRun L n s ss rs ys).1 := by
  intro n
  induction n with
  | zero => intro s ss rs ys h; exact h
  | succ n ih =>
    intro s ss rs ys h
    unfold routeRun
    dsimp only
    split
    · exact h
    · split
      · exact name_f g (mid_f g (num_f g h))
      · exact ih _ _ _ _ (stay_f g (name_f g (mid_f g (num_f g h))))
theorem path_f (g : GoodP L) (h : GoodF s) : GoodF (pathRD L s).1 := num_f g (name_f g (name_f g (name_f g h)))
theorem thing_f {d : SheetD} {k : List UInt8} (g : GoodP L) (h : GoodF s) : GoodF (thingD L s d k).1 := by
  unfold thingD
  split
  · exact name_f g h
  · split
    · exact path_f g h
    · split
      · exact times_f g (path_f g h)
      · split
        · exact run_f g _ _ _ _ _ (name_f g (name_f g h))
        · split
          · exact after_f g (after_f g (after_f g (name_f g (key_f g (name_f g h)))))
          · exact times_f g (name_f g (key_f g (name_f g h)))
theorem line_f {d : SheetD} (g : GoodP L) (h : GoodF s) : GoodF (lineD L s d).1 := by
  unfold lineD
  split
  · split
    · exact fail_f g h
    · exact take_f g (thing_f g h)
  · exact fail_f g h
end
theorem parse_f {L : List TokD} (g : GoodP L) : ∀ (n : Nat) (s : Rd) (d : SheetD), GoodF s → GoodF (parseRun L n s d).1 := by
  intro n
  induction n with
  | zero => intro s d h; exact h
  | succ n ih =>
    intro s d h
    unfold parseRun
    split
    · exact ih _ _ (line_f g h)
    · exact h
theorem parse_fault (s : ByteArray) (hs : s.size ≤ 65536) (h : (parseS s).2.err ≠ 0) : (parseS s).1 = zeroD ∧ 1 ≤ (parseS s).2.line ∧ 1 ≤ (parseS s).2.col := by
  obtain ⟨p1, p2⟩ := places s hs
  by_cases he : (allD s).2.err ≠ 0
  · obtain ⟨_, q2, q3⟩ := p1 he
    rw [parseS_bad he]
    exact ⟨rfl, q2, q3⟩
  · have he0 : (allD s).2.err = 0 := by simpa using he
    obtain ⟨q1, _⟩ := p2 he0
    have g : GoodP (allD s).1 := fun t ht => by
      obtain ⟨i, hi⟩ := List.mem_iff_getElem?.1 ht
      obtain ⟨⟨ln, cl, og, e1, e2, _⟩, _⟩ := q1 i t hi
      omega
    have hE : allD s = ((allD s).1, ⟨0, 0, 0⟩) := Prod.ext rfl (allD_zero he0)
    generalize (allD s).1 = L at hE g
    rw [parseS_ok hE] at h ⊢
    have hf := parse_f g (L.length + 1) (takeD L (numD L (keyD L ⟨0, 0, 0, 0⟩ kHorizon)).1 4 []).1 { zeroD with hor := (numD L (keyD L ⟨0, 0, 0, 0⟩ kHorizon)).2 }
      (take_f g (num_f g (key_f g (fun h => absurd rfl h))))
    unfold parseL at h ⊢
    dsimp only at h ⊢
    split
    · rename_i hg; exact ⟨rfl, hf hg⟩
    · rename_i hg
      rw [if_neg hg] at h
      exact absurd rfl h
end Go.Proofs.YteonefgbdphmiaaGreatDoor
/- Sheets whose things are some of another sheet's; a horizon told twice (plain words). -/
namespace Go.Proofs.YteonefgbdphmiaaGreatDoor
open Go.RowKit
/-- Some of a sheet's things, in their order. -/
structure SubD (y x : SheetD) : Prop where
  h : y.hor = x.hor
  s : y.stops.Sublist x.stops
  p : y.paths.Sublist x.paths
  d : y.doors.Sublist x.doors
  r : y.routes.Sublist x.routes
  t : y.trips.Sublist x.trips
  z : y.hazs.Sublist x.hazs
theorem sub_items {x : SheetD} {l : List ItemD} (hl : l.Sublist (itemsD x)) : ∃ y : SheetD, SubD y x ∧ itemsD y = l := by
  unfold itemsD at hl
  obtain ⟨l5, m6, r6, h5, h6⟩ := List.sublist_append_iff.1 hl
  obtain ⟨l4, m5, r5, h4, k5⟩ := List.sublist_append_iff.1 h5
  obtain ⟨l3, m4, r4, h3, k4⟩ := List.sublist_append_iff.1 h4
  obtain ⟨l2, m3, r3, h2, k3⟩ := List.sublist_append_iff.1 h3
  obtain ⟨m1, m2, r2, k1, k2⟩ := List.sublist_append_iff.1 h2
  obtain ⟨a1, e1, q1⟩ := List.sublist_map_iff.1 k1
  obtain ⟨a2, e2, q2⟩ := List.sublist_map_iff.1 k2
  obtain ⟨a3, e3, q3⟩ := List.sublist_map_iff.1 k3
  obtain ⟨a4, e4, q4⟩ := List.sublist_map_iff.1 k4
  obtain ⟨a5, e5, q5⟩ := List.sublist_map_iff.1 k5
  obtain ⟨a6, e6, q6⟩ := List.sublist_map_iff.1 h6
  refine ⟨⟨x.hor, a1, a2, a3, a4, a5, a6⟩, ⟨rfl, e1, e2, e3, e4, e5, e6⟩, ?_⟩
  rw [r6, r5, r4, r3, r2, q1, q2, q3, q4, q5, q6]
  rfl
theorem SubD.check {y x : SheetD} (h : SubD y x) (hc : checkD x = 0) : checkD y = 0 := by
  obtain ⟨c1, c2, c3, c4⟩ := check_ok hc
  have hl := long_parts c1
  have hlong : longD y = false := long_of (by
    have h1 := h.s.length_le
    have h2 := h.p.length_le
    have h3 := h.d.length_le
    have h4 := h.r.length_le
    have h5 := h.t.length_le
    have h6 := h.z.length_le
    omega)
  have hn : ∀ s ∈ namesD y, Nm.name s = true := by
    intro s hs
    unfold namesD at hs
    simp only [List.mem_append, List.mem_flatMap] at hs
    rcases hs with ((((hs | ⟨p, hp, hs⟩) | ⟨p, hp, hs⟩) | ⟨p, hp, hs⟩) | ⟨p, hp, hs⟩) | ⟨p, hp, hs⟩
    · exact c2 s (in_names (.inl (h.s.subset hs)))
    · exact c2 s (in_names (.inr (.inl ⟨p, h.p.subset hp, hs⟩)))
    · exact c2 s (in_names (.inr (.inr (.inl ⟨p, h.d.subset hp, hs⟩))))
    · exact c2 s (in_names (.inr (.inr (.inr (.inl ⟨p, h.r.subset hp, List.mem_append.2 hs⟩)))))
    · exact c2 s (in_names (.inr (.inr (.inr (.inr (.inl ⟨p, h.t.subset hp, hs⟩))))))
    · exact c2 s (in_names (.inr (.inr (.inr (.inr (.inr ⟨p, h.z.subset hp, hs⟩))))))
  have hi : ∀ n ∈ numsD y, okN n = true := by
    intro n hs
    unfold numsD at hs
    simp only [List.mem_append, List.mem_flatMap, List.mem_singleton] at hs
    rcases hs with ((((hs | ⟨p, hp, hs⟩) | ⟨p, hp, hs⟩) | ⟨p, hp, hs⟩) | ⟨p, hp, hs⟩) | ⟨p, hp, hs⟩
    · exact c3 n (in_nums (.inl (hs.trans h.h)))
    · exact c3 n (in_nums (.inr (.inl ⟨p, h.p.subset hp, List.mem_singleton.2 hs⟩)))
    · exact c3 n (in_nums (.inr (.inr (.inl ⟨p, h.d.subset hp, List.mem_append.2 (hs.imp List.mem_singleton.2 id)⟩))))
    · exact c3 n (in_nums (.inr (.inr (.inr (.inl ⟨p, h.r.subset hp, List.mem_append.2 hs⟩)))))
    · exact c3 n (in_nums (.inr (.inr (.inr (.inr (.inl ⟨p, h.t.subset hp, hs⟩))))))
    · exact c3 n (in_nums (.inr (.inr (.inr (.inr (.inr ⟨p, h.z.subset hp, hs⟩))))))
  unfold checkD
  rw [if_neg (by rw [hlong]; decide), if_neg, if_neg, if_neg]
  · intro hh
    obtain ⟨r, hr, hr2⟩ := List.any_eq_true.1 hh
    rw [c4 r (h.r.subset hr)] at hr2
    cases hr2
  · intro hh
    obtain ⟨r, hr, hr2⟩ := List.any_eq_true.1 hh
    rw [hi r hr] at hr2
    cases hr2
  · intro hh
    obtain ⟨r, hr, hr2⟩ := List.any_eq_true.1 hh
    rw [hn r hr] at hr2
    cases hr2
/-- What the machine has put stays. -/
theorem step_outs (st : St) (c : Cur) : ∃ l, (stepSt st c).2.out = c.out ++ l := by
  cases st with
  | none => exact pre_nil _
  | any => show ∃ l, (stepAny c).2.out = _; unfold stepAny; repeat' split <;> try exact pre_nil _
  | end_ =>
    show ∃ l, (stepEnd c).2.out = _
    unfold stepEnd Cur.close
    split
    · show ∃ l, (if c.some = true then _ else c).out = _
      split
      · exact ⟨_, rfl⟩
      · exact pre_nil _
    · show ∃ l, (if c.some = true then _ else c).out = _
      split
      · exact ⟨_, rfl⟩
      · exact pre_nil _
  | remark => exact pre_nil _
  | word =>
    show ∃ l, (stepWord c).2.out = _
    unfold stepWord
    dsimp only
    split
    · exact pre_nil _
    · exact ⟨_, rfl⟩
  | number =>
    show ∃ l, (stepNumber c).2.out = _
    unfold stepNumber
    dsimp only
    split
    · exact pre_nil _
    · split
      · exact pre_nil _
      · split
        · exact pre_nil _
        · exact ⟨_, rfl⟩
theorem runs_outs : ∀ (n : Nat) (st : St) (c : Cur), ∃ l, (runs n st c).2.out = c.out ++ l := by
  intro n
  induction n with
  | zero => intro st c; exact pre_nil _
  | succ n ih =>
    intro st c
    unfold runs
    split
    · exact pre_nil _
    · exact pre_trans (step_outs st c) (ih _ _)
/-- A text that begins with a letter: its first token. -/
theorem first_tok {u : ByteArray} {b : UInt8} {r : List UInt8} (hs : u.size ≤ 65536) (hu : u.data.toList = b :: r) (hb : Nm.cls b = 1) (he : (allD u).2.err = 0) : ∃ t l, (allD u).1 = t :: l ∧ t.line = 1 ∧ t.col = 1 := by
  have hi := start_inv u hs
  have hrest : (Cur.start u).rest = b :: r := hu
  obtain ⟨r1, r2, r3⟩ := rest_cons hrest
  have hst : stepSt .any (Cur.start u) = (.word, Cur.start u) := by
    show stepAny _ = _
    unfold stepAny
    rw [r2, if_neg (by rintro (h | rfl); · omega
                       · exact absurd hb (by decide)), if_neg (by rintro rfl; exact absurd hb (by decide)), if_neg (by rintro (rfl | rfl) <;> exact absurd hb (by decide)), if_pos hb]
  have h1 : lexed u = final .any (Cur.start u) := rfl
  rw [final_step hi St.noConfusion, hst] at h1
  have h7 := (step_inv hi St.noConfusion).1
  rw [hst] at h7
  have h8 := h7.resolve_left St.noConfusion
  rw [final_step h8 St.noConfusion] at h1
  have hE : (lexed u).err = 0 := by
    unfold allD at he
    rw [if_neg (by omega)] at he
    refine Decidable.byContradiction fun h => ?_
    rw [if_pos h] at he
    exact h he
  have hout : (allD u).1 = (lexed u).out := by
    unfold allD
    rw [if_neg (by omega), if_neg (by rw [hE]; decide)]
  by_cases hn : 24 < Nm.pre Nm.more (Cur.start u).rest
  · have hst2 : stepSt .word (Cur.start u) = (.none, (Cur.start u).fail 3 (Cur.start u).pos) := by
      show stepWord _ = _
      unfold stepWord
      dsimp only
      rw [if_pos hn]
    rw [hst2, final_none] at h1
    rw [h1] at hE
    exact absurd hE (by show (3 : Int) ≠ 0; decide)
  · have hst2 : ∃ k x m, stepSt .word (Cur.start u) = (.any, (Cur.start u).put k x 0 m) := by
      refine ⟨if Nm.res ((Cur.start u).rest.take (Nm.pre Nm.more (Cur.start u).rest)) = true then 2 else 1, (Cur.start u).rest.take (Nm.pre Nm.more (Cur.start u).rest), Nm.pre Nm.more (Cur.start u).rest, ?_⟩
      show stepWord _ = _
      unfold stepWord
      dsimp only
      rw [if_neg hn]
    obtain ⟨k, x, m, hst2⟩ := hst2
    rw [hst2] at h1
    obtain ⟨l, hl⟩ := runs_outs (mu .any ((Cur.start u).put k x 0 m)) .any ((Cur.start u).put k x 0 m)
    refine ⟨⟨k, x, 0, 1, 1⟩, l, ?_, rfl, rfl⟩
    rw [hout, h1]
    exact hl
theorem lines_one {a : ByteArray} (h : ∀ b ∈ a.data.toList, b ≠ 10) : linesOf a = 1 := by
  unfold linesOf
  have h1 := startsTo_skip a.data.toList 0 a.data.toList.length (fun j _ hj => by
    rw [Nat.zero_add] at hj
    rw [List.getD_eq_getElem?_getD, List.getElem?_eq_getElem hj]
    exact h _ (List.getElem_mem hj))
  rw [Nat.zero_add] at h1
  rw [h1]
  rfl
theorem more_ten {b : UInt8} (h : Nm.more b = true) : b ≠ 10 := by rintro rfl; exact absurd h (by decide)
theorem lay_ten : ∀ (ws : List Wd) (ks : List KK), Lay ws ks → ∀ b ∈ ws.flatMap (fun y => 32 :: y.t), b ≠ 10 := by
  intro ws
  induction ws with
  | nil => intro ks _ b hb; cases hb
  | cons w ws ih =>
    intro ks hl b hb
    cases ks with
    | nil => exact hl.elim
    | cons k ks =>
      obtain ⟨⟨t, _, htx, hg, h4⟩, hl2⟩ := hl
      rw [List.flatMap_cons, List.cons_append, List.mem_cons, List.mem_append] at hb
      rcases hb with rfl | hb | hb
      · decide
      · rw [← htx] at hb
        rcases hg with hg | ⟨_, _, _, h5, _⟩ | ⟨_, _, _, h5, _⟩
        · exact absurd hg.1 h4
        · exact more_ten (List.all_eq_true.1 h5 b hb)
        · have := List.all_eq_true.1 h5 b hb
          rintro rfl
          exact absurd this (by decide)
      · exact ih ks hl2 b hb
theorem good_ten {p : LP} (h : p.Good) : ∀ b ∈ line p.1, b ≠ 10 := by
  obtain ⟨ws, ks⟩ := p
  obtain ⟨h0, hl⟩ := h
  have h1 := lay_ten ws ks hl
  cases ws with
  | nil => exact absurd rfl h0
  | cons w ws =>
    intro b hb
    refine h1 b ?_
    rw [List.flatMap_cons]
    exact List.mem_cons_of_mem _ hb
/-- A horizon told twice: the second one is the fault. -/
theorem twice_fault {h : Int} (hh : okN h = true) (a u : ByteArray) (ha : a.data.toList = line (horP h).1) (hu : u.data.toList = line (horP h).1 ++ 10 :: line (horP h).1) (hs : u.size ≤ 65536) : parseS u = (zeroD, ⟨7, 2, 1⟩) := by
  have hg : (horP h).Good := ⟨by simp [horP], kHorizon_g, vk_good hh, trivial⟩
  have hj : Joined a a u := by unfold Joined; rw [hu, ha]
  have hz := hj.size
  obtain ⟨hk, he⟩ := lex_join a (horP h) [] (by rw [ha, List.map_cons, List.map_nil]; show _ = _ ++ []; rw [List.append_nil]) (by omega) hg (fun q hq => by cases hq)
  have he0 : (allD a).2.err = 0 := by rw [he]
  have hall := (joins hj hs).2.2 he0 he0
  obtain ⟨b, r, hbr, hcl⟩ : ∃ b r, a.data.toList = b :: r ∧ Nm.cls b = 1 := ⟨104, [111, 114, 105, 122, 111, 110] ++ 32 :: (Lib.itoa h ++ []), by rw [ha]; rfl, by decide⟩
  obtain ⟨t, l, e1, e2, e3⟩ := first_tok (by omega) hbr hcl he0
  have hl1 : linesOf a = 1 := lines_one (by rw [ha]; exact good_ten hg)
  rw [hl1] at hall
  have hk : (allD a).1.map key = [kk kHorizon, vk h, endK] := hk
  have hlen : (allD a).1.length = 3 := by rw [← List.length_map (f := key), hk]; rfl
  have hmv : ((allD a).1.map (mvT 1)).map key = (allD a).1.map key := by rw [List.map_map]; rfl
  obtain ⟨L, hL⟩ : ∃ L, (allD a).1 ++ (allD a).1.map (mvT 1) = L := ⟨_, rfl⟩
  rw [hL] at hall
  rw [parseS_ok hall]
  unfold parseL
  have h0 : See L 0 ([kk kHorizon, vk h, endK] ++ [kk kHorizon, vk h, endK]) := by
    unfold See
    rw [List.drop_zero, ← hL, List.map_append, hmv, hk]
  have h0 : See L 0 (kk kHorizon :: vk h :: endK :: kk kHorizon :: vk h :: endK :: []) := h0
  have h3 := h0.next.next.next
  have hnow : nowD L (rd 3) = mvT 1 t := by
    unfold nowD
    rw [List.getD_eq_getElem?_getD, ← hL, show (rd 3).at_ = 3 from rfl, List.getElem?_append_right (by omega), hlen, e1]
    rfl
  have hkk := h3.at_.2
  have hlt := h3.at_.1
  rw [show (⟨0, 0, 0, 0⟩ : Rd) = rd 0 from rfl, see_key h0, see_num h0.next]
  dsimp only
  rw [see_end h0.next.next]
  rw [parseRun_go rfl hlt]
  have hln : lineD L (rd (0 + 1 + 1 + 1)) { zeroD with hor := h } = (⟨3, 7, 2, 1⟩, { zeroD with hor := h }) := by
    unfold lineD
    have k2 : (nowD L (rd (0 + 1 + 1 + 1))).text = kHorizon := congrArg (fun q => q.2.1) hkk
    rw [if_neg (fun hc => by rw [k2] at hc; exact absurd hc.2 (by decide))]
    unfold failD
    rw [if_pos (show (rd (0 + 1 + 1 + 1)).e = 0 from rfl), show rd (0 + 1 + 1 + 1) = rd 3 from rfl, hnow]
    show ((⟨3, 7, t.line + 1, t.col⟩ : Rd), _) = _
    rw [e2, e3]
    rfl
  rw [hln, parseRun_bad (show (7 : Int) ≠ 0 by decide)]
  rfl
end Go.Proofs.YteonefgbdphmiaaGreatDoor
