/- A sheet that is read may be: plain words. -/
import Derived.Test.YteonefgbdphmiaaGreatDoorQk
import Derived.Test.YteonefgbdphmiaaGreatDoorQs
namespace Go.Proofs.YteonefgbdphmiaaGreatDoor
open Go.RowKit
/-- What a sheet is whose names and numbers may be. -/
structure FineD (d : SheetD) : Prop where
  hor : okN d.hor = true
  stops : ∀ s ∈ d.stops, Nm.name s = true
  paths : ∀ p ∈ d.paths, Nm.name p.name = true ∧ Nm.name p.a = true ∧ Nm.name p.b = true ∧ okN p.len = true
  doors : ∀ p ∈ d.doors, (Nm.name p.name = true ∧ Nm.name p.a = true ∧ Nm.name p.b = true ∧ okN p.len = true) ∧ ∀ n ∈ timesN p.times, okN n = true
  routes : ∀ r ∈ d.routes, Nm.name r.name = true ∧ (∀ s ∈ r.stops, Nm.name s = true) ∧ (∀ n ∈ r.rides, okN n = true) ∧ (∀ n ∈ r.stays, okN n = true) ∧ okR r = true
  trips : ∀ t ∈ d.trips, Nm.name t.name = true ∧ Nm.name t.route = true ∧ okN t.start = true ∧ okN t.every = true ∧ okN t.stop = true
  hazs : ∀ h ∈ d.hazs, Nm.name h.name = true ∧ Nm.name h.on = true ∧ ∀ n ∈ timesN h.times, okN n = true
structure LimD (d : SheetD) : Prop where
  ms : d.stops.length ≤ 256
  mp : d.paths.length ≤ 1024
  md : d.doors.length ≤ 256
  mr : d.routes.length ≤ 256
  mt : d.trips.length ≤ 1024
  mh : d.hazs.length ≤ 256
theorem any_no {α : Type} {l : List α} {p : α → Bool} (h : ∀ a ∈ l, p a = true) : ¬ (l.any fun a => !p a) = true := by
  intro hh
  obtain ⟨a, ha, hp⟩ := List.any_eq_true.1 hh
  rw [h a ha] at hp
  cases hp
theorem check_of {d : SheetD} (h : FineD d) (l : LimD d) : checkD d = 0 := by
  unfold checkD
  have h1 : longD d = false := by
    unfold longD
    have := l.ms; have := l.mp; have := l.md; have := l.mr; have := l.mt; have := l.mh
    exact decide_eq_false (by omega)
  rw [if_neg (by rw [h1]; decide), if_neg (any_no ?_), if_neg (any_no ?_), if_neg (any_no ?_)]
  · exact fun r hr => (h.routes r hr).2.2.2.2
  · intro n hn
    unfold numsD at hn
    simp only [List.mem_append, List.mem_flatMap, List.mem_cons, List.not_mem_nil, or_false] at hn
    rcases hn with ((((hn | ⟨p, hp, hn⟩) | ⟨p, hp, hn⟩) | ⟨p, hp, hn⟩) | ⟨p, hp, hn⟩) | ⟨p, hp, hn⟩
    · rw [hn]; exact h.hor
    · rw [hn]; exact (h.paths p hp).2.2.2
    · rcases hn with hn | hn
      · rw [hn]; exact (h.doors p hp).1.2.2.2
      · exact (h.doors p hp).2 n hn
    · rcases hn with hn | hn
      · exact (h.routes p hp).2.2.1 n hn
      · exact (h.routes p hp).2.2.2.1 n hn
    · obtain ⟨_, _, a, b, c⟩ := h.trips p hp
      rcases hn with rfl | rfl | rfl <;> assumption
    · exact (h.hazs p hp).2.2 n hn
  · intro s hs
    unfold namesD at hs
    simp only [List.mem_append, List.mem_flatMap, List.mem_cons, List.not_mem_nil, or_false] at hs
    rcases hs with ((((hs | ⟨p, hp, hs⟩) | ⟨p, hp, hs⟩) | ⟨p, hp, hs⟩) | ⟨p, hp, hs⟩) | ⟨p, hp, hs⟩
    · exact h.stops s hs
    · obtain ⟨a, b, c, _⟩ := h.paths p hp
      rcases hs with rfl | rfl | rfl <;> assumption
    · obtain ⟨⟨a, b, c, _⟩, _⟩ := h.doors p hp
      rcases hs with rfl | rfl | rfl <;> assumption
    · rcases hs with rfl | hs
      · exact (h.routes p hp).1
      · exact (h.routes p hp).2.1 s hs
    · obtain ⟨a, b, _⟩ := h.trips p hp
      rcases hs with rfl | rfl <;> assumption
    · obtain ⟨a, b, _⟩ := h.hazs p hp
      rcases hs with rfl | rfl <;> assumption
/-- The tokens are the lexer's. -/
def GoodL (L : List TokD) : Prop := ∀ t ∈ L, GoodT t
variable {L : List TokD} {s : Rd}
theorem now_good (h : GoodL L) (s : Rd) : GoodT (nowD L s) := by
  unfold nowD
  rw [List.getD_eq_getElem?_getD]
  cases hh : L[s.at_]? with
  | none => exact .inl ⟨rfl, rfl, rfl⟩
  | some t => exact h t (List.mem_of_getElem? hh)
theorem take_got {kind : Int} {k : List UInt8} (h : (takeD L s kind k).1.e = 0) : s.e = 0 ∧ (takeD L s kind k).2 = nowD L s ∧ (nowD L s).kind = kind := by
  unfold takeD at h ⊢
  by_cases he : s.e ≠ 0
  · rw [if_pos he] at h; exact absurd h he
  · rw [if_neg he] at h ⊢
    have he0 : s.e = 0 := by simpa using he
    by_cases hm : mis (nowD L s) kind k = true
    · rw [if_pos hm] at h
      unfold failD at h
      rw [if_pos he0] at h
      exact absurd h (by show (7 : Int) ≠ 0; decide)
    · rw [if_neg hm]
      refine ⟨he0, rfl, ?_⟩
      unfold mis at hm
      simp only [Bool.or_eq_true, not_or, bne_iff_ne, ne_eq, Decidable.not_not] at hm
      exact hm.1
theorem name_of_tok {t : TokD} (h : GoodT t) (hk : t.kind = 1) : Nm.name t.text = true := by
  rcases h with ⟨h1, _⟩ | ⟨h1, _, ⟨b, r, e, hb⟩, h4, h5⟩ | ⟨h1, _⟩
  · rw [hk] at h1; cases h1
  · rw [hk] at h1
    have hr : Nm.res t.text = false := by
      cases hr : Nm.res t.text
      · rfl
      · rw [if_pos hr] at h1; cases h1
    unfold Nm.name Nm.word
    rw [hr, h4]
    have hl : Nm.low b = true := by
      unfold Nm.cls at hb
      by_cases hl : Nm.low b = true
      · exact hl
      · rw [if_neg hl] at hb
        split at hb <;> (try split at hb) <;> cases hb
    have h0 : t.text.headD 0 = b := by rw [e]; rfl
    rw [h0, hl]
    have : 0 < t.text.length := by rw [e]; exact Nat.succ_pos _
    simp [this, h5]
  · rw [hk] at h1; cases h1
theorem num_of_tok {t : TokD} (h : GoodT t) (hk : t.kind = 3) : okN t.num = true := by
  rcases h with ⟨h1, _⟩ | ⟨h1, _⟩ | ⟨_, h2, _, h4, h5⟩
  · rw [hk] at h1; cases h1
  · rw [hk] at h1
    split at h1 <;> cases h1
  · rw [h2]
    have hi : t.text ≠ Tk.infB := by
      intro he
      rw [he] at h4
      exact absurd h4 (by decide)
    unfold okN
    rw [decide_eq_true_eq]
    unfold Tk.parseV
    rw [if_neg hi, if_pos h5]
    unfold Tk.parseE at h5
    rw [if_neg hi] at h5
    split at h5
    · cases h5
    · split at h5
      · exact ⟨by omega, by omega⟩
      · cases h5
theorem name_got (g : GoodL L) (h : (nameD L s).1.e = 0) : s.e = 0 ∧ Nm.name (nameD L s).2 = true := by
  obtain ⟨h1, h2, h3⟩ := take_got (kind := 1) (k := []) h
  refine ⟨h1, ?_⟩
  show Nm.name (takeD L s 1 []).2.text = true
  rw [h2]
  exact name_of_tok (now_good g s) h3
theorem num_got (g : GoodL L) (h : (numD L s).1.e = 0) : s.e = 0 ∧ okN (numD L s).2 = true := by
  obtain ⟨h1, h2, h3⟩ := take_got (kind := 3) (k := []) h
  refine ⟨h1, ?_⟩
  show okN (takeD L s 3 []).2.num = true
  rw [h2]
  exact num_of_tok (now_good g s) h3
theorem key_got {k : List UInt8} (h : (keyD L s k).e = 0) : s.e = 0 := (take_got (kind := 2) (k := k) h).1
theorem after_got {k : List UInt8} (g : GoodL L) (h : (afterD L s k).1.e = 0) : s.e = 0 ∧ okN (afterD L s k).2 = true := by
  obtain ⟨h1, h2⟩ := num_got g h
  exact ⟨key_got h1, h2⟩
theorem times_got {k : List UInt8} (g : GoodL L) (h : (timesRD L s k).1.e = 0) : s.e = 0 ∧ ∀ n ∈ timesN (timesRD L s k).2, okN n = true := by
  obtain ⟨h1, h2⟩ := after_got g h
  obtain ⟨h3, h4⟩ := after_got g h1
  obtain ⟨h5, h6⟩ := after_got g h3
  refine ⟨h5, fun n hn => ?_⟩
  unfold timesN at hn
  simp only [List.mem_cons, List.not_mem_nil, or_false] at hn
  rcases hn with rfl | rfl | rfl
  · exact h6
  · exact h4
  · exact h2
theorem path_got (g : GoodL L) (h : (pathRD L s).1.e = 0) : s.e = 0 ∧ (Nm.name (pathRD L s).2.name = true ∧ Nm.name (pathRD L s).2.a = true ∧ Nm.name (pathRD L s).2.b = true ∧ okN (pathRD L s).2.len = true) := by
  obtain ⟨h1, n1⟩ := num_got g h
  obtain ⟨h2, n2⟩ := name_got g h1
  obtain ⟨h3, n3⟩ := name_got g h2
  obtain ⟨h4, n4⟩ := name_got g h3
  exact ⟨h4, n4, n3, n2, n1⟩
theorem door_got (g : GoodL L) (h : (doorRD L s).1.e = 0) : s.e = 0 ∧ (Nm.name (doorRD L s).2.name = true ∧ Nm.name (doorRD L s).2.a = true ∧ Nm.name (doorRD L s).2.b = true ∧ okN (doorRD L s).2.len = true) ∧ ∀ n ∈ timesN (doorRD L s).2.times, okN n = true := by
  obtain ⟨h1, n1⟩ := times_got g h
  obtain ⟨h2, n2⟩ := path_got g h1
  exact ⟨h2, n2, n1⟩
theorem trip_got (g : GoodL L) (h : (tripRD L s).1.e = 0) : s.e = 0 ∧ Nm.name (tripRD L s).2.name = true ∧ Nm.name (tripRD L s).2.route = true ∧ okN (tripRD L s).2.start = true ∧ okN (tripRD L s).2.every = true ∧ okN (tripRD L s).2.stop = true := by
  obtain ⟨h1, n1⟩ := after_got g h
  obtain ⟨h2, n2⟩ := after_got g h1
  obtain ⟨h3, n3⟩ := after_got g h2
  obtain ⟨h4, n4⟩ := name_got g h3
  obtain ⟨h5, n5⟩ := name_got g (key_got h4)
  exact ⟨h5, n5, n4, n3, n2, n1⟩
theorem haz_got (g : GoodL L) (h : (hazRD L s).1.e = 0) : s.e = 0 ∧ Nm.name (hazRD L s).2.name = true ∧ Nm.name (hazRD L s).2.on = true ∧ ∀ n ∈ timesN (hazRD L s).2.times, okN n = true := by
  obtain ⟨h1, n1⟩ := times_got g h
  obtain ⟨h2, n2⟩ := name_got g h1
  obtain ⟨h3, n3⟩ := name_got g (key_got h2)
  exact ⟨h3, n3, n2, n1⟩
theorem mid_got {n : Nat} (h : (midR L s n).e = 0) : s.e = 0 := by rw [midR_ok h] at h; exact h
theorem stay_got (g : GoodL L) (h : (stayR L s).1.e = 0) : s.e = 0 ∧ okN (stayR L s).2 = true := by
  unfold stayR at h ⊢
  split
  · rename_i hi
    rw [if_pos hi] at h
    exact after_got g h
  · rename_i hi
    rw [if_neg hi] at h
    exact ⟨h, rfl⟩
/-- A route on its way. -/
structure WayR (ss : Nms) (rs ys : List Int) : Prop where
  n : ∀ s ∈ ss, Nm.name s = true
  r : ∀ n ∈ rs, okN n = true
  y : ∀ n ∈ ys, okN n = true
  l1 : rs.length + 1 = ss.length
  l2 : ys.length = rs.length
  m : ss.length ≤ 32
theorem mem_snoc {α : Type} {p : α → Prop} {l : List α} {x : α} (h : ∀ a ∈ l, p a) (hx : p x) : ∀ a ∈ l ++ [x], p a := by
  intro a ha
  rcases List.mem_append.1 ha with ha | ha
  · exact h a ha
  · rw [List.mem_singleton.1 ha]; exact hx
theorem mid_kind {n : Nat} (h : (nameD L (midR L s n)).1.e = 0) : n ≠ 32 := by
  intro hn
  obtain ⟨h1, _, h3⟩ := take_got (kind := 1) (k := []) h
  have he := midR_ok h1
  have hs := mid_got h1
  rw [he] at h3
  have : (midR L s n).e ≠ 0 := by
    unfold midR
    rw [if_pos ⟨hn, hs, h3⟩]
    exact failD_bad hs (by decide)
  exact this h1
theorem run_got (g : GoodL L) : ∀ (n : Nat) (s : Rd) (ss : Nms) (rs ys : List Int), WayR ss rs ys → (routeRun L n s ss rs ys).1.e = 0 → L.length - s.at_ < n → s.e = 0 ∧
    ((∀ x ∈ (routeRun L n s ss rs ys).2.1.stops, Nm.name x = true) ∧ (∀ x ∈ (routeRun L n s ss rs ys).2.1.rides, okN x = true) ∧ (∀ x ∈ (routeRun L n s ss rs ys).2.1.stays, okN x = true) ∧ okR (routeRun L n s ss rs ys).2.1 = true) := by
  intro n
  induction n with
  | zero => intro s ss rs ys _ _ h; exact absurd h (Nat.not_lt_zero _)
  | succ n ih =>
    intro s ss rs ys hw he hn
    by_cases h0 : s.e = 0
    · by_cases hm : (nameD L (midR L (numD L s).1 ss.length)).1.e ≠ 0 ∨ (nowD L (nameD L (midR L (numD L s).1 ss.length)).1).kind = 4
      · rw [routeRun_ret h0 hm] at he ⊢
        obtain ⟨h1, n1⟩ := name_got g he
        have hk := mid_kind he
        obtain ⟨h2, n2⟩ := num_got g (mid_got h1)
        refine ⟨h0, mem_snoc hw.n n1, mem_snoc hw.r n2, hw.y, ?_⟩
        unfold okR
        have := hw.l1; have := hw.l2; have := hw.m
        rw [decide_eq_true_eq]
        simp only [List.length_append, List.length_singleton]
        omega
      · rw [routeRun_go h0 hm] at he ⊢
        have hm1 : (nameD L (midR L (numD L s).1 ss.length)).1.e = 0 := Decidable.byContradiction fun h => hm (.inl h)
        obtain ⟨h1, n1⟩ := name_got g hm1
        have hk := mid_kind hm1
        obtain ⟨h2, n2⟩ := num_got g (mid_got h1)
        have hst : (stayR L (nameD L (midR L (numD L s).1 ss.length)).1).1.e = 0 := by
          refine Decidable.byContradiction fun h => ?_
          rw [show routeRun L n (stayR L (nameD L (midR L (numD L s).1 ss.length)).1).1 (ss ++ [(nameD L (midR L (numD L s).1 ss.length)).2]) (rs ++ [(numD L s).2]) (ys ++ [(stayR L (nameD L (midR L (numD L s).1 ss.length)).1).2]) = ((stayR L (nameD L (midR L (numD L s).1 ss.length)).1).1, ⟨[], _, _, _⟩, ()) from routeRun_bad h] at he
          exact h he
        obtain ⟨h3, n3⟩ := stay_got g hst
        have hat := round_at hst hm1
        have hlt : L.length - (stayR L (nameD L (midR L (numD L s).1 ss.length)).1).1.at_ < n := by
          have hnow : s.at_ < L.length := by
            refine Decidable.byContradiction fun h => ?_
            have hd : nowD L s = endT := by unfold nowD; rw [List.getD_eq_getElem?_getD, List.getElem?_eq_none (by omega)]; rfl
            have h4 := (take_got (kind := 3) (k := []) (mid_got h1)).2.2
            rw [hd] at h4
            cases h4
          omega
        obtain ⟨_, a1, a2, a3, a4⟩ := ih _ _ _ _ (show WayR (ss ++ [_]) (rs ++ [_]) (ys ++ [_]) from ⟨mem_snoc hw.n n1, mem_snoc hw.r n2, mem_snoc hw.y n3, by have := hw.l1; simp only [List.length_append, List.length_singleton]; omega, by have := hw.l2; simp only [List.length_append, List.length_singleton]; omega, by have := hw.m; simp only [List.length_append, List.length_singleton]; omega⟩) he hlt
        exact ⟨h0, a1, a2, a3, a4⟩
    · rw [routeRun_bad h0] at he
      exact absurd he h0
theorem route_got (g : GoodL L) (h : (routeRD L s).1.e = 0) : s.e = 0 ∧ Nm.name (routeRD L s).2.name = true ∧ (∀ x ∈ (routeRD L s).2.stops, Nm.name x = true) ∧ (∀ n ∈ (routeRD L s).2.rides, okN n = true) ∧ (∀ n ∈ (routeRD L s).2.stays, okN n = true) ∧ okR (routeRD L s).2 = true := by
  have hb : (nameD L (nameD L s).1).1.e = 0 := by
    refine Decidable.byContradiction fun hh => ?_
    have h' : (routeRun L (L.length + 1) (nameD L (nameD L s).1).1 [(nameD L (nameD L s).1).2] [] []).1.e = 0 := h
    rw [routeRun_bad hh] at h'
    exact hh h'
  obtain ⟨h1, n1⟩ := name_got g hb
  obtain ⟨h2, n2⟩ := name_got g h1
  obtain ⟨_, a1, a2, a3, a4⟩ := run_got g (L.length + 1) (nameD L (nameD L s).1).1 [(nameD L (nameD L s).1).2] [] [] ⟨fun x hx => by rw [List.mem_singleton.1 hx]; exact n1, fun _ h => (by cases h), fun _ h => (by cases h), rfl, rfl, by show 1 ≤ 32; decide⟩ h (by omega)
  exact ⟨h2, n2, a1, a2, a3, a4⟩
theorem thing_got {d : SheetD} {k : List UInt8} (g : GoodL L) (hf : FineD d) (h : (thingD L s d k).1.e = 0) : s.e = 0 ∧ FineD (thingD L s d k).2 := by
  obtain ⟨f0, f1, f2, f3, f4, f5, f6⟩ := hf
  unfold thingD at h ⊢
  split
  · rename_i hk
    rw [if_pos hk] at h
    obtain ⟨h1, h2⟩ := name_got g h
    exact ⟨h1, f0, mem_snoc f1 h2, f2, f3, f4, f5, f6⟩
  · rename_i hk
    rw [if_neg hk] at h
    split
    · rename_i hk
      rw [if_pos hk] at h
      obtain ⟨h1, h2⟩ := path_got g h
      exact ⟨h1, f0, f1, mem_snoc f2 h2, f3, f4, f5, f6⟩
    · rename_i hk
      rw [if_neg hk] at h
      split
      · rename_i hk
        rw [if_pos hk] at h
        obtain ⟨h1, h2⟩ := door_got g h
        exact ⟨h1, f0, f1, f2, mem_snoc f3 h2, f4, f5, f6⟩
      · rename_i hk
        rw [if_neg hk] at h
        split
        · rename_i hk
          rw [if_pos hk] at h
          obtain ⟨h1, h2⟩ := route_got g h
          exact ⟨h1, f0, f1, f2, f3, mem_snoc f4 h2, f5, f6⟩
        · rename_i hk
          rw [if_neg hk] at h
          split
          · rename_i hk
            rw [if_pos hk] at h
            obtain ⟨h1, h2⟩ := trip_got g h
            exact ⟨h1, f0, f1, f2, f3, f4, mem_snoc f5 h2, f6⟩
          · rename_i hk
            rw [if_neg hk] at h
            obtain ⟨h1, h2⟩ := haz_got g h
            exact ⟨h1, f0, f1, f2, f3, f4, f5, mem_snoc f6 h2⟩
theorem thing_lim {d : SheetD} {k : List UInt8} (h : LimD d) (hk : k ∈ keysL) (hf : fullD d k = false) : LimD (thingD L s d k).2 := by
  obtain ⟨h1, h2, h3, h4, h5, h6⟩ := h
  unfold keysL at hk
  simp only [List.mem_cons, List.not_mem_nil, or_false] at hk
  rcases hk with rfl | rfl | rfl | rfl | rfl | rfl
  · have hf2 : decide (256 ≤ d.stops.length) = false := hf
    rw [decide_eq_false_iff_not] at hf2
    exact ⟨by show (d.stops ++ [_]).length ≤ _; rw [List.length_append, List.length_singleton]; omega, h2, h3, h4, h5, h6⟩
  · have hf2 : decide (1024 ≤ d.paths.length) = false := hf
    rw [decide_eq_false_iff_not] at hf2
    exact ⟨h1, by show (d.paths ++ [_]).length ≤ _; rw [List.length_append, List.length_singleton]; omega, h3, h4, h5, h6⟩
  · have hf2 : decide (256 ≤ d.doors.length) = false := hf
    rw [decide_eq_false_iff_not] at hf2
    exact ⟨h1, h2, by show (d.doors ++ [_]).length ≤ _; rw [List.length_append, List.length_singleton]; omega, h4, h5, h6⟩
  · have hf2 : decide (256 ≤ d.routes.length) = false := hf
    rw [decide_eq_false_iff_not] at hf2
    exact ⟨h1, h2, h3, by show (d.routes ++ [_]).length ≤ _; rw [List.length_append, List.length_singleton]; omega, h5, h6⟩
  · have hf2 : decide (1024 ≤ d.trips.length) = false := hf
    rw [decide_eq_false_iff_not] at hf2
    exact ⟨h1, h2, h3, h4, by show (d.trips ++ [_]).length ≤ _; rw [List.length_append, List.length_singleton]; omega, h6⟩
  · have hf2 : decide (256 ≤ d.hazs.length) = false := hf
    rw [decide_eq_false_iff_not] at hf2
    exact ⟨h1, h2, h3, h4, h5, by show (d.hazs ++ [_]).length ≤ _; rw [List.length_append, List.length_singleton]; omega⟩
theorem line_got {d : SheetD} (g : GoodL L) (h0 : s.e = 0) (hf : FineD d) (hl : LimD d) (h : (lineD L s d).1.e = 0) : FineD (lineD L s d).2 ∧ LimD (lineD L s d).2 := by
  unfold lineD at h ⊢
  split
  · rename_i hk
    rw [if_pos hk] at h
    split
    · rename_i hful
      rw [if_pos hful] at h
      exact absurd h (failD_bad h0 (by decide))
    · rename_i hful
      rw [if_neg hful] at h
      exact ⟨(thing_got g hf (take_got (kind := 4) (k := []) h).1).2, thing_lim hl hk.2 (by simpa using hful)⟩
  · rename_i hk
    rw [if_neg hk] at h
    exact absurd h (failD_bad h0 (by decide))
theorem parse_got (g : GoodL L) : ∀ (n : Nat) (s : Rd) (d : SheetD), (s.e = 0 → FineD d ∧ LimD d) → (parseRun L n s d).1.e = 0 → FineD (parseRun L n s d).2 ∧ LimD (parseRun L n s d).2 := by
  intro n
  induction n with
  | zero => intro s d hd h; exact hd h
  | succ n ih =>
    intro s d hd h
    by_cases hc : s.e = 0 ∧ s.at_ < L.length
    · rw [parseRun_go hc.1 hc.2] at h ⊢
      exact ih _ _ (fun h9 => line_got g hc.1 (hd hc.1).1 (hd hc.1).2 h9) h
    · rw [parseRun_stop hc] at h ⊢
      exact hd h
/-- A sheet that is read without a fault may be. -/
theorem read_ok (u : ByteArray) (h : (parseS u).2.err = 0) : checkD (parseS u).1 = 0 := by
  have g : GoodL (allD u).1 := good_all u
  unfold parseS at h ⊢
  by_cases ha : (allD u).2.err ≠ 0
  · rw [if_pos ha] at h; exact absurd h ha
  · rw [if_neg ha] at h ⊢
    dsimp only at h ⊢
    split
    · rename_i hr
      rw [if_pos hr] at h
      exact absurd h hr
    · rename_i hr
      have hr0 : (parseRun (allD u).1 ((allD u).1.length + 1) (takeD (allD u).1 (numD (allD u).1 (keyD (allD u).1 ⟨0, 0, 0, 0⟩ kHorizon)).1 4 []).1 { zeroD with hor := (numD (allD u).1 (keyD (allD u).1 ⟨0, 0, 0, 0⟩ kHorizon)).2 }).1.e = 0 := by simpa using hr
      have h2 := parse_got g _ _ _ (fun h9 => ?_) hr0
      · exact check_of h2.1 h2.2
      · have hn := num_got g (take_got (kind := 4) (k := []) h9).1
        exact ⟨⟨hn.2, fun _ h => (by cases h), fun _ h => (by cases h), fun _ h => (by cases h), fun _ h => (by cases h), fun _ h => (by cases h), fun _ h => (by cases h)⟩, ⟨Nat.zero_le _, Nat.zero_le _, Nat.zero_le _, Nat.zero_le _, Nat.zero_le _, Nat.zero_le _⟩⟩
end Go.Proofs.YteonefgbdphmiaaGreatDoor
/- A sheet that may be is not much (plain). -/
namespace Go.Proofs.YteonefgbdphmiaaGreatDoor
open Go.RowKit
/-- A sheet that may be is not much. -/
theorem may_few {x : SheetM} (h : checkD x.d = 0) : x.Few := by
  obtain ⟨hl, _, _, hr⟩ := check_ok h
  unfold longD at hl
  rw [decide_eq_false_iff_not] at hl
  have e : x.d.routes.length = x.routes.length := by simp [SheetM.d]
  rw [e] at hl
  simp only [SheetM.d] at hl
  refine ⟨by omega, by omega, by omega, by omega, by omega, by omega, fun r hr2 => ?_⟩
  have h2 := hr r.d (List.mem_map_of_mem hr2)
  unfold okR at h2
  rw [decide_eq_true_eq] at h2
  have h3 : r.stops.length ≤ 32 := h2.2.1
  have h4 : r.rides.length + 1 = r.stops.length := h2.2.2.1
  have h5 : r.stays.length + 2 = r.stops.length := h2.2.2.2
  omega
theorem may_small {x : SheetM} (h : checkD x.d = 0) : x.Small := by
  have f := may_few h
  have := f.stops; have := f.paths; have := f.doors; have := f.routes; have := f.trips; have := f.hazs
  refine ⟨by omega, by omega, by omega, by omega, by omega, by omega, fun r hr => ?_⟩
  have h3 := f.each r hr
  exact ⟨by omega, by omega, by omega⟩
theorem may_names {d : SheetD} (h : checkD d = 0) : ∀ s ∈ namesD d, s.length ≤ maxLen := fun s hs => Nat.le_trans (Nm.name_len ((check_ok h).2.1 s hs)).2 (by decide)
end Go.Proofs.YteonefgbdphmiaaGreatDoor
