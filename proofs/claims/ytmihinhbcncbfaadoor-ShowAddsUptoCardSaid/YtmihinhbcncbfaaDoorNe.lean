/- Lines of a sheet that may be have one blank between words (plain). -/
import Derived.Test.YtmihinhbcncbfaaDoorLi
namespace Go.Proofs.YtmihinhbcncbfaaDoor
open Go.RowKit

/-- Text with one blank between words: signs from blank to z, no blank at an end, no two side by side. -/
def Neat (s : List UInt8) : Prop := 0 < s.length ∧ ∀ k c, s[k]? = some c → 32 ≤ c.toNat ∧ c.toNat ≤ 122 ∧ (c = 32 → 0 < k ∧ k + 1 < s.length ∧ ∀ d, s[k-1]? = some d → d ≠ 32)
theorem Neat.word {s : List UInt8} (h0 : 0 < s.length) (h : ∀ c ∈ s, 33 ≤ c.toNat ∧ c.toNat ≤ 122) : Neat s := by
  refine ⟨h0, fun k c hc => ?_⟩
  have := h c (List.mem_of_getElem? hc)
  refine ⟨by omega, this.2, fun e => ?_⟩
  subst e
  have h1 : (32 : UInt8).toNat = 32 := rfl
  omega
theorem Neat.join {a b : List UInt8} (ha : Neat a) (hb : Neat b) : Neat (a ++ 32 :: b) := by
  obtain ⟨ha0, ha⟩ := ha
  obtain ⟨hb0, hb⟩ := hb
  refine ⟨by rw [List.length_append]; omega, fun k c hc => ?_⟩
  rcases Nat.lt_trichotomy k a.length with hk | hk | hk
  · rw [List.getElem?_append_left hk] at hc
    obtain ⟨h1, h2, h3⟩ := ha k c hc
    refine ⟨h1, h2, fun e => ?_⟩
    obtain ⟨h4, h5, h6⟩ := h3 e
    refine ⟨h4, by rw [List.length_append]; omega, fun d hd => ?_⟩
    rw [List.getElem?_append_left (by omega)] at hd
    exact h6 d hd
  · subst hk
    rw [List.getElem?_append_right (Nat.le_refl _)] at hc
    simp at hc
    subst hc
    refine ⟨by decide, by decide, fun _ => ⟨ha0, by simp; omega, fun d hd => ?_⟩⟩
    rw [List.getElem?_append_left (by omega)] at hd
    rintro rfl
    obtain ⟨_, _, h3⟩ := ha _ _ hd
    have := (h3 rfl).2.1
    omega
  · rw [List.getElem?_append_right (by omega)] at hc
    obtain ⟨j, rfl⟩ : ∃ j, k = a.length + 1 + j := ⟨k - a.length - 1, by omega⟩
    rw [show a.length + 1 + j - a.length = j + 1 from by omega, List.getElem?_cons_succ] at hc
    obtain ⟨h1, h2, h3⟩ := hb j c hc
    refine ⟨h1, h2, fun e => ?_⟩
    obtain ⟨h4, h5, h6⟩ := h3 e
    refine ⟨by omega, by rw [List.length_append, List.length_cons]; omega, fun d hd => ?_⟩
    rw [List.getElem?_append_right (by omega), show a.length + 1 + j - 1 - a.length = (j - 1) + 1 from by omega, List.getElem?_cons_succ] at hd
    exact h6 d hd
theorem Neat.fold {r : List Wd} : ∀ {a : List UInt8}, Neat a → (∀ y ∈ r, Neat y.t) → Neat (a ++ r.flatMap fun y => 32 :: y.t) := by
  induction r with
  | nil => intro a ha _; simpa using ha
  | cons y r ih =>
    intro a ha h
    have h1 := ih (ha.join (h y (by simp))) fun z hz => h z (by simp [hz])
    rw [List.flatMap_cons, ← List.append_assoc]
    exact h1
theorem Neat.line {ws : List Wd} (h0 : 0 < ws.length) (h : ∀ y ∈ ws, Neat y.t) : Neat (line ws) := by
  cases ws with
  | nil => cases h0
  | cons x r => exact Neat.fold (h x (by simp)) fun y hy => h y (by simp [hy])
theorem digits_in (u : Nat) : 0 < (Lib.decDigits u).length ∧ ∀ c ∈ Lib.decDigits u, 33 ≤ c.toNat ∧ c.toNat ≤ 122 := by
  induction u using Nat.strongRecOn with
  | ind u ih =>
    have key : ∀ d : Nat, d < 10 → 33 ≤ (UInt8.ofNat (48 + d)).toNat ∧ (UInt8.ofNat (48 + d)).toNat ≤ 122 := by
      intro d hd
      rw [UInt8.toNat_ofNat']
      omega
    rw [Lib.decDigits]
    by_cases h : u < 10
    · rw [dif_pos h]
      refine ⟨by simp, fun c hc => ?_⟩
      rw [List.mem_singleton.1 hc]
      exact key u h
    · rw [dif_neg h]
      refine ⟨by simp, fun c hc => ?_⟩
      rcases List.mem_append.1 hc with hc | hc
      · exact (ih (u / 10) (by omega)).2 c hc
      · rw [List.mem_singleton.1 hc]
        exact key _ (by omega)
theorem neat_num {n : Int} (h : okN n = true) : Neat (Wd.n n).t := by
  unfold okN at h
  rw [decide_eq_true_eq] at h
  obtain ⟨u, rfl⟩ : ∃ u : Nat, n = u := ⟨n.toNat, by omega⟩
  show Neat (Lib.itoa (u : Int))
  unfold Lib.itoa
  rw [if_neg (by omega), Int.toNat_natCast]
  exact Neat.word (digits_in u).1 (digits_in u).2
theorem neat_name {s : List UInt8} (h : Nm.name s = true) : Neat (Wd.s s).t := by
  have h0 := (Nm.name_len h).1
  unfold Nm.name Nm.word at h
  simp only [Bool.and_eq_true] at h
  refine Neat.word h0 fun c hc => ?_
  have h1 := List.all_eq_true.1 h.1.2 c hc
  unfold Nm.more Nm.low Nm.dig Nm.joinB at h1
  simp only [Bool.or_eq_true, decide_eq_true_eq] at h1
  omega
theorem neat_key (k : List UInt8) (h : (decide (0 < k.length) && k.all fun c => decide (33 ≤ c.toNat ∧ c.toNat ≤ 122)) = true) : Neat (Wd.s k).t := by
  rw [Bool.and_eq_true, decide_eq_true_eq] at h
  exact Neat.word h.1 fun c hc => by simpa using List.all_eq_true.1 h.2 c hc
theorem neat_times {t : TimesD} {k : List UInt8} (h : ∀ n ∈ timesN t, okN n = true) (hk : (decide (0 < k.length) && k.all fun c => decide (33 ≤ c.toNat ∧ c.toNat ≤ 122)) = true) : Neat (timesL t k) := by
  refine Neat.line (by simp [timesW]) ?_
  unfold timesW
  intro y hy
  simp only [List.mem_cons, List.not_mem_nil, or_false] at hy
  rcases hy with rfl | rfl | rfl | rfl | rfl | rfl
  · exact neat_key _ (by decide)
  · exact neat_num (h _ (by simp [timesN]))
  · exact neat_key _ (by decide)
  · exact neat_num (h _ (by simp [timesN]))
  · exact neat_key _ hk
  · exact neat_num (h _ (by simp [timesN]))
theorem neat_route {r : RouteD} (hn : ∀ s ∈ [r.name] ++ r.stops, Nm.name s = true) (hi : ∀ n ∈ r.rides ++ r.stays, okN n = true) : Neat (routeL r) := by
  refine Neat.line (by unfold routeW preW; simp) ?_
  have key : ∀ k, k ≤ r.stops.length → ∀ y ∈ preW r k, Neat y.t := by
    intro k
    induction k with
    | zero =>
      intro _ y hy
      simp [preW] at hy
      rcases hy with rfl | rfl
      · exact neat_key _ (by decide)
      · exact neat_name (hn _ (by simp))
    | succ k ih =>
      intro hk y hy
      rw [preW_succ] at hy
      simp only [List.mem_append, List.mem_cons, List.not_mem_nil, or_false] at hy
      rcases hy with ((hy | hy) | rfl) | hy
      · exact ih (by omega) y hy
      · unfold rideW at hy
        split at hy
        · rename_i hc
          rw [List.mem_singleton.1 hy]
          exact neat_num (hi _ (List.mem_append_left _ (getD_mem hc.2)))
        · cases hy
      · exact neat_name (hn _ (List.mem_append_right _ (getD_mem (by omega))))
      · unfold stayW at hy
        split at hy
        · rename_i hc
          simp only [List.mem_cons, List.not_mem_nil, or_false] at hy
          rcases hy with rfl | rfl
          · exact neat_key _ (by decide)
          · exact neat_num (hi _ (List.mem_append_right _ (getD_mem hc.2.1)))
        · cases hy
  exact key _ (Nat.le_refl _)
theorem lines_neat (x : SheetD) (h : checkD x = 0) : ∀ s ∈ linesD x, Neat s := by
  obtain ⟨_, hn, hi, _⟩ := check_ok h
  intro s hs
  unfold linesD at hs
  simp only [List.mem_append, List.mem_singleton, List.mem_map] at hs
  rcases hs with (((((rfl | ⟨y, hy, rfl⟩) | ⟨y, hy, rfl⟩) | ⟨y, hy, rfl⟩) | ⟨y, hy, rfl⟩) | ⟨y, hy, rfl⟩) | ⟨y, hy, rfl⟩
  · refine Neat.line (by simp) ?_
    intro y hy
    simp only [List.mem_cons, List.not_mem_nil, or_false] at hy
    rcases hy with rfl | rfl
    · exact neat_key _ (by decide)
    · exact neat_num (hi _ (in_nums (.inl rfl)))
  · refine Neat.line (by simp) ?_
    intro z hz
    simp only [List.mem_cons, List.not_mem_nil, or_false] at hz
    rcases hz with rfl | rfl
    · exact neat_key _ (by decide)
    · exact neat_name (hn _ (in_names (.inl hy)))
  · refine Neat.line (by simp [pathW]) ?_
    have q : ∀ s ∈ [y.name, y.a, y.b], Nm.name s = true := fun s hs => hn _ (in_names (.inr (.inl ⟨y, hy, hs⟩)))
    intro z hz
    simp only [pathW, List.mem_cons, List.not_mem_nil, or_false] at hz
    rcases hz with rfl | rfl | rfl | rfl | rfl
    · exact neat_key _ (by decide)
    · exact neat_name (q _ (by simp))
    · exact neat_name (q _ (by simp))
    · exact neat_name (q _ (by simp))
    · exact neat_num (hi _ (in_nums (.inr (.inl ⟨y, hy, by simp⟩))))
  · refine Neat.line (by simp [doorW]) ?_
    have q : ∀ s ∈ [y.name, y.a, y.b], Nm.name s = true := fun s hs => hn _ (in_names (.inr (.inr (.inl ⟨y, hy, hs⟩))))
    have qi : ∀ n ∈ [y.len] ++ timesN y.times, okN n = true := fun n hm => hi _ (in_nums (.inr (.inr (.inl ⟨y, hy, hm⟩))))
    intro z hz
    simp only [doorW, List.mem_cons, List.not_mem_nil, or_false] at hz
    rcases hz with rfl | rfl | rfl | rfl | rfl | rfl
    · exact neat_key _ (by decide)
    · exact neat_name (q _ (by simp))
    · exact neat_name (q _ (by simp))
    · exact neat_name (q _ (by simp))
    · exact neat_num (qi _ (by simp))
    · exact neat_times (fun n hm => qi n (by simp [hm])) (by decide)
  · exact neat_route (fun s hs => hn _ (in_names (.inr (.inr (.inr (.inl ⟨y, hy, hs⟩)))))) (fun n hm => hi _ (in_nums (.inr (.inr (.inr (.inl ⟨y, hy, hm⟩))))))
  · refine Neat.line (by simp [tripW]) ?_
    have q : ∀ s ∈ [y.name, y.route], Nm.name s = true := fun s hs => hn _ (in_names (.inr (.inr (.inr (.inr (.inl ⟨y, hy, hs⟩))))))
    have qi : ∀ n ∈ [y.start, y.every, y.stop], okN n = true := fun n hm => hi _ (in_nums (.inr (.inr (.inr (.inr (.inl ⟨y, hy, hm⟩))))))
    intro z hz
    simp only [tripW, List.mem_cons, List.not_mem_nil, or_false] at hz
    rcases hz with rfl | rfl | rfl | rfl | rfl | rfl | rfl | rfl | rfl | rfl
    · exact neat_key _ (by decide)
    · exact neat_name (q _ (by simp))
    · exact neat_key _ (by decide)
    · exact neat_name (q _ (by simp))
    · exact neat_key _ (by decide)
    · exact neat_num (qi _ (by simp))
    · exact neat_key _ (by decide)
    · exact neat_num (qi _ (by simp))
    · exact neat_key _ (by decide)
    · exact neat_num (qi _ (by simp))
  · refine Neat.line (by simp [hazW]) ?_
    have q : ∀ s ∈ [y.name, y.on], Nm.name s = true := fun s hs => hn _ (in_names (.inr (.inr (.inr (.inr (.inr ⟨y, hy, hs⟩))))))
    have qi : ∀ n ∈ timesN y.times, okN n = true := fun n hm => hi _ (in_nums (.inr (.inr (.inr (.inr (.inr ⟨y, hy, hm⟩))))))
    intro z hz
    simp only [hazW, List.mem_cons, List.not_mem_nil, or_false] at hz
    rcases hz with rfl | rfl | rfl | rfl | rfl
    · exact neat_key _ (by decide)
    · exact neat_name (q _ (by simp))
    · exact neat_key _ (by decide)
    · exact neat_name (q _ (by simp))
    · exact neat_times qi (by decide)
end Go.Proofs.YtmihinhbcncbfaaDoor
