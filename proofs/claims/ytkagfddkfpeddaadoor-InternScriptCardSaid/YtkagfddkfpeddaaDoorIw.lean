/- Walks: slices of names (Clone, Own, Same), and the calls of a table that change nothing: Num, Len, Name, All. -/
import Derived.Test.YtkagfddkfpeddaaDoorIm
import Derived.Lib.SliceRun
import Derived.Deep.QuietTactic
import Derived.BigQuiet
namespace Go.Proofs.YtkagfddkfpeddaaDoor
open Go.RowKit Go.Maps It

/-- It returns a row of its own that holds l, and writes nothing that was there. -/
def Made {α : Type} (c : α → List Value) (size : Nat) (t : TypeId) (l : List α) (w : World) (e : Ending) (w' : World) : Prop :=
  ∃ v, e = .returned v ∧ Ow c size w' w.heap.size t v l ∧ Below w.heap.size w w'
set_option maxHeartbeats 400000 in
theorem nclone_any (w : World) (v : Value) (l : Nms) {P : Nat → Prop} (hs : Sl nc 1 w v l P) (hsz : l.length ≤ 1048576) :
    Calls Tryd.prog 33 #[v] w (Made nc 1 9 l w) := by
  obtain ⟨i0, hi0, hz0, hz1, hz2⟩ := info_parts info_string
  obtain ⟨A, cap, rfl, h1, h2⟩ := hs.shape
  rcases A with _ | ad
  · have h0 : l = [] := by
      rcases Nat.eq_zero_or_pos l.length with h0 | h0
      · exact List.eq_nil_of_length_eq_zero h0
      · obtain ⟨b, off, c, e, _⟩ := hs.form h0
        cases e
    subst h0
    have hnil := fun wx => Lib.run_eql_slice_nil (P := Tryd.prog) wx 22 9 none 0 cap 0 0 Tryd.underlying22
    go_enter Tryd.func33, Tryd.ntmps33
    go_wp2
    go_ret
    exact ⟨_, rfl, Ow.nil_, Below.refl _ _⟩
  · have hz1' : ∀ o, (w.alloc o).heap.size = w.heap.size + 1 := fun o => by simp
    have hnil := fun wx => Lib.run_eql_slice_nil (P := Tryd.prog) wx 22 9 (some ad) l.length cap 0 0 Tryd.underlying22
    go_enter Tryd.func33, Tryd.ntmps33
    go_wp2_with (at_builtin; refine wpList_append_sl _ rfl _ _ _ rfl w.heap.size 9 i0 _ 16 Tryd.underlying22 hi0 hz0 hz1 hz2 rfl (by omega) nc_len nc_one (.slice (some ⟨w.heap.size, 0, none⟩) 0 0) _ [] l rfl rfl (Ow.empty (Nat.le_refl _)) (hs.alloc _) (by simp only [maxLen, List.length_nil]; omega) (by simp only [List.length_nil]; omega) (by rw [hz1']; omega) ?_; intro v1 w1 hown1 hg1 hmv1)
    go_ret
    exact ⟨v1, rfl, hown1, ((Below.refl _ _).alloc (Nat.le_refl _) _).grown hg1 (by rw [hz1']; omega) fun k hk => by
      have : w.heap.size = k := by simpa [Value.ownBlock] using hk
      omega⟩
set_option maxHeartbeats 400000 in
theorem nown_any (w : World) (v : Value) (l : Nms) {P : Nat → Prop} (hs : Sl nc 1 w v l P) (hsz : l.length ≤ 1048576) :
    Calls Tryd.prog 21 #[v] w (Made nc 1 9 l w) := by
  obtain ⟨i0, hi0, hz0, hz1, hz2⟩ := info_parts info_string
  obtain ⟨A, cap, rfl, h1, h2⟩ := hs.shape
  have hz1' : ∀ o, (w.alloc o).heap.size = w.heap.size + 1 := fun o => by simp
  go_enter Tryd.func21, Tryd.ntmps21
  go_wp2_with (at_builtin; refine wpList_append_sl _ rfl _ _ _ rfl w.heap.size 9 i0 _ 16 Tryd.underlying22 hi0 hz0 hz1 hz2 rfl (by omega) nc_len nc_one (.slice (some ⟨w.heap.size, 0, none⟩) 0 0) _ [] l rfl rfl (Ow.empty (Nat.le_refl _)) (hs.alloc _) (by simp only [maxLen, List.length_nil]; omega) (by simp only [List.length_nil]; omega) (by rw [hz1']; omega) ?_; intro v1 w1 hown1 hg1 hmv1)
  go_ret
  exact ⟨v1, rfl, hown1, ((Below.refl _ _).alloc (Nat.le_refl _) _).grown hg1 (by rw [hz1']; omega) fun k hk => by
    have : w.heap.size = k := by simpa [Value.ownBlock] using hk
    omega⟩
set_option maxHeartbeats 1000000 in
theorem sameStr_any (va vb : Value) (la lb : Nms) (w : World) {P Q : Nat → Prop} (ha : Sl nc 1 w va la P) (hb : Sl nc 1 w vb lb Q) (h1 : la.length ≤ 1048576) :
    Calls Tryd.prog 15 #[va, vb] w (Quiet (.bool (decide (la = lb))) w) := by
  obtain ⟨A, capa, rfl, ha1, ha2⟩ := ha.shape
  obtain ⟨B, capb, e, hb1, hb2⟩ := hb.shape
  by_cases hlen : la.length = lb.length
  · rw [← hlen] at e hb1
    subst e
    go_enter Tryd.func15, Tryd.ntmps15
    have Hlen := Lib.hid hlen
    clear hlen
    go_wp2
    go_loopw [5] (fun s wr => SameRel la lb w s wr) (fun s _ => la.length - (intOf s).toNat)
    case atStart => exact ⟨0, 0, Nat.zero_le _, rfl, rfl, rfl⟩
    case round =>
      obtain ⟨k, n, hk, rfl, hkk, rfl⟩ := hrel
      by_cases hlt : k < la.length
      · have hlt2 : k < lb.length := by rw [← Hlen.out]; exact hlt
        obtain ⟨b1, o1, c1, e1, _, _, hl1, _, hx⟩ := ha.at_ hlt
        obtain ⟨b2, o2, c2, e2, _, _, hl2, _, hy⟩ := hb.at_ hlt2
        injection e1 with e1 e1' e1''
        injection e2 with e2 e2' e2''
        subst e1 e2
        obtain ⟨x, Hx⟩ : ∃ x, Hid (la[k] = x) := ⟨_, Lib.hid rfl⟩
        obtain ⟨y, Hy⟩ : ∃ y, Hid (lb[k] = y) := ⟨_, Lib.hid rfl⟩
        rw [Hx.out] at hx
        rw [Hy.out] at hy
        have hx0 : w.cell? ⟨b1, o1 + k, none⟩ = some (.string (ba x)) := by simpa using hx 0 _ rfl
        have hy0 : w.cell? ⟨b2, o2 + k, none⟩ = some (.string (ba y)) := by simpa using hy 0 _ rfl
        have Hkk := Lib.hid hkk
        clear hkk hx hy e1' e1'' e2' e2''
        have q1 : (0 : Int) ≤ (k : Int) := by omega
        have q2 : (k : Int) < (la.length : Int) := by omega
        by_cases hxy : x = y
        · have hb0 : ((ba x).toList == (ba y).toList) = true := by rw [hxy, beq_self_eq_true]
          have Hxy := Lib.hid hxy
          clear hxy
          go_wp2
          go_quiet (fail)
          go_wp2
          go_roundw
          case rel => exact ⟨k + 1, _, by omega, by go_num, same_step hlt hlt2 Hkk.out (by rw [Hx.out, Hy.out]; exact Hxy.out), by first | rfl | exact World.drewN_drewN _ _ _⟩
          case measure => simp [intOf]; omega
        · have hb0 : ((ba x).toList == (ba y).toList) = false := by rw [ba_toList, ba_toList]; exact beq_eq_false_iff_ne.2 hxy
          have hne := same_ne hlt hlt2 (by rw [Hx.out, Hy.out]; exact hxy)
          have Hne := Lib.hid hne
          clear hne hxy
          go_wp2
          go_quiet (fail)
          go_wp2
          go_ret
          exact ⟨ret_bool (decide_eq_false Hne.out).symm, _, by first | rfl | exact World.drewN_drewN _ _ _⟩
      · have hkl : k = la.length := by omega
        subst hkl
        have Heq := Lib.hid (same_eq Hlen.out hkk)
        clear hkk
        go_wp2
        go_ret
        exact ⟨ret_bool (decide_eq_true Heq.out).symm, n, rfl⟩
  · have hne : la ≠ lb := fun h => hlen (by rw [h])
    rw [decide_eq_false hne]
    obtain rfl := e
    have hd : ((la.length : Int) == (lb.length : Int)) = false := beq_eq_false_iff_ne.2 (by omega)
    clear hne hlen
    go_enter Tryd.func15, Tryd.ntmps15
    go_wp2
    go_ret
    exact ⟨rfl, 0, rfl⟩

theorem sameStr_self (va vb : Value) (l : Nms) (w : World) {P Q : Nat → Prop} (ha : Sl nc 1 w va l P) (hb : Sl nc 1 w vb l Q) (h1 : l.length ≤ 1048576) :
    Calls Tryd.prog 15 #[va, vb] w (Quiet (.bool true) w) := by
  have h := sameStr_any va vb l l w ha hb h1
  rwa [show decide (l = l) = true from decide_eq_true rfl] at h

set_option maxHeartbeats 400000 in
theorem num_any (w : World) (B p b : Nat) (v : Value) (l : Nms) (x : List UInt8) (h : Tbl w B p b v l) (hx : x.length ≤ maxLen) :
    Calls Tryd.prog 13 #[.pointer (some ⟨p, 0, none⟩), .string (ba x)] w fun e w' => e = .returned (.tuple #[.int .i64 (num l x : Nat), .bool (l.contains x)]) ∧ w = w' := by
  obtain ⟨A, cap, rfl, h1, h2, c0, c1, _⟩ := h.open_
  have hL := h.map.look hx
  generalize num l x = n at *
  generalize l.contains x = c at *
  go_enter Tryd.func13, Tryd.ntmps13
  go_wp2_with fail
  go_ret2
  exact ⟨rfl, rfl⟩
theorem num_nil (w : World) (x : ByteArray) : Calls Tryd.prog 13 #[.pointer none, .string x] w fun e w' => e = .returned (.tuple #[.int .i64 0, .bool false]) ∧ w = w' := by
  go_enter Tryd.func13, Tryd.ntmps13
  go_wp2_with fail
  go_ret2
  exact ⟨rfl, rfl⟩
set_option maxHeartbeats 400000 in
theorem len_any (w : World) (B p b : Nat) (v : Value) (l : Nms) (h : Tbl w B p b v l) :
    Calls Tryd.prog 14 #[.pointer (some ⟨p, 0, none⟩)] w fun e w' => e = .returned (.int .i64 (l.length : Nat)) ∧ w = w' := by
  obtain ⟨A, cap, rfl, h1, h2, c0, c1, _⟩ := h.open_
  go_enter Tryd.func14, Tryd.ntmps14
  go_wp2_with fail
  go_ret
  exact ⟨rfl, rfl⟩
theorem len_nil (w : World) : Calls Tryd.prog 14 #[.pointer none] w fun e w' => e = .returned (.int .i64 0) ∧ w = w' := by
  go_enter Tryd.func14, Tryd.ntmps14
  go_wp2_with fail
  go_ret
  exact ⟨rfl, rfl⟩
/-- A number's name. -/
def nameV (l : Nms) (i : Int) : List UInt8 := if 0 ≤ i ∧ i < (l.length : Int) then l.getD i.toNat [] else []
def nameB (l : Nms) (i : Int) : Bool := decide (0 ≤ i ∧ i < (l.length : Int))
set_option maxHeartbeats 800000 in
theorem nameAt_any (w : World) (B p b : Nat) (v : Value) (l : Nms) (i : Int) (h : Tbl w B p b v l) :
    Calls Tryd.prog 17 #[.pointer (some ⟨p, 0, none⟩), .int .i64 i] w fun e w' => e = .returned (.tuple #[.string (ba (nameV l i)), .bool (nameB l i)]) ∧ w = w' := by
  have hle := h.ok.le
  have hS := h.row.sl nc_len
  obtain ⟨A, cap, rfl, h1, h2, c0, c1, _⟩ := h.open_
  by_cases h0 : i < 0
  · have e1 : nameV l i = [] := if_neg (by omega)
    have e2 : nameB l i = false := decide_eq_false (by omega)
    have d : decide (i < 0) = true := decide_eq_true h0
    rw [e1, e2]
    clear e1 e2 hS
    go_enter Tryd.func17, Tryd.ntmps17
    go_wp2_with fail
    go_ret2
    exact ⟨rfl, rfl⟩
  · have d : decide (i < 0) = false := decide_eq_false h0
    by_cases h3 : i < (l.length : Int)
    · obtain ⟨k, rfl⟩ := Int.eq_ofNat_of_zero_le (show 0 ≤ i by omega)
      have hk : k < l.length := by omega
      obtain ⟨b', off, c, e, _, _, _, _, hx⟩ := hS.at_ hk
      injection e with e e' e''
      subst e
      obtain ⟨x, Hx⟩ : ∃ x, Hid (l[k] = x) := ⟨_, Lib.hid rfl⟩
      rw [Hx.out] at hx
      have hx0 : w.cell? ⟨b', off + k, none⟩ = some (.string (ba x)) := by simpa using hx 0 _ rfl
      have e1 : nameV l (k : Int) = x := by
        unfold nameV; rw [if_pos (by omega), Int.toNat_natCast, List.getD_eq_getElem?_getD, List.getElem?_eq_getElem hk, Hx.out]; rfl
      have e2 : nameB l (k : Int) = true := decide_eq_true (by omega)
      have q1 : (0 : Int) ≤ (k : Int) := by omega
      have d3 : decide (l.length ≤ k) = false := decide_eq_false (by omega)
      rw [e1, e2]
      clear e1 e2 hS hx e' e'' h0
      go_enter Tryd.func17, Tryd.ntmps17
      go_wp2_with fail
      go_ret2
      exact ⟨rfl, rfl⟩
    · have e1 : nameV l i = [] := if_neg (by omega)
      have e2 : nameB l i = false := decide_eq_false (by omega)
      have d3 : decide ((l.length : Int) ≤ i) = true := decide_eq_true (by omega)
      rw [e1, e2]
      clear e1 e2 hS h0 h3
      go_enter Tryd.func17, Tryd.ntmps17
      go_wp2_with fail
      go_ret2
      exact ⟨rfl, rfl⟩
theorem nameAt_nil (w : World) (i : Int) : Calls Tryd.prog 17 #[.pointer none, .int .i64 i] w fun e w' => e = .returned (.tuple #[.string (ba []), .bool false]) ∧ w = w' := by
  go_enter Tryd.func17, Tryd.ntmps17
  go_wp2_with fail
  go_ret2
  exact ⟨rfl, rfl⟩
set_option maxHeartbeats 400000 in
theorem all_any (w : World) (B p b : Nat) (v : Value) (l : Nms) (h : Tbl w B p b v l) :
    Calls Tryd.prog 19 #[.pointer (some ⟨p, 0, none⟩)] w (Made nc 1 9 l w) := by
  have HC := Lib.hid (nclone_any w v l (h.row.sl nc_len) (Nat.le_trans h.ok.le (by decide)))
  obtain ⟨A, cap, rfl, h1, h2, c0, c1, _⟩ := h.open_
  go_enter Tryd.func19, Tryd.ntmps19
  go_wp2_with fail
  refine HC.out.mono ?_
  rintro e w' ⟨v', rfl, ho, hb⟩
  have HO := Lib.hid ho
  have HB := Lib.hid hb
  clear ho hb
  go_wp2_with fail
  go_ret
  exact ⟨v', rfl, HO.out, HB.out⟩
theorem all_nil (w : World) : Calls Tryd.prog 19 #[.pointer none] w fun e w' => e = .returned (.slice none 0 0) ∧ w = w' := by
  go_enter Tryd.func19, Tryd.ntmps19
  go_wp2_with fail
  go_ret
  exact ⟨rfl, rfl⟩
theorem sorted_nil (w : World) : Calls Tryd.prog 16 #[.pointer none] w fun e w' => e = .returned (.slice none 0 0) ∧ w = w' := by
  go_enter Tryd.func16, Tryd.ntmps16
  go_wp2_with fail
  go_ret
  exact ⟨rfl, rfl⟩
theorem clone_nil (w : World) : Calls Tryd.prog 20 #[.pointer none] w fun e w' => e = .returned (.pointer none) ∧ w = w' := by
  go_enter Tryd.func20, Tryd.ntmps20
  go_wp2_with fail
  go_ret
  exact ⟨rfl, rfl⟩
theorem add_nil (w : World) (x : ByteArray) : Calls Tryd.prog 12 #[.pointer none, .string x] w fun e w' => e = .returned (.tuple #[.int .i64 0, .int .i64 1]) ∧ w = w' := by
  go_enter Tryd.func12, Tryd.ntmps12
  go_wp2_with fail
  go_ret2
  exact ⟨rfl, rfl⟩
end Go.Proofs.YtkagfddkfpeddaaDoor
