/- The document's table (timetableref07) in memory, and the walks of its calls but Sorted. -/
import Derived.Test.YtkagfddkfpeddaaDoorIj
namespace Go.Proofs.YtkagfddkfpeddaaDoor
open Go.RowKit Go.Maps It

/-- The document's table: its header at p, its row of names v, all from B on. -/
structure RTb (w : World) (B p : Nat) (v : Value) (l : Nms) : Prop where
  hdr : w.heap[p]? = some (.cells #[v] 49 (0, 0))
  row : Ow nc 1 w B 9 v l
  bp : B ≤ p
  vp : v.ownBlock ≠ some p
  ok : Ok l
def RIn (p : Nat) (v : Value) (k : Nat) : Prop := k = p ∨ v.ownBlock = some k
section
variable {w w' : World} {B p : Nat} {v : Value} {l : Nms}
theorem RTb.lt (h : RTb w B p v l) : p < w.heap.size := (Array.getElem?_eq_some_iff.1 h.hdr).1
theorem RTb.in_lt (h : RTb w B p v l) {k : Nat} (hk : RIn p v k) : B ≤ k ∧ k < w.heap.size := by
  rcases hk with rfl | hk
  · exact ⟨h.bp, h.lt⟩
  · exact h.row.lt hk
theorem RTb.keep (h : RTb w B p v l) (hk : ∀ k, k < w.heap.size → RIn p v k → w'.heap[k]? = w.heap[k]?) : RTb w' B p v l :=
  { h with hdr := (hk p h.lt (.inl rfl)).trans h.hdr, row := h.row.keep_ fun k hk2 => hk k (h.row.lt hk2).2 (.inr hk2) }
theorem RTb.below_ (h : RTb w B p v l) (hb : Below w.heap.size w w') : RTb w' B p v l := h.keep fun k hk _ => hb.block k hk
theorem RTb.drewN (h : RTb w B p v l) (n : Nat) : RTb (w.drewN n) B p v l := { h with row := h.row.drewN n }
theorem RTb.lower {B' : Nat} (h : RTb w B p v l) (hb : B' ≤ B) : RTb w B' p v l := { h with row := h.row.lower hb, bp := Nat.le_trans hb h.bp }
theorem RTb.open_ (h : RTb w B p v l) : ∃ A cap, v = .slice A l.length cap ∧ l.length ≤ cap ∧ cap ≤ maxLen ∧ w.cell? ⟨p, 0, none⟩ = some v ∧ w.frozen? ⟨p, 0, none⟩ = false := by
  obtain ⟨A, cap, e, h1, h2⟩ := h.row.shape
  exact ⟨A, cap, e, h1, h2, by rw [cell_of_row w p 0 _ _ (0, 0) h.hdr]; rfl, by simp [World.frozen?, h.hdr]⟩
end
namespace It
theorem num_of_take {l : Nms} {k : Nat} (hk : k < l.length) (hno : (l.take k).contains l[k] = false) : num l l[k] = k := by
  have hm : l.contains l[k] = true := List.contains_iff_mem.2 (List.getElem_mem hk)
  unfold num
  rw [if_pos hm]
  have hle : l.idxOf l[k] ≤ k := by
    rcases Nat.lt_or_ge k (l.idxOf l[k]) with h | h
    · have := List.not_of_lt_findIdx (p := fun x => x == l[k]) (xs := l) (i := k) h
      simp at this
    · exact h
  rcases Nat.lt_or_ge (l.idxOf l[k]) k with h | h
  · exfalso
    have h2 : l.idxOf l[k] < l.length := by omega
    have h3 : l[l.idxOf l[k]] = l[k] := List.getElem_idxOf h2
    have : l[k] ∈ l.take k := by
      rw [List.mem_take_iff_getElem]
      exact ⟨l.idxOf l[k], by omega, h3⟩
    rw [List.contains_iff_mem.2 this] at hno
    cases hno
  · omega
theorem num_none {l : Nms} {x : List UInt8} (h : l.contains x = false) : num l x = 0 := by unfold num; rw [if_neg (by rw [h]; decide)]
end It
set_option maxHeartbeats 1000000 in
theorem rnum_any (w : World) (B p : Nat) (v : Value) (l : Nms) (x : List UInt8) (h : RTb w B p v l) :
    Calls Tryd.prog 25 #[.pointer (some ⟨p, 0, none⟩), .string (ba x)] w fun e w' => e = .returned (.tuple #[.int .i64 (num l x : Nat), .bool (l.contains x)]) ∧ w = w' := by
  have hS := h.row.sl nc_len
  have hle := h.ok.le
  obtain ⟨A, cap, rfl, h1, h2, c0, _⟩ := h.open_
  have HS := Lib.hid hS
  obtain ⟨R, hR⟩ : ∃ R : Ending → World → Prop, (fun e w' => e = Ending.returned (.tuple #[.int .i64 (num l x : Nat), .bool (l.contains x)]) ∧ w = w') = R := ⟨_, rfl⟩
  have HR := Lib.hid hR
  rw [hR]
  clear hS hR
  go_enter Tryd.func25, Tryd.ntmps25
  go_wp2_with fail
  go_loop [6] (fun s => ∃ k : Nat, k ≤ l.length ∧ s = .int .i64 (k : Int) ∧ Hid ((l.take k).contains x = false)) (fun s => l.length - (intOf s).toNat)
  case atStart => exact ⟨0, Nat.zero_le _, rfl, Lib.hid rfl⟩
  case round =>
    obtain ⟨k, hk, rfl, hno⟩ := hrel
    have q1 : (0 : Int) ≤ (k : Int) := by omega
    by_cases hlt : k < l.length
    · obtain ⟨b, off, rfl⟩ := HS.out.addr hlt
      have hc := HS.out.name hlt
      have hct := contains_take hlt x
      have hnt := num_of_take hlt
      have hmem : l.contains l[k] = true := List.contains_iff_mem.2 (List.getElem_mem hlt)
      have q2 : (k : Int) < (l.length : Int) := by omega
      by_cases hxy : l[k] = x
      · rw [hxy] at hc hnt hmem
        have HE := Lib.hid (show R (.returned (.tuple #[.int .i64 (k : Int), .bool true])) w by rw [← HR.out]; exact ⟨by rw [hnt hno.out, hmem], rfl⟩)
        have hbq : ((ba x).toList == (ba x).toList) = true := beq_self_eq_true _
        clear hct hnt hmem hxy
        go_wp2_with fail
        exact HE.out
      · have hbq : ((ba l[k]).toList == (ba x).toList) = false := by rw [ba_toList, ba_toList]; exact beq_eq_false_iff_ne.2 hxy
        have hn2 : Hid ((l.take (k + 1)).contains x = false) := Lib.hid (by rw [hct, hno.out, beq_eq_false_iff_ne.2 hxy]; rfl)
        generalize l[k] = y at *
        clear hct hnt hmem hxy
        go_wp2_with fail
        go_round
        case rel => exact ⟨k + 1, by omega, by go_num, hn2⟩
        case measure => simp [intOf]; omega
    · have hkl : k = l.length := by omega
      have q2 : ¬ (k : Int) < (l.length : Int) := by omega
      have HE := Lib.hid (show R (.returned (.tuple #[.int .i64 0, .bool false])) w by
        have hc : l.contains x = false := by have := hno.out; rwa [List.take_of_length_le (by omega)] at this
        rw [← HR.out]; exact ⟨by rw [num_none hc, hc]; rfl, rfl⟩)
      go_wp2_with fail
      exact HE.out
set_option maxHeartbeats 800000 in
theorem rname_at (w : World) (B p : Nat) (v : Value) (l : Nms) (i : Int) (h : RTb w B p v l) :
    Calls Tryd.prog 26 #[.pointer (some ⟨p, 0, none⟩), .int .i64 i] w fun e w' => e = .returned (.tuple #[.string (ba (nameV l i)), .bool (nameB l i)]) ∧ w = w' := by
  have hle := h.ok.le
  have hS := h.row.sl nc_len
  obtain ⟨A, cap, rfl, h1, h2, c0, _⟩ := h.open_
  by_cases h0 : i < 0
  · have e1 : nameV l i = [] := if_neg (by omega)
    have e2 : nameB l i = false := decide_eq_false (by omega)
    have d : decide (i < 0) = true := decide_eq_true h0
    rw [e1, e2]
    clear e1 e2 hS
    go_enter Tryd.func26, Tryd.ntmps26
    go_wp2_with fail
    go_ret2
    exact ⟨rfl, rfl⟩
  · have d : decide (i < 0) = false := decide_eq_false h0
    by_cases h3 : i < (l.length : Int)
    · obtain ⟨k, rfl⟩ := Int.eq_ofNat_of_zero_le (show 0 ≤ i by omega)
      have hk : k < l.length := by omega
      obtain ⟨b, off, rfl⟩ := hS.addr hk
      have hc := hS.name hk
      have e1 : nameV l (k : Int) = l[k] := by
        unfold nameV; rw [if_pos (by omega), Int.toNat_natCast, List.getD_eq_getElem?_getD, List.getElem?_eq_getElem hk]; rfl
      have e2 : nameB l (k : Int) = true := decide_eq_true (by omega)
      have q1 : (0 : Int) ≤ (k : Int) := by omega
      have d3 : decide (l.length ≤ k) = false := decide_eq_false (by omega)
      rw [e1, e2]
      generalize l[k] = y at *
      clear e1 e2 hS h0
      go_enter Tryd.func26, Tryd.ntmps26
      go_wp2_with fail
      go_ret2
      exact ⟨rfl, rfl⟩
    · have e1 : nameV l i = [] := if_neg (by omega)
      have e2 : nameB l i = false := decide_eq_false (by omega)
      have d3 : decide ((l.length : Int) ≤ i) = true := decide_eq_true (by omega)
      rw [e1, e2]
      clear e1 e2 hS h0 h3
      go_enter Tryd.func26, Tryd.ntmps26
      go_wp2_with fail
      go_ret2
      exact ⟨rfl, rfl⟩
/-- What Add leaves. -/
def RAdded (w : World) (B p : Nat) (v : Value) (l : Nms) (x : List UInt8) (e : Ending) (w' : World) : Prop :=
  ∃ v', e = .returned (.tuple #[.int .i64 (addV l x), .int .i64 (addE l x)]) ∧ RTb w' B p v' (addL l x) ∧ w.heap.size ≤ w'.heap.size ∧ (∀ k, k < w.heap.size → ¬ RIn p v k → w'.heap[k]? = w.heap[k]?) ∧ (v' = v ∨ v'.ownBlock = v.ownBlock ∨ ∃ g, v'.ownBlock = some g ∧ w.heap.size ≤ g) ∧ w'.os = w.os ∧ w'.tape = w.tape ∧ w'.output = w.output
theorem RAdded.same {w w' : World} {B p : Nat} {v : Value} {l : Nms} {x : List UInt8} {e : Ending} (h : RTb w B p v l) (he : e = .returned (.tuple #[.int .i64 (addV l x), .int .i64 (addE l x)])) (hl : addL l x = l) (hb : Below w.heap.size w w') : RAdded w B p v l x e w' :=
  ⟨v, he, by rw [hl]; exact h.below_ hb, hb.size, fun k hk _ => hb.block k hk, .inl rfl, hb.os, hb.tape, hb.output⟩
theorem RAdded.below {W w w' : World} {B p : Nat} {v : Value} {l : Nms} {x : List UInt8} {e : Ending} (h : RAdded w B p v l x e w') (ht : RTb w B p v l) (hb : Below B W w) : Below B W w' := by
  obtain ⟨v', _, _, hs, hk, _, h1, h2, h3⟩ := h
  refine ⟨h1.trans hb.os, h2.trans hb.tape, h3.trans hb.output, Nat.le_trans hb.size hs, fun k hk' => ?_⟩
  refine (hk k (Nat.lt_of_lt_of_le hk' (Nat.le_of_lt (Nat.lt_of_le_of_lt ht.bp ht.lt))) fun hin => ?_).trans (hb.block k hk')
  have := (ht.in_lt hin).1
  omega
/-- Behind the append and the store of the new row. -/
theorem RTb.added {w w1 w2 : World} {B p : Nat} {v v1 : Value} {l l' : Nms} {o : Obj} (h : RTb w1 B p v l) (hb : Below w.heap.size w w1) (hown : Ow nc 1 w2 B 9 v1 l') (hg : (w1.alloc o).grownBy w2 v.ownBlock) (hm : Moved (w1.alloc o) v v1) (hok : Ok l') :
    RTb (w2.setCell ⟨p, 0, none⟩ v1) B p v1 l' ∧ w.heap.size ≤ (w2.setCell ⟨p, 0, none⟩ v1).heap.size ∧ (∀ j, j < w.heap.size → ¬ RIn p v j → (w2.setCell ⟨p, 0, none⟩ v1).heap[j]? = w.heap[j]?) ∧ (v1.ownBlock = v.ownBlock ∨ ∃ g, v1.ownBlock = some g ∧ w.heap.size ≤ g) ∧ (w2.setCell ⟨p, 0, none⟩ v1).os = w.os ∧ (w2.setCell ⟨p, 0, none⟩ v1).tape = w.tape ∧ (w2.setCell ⟨p, 0, none⟩ v1).output = w.output := by
  have hsz : (w1.alloc o).heap.size = w1.heap.size + 1 := by simp
  have hsz2 : (w2.setCell ⟨p, 0, none⟩ v1).heap.size = w2.heap.size := by simp [World.setCell]
  have hmv : v1.ownBlock = v.ownBlock ∨ ∃ g, v1.ownBlock = some g ∧ w1.heap.size ≤ g := by
    rcases hm with e | ⟨g, e, hge⟩
    · exact .inl e
    · exact .inr ⟨g, e, by omega⟩
  have hv1p : v1.ownBlock ≠ some p := by
    rcases hmv with e | ⟨g, e, hge⟩
    · rw [e]; exact h.vp
    · rw [e]; intro e'; injection e' with e'; have := h.lt; omega
  have hlt := h.lt
  have hp2 : w2.heap[p]? = w1.heap[p]? := (hg.block p (by omega) (Ne.symm h.vp)).trans (Below.heap_alloc w1 o p hlt)
  have hp3 : (w2.setCell ⟨p, 0, none⟩ v1).heap[p]? = some (.cells #[v1] 49 (0, 0)) := by
    simp [World.setCell, Array.getElem?_modify, hp2, h.hdr]
  have hot : ∀ j, j ≠ p → (w2.setCell ⟨p, 0, none⟩ v1).heap[j]? = w2.heap[j]? := fun j hj => Below.heap_setCell w2 _ _ j hj
  refine ⟨⟨hp3, hown.keep_ fun k hk => hot k (fun e => hv1p (by rw [hk, e])), h.bp, hv1p, hok⟩, ?_, fun j hj hn => ?_, ?_, ?_, ?_, ?_⟩
  · have := hg.size; have := hb.size; omega
  · have hj1 : j < w1.heap.size := Nat.lt_of_lt_of_le hj hb.size
    rw [hot j (fun e => hn (.inl e)), hg.block j (by omega) (fun e => hn (.inr e.symm)), Below.heap_alloc w1 o j hj1]
    exact hb.block j hj
  · rcases hmv with e | ⟨g, e, hge⟩
    · exact .inl e
    · exact .inr ⟨g, e, Nat.le_trans hb.size hge⟩
  · exact hg.os.trans hb.os
  · exact hg.tape.trans hb.tape
  · exact hg.output.trans hb.output
set_option maxRecDepth 100000 in
set_option maxHeartbeats 1000000 in
theorem radd_any (w : World) (B p : Nat) (v : Value) (l : Nms) (x : List UInt8) (h : RTb w B p v l) (hx : x.length ≤ maxLen) (hB : B ≤ w.heap.size) :
    Calls Tryd.prog 24 #[.pointer (some ⟨p, 0, none⟩), .string (ba x)] w (RAdded w B p v l x) := by
  obtain ⟨i0, hi0, hz0, hz1, hz2⟩ := info_parts info_string
  have hN := rname_any (ba x) w (by rw [ba_size]; exact hx)
  rw [ba_list] at hN
  have HH := Lib.hid h
  have HNum := Lib.hid (fun wx (h : RTb wx B p v l) => rnum_any wx B p v l x h)
  obtain ⟨A, cap, rfl, h1, h2, c0, c2⟩ := h.open_
  rcases add_cases l x with n1 | ⟨n1, n2⟩ | ⟨n1, n2, n3⟩ | ⟨n1, n2, n3'⟩
  · obtain ⟨r1, r2, r3⟩ := add_name n1
    have R := Lib.hid (fun e w' => RAdded.same (e := e) (w' := w') (x := x) h)
    rw [r1, r2] at R
    rw [n1] at hN
    have HN := Lib.hid hN
    have HR3 := Lib.hid r3
    clear hN r1 r2 r3 h n1
    go_enter Tryd.func24, Tryd.ntmps24
    go_wp2_with fail
    refine HN.out.mono ?_
    rintro e w1 ⟨rfl, hb⟩
    have Hb := Lib.hid hb
    clear hb
    go_wp2_with fail
    go_ret2
    exact R.out _ _ rfl HR3.out Hb.out
  · obtain ⟨r1, r2, r3⟩ := add_there n1 n2
    have R := Lib.hid (fun e w' => RAdded.same (e := e) (w' := w') (x := x) h)
    rw [r1, r2] at R
    rw [n1] at hN
    rw [n2] at HNum
    have HN := Lib.hid hN
    have HR3 := Lib.hid r3
    generalize num l x = n at *
    clear hN r1 r2 r3 h n1 n2
    go_enter Tryd.func24, Tryd.ntmps24
    go_wp2_with fail
    refine HN.out.mono ?_
    rintro e w1 ⟨rfl, hb⟩
    have Hb := Lib.hid hb
    clear hb
    go_wp2_with fail
    refine (HNum.out w1 (HH.out.below_ Hb.out)).mono ?_
    rintro e w' ⟨rfl, rfl⟩
    go_wp2_with fail
    go_ret2
    exact R.out _ _ rfl HR3.out Hb.out
  · obtain ⟨r1, r2, r3⟩ := add_long n1 n2 n3
    have R := Lib.hid (fun e w' => RAdded.same (e := e) (w' := w') (x := x) h)
    rw [r1, r2] at R
    rw [n1] at hN
    rw [n2] at HNum
    have HN := Lib.hid hN
    have HR3 := Lib.hid r3
    generalize num l x = n at *
    have q1 : decide (4096 ≤ l.length) = true := decide_eq_true n3
    clear hN r1 r2 r3 h n1 n2
    go_enter Tryd.func24, Tryd.ntmps24
    go_wp2_with fail
    refine HN.out.mono ?_
    rintro e w1 ⟨rfl, hb⟩
    have Hb := Lib.hid hb
    obtain ⟨_, _, _, _, _, d0, d2⟩ := (HH.out.below_ hb).open_
    clear hb
    go_wp2_with fail
    refine (HNum.out w1 (HH.out.below_ Hb.out)).mono ?_
    rintro e w' ⟨rfl, rfl⟩
    go_wp2_with fail
    go_ret2
    exact R.out _ _ rfl HR3.out Hb.out
  · have HB := Lib.hid hB
    have hLen : ∀ (wx : World) o, (wx.alloc o).heap.size = wx.heap.size + 1 := fun wx o => by simp
    obtain ⟨r1, r2, r3⟩ := add_ok n1 n2 n3'
    rw [n1] at hN
    rw [n2] at HNum
    have HN := Lib.hid hN
    have HR := Lib.hid (And.intro r1 (And.intro r2 r3))
    have HOk := Lib.hid (show Ok (l ++ [x]) by have := h.ok.add x; rwa [r3] at this)
    have q1 : decide (4096 ≤ l.length) = false := decide_eq_false (by omega)
    generalize num l x = n at *
    clear hN r1 r2 r3 h n1 n2 hx hB
    go_enter Tryd.func24, Tryd.ntmps24
    go_wp2_with fail
    refine HN.out.mono ?_
    rintro e w1 ⟨rfl, hb⟩
    have Hb := Lib.hid hb
    have H1 := Lib.hid (HH.out.below_ hb)
    obtain ⟨_, _, _, _, _, d0, d2⟩ := H1.out.open_
    clear hb c0 c2
    go_wp2_with fail
    refine (HNum.out w1 H1.out).mono ?_
    rintro e w' ⟨rfl, rfl⟩
    go_wp2_with (at_builtin; refine wpList_append_sl _ rfl _ _ _ rfl B 9 i0 _ 16 Tryd.underlying22 hi0 hz0 hz1 hz2 rfl (by omega) nc_len nc_one (.slice A l.length cap) _ l [x] rfl rfl (H1.out.row.alloc _) (Sl.new1 (c := nc) (size := 1) x rfl) (by simp only [maxLen, List.length_cons, List.length_nil]; omega) (by simp only [List.length_cons, List.length_nil]; omega) (by have := HB.out; have := Hb.out.size; rw [hLen]; omega) ?_; intro v1 w2 hown1 hg1 hmv1; have R := Lib.hid (RTb.added H1.out Hb.out hown1 hg1 hmv1 HOk.out); obtain ⟨A1, cp1, e1, _, _⟩ := hown1.shape; rw [show (l ++ [x]).length = l.length + 1 from by simp] at e1; subst e1; have hst : w2.heap[p]? = w1.heap[p]? := (hg1.block p (by rw [hLen]; have := H1.out.lt; omega) (Ne.symm H1.out.vp)).trans (Below.heap_alloc w1 _ p H1.out.lt); have f0 : w2.cell? ⟨p, 0, none⟩ = some (.slice A l.length cap) := (World.cell?_of_block (a := ⟨p, 0, none⟩) hst).trans d0; have f2 : w2.frozen? ⟨p, 0, none⟩ = false := (by rw [← d2]; simp only [World.frozen?, hst]); clear hown1 hg1 hmv1 hst d0 d2)
    have R2 : RAdded w B p (.slice A l.length cap) l x (.returned (.tuple #[.int .i64 (l.length : Nat), .int .i64 0])) (w2.setCell ⟨p, 0, none⟩ (.slice A1 (l.length + 1) cp1)) :=
      ⟨.slice A1 (l.length + 1) cp1, by rw [HR.out.2.1, HR.out.1], by rw [HR.out.2.2]; exact R.out.1, R.out.2.1, R.out.2.2.1, .inr R.out.2.2.2.1, R.out.2.2.2.2⟩
    go_ret2
    exact R2
end Go.Proofs.YtkagfddkfpeddaaDoor
