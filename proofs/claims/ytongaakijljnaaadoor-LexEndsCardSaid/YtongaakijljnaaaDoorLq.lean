/- The law LexPlaces: its walk. -/
import Derived.Test.YtongaakijljnaaaDoorLp
import Derived.Test.YtongaakijljnaaaDoorLv4
namespace Go.Proofs.YtongaakijljnaaaDoor
open Go.RowKit
def icn (x : Nat) : List Value := [.int .i64 (x : Int)]
theorem icn_len : ∀ x, (icn x).length = 1 := fun _ => rfl
theorem icn_one : ∀ x, ∀ u ∈ icn x, u.oneCell' = true := by intro x u hu; simp [icn] at hu; subst hu; rfl
theorem info_int : (Tryd.prog.info? 3).map (fun i => (i.zero, i.size, i.bytes)) = some (some (.int .i64 0), 1, 8) := by kernel_rfl
theorem Ow.newl {α : Type} {c : α → List Value} {size : Nat} {w : World} {H n base : Nat} {t : TypeId} {cs : Array Value} (l : List α) (hc : ∀ a, (c a).length = size) (hcs : cs.toList = l.flatMap c) (hn : l.length = n) (hm : n ≤ maxLen) (hH : w.heap.size = H) (hb : base ≤ H) :
    Ow c size (w.alloc (.cells cs t)) base t (.slice (some ⟨H, 0, none⟩) n n) l := by
  subst hH hn
  have hl : (l.flatMap c).length = l.length * size := flat_length hc l
  refine ⟨by rw [hl], .inr ⟨w.heap.size, l.length, cs, rfl, hb, heap_alloc_new w _, Nat.le_refl _, hm, by rw [← Array.length_toList, hcs, hl], by rw [hcs, List.take_of_length_le (by rw [hl]; exact Nat.le_refl _)]⟩⟩
/-- A row of one's own, and a block made: appended to, it is one's own still. -/
theorem app_keep {α : Type} {c : α → List Value} {size base : Nat} {t : TypeId} {v : Value} {l : List α} {w0 w w' : World} {o : Obj} (h : Below base w0 w) (hbase : base ≤ w.heap.size) (ho : Ow c size w base t v l) (hg : (w.alloc o).grownBy w' v.ownBlock) : Below base w0 w' :=
  (h.alloc hbase o).grown hg (by have := Nat.le_succ w.heap.size; simp; omega) fun k hk => (ho.lt hk).1
theorem startsTo_len (L : List UInt8) (n : Nat) : 1 ≤ (startsTo L n).length ∧ (startsTo L n).length ≤ n + 1 := by
  unfold startsTo
  rw [List.length_cons, List.length_map]
  have := List.length_filter_le (fun j => L.getD j 0 == 10) (List.range n)
  rw [List.length_range] at this
  omega
theorem getD_byte (s : ByteArray) {k : Nat} (h : k < s.size) : s.data.toList.getD k 0 = s[k] := by
  have hl : k < s.data.toList.length := by rw [Nm.len_size]; exact h
  rw [List.getD_eq_getElem?_getD, List.getElem?_eq_getElem hl, ← Nm.byte_at s h]; rfl
/-- The token ahead of number k. -/
def lastT (l : List TokD) (k : Nat) : TokD := (⟨4, [], 0, 0, 0⟩ :: l).getD k ⟨4, [], 0, 0, 0⟩
theorem lastT_succ (l : List TokD) (k : Nat) (h : k < l.length) : lastT l (k + 1) = l[k] := by
  unfold lastT
  rw [List.getD_cons_succ, List.getD_eq_getElem?_getD, List.getElem?_eq_getElem h]; rfl
/-- What the law asks of a token. -/
theorem pl_round {L : List UInt8} {l : List TokD} {k : Nat} (h : Pl L l) (hk : k < l.length) :
    ∃ ln cl og : Nat, l[k].line = (ln : Int) + 1 ∧ l[k].col = (cl : Int) + 1 ∧ (startsTo L L.length)[ln]? = some og ∧
      ((lastT l k).line < l[k].line ∨ ((lastT l k).line = l[k].line ∧ (lastT l k).col < l[k].col)) ∧
      ((l[k].kind = 4 ∧ (lastT l k).kind ≠ 4 ∧ (lastT l k).line = l[k].line ∧ l[k].text = [] ∧ og + cl ≤ L.length ∧ (og + cl < L.length → L.getD (og + cl) 0 = 10)) ∨
       (l[k].kind ≠ 4 ∧ ((lastT l k).kind ≠ 4 → (lastT l k).line = l[k].line) ∧ 0 < l[k].text.length ∧ og + cl + l[k].text.length ≤ L.length ∧ (L.drop (og + cl)).take l[k].text.length = l[k].text)) := by
  obtain ⟨⟨ln, cl, og, h1, h2, h3, h4⟩, h5, h6⟩ := h k l[k] (List.getElem?_eq_getElem hk)
  refine ⟨ln, cl, og, h1, h2, h3, ?_⟩
  cases k with
  | zero =>
    have h7 := h5 rfl
    have hz : lastT l 0 = ⟨4, [], 0, 0, 0⟩ := rfl
    rw [hz]
    refine ⟨.inl (by show (0 : Int) < _; omega), ?_⟩
    rcases h4 with h4 | ⟨h4, h8⟩
    · exact absurd h4.1 h7
    · exact .inr ⟨h4, fun e => absurd rfl e, h8⟩
  | succ j =>
    have hp := h6 l[j] (Nat.succ_pos j) (by rw [Nat.add_sub_cancel]; exact List.getElem?_eq_getElem _)
    rw [lastT_succ l j (by omega)]
    obtain ⟨p1, p2, p3⟩ := hp
    refine ⟨p1, ?_⟩
    rcases h4 with ⟨h4, h8⟩ | ⟨h4, h8⟩
    · obtain ⟨q1, q2⟩ := p2 h4
      exact .inl ⟨h4, q1, q2, h8⟩
    · exact .inr ⟨h4, p3 h4, h8⟩
theorem lastT_end {l : List TokD} (h : ∀ t, l.getLast? = some t → t.kind = 4) : (lastT l l.length).kind = 4 := by
  rcases Nat.eq_zero_or_pos l.length with h0 | h0
  · rw [h0]; rfl
  · obtain ⟨j, hj⟩ : ∃ j, l.length = j + 1 := ⟨l.length - 1, by omega⟩
    rw [hj, lastT_succ l j (by omega)]
    refine h _ ?_
    rw [List.getLast?_eq_getElem?, show l.length - 1 = j by omega]
    exact List.getElem?_eq_getElem _
theorem extract_ba (s : ByteArray) (a b : Nat) : s.extract a b = ba ((s.data.toList.drop a).take (b - a)) := by
  apply ByteArray.ext
  rw [ByteArray.data_extract]
  apply Array.toList_inj.1
  show _ = (ba _).data.toList
  rw [ba_list]
  simp only [Array.toList_extract, List.extract_eq_take_drop]
set_option maxHeartbeats 4000000 in
set_option maxRecDepth 100000 in
theorem lplaces_any (s : ByteArray) (w : World) (hT : Tabs w) (hL : LibOk w) :
    Calls Tryd.prog 3 #[.string s] w fun e w' => e = .returned (.bool true) ∧ Below w.heap.size w w' := by
  obtain ⟨j0, hj0, hy0, hy1, hy2⟩ := info_parts info_int
  have HT := Lib.hid hT
  have HL := Lib.hid hL
  clear hT hL
  go_enter Tryd.func3, Tryd.ntmps3
  go_wp2_with fail
  refine (lives_any w HT.out HL.out).mono ?_
  rintro e w1 ⟨rfl, hb1⟩
  have HB1 := Lib.hid hb1
  have HT1 := Lib.hid (HT.out.below hb1)
  have HL1 := Lib.hid (HL.out.below hb1)
  clear hb1
  by_cases hbig : s.size ≤ 3000
  · have t1 : ¬ (3000 : Int) < (s.size : Int) := by omega
    go_wp2_with fail
    refine (all_ok s w1 (by omega) HT1.out HL1.out).mono ?_
    rintro e w2 ⟨v2, rfl, ho2, hb2⟩
    obtain ⟨hpe, hpk⟩ := places s (by omega)
    obtain ⟨l, hl⟩ : ∃ l, (allD s).1 = l := ⟨_, rfl⟩
    obtain ⟨f, hf⟩ : ∃ f, (allD s).2 = f := ⟨_, rfl⟩
    obtain ⟨fe, fl, fc⟩ := f
    rw [hl] at ho2 hpe hpk
    rw [hf] at hpe hpk ⊢
    dsimp only at hpe hpk
    dsimp only [FaultD.v]
    obtain ⟨A1, n1, c1, rfl⟩ := ow_form ho2
    have hn1 : n1 = l.length := by
      obtain ⟨A, cap, e, _⟩ := ho2.shape
      injection e
    subst hn1
    have HO2 := Lib.hid ho2
    have HB2 := Lib.hid (HB1.out.trans (hb2.mono HB1.out.size))
    have hlm : (l.length : Int) ≤ 9223372036854775807 := by
      obtain ⟨A, cap, e, h1, h2⟩ := ho2.shape
      unfold maxLen at h2
      omega
    have HPE := Lib.hid hpe
    have HPK := Lib.hid hpk
    clear ho2 hb2 hl hf hpe hpk
    by_cases he : fe = 0
    · have e0 : (fe == 0) = true := beq_iff_eq.2 he
      have e1 : (fe != 0) = false := by rw [bne, e0]; rfl
      obtain ⟨hpl, hlast⟩ := HPK.out he
      have HPL := Lib.hid hpl
      have HLAST := Lib.hid (lastT_end hlast)
      clear he hpl hlast HPK HPE
      have t2 : ¬ (s.size : Int) < 0 := by omega
      go_wp2_with fail
      go_loopg [6, 5] s.size (fun gg i v wr => ∃ k : Nat, k ≤ s.size ∧ s.size - k ≤ gg ∧ i = .int .i64 k ∧ Ow icn 1 wr w2.heap.size 3 v (startsTo s.data.toList k) ∧ Below w2.heap.size w2 wr)
      case atStart => exact ⟨0, Nat.zero_le _, by omega, rfl, (Ow.newl (startsTo s.data.toList 0) icn_len rfl rfl (by show 1 ≤ maxLen; decide) (by simp) (Nat.le_succ _)), ((Below.refl _ _).alloc (Nat.le_refl _) _).alloc (by simp) _⟩
      case round =>
        obtain ⟨k, hk, hgg, rfl, ho, hb⟩ := hrel
        have hsz : w2.heap.size ≤ wr.heap.size := hb.size
        have hsl := startsTo_len s.data.toList k
        by_cases hlt : k < s.size
        · have q1 : (0 : Int) ≤ (k : Int) := by omega
          have q2 : (k : Int) < (s.size : Int) := by omega
          obtain ⟨y, hy⟩ : ∃ y, s[k] = y := ⟨_, rfl⟩
          have HY := Lib.hid hy
          have HO := Lib.hid ho
          have HB := Lib.hid hb
          have HSZ := Lib.hid hsz
          clear ho hb hsz
          by_cases hy10 : y.toNat = 10
          · have t10 : ((y.toNat : Int) == 10) = true := beq_iff_eq.2 (by omega)
            have E := Lib.hid (startsTo_yes s.data.toList k (by rw [getD_byte s hlt, HY.out]; exact UInt8.toNat_inj.1 hy10))
            clear hy10
            go_wp2_with (at_builtin; refine wpList_append_sl _ rfl _ _ _ rfl w2.heap.size 3 j0 _ 8 Tryd.underlying29 hj0 hy0 hy1 hy2 (by rfl) (by omega) icn_len icn_one _ _ (startsTo s.data.toList k) [k + 1] rfl rfl (HO.out.alloc _) (Sl.newl [k + 1] icn_len rfl rfl (by show 1 ≤ maxLen; decide) rfl) (by simp only [maxLen, List.length_cons, List.length_nil]; omega) (by simp only [List.length_cons, List.length_nil]; omega) (by have := HSZ.out; simp; omega) ?_; intro v6 w6 hown6 hg6 hmv6)
            go_roundg (s.size - (k + 1))
            case measure => omega
            case rel => exact ⟨k + 1, by omega, by omega, by go_num, by rw [E.out]; exact hown6, app_keep HB.out HSZ.out HO.out hg6⟩
          · have t10 : ((y.toNat : Int) == 10) = false := beq_eq_false_iff_ne.2 (by omega)
            have E := Lib.hid (startsTo_no s.data.toList k (fun e => hy10 (by rw [getD_byte s hlt, HY.out] at e; rw [e]; rfl)))
            clear hy10
            go_wp2_with fail
            go_roundg (s.size - (k + 1))
            case measure => omega
            case rel => exact ⟨k + 1, by omega, by omega, by go_num, by rw [E.out]; exact HO.out, HB.out⟩
        · have HK := Lib.hid (show k = s.size by omega)
          have hfull : k = s.size := by omega
          have t3 : ¬ (k : Int) < (s.size : Int) := by omega
          obtain ⟨A5, n5, c5, rfl⟩ := ow_form ho
          have hn5 : n5 = (startsTo s.data.toList k).length := by
            obtain ⟨A, cap, e, _⟩ := ho.shape
            injection e
          subst hn5
          have hst5 := ho.sl icn_len
          have HS5 := Lib.hid (hst5.mono (P' := fun _ => True) fun _ _ => trivial)
          have HL5 := Lib.hid ((HO2.out.sl tkc_len).below_ hb |>.mono (P' := fun _ => True) fun _ _ => trivial)
          have HB5 := Lib.hid (HB2.out.trans (hb.mono HB2.out.size))
          obtain ⟨N, hN⟩ : ∃ N, (startsTo s.data.toList k).length = N := ⟨_, rfl⟩
          have HKN := Lib.hid (show startsTo s.data.toList k = startsTo s.data.toList s.data.toList.length by rw [Nm.len_size, hfull])
          rw [hN] at hsl
          have HN := Lib.hid hN
          rw [hN]
          clear ho hb hst5 hgg HK
          obtain ⟨wB, rfl⟩ : ∃ wB, wB = wr := ⟨_, rfl⟩
          go_wp2_with fail
          go_loopg [10, 7, 8, 9] l.length (fun gg i v7 v8 v9 wx => ∃ k : Nat, k ≤ l.length ∧ l.length - k ≤ gg ∧ i = .int .i64 k ∧ v7 = .int .i64 (lastT l k).line ∧ v8 = .int .i64 (lastT l k).col ∧ v9 = .bool (decide ((lastT l k).kind ≠ 4)) ∧ Below wB.heap.size wB wx)
          case atStart => exact ⟨0, Nat.zero_le _, by omega, rfl, rfl, rfl, rfl, Below.refl _ _⟩
          case round =>
            obtain ⟨m, hm, hgg, rfl, rfl, rfl, rfl, hbx⟩ := hrel
            by_cases hml : m < l.length
            · obtain ⟨ln, cl, og, p1, p2, p3, p4, p5⟩ := pl_round HPL.out hml
              obtain ⟨b1, o1, cc, e1, _, _, hl1, _, hx⟩ := (HL5.out.below_ hbx).at_ hml
              injection e1 with e1 e2 e3
              subst e1
              have hlnN : ln < N := by rw [← HN.out, HKN.out]; exact (List.getElem?_eq_some_iff.1 p3).1
              have hlnN2 : ln < (startsTo s.data.toList k).length := by rw [HN.out]; exact hlnN
              obtain ⟨b5, o5, cc5, e5, _, _, hl5, _, hx5⟩ := (HS5.out.below_ hbx).at_ hlnN2
              injection e5 with e5 e6 e7
              subst e5
              have hog : (startsTo s.data.toList k)[ln] = og := by
                have h9 := p3
                rw [← HKN.out, List.getElem?_eq_getElem hlnN2] at h9
                injection h9
              rw [hog] at hx5
              have HX9 := Lib.hid (lastT_succ l m hml)
              obtain ⟨x, hx9⟩ : ∃ x, l[m] = x := ⟨_, rfl⟩
              rw [hx9] at hx p1 p2 p4 p5
              have HXM := Lib.hid hx9
              obtain ⟨kd, tx, nm, li, co⟩ := x
              dsimp only at p1 p2 p4 p5
              subst p1 p2
              have hx0 : wr.cell? ⟨b1, o1 + m * 5, none⟩ = some (.int .i64 kd) := by simpa using hx 0 _ rfl
              have hx1 : wr.cell? ⟨b1, o1 + m * 5 + 1, none⟩ = some (.string (ba tx)) := by simpa using hx 1 _ rfl
              have hx2 : wr.cell? ⟨b1, o1 + m * 5 + 2, none⟩ = some (.int .i64 nm) := by simpa using hx 2 _ rfl
              have hx3 : wr.cell? ⟨b1, o1 + m * 5 + 3, none⟩ = some (.int .i64 ((ln : Int) + 1)) := by simpa using hx 3 _ rfl
              have hx4 : wr.cell? ⟨b1, o1 + m * 5 + 4, none⟩ = some (.int .i64 ((cl : Int) + 1)) := by simpa using hx 4 _ rfl
              have hs5 : wr.cell? ⟨b5, o5 + ln, none⟩ = some (.int .i64 (og : Int)) := by simpa using hx5 0 _ rfl
              have hlz : s.data.toList.length = s.size := Nm.len_size _
              rw [hlz] at p5
              have HJ := Lib.hid (show (lastT l m).kind ≠ 4 → ∃ j, m = j + 1 ∧ wr.cell? ⟨b1, o1 + j * 5 + 3, none⟩ = some (.int .i64 (lastT l m).line) by
                intro hk4
                cases m with
                | zero => exact absurd rfl hk4
                | succ j =>
                  refine ⟨j, rfl, ?_⟩
                  rw [lastT_succ l j (by omega)]
                  obtain ⟨b9, o9, c9, e9, _, _, _, _, h9⟩ := (HL5.out.below_ hbx).at_ (show j < l.length by omega)
                  injection e9 with e9
                  injection e9 with e9
                  injection e9 with e9 e10
                  subst e9 e10
                  simpa using h9 3 _ rfl)
              obtain ⟨⟨pk, ptx, pn, pl, pc⟩, hpt⟩ : ∃ z, lastT l m = z := ⟨_, rfl⟩
              rw [hpt] at HJ p4 p5 ⊢
              dsimp only at HJ p4 p5 ⊢
              have HBX := Lib.hid hbx
              clear hx hx5 e2 e3 e6 e7 p3 hog hpt hx9 hbx
              have q1 : (0 : Int) ≤ (m : Int) := by omega
              have q2 : (m : Int) < (l.length : Int) := by omega
              have u1 : ¬ (ln : Int) + 1 < 1 := by omega
              have u2 : ¬ (N : Int) < (ln : Int) + 1 := by omega
              have u3 : ¬ (cl : Int) + 1 < 1 := by omega
              have u4 : ¬ (ln : Int) + 1 < pl := by omega
              have hat : og + cl ≤ s.size := by
                rcases p5 with h | h
                · exact h.2.2.2.2.1
                · have := h.2.2.2.1; omega
              have u5 : ((ln : Int) + 1 == pl && decide ((cl : Int) + 1 ≤ pc)) = false := by
                rcases p4 with h | h
                · rw [beq_eq_false_iff_ne.2 (by omega)]; rfl
                · rw [decide_eq_false (by omega), Bool.and_false]
              have HJ2 := Lib.hid (show pk ≠ 4 → ∃ j, m = j + 1 ∧ wr.cell? ⟨b1, o1 + j * 5 + 3, none⟩ = some (.int .i64 ((ln : Int) + 1)) from fun h => by
                obtain ⟨j, e, hc⟩ := HJ.out h
                refine ⟨j, e, ?_⟩
                rw [hc]
                rcases p5 with h5 | h5
                · rw [h5.2.2.1]
                · rw [h5.2.1 h])
              clear HJ
              have P5 := Lib.hid p5
              have P4 := Lib.hid p4
              clear p5 p4
              by_cases hlp : (ln : Int) + 1 = pl
              · subst hlp
                have v2 : ¬ (cl : Int) + 1 ≤ pc := by rcases P4.out with h | h <;> omega
                clear u5
                go_upto_region 21 with fail
                obtain ⟨wq, hwq⟩ : ∃ wq, wr.alloc (.cells #[.int .i64 kd, .string (ba tx), .int .i64 nm, .int .i64 ((ln : Int) + 1), .int .i64 ((cl : Int) + 1)] 31) = wq := ⟨_, rfl⟩
                have hqq : wq.heap[wr.heap.size]? = some (.cells #[.int .i64 kd, .string (ba tx), .int .i64 nm, .int .i64 ((ln : Int) + 1), .int .i64 ((cl : Int) + 1)] 31 (0, 0)) := by rw [← hwq]; exact heap_alloc_new _ _
                have HBQ := Lib.hid (show Below wB.heap.size wB wq by rw [← hwq]; exact HBX.out.alloc HBX.out.size _)
                have s5 : wq.cell? ⟨b5, o5 + ln, none⟩ = some (.int .i64 (og : Int)) := by rw [← hwq, World.cell?_alloc_lt _ _ ⟨b5, o5 + ln, none⟩ hl5]; exact hs5
                have HJQ := Lib.hid (show pk ≠ 4 → ∃ j, m = j + 1 ∧ wq.cell? ⟨b1, o1 + j * 5 + 3, none⟩ = some (.int .i64 ((ln : Int) + 1)) from fun h => by
                  obtain ⟨j, h1, h2⟩ := HJ2.out h
                  exact ⟨j, h1, by rw [← hwq, World.cell?_alloc_lt _ _ ⟨b1, o1 + j * 5 + 3, none⟩ hl1]; exact h2⟩)
                have x0 : wq.cell? ⟨wr.heap.size, 0, none⟩ = some (.int .i64 kd) := Lib.cell_of_heap hqq 0
                have x1 : wq.cell? ⟨wr.heap.size, 1, none⟩ = some (.string (ba tx)) := Lib.cell_of_heap hqq 1
                have x3 : wq.cell? ⟨wr.heap.size, 3, none⟩ = some (.int .i64 ((ln : Int) + 1)) := Lib.cell_of_heap hqq 3
                have x4 : wq.cell? ⟨wr.heap.size, 4, none⟩ = some (.int .i64 ((cl : Int) + 1)) := Lib.cell_of_heap hqq 4
                have HQQ := Lib.hid hqq
                rw [hwq]
                clear hwq hx0 hx1 hx2 hx3 hx4 hs5 hqq HJ2
                have r1 : (0 : Int) ≤ (ln : Int) := by omega
                have r2 : (ln : Int) < (N : Int) := by omega
                obtain ⟨a, ha⟩ : ∃ a : Nat, og + cl = a := ⟨_, rfl⟩
                have hai : (og : Int) + ((cl : Int) + 1) - 1 = (a : Int) := by omega
                have hai2 : (og : Int) + (cl : Int) = (a : Int) := by omega
                have HAI := Lib.hid ha
                rw [ha] at hat
                clear ha
                go_quiet (fail)
                by_cases hk4 : kd = 4
                · have k1 : (kd == 4) = true := beq_iff_eq.2 hk4
                  obtain ⟨c1a, c2a, c3a, c4a, c5a, c6a⟩ := P5.out.resolve_right fun h => h.1 hk4
                  subst hk4
                  obtain ⟨j, hj, xj⟩ := HJQ.out c2a
                  rw [show decide (pk ≠ 4) = true from decide_eq_true c2a]
                  have HC2 := Lib.hid c2a
                  have hjm : (m : Int) - 1 = (j : Int) := by omega
                  have rj0 : (0 : Int) ≤ (j : Int) := by omega
                  have rj1 : (j : Int) < (l.length : Int) := by omega
                  have ra : ¬ (s.size : Int) < (a : Int) := by omega
                  subst c4a
                  have x1' : wq.cell? ⟨wr.heap.size, 1, none⟩ = some (.string ⟨#[]⟩) := x1
                  have HC6 := Lib.hid c6a
                  clear c1a c2a c3a c5a c6a hj x1 P5 k1
                  by_cases hal : a < s.size
                  · have ra0 : (0 : Int) ≤ (a : Int) := by omega
                    have ra2 : (a : Int) < (s.size : Int) := by omega
                    obtain ⟨y, hy⟩ : ∃ y, s[a] = y := ⟨_, rfl⟩
                    have hy10 : y.toNat = 10 := by
                      have h9 := HC6.out (by rw [HAI.out]; exact hal)
                      rw [HAI.out, getD_byte s hal, hy] at h9
                      rw [h9]; rfl
                    have t10 : ((y.toNat : Int) == 10) = true := beq_iff_eq.2 (by omega)
                    have t11 : ((y.toNat : Int) != 10) = false := by rw [bne, t10]; rfl
                    clear hy10
                    go_upto_region 23 with fail
                    go_quiet (fail)
                    go_upto_region 29 with fail
                    go_quiet (fail)
                    go_wp2_with fail
                    go_roundg (l.length - (m + 1))
                    case measure => omega
                    case rel => exact ⟨m + 1, by omega, by omega, by go_num, by rw [HX9.out, HXM.out], by rw [HX9.out, HXM.out], by rw [HX9.out, HXM.out]; rfl, below_drewN HBQ.out _⟩
                  · have ra2 : ¬ (a : Int) < (s.size : Int) := by omega
                    have ra3 : decide ((a : Int) < (s.size : Int)) = false := decide_eq_false ra2
                    go_upto_region 23 with fail
                    go_quiet (fail)
                    go_upto_region 29 with fail
                    go_quiet (fail)
                    go_wp2_with fail
                    go_roundg (l.length - (m + 1))
                    case measure => omega
                    case rel => exact ⟨m + 1, by omega, by omega, by go_num, by rw [HX9.out, HXM.out], by rw [HX9.out, HXM.out], by rw [HX9.out, HXM.out]; rfl, below_drewN HBQ.out _⟩
                · have k1 : (kd == 4) = false := beq_eq_false_iff_ne.2 hk4
                  obtain ⟨c1a, c2a, c3a, c4a, c5a⟩ := P5.out.resolve_left fun h => hk4 h.1
                  obtain ⟨T, hT⟩ : ∃ T, ba tx = T := ⟨_, rfl⟩
                  have hTs : T.size = tx.length := by rw [← hT, ba_size]
                  have hcut : s.extract a (a + T.size) = T := by
                    rw [← hT, ba_size, extract_ba, Nat.add_sub_cancel_left, ← HAI.out, c5a]
                  rw [HAI.out, ← hTs] at c4a
                  rw [← hTs] at c3a
                  rw [hT] at x1
                  have HK4 := Lib.hid hk4
                  have ra : ¬ (s.size : Int) < (a : Int) + (T.size : Int) := by omega
                  have rb : ((T.size : Int) == 0) = false := beq_eq_false_iff_ne.2 (by omega)
                  have rc : (0 : Int) ≤ (a : Int) := by omega
                  have rd : (a : Int) ≤ (a : Int) + (T.size : Int) := by omega
                  have re : (a : Int) + (T.size : Int) ≤ (s.size : Int) := by omega
                  clear c1a c2a c5a hT hk4 P5 hTs
                  by_cases hp4 : pk = 4
                  · subst hp4
                    rw [show decide ((4 : Int) ≠ 4) = false from rfl]
                    clear HJQ
                    go_upto_region 26 with fail
                    go_quiet (fail)
                    go_upto_region 29 with fail
                    go_quiet (fail)
                    go_wp2_with fail
                    go_roundg (l.length - (m + 1))
                    case measure => omega
                    case rel => exact ⟨m + 1, by omega, by omega, by go_num, by rw [HX9.out, HXM.out], by rw [HX9.out, HXM.out], by rw [HX9.out, HXM.out, decide_eq_true HK4.out], below_drewN HBQ.out _⟩
                  · rw [show decide (pk ≠ 4) = true from decide_eq_true hp4]
                    obtain ⟨j, hj, xj⟩ := HJQ.out hp4
                    have hjm : (m : Int) - 1 = (j : Int) := by omega
                    have rj0 : (0 : Int) ≤ (j : Int) := by omega
                    have rj1 : (j : Int) < (l.length : Int) := by omega
                    clear HJQ hj hp4
                    go_upto_region 26 with fail
                    go_quiet (fail)
                    go_upto_region 29 with fail
                    go_quiet (fail)
                    go_wp2_with fail
                    go_roundg (l.length - (m + 1))
                    case measure => omega
                    case rel => exact ⟨m + 1, by omega, by omega, by go_num, by rw [HX9.out, HXM.out], by rw [HX9.out, HXM.out], by rw [HX9.out, HXM.out, decide_eq_true HK4.out], below_drewN HBQ.out _⟩
              · have v1 : ((ln : Int) + 1 == pl) = false := beq_eq_false_iff_ne.2 hlp
                clear u5
                go_upto_region 21 with fail
                obtain ⟨wq, hwq⟩ : ∃ wq, wr.alloc (.cells #[.int .i64 kd, .string (ba tx), .int .i64 nm, .int .i64 ((ln : Int) + 1), .int .i64 ((cl : Int) + 1)] 31) = wq := ⟨_, rfl⟩
                have hqq : wq.heap[wr.heap.size]? = some (.cells #[.int .i64 kd, .string (ba tx), .int .i64 nm, .int .i64 ((ln : Int) + 1), .int .i64 ((cl : Int) + 1)] 31 (0, 0)) := by rw [← hwq]; exact heap_alloc_new _ _
                have HBQ := Lib.hid (show Below wB.heap.size wB wq by rw [← hwq]; exact HBX.out.alloc HBX.out.size _)
                have s5 : wq.cell? ⟨b5, o5 + ln, none⟩ = some (.int .i64 (og : Int)) := by rw [← hwq, World.cell?_alloc_lt _ _ ⟨b5, o5 + ln, none⟩ hl5]; exact hs5
                have HJQ := Lib.hid (show pk ≠ 4 → ∃ j, m = j + 1 ∧ wq.cell? ⟨b1, o1 + j * 5 + 3, none⟩ = some (.int .i64 ((ln : Int) + 1)) from fun h => by
                  obtain ⟨j, h1, h2⟩ := HJ2.out h
                  exact ⟨j, h1, by rw [← hwq, World.cell?_alloc_lt _ _ ⟨b1, o1 + j * 5 + 3, none⟩ hl1]; exact h2⟩)
                have x0 : wq.cell? ⟨wr.heap.size, 0, none⟩ = some (.int .i64 kd) := Lib.cell_of_heap hqq 0
                have x1 : wq.cell? ⟨wr.heap.size, 1, none⟩ = some (.string (ba tx)) := Lib.cell_of_heap hqq 1
                have x3 : wq.cell? ⟨wr.heap.size, 3, none⟩ = some (.int .i64 ((ln : Int) + 1)) := Lib.cell_of_heap hqq 3
                have x4 : wq.cell? ⟨wr.heap.size, 4, none⟩ = some (.int .i64 ((cl : Int) + 1)) := Lib.cell_of_heap hqq 4
                have HQQ := Lib.hid hqq
                rw [hwq]
                clear hwq hx0 hx1 hx2 hx3 hx4 hs5 hqq HJ2
                have r1 : (0 : Int) ≤ (ln : Int) := by omega
                have r2 : (ln : Int) < (N : Int) := by omega
                obtain ⟨a, ha⟩ : ∃ a : Nat, og + cl = a := ⟨_, rfl⟩
                have hai : (og : Int) + ((cl : Int) + 1) - 1 = (a : Int) := by omega
                have hai2 : (og : Int) + (cl : Int) = (a : Int) := by omega
                have HAI := Lib.hid ha
                rw [ha] at hat
                clear ha
                go_quiet (fail)
                by_cases hk4 : kd = 4
                · have k1 : (kd == 4) = true := beq_iff_eq.2 hk4
                  obtain ⟨c1a, c2a, c3a, c4a, c5a, c6a⟩ := P5.out.resolve_right fun h => h.1 hk4
                  subst hk4
                  obtain ⟨j, hj, xj⟩ := HJQ.out c2a
                  rw [show decide (pk ≠ 4) = true from decide_eq_true c2a]
                  have HC2 := Lib.hid c2a
                  have hjm : (m : Int) - 1 = (j : Int) := by omega
                  have rj0 : (0 : Int) ≤ (j : Int) := by omega
                  have rj1 : (j : Int) < (l.length : Int) := by omega
                  have ra : ¬ (s.size : Int) < (a : Int) := by omega
                  subst c4a
                  have x1' : wq.cell? ⟨wr.heap.size, 1, none⟩ = some (.string ⟨#[]⟩) := x1
                  have HC6 := Lib.hid c6a
                  clear c1a c2a c3a c5a c6a hj x1 P5 k1
                  by_cases hal : a < s.size
                  · have ra0 : (0 : Int) ≤ (a : Int) := by omega
                    have ra2 : (a : Int) < (s.size : Int) := by omega
                    obtain ⟨y, hy⟩ : ∃ y, s[a] = y := ⟨_, rfl⟩
                    have hy10 : y.toNat = 10 := by
                      have h9 := HC6.out (by rw [HAI.out]; exact hal)
                      rw [HAI.out, getD_byte s hal, hy] at h9
                      rw [h9]; rfl
                    have t10 : ((y.toNat : Int) == 10) = true := beq_iff_eq.2 (by omega)
                    have t11 : ((y.toNat : Int) != 10) = false := by rw [bne, t10]; rfl
                    clear hy10
                    go_upto_region 23 with fail
                    go_quiet (fail)
                    go_upto_region 29 with fail
                    go_quiet (fail)
                    go_wp2_with fail
                    go_roundg (l.length - (m + 1))
                    case measure => omega
                    case rel => exact ⟨m + 1, by omega, by omega, by go_num, by rw [HX9.out, HXM.out], by rw [HX9.out, HXM.out], by rw [HX9.out, HXM.out]; rfl, below_drewN HBQ.out _⟩
                  · have ra2 : ¬ (a : Int) < (s.size : Int) := by omega
                    have ra3 : decide ((a : Int) < (s.size : Int)) = false := decide_eq_false ra2
                    go_upto_region 23 with fail
                    go_quiet (fail)
                    go_upto_region 29 with fail
                    go_quiet (fail)
                    go_wp2_with fail
                    go_roundg (l.length - (m + 1))
                    case measure => omega
                    case rel => exact ⟨m + 1, by omega, by omega, by go_num, by rw [HX9.out, HXM.out], by rw [HX9.out, HXM.out], by rw [HX9.out, HXM.out]; rfl, below_drewN HBQ.out _⟩
                · have k1 : (kd == 4) = false := beq_eq_false_iff_ne.2 hk4
                  obtain ⟨c1a, c2a, c3a, c4a, c5a⟩ := P5.out.resolve_left fun h => hk4 h.1
                  obtain ⟨T, hT⟩ : ∃ T, ba tx = T := ⟨_, rfl⟩
                  have hTs : T.size = tx.length := by rw [← hT, ba_size]
                  have hcut : s.extract a (a + T.size) = T := by
                    rw [← hT, ba_size, extract_ba, Nat.add_sub_cancel_left, ← HAI.out, c5a]
                  rw [HAI.out, ← hTs] at c4a
                  rw [← hTs] at c3a
                  rw [hT] at x1
                  have HK4 := Lib.hid hk4
                  have ra : ¬ (s.size : Int) < (a : Int) + (T.size : Int) := by omega
                  have rb : ((T.size : Int) == 0) = false := beq_eq_false_iff_ne.2 (by omega)
                  have rc : (0 : Int) ≤ (a : Int) := by omega
                  have rd : (a : Int) ≤ (a : Int) + (T.size : Int) := by omega
                  have re : (a : Int) + (T.size : Int) ≤ (s.size : Int) := by omega
                  clear c1a c2a c5a hT hk4 P5 hTs
                  by_cases hp4 : pk = 4
                  · subst hp4
                    rw [show decide ((4 : Int) ≠ 4) = false from rfl]
                    clear HJQ
                    go_upto_region 26 with fail
                    go_quiet (fail)
                    go_upto_region 29 with fail
                    go_quiet (fail)
                    go_wp2_with fail
                    go_roundg (l.length - (m + 1))
                    case measure => omega
                    case rel => exact ⟨m + 1, by omega, by omega, by go_num, by rw [HX9.out, HXM.out], by rw [HX9.out, HXM.out], by rw [HX9.out, HXM.out, decide_eq_true HK4.out], below_drewN HBQ.out _⟩
                  · rw [show decide (pk ≠ 4) = true from decide_eq_true hp4]
                    obtain ⟨j, hj, xj⟩ := HJQ.out hp4
                    have hjm : (m : Int) - 1 = (j : Int) := by omega
                    have rj0 : (0 : Int) ≤ (j : Int) := by omega
                    have rj1 : (j : Int) < (l.length : Int) := by omega
                    clear HJQ hj hp4
                    go_upto_region 26 with fail
                    go_quiet (fail)
                    go_upto_region 29 with fail
                    go_quiet (fail)
                    go_wp2_with fail
                    go_roundg (l.length - (m + 1))
                    case measure => omega
                    case rel => exact ⟨m + 1, by omega, by omega, by go_num, by rw [HX9.out, HXM.out], by rw [HX9.out, HXM.out], by rw [HX9.out, HXM.out, decide_eq_true HK4.out], below_drewN HBQ.out _⟩
            · have hml2 : m = l.length := by omega
              subst hml2
              have t4 : ¬ (l.length : Int) < (l.length : Int) := by omega
              have t5 : decide ((lastT l l.length).kind ≠ 4) = false := decide_eq_false fun h => h HLAST.out
              rw [t5]
              go_wp2_with fail
              go_ret
              exact ⟨rfl, HB5.out.trans (hbx.mono HB5.out.size)⟩
    · have e0 : (fe == 0) = false := beq_eq_false_iff_ne.2 he
      have e1 : (fe != 0) = true := by rw [bne, e0]; rfl
      obtain ⟨h1, h2, h3⟩ := HPE.out he
      subst h1
      clear HPK HPE he
      go_wp2_with fail
      go_ret
      exact ⟨rfl, HB2.out.alloc HB2.out.size _⟩
  · have t1 : (3000 : Int) < (s.size : Int) := by omega
    go_wp2_with fail
    go_ret
    exact ⟨rfl, HB1.out⟩
end Go.Proofs.YtongaakijljnaaaDoor
