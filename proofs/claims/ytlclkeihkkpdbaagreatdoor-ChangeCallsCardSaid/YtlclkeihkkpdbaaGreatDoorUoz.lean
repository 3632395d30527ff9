/- timetablekit.Same at updates; faults compared. -/
import Derived.Test.YtlclkeihkkpdbaaGreatDoorUn
import Derived.Lib.SliceRun
import Derived.Deep.QuietTactic
import Derived.BigQuiet
namespace Go.Proofs.YtlclkeihkkpdbaaGreatDoor
open Go.RowKit
theorem fault_eql (a1 a2 a3 b1 b2 b3 : Int) (W : World) : (Go.binOp BinOp.eql 30 (.agg #[.int .i64 a1, .int .i64 a2, .int .i64 a3]) (.agg #[.int .i64 b1, .int .i64 b2, .int .i64 b3])).run Tryz.prog W = .ok (.bool (decide (FaultD.mk a1 a2 a3 = FaultD.mk b1 b2 b3))) W := by
  rw [show decide (FaultD.mk a1 a2 a3 = FaultD.mk b1 b2 b3) = ((a1 == b1) && ((a2 == b2) && (a3 == b3))) by
    simp only [FaultD.mk.injEq, Bool.decide_and]; rfl]
  go_simp
  by_cases h1 : a1 = b1 <;> by_cases h2 : a2 = b2 <;> by_cases h3 : a3 = b3 <;> simp [h1, h2, h3]
/-- It returns a row of its own that holds l, and writes nothing that was there. -/
def Made {α : Type} (c : α → List Value) (size : Nat) (t : TypeId) (l : List α) (w : World) (e : Ending) (w' : World) : Prop :=
  ∃ v, e = .returned v ∧ Ow c size w' w.heap.size t v l ∧ Below w.heap.size w w'
theorem ret_bool' {a b : Bool} (h : a = b) : Ending.returned (.bool a) = .returned (.bool b) := by rw [h]
set_option maxHeartbeats 1000000 in
theorem sameUpd_any (va vb : Value) (la lb : List UpD) (w : World) {P Q : Nat → Prop} (ha : Sl upc 8 w va la P) (hb : Sl upc 8 w vb lb Q) (h1 : la.length ≤ 1048576) :
    Calls Tryz.prog 11 #[va, vb] w (Quiet (.bool (decide (la = lb))) w) := by
  obtain ⟨A, capa, rfl, ha1, ha2⟩ := ha.shape
  obtain ⟨B, capb, e, hb1, hb2⟩ := hb.shape
  by_cases hlen : la.length = lb.length
  · rw [← hlen] at e hb1
    subst e
    go_enter Tryz.func11, Tryz.ntmps11
    have Hlen := Lib.hid hlen
    clear hlen
    go_wp2
    go_loopw [5] (fun s wr => SameRel la lb w s wr) (fun s _ => la.length - (intOf s).toNat)
    case atStart => exact ⟨0, 0, Nat.zero_le _, rfl, rfl, rfl⟩
    case round =>
      obtain ⟨k, n, hk, rfl, hkk, rfl⟩ := hrel
      by_cases hlt : k < la.length
      · have hlt2 : k < lb.length := by rw [← Hlen.out]; exact hlt
        obtain ⟨b1, o1, c1, e1, _, _, hl1, _, hx⟩ := ha.at_ hlt
        obtain ⟨b2, o2, c2, e2, _, _, hl2, _, hy⟩ := hb.at_ hlt2
        injection e1 with e1 e1' e1''
        injection e2 with e2 e2' e2''
        subst e1 e2
        obtain ⟨x, Hx⟩ : ∃ x, Hid (la[k] = x) := ⟨_, Lib.hid rfl⟩
        obtain ⟨y, Hy⟩ : ∃ y, Hid (lb[k] = y) := ⟨_, Lib.hid rfl⟩
        rw [Hx.out] at hx
        rw [Hy.out] at hy
        have hx0 : w.cell? ⟨b1, o1 + k * 8, none⟩ = some (.int .i64 x.kind) := by simpa using hx 0 _ rfl
        have hx1 : w.cell? ⟨b1, o1 + k * 8 + 1, none⟩ = some (.string (ba x.name)) := by simpa using hx 1 _ rfl
        have hx2 : w.cell? ⟨b1, o1 + k * 8 + 2, none⟩ = some (.int .i64 x.no) := by simpa using hx 2 _ rfl
        have hx3 : w.cell? ⟨b1, o1 + k * 8 + 3, none⟩ = some (.int .i64 x.pos) := by simpa using hx 3 _ rfl
        have hx4 : w.cell? ⟨b1, o1 + k * 8 + 4, none⟩ = some (.int .i64 x.by_) := by simpa using hx 4 _ rfl
        have hx5 : w.cell? ⟨b1, o1 + k * 8 + 5, none⟩ = some (.int .i64 x.from_) := by simpa using hx 5 _ rfl
        have hx6 : w.cell? ⟨b1, o1 + k * 8 + 6, none⟩ = some (.int .i64 x.every) := by simpa using hx 6 _ rfl
        have hx7 : w.cell? ⟨b1, o1 + k * 8 + 7, none⟩ = some (.int .i64 x.len) := by simpa using hx 7 _ rfl
        have hy0 : w.cell? ⟨b2, o2 + k * 8, none⟩ = some (.int .i64 y.kind) := by simpa using hy 0 _ rfl
        have hy1 : w.cell? ⟨b2, o2 + k * 8 + 1, none⟩ = some (.string (ba y.name)) := by simpa using hy 1 _ rfl
        have hy2 : w.cell? ⟨b2, o2 + k * 8 + 2, none⟩ = some (.int .i64 y.no) := by simpa using hy 2 _ rfl
        have hy3 : w.cell? ⟨b2, o2 + k * 8 + 3, none⟩ = some (.int .i64 y.pos) := by simpa using hy 3 _ rfl
        have hy4 : w.cell? ⟨b2, o2 + k * 8 + 4, none⟩ = some (.int .i64 y.by_) := by simpa using hy 4 _ rfl
        have hy5 : w.cell? ⟨b2, o2 + k * 8 + 5, none⟩ = some (.int .i64 y.from_) := by simpa using hy 5 _ rfl
        have hy6 : w.cell? ⟨b2, o2 + k * 8 + 6, none⟩ = some (.int .i64 y.every) := by simpa using hy 6 _ rfl
        have hy7 : w.cell? ⟨b2, o2 + k * 8 + 7, none⟩ = some (.int .i64 y.len) := by simpa using hy 7 _ rfl
        have Hkk := Lib.hid hkk
        clear hkk hx hy e1' e1'' e2' e2''
        have q1 : (0 : Int) ≤ (k : Int) := by omega
        have q2 : (k : Int) < (la.length : Int) := by omega
        have hne := upd_neq x y
        by_cases hxy : x = y
        · rw [decide_eq_true hxy] at hne
          have Hxy := Lib.hid hxy
          clear hxy
          go_wp2
          go_quiet (fail)
          go_wp2
          go_roundw
          case rel => exact ⟨k + 1, _, by omega, by go_num, same_step hlt hlt2 Hkk.out (by rw [Hx.out, Hy.out]; exact Hxy.out), by first | rfl | exact World.drewN_drewN _ _ _⟩
          case measure => simp [intOf]; omega
        · rw [decide_eq_false hxy] at hne
          have hun := same_ne hlt hlt2 (by rw [Hx.out, Hy.out]; exact hxy)
          have Hun := Lib.hid hun
          clear hun hxy
          go_wp2
          go_quiet (fail)
          go_wp2
          go_ret
          exact ⟨ret_bool' (decide_eq_false Hun.out).symm, _, by first | rfl | exact World.drewN_drewN _ _ _⟩
      · have hkl : k = la.length := by omega
        subst hkl
        have Heq := Lib.hid (same_eq Hlen.out hkk)
        clear hkk
        go_wp2
        go_ret
        exact ⟨ret_bool' (decide_eq_true Heq.out).symm, n, rfl⟩
  · have hne : la ≠ lb := fun h => hlen (by rw [h])
    rw [decide_eq_false hne]
    obtain rfl := e
    have hd : ((la.length : Int) == (lb.length : Int)) = false := beq_eq_false_iff_ne.2 (by omega)
    clear hne hlen
    go_enter Tryz.func11, Tryz.ntmps11
    go_wp2
    go_ret
    exact ⟨rfl, 0, rfl⟩
end Go.Proofs.YtlclkeihkkpdbaaGreatDoor
