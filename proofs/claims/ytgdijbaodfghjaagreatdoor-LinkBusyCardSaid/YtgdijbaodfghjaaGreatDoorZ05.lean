/-
  Texts of this claim, one behind the other: PlFail.
-/
import Derived.Test.YtgdijbaodfghjaaGreatDoorZ03
import Derived.Test.YtgdijbaodfghjaaGreatDoorZ04
/-
  plant's reader: fail.
-/
namespace Go.Proofs.YtgdijbaodfghjaaGreatDoor
open Go.RowKit
set_option linter.unusedVariables false
def AtErr (k p : Int) (w : World) (e : Ending) (w' : World) : Prop := ∃ q : Nat, e = .returned (.iface 113 (.pointer (some ⟨q, 0, none⟩))) ∧ Blk w' q 115 #[.int .i64 k, .int .i64 p] ∧ w.heap.size ≤ q ∧ Below w.heap.size w w'
def whereAt (ws : List ByteArray) (ps : List Int) (at_ : Nat) (end_ : Int) : Int := if at_ < ws.length then ps.getD at_ 0 else end_
set_option maxHeartbeats 1000000 in
set_option maxRecDepth 100000 in
theorem fail_rd (g : Nat) (Aw : Option Addr) (cw : Nat) (Ap : Option Addr) (cp : Nat) (ws : List ByteArray) (ps : List Int) (at_ : Nat) (end_ : Int) (vt : Value) (many : Int) (k : Int) (w : World) (h : RdrM w g Aw cw Ap cp ws ps at_ end_ vt many) :
    Calls Tryz.prog 23 #[.pointer (some ⟨g, 0, none⟩), .int .i64 k] w (AtErr k (whereAt ws ps at_ end_) w) := by
  have c0 := h.blk.cell 0; have c1 := h.blk.cell 1; have c2 := h.blk.cell 2; have c3 := h.blk.cell 3
  simp at c0 c1 c2 c3
  have hn := h.n
  unfold whereAt
  by_cases hlt : at_ < ws.length
  · obtain ⟨b, off, rfl, hb⟩ := h.rp.addr hlt
    have x0 := h.rp.all rfl at_ hlt
    rw [if_pos hlt]
    clear h
    have il : (at_ : Int) < (ws.length : Int) := by omega
    generalize hl : ws.length = n at *
    generalize ps.getD at_ 0 = z at *
    go_enter Tryz.func23, Tryz.ntmps23
    go_upto_region 2 with fail
    go_quiet (fail)
    go_wp2_with fail
    go_upto_region 3 with fail
    go_quiet (fail)
    go_wp2_with fail
    go_ret
    exact ⟨w.heap.size, rfl, Blk.new _ _ _, Nat.le_refl _, Below.alloc (below_drewN (Below.refl _ w) _) (Nat.le_refl _) _⟩
  · rw [if_neg hlt]
    have il : decide ((at_ : Int) < (ws.length : Int)) = false := decide_eq_false (by omega)
    clear h
    generalize hl : ws.length = n at *
    go_enter Tryz.func23, Tryz.ntmps23
    go_upto_region 2 with fail
    go_quiet (fail)
    go_wp2_with fail
    go_ret
    exact ⟨w.heap.size, rfl, Blk.new _ _ _, Nat.le_refl _, Below.alloc (below_drewN (Below.refl _ w) _) (Nat.le_refl _) _⟩
end Go.Proofs.YtgdijbaodfghjaaGreatDoor
