/-
  Texts of this claim, one behind the other: PlRd.
-/
import Derived.Test.YtgdijbaodfghjaaGreatDoorZ01
import Derived.Test.YtgdijbaodfghjaaGreatDoorZ02
import Derived.Deep.QuietTactic
import Derived.BigQuiet
import Derived.Deep.CutRange
import Derived.Deep.CutBlock
import Derived.WalkSpells
/-
  The reader of plant: its memory; take.
-/
namespace Go.Proofs.YtgdijbaodfghjaaGreatDoor
open Go.RowKit
set_option linter.unusedVariables false
def StrR : Rec ByteArray := ⟨1, fun s => [.string s], fun _ => rfl, by decide, ⟨#[]⟩⟩
structure RdrM (w : World) (g : Nat) (Aw : Option Addr) (cw : Nat) (Ap : Option Addr) (cp : Nat) (ws : List ByteArray) (ps : List Int) (at_ : Nat) (end_ : Int) (vt : Value) (many : Int) : Prop where
  blk : Blk w g 72 #[.slice Aw ws.length cw, .slice Ap ws.length cp, .int .i64 at_, .int .i64 end_, vt, .int .i64 many]
  rw_ : RdR StrR w w.heap.size Aw ws.length ws
  rp : RdI w w.heap.size Ap ws.length ps
  nw : ∀ ad, Aw = some ad → ad.block ≠ g
  np : ∀ ad, Ap = some ad → ad.block ≠ g
  le : at_ ≤ ws.length
  n : ws.length ≤ 2000
section
variable {w w' : World} {g : Nat} {Aw : Option Addr} {cw : Nat} {Ap : Option Addr} {cp : Nat} {ws : List ByteArray} {ps : List Int} {at_ : Nat} {end_ : Int} {vt : Value} {many : Int}
theorem RdrM.drewN (h : RdrM w g Aw cw Ap cp ws ps at_ end_ vt many) (q : Nat) : RdrM (w.drewN q) g Aw cw Ap cp ws ps at_ end_ vt many :=
  ⟨h.blk, h.rw_, h.rp, h.nw, h.np, h.le, h.n⟩
theorem RdrM.below (h : RdrM w g Aw cw Ap cp ws ps at_ end_ vt many) (hb : Below w.heap.size w w') : RdrM w' g Aw cw Ap cp ws ps at_ end_ vt many :=
  ⟨h.blk.below hb h.blk.lt, h.rw_.over hb (Nat.le_refl _), h.rp.over hb (Nat.le_refl _), h.nw, h.np, h.le, h.n⟩
theorem RdrM.next (h : RdrM w g Aw cw Ap cp ws ps at_ end_ vt many) (hl : at_ < ws.length) (q : Nat) :
    RdrM ((w.drewN q).setCell ⟨g, 2, none⟩ (.int .i64 ((at_ : Int) + 1))) g Aw cw Ap cp ws ps (at_ + 1) end_ vt many ∧ Chg w ((w.drewN q).setCell ⟨g, 2, none⟩ (.int .i64 ((at_ : Int) + 1))) (fun i => i = g) := by
  have hc : Chg w ((w.drewN q).setCell ⟨g, 2, none⟩ (.int .i64 ((at_ : Int) + 1))) (fun i => i = g) := Chg.setCell (p := ⟨g, 2, none⟩) (show Chg w (w.drewN q) (fun i => i = g) from Chg.drewN (Chg.refl w _) q) (fun _ => rfl) _
  refine ⟨⟨?_, ?_, ?_, h.nw, h.np, by omega, h.n⟩, hc⟩
  · have hb := (h.blk.drewN q).set_ 2 (.int .i64 ((at_ : Int) + 1))
    have e : ((at_ + 1 : Nat) : Int) = (at_ : Int) + 1 := by omega
    rw [e]
    exact hb
  · have := h.rw_.chg (Nat.le_refl _) hc (by intro ad e hg; exact h.nw ad e hg)
    exact this.more hc.size
  · have := h.rp.chg (Nat.le_refl _) hc (fun ad e hg => h.np ad e hg)
    exact this.more hc.size
end
def TakeRd (w : World) (g : Nat) (Aw : Option Addr) (cw : Nat) (Ap : Option Addr) (cp : Nat) (ws : List ByteArray) (ps : List Int) (at_ : Nat) (end_ : Int) (vt : Value) (many : Int) (s : ByteArray) (e : Ending) (w' : World) : Prop :=
  (ws[at_]? = some s ∧ e = .returned (.bool true) ∧ Hid (RdrM w' g Aw cw Ap cp ws ps (at_ + 1) end_ vt many ∧ Chg w w' (fun i => i = g))) ∨
  (ws[at_]? ≠ some s ∧ e = .returned (.bool false) ∧ Hid (RdrM w' g Aw cw Ap cp ws ps at_ end_ vt many ∧ Chg w w' (fun i => i = g)))
set_option maxHeartbeats 1000000 in
set_option maxRecDepth 100000 in
theorem take_rd (g : Nat) (Aw : Option Addr) (cw : Nat) (Ap : Option Addr) (cp : Nat) (ws : List ByteArray) (ps : List Int) (at_ : Nat) (end_ : Int) (vt : Value) (many : Int) (s : ByteArray) (w : World) (h : RdrM w g Aw cw Ap cp ws ps at_ end_ vt many) :
    Calls Tryz.prog 31 #[.pointer (some ⟨g, 0, none⟩), .string s] w (TakeRd w g Aw cw Ap cp ws ps at_ end_ vt many s) := by
  have c0 := h.blk.cell 0; have c2 := h.blk.cell 2; have f2 := h.blk.frozen 2
  simp at c0 c2
  have hn := h.n
  have hno : ws[at_]? ≠ some s → ∀ q, TakeRd w g Aw cw Ap cp ws ps at_ end_ vt many s (.returned (.bool false)) (w.drewN q) := fun hx q => Or.inr ⟨hx, rfl, Lib.hid ⟨h.drewN q, Chg.drewN (Chg.refl w _) q⟩⟩
  by_cases hlt : at_ < ws.length
  · have hyes : ws[at_]? = some s → ∀ q, TakeRd w g Aw cw Ap cp ws ps at_ end_ vt many s (.returned (.bool true)) ((w.drewN q).setCell ⟨g, 2, none⟩ (.int .i64 ((at_ : Int) + 1))) := fun hx q => Or.inl ⟨hx, rfl, Lib.hid (h.next hlt q)⟩
    obtain ⟨b, off, rfl, hb⟩ := h.rw_.addr hlt
    have x0 := h.rw_.all hlt 0 _ rfl
    have hx : ws[at_]? = some (ixR StrR ws at_) := by unfold ixR; rw [List.getD, List.getElem?_eq_getElem hlt]; rfl
    have e1 : off + (at_ * StrR.sz + 0) = off + at_ := by show off + (at_ * 1 + 0) = _; omega
    rw [e1] at x0
    clear h e1
    generalize ixR StrR ws at_ = t at *
    have il : (at_ : Int) < (ws.length : Int) := by omega
    by_cases he : t = s
    · subst he
      have HF := Lib.hid (hyes hx)
      clear hyes hno hx
      generalize hl : ws.length = n at *
      go_enter Tryz.func31, Tryz.ntmps31
      go_upto_region 1 with fail
      go_quiet (fail)
      go_wp2_with fail
      go_ret
      exact HF.out _
    · have HF := Lib.hid (hno (by rw [hx]; intro e; exact he (Option.some.inj e)))
      clear hyes hno hx
      generalize hl : ws.length = n at *
      have hte : (t.toList == s.toList) = false := by
        refine Bool.eq_false_iff.mpr fun hq => he ?_
        have hq := eq_of_beq hq
        rw [ByteArray.toList_eq, ByteArray.toList_eq] at hq
        exact ByteArray.ext (Array.toList_inj.mp hq)
      go_enter Tryz.func31, Tryz.ntmps31
      go_upto_region 1 with fail
      go_quiet (fail)
      go_wp2_with fail
      go_ret
      exact HF.out _
  · have HF := Lib.hid (hno (by rw [List.getElem?_eq_none (by omega)]; simp))
    clear hno
    have il : decide ((at_ : Int) < (ws.length : Int)) = false := decide_eq_false (by omega)
    clear h
    generalize hl : ws.length = n at *
    go_enter Tryz.func31, Tryz.ntmps31
    go_upto_region 1 with fail
    go_quiet (fail)
    go_wp2_with fail
    go_ret
    exact HF.out _
end Go.Proofs.YtgdijbaodfghjaaGreatDoor
