/-
  Texts of this claim, one behind the other: OpenT.
-/
import Derived.Test.YtgdijbaodfghjaaGreatDoorZ14
import Derived.Test.YtgdijbaodfghjaaGreatDoorZ15
/-
  Slices of steps as arguments: what came in reads as a list of steps.
-/
namespace Go.Proofs.YtgdijbaodfghjaaGreatDoor
open Go.ChangeShapes Go.WideShapes Go.Deep Go.RowKit Bkt
set_option linter.unusedVariables false

section
variable {H : Type} {enc : TypeId × Value → H} {w : World} {base : Nat} {spare : Nat → Bool} {held : Bool}
set_option maxRecDepth 100000 in
theorem el_step (n : Nat) (cs : List Value) (x : DataW H × List MemPlace) (h : DataW.trod enc Tryz.prog w base spare held n 65 cs = some x) : ∃ q : Pl.Stp, cs = StR.cells q := by
  obtain ⟨y0, y1, y2, m, _, hl, h0, h1, h2⟩ := trod_struct3 Tryz.underlying65 h
  have e7 : Tryz.prog.cellsOf 65 = 7 := by kernel_rfl
  have e5 : Tryz.prog.cellsOf 34 = 5 := by kernel_rfl
  have e3 : Tryz.prog.cellsOf 3 = 1 := by kernel_rfl
  rw [e7] at hl
  match cs, hl with
  | [c0, c1, c2, c3, c4, c5, c6], _ =>
    simp only [e3, e5, List.drop, List.take] at h0 h1 h2
    obtain ⟨n0, e0, _⟩ := DataW.trod_int Tryz.underlying3 h0
    obtain ⟨n1, e1, _⟩ := DataW.trod_int Tryz.underlying3 h1
    obtain ⟨q, hq⟩ := el_item _ _ _ h2
    simp only [List.cons.injEq, and_true] at e0 e1 hq
    obtain ⟨q0, q1, q2, q3, q4⟩ := hq
    subst e0; subst e1; subst q0; subst q1; subst q2; subst q3; subst q4
    exact ⟨⟨n0, n1, q⟩, rfl⟩
theorem open_steps {v : Value} {d : DataW H} {p : List MemPlace} {a : Option Addr} {len cap : Nat} (hv : v = .slice a len cap) (h : DataW.Trod enc Tryz.prog w base spare held 48 v d p) :
    len ≤ 9223372036854775807 ∧ ∃ l : List Pl.Stp, RdR StR w w.heap.size a len l :=
  open_recs StR Tryz.underlying48 (by kernel_rfl) el_step hv h
end
end Go.Proofs.YtgdijbaodfghjaaGreatDoor
