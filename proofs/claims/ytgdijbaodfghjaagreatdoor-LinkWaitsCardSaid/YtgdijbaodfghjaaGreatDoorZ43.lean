/-
  Texts of this claim, one behind the other: RowQ.
-/
import Derived.Test.YtgdijbaodfghjaaGreatDoorZ02
import Derived.Test.YtgdijbaodfghjaaGreatDoorZ14
import Derived.Test.YtgdijbaodfghjaaGreatDoorZ25
/-
  A block of ints of the call's own; make.
-/
namespace Go.Proofs.YtgdijbaodfghjaaGreatDoor
open Go.RowKit
set_option linter.unusedVariables false

def RowQ (w : World) (g m : Nat) (V : Nat → Int) : Prop := ∃ cs : Array Value, Blk w g 3 cs ∧ cs.size = m ∧ ∀ i, i < m → cs[i]? = some (.int .i64 (V i))
section
variable {w w' : World} {g m : Nat} {V : Nat → Int} {S : Nat → Prop}
theorem RowQ.cell (h : RowQ w g m V) {i : Nat} (hi : i < m) : w.cell? ⟨g, i, none⟩ = some (.int .i64 (V i)) := by
  obtain ⟨cs, hb, _, hc⟩ := h
  exact (hb.cell i).trans (hc i hi)
theorem RowQ.frozen (h : RowQ w g m V) (i : Nat) : w.frozen? ⟨g, i, none⟩ = false := by
  obtain ⟨cs, hb, _, _⟩ := h
  exact hb.frozen i
theorem RowQ.lt (h : RowQ w g m V) : g < w.heap.size := by
  obtain ⟨cs, hb, _, _⟩ := h
  exact hb.lt
theorem RowQ.chg (h : RowQ w g m V) (hc : Chg w w' S) (hn : ¬ S g) : RowQ w' g m V := by
  obtain ⟨cs, hb, h1, h2⟩ := h
  exact ⟨cs, hb.chg hc hn, h1, h2⟩
theorem RowQ.set_ (h : RowQ w g m V) {i : Nat} (hi : i < m) (u : Int) : RowQ (w.setCell ⟨g, i, none⟩ (.int .i64 u)) g m (Pl.updf V i u) := by
  obtain ⟨cs, hb, h1, h2⟩ := h
  refine ⟨_, Blk.set_ hb i _, by simpa using h1, fun j hj => ?_⟩
  by_cases e : j = i
  · subst e; rw [Pl.updf_same]; exact set_is (by omega)
  · rw [Pl.updf_ne _ _ e, set_at e]; exact h2 j hj
theorem RowQ.far (h : RowQ w g m V) {p : Addr} (hp : g ≠ p.block) (u : Value) : RowQ (w.setCell p u) g m V := by
  obtain ⟨cs, hb, h1, h2⟩ := h
  exact ⟨cs, Blk.far hb hp u, h1, h2⟩
theorem RowQ.below (h : RowQ w g m V) (hb : Below w.heap.size w w') : RowQ w' g m V := h.chg (Chg.of_below (S := fun _ => False) hb) (fun h => h)
theorem RowQ.congr {V' : Nat → Int} (h : RowQ w g m V) (e : ∀ i, i < m → V i = V' i) : RowQ w g m V' := by
  obtain ⟨cs, hb, h1, h2⟩ := h
  exact ⟨cs, hb, h1, fun i hi => by rw [← e i hi]; exact h2 i hi⟩
end
theorem rowQ_made (w : World) (m : Nat) : RowQ (w.alloc (.cells (madeCells #[.int .i64 0] m) 3)) w.heap.size m (fun _ => 0) := by
  have hl := toList_madeCells_one (.int .i64 0) m
  refine ⟨_, Blk.new _ _ _, by rw [← Array.length_toList, hl, List.length_replicate], fun i hi => ?_⟩
  rw [← Array.getElem?_toList, hl, List.getElem?_replicate, if_pos hi]
theorem made_q (m : Nat) (hm : m ≤ 1000) : ∀ wz, (Instr.makeSlice 26 (.int .i64 (m : Int)) (.int .i64 (m : Int))).run Tryz.prog wz = .ok (.slice (some ⟨wz.heap.size, 0, none⟩) m m) (wz.alloc (.cells (madeCells #[.int .i64 0] m) 3)) := fun wz => by
  obtain ⟨i0, hi, hz0, hz1, hz2⟩ := info_parts Tryz.intInfo
  have := run_make (P := Tryz.prog) wz 26 3 i0 (.int .i64 0) Tryz.underlying26 hi hz0 .i64 .i64 m m (by omega) (Int.le_refl _) (by rw [hz2]; omega) (by omega)
  rw [this, hz1]
  simp [Value.cells]
end Go.Proofs.YtgdijbaodfghjaaGreatDoor
