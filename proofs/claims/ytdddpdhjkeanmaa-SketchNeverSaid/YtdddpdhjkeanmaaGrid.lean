/-
  The grid: its memory; Cell, NewGrid.
-/
import Derived.Test.YtdddpdhjkeanmaaChg
import Derived.Test.YtdddpdhjkeanmaaGridLaw
import Derived.Laws.Bits64
import Derived.Deep.QuietTactic
import Derived.BigQuiet
import Derived.Deep.RegionLaw
import Derived.WalkSpells
namespace Go.Proofs.Ytdddpdhjkeanmaa
open Go.RowKit
set_option linter.unusedVariables false
/-- a block of m ints -/
def RowI (w : World) (g m : Nat) (V : Nat → Int) : Prop := ∃ cs : Array Value, Blk w g 3 cs ∧ cs.size = m ∧ ∀ i, i < m → cs[i]? = some (.int .i64 (V i))
section
variable {w w' : World} {g m : Nat} {V : Nat → Int} {S : Nat → Prop}
theorem RowI.cell (h : RowI w g m V) {i : Nat} (hi : i < m) : w.cell? ⟨g, i, none⟩ = some (.int .i64 (V i)) := by
  obtain ⟨cs, hb, _, hc⟩ := h
  exact (hb.cell i).trans (hc i hi)
theorem RowI.frozen (h : RowI w g m V) (i : Nat) : w.frozen? ⟨g, i, none⟩ = false := by
  obtain ⟨cs, hb, _, _⟩ := h
  exact hb.frozen i
theorem RowI.lt (h : RowI w g m V) : g < w.heap.size := by
  obtain ⟨cs, hb, _, _⟩ := h
  exact hb.lt
theorem RowI.chg (h : RowI w g m V) (hc : Chg w w' S) (hn : ¬ S g) : RowI w' g m V := by
  obtain ⟨cs, hb, h1, h2⟩ := h
  exact ⟨cs, hb.chg hc hn, h1, h2⟩
theorem RowI.set_ (h : RowI w g m V) {i : Nat} (hi : i < m) (u : Int) : RowI (w.setCell ⟨g, i, none⟩ (.int .i64 u)) g m (fun j => if j = i then u else V j) := by
  obtain ⟨cs, hb, h1, h2⟩ := h
  refine ⟨_, Blk.set_ hb i _, by simpa using h1, fun j hj => ?_⟩
  rw [Array.getElem?_setIfInBounds]
  by_cases e : j = i
  · subst e
    rw [if_pos rfl, if_pos (by omega)]
    simp
  · rw [if_neg (fun x => e x.symm)]
    show cs[j]? = some (.int .i64 (if j = i then u else V j))
    rw [if_neg e]
    exact h2 j hj
theorem RowI.congr {V' : Nat → Int} (h : RowI w g m V) (e : ∀ i, i < m → V i = V' i) : RowI w g m V' := by
  obtain ⟨cs, hb, h1, h2⟩ := h
  exact ⟨cs, hb, h1, fun i hi => by rw [← e i hi]; exact h2 i hi⟩
end
theorem Try.intInfoG : (Try.prog.info? 3).map (fun i => (i.zero, i.size, i.bytes)) = some (some (.int .i64 0), 1, 8) := by kernel_rfl
theorem rowI_made (w : World) (m : Nat) : RowI (w.alloc (.cells (madeCells #[.int .i64 0] m) 3)) w.heap.size m (fun _ => 0) := by
  have hl := toList_madeCells_one (.int .i64 0) m
  refine ⟨_, Blk.new _ _ _, by rw [← Array.length_toList, hl, List.length_replicate], fun i hi => ?_⟩
  rw [← Array.getElem?_toList, hl, List.getElem?_replicate, if_pos hi]
theorem made_i (m : Nat) (hm : m ≤ 100000) : ∀ wz, (Instr.makeSlice 22 (.int .i64 (m : Int)) (.int .i64 (m : Int))).run Try.prog wz = .ok (.slice (some ⟨wz.heap.size, 0, none⟩) m m) (wz.alloc (.cells (madeCells #[.int .i64 0] m) 3)) := fun wz => by
  obtain ⟨i0, hi, hz0, hz1, hz2⟩ := info_parts Try.intInfoG
  have := run_make (P := Try.prog) wz 22 3 i0 (.int .i64 0) Try.underlying22 hi hz0 .i64 .i64 m m (by omega) (Int.le_refl _) (by rw [hz2]; omega) (by omega)
  rw [this, hz1]
  simp [Value.cells]
/-- the cell of a key in a row -/
def hashY (row : Nat) (key : Int) : Int := IntKind.u64.wrap (IntKind.u64.wrap (IntKind.u64.wrap key * (2 * (row : Int) + 3)) + (row : Int) * 40503)
def hashF (cells : Nat) (row : Nat) (key : Int) : Int := wrap64 ((bits BinOp.xor IntKind.u64 (hashY row key) (hashY row key / 128)).tmod (cells : Int))
theorem hash_bd (cells : Nat) (row : Nat) (key : Int) (hc : 1 ≤ cells ∧ cells ≤ 1000) : 0 ≤ hashF cells row key ∧ hashF cells row key < cells := by
  unfold hashF
  have h0 : 0 ≤ hashY row key ∧ hashY row key < 18446744073709551616 := by unfold hashY; rw [IntKind.wrap_u64]; omega
  obtain ⟨X, hX⟩ : ∃ X : Nat, hashY row key = (X : Int) := ⟨(hashY row key).toNat, by omega⟩
  rw [hX]
  have e : bits .xor .u64 (X : Int) ((X : Int) / 128) = ((X ^^^ X / 128 : Nat) : Int) := xorShift_u64 X 128 (by omega)
  rw [e]
  have e2 : (((X ^^^ X / 128 : Nat) : Int)).tmod (cells : Int) = (((X ^^^ X / 128) % cells : Nat) : Int) := by
    rw [Int.tmod_eq_emod_of_nonneg (by omega)]; omega
  rw [e2]
  have h3 : (X ^^^ X / 128) % cells < cells := Nat.mod_lt _ (by omega)
  rw [IntWalk.wrap64_in _ (by omega)]
  omega
structure GridM (w : World) (g ga rows cells : Nat) (V : Nat → Int) : Prop where
  blk : Blk w g 48 #[.int .i64 rows, .int .i64 cells, .slice (some ⟨ga, 0, none⟩) (rows * cells) (rows * cells)]
  arr : RowI w ga (rows * cells) V
  ne : g ≠ ga
  r : 1 ≤ rows ∧ rows ≤ 8
  c : 1 ≤ cells ∧ cells ≤ 1000
theorem GridM.chg {w w' : World} {g ga rows cells : Nat} {V : Nat → Int} {S : Nat → Prop} (h : GridM w g ga rows cells V) (hc : Chg w w' S) (hg : ¬ S g) (ha : ¬ S ga) : GridM w' g ga rows cells V :=
  ⟨h.blk.chg hc hg, h.arr.chg hc ha, h.ne, h.r, h.c⟩
theorem GridM.below {w w' : World} {g ga rows cells : Nat} {V : Nat → Int} (h : GridM w g ga rows cells V) (hb : Below w.heap.size w w') : GridM w' g ga rows cells V :=
  h.chg (Chg.of_below (S := fun _ => False) hb) (fun x => x) (fun x => x)
theorem GridM.congr {w : World} {g ga rows cells : Nat} {V V' : Nat → Int} (h : GridM w g ga rows cells V) (e : ∀ i, i < rows * cells → V i = V' i) : GridM w g ga rows cells V' :=
  ⟨h.blk, h.arr.congr e, h.ne, h.r, h.c⟩
theorem mul_bd {rows cells : Nat} (hr : 1 ≤ rows ∧ rows ≤ 8) (hc : 1 ≤ cells ∧ cells ≤ 1000) : rows * cells ≤ 8000 := Nat.mul_le_mul hr.2 hc.2
set_option maxRecDepth 100000 in
theorem cell_any (g : Nat) (rows cells : Nat) (vs : Value) (row : Nat) (key : Int) (w : World) (hk : Blk w g 48 #[.int .i64 rows, .int .i64 cells, vs]) (hr : row < rows) (hc : 1 ≤ cells ∧ cells ≤ 1000) (hr8 : rows ≤ 8) :
    Calls Try.prog 15 #[.pointer (some ⟨g, 0, none⟩), .int .i64 row, .int .i64 key] w fun e w' => e = .returned (.int .i64 (hashF cells row key)) ∧ w' = w := by
  have c0 := hk.cell 0; have c1 := hk.cell 1
  simp at c0 c1
  have d0 : decide ((row : Int) < 0) = false := decide_eq_false (by omega)
  have d1 : decide ((rows : Int) ≤ (row : Int)) = false := decide_eq_false (by omega)
  have d2 : decide (rows ≤ row) = false := decide_eq_false (by omega)
  go_enter Try.func15, Try.ntmps15
  go_wp2_with fail
  go_ret
  exact ⟨rfl, rfl⟩
def NewGridOut (w : World) (rows cells : Nat) (e : Ending) (w' : World) : Prop :=
  ∃ g ga, e = .returned (.tuple #[.pointer (some ⟨g, 0, none⟩), .nilIface]) ∧ Hid (GridM w' g ga rows cells (fun _ => 0) ∧ (w.heap.size ≤ g ∧ w.heap.size ≤ ga) ∧ Below w.heap.size w w')
set_option maxHeartbeats 1000000 in
set_option maxRecDepth 100000 in
theorem newGrid_any (rows cells : Nat) (w : World) (hr : 1 ≤ rows ∧ rows ≤ 8) (hc : 1 ≤ cells ∧ cells ≤ 1000) :
    Calls Try.prog 10 #[.int .i64 rows, .int .i64 cells] w (NewGridOut w rows cells) := by
  have hm := mul_bd hr hc
  have hmk := made_i (rows * cells) (by omega)
  have ev : wrap64 ((rows : Int) * (cells : Int)) = ((rows * cells : Nat) : Int) := by rw [IntWalk.wrap64_in _ (by omega)]; simp
  have ev2 : ((rows : Int) * (cells : Int)) = ((rows * cells : Nat) : Int) := by simp
  have d0 : decide ((rows : Int) < 1) = false := decide_eq_false (by omega)
  have d1 : decide ((8 : Int) < (rows : Int)) = false := decide_eq_false (by omega)
  have d2 : decide ((cells : Int) < 1) = false := decide_eq_false (by omega)
  have d3 : decide ((1000 : Int) < (cells : Int)) = false := decide_eq_false (by omega)
  have hfin : NewGridOut w rows cells (.returned (.tuple #[.pointer (some ⟨w.heap.size + 1, 0, none⟩), .nilIface])) ((w.alloc (.cells (madeCells #[.int .i64 0] (rows * cells)) 3)).alloc (.cells #[.int .i64 rows, .int .i64 cells, .slice (some ⟨w.heap.size, 0, none⟩) (rows * cells) (rows * cells)] 48)) := by
    have hb : Below w.heap.size w ((w.alloc (.cells (madeCells #[.int .i64 0] (rows * cells)) 3)).alloc (.cells #[.int .i64 rows, .int .i64 cells, .slice (some ⟨w.heap.size, 0, none⟩) (rows * cells) (rows * cells)] 48)) := by
      have h1 := (Below.refl w.heap.size w).alloc (Nat.le_refl _) (.cells (madeCells #[.int .i64 0] (rows * cells)) 3)
      exact h1.alloc h1.size _
    have hn := Blk.new (w.alloc (.cells (madeCells #[.int .i64 0] (rows * cells)) 3)) 48 #[.int .i64 rows, .int .i64 cells, .slice (some ⟨w.heap.size, 0, none⟩) (rows * cells) (rows * cells)]
    have hs : (w.alloc (.cells (madeCells #[.int .i64 0] (rows * cells)) 3)).heap.size = w.heap.size + 1 := by simp
    rw [hs] at hn
    refine ⟨w.heap.size + 1, w.heap.size, rfl, Lib.hid ⟨⟨hn, ?_, by omega, hr, hc⟩, ⟨by omega, Nat.le_refl _⟩, hb⟩⟩
    obtain ⟨cs, h1, h2, h3⟩ := rowI_made w (rows * cells)
    exact ⟨cs, h1.alloc _, h2, h3⟩
  have HFIN := Lib.hid hfin
  clear hfin
  generalize rows * cells = m at *
  go_enter Try.func10, Try.ntmps10
  go_wp2_with fail
  go_ret2
  exact HFIN.out
end Go.Proofs.Ytdddpdhjkeanmaa
