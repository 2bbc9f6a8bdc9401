/-
  A block of records reads as a list; a plain queue that was just made is its machine, empty.
-/
import Derived.Test.YtdhojhgmaodifaaDoorFifoImp
namespace Go.Proofs.YtdhojhgmaodifaaDoor
open Go.RowKit Bkt
set_option linter.unusedVariables false

theorem RdR.of_blk {α : Type} {R : Rec α} {w : World} {g : Nat} {t : TypeId} {cs : Array Value} {l : List α} (h : Blk w g t cs) (hc : cs.toList = l.flatMap R.cells) : RdR R w w.heap.size (some ⟨g, 0, none⟩) l.length l := by
  refine ⟨flatR_len l, fun _ => ⟨_, rfl, h.lt, fun j u hu => ?_⟩⟩
  rw [Addr.add_lit, Nat.zero_add, h.cell, ← hu, ← hc]
  simp
/-- a plain queue that was just made is its machine, empty -/
theorem Ffo.inv {w : World} {base g : Nat} {p : Pl.FP} {cs : Array Value} (h : Ffo w base g 0 120 cs (.slice none 0 0) [] p) (hg : base ≤ g) : FInv1 base g p [] 0 (fun i => i = g) w :=
  ⟨.slice none 0 0, cs, h, by simp, fun x hx => by simp at hx, Nat.le_trans hg (Nat.le_of_lt h.lst.blk.lt), by omega, hg, fun i => by simp [Value.ownBlock]⟩
end Go.Proofs.YtdhojhgmaodifaaDoor
