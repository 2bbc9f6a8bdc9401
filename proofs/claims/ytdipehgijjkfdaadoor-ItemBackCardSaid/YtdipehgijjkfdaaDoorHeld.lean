/-
  Small words for drawn regions: what lies below stays.
-/
import Derived.Test.YtdipehgijjkfdaaDoorMem
namespace Go.Proofs.YtdipehgijjkfdaaDoor
open Go.RowKit
theorem bl_drew {w0 w1 : World} (h : Below w0.heap.size w0 w1) : Below w0.heap.size w0 w1.drew := ⟨h.os, h.tape, h.output, h.size, h.block⟩
theorem bl_drewN {w0 w1 : World} {n : Nat} (h : Below w0.heap.size w0 w1) : Below w0.heap.size w0 (w1.drewN n) := ⟨h.os, h.tape, h.output, h.size, h.block⟩
theorem bl_alloc {w0 w1 : World} {o : Obj} (h : Below w0.heap.size w0 w1) : Below w0.heap.size w0 (w1.alloc o) := h.alloc h.size _
theorem bl_next {w0 w1 w2 : World} (h : Below w0.heap.size w0 w1) (h' : Below w1.heap.size w1 w2) : Below w0.heap.size w0 w2 := h.trans (h'.mono h.size)
theorem own_ov {w w' : World} {base : Nat} {e : TypeId} {size n : Nat} {v : Value} {xs : List Value} (h : w.ownsRow base e size v n xs) (hb : Below w.heap.size w w') : w'.ownsRow base e size v n xs :=
  h.kept (row := none) ⟨hb.os, hb.tape, hb.output, hb.size, fun i hi _ => hb.block i hi⟩ (by cases v.ownBlock <;> simp)
end Go.Proofs.YtdipehgijjkfdaaDoor
