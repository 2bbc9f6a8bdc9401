/-
  One more behind all, in a round of a range over a function.
-/
import Derived.Test.YtdipehgijjkfdaaDoorRgIn
import Derived.Test.YtdipehgijjkfdaaDoorWin
namespace Go.Proofs.YtdipehgijjkfdaaDoor
open Go.RowKit
set_option linter.unusedVariables false
theorem wpListIn_addW {α : Type} (R : Rec α) {P : Program} {l m : Nat} {w : World} {ops : Array Oper} {rest : List Oper} {o : Oper} {a : Act} {Q : Exit → Act → World → Prop} (hgd : o.guard = none) (s x : Operand) (t : TypeId)
    (base : Nat) (e : TypeId) (z : Value) (bytes : Nat) (ht : P.underlying t = some (.slice e)) (hinfo : (P.info? e).map (fun i => (i.zero, i.size, i.bytes)) = some (some z, R.sz, bytes))
    (ho : o.op = .call { callee := .builtin .append, args := #[s, x], argTypes := #[t, t] })
    (hzs : z.cells.size = R.sz) (v : Value) (n : Nat) (ys : List α) (y : α) (cs : Array Value) (hown : OwnW w base e R.sz v n (ys.flatMap R.cells)) (hs : a.eval s = v) (hcs : cs.toList = R.cells y)
    (hx : a.eval x = .slice (some ⟨w.heap.size, 0, none⟩) 1 1) (h1 : ∀ u ∈ R.cells y, u.oneCell' = true)
    (hn : n ≤ 1000000) (hbytes : bytes ≤ 1000) (hbase : base ≤ w.heap.size)
    (h : ∀ v' w', OwnW w' base e R.sz v' (n + 1) ((ys ++ [y]).flatMap R.cells) → w.grownBy w' v.ownBlock → (v'.ownBlock = v.ownBlock ∨ ∀ g, v'.ownBlock = some g → w.heap.size < g) → wpListIn (Fence.wide.inRound l) m P ops Q rest (a.put o.dst v') w') :
    wpListIn (Fence.wide.inRound l) m P ops Q (o :: rest) a (w.alloc (.cells cs e)) := by
  obtain ⟨i0, hi, hz0, hz1, hz2⟩ := info_parts hinfo
  have hb2 : (n + 1) * bytes ≤ 1000001 * 1000 := Nat.mul_le_mul (by omega) hbytes
  refine wpListIn_plain hgd fun _ hK => oper_in (by unfold noDefer; rw [ho]) ?_
  refine wp_append_win (w.alloc (.cells cs e)) s x t base e i0 z R.sz bytes ht hi hz0 hz1 hz2 hzs R.pos v n (ys.flatMap R.cells) (hown.alloc _) ho hs ⟨w.heap.size, 0, none⟩ 1 1 (R.cells y) hx (by rw [R.len, Nat.one_mul]) ?_ h1
    (by simp only [maxLen]; omega) (by omega) (by simp; omega) ?_
  · intro j u hu
    have e1 : (⟨w.heap.size, 0, none⟩ : Addr).add j = ⟨w.heap.size, j, none⟩ := by unfold Addr.add; split <;> simp_all
    rw [e1, (Blk.new w e cs).cell j, ← hu, ← hcs]
    simp
  · intro v' w' hown' hg hat
    rw [← flatR_app] at hown'
    refine hK _ _ (h v' w' hown' ((World.grownBy_alloc w (.cells cs e) v.ownBlock).trans hg) (hat.imp id fun h g hgv => ?_))
    have := h g hgv
    simp at this
    omega
end Go.Proofs.YtdipehgijjkfdaaDoor
