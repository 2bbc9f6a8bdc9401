/-
  Texts of this claim, one behind the other: StepW.
-/
import Derived.Test.YtgdijbaodfghjaaGreatDoorZ10
import Derived.Test.YtgdijbaodfghjaaGreatDoorZ02
import Derived.StillTailTactics
import Derived.BigRegion
import Derived.Deep.RegionLaw
/-
  An append of one record as a step of a region that draws its order.
-/
namespace Go.Proofs.YtgdijbaodfghjaaGreatDoor
open Go.RowKit
set_option linter.unusedVariables false
theorem step_addW {α : Type} (R : Rec α) {P : Program} {W : World} {ops : Array Oper} {o : Oper} {a : Act} {K : Act → World → Prop} {Q : Exit → Act → World → Prop} {E : Prop} (hgd : o.guard = none) (s x : Operand) (t : TypeId)
    (base : Nat) (e : TypeId) (z : Value) (bytes : Nat) (ht : P.underlying t = some (.slice e)) (hinfo : (P.info? e).map (fun i => (i.zero, i.size, i.bytes)) = some (some z, R.sz, bytes))
    (ho : o.op = .call { callee := .builtin .append, args := #[s, x], argTypes := #[t, t] })
    (hzs : z.cells.size = R.sz) (v : Value) (n : Nat) (l : List α) (y : α) (hown : OwnW W base e R.sz v n (l.flatMap R.cells)) (hs : a.eval s = v)
    (hx : ∃ ad, a.eval x = .slice (some ad) 1 1 ∧ ∀ j u, (R.cells y)[j]? = some u → W.cell? (ad.add j) = some u) (h1 : ∀ u ∈ R.cells y, u.oneCell' = true)
    (hn : n ≤ 1000000) (hbytes : bytes ≤ 1000) (hbase : base ≤ W.heap.size)
    (h : ∀ v' w', OwnW w' base e R.sz v' (n + 1) ((l ++ [y]).flatMap R.cells) → W.grownBy w' v.ownBlock → (v'.ownBlock = v.ownBlock ∨ ∀ g, v'.ownBlock = some g → W.heap.size ≤ g) → K (a.put o.dst v') w') :
    if Region.wanted o (yielded ops a.tmps) = true then Oper.wp P o a W K Q else E := by
  have hw : Region.wanted o (yielded ops a.tmps) = true := by simp [Region.wanted, hgd]
  rw [if_pos hw]
  obtain ⟨ad, hx, hc⟩ := hx
  obtain ⟨i0, hi, hz0, hz1, hz2⟩ := info_parts hinfo
  have hb2 : (n + 1) * bytes ≤ 1000001 * 1000 := Nat.mul_le_mul (by omega) hbytes
  refine wp_append_win W s x t base e i0 z R.sz bytes ht hi hz0 hz1 hz2 hzs R.pos v n (l.flatMap R.cells) hown ho hs ad 1 1 (R.cells y) hx (by rw [R.len, Nat.one_mul]) hc h1
    (by simp only [maxLen]; omega) (by omega) hbase ?_
  intro v' w' hown' hg hat
  rw [← flatR_app] at hown'
  exact h v' w' hown' hg hat

end Go.Proofs.YtgdijbaodfghjaaGreatDoor
