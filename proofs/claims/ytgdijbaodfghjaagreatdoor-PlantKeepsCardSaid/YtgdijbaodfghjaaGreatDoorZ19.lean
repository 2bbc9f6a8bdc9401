/-
  Texts of this claim, one behind the other: ItRow.
-/
import Derived.Test.YtgdijbaodfghjaaGreatDoorZ18
import Derived.Test.YtgdijbaodfghjaaGreatDoorZ02
import Derived.Test.YtgdijbaodfghjaaGreatDoorZ14
import Derived.Deep.RegionLaw
/-
  Packets in a row; the append of a struct as a step of a region that draws its order.
-/
namespace Go.Proofs.YtgdijbaodfghjaaGreatDoor
open Go.RowKit Bkt
set_option linter.unusedVariables false

def ItR : Rec It := ⟨5, itCells, fun _ => rfl, by decide, It.zero⟩
theorem it_one (x : It) : ∀ u ∈ itCells x, u.oneCell' = true := by
  intro u hu
  simp [itCells] at hu
  rcases hu with rfl | rfl | rfl | rfl | rfl <;> rfl
theorem Tryz.itInfo : (Tryz.prog.info? 34).map (fun i => (i.zero, i.size, i.bytes)) = some (some (.agg #[.int .i64 0, .int .i64 0, .int .i64 0, .int .i64 0, .int .i64 0]), 5, 40) := by kernel_rfl
theorem sown_ne {w : World} {base e size n : Nat} {v : Value} {xs : List Value} {e' size' n' : Nat} {v' : Value} {xs' : List Value} (h : w.ownsRow base e size v n xs) (h' : w.ownsRow base e' size' v' n' xs') (hne : e ≠ e') : v'.ownBlock = none ∨ v'.ownBlock ≠ v.ownBlock := by
  rcases h'.2 with ⟨rfl, _⟩ | ⟨g1, cap, cur, rfl, hb, hh, _⟩
  · exact .inl rfl
  · refine .inr fun e0 => ?_
    have e1 : v.ownBlock = some g1 := e0.symm.trans rfl
    exact own_blk_ne (t := e') h (cs := cur) hh hne e1
/-- the append of a struct as a step of a region that draws its order -/
theorem step_pushR {α : Type} (R : Rec α) {P : Program} {W : World} {ops : Array Oper} {o : Oper} {a : Act} {K : Act → World → Prop} {Q : Exit → Act → World → Prop} {E : Prop} (hgd : o.guard = none) (s x : Operand) (t : TypeId)
    (base : Nat) (e : TypeId) (z : Value) (bytes : Nat) (ht : P.underlying t = some (.slice e)) (hinfo : (P.info? e).map (fun i => (i.zero, i.size, i.bytes)) = some (some z, R.sz, bytes))
    (ho : o.op = .call { callee := .builtin .append, args := #[s, x], argTypes := #[t, t] })
    (hzs : z.cells.size = R.sz) (v : Value) (n : Nat) (l : List α) (y : α) (hown : W.ownsRow base e R.sz v n (l.flatMap R.cells)) (hs : a.eval s = v)
    (ad : Addr) (hx : a.eval x = .slice (some ad) 1 1) (hc : ∀ j u, (R.cells y)[j]? = some u → W.cell? (ad.add j) = some u) (h1 : ∀ u ∈ R.cells y, u.oneCell' = true)
    (hn : n ≤ 1000000) (hbytes : bytes ≤ 1000) (hbase : base ≤ W.heap.size)
    (h : ∀ v' w', w'.ownsRow base e R.sz v' (n + 1) ((l ++ [y]).flatMap R.cells) → W.grownBy w' v.ownBlock → Below base W w' → K (a.put o.dst v') w') :
    if Region.wanted o (yielded ops a.tmps) = true then Oper.wp P o a W K Q else E := by
  have hw : Region.wanted o (yielded ops a.tmps) = true := by simp [Region.wanted, hgd]
  rw [if_pos hw]
  obtain ⟨i0, hi, hz0, hz1, hz2⟩ := info_parts hinfo
  have hb2 : (n + 1) * bytes ≤ 1000001 * 1000 := Nat.mul_le_mul (by omega) hbytes
  refine wp_append_own W s x t ho base e i0 z R.sz bytes ht hi hz0 hz1 hz2 hzs R.pos v n _ hs hown ad 1 1 (R.cells y) hx (by rw [R.len, Nat.one_mul]) hc h1 (by simp only [maxLen]; omega) (by omega) hbase ?_
  intro v' w' hown' hg _
  refine h v' w' (by rw [flatR_app]; exact hown') hg ((Below.refl base W).grown hg hbase ?_)
  intro k hk
  rcases hown.2 with ⟨rfl, _⟩ | ⟨g, cap, cur, rfl, hge, _⟩
  · simp [Value.ownBlock] at hk
  · simp [Value.ownBlock] at hk
    omega
end Go.Proofs.YtgdijbaodfghjaaGreatDoor
