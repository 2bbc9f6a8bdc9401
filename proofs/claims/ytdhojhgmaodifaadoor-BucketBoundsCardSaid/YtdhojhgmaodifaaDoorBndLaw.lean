/-
  Plain law of BucketBounds: those let by so far keep to the curve; a packet conforms just if they still do with it.
-/
import Derived.Test.YtdhojhgmaodifaaDoorBktLaw
namespace Go.Proofs.YtdhojhgmaodifaaDoor
open Crv
namespace Bkt
/-- those let by of the first j packets: their times, their bytes -/
def letBy (k : Bk) (l : List It) : Nat → List Int × List Int
  | 0 => ([], [])
  | j + 1 => if conf k l j then ((letBy k l j).1 ++ [(ix l j).at_], (letBy k l j).2 ++ [(ix l j).len]) else letBy k l j
structure BInv (k : Bk) (l : List It) (j : Nat) : Prop where
  len : (letBy k l j).2.length = (letBy k l j).1.length
  cnt : (letBy k l j).1.length ≤ j
  bd : Bounded k (letBy k l j).1 (letBy k l j).2
  lack : Lack k (letBy k l j).1 (letBy k l j).2 (stTo k l j).last (k.r * k.t - (stTo k l j).has)
theorem bounds_step {k : Bk} {l : List It} {j : Nat} (hk : BkOk k) (hl : ItOk l) (hj : j < l.length) (h : BInv k l j) :
    (Bounded k ((letBy k l j).1 ++ [(ix l j).at_]) ((letBy k l j).2 ++ [(ix l j).len]) ↔ conf k l j = true) ∧ BInv k l (j + 1) := by
  have hi := inv_all hk hl j (by omega)
  have hup := hi.last j hj (Nat.le_refl _)
  have hhas := has_bd hk hl (j := j) (by omega)
  have hfl := fill_lack (k := k) (s := stTo k l j) (now := (ix l j).at_) (d := k.r * k.t - (stTo k l j).has) (by have := hk.b.1; omega) hup (by omega)
  have hlk := (h.lack.later (later := (ix l j).at_)).resolve_right (by have := hk.b.1; omega)
  rw [← hfl.2] at hlk
  have hbm := bounded_more (n := (ix l j).len) h.len h.bd hlk
  have hcf : conf k l j = true ↔ (ix l j).len * k.t + (k.r * k.t - (fill k (stTo k l j) (ix l j).at_).has) ≤ k.r * k.t := by
    unfold conf okB
    rw [decide_eq_true_iff]
    generalize (ix l j).len * k.t = p
    generalize k.r * k.t = c
    omega
  refine ⟨hbm.trans hcf.symm, ?_⟩
  have hst : stTo k l (j + 1) = take k (stTo k l j) (ix l j).at_ (ix l j).len := rfl
  by_cases hc : conf k l j = true
  · have e1 : letBy k l (j + 1) = ((letBy k l j).1 ++ [(ix l j).at_], (letBy k l j).2 ++ [(ix l j).len]) := by simp [letBy, hc]
    have hok : okB k (stTo k l j) (ix l j).at_ (ix l j).len = true := hc
    have e2 : stTo k l (j + 1) = ⟨(fill k (stTo k l j) (ix l j).at_).last, (fill k (stTo k l j) (ix l j).at_).has - (ix l j).len * k.t⟩ := by rw [hst]; unfold take; rw [if_pos hok]
    refine ⟨?_, ?_, ?_, ?_⟩
    · rw [e1]; simp [h.len]
    · rw [e1]; simp; exact h.cnt
    · rw [e1]; exact (hbm.trans hcf.symm).2 hc
    · rw [e1, e2]
      dsimp only
      rw [hfl.1]
      have hp : 0 ≤ (ix l j).len * k.t := Int.mul_nonneg (by have := (hl.len j hj).1; omega) (by have := hk.t.1; omega)
      have := Lack.more (n := (ix l j).len) h.len hp hlk
      rw [show k.r * k.t - ((fill k (stTo k l j) (ix l j).at_).has - (ix l j).len * k.t) = (ix l j).len * k.t + (k.r * k.t - (fill k (stTo k l j) (ix l j).at_).has) from by
        generalize (ix l j).len * k.t = p
        generalize k.r * k.t = c
        omega]
      exact this
  · have e1 : letBy k l (j + 1) = letBy k l j := by simp [letBy, hc]
    have hok : ¬ okB k (stTo k l j) (ix l j).at_ (ix l j).len = true := hc
    have e2 : stTo k l (j + 1) = fill k (stTo k l j) (ix l j).at_ := by rw [hst]; unfold take; rw [if_neg hok]
    refine ⟨by rw [e1]; exact h.len, by rw [e1]; exact Nat.le_succ_of_le h.cnt, by rw [e1]; exact h.bd, ?_⟩
    rw [e1, e2, hfl.1]
    exact hlk
theorem binv_all {k : Bk} {l : List It} (hk : BkOk k) (hl : ItOk l) : ∀ j, j ≤ l.length → BInv k l j := by
  intro j
  induction j with
  | zero =>
    intro _
    refine ⟨rfl, Nat.le_refl _, ?_, ?_⟩
    · intro i q _ hq; simp [letBy] at hq
    · have e : k.r * k.t - (stTo k l 0).has = 0 := by show k.r * k.t - k.r * k.t = 0; omega
      rw [e]
      exact ⟨Int.le_refl _, fun i hi => by simp [letBy] at hi, .inl rfl⟩
  | succ j ih => intro hj; exact (bounds_step hk hl (by omega) (ih (by omega))).2
theorem all_app {P : Int → Prop} {xs : List Int} {y : Int} (h : ∀ i, i < xs.length → P (at0 xs i)) (hy : P y) : ∀ i, i < (xs ++ [y]).length → P (at0 (xs ++ [y]) i) := by
  intro i hi
  rw [List.length_append] at hi
  by_cases e : i = xs.length
  · subst e; rw [app_last]; exact hy
  · have hlt : i < xs.length := by simp at hi; omega
    rw [app_at hlt]; exact h i hlt
theorem letBy_bd {k : Bk} {l : List It} (hl : ItOk l) : ∀ j, j ≤ l.length → (∀ i, i < (letBy k l j).1.length → 0 ≤ at0 (letBy k l j).1 i ∧ at0 (letBy k l j).1 i ≤ 1000000000) ∧ (∀ i, i < (letBy k l j).2.length → 0 ≤ at0 (letBy k l j).2 i ∧ at0 (letBy k l j).2 i ≤ 10000) := by
  intro j
  induction j with
  | zero => intro _; exact ⟨fun i hi => by simp [letBy] at hi, fun i hi => by simp [letBy] at hi⟩
  | succ j ih =>
    intro hj
    obtain ⟨h1, h2⟩ := ih (by omega)
    by_cases hc : conf k l j = true
    · have e1 : letBy k l (j + 1) = ((letBy k l j).1 ++ [(ix l j).at_], (letBy k l j).2 ++ [(ix l j).len]) := by simp [letBy, hc]
      rw [e1]
      exact ⟨all_app (P := fun v => 0 ≤ v ∧ v ≤ 1000000000) h1 (hl.at0 j (by omega)), all_app (P := fun v => 0 ≤ v ∧ v ≤ 10000) h2 ⟨by have := (hl.len j (by omega)).1; omega, (hl.len j (by omega)).2⟩⟩
    · have e1 : letBy k l (j + 1) = letBy k l j := by simp [letBy, hc]
      rw [e1]; exact ⟨h1, h2⟩
end Bkt
end Go.Proofs.YtdhojhgmaodifaaDoor
