/-
  Plain law of random early detection: what a Put may do, as far as the law asks.
-/
import Derived.Test.YthhgbpbaihgogaaFifoLaw
import Derived.Test.YthhgbpbaihgogaaMem
namespace Go.Proofs.Ythhgbpbaihgogaa
open Bkt
namespace Pl
set_option linter.unusedVariables false

structure SU where
  low : Int
  high : Int
  often : Int
  slow : Int
  mark : Bool
structure SUOk (U : SU) : Prop where
  lo : 0 ≤ U.low ∧ U.low < U.high ∧ U.high ≤ 1000000
  of_ : 1 ≤ U.often ∧ U.often ≤ 1000
  sl : 0 ≤ U.slow ∧ U.slow ≤ 10
/-- the mean, rounded down -/
def mnOf (U : SU) (M : Int) : Int := M / 2 ^ U.slow.toNat
/-- what is kept for it, behind a packet -/
def nextM (U : SU) (b M : Int) : Int := Go.IntKind.i64.wrap (M + Go.IntKind.i64.wrap (b - mnOf U M))
/-- no room -/
def fullR (p : FP) (x : Hd) (s : List Hd) : Prop := p.packets ≤ (s.length : Int) ∨ p.room < tot s + x.it.len
/-- what is known of a Put -/
structure RPut (U : SU) (m : Int) (full : Prop) (x : Hd) (s gone s' : List Hd) : Prop where
  low : m < U.low → (0 < gone.length ↔ full)
  high : ¬ m < U.low → U.high ≤ m → U.mark = false → gone.length = 1
  mrk : U.mark = true → (0 < gone.length ↔ full)
  le : gone.length ≤ 1
  none_ : gone.length = 0 → ∃ x' : Hd, x'.num = x.num ∧ x'.it.len = x.it.len ∧ s' = s ++ [x']
  some_ : 0 < gone.length → s' = s
theorem RPut.of_fput (U : SU) (m : Int) (p : FP) (hp : p.head = false) (x x' : Hd) (s : List Hd) (hn : x'.num = x.num) (hl : x'.it.len = x.it.len) (h : U.high ≤ m → ¬ m < U.low → U.mark = true) :
    RPut U m (fullR p x s) x s (fputL p x' s).1 (fputL p x' s).2 := by
  unfold fputL
  rw [if_pos hp, hl]
  by_cases hf : p.packets ≤ (s.length : Int) ∨ p.room < tot s + x.it.len
  · rw [if_pos hf]
    exact ⟨fun _ => ⟨fun _ => hf, fun _ => by simp⟩, fun h1 h2 h3 => (by rw [h h2 h1] at h3; cases h3), fun _ => ⟨fun _ => hf, fun _ => by simp⟩, by simp, fun h0 => by simp at h0, fun _ => rfl⟩
  · rw [if_neg hf]
    exact ⟨fun _ => ⟨fun h0 => by simp at h0, fun h0 => absurd h0 hf⟩, fun h1 h2 h3 => (by rw [h h2 h1] at h3; cases h3), fun _ => ⟨fun h0 => by simp at h0, fun h0 => absurd h0 hf⟩, by simp, fun _ => ⟨x', hn, hl, rfl⟩, fun h0 => by simp at h0⟩
theorem RPut.of_hit (U : SU) (m : Int) (full : Prop) (x x' : Hd) (s : List Hd) (hm : U.mark = false) (hl : ¬ m < U.low) : RPut U m full x s [x'] s :=
  ⟨fun h => absurd h hl, fun _ _ _ => rfl, (by rw [hm]; intro h; cases h), Nat.le_refl _, (by intro h; cases h), fun _ => rfl⟩
/-- what waits, and what is known of it -/
structure RInv (p : FP) (s : List Hd) (lens : List Int) : Prop where
  num : ∀ x ∈ s, 0 ≤ x.num ∧ x.num < lens.length ∧ lens.getD x.num.toNat 0 = x.it.len
theorem RInv.put {p : FP} {s s' gone : List Hd} {lens : List Int} {U : SU} {m : Int} {full : Prop} {x : Hd} (h : RInv p s lens) (hx : x.num = lens.length) (hr : RPut U m full x s gone s') : RInv p s' (lens ++ [x.it.len]) := by
  have hold : ∀ y ∈ s, 0 ≤ y.num ∧ y.num < (lens ++ [x.it.len]).length ∧ (lens ++ [x.it.len]).getD y.num.toNat 0 = y.it.len := fun y hy => by
    obtain ⟨h1, h2, h3⟩ := h.num y hy
    refine ⟨h1, by simp; omega, ?_⟩
    rw [← h3, List.getD, List.getD, List.getElem?_append_left (by omega)]
  refine ⟨fun y hy => ?_⟩
  by_cases h0 : gone.length = 0
  · obtain ⟨x', e1, e2, e3⟩ := hr.none_ h0
    subst e3
    rcases List.mem_append.1 hy with hy | hy
    · exact hold y hy
    · rw [List.mem_singleton] at hy
      subst hy
      refine ⟨by omega, by simp; omega, ?_⟩
      rw [e1, hx, Int.toNat_natCast, List.getD, List.getElem?_append_right (Nat.le_refl _), Nat.sub_self, e2]
      rfl
  · rw [hr.some_ (by omega)] at hy
    exact hold y hy
theorem RInv.tail {p : FP} {x : Hd} {s : List Hd} {lens : List Int} (h : RInv p (x :: s) lens) : RInv p s lens := ⟨fun y hy => h.num y (List.mem_cons_of_mem _ hy)⟩
end Pl
end Go.Proofs.Ythhgbpbaihgogaa
