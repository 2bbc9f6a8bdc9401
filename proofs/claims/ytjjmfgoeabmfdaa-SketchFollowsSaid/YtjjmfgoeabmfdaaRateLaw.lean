/-
  Plain law of the mean that follows: it stays between 0 and the greatest number so far. No program in sight.
-/
import Derived.Test.YtjjmfgoeabmfdaaCrvLaw
namespace Go.Proofs.Ytjjmfgoeabmfdaa
open Crv

def rateTo (h : Int) (zs : List Int) : Nat → Int
  | 0 => 0
  | k + 1 => rateTo h zs k + (1000 * zs.getD k 0 - rateTo h zs k) / 2 ^ h.toNat
def rateL (h : Int) (zs : List Int) (k : Nat) : List Int := tab k fun i => rateTo h zs (i + 1)
def topTo (zs : List Int) : Nat → Int
  | 0 => 0
  | k + 1 => max (topTo zs k) (zs.getD k 0)

theorem part_bd (m x : Int) (p : Nat) (hp : 1 ≤ p) : (0 ≤ x → 0 ≤ x / (p : Int) ∧ x / (p : Int) ≤ x) ∧ (x < 0 → x ≤ x / (p : Int) ∧ x / (p : Int) < 0) := by
  have hp' : (1 : Int) ≤ (p : Int) := by omega
  refine ⟨fun h => ⟨Int.ediv_nonneg h (by omega), Int.ediv_le_self _ h⟩, fun h => ⟨?_, Int.ediv_neg_of_neg_of_pos h (by omega)⟩⟩
  rw [Int.le_ediv_iff_mul_le (by omega)]
  have : x * (p : Int) ≤ x * 1 := Int.mul_le_mul_of_nonpos_left (by omega) hp'
  omega

theorem step_bd (m x T : Int) (h : Int) (hm : 0 ≤ m) (hm' : m ≤ 1000 * T) (hx : 0 ≤ x) (hx' : x ≤ T) :
    0 ≤ m + (1000 * x - m) / 2 ^ h.toNat ∧ m + (1000 * x - m) / 2 ^ h.toNat ≤ 1000 * T := by
  have hp : 1 ≤ 2 ^ h.toNat := Nat.one_le_two_pow
  have e : (2 : Int) ^ h.toNat = ((2 ^ h.toNat : Nat) : Int) := by simp
  rw [e]
  have h1 := part_bd m (1000 * x - m) (2 ^ h.toNat) hp
  by_cases h2 : 0 ≤ 1000 * x - m
  · have := h1.1 h2; omega
  · have := h1.2 (by omega); omega

theorem topTo_le (zs : List Int) : ∀ k i, i < k → zs.getD i 0 ≤ topTo zs k := by
  intro k
  induction k with
  | zero => intro i hi; omega
  | succ k ih =>
    intro i hi
    unfold topTo
    by_cases e : i = k
    · subst e; omega
    · have := ih i (by omega); omega
theorem topTo_bd (zs : List Int) (M : Int) (hM : 0 ≤ M) : ∀ k, (∀ i, i < k → zs.getD i 0 ≤ M) → 0 ≤ topTo zs k ∧ topTo zs k ≤ M := by
  intro k
  induction k with
  | zero => intro _; exact ⟨Int.le_refl _, hM⟩
  | succ k ih =>
    intro h
    unfold topTo
    have h1 := ih fun i hi => h i (by omega)
    have h2 := h k (by omega)
    omega
theorem rateTo_top (h : Int) (zs : List Int) : ∀ k, (∀ i, i < k → 0 ≤ zs.getD i 0) → 0 ≤ rateTo h zs k ∧ rateTo h zs k ≤ 1000 * topTo zs k := by
  intro k
  induction k with
  | zero => intro _; simp [rateTo, topTo]
  | succ k ih =>
    intro hz
    have h1 := ih fun i hi => hz i (by omega)
    have h2 := topTo_le zs (k + 1) k (by omega)
    unfold rateTo
    have h3 : topTo zs k ≤ topTo zs (k + 1) := by rw [show topTo zs (k + 1) = max (topTo zs k) (zs.getD k 0) from rfl]; omega
    exact step_bd _ _ _ h h1.1 (by omega) (hz k (by omega)) h2
theorem rateTo_bd (h : Int) (zs : List Int) (k : Nat) (hz : ∀ i, i < k → 0 ≤ zs.getD i 0 ∧ zs.getD i 0 ≤ 1000000) : 0 ≤ rateTo h zs k ∧ rateTo h zs k ≤ 1000000000 := by
  have h1 := rateTo_top h zs k fun i hi => (hz i hi).1
  have h2 := topTo_bd zs 1000000 (by omega) k fun i hi => (hz i hi).2
  omega
end Go.Proofs.Ytjjmfgoeabmfdaa
