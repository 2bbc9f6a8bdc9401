/-
  Texts of this claim, one behind the other: TakeLaw.
-/
import Derived.Test.YtgdijbaodfghjaaGreatDoorZ01
/-
  Plain law of ItemTakesMore: ticks that bytes take, rounded up.
-/
namespace Go.Proofs.YtgdijbaodfghjaaGreatDoor
namespace Bkt
def takes (b t n : Int) : Int := (n * t + b - 1) / b
theorem takes_bd (b t n : Int) (hb : 1 ≤ b) : n * t ≤ b * takes b t n ∧ b * takes b t n ≤ n * t + b - 1 := by
  unfold takes
  have h1 := Int.mul_ediv_add_emod (n * t + b - 1) b
  have h2 := Int.emod_nonneg (n * t + b - 1) (show b ≠ 0 by omega)
  have h3 := Int.emod_lt_of_pos (n * t + b - 1) (show 0 < b by omega)
  generalize b * ((n * t + b - 1) / b) = X at *
  omega
theorem mul_lt {b x y : Int} (hb : 1 ≤ b) (h : b * x < b * y) : x < y := Int.lt_of_mul_lt_mul_left h (by omega)
theorem takes_hi {b t n N : Int} (hb : 1 ≤ b) (ht : 1 ≤ t) (h0 : 0 ≤ n) (ht' : t ≤ 1000000) (h1 : n ≤ N) : 0 ≤ takes b t n ∧ takes b t n ≤ N * 1000000 := by
  obtain ⟨x1, x2⟩ := takes_bd b t n hb
  have hp : 0 ≤ n * t := Int.mul_nonneg h0 (by omega)
  have hp2 : n * t ≤ N * 1000000 := Int.mul_le_mul h1 ht' (by omega) (by omega)
  generalize takes b t n = x at *
  have h2 : 0 < x + 1 := mul_lt (x := 0) (y := x + 1) hb (by rw [Int.mul_add, Int.mul_one]; omega)
  refine ⟨by omega, ?_⟩
  have h3 : 0 ≤ (b - 1) * (x - 1) ∨ x = 0 := by
    by_cases e : x = 0
    · exact .inr e
    · exact .inl (Int.mul_nonneg (by omega) (by omega))
  rcases h3 with h3 | h3
  · rw [Int.sub_mul, Int.mul_sub, Int.mul_one, Int.one_mul] at h3
    generalize b * x = X at *
    omega
  · omega
end Bkt
end Go.Proofs.YtgdijbaodfghjaaGreatDoor
