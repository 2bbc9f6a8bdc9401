/-
  Plain law of ItemTakesMore: ticks that bytes take, rounded up.
-/
import Derived.Test.YtdhojhgmaodifaaDoorBktLaw
namespace Go.Proofs.YtdhojhgmaodifaaDoor
namespace Bkt
def takes (b t n : Int) : Int := (n * t + b - 1) / b
theorem takes_bd (b t n : Int) (hb : 1 ≤ b) : n * t ≤ b * takes b t n ∧ b * takes b t n ≤ n * t + b - 1 := by
  unfold takes
  have h1 := Int.mul_ediv_add_emod (n * t + b - 1) b
  have h2 := Int.emod_nonneg (n * t + b - 1) (show b ≠ 0 by omega)
  have h3 := Int.emod_lt_of_pos (n * t + b - 1) (show 0 < b by omega)
  generalize b * ((n * t + b - 1) / b) = X at *
  omega
theorem mul_lt {b x y : Int} (hb : 1 ≤ b) (h : b * x < b * y) : x < y := Int.lt_of_mul_lt_mul_left h (by omega)
theorem takes_law (b t m n : Int) (hb : 1 ≤ b) (ht : 1 ≤ t) (hm : 0 ≤ m) (hn : 0 ≤ n) :
    takes b t m ≤ takes b t (m + n) ∧ takes b t n ≤ takes b t (m + n) ∧ takes b t (m + n) ≤ takes b t m + takes b t n ∧ takes b t m + takes b t n ≤ takes b t (m + n) + 1 ∧ 0 < takes b t 1 := by
  obtain ⟨x1, x2⟩ := takes_bd b t m hb
  obtain ⟨y1, y2⟩ := takes_bd b t n hb
  obtain ⟨z1, z2⟩ := takes_bd b t (m + n) hb
  obtain ⟨o1, o2⟩ := takes_bd b t 1 hb
  have hp : 0 ≤ m * t := Int.mul_nonneg hm (by omega)
  have hq : 0 ≤ n * t := Int.mul_nonneg hn (by omega)
  rw [Int.add_mul] at z1 z2
  rw [Int.one_mul] at o1 o2
  generalize takes b t m = x at *
  generalize takes b t n = y at *
  generalize takes b t (m + n) = z at *
  generalize takes b t 1 = o at *
  have e1 : b * (z + 1) = b * z + b := by rw [Int.mul_add, Int.mul_one]
  have e2 : b * (x + y) = b * x + b * y := Int.mul_add _ _ _
  have e3 : b * (x + y + 1) = b * x + b * y + b := by rw [Int.mul_add, Int.mul_one, e2]
  have e4 : b * (z + 2) = b * z + b * 2 := Int.mul_add _ _ _
  generalize m * t = p at *
  generalize n * t = q at *
  refine ⟨?_, ?_, ?_, ?_, ?_⟩
  · have := mul_lt (x := x) (y := z + 1) hb (by omega); omega
  · have := mul_lt (x := y) (y := z + 1) hb (by omega); omega
  · have := mul_lt (x := z) (y := x + y + 1) hb (by omega); omega
  · have := mul_lt (x := x + y) (y := z + 2) hb (by omega); omega
  · exact mul_lt (x := 0) (y := o) hb (by omega)
theorem takes_hi {b t n N : Int} (hb : 1 ≤ b) (ht : 1 ≤ t) (h0 : 0 ≤ n) (ht' : t ≤ 1000000) (h1 : n ≤ N) : 0 ≤ takes b t n ∧ takes b t n ≤ N * 1000000 := by
  obtain ⟨x1, x2⟩ := takes_bd b t n hb
  have hp : 0 ≤ n * t := Int.mul_nonneg h0 (by omega)
  have hp2 : n * t ≤ N * 1000000 := Int.mul_le_mul h1 ht' (by omega) (by omega)
  generalize takes b t n = x at *
  have h2 : 0 < x + 1 := mul_lt (x := 0) (y := x + 1) hb (by rw [Int.mul_add, Int.mul_one]; omega)
  refine ⟨by omega, ?_⟩
  have h3 : 0 ≤ (b - 1) * (x - 1) ∨ x = 0 := by
    by_cases e : x = 0
    · exact .inr e
    · exact .inl (Int.mul_nonneg (by omega) (by omega))
  rcases h3 with h3 | h3
  · rw [Int.sub_mul, Int.mul_sub, Int.mul_one, Int.one_mul] at h3
    generalize b * x = X at *
    omega
  · omega
end Bkt
end Go.Proofs.YtdhojhgmaodifaaDoor
