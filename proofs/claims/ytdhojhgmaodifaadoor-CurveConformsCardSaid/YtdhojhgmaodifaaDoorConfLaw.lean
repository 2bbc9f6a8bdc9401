/-
  Plain law of CurveConforms: what conforms, one tick's together, keeps to the curve of its room and rate.
-/
import Derived.Test.YtdhojhgmaodifaaDoorColLaw
import Derived.Test.YtdhojhgmaodifaaDoorCruzLaw
namespace Go.Proofs.YtdhojhgmaodifaaDoor
open Crv
namespace Bkt
/-- the curve of a room and a rate -/
def burst (k : Bk) (i : Nat) : Int := if i = 0 then 0 else k.r + ((i : Int) * k.b) / k.t
/-- one tick's together -/
def tick (k : Bk) (l : List It) (j u : Nat) : Int := inTo k l u u j
theorem inTo_split (k : Bk) (l : List It) (s t : Int) (h : s ≤ t + 1) : ∀ j, inTo k l s (t + 1) j = inTo k l s t j + inTo k l (t + 1) (t + 1) j := by
  intro j
  induction j with
  | zero => rfl
  | succ j ih =>
    show inTo k l s (t + 1) j + _ = inTo k l s t j + _ + (inTo k l (t + 1) (t + 1) j + _)
    rw [ih]
    by_cases hc : conf k l j = true
    · by_cases h1 : (ix l j).at_ ≤ t
      · by_cases h2 : s ≤ (ix l j).at_
        · rw [if_pos ⟨hc, h2, by omega⟩, if_pos ⟨hc, h2, h1⟩, if_neg (fun h => by omega)]; omega
        · rw [if_neg (fun h => h2 h.2.1), if_neg (fun h => h2 h.2.1), if_neg (fun h => by omega)]; omega
      · by_cases h2 : (ix l j).at_ = t + 1
        · rw [if_pos ⟨hc, by omega, by omega⟩, if_neg (fun h => h1 h.2.2), if_pos ⟨hc, by omega, by omega⟩]; omega
        · rw [if_neg (fun h => by omega), if_neg (fun h => h1 h.2.2), if_neg (fun h => by omega)]; omega
    · rw [if_neg (fun h => hc h.1), if_neg (fun h => hc h.1), if_neg (fun h => hc h.1)]; omega
theorem inTo_none (k : Bk) (l : List It) (s t : Int) (h : t < s) : ∀ j, inTo k l s t j = 0 := by
  intro j
  induction j with
  | zero => rfl
  | succ j ih =>
    show inTo k l s t j + _ = 0
    rw [ih, if_neg (fun h => by omega)]; rfl
theorem inTo_nonneg {k : Bk} {l : List It} (hl : ItOk l) (s t : Int) : ∀ j, j ≤ l.length → 0 ≤ inTo k l s t j := by
  intro j
  induction j with
  | zero => intro _; exact Int.le_refl _
  | succ j ih =>
    intro hj
    have h1 := ih (by omega)
    have h2 := (hl.len j (by omega)).1
    show 0 ≤ inTo k l s t j + _
    split <;> omega
theorem sum_tick (k : Bk) (l : List It) (j : Nat) (xs : List Int) (hx : ∀ u, u < xs.length → at0 xs u = tick k l j u) (s : Nat) : ∀ d, s + d ≤ xs.length → sumTo xs (s + d) - sumTo xs s = inTo k l s ((s : Int) + d - 1) j := by
  intro d
  induction d with
  | zero =>
    intro _
    rw [Nat.add_zero, Int.sub_self, inTo_none]
    simp; omega
  | succ d ih =>
    intro h
    have h1 := ih (by omega)
    have e : sumTo xs (s + (d + 1)) = sumTo xs (s + d) + at0 xs (s + d) := rfl
    have h2 := inTo_split k l s ((s : Int) + d - 1) (by omega) j
    rw [show (s : Int) + d - 1 + 1 = s + d from by omega] at h2
    rw [e, show (s : Int) + ((d + 1 : Nat) : Int) - 1 = s + d from by omega, h2, ← h1, hx (s + d) (by omega)]
    unfold tick
    rw [show (((s + d : Nat)) : Int) = (s : Int) + d from by omega]
    omega
theorem tick_bd {k : Bk} {l : List It} (hk : BkOk k) (hl : ItOk l) {j : Nat} (hj : j ≤ l.length) (u : Nat) : 0 ≤ tick k l j u ∧ tick k l j u ≤ k.r := by
  refine ⟨inTo_nonneg hl _ _ j hj, ?_⟩
  have h := win_law (s := (u : Int)) (t := u) hk hl (by omega) (Int.le_refl _) j hj
  rw [Int.sub_self, Int.zero_mul, Int.add_zero] at h
  exact Int.le_of_mul_le_mul_right h (by have := hk.t.1; omega)
theorem burst_fits {k : Bk} {l : List It} {xs a : List Int} (hk : BkOk k) (hl : ItOk l) (hx : ∀ u, u < xs.length → at0 xs u = tick k l l.length u) (ha : ∀ i, i ≤ xs.length → at0 a i = burst k i) : FitsP xs a := by
  intro s t hst ht
  have h1 := sum_tick k l l.length xs hx s (t - s + 1) (by omega)
  rw [show s + (t - s + 1) = t + 1 from by omega, show (s : Int) + ((t - s + 1 : Nat) : Int) - 1 = t from by omega] at h1
  rw [h1, ha _ (by omega)]
  have h2 := win_law (s := (s : Int)) (t := t) hk hl (by omega) (by omega) l.length (Nat.le_refl _)
  unfold burst
  rw [if_neg (by omega)]
  have ht1 := hk.t.1
  have hb1 := hk.b.1
  have h3 : inTo k l s t l.length - k.r ≤ (((t - s + 1 : Nat) : Int) * k.b) / k.t := by
    rw [Int.le_ediv_iff_mul_le (by omega), Int.sub_mul]
    have h4 : ((t : Int) - s) * k.b ≤ ((t - s + 1 : Nat) : Int) * k.b := Int.mul_le_mul_of_nonneg_right (by omega) (by omega)
    omega
  omega
theorem tick_succ (k : Bk) (l : List It) (j u : Nat) : tick k l (j + 1) u = tick k l j u + if conf k l j = true ∧ (ix l j).at_ = u then (ix l j).len else 0 := by
  show inTo k l u u j + _ = inTo k l u u j + _
  congr 1
  by_cases h : conf k l j = true ∧ (ix l j).at_ = u
  · rw [if_pos h, if_pos ⟨h.1, by omega, by omega⟩]
  · rw [if_neg h, if_neg (fun h' => h ⟨h'.1, by omega⟩)]
theorem burst_bd {k : Bk} (hk : BkOk k) (i : Nat) (hi : i ≤ 120) : 0 ≤ burst k i ∧ burst k i ≤ 121000000 ∧ burst k i ≤ burst k (i + 1) := by
  have h1 := hk.b; have h2 := hk.t; have h3 := hk.r
  have hq : ∀ m : Nat, 0 ≤ ((m : Int) * k.b) / k.t ∧ ((m : Int) * k.b) / k.t ≤ (m : Int) * 1000000 := fun m => by
    have p0 : 0 ≤ (m : Int) * k.b := Int.mul_nonneg (by omega) (by omega)
    have p1 : (m : Int) * k.b ≤ (m : Int) * 1000000 := Int.mul_le_mul_of_nonneg_left h1.2 (by omega)
    refine ⟨Int.ediv_nonneg p0 (by omega), ?_⟩
    have := Int.ediv_le_self (a := (m : Int) * k.b) k.t p0
    omega
  have hm : ((i : Int) * k.b) / k.t ≤ (((i + 1 : Nat) : Int) * k.b) / k.t := Int.ediv_le_ediv (by omega) (Int.mul_le_mul_of_nonneg_right (by omega) (by omega))
  have h4 := hq i; have h5 := hq (i + 1)
  unfold burst
  by_cases h0 : i = 0
  · subst h0
    rw [if_pos rfl, if_neg (by omega)]
    omega
  · rw [if_neg h0, if_neg (by omega)]
    omega
end Bkt
end Go.Proofs.YtdhojhgmaodifaaDoor
