/-
  Cruz's bounds, as plain laws: what comes within a curve and is served at least by another one. No program in sight.
-/
import Derived.Test.YtdhojhgmaodifaaDoorOnceLaw
import Derived.Test.YtdhojhgmaodifaaDoorSrvLaw
namespace Go.Proofs.YtdhojhgmaodifaaDoor
namespace Crv

/-- what comes keeps to a curve -/
def FitsP (xs a : List Int) : Prop := ∀ s t, s ≤ t → t < xs.length → sumTo xs (t + 1) - sumTo xs s ≤ at0 a (t - s + 1)
/-- likewise, of the first k -/
def backTo (a b : Nat → Int) : Nat → Int
  | 0 => 0
  | j + 1 => max (backTo a b j) (a j - b j)
theorem backTo_ge (a b : Nat → Int) : ∀ j s, s < j → a s - b s ≤ backTo a b j := by
  intro j
  induction j with
  | zero => intro s hs; omega
  | succ j ih =>
    intro s hs
    show _ ≤ max (backTo a b j) (a j - b j)
    by_cases e : s = j
    · subst e; omega
    · have := ih s (by omega); omega
theorem backTo_bd (a b : Nat → Int) (M : Int) (hM : 0 ≤ M) : ∀ j, (∀ s, s < j → a s - b s ≤ M) → 0 ≤ backTo a b j ∧ backTo a b j ≤ M := by
  intro j
  induction j with
  | zero => intro _; exact ⟨Int.le_refl _, hM⟩
  | succ j ih =>
    intro h
    have h1 := ih fun s hs => h s (by omega)
    have h2 := h j (by omega)
    show 0 ≤ max (backTo a b j) (a j - b j) ∧ max (backTo a b j) (a j - b j) ≤ M
    omega
def backlog (a b : List Int) : Int := backTo (at0 a) (at0 b) (min a.length b.length)

theorem sumTo_congr {xs ys : List Int} : ∀ k : Nat, (∀ i, i < k → at0 xs i = at0 ys i) → sumTo xs k = sumTo ys k := by
  intro k
  induction k with
  | zero => intro _; rfl
  | succ k ih =>
    intro h
    show sumTo xs k + at0 xs k = sumTo ys k + at0 ys k
    rw [ih fun i hi => h i (by omega), h k (by omega)]
theorem at0_app_lt {xs : List Int} {y : Int} {i : Nat} (h : i < xs.length) : at0 (xs ++ [y]) i = at0 xs i := by
  unfold at0; simp [List.getD, List.getElem?_append_left h]
theorem at0_app_last {xs : List Int} {y : Int} : at0 (xs ++ [y]) xs.length = y := by
  unfold at0; simp [List.getD]
theorem at0_take {xs : List Int} {k i : Nat} (h : i < k) : at0 (xs.take k) i = at0 xs i := by
  unfold at0; simp [List.getD, List.getElem?_take_of_lt h]
/-- an empty list keeps to it; one more of nothing; what is cut off -/
theorem FitsP.nil (a : List Int) : FitsP [] a := fun s t _ ht => by simp at ht
theorem FitsP.more0 {xs a : List Int} (h : FitsP xs a) (ha : ∀ i, i + 1 < a.length → at0 a i ≤ at0 a (i + 1)) (h0 : ∀ i, i < a.length → 0 ≤ at0 a i) (hl : xs.length + 1 < a.length) : FitsP (xs ++ [0]) a := by
  intro s t hst ht
  have hlen : (xs ++ [(0 : Int)]).length = xs.length + 1 := by simp
  rw [hlen] at ht
  have e1 : ∀ k, k ≤ xs.length → sumTo (xs ++ [0]) k = sumTo xs k := fun k hk => sumTo_congr k fun i hi => at0_app_lt (by omega)
  by_cases e : t = xs.length
  · subst e
    have e2 : sumTo (xs ++ [0]) (xs.length + 1) = sumTo xs xs.length := by
      show sumTo (xs ++ [0]) xs.length + at0 (xs ++ [0]) xs.length = _
      rw [e1 _ (by omega), at0_app_last]; omega
    rw [e2]
    by_cases e3 : s = xs.length
    · subst e3
      rw [e1 _ (by omega)]
      have := h0 (xs.length - xs.length + 1) (by omega)
      omega
    · rw [e1 s (by omega)]
      have h1 := h s (xs.length - 1) (by omega) (by omega)
      rw [show xs.length - 1 + 1 = xs.length from by omega, show xs.length - 1 - s + 1 = xs.length - s from by omega] at h1
      have h2 := ha (xs.length - s) (by omega)
      omega
  · rw [e1 (t + 1) (by omega), e1 s (by omega)]
    exact h s t hst (by omega)
theorem FitsP.cut {xs a : List Int} (h : FitsP xs a) (k : Nat) : FitsP (xs.take k) a := by
  intro s t hst ht
  rw [List.length_take] at ht
  have e1 : ∀ j, j ≤ k → sumTo (xs.take k) j = sumTo xs j := fun j hj => sumTo_congr j fun i hi => at0_take (by omega)
  rw [e1 _ (by omega), e1 _ (by omega)]
  exact h s t hst (by omega)

section
variable {xs a b : List Int} (hf : FitsP xs a) (hx : ∀ i, i < xs.length → 0 ≤ at0 xs i) (ha : xs.length < a.length) (hb : xs.length < b.length) (ha0 : at0 a 0 = 0) (hb0 : at0 b 0 = 0)
include hf ha0
theorem fits_sum {s t : Nat} (hst : s ≤ t) (ht : t ≤ xs.length) : sumTo xs t - sumTo xs s ≤ at0 a (t - s) := by
  by_cases e : s = t
  · subst e
    rw [show s - s = 0 from by omega, ha0]; omega
  · have h1 := hf s (t - 1) (by omega) (by omega)
    rw [show t - 1 + 1 = t from by omega, show t - 1 - s + 1 = t - s from by omega] at h1
    exact h1
include ha hb
theorem cruz_back {t : Nat} (ht : t ≤ xs.length) : sumTo xs t - conv (sumTo xs) (at0 b) t ≤ backlog a b := by
  obtain ⟨s, hs, he⟩ := conv_mem (sumTo xs) (at0 b) t
  rw [he]
  have h1 := fits_sum hf ha0 hs ht
  have h2 := backTo_ge (at0 a) (at0 b) (min a.length b.length) (t - s) (by omega)
  show _ ≤ backTo (at0 a) (at0 b) (min a.length b.length)
  omega
include hb0
theorem cruz_behind {s t : Nat} (hst : s ≤ t) (ht : t ≤ xs.length) (hl : t - s < (behindL a b).length) : conv (sumTo xs) (at0 b) t - conv (sumTo xs) (at0 b) s ≤ at0 (behindL a b) (t - s) := by
  rw [behindL_length] at hl
  obtain ⟨u, hu, he⟩ := conv_mem (sumTo xs) (at0 b) s
  rw [he]
  have h1 := conv_le (sumTo xs) (at0 b) t t (by omega)
  rw [show t - t = 0 from by omega, hb0] at h1
  have h2 := fits_sum hf ha0 (s := u) (t := t) (by omega) ht
  have h3 := behindL_ge (a := a) (b := b) (t := t - s) (s := s - u) hl (by omega)
  rw [show t - s + (s - u) = t - u from by omega] at h3
  omega
omit hb0
include hx
theorem cruz_delay {M : Int} {L d t : Nat} (hbg : CGood M L b) (hd : IsDelay a b d) (ht : t + d ≤ xs.length) : sumTo xs t ≤ conv (sumTo xs) (at0 b) (t + d) := by
  obtain ⟨s, hs, he⟩ := conv_mem (sumTo xs) (at0 b) (t + d)
  rw [he]
  have hbn := hbg.lo (t + d - s) (by omega)
  by_cases h : t ≤ s
  · have := sumTo_mono xs xs.length hx t s h (by omega)
    omega
  · have h1 := fits_sum hf ha0 (s := s) (t := t) (by omega) (by omega)
    obtain ⟨e, e1, e2, e3⟩ := hd.enough (t - s) (by omega)
    have h2 := hbg.mono (t - s + e) (t + d - s) (by omega) (by omega)
    omega
end
end Crv
end Go.Proofs.YtdhojhgmaodifaaDoor
