/-
  Plain laws of service: what has gone by each tick is one behind the other of what came and of the curve; served twice is served by both. No program in sight.
-/
import Derived.Test.YtdipehgijjkfdaaDoorCrvLaw
namespace Go.Proofs.YtdipehgijjkfdaaDoor
namespace Crv

/-- what came ahead of tick k -/
def sumTo (xs : List Int) : Nat → Int
  | 0 => 0
  | k + 1 => sumTo xs k + at0 xs k
theorem sumTo_bd (xs : List Int) (M : Int) : ∀ k : Nat, (∀ i, i < k → 0 ≤ at0 xs i ∧ at0 xs i ≤ M) → 0 ≤ sumTo xs k ∧ sumTo xs k ≤ k * M := by
  intro k
  induction k with
  | zero => intro _; simp [sumTo]
  | succ k ih =>
    intro h
    have h1 := ih fun i hi => h i (by omega)
    have h2 := h k (by omega)
    unfold sumTo
    have e : ((k + 1 : Nat) : Int) * M = (k : Int) * M + M := by rw [Int.natCast_add, Int.add_mul]; simp
    rw [e]
    omega
theorem sumTo_mono (xs : List Int) (n : Nat) (h : ∀ i, i < n → 0 ≤ at0 xs i) : ∀ i j, i ≤ j → j ≤ n → sumTo xs i ≤ sumTo xs j := by
  intro i j hij
  induction j with
  | zero => intro _; obtain rfl : i = 0 := by omega
            exact Int.le_refl _
  | succ j ih =>
    intro hj
    by_cases e : i = j + 1
    · subst e; exact Int.le_refl _
    · have h1 := ih (by omega) (by omega)
      have h2 := h j (by omega)
      show sumTo xs i ≤ sumTo xs j + at0 xs j
      omega

/-- what the program's inner loop has found behind j rounds -/
def srvTo (xs zs : List Int) (t : Nat) : Nat → Int
  | 0 => sumTo xs t + at0 zs 0
  | j + 1 => min (srvTo xs zs t j) (sumTo xs j + at0 zs (t - j))
theorem srvTo_le0 (xs zs : List Int) (t : Nat) : ∀ j, srvTo xs zs t j ≤ sumTo xs t + at0 zs 0 := by
  intro j
  induction j with
  | zero => exact Int.le_refl _
  | succ j ih => unfold srvTo; omega
theorem srvTo_le (xs zs : List Int) (t : Nat) : ∀ j s, s < j → srvTo xs zs t j ≤ sumTo xs s + at0 zs (t - s) := by
  intro j
  induction j with
  | zero => intro s hs; omega
  | succ j ih =>
    intro s hs
    unfold srvTo
    by_cases e : s = j
    · subst e; omega
    · have := ih s (by omega); omega
theorem le_srvTo (xs zs : List Int) (t : Nat) (c : Int) (h : ∀ s, s ≤ t → c ≤ sumTo xs s + at0 zs (t - s)) : ∀ j, j ≤ t → c ≤ srvTo xs zs t j := by
  intro j
  induction j with
  | zero => intro _; have := h t (by omega); rw [show t - t = 0 from by omega] at this; exact this
  | succ j ih =>
    intro hj
    have h1 := ih (by omega)
    have h2 := h j (by omega)
    unfold srvTo
    omega
theorem srvTo_conv (xs zs : List Int) (t : Nat) : srvTo xs zs t t = conv (sumTo xs) (at0 zs) t := by
  apply Int.le_antisymm
  · refine le_conv fun s hs => ?_
    by_cases e : s = t
    · subst e
      rw [show s - s = 0 from by omega]
      exact srvTo_le0 xs zs s s
    · exact srvTo_le xs zs t t s (by omega)
  · exact le_srvTo xs zs t _ (fun s hs => conv_le (sumTo xs) (at0 zs) t s hs) t (by omega)

def serveL (xs zs : List Int) : List Int := tab xs.length (conv (sumTo xs) (at0 zs))
theorem serveL_length (xs zs : List Int) : (serveL xs zs).length = xs.length := tab_length _ _
theorem serveL_at {xs zs : List Int} {t : Nat} (h : t < xs.length) : at0 (serveL xs zs) t = conv (sumTo xs) (at0 zs) t := at0_tab h

/-- what comes in at the second service: at each tick what goes out of the first until the next -/
def midL (f : List Int) : List Int := tab f.length fun t => if t + 1 < f.length then at0 f (t + 1) - at0 f t else 0
theorem midL_length (f : List Int) : (midL f).length = f.length := tab_length _ _
theorem midL_sum (f : List Int) (h0 : at0 f 0 = 0) : ∀ t, t < f.length → sumTo (midL f) t = at0 f t := by
  intro t
  induction t with
  | zero => intro _; rw [h0]; rfl
  | succ t ih =>
    intro ht
    have h1 := ih (by omega)
    unfold sumTo
    rw [h1, midL, at0_tab (by omega), if_pos ht]
    omega
theorem twice (xs b c : List Int) (hb : b.length ≥ xs.length) (hc : c.length ≥ xs.length) (hb0 : at0 b 0 = 0) :
    serveL (midL (serveL xs b)) c = serveL xs (thenL b c) := by
  have hf : (serveL xs b).length = xs.length := serveL_length _ _
  have e1 : serveL (midL (serveL xs b)) c = tab xs.length (conv (sumTo (midL (serveL xs b))) (at0 c)) := by
    unfold serveL
    rw [midL_length, tab_length]
  have e2 : serveL xs (thenL b c) = tab xs.length (conv (sumTo xs) (at0 (thenL b c))) := rfl
  rw [e1, e2]
  refine tab_congr fun t ht => ?_
  have h0 : at0 (serveL xs b) 0 = 0 := by
    rw [serveL_at (by omega)]
    show sumTo xs 0 + at0 b 0 = 0
    rw [hb0]; rfl
  rw [conv_congr (a := sumTo (midL (serveL xs b))) (a' := conv (sumTo xs) (at0 b)) (b := at0 c) (b' := at0 c)
    (fun s hs => by rw [midL_sum _ h0 s (by omega), serveL_at (by omega)]) (fun _ _ => rfl)]
  rw [conv_congr (a := sumTo xs) (a' := sumTo xs) (b := at0 (thenL b c)) (b' := conv (at0 b) (at0 c)) (fun _ _ => rfl) (fun s hs => thenL_at (by omega))]
  exact conv_assoc _ _ _ t
/-- what goes never falls, and is no more than what came -/
theorem serveL_up {xs b : List Int} (hx : ∀ i, i < xs.length → 0 ≤ at0 xs i) (hb : ∀ i, i + 1 < b.length → at0 b i ≤ at0 b (i + 1)) (hl : xs.length ≤ b.length) {t : Nat} (ht : t + 1 < xs.length) :
    at0 (serveL xs b) t ≤ at0 (serveL xs b) (t + 1) := by
  rw [serveL_at (by omega), serveL_at ht]
  exact conv_mono (sumTo_mono xs xs.length hx t (t + 1) (by omega) (by omega)) (fun s hs => hb s (by omega))
theorem serveL_le {xs b : List Int} (hb0 : at0 b 0 = 0) {t : Nat} (ht : t < xs.length) : at0 (serveL xs b) t ≤ sumTo xs t := by
  rw [serveL_at ht]
  have := conv_le (sumTo xs) (at0 b) t t (by omega)
  rw [show t - t = 0 from by omega, hb0] at this
  omega
theorem serveL_nonneg {xs b : List Int} (hx : ∀ i, i < xs.length → 0 ≤ at0 xs i) (hb : ∀ i, i < b.length → 0 ≤ at0 b i) (hl : xs.length ≤ b.length) {t : Nat} (ht : t < xs.length) : 0 ≤ at0 (serveL xs b) t := by
  rw [serveL_at ht]
  refine le_conv fun s hs => ?_
  have h1 := sumTo_mono xs xs.length hx 0 s (by omega) (by omega)
  have h2 := hb (t - s) (by omega)
  rw [show sumTo xs 0 = 0 from rfl] at h1
  omega
end Crv
end Go.Proofs.YtdipehgijjkfdaaDoor
