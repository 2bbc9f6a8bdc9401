/-
  Plain laws of service by curves: who is promised the soonest goes first: where all promises together are no more than a cell a tick, all are kept; and no tick is idle while a cell waits. No program in sight.
-/
import Derived.Test.YtjjmfgoeabmfdaaSrvLaw
namespace Go.Proofs.Ytjjmfgoeabmfdaa
open Crv
namespace Sced

def sumF (f : Nat → Int) : Nat → Int
  | 0 => 0
  | m + 1 => sumF f m + f m
theorem sumF_le {f g : Nat → Int} : ∀ m, (∀ i, i < m → f i ≤ g i) → sumF f m ≤ sumF g m := by
  intro m
  induction m with
  | zero => intro _; exact Int.le_refl _
  | succ m ih =>
    intro h
    have h1 := ih fun i hi => h i (by omega)
    have h2 := h m (by omega)
    show sumF f m + f m ≤ sumF g m + g m
    omega
theorem sumF_congr {f g : Nat → Int} : ∀ m, (∀ i, i < m → f i = g i) → sumF f m = sumF g m := fun m h =>
  Int.le_antisymm (sumF_le m fun i hi => by rw [h i hi]; exact Int.le_refl _) (sumF_le m fun i hi => by rw [h i hi]; exact Int.le_refl _)
theorem sumF_add {f g : Nat → Int} : ∀ m, sumF (fun i => f i + g i) m = sumF f m + sumF g m := by
  intro m
  induction m with
  | zero => rfl
  | succ m ih =>
    show sumF (fun i => f i + g i) m + (f m + g m) = sumF f m + f m + (sumF g m + g m)
    rw [ih]; omega
theorem sumF_one {f g : Nat → Int} {b : Nat} {e : Int} : ∀ m, b < m → (∀ i, i < m → i ≠ b → f i = g i) → f b = g b + e → sumF f m = sumF g m + e := by
  intro m
  induction m with
  | zero => intro h; omega
  | succ m ih =>
    intro hb h he
    show sumF f m + f m = sumF g m + g m + e
    by_cases hbm : b = m
    · subst hbm
      rw [sumF_congr b fun i hi => h i (by omega) (by omega), he]; omega
    · rw [ih (by omega) (fun i hi => h i (by omega)) he, h m (by omega) (by omega)]; omega
theorem sumF_nonneg {f : Nat → Int} (m : Nat) (h : ∀ i, i < m → 0 ≤ f i) : 0 ≤ sumF f m := by
  have h1 := sumF_le (f := fun _ => 0) (g := f) m h
  have h2 : ∀ m, sumF (fun _ => (0 : Int)) m = 0 := by
    intro m
    induction m with
    | zero => rfl
    | succ m ih => show sumF (fun _ => (0 : Int)) m + 0 = 0; rw [ih]; rfl
  rw [h2] at h1
  exact h1
theorem sumF_ge {f : Nat → Int} : ∀ m b, b < m → (∀ i, i < m → 0 ≤ f i) → f b ≤ sumF f m := by
  intro m
  induction m with
  | zero => intro b hb; omega
  | succ m ih =>
    intro b hb h
    show f b ≤ sumF f m + f m
    by_cases e : b = m
    · subst e
      have := sumF_nonneg b fun i hi => h i (by omega)
      omega
    · have h1 := ih b (by omega) fun i hi => h i (by omega)
      have h2 := h m (by omega)
      omega
theorem sumF_zero {f : Nat → Int} (m : Nat) (h : ∀ i, i < m → 0 ≤ f i) (h0 : sumF f m ≤ 0) : ∀ i, i < m → f i = 0 := fun i hi => by
  have h1 := sumF_ge m i hi h
  have h2 := h i hi
  omega

/-- the first t below n with g t no less than x; -1: none -/
def first (g : Nat → Int) (x : Int) : Nat → Int
  | 0 => -1
  | n + 1 => if 0 ≤ first g x n then first g x n else if x ≤ g n then n else -1
theorem first_spec (g : Nat → Int) (x : Int) : ∀ n, (first g x n = -1 ∧ ∀ t, t < n → g t < x) ∨ ∃ t : Nat, t < n ∧ first g x n = t ∧ x ≤ g t ∧ ∀ u, u < t → g u < x := by
  intro n
  induction n with
  | zero => exact .inl ⟨rfl, fun t ht => by omega⟩
  | succ n ih =>
    rcases ih with ⟨h1, h2⟩ | ⟨t, h1, h2, h3, h4⟩
    · by_cases hx : x ≤ g n
      · right
        refine ⟨n, by omega, ?_, hx, h2⟩
        show (if 0 ≤ first g x n then first g x n else if x ≤ g n then (n : Int) else -1) = n
        rw [h1, if_neg (by omega), if_pos hx]
      · left
        refine ⟨?_, fun t ht => ?_⟩
        · show (if 0 ≤ first g x n then first g x n else if x ≤ g n then (n : Int) else -1) = -1
          rw [h1, if_neg (by omega), if_neg hx]
        · by_cases e : t = n
          · subst e; omega
          · exact h2 t (by omega)
    · right
      refine ⟨t, by omega, ?_, h3, h4⟩
      show (if 0 ≤ first g x n then first g x n else if x ≤ g n then (n : Int) else -1) = t
      rw [h2, if_pos (by omega)]

/-- a choice: of those that wait one whose key is the least (of like ones the first) -/
def pick (wt : Nat → Bool) (key : Nat → Int) : Nat → Int × Int
  | 0 => (-1, 0)
  | i + 1 => if wt i = true ∧ ((pick wt key i).1 < 0 ∨ key i < (pick wt key i).2) then ((i : Int), key i) else pick wt key i
theorem pick_spec (wt : Nat → Bool) (key : Nat → Int) : ∀ m, ((pick wt key m).1 = -1 ∧ ∀ i, i < m → wt i = false) ∨
    ∃ b : Nat, b < m ∧ (pick wt key m).1 = b ∧ wt b = true ∧ (pick wt key m).2 = key b ∧ ∀ i, i < m → wt i = true → key b ≤ key i := by
  intro m
  induction m with
  | zero => exact .inl ⟨rfl, fun i hi => by omega⟩
  | succ m ih =>
    have hp : pick wt key (m + 1) = if wt m = true ∧ ((pick wt key m).1 < 0 ∨ key m < (pick wt key m).2) then ((m : Int), key m) else pick wt key m := rfl
    rw [hp]
    rcases ih with ⟨h1, h2⟩ | ⟨b, h1, h2, h3, h4, h5⟩
    · cases hw : wt m
      · rw [if_neg (by simp)]
        exact .inl ⟨h1, fun i hi => by
          by_cases e : i = m
          · rw [e]; exact hw
          · exact h2 i (by omega)⟩
      · rw [if_pos ⟨rfl, .inl (by omega)⟩]
        exact .inr ⟨m, by omega, rfl, hw, rfl, fun i hi hwi => by
          by_cases e : i = m
          · rw [e]; exact Int.le_refl _
          · rw [h2 i (by omega)] at hwi; cases hwi⟩
    · by_cases hc : wt m = true ∧ ((pick wt key m).1 < 0 ∨ key m < (pick wt key m).2)
      · rw [if_pos hc]
        obtain ⟨hw, hk⟩ := hc
        rw [h2, h4] at hk
        have hk' : key m < key b := by
          rcases hk with h | h
          · omega
          · exact h
        exact .inr ⟨m, by omega, rfl, hw, rfl, fun i hi hwi => by
          by_cases e : i = m
          · rw [e]; exact Int.le_refl _
          · have := h5 i (by omega) hwi; omega⟩
      · rw [if_neg hc]
        refine .inr ⟨b, by omega, h2, h3, h4, fun i hi hwi => ?_⟩
        by_cases e : i = m
        · subst e
          rw [h2, h4] at hc
          have : ¬ (key i < key b) := fun h => hc ⟨hwi, .inr h⟩
          omega
        · exact h5 i (by omega) hwi

/-- a flow: what comes at each tick, its promise -/
structure Fl where
  come : List Int
  prom : List Int
/-- the plan's make: m flows, so many ticks -/
structure Pl where
  m : Nat
  fl : Nat → Fl
  ticks : Nat
variable (p : Pl)
def cum (i t : Nat) : Int := sumTo (p.fl i).come t
def byT (i t : Nat) : Int := conv (sumTo (p.fl i).come) (at0 (p.fl i).prom) t
/-- by when a cell is promised -/
def due (i k : Nat) : Int := first (byT p i) ((k : Int) + 1) (p.ticks + 1)
def keyOf (i k : Nat) : Int := if due p i k < 0 then (p.ticks : Int) + 1 else due p i k
/-- whose cell is sent -/
def bestOf (s : Nat → Nat) (t : Nat) : Int := (pick (fun i => decide ((s i : Int) ≠ cum p i (t + 1))) (fun i => keyOf p i (s i)) p.m).1
/-- how many of each flow's were sent ahead of t -/
def sentT : Nat → Nat → Nat
  | 0 => fun _ => 0
  | t + 1 => fun i => if bestOf p (sentT t) t = (i : Int) then sentT t i + 1 else sentT t i

structure PlOk : Prop where
  come : ∀ i, i < p.m → ∀ t, 0 ≤ at0 (p.fl i).come t
  prom0 : ∀ i, i < p.m → ∀ t, t < (p.fl i).prom.length → 0 ≤ at0 (p.fl i).prom t
  up : ∀ i, i < p.m → ∀ t, t + 1 < (p.fl i).prom.length → at0 (p.fl i).prom t ≤ at0 (p.fl i).prom (t + 1)
  far : ∀ i, i < p.m → p.ticks < (p.fl i).prom.length
variable {p}

theorem cum_up (h : PlOk p) {i : Nat} (hi : i < p.m) : ∀ t u, t ≤ u → cum p i t ≤ cum p i u := fun t u htu =>
  sumTo_mono _ u (fun j _ => h.come i hi j) t u htu (Nat.le_refl _)
theorem byT_up (h : PlOk p) {i : Nat} (hi : i < p.m) : ∀ t u, t ≤ u → u ≤ p.ticks → byT p i t ≤ byT p i u := by
  intro t u htu
  induction u with
  | zero => intro _; obtain rfl : t = 0 := by omega
            exact Int.le_refl _
  | succ u ih =>
    intro hu
    by_cases e : t = u + 1
    · subst e; exact Int.le_refl _
    · have h1 := ih (by omega) (by omega)
      have h2 : byT p i u ≤ byT p i (u + 1) := conv_mono (cum_up h hi u (u + 1) (by omega)) (fun s hs => h.up i hi s (by have := h.far i hi; omega))
      omega
/-- never more is sent than has come -/
theorem sent_le (h : PlOk p) : ∀ t i, i < p.m → (sentT p t i : Int) ≤ cum p i t := by
  intro t
  induction t with
  | zero => intro i _; show (0 : Int) ≤ 0; exact Int.le_refl _
  | succ t ih =>
    intro i hi
    have h1 := ih i hi
    have h2 := cum_up h hi t (t + 1) (by omega)
    show ((if bestOf p (sentT p t) t = (i : Int) then sentT p t i + 1 else sentT p t i : Nat) : Int) ≤ _
    split
    · rename_i hb
      rcases pick_spec (fun i => decide ((sentT p t i : Int) ≠ cum p i (t + 1))) (fun i => keyOf p i (sentT p t i)) p.m with ⟨e, _⟩ | ⟨b, _, e, hw, _, _⟩
      · unfold bestOf at hb; rw [e] at hb; omega
      · unfold bestOf at hb
        rw [e] at hb
        have : b = i := by omega
        subst this
        have hw' : (sentT p t b : Int) ≠ cum p b (t + 1) := by simpa using hw
        omega
    · omega

/-- what is promised by d and not sent -/
def late (s : Nat → Nat) (d : Nat) : Int := sumF (fun i => max 0 (byT p i d - (s i : Int))) p.m
theorem edf (h : PlOk p) (hf : ∀ t, t ≤ p.ticks → sumF (fun i => at0 (p.fl i).prom t) p.m ≤ t) {d : Nat} (hd : d ≤ p.ticks) : ∀ t, t ≤ d → late (p := p) (sentT p t) d ≤ (d : Int) - t := by
  intro t
  induction t with
  | zero =>
    intro _
    have h1 : late (p := p) (sentT p 0) d ≤ sumF (fun i => at0 (p.fl i).prom d) p.m := sumF_le _ fun i hi => by
      have h2 : byT p i d ≤ cum p i 0 + at0 (p.fl i).prom (d - 0) := conv_le _ _ d 0 (by omega)
      have h3 := h.prom0 i hi d (by have := h.far i hi; omega)
      have h4 : cum p i 0 = 0 := rfl
      show max 0 (byT p i d - ((0 : Nat) : Int)) ≤ _
      rw [show d - 0 = d from rfl] at h2
      omega
    have h2 := hf d hd
    omega
  | succ t ih =>
    intro ht
    have ih' := ih (by omega)
    have hstep : ∀ i, sentT p (t + 1) i = if bestOf p (sentT p t) t = (i : Int) then sentT p t i + 1 else sentT p t i := fun i => rfl
    have hcase : (∃ b : Nat, b < p.m ∧ bestOf p (sentT p t) t = b ∧ (sentT p t b : Int) < byT p b d) ∨ ∀ i, i < p.m → byT p i d ≤ sentT p (t + 1) i ∨ byT p i d ≤ (sentT p (t + 1) i : Int) + at0 (p.fl i).prom (d - (t + 1)) := by
      rcases pick_spec (fun i => decide ((sentT p t i : Int) ≠ cum p i (t + 1))) (fun i => keyOf p i (sentT p t i)) p.m with ⟨e, hall⟩ | ⟨b, hbm, e, hw, _, hmin⟩
      · right
        intro i hi
        right
        have hw := hall i hi
        have hw' : (sentT p t i : Int) = cum p i (t + 1) := by simpa using hw
        have h2 : byT p i d ≤ cum p i (t + 1) + at0 (p.fl i).prom (d - (t + 1)) := conv_le _ _ d (t + 1) ht
        rw [hstep, if_neg (by unfold bestOf; rw [e]; omega), hw']
        exact h2
      · by_cases hlt : (sentT p t b : Int) < byT p b d
        · exact .inl ⟨b, hbm, e, hlt⟩
        · right
          intro i hi
          by_cases hwi : (sentT p t i : Int) = cum p i (t + 1)
          · right
            have h2 : byT p i d ≤ cum p i (t + 1) + at0 (p.fl i).prom (d - (t + 1)) := conv_le _ _ d (t + 1) ht
            have h3 : (sentT p t i : Int) ≤ sentT p (t + 1) i := by rw [hstep]; split <;> omega
            omega
          · left
            have hge : ¬ ((sentT p t i : Int) < byT p i d) := by
              intro hlt2
              have hk := hmin i hi (by simpa using hwi)
              have hki : keyOf p i (sentT p t i) ≤ d := by
                unfold keyOf due
                rcases first_spec (byT p i) ((sentT p t i : Int) + 1) (p.ticks + 1) with ⟨_, h2⟩ | ⟨u, hu, h2, h3, h4⟩
                · have := h2 d (by omega); omega
                · rw [h2, if_neg (by omega)]
                  rcases Nat.lt_or_ge d u with h5 | h5
                  · have := h4 d h5; omega
                  · omega
              have hkb : keyOf p b (sentT p t b) ≤ d := Int.le_trans hk hki
              unfold keyOf due at hkb
              rcases first_spec (byT p b) ((sentT p t b : Int) + 1) (p.ticks + 1) with ⟨h2, _⟩ | ⟨u, hu, h2, h3, h4⟩
              · rw [h2, if_pos (by omega)] at hkb; omega
              · rw [h2, if_neg (by omega)] at hkb
                have := byT_up h hbm u d (by omega) hd
                omega
            have h3 : (sentT p t i : Int) ≤ sentT p (t + 1) i := by rw [hstep]; split <;> omega
            omega
    rcases hcase with ⟨b, hbm, hbest, hlt⟩ | hB
    · have h1 : late (p := p) (sentT p (t + 1)) d = late (p := p) (sentT p t) d + (-1) := sumF_one (b := b) p.m hbm (fun i hi hne => by
          rw [hstep, if_neg (by rw [hbest]; omega)]) (by
          rw [hstep, if_pos hbest]
          omega)
      rw [h1]
      omega
    · have h1 : late (p := p) (sentT p (t + 1)) d ≤ sumF (fun i => at0 (p.fl i).prom (d - (t + 1))) p.m := sumF_le _ fun i hi => by
        have h3 := h.prom0 i hi (d - (t + 1)) (by have := h.far i hi; omega)
        show max 0 (byT p i d - (sentT p (t + 1) i : Int)) ≤ at0 (p.fl i).prom (d - (t + 1))
        rcases hB i hi with h2 | h2
        · omega
        · omega
      have h2 := hf (d - (t + 1)) (by omega)
      omega
/-- all promises are kept -/
theorem kept (h : PlOk p) (hf : ∀ t, t ≤ p.ticks → sumF (fun i => at0 (p.fl i).prom t) p.m ≤ t) {d : Nat} (hd : d ≤ p.ticks) {i : Nat} (hi : i < p.m) : byT p i d ≤ sentT p d i := by
  have h1 := edf h hf hd d (Nat.le_refl _)
  have h2 := sumF_zero (f := fun i => max 0 (byT p i d - (sentT p d i : Int))) p.m (fun i _ => by omega) (by show late (p := p) (sentT p d) d ≤ 0; omega) i hi
  omega
end Sced
end Go.Proofs.Ytjjmfgoeabmfdaa
