/-
  More plain laws of service by curves: when each cell is through; what waits. No program in sight.
-/
import Derived.Test.YtjjmfgoeabmfdaaScedLaw
namespace Go.Proofs.Ytjjmfgoeabmfdaa
open Crv
namespace Sced
variable (p : Pl)
/-- whose cell is sent at each tick ahead of t -/
def sentL : Nat → List Int
  | 0 => []
  | t + 1 => sentL t ++ [bestOf p (sentT p t) t]
/-- when the cells of a flow that were sent ahead of t are through -/
def thrL (i : Nat) : Nat → List Int
  | 0 => []
  | t + 1 => if bestOf p (sentT p t) t = (i : Int) then thrL i t ++ [(t : Int) + 1] else thrL i t
variable {p}
theorem sentL_len : ∀ t, (sentL p t).length = t := by
  intro t
  induction t with
  | zero => rfl
  | succ t ih => show (sentL p t ++ [_]).length = _; simp [ih]
theorem sentL_at : ∀ n t, t < n → at0 (sentL p n) t = bestOf p (sentT p t) t := by
  intro n
  induction n with
  | zero => intro t ht; omega
  | succ n ih =>
    intro t ht
    show at0 (sentL p n ++ [_]) t = _
    by_cases e : t = n
    · subst e; simp [at0, List.getD, sentL_len]
    · have hl := sentL_len (p := p) n
      have : at0 (sentL p n ++ [bestOf p (sentT p n) n]) t = at0 (sentL p n) t := by simp [at0, List.getD, List.getElem?_append_left (show t < (sentL p n).length by omega)]
      rw [this]; exact ih t (by omega)
theorem thrL_len (i : Nat) : ∀ t, (thrL p i t).length = sentT p t i := by
  intro t
  induction t with
  | zero => rfl
  | succ t ih =>
    show (if bestOf p (sentT p t) t = (i : Int) then thrL p i t ++ [(t : Int) + 1] else thrL p i t).length = if bestOf p (sentT p t) t = (i : Int) then sentT p t i + 1 else sentT p t i
    split <;> simp [ih]
theorem thrL_ext (i : Nat) : ∀ u t, t ≤ u → ∃ r, thrL p i u = thrL p i t ++ r := by
  intro u
  induction u with
  | zero => intro t ht; obtain rfl : t = 0 := by omega
            exact ⟨[], rfl⟩
  | succ u ih =>
    intro t ht
    by_cases e : t = u + 1
    · subst e; exact ⟨[], by simp⟩
    · obtain ⟨r, hr⟩ := ih t (by omega)
      show ∃ r, (if bestOf p (sentT p u) u = (i : Int) then thrL p i u ++ [(u : Int) + 1] else thrL p i u) = _
      split
      · exact ⟨r ++ [(u : Int) + 1], by rw [hr, List.append_assoc]⟩
      · exact ⟨r, hr⟩
theorem at0_app_lt {l r : List Int} {k : Nat} (h : k < l.length) : at0 (l ++ r) k = at0 l k := by simp [at0, List.getD, List.getElem?_append_left h]
theorem at0_app_ge {l r : List Int} {k : Nat} (h : l.length ≤ k) : at0 (l ++ r) k = at0 r (k - l.length) := by simp [at0, List.getD, List.getElem?_append_right h]
theorem thrL_bd (i : Nat) : ∀ t k, k < sentT p t i → 1 ≤ at0 (thrL p i t) k ∧ at0 (thrL p i t) k ≤ t ∧ (0 < k → at0 (thrL p i t) (k - 1) < at0 (thrL p i t) k) := by
  intro t
  induction t with
  | zero => intro k hk; exact absurd hk (by show ¬ k < 0; omega)
  | succ t ih =>
    intro k hk
    have hl := thrL_len (p := p) i t
    have e1 : thrL p i (t + 1) = if bestOf p (sentT p t) t = (i : Int) then thrL p i t ++ [(t : Int) + 1] else thrL p i t := rfl
    have e2 : sentT p (t + 1) i = if bestOf p (sentT p t) t = (i : Int) then sentT p t i + 1 else sentT p t i := rfl
    rw [e1]
    rw [e2] at hk
    by_cases hb : bestOf p (sentT p t) t = (i : Int)
    · rw [if_pos hb] at hk ⊢
      by_cases hlt : k < sentT p t i
      · obtain ⟨h1, h2, h3⟩ := ih k hlt
        rw [at0_app_lt (by omega)]
        refine ⟨h1, by omega, fun h0 => ?_⟩
        rw [at0_app_lt (by omega)]
        exact h3 h0
      · obtain rfl : k = sentT p t i := by omega
        rw [at0_app_ge (by omega)]
        have ez : sentT p t i - (thrL p i t).length = 0 := by omega
        rw [ez]
        have e3 : at0 [(t : Int) + 1] 0 = (t : Int) + 1 := rfl
        rw [e3]
        refine ⟨by omega, by omega, fun h0 => ?_⟩
        rw [at0_app_lt (by omega)]
        have := (ih (sentT p t i - 1) (by omega)).2.1
        omega
    · rw [if_neg hb] at hk ⊢
      obtain ⟨h1, h2, h3⟩ := ih k hk
      exact ⟨h1, by omega, h3⟩
/-- of each cell when it is through; -1: not within the plan -/
def thrF (p : Pl) (i K : Nat) : List Int := thrL p i p.ticks ++ List.replicate (K - sentT p p.ticks i) (-1)
theorem thrF_len (i K : Nat) (h : sentT p p.ticks i ≤ K) : (thrF p i K).length = K := by unfold thrF; simp [thrL_len]; omega
theorem thrF_lt {i K k : Nat} (h : k < sentT p p.ticks i) : at0 (thrF p i K) k = at0 (thrL p i p.ticks) k := at0_app_lt (by rw [thrL_len]; exact h)
theorem thrF_ge {i K k : Nat} (h : sentT p p.ticks i ≤ k) (hk : k < K) : at0 (thrF p i K) k = -1 := by
  unfold thrF
  rw [at0_app_ge (by rw [thrL_len]; exact h)]
  simp only [at0, List.getD, List.getElem?_replicate, thrL_len]
  rw [if_pos (by omega)]; rfl
/-- each cell that is promised within the plan is through by then -/
theorem meets (h : PlOk p) (hf : ∀ t, t ≤ p.ticks → sumF (fun i => at0 (p.fl i).prom t) p.m ≤ t) {i K k : Nat} (hi : i < p.m) (hK : k < K) (hd : 0 ≤ due p i k) : 0 ≤ at0 (thrF p i K) k ∧ at0 (thrF p i K) k ≤ due p i k := by
  rcases first_spec (byT p i) ((k : Int) + 1) (p.ticks + 1) with ⟨e, _⟩ | ⟨t, h1, h2, h3, _⟩
  · unfold due at hd; omega
  · have h4 := kept h hf (d := t) (by omega) hi
    have h5 : k < sentT p t i := by omega
    obtain ⟨r, hr⟩ := thrL_ext (p := p) i p.ticks t (by omega)
    have h6 : k < sentT p p.ticks i := by
      have := congrArg List.length hr
      rw [List.length_append, thrL_len, thrL_len] at this
      omega
    have h7 := thrL_bd i t k h5
    rw [thrF_lt h6, hr, at0_app_lt (by rw [thrL_len]; exact h5)]
    unfold due
    rw [h2]
    omega
/-- what is through comes behind what was through -/
theorem thr_up {i K k : Nat} (h0 : 0 < k) (hK : k < K) (ht : 0 ≤ at0 (thrF p i K) k) : at0 (thrF p i K) (k - 1) < at0 (thrF p i K) k := by
  rcases Nat.lt_or_ge k (sentT p p.ticks i) with h | h
  · rw [thrF_lt h, thrF_lt (by omega)]
    exact (thrL_bd i p.ticks k h).2.2 h0
  · rw [thrF_ge h hK] at ht; omega
/-- what waits at a tick -/
def waits (p : Pl) (t : Nat) : Int := sumF (fun i => cum p i (t + 1) - (sentT p t i : Int)) p.m
theorem wait_nonneg (h : PlOk p) (t : Nat) : ∀ i, i < p.m → 0 ≤ cum p i (t + 1) - (sentT p t i : Int) := fun i hi => by
  have h1 := sent_le h t i hi
  have h2 := cum_up h hi t (t + 1) (by omega)
  omega
theorem idle (h : PlOk p) (t : Nat) : (bestOf p (sentT p t) t < 0) = (waits p t = 0) := by
  apply propext
  rcases pick_spec (fun i => decide ((sentT p t i : Int) ≠ cum p i (t + 1))) (fun i => keyOf p i (sentT p t i)) p.m with ⟨e, hall⟩ | ⟨b, hbm, e, hw, _, hmin⟩
  · unfold bestOf
    rw [e]
    refine ⟨fun _ => ?_, fun _ => by omega⟩
    unfold waits
    have h0 : sumF (fun i => cum p i (t + 1) - (sentT p t i : Int)) p.m = sumF (fun _ => (0 : Int)) p.m := sumF_congr _ fun i hi => by
      have := hall i hi
      have h1 : (sentT p t i : Int) = cum p i (t + 1) := by simpa using this
      omega
    rw [h0]
    have h2 : ∀ m, sumF (fun _ => (0 : Int)) m = 0 := by
      intro m
      induction m with
      | zero => rfl
      | succ m ih => show sumF (fun _ => (0 : Int)) m + 0 = 0; rw [ih]; rfl
    exact h2 _
  · unfold bestOf
    rw [e]
    refine ⟨fun h => by omega, fun hz => ?_⟩
    have h1 := sumF_zero p.m (wait_nonneg h t) (by unfold waits at hz; omega) b hbm
    have h2 : (sentT p t b : Int) ≠ cum p b (t + 1) := by simpa using hw
    omega
theorem best_bd (t : Nat) : -1 ≤ bestOf p (sentT p t) t ∧ bestOf p (sentT p t) t < p.m := by
  rcases pick_spec (fun i => decide ((sentT p t i : Int) ≠ cum p i (t + 1))) (fun i => keyOf p i (sentT p t i)) p.m with ⟨e, hall⟩ | ⟨b, hbm, e, hw, _, hmin⟩
  · unfold bestOf; rw [e]; omega
  · unfold bestOf; rw [e]; omega
/-- a tick later: what came, less the one that was sent -/
theorem waits_succ (h : PlOk p) (t : Nat) : waits p (t + 1) = waits p t + sumF (fun i => at0 (p.fl i).come (t + 1)) p.m - (if bestOf p (sentT p t) t < 0 then 0 else 1) := by
  have e1 : waits p (t + 1) = sumF (fun i => (cum p i (t + 1) - (sentT p (t + 1) i : Int)) + at0 (p.fl i).come (t + 1)) p.m := sumF_congr _ fun i _ => by
    show cum p i (t + 1) + at0 (p.fl i).come (t + 1) - _ = _
    omega
  rw [e1, sumF_add]
  have hstep : ∀ i, sentT p (t + 1) i = if bestOf p (sentT p t) t = (i : Int) then sentT p t i + 1 else sentT p t i := fun i => rfl
  rcases pick_spec (fun i => decide ((sentT p t i : Int) ≠ cum p i (t + 1))) (fun i => keyOf p i (sentT p t i)) p.m with ⟨e, hall⟩ | ⟨b, hbm, e, hw, _, hmin⟩
  · have eb : bestOf p (sentT p t) t = -1 := e
    rw [eb, if_pos (by omega)]
    have : sumF (fun i => cum p i (t + 1) - (sentT p (t + 1) i : Int)) p.m = waits p t := sumF_congr _ fun i _ => by
      rw [hstep, eb, if_neg (by omega)]
    rw [this]; omega
  · have eb : bestOf p (sentT p t) t = b := e
    rw [eb, if_neg (by omega)]
    have : sumF (fun i => cum p i (t + 1) - (sentT p (t + 1) i : Int)) p.m = waits p t + (-1) := sumF_one (b := b) p.m hbm (fun i _ hne => by
      rw [hstep, eb, if_neg (by omega)]) (by rw [hstep, eb, if_pos rfl]; omega)
    rw [this]; omega
theorem waits_zero (p : Pl) : waits p 0 = sumF (fun i => at0 (p.fl i).come 0) p.m := sumF_congr _ fun i _ => by
  show 0 + at0 (p.fl i).come 0 - ((0 : Nat) : Int) = _
  omega
end Sced
end Go.Proofs.Ytjjmfgoeabmfdaa
