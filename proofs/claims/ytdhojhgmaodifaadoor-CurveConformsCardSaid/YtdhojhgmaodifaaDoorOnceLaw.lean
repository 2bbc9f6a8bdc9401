/-
  Plain laws of delay: through two services one behind the other nothing waits longer than one bound added to the other. No program in sight.
-/
import Derived.Test.YtdhojhgmaodifaaDoorCrvLaw
namespace Go.Proofs.YtdhojhgmaodifaaDoor
namespace Crv

/-- of the first j sums the greatest, not below 0 -/
def bhTo (a b : Nat → Int) (t : Nat) : Nat → Int
  | 0 => 0
  | j + 1 => max (bhTo a b t j) (a (t + j) - b j)
theorem bhTo_ge (a b : Nat → Int) (t : Nat) : ∀ j s, s < j → a (t + s) - b s ≤ bhTo a b t j := by
  intro j
  induction j with
  | zero => intro s hs; omega
  | succ j ih =>
    intro s hs
    show _ ≤ max (bhTo a b t j) (a (t + j) - b j)
    by_cases e : s = j
    · subst e; omega
    · have := ih s (by omega); omega
theorem bhTo_bd (a b : Nat → Int) (t : Nat) (M : Int) (hM : 0 ≤ M) : ∀ j, (∀ s, s < j → a (t + s) - b s ≤ M) → 0 ≤ bhTo a b t j ∧ bhTo a b t j ≤ M := by
  intro j
  induction j with
  | zero => intro _; exact ⟨Int.le_refl _, hM⟩
  | succ j ih =>
    intro h
    have h1 := ih fun s hs => h s (by omega)
    have h2 := h j (by omega)
    show 0 ≤ max (bhTo a b t j) (a (t + j) - b j) ∧ max (bhTo a b t j) (a (t + j) - b j) ≤ M
    omega
def behindL (a b : List Int) : List Int := tab ((min a.length b.length + 1) / 2) fun t => bhTo (at0 a) (at0 b) t (min a.length b.length - t)
theorem behindL_length (a b : List Int) : (behindL a b).length = (min a.length b.length + 1) / 2 := tab_length _ _
theorem behindL_ge {a b : List Int} {t s : Nat} (ht : t < (min a.length b.length + 1) / 2) (hs : t + s < min a.length b.length) : at0 a (t + s) - at0 b s ≤ at0 (behindL a b) t := by
  unfold behindL
  rw [at0_tab ht]
  exact bhTo_ge (at0 a) (at0 b) t _ s (by omega)

/-- what the program has found behind t rounds: m is enough for each of them, and one of them wants it -/
structure DelayTo (a b : List Int) (t : Nat) (m : Nat) : Prop where
  small : m ≤ b.length
  enough : ∀ i, i < t → ∃ e, e ≤ m ∧ i + e < b.length ∧ at0 a i ≤ at0 b (i + e)
  wanted : m = 0 ∨ ∃ i, i < t ∧ ∀ e, e < m → i + e < b.length ∧ at0 b (i + e) < at0 a i
theorem DelayTo.start (a b : List Int) : DelayTo a b 0 0 := ⟨Nat.zero_le _, fun i hi => by omega, .inl rfl⟩
theorem DelayTo.step {a b : List Int} {t m d : Nat} (h : DelayTo a b t m) (hd : t + d < b.length) (hge : at0 a t ≤ at0 b (t + d)) (hlt : ∀ e, e < d → t + e < b.length ∧ at0 b (t + e) < at0 a t) : DelayTo a b (t + 1) (max m d) := by
  refine ⟨by have := h.small; omega, fun i hi => ?_, ?_⟩
  · by_cases e : i = t
    · subst e; exact ⟨d, by omega, hd, hge⟩
    · obtain ⟨e', h1, h2, h3⟩ := h.enough i (by omega)
      exact ⟨e', by omega, h2, h3⟩
  · by_cases hmd : m < d
    · rw [show max m d = d from by omega]
      exact .inr ⟨t, by omega, hlt⟩
    · rw [show max m d = m from by omega]
      rcases h.wanted with h0 | ⟨i, hi, hw⟩
      · exact .inl h0
      · exact .inr ⟨i, by omega, hw⟩
/-- the delay -/
def IsDelay (a b : List Int) (m : Nat) : Prop := DelayTo a b a.length m

theorem once {Ma Mb Mc : Int} {L : Nat} {a b c : List Int} {n x y z : Nat} (ha : CGood Ma L a) (hb : CGood Mb L b) (hc : CGood Mc L c) (hn : n ≤ a.length) (hn' : n ≤ (behindL a b).length)
    (hx : IsDelay a b x) (hy : IsDelay (behindL a b) c y) (hz : IsDelay (a.take n) (thenL b c) z) : z ≤ x + y := by
  rcases Nat.lt_or_ge (x + y) z with hlt | hge
  · exfalso
    rw [behindL_length] at hn'
    have hta : (a.take n).length = n := by rw [List.length_take]; omega
    rcases hz.wanted with h0 | ⟨t, ht, hw⟩
    · omega
    · rw [hta] at ht
      obtain ⟨h1, h2⟩ := hw (x + y) hlt
      rw [thenL_length] at h1
      have eat : at0 (a.take n) t = at0 a t := by unfold at0; simp [List.getD, List.getElem?_take_of_lt ht]
      rw [eat, thenL_at h1] at h2
      obtain ⟨s, hs, he⟩ := conv_mem (at0 b) (at0 c) (t + (x + y))
      rw [he] at h2
      have hcs : 0 ≤ at0 c (t + (x + y) - s) := hc.lo _ (by omega)
      by_cases h3 : t + x ≤ s
      · obtain ⟨e, e1, e2, e3⟩ := hx.enough t (by omega)
        have := hb.mono (t + e) s (by omega) (by omega)
        omega
      · by_cases h4 : s ≤ t
        · have hm := behindL_ge (a := a) (b := b) (t := t - s) (s := s) (by omega) (by omega)
          rw [show t - s + s = t from by omega] at hm
          obtain ⟨e, e1, e2, e3⟩ := hy.enough (t - s) (by rw [behindL_length]; omega)
          have := hc.mono (t - s + e) (t + (x + y) - s) (by omega) (by omega)
          omega
        · obtain ⟨e, e1, e2, e3⟩ := hy.enough 0 (by rw [behindL_length]; omega)
          have h5 := hc.mono (0 + e) (t + (x + y) - s) (by omega) (by omega)
          by_cases h6 : s < a.length
          · have hm := behindL_ge (a := a) (b := b) (t := 0) (s := s) (by omega) (by omega)
            rw [show 0 + s = s from by omega] at hm
            have := ha.mono t s (by omega) h6
            omega
          · have hm := behindL_ge (a := a) (b := b) (t := 0) (s := a.length - 1) (by omega) (by omega)
            rw [show 0 + (a.length - 1) = a.length - 1 from by omega] at hm
            have h7 := ha.mono t (a.length - 1) (by omega) (by omega)
            have h8 := hb.mono (a.length - 1) s (by omega) (by omega)
            omega
  · exact hge
end Crv
end Go.Proofs.YtdhojhgmaodifaaDoor
