/-
  Plain laws of curves, as functions on numbers: sums by the least (one behind the other) are the same whichever way, over a third one, and over the lesser of two. No condition; no program in sight.
-/
namespace Go.Proofs.YtdipehgijjkfdaaDoor
namespace Crv

/-- the least of f 0 .. f n -/
def minTo (f : Nat → Int) : Nat → Int
  | 0 => f 0
  | n + 1 => min (minTo f n) (f (n + 1))

theorem minTo_le (f : Nat → Int) : ∀ n s : Nat, s ≤ n → minTo f n ≤ f s := by
  intro n
  induction n with
  | zero => intro s hs; obtain rfl : s = 0 := by omega
            exact Int.le_refl _
  | succ n ih =>
    intro s hs
    unfold minTo
    by_cases h : s = n + 1
    · subst h; omega
    · have := ih s (by omega); omega

theorem minTo_mem (f : Nat → Int) : ∀ n : Nat, ∃ s, s ≤ n ∧ minTo f n = f s := by
  intro n
  induction n with
  | zero => exact ⟨0, by omega, rfl⟩
  | succ n ih =>
    obtain ⟨s, hs, he⟩ := ih
    by_cases h : minTo f n ≤ f (n + 1)
    · exact ⟨s, by omega, by unfold minTo; omega⟩
    · exact ⟨n + 1, by omega, by unfold minTo; omega⟩

theorem le_minTo {f : Nat → Int} {c : Int} {n : Nat} (h : ∀ s, s ≤ n → c ≤ f s) : c ≤ minTo f n := by
  obtain ⟨s, hs, he⟩ := minTo_mem f n
  rw [he]; exact h s hs

theorem minTo_congr {f g : Nat → Int} {n : Nat} (h : ∀ s, s ≤ n → f s = g s) : minTo f n = minTo g n := by
  apply Int.le_antisymm
  · exact le_minTo fun s hs => by rw [← h s hs]; exact minTo_le f n s hs
  · exact le_minTo fun s hs => by rw [h s hs]; exact minTo_le g n s hs

/-- one behind the other -/
def conv (a b : Nat → Int) (t : Nat) : Int := minTo (fun s => a s + b (t - s)) t

theorem conv_le (a b : Nat → Int) (t s : Nat) (h : s ≤ t) : conv a b t ≤ a s + b (t - s) := minTo_le (fun s => a s + b (t - s)) t s h
theorem conv_mem (a b : Nat → Int) (t : Nat) : ∃ s, s ≤ t ∧ conv a b t = a s + b (t - s) := minTo_mem (fun s => a s + b (t - s)) t
theorem le_conv {a b : Nat → Int} {t : Nat} {c : Int} (h : ∀ s, s ≤ t → c ≤ a s + b (t - s)) : c ≤ conv a b t := le_minTo h

theorem conv_congr {a a' b b' : Nat → Int} {t : Nat} (ha : ∀ s, s ≤ t → a s = a' s) (hb : ∀ s, s ≤ t → b s = b' s) : conv a b t = conv a' b' t :=
  minTo_congr fun s hs => by show a s + b (t - s) = a' s + b' (t - s); rw [ha s hs, hb (t - s) (by omega)]

theorem conv_comm_le (a b : Nat → Int) (t : Nat) : conv a b t ≤ conv b a t :=
  le_conv fun s hs => by
    have := conv_le a b t (t - s) (by omega)
    rw [show t - (t - s) = s from by omega] at this
    omega
theorem conv_comm (a b : Nat → Int) (t : Nat) : conv a b t = conv b a t := Int.le_antisymm (conv_comm_le a b t) (conv_comm_le b a t)

theorem conv_assoc_le (a b c : Nat → Int) (t : Nat) : conv (conv a b) c t ≤ conv a (conv b c) t :=
  le_conv fun s hs => by
    obtain ⟨u, hu, he⟩ := conv_mem b c (t - s)
    rw [he]
    have h1 := conv_le (conv a b) c t (s + u) (by omega)
    have h2 := conv_le a b (s + u) s (by omega)
    rw [show s + u - s = u from by omega] at h2
    rw [show t - (s + u) = t - s - u from by omega] at h1
    omega
theorem conv_assoc (a b c : Nat → Int) (t : Nat) : conv (conv a b) c t = conv a (conv b c) t := by
  apply Int.le_antisymm (conv_assoc_le a b c t)
  refine le_conv fun s hs => ?_
  obtain ⟨u, hu, he⟩ := conv_mem a b s
  rw [he]
  have h1 := conv_le a (conv b c) t u (by omega)
  have h2 := conv_le b c (t - u) (s - u) (by omega)
  rw [show t - u - (s - u) = t - s from by omega] at h2
  omega

theorem conv_least (a b c : Nat → Int) (t : Nat) : conv a (fun i => min (b i) (c i)) t = min (conv a b t) (conv a c t) := by
  apply Int.le_antisymm
  · have h1 : conv a (fun i => min (b i) (c i)) t ≤ conv a b t := le_conv fun s hs => by
      have : conv a (fun i => min (b i) (c i)) t ≤ a s + min (b (t - s)) (c (t - s)) := conv_le a (fun i => min (b i) (c i)) t s hs
      omega
    have h2 : conv a (fun i => min (b i) (c i)) t ≤ conv a c t := le_conv fun s hs => by
      have : conv a (fun i => min (b i) (c i)) t ≤ a s + min (b (t - s)) (c (t - s)) := conv_le a (fun i => min (b i) (c i)) t s hs
      omega
    omega
  · refine le_conv fun s hs => ?_
    have h1 := conv_le a b t s hs
    have h2 := conv_le a c t s hs
    show _ ≤ a s + min (b (t - s)) (c (t - s))
    omega

theorem conv_mono {a b : Nat → Int} {t : Nat} (ha : a t ≤ a (t + 1)) (hb : ∀ s, s ≤ t → b s ≤ b (s + 1)) : conv a b t ≤ conv a b (t + 1) :=
  le_conv fun s hs => by
    by_cases h : s ≤ t
    · have h1 := conv_le a b t s h
      have h2 := hb (t - s) (by omega)
      rw [show t - s + 1 = t + 1 - s from by omega] at h2
      omega
    · obtain rfl : s = t + 1 := by omega
      have h1 := conv_le a b t t (by omega)
      rw [show t - t = 0 from by omega] at h1
      rw [show t + 1 - (t + 1) = 0 from by omega]
      omega

/-! ### lists -/
def at0 (l : List Int) (i : Nat) : Int := l.getD i 0
def tab (n : Nat) (f : Nat → Int) : List Int := (List.range n).map f
theorem tab_length (n : Nat) (f : Nat → Int) : (tab n f).length = n := by simp [tab]
theorem at0_tab {n : Nat} {f : Nat → Int} {i : Nat} (h : i < n) : at0 (tab n f) i = f i := by
  simp [at0, tab, h]
theorem at0_none {l : List Int} {i : Nat} (h : l.length ≤ i) : at0 l i = 0 := by
  simp [at0, h]
theorem tab_congr {n : Nat} {f g : Nat → Int} (h : ∀ i, i < n → f i = g i) : tab n f = tab n g := by
  unfold tab
  apply List.map_congr_left
  intro i hi
  exact h i (by simpa using hi)
theorem tab_succ (n : Nat) (f : Nat → Int) : tab (n + 1) f = tab n f ++ [f n] := by
  simp [tab, List.range_succ]
theorem tab_at0 (l : List Int) : tab l.length (at0 l) = l := by
  apply List.ext_getElem
  · simp [tab]
  · intro i h1 h2
    simp [tab, at0, h2]

/-- a curve that may be: of 1 to L numbers, none below 0 or above M, none below the one ahead -/
structure CGood (M : Int) (L : Nat) (l : List Int) : Prop where
  pos : 1 ≤ l.length
  len : l.length ≤ L
  lo : ∀ i, i < l.length → 0 ≤ at0 l i
  hi : ∀ i, i < l.length → at0 l i ≤ M
  up : ∀ i, i + 1 < l.length → at0 l i ≤ at0 l (i + 1)

theorem CGood.mono {M : Int} {L : Nat} {l : List Int} (h : CGood M L l) : ∀ i j, i ≤ j → j < l.length → at0 l i ≤ at0 l j := by
  intro i j hij
  induction j with
  | zero => intro _; obtain rfl : i = 0 := by omega
            exact Int.le_refl _
  | succ j ih =>
    intro hj
    by_cases e : i = j + 1
    · subst e; exact Int.le_refl _
    · have h1 := ih (by omega) (by omega)
      have h2 := h.up j hj
      omega
theorem CGood.weak {M M' : Int} {L L' : Nat} {l : List Int} (h : CGood M L l) (hM : M ≤ M') (hL : L ≤ L') : CGood M' L' l :=
  ⟨h.pos, Nat.le_trans h.len hL, h.lo, fun i hi => Int.le_trans (h.hi i hi) hM, h.up⟩

def thenL (a b : List Int) : List Int := tab (min a.length b.length) (conv (at0 a) (at0 b))
def leastL (a b : List Int) : List Int := tab (min a.length b.length) (fun t => min (at0 a t) (at0 b t))

theorem thenL_length (a b : List Int) : (thenL a b).length = min a.length b.length := tab_length _ _
theorem leastL_length (a b : List Int) : (leastL a b).length = min a.length b.length := tab_length _ _
theorem thenL_at {a b : List Int} {t : Nat} (h : t < min a.length b.length) : at0 (thenL a b) t = conv (at0 a) (at0 b) t := at0_tab h
theorem leastL_at {a b : List Int} {t : Nat} (h : t < min a.length b.length) : at0 (leastL a b) t = min (at0 a t) (at0 b t) := at0_tab h

theorem thenL_comm (a b : List Int) : thenL a b = thenL b a := by
  unfold thenL
  rw [Nat.min_comm]
  exact tab_congr fun i _ => conv_comm _ _ i
theorem thenL_assoc (a b c : List Int) : thenL (thenL a b) c = thenL a (thenL b c) := by
  unfold thenL
  rw [tab_length, tab_length, Nat.min_assoc]
  refine tab_congr fun i hi => ?_
  rw [conv_congr (a := at0 (tab (min a.length b.length) (conv (at0 a) (at0 b)))) (a' := conv (at0 a) (at0 b)) (b := at0 c) (b' := at0 c) (fun s hs => at0_tab (by omega)) (fun _ _ => rfl)]
  rw [conv_congr (a := at0 a) (a' := at0 a) (b := at0 (tab (min b.length c.length) (conv (at0 b) (at0 c)))) (b' := conv (at0 b) (at0 c)) (fun _ _ => rfl) (fun s hs => at0_tab (by omega))]
  exact conv_assoc _ _ _ i
theorem thenL_least (a b c : List Int) : thenL a (leastL b c) = leastL (thenL a b) (thenL a c) := by
  unfold thenL leastL
  simp only [tab_length]
  rw [show min (min a.length b.length) (min a.length c.length) = min a.length (min b.length c.length) from by omega]
  refine tab_congr fun i hi => ?_
  rw [at0_tab (by omega), at0_tab (by omega)]
  rw [conv_congr (a := at0 a) (a' := at0 a) (b := at0 (tab (min b.length c.length) fun t => min (at0 b t) (at0 c t))) (b' := fun t => min (at0 b t) (at0 c t)) (fun _ _ => rfl) (fun s hs => at0_tab (by omega))]
  exact conv_least _ _ _ i

theorem thenL_good {M M' : Int} {L : Nat} {a b : List Int} (ha : CGood M L a) (hb : CGood M' L b) : CGood (M + M') L (thenL a b) := by
  have hlen := thenL_length a b
  have := ha.pos; have := hb.pos; have := ha.len
  refine ⟨by omega, by omega, fun i hi => ?_, fun i hi => ?_, fun i hi => ?_⟩
  · rw [thenL_at (by omega)]
    refine le_conv fun s hs => ?_
    have h1 := ha.lo s (by omega); have h2 := hb.lo (i - s) (by omega)
    omega
  · rw [thenL_at (by omega)]
    have h0 := conv_le (at0 a) (at0 b) i 0 (by omega)
    have h1 := ha.hi 0 (by omega); have h2 := hb.hi (i - 0) (by omega)
    omega
  · rw [thenL_at (by omega), thenL_at (by omega)]
    exact conv_mono (ha.up i (by omega)) (fun s hs => hb.up s (by omega))
theorem leastL_good {M M' : Int} {L : Nat} {a b : List Int} (ha : CGood M L a) (hb : CGood M' L b) : CGood (min M M') L (leastL a b) := by
  have hlen := leastL_length a b
  have := ha.pos; have := hb.pos; have := ha.len
  refine ⟨by omega, by omega, fun i hi => ?_, fun i hi => ?_, fun i hi => ?_⟩
  · rw [leastL_at (by omega)]
    have h1 := ha.lo i (by omega); have h2 := hb.lo i (by omega)
    omega
  · rw [leastL_at (by omega)]
    have h1 := ha.hi i (by omega); have h2 := hb.hi i (by omega)
    omega
  · rw [leastL_at (by omega), leastL_at (by omega)]
    have h1 := ha.up i (by omega); have h2 := hb.up i (by omega)
    omega
end Crv
end Go.Proofs.YtdipehgijjkfdaaDoor
