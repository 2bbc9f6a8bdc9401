/-
  Plain laws of BucketColors and BucketShaped and CurveConforms. No program in sight.
-/
import Derived.Test.YtdhojhgmaodifaaDoorBktLaw
namespace Go.Proofs.YtdhojhgmaodifaaDoor
open Crv
namespace Bkt
/-! ### one rate, two rooms -/
/-- what the first room has, ahead of packet j, and the last time -/
structure C1 where
  last : Int
  first : Int
  second : Int
def c1Start (k : Bk) (x : Int) : C1 := ⟨0, k.r * k.t, x * k.t⟩
def c1More (k : Bk) (s : C1) (now : Int) : Int := (now - s.last) * k.b
def c1F (k : Bk) (s : C1) (now : Int) : Int := s.first + min (c1More k s now) (k.r * k.t - s.first)
def c1S (k : Bk) (x : Int) (s : C1) (now : Int) : Int := min (x * k.t) (s.second + max 0 (c1More k s now - (k.r * k.t - s.first)))
def c1Next (k : Bk) (x : Int) (s : C1) (now n : Int) : C1 :=
  if n * k.t ≤ c1F k s now then ⟨now, c1F k s now - n * k.t, c1S k x s now⟩
  else if n * k.t ≤ c1S k x s now then ⟨now, c1F k s now, c1S k x s now - n * k.t⟩
  else ⟨now, c1F k s now, c1S k x s now⟩
def c1Col (k : Bk) (x : Int) (s : C1) (now n : Int) : Int :=
  if n * k.t ≤ c1F k s now then 1 else if n * k.t ≤ c1S k x s now then 2 else 3
def c1To (k : Bk) (x : Int) (l : List It) : Nat → C1
  | 0 => c1Start k x
  | j + 1 => c1Next k x (c1To k x l j) (ix l j).at_ (ix l j).len
def col1 (k : Bk) (x : Int) (l : List It) (j : Nat) : Int := c1Col k x (c1To k x l j) (ix l j).at_ (ix l j).len
structure CInv (k : Bk) (x : Int) (l : List It) (j : Nat) : Prop where
  last : (c1To k x l j).last = (stTo k l j).last
  first : (c1To k x l j).first = (stTo k l j).has
  s0 : 0 ≤ (c1To k x l j).second
  s1 : (c1To k x l j).second ≤ x * k.t
theorem c1_step {k : Bk} {x : Int} {l : List It} {j : Nat} (hk : BkOk k) (hx : 0 ≤ x) (hl : ItOk l) (hj : j < l.length) (h : CInv k x l j) :
    (col1 k x l j = 1 ↔ conf k l j = true) ∧ (x = 0 → col1 k x l j ≠ 2) ∧ CInv k x l (j + 1) := by
  have hi := inv_all hk hl j (by omega)
  have hup := hi.last j hj (Nat.le_refl _)
  have hhas := has_bd hk hl (j := j) (by omega)
  have hn := (hl.len j hj).1
  have hnt : 1 ≤ (ix l j).len * k.t := by
    have : 1 * 1 ≤ (ix l j).len * k.t := Int.mul_le_mul hn hk.t.1 (by omega) (by omega)
    omega
  have hm0 : 0 ≤ ((ix l j).at_ - (stTo k l j).last) * k.b := Int.mul_nonneg (by omega) (by have := hk.b.1; omega)
  have hxt : 0 ≤ x * k.t := Int.mul_nonneg hx (by have := hk.t.1; omega)
  have hF : c1F k (c1To k x l j) (ix l j).at_ = (fill k (stTo k l j) (ix l j).at_).has := by
    unfold c1F c1More fill
    rw [h.first, h.last]
    by_cases hlt : (stTo k l j).last < (ix l j).at_
    · rw [if_pos hlt]
      show _ = min (k.r * k.t) ((stTo k l j).has + ((ix l j).at_ - (stTo k l j).last) * k.b)
      generalize ((ix l j).at_ - (stTo k l j).last) * k.b = p at *
      generalize k.r * k.t = c at *
      omega
    · rw [if_neg hlt]
      have e : (ix l j).at_ - (stTo k l j).last = 0 := by omega
      rw [e, Int.zero_mul]
      generalize k.r * k.t = c at *
      omega
  have hfl : (fill k (stTo k l j) (ix l j).at_).last = (ix l j).at_ := by
    unfold fill
    by_cases hlt : (stTo k l j).last < (ix l j).at_
    · rw [if_pos hlt]
    · rw [if_neg hlt]; omega
  have hS0 : 0 ≤ c1S k x (c1To k x l j) (ix l j).at_ ∧ c1S k x (c1To k x l j) (ix l j).at_ ≤ x * k.t := by
    unfold c1S
    have := h.s0
    generalize c1More k (c1To k x l j) (ix l j).at_ - (k.r * k.t - (c1To k x l j).first) = q
    generalize x * k.t = c at *
    omega
  have e1 : c1To k x l (j + 1) = c1Next k x (c1To k x l j) (ix l j).at_ (ix l j).len := rfl
  have e2 : stTo k l (j + 1) = take k (stTo k l j) (ix l j).at_ (ix l j).len := rfl
  have e3 : conf k l j = okB k (stTo k l j) (ix l j).at_ (ix l j).len := rfl
  unfold col1 c1Col
  rw [e3]
  unfold okB
  rw [hF]
  refine ⟨?_, ?_, ?_⟩
  · by_cases hc : (ix l j).len * k.t ≤ (fill k (stTo k l j) (ix l j).at_).has
    · simp [hc]
    · simp only [hc, if_false, decide_false]
      split <;> simp
  · intro hx0
    subst hx0
    rw [Int.zero_mul] at hS0
    split
    · simp
    · rw [if_neg (by omega)]; simp
  · unfold c1Next at e1
    unfold take okB at e2
    rw [hF] at e1
    by_cases hc : (ix l j).len * k.t ≤ (fill k (stTo k l j) (ix l j).at_).has
    · rw [if_pos hc] at e1
      rw [if_pos (decide_eq_true hc)] at e2
      refine ⟨by rw [e1, e2]; exact hfl.symm, by rw [e1, e2], by rw [e1]; exact hS0.1, by rw [e1]; exact hS0.2⟩
    · rw [if_neg hc] at e1
      rw [if_neg (by simp [hc])] at e2
      by_cases hc2 : (ix l j).len * k.t ≤ c1S k x (c1To k x l j) (ix l j).at_
      · rw [if_pos hc2] at e1
        refine ⟨by rw [e1, e2]; exact hfl.symm, by rw [e1, e2], by rw [e1]; show 0 ≤ _ - _; omega, by rw [e1]; show _ - _ ≤ _; omega⟩
      · rw [if_neg hc2] at e1
        refine ⟨by rw [e1, e2]; exact hfl.symm, by rw [e1, e2], by rw [e1]; exact hS0.1, by rw [e1]; exact hS0.2⟩
theorem cinv_all {k : Bk} {x : Int} {l : List It} (hk : BkOk k) (hx : 0 ≤ x) (hl : ItOk l) : ∀ j, j ≤ l.length → CInv k x l j := by
  intro j
  induction j with
  | zero => intro _; exact ⟨rfl, rfl, Int.mul_nonneg hx (by have := hk.t.1; omega), Int.le_refl _⟩
  | succ j ih => intro hj; exact (c1_step hk hx hl (by omega) (ih (by omega))).2.2

/-! ### shaped -/
def whenAt (k : Bk) (s : St) (now n : Int) : Int :=
  if 0 < n * k.t - (fill k s now).has then (fill k s now).last + (n * k.t - (fill k s now).has + k.b - 1) / k.b else max now (fill k s now).last
/-- shaped, ahead of packet j: the bucket, and the last one's time -/
def shp (k : Bk) (l : List It) : Nat → St × Int
  | 0 => (start k, 0)
  | j + 1 => (take k (shp k l j).1 (whenAt k (shp k l j).1 (max (shp k l j).2 (ix l j).at_) (ix l j).len) (ix l j).len, whenAt k (shp k l j).1 (max (shp k l j).2 (ix l j).at_) (ix l j).len)
/-- when packet j goes -/
def shT (k : Bk) (l : List It) (j : Nat) : Int := (shp k l (j + 1)).2
def ShGood (k : Bk) (l : List It) (j : Nat) : Prop := (ix l j).len ≤ k.r ∧ shT k l j ≤ 1000000000
/-- a bucket on its way, at a time -/
structure SOk (k : Bk) (s : St) : Prop where
  last : 0 ≤ s.last
  has0 : 0 ≤ s.has
  has1 : s.has ≤ k.r * k.t
theorem fill_fill {k : Bk} {s : St} {a b : Int} (hk : 0 ≤ k.b) (ha : s.last ≤ a) (hb : a ≤ b) (h1 : s.has ≤ k.r * k.t) : fill k (fill k s a) b = fill k s b := by
  unfold fill
  by_cases h : s.last < a
  · rw [if_pos h]
    dsimp only
    by_cases h' : a < b
    · rw [if_pos h', if_pos (by omega)]
      congr 1
      have e : (b - s.last) * k.b = (a - s.last) * k.b + (b - a) * k.b := by rw [← Int.add_mul]; congr 1; omega
      have p1 : 0 ≤ (b - a) * k.b := Int.mul_nonneg (by omega) hk
      have p2 : 0 ≤ (a - s.last) * k.b := Int.mul_nonneg (by omega) hk
      rw [e]
      generalize (b - a) * k.b = p at *
      generalize (a - s.last) * k.b = q at *
      generalize k.r * k.t = c at *
      omega
    · obtain rfl : a = b := by omega
      rw [if_neg h', if_pos h]
  · obtain rfl : a = s.last := by omega
    rw [if_neg h]
theorem fill_ok {k : Bk} {s : St} {now : Int} (hk : BkOk k) (hs : SOk k s) (hn : s.last ≤ now) : SOk k (fill k s now) ∧ (fill k s now).last = now := by
  have hc : 0 ≤ k.r * k.t := Int.mul_nonneg hk.r.1 (by have := hk.t.1; omega)
  unfold fill
  by_cases h : s.last < now
  · rw [if_pos h]
    have p : 0 ≤ (now - s.last) * k.b := Int.mul_nonneg (by omega) (by have := hk.b.1; omega)
    have := hs.last; have := hs.has0; have := hs.has1
    refine ⟨⟨by show 0 ≤ now; omega, ?_, ?_⟩, rfl⟩
    · show 0 ≤ min _ _; omega
    · show min _ _ ≤ _; omega
  · rw [if_neg h]
    exact ⟨hs, by omega⟩
theorem take_ok {k : Bk} {s : St} {now n : Int} (hk : BkOk k) (hs : SOk k s) (hn : s.last ≤ now) (h0 : 0 ≤ n) : SOk k (take k s now n) ∧ (take k s now n).last = now := by
  obtain ⟨h1, h2⟩ := fill_ok hk hs hn
  have hnt : 0 ≤ n * k.t := Int.mul_nonneg h0 (by have := hk.t.1; omega)
  unfold take okB
  by_cases hc : n * k.t ≤ (fill k s now).has
  · rw [if_pos (decide_eq_true hc)]
    have := h1.last; have := h1.has1
    exact ⟨⟨by assumption, by show 0 ≤ _ - _; omega, by show _ - _ ≤ _; omega⟩, h2⟩
  · rw [if_neg (by simp [hc])]
    exact ⟨h1, h2⟩
theorem fill_later {k : Bk} {f : St} {m : Int} (h : f.last < m) : fill k f m = ⟨m, min (k.r * k.t) (f.has + (m - f.last) * k.b)⟩ := by unfold fill; rw [if_pos h]
theorem up_bd {a b : Int} (hb : 1 ≤ b) (ha : 0 < a) : a ≤ ((a + b - 1) / b) * b ∧ ((a + b - 1) / b - 1) * b < a ∧ 1 ≤ (a + b - 1) / b := by
  have h1 := Int.mul_ediv_add_emod (a + b - 1) b
  have h2 := Int.emod_nonneg (a + b - 1) (show b ≠ 0 by omega)
  have h3 := Int.emod_lt_of_pos (a + b - 1) (show 0 < b by omega)
  have h4 : 1 ≤ (a + b - 1) / b := by rw [Int.le_ediv_iff_mul_le (by omega)]; omega
  rw [Int.sub_mul, Int.one_mul, Int.mul_comm ((a + b - 1) / b) b]
  generalize b * ((a + b - 1) / b) = X at *
  omega
/-- at that time they are there; a tick sooner they are not, where it is later than asked -/
theorem when_law {k : Bk} {s : St} {now n : Int} (hk : BkOk k) (hs : SOk k s) (hn : s.last ≤ now) (h0 : 0 ≤ n) (hr : n ≤ k.r) :
    now ≤ whenAt k s now n ∧ okB k s (whenAt k s now n) n = true ∧ (now < whenAt k s now n → ∀ m, now ≤ m → m < whenAt k s now n → okB k s m n = false) := by
  obtain ⟨h1, h2⟩ := fill_ok hk hs hn
  have hnt : 0 ≤ n * k.t := Int.mul_nonneg h0 (by have := hk.t.1; omega)
  have hrt : n * k.t ≤ k.r * k.t := Int.mul_le_mul_of_nonneg_right hr (by have := hk.t.1; omega)
  have hb := hk.b.1
  have key : ∀ m, now ≤ m → fill k s m = fill k (fill k s now) m := fun m hm => (fill_fill (by omega) hn hm hs.has1).symm
  have hat : ∀ m, now < m → (fill k (fill k s now) m).has = min (k.r * k.t) ((fill k s now).has + (m - now) * k.b) := by
    intro m hm
    have := fill_later (k := k) (f := fill k s now) (m := m) (by omega)
    rw [this, h2]
  unfold whenAt
  by_cases hl : 0 < n * k.t - (fill k s now).has
  · rw [if_pos hl, h2]
    obtain ⟨u1, u2, u3⟩ := up_bd (a := n * k.t - (fill k s now).has) (b := k.b) (by omega) hl
    generalize (n * k.t - (fill k s now).has + k.b - 1) / k.b = d at *
    refine ⟨by omega, ?_, fun _ m hm1 hm2 => ?_⟩
    · unfold okB
      rw [key _ (by omega), hat _ (by omega), show now + d - now = d from by omega]
      exact decide_eq_true (by omega)
    · unfold okB
      rw [key _ (by omega)]
      apply decide_eq_false
      by_cases e : m = now
      · subst e
        have : fill k (fill k s m) m = fill k s m := fill_fill (by omega) hn (Int.le_refl _) hs.has1
        rw [this]; omega
      · rw [hat _ (by omega)]
        have : (m - now) * k.b ≤ (d - 1) * k.b := Int.mul_le_mul_of_nonneg_right (by omega) (by omega)
        omega
  · rw [if_neg hl, h2, show max now now = now from by omega]
    refine ⟨Int.le_refl _, ?_, fun h => absurd h (by omega)⟩
    exact decide_eq_true (by omega)
structure ShInv (k : Bk) (l : List It) (j : Nat) : Prop where
  ok : SOk k (shp k l j).1
  last : (shp k l j).1.last ≤ (shp k l j).2
theorem shp_step {k : Bk} {l : List It} {j : Nat} (hk : BkOk k) (hl : ItOk l) (hj : j < l.length) (hr : (ix l j).len ≤ k.r) (h : ShInv k l j) :
    ShInv k l (j + 1) ∧ (ix l j).at_ ≤ shT k l j ∧ (shp k l j).2 ≤ shT k l j ∧ okB k (shp k l j).1 (shT k l j) (ix l j).len = true ∧
      (max (shp k l j).2 (ix l j).at_ < shT k l j → okB k (shp k l j).1 (shT k l j - 1) (ix l j).len = false) := by
  have hn := (hl.len j hj).1
  obtain ⟨w1, w2, w3⟩ := when_law (now := max (shp k l j).2 (ix l j).at_) (n := (ix l j).len) hk h.ok (by have := h.last; omega) (by omega) hr
  have e : shT k l j = whenAt k (shp k l j).1 (max (shp k l j).2 (ix l j).at_) (ix l j).len := rfl
  rw [← e] at w1 w2 w3
  have hlast : (shp k l j).1.last ≤ shT k l j := by have := h.last; omega
  obtain ⟨t1, t2⟩ := take_ok (n := (ix l j).len) hk h.ok hlast (by omega)
  refine ⟨⟨?_, ?_⟩, by omega, by omega, w2, fun hlt => w3 hlt _ (by omega) (by omega)⟩
  · exact t1
  · have : (shp k l (j + 1)).1.last = shT k l j := t2
    rw [this]; exact Int.le_refl _
theorem shinv_all {k : Bk} {l : List It} (hk : BkOk k) (hl : ItOk l) : ∀ j, j ≤ l.length → (∀ i, i < j → (ix l i).len ≤ k.r) → ShInv k l j := by
  intro j
  induction j with
  | zero =>
    intro _ _
    exact ⟨⟨Int.le_refl _, Int.mul_nonneg hk.r.1 (by have := hk.t.1; omega), Int.le_refl _⟩, Int.le_refl _⟩
  | succ j ih => intro hj hg; exact (shp_step hk hl (by omega) (hg j (by omega)) (ih (by omega) fun i hi => hg i (by omega))).1
/-- the same packets at their times: the bucket goes the same way -/
theorem st_shaped {k : Bk} {l m : List It} {n : Nat} (hm : ∀ i, i < n → (ix m i).at_ = shT k l i ∧ (ix m i).len = (ix l i).len) : ∀ j, j ≤ n → stTo k m j = (shp k l j).1 := by
  intro j
  induction j with
  | zero => intro _; rfl
  | succ j ih =>
    intro hj
    show take k (stTo k m j) (ix m j).at_ (ix m j).len = _
    rw [ih (by omega), (hm j (by omega)).1, (hm j (by omega)).2]
    rfl
theorem shaped_law {k : Bk} {l : List It} (hk : BkOk k) (hl : ItOk l) (hg : ∀ j, j < l.length → (ix l j).len ≤ k.r) :
    (∀ j, j < l.length → (ix l j).at_ ≤ shT k l j) ∧ (∀ j, j + 1 < l.length → shT k l j ≤ shT k l (j + 1)) ∧
    (∀ m : List It, (∀ i, i < l.length → (ix m i).at_ = shT k l i ∧ (ix m i).len = (ix l i).len) → ∀ j, j < l.length → conf k m j = true) ∧
    (∀ (m : List It) (q : Nat), q < l.length → (∀ i, i < q → (ix m i).at_ = shT k l i ∧ (ix m i).len = (ix l i).len) → (ix m q).at_ = shT k l q - 1 → (ix m q).len = (ix l q).len →
      max (shp k l q).2 (ix l q).at_ < shT k l q → conf k m q = false) := by
  have hi := fun j (hj : j < l.length) => shinv_all hk hl j (by omega) fun i h => hg i (by omega)
  have hs := fun j (hj : j < l.length) => shp_step hk hl hj (hg j hj) (hi j hj)
  refine ⟨fun j hj => (hs j hj).2.1, fun j hj => (hs (j + 1) hj).2.2.1, fun m hm j hj => ?_, fun m q hq hm h1 h2 h3 => ?_⟩
  · unfold conf
    rw [st_shaped hm j (by omega), (hm j hj).1, (hm j hj).2]
    exact (hs j hj).2.2.2.1
  · unfold conf
    rw [st_shaped hm q (Nat.le_refl _), h1, h2]
    exact (hs q hq).2.2.2.2 h3

/-! ### one tick's together -/
/-- the bytes of those that conform of the first j, at times from s to t -/
def inTo (k : Bk) (l : List It) (s t : Int) : Nat → Int
  | 0 => 0
  | j + 1 => inTo k l s t j + if conf k l j = true ∧ s ≤ (ix l j).at_ ∧ (ix l j).at_ ≤ t then (ix l j).len else 0
/-- all from s on -/
structure WInv (k : Bk) (l : List It) (s : Int) (j : Nat) : Prop where
  sum : ∀ t, (stTo k l j).last ≤ t → inTo k l s t j * k.t + (stTo k l j).has ≤ k.r * k.t + max 0 ((stTo k l j).last - s) * k.b
  none_ : ∀ t, (stTo k l j).last < s → inTo k l s t j = 0
theorem win_step {k : Bk} {l : List It} {s : Int} {j : Nat} (hk : BkOk k) (hl : ItOk l) (hj : j < l.length) (h : WInv k l s j) : WInv k l s (j + 1) := by
  have hi := inv_all hk hl j (by omega)
  have hi1 := inv_all hk hl (j + 1) (by omega)
  have hup := hi.last j hj (Nat.le_refl _)
  have hhas := has_bd hk hl (j := j) (by omega)
  have hhas1 := has_bd hk hl (j := j + 1) (by omega)
  have hb := hk.b.1
  have hn := (hl.len j hj).1
  have e2 : stTo k l (j + 1) = take k (stTo k l j) (ix l j).at_ (ix l j).len := rfl
  have hf : (fill k (stTo k l j) (ix l j).at_).last = (ix l j).at_ ∧ (fill k (stTo k l j) (ix l j).at_).has ≤ (stTo k l j).has + ((ix l j).at_ - (stTo k l j).last) * k.b ∧ (fill k (stTo k l j) (ix l j).at_).has ≤ k.r * k.t := by
    unfold fill
    by_cases hlt : (stTo k l j).last < (ix l j).at_
    · rw [if_pos hlt]; exact ⟨rfl, by show min _ _ ≤ _; omega, by show min _ _ ≤ _; omega⟩
    · rw [if_neg hlt]
      have e : (ix l j).at_ - (stTo k l j).last = 0 := by omega
      exact ⟨by omega, by rw [e, Int.zero_mul]; omega, hhas⟩
  have hlast : (stTo k l (j + 1)).last = (ix l j).at_ := by
    rw [e2]; unfold take
    split
    · exact hf.1
    · exact hf.1
  have hall : ∀ t, (ix l j).at_ ≤ t → inTo k l s t (j + 1) = inTo k l s t j + if conf k l j = true ∧ s ≤ (ix l j).at_ then (ix l j).len else 0 := by
    intro t ht
    show _ + _ = _
    congr 1
    by_cases hc : conf k l j = true ∧ s ≤ (ix l j).at_
    · rw [if_pos hc, if_pos ⟨hc.1, hc.2, ht⟩]
    · rw [if_neg hc, if_neg (fun h => hc ⟨h.1, h.2.1⟩)]
  refine ⟨fun t ht => ?_, fun t ht => ?_⟩
  · rw [hlast] at ht ⊢
    rw [hall t ht]
    by_cases hs : s ≤ (ix l j).at_
    · -- what was there, filled
      have hfill : inTo k l s t j * k.t + (fill k (stTo k l j) (ix l j).at_).has ≤ k.r * k.t + ((ix l j).at_ - s) * k.b := by
        by_cases hsl : s ≤ (stTo k l j).last
        · have := h.sum t (by omega)
          rw [show max 0 ((stTo k l j).last - s) = (stTo k l j).last - s from by omega] at this
          have e : ((ix l j).at_ - s) * k.b = ((stTo k l j).last - s) * k.b + ((ix l j).at_ - (stTo k l j).last) * k.b := by rw [← Int.add_mul]; congr 1; omega
          rw [e]; omega
        · rw [h.none_ t (by omega), Int.zero_mul]
          have : 0 ≤ ((ix l j).at_ - s) * k.b := Int.mul_nonneg (by omega) (by omega)
          omega
      rw [show max 0 ((ix l j).at_ - s) = (ix l j).at_ - s from by omega]
      have hcf : conf k l j = okB k (stTo k l j) (ix l j).at_ (ix l j).len := rfl
      by_cases hc : okB k (stTo k l j) (ix l j).at_ (ix l j).len = true
      · rw [if_pos ⟨by rw [hcf]; exact hc, hs⟩, Int.add_mul]
        have : (stTo k l (j + 1)).has = (fill k (stTo k l j) (ix l j).at_).has - (ix l j).len * k.t := by rw [e2]; unfold take; rw [if_pos hc]
        rw [this]; omega
      · rw [if_neg (fun h => hc (by rw [← hcf]; exact h.1))]
        have : (stTo k l (j + 1)).has = (fill k (stTo k l j) (ix l j).at_).has := by rw [e2]; unfold take; rw [if_neg hc]
        rw [this, Int.add_zero]; exact hfill
    · rw [if_neg (fun h => hs h.2), h.none_ t (by omega)]
      have : 0 ≤ max 0 ((ix l j).at_ - s) * k.b := Int.mul_nonneg (by omega) (by omega)
      rw [Int.add_zero, Int.zero_mul]
      omega
  · rw [hlast] at ht
    show inTo k l s t j + _ = 0
    rw [if_neg (fun h => by omega), h.none_ t (by omega)]; rfl
theorem win_all {k : Bk} {l : List It} (s : Int) (hk : BkOk k) (hl : ItOk l) (h0 : 0 ≤ s) : ∀ j, j ≤ l.length → WInv k l s j := by
  intro j
  induction j with
  | zero =>
    intro _
    refine ⟨fun t _ => ?_, fun t _ => rfl⟩
    show 0 * k.t + k.r * k.t ≤ k.r * k.t + max 0 (0 - s) * k.b
    have : 0 ≤ max 0 (0 - s) * k.b := Int.mul_nonneg (by omega) (by have := hk.b.1; omega)
    omega
  | succ j ih => intro hj; exact win_step hk hl (by omega) (ih (by omega))
/-- in any row of ticks no more than the curve of its room and rate -/
theorem win_law {k : Bk} {l : List It} {s t : Int} (hk : BkOk k) (hl : ItOk l) (h0 : 0 ≤ s) (hst : s ≤ t) : ∀ j, j ≤ l.length → inTo k l s t j * k.t ≤ k.r * k.t + (t - s) * k.b := by
  intro j
  induction j with
  | zero =>
    intro _
    have h1 : 0 ≤ (t - s) * k.b := Int.mul_nonneg (by omega) (by have := hk.b.1; omega)
    have h2 : 0 ≤ k.r * k.t := Int.mul_nonneg hk.r.1 (by have := hk.t.1; omega)
    show 0 * k.t ≤ _
    omega
  | succ j ih =>
    intro hj
    by_cases ht : (ix l j).at_ ≤ t
    · have hw := win_all s hk hl h0 (j + 1) hj
      have hi1 := inv_all hk hl j (by omega)
      have hup := hi1.last j (by omega) (Nat.le_refl _)
      have hlast : (stTo k l (j + 1)).last ≤ t := by
        have : (stTo k l (j + 1)).last = (ix l j).at_ := (take_ok (k := k) (s := stTo k l j) hk ⟨hi1.last0, has_nonneg hk hl j (by omega), has_bd hk hl (by omega)⟩ hup (by have := (hl.len j (by omega)).1; omega)).2
        omega
      have := hw.sum t hlast
      have hh := has_nonneg hk hl (j + 1) hj
      have hm : max 0 ((stTo k l (j + 1)).last - s) * k.b ≤ (t - s) * k.b := Int.mul_le_mul_of_nonneg_right (by omega) (by have := hk.b.1; omega)
      omega
    · show (inTo k l s t j + _) * k.t ≤ _
      rw [if_neg (fun h => ht h.2.2), Int.add_zero]
      exact ih (by omega)
end Bkt
end Go.Proofs.YtdhojhgmaodifaaDoor
