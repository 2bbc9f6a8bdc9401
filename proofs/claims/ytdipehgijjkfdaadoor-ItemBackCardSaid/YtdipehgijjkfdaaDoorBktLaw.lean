/-
  Plain laws of buckets of tokens: tokens that fill and times at which cells should come agree; what conforms keeps to the curve, and what does not would break it. No program in sight.
-/
import Derived.Test.YtdipehgijjkfdaaDoorSrvLaw
namespace Go.Proofs.YtdipehgijjkfdaaDoor
open Crv
namespace Bkt

/-- a packet -/
structure It where
  at_ : Int
  len : Int
  flow : Int
  band : Int
  mark : Int
def It.zero : It := ⟨0, 0, 0, 0, 0⟩
def ix (l : List It) (i : Nat) : It := l.getD i It.zero
/-- a bucket: bytes and ticks of its rate, its room -/
structure Bk where
  b : Int
  t : Int
  r : Int
/-- a bucket on its way: what is in it, at which time -/
structure St where
  last : Int
  has : Int
def start (k : Bk) : St := ⟨0, k.r * k.t⟩
/-- brought to a time -/
def fill (k : Bk) (s : St) (now : Int) : St := if s.last < now then ⟨now, min (k.r * k.t) (s.has + (now - s.last) * k.b)⟩ else s
/-- are so many bytes there? -/
def okB (k : Bk) (s : St) (now n : Int) : Bool := decide (n * k.t ≤ (fill k s now).has)
/-- what is left -/
def take (k : Bk) (s : St) (now n : Int) : St := if okB k s now n then ⟨(fill k s now).last, (fill k s now).has - n * k.t⟩ else fill k s now
/-- behind the first j packets -/
def stTo (k : Bk) (l : List It) : Nat → St
  | 0 => start k
  | j + 1 => take k (stTo k l j) (ix l j).at_ (ix l j).len
/-- which conform -/
def conf (k : Bk) (l : List It) (j : Nat) : Bool := okB k (stTo k l j) (ix l j).at_ (ix l j).len

/-- by the times at which cells should come -/
def shTo (k : Bk) (l : List It) : Nat → Int
  | 0 => 0
  | j + 1 => if max (shTo k l j) ((ix l j).at_ * k.b) + (ix l j).len * k.t - (ix l j).at_ * k.b ≤ k.r * k.t then max (shTo k l j) ((ix l j).at_ * k.b) + (ix l j).len * k.t else shTo k l j
def cell (k : Bk) (l : List It) (j : Nat) : Bool := decide (max (shTo k l j) ((ix l j).at_ * k.b) + (ix l j).len * k.t - (ix l j).at_ * k.b ≤ k.r * k.t)

/-- packets that may be -/
structure ItOk (l : List It) : Prop where
  at0 : ∀ j, j < l.length → 0 ≤ (ix l j).at_ ∧ (ix l j).at_ ≤ 1000000000
  len : ∀ j, j < l.length → 1 ≤ (ix l j).len ∧ (ix l j).len ≤ 10000
  up : ∀ j, j + 1 < l.length → (ix l j).at_ ≤ (ix l (j + 1)).at_
structure BkOk (k : Bk) : Prop where
  b : 1 ≤ k.b ∧ k.b ≤ 1000000
  t : 1 ≤ k.t ∧ k.t ≤ 1000000
  r : 0 ≤ k.r ∧ k.r ≤ 1000000

/-- a state as it comes to be: d bytes times ticks lack -/
theorem fill_lack {k : Bk} {s : St} {now d : Int} (hb : 0 ≤ k.b) (hnow : s.last ≤ now) (hd : k.r * k.t - s.has = max 0 d) :
    (fill k s now).last = now ∧ k.r * k.t - (fill k s now).has = max 0 (d - (now - s.last) * k.b) := by
  unfold fill
  by_cases h : s.last < now
  · rw [if_pos h]
    refine ⟨rfl, ?_⟩
    have h0 : 0 ≤ (now - s.last) * k.b := Int.mul_nonneg (by omega) hb
    show k.r * k.t - min (k.r * k.t) (s.has + (now - s.last) * k.b) = max 0 (d - (now - s.last) * k.b)
    generalize (now - s.last) * k.b = p at *
    generalize k.r * k.t = c at *
    omega
  · rw [if_neg h]
    have e : now = s.last := by omega
    subst e
    refine ⟨rfl, ?_⟩
    rw [Int.sub_self, Int.zero_mul, Int.sub_zero]
    exact hd

/-- tokens and times, held against each other -/
structure Inv (k : Bk) (l : List It) (j : Nat) : Prop where
  last0 : 0 ≤ (stTo k l j).last
  last : ∀ i, i < l.length → j ≤ i → (stTo k l j).last ≤ (ix l i).at_
  lack : k.r * k.t - (stTo k l j).has = max 0 (shTo k l j - (stTo k l j).last * k.b)
theorem ItOk.mono {l : List It} (hl : ItOk l) : ∀ i j, i ≤ j → j < l.length → (ix l i).at_ ≤ (ix l j).at_ := by
  intro i j hij
  induction j with
  | zero => intro _; obtain rfl : i = 0 := by omega
            exact Int.le_refl _
  | succ j ih =>
    intro hj
    by_cases e : i = j + 1
    · subst e; exact Int.le_refl _
    · have h1 := ih (by omega) (by omega)
      have h2 := hl.up j hj
      omega
theorem gcra_step {k : Bk} {l : List It} {j : Nat} (hk : BkOk k) (hl : ItOk l) (hj : j < l.length) (h : Inv k l j) : conf k l j = cell k l j ∧ Inv k l (j + 1) := by
  have hat := h.last j hj (Nat.le_refl _)
  obtain ⟨f1, f2⟩ := fill_lack (k := k) (s := stTo k l j) (now := (ix l j).at_) (by have := hk.b; omega) hat h.lack
  have hn := (hl.len j hj).1
  have ht := hk.t.1
  have hnt : 0 ≤ (ix l j).len * k.t := Int.mul_nonneg (by omega) (by omega)
  have e : shTo k l j - (stTo k l j).last * k.b - ((ix l j).at_ - (stTo k l j).last) * k.b = shTo k l j - (ix l j).at_ * k.b := by rw [Int.sub_mul]; omega
  rw [e] at f2
  have hok : conf k l j = cell k l j := by
    unfold conf okB cell
    generalize (fill k (stTo k l j) (ix l j).at_).has = f at *
    generalize (ix l j).at_ * k.b = p at *
    generalize (ix l j).len * k.t = q at *
    generalize k.r * k.t = c at *
    by_cases hc : q ≤ f
    · rw [decide_eq_true hc, decide_eq_true (by omega)]
    · rw [decide_eq_false hc, decide_eq_false (by omega)]
  refine ⟨hok, ?_⟩
  have hst : stTo k l (j + 1) = take k (stTo k l j) (ix l j).at_ (ix l j).len := rfl
  have hlast : (stTo k l (j + 1)).last = (ix l j).at_ := by
    rw [hst]; unfold take
    split
    · exact f1
    · exact f1
  refine ⟨by rw [hlast]; exact (hl.at0 j hj).1, fun i hi hji => by rw [hlast]; exact hl.mono j i (by omega) hi, ?_⟩
  rw [hlast, hst]
  unfold take
  have hsh : shTo k l (j + 1) = if cell k l j then max (shTo k l j) ((ix l j).at_ * k.b) + (ix l j).len * k.t else shTo k l j := by
    show (if _ then _ else _) = _
    unfold cell
    simp only [decide_eq_true_eq]
  rw [hsh, ← hok]
  have hc : okB k (stTo k l j) (ix l j).at_ (ix l j).len = conf k l j := rfl
  rw [hc]
  cases hcc : conf k l j
  · simp only [Bool.false_eq_true, if_false]
    exact f2
  · simp only [if_true]
    have hq : (ix l j).len * k.t ≤ (fill k (stTo k l j) (ix l j).at_).has := by simpa [conf, okB] using hcc
    generalize (fill k (stTo k l j) (ix l j).at_).has = f at *
    generalize (ix l j).at_ * k.b = p at *
    generalize (ix l j).len * k.t = q at *
    generalize k.r * k.t = c at *
    omega
theorem inv_all {k : Bk} {l : List It} (hk : BkOk k) (hl : ItOk l) : ∀ j, j ≤ l.length → Inv k l j := by
  intro j
  induction j with
  | zero =>
    intro _
    refine ⟨Int.le_refl _, fun i hi _ => (hl.at0 i hi).1, ?_⟩
    show k.r * k.t - k.r * k.t = max 0 (0 - 0 * k.b)
    omega
  | succ j ih => intro hj; exact (gcra_step hk hl (by omega) (ih (by omega))).2
theorem gcra {k : Bk} {l : List It} (hk : BkOk k) (hl : ItOk l) {j : Nat} (hj : j < l.length) : conf k l j = cell k l j := (gcra_step hk hl hj (inv_all hk hl j (by omega))).1
theorem has_bd {k : Bk} {l : List It} (hk : BkOk k) (hl : ItOk l) {j : Nat} (hj : j ≤ l.length) : (stTo k l j).has ≤ k.r * k.t := by
  have := (inv_all hk hl j hj).lack
  omega
theorem has_nonneg {k : Bk} {l : List It} (hk : BkOk k) (hl : ItOk l) : ∀ j, j ≤ l.length → 0 ≤ (stTo k l j).has := by
  intro j
  induction j with
  | zero => intro _; exact Int.mul_nonneg hk.r.1 (by have := hk.t.1; omega)
  | succ j ih =>
    intro hj
    have h1 := ih (by omega)
    have hi := inv_all hk hl j (by omega)
    have h2 : 0 ≤ (fill k (stTo k l j) (ix l j).at_).has := by
      unfold fill
      split
      · have h3 : 0 ≤ ((ix l j).at_ - (stTo k l j).last) * k.b := Int.mul_nonneg (by omega) (by have := hk.b.1; omega)
        have h4 : 0 ≤ k.r * k.t := Int.mul_nonneg hk.r.1 (by have := hk.t.1; omega)
        show 0 ≤ min (k.r * k.t) ((stTo k l j).has + ((ix l j).at_ - (stTo k l j).last) * k.b)
        omega
      · exact h1
    show 0 ≤ (take k (stTo k l j) (ix l j).at_ (ix l j).len).has
    unfold take
    split
    · rename_i hc
      have : (ix l j).len * k.t ≤ (fill k (stTo k l j) (ix l j).at_).has := by simpa [okB] using hc
      show 0 ≤ (fill k (stTo k l j) (ix l j).at_).has - (ix l j).len * k.t
      omega
    · exact h2

/-! ### what conforms keeps to the curve -/
/-- in any row of these packets no more bytes than the room, and what the rate fills meanwhile -/
def Bounded (k : Bk) (as ns : List Int) : Prop := ∀ i q, i ≤ q → q < as.length → (sumTo ns (q + 1) - sumTo ns i) * k.t ≤ k.r * k.t + (at0 as q - at0 as i) * k.b
/-- what lacks at a time, if these were let by -/
structure Lack (k : Bk) (as ns : List Int) (now d : Int) : Prop where
  pos : 0 ≤ d
  ge : ∀ i, i < as.length → (sumTo ns as.length - sumTo ns i) * k.t - (now - at0 as i) * k.b ≤ d
  met : d = 0 ∨ ∃ i, i < as.length ∧ d = (sumTo ns as.length - sumTo ns i) * k.t - (now - at0 as i) * k.b
theorem Lack.later {k : Bk} {as ns : List Int} {now d later : Int} (h : Lack k as ns now d) : Lack k as ns later (max 0 (d - (later - now) * k.b)) ∨ ¬ now ≤ later ∨ k.b < 0 := by
  by_cases hnl : now ≤ later
  · by_cases hb : k.b < 0
    · exact .inr (.inr hb)
    · left
      have hp : 0 ≤ (later - now) * k.b := Int.mul_nonneg (by omega) (by omega)
      have e : ∀ i, (later - at0 as i) * k.b = (later - now) * k.b + (now - at0 as i) * k.b := fun i => by rw [← Int.add_mul]; congr 1; omega
      refine ⟨by omega, fun i hi => ?_, ?_⟩
      · have := h.ge i hi
        rw [e i]; omega
      · rcases h.met with h0 | ⟨i, hi, h0⟩
        · left; omega
        · by_cases hz : d - (later - now) * k.b ≤ 0
          · left; omega
          · right
            refine ⟨i, hi, ?_⟩
            rw [e i]; omega
  · exact .inr (.inl hnl)
theorem sumTo_app {ns : List Int} {n : Int} : ∀ k : Nat, k ≤ ns.length → sumTo (ns ++ [n]) k = sumTo ns k := by
  intro k
  induction k with
  | zero => intro _; rfl
  | succ k ih =>
    intro h
    show sumTo (ns ++ [n]) k + at0 (ns ++ [n]) k = sumTo ns k + at0 ns k
    rw [ih (by omega)]
    congr 1
    unfold at0; simp [List.getD, List.getElem?_append_left (show k < ns.length by omega)]
theorem sumTo_last {ns : List Int} {n : Int} : sumTo (ns ++ [n]) (ns.length + 1) = sumTo ns ns.length + n := by
  show sumTo (ns ++ [n]) ns.length + at0 (ns ++ [n]) ns.length = _
  rw [sumTo_app _ (Nat.le_refl _)]
  congr 1
  unfold at0; simp [List.getD]
theorem app_at {xs : List Int} {y : Int} {i : Nat} (h : i < xs.length) : at0 (xs ++ [y]) i = at0 xs i := by
  unfold at0; simp [List.getD, List.getElem?_append_left h]
theorem app_last {xs : List Int} {y : Int} : at0 (xs ++ [y]) xs.length = y := by
  unfold at0; simp [List.getD]
/-- one more: bounded, where what it wants is there -/
theorem bounded_more {k : Bk} {as ns : List Int} {a n d : Int} (hlen : ns.length = as.length) (hB : Bounded k as ns) (hd : Lack k as ns a d) : Bounded k (as ++ [a]) (ns ++ [n]) ↔ n * k.t + d ≤ k.r * k.t := by
  have e1 : ∀ i, i ≤ as.length → sumTo (ns ++ [n]) i = sumTo ns i := fun i hi => sumTo_app i (by omega)
  have e2 : sumTo (ns ++ [n]) (as.length + 1) = sumTo ns as.length + n := by rw [← hlen]; exact sumTo_last
  constructor
  · intro h
    rcases hd.met with h0 | ⟨i, hi, h0⟩
    · have := h as.length as.length (Nat.le_refl _) (by simp)
      rw [e2, e1 _ (Nat.le_refl _), Int.sub_self, Int.zero_mul] at this
      rw [show sumTo ns as.length + n - sumTo ns as.length = n from by omega] at this
      omega
    · have := h i as.length (by omega) (by simp)
      rw [e2, e1 i (by omega), app_last, app_at hi] at this
      rw [show sumTo ns as.length + n - sumTo ns i = n + (sumTo ns as.length - sumTo ns i) from by omega, Int.add_mul] at this
      omega
  · intro h i q hiq hq
    rw [List.length_append] at hq
    have hq' : q < as.length + 1 := hq
    by_cases e : q = as.length
    · subst e
      rw [e2, e1 i hiq, app_last]
      rw [show sumTo ns as.length + n - sumTo ns i = n + (sumTo ns as.length - sumTo ns i) from by omega, Int.add_mul]
      by_cases ei : i = as.length
      · subst ei
        rw [Int.sub_self, Int.zero_mul, app_last, Int.sub_self, Int.zero_mul]
        have := hd.pos
        omega
      · rw [app_at (by omega)]
        have := hd.ge i (by omega)
        omega
    · rw [e1 (q + 1) (by omega), e1 i (by omega), app_at (by omega), app_at (by omega)]
      exact hB i q hiq (by omega)
theorem Lack.more {k : Bk} {as ns : List Int} {a n d : Int} (hlen : ns.length = as.length) (hn : 0 ≤ n * k.t) (hd : Lack k as ns a d) : Lack k (as ++ [a]) (ns ++ [n]) a (n * k.t + d) := by
  have e1 : ∀ i, i ≤ as.length → sumTo (ns ++ [n]) i = sumTo ns i := fun i hi => sumTo_app i (by omega)
  have e2 : sumTo (ns ++ [n]) (as.length + 1) = sumTo ns as.length + n := by rw [← hlen]; exact sumTo_last
  have e3 : (as ++ [a]).length = as.length + 1 := by simp
  have e4 : ∀ i, sumTo ns as.length + n - sumTo ns i = n + (sumTo ns as.length - sumTo ns i) := fun i => by omega
  refine ⟨by have := hd.pos; omega, fun i hi => ?_, ?_⟩
  · rw [e3] at hi ⊢
    rw [e2, e1 i (by omega), e4, Int.add_mul]
    by_cases e : i = as.length
    · subst e
      rw [app_last, Int.sub_self, Int.sub_self, Int.zero_mul, Int.zero_mul]
      have := hd.pos
      omega
    · rw [app_at (by omega)]
      have := hd.ge i (by omega)
      omega
  · right
    rcases hd.met with h0 | ⟨i, hi, h0⟩
    · refine ⟨as.length, by simp, ?_⟩
      rw [e3, e2, e1 _ (Nat.le_refl _), app_last, e4, Int.sub_self, Int.sub_self, Int.zero_mul, h0]
      simp only [Int.add_zero]
      omega
    · refine ⟨i, by simp; omega, ?_⟩
      rw [e3, e2, e1 i (by omega), app_at hi, e4, Int.add_mul]
      omega
end Bkt
end Go.Proofs.YtdipehgijjkfdaaDoor
