/-
  Plain laws of programs of actions: what a packet is after so many actions; with jumps ahead alone it ends, and does the same again. No program in sight.
-/
import Derived.Test.YtdhojhgmaodifaaDoorBktLaw
import Derived.Test.YtdhojhgmaodifaaDoorMem
namespace Go.Proofs.YtdhojhgmaodifaaDoor
open Bkt
namespace Actn
set_option linter.unusedVariables false

/-- an action -/
structure Ac where
  kind : Int
  a : Int
  b : Int
def ax (l : List Ac) (i : Nat) : Ac := l.getD i ⟨0, 0, 0⟩
/-- the most that an action's A may be -/
def topOf (n nb k : Int) : Int := if k = 3 then 255 else if k = 4 then 7 else if k = 5 then 15 else if k = 6 then 7 else if k = 7 then n else if k = 8 then 255 else if k = 9 then nb - 1 else 10000
structure AcOk (n nb : Int) (q : Ac) : Prop where
  kind : 1 ≤ q.kind ∧ q.kind ≤ 10
  a : 3 ≤ q.kind → 0 ≤ q.a ∧ q.a ≤ topOf n nb q.kind
  b : 8 ≤ q.kind → 0 ≤ q.b ∧ q.b ≤ n
  z1 : q.kind < 3 → q.a = 0
  z2 : q.kind < 8 → q.b = 0
def AllOk (l : List Ac) (nb : Int) (k : Nat) : Prop := ∀ i, i < k → AcOk l.length nb (ax l i)

/-- where a packet is on its way -/
structure Sa where
  at_ : Nat
  x : It
  c : Nat → Int
/-- one up, as an int does it -/
def up (c : Nat → Int) (a : Int) : Nat → Int := fun j => if (j : Int) = a then Go.IntKind.i64.wrap (c j + 1) else c j
inductive Step (l : List Ac) (s : Sa) : Sa → Prop
  | mark : s.at_ < l.length → (ax l s.at_).kind = 3 → Step l s ⟨s.at_ + 1, { s.x with mark := (ax l s.at_).a }, s.c⟩
  | band : s.at_ < l.length → (ax l s.at_).kind = 4 → Step l s ⟨s.at_ + 1, { s.x with band := (ax l s.at_).a }, s.c⟩
  | flow : s.at_ < l.length → (ax l s.at_).kind = 5 → Step l s ⟨s.at_ + 1, { s.x with flow := (ax l s.at_).a }, s.c⟩
  | count : s.at_ < l.length → (ax l s.at_).kind = 6 → Step l s ⟨s.at_ + 1, s.x, up s.c (ax l s.at_).a⟩
  | jump : s.at_ < l.length → (ax l s.at_).kind = 7 → Step l s ⟨(ax l s.at_).a.toNat, s.x, s.c⟩
  | meet : s.at_ < l.length → (ax l s.at_).kind = 8 → s.x.mark = (ax l s.at_).a → Step l s ⟨(ax l s.at_).b.toNat, s.x, s.c⟩
  | pass : s.at_ < l.length → (ax l s.at_).kind = 8 → s.x.mark ≠ (ax l s.at_).a → Step l s ⟨s.at_ + 1, s.x, s.c⟩
  | lacks : s.at_ < l.length → (ax l s.at_).kind = 9 → Step l s ⟨(ax l s.at_).b.toNat, s.x, s.c⟩
  | takes : s.at_ < l.length → (ax l s.at_).kind = 9 → Step l s ⟨s.at_ + 1, s.x, s.c⟩
  | cut : s.at_ < l.length → (ax l s.at_).kind = 10 → (ax l s.at_).a < s.x.len → Step l s ⟨(ax l s.at_).b.toNat, s.x, s.c⟩
  | fits : s.at_ < l.length → (ax l s.at_).kind = 10 → s.x.len ≤ (ax l s.at_).a → Step l s ⟨s.at_ + 1, s.x, s.c⟩
inductive Steps (l : List Ac) (s : Sa) : Nat → Sa → Prop
  | zero : Steps l s 0 s
  | snoc {k : Nat} {t u : Sa} : Steps l s k t → Step l t u → Steps l s (k + 1) u
/-- how it ends: does it go on, does it go round? -/
def Ends (l : List Ac) (s t : Sa) (on cyc : Bool) : Prop :=
  ∃ k, Steps l s k t ∧ ((k < 100 ∧ cyc = false ∧ ((on = true ∧ (l.length ≤ t.at_ ∨ t.at_ < l.length ∧ (ax l t.at_).kind = 1)) ∨ (on = false ∧ t.at_ < l.length ∧ (ax l t.at_).kind = 2))) ∨ (k = 100 ∧ cyc = true ∧ on = false))

theorem Step.lt {l : List Ac} {s t : Sa} (h : Step l s t) : s.at_ < l.length := by cases h <;> assumption
theorem Step.kind {l : List Ac} {s t : Sa} (h : Step l s t) : 3 ≤ (ax l s.at_).kind := by cases h <;> omega

/-- only marks, bands and flows change, and only to what an action tells -/
def Tld (l : List Ac) (k was is : Int) : Prop := was = is ∨ ∃ i, i < l.length ∧ (ax l i).kind = k ∧ (ax l i).a = is
structure Flds (l : List Ac) (x y : It) : Prop where
  at_ : y.at_ = x.at_
  len : y.len = x.len
  mark : Tld l 3 x.mark y.mark
  band : Tld l 4 x.band y.band
  flow : Tld l 5 x.flow y.flow
theorem Flds.refl (l : List Ac) (x : It) : Flds l x x := ⟨rfl, rfl, .inl rfl, .inl rfl, .inl rfl⟩
theorem Flds.step {l : List Ac} {x : It} {s t : Sa} (h : Flds l x s.x) (hs : Step l s t) : Flds l x t.x := by
  obtain ⟨h1, h2, h3, h4, h5⟩ := h
  cases hs
  case mark a b => exact ⟨h1, h2, .inr ⟨_, a, b, rfl⟩, h4, h5⟩
  case band a b => exact ⟨h1, h2, h3, .inr ⟨_, a, b, rfl⟩, h5⟩
  case flow a b => exact ⟨h1, h2, h3, h4, .inr ⟨_, a, b, rfl⟩⟩
  all_goals exact ⟨h1, h2, h3, h4, h5⟩
theorem Steps.flds {l : List Ac} {s t : Sa} {k : Nat} (h : Steps l s k t) : Flds l s.x t.x := by
  induction h with
  | zero => exact Flds.refl _ _
  | snoc _ hs ih => exact ih.step hs
theorem Ends.flds {l : List Ac} {s t : Sa} {on cyc : Bool} (h : Ends l s t on cyc) : Flds l s.x t.x := by
  obtain ⟨k, hk, _⟩ := h
  exact hk.flds
theorem Ends.round {l : List Ac} {s t : Sa} {on cyc : Bool} (h : Ends l s t on cyc) (hc : cyc = true) : on = false := by
  obtain ⟨k, hk, h | h⟩ := h
  · rw [h.2.1] at hc; cases hc
  · exact h.2.2

/-- jumps ahead alone, and no bucket -/
def Ahead (l : List Ac) : Prop := ∀ i, i < l.length → (ax l i).kind ≠ 9 ∧ ((ax l i).kind = 7 → (i : Int) < (ax l i).a) ∧ (8 ≤ (ax l i).kind → (i : Int) < (ax l i).b)
theorem Step.up {l : List Ac} {s t : Sa} (h : Step l s t) (hl : Ahead l) {nb : Int} (ho : AllOk l nb l.length) : s.at_ + 1 ≤ t.at_ ∧ t.at_ ≤ l.length := by
  have hlt := h.lt
  obtain ⟨a1, a2, a3⟩ := hl _ hlt
  have o := ho _ hlt
  cases h
  case jump h1 h2 =>
    have q1 := a2 h2
    have q2 := (o.a (by omega)).2
    rw [h2] at q2
    have q3 : topOf l.length nb 7 = l.length := rfl
    dsimp only
    omega
  case meet h1 h2 h3 =>
    have q1 := a3 (by omega)
    have q2 := (o.b (by omega)).2
    dsimp only
    omega
  case lacks h1 h2 => exact absurd h2 a1
  case takes h1 h2 => exact absurd h2 a1
  case cut h1 h2 h3 =>
    have q1 := a3 (by omega)
    have q2 := (o.b (by omega)).2
    dsimp only
    omega
  all_goals (dsimp only; omega)
theorem Steps.up {l : List Ac} {s t : Sa} {k : Nat} (h : Steps l s k t) (hl : Ahead l) {nb : Int} (ho : AllOk l nb l.length) (h0 : s.at_ ≤ l.length) : s.at_ + k ≤ t.at_ ∧ t.at_ ≤ l.length := by
  induction h with
  | zero => exact ⟨Nat.le_refl _, h0⟩
  | snoc _ hs ih =>
    have := hs.up hl ho
    omega
theorem Ends.no_round {l : List Ac} {s t : Sa} {on cyc : Bool} (h : Ends l s t on cyc) (hl : Ahead l) {nb : Int} (ho : AllOk l nb l.length) (h0 : s.at_ = 0) (hn : l.length ≤ 45) : cyc = false := by
  obtain ⟨k, hk, h | h⟩ := h
  · exact h.2.1
  · have := hk.up hl ho (by omega)
    omega

/-- the same once more, with other counters -/
structure Same (s t : Sa) (d : Nat → Int) : Prop where
  at_ : t.at_ = s.at_
  x : t.x = s.x
  c : ∀ j, t.c j = s.c j + d j
theorem up_add {c c' d : Nat → Int} {a : Int} (hc : ∀ j, c' j = c j + d j) (h0 : ∀ j, 0 ≤ c j ∧ c j ≤ 1000) (h1 : ∀ j, 0 ≤ c' j ∧ c' j ≤ 1000) (j : Nat) : Actn.up c' a j = Actn.up c a j + d j := by
  unfold Actn.up
  have e : ∀ x : Int, 0 ≤ x → x ≤ 1000 → Go.IntKind.i64.wrap (x + 1) = x + 1 := fun x h h' => IntWalk.i64_in _ (by omega)
  split
  · rw [e _ (h0 j).1 (h0 j).2, e _ (h1 j).1 (h1 j).2, hc]; omega
  · exact hc j
theorem up_bd {c : Nat → Int} {a : Int} {k : Nat} {m : Int} (h : ∀ j, 0 ≤ c j ∧ c j ≤ m + k) (hm : m + k ≤ 1000) (j : Nat) : 0 ≤ Actn.up c a j ∧ Actn.up c a j ≤ m + (k + 1 : Nat) := by
  unfold Actn.up
  have := h j
  have e : Go.IntKind.i64.wrap (c j + 1) = c j + 1 := IntWalk.i64_in _ (by omega)
  split
  · rw [e]; omega
  · omega
theorem Step.bd {l : List Ac} {s t : Sa} {k : Nat} {m : Int} (h : Step l s t) (hs : ∀ j, 0 ≤ s.c j ∧ s.c j ≤ m + k) (hm : m + k ≤ 1000) (j : Nat) : 0 ≤ t.c j ∧ t.c j ≤ m + (k + 1 : Nat) := by
  have := hs j
  cases h
  case count h1 h2 => exact up_bd hs hm j
  all_goals (dsimp only; omega)
theorem Steps.bd {l : List Ac} {s t : Sa} {k : Nat} {m : Int} (h : Steps l s k t) (hs : ∀ j, 0 ≤ s.c j ∧ s.c j ≤ m) (hm : m + k ≤ 1000) (j : Nat) : 0 ≤ t.c j ∧ t.c j ≤ m + k := by
  induction h generalizing j with
  | zero => simpa using hs j
  | snoc _ hs1 ih => exact hs1.bd (fun j => ih (by omega) j) (by omega) j
theorem Step.same {l : List Ac} {s t s' t' : Sa} {d : Nat → Int} (h : Step l s t) (h' : Step l s' t') (hl : Ahead l) (hs : Same s s' d) (b : ∀ j, 0 ≤ s.c j ∧ s.c j ≤ 1000) (b' : ∀ j, 0 ≤ s'.c j ∧ s'.c j ≤ 1000) : Same t t' d := by
  obtain ⟨a1, x1, c1⟩ := s
  obtain ⟨a2, x2, c2⟩ := s'
  obtain ⟨e1, e2, e3⟩ := hs
  dsimp only at e1 e2 e3 b b'
  subst e1; subst e2
  have hlt := h.lt
  have n9 := (hl _ hlt).1
  dsimp only at hlt n9
  cases h <;> cases h' <;> dsimp only at * <;> first
    | exact ⟨rfl, rfl, e3⟩
    | exact ⟨rfl, rfl, fun j => up_add e3 b b' j⟩
    | (exfalso; omega)
/-- the first k actions, again -/
theorem Steps.pre {l : List Ac} {s t : Sa} {k : Nat} (h : Steps l s k t) : ∀ j, j < k → ∃ u v, Steps l s j u ∧ Step l u v := by
  induction h with
  | zero => intro j hj; omega
  | @snoc k t u h1 h2 ih =>
    intro j hj
    rcases Nat.lt_or_ge j k with hj' | hj'
    · exact ih j hj'
    · obtain rfl : j = k := by omega
      exact ⟨_, _, h1, h2⟩
theorem Steps.same {l : List Ac} {s s' : Sa} {d : Nat → Int} (hl : Ahead l) (hs : Same s s' d) (b : ∀ j, 0 ≤ s.c j ∧ s.c j ≤ 800) (b' : ∀ j, 0 ≤ s'.c j ∧ s'.c j ≤ 800) {k : Nat} (hk : k ≤ 100) {t t' : Sa} (h : Steps l s k t) (h' : Steps l s' k t') : Same t t' d := by
  induction k generalizing t t' with
  | zero => cases h; cases h'; exact hs
  | succ k ih =>
    cases h with
    | snoc h1 h2 =>
      cases h' with
      | snoc g1 g2 =>
        exact h2.same g2 hl (ih (by omega) h1 g1) (fun j => by have := h1.bd b (by omega) j; omega) (fun j => by have := g1.bd b' (by omega) j; omega)
theorem Ends.stuck {l : List Ac} {t u : Sa} {on cyc : Bool} {k : Nat} (h : (k < 100 ∧ cyc = false ∧ ((on = true ∧ (l.length ≤ t.at_ ∨ t.at_ < l.length ∧ (ax l t.at_).kind = 1)) ∨ (on = false ∧ t.at_ < l.length ∧ (ax l t.at_).kind = 2))) ∨ (k = 100 ∧ cyc = true ∧ on = false)) (hs : Step l t u) : 100 ≤ k := by
  have h1 := hs.lt
  have h2 := hs.kind
  omega
theorem Ends.same {l : List Ac} {s s' t t' : Sa} {on on' cyc cyc' : Bool} {d : Nat → Int} (h : Ends l s t on cyc) (h' : Ends l s' t' on' cyc') (hl : Ahead l) (hs : Same s s' d) (b : ∀ j, 0 ≤ s.c j ∧ s.c j ≤ 800) (b' : ∀ j, 0 ≤ s'.c j ∧ s'.c j ≤ 800) : Same t t' d ∧ on = on' ∧ cyc = cyc' := by
  obtain ⟨k, h1, h2⟩ := h
  obtain ⟨k', g1, g2⟩ := h'
  have hk : k ≤ 100 := by omega
  have hk' : k' ≤ 100 := by omega
  have ek : k = k' := by
    rcases Nat.lt_trichotomy k k' with hlt | he | hlt
    · obtain ⟨u, v, p1, p2⟩ := g1.pre k hlt
      have e := Steps.same hl hs b b' hk h1 p1
      have q1 := p2.lt
      have q2 := p2.kind
      rw [e.at_] at q1 q2
      omega
    · exact he
    · obtain ⟨u, v, p1, p2⟩ := h1.pre k' hlt
      have e := Steps.same hl hs b b' hk' p1 g1
      have q1 := p2.lt
      have q2 := p2.kind
      rw [← e.at_] at q1 q2
      omega
  subst ek
  have e := Steps.same hl hs b b' hk h1 g1
  refine ⟨e, ?_, ?_⟩
  · rw [e.at_] at g2
    rcases h2 with ⟨a, b, ⟨c, d⟩ | ⟨c, d⟩⟩ | ⟨a, b, c⟩ <;> rcases g2 with ⟨a', b', ⟨c', d'⟩ | ⟨c', d'⟩⟩ | ⟨a', b', c'⟩ <;> first | (rw [c, c']; done) | (exfalso; omega)
  · rcases h2 with ⟨a, b, c⟩ | ⟨a, b, c⟩ <;> rcases g2 with ⟨a', b', c'⟩ | ⟨a', b', c'⟩ <;> first | (rw [b, b']; done) | (exfalso; omega)
end Actn
end Go.Proofs.YtdhojhgmaodifaaDoor
