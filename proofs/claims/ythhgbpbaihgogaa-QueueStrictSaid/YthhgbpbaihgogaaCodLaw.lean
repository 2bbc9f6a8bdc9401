/-
  Plain law of controlled delay: a queue as a machine; what it throws away waited for the target at least, and all goes, or is thrown away, in order.
-/
import Derived.Test.YthhgbpbaihgogaaFifoLaw
namespace Go.Proofs.Ythhgbpbaihgogaa
open Bkt
namespace Pl
set_option linter.unusedVariables false

structure DP where
  p : FP
  target : Int
  span : Int
structure DS where
  s : List Hd
  above : Int
  drop : Bool
  next : Int
  count : Int
/-- the root, rounded down -/
def rootTo (n : Int) : Nat → Int
  | 0 => 0
  | k + 1 => if (rootTo n k + 1) * (rootTo n k + 1) ≤ n then rootTo n k + 1 else rootTo n k
def rootD (n : Int) : Int := rootTo n n.toNat
theorem sq_up {a b : Int} (ha : 0 ≤ a) (h : a ≤ b) : a * a ≤ b * b := Int.mul_le_mul h h ha (by omega)
theorem sq_lt {a b : Int} (hb : 0 ≤ b) (h : a * a < b * b) : a < b := by
  rcases (show a < b ∨ b ≤ a by omega) with h' | h'
  · exact h'
  · have := sq_up hb h'; omega
theorem self_sq {a : Int} (ha : 0 ≤ a) : a ≤ a * a := by
  rcases (show 0 < a ∨ a ≤ 0 by omega) with h | h
  · have := Int.mul_le_mul (show (1 : Int) ≤ a by omega) (Int.le_refl a) ha ha
    omega
  · obtain rfl : a = 0 := by omega
    decide
theorem rootTo_ok (n : Int) (hn : 0 ≤ n) : ∀ k : Nat, 0 ≤ rootTo n k ∧ rootTo n k * rootTo n k ≤ n ∧ (n < (rootTo n k + 1) * (rootTo n k + 1) ∨ rootTo n k = k)
  | 0 => ⟨Int.le_refl _, hn, .inr rfl⟩
  | k + 1 => by
    obtain ⟨h0, h1, h2⟩ := rootTo_ok n hn k
    rw [rootTo]
    by_cases h : (rootTo n k + 1) * (rootTo n k + 1) ≤ n
    · rw [if_pos h]
      refine ⟨by omega, h, ?_⟩
      rcases h2 with h2 | h2
      · omega
      · exact .inr (by rw [h2]; rfl)
    · rw [if_neg h]
      exact ⟨h0, h1, .inl (by omega)⟩
theorem rootD_ok {n : Int} (hn : 0 ≤ n) : 0 ≤ rootD n ∧ rootD n * rootD n ≤ n ∧ n < (rootD n + 1) * (rootD n + 1) := by
  obtain ⟨h0, h1, h2⟩ := rootTo_ok n hn n.toNat
  refine ⟨h0, h1, ?_⟩
  rcases h2 with h2 | h2
  · exact h2
  · unfold rootD
    have e : rootTo n n.toNat = n := by omega
    rw [e]
    have := self_sq (show 0 ≤ n + 1 by omega)
    omega
theorem rootD_is {n r : Int} (hn : 0 ≤ n) (h0 : 0 ≤ r) (h1 : r * r ≤ n) (h2 : n < (r + 1) * (r + 1)) : rootD n = r := by
  obtain ⟨g0, g1, g2⟩ := rootD_ok hn
  have a := sq_lt (a := rootD n) (b := r + 1) (by omega) (by omega)
  have b := sq_lt (a := r) (b := rootD n + 1) (by omega) (by omega)
  omega
theorem rootD_one {n : Int} (hn : 1 ≤ n) : 1 ≤ rootD n := by
  obtain ⟨g0, g1, g2⟩ := rootD_ok (n := n) (by omega)
  rcases (show 0 < rootD n ∨ rootD n ≤ 0 by omega) with h | h
  · omega
  · obtain e : rootD n = 0 := by omega
    rw [e] at g2
    omega
def lawD (P : DP) (count at_ : Int) : Int := at_ + P.span * 1000 / rootD (1000000 * count)
theorem lawD_bd {P : DP} {c a : Int} (hs : 0 ≤ P.span ∧ P.span ≤ 1000000) (hc : 1 ≤ c) : a ≤ lawD P c a ∧ lawD P c a ≤ a + 1000000000 := by
  have h1 := rootD_one (n := 1000000 * c) (by omega)
  have h2 : 0 ≤ P.span * 1000 / rootD (1000000 * c) := Int.ediv_nonneg (by omega) (by omega)
  have h3 : P.span * 1000 / rootD (1000000 * c) ≤ P.span * 1000 := Int.ediv_le_self _ (by omega)
  unfold lawD
  omega
def pullD (P : DP) (now : Int) (D : DS) : Option Hd × Bool × DS :=
  match D.s with
  | [] => (none, false, ⟨[], -1, D.drop, D.next, D.count⟩)
  | x :: r =>
    if now - x.it.at_ < P.target ∨ r.length = 0 then (some x, false, ⟨r, -1, D.drop, D.next, D.count⟩)
    else if D.above < 0 then (some x, false, ⟨r, now + P.span, D.drop, D.next, D.count⟩)
    else (some x, decide (D.above ≤ now), ⟨r, D.above, D.drop, D.next, D.count⟩)
/-- the row of those that are thrown away; x is at hand -/
def dropD (P : DP) (now : Int) : List Hd → Hd → List Hd → Int → Int → Int → Option Hd × List Hd × DS
  | [], x, lost, a, nx, c => if nx ≤ now then (none, lost ++ [x], ⟨[], -1, false, nx, c + 1⟩) else (some x, lost, ⟨[], a, true, nx, c⟩)
  | y :: r, x, lost, a, nx, c =>
    if nx ≤ now then
      if now - y.it.at_ < P.target ∨ r.length = 0 then (some y, lost ++ [x], ⟨r, -1, false, nx, c + 1⟩)
      else if a < 0 then (some y, lost ++ [x], ⟨r, now + P.span, false, nx, c + 1⟩)
      else if a ≤ now then dropD P now r y (lost ++ [x]) a (lawD P (c + 1) nx) (c + 1)
      else (some y, lost ++ [x], ⟨r, a, false, nx, c + 1⟩)
    else (some x, lost, ⟨y :: r, a, true, nx, c⟩)
def cntD (P : DP) (now : Int) (D : DS) : Int := if 2 < D.count ∧ now - D.next < 16 * P.span then D.count - 2 else 1
def takeD (P : DP) (now : Int) (D : DS) : Option Hd × List Hd × DS :=
  let r := pullD P now D
  match r.1 with
  | none => (none, [], ⟨r.2.2.s, r.2.2.above, false, r.2.2.next, r.2.2.count⟩)
  | some x =>
    if D.drop = true then
      if r.2.1 = false then (some x, [], ⟨r.2.2.s, r.2.2.above, false, r.2.2.next, r.2.2.count⟩)
      else dropD P now r.2.2.s x [] r.2.2.above r.2.2.next r.2.2.count
    else if r.2.1 = true then
      let q := pullD P now r.2.2
      (q.1, [x], ⟨q.2.2.s, q.2.2.above, true, lawD P (cntD P now q.2.2) now, cntD P now q.2.2⟩)
    else (some x, [], r.2.2)
def delM (P : DP) : QM where
  σ := DS
  put := fun _ x D => ((fputL P.p x D.s).1, ⟨(fputL P.p x D.s).2, D.above, D.drop, D.next, D.count⟩)
  take := fun now D => takeD P now D
  when_ := fun now D => (if 0 < D.s.length then some now else none, D)
  wait := fun D => D.s.map key
  len := fun D => D.s.length
  bytes := fun D => tot D.s

/-- all that was there, in order -/
theorem pullD_all (P : DP) (now : Int) (D : DS) : (pullD P now D).1.toList ++ (pullD P now D).2.2.s = D.s := by
  unfold pullD
  split
  · rename_i h; rw [h]; rfl
  · rename_i x r h
    rw [h]
    split
    · rfl
    · split <;> rfl
/-- what may be thrown away waited -/
theorem pullD_bad {P : DP} {now : Int} {D : DS} (h : (pullD P now D).2.1 = true) : ∃ x r, D.s = x :: r ∧ (pullD P now D).1 = some x ∧ P.target ≤ now - x.it.at_ ∧ (pullD P now D).2.2 = ⟨r, D.above, D.drop, D.next, D.count⟩ ∧ 0 < r.length := by
  unfold pullD at h ⊢
  split at h
  · cases h
  · rename_i x r he
    by_cases h1 : now - x.it.at_ < P.target ∨ r.length = 0
    · rw [if_pos h1] at h; cases h
    · rw [if_neg h1] at h ⊢
      by_cases h2 : D.above < 0
      · rw [if_pos h2] at h; cases h
      · rw [if_neg h2]
        exact ⟨x, r, he, rfl, by omega, rfl, by omega⟩
theorem dropD_all (P : DP) (now : Int) : ∀ (s : List Hd) (x : Hd) (lost : List Hd) (a nx c : Int), (dropD P now s x lost a nx c).2.1 ++ ((dropD P now s x lost a nx c).1.toList ++ (dropD P now s x lost a nx c).2.2.s) = lost ++ (x :: s)
  | [], x, lost, a, nx, c => by
    unfold dropD
    split
    · simp
    · simp
  | y :: r, x, lost, a, nx, c => by
    unfold dropD
    split
    · split
      · simp
      · split
        · simp
        · split
          · rw [dropD_all P now r y (lost ++ [x]) a _ _]; simp
          · simp
    · simp
theorem dropD_old (P : DP) (now : Int) : ∀ (s : List Hd) (x : Hd) (lost : List Hd) (a nx c : Int), P.target ≤ now - x.it.at_ → (∀ y ∈ lost, P.target ≤ now - y.it.at_) → ∀ y ∈ (dropD P now s x lost a nx c).2.1, P.target ≤ now - y.it.at_
  | [], x, lost, a, nx, c, hx, hl => by
    have hl2 : ∀ y ∈ lost ++ [x], P.target ≤ now - y.it.at_ := fun y hy => by
      rcases List.mem_append.1 hy with h | h
      · exact hl y h
      · rw [List.mem_singleton] at h; subst h; exact hx
    unfold dropD
    split
    · exact hl2
    · exact hl
  | z :: r, x, lost, a, nx, c, hx, hl => by
    have hl2 : ∀ y ∈ lost ++ [x], P.target ≤ now - y.it.at_ := fun y hy => by
      rcases List.mem_append.1 hy with h | h
      · exact hl y h
      · rw [List.mem_singleton] at h; subst h; exact hx
    unfold dropD
    split
    · by_cases h1 : now - z.it.at_ < P.target ∨ r.length = 0
      · rw [if_pos h1]; exact hl2
      · rw [if_neg h1]
        split
        · exact hl2
        · split
          · exact dropD_old P now r z (lost ++ [x]) a _ _ (by omega) hl2
          · exact hl2
    · exact hl
theorem takeD_all (P : DP) (now : Int) (D : DS) : (takeD P now D).2.1 ++ ((takeD P now D).1.toList ++ (takeD P now D).2.2.s) = D.s := by
  have h := pullD_all P now D
  unfold takeD
  dsimp only
  split
  · rename_i he
    rw [he] at h
    exact h
  · rename_i x he
    rw [he] at h
    split
    · split
      · exact h
      · rw [dropD_all]; exact h
    · split
      · have h2 := pullD_all P now (pullD P now D).2.2
        show [x] ++ _ = _
        rw [h2]
        exact h
      · exact h
theorem takeD_old (P : DP) (now : Int) (D : DS) : ∀ y ∈ (takeD P now D).2.1, P.target ≤ now - y.it.at_ := by
  unfold takeD
  dsimp only
  split
  · intro y hy; cases hy
  · rename_i x he
    split
    · split
      · intro y hy; cases hy
      · rename_i hb
        obtain ⟨x', r, _, h2, h3, _, _⟩ := pullD_bad (P := P) (now := now) (D := D) (by simpa using hb)
        rw [he] at h2
        injection h2 with h2
        subst h2
        exact dropD_old P now _ _ _ _ _ _ h3 (fun y hy => by cases hy)
    · split
      · rename_i hb
        obtain ⟨x', r, _, h2, h3, _, _⟩ := pullD_bad (P := P) (now := now) (D := D) hb
        rw [he] at h2
        injection h2 with h2
        subst h2
        intro y hy
        rw [List.mem_singleton] at hy
        subst hy
        exact h3
      · intro y hy; cases hy
theorem del_good (P : DP) (late : Bool) : (delM P).Good late fun _ => True where
  put := fun s now x _ _ _ => ⟨trivial, fput_perm P.p x s.s⟩
  take := fun s now _ => ⟨trivial, by
    show (List.map key s.s).Perm (List.map key (takeD P now s).2.1 ++ (List.map key (takeD P now s).1.toList ++ List.map key (takeD P now s).2.2.s))
    have := takeD_all P now s
    rw [← List.map_append, ← List.map_append]
    exact List.Perm.of_eq (congrArg (List.map key) this.symm)⟩
  when_ := fun s now _ => ⟨trivial, List.Perm.refl _⟩
  len := fun s _ => ⟨Int.le_of_eq (len_key s.s), Int.le_refl _, fun _ => ⟨len_key s.s, rfl⟩⟩

/-- numbers stay small -/
structure DOk (P : DP) (k : Nat) (D : DS) : Prop where
  ab : -1 ≤ D.above ∧ D.above ≤ 1001000000
  nx : 0 ≤ D.next ∧ D.next ≤ 2000000000
  ct : 0 ≤ D.count
  ck : D.count + D.s.length ≤ k
structure DPOk (P : DP) : Prop where
  p : FOk P.p
  tg : 0 ≤ P.target ∧ P.target ≤ 1000000
  sp : 1 ≤ P.span ∧ P.span ≤ 1000000
theorem DOk.pull {P : DP} (hP : DPOk P) {k : Nat} {D : DS} (h : DOk P k D) {now : Int} (hn : 0 ≤ now ∧ now ≤ 1000000000) : DOk P k (pullD P now D).2.2 ∧ ((pullD P now D).1.isSome = true → (pullD P now D).2.2.count + (pullD P now D).2.2.s.length + 1 ≤ k) := by
  have h1 := h.ab; have h2 := h.nx; have h3 := h.ct; have h4 := h.ck
  have hs := hP.sp
  unfold pullD
  split
  · rename_i he
    rw [he] at h4
    exact ⟨⟨⟨by simp only []; omega, by simp only []; omega⟩, h2, h3, h4⟩, fun hh => by cases hh⟩
  · rename_i x r he
    rw [he, List.length_cons] at h4
    split
    · exact ⟨⟨⟨by simp only []; omega, by simp only []; omega⟩, h2, h3, by simp only []; omega⟩, fun _ => by simp only []; omega⟩
    · split
      · exact ⟨⟨⟨by simp only []; omega, by simp only []; omega⟩, h2, h3, by simp only []; omega⟩, fun _ => by simp only []; omega⟩
      · exact ⟨⟨h1, h2, h3, by simp only []; omega⟩, fun _ => by simp only []; omega⟩
theorem DOk.dropL {P : DP} (hP : DPOk P) {k : Nat} {now : Int} (hn : 0 ≤ now ∧ now ≤ 1000000000) : ∀ (s : List Hd) (x : Hd) (lost : List Hd) (a nx c : Int), -1 ≤ a ∧ a ≤ 1001000000 → 0 ≤ nx ∧ nx ≤ 2000000000 → 0 ≤ c → c + s.length + 1 ≤ k →
    DOk P k (dropD P now s x lost a nx c).2.2
  | [], x, lost, a, nx, c, h1, h2, h3, h4 => by
    simp only [List.length_nil] at h4
    unfold dropD
    split
    · exact ⟨⟨by simp only []; omega, by simp only []; omega⟩, h2, by simp only []; omega, by simp only [List.length_nil]; omega⟩
    · exact ⟨h1, h2, h3, by simp only [List.length_nil]; omega⟩
  | y :: r, x, lost, a, nx, c, h1, h2, h3, h4 => by
    have hs := hP.sp
    rw [List.length_cons] at h4
    unfold dropD
    split
    · rename_i hnx
      split
      · exact ⟨⟨by simp only []; omega, by simp only []; omega⟩, h2, by simp only []; omega, by simp only []; omega⟩
      · split
        · exact ⟨⟨by simp only []; omega, by simp only []; omega⟩, h2, by simp only []; omega, by simp only []; omega⟩
        · split
          · have hl := lawD_bd (P := P) (c := c + 1) (a := nx) ⟨by omega, by omega⟩ (by omega)
            exact DOk.dropL hP hn r y _ a _ _ h1 ⟨by omega, by omega⟩ (by omega) (by omega)
          · exact ⟨h1, h2, by simp only []; omega, by simp only []; omega⟩
    · exact ⟨h1, h2, h3, by simp only [List.length_cons]; omega⟩
theorem cntD_bd {P : DP} {now : Int} {D : DS} (h : 0 ≤ D.count) : 1 ≤ cntD P now D ∧ (cntD P now D = 1 ∨ cntD P now D = D.count - 2) := by
  unfold cntD
  split
  · exact ⟨by omega, .inr rfl⟩
  · exact ⟨Int.le_refl _, .inl rfl⟩
theorem DOk.take {P : DP} (hP : DPOk P) {k : Nat} {D : DS} (h : DOk P k D) {now : Int} (hn : 0 ≤ now ∧ now ≤ 1000000000) : DOk P k (takeD P now D).2.2 := by
  obtain ⟨g1, g2⟩ := h.pull hP hn
  have hs := hP.sp
  unfold takeD
  dsimp only
  split
  · exact ⟨g1.ab, g1.nx, g1.ct, g1.ck⟩
  · rename_i x he
    have g3 := g2 (by rw [he]; rfl)
    split
    · split
      · exact ⟨g1.ab, g1.nx, g1.ct, g1.ck⟩
      · exact DOk.dropL hP hn _ _ _ _ _ _ g1.ab g1.nx g1.ct g3
    · split
      · rename_i hb
        obtain ⟨x', r, h1, h2, h3, h4, h5⟩ := pullD_bad hb
        obtain ⟨q1, q2⟩ := g1.pull hP hn
        have hc := cntD_bd (P := P) (now := now) (D := (pullD P now (pullD P now D).2.2).2.2) q1.ct
        have hl := lawD_bd (P := P) (a := now) ⟨by omega, by omega⟩ hc.1
        have ha := pullD_all P now (pullD P now D).2.2
        have hla := congrArg List.length ha
        rw [List.length_append] at hla
        have q3 := q1.ck
        have q4 := q1.ct
        have q5 := g1.ct
        refine ⟨q1.ab, ⟨by simp only []; omega, by simp only []; omega⟩, by simp only []; omega, ?_⟩
        simp only []
        rcases hc.2 with e | e
        · omega
        · omega
      · exact g1
theorem DOk.put {P : DP} {k : Nat} {D : DS} (h : DOk P k D) (x : Hd) : DOk P (k + 1) ⟨(fputL P.p x D.s).2, D.above, D.drop, D.next, D.count⟩ := by
  have hl := (fput_app P.p x D.s).length_eq
  simp only [List.length_append, List.length_singleton] at hl
  have := h.ck
  exact ⟨h.ab, h.nx, h.ct, by simp only []; omega⟩
end Pl
end Go.Proofs.Ythhgbpbaihgogaa
