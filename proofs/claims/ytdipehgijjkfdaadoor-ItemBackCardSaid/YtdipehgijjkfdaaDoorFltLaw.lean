/-
  Plain law of filters: words, the reader, what is meant, the text, Inside.
-/
import Derived.Test.YtdipehgijjkfdaaDoorBookLaw
import Derived.Lib.Join
import Derived.Lib.IndexMore
namespace Go.Proofs.YtdipehgijjkfdaaDoor
namespace Fl
open Lib
set_option linter.unusedVariables false
abbrev Tok := List UInt8
def flush (a : Tok) : List Tok := if a = [] then [] else [a]
def lexA : Tok → List UInt8 → List Tok
  | a, [] => flush a
  | a, c :: r => if c = 32 then flush a ++ lexA [] r else if c = 40 ∨ c = 41 then flush a ++ ([c] :: lexA [] r) else lexA (a ++ [c]) r
inductive Ft where
  | tst (f : Nat) (lo hi : Int) (bits : Bool)
  | any
  | not (t : Ft)
  | sev (l : List Ft) (any : Bool)
def sAny : Tok := [97, 110, 121]
def sNot : Tok := [110, 111, 116]
def sHas : Tok := [104, 97, 115]
def sAnd : Tok := [97, 110, 100]
def sOr : Tok := [111, 114]
def sDots : Tok := [46, 46]
def nm : Nat → Tok
  | 0 => [97, 116]
  | 1 => [108, 101, 110]
  | 2 => [102, 108, 111, 119]
  | 3 => [98, 97, 110, 100]
  | _ => [109, 97, 114, 107]
def fieldOf (w : Tok) : Option Nat := if w = nm 0 then some 0 else if w = nm 1 then some 1 else if w = nm 2 then some 2 else if w = nm 3 then some 3 else if w = nm 4 then some 4 else none
abbrev Res := Except Int (Ft × List Tok)
def numF (s : Tok) : Except Int Int := match atoiAll s with
  | .ok n => if itoa n = s then (if n < 0 ∨ 1000000000 < n then .error 2 else .ok n) else .error 3
  | _ => .error 3
/-- what a field is held against; whether 'has' stood ahead -/
def testB (f : Nat) (b : Bool) : List Tok → Res
  | [] => .error 3
  | w :: r =>
    if (cut w sDots).2.2 = true ∧ b = true then .error 3 else
    match numF (cut w sDots).1 with
    | .error e => .error e
    | .ok lo => if (cut w sDots).2.2 = true then
        (match numF (cut w sDots).2.1 with
        | .error e => .error e
        | .ok hi => if hi < lo then .error 10 else .ok (.tst f lo hi b, r))
      else .ok (.tst f lo lo b, r)
def testF (f : Nat) : List Tok → Res
  | [] => .error 3
  | w :: r => if w = sHas then testB f true r else testB f false (w :: r)
/-- word: 0 none, 1 and, 2 or -/
def listF (one : List Tok → Res) : Nat → Nat → List Ft → List Tok → Res
  | 0, _, _, _ => .error 3
  | n + 1, word, acc, ts => match one ts with
    | .error e => .error e
    | .ok (t, []) => .error 3
    | .ok (t, w :: r) =>
      if w = [41] then .ok (.sev (acc ++ [t]) (word == 2), r)
      else if word ≠ 2 ∧ w = sAnd then listF one n 1 (acc ++ [t]) r
      else if word ≠ 1 ∧ w = sOr then listF one n 2 (acc ++ [t]) r
      else .error 3
def oneF : Nat → List Tok → Res
  | 0, _ => .error 4
  | _ + 1, [] => .error 3
  | d + 1, w :: r =>
    if w = sAny then .ok (.any, r)
    else if w = sNot then (match oneF d r with
      | .error e => .error e
      | .ok (t, r') => .ok (.not t, r'))
    else if w = [40] then listF (oneF d) (r.length + 1) 0 [] r
    else match fieldOf w with
      | some f => testF f r
      | none => .error 3
mutual
def okF : Ft → Prop
  | .tst f lo hi b => f < 5 ∧ 0 ≤ lo ∧ lo ≤ hi ∧ hi ≤ 1000000000 ∧ (b = true → lo = hi)
  | .any => True
  | .not t => okF t
  | .sev l _ => l ≠ [] ∧ okL l
def okL : List Ft → Prop
  | [] => True
  | t :: r => okF t ∧ okL r
end
mutual
def cnt : Ft → Nat
  | .tst _ _ _ _ => 1
  | .any => 1
  | .not t => cnt t + 1
  | .sev l _ => cntL l + 1
def cntL : List Ft → Nat
  | [] => 0
  | t :: r => cnt t + cntL r
end
mutual
def dep : Ft → Nat
  | .tst _ _ _ _ => 1
  | .any => 1
  | .not t => dep t + 1
  | .sev l _ => depL l + 1
def depL : List Ft → Nat
  | [] => 0
  | t :: r => max (dep t) (depL r)
end
theorem okL_app : ∀ (a b : List Ft), okL (a ++ b) ↔ okL a ∧ okL b
  | [], b => by simp [okL]
  | t :: r, b => by simp only [List.cons_append, okL, okL_app r b, and_assoc]
theorem cntL_app : ∀ (a b : List Ft), cntL (a ++ b) = cntL a + cntL b
  | [], b => by simp [cntL]
  | t :: r, b => by simp only [List.cons_append, cntL, cntL_app r b]; omega
theorem depL_app : ∀ (a b : List Ft), depL (a ++ b) = max (depL a) (depL b)
  | [], b => by simp [depL]
  | t :: r, b => by simp only [List.cons_append, depL, depL_app r b]; omega
theorem num_ok {s : Tok} {n : Int} (h : numF s = .ok n) : 0 ≤ n ∧ n ≤ 1000000000 ∧ itoa n = s := by
  unfold numF at h
  split at h
  · split at h
    · split at h
      · cases h
      · rename_i h1 h2; injection h with h; subst h; exact ⟨by omega, by omega, h1⟩
    · cases h
  · cases h
theorem num_err {s : Tok} {e : Int} (h : numF s = .error e) : e = 2 ∨ e = 3 := by
  unfold numF at h
  split at h
  · split at h
    · split at h
      · injection h with h; exact .inl h.symm
      · cases h
    · injection h with h; exact .inr h.symm
  · injection h with h; exact .inr h.symm
theorem field_lt {w : Tok} {f : Nat} (h : fieldOf w = some f) : f < 5 ∧ w = nm f := by
  unfold fieldOf at h
  split at h
  · injection h with h; subst h; exact ⟨by omega, by assumption⟩
  split at h
  · injection h with h; subst h; exact ⟨by omega, by assumption⟩
  split at h
  · injection h with h; subst h; exact ⟨by omega, by assumption⟩
  split at h
  · injection h with h; subst h; exact ⟨by omega, by assumption⟩
  split at h
  · injection h with h; subst h; exact ⟨by omega, by assumption⟩
  · cases h
/-- what a reading gives -/
def Fine (d : Nat) (ts : List Tok) (t : Ft) (r : List Tok) : Prop := okF t ∧ dep t ≤ d ∧ r.length + cnt t ≤ ts.length
theorem testB_fine {f : Nat} (hf : f < 5) {b : Bool} {ts : List Tok} {t : Ft} {r : List Tok} (h : testB f b ts = .ok (t, r)) : okF t ∧ dep t = 1 ∧ cnt t = 1 ∧ r.length + 1 = ts.length := by
  cases ts with
  | nil => cases h
  | cons w q =>
    rw [testB] at h
    split at h
    · cases h
    · rename_i hb
      split at h
      · cases h
      · rename_i lo hlo
        obtain ⟨h0, h1, _⟩ := num_ok hlo
        split at h
        · rename_i h2
          split at h
          · cases h
          · rename_i hi hhi
            obtain ⟨h3, h4, _⟩ := num_ok hhi
            split at h
            · cases h
            · injection h with h; injection h with h h5; subst h; subst h5
              exact ⟨⟨hf, h0, by omega, h4, fun hbt => absurd ⟨h2, hbt⟩ hb⟩, rfl, rfl, rfl⟩
        · injection h with h; injection h with h h5; subst h; subst h5
          exact ⟨⟨hf, h0, by omega, h1, fun _ => rfl⟩, rfl, rfl, rfl⟩
theorem testF_fine {f : Nat} (hf : f < 5) {ts : List Tok} {t : Ft} {r : List Tok} (h : testF f ts = .ok (t, r)) : okF t ∧ dep t = 1 ∧ cnt t = 1 ∧ r.length + 1 ≤ ts.length := by
  cases ts with
  | nil => cases h
  | cons w q =>
    rw [testF] at h
    split at h
    · obtain ⟨a, b, c, e⟩ := testB_fine hf h
      exact ⟨a, b, c, by simp; omega⟩
    · obtain ⟨a, b, c, e⟩ := testB_fine hf h
      exact ⟨a, b, c, by omega⟩
theorem listF_fine {d : Nat} {one : List Tok → Res} (hone : ∀ ts t r, one ts = .ok (t, r) → Fine d ts t r) : ∀ (n word : Nat) (acc : List Ft) (ts : List Tok) (t : Ft) (r : List Tok), okL acc → depL acc ≤ d →
    listF one n word acc ts = .ok (t, r) → okF t ∧ dep t ≤ d + 1 ∧ r.length + cnt t ≤ ts.length + cntL acc
  | 0, _, _, _, _, _, _, _, h => by cases h
  | n + 1, word, acc, ts, t, r, ha, hd, h => by
    unfold listF at h
    split at h
    · cases h
    · cases h
    · rename_i q w r' ho
      obtain ⟨o1, o2, o3⟩ := hone _ _ _ ho
      have hq : okL (acc ++ [q]) := (okL_app _ _).2 ⟨ha, o1, trivial⟩
      have hdq : depL (acc ++ [q]) ≤ d := by rw [depL_app]; simp only [depL]; omega
      have hcq : cntL (acc ++ [q]) = cntL acc + cnt q := by rw [cntL_app]; simp only [cntL]; omega
      simp only [List.length_cons] at o3
      split at h
      · injection h with h; injection h with h h5; subst h; subst h5
        exact ⟨⟨by simp, hq⟩, by simp only [dep]; omega, by simp only [cnt]; omega⟩
      split at h
      · obtain ⟨a, b, c⟩ := listF_fine hone n _ _ _ _ _ hq hdq h
        exact ⟨a, b, by omega⟩
      split at h
      · obtain ⟨a, b, c⟩ := listF_fine hone n _ _ _ _ _ hq hdq h
        exact ⟨a, b, by omega⟩
      · cases h
theorem oneF_fine : ∀ (d : Nat) (ts : List Tok) (t : Ft) (r : List Tok), oneF d ts = .ok (t, r) → Fine d ts t r
  | 0, _, _, _, h => by unfold oneF at h; cases h
  | d + 1, [], _, _, h => by unfold oneF at h; cases h
  | d + 1, w :: q, t, r, h => by
    unfold oneF at h
    split at h
    · injection h with h; injection h with h h5; subst h; subst h5
      exact ⟨trivial, by simp [dep], by simp [cnt]⟩
    split at h
    · split at h
      · cases h
      · rename_i t' r' ho
        injection h with h; injection h with h h5; subst h; subst h5
        obtain ⟨a, b, c⟩ := oneF_fine d _ _ _ ho
        exact ⟨a, by simp only [dep]; omega, by simp only [cnt, List.length_cons]; omega⟩
    split at h
    · obtain ⟨a, b, c⟩ := listF_fine (oneF_fine d) _ _ _ _ _ _ (by exact trivial) (by simp [depL]) h
      simp only [cntL] at c
      exact ⟨a, b, by simp only [List.length_cons]; omega⟩
    split at h
    · rename_i f hf
      obtain ⟨a, b, c, e⟩ := testF_fine (field_lt hf).1 h
      exact ⟨a, by omega, by simp only [List.length_cons]; omega⟩
    · cases h
mutual
def meantF (x : Nat → Int) : Ft → Bool
  | .tst f lo hi b => if b then bits .and .i64 (x f) lo == lo else decide (lo ≤ x f) && decide (x f ≤ hi)
  | .any => true
  | .not t => !meantF x t
  | .sev l a => meantL x a l
def meantL (x : Nat → Int) (a : Bool) : List Ft → Bool
  | [] => !a
  | t :: r => if meantF x t = a then a else meantL x a r
end
mutual
def textF : Ft → List UInt8
  | .tst f lo hi b => (nm f ++ [32]) ++ if b then [104, 97, 115, 32] ++ itoa lo else if lo = hi then itoa lo else itoa lo ++ sDots ++ itoa hi
  | .any => sAny
  | .not t => [110, 111, 116, 32] ++ textF t
  | .sev l a => [40] ++ join (textL l) (if a then [32, 111, 114, 32] else [32, 97, 110, 100, 32]) ++ [41]
def textL : List Ft → List (List UInt8)
  | [] => []
  | t :: r => textF t :: textL r
end
mutual
def insF (b : Bool) : Ft → Ft
  | .tst f lo hi bt => if b then .not (.tst f lo hi bt) else .tst f lo hi bt
  | .any => if b then .not .any else .any
  | .not t => insF (!b) t
  | .sev l a => .sev (insL b l) (a != b)
def insL (b : Bool) : List Ft → List Ft
  | [] => []
  | t :: r => insF b t :: insL b r
end

mutual
theorem ins_meant (x : Nat → Int) (b : Bool) : ∀ t : Ft, meantF x (insF b t) = (meantF x t != b)
  | .tst f lo hi bt => by cases b <;> simp [insF, meantF]
  | .any => by cases b <;> simp [insF, meantF]
  | .not t => by
    simp only [insF, meantF]
    rw [ins_meant x (!b) t]
    cases meantF x t <;> cases b <;> rfl
  | .sev l a => by
    simp only [insF, meantF]
    exact ins_meantL x b a l
theorem ins_meantL (x : Nat → Int) (b a : Bool) : ∀ l : List Ft, meantL x (a != b) (insL b l) = (meantL x a l != b)
  | [] => by cases a <;> cases b <;> rfl
  | t :: r => by
    simp only [insL, meantL]
    rw [ins_meant x b t, ins_meantL x b a r]
    cases meantF x t <;> cases a <;> cases b <;> simp
end
mutual
theorem ins_ins (b : Bool) : ∀ t : Ft, insF false (insF b t) = insF b t
  | .tst f lo hi bt => by cases b <;> simp [insF]
  | .any => by cases b <;> simp [insF]
  | .not t => by simp only [insF]; exact ins_ins (!b) t
  | .sev l a => by simp only [insF]; rw [ins_insL b l]; simp
theorem ins_insL (b : Bool) : ∀ l : List Ft, insL false (insL b l) = insL b l
  | [] => rfl
  | t :: r => by simp only [insL]; rw [ins_ins b t, ins_insL b r]
end
theorem insL_ne {b : Bool} {l : List Ft} (h : l ≠ []) : insL b l ≠ [] := by
  cases l with
  | nil => exact absurd rfl h
  | cons t r => simp [insL]
mutual
theorem ins_ok (b : Bool) : ∀ t : Ft, okF t → okF (insF b t)
  | .tst f lo hi bt, h => by cases b <;> exact h
  | .any, _ => by cases b <;> exact trivial
  | .not t, h => by simp only [insF]; exact ins_ok (!b) t h
  | .sev l a, h => ⟨insL_ne h.1, ins_okL b l h.2⟩
theorem ins_okL (b : Bool) : ∀ l : List Ft, okL l → okL (insL b l)
  | [], _ => trivial
  | t :: r, h => ⟨ins_ok b t h.1, ins_okL b r h.2⟩
end
mutual
theorem ins_cnt (b : Bool) : ∀ t : Ft, cnt (insF b t) ≤ 2 * cnt t
  | .tst f lo hi bt => by cases b <;> simp [insF, cnt]
  | .any => by cases b <;> simp [insF, cnt]
  | .not t => by simp only [insF, cnt]; have := ins_cnt (!b) t; omega
  | .sev l a => by simp only [insF, cnt]; have := ins_cntL b l; omega
theorem ins_cntL (b : Bool) : ∀ l : List Ft, cntL (insL b l) ≤ 2 * cntL l
  | [] => by simp [insL, cntL]
  | t :: r => by simp only [insL, cntL]; have := ins_cnt b t; have := ins_cntL b r; omega
end
theorem insL_len (b : Bool) : ∀ l : List Ft, (insL b l).length = l.length
  | [] => rfl
  | t :: r => by simp [insL, insL_len b r]
theorem insL_get (b : Bool) : ∀ (l : List Ft) (i : Nat), (insL b l)[i]? = l[i]?.map (insF b)
  | [], i => by simp [insL]
  | t :: r, 0 => by simp [insL]
  | t :: r, i + 1 => by simp [insL, insL_get b r i]
theorem textL_len : ∀ l : List Ft, (textL l).length = l.length
  | [] => rfl
  | t :: r => by simp [textL, textL_len r]
theorem textL_get : ∀ (l : List Ft) (i : Nat), (textL l)[i]? = l[i]?.map textF
  | [], i => by simp [textL]
  | t :: r, 0 => by simp [textL]
  | t :: r, i + 1 => by simp [textL, textL_get r i]
theorem dec_len : ∀ (k u : Nat), u < 10 ^ k → (decDigits u).length ≤ k + 1 := by
  intro k
  induction k with
  | zero =>
    intro u hu
    obtain rfl : u = 0 := by omega
    rw [decDigits]
    simp
  | succ k ih =>
    intro u hu
    rw [decDigits]
    split
    · simp
    · have := ih (u / 10) (by rw [Nat.pow_succ] at hu; omega)
      simp
      omega
theorem itoa_len2 {n : Int} (h0 : 0 ≤ n) (h1 : n ≤ 1000000000) : (itoa n).length ≤ 11 := by
  obtain ⟨u, rfl⟩ := Int.eq_ofNat_of_zero_le h0
  rw [Bo.itoa_nat]
  have := dec_len 10 u (by omega)
  omega
theorem nm_len (f : Nat) : (nm f).length ≤ 4 := by
  unfold nm
  split <;> simp
theorem join_len (sep : List UInt8) : ∀ l : List (List UInt8), (join l sep).length ≤ (l.map (·.length + sep.length)).sum
  | [] => by simp [join]
  | [a] => by simp [join]
  | a :: b :: r => by
    have h := join_len sep (b :: r)
    have e : join (a :: b :: r) sep = a ++ (sep ++ join (b :: r) sep) := by simp [join]
    rw [e]
    simp only [List.length_append, List.map_cons, List.sum_cons] at h ⊢
    omega
mutual
theorem text_len : ∀ t : Ft, okF t → (textF t).length + 5 ≤ 50 * cnt t
  | .tst f lo hi b, h => by
    obtain ⟨_, h0, h1, h2, _⟩ := h
    have a := nm_len f
    have b1 := itoa_len2 h0 (by omega : lo ≤ 1000000000)
    have b2 := itoa_len2 (by omega : 0 ≤ hi) h2
    simp only [textF, cnt, sDots]
    split
    · simp; omega
    · split
      · simp; omega
      · simp; omega
  | .any, _ => by simp [textF, sAny, cnt]
  | .not t, h => by
    have := text_len t h
    simp only [textF, cnt, List.length_append, List.length_cons, List.length_nil]
    omega
  | .sev l a, h => by
    have := text_lenL l h.2
    simp only [textF, cnt, List.length_append, List.length_cons, List.length_nil]
    have hj := join_len (if a then [32, 111, 114, 32] else [32, 97, 110, 100, 32]) (textL l)
    have hs : (if a then ([32, 111, 114, 32] : List UInt8) else [32, 97, 110, 100, 32]).length ≤ 5 := by split <;> simp
    generalize (if a then ([32, 111, 114, 32] : List UInt8) else [32, 97, 110, 100, 32]) = sp at *
    have hm : ((textL l).map (·.length + sp.length)).sum ≤ ((textL l).map (·.length + 5)).sum := by
      generalize textL l = q
      clear hj this
      induction q with
      | nil => simp
      | cons y r ih => simp only [List.map_cons, List.sum_cons]; omega
    omega
theorem text_lenL : ∀ l : List Ft, okL l → ((textL l).map (·.length + 5)).sum ≤ 50 * cntL l
  | [], _ => by simp [textL, cntL]
  | t :: r, h => by
    have a := text_len t h.1
    have b := text_lenL r h.2
    simp only [textL, List.map_cons, List.sum_cons, cntL]
    omega
end
end Fl
end Go.Proofs.YtdipehgijjkfdaaDoor
