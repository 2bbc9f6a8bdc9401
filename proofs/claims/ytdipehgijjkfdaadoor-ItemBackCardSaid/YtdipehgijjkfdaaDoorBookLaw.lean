/-
  Plain law of the book: its lines, how they are read again, that a byte that turned is seen.
-/
import Derived.Lib.ItoaNum
import Derived.Lib.AtoiAll
import Derived.Lib.Bytealg
import Derived.Lib.Split
import Derived.Lib.IndexBytes
import Derived.Lib.SplitLaws
namespace Go.Proofs.YtdipehgijjkfdaaDoor
open Go.Lib
namespace Bo
set_option linter.unusedVariables false

/-! numerals -/
theorem parse_app : ∀ (l : List UInt8) (a v : Nat) (r : List UInt8), parseUint10 a l = .ok v → parseUint10 a (l ++ r) = parseUint10 v r
  | [], a, v, r, h => by simp only [parseUint10] at h; injection h with h; subst h; rfl
  | c :: l, a, v, r, h => by
    simp only [parseUint10, List.cons_append] at h ⊢
    split at h
    · rename_i h1
      split at h
      · cases h
      · rename_i h2
        split at h
        · cases h
        · rename_i h3
          rw [if_pos h1, if_neg h2, if_neg h3]
          exact parse_app l _ v r h
    · cases h
theorem ofNat_toNat {n : Nat} (h : n < 256) : (UInt8.ofNat n).toNat = n := by
  rw [UInt8.toNat_ofNat']
  exact Nat.mod_eq_of_lt h
theorem parse_dec (u : Nat) (h : u < 1000000000000000000) : parseUint10 0 (decDigits u) = .ok u := by
  induction u using Nat.strongRecOn with
  | _ u ih =>
    by_cases h1 : u < 10
    · rw [decDigits, dif_pos h1]
      have e : (UInt8.ofNat (48 + u)).toNat = 48 + u := ofNat_toNat (by omega)
      simp only [parseUint10, e]
      rw [if_pos (by omega), if_neg (by omega), if_neg (by omega)]
      congr 1; omega
    · rw [decDigits, dif_neg h1, parse_app _ _ _ _ (ih (u / 10) (by omega) (by omega))]
      have e : (UInt8.ofNat (48 + u % 10)).toNat = 48 + u % 10 := ofNat_toNat (by omega)
      simp only [parseUint10, e]
      rw [if_pos (by omega), if_neg (by omega), if_neg (by omega)]
      congr 1; omega
theorem dec_digit (u : Nat) : ∀ c ∈ decDigits u, 48 ≤ c.toNat ∧ c.toNat ≤ 57 := by
  induction u using Nat.strongRecOn with
  | _ u ih =>
    intro c hc
    by_cases h1 : u < 10
    · rw [decDigits, dif_pos h1, List.mem_singleton] at hc
      rw [hc, ofNat_toNat (by omega)]; omega
    · rw [decDigits, dif_neg h1, List.mem_append, List.mem_singleton] at hc
      rcases hc with hc | hc
      · exact ih (u / 10) (by omega) c hc
      · rw [hc, ofNat_toNat (by omega)]; omega
theorem dec_ne (u : Nat) : decDigits u ≠ [] := by
  rw [decDigits]
  split <;> simp
theorem dec_inj {u v : Nat} (hu : u < 1000000000000000000) (hv : v < 1000000000000000000) (h : decDigits u = decDigits v) : u = v := by
  have h1 := parse_dec u hu
  rw [h, parse_dec v hv] at h1
  injection h1 with h1
  exact h1.symm
theorem itoa_nat (u : Nat) : itoa (u : Int) = decDigits u := by unfold itoa; rw [if_neg (by omega)]; simp
theorem atoi_dec (u : Nat) (h : u < 1000000000000000000) : atoiAll (decDigits u) = .ok (u : Int) := by
  cases hd : decDigits u with
  | nil => exact absurd hd (dec_ne u)
  | cons c r =>
    have hc := dec_digit u c (by rw [hd]; simp)
    unfold atoiAll
    dsimp only
    rw [if_neg (by omega), ← hd]
    have e : parseMag (decDigits u) = .ok u := by unfold parseMag; rw [if_neg (dec_ne u), parse_dec u h]
    rw [e]
    dsimp only
    rw [if_neg (by omega), if_neg (by omega), if_neg (by omega)]

/-! lines -/
structure Ln where
  name : List UInt8
  n : Int
def hash : Nat → List UInt8 → Nat
  | c, [] => c
  | c, x :: r => hash ((37 * c + x.toNat) % 9901) r
def bodyF (k : Nat) (x : Ln) : List UInt8 := itoa k ++ 32 :: (x.name ++ 32 :: itoa x.n)
def lineF (k : Nat) (x : Ln) : List UInt8 := bodyF k x ++ 32 :: (itoa (hash 11 (bodyF k x) : Nat) ++ [10])
def nset : List UInt8 := "abcdefghijklmnopqrstuvwxyz0123456789-".toUTF8.data.toList
def nameB (s : List UInt8) : Bool := decide (s ≠ []) && decide (s.length ≤ 12) && s.all (nset.contains ·)
def addOk (i : Nat) (x : Ln) : Bool := nameB x.name && decide (1 ≤ x.n ∧ x.n ≤ 1000000) && decide (i ≠ 500)
def dataF : Nat → List Ln → List UInt8
  | _, [] => []
  | i, x :: r => lineF i x ++ dataF (i + 1) r
def readL (i : Nat) (rest : List UInt8) : Option Ln :=
  if indexByte rest 10 < 0 then none else
  match split (rest.take (indexByte rest 10).toNat) [32] with
  | [_, w1, w2, _] => match atoiAll w2 with
    | .ok n => if lineF i ⟨w1, n⟩ = rest.take ((indexByte rest 10).toNat + 1) ∧ addOk i ⟨w1, n⟩ = true then some ⟨w1, n⟩ else none
    | _ => none
  | _ => none
def openL : Nat → Nat → List UInt8 → List Ln
  | 0, _, _ => []
  | f + 1, i, rest => match readL i rest with
    | none => []
    | some x => x :: openL f (i + 1) (rest.drop (lineF i x).length)

theorem hash_app : ∀ (a : List UInt8) (c : Nat) (b : List UInt8), hash c (a ++ b) = hash (hash c a) b
  | [], _, _ => rfl
  | x :: a, c, b => hash_app a _ b
theorem hash_lt : ∀ (a : List UInt8) (c : Nat), c < 9901 → hash c a < 9901
  | [], _, h => h
  | x :: a, c, h => hash_lt a _ (Nat.mod_lt _ (by decide))
theorem hash_ne : ∀ (a : List UInt8) (c d : Nat), c < 9901 → d < 9901 → c ≠ d → hash c a ≠ hash d a
  | [], _, _, _, _, h => h
  | x :: a, c, d, hc, hd, h => hash_ne a _ _ (Nat.mod_lt _ (by decide)) (Nat.mod_lt _ (by decide)) (by have := x.toNat_lt; omega)
theorem hash_set {l : List UInt8} {o : Nat} {t : UInt8} (ho : o < l.length) (ht : l[o]? ≠ some t) : hash 11 (l.set o t) ≠ hash 11 l := by
  obtain ⟨a, e⟩ : ∃ a, l[o]? = some a := ⟨l[o], List.getElem?_eq_getElem ho⟩
  rw [e] at ht
  have hl : l = l.take o ++ a :: l.drop (o + 1) := by
    have h1 := List.drop_eq_getElem_cons ho
    have h2 : l[o] = a := by rw [List.getElem?_eq_getElem ho] at e; exact Option.some.inj e
    rw [h2] at h1
    rw [← h1, List.take_append_drop]
  have hs : l.set o t = l.take o ++ t :: l.drop (o + 1) := by
    rw [List.set_eq_take_append_cons_drop, if_pos ho]
  rw [hs]
  conv => rhs; rw [hl]
  rw [hash_app, hash_app]
  have hc := hash_lt (l.take o) 11 (by decide)
  refine hash_ne _ _ _ (Nat.mod_lt _ (by decide)) (Nat.mod_lt _ (by decide)) ?_
  have h1 := a.toNat_lt; have h2 := t.toNat_lt
  have h3 : a.toNat ≠ t.toNat := fun e => ht (by rw [UInt8.toNat_inj.1 e])
  omega

/-- what has neither blank nor line's end -/
def Pure (l : List UInt8) : Prop := 32 ∉ l ∧ 10 ∉ l
theorem pure_dec (u : Nat) : Pure (decDigits u) := ⟨fun h => by have := dec_digit u _ h; simp at this, fun h => by have := dec_digit u _ h; simp at this⟩
theorem pure_itoa {n : Int} (h : 0 ≤ n) : Pure (itoa n) := by
  obtain ⟨u, rfl⟩ := Int.eq_ofNat_of_zero_le h
  rw [itoa_nat]; exact pure_dec u
theorem nset_pure : Pure nset := ⟨by decide +kernel, by decide +kernel⟩
theorem nameB_pure {s : List UInt8} (h : nameB s = true) : Pure s := by
  unfold nameB at h
  simp only [Bool.and_eq_true, List.all_eq_true] at h
  have h2 := h.2
  exact ⟨fun hc => nset_pure.1 (by simpa using h2 _ hc), fun hc => nset_pure.2 (by simpa using h2 _ hc)⟩
structure LnOk (i : Nat) (x : Ln) : Prop where
  nm : Pure x.name
  n0 : 1 ≤ x.n
  n1 : x.n ≤ 1000000
theorem addOk_ln {i : Nat} {x : Ln} (h : addOk i x = true) : LnOk i x := by
  unfold addOk at h
  simp only [Bool.and_eq_true, decide_eq_true_eq] at h
  exact ⟨nameB_pure h.1.1, h.1.2.1, h.1.2.2⟩
theorem count_pure {l : List UInt8} (h : Pure l) : l.count 32 = 0 := List.count_eq_zero.2 h.1
theorem body_count {i : Nat} {x : Ln} (h : LnOk i x) : (bodyF i x).count 32 = 2 := by
  have h0 := h.n0
  unfold bodyF
  rw [List.count_append, List.count_cons, List.count_append, List.count_cons, count_pure (pure_itoa (by omega)), count_pure h.nm, count_pure (pure_itoa (by omega))]
  rfl
theorem body_no10 {i : Nat} {x : Ln} (h : LnOk i x) : 10 ∉ bodyF i x := by
  have h0 := h.n0
  unfold bodyF
  intro hc
  simp only [List.mem_append, List.mem_cons] at hc
  rcases hc with hc | hc | hc | hc | hc
  · exact (pure_itoa (n := (i : Int)) (by omega)).2 hc
  · exact absurd hc (by decide)
  · exact h.nm.2 hc
  · exact absurd hc (by decide)
  · exact (pure_itoa (n := x.n) (by omega)).2 hc
/-- one way to cut at so many blanks -/
theorem cut_unique : ∀ {P P' Q Q' : List UInt8}, P ++ 32 :: Q = P' ++ 32 :: Q' → P.count 32 = P'.count 32 → P = P' ∧ Q = Q'
  | [], [], Q, Q', h, _ => ⟨rfl, by simpa using h⟩
  | [], y :: P', Q, Q', h, hc => by
    simp only [List.nil_append, List.cons_append, List.cons.injEq] at h
    rw [← h.1] at hc
    simp at hc
  | x :: P, [], Q, Q', h, hc => by
    simp only [List.nil_append, List.cons_append, List.cons.injEq] at h
    rw [h.1] at hc
    simp at hc
  | x :: P, y :: P', Q, Q', h, hc => by
    simp only [List.cons_append, List.cons.injEq] at h
    obtain ⟨h1, h2⟩ := h
    subst h1
    rw [List.count_cons, List.count_cons] at hc
    obtain ⟨a, b⟩ := cut_unique h2 (by omega)
    exact ⟨by rw [a], b⟩
theorem index_no {l : List UInt8} {c : UInt8} (h : c ∉ l) : indexByte l c = -1 := by
  induction l with
  | nil => rfl
  | cons b l ih =>
    have hb : ¬ (b == c) = true := fun e => h (by rw [beq_iff_eq] at e; rw [e]; simp)
    have hl := ih (fun e => h (List.mem_cons_of_mem _ e))
    rw [indexByte, if_neg hb, hl]
    rfl
theorem index_at {l : List UInt8} {c : UInt8} (h : c ∉ l) (r : List UInt8) : indexByte (l ++ c :: r) c = l.length := by
  induction l with
  | nil => simp [indexByte]
  | cons b l ih =>
    have hb : ¬ (b == c) = true := fun e => h (by rw [beq_iff_eq] at e; rw [e]; simp)
    have hl := ih (fun e => h (List.mem_cons_of_mem _ e))
    rw [List.cons_append, indexByte, if_neg hb, hl, if_neg (by rw [beq_iff_eq]; omega)]
    simp
theorem index_ways (l : List UInt8) : indexByte l 10 = -1 ∧ 10 ∉ l ∨ ∃ a r, l = a ++ 10 :: r ∧ 10 ∉ a ∧ indexByte l 10 = a.length := by
  by_cases h : 10 ∈ l
  · right
    obtain ⟨a, r, e, hn⟩ := List.append_of_mem h |> fun ⟨s, t, e⟩ => (List.eq_append_cons_of_mem h)
    exact ⟨a, r, e, hn, by rw [e]; exact index_at hn r⟩
  · exact .inl ⟨index_no h, h⟩
theorem split_last {a : List UInt8} (h : 32 ∉ a) : split a [32] = [a] := by
  unfold split
  rw [count_one, List.count_eq_zero.2 h]; rfl
theorem split_app {a : List UInt8} (h : 32 ∉ a) (r : List UInt8) : split (a ++ 32 :: r) [32] = a :: split r [32] := by
  unfold split
  rw [count_one, count_one, List.count_append, List.count_eq_zero.2 h, List.count_cons, Nat.zero_add]
  simp only [beq_self_eq_true, if_true]
  rw [splitK, index_one, index_at h, if_neg (by rw [beq_iff_eq]; omega)]
  simp
theorem split_body {i : Nat} {x : Ln} (h : LnOk i x) : split (bodyF i x ++ 32 :: itoa (hash 11 (bodyF i x) : Nat)) [32] = [itoa i, x.name, itoa x.n, itoa (hash 11 (bodyF i x) : Nat)] := by
  have h0 := h.n0
  generalize hash 11 (bodyF i x) = c
  unfold bodyF
  have e : itoa (i : Nat) ++ 32 :: (x.name ++ 32 :: itoa x.n) ++ 32 :: itoa (c : Int) = itoa (i : Nat) ++ 32 :: (x.name ++ 32 :: (itoa x.n ++ 32 :: itoa (c : Int))) := by simp
  rw [e, split_app (pure_itoa (by omega)).1, split_app h.nm.1, split_app (pure_itoa (by omega)).1, split_last (pure_itoa (by omega)).1]
theorem line_cut {i : Nat} {x : Ln} (h : LnOk i x) : lineF i x = (bodyF i x ++ 32 :: itoa (hash 11 (bodyF i x) : Nat)) ++ [10] ∧ 10 ∉ bodyF i x ++ 32 :: itoa (hash 11 (bodyF i x) : Nat) := by
  refine ⟨by unfold lineF; simp, fun hc => ?_⟩
  simp only [List.mem_append, List.mem_cons] at hc
  rcases hc with hc | hc | hc
  · exact body_no10 h hc
  · exact absurd hc (by decide)
  · exact (pure_itoa (n := ((hash 11 (bodyF i x) : Nat) : Int)) (by omega)).2 hc
/-- a line is read -/
theorem read_line {i : Nat} {x : Ln} (h : addOk i x = true) (t : List UInt8) : readL i (lineF i x ++ t) = some x := by
  have hl := addOk_ln h
  obtain ⟨e1, e2⟩ := line_cut hl
  have e3 : lineF i x ++ t = (bodyF i x ++ 32 :: itoa (hash 11 (bodyF i x) : Nat)) ++ 10 :: t := by rw [e1]; simp
  have e4 := index_at e2 t
  rw [← e3] at e4
  have h0 := hl.n0; have h1 := hl.n1
  obtain ⟨u, hu⟩ := Int.eq_ofNat_of_zero_le (show 0 ≤ x.n by omega)
  have e5 : atoiAll (itoa x.n) = .ok x.n := by rw [hu]; rw [itoa_nat]; exact atoi_dec u (by omega)
  unfold readL
  rw [e4, if_neg (by omega)]
  have e6 : (lineF i x ++ t).take ((bodyF i x ++ 32 :: itoa (hash 11 (bodyF i x) : Nat)).length : Int).toNat = bodyF i x ++ 32 :: itoa (hash 11 (bodyF i x) : Nat) := by
    rw [Int.toNat_natCast, e3, List.take_left']; rfl
  have e7 : (lineF i x ++ t).take (((bodyF i x ++ 32 :: itoa (hash 11 (bodyF i x) : Nat)).length : Int).toNat + 1) = lineF i x := by
    rw [Int.toNat_natCast, List.take_left']
    rw [e1]; simp; omega
  rw [e6, e7, split_body hl]
  dsimp only
  rw [e5]
  dsimp only
  rw [if_pos ⟨rfl, h⟩]
theorem read_none {i : Nat} {t : List UInt8} (h : 10 ∉ t) : readL i t = none := by
  unfold readL
  rw [index_no h, if_pos (by decide)]
/-- what is read is a line that stands there -/
theorem read_some {i : Nat} {t : List UInt8} {x : Ln} (h : readL i t = some x) : addOk i x = true ∧ ∃ r, t = lineF i x ++ r := by
  unfold readL at h
  split at h
  · cases h
  · split at h
    · split at h
      · split at h
        · rename_i hc
          injection h with h
          subst h
          refine ⟨hc.2, t.drop ((indexByte t 10).toNat + 1), ?_⟩
          rw [hc.1, List.take_append_drop]
        · cases h
      · cases h
    · cases h

/-- all lines may be -/
def AllOk : Nat → List Ln → Prop
  | _, [] => True
  | i, x :: r => addOk i x = true ∧ AllOk (i + 1) r
theorem open_data : ∀ (xs : List Ln) (i f : Nat) (t : List UInt8), AllOk i xs → 10 ∉ t → xs.length < f → openL f i (dataF i xs ++ t) = xs
  | [], i, f + 1, t, _, ht, _ => by rw [dataF, List.nil_append, openL, read_none ht]
  | x :: xs, i, f + 1, t, h, ht, hf => by
    rw [dataF, List.append_assoc, openL, read_line h.1]
    dsimp only
    rw [List.drop_left', open_data xs (i + 1) f t h.2 ht (by simp at hf; omega)]
    rfl
theorem data_app : ∀ (xs : List Ln) (i : Nat) (ys : List Ln), dataF i (xs ++ ys) = dataF i xs ++ dataF (i + xs.length) ys
  | [], i, ys => by simp [dataF]
  | x :: xs, i, ys => by rw [List.cons_append, dataF, dataF, data_app xs (i + 1) ys, List.append_assoc, List.length_cons]; congr 3; omega
theorem data_snoc (xs : List Ln) (x : Ln) : dataF 0 (xs ++ [x]) = dataF 0 xs ++ lineF xs.length x := by
  rw [data_app, Nat.zero_add]; simp [dataF]
theorem AllOk.app : ∀ {xs : List Ln} {i : Nat} {ys : List Ln}, AllOk i (xs ++ ys) → AllOk i xs ∧ AllOk (i + xs.length) ys
  | [], i, ys, h => ⟨trivial, h⟩
  | x :: xs, i, ys, h => by
    obtain ⟨h1, h2⟩ := AllOk.app h.2
    refine ⟨⟨h.1, h1⟩, ?_⟩
    rw [List.length_cons, show i + (xs.length + 1) = i + 1 + xs.length by omega]; exact h2
theorem AllOk.snoc : ∀ {xs : List Ln} {i : Nat} {x : Ln}, AllOk i xs → addOk (i + xs.length) x = true → AllOk i (xs ++ [x])
  | [], i, x, _, h => ⟨h, trivial⟩
  | y :: xs, i, x, h, hx => ⟨h.1, AllOk.snoc h.2 (by rw [List.length_cons] at hx; rw [show i + 1 + xs.length = i + (xs.length + 1) by omega]; exact hx)⟩
/-- a beginning: whole lines, and what has no line's end -/
theorem data_take : ∀ (xs : List Ln) (i p : Nat), AllOk i xs → p ≤ (dataF i xs).length → ∃ j t, j ≤ xs.length ∧ (dataF i xs).take p = dataF i (xs.take j) ++ t ∧ 10 ∉ t ∧ ∀ s, s ≤ xs.length → (dataF i (xs.take s)).length ≤ p → s ≤ j
  | [], i, p, _, h => ⟨0, [], Nat.le_refl _, by simp [dataF], by simp, fun s hs _ => hs⟩
  | x :: xs, i, p, hok, h => by
    obtain ⟨e1, e2⟩ := line_cut (addOk_ln hok.1)
    by_cases hp : (lineF i x).length ≤ p
    · have hlen : (dataF i (x :: xs)).length = (lineF i x).length + (dataF (i + 1) xs).length := by rw [dataF]; simp
      obtain ⟨j, t, h1, h2, h3, h4⟩ := data_take xs (i + 1) (p - (lineF i x).length) hok.2 (by omega)
      refine ⟨j + 1, t, by simp; omega, ?_, h3, fun s hs hps => ?_⟩
      · rw [dataF, List.take_append, List.take_of_length_le hp, h2, List.take_succ_cons, dataF, List.append_assoc]
      · cases s with
        | zero => omega
        | succ s =>
          rw [List.take_succ_cons, dataF, List.length_append] at hps
          have := h4 s (by simp at hs; omega) (by omega)
          omega
    · refine ⟨0, (lineF i x).take p, by omega, ?_, ?_, fun s hs hps => ?_⟩
      · rw [dataF, List.take_append_of_le_length (by omega)]; simp [dataF]
      · intro hc
        rw [e1, List.take_append_of_le_length (by rw [e1] at hp; simp at hp ⊢; omega)] at hc
        exact e2 (List.mem_of_mem_take hc)
      · cases s with
        | zero => omega
        | succ s =>
          rw [List.take_succ_cons, dataF, List.length_append] at hps
          omega
theorem count_line {i : Nat} {x : Ln} (h : LnOk i x) : (lineF i x).count 32 = 3 ∧ (lineF i x).count 10 = 1 := by
  have hp := pure_itoa (n := ((hash 11 (bodyF i x) : Nat) : Int)) (by omega)
  have hb := List.count_eq_zero.2 (body_no10 h)
  unfold lineF
  rw [List.count_append, List.count_append, List.count_cons, List.count_cons, List.count_append, List.count_append, body_count h, count_pure hp, hb, List.count_eq_zero.2 hp.2]
  exact ⟨rfl, rfl⟩
theorem set_count {l : List UInt8} {o : Nat} {t c : UInt8} (h : o < l.length) : (l.set o t).count c + (if l[o]? = some c then 1 else 0) = l.count c + if t = c then 1 else 0 := by
  have e1 : l[o]? = some l[o] := List.getElem?_eq_getElem h
  have h1 := List.drop_eq_getElem_cons h
  have hs : l.set o t = l.take o ++ t :: l.drop (o + 1) := by rw [List.set_eq_take_append_cons_drop, if_pos h]
  have hl : l = l.take o ++ l[o] :: l.drop (o + 1) := by rw [← h1, List.take_append_drop]
  rw [e1, hs]
  conv => rhs; rw [hl]
  rw [List.count_append, List.count_append, List.count_cons, List.count_cons]
  generalize l[o] = a at *
  have e2 : (some a = some c) = (a = c) := by simp
  simp only [e2, beq_iff_eq]
  omega
/-- two beginnings up to the first line's end are one -/
theorem first_line {a b r s : List UInt8} (ha : 10 ∉ a) (hb : 10 ∉ b) (h : a ++ 10 :: r = b ++ 10 :: s) : a = b := by
  have h1 := index_at ha r
  rw [h, index_at hb s] at h1
  exact List.append_inj_left h (by omega)
/-- a line with one byte turned is not read -/
theorem read_turned {i : Nat} {x : Ln} (hx : addOk i x = true) (R : List UInt8) {o : Nat} {t : UInt8} (ho : o < (lineF i x).length) (ht : (lineF i x)[o]? ≠ some t) : readL i ((lineF i x).set o t ++ R) = none := by
  cases hr : readL i ((lineF i x).set o t ++ R) with
  | none => rfl
  | some y =>
    exfalso
    have hl := addOk_ln hx
    obtain ⟨hy, r, hr⟩ := read_some hr
    have hly := addOk_ln hy
    obtain ⟨e1, e2⟩ := line_cut hl
    obtain ⟨y1, y2⟩ := line_cut hly
    obtain ⟨c1, c2⟩ := count_line hl
    obtain ⟨d1, d2⟩ := count_line hly
    have hB := body_count hl
    have hBy := body_count hly
    have hp := pure_itoa (n := ((hash 11 (bodyF i x) : Nat) : Int)) (by omega)
    have hy32 := (pure_itoa (n := ((hash 11 (bodyF i y) : Nat) : Int)) (by omega))
    have hlt1 := hash_lt (bodyF i x) 11 (by decide)
    have hlt2 := hash_lt (bodyF i y) 11 (by decide)
    have hsame : hash 11 (bodyF i y) = hash 11 (bodyF i x) → ∀ z, itoa (hash 11 (bodyF i y) : Nat) = z → z = itoa (hash 11 (bodyF i x) : Nat) := fun e z hz => by rw [← hz, e]
    have hinj : itoa (hash 11 (bodyF i y) : Nat) = itoa (hash 11 (bodyF i x) : Nat) → hash 11 (bodyF i y) = hash 11 (bodyF i x) := fun e => by
      rw [itoa_nat, itoa_nat] at e; exact dec_inj (by omega) (by omega) e
    have hset := hash_set (l := bodyF i x) (o := o) (t := t)
    have hLx : lineF i x = bodyF i x ++ 32 :: (itoa (hash 11 (bodyF i x) : Nat) ++ [10]) := rfl
    have hLy : lineF i y = bodyF i y ++ 32 :: (itoa (hash 11 (bodyF i y) : Nat) ++ [10]) := rfl
    generalize hCx : itoa (hash 11 (bodyF i x) : Nat) = C at *
    generalize hCy : itoa (hash 11 (bodyF i y) : Nat) = D at *
    generalize lineF i x = L at *
    generalize lineF i y = Y at *
    have hbody : bodyF i y = bodyF i x → D = C := fun e => by rw [← hCx, ← hCy, e]
    generalize bodyF i x = B at *
    generalize bodyF i y = E at *
    have hLlen : L.length = B.length + C.length + 2 := by rw [hLx]; simp; omega
    have hYe : Y = (E ++ 32 :: D) ++ [10] := y1
    have key : ∀ Q, Y = B ++ 32 :: Q → D ++ [10] = Q ∧ E = B := fun Q hQ => by
      obtain ⟨a, b⟩ := cut_unique (hLy.symm.trans hQ) (by rw [hB, hBy])
      exact ⟨b, a⟩
    by_cases ho1 : o = B.length + C.length + 1
    · -- the line's end
      have hL' : L.set o t = (B ++ 32 :: C) ++ [t] := by
        rw [e1, List.set_append_right _ _ (by simp; omega), show o - (B ++ 32 :: C).length = 0 by simp; omega]; rfl
      have ht10 : t ≠ 10 := fun e => ht (by rw [e1, List.getElem?_append_right (by simp; omega), show o - (B ++ 32 :: C).length = 0 by simp; omega, e]; rfl)
      rw [hL'] at hr
      -- Y begins as that
      have h2 : Y ++ r = (B ++ 32 :: C) ++ t :: R := by rw [← hr]; simp
      rw [hYe] at h2
      have hlen : (B ++ 32 :: C).length < (E ++ 32 :: D).length + 1 := by
        rcases Nat.lt_or_ge (B ++ 32 :: C).length ((E ++ 32 :: D).length + 1) with h | h
        · exact h
        · exfalso
          have h3 : 10 ∈ ((B ++ 32 :: C) ++ t :: R).take ((E ++ 32 :: D).length + 1) := by
            rw [← h2, List.take_left' (by simp; omega)]; simp
          rw [List.take_append_of_le_length h] at h3
          exact e2 (List.mem_of_mem_take h3)
      obtain ⟨Z, hZ⟩ : ∃ Z, Y = (B ++ 32 :: C) ++ t :: Z := by
        have h4 : (B ++ 32 :: C ++ [t]).length ≤ Y.length := by rw [hYe]; simp at hlen ⊢; omega
        have h5 : Y.take (B ++ 32 :: C ++ [t]).length = B ++ 32 :: C ++ [t] := by
          have h6 : (Y ++ r).take (B ++ 32 :: C ++ [t]).length = B ++ 32 :: C ++ [t] := by
            rw [hYe, h2, show B ++ 32 :: C ++ t :: R = (B ++ 32 :: C ++ [t]) ++ R by simp, List.take_left' rfl]
          rwa [List.take_append_of_le_length h4] at h6
        refine ⟨Y.drop (B ++ 32 :: C ++ [t]).length, ?_⟩
        have := List.take_append_drop (B ++ 32 :: C ++ [t]).length Y
        rw [h5] at this
        rw [← this]; simp
      obtain ⟨k1, k2⟩ := key (C ++ t :: Z) (by rw [hZ]; simp)
      rw [hbody k2] at k1
      have := List.append_cancel_left k1
      simp at this
      exact ht10 this.1.symm
    · by_cases ht10 : t = 10
      · -- a line's end too early
        subst ht10
        have hL' : L.set o 10 = L.take o ++ 10 :: L.drop (o + 1) := by rw [List.set_eq_take_append_cons_drop, if_pos ho]
        have hno : 10 ∉ L.take o := fun hc => by
          rw [e1, List.take_append_of_le_length (by simp; omega)] at hc
          exact e2 (List.mem_of_mem_take hc)
        have h2 : L.take o ++ 10 :: (L.drop (o + 1) ++ R) = (E ++ 32 :: D) ++ 10 :: r := by
          rw [hL', hYe] at hr
          simpa using hr
        have h3 := first_line hno y2 h2
        have hc3 : (L.take o).count 32 = 3 := by
          rw [h3, List.count_append, List.count_cons, hBy, List.count_eq_zero.2 hy32.1]; rfl
        have hgt : B.length < o := by
          rcases Nat.lt_or_ge B.length o with h | h
          · exact h
          · exfalso
            rw [hLx, List.take_append_of_le_length h] at hc3
            have := (List.take_sublist o B).count_le 32
            omega
        have h4 : L.take o = B ++ 32 :: C.take (o - B.length - 1) := by
          rw [hLx, List.take_append, List.take_of_length_le (by omega), show o - B.length = (o - B.length - 1) + 1 by omega, List.take_succ_cons, List.take_append_of_le_length (by omega)]
          simp
        rw [h4] at h3
        obtain ⟨k1, k2⟩ := cut_unique h3 (by rw [hB, hBy])
        rw [hbody k1.symm] at k2
        have := congrArg List.length k2
        simp at this
        omega
      · -- another byte in the line
        have hL' : L.set o t = ((B ++ 32 :: C).set o t) ++ [10] := by rw [e1, List.set_append_left _ _ (by simp; omega)]
        have hno : 10 ∉ (B ++ 32 :: C).set o t := fun hc => by
          rcases List.mem_or_eq_of_mem_set hc with h | h
          · exact e2 h
          · exact ht10 h.symm
        have h2 : ((B ++ 32 :: C).set o t) ++ 10 :: R = (E ++ 32 :: D) ++ 10 :: r := by
          rw [hL', hYe] at hr
          simpa using hr
        have h3 := first_line hno y2 h2
        rcases Nat.lt_trichotomy o B.length with h | h | h
        · rw [List.set_append_left _ _ h] at h3
          have hc := congrArg (List.count 32) h3
          rw [List.count_append, List.count_append, List.count_cons, List.count_cons, List.count_eq_zero.2 hp.1, List.count_eq_zero.2 hy32.1] at hc
          obtain ⟨k1, k2⟩ := cut_unique h3 (by omega)
          refine hset h (fun e => ht (by rw [hLx, List.getElem?_append_left h]; exact e)) ?_
          rw [k1]
          exact hinj k2.symm
        · have hne : t ≠ 32 := fun e => ht (by rw [hLx, h, List.getElem?_append_right (Nat.le_refl _), Nat.sub_self, e]; rfl)
          have hc := congrArg (List.count 32) h3
          rw [List.set_append_right _ _ (by omega), show o - B.length = 0 by omega, List.set_cons_zero, List.count_append, List.count_append, List.count_cons, List.count_cons, List.count_eq_zero.2 hp.1, List.count_eq_zero.2 hy32.1, hB, hBy] at hc
          simp [hne] at hc
        · rw [List.set_append_right _ _ (by omega), show o - B.length = (o - B.length - 1) + 1 by omega, List.set_cons_succ] at h3
          have hc := congrArg (List.count 32) h3
          obtain ⟨k1, k2⟩ := cut_unique h3 (by rw [hB, hBy])
          rw [hbody k1.symm] at k2
          have hlt : o - B.length - 1 < C.length := by omega
          have h5 : (C.set (o - B.length - 1) t)[o - B.length - 1]? = some t := by rw [List.getElem?_set_self hlt]
          rw [k2] at h5
          refine ht ?_
          rw [hLx, List.getElem?_append_right (by omega), show o - B.length = (o - B.length - 1) + 1 by omega, List.getElem?_cons_succ, List.getElem?_append_left hlt]
          exact h5
/-- where a byte of the data stands: in which line -/
theorem data_at : ∀ (xs : List Ln) (i at_ : Nat), AllOk i xs → at_ < (dataF i xs).length → ∃ x o, xs[((dataF i xs).take at_).count 10]? = some x ∧ addOk (i + ((dataF i xs).take at_).count 10) x = true ∧
    o < (lineF (i + ((dataF i xs).take at_).count 10) x).length ∧ at_ = (dataF i (xs.take (((dataF i xs).take at_).count 10))).length + o ∧
    dataF i xs = dataF i (xs.take (((dataF i xs).take at_).count 10)) ++ (lineF (i + ((dataF i xs).take at_).count 10) x ++ dataF (i + ((dataF i xs).take at_).count 10 + 1) (xs.drop (((dataF i xs).take at_).count 10 + 1)))
  | [], i, at_, _, h => absurd h (by simp [dataF])
  | x :: xs, i, at_, hok, h => by
    obtain ⟨e1, e2⟩ := line_cut (addOk_ln hok.1)
    have hc10 := (count_line (addOk_ln hok.1)).2
    by_cases hp : (lineF i x).length ≤ at_
    · have hlen : (dataF i (x :: xs)).length = (lineF i x).length + (dataF (i + 1) xs).length := by rw [dataF]; simp
      obtain ⟨y, o, h1, h2, h3, h4, h5⟩ := data_at xs (i + 1) (at_ - (lineF i x).length) hok.2 (by omega)
      have hcnt : ((dataF i (x :: xs)).take at_).count 10 = ((dataF (i + 1) xs).take (at_ - (lineF i x).length)).count 10 + 1 := by
        rw [dataF, List.take_append, List.take_of_length_le hp, List.count_append, hc10]; omega
      rw [hcnt]
      generalize ((dataF (i + 1) xs).take (at_ - (lineF i x).length)).count 10 = n at *
      have hi : i + (n + 1) = i + 1 + n := by omega
      rw [hi]
      refine ⟨y, o, by rw [List.getElem?_cons_succ]; exact h1, h2, h3, ?_, ?_⟩
      · rw [List.take_succ_cons, dataF, List.length_append]; omega
      · rw [List.take_succ_cons, List.drop_succ_cons, dataF, dataF, List.append_assoc, ← h5]
    · have hcnt : ((dataF i (x :: xs)).take at_).count 10 = 0 := by
        rw [dataF, List.take_append_of_le_length (by omega), List.count_eq_zero]
        intro hc
        rw [e1, List.take_append_of_le_length (by rw [e1] at hp; simp at hp ⊢; omega)] at hc
        exact e2 (List.mem_of_mem_take hc)
      rw [hcnt]
      refine ⟨x, at_, rfl, hok.1, by rw [Nat.add_zero]; omega, by simp [dataF], by simp [dataF]⟩
theorem open_whole : ∀ (xs : List Ln) (i f : Nat) (t : List UInt8), AllOk i xs → readL (i + xs.length) t = none → xs.length < f → openL f i (dataF i xs ++ t) = xs
  | [], i, f + 1, t, _, ht, _ => by rw [dataF, List.nil_append, openL]; simp at ht; rw [ht]
  | x :: xs, i, f + 1, t, h, ht, hf => by
    rw [dataF, List.append_assoc, openL, read_line h.1]
    dsimp only
    rw [List.drop_left' rfl, open_whole xs (i + 1) f t h.2 (by rw [List.length_cons] at ht; rw [show i + 1 + xs.length = i + (xs.length + 1) by omega]; exact ht) (by simp at hf; omega)]
/-- ONE BYTE THAT TURNED IS SEEN -/
theorem bit_law {xs : List Ln} (h : AllOk 0 xs) {at_ : Nat} (ha : at_ < (dataF 0 xs).length) {t : UInt8} (ht : (dataF 0 xs)[at_]? ≠ some t) :
    ∃ j R, j = ((dataF 0 xs).take at_).count 10 ∧ j ≤ xs.length ∧ (dataF 0 xs).set at_ t = dataF 0 (xs.take j) ++ R ∧ readL j R = none ∧ AllOk 0 (xs.take j) ∧ (dataF 0 (xs.take j)).length ≤ at_ := by
  obtain ⟨x, o, h1, h2, h3, h4, h5⟩ := data_at xs 0 at_ h ha
  generalize ((dataF 0 xs).take at_).count 10 = j at *
  rw [Nat.zero_add] at h2 h3 h5
  have hj : j < xs.length := by
    rcases Nat.lt_or_ge j xs.length with h | h
    · exact h
    · rw [List.getElem?_eq_none h] at h1; cases h1
  have hok := (AllOk.app (xs := xs.take j) (ys := xs.drop j) (by rw [List.take_append_drop]; exact h)).1
  generalize hP : dataF 0 (xs.take j) = P at *
  generalize dataF (j + 1) (xs.drop (j + 1)) = S at *
  rw [h5] at ht ⊢
  have hto : (lineF j x)[o]? ≠ some t := by
    rw [h4, List.getElem?_append_right (by omega), show P.length + o - P.length = o by omega, List.getElem?_append_left h3] at ht
    exact ht
  refine ⟨j, (lineF j x).set o t ++ S, rfl, by omega, ?_, read_turned h2 S h3 hto, hok, by rw [hP]; omega⟩
  rw [hP]
  rw [h4, List.set_append_right _ _ (by omega), show P.length + o - P.length = o by omega, List.set_append_left _ _ h3]
/-- A CRASH LOSES AN END ALONE -/
theorem crash_law {xs : List Ln} (h : AllOk 0 xs) {p : Nat} (hp : p ≤ (dataF 0 xs).length) : ∃ j t, j ≤ xs.length ∧ (dataF 0 xs).take p = dataF 0 (xs.take j) ++ t ∧ readL j t = none ∧ AllOk 0 (xs.take j) ∧
    ∀ s, s ≤ xs.length → (dataF 0 (xs.take s)).length ≤ p → s ≤ j := by
  obtain ⟨j, t, h1, h2, h3, h4⟩ := data_take xs 0 p h hp
  exact ⟨j, t, h1, h2, read_none h3, (AllOk.app (xs := xs.take j) (ys := xs.drop j) (by rw [List.take_append_drop]; exact h)).1, h4⟩
theorem AllOk.take {xs : List Ln} (h : AllOk 0 xs) (j : Nat) : AllOk 0 (xs.take j) :=
  (AllOk.app (xs := xs.take j) (ys := xs.drop j) (by rw [List.take_append_drop]; exact h)).1
theorem AllOk.at_ {xs : List Ln} (h : AllOk 0 xs) {j : Nat} (hj : j < xs.length) : addOk j xs[j] = true := by
  have := (AllOk.app (xs := xs.take j) (ys := xs.drop j) (by rw [List.take_append_drop]; exact h)).2
  rw [List.drop_eq_getElem_cons hj, List.length_take, Nat.min_eq_left (by omega), Nat.zero_add] at this
  exact this.1
theorem data_split {xs : List Ln} {j : Nat} (hj : j < xs.length) : dataF 0 xs = dataF 0 (xs.take j) ++ (lineF j xs[j] ++ dataF (j + 1) (xs.drop (j + 1))) := by
  conv => lhs; rw [← List.take_append_drop j xs]
  rw [data_app, List.length_take, Nat.min_eq_left (by omega), Nat.zero_add, List.drop_eq_getElem_cons hj, dataF]

/-! how much went, by names -/
def cntL : List Ln → List UInt8 → Int
  | [], _ => 0
  | x :: r, k => (if k = x.name then x.n else 0) + cntL r k
theorem cntL_app (a b : List Ln) (k : List UInt8) : cntL (a ++ b) k = cntL a k + cntL b k := by
  induction a with
  | nil => simp [cntL]
  | cons x r ih => rw [List.cons_append, cntL, cntL, ih]; omega
theorem cntL_snoc (a : List Ln) (x : Ln) (k : List UInt8) : cntL (a ++ [x]) k = if k = x.name then cntL a k + x.n else cntL a k := by
  rw [cntL_app]; simp only [cntL]; split <;> omega
theorem cntL_bd : ∀ {xs : List Ln} {i : Nat} (h : AllOk i xs) (k : List UInt8), 0 ≤ cntL xs k ∧ cntL xs k ≤ 1000000 * xs.length
  | [], _, _, _ => by simp [cntL]
  | x :: r, i, h, k => by
    have h1 := addOk_ln h.1
    have h2 := cntL_bd h.2 k
    have := h1.n0; have := h1.n1
    rw [cntL, List.length_cons]
    split <;> omega
theorem AllOk.len : ∀ {xs : List Ln} {i : Nat}, AllOk i xs → i ≤ 500 → i + xs.length ≤ 500
  | [], _, _, h => by simpa using h
  | x :: r, i, h, hi => by
    have h1 := h.1
    unfold addOk at h1
    simp only [Bool.and_eq_true, decide_eq_true_eq] at h1
    have := AllOk.len h.2 (by omega)
    rw [List.length_cons]; omega
theorem itoa_len {u : Nat} (h : u < 10000000) : (itoa (u : Int)).length ≤ 7 := by
  rw [itoa_nat, decDigits_length]
  rcases Nat.lt_or_ge (nDigits u) 8 with h1 | h1
  · omega
  · exfalso
    have : ∀ v, v < 10 ^ 7 → nDigits v ≤ 7 := by
      intro v hv
      by_cases h1 : v < 10
      · rw [nDigits_small h1]; decide
      by_cases h2 : v < 100
      · rw [nDigits_unique 1 v (by omega) (by omega)]; decide
      by_cases h3 : v < 1000
      · rw [nDigits_unique 2 v (by omega) (by omega)]; decide
      by_cases h4 : v < 10000
      · rw [nDigits_unique 3 v (by omega) (by omega)]; decide
      by_cases h5 : v < 100000
      · rw [nDigits_unique 4 v (by omega) (by omega)]; decide
      by_cases h6 : v < 1000000
      · rw [nDigits_unique 5 v (by omega) (by omega)]; decide
      · rw [nDigits_unique 6 v (by omega) (by omega)]; decide
    have := this u (by omega)
    omega
theorem line_len {i : Nat} {x : Ln} (h : addOk i x = true) (hi : i < 10000) : 5 ≤ (lineF i x).length ∧ (lineF i x).length ≤ 40 := by
  have hl := addOk_ln h
  unfold addOk nameB at h
  simp only [Bool.and_eq_true, decide_eq_true_eq] at h
  have h0 := hl.n0; have h1 := hl.n1
  obtain ⟨u, hu⟩ := Int.eq_ofNat_of_zero_le (show 0 ≤ x.n by omega)
  have a1 := itoa_len (u := i) (by omega)
  have a2 := itoa_len (u := u) (by omega)
  have a3 := itoa_len (u := hash 11 (bodyF i x)) (by have := hash_lt (bodyF i x) 11 (by decide); omega)
  have n12 := h.1.1.1.2
  have n1 : 1 ≤ x.name.length := List.length_pos_iff.2 h.1.1.1.1
  have e : (lineF i x).length = (itoa (i : Int)).length + x.name.length + (itoa x.n).length + (itoa (hash 11 (bodyF i x) : Nat)).length + 4 := by
    unfold lineF
    simp only [List.length_append, List.length_cons, List.length_nil]
    generalize (itoa (hash 11 (bodyF i x) : Nat)).length = z
    unfold bodyF
    simp only [List.length_append, List.length_cons]
    omega
  rw [hu] at e
  constructor <;> omega
theorem data_len : ∀ {xs : List Ln} {i : Nat}, AllOk i xs → i + xs.length < 10000 → (dataF i xs).length ≤ 40 * xs.length ∧ xs.length ≤ (dataF i xs).length
  | [], _, _, _ => by simp [dataF]
  | x :: r, i, h, hi => by
    rw [List.length_cons] at hi
    have h1 := line_len h.1 (by omega)
    have h2 := data_len h.2 (by omega)
    rw [dataF, List.length_append, List.length_cons]
    omega
end Bo
end Go.Proofs.YtdipehgijjkfdaaDoor
