/-
  Plain law of filters: what a text tells is that filter again.
-/
import Derived.Test.YtdipehgijjkfdaaDoorFltLaw
namespace Go.Proofs.YtdipehgijjkfdaaDoor
namespace Fl
open Lib
def rng (lo hi : Int) : Tok := if lo = hi then itoa lo else itoa lo ++ sDots ++ itoa hi
def wd (a : Bool) : Tok := if a then sOr else sAnd
mutual
def toks : Ft → List Tok
  | .tst f lo hi b => nm f :: (if b then [sHas, itoa lo] else [rng lo hi])
  | .any => [sAny]
  | .not t => sNot :: toks t
  | .sev l a => [40] :: ((toksT (wd a) l).drop 1 ++ [[41]])
def toksT (w : Tok) : List Ft → List Tok
  | [] => []
  | t :: r => w :: (toks t ++ toksT w r)
end
mutual
/-- a row of one is no 'or' -/
def sinF : Ft → Prop
  | .tst _ _ _ _ => True
  | .any => True
  | .not t => sinF t
  | .sev l a => (l.length = 1 → a = false) ∧ sinL l
def sinL : List Ft → Prop
  | [] => True
  | t :: r => sinF t ∧ sinL r
end
theorem sinL_app : ∀ (a b : List Ft), sinL (a ++ b) ↔ sinL a ∧ sinL b
  | [], b => by simp [sinL]
  | t :: r, b => by simp only [List.cons_append, sinL, sinL_app r b, and_assoc]
/-! words -/
def bk (c : UInt8) : Bool := c == 32 || c == 40 || c == 41
def At (r : List UInt8) : Prop := r = [] ∨ ∃ c q, r = c :: q ∧ bk c = true
theorem lx_go {a : Tok} {c : UInt8} {r : List UInt8} (h : bk c = false) : lexA a (c :: r) = lexA (a ++ [c]) r := by
  unfold bk at h
  simp at h
  rw [lexA, if_neg h.1.1, if_neg (by simp [h.1.2, h.2])]
theorem lx_stop {a : Tok} {r : List UInt8} (h : At r) : lexA a r = flush a ++ lexA [] r := by
  rcases h with rfl | ⟨c, q, rfl, h⟩
  · simp [lexA, flush]
  · unfold bk at h
    rw [lexA, lexA]
    simp only [flush, if_true, List.nil_append]
    split
    · rfl
    · split
      · rfl
      · rename_i h1 h2
        simp at h h2
        rcases h with (h | h) | h
        · exact absurd h h1
        · exact absurd h h2.1
        · exact absurd h h2.2
theorem lx_word : ∀ (s a : Tok) (r : List UInt8), (∀ c ∈ s, bk c = false) → lexA a (s ++ r) = lexA (a ++ s) r
  | [], a, r, _ => by simp
  | c :: s, a, r, h => by
    rw [List.cons_append, lx_go (h c (by simp)), lx_word s _ r (fun x hx => h x (by simp [hx]))]
    simp
theorem lx_tok {s : Tok} {r : List UInt8} (h : ∀ c ∈ s, bk c = false) (hn : s ≠ []) (hr : At r) : lexA [] (s ++ r) = s :: lexA [] r := by
  rw [lx_word s [] r h, List.nil_append, lx_stop hr, flush, if_neg hn]
  rfl
theorem lx_sp (r : List UInt8) : lexA [] (32 :: r) = lexA [] r := by simp [lexA, flush]
theorem at_sp (r : List UInt8) : At (32 :: r) := .inr ⟨32, r, rfl, rfl⟩
theorem nm_bk (f : Nat) : (∀ c ∈ nm f, bk c = false) ∧ nm f ≠ [] := by
  unfold nm
  split <;> decide
theorem dec_bk (u : Nat) : ∀ c ∈ decDigits u, bk c = false ∧ c ≠ 46 ∧ c ≠ 104 := fun c hc => by
  have h := Bo.dec_digit u c hc
  refine ⟨?_, fun e => ?_, fun e => ?_⟩
  · unfold bk
    simp only [Bool.or_eq_false_iff, beq_eq_false_iff_ne]
    refine ⟨⟨fun e => ?_, fun e => ?_⟩, fun e => ?_⟩ <;> (subst e; simp at h)
  · subst e; simp at h
  · subst e; simp at h
theorem itoa_bk {n : Int} (h : 0 ≤ n) : (∀ c ∈ itoa n, bk c = false ∧ c ≠ 46 ∧ c ≠ 104) ∧ itoa n ≠ [] := by
  obtain ⟨u, rfl⟩ := Int.eq_ofNat_of_zero_le h
  rw [show itoa ((u : Nat) : Int) = decDigits u from Bo.itoa_nat u]
  exact ⟨dec_bk u, Bo.dec_ne u⟩
theorem rng_bk {lo hi : Int} (h : 0 ≤ lo) (h2 : 0 ≤ hi) : (∀ c ∈ rng lo hi, bk c = false) ∧ rng lo hi ≠ [] := by
  unfold rng
  obtain ⟨a, b⟩ := itoa_bk h
  obtain ⟨c, d⟩ := itoa_bk h2
  split
  · exact ⟨fun x hx => (a x hx).1, b⟩
  · refine ⟨fun x hx => ?_, by simp [sDots]⟩
    rcases List.mem_append.1 hx with hx | hx
    · rcases List.mem_append.1 hx with hx | hx
      · exact (a x hx).1
      · exact (by decide : ∀ y ∈ sDots, bk y = false) x hx
    · exact (c x hx).1
theorem wd_bk (a : Bool) : (∀ c ∈ wd a, bk c = false) ∧ wd a ≠ [] := by cases a <;> decide
theorem sep_wd (a : Bool) : (if a then [32, 111, 114, 32] else [32, 97, 110, 100, 32] : List UInt8) = 32 :: (wd a ++ [32]) := by cases a <;> rfl
theorem at_tail (sep : List UInt8) (l : List (List UInt8)) (r : List UInt8) (h : At r) : At (joinTail (32 :: sep) l ++ r) := by
  cases l with
  | nil => exact h
  | cons x q => exact at_sp _
mutual
theorem lx_text : ∀ (t : Ft), okF t → ∀ r, At r → lexA [] (textF t ++ r) = toks t ++ lexA [] r
  | .tst f lo hi b, ok, r, hr => by
    obtain ⟨_, h0, h1, h2, _⟩ := ok
    obtain ⟨n1, n2⟩ := nm_bk f
    have h3 : 0 ≤ hi := by omega
    obtain ⟨i1, i2⟩ := itoa_bk h0
    obtain ⟨g1, g2⟩ := rng_bk h0 h3
    rw [textF, toks]
    cases b with
    | true =>
      simp only [if_true, List.append_assoc]
      show lexA [] (nm f ++ 32 :: (sHas ++ 32 :: (itoa lo ++ r))) = _
      rw [lx_tok n1 n2 (at_sp _)]
      rw [lx_sp, lx_tok (by decide) (by decide) (at_sp _), lx_sp, lx_tok (fun c hc => (i1 c hc).1) i2 hr]
      rfl
    | false =>
      have e : (if lo = hi then itoa lo else itoa lo ++ sDots ++ itoa hi) = rng lo hi := rfl
      simp only [Bool.false_eq_true, if_false]
      rw [e, List.append_assoc, List.append_assoc]
      show lexA [] (nm f ++ 32 :: (rng lo hi ++ r)) = _
      rw [lx_tok n1 n2 (at_sp _)]
      rw [lx_sp, lx_tok g1 g2 hr]
      rfl
  | .any, _, r, hr => by
    rw [textF, toks, lx_tok (by decide) (by decide) hr]
    rfl
  | .not t, ok, r, hr => by
    rw [textF, toks]
    show lexA [] (sNot ++ 32 :: (textF t ++ r)) = _
    rw [lx_tok (by decide) (by decide) (at_sp _), lx_sp, lx_text t ok r hr]
    rfl
  | .sev [] _, ok, r, hr => absurd rfl ok.1
  | .sev (t :: q) a, ok, r, hr => by
    rw [textF, textL, toks, toksT, sep_wd, join_cons, List.drop_one, List.tail_cons]
    have ha : At ([41] ++ r) := .inr ⟨41, r, rfl, rfl⟩
    have e1 : [40] ++ (textF t ++ joinTail (32 :: (wd a ++ [32])) (textL q)) ++ [41] ++ r = 40 :: (textF t ++ (joinTail (32 :: (wd a ++ [32])) (textL q) ++ ([41] ++ r))) := by simp
    rw [e1]
    have e2 : ∀ s, lexA [] (40 :: s) = [40] :: lexA [] s := fun s => by simp [lexA, flush]
    have e3 : lexA [] ([41] ++ r) = [41] :: lexA [] r := by simp [lexA, flush]
    rw [e2, lx_text t ok.2.1 _ (at_tail _ _ _ ha), lx_tail a q ok.2.2 _ ha, e3]
    simp
theorem lx_tail (a : Bool) : ∀ (l : List Ft), okL l → ∀ r, At r → lexA [] (joinTail (32 :: (wd a ++ [32])) (textL l) ++ r) = toksT (wd a) l ++ lexA [] r
  | [], _, r, hr => rfl
  | t :: q, ok, r, hr => by
    have e : joinTail (32 :: (wd a ++ [32])) (textL (t :: q)) ++ r = 32 :: (wd a ++ 32 :: (textF t ++ (joinTail (32 :: (wd a ++ [32])) (textL q) ++ r))) := by
      simp [joinTail, textL]
    rw [e, lx_sp, lx_tok (wd_bk a).1 (wd_bk a).2 (at_sp _), lx_sp, lx_text t ok.1 _ (at_tail _ _ _ hr), lx_tail a q ok.2 r hr, toksT]
    simp
end
/-! numbers -/
theorem num_itoa {n : Int} (h : 0 ≤ n) (h2 : n ≤ 1000000000) : numF (itoa n) = .ok n := by
  obtain ⟨u, rfl⟩ := Int.eq_ofNat_of_zero_le h
  unfold numF
  have e : itoa ((u : Nat) : Int) = decDigits u := Bo.itoa_nat u
  rw [e, Bo.atoi_dec u (by omega)]
  dsimp only
  rw [if_pos e, if_neg (by omega)]
theorem index_none46 : ∀ {s : List UInt8}, (∀ c ∈ s, c ≠ 46) → index s sDots = -1
  | [], _ => rfl
  | c :: s, h => by
    unfold index
    have h1 : sDots.isPrefixOf (c :: s) = false := by
      have := h c (by simp)
      simp [sDots, List.isPrefixOf, Ne.symm this]
    rw [h1, index_none46 (fun x hx => h x (by simp [hx]))]
    rfl
theorem index_at46 : ∀ {s : List UInt8} (q : List UInt8), (∀ c ∈ s, c ≠ 46) → index (s ++ (sDots ++ q)) sDots = s.length
  | [], q, _ => by
    show index (46 :: 46 :: q) sDots = 0
    unfold index
    simp [sDots, List.isPrefixOf]
  | c :: s, q, h => by
    rw [List.cons_append]
    unfold index
    have h1 : sDots.isPrefixOf (c :: (s ++ (sDots ++ q))) = false := by
      have := h c (by simp)
      simp [sDots, List.isPrefixOf, Ne.symm this]
    rw [h1, index_at46 q (fun x hx => h x (by simp [hx]))]
    have : ((s.length : Int) == -1) = false := by rw [beq_eq_false_iff_ne]; omega
    simp [this]
theorem cut_no {s : Tok} (h : ∀ c ∈ s, c ≠ 46) : cut s sDots = (s, [], false) := by
  unfold cut
  rw [index_none46 h, if_neg (by decide)]
theorem cut_at {s : Tok} (q : Tok) (h : ∀ c ∈ s, c ≠ 46) : cut (s ++ sDots ++ q) sDots = (s, q, true) := by
  unfold cut
  rw [List.append_assoc, index_at46 q h, if_pos (by omega)]
  have e : ((s.length : Int).toNat) = s.length := by omega
  rw [e, List.take_left]
  have e2 : (s ++ (sDots ++ q)).drop (s.length + sDots.length) = q := by
    rw [← List.append_assoc, ← List.length_append, List.drop_left]
  rw [e2]
/-! reading -/
theorem field_nm {f : Nat} (h : f < 5) : fieldOf (nm f) = some f ∧ nm f ≠ sAny ∧ nm f ≠ sNot ∧ nm f ≠ [40] := by
  rcases (by omega : f = 0 ∨ f = 1 ∨ f = 2 ∨ f = 3 ∨ f = 4) with rfl | rfl | rfl | rfl | rfl <;> decide
theorem itoa_ne_has {n : Int} (h : 0 ≤ n) (q : Tok) : itoa n ++ q ≠ sHas := fun e => by
  obtain ⟨a, b⟩ := itoa_bk h
  cases hc : itoa n with
  | nil => exact b hc
  | cons c r =>
    rw [hc] at e
    have : c = 104 := by
      have := congrArg List.head? e
      simpa [sHas] using this
    exact (a c (by rw [hc]; simp)).2.2 this
theorem rd_tst {f : Nat} {lo hi : Int} {b : Bool} (ok : okF (.tst f lo hi b)) (r : List Tok) : testF f ((if b then [sHas, itoa lo] else [rng lo hi]) ++ r) = .ok (.tst f lo hi b, r) := by
  obtain ⟨_, h0, h1, h2, hb⟩ := ok
  have h3 : 0 ≤ hi := by omega
  have i1 := (itoa_bk h0).1
  have d1 : ∀ c ∈ itoa lo, c ≠ 46 := fun c hc => (i1 c hc).2.1
  have n1 := num_itoa h0 (by omega : lo ≤ 1000000000)
  have n2 := num_itoa h3 h2
  cases b with
  | true =>
    obtain rfl := hb rfl
    simp only [if_true, List.cons_append, List.nil_append]
    rw [testF, if_pos rfl, testB, cut_no d1, if_neg (by simp)]
    dsimp only
    rw [n1]
    rfl
  | false =>
    simp only [Bool.false_eq_true, if_false, List.cons_append, List.nil_append]
    unfold rng
    by_cases he : lo = hi
    · subst he
      rw [if_pos rfl, testF, if_neg (by have := itoa_ne_has h0 []; simpa using this), testB, cut_no d1, if_neg (by simp)]
      dsimp only
      rw [n1]
      rfl
    · rw [if_neg he, testF, if_neg (by have := itoa_ne_has h0 (sDots ++ itoa hi); rw [List.append_assoc]; exact this), testB, cut_at _ d1, if_neg (by simp)]
      dsimp only
      rw [n1]
      dsimp only
      rw [if_pos rfl, n2]
      dsimp only
      rw [if_neg (by omega)]
theorem toksT_len (w : Tok) : ∀ l : List Ft, l.length ≤ (toksT w l).length
  | [] => Nat.le_refl _
  | t :: r => by have := toksT_len w r; rw [toksT]; simp; omega
mutual
theorem rd_text : ∀ (t : Ft), okF t → sinF t → ∀ d, dep t ≤ d → ∀ r, oneF d (toks t ++ r) = .ok (t, r)
  | .tst f lo hi b, ok, _, d, hd, r => by
    simp only [dep] at hd
    obtain ⟨d, rfl⟩ : ∃ e, d = e + 1 := ⟨d - 1, by omega⟩
    obtain ⟨f1, f2, f3, f4⟩ := field_nm ok.1
    rw [toks, List.cons_append, oneF, if_neg f2, if_neg f3, if_neg f4, f1]
    exact rd_tst ok r
  | .any, _, _, d, hd, r => by
    simp only [dep] at hd
    obtain ⟨d, rfl⟩ : ∃ e, d = e + 1 := ⟨d - 1, by omega⟩
    rw [toks, List.cons_append, oneF, if_pos rfl, List.nil_append]
  | .not t, ok, sn, d, hd, r => by
    simp only [dep] at hd
    obtain ⟨d, rfl⟩ : ∃ e, d = e + 1 := ⟨d - 1, by omega⟩
    rw [toks, List.cons_append, oneF, if_neg (by decide), if_pos rfl, rd_text t ok sn d (by omega) r]
  | .sev [] _, ok, _, d, hd, r => absurd rfl ok.1
  | .sev (t :: q) a, ok, sn, d, hd, r => by
    simp only [dep, depL] at hd
    obtain ⟨d, rfl⟩ : ∃ e, d = e + 1 := ⟨d - 1, by omega⟩
    rw [toks, toksT, List.drop_one, List.tail_cons, List.cons_append, oneF, if_neg (by decide), if_neg (by decide), if_pos rfl]
    have e : toks t ++ toksT (wd a) q ++ [[41]] ++ r = toks t ++ (toksT (wd a) q ++ [41] :: r) := by simp
    rw [e]
    have h := rd_list a q ok.2.2 sn.2.2 d (by omega) ((toks t ++ (toksT (wd a) q ++ [41] :: r)).length + 1) (by have := toksT_len (wd a) q; simp only [List.length_append]; omega) 0 [] t r (fun he _ => sn.1 (by simp [he])) (fun _ => rfl) (fun he => absurd rfl he) (rd_text t ok.2.1 sn.2.1 d (by omega) _)
    exact h
theorem rd_list (a : Bool) : ∀ (q : List Ft), okL q → sinL q → ∀ d, depL q ≤ d → ∀ n, q.length < n → ∀ (word : Nat) (acc : List Ft) (t : Ft) (r : List Tok), (q = [] → acc = [] → a = false) → (acc = [] → word = 0) → (acc ≠ [] → word = if a then 2 else 1) →
    oneF d (toks t ++ (toksT (wd a) q ++ [41] :: r)) = .ok (t, toksT (wd a) q ++ [41] :: r) → listF (oneF d) n word acc (toks t ++ (toksT (wd a) q ++ [41] :: r)) = .ok (.sev (acc ++ t :: q) a, r)
  | [], okq, snq, d, hd, n, hn, word, acc, t, r, h1, h0, h2, ho => by
    obtain ⟨n, rfl⟩ : ∃ m, n = m + 1 := ⟨n - 1, by omega⟩
    rw [listF, ho, toksT, List.nil_append]
    dsimp only
    rw [if_pos rfl]
    have : (word == 2) = a := by
      by_cases e : acc = []
      · rw [h0 e, h1 rfl e]; rfl
      · rw [h2 e]; cases a <;> rfl
    rw [this]
  | t2 :: q, okq, snq, d, hd, n, hn, word, acc, t, r, h1, h0, h2, ho => by
    obtain ⟨n, rfl⟩ : ∃ m, n = m + 1 := ⟨n - 1, by omega⟩
    simp only [depL] at hd
    simp only [List.length_cons] at hn
    have e : toksT (wd a) (t2 :: q) ++ [41] :: r = wd a :: (toks t2 ++ (toksT (wd a) q ++ [41] :: r)) := by rw [toksT]; simp
    have hr := rd_list a q okq.2 snq.2 d (by omega) n (by omega) (if a then 2 else 1) (acc ++ [t]) t2 r (fun _ he => by simp at he) (fun he => by simp at he) (fun _ => rfl) (rd_text t2 okq.1 snq.1 d (by omega) _)
    have hacc : acc ++ [t] ++ t2 :: q = acc ++ t :: t2 :: q := by simp
    rw [hacc] at hr
    rw [listF, ho, e]
    dsimp only
    cases a with
    | true =>
      have hw : word ≠ 1 := by
        by_cases e : acc = []
        · rw [h0 e]; decide
        · rw [h2 e]; decide
      rw [if_neg (by decide), if_neg (by intro h; have := h.2; revert this; decide), if_pos ⟨hw, rfl⟩]
      exact hr
    | false =>
      have hw : word ≠ 2 := by
        by_cases e : acc = []
        · rw [h0 e]; decide
        · rw [h2 e]; decide
      rw [if_neg (by decide), if_pos ⟨hw, rfl⟩]
      exact hr
end
/-! too deep -/
mutual
theorem rd_deep : ∀ (t : Ft), okF t → sinF t → ∀ d, d < dep t → ∀ r, oneF d (toks t ++ r) = .error 4
  | .tst f lo hi b, ok, _, d, hd, r => by
    simp only [dep] at hd
    obtain rfl : d = 0 := by omega
    rw [oneF]
  | .any, _, _, d, hd, r => by
    simp only [dep] at hd
    obtain rfl : d = 0 := by omega
    rw [oneF]
  | .not t, ok, sn, 0, hd, r => by rw [oneF]
  | .not t, ok, sn, d + 1, hd, r => by
    simp only [dep] at hd
    rw [toks, List.cons_append, oneF, if_neg (by decide), if_pos rfl, rd_deep t ok sn d (by omega) r]
  | .sev l a, ok, sn, 0, hd, r => by rw [oneF]
  | .sev [] _, ok, _, d + 1, hd, r => absurd rfl ok.1
  | .sev (t :: q) a, ok, sn, d + 1, hd, r => by
    simp only [dep, depL] at hd
    rw [toks, toksT, List.drop_one, List.tail_cons, List.cons_append, oneF, if_neg (by decide), if_neg (by decide), if_pos rfl]
    have e : toks t ++ toksT (wd a) q ++ [[41]] ++ r = toks t ++ (toksT (wd a) q ++ [41] :: r) := by simp
    rw [e]
    by_cases h : dep t ≤ d
    · exact rd_deepL a q ok.2.2 sn.2.2 d (by omega) _ (by have := toksT_len (wd a) q; simp only [List.length_append]; omega) 0 [] t r (fun _ => rfl) (fun he => absurd rfl he) (rd_text t ok.2.1 sn.2.1 d h _)
    · rw [listF, rd_deep t ok.2.1 sn.2.1 d (by omega)]
theorem rd_deepL (a : Bool) : ∀ (q : List Ft), okL q → sinL q → ∀ d, d < depL q → ∀ n, q.length < n → ∀ (word : Nat) (acc : List Ft) (t : Ft) (r : List Tok), (acc = [] → word = 0) → (acc ≠ [] → word = if a then 2 else 1) →
    oneF d (toks t ++ (toksT (wd a) q ++ [41] :: r)) = .ok (t, toksT (wd a) q ++ [41] :: r) → listF (oneF d) n word acc (toks t ++ (toksT (wd a) q ++ [41] :: r)) = .error 4
  | [], okq, snq, d, hd, n, hn, word, acc, t, r, h0, h2, ho => by simp [depL] at hd
  | t2 :: q, okq, snq, d, hd, n, hn, word, acc, t, r, h0, h2, ho => by
    obtain ⟨n, rfl⟩ : ∃ m, n = m + 1 := ⟨n - 1, by omega⟩
    simp only [depL] at hd
    simp only [List.length_cons] at hn
    have e : toksT (wd a) (t2 :: q) ++ [41] :: r = wd a :: (toks t2 ++ (toksT (wd a) q ++ [41] :: r)) := by rw [toksT]; simp
    have hr : listF (oneF d) n (if a then 2 else 1) (acc ++ [t]) (toks t2 ++ (toksT (wd a) q ++ [41] :: r)) = .error 4 := by
      by_cases h : dep t2 ≤ d
      · exact rd_deepL a q okq.2 snq.2 d (by omega) n (by omega) _ (acc ++ [t]) t2 r (fun he => by simp at he) (fun _ => rfl) (rd_text t2 okq.1 snq.1 d h _)
      · obtain ⟨n, rfl⟩ : ∃ m, n = m + 1 := ⟨n - 1, by omega⟩
        rw [listF, rd_deep t2 okq.1 snq.1 d (by omega)]
    rw [listF, ho, e]
    dsimp only
    cases a with
    | true =>
      have hw : word ≠ 1 := by
        by_cases e : acc = []
        · rw [h0 e]; decide
        · rw [h2 e]; decide
      rw [if_neg (by decide), if_neg (by intro h; have := h.2; revert this; decide), if_pos ⟨hw, rfl⟩]
      exact hr
    | false =>
      have hw : word ≠ 2 := by
        by_cases e : acc = []
        · rw [h0 e]; decide
        · rw [h2 e]; decide
      rw [if_neg (by decide), if_pos ⟨hw, rfl⟩]
      exact hr
end
/-! a reading's row of one is no 'or' -/
theorem testB_sin {f : Nat} {b : Bool} {ts : List Tok} {t : Ft} {r : List Tok} (h : testB f b ts = .ok (t, r)) : sinF t := by
  cases ts with
  | nil => cases h
  | cons w q =>
    rw [testB] at h
    split at h
    · cases h
    · split at h
      · cases h
      · split at h
        · split at h
          · cases h
          · split at h
            · cases h
            · injection h with h; injection h with h _; subst h; trivial
        · injection h with h; injection h with h _; subst h; trivial
theorem testF_sin {f : Nat} {ts : List Tok} {t : Ft} {r : List Tok} (h : testF f ts = .ok (t, r)) : sinF t := by
  cases ts with
  | nil => cases h
  | cons w q =>
    rw [testF] at h
    split at h
    · exact testB_sin h
    · exact testB_sin h
theorem listF_sin {one : List Tok → Res} (hone : ∀ ts t r, one ts = .ok (t, r) → sinF t) : ∀ (n word : Nat) (acc : List Ft) (ts : List Tok) (t : Ft) (r : List Tok), sinL acc → (acc = [] → word = 0) →
    listF one n word acc ts = .ok (t, r) → sinF t
  | 0, _, _, _, _, _, _, _, h => by cases h
  | n + 1, word, acc, ts, t, r, ha, hw, h => by
    unfold listF at h
    split at h
    · cases h
    · cases h
    · rename_i q w r' ho
      have hq : sinL (acc ++ [q]) := (sinL_app _ _).2 ⟨ha, hone _ _ _ ho, trivial⟩
      split at h
      · injection h with h; injection h with h h5; subst h
        refine ⟨fun hl => ?_, hq⟩
        have : acc = [] := by
          rw [List.length_append, List.length_singleton] at hl
          exact List.eq_nil_of_length_eq_zero (by omega)
        rw [hw this]
        rfl
      split at h
      · exact listF_sin hone n _ _ _ _ _ hq (fun he => by simp at he) h
      split at h
      · exact listF_sin hone n _ _ _ _ _ hq (fun he => by simp at he) h
      · cases h
theorem oneF_sin : ∀ (d : Nat) (ts : List Tok) (t : Ft) (r : List Tok), oneF d ts = .ok (t, r) → sinF t
  | 0, _, _, _, h => by unfold oneF at h; cases h
  | d + 1, [], _, _, h => by unfold oneF at h; cases h
  | d + 1, w :: q, t, r, h => by
    unfold oneF at h
    split at h
    · injection h with h; injection h with h h5; subst h; trivial
    split at h
    · split at h
      · cases h
      · rename_i t' r' ho
        injection h with h; injection h with h h5; subst h
        have := oneF_sin d _ _ _ ho
        exact this
    split at h
    · exact listF_sin (oneF_sin d) _ _ [] _ _ _ (by rw [sinL]; trivial) (fun _ => rfl) h
    split at h
    · exact testF_sin h
    · cases h
/-- the words of a text -/
theorem lx_whole (t : Ft) (ok : okF t) : lexA [] (textF t) = toks t := by
  have h := lx_text t ok [] (.inl rfl)
  rw [List.append_nil] at h
  rw [h]
  simp [lexA, flush]
end Fl
end Go.Proofs.YtdipehgijjkfdaaDoor
