/-
  Plain law (Shreedhar and Varghese): of flows that always have something to send, what they sent differs, each by its quantum, by less than two turns and the longest packet each.
-/
import Derived.Test.YthhgbpbaihgogaaRndTake
import Derived.Test.YthhgbpbaihgogaaRndImp
namespace Go.Proofs.Ythhgbpbaihgogaa
open Bkt
namespace Pl
set_option linter.unusedVariables false

theorem fair_num (ci cj qi qj Ci Cj lg : Int) (h1 : ci ≤ cj + 1) (hqi : 0 < qi) (hqj : 0 < qj) (hCi : 0 ≤ Ci) (hCj : Cj ≤ lg + qj) (hlg : 0 < lg) :
    (ci * qi - Ci) * qj - (cj * qj - Cj) * qi < 2 * qi * qj + lg * (qi + qj) := by
  have e : (ci * qi - Ci) * qj - (cj * qj - Cj) * qi = (ci - cj) * (qi * qj) - Ci * qj + Cj * qi := by grind
  have hp : 0 < qi * qj := Int.mul_pos hqi hqj
  have a1 : (ci - cj) * (qi * qj) ≤ 1 * (qi * qj) := Int.mul_le_mul_of_nonneg_right (by omega) (Int.le_of_lt hp)
  have a2 : 0 ≤ Ci * qj := Int.mul_nonneg hCi (Int.le_of_lt hqj)
  have a3 : Cj * qi ≤ (lg + qj) * qi := Int.mul_le_mul_of_nonneg_right hCj (Int.le_of_lt hqi)
  have a4 : 0 < lg * qj := Int.mul_pos hlg hqj
  have e2 : 2 * qi * qj + lg * (qi + qj) = qi * qj + qi * qj + lg * qi + lg * qj := by grind
  have e3 : (lg + qj) * qi = lg * qi + qi * qj := by grind
  rw [e, e2]
  rw [e3] at a3
  omega

/-- the flow that is at its turn, its quantum laid -/
def atT (s : RS) (f : Nat) : Prop := s.beg = true ∧ s.T.head? = some f
instance (s : RS) (f : Nat) : Decidable (atT s f) := inferInstanceAs (Decidable (_ ∧ _))
/-- how many turns a flow had, without the one at which it is -/
def ev (s : RS) (c : Nat → Int) (f : Nat) : Int := if atT s f then c f - 1 else c f
structure VI (nq : Nat) (Q : Nat → Int) (lg : Int) (s : RS) (c sent : Nat → Int) : Prop where
  ri : RI s
  fl : ∀ f, f < nq → s.L f ≠ []
  out : ∀ f ∈ s.T, f < nq
  ln : ∀ f, f < nq → ∀ x ∈ s.L f, x.it.len ≤ lg
  lgp : 0 < lg
  se : ∀ f, f < nq → sent f = c f * Q f - s.C f
  cr : ∀ f, f < nq → s.C f ≤ lg + (if atT s f then Q f else 0)
  up : s.T.Pairwise (fun a b => ev s c a ≤ ev s c b)
  cl : ∀ a ∈ s.T, ∀ b ∈ s.T, ev s c a ≤ ev s c b + 1
theorem VI.bound {nq : Nat} {Q : Nat → Int} {lg : Int} {s : RS} {c sent : Nat → Int} (h : VI nq Q lg s c sent) (hq : ∀ f, f < nq → 0 < Q f) (hn : nq ≤ 16) {i j : Nat} (hi : i < nq) (hj : j < nq) :
    sent i * Q j - sent j * Q i < 2 * Q i * Q j + lg * (Q i + Q j) := by
  have mi := h.ri.im i (by omega) (h.fl i hi)
  have mj := h.ri.im j (by omega) (h.fl j hj)
  have c1 := h.cl i mi j mj
  have hci : c i ≤ c j + 1 := by
    have ej : ev s c j ≤ c j := by unfold ev; split <;> omega
    by_cases ai : atT s i
    · have e1 : ev s c i = c i - 1 := by unfold ev; rw [if_pos ai]
      have hle : ev s c i ≤ ev s c j := by
        obtain ⟨_, hh⟩ := ai
        cases hT : s.T with
        | nil => rw [hT] at mi; cases mi
        | cons y r =>
          rw [hT] at hh
          injection hh with hh
          subst hh
          have hu := h.up
          rw [hT, List.pairwise_cons] at hu
          rw [hT] at mj
          rcases List.mem_cons.1 mj with e | e
          · subst e; exact Int.le_refl _
          · exact hu.1 _ e
      omega
    · have e1 : ev s c i = c i := by unfold ev; rw [if_neg ai]
      omega
  have hCi := (h.ri.c i (by omega)).1
  have hCj : s.C j ≤ lg + Q j := by
    have h1 := h.cr j hj
    have h2 := hq j hj
    split at h1
    · exact h1
    · omega
  rw [h.se i hi, h.se j hj]
  exact fair_num (c i) (c j) (Q i) (Q j) (s.C i) (s.C j) lg hci (hq i hi) (hq j hj) hCi hCj h.lgp
theorem atT_not {s : RS} {f : Nat} (h : s.beg = false) : ¬ atT s f := fun ⟨e, _⟩ => by rw [h] at e; cases e
theorem atT_head {s : RS} {f y : Nat} {r : List Nat} (hb : s.beg = true) (hT : s.T = y :: r) : atT s f ↔ f = y := by
  unfold atT
  rw [hT]
  simp [hb, eq_comm]
/-- the turn goes on -/
theorem VI.turn {nq : Nat} {Q : Nat → Int} (hQ : QOk Q) {lg : Int} {s : RS} {c sent : Nat → Int} (h : VI nq Q lg s c sent) {f : Nat} {T : List Nat} (hT : s.T = f :: T) {x : Hd} {r : List Hd} (hL : s.L f = x :: r) (hc : credR Q s f < x.it.len) :
    ∃ c', VI nq Q lg ⟨s.L, updf s.C f (credR Q s f), T ++ [f], false⟩ c' sent := by
  have hf := h.out f (by rw [hT]; simp)
  have hnd := h.ri.nd
  rw [hT, List.nodup_cons] at hnd
  have hxl := h.ln f hf x (by rw [hL]; simp)
  have hup := h.up
  rw [hT, List.pairwise_cons] at hup
  -- c' f: one more if the quantum is laid now
  obtain ⟨k, hk⟩ : ∃ k : Int, k = ev s c f + 1 := ⟨_, rfl⟩
  have hsef := h.se f hf
  have hkc : k * Q f - credR Q s f = sent f := by
    rw [hsef, hk]
    unfold credR
    by_cases hb : s.beg = true
    · have ha : atT s f := (atT_head hb hT).2 rfl
      rw [if_pos hb]
      unfold ev
      rw [if_pos ha]
      rw [show c f - 1 + 1 = c f by omega]
    · have hb' : s.beg = false := by simpa using hb
      rw [if_neg hb]
      unfold ev
      rw [if_neg (atT_not hb')]
      grind
  refine ⟨updf c f k, ⟨(h.ri.turn hQ hT hL hc).1, h.fl, fun i hi => ?_, h.ln, h.lgp, fun i hi => ?_, fun i hi => ?_, ?_, ?_⟩⟩
  · have hi' : i ∈ T ++ [f] := hi
    rcases List.mem_append.1 hi' with e | e
    · exact h.out i (by rw [hT]; simp [e])
    · rw [List.mem_singleton] at e; subst e; exact hf
  · show sent i = updf c f k i * Q i - updf s.C f (credR Q s f) i
    by_cases e : i = f
    · subst e; rw [updf_same, updf_same, hkc]
    · rw [updf_ne _ _ e, updf_ne _ _ e]; exact h.se i hi
  · rw [if_neg (atT_not rfl)]
    show updf s.C f (credR Q s f) i ≤ lg + 0
    by_cases e : i = f
    · subst e; rw [updf_same]; omega
    · rw [updf_ne _ _ e]
      have h1 := h.cr i hi
      rw [if_neg (fun ⟨_, e2⟩ => by rw [hT] at e2; injection e2 with e2; exact e e2.symm)] at h1
      exact h1
  · show (T ++ [f]).Pairwise _
    have hev : ∀ i, ev ⟨s.L, updf s.C f (credR Q s f), T ++ [f], false⟩ (updf c f k) i = updf c f k i := fun i => by unfold ev; rw [if_neg (atT_not rfl)]
    have hevT : ∀ i ∈ T, updf c f k i = ev s c i := fun i hi => by
      have e : i ≠ f := fun e => hnd.1 (e ▸ hi)
      rw [updf_ne _ _ e]
      unfold ev
      rw [if_neg (fun ⟨_, e2⟩ => by rw [hT] at e2; injection e2 with e2; exact e e2.symm)]
    rw [List.pairwise_append]
    refine ⟨hup.2.imp_of_mem fun {a b} ha hb hab => ?_, by simp, fun a ha b hb => ?_⟩
    · rw [hev, hev, hevT a ha, hevT b hb]; exact hab
    · rw [List.mem_singleton] at hb
      subst hb
      rw [hev, hev, hevT a ha, updf_same, hk]
      exact h.cl a (by rw [hT]; simp [ha]) b (by rw [hT]; simp)
  · have hev : ∀ i, ev ⟨s.L, updf s.C f (credR Q s f), T ++ [f], false⟩ (updf c f k) i = updf c f k i := fun i => by unfold ev; rw [if_neg (atT_not rfl)]
    have hevT : ∀ i ∈ T, updf c f k i = ev s c i := fun i hi => by
      have e : i ≠ f := fun e => hnd.1 (e ▸ hi)
      rw [updf_ne _ _ e]
      unfold ev
      rw [if_neg (fun ⟨_, e2⟩ => by rw [hT] at e2; injection e2 with e2; exact e e2.symm)]
    have hmem : ∀ a, a ∈ T ++ [f] → a ∈ T ∨ a = f := fun a ha => by
      rcases List.mem_append.1 ha with e | e
      · exact .inl e
      · rw [List.mem_singleton] at e; exact .inr e
    intro a ha b hb
    rw [hev, hev]
    rcases hmem a ha with e1 | e1 <;> rcases hmem b hb with e2 | e2
    · rw [hevT a e1, hevT b e2]; exact h.cl a (by rw [hT]; simp [e1]) b (by rw [hT]; simp [e2])
    · subst e2
      rw [hevT a e1, updf_same, hk]
      have := h.cl a (by rw [hT]; simp [e1]) b (by rw [hT]; simp)
      omega
    · subst e1
      rw [hevT b e2, updf_same, hk]
      have := hup.1 b e2
      omega
    · subst e1 e2
      omega
/-- a packet goes, more of its flow wait -/
theorem VI.out_ {nq : Nat} {Q : Nat → Int} (hQ : QOk Q) {lg : Int} {s : RS} {c sent : Nat → Int} (h : VI nq Q lg s c sent) {f : Nat} {T : List Nat} (hT : s.T = f :: T) {x : Hd} {r : List Hd} (hL : s.L f = x :: r) (hr : r ≠ []) (hc : ¬ credR Q s f < x.it.len) (hx0 : 0 ≤ x.it.len) :
    ∃ c', VI nq Q lg ⟨updf s.L f r, updf s.C f (credR Q s f - x.it.len), f :: T, true⟩ c' (updf sent f (sent f + x.it.len)) := by
  have hf := h.out f (by rw [hT]; simp)
  have hnd := h.ri.nd
  rw [hT, List.nodup_cons] at hnd
  have hup := h.up
  rw [hT] at hup
  obtain ⟨k, hk⟩ : ∃ k : Int, k = ev s c f + 1 := ⟨_, rfl⟩
  have hsef := h.se f hf
  have hkc : k * Q f - credR Q s f = sent f := by
    rw [hsef, hk]
    unfold credR
    by_cases hb : s.beg = true
    · have ha : atT s f := (atT_head hb hT).2 rfl
      rw [if_pos hb]
      unfold ev
      rw [if_pos ha]
      rw [show c f - 1 + 1 = c f by omega]
    · have hb' : s.beg = false := by simpa using hb
      rw [if_neg hb]
      unfold ev
      rw [if_neg (atT_not hb')]
      grind
  have hri := h.ri.out hQ hT hL hc
  have hr0 : ¬ r.length = 0 := fun e => hr (List.eq_nil_of_length_eq_zero e)
  rw [if_neg hr0, if_neg hr0] at hri
  have hat : ∀ i, atT ⟨updf s.L f r, updf s.C f (credR Q s f - x.it.len), f :: T, true⟩ i ↔ i = f := fun i => atT_head rfl rfl
  have hev : ∀ i ∈ s.T, ev ⟨updf s.L f r, updf s.C f (credR Q s f - x.it.len), f :: T, true⟩ (updf c f k) i = ev s c i := fun i hi => by
    by_cases e : i = f
    · subst e
      unfold ev
      rw [if_pos ((hat i).2 rfl), updf_same, hk]
      unfold ev
      omega
    · have e1 : ¬ atT s i := fun ⟨_, e2⟩ => by rw [hT] at e2; injection e2 with e2; exact e e2.symm
      unfold ev
      rw [if_neg (fun e2 => e ((hat i).1 e2)), if_neg e1, updf_ne _ _ e]
  rw [hT] at hev
  refine ⟨updf c f k, ⟨hri, fun i hi => ?_, fun i hi => h.out i (by rw [hT]; exact hi), fun i hi y hy => ?_, h.lgp, fun i hi => ?_, fun i hi => ?_, ?_, ?_⟩⟩
  · show updf s.L f r i ≠ []
    by_cases e : i = f
    · subst e; rw [updf_same]; exact hr
    · rw [updf_ne _ _ e]; exact h.fl i hi
  · have hy' : y ∈ updf s.L f r i := hy
    by_cases e : i = f
    · subst e; rw [updf_same] at hy'; exact h.ln i hi y (by rw [hL]; simp [hy'])
    · rw [updf_ne _ _ e] at hy'; exact h.ln i hi y hy'
  · show updf sent f (sent f + x.it.len) i = updf c f k i * Q i - updf s.C f (credR Q s f - x.it.len) i
    by_cases e : i = f
    · subst e; rw [updf_same, updf_same, updf_same]; omega
    · rw [updf_ne _ _ e, updf_ne _ _ e, updf_ne _ _ e]; exact h.se i hi
  · show updf s.C f (credR Q s f - x.it.len) i ≤ _
    have h1 := h.cr i hi
    by_cases e : i = f
    · subst e
      rw [updf_same, if_pos ((hat i).2 rfl)]
      unfold credR
      by_cases hb : s.beg = true
      · rw [if_pos ((atT_head hb hT).2 rfl)] at h1
        rw [if_pos hb]
        omega
      · have hb' : s.beg = false := by simpa using hb
        rw [if_neg (atT_not hb')] at h1
        rw [if_neg hb]
        omega
    · rw [if_neg (fun ⟨_, e2⟩ => by rw [hT] at e2; injection e2 with e2; exact e e2.symm)] at h1
      rw [updf_ne _ _ e, if_neg (fun e2 => e ((hat i).1 e2))]
      exact h1
  · exact hup.imp_of_mem fun {a b} ha hb hab => by rw [hev a ha, hev b hb]; exact hab
  · intro a ha b hb
    rw [hev a ha, hev b hb]
    exact h.cl a (by rw [hT]; exact ha) b (by rw [hT]; exact hb)
/-- what a Take does -/
structure VT (nq : Nat) (Q : Nat → Int) (lg : Int) (s : RS) (sent : Nat → Int) (R : Option Hd × RS) : Prop where
  x : ∃ x f, R.1 = some x ∧ f < nq ∧ x.it.flow = f ∧ s.L f = x :: R.2.L f ∧ (∀ i, i ≠ f → R.2.L i = s.L i) ∧ 0 ≤ x.it.len ∧ x.it.len ≤ 10000 ∧ (R.2.L f ≠ [] → ∃ c', VI nq Q lg R.2 c' (updf sent f (sent f + x.it.len)))
theorem VI.take {nq : Nat} {Q : Nat → Int} (hQ : QOk Q) {lg : Int} (hn : 0 < nq) (hn2 : nq ≤ 16) : ∀ (n : Nat) (s : RS) (c sent : Nat → Int), VI nq Q lg s c sent → measR s < n → VT nq Q lg s sent (takeR Q n s)
  | 0, s, c, sent, h, hm => absurd hm (by omega)
  | n + 1, s, c, sent, h, hm => by
    cases hT : s.T with
    | nil =>
      have := h.ri.im 0 (by omega) (h.fl 0 hn)
      rw [hT] at this; cases this
    | cons f T =>
      have hf := h.out f (by rw [hT]; simp)
      cases hL : s.L f with
      | nil => exact absurd hL (h.fl f hf)
      | cons x r =>
        by_cases hc : credR Q s f < x.it.len
        · rw [takeR_turn hT hL hc]
          obtain ⟨c', h'⟩ := h.turn hQ hT hL hc
          obtain ⟨h1, h2⟩ := h.ri.turn hQ hT hL hc
          exact ⟨(VI.take hQ hn hn2 n _ c' sent h' (by omega)).x⟩
        · rw [takeR_out hT hL hc]
          have hb := h.ri.b f (by omega) x (by rw [hL]; simp)
          refine ⟨x, f, rfl, hf, hb.2.2, ?_, fun i hi => updf_ne _ _ hi, hb.1, hb.2.1, fun hr => ?_⟩
          · show s.L f = x :: updf s.L f r f
            rw [updf_same, hL]
          · have hr' : updf s.L f r f ≠ [] := hr
            rw [updf_same] at hr'
            have hr0 : ¬ r.length = 0 := fun e => hr' (List.eq_nil_of_length_eq_zero e)
            rw [if_neg hr0, if_neg hr0]
            exact h.out_ hQ hT hL hr' hc hb.1

/-- while the packets are put in -/
structure PI (nq i f : Nat) (lg : Int) (s : RS) : Prop where
  ri : RI s
  L : ∀ j, j < nq → (s.L j).length = if j < f then i + 1 else i
  L2 : ∀ j, nq ≤ j → j < 16 → s.L j = []
  T : s.T = List.range (if i = 0 then f else nq)
  C : ∀ j, j < nq → s.C j = 0
  bg : s.beg = false
  ln : ∀ j, j < nq → ∀ x ∈ s.L j, x.it.len ≤ lg
  lg0 : 0 ≤ lg
  lg1 : 0 < i ∨ 0 < f → 0 < lg
theorem PI.start (nq : Nat) : PI nq 0 0 0 rs0 :=
  ⟨rs0_ok, fun j hj => by simp [rs0], fun j _ _ => rfl, rfl, fun j _ => rfl, rfl, fun j _ x hx => by simp [rs0] at hx, by omega, fun h => by omega⟩
theorem PI.next {nq i : Nat} {lg : Int} {s : RS} (h : PI nq i nq lg s) (hn : 0 < nq) : PI nq (i + 1) 0 lg s :=
  ⟨h.ri, fun j hj => by rw [h.L j hj, if_pos hj, if_neg (by omega)], h.L2, by rw [h.T, if_neg (show ¬ i + 1 = 0 by omega)]; split <;> rfl, h.C, h.bg, h.ln, h.lg0, fun _ => h.lg1 (.inr hn)⟩
theorem PI.put {nq i f : Nat} {lg : Int} {s : RS} (h : PI nq i f lg s) (hi : i < 50) (hf : f < nq) (hn : nq ≤ 16) {x : Hd} (hxf : x.it.flow = f) (hx : okB x.it = true) : (putR 60 x s).1 = [] ∧ PI nq i (f + 1) (max lg x.it.len) (putR 60 x s).2 := by
  have hlen := h.L f hf
  rw [if_neg (Nat.lt_irrefl f)] at hlen
  have hri := h.ri.put (room := 60) hx
  have hxl := (okB_fine.1 hx).f1
  have e : putR 60 x s = ([], ⟨updf s.L f (s.L f ++ [x]), if (s.L f).length = 0 then updf s.C f 0 else s.C, if (s.L f).length = 0 then s.T ++ [f] else s.T, s.beg⟩) := by
    unfold putR
    rw [hxf, Int.toNat_natCast, if_neg (by omega)]
  rw [e] at hri ⊢
  refine ⟨rfl, hri, fun j hj => ?_, fun j h1 h2 => ?_, ?_, fun j hj => ?_, h.bg, fun j hj y hy => ?_, by have := h.lg0; omega, fun _ => by omega⟩
  · show (updf s.L f (s.L f ++ [x]) j).length = _
    by_cases ej : j = f
    · subst ej; rw [updf_same, List.length_append, hlen, if_pos (by omega)]; rfl
    · rw [updf_ne _ _ ej, h.L j hj]
      by_cases h2 : j < f
      · rw [if_pos h2, if_pos (by omega)]
      · rw [if_neg h2, if_neg (by omega)]
  · show updf s.L f (s.L f ++ [x]) j = []
    rw [updf_ne _ _ (by omega)]; exact h.L2 j h1 h2
  · show (if (s.L f).length = 0 then s.T ++ [f] else s.T) = _
    rw [hlen]
    by_cases h0 : i = 0
    · rw [if_pos h0, if_pos h0, h.T, if_pos h0, List.range_succ]
    · rw [if_neg h0, if_neg h0, h.T, if_neg h0]
  · show (if (s.L f).length = 0 then updf s.C f 0 else s.C) j = 0
    split
    · by_cases ej : j = f
      · subst ej; exact updf_same _ _ _
      · rw [updf_ne _ _ ej]; exact h.C j hj
    · exact h.C j hj
  · have hy' : y ∈ updf s.L f (s.L f ++ [x]) j := hy
    by_cases ej : j = f
    · subst ej
      rw [updf_same] at hy'
      rcases List.mem_append.1 hy' with hy2 | hy2
      · have := h.ln j hj y hy2; omega
      · rw [List.mem_singleton] at hy2; subst hy2; omega
    · rw [updf_ne _ _ ej] at hy'
      have := h.ln j hj y hy'; omega
theorem PI.vi {nq : Nat} {lg : Int} {s : RS} {Q : Nat → Int} (h : PI nq 50 0 lg s) (hn : nq ≤ 16) : VI nq Q lg s (fun _ => 0) (fun _ => 0) := by
  have hT := h.T
  rw [if_neg (by omega)] at hT
  have hev : ∀ f, ev s (fun _ => 0) f = 0 := fun f => by unfold ev; rw [if_neg (atT_not h.bg)]
  refine ⟨h.ri, fun f hf e => ?_, fun f hf => by rw [hT] at hf; exact List.mem_range.1 hf, h.ln, h.lg1 (.inl (by omega)), fun f hf => by rw [h.C f hf]; simp, fun f hf => ?_, ?_, fun a _ b _ => by rw [hev, hev]; omega⟩
  · have := h.L f hf
    rw [e, if_neg (by omega)] at this
    simp at this
  · rw [h.C f hf, if_neg (atT_not h.bg)]; have := h.lg0; omega
  · exact List.Pairwise.imp (fun {a b} _ => by rw [hev, hev]; exact Int.le_refl _) (List.pairwise_iff_forall_sublist.2 fun {a b} _ => trivial : s.T.Pairwise (fun _ _ => True))
end Pl
end Go.Proofs.Ythhgbpbaihgogaa
