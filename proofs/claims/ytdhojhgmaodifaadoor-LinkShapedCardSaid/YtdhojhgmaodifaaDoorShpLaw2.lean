/-
  Plain law of the shaper, more: what a play's law asks, told for the times of a play.
-/
import Derived.Test.YtdhojhgmaodifaaDoorShpLaw
import Derived.Test.YtdhojhgmaodifaaDoorList
namespace Go.Proofs.YtdhojhgmaodifaaDoor
open Bkt
set_option linter.unusedVariables false
namespace Pl
theorem times_fit (l : List Stp) (hn : l.length ≤ 1000) : TimesOk (timesTo l l.length) := by
  intro k t hk
  have hl := timesTo_len l l.length (Nat.le_refl _)
  have hkl : k < l.length := by
    rcases Nat.lt_or_ge k (timesTo l l.length).length with h | h
    · omega
    · rw [List.getElem?_eq_none h] at hk; cases hk
  have hg := timesTo_get l l.length k hkl (Nat.le_refl _)
  have e : ∀ j, j < l.length → laterAt (timesTo l l.length) j = nowAt l (j + 1) := fun j hj => by
    have hj2 := timesTo_get l l.length j hj (Nat.le_refl _)
    unfold laterAt
    rw [hj2, List.getElem?_eq_getElem hj]
    rfl
  have hlt : t.later = nowAt l (k + 1) := by
    have := e k hkl
    unfold laterAt at this
    rw [hk] at this
    exact this
  have hb := nowAt_bd l (k + 1)
  refine ⟨?_, by omega⟩
  rw [hlt]
  cases k with
  | zero => exact hb.1
  | succ j =>
    show laterAt (timesTo l l.length) j ≤ _
    rw [e j (by omega)]
    exact nowAt_up l (j + 1)
theorem taken_what {M : QM} {s0 : M.σ} {ts : List Stp} {k : Nat} {t : Stp} (hk : ts[k]? = some t) (h : 0 ≤ (seenAt M s0 ts k).taken) : t.what = 1 := by
  rw [seenAt_of M s0 hk] at h
  by_cases c0 : t.what = 0
  · rw [stepM_put c0] at h
    exact absurd h (by show ¬ (0 : Int) ≤ -1; decide)
  · by_cases c1 : t.what = 1
    · exact c1
    · rw [stepM_when c0 c1] at h
      exact absurd h (by show ¬ (0 : Int) ≤ -1; decide)
theorem lens_succ {ts : List Stp} {k : Nat} {t : Stp} (hk : ts[k]? = some t) : lensTo ts (k + 1) = if t.what = 0 then lensTo ts k ++ [t.it.len] else lensTo ts k := by
  show (match ts[k]? with | some t => if t.what = 0 then lensTo ts k ++ [t.it.len] else lensTo ts k | none => lensTo ts k) = _
  rw [hk]
theorem lens_le (ts : List Stp) : ∀ k, (lensTo ts k).length ≤ k
  | 0 => by simp [lensTo]
  | k + 1 => by
    have := lens_le ts k
    unfold lensTo
    split
    · split
      · rw [List.length_append, List.length_singleton]; omega
      · omega
    · omega
theorem gone_le (ts : List Stp) (sn : Nat → Seen) : ∀ k, (goneTo ts sn k).length ≤ k
  | 0 => by simp [goneTo]
  | k + 1 => by
    have := gone_le ts sn k
    unfold goneTo
    split
    · rw [List.length_append, List.length_singleton]; omega
    · omega
theorem GOk.listFine {b : Bk} {now : Int} {gone : List It} (h : GOk b now gone) (hn : now ≤ 1000000000) (hl : gone.length ≤ 100) : ListFine gone := by
  refine ⟨hl, fun i hi => ?_, fun i hi => h.up i hi⟩
  obtain ⟨⟨a1, a2⟩, c, d1, d2, d3⟩ := h.fine i hi
  exact ⟨⟨a1, by omega⟩, c, by omega, by omega, by omega⟩
theorem nowB_le {ts : List Stp} (h : TimesOk ts) : ∀ k, k ≤ ts.length → nowB ts k ≤ 1000000000
  | 0, _ => (by decide : (0 : Int) ≤ 1000000000)
  | j + 1, hj => by
    have e : ts[j]? = some ts[j] := List.getElem?_eq_getElem (by omega)
    rw [(nowB_succ e).1]
    exact (h j _ e).2
/-- all that the law asks -/
structure ShapedPlay (b : Bk) (ts : List Stp) (sn : Nat → Seen) (n : Nat) : Prop where
  step : ∀ i, i < n → SStep ts sn i
  gone : (goneTo ts sn n).length ≤ 100 → ListFine (goneTo ts sn n) ∧ ∀ j, j < (goneTo ts sn n).length → Bkt.conf b (goneTo ts sn n) j = true
theorem shaped_play {b : Bk} {p : FP} (hk : BkOk b) (hd : p.head = false) (l : List Stp) (hn : l.length ≤ 120) :
    ShapedPlay b (timesTo l l.length) (seenAt (shM b (fifoM p)) ⟨[], Bkt.start b, none⟩ (timesTo l l.length)) l.length := by
  have hl := timesTo_len l l.length (Nat.le_refl _)
  have h := shp_play hk hd (timesTo l l.length) (times_ok l) (times_fit l (by omega)) l.length (by omega)
  exact ⟨h.all, fun h1 => ⟨h.inv.g.listFine (nowB_le (times_fit l (by omega)) _ (by omega)) h1, h.inv.g.conf⟩⟩
end Pl
end Go.Proofs.YtdhojhgmaodifaaDoor
