/-
  Plain law of a play of controlled delay: what is thrown away when something is taken waited for the target; all goes, or is thrown away, in order.
-/
import Derived.Test.YthhgbpbaihgogaaCodLaw
namespace Go.Proofs.Ythhgbpbaihgogaa
open Bkt
namespace Pl
set_option linter.unusedVariables false

def lastL (l : Int) : List Int → Int
  | [] => l
  | x :: r => lastL x r
theorem lastL_snoc : ∀ (a : List Int) (l x : Int), lastL l (a ++ [x]) = x
  | [], l, x => rfl
  | y :: r, l, x => lastL_snoc r y x
/-- when what was put in came -/
def cameTo (ts : List Stp) : Nat → List Int
  | 0 => []
  | k + 1 => match ts[k]? with
    | some t => if t.what = 0 then cameTo ts k ++ [t.later] else cameTo ts k
    | none => cameTo ts k
def lastG (ts : List Stp) (sn : Nat → Seen) : Nat → Int
  | 0 => -1
  | k + 1 => match ts[k]? with
    | some t => if 0 ≤ (sn k).taken then (sn k).taken else if t.what = 1 then lastL (lastG ts sn k) (sn k).lost else lastG ts sn k
    | none => lastG ts sn k
theorem cameTo_succ {ts : List Stp} {k : Nat} {t : Stp} (h : ts[k]? = some t) : cameTo ts (k + 1) = if t.what = 0 then cameTo ts k ++ [t.later] else cameTo ts k := by
  rw [cameTo, h]
theorem lastG_succ {ts : List Stp} {sn : Nat → Seen} {k : Nat} {t : Stp} (h : ts[k]? = some t) : lastG ts sn (k + 1) = if 0 ≤ (sn k).taken then (sn k).taken else if t.what = 1 then lastL (lastG ts sn k) (sn k).lost else lastG ts sn k := by
  rw [lastG, h]
structure GInv (last : Int) (came : List Int) (n : Nat) (s : List Hd) : Prop where
  up : (s.map Hd.num).Pairwise (· < ·)
  lo : ∀ x ∈ s, last < x.num
  hi : ∀ x ∈ s, x.num < n
  ln : came.length = n
  ca : ∀ x ∈ s, came.getD x.num.toNat 0 = x.it.at_
  ltn : last < n
  low : -1 ≤ last
/-- those ahead of the j-th are ahead of it -/
theorem ord_at : ∀ (L : List Int) (last : Int) (rest : List Int), (L ++ rest).Pairwise (· < ·) → (∀ x ∈ L ++ rest, last < x) → (∀ j, j < L.length → lastL last (L.take j) < L.getD j 0) ∧ ∀ x ∈ rest, lastL last L < x
  | [], last, rest, h, hl => ⟨fun j hj => absurd hj (by simp), fun x hx => hl x (by simpa using hx)⟩
  | y :: r, last, rest, h, hl => by
    rw [List.cons_append, List.pairwise_cons] at h
    obtain ⟨h1, h2⟩ := ord_at r y rest h.2 (fun x hx => h.1 x hx)
    refine ⟨fun j hj => ?_, fun x hx => h2 x hx⟩
    cases j with
    | zero => exact hl y (by simp)
    | succ j =>
      have := h1 j (by simpa using hj)
      simpa [lastL] using this
/-- what is asked of a step -/
structure StepG (target : Int) (t : Stp) (s : Seen) (last : Int) (came : List Int) : Prop where
  lost : t.what = 1 → ∀ j, j < s.lost.length → lastL last (s.lost.take j) < s.lost.getD j 0 ∧ 0 ≤ s.lost.getD j 0 ∧ s.lost.getD j 0 < came.length ∧ target ≤ t.later - came.getD (s.lost.getD j 0).toNat 0
  tk1 : t.what = 1 → 0 ≤ s.taken → lastL last s.lost < s.taken
  tk0 : t.what ≠ 1 → s.taken < 0
theorem GInv.sub {last last' : Int} {came : List Int} {n : Nat} {a b s : List Hd} (h : GInv last came n s) (e : a ++ b = s) (h1 : ∀ x ∈ b, last' < x.num) (h2 : last' < n) (h3 : -1 ≤ last') : GInv last' came n b := by
  subst e
  refine ⟨?_, h1, fun x hx => h.hi x (List.mem_append_right _ hx), h.ln, fun x hx => h.ca x (List.mem_append_right _ hx), h2, h3⟩
  have := h.up
  rw [List.map_append, List.pairwise_append] at this
  exact this.2.1
theorem GInv.put {last : Int} {came : List Int} {n : Nat} {s : List Hd} (h : GInv last came n s) (p : FP) (hp : p.head = false) (it : It) : GInv last (came ++ [it.at_]) (n + 1) (fputL p ⟨it, n⟩ s).2 := by
  have hl := h.ln
  have hca : ∀ x ∈ s, (came ++ [it.at_]).getD x.num.toNat 0 = x.it.at_ := fun x hx => by
    have h1 := h.lo x hx; have h2 := h.hi x hx; have h3 := h.low
    rw [← h.ca x hx, List.getD, List.getD, List.getElem?_append_left (by omega)]
  have hltn := h.ltn
  unfold fputL
  rw [if_pos hp]
  split
  · exact ⟨h.up, h.lo, fun x hx => by have := h.hi x hx; omega, by simp [hl], hca, by omega, h.low⟩
  · refine ⟨?_, fun x hx => ?_, fun x hx => ?_, by simp [hl], fun x hx => ?_, by omega, h.low⟩
    · rw [List.map_append]
      exact pairwise_snoc h.up (fun y hy => by
        obtain ⟨z, hz, rfl⟩ := List.mem_map.1 hy
        exact h.hi z hz)
    · rcases List.mem_append.1 hx with hx | hx
      · exact h.lo x hx
      · rw [List.mem_singleton] at hx; subst hx; exact hltn
    · rcases List.mem_append.1 hx with hx | hx
      · have := h.hi x hx; omega
      · rw [List.mem_singleton] at hx; subst hx; show (n : Int) < _; omega
    · rcases List.mem_append.1 hx with hx | hx
      · exact hca x hx
      · rw [List.mem_singleton] at hx
        subst hx
        show (came ++ [it.at_]).getD (n : Int).toNat 0 = it.at_
        rw [Int.toNat_natCast, ← hl, List.getD, List.getElem?_append_right (Nat.le_refl _), Nat.sub_self]
        rfl
theorem del_play {P : DP} (hh : P.p.head = false) (ts : List Stp) (hts : ∀ t ∈ ts, StpOk t) (D0 : DS) (h0 : D0.s = []) : ∀ k, k ≤ ts.length →
    GInv (lastG ts (seenAt (delM P) D0 ts) k) (cameTo ts k) (nth (delM P) D0 ts k).1 (nth (delM P) D0 ts k).2.s ∧
    ∀ i, i < k → ∀ t, ts[i]? = some t → StepG P.target t (seenAt (delM P) D0 ts i) (lastG ts (seenAt (delM P) D0 ts) i) (cameTo ts (i + 1))
  | 0, _ => by
    refine ⟨?_, fun i hi => absurd hi (by omega)⟩
    show GInv (-1) [] 0 D0.s
    rw [h0]
    exact ⟨by simp, fun x hx => by simp at hx, fun x hx => by simp at hx, rfl, fun x hx => by simp at hx, by decide, by decide⟩
  | k + 1, hk => by
    obtain ⟨h1, h2⟩ := del_play hh ts hts D0 h0 k (by omega)
    have ek : ts[k]? = some ts[k] := List.getElem?_eq_getElem (by omega)
    have en := nth_succ (delM P) D0 ek
    have es := seenAt_of (delM P) D0 ek
    have ec := cameTo_succ ek
    have eg := lastG_succ (sn := seenAt (delM P) D0 ts) ek
    suffices hs : GInv (lastG ts (seenAt (delM P) D0 ts) (k + 1)) (cameTo ts (k + 1)) (nth (delM P) D0 ts (k + 1)).1 (nth (delM P) D0 ts (k + 1)).2.s ∧ StepG P.target ts[k] (seenAt (delM P) D0 ts k) (lastG ts (seenAt (delM P) D0 ts) k) (cameTo ts (k + 1)) by
      refine ⟨hs.1, fun i hi t ht => ?_⟩
      rcases Nat.lt_or_ge i k with h' | h'
      · exact h2 i h' t ht
      · obtain rfl : i = k := by omega
        rw [ek] at ht
        injection ht with ht
        subst ht
        exact hs.2
    rw [en, ec, eg, es]
    clear en ec eg es
    generalize lastG ts (seenAt (delM P) D0 ts) k = last at *
    generalize cameTo ts k = came at *
    generalize nth (delM P) D0 ts k = ns at *
    obtain ⟨n, D⟩ := ns
    dsimp only at h1 ⊢
    have ht : ts[k] ∈ ts := List.getElem_mem _
    have hok := hts _ ht
    generalize ts[k] = t at *
    by_cases c0 : t.what = 0
    · have g1 := h1.put P.p hh t.it
      rw [stepM_put c0, if_pos c0, if_neg (by show ¬ (0 : Int) ≤ -1; decide), if_neg (by omega)]
      rw [(hok c0).2] at g1
      exact ⟨g1, ⟨fun h => by omega, fun h => by omega, fun _ => by show (-1 : Int) < 0; decide⟩⟩
    · rw [if_neg c0]
      by_cases c1 : t.what = 1
      · rw [stepM_take c1]
        have hall := takeD_all P t.later D
        have hold := takeD_old P t.later D
        have hdm : (delM P).take t.later D = takeD P t.later D := rfl
        rw [hdm]
        generalize takeD P t.later D = r at *
        obtain ⟨xo, lost, D'⟩ := r
        dsimp only at hall hold ⊢
        have hup := h1.up
        have hnum : ∀ x ∈ D.s, last < x.num ∧ x.num < n := fun x hx => ⟨h1.lo x hx, h1.hi x hx⟩
        have hlow := h1.low; have hln := h1.ln
        have hord := ord_at (lost.map Hd.num) last ((xo.toList ++ D'.s).map Hd.num) (by rw [← List.map_append, hall]; exact hup) (by
          rw [← List.map_append, hall]
          intro x hx
          obtain ⟨y, hy, rfl⟩ := List.mem_map.1 hx
          exact (hnum y hy).1)
        have hlost : ∀ j, j < (lost.map Hd.num).length → 0 ≤ (lost.map Hd.num).getD j 0 ∧ (lost.map Hd.num).getD j 0 < came.length ∧ P.target ≤ t.later - came.getD ((lost.map Hd.num).getD j 0).toNat 0 := fun j hj => by
          rw [List.length_map] at hj
          have e : (lost.map Hd.num).getD j 0 = lost[j].num := by simp [List.getD, hj]
          have hm : lost[j] ∈ D.s := by rw [← hall]; exact List.mem_append_left _ (List.getElem_mem _)
          have h5 := hnum _ hm
          rw [e, h1.ca _ hm]
          exact ⟨by omega, by omega, hold _ (List.getElem_mem _)⟩
        have hll : lastL last (lost.map Hd.num) < n ∧ -1 ≤ lastL last (lost.map Hd.num) := by
          rcases List.eq_nil_or_concat lost with e | ⟨a, z, e⟩
          · subst e; exact ⟨h1.ltn, hlow⟩
          · subst e
            rw [List.concat_eq_append, List.map_append]
            show lastL last (List.map Hd.num a ++ [z.num]) < n ∧ -1 ≤ lastL last (List.map Hd.num a ++ [z.num])
            rw [lastL_snoc]
            have := hnum z (by rw [← hall]; simp)
            omega
        have hs1 : StepG P.target t ⟨tkn xo, mrk xo, -1, (delM P).len D', (delM P).bytes D', lost.map Hd.num⟩ last came := by
          refine ⟨fun _ j hj => ⟨hord.1 j hj, hlost j hj⟩, fun _ h => ?_, fun h => absurd c1 h⟩
          cases xo with
          | none => exact absurd h (by show ¬ (0 : Int) ≤ -1; decide)
          | some x => exact hord.2 _ (by simp [tkn])
        refine ⟨?_, hs1⟩
        cases xo with
        | none =>
          rw [if_neg (by show ¬ (0 : Int) ≤ -1; decide), if_pos c1]
          refine h1.sub (a := lost) (b := D'.s) (by simpa using hall) (fun x hx => ?_) hll.1 hll.2
          exact hord.2 _ (by simp; exact ⟨x, hx, rfl⟩)
        | some x =>
          have hx : x ∈ D.s := by rw [← hall]; simp
          have h5 := hnum _ hx
          rw [if_pos (by show 0 ≤ x.num; omega)]
          refine h1.sub (a := lost ++ [x]) (b := D'.s) (by simpa using hall) (fun y hy => ?_) h5.2 (by show -1 ≤ x.num; omega)
          rw [← hall, List.map_append, List.pairwise_append] at hup
          have h6 := hup.2.1
          simp at h6
          exact h6.1 y hy
      · rw [stepM_when c0 c1, if_neg (by show ¬ (0 : Int) ≤ -1; decide), if_neg c1]
        exact ⟨h1, ⟨fun h => absurd h c1, fun h => absurd h c1, fun _ => by show (-1 : Int) < 0; decide⟩⟩
end Pl
end Go.Proofs.Ythhgbpbaihgogaa
