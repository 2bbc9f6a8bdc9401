/-
  Plain law: a queue that takes each flow's packets in the order in which they were put in passes the check of orders.
-/
import Derived.Test.YthhgbpbaihgogaaCodPlay
import Derived.Test.YthhgbpbaihgogaaRndLaw
namespace Go.Proofs.Ythhgbpbaihgogaa
open Bkt
namespace Pl
set_option linter.unusedVariables false

/-- the flows of what was put in -/
def flowTo (ts : List Stp) : Nat → List Int
  | 0 => []
  | k + 1 => match ts[k]? with
    | some t => if t.what = 0 then flowTo ts k ++ [t.it.flow] else flowTo ts k
    | none => flowTo ts k
theorem flowTo_succ {ts : List Stp} {k : Nat} {t : Stp} (h : ts[k]? = some t) : flowTo ts (k + 1) = if t.what = 0 then flowTo ts k ++ [t.it.flow] else flowTo ts k := by
  rw [flowTo, h]
/-- each flow's last one, one added -/
def lastF (ts : List Stp) (sn : Nat → Seen) : Nat → Nat → Int
  | 0 => fun _ => 0
  | k + 1 => if 0 ≤ (sn k).taken then updf (lastF ts sn k) ((flowTo ts (k + 1)).getD (sn k).taken.toNat 0).toNat ((sn k).taken + 1) else lastF ts sn k
/-- what is asked of a step -/
def StepO (tk : Int) (last : Nat → Int) (fs : List Int) : Prop := 0 ≤ tk → tk < fs.length ∧ ∃ f : Nat, f < 16 ∧ fs.getD tk.toNat 0 = f ∧ last f ≤ tk

/-- a queue that keeps each flow's order -/
structure Ordm (M : QM) (I : M.σ → Prop) where
  fl : M.σ → Nat → List Hd
  put : ∀ s now x, I s → okB x.it = true → ∀ f, f < 16 → (fl (M.put now x s).2 f).Sublist (if x.it.flow = f then fl s f ++ [x] else fl s f)
  take : ∀ s now, I s → (∀ f, f < 16 → (fl (M.take now s).2.2 f).Sublist (fl s f)) ∧ ∀ x, (M.take now s).1 = some x → ∃ f r, f < 16 ∧ fl s f = x :: r ∧ (fl (M.take now s).2.2 f).Sublist r
  when_ : ∀ s now, I s → ∀ f, f < 16 → (fl (M.when_ now s).2 f).Sublist (fl s f)

structure OInv (fs : List Int) (last : Nat → Int) (n : Nat) (fl : Nat → List Hd) : Prop where
  len : fs.length = n
  rg : ∀ x ∈ fs, 0 ≤ x ∧ x < 16
  x : ∀ f, f < 16 → ∀ x ∈ fl f, 0 ≤ x.num ∧ x.num < n ∧ fs.getD x.num.toNat 0 = f ∧ last f ≤ x.num
  up : ∀ f, f < 16 → ((fl f).map Hd.num).Pairwise (· < ·)
theorem OInv.sub {fs : List Int} {last : Nat → Int} {n : Nat} {fl fl' : Nat → List Hd} (h : OInv fs last n fl) (hs : ∀ f, f < 16 → (fl' f).Sublist (fl f)) : OInv fs last n fl' :=
  ⟨h.len, h.rg, fun f hf x hx => h.x f hf x ((hs f hf).subset hx), fun f hf => (h.up f hf).sublist ((hs f hf).map _)⟩
theorem OInv.put {fs : List Int} {last : Nat → Int} {n : Nat} {fl : Nat → List Hd} (h : OInv fs last n fl) (hlast : ∀ f, f < 16 → last f ≤ n) (it : It) (hf : 0 ≤ it.flow ∧ it.flow < 16) : OInv (fs ++ [it.flow]) last (n + 1) (fun f => if it.flow = f then fl f ++ [⟨it, n⟩] else fl f) := by
  have hold : ∀ f, f < 16 → ∀ x ∈ fl f, 0 ≤ x.num ∧ x.num < (n + 1 : Nat) ∧ (fs ++ [it.flow]).getD x.num.toNat 0 = f ∧ last f ≤ x.num := fun f hf x hx => by
    obtain ⟨h1, h2, h3, h4⟩ := h.x f hf x hx
    refine ⟨h1, by omega, ?_, h4⟩
    rw [List.getD, List.getElem?_append_left (by have := h.len; omega)]
    exact h3
  refine ⟨by simp [h.len], fun x hx => ?_, fun f hf2 x hx => ?_, fun f hf2 => ?_⟩
  · rcases List.mem_append.1 hx with hx | hx
    · exact h.rg x hx
    · rw [List.mem_singleton] at hx; subst hx; exact hf
  · split at hx
    · rename_i e
      rcases List.mem_append.1 hx with hx | hx
      · exact hold f hf2 x hx
      · rw [List.mem_singleton] at hx
        subst hx
        refine ⟨Int.natCast_nonneg _, by show (n : Int) < _; omega, ?_, hlast f hf2⟩
        show (fs ++ [it.flow]).getD (n : Int).toNat 0 = f
        rw [Int.toNat_natCast, List.getD, List.getElem?_append_right (by have := h.len; omega), h.len, Nat.sub_self]
        exact e
    · exact hold f hf2 x hx
  · split
    · rw [List.map_append]
      exact pairwise_snoc (h.up f hf2) fun y hy => by
        obtain ⟨z, hz, rfl⟩ := List.mem_map.1 hy
        exact (h.x f hf2 z hz).2.1
    · exact h.up f hf2
theorem OInv.take {fs : List Int} {last : Nat → Int} {n : Nat} {fl fl' : Nat → List Hd} (h : OInv fs last n fl) (hs : ∀ f, f < 16 → (fl' f).Sublist (fl f)) {f : Nat} {x : Hd} {r : List Hd} (hf : f < 16) (e : fl f = x :: r) (hr : (fl' f).Sublist r) :
    StepO x.num last fs ∧ OInv fs (updf last ((fs.getD x.num.toNat 0).toNat) (x.num + 1)) n fl' := by
  obtain ⟨h1, h2, h3, h4⟩ := h.x f hf x (by rw [e]; simp)
  refine ⟨fun _ => ⟨by have := h.len; omega, f, hf, h3, h4⟩, h.len, h.rg, fun i hi y hy => ?_, fun i hi => (h.up i hi).sublist ((hs i hi).map _)⟩
  obtain ⟨g1, g2, g3, g4⟩ := h.x i hi y ((hs i hi).subset hy)
  refine ⟨g1, g2, g3, ?_⟩
  rw [h3, Int.toNat_natCast]
  by_cases ei : i = f
  · subst ei
    rw [updf_same]
    have hu := h.up i hi
    rw [e, List.map_cons, List.pairwise_cons] at hu
    have := hu.1 y.num (List.mem_map_of_mem (hr.subset hy))
    omega
  · rw [updf_ne _ _ ei]; exact g4
theorem ord_play {M : QM} {late : Bool} {I : M.σ → Prop} (G : M.Good late I) (O : Ordm M I) {s0 : M.σ} (hI : I s0) (h0 : M.wait s0 = []) (hf0 : ∀ f, O.fl s0 f = []) {ts : List Stp} (hts : ∀ t ∈ ts, StpOk t) : ∀ k, k ≤ ts.length →
    OInv (flowTo ts k) (lastF ts (seenAt M s0 ts) k) (nth M s0 ts k).1 (O.fl (nth M s0 ts k).2) ∧ (∀ f, lastF ts (seenAt M s0 ts) k f ≤ (nth M s0 ts k).1) ∧
    ∀ i, i < k → StepO (seenAt M s0 ts i).taken (lastF ts (seenAt M s0 ts) i) (flowTo ts (i + 1))
  | 0, _ => by
    refine ⟨⟨rfl, fun x hx => by simp [flowTo] at hx, fun f _ x hx => ?_, fun f _ => ?_⟩, fun f => Int.le_refl _, fun i hi => absurd hi (by omega)⟩
    · have hx' : x ∈ O.fl s0 f := hx
      rw [hf0] at hx'; simp at hx'
    · show ((O.fl s0 f).map Hd.num).Pairwise _
      rw [hf0]; simp
  | k + 1, hk => by
    obtain ⟨h1, hl, h2⟩ := ord_play G O hI h0 hf0 hts k (by omega)
    have ek : ts[k]? = some ts[k] := List.getElem?_eq_getElem (by omega)
    have en := nth_succ M s0 ek
    have es := seenAt_of M s0 ek
    have ef := flowTo_succ ek
    have hIk := (good_nth G hI h0 hts k).1
    have el : lastF ts (seenAt M s0 ts) (k + 1) = if 0 ≤ (seenAt M s0 ts k).taken then updf (lastF ts (seenAt M s0 ts) k) ((flowTo ts (k + 1)).getD (seenAt M s0 ts k).taken.toNat 0).toNat ((seenAt M s0 ts k).taken + 1) else lastF ts (seenAt M s0 ts) k := rfl
    suffices hs : OInv (flowTo ts (k + 1)) (lastF ts (seenAt M s0 ts) (k + 1)) (nth M s0 ts (k + 1)).1 (O.fl (nth M s0 ts (k + 1)).2) ∧ (∀ f, lastF ts (seenAt M s0 ts) (k + 1) f ≤ (nth M s0 ts (k + 1)).1) ∧ StepO (seenAt M s0 ts k).taken (lastF ts (seenAt M s0 ts) k) (flowTo ts (k + 1)) by
      refine ⟨hs.1, hs.2.1, fun i hi => ?_⟩
      rcases Nat.lt_or_ge i k with h' | h'
      · exact h2 i h'
      · obtain rfl : i = k := by omega
        exact hs.2.2
    rw [el, en, ef, es]
    clear en ef es el h2
    generalize lastF ts (seenAt M s0 ts) k = last at *
    generalize flowTo ts k = fs at *
    generalize nth M s0 ts k = ns at *
    obtain ⟨n, s⟩ := ns
    dsimp only at h1 hl hIk ⊢
    have ht := hts _ (List.getElem_mem (show k < ts.length by omega))
    generalize ts[k] = t at *
    by_cases c0 : t.what = 0
    · rw [stepM_put c0]
      obtain ⟨ho, _⟩ := ht c0
      have hfl := (okB_fine.1 ho).f2
      have hp := O.put s t.later ⟨t.it, n⟩ hIk ho
      rw [if_pos c0]
      dsimp only
      rw [if_neg (show ¬ (0 : Int) ≤ -1 by decide)]
      refine ⟨(h1.put (fun f _ => hl f) t.it (by omega)).sub hp, fun f => by have := hl f; show last f ≤ ((n + 1 : Nat) : Int); omega, fun h => absurd h (by show ¬ (0 : Int) ≤ -1; decide)⟩
    · by_cases c1 : t.what = 1
      · rw [stepM_take c1, if_neg c0]
        obtain ⟨g1, g2⟩ := O.take s t.later hIk
        dsimp only
        cases hx : (M.take t.later s).1 with
        | none =>
          rw [if_neg (by show ¬ (0 : Int) ≤ -1; decide)]
          exact ⟨h1.sub g1, hl, fun h => absurd h (by show ¬ (0 : Int) ≤ -1; decide)⟩
        | some x =>
          obtain ⟨f, r, hf, e1, e2⟩ := g2 x hx
          obtain ⟨k1, k2⟩ := h1.take g1 hf e1 e2
          obtain ⟨q1, q2, q3, q4⟩ := h1.x f hf x (by rw [e1]; simp)
          rw [show tkn (some x) = x.num from rfl, if_pos (show (0 : Int) ≤ x.num from q1)]
          refine ⟨k2, fun i => ?_, k1⟩
          show updf last _ (x.num + 1) i ≤ (n : Int)
          by_cases ei : i = (fs.getD x.num.toNat 0).toNat
          · rw [ei, updf_same]; omega
          · rw [updf_ne _ _ ei]; exact hl i
      · rw [stepM_when c0 c1, if_neg c0, if_neg (by show ¬ (0 : Int) ≤ -1; decide)]
        exact ⟨h1.sub (O.when_ s t.later hIk), hl, fun h => absurd h (by show ¬ (0 : Int) ≤ -1; decide)⟩

/-- flows that take turns keep each flow's order -/
def fair_ord (Q : Nat → Int) (hQ : QOk Q) (room : Int) : Ordm (fairM Q room) RI where
  fl := fun s f => s.L f
  put := fun s now x h ho f hf => by
    show (((putR room x s).2).L f).Sublist _
    have hfl := (okB_fine.1 ho).f2
    unfold putR
    by_cases c : room ≤ ((s.L x.it.flow.toNat).length : Int)
    · rw [if_pos c]
      split
      · exact List.sublist_append_left _ _
      · exact List.Sublist.refl _
    · rw [if_neg c]
      show (updf s.L x.it.flow.toNat (s.L x.it.flow.toNat ++ [x]) f).Sublist _
      by_cases e : x.it.flow = f
      · have e2 : x.it.flow.toNat = f := by omega
        rw [if_pos e, e2, updf_same]
        exact List.Sublist.refl _
      · have e2 : f ≠ x.it.flow.toNat := by omega
        rw [if_neg e, updf_ne _ _ e2]
        exact List.Sublist.refl _
  take := fun s now h => by
    have ht := takeR_ok hQ (measR s + 1) s h (by omega)
    show (∀ f, f < 16 → ((takeR Q (measR s + 1) s).2.L f).Sublist (s.L f)) ∧ ∀ x, (takeR Q (measR s + 1) s).1 = some x → ∃ f r, f < 16 ∧ s.L f = x :: r ∧ ((takeR Q (measR s + 1) s).2.L f).Sublist r
    by_cases hT : s.T = []
    · rw [ht.none_ hT]
      exact ⟨fun f _ => List.Sublist.refl _, fun x e => by cases e⟩
    · obtain ⟨x, f, e1, hf, e2, e3⟩ := ht.some_ hT
      refine ⟨fun i _ => ?_, fun y ey => ?_⟩
      · by_cases ei : i = f
        · subst ei; rw [e2]; exact List.sublist_cons_self _ _
        · rw [e3 i ei]; exact List.Sublist.refl _
      · rw [e1] at ey; injection ey with ey; subst ey
        exact ⟨f, _, hf, e2, List.Sublist.refl _⟩
  when_ := fun s now h f _ => List.Sublist.refl _
end Pl
end Go.Proofs.Ythhgbpbaihgogaa
