/-
  Plain law of flows that are put together by a hash: the machine, that it loses nothing, that each flow keeps its order, that a longest list pays.
-/
import Derived.Test.YthhgbpbaihgogaaOrdLaw
namespace Go.Proofs.Ythhgbpbaihgogaa
open Bkt
namespace Pl
set_option linter.unusedVariables false

structure HS where
  L : Nat → List Hd
  T : List Nat
structure HP where
  m : Nat
  salt : Int
  room : Int
structure HPOk (P : HP) : Prop where
  m : 1 ≤ P.m ∧ P.m ≤ 64
  salt : 0 ≤ P.salt ∧ P.salt ≤ 1000000
  room : 1 ≤ P.room ∧ P.room ≤ 1000000
/-- the list of a flow -/
def whr (P : HP) (f : Int) : Nat := ((f * 31 + P.salt * 7 + f * P.salt) % (P.m : Int)).toNat
theorem whr_lt {P : HP} (h : HPOk P) (f : Int) : whr P f < P.m := by
  have h1 := h.m
  have h2 := Int.emod_lt_of_pos (f * 31 + P.salt * 7 + f * P.salt) (show (0 : Int) < P.m by omega)
  have h3 := Int.emod_nonneg (f * 31 + P.salt * 7 + f * P.salt) (show (P.m : Int) ≠ 0 by omega)
  unfold whr
  omega
def waitH (m : Nat) (s : HS) : List (Int × Int) := (List.range m).flatMap fun k => (s.L k).map key
/-- the first one of the longest lists, of so many -/
def lngTo (L : Nat → List Hd) : Nat → Nat
  | 0 => 0
  | i + 1 => if (L (lngTo L i)).length < (L i).length then i else lngTo L i
theorem lngTo_lt (L : Nat → List Hd) : ∀ i, 0 < i → lngTo L i < i
  | 1, _ => by unfold lngTo lngTo; split <;> omega
  | i + 2, _ => by
    have := lngTo_lt L (i + 1) (by omega)
    rw [lngTo]
    split <;> omega
theorem lngTo_max (L : Nat → List Hd) : ∀ i j, j < i → (L j).length ≤ (L (lngTo L i)).length
  | i + 1, j, h => by
    rw [lngTo]
    split
    · rename_i h1
      rcases Nat.lt_or_ge j i with h2 | h2
      · have := lngTo_max L i j h2; omega
      · obtain rfl : j = i := by omega
        exact Nat.le_refl _
    · rename_i h1
      rcases Nat.lt_or_ge j i with h2 | h2
      · exact lngTo_max L i j h2
      · obtain rfl : j = i := by omega
        omega
/-- behind the packet that comes -/
def addH (k : Nat) (x : Hd) (s : HS) : HS := ⟨updf s.L k (s.L k ++ [x]), if (s.L k).length = 0 then s.T ++ [k] else s.T⟩
/-- the last one of a list goes -/
def cutH (j : Nat) (s : HS) : HS := ⟨updf s.L j (s.L j).dropLast, if (s.L j).length = 1 then s.T.erase j else s.T⟩
def putH (P : HP) (x : Hd) (s : HS) : List Hd × HS :=
  if ((waitH P.m (addH (whr P x.it.flow) x s)).length : Int) ≤ P.room then ([], addH (whr P x.it.flow) x s)
  else (((addH (whr P x.it.flow) x s).L (lngTo (addH (whr P x.it.flow) x s).L P.m)).getLast?.toList, cutH (lngTo (addH (whr P x.it.flow) x s).L P.m) (addH (whr P x.it.flow) x s))
def takeH (s : HS) : Option Hd × HS := match s.T with
  | [] => (none, s)
  | k :: T => match s.L k with
    | [] => (none, s)
    | x :: r => (some x, ⟨updf s.L k r, if 0 < r.length then T ++ [k] else T⟩)
def hashM (P : HP) : QM where
  σ := HS
  put := fun _ x s => putH P x s
  take := fun _ s => ((takeH s).1, [], (takeH s).2)
  when_ := fun now s => (if 0 < (waitH P.m s).length then some now else none, s)
  wait := waitH P.m
  len := fun s => (waitH P.m s).length
  bytes := fun s => sumLen (waitH P.m s)

structure HI0 (P : HP) (s : HS) : Prop where
  nd : s.T.Nodup
  ne : ∀ k ∈ s.T, k < P.m ∧ s.L k ≠ []
  im : ∀ k, k < P.m → s.L k ≠ [] → k ∈ s.T
  b : ∀ k, k < P.m → ∀ x ∈ s.L k, 0 ≤ x.it.len ∧ x.it.len ≤ 10000 ∧ 0 ≤ x.it.flow ∧ x.it.flow < 16 ∧ whr P x.it.flow = k
structure HI (P : HP) (s : HS) : Prop where
  h : HI0 P s
  rm : ((waitH P.m s).length : Int) ≤ P.room
theorem HI0.add {P : HP} (hP : HPOk P) {s : HS} (h : HI0 P s) {x : Hd} (hx : okB x.it = true) : HI0 P (addH (whr P x.it.flow) x s) := by
  have hb := okB_fine.1 hx
  have hk := whr_lt hP x.it.flow
  have h1 := hb.f1; have h2 := hb.f2
  generalize hw : whr P x.it.flow = k at *
  have hL : ∀ i, updf s.L k (s.L k ++ [x]) i ≠ [] ↔ (i = k ∨ s.L i ≠ []) := fun i => by
    by_cases e : i = k
    · subst e; rw [updf_same]; simp
    · rw [updf_ne _ _ e]; simp [e]
  unfold addH
  refine ⟨?_, fun i hi => ?_, fun i hi hi2 => ?_, fun i hi y hy => ?_⟩
  · show (if (s.L k).length = 0 then s.T ++ [k] else s.T).Nodup
    split
    · rename_i h0
      have h0' := List.eq_nil_of_length_eq_zero h0
      rw [List.nodup_append]
      refine ⟨h.nd, by simp, fun a ha b hb e => ?_⟩
      rw [List.mem_singleton] at hb
      subst hb e
      exact (h.ne a ha).2 h0'
    · exact h.nd
  · have hi' : i ∈ (if (s.L k).length = 0 then s.T ++ [k] else s.T) := hi
    show i < P.m ∧ updf s.L k (s.L k ++ [x]) i ≠ []
    split at hi'
    · rcases List.mem_append.1 hi' with e | e
      · exact ⟨(h.ne i e).1, (hL i).2 (.inr (h.ne i e).2)⟩
      · rw [List.mem_singleton] at e; subst e; exact ⟨hk, (hL i).2 (.inl rfl)⟩
    · exact ⟨(h.ne i hi').1, (hL i).2 (.inr (h.ne i hi').2)⟩
  · show i ∈ (if (s.L k).length = 0 then s.T ++ [k] else s.T)
    have hi2' : updf s.L k (s.L k ++ [x]) i ≠ [] := hi2
    split
    · rcases (hL i).1 hi2' with e | e
      · subst e; simp
      · exact List.mem_append_left _ (h.im i hi e)
    · rename_i h0
      rcases (hL i).1 hi2' with e | e
      · subst e; exact h.im i hi (fun e => h0 (by rw [e]; rfl))
      · exact h.im i hi e
  · have hy' : y ∈ updf s.L k (s.L k ++ [x]) i := hy
    by_cases e : i = k
    · subst e
      rw [updf_same] at hy'
      rcases List.mem_append.1 hy' with hy2 | hy2
      · exact h.b i hi y hy2
      · rw [List.mem_singleton] at hy2; subst hy2; refine ⟨by omega, by omega, by omega, by omega, hw⟩
    · rw [updf_ne _ _ e] at hy'; exact h.b i hi y hy'
theorem HI0.cut {P : HP} {s : HS} (h : HI0 P s) {j : Nat} (hj : j < P.m) : HI0 P (cutH j s) := by
  have hL : ∀ i, updf s.L j (s.L j).dropLast i ≠ [] → s.L i ≠ [] := fun i hi => by
    by_cases e : i = j
    · subst e; rw [updf_same] at hi; intro e2; rw [e2] at hi; exact hi rfl
    · rw [updf_ne _ _ e] at hi; exact hi
  unfold cutH
  refine ⟨?_, fun i hi => ?_, fun i hi hi2 => ?_, fun i hi y hy => ?_⟩
  · show (if (s.L j).length = 1 then s.T.erase j else s.T).Nodup
    split
    · exact h.nd.erase j
    · exact h.nd
  · have hi' : i ∈ (if (s.L j).length = 1 then s.T.erase j else s.T) := hi
    show i < P.m ∧ updf s.L j (s.L j).dropLast i ≠ []
    split at hi'
    · have h1 := (h.nd.mem_erase_iff).1 hi'
      rw [updf_ne _ _ h1.1]
      exact h.ne i h1.2
    · rename_i h1
      refine ⟨(h.ne i hi').1, ?_⟩
      by_cases e : i = j
      · subst e
        rw [updf_same]
        intro e2
        have h2 := congrArg List.length e2
        rw [List.length_dropLast] at h2
        have h3 := (h.ne i hi').2
        have h4 : (s.L i).length ≠ 0 := fun e => h3 (List.eq_nil_of_length_eq_zero e)
        simp at h2
        omega
      · rw [updf_ne _ _ e]; exact (h.ne i hi').2
  · show i ∈ (if (s.L j).length = 1 then s.T.erase j else s.T)
    have hi2' : updf s.L j (s.L j).dropLast i ≠ [] := hi2
    have hm := h.im i hi (hL i hi2')
    split
    · rename_i h1
      refine (h.nd.mem_erase_iff).2 ⟨fun e => ?_, hm⟩
      subst e
      rw [updf_same] at hi2'
      exact hi2' (List.eq_nil_of_length_eq_zero (by rw [List.length_dropLast]; omega))
    · exact hm
  · have hy' : y ∈ updf s.L j (s.L j).dropLast i := hy
    by_cases e : i = j
    · subst e; rw [updf_same] at hy'; exact h.b i hi y (List.dropLast_subset _ hy')
    · rw [updf_ne _ _ e] at hy'; exact h.b i hi y hy'
theorem wait_add {m k : Nat} (hk : k < m) (x : Hd) (s : HS) : (waitH m s ++ [key x]).Perm (waitH m (addH k x s)) := by
  obtain ⟨R, h1, h2⟩ := flat_upd k (G := fun i => (s.L i).map key) (G' := fun i => ((updf s.L k (s.L k ++ [x])) i).map key) (fun i hi => by rw [updf_ne _ _ hi]) (List.range m) List.nodup_range (List.mem_range.2 hk)
  rw [updf_same, List.map_append] at h2
  refine ((h1.append_right [key x]).trans ?_).trans h2.symm
  rw [List.append_assoc, List.append_assoc]
  exact List.Perm.append_left _ List.perm_append_comm
theorem wait_cut {m j : Nat} (hj : j < m) {s : HS} {l : List Hd} {y : Hd} (hL : s.L j = l ++ [y]) : (waitH m s).Perm (key y :: waitH m (cutH j s)) := by
  obtain ⟨R, h1, h2⟩ := flat_upd j (G := fun i => (s.L i).map key) (G' := fun i => ((updf s.L j (s.L j).dropLast) i).map key) (fun i hi => by rw [updf_ne _ _ hi]) (List.range m) List.nodup_range (List.mem_range.2 hj)
  rw [updf_same] at h2
  have h3 : ((s.L j).dropLast.map key) = l.map key := by rw [hL, List.dropLast_concat]
  rw [h3] at h2
  rw [hL, List.map_append] at h1
  refine (h1.trans ?_).trans (List.Perm.cons _ h2.symm)
  rw [List.append_assoc]
  exact List.perm_middle
theorem wait_next {m k : Nat} (hk : k < m) {s s' : HS} {x : Hd} {r : List Hd} (hL : s.L k = x :: r) (hs : s'.L = updf s.L k r) : (waitH m s).Perm (key x :: waitH m s') := by
  obtain ⟨R, h1, h2⟩ := flat_upd k (G := fun i => (s.L i).map key) (G' := fun i => (s'.L i).map key) (fun i hi => by rw [hs, updf_ne _ _ hi]) (List.range m) List.nodup_range (List.mem_range.2 hk)
  rw [hs, updf_same, ← hs] at h2
  rw [hL, List.map_cons] at h1
  exact h1.trans (List.Perm.cons _ h2.symm)
/-- the longest list is not empty -/
theorem lng_some {m : Nat} {s : HS} (h : 0 < (waitH m s).length) : lngTo s.L m < m ∧ ∃ l y, s.L (lngTo s.L m) = l ++ [y] := by
  have hm : 0 < m := by
    rcases Nat.eq_zero_or_pos m with e | e
    · subst e; simp [waitH] at h
    · exact e
  refine ⟨lngTo_lt _ m hm, ?_⟩
  have hne : s.L (lngTo s.L m) ≠ [] := fun e => by
    have : waitH m s = [] := by
      unfold waitH
      rw [List.flatMap_eq_nil_iff]
      intro k hk
      have h1 := lngTo_max s.L m k (List.mem_range.1 hk)
      rw [e] at h1
      have h2 : s.L k = [] := List.eq_nil_of_length_eq_zero (by simpa using h1)
      rw [h2]
      rfl
    rw [this] at h
    simp at h
  exact ⟨_, _, (List.dropLast_concat_getLast hne).symm⟩
/-- what a Put does -/
structure PtH (P : HP) (s : HS) (x : Hd) (r : List Hd × HS) : Prop where
  hi : HI P r.2
  ways : (((waitH P.m (addH (whr P x.it.flow) x s)).length : Int) ≤ P.room ∧ r = ([], addH (whr P x.it.flow) x s)) ∨
    (¬ ((waitH P.m (addH (whr P x.it.flow) x s)).length : Int) ≤ P.room ∧ lngTo (addH (whr P x.it.flow) x s).L P.m < P.m ∧ ∃ l y, (addH (whr P x.it.flow) x s).L (lngTo (addH (whr P x.it.flow) x s).L P.m) = l ++ [y] ∧ r = ([y], cutH (lngTo (addH (whr P x.it.flow) x s).L P.m) (addH (whr P x.it.flow) x s)))
theorem putH_ok {P : HP} (hP : HPOk P) {s : HS} (h : HI P s) {x : Hd} (hx : okB x.it = true) : PtH P s x (putH P x s) := by
  have ha := h.h.add hP hx
  have hw := wait_add (whr_lt hP x.it.flow) x s
  have hl := hw.length_eq
  rw [List.length_append, List.length_singleton] at hl
  by_cases c : ((waitH P.m (addH (whr P x.it.flow) x s)).length : Int) ≤ P.room
  · have e : putH P x s = ([], addH (whr P x.it.flow) x s) := by unfold putH; rw [if_pos c]
    rw [e]
    exact ⟨⟨ha, c⟩, .inl ⟨c, rfl⟩⟩
  · obtain ⟨hj, l, y, hL⟩ := lng_some (m := P.m) (s := addH (whr P x.it.flow) x s) (by omega)
    have e : putH P x s = ([y], cutH (lngTo (addH (whr P x.it.flow) x s).L P.m) (addH (whr P x.it.flow) x s)) := by
      unfold putH
      rw [if_neg c, hL, List.getLast?_concat]
      rfl
    rw [e]
    have hc := (wait_cut hj hL).length_eq
    rw [List.length_cons] at hc
    have hrm := h.rm
    exact ⟨⟨ha.cut hj, by show ((waitH P.m (cutH _ _)).length : Int) ≤ P.room; omega⟩, .inr ⟨c, hj, l, y, hL, rfl⟩⟩
/-- what a Take does -/
structure TkH (P : HP) (s : HS) (r : Option Hd × HS) : Prop where
  hi : HI P r.2
  none_ : s.T = [] → r = (none, s)
  some_ : ∀ k T, s.T = k :: T → ∃ x q, s.L k = x :: q ∧ k < P.m ∧ r = (some x, ⟨updf s.L k q, if 0 < q.length then T ++ [k] else T⟩)
theorem takeH_ok {P : HP} {s : HS} (h : HI P s) : TkH P s (takeH s) := by
  unfold takeH
  cases hT : s.T with
  | nil => exact ⟨h, fun _ => rfl, fun k T e => (by rw [hT] at e; cases e)⟩
  | cons k T =>
    dsimp only
    have hne := h.h.ne k (by rw [hT]; simp)
    have hnd := h.h.nd
    rw [hT, List.nodup_cons] at hnd
    cases hL : s.L k with
    | nil => exact absurd hL hne.2
    | cons x r =>
      dsimp only
      have hw := (wait_next hne.1 (s' := ⟨updf s.L k r, if 0 < r.length then T ++ [k] else T⟩) hL rfl).length_eq
      rw [List.length_cons] at hw
      have hmem : ∀ i, i ∈ (if 0 < r.length then T ++ [k] else T) → i ∈ s.T ∧ (i = k → 0 < r.length) := fun i hi => by
        rw [hT]
        split at hi
        · rename_i h0
          rcases List.mem_append.1 hi with e | e
          · exact ⟨by simp [e], fun _ => h0⟩
          · rw [List.mem_singleton] at e; exact ⟨by simp [e], fun _ => h0⟩
        · exact ⟨by simp [hi], fun e => absurd (e ▸ hi) hnd.1⟩
      refine ⟨⟨⟨?_, fun i hi => ?_, fun i hi hi2 => ?_, fun i hi y hy => ?_⟩, by have := h.rm; show ((waitH P.m ⟨updf s.L k r, if 0 < r.length then T ++ [k] else T⟩).length : Int) ≤ P.room; omega⟩, fun e => (by rw [hT] at e; cases e), fun k' T' e => ?_⟩
      · show (if 0 < r.length then T ++ [k] else T).Nodup
        split
        · rw [List.nodup_append]
          refine ⟨hnd.2, by simp, fun a ha b hb e => ?_⟩
          rw [List.mem_singleton] at hb
          subst hb e
          exact hnd.1 ha
        · exact hnd.2
      · obtain ⟨h1, h2⟩ := hmem i hi
        refine ⟨(h.h.ne i h1).1, ?_⟩
        show updf s.L k r i ≠ []
        by_cases e : i = k
        · subst e; rw [updf_same]; intro e2; have := h2 rfl; rw [e2] at this; simp at this
        · rw [updf_ne _ _ e]; exact (h.h.ne i h1).2
      · have hi2' : updf s.L k r i ≠ [] := hi2
        show i ∈ (if 0 < r.length then T ++ [k] else T)
        by_cases e : i = k
        · subst e
          rw [updf_same] at hi2'
          rw [if_pos (by cases r with | nil => exact absurd rfl hi2' | cons _ _ => simp)]
          simp
        · rw [updf_ne _ _ e] at hi2'
          have hm := h.h.im i hi hi2'
          rw [hT] at hm
          rcases List.mem_cons.1 hm with e2 | e2
          · exact absurd e2 e
          · split
            · exact List.mem_append_left _ e2
            · exact e2
      · have hy' : y ∈ updf s.L k r i := hy
        by_cases e : i = k
        · subst e; rw [updf_same] at hy'; exact h.h.b i hi y (by rw [hL]; simp [hy'])
        · rw [updf_ne _ _ e] at hy'; exact h.h.b i hi y hy'
      · rw [hT] at e
        injection e with e1 e2
        subst e1 e2
        exact ⟨x, r, hL, hne.1, rfl⟩
theorem hash_good (P : HP) (hP : HPOk P) : (hashM P).Good false (HI P) where
  put := fun s now x h ho ha => by
    have hp := putH_ok hP h ho
    refine ⟨hp.hi, ?_⟩
    show (waitH P.m s ++ [key x]).Perm ((putH P x s).1.map key ++ waitH P.m (putH P x s).2)
    have hw := wait_add (whr_lt hP x.it.flow) x s
    rcases hp.ways with ⟨_, e⟩ | ⟨_, hj, l, y, hL, e⟩
    · rw [e]; exact hw
    · rw [e]; exact hw.trans (wait_cut hj hL)
  take := fun s now h => by
    have ht := takeH_ok h
    refine ⟨ht.hi, ?_⟩
    show (waitH P.m s).Perm ([] ++ ((takeH s).1.toList.map key ++ waitH P.m (takeH s).2))
    rw [List.nil_append]
    cases hT : s.T with
    | nil => rw [ht.none_ hT]; exact List.Perm.refl _
    | cons k T =>
      obtain ⟨x, q, e1, hk, e2⟩ := ht.some_ k T hT
      rw [e2]
      exact wait_next hk e1 rfl
  when_ := fun s now h => ⟨h, List.Perm.refl _⟩
  len := fun s h => ⟨Int.le_refl _, Int.le_refl _, fun _ => ⟨rfl, rfl⟩⟩
/-- the flow's packets, in its list -/
def flH (P : HP) (s : HS) (f : Nat) : List Hd := (s.L (whr P (f : Int))).filter fun x => x.it.flow == (f : Int)
theorem flH_sub {P : HP} {s s' : HS} {f : Nat} (h : ∀ i, (s'.L i).Sublist (s.L i)) : (flH P s' f).Sublist (flH P s f) := (h _).filter _
theorem flH_add (P : HP) (s : HS) (x : Hd) (f : Nat) : flH P (addH (whr P x.it.flow) x s) f = if x.it.flow = f then flH P s f ++ [x] else flH P s f := by
  unfold flH addH
  by_cases e : x.it.flow = f
  · rw [if_pos e, e]
    dsimp only
    rw [updf_same, List.filter_append]
    simp [e]
  · rw [if_neg e]
    dsimp only
    by_cases e2 : whr P (f : Int) = whr P x.it.flow
    · rw [e2, updf_same, List.filter_append]
      simp [e]
    · rw [updf_ne _ _ e2]
theorem cut_sub (j : Nat) (s : HS) : ∀ i, ((cutH j s).L i).Sublist (s.L i) := fun i => by
  show (updf s.L j (s.L j).dropLast i).Sublist _
  by_cases e : i = j
  · subst e; rw [updf_same]; exact List.dropLast_sublist _
  · rw [updf_ne _ _ e]; exact List.Sublist.refl _
theorem put_sub {P : HP} (hP : HPOk P) {s : HS} (h : HI P s) {x : Hd} (ho : okB x.it = true) (f : Nat) : (flH P (putH P x s).2 f).Sublist (if x.it.flow = f then flH P s f ++ [x] else flH P s f) := by
  rw [← flH_add]
  rcases (putH_ok hP h ho).ways with ⟨_, e⟩ | ⟨_, hj, l, y, hL, e⟩
  · rw [e]; exact List.Sublist.refl _
  · rw [e]; exact flH_sub (cut_sub _ _)
def hash_ord (P : HP) (hP : HPOk P) : Ordm (hashM P) (HI P) where
  fl := flH P
  put := fun s now x h ho f hf => by
    exact put_sub hP h ho f
  take := fun s now h => by
    have ht := takeH_ok h
    show (∀ f, f < 16 → (flH P (takeH s).2 f).Sublist (flH P s f)) ∧ ∀ x, (takeH s).1 = some x → ∃ f r, f < 16 ∧ flH P s f = x :: r ∧ (flH P (takeH s).2 f).Sublist r
    cases hT : s.T with
    | nil => rw [ht.none_ hT]; exact ⟨fun f _ => List.Sublist.refl _, fun x e => by cases e⟩
    | cons k T =>
      obtain ⟨x, q, e1, hk, e2⟩ := ht.some_ k T hT
      rw [e2]
      refine ⟨fun f _ => flH_sub fun i => ?_, fun y ey => ?_⟩
      · show (updf s.L k q i).Sublist _
        by_cases e : i = k
        · subst e; rw [updf_same, e1]; exact List.sublist_cons_self _ _
        · rw [updf_ne _ _ e]; exact List.Sublist.refl _
      · injection ey with ey
        subst ey
        obtain ⟨_, _, hf0, hf1, hwx⟩ := h.h.b k hk x (by rw [e1]; simp)
        have hfe : ((x.it.flow.toNat : Nat) : Int) = x.it.flow := by omega
        refine ⟨x.it.flow.toNat, q.filter fun y => y.it.flow == ((x.it.flow.toNat : Nat) : Int), by omega, ?_, ?_⟩
        · unfold flH
          rw [hfe, hwx, e1, List.filter_cons, if_pos (by simp)]
        · unfold flH
          show ((updf s.L k q (whr P ((x.it.flow.toNat : Nat) : Int))).filter _).Sublist _
          rw [hfe, hwx, updf_same]
          exact List.Sublist.refl _
  when_ := fun s now h f _ => List.Sublist.refl _
end Pl
end Go.Proofs.Ythhgbpbaihgogaa
