/-
  Plain law of bands: queues, the first of which goes first: the machine, that it loses nothing, that nothing of a band is taken while anything of a band ahead waits.
-/
import Derived.Test.YthhgbpbaihgogaaFifoLaw
import Derived.Test.YthhgbpbaihgogaaRndLaw
namespace Go.Proofs.Ythhgbpbaihgogaa
open Bkt
namespace Pl
set_option linter.unusedVariables false

def bP : FP := ⟨20, 1000000, false⟩
theorem bP_ok : FOk bP := ⟨by decide, by decide⟩
/-- the band of a packet, of m -/
def bOf (m : Nat) (x : It) : Nat := min x.band.toNat (m - 1)
def waitB (m : Nat) (s : Nat → List Hd) : List (Int × Int) := (List.range m).flatMap fun i => (s i).map key
/-- the first band of k that has something, from i on -/
def firstB (s : Nat → List Hd) (i : Nat) : Nat → Option Nat
  | 0 => none
  | n + 1 => if s i = [] then firstB s (i + 1) n else some i
def takeB (m : Nat) (s : Nat → List Hd) : Option Hd × (Nat → List Hd) := match firstB s 0 m with
  | none => (none, s)
  | some i => match s i with
    | [] => (none, s)
    | x :: r => (some x, updf s i r)
def putB (m : Nat) (x : Hd) (s : Nat → List Hd) : List Hd × (Nat → List Hd) := ((fputL bP x (s (bOf m x.it))).1, updf s (bOf m x.it) (fputL bP x (s (bOf m x.it))).2)
def bandM (m : Nat) : QM where
  σ := Nat → List Hd
  put := fun _ x s => putB m x s
  take := fun _ s => ((takeB m s).1, [], (takeB m s).2)
  when_ := fun now s => (if (firstB s 0 m).isSome then some now else none, s)
  wait := waitB m
  len := fun s => (waitB m s).length
  bytes := fun s => sumLen (waitB m s)
theorem firstB_none {s : Nat → List Hd} : ∀ {n i : Nat}, firstB s i n = none → ∀ j, i ≤ j → j < i + n → s j = []
  | 0, i, _, j, h1, h2 => absurd h2 (by omega)
  | n + 1, i, h, j, h1, h2 => by
    rw [firstB] at h
    by_cases e : s i = []
    · rw [if_pos e] at h
      by_cases e2 : j = i
      · subst e2; exact e
      · exact firstB_none h j (by omega) (by omega)
    · rw [if_neg e] at h; cases h
theorem firstB_some {s : Nat → List Hd} : ∀ {n i k : Nat}, firstB s i n = some k → i ≤ k ∧ k < i + n ∧ s k ≠ [] ∧ ∀ j, i ≤ j → j < k → s j = []
  | 0, i, k, h => by cases h
  | n + 1, i, k, h => by
    rw [firstB] at h
    by_cases e : s i = []
    · rw [if_pos e] at h
      obtain ⟨h1, h2, h3, h4⟩ := firstB_some h
      refine ⟨by omega, by omega, h3, fun j h5 h6 => ?_⟩
      by_cases e2 : j = i
      · subst e2; exact e
      · exact h4 j (by omega) h6
    · rw [if_neg e] at h
      injection h with h
      subst h
      exact ⟨Nat.le_refl _, by omega, e, fun j h5 h6 => by omega⟩
structure BI (m : Nat) (s : Nat → List Hd) : Prop where
  n : ∀ i, i < m → (s i).length ≤ 20
  b : ∀ i, i < m → ∀ x ∈ s i, 0 ≤ x.it.len ∧ x.it.len ≤ 10000 ∧ bOf m x.it = i
theorem bOf_lt {m : Nat} (h : 0 < m) (x : It) : bOf m x < m := by unfold bOf; omega
theorem fput_ways (x : Hd) (l : List Hd) : fputL bP x l = ([x], l) ∧ (20 ≤ l.length ∨ 1000000 < tot l + x.it.len) ∨ fputL bP x l = ([], l ++ [x]) ∧ l.length < 20 := by
  unfold fputL
  rw [if_pos (show bP.head = false from rfl)]
  by_cases c : bP.packets ≤ (l.length : Int) ∨ bP.room < tot l + x.it.len
  · rw [if_pos c]
    exact .inl ⟨rfl, c.imp (fun h => by have : (20 : Int) ≤ l.length := h; omega) (fun h => h)⟩
  · rw [if_neg c]
    refine .inr ⟨rfl, ?_⟩
    have h1 : ¬ (20 : Int) ≤ (l.length : Int) := fun h => c (.inl h)
    omega
theorem bI_put {m : Nat} (hm : 0 < m) {s : Nat → List Hd} (h : BI m s) {x : Hd} (hx : okB x.it = true) : BI m (putB m x s).2 := by
  have hb := okB_fine.1 hx
  have h1 := hb.f1
  have hk := bOf_lt hm x.it
  refine ⟨fun i hi => ?_, fun i hi y hy => ?_⟩
  · show (updf s (bOf m x.it) (fputL bP x (s (bOf m x.it))).2 i).length ≤ 20
    by_cases e : i = bOf m x.it
    · subst e
      rw [updf_same]
      rcases fput_ways x (s (bOf m x.it)) with ⟨e, _⟩ | ⟨e, h2⟩
      · rw [e]; exact h.n _ hk
      · rw [e]; simp; omega
    · rw [updf_ne _ _ e]; exact h.n i hi
  · have hy' : y ∈ updf s (bOf m x.it) (fputL bP x (s (bOf m x.it))).2 i := hy
    by_cases e : i = bOf m x.it
    · subst e
      rw [updf_same] at hy'
      rcases fput_ways x (s (bOf m x.it)) with ⟨e, _⟩ | ⟨e, h2⟩
      · rw [e] at hy'; exact h.b _ hk y hy'
      · rw [e] at hy'
        rcases List.mem_append.1 hy' with hy2 | hy2
        · exact h.b _ hk y hy2
        · rw [List.mem_singleton] at hy2; subst hy2; exact ⟨by omega, by omega, rfl⟩
    · rw [updf_ne _ _ e] at hy'; exact h.b i hi y hy'
/-- what a Take does -/
theorem takeB_ways (m : Nat) (s : Nat → List Hd) : (takeB m s = (none, s) ∧ ∀ i, i < m → s i = []) ∨ ∃ i x r, i < m ∧ s i = x :: r ∧ (∀ j, j < i → s j = []) ∧ takeB m s = (some x, updf s i r) := by
  unfold takeB
  cases hf : firstB s 0 m with
  | none => exact .inl ⟨rfl, fun i hi => firstB_none hf i (by omega) (by omega)⟩
  | some i =>
    obtain ⟨h1, h2, h3, h4⟩ := firstB_some hf
    dsimp only
    cases hs : s i with
    | nil => exact absurd hs h3
    | cons x r => exact .inr ⟨i, x, r, by omega, hs, fun j hj => h4 j (by omega) hj, rfl⟩
theorem bI_take {m : Nat} {s : Nat → List Hd} (h : BI m s) : BI m (takeB m s).2 := by
  rcases takeB_ways m s with ⟨e, _⟩ | ⟨i, x, r, hi, hs, _, e⟩
  · rw [e]; exact h
  · rw [e]
    refine ⟨fun j hj => ?_, fun j hj y hy => ?_⟩
    · show (updf s i r j).length ≤ 20
      by_cases e : j = i
      · subst e; rw [updf_same]; have := h.n j hj; rw [hs] at this; simp at this; omega
      · rw [updf_ne _ _ e]; exact h.n j hj
    · have hy' : y ∈ updf s i r j := hy
      by_cases e : j = i
      · subst e; rw [updf_same] at hy'; exact h.b j hj y (by rw [hs]; simp [hy'])
      · rw [updf_ne _ _ e] at hy'; exact h.b j hj y hy'
theorem waitB_upd {m k : Nat} (hk : k < m) (s : Nat → List Hd) (l' : List Hd) : ∃ R, (waitB m s).Perm ((s k).map key ++ R) ∧ (waitB m (updf s k l')).Perm (l'.map key ++ R) := by
  obtain ⟨R, h1, h2⟩ := flat_upd k (G := fun i => (s i).map key) (G' := fun i => (updf s k l' i).map key) (fun i hi => by rw [updf_ne _ _ hi]) (List.range m) List.nodup_range (List.mem_range.2 hk)
  rw [updf_same] at h2
  exact ⟨R, h1, h2⟩
theorem wait_putB {m : Nat} (hm : 0 < m) (x : Hd) (s : Nat → List Hd) : (waitB m s ++ [key x]).Perm ((putB m x s).1.map key ++ waitB m (putB m x s).2) := by
  have hk := bOf_lt hm x.it
  unfold putB
  generalize bOf m x.it = k at *
  obtain ⟨R, h1, h2⟩ := waitB_upd hk s (fputL bP x (s k)).2
  rcases fput_ways x (s k) with ⟨e, _⟩ | ⟨e, _⟩
  · rw [e] at h2 ⊢
    have h3 : (waitB m (updf s k (s k))).Perm (waitB m s) := h2.trans h1.symm
    exact List.perm_append_comm.trans (List.Perm.append_left _ h3.symm)
  · rw [e] at h2 ⊢
    rw [List.map_append] at h2
    refine ((h1.append_right [key x]).trans ?_).trans h2.symm
    rw [List.append_assoc, List.append_assoc]
    exact List.Perm.append_left _ List.perm_append_comm
theorem wait_takeB {m i : Nat} (hi : i < m) {s : Nat → List Hd} {x : Hd} {r : List Hd} (hs : s i = x :: r) : (waitB m s).Perm (key x :: waitB m (updf s i r)) := by
  obtain ⟨R, h1, h2⟩ := waitB_upd hi s r
  rw [hs] at h1
  exact h1.trans (List.Perm.cons _ h2.symm)
theorem band_good (m : Nat) (hm : 0 < m) : (bandM m).Good false (BI m) where
  put := fun s now x h ho ha => ⟨bI_put hm h ho, wait_putB hm x s⟩
  take := fun s now h => by
    refine ⟨bI_take h, ?_⟩
    show (waitB m s).Perm ([] ++ ((takeB m s).1.toList.map key ++ waitB m (takeB m s).2))
    rw [List.nil_append]
    rcases takeB_ways m s with ⟨e, _⟩ | ⟨i, x, r, hi, hs, _, e⟩
    · rw [e]; exact List.Perm.refl _
    · rw [e]; exact wait_takeB hi hs
  when_ := fun s now h => ⟨h, List.Perm.refl _⟩
  len := fun s h => ⟨Int.le_refl _, Int.le_refl _, fun _ => ⟨rfl, rfl⟩⟩

/-! the law's own state: of each packet its band, -1: it waits no more -/
structure BInv (m : Nat) (B : List Int) (n : Nat) (s : Nat → List Hd) : Prop where
  len : B.length = n
  w : ∀ i, i < m → ∀ x ∈ s i, 0 ≤ x.num ∧ x.num < n ∧ B.getD x.num.toNat 0 = i
  r : ∀ u, u < n → 0 ≤ B.getD u 0 → ∃ i x, i < m ∧ B.getD u 0 = (i : Int) ∧ x ∈ s i ∧ x.num = u
  up : ∀ i, i < m → ((s i).map Hd.num).Pairwise (· < ·)
/-- what is asked of a step; B, B': the law's state ahead and behind -/
structure BStep (m : Nat) (t : Stp) (sn : Seen) (B B' : List Int) : Prop where
  put : t.what = 0 → sn.taken < 0 ∧ ((sn.lost = [] ∧ B' = B ++ [((bOf m t.it : Nat) : Int)]) ∨ (sn.lost = [(B.length : Int)] ∧ B' = B ++ [-1]))
  take : t.what ≠ 0 → sn.lost = [] ∧ ((sn.taken < 0 ∧ B' = B) ∨ ∃ u : Nat, sn.taken = u ∧ u < B.length ∧ 0 ≤ B.getD u 0 ∧ B' = B.set u (-1) ∧ ∀ j, j < B.length → 0 ≤ B.getD j 0 → ¬ B.getD j 0 < B.getD u 0 ∧ (B.getD j 0 = B.getD u 0 → ¬ j < u))
theorem getD_snoc {B : List Int} {v : Int} {u : Nat} : (B ++ [v]).getD u 0 = if u < B.length then B.getD u 0 else if u = B.length then v else 0 := by
  by_cases h : u < B.length
  · rw [if_pos h, List.getD, List.getElem?_append_left h]; rfl
  · rw [if_neg h]
    by_cases e : u = B.length
    · rw [if_pos e, e, List.getD, List.getElem?_append_right (Nat.le_refl _), Nat.sub_self]; rfl
    · rw [if_neg e, List.getD, List.getElem?_eq_none (by simp; omega)]; rfl
theorem getD_set {B : List Int} {v : Int} {u j : Nat} (hu : u < B.length) : (B.set u v).getD j 0 = if j = u then v else B.getD j 0 := by
  rw [List.getD, List.getElem?_set]
  by_cases e : u = j
  · subst e; rw [if_pos rfl, if_pos hu, if_pos rfl]; rfl
  · rw [if_neg e, if_neg (Ne.symm e)]; rfl
theorem BInv.put_ {m : Nat} (hm : 0 < m) {B : List Int} {n : Nat} {s : Nat → List Hd} (h : BInv m B n s) (it : It) :
    (fputL bP ⟨it, n⟩ (s (bOf m it)) = ([], s (bOf m it) ++ [⟨it, n⟩]) ∧ BInv m (B ++ [((bOf m it : Nat) : Int)]) (n + 1) (updf s (bOf m it) (s (bOf m it) ++ [⟨it, n⟩]))) ∨
    (fputL bP ⟨it, n⟩ (s (bOf m it)) = ([⟨it, n⟩], s (bOf m it)) ∧ BInv m (B ++ [-1]) (n + 1) s) := by
  have hk := bOf_lt hm it
  have hl := h.len
  have hw : ∀ v i, i < m → ∀ x ∈ s i, 0 ≤ x.num ∧ x.num < (n + 1 : Nat) ∧ (B ++ [v]).getD x.num.toNat 0 = (i : Int) := fun v i hi x hx => by
    obtain ⟨h1, h2, h3⟩ := h.w i hi x hx
    exact ⟨h1, by omega, by rw [getD_snoc, if_pos (by omega)]; exact h3⟩
  generalize bOf m it = k at *
  rcases fput_ways ⟨it, n⟩ (s k) with ⟨e, _⟩ | ⟨e, _⟩
  · right
    refine ⟨e, ⟨by simp [hl], hw _, fun u hu hb => ?_, h.up⟩⟩
    rw [getD_snoc] at hb ⊢
    by_cases hu2 : u < B.length
    · rw [if_pos hu2] at hb ⊢
      obtain ⟨i, x, h1, h2, h3, h4⟩ := h.r u (by omega) hb
      exact ⟨i, x, h1, h2, h3, h4⟩
    · rw [if_neg hu2, if_pos (by omega)] at hb; omega
  · left
    refine ⟨e, ⟨by simp [hl], fun i hi x hx => ?_, fun u hu hb => ?_, fun i hi => ?_⟩⟩
    · have hx' : x ∈ updf s k (s k ++ [⟨it, n⟩]) i := hx
      by_cases e : i = k
      · subst e
        rw [updf_same] at hx'
        rcases List.mem_append.1 hx' with hx2 | hx2
        · exact hw _ i hi x hx2
        · rw [List.mem_singleton] at hx2
          subst hx2
          refine ⟨Int.natCast_nonneg _, by show (n : Int) < _; omega, ?_⟩
          show (B ++ [(i : Int)]).getD ((n : Int)).toNat 0 = _
          rw [Int.toNat_natCast, getD_snoc, if_neg (by omega), if_pos (by omega)]
      · rw [updf_ne _ _ e] at hx'; exact hw _ i hi x hx'
    · rw [getD_snoc] at hb ⊢
      by_cases hu2 : u < B.length
      · rw [if_pos hu2] at hb ⊢
        obtain ⟨i, x, h1, h2, h3, h4⟩ := h.r u (by omega) hb
        refine ⟨i, x, h1, h2, ?_, h4⟩
        show x ∈ updf s k (s k ++ [⟨it, n⟩]) i
        by_cases e : i = k
        · subst e; rw [updf_same]; exact List.mem_append_left _ h3
        · rw [updf_ne _ _ e]; exact h3
      · rw [if_neg hu2, if_pos (by omega)] at hb ⊢
        refine ⟨k, ⟨it, n⟩, hk, rfl, ?_, by show (n : Int) = u; omega⟩
        show _ ∈ updf s k (s k ++ [⟨it, n⟩]) k
        rw [updf_same]; simp
    · show ((updf s k (s k ++ [⟨it, n⟩]) i).map Hd.num).Pairwise _
      by_cases e : i = k
      · subst e
        rw [updf_same, List.map_append]
        exact pairwise_snoc (h.up i hi) fun y hy => by
          obtain ⟨z, hz, rfl⟩ := List.mem_map.1 hy
          exact (h.w i hi z hz).2.1
      · rw [updf_ne _ _ e]; exact h.up i hi
theorem BInv.take_ {m : Nat} {B : List Int} {n : Nat} {s : Nat → List Hd} (h : BInv m B n s) {i : Nat} {x : Hd} {r : List Hd} (hi : i < m) (hs : s i = x :: r) (hlo : ∀ j, j < i → s j = []) :
    ∃ u : Nat, x.num = u ∧ u < B.length ∧ 0 ≤ B.getD u 0 ∧ (∀ j, j < B.length → 0 ≤ B.getD j 0 → ¬ B.getD j 0 < B.getD u 0 ∧ (B.getD j 0 = B.getD u 0 → ¬ j < u)) ∧ BInv m (B.set u (-1)) n (updf s i r) := by
  obtain ⟨h1, h2, h3⟩ := h.w i hi x (by rw [hs]; simp)
  have hl := h.len
  obtain ⟨u, hu⟩ : ∃ u : Nat, x.num = u := ⟨x.num.toNat, by omega⟩
  rw [hu, Int.toNat_natCast] at h3
  have hul : u < B.length := by omega
  have hup := h.up i hi
  rw [hs, List.map_cons, List.pairwise_cons] at hup
  have hnum : ∀ k, k < m → ∀ y ∈ s k, y.num = u → k = i ∧ (y ∈ r → False) := fun k hk y hy e => by
    obtain ⟨_, _, g3⟩ := h.w k hk y hy
    rw [e, Int.toNat_natCast, h3] at g3
    refine ⟨by omega, fun hr => ?_⟩
    have := hup.1 y.num (List.mem_map_of_mem hr)
    omega
  refine ⟨u, hu, hul, by rw [h3]; omega, fun j hj hb => ?_, ⟨by simp [hl], fun k hk y hy => ?_, fun v hv hb => ?_, fun k hk => ?_⟩⟩
  · obtain ⟨k, y, hk, e1, hy, e2⟩ := h.r j (by omega) hb
    rw [h3, e1]
    have hki : ¬ k < i := fun hlt => by rw [hlo k hlt] at hy; simp at hy
    refine ⟨by omega, fun e hlt => ?_⟩
    have hk2 : k = i := by omega
    subst hk2
    rw [hs] at hy
    rcases List.mem_cons.1 hy with e3 | e3
    · subst e3; omega
    · have := hup.1 y.num (List.mem_map_of_mem e3); omega
  · have hy' : y ∈ updf s i r k := hy
    have hys : y ∈ s k ∧ ¬ y.num = u := by
      by_cases e : k = i
      · subst e
        rw [updf_same] at hy'
        have hm : y ∈ s k := by rw [hs]; simp [hy']
        exact ⟨hm, fun e => (hnum k hk y hm e).2 hy'⟩
      · rw [updf_ne _ _ e] at hy'
        exact ⟨hy', fun e2 => e (hnum k hk y hy' e2).1⟩
    obtain ⟨g1, g2, g3⟩ := h.w k hk y hys.1
    refine ⟨g1, g2, ?_⟩
    rw [getD_set hul, if_neg (by omega)]
    exact g3
  · rw [getD_set hul] at hb ⊢
    by_cases e : v = u
    · rw [if_pos e] at hb; omega
    · rw [if_neg e] at hb ⊢
      obtain ⟨k, y, hk, e1, hy, e2⟩ := h.r v hv hb
      refine ⟨k, y, hk, e1, ?_, e2⟩
      show y ∈ updf s i r k
      by_cases e3 : k = i
      · subst e3
        rw [updf_same]
        rw [hs] at hy
        rcases List.mem_cons.1 hy with e4 | e4
        · subst e4; omega
        · exact e4
      · rw [updf_ne _ _ e3]; exact hy
  · show ((updf s i r k).map Hd.num).Pairwise _
    by_cases e : k = i
    · subst e; rw [updf_same]; exact hup.2
    · rw [updf_ne _ _ e]; exact h.up k hk
/-- the law's state behind k steps -/
theorem band_play {m : Nat} (hm : 0 < m) {ts : List Stp} (hts : ∀ t ∈ ts, StpOk t) : ∃ B : Nat → List Int, B 0 = [] ∧ (∀ k, k ≤ ts.length → BInv m (B k) (nth (bandM m) (fun _ => []) ts k).1 (nth (bandM m) (fun _ => []) ts k).2) ∧
    ∀ k (hk : k < ts.length), BStep m ts[k] (seenAt (bandM m) (fun _ => []) ts k) (B k) (B (k + 1)) := by
  have hstep : ∀ k (hk : k < ts.length) (B : List Int), BInv m B (nth (bandM m) (fun _ => []) ts k).1 (nth (bandM m) (fun _ => []) ts k).2 →
      ∃ B', BInv m B' (nth (bandM m) (fun _ => []) ts (k + 1)).1 (nth (bandM m) (fun _ => []) ts (k + 1)).2 ∧ BStep m ts[k] (seenAt (bandM m) (fun _ => []) ts k) B B' := fun k hk B hB => by
    have ek : ts[k]? = some ts[k] := List.getElem?_eq_getElem hk
    have en := nth_succ (bandM m) (fun _ => []) ek
    have es := seenAt_of (bandM m) (fun _ => []) ek
    rw [en, es]
    clear en es
    generalize nth (bandM m) (fun _ => []) ts k = ns at *
    obtain ⟨n, s⟩ := ns
    generalize ts[k] = t at *
    have hB' : BInv m B n s := hB
    dsimp only
    by_cases c0 : t.what = 0
    · rw [stepM_put c0]
      rcases hB'.put_ hm t.it with ⟨e, h1⟩ | ⟨e, h1⟩
      · refine ⟨_, ?_, ⟨fun _ => ⟨by show (-1 : Int) < 0; decide, .inl ⟨?_, rfl⟩⟩, fun h => absurd c0 h⟩⟩
        · show BInv m _ (n + 1) (updf s (bOf m t.it) (fputL bP ⟨t.it, n⟩ (s (bOf m t.it))).2)
          rw [e]; exact h1
        · show (fputL bP ⟨t.it, n⟩ (s (bOf m t.it))).1.map Hd.num = []
          rw [e]; rfl
      · refine ⟨_, ?_, ⟨fun _ => ⟨by show (-1 : Int) < 0; decide, .inr ⟨?_, rfl⟩⟩, fun h => absurd c0 h⟩⟩
        · show BInv m _ (n + 1) (updf s (bOf m t.it) (fputL bP ⟨t.it, n⟩ (s (bOf m t.it))).2)
          rw [e]
          have : updf s (bOf m t.it) (s (bOf m t.it)) = s := by
            funext i
            by_cases e : i = bOf m t.it
            · subst e; exact updf_same _ _ _
            · exact updf_ne _ _ e
          rw [this]
          exact h1
        · show (fputL bP ⟨t.it, n⟩ (s (bOf m t.it))).1.map Hd.num = [(B.length : Int)]
          rw [e, hB'.len]; rfl
    · by_cases c1 : t.what = 1
      · rw [stepM_take c1]
        rcases takeB_ways m s with ⟨e, _⟩ | ⟨i, x, r, hi, hs, hlo, e⟩
        · refine ⟨B, ?_, ⟨fun h => absurd h c0, fun _ => ⟨rfl, .inl ⟨?_, rfl⟩⟩⟩⟩
          · show BInv m B n (takeB m s).2
            rw [e]; exact hB'
          · show tkn (takeB m s).1 < 0
            rw [e]; show (-1 : Int) < 0; decide
        · obtain ⟨u, hu, h1, h2, h3, h4⟩ := hB'.take_ hi hs hlo
          refine ⟨B.set u (-1), ?_, ⟨fun h => absurd h c0, fun _ => ⟨rfl, .inr ⟨u, ?_, h1, h2, rfl, h3⟩⟩⟩⟩
          · show BInv m _ n (takeB m s).2
            rw [e]; exact h4
          · show tkn (takeB m s).1 = u
            rw [e]; exact hu
      · rw [stepM_when c0 c1]
        exact ⟨B, hB', ⟨fun h => absurd h c0, fun _ => ⟨rfl, .inl ⟨by show (-1 : Int) < 0; decide, rfl⟩⟩⟩⟩
  have hbuild : ∀ N, N ≤ ts.length → ∃ B : Nat → List Int, B 0 = [] ∧ (∀ k, k ≤ N → BInv m (B k) (nth (bandM m) (fun _ => []) ts k).1 (nth (bandM m) (fun _ => []) ts k).2) ∧ ∀ k (hk : k < ts.length), k < N → BStep m ts[k] (seenAt (bandM m) (fun _ => []) ts k) (B k) (B (k + 1)) := fun N => by
    induction N with
    | zero => exact fun _ => ⟨fun _ => [], rfl, fun k hk => by
        obtain rfl : k = 0 := by omega
        exact ⟨rfl, fun i _ x hx => by have hx' : x ∈ ([] : List Hd) := hx; simp at hx', fun u hu => by have hu' : u < 0 := hu; omega, fun i _ => by show ([] : List Int).Pairwise _; simp⟩, fun k _ h => by omega⟩
    | succ N ih =>
      intro hN
      obtain ⟨B, h0, h1, h2⟩ := ih (by omega)
      obtain ⟨B', h3, h4⟩ := hstep N (by omega) (B N) (h1 N (Nat.le_refl _))
      refine ⟨updf B (N + 1) B', by rw [updf_ne _ _ (by omega)]; exact h0, fun k hk => ?_, fun k hk hkN => ?_⟩
      · by_cases e : k = N + 1
        · subst e; rw [updf_same]; exact h3
        · rw [updf_ne _ _ e]; exact h1 k (by omega)
      · by_cases e : k = N
        · subst e
          rw [updf_ne _ _ (by omega), updf_same]
          exact h4
        · rw [updf_ne _ _ (by omega), updf_ne _ _ (by omega)]
          exact h2 k hk (by omega)
  obtain ⟨B, h0, h1, h2⟩ := hbuild ts.length (Nat.le_refl _)
  exact ⟨B, h0, h1, fun k hk => h2 k hk hk⟩
end Pl
end Go.Proofs.Ythhgbpbaihgogaa
