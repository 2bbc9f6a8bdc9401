/-
  Plain law of flows that take turns: the machine, that it loses nothing, and that each flow keeps its order.
-/
import Derived.Test.YthhgbpbaihgogaaFifoLaw
import Derived.Test.YthhgbpbaihgogaaTimes
namespace Go.Proofs.Ythhgbpbaihgogaa
open Bkt
namespace Pl
set_option linter.unusedVariables false

def updf {α : Type} (V : Nat → α) (f : Nat) (u : α) : Nat → α := fun i => if i = f then u else V i
theorem updf_same {α : Type} (V : Nat → α) (f : Nat) (u : α) : updf V f u f = u := if_pos rfl
theorem updf_ne {α : Type} (V : Nat → α) {f i : Nat} (u : α) (h : i ≠ f) : updf V f u i = V i := if_neg h
theorem flat_same {α : Type} {G G' : Nat → List α} : ∀ (I : List Nat), (∀ i ∈ I, G' i = G i) → I.flatMap G' = I.flatMap G
  | [], _ => rfl
  | i :: I, h => by rw [List.flatMap_cons, List.flatMap_cons, h i (by simp), flat_same I fun j hj => h j (by simp [hj])]
theorem flat_upd {α : Type} (f : Nat) {G G' : Nat → List α} (h : ∀ i, i ≠ f → G' i = G i) : ∀ (I : List Nat), I.Nodup → f ∈ I → ∃ R, (I.flatMap G).Perm (G f ++ R) ∧ (I.flatMap G').Perm (G' f ++ R)
  | [], _, hf => by cases hf
  | i :: I, hn, hf => by
    rw [List.nodup_cons] at hn
    rw [List.flatMap_cons, List.flatMap_cons]
    by_cases e : i = f
    · subst e
      refine ⟨I.flatMap G, List.Perm.refl _, ?_⟩
      rw [flat_same I fun j hj => h j (fun e => hn.1 (e ▸ hj))]
    · have hf' : f ∈ I := by
        rcases List.mem_cons.1 hf with e2 | h2
        · exact absurd e2.symm e
        · exact h2
      obtain ⟨R, h1, h2⟩ := flat_upd f h I hn.2 hf'
      refine ⟨G i ++ R, ?_, ?_⟩
      · exact (h1.append_left (G i)).trans (List.perm_append_comm_assoc _ _ _)
      · rw [h i e]
        exact (h2.append_left (G i)).trans (List.perm_append_comm_assoc _ _ _)

structure RS where
  L : Nat → List Hd
  C : Nat → Int
  T : List Nat
  beg : Bool
def waitR (s : RS) : List (Int × Int) := (List.range 16).flatMap fun f => (s.L f).map key
/-- the credit of the flow whose turn it is -/
def credR (Q : Nat → Int) (s : RS) (f : Nat) : Int := if s.beg = true then s.C f else s.C f + Q f
def takeR (Q : Nat → Int) : Nat → RS → Option Hd × RS
  | 0, s => (none, s)
  | n + 1, s => match s.T with
    | [] => (none, s)
    | f :: T => match s.L f with
      | [] => (none, s)
      | x :: r =>
        if credR Q s f < x.it.len then takeR Q n ⟨s.L, updf s.C f (credR Q s f), T ++ [f], false⟩
        else (some x, ⟨updf s.L f r, updf s.C f (credR Q s f - x.it.len), if r.length = 0 then T else f :: T, if r.length = 0 then false else true⟩)
def putR (room : Int) (x : Hd) (s : RS) : List Hd × RS :=
  if room ≤ ((s.L x.it.flow.toNat).length : Int) then ([x], s)
  else ([], ⟨updf s.L x.it.flow.toNat (s.L x.it.flow.toNat ++ [x]), if (s.L x.it.flow.toNat).length = 0 then updf s.C x.it.flow.toNat 0 else s.C, if (s.L x.it.flow.toNat).length = 0 then s.T ++ [x.it.flow.toNat] else s.T, s.beg⟩)

/-- how much it lacks -/
def lackR (s : RS) (f : Nat) : Nat := match s.L f with
  | [] => 0
  | x :: _ => (x.it.len - s.C f).toNat
def measR (s : RS) : Nat := 2 * (s.T.map (lackR s)).sum + (if s.beg = true then 1 else 0)

structure RI (s : RS) : Prop where
  nd : s.T.Nodup
  ne : ∀ f ∈ s.T, f < 16 ∧ s.L f ≠ []
  im : ∀ f, f < 16 → s.L f ≠ [] → f ∈ s.T
  c : ∀ f, f < 16 → 0 ≤ s.C f ∧ s.C f ≤ 1010000
  cl : ∀ f ∈ s.T, (s.beg = false ∨ s.T.head? ≠ some f) → s.C f ≤ 10000
  bg : s.beg = true → s.T ≠ []
  b : ∀ f, f < 16 → ∀ x ∈ s.L f, 0 ≤ x.it.len ∧ x.it.len ≤ 10000 ∧ x.it.flow = f
def QOk (Q : Nat → Int) : Prop := ∀ f, f < 16 → 1 ≤ Q f ∧ Q f ≤ 1000000

theorem credR_bd {Q : Nat → Int} (hQ : QOk Q) {s : RS} (h : RI s) {f : Nat} {T : List Nat} (hT : s.T = f :: T) : 0 ≤ credR Q s f ∧ credR Q s f ≤ 1010000 := by
  have hf := (h.ne f (by rw [hT]; simp)).1
  have h1 := h.c f hf
  have h2 := hQ f hf
  unfold credR
  split
  · exact h1
  · rename_i hb
    have := h.cl f (by rw [hT]; simp) (.inl (by simpa using hb))
    omega
theorem RI.turn {Q : Nat → Int} (hQ : QOk Q) {s : RS} (h : RI s) {f : Nat} {T : List Nat} (hT : s.T = f :: T) {x : Hd} {r : List Hd} (hL : s.L f = x :: r) (hc : credR Q s f < x.it.len) :
    RI ⟨s.L, updf s.C f (credR Q s f), T ++ [f], false⟩ ∧ measR ⟨s.L, updf s.C f (credR Q s f), T ++ [f], false⟩ < measR s := by
  have hnd := h.nd
  rw [hT, List.nodup_cons] at hnd
  have hf := (h.ne f (by rw [hT]; simp)).1
  have hb := credR_bd hQ h hT
  have hx := h.b f hf x (by rw [hL]; simp)
  have hmem : ∀ i, i ∈ T ++ [f] ↔ i ∈ s.T := fun i => by rw [hT]; simp [or_comm]
  refine ⟨⟨?_, ?_, ?_, ?_, ?_, ?_, h.b⟩, ?_⟩
  · show (T ++ [f]).Nodup
    rw [List.nodup_append]
    refine ⟨hnd.2, by simp, fun a ha b hb e => ?_⟩
    rw [List.mem_singleton] at hb
    subst hb e
    exact hnd.1 ha
  · intro i hi; exact h.ne i ((hmem i).1 hi)
  · intro i h1 h2; exact (hmem i).2 (h.im i h1 h2)
  · intro i hi
    show 0 ≤ updf s.C f (credR Q s f) i ∧ updf s.C f (credR Q s f) i ≤ 1010000
    by_cases e : i = f
    · subst e; rw [updf_same]; exact hb
    · rw [updf_ne _ _ e]; exact h.c i hi
  · intro i hi _
    show updf s.C f (credR Q s f) i ≤ 10000
    by_cases e : i = f
    · subst e; rw [updf_same]; omega
    · rw [updf_ne _ _ e]
      exact h.cl i ((hmem i).1 hi) (.inr (by rw [hT]; simpa using Ne.symm e))
  · intro e; cases e
  · have e1 : ∀ i ∈ T, lackR ⟨s.L, updf s.C f (credR Q s f), T ++ [f], false⟩ i = lackR s i := fun i hi => by
      unfold lackR
      dsimp only
      have hne : i ≠ f := fun e => by subst e; exact hnd.1 hi
      rw [updf_ne _ _ hne]
    have e2 : (T.map (lackR ⟨s.L, updf s.C f (credR Q s f), T ++ [f], false⟩)) = T.map (lackR s) := List.map_congr_left e1
    unfold measR
    dsimp only
    rw [hT, List.map_append, e2, List.sum_append, List.map_cons, List.map_nil, List.sum_cons, List.sum_nil, List.map_cons, List.sum_cons]
    have e3 : lackR ⟨s.L, updf s.C f (credR Q s f), T ++ [f], false⟩ f = (x.it.len - credR Q s f).toNat := by
      unfold lackR
      dsimp only
      rw [hL, updf_same]
    have e4 : lackR s f = (x.it.len - s.C f).toNat := by
      unfold lackR
      rw [hL]
    rw [e3, e4]
    have hq := hQ f hf
    rw [if_neg (by decide)]
    unfold credR at hc ⊢
    split
    · rename_i hbg; rw [if_pos hbg] at *; omega
    · rename_i hbg; rw [if_neg hbg] at *; omega
theorem RI.out {Q : Nat → Int} (hQ : QOk Q) {s : RS} (h : RI s) {f : Nat} {T : List Nat} (hT : s.T = f :: T) {x : Hd} {r : List Hd} (hL : s.L f = x :: r) (hc : ¬ credR Q s f < x.it.len) :
    RI ⟨updf s.L f r, updf s.C f (credR Q s f - x.it.len), if r.length = 0 then T else f :: T, if r.length = 0 then false else true⟩ := by
  have hnd := h.nd
  rw [hT, List.nodup_cons] at hnd
  have hf := (h.ne f (by rw [hT]; simp)).1
  have hb := credR_bd hQ h hT
  have hx := h.b f hf x (by rw [hL]; simp)
  have hcc : ∀ i, i < 16 → 0 ≤ updf s.C f (credR Q s f - x.it.len) i ∧ updf s.C f (credR Q s f - x.it.len) i ≤ 1010000 := fun i hi => by
    by_cases e : i = f
    · subst e; rw [updf_same]; omega
    · rw [updf_ne _ _ e]; exact h.c i hi
  have hbb : ∀ i, i < 16 → ∀ y ∈ updf s.L f r i, 0 ≤ y.it.len ∧ y.it.len ≤ 10000 ∧ y.it.flow = i := fun i hi y hy => by
    by_cases e : i = f
    · subst e; rw [updf_same] at hy; exact h.b i hi y (by rw [hL]; simp [hy])
    · rw [updf_ne _ _ e] at hy; exact h.b i hi y hy
  by_cases h0 : r.length = 0
  · rw [if_pos h0, if_pos h0]
    have hr : r = [] := List.eq_nil_of_length_eq_zero h0
    refine ⟨hnd.2, ?_, ?_, hcc, ?_, (fun e => by cases e), hbb⟩
    · intro i hi
      have e : i ≠ f := fun e => hnd.1 (e ▸ hi)
      have := h.ne i (by rw [hT]; simp [hi])
      exact ⟨this.1, by show updf s.L f r i ≠ []; rw [updf_ne _ _ e]; exact this.2⟩
    · intro i h1 h2
      have h2' : updf s.L f r i ≠ [] := h2
      by_cases e : i = f
      · subst e; rw [updf_same] at h2'; exact absurd hr h2'
      · rw [updf_ne _ _ e] at h2'
        have := h.im i h1 h2'
        rw [hT] at this
        rcases List.mem_cons.1 this with h3 | h3
        · exact absurd h3 e
        · exact h3
    · intro i hi _
      have e : i ≠ f := fun e => hnd.1 (e ▸ hi)
      show updf s.C f (credR Q s f - x.it.len) i ≤ 10000
      rw [updf_ne _ _ e]
      exact h.cl i (by rw [hT]; simp [hi]) (.inr (by rw [hT]; simpa using Ne.symm e))
  · rw [if_neg h0, if_neg h0]
    refine ⟨by show (f :: T).Nodup; rw [← hT]; exact h.nd, ?_, ?_, hcc, ?_, fun _ => by simp, hbb⟩
    · intro i hi
      have hi' : i ∈ s.T := by rw [hT]; exact hi
      refine ⟨(h.ne i hi').1, ?_⟩
      show updf s.L f r i ≠ []
      by_cases e : i = f
      · subst e; rw [updf_same]; intro e; rw [e] at h0; exact h0 rfl
      · rw [updf_ne _ _ e]; exact (h.ne i hi').2
    · intro i h1 h2
      have h2' : updf s.L f r i ≠ [] := h2
      show i ∈ f :: T
      by_cases e : i = f
      · subst e; simp
      · rw [updf_ne _ _ e] at h2'
        rw [← hT]; exact h.im i h1 h2'
    · intro i hi hh
      show updf s.C f (credR Q s f - x.it.len) i ≤ 10000
      rcases hh with hh | hh
      · cases hh
      · have e : i ≠ f := fun e => hh (by subst e; rfl)
        rw [updf_ne _ _ e]
        exact h.cl i (by rw [hT]; exact hi) (.inr (by rw [hT]; simpa using Ne.symm e))
/-- what a Take does -/
structure TkR (s : RS) (r : Option Hd × RS) : Prop where
  ri : RI r.2
  none_ : s.T = [] → r = (none, s)
  some_ : s.T ≠ [] → ∃ x f, r.1 = some x ∧ f < 16 ∧ s.L f = x :: r.2.L f ∧ ∀ i, i ≠ f → r.2.L i = s.L i
theorem takeR_ok {Q : Nat → Int} (hQ : QOk Q) : ∀ (n : Nat) (s : RS), RI s → measR s < n → TkR s (takeR Q n s)
  | 0, s, h, hm => absurd hm (by omega)
  | n + 1, s, h, hm => by
    rw [takeR]
    cases hT : s.T with
    | nil => exact ⟨h, fun _ => rfl, fun hn => absurd hT hn⟩
    | cons f T =>
      dsimp only
      have hne := h.ne f (by rw [hT]; simp)
      cases hL : s.L f with
      | nil => exact absurd hL hne.2
      | cons x r =>
        dsimp only
        by_cases hc : credR Q s f < x.it.len
        · rw [if_pos hc]
          obtain ⟨h1, h2⟩ := h.turn hQ hT hL hc
          have h3 := takeR_ok hQ n _ h1 (by omega)
          refine ⟨h3.ri, fun hn => (by rw [hT] at hn; cases hn), fun _ => ?_⟩
          exact h3.some_ (by simp)
        · rw [if_neg hc]
          refine ⟨h.out hQ hT hL hc, fun hn => (by rw [hT] at hn; cases hn), fun _ => ⟨x, f, rfl, hne.1, ?_, fun i hi => updf_ne _ _ hi⟩⟩
          show s.L f = x :: updf s.L f r f
          rw [updf_same, hL]
/-- more fuel changes nothing -/
theorem takeR_fuel {Q : Nat → Int} (hQ : QOk Q) : ∀ (n m : Nat) (s : RS), RI s → measR s < n → measR s < m → takeR Q n s = takeR Q m s
  | 0, m, s, h, hm, _ => absurd hm (by omega)
  | n + 1, 0, s, h, _, hm => absurd hm (by omega)
  | n + 1, m + 1, s, h, h1, h2 => by
    rw [takeR, takeR]
    cases hT : s.T with
    | nil => rfl
    | cons f T =>
      dsimp only
      cases hL : s.L f with
      | nil => rfl
      | cons x r =>
        dsimp only
        by_cases hc : credR Q s f < x.it.len
        · rw [if_pos hc, if_pos hc]
          obtain ⟨h3, h4⟩ := h.turn hQ hT hL hc
          exact takeR_fuel hQ n m _ h3 (by omega) (by omega)
        · rw [if_neg hc, if_neg hc]
theorem RI.put {room : Int} {s : RS} (h : RI s) {x : Hd} (hx : okB x.it = true) : RI (putR room x s).2 := by
  have hb := okB_fine.1 hx
  have hf : x.it.flow.toNat < 16 := by have := hb.f2; omega
  have hfl : (x.it.flow.toNat : Int) = x.it.flow := by have := hb.f2; omega
  have hl := hb.f1
  generalize hF : x.it.flow.toNat = f at *
  unfold putR
  rw [hF]
  split
  · exact h
  · have hbb : ∀ i, i < 16 → ∀ y ∈ updf s.L f (s.L f ++ [x]) i, 0 ≤ y.it.len ∧ y.it.len ≤ 10000 ∧ y.it.flow = i := fun i hi y hy => by
      by_cases e : i = f
      · subst e
        rw [updf_same] at hy
        rcases List.mem_append.1 hy with hy | hy
        · exact h.b i hi y hy
        · rw [List.mem_singleton] at hy; subst hy; omega
      · rw [updf_ne _ _ e] at hy; exact h.b i hi y hy
    have hL : ∀ i, updf s.L f (s.L f ++ [x]) i ≠ [] ↔ (i = f ∨ s.L i ≠ []) := fun i => by
      by_cases e : i = f
      · subst e; rw [updf_same]; simp
      · rw [updf_ne _ _ e]; simp [e]
    by_cases h0 : (s.L f).length = 0
    · rw [if_pos h0, if_pos h0]
      have h0' : s.L f = [] := List.eq_nil_of_length_eq_zero h0
      have hnf : f ∉ s.T := fun hm => (h.ne f hm).2 h0'
      refine ⟨?_, ?_, ?_, ?_, ?_, ?_, hbb⟩
      · show (s.T ++ [f]).Nodup
        rw [List.nodup_append]
        refine ⟨h.nd, by simp, fun a ha b hb e => ?_⟩
        rw [List.mem_singleton] at hb
        subst hb e
        exact hnf ha
      · intro i hi
        refine ⟨?_, (hL i).2 ?_⟩
        · rcases List.mem_append.1 hi with hi | hi
          · exact (h.ne i hi).1
          · rw [List.mem_singleton] at hi; omega
        · rcases List.mem_append.1 hi with hi | hi
          · exact .inr (h.ne i hi).2
          · rw [List.mem_singleton] at hi; exact .inl hi
      · intro i h1 h2
        rcases (hL i).1 h2 with e | e
        · subst e; simp
        · exact List.mem_append_left _ (h.im i h1 e)
      · intro i hi
        show 0 ≤ updf s.C f 0 i ∧ updf s.C f 0 i ≤ 1010000
        by_cases e : i = f
        · subst e; rw [updf_same]; omega
        · rw [updf_ne _ _ e]; exact h.c i hi
      · intro i hi hh
        show updf s.C f 0 i ≤ 10000
        by_cases e : i = f
        · subst e; rw [updf_same]; omega
        · rw [updf_ne _ _ e]
          have hi' : i ∈ s.T := by
            rcases List.mem_append.1 hi with hi | hi
            · exact hi
            · rw [List.mem_singleton] at hi; exact absurd hi e
          refine h.cl i hi' (hh.imp id fun h2 h3 => h2 ?_)
          show (s.T ++ [f]).head? = some i
          rw [List.head?_append, h3]; rfl
      · intro hb2
        show s.T ++ [f] ≠ []
        simp
    · rw [if_neg h0, if_neg h0]
      refine ⟨h.nd, fun i hi => ⟨(h.ne i hi).1, (hL i).2 (.inr (h.ne i hi).2)⟩, fun i h1 h2 => ?_, h.c, h.cl, h.bg, hbb⟩
      rcases (hL i).1 h2 with e | e
      · subst e; exact h.im i h1 (fun e => h0 (by rw [e]; rfl))
      · exact h.im i h1 e
def fairM (Q : Nat → Int) (room : Int) : QM where
  σ := RS
  put := fun _ x s => putR room x s
  take := fun _ s => ((takeR Q (measR s + 1) s).1, [], (takeR Q (measR s + 1) s).2)
  when_ := fun now s => (if 0 < (waitR s).length then some now else none, s)
  wait := waitR
  len := fun s => (waitR s).length
  bytes := fun s => sumLen (waitR s)
theorem waitR_put {room : Int} {s : RS} {x : Hd} (hf : x.it.flow.toNat < 16) : (waitR s ++ [key x]).Perm ((putR room x s).1.map key ++ waitR (putR room x s).2) := by
  unfold putR
  generalize x.it.flow.toNat = f at *
  split
  · exact List.perm_append_comm
  · obtain ⟨R, h1, h2⟩ := flat_upd f (G := fun i => (s.L i).map key) (G' := fun i => ((updf s.L f (s.L f ++ [x])) i).map key) (fun i hi => by rw [updf_ne _ _ hi]) (List.range 16) List.nodup_range (List.mem_range.2 hf)
    rw [updf_same, List.map_append] at h2
    show (waitR s ++ [key x]).Perm ([] ++ (List.range 16).flatMap fun i => ((updf s.L f (s.L f ++ [x])) i).map key)
    rw [List.nil_append]
    refine ((h1.append_right [key x]).trans ?_).trans h2.symm
    rw [List.append_assoc, List.append_assoc]
    exact List.Perm.append_left _ List.perm_append_comm
theorem waitR_take {s s' : RS} {x : Hd} {f : Nat} (hf : f < 16) (hL : s.L f = x :: s'.L f) (hne : ∀ i, i ≠ f → s'.L i = s.L i) : (waitR s).Perm (key x :: waitR s') := by
  obtain ⟨R, h1, h2⟩ := flat_upd f (G := fun i => (s.L i).map key) (G' := fun i => (s'.L i).map key) (fun i hi => by rw [hne i hi]) (List.range 16) List.nodup_range (List.mem_range.2 hf)
  rw [hL, List.map_cons] at h1
  exact h1.trans (List.Perm.cons _ h2.symm)
theorem fair_good (Q : Nat → Int) (hQ : QOk Q) (room : Int) : (fairM Q room).Good false RI where
  put := fun s now x h ho ha => ⟨h.put ho, waitR_put (by have := (okB_fine.1 ho).f2; omega)⟩
  take := fun s now h => by
    have ht := takeR_ok hQ (measR s + 1) s h (by omega)
    refine ⟨ht.ri, ?_⟩
    show (waitR s).Perm ([] ++ ((takeR Q (measR s + 1) s).1.toList.map key ++ waitR (takeR Q (measR s + 1) s).2))
    rw [List.nil_append]
    by_cases hT : s.T = []
    · rw [ht.none_ hT]; exact List.Perm.refl _
    · obtain ⟨x, f, e1, hf, e2, e3⟩ := ht.some_ hT
      rw [e1]
      exact waitR_take hf e2 e3
  when_ := fun s now h => ⟨h, List.Perm.refl _⟩
  len := fun s h => ⟨Int.le_refl _, Int.le_refl _, fun _ => ⟨rfl, rfl⟩⟩
end Pl
end Go.Proofs.Ythhgbpbaihgogaa
