/-
  Plain law of the counters: Misra and Gries. No program in sight.
-/
namespace Go.Proofs.Ytdddpdhjkeanmaa
namespace Pl
/-- how often a key is told in a row of pairs -/
def look : List (Int × Int) → Int → Int
  | [], _ => 0
  | p :: r, k => if p.1 = k then p.2 else look r k
/-- a row of pairs tells a count, each key once -/
structure Ent (E : List (Int × Int)) (c : Int → Int) : Prop where
  nd : E.Pairwise (fun p q => p.1 ≠ q.1)
  is : ∀ k v, (k, v) ∈ E ↔ c k = v ∧ v ≠ 0
theorem Ent.nodup {E : List (Int × Int)} {c : Int → Int} (h : Ent E c) : E.Nodup := h.nd.imp fun {a b} h e => h (by rw [e])
theorem Ent.perm {E E' : List (Int × Int)} {c : Int → Int} (h : Ent E c) (h' : Ent E' c) : E.Perm E' :=
  (List.perm_ext_iff_of_nodup h.nodup h'.nodup).2 fun ⟨k, v⟩ => by rw [h.is, h'.is]
theorem Ent.of_perm {E E' : List (Int × Int)} {c : Int → Int} (h : Ent E c) (hp : E.Perm E') : Ent E' c :=
  ⟨(hp.pairwise_iff (fun {_ _} h => Ne.symm h)).1 h.nd, fun k v => by rw [← h.is]; exact hp.mem_iff.symm⟩
theorem look_mem : ∀ {E : List (Int × Int)} {k v : Int}, E.Pairwise (fun p q => p.1 ≠ q.1) → (k, v) ∈ E → look E k = v
  | [], k, v, _, h => by simp at h
  | p :: r, k, v, hd, h => by
    obtain ⟨h1, h2⟩ := List.pairwise_cons.1 hd
    unfold look
    rcases List.mem_cons.1 h with e | h
    · rw [← e, if_pos rfl]
    · rw [if_neg (h1 _ h)]
      exact look_mem h2 h
theorem look_not : ∀ {E : List (Int × Int)} {k : Int}, (∀ v, (k, v) ∉ E) → look E k = 0
  | [], k, _ => rfl
  | p :: r, k, h => by
    unfold look
    rw [if_neg (fun e => h p.2 (by rw [← e]; simp))]
    exact look_not fun v hv => h v (List.mem_cons_of_mem _ hv)
theorem Ent.look {E : List (Int × Int)} {c : Int → Int} (h : Ent E c) (k : Int) : look E k = c k := by
  by_cases hk : c k = 0
  · rw [hk]
    exact look_not fun v hv => (h.is k v).1 hv |>.2 ((h.is k v).1 hv |>.1 ▸ hk)
  · exact look_mem h.nd ((h.is k (c k)).2 ⟨rfl, hk⟩)
def sum2 : List (Int × Int) → Int
  | [] => 0
  | p :: r => p.2 + sum2 r
def cnt : List Int → Int → Int
  | [], _ => 0
  | x :: r, k => (if x = k then 1 else 0) + cnt r k
theorem cnt_nn (l : List Int) (k : Int) : 0 ≤ cnt l k := by
  induction l with
  | nil => exact Int.le_refl _
  | cons x r ih => unfold cnt; split <;> omega
theorem cnt_app (a b : List Int) (k : Int) : cnt (a ++ b) k = cnt a k + cnt b k := by
  induction a with
  | nil => simp [cnt]
  | cons x r ih => show (if x = k then 1 else 0) + cnt (r ++ b) k = (if x = k then 1 else 0) + cnt r k + cnt b k; rw [ih]; omega
theorem cnt_le (l : List Int) (k : Int) : cnt l k ≤ l.length := by
  induction l with
  | nil => simp [cnt]
  | cons x r ih => unfold cnt; rw [List.length_cons]; split <;> omega
/-- one more of a key -/
def inc (c : Int → Int) (x : Int) : Int → Int := fun k => if k = x then c k + 1 else c k
/-- all down by one -/
def dec (c : Int → Int) : Int → Int := fun k => if 0 < c k then c k - 1 else c k
/-- what a key does -/
def mgStep (K : Nat) (s : Nat) (c : Int → Int) (x : Int) : Int → Int := if c x ≠ 0 ∨ s < K then inc c x else dec c
theorem sum2_map_inc : ∀ {E : List (Int × Int)} {x v : Int}, E.Pairwise (fun p q => p.1 ≠ q.1) → (x, v) ∈ E → sum2 (E.map fun p => if p.1 = x then (p.1, p.2 + 1) else p) = sum2 E + 1
  | [], x, v, _, h => by simp at h
  | p :: r, x, v, hd, h => by
    obtain ⟨h1, h2⟩ := List.pairwise_cons.1 hd
    rw [List.map_cons]
    unfold sum2
    rcases List.mem_cons.1 h with e | h
    · subst e
      have e2 : (r.map fun p => if p.1 = x then (p.1, p.2 + 1) else p) = r := by
        rw [List.map_congr_left (g := id), List.map_id]
        intro q hq
        rw [if_neg (fun e => h1 q hq e.symm)]; rfl
      rw [if_pos rfl, e2]
      show v + 1 + sum2 r = v + sum2 r + 1
      omega
    · rw [if_neg (h1 _ h), sum2_map_inc h2 h]
      omega
theorem ent_inc_has {E : List (Int × Int)} {c : Int → Int} (h : Ent E c) (h0 : ∀ k, 0 ≤ c k) {x : Int} (hx : c x ≠ 0) : ∃ E', Ent E' (inc c x) ∧ E'.length = E.length ∧ sum2 E' = sum2 E + 1 := by
  refine ⟨E.map fun p => if p.1 = x then (p.1, p.2 + 1) else p, ⟨?_, fun k v => ?_⟩, by simp, sum2_map_inc h.nd ((h.is x (c x)).2 ⟨rfl, hx⟩)⟩
  · rw [List.pairwise_map]
    refine h.nd.imp fun {a b} hab => ?_
    have e : ∀ p : Int × Int, (if p.1 = x then (p.1, p.2 + 1) else p).1 = p.1 := fun p => by split <;> rfl
    rw [e, e]; exact hab
  · rw [List.mem_map]
    constructor
    · rintro ⟨⟨k1, v1⟩, hp, e⟩
      obtain ⟨e1, e2⟩ := (h.is k1 v1).1 hp
      dsimp only at e
      have := h0 k1
      by_cases hk : k1 = x
      · rw [if_pos hk] at e
        injection e with e3 e4
        subst e3
        unfold inc
        rw [if_pos hk]
        omega
      · rw [if_neg hk] at e
        injection e with e3 e4
        subst e3
        unfold inc
        rw [if_neg hk]
        omega
    · rintro ⟨e1, e2⟩
      unfold inc at e1
      by_cases hk : k = x
      · rw [if_pos hk] at e1
        subst hk
        refine ⟨(k, c k), (h.is k (c k)).2 ⟨rfl, hx⟩, ?_⟩
        rw [if_pos rfl, ← e1]
      · rw [if_neg hk] at e1
        refine ⟨(k, v), (h.is k v).2 ⟨e1, e2⟩, ?_⟩
        rw [if_neg hk]
theorem ent_inc_new {E : List (Int × Int)} {c : Int → Int} (h : Ent E c) {x : Int} (hx : c x = 0) : ∃ E', Ent E' (inc c x) ∧ E'.length = E.length + 1 ∧ sum2 E' = sum2 E + 1 := by
  refine ⟨(x, 1) :: E, ⟨List.pairwise_cons.2 ⟨fun p hp e => ?_, h.nd⟩, fun k v => ?_⟩, by simp, by show 1 + sum2 E = _; omega⟩
  · obtain ⟨k1, v1⟩ := p
    obtain ⟨e1, e2⟩ := (h.is k1 v1).1 hp
    dsimp only at e
    subst e
    exact e2 (e1 ▸ hx)
  · rw [List.mem_cons]
    unfold inc
    by_cases hk : k = x
    · subst hk
      rw [if_pos rfl, hx]
      constructor
      · rintro (e | e)
        · injection e with _ e; omega
        · obtain ⟨e1, e2⟩ := (h.is k v).1 e
          omega
      · rintro ⟨e1, _⟩
        exact .inl (by rw [← e1]; rfl)
    · rw [if_neg hk]
      constructor
      · rintro (e | e)
        · injection e with e _; exact absurd e hk
        · exact (h.is k v).1 e
      · exact fun e => .inr ((h.is k v).2 e)
theorem ent_dec {E : List (Int × Int)} {c : Int → Int} (h : Ent E c) (h0 : ∀ k, 0 ≤ c k) : ∃ E', Ent E' (dec c) ∧ E'.length ≤ E.length ∧ sum2 E' = sum2 E - E.length := by
  have hpos : ∀ p ∈ E, 1 ≤ p.2 := fun ⟨k, v⟩ hp => by
    obtain ⟨e1, e2⟩ := (h.is k v).1 hp
    have := h0 k
    show 1 ≤ v
    omega
  refine ⟨(E.map fun p => (p.1, p.2 - 1)).filter (fun p => p.2 ≠ 0), ⟨?_, fun k v => ?_⟩, ?_, ?_⟩
  · refine List.Pairwise.filter _ ?_
    rw [List.pairwise_map]
    exact h.nd
  · rw [List.mem_filter, List.mem_map]
    unfold dec
    constructor
    · rintro ⟨⟨⟨k1, v1⟩, hp, e⟩, e2⟩
      obtain ⟨e3, e4⟩ := (h.is k1 v1).1 hp
      injection e with e5 e6
      dsimp only at e5 e6
      subst e5
      have := hpos _ hp
      dsimp only at this
      rw [if_pos (by omega)]
      refine ⟨by omega, by simpa using e2⟩
    · rintro ⟨e1, e2⟩
      by_cases hk : 0 < c k
      · rw [if_pos hk] at e1
        exact ⟨⟨(k, c k), (h.is k (c k)).2 ⟨rfl, by omega⟩, by rw [← e1]⟩, by simpa using e2⟩
      · rw [if_neg hk] at e1
        have := h0 k
        omega
  · exact Nat.le_trans (List.length_filter_le _ _) (by simp)
  · clear h
    have e1 : ∀ l : List (Int × Int), sum2 (l.filter fun p => p.2 ≠ 0) = sum2 l := fun l => by
      induction l with
      | nil => rfl
      | cons p r ih =>
        by_cases hp : p.2 = 0
        · rw [List.filter_cons_of_neg (by simp [hp]), ih]; show _ = p.2 + sum2 r; omega
        · rw [List.filter_cons_of_pos (by simp [hp])]; show p.2 + _ = p.2 + sum2 r; rw [ih]
    rw [e1]
    clear e1 hpos
    induction E with
    | nil => simp [sum2]
    | cons p r ih =>
      rw [List.map_cons]
      unfold sum2
      rw [ih, List.length_cons]
      show p.2 - 1 + _ = _
      omega
/-- what holds after the keys L -/
structure MgInv (K : Nat) (L : List Int) (c : Int → Int) (E : List (Int × Int)) (d : Int) : Prop where
  e : Ent E c
  k : E.length ≤ K
  d0 : 0 ≤ d
  s : sum2 E + ((K : Int) + 1) * d = L.length
  up : ∀ k, c k ≤ cnt L k
  lo : ∀ k, cnt L k - d ≤ c k
  nn : ∀ k, 0 ≤ c k
theorem mg_start (K : Nat) : MgInv K [] (fun _ => 0) [] 0 :=
  ⟨⟨.nil, fun k v => by simp; omega⟩, Nat.zero_le _, Int.le_refl _, by simp [sum2], fun k => by simp [cnt], fun k => by simp [cnt], fun _ => Int.le_refl _⟩
theorem mg_step {K : Nat} {L : List Int} {c : Int → Int} {E : List (Int × Int)} {d : Int} (h : MgInv K L c E d) (x : Int) : ∃ E' d', MgInv K (L ++ [x]) (mgStep K E.length c x) E' d' := by
  have hc : ∀ k, cnt (L ++ [x]) k = cnt L k + (if x = k then 1 else 0) := fun k => by rw [cnt_app]; simp [cnt]
  have hl : ((L ++ [x]).length : Int) = L.length + 1 := by simp
  have hs := h.s
  unfold mgStep
  by_cases hx : c x ≠ 0 ∨ E.length < K
  · rw [if_pos hx]
    have hi : ∀ k, inc c x k = c k + (if x = k then 1 else 0) := fun k => by
      unfold inc
      by_cases e : k = x
      · rw [if_pos e, if_pos e.symm]
      · rw [if_neg e, if_neg (fun e2 => e e2.symm)]; omega
    have fin : ∀ E', Ent E' (inc c x) → E'.length ≤ K → sum2 E' = sum2 E + 1 → ∃ E' d', MgInv K (L ++ [x]) (inc c x) E' d' := fun E' h1 h2 h3 =>
      ⟨E', d, h1, h2, h.d0, by rw [hl]; omega, fun k => by rw [hi, hc]; have := h.up k; omega, fun k => by rw [hi, hc]; have := h.lo k; omega, fun k => by rw [hi]; have := h.nn k; split <;> omega⟩
    by_cases h0 : c x = 0
    · obtain ⟨E', h1, h2, h3⟩ := ent_inc_new h.e h0
      exact fin E' h1 (by omega) h3
    · obtain ⟨E', h1, h2, h3⟩ := ent_inc_has h.e h.nn h0
      have := h.k
      exact fin E' h1 (by omega) h3
  · rw [if_neg hx]
    have h0 : c x = 0 := Classical.byContradiction fun e => hx (.inl e)
    have hk := h.k
    have hK : E.length = K := by
      have : ¬ E.length < K := fun e => hx (.inr e)
      omega
    obtain ⟨E', h1, h2, h3⟩ := ent_dec h.e h.nn
    have hd : ∀ k, dec c k ≤ c k ∧ c k - 1 ≤ dec c k ∧ 0 ≤ dec c k ∧ (c k = 0 → dec c k = 0) := fun k => by
      have := h.nn k
      unfold dec; split <;> omega
    have hm : ((K : Int) + 1) * (d + 1) = ((K : Int) + 1) * d + K + 1 := by rw [Int.mul_add]; omega
    refine ⟨E', d + 1, h1, by omega, by have := h.d0; omega, by rw [hl, hm]; omega, fun k => ?_, fun k => ?_, fun k => (hd k).2.2.1⟩
    · rw [hc]; have := h.up k; have := (hd k).1; split <;> omega
    · rw [hc]
      have := h.lo k; have := (hd k).2.1
      by_cases e : x = k
      · rw [if_pos e]
        subst e
        have := (hd x).2.2.2 h0
        omega
      · rw [if_neg e]; omega
/-- what the law asks of the counters -/
theorem MgInv.law {K : Nat} {L : List Int} {c : Int → Int} {E : List (Int × Int)} {d : Int} (h : MgInv K L c E d) (k : Int) : c k ≤ cnt L k ∧ (cnt L k - c k) * ((K : Int) + 1) ≤ L.length := by
  refine ⟨h.up k, ?_⟩
  have h1 := h.lo k
  have h3 : 0 ≤ sum2 E := by
    have hpos : ∀ p ∈ E, 0 ≤ p.2 := fun ⟨k, v⟩ hp => by
      obtain ⟨e1, e2⟩ := (h.e.is k v).1 hp
      have := h.nn k
      show 0 ≤ v
      omega
    clear h h1
    induction E with
    | nil => exact Int.le_refl _
    | cons p r ih =>
      have := hpos p (by simp)
      have := ih (fun q hq => hpos q (List.mem_cons_of_mem _ hq))
      show 0 ≤ p.2 + sum2 r
      omega
  have h4 : (cnt L k - c k) * ((K : Int) + 1) ≤ d * ((K : Int) + 1) := Int.mul_le_mul_of_nonneg_right (by omega) (by omega)
  have h5 := h.s
  rw [Int.mul_comm] at h5
  omega
/-- all counts together -/
theorem cnt_sum : ∀ (L : List Int) (E : List (Int × Int)), Ent E (cnt L) → sum2 E = L.length
  | [], E, h => by
    cases E with
    | nil => rfl
    | cons p r =>
      obtain ⟨k, v⟩ := p
      obtain ⟨e1, e2⟩ := (h.is k v).1 (by simp)
      exact absurd e1.symm e2
  | x :: L, E, h => by
    have hx : ∀ k, cnt (x :: L) k = cnt L k + (if x = k then 1 else 0) := fun k => by rw [show cnt (x :: L) k = (if x = k then 1 else 0) + cnt L k from rfl]; omega
    -- a row for the rest
    have hex : ∃ E0, Ent E0 (cnt L) := by
      have : ∀ L : List Int, ∃ E0, Ent E0 (cnt L) := fun L => by
        induction L with
        | nil => exact ⟨[], .nil, fun k v => by simp [cnt]; omega⟩
        | cons y r ih =>
          obtain ⟨E0, h0⟩ := ih
          have e : cnt (y :: r) = inc (cnt r) y := by
            funext k
            show (if y = k then 1 else 0) + cnt r k = _
            unfold inc
            by_cases e : k = y
            · rw [if_pos e, if_pos e.symm]; omega
            · rw [if_neg e, if_neg (fun e2 => e e2.symm)]; omega
          rw [e]
          by_cases hz : cnt r y = 0
          · obtain ⟨E', h1, _, _⟩ := ent_inc_new h0 hz
            exact ⟨E', h1⟩
          · obtain ⟨E', h1, _, _⟩ := ent_inc_has h0 (cnt_nn r) hz
            exact ⟨E', h1⟩
      exact this L
    obtain ⟨E0, h0⟩ := hex
    have ih := cnt_sum L E0 h0
    have e : cnt (x :: L) = inc (cnt L) x := by
      funext k
      rw [hx]
      unfold inc
      by_cases e : k = x
      · rw [if_pos e, if_pos e.symm]
      · rw [if_neg e, if_neg (fun e2 => e e2.symm)]; omega
    rw [e] at h
    have hs : ∀ a b : List (Int × Int), a.Perm b → sum2 a = sum2 b := fun a b hp => by
      induction hp with
      | nil => rfl
      | cons x _ ih => unfold sum2; rw [ih]
      | swap x y l => unfold sum2; unfold sum2; omega
      | trans _ _ i1 i2 => rw [i1, i2]
    rw [List.length_cons]
    by_cases hz : cnt L x = 0
    · obtain ⟨E', h1, _, h3⟩ := ent_inc_new h0 hz
      rw [hs _ _ (h.perm h1), h3, ih]; omega
    · obtain ⟨E', h1, _, h3⟩ := ent_inc_has h0 (cnt_nn L) hz
      rw [hs _ _ (h.perm h1), h3, ih]; omega
end Pl
end Go.Proofs.Ytdddpdhjkeanmaa
