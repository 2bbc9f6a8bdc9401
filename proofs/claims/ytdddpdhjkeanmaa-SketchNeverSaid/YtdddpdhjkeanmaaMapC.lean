/-
  A map of ints to ints, as it reads, and a count: which is told by which.
-/
import Derived.Test.YtdddpdhjkeanmaaRngSt
import Derived.Test.YtdddpdhjkeanmaaGriLaw
namespace Go.Proofs.Ytdddpdhjkeanmaa
open Go Go.ChangeMaps Go.MapKept Go.WideShapes
open Go.Maps (Keyed IsMap Tidy)
set_option linter.unusedVariables false
/-- a pair as an entry -/
def encP {H : Type} (p : Int × Int) : Lit × DataW H := (.int .i64 p.1, .lit (.int .i64 p.2))
def kI (k : Int) : Lit := .int .i64 k
theorem kI_key (k : Int) : WideAt.IsKeyLit (kI k) := by trivial
theorem kI_same (k j : Int) : (kI k).sameKey (kI j) = decide (k = j) := by
  by_cases h : k = j
  · subst h; rw [WideAt.sameKey_self (kI_key k)]; simp
  · rw [decide_eq_false h]
    cases e : (kI k).sameKey (kI j)
    · rfl
    · have := WideAt.sameKey_eq e
      unfold kI at this
      injection this with _ this
      exact absurd this h
/-- the map's datum tells the count -/
def FRep {H : Type} (D : DataW H) (c : Int → Int) : Prop := ∃ E es, D = .map es ∧ es.Perm (E.map encP) ∧ Pl.Ent E c
section
variable {H : Type} {D : DataW H} {c : Int → Int}
theorem frep_empty : FRep (H := H) (.map []) (fun _ => 0) := ⟨[], [], rfl, .nil, .nil, fun k v => by simp; omega⟩
theorem FRep.isMap (h : FRep D c) : IsMap D := by obtain ⟨_, es, rfl, _⟩ := h; exact ⟨es, rfl⟩
theorem FRep.size (h : FRep D c) {E : List (Int × Int)} (hE : Pl.Ent E c) : Maps.size D = E.length := by
  obtain ⟨E', es, rfl, hp, hE'⟩ := h
  rw [Maps.size_eq, hp.length_eq, List.length_map]
  exact (hE'.perm hE).length_eq
theorem FRep.has (h : FRep D c) (k : Int) : Maps.has D (kI k) = decide (c k ≠ 0) := by
  obtain ⟨E, es, rfl, hp, hE⟩ := h
  rw [Maps.has_eq]
  by_cases hk : c k = 0
  · rw [decide_eq_false (by simpa using hk), List.any_eq_false]
    intro p hpm
    obtain ⟨⟨k1, v1⟩, hq, rfl⟩ := List.mem_map.1 (hp.mem_iff.1 hpm)
    obtain ⟨e1, e2⟩ := (hE.is k1 v1).1 hq
    show ¬ (kI k1).sameKey (kI k) = true
    rw [kI_same]
    simp only [decide_eq_true_eq]
    rintro rfl
    exact e2 (e1 ▸ hk)
  · rw [decide_eq_true hk, List.any_eq_true]
    refine ⟨encP (k, c k), hp.mem_iff.2 (List.mem_map.2 ⟨_, (hE.is k (c k)).2 ⟨rfl, hk⟩, rfl⟩), ?_⟩
    show (kI k).sameKey (kI k) = true
    exact WideAt.sameKey_self (kI_key k)
theorem find_of_uniq {α : Type} {f : α → Bool} {x : α} : ∀ {l : List α}, x ∈ l → f x = true → (∀ y ∈ l, f y = true → y = x) → l.find? f = some x
  | [], h, _, _ => by simp at h
  | y :: r, h, hf, hu => by
    rw [List.find?_cons]
    cases hy : f y
    · rcases List.mem_cons.1 h with e | h
      · rw [← e, hf] at hy; cases hy
      · exact find_of_uniq h hf fun z hz hz2 => hu z (List.mem_cons_of_mem _ hz) hz2
    · rw [hu y (List.mem_cons_self ..) hy]
theorem FRep.at_ (h : FRep D c) (k : Int) : D.atKey (kI k) (.lit (.int .i64 0)) = .lit (.int .i64 (c k)) := by
  by_cases hk : c k = 0
  · have h1 := h.has k
    rw [decide_eq_false (by simpa using hk)] at h1
    rw [Maps.atKey_of_not_has h1, hk]
  · obtain ⟨E, es, rfl, hp, hE⟩ := h
    have hm : encP (H := H) (k, c k) ∈ es := hp.mem_iff.2 (List.mem_map.2 ⟨_, (hE.is k (c k)).2 ⟨rfl, hk⟩, rfl⟩)
    have hf : es.find? (fun p => p.1.sameKey (kI k)) = some (encP (k, c k)) := by
      refine find_of_uniq hm (WideAt.sameKey_self (kI_key k)) fun y hy hs => ?_
      obtain ⟨⟨k1, v1⟩, hq, rfl⟩ := List.mem_map.1 (hp.mem_iff.1 hy)
      obtain ⟨e1, e2⟩ := (hE.is k1 v1).1 hq
      have hs' : (kI k1).sameKey (kI k) = true := hs
      rw [kI_same] at hs'
      have : k1 = k := by simpa using hs'
      subst this
      rw [e1]
    unfold DataW.atKey
    simp only [hf]
    rfl
/-- an entry that comes in a range tells the count -/
theorem FRep.entry (h : FRep D c) {k v : Int} (hv : ∀ zd, D.atKey (kI k) zd = .lit (.int .i64 v)) : c k = v ∧ c k ≠ 0 := by
  have h1 := h.at_ k
  rw [hv] at h1
  injection h1 with h1
  injection h1 with _ h1
  refine ⟨h1.symm, fun e => ?_⟩
  have h2 := Maps.has_true_of_atKey hv
  rw [h.has, e] at h2
  simp at h2
theorem ent_put {E : List (Int × Int)} (h : Pl.Ent E c) (x v : Int) : Pl.Ent ((if v = 0 then [] else [(x, v)]) ++ E.filter fun p => p.1 ≠ x) (fun k => if k = x then v else c k) := by
  refine ⟨?_, fun k u => ?_⟩
  · rw [List.pairwise_append]
    refine ⟨by split <;> simp, h.nd.filter _, fun a ha b hb e => ?_⟩
    have hb' := (List.mem_filter.1 hb).2
    by_cases hv : v = 0
    · rw [if_pos hv] at ha; simp at ha
    · rw [if_neg hv] at ha
      have : a = (x, v) := by simpa using ha
      subst this
      simp at hb'
      exact hb' e.symm
  · rw [List.mem_append, List.mem_filter]
    by_cases hk : k = x
    · subst hk
      rw [if_pos rfl]
      constructor
      · rintro (e | ⟨_, e⟩)
        · by_cases hv : v = 0
          · rw [if_pos hv] at e; simp at e
          · rw [if_neg hv] at e
            have : u = v := by simpa using e
            subst this
            exact ⟨rfl, hv⟩
        · simp at e
      · rintro ⟨rfl, hv⟩
        rw [if_neg hv]
        exact .inl (by simp)
    · rw [if_neg hk]
      constructor
      · rintro (e | ⟨e, _⟩)
        · by_cases hv : v = 0
          · rw [if_pos hv] at e; simp at e
          · rw [if_neg hv] at e
            have : k = x ∧ u = v := by simpa using e
            exact absurd this.1 hk
        · exact (h.is k u).1 e
      · exact fun e => .inr ⟨(h.is k u).2 e, by simpa using hk⟩
theorem filter_enc (E : List (Int × Int)) (x : Int) : (E.map (encP (H := H))).filter (notKey (kI x)) = (E.filter fun p => p.1 ≠ x).map encP := by
  rw [List.filter_map]
  congr 1
  refine List.filter_congr fun p _ => ?_
  show (!(kI p.1).sameKey (kI x)) = decide (p.1 ≠ x)
  rw [kI_same]
  by_cases e : p.1 = x <;> simp [e]
theorem FRep.put (h : FRep D c) (x v : Int) (hv : v ≠ 0) : FRep (D.put (kI x) (.lit (.int .i64 v))) (fun k => if k = x then v else c k) := by
  obtain ⟨E, es, rfl, hp, hE⟩ := h
  refine ⟨_, _, DataW.put_eq es (kI x) _, ?_, ent_put hE x v⟩
  rw [if_neg hv]
  unfold putKey
  refine (insert_perm _ _).trans ?_
  refine List.Perm.cons _ ?_
  exact ((hp.filter _).trans (by rw [filter_enc]; exact .refl _))
theorem FRep.del (h : FRep D c) (x : Int) : FRep (D.del (kI x)) (fun k => if k = x then 0 else c k) := by
  obtain ⟨E, es, rfl, hp, hE⟩ := h
  refine ⟨_, _, DataW.del_eq es (kI x), ?_, ent_put hE x 0⟩
  rw [if_pos rfl]
  exact ((hp.filter _).trans (by rw [filter_enc]; exact .refl _))
theorem put_del (D : DataW H) (hD : IsMap D) (x : Int) (d : DataW H) {c : Int → Int} (h : FRep D c) : FRep ((D.put (kI x) d).del (kI x)) (fun k => if k = x then 0 else c k) := by
  obtain ⟨E, es, rfl, hp, hE⟩ := h
  refine ⟨_, _, by rw [DataW.put_eq, DataW.del_eq], ?_, ent_put hE x 0⟩
  rw [if_pos rfl]
  show (List.filter (notKey (kI x)) (putKey (kI x) d es)).Perm _
  unfold putKey
  refine ((insert_perm _ _).filter _).trans ?_
  rw [List.filter_cons_of_neg (by show ¬ (!(kI x).sameKey (kI x)) = true; rw [WideAt.sameKey_self (kI_key x)]; simp), List.filter_filter]
  simp only [Bool.and_self]
  exact ((hp.filter _).trans (by rw [filter_enc]; exact .refl _))
theorem FRep.congr {c' : Int → Int} (h : FRep D c) (e : ∀ k, c k = c' k) : FRep D c' := by
  have : c = c' := funext e
  subst this
  exact h
end
end Go.Proofs.Ytdddpdhjkeanmaa
