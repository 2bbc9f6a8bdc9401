/-
  A map of strings to ints, as it reads, and a count: which is told by which.
-/
import Derived.Maps.RangeWalk
import Derived.Maps.Own
import Derived.StringKeys
namespace Go.Proofs.YtdipehgijjkfdaaGreatDoor
open Go Go.ChangeMaps Go.MapKept Go.WideShapes
open Go.Maps (Keyed IsMap Tidy)
set_option linter.unusedVariables false
/-- a row of pairs tells a count, each key once -/
structure EntS (E : List (List UInt8 × Int)) (c : List UInt8 → Int) : Prop where
  nd : E.Pairwise (fun p q => p.1 ≠ q.1)
  is : ∀ k v, (k, v) ∈ E ↔ c k = v ∧ v ≠ 0
theorem EntS.nodup {E : List (List UInt8 × Int)} {c : List UInt8 → Int} (h : EntS E c) : E.Nodup := h.nd.imp fun {a b} h e => h (by rw [e])
theorem EntS.perm {E E' : List (List UInt8 × Int)} {c : List UInt8 → Int} (h : EntS E c) (h' : EntS E' c) : E.Perm E' :=
  (List.perm_ext_iff_of_nodup h.nodup h'.nodup).2 fun ⟨k, v⟩ => by rw [h.is, h'.is]
theorem EntS.nil : EntS [] (fun _ => 0) := ⟨.nil, fun k v => by simp; omega⟩
/-- a pair as an entry -/
def encS {H : Type} (p : List UInt8 × Int) : Lit × DataW H := (.string p.1, .lit (.int .i64 p.2))
def kS (k : List UInt8) : Lit := .string k
theorem kS_key (k : List UInt8) : WideAt.IsKeyLit (kS k) := by trivial
theorem kS_same (k j : List UInt8) : (kS k).sameKey (kS j) = decide (k = j) := by
  by_cases h : k = j
  · subst h; rw [WideAt.sameKey_self (kS_key k)]; simp
  · rw [decide_eq_false h]
    cases e : (kS k).sameKey (kS j)
    · rfl
    · have := WideAt.sameKey_eq e
      unfold kS at this
      injection this with this
      exact absurd this h
/-- the map's datum tells the count -/
def FRepS {H : Type} (D : DataW H) (c : List UInt8 → Int) : Prop := ∃ E es, D = .map es ∧ es.Perm (E.map encS) ∧ EntS E c
section
variable {H : Type} {D : DataW H} {c : List UInt8 → Int}
theorem freps_empty : FRepS (H := H) (.map []) (fun _ => 0) := ⟨[], [], rfl, .nil, EntS.nil⟩
theorem FRepS.isMap (h : FRepS D c) : IsMap D := by obtain ⟨_, es, rfl, _⟩ := h; exact ⟨es, rfl⟩
theorem FRepS.size (h : FRepS D c) {E : List (List UInt8 × Int)} (hE : EntS E c) : Maps.size D = E.length := by
  obtain ⟨E', es, rfl, hp, hE'⟩ := h
  rw [Maps.size_eq, hp.length_eq, List.length_map]
  exact (hE'.perm hE).length_eq
theorem FRepS.has (h : FRepS D c) (k : List UInt8) : Maps.has D (kS k) = decide (c k ≠ 0) := by
  obtain ⟨E, es, rfl, hp, hE⟩ := h
  rw [Maps.has_eq]
  by_cases hk : c k = 0
  · rw [decide_eq_false (by simpa using hk), List.any_eq_false]
    intro p hpm
    obtain ⟨⟨k1, v1⟩, hq, rfl⟩ := List.mem_map.1 (hp.mem_iff.1 hpm)
    obtain ⟨e1, e2⟩ := (hE.is k1 v1).1 hq
    show ¬ (kS k1).sameKey (kS k) = true
    rw [kS_same]
    simp only [decide_eq_true_eq]
    rintro rfl
    exact e2 (e1 ▸ hk)
  · rw [decide_eq_true hk, List.any_eq_true]
    refine ⟨encS (k, c k), hp.mem_iff.2 (List.mem_map.2 ⟨_, (hE.is k (c k)).2 ⟨rfl, hk⟩, rfl⟩), ?_⟩
    show (kS k).sameKey (kS k) = true
    exact WideAt.sameKey_self (kS_key k)
theorem finds_of_uniq {α : Type} {f : α → Bool} {x : α} : ∀ {l : List α}, x ∈ l → f x = true → (∀ y ∈ l, f y = true → y = x) → l.find? f = some x
  | [], h, _, _ => by simp at h
  | y :: r, h, hf, hu => by
    rw [List.find?_cons]
    cases hy : f y
    · rcases List.mem_cons.1 h with e | h
      · rw [← e, hf] at hy; cases hy
      · exact finds_of_uniq h hf fun z hz hz2 => hu z (List.mem_cons_of_mem _ hz) hz2
    · rw [hu y (List.mem_cons_self ..) hy]
theorem FRepS.at_ (h : FRepS D c) (k : List UInt8) : D.atKey (kS k) (.lit (.int .i64 0)) = .lit (.int .i64 (c k)) := by
  by_cases hk : c k = 0
  · have h1 := h.has k
    rw [decide_eq_false (by simpa using hk)] at h1
    rw [Maps.atKey_of_not_has h1, hk]
  · obtain ⟨E, es, rfl, hp, hE⟩ := h
    have hm : encS (H := H) (k, c k) ∈ es := hp.mem_iff.2 (List.mem_map.2 ⟨_, (hE.is k (c k)).2 ⟨rfl, hk⟩, rfl⟩)
    have hf : es.find? (fun p => p.1.sameKey (kS k)) = some (encS (k, c k)) := by
      refine finds_of_uniq hm (WideAt.sameKey_self (kS_key k)) fun y hy hs => ?_
      obtain ⟨⟨k1, v1⟩, hq, rfl⟩ := List.mem_map.1 (hp.mem_iff.1 hy)
      obtain ⟨e1, e2⟩ := (hE.is k1 v1).1 hq
      have hs' : (kS k1).sameKey (kS k) = true := hs
      rw [kS_same] at hs'
      have : k1 = k := by simpa using hs'
      subst this
      rw [e1]
    unfold DataW.atKey
    simp only [hf]
    rfl
/-- an entry that comes in a range tells the count -/
theorem FRepS.entry (h : FRepS D c) {k : List UInt8} {v : Int} (hv : ∀ zd, D.atKey (kS k) zd = .lit (.int .i64 v)) : c k = v ∧ c k ≠ 0 := by
  have h1 := h.at_ k
  rw [hv] at h1
  injection h1 with h1
  injection h1 with _ h1
  refine ⟨h1.symm, fun e => ?_⟩
  have h2 := Maps.has_true_of_atKey hv
  rw [h.has, e] at h2
  simp at h2
theorem ents_put {E : List (List UInt8 × Int)} (h : EntS E c) (x : List UInt8) (v : Int) : EntS ((if v = 0 then [] else [(x, v)]) ++ E.filter fun p => p.1 ≠ x) (fun k => if k = x then v else c k) := by
  refine ⟨?_, fun k u => ?_⟩
  · rw [List.pairwise_append]
    refine ⟨by split <;> simp, h.nd.filter _, fun a ha b hb e => ?_⟩
    have hb' := (List.mem_filter.1 hb).2
    by_cases hv : v = 0
    · rw [if_pos hv] at ha; simp at ha
    · rw [if_neg hv] at ha
      have : a = (x, v) := by simpa using ha
      subst this
      simp at hb'
      exact hb' e.symm
  · rw [List.mem_append, List.mem_filter]
    by_cases hk : k = x
    · subst hk
      rw [if_pos rfl]
      constructor
      · rintro (e | ⟨_, e⟩)
        · by_cases hv : v = 0
          · rw [if_pos hv] at e; simp at e
          · rw [if_neg hv] at e
            have : u = v := by simpa using e
            subst this
            exact ⟨rfl, hv⟩
        · simp at e
      · rintro ⟨rfl, hv⟩
        rw [if_neg hv]
        exact .inl (by simp)
    · rw [if_neg hk]
      constructor
      · rintro (e | ⟨e, _⟩)
        · by_cases hv : v = 0
          · rw [if_pos hv] at e; simp at e
          · rw [if_neg hv] at e
            have : k = x ∧ u = v := by simpa using e
            exact absurd this.1 hk
        · exact (h.is k u).1 e
      · exact fun e => .inr ⟨(h.is k u).2 e, by simpa using hk⟩
theorem filter_encs (E : List (List UInt8 × Int)) (x : List UInt8) : (E.map (encS (H := H))).filter (notKey (kS x)) = (E.filter fun p => p.1 ≠ x).map encS := by
  rw [List.filter_map]
  congr 1
  refine List.filter_congr fun p _ => ?_
  show (!(kS p.1).sameKey (kS x)) = decide (p.1 ≠ x)
  rw [kS_same]
  by_cases e : p.1 = x <;> simp [e]
theorem FRepS.put (h : FRepS D c) (x : List UInt8) (v : Int) (hv : v ≠ 0) : FRepS (D.put (kS x) (.lit (.int .i64 v))) (fun k => if k = x then v else c k) := by
  obtain ⟨E, es, rfl, hp, hE⟩ := h
  refine ⟨_, _, DataW.put_eq es (kS x) _, ?_, ents_put hE x v⟩
  rw [if_neg hv]
  unfold putKey
  refine (insert_perm _ _).trans ?_
  refine List.Perm.cons _ ?_
  exact ((hp.filter _).trans (by rw [filter_encs]; exact .refl _))
theorem FRepS.del (h : FRepS D c) (x : List UInt8) : FRepS (D.del (kS x)) (fun k => if k = x then 0 else c k) := by
  obtain ⟨E, es, rfl, hp, hE⟩ := h
  refine ⟨_, _, DataW.del_eq es (kS x), ?_, ents_put hE x 0⟩
  rw [if_pos rfl]
  exact ((hp.filter _).trans (by rw [filter_encs]; exact .refl _))
theorem puts_dels (D : DataW H) (hD : IsMap D) (x : List UInt8) (d : DataW H) {c : List UInt8 → Int} (h : FRepS D c) : FRepS ((D.put (kS x) d).del (kS x)) (fun k => if k = x then 0 else c k) := by
  obtain ⟨E, es, rfl, hp, hE⟩ := h
  refine ⟨_, _, by rw [DataW.put_eq, DataW.del_eq], ?_, ents_put hE x 0⟩
  rw [if_pos rfl]
  show (List.filter (notKey (kS x)) (putKey (kS x) d es)).Perm _
  unfold putKey
  refine ((insert_perm _ _).filter _).trans ?_
  rw [List.filter_cons_of_neg (by show ¬ (!(kS x).sameKey (kS x)) = true; rw [WideAt.sameKey_self (kS_key x)]; simp), List.filter_filter]
  simp only [Bool.and_self]
  exact ((hp.filter _).trans (by rw [filter_encs]; exact .refl _))
theorem FRepS.congr {c' : List UInt8 → Int} (h : FRepS D c) (e : ∀ k, c k = c' k) : FRepS D c' := by
  have : c = c' := funext e
  subst this
  exact h
end
end Go.Proofs.YtdipehgijjkfdaaGreatDoor
