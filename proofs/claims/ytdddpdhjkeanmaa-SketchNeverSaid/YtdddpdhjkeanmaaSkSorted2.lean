/-
  sketch.sorted, whole: over a map of ints.
-/
import Derived.Test.YtdddpdhjkeanmaaSkSorted
namespace Go.Proofs.Ytdddpdhjkeanmaa
open Go.RowKit Go.Sort Go.Shelf
open Go.Maps (Keyed int_keyed keyOf_int_mk)
set_option linter.unusedVariables false
set_option maxHeartbeats 1000000 in
set_option maxRecDepth 100000 in
theorem len0 (w : World) : Calls Try.prog 21 #[.int .u64 0] w fun e w' => (∃ l : Int, e = .returned (.int .i64 l)) ∧ w' = w := by
  have h64 : ∀ w, Calls Try.prog 32 #[.int .u64 0] w fun e w' => (∃ l : Int, e = .returned (.int .i64 l)) ∧ w' = w := fun w => by
    go_enter Try.func32, Try.ntmps32
    go_wp2
    go_ret
    exact ⟨⟨_, rfl⟩, rfl⟩
  have H := Lib.hid h64
  clear h64
  go_enter Try.func21, Try.ntmps21
  go_wp2_with (go_at_call 32; (with_reducible refine (H.out _).mono ?_); rintro e w' ⟨⟨l, rfl⟩, rfl⟩)
  go_ret
  exact ⟨⟨_, rfl⟩, rfl⟩
set_option maxHeartbeats 1000000 in
set_option maxRecDepth 100000 in
theorem sort_nil (fv : Value) (w : World) : Calls Try.prog 16 #[.slice none 0 0, fv] w fun e w' => e = .returned (.tuple #[]) ∧ w' = w := by
  have hp := fun lim W => pdq_none 0 lim fv W
  have hl := fun W => len0 W
  have HP := Lib.hid hp; have HL := Lib.hid hl
  clear hp hl
  go_enter Try.func16, Try.ntmps16
  go_wp2_with (first | (go_at_call 21; (with_reducible refine (HL.out _).mono ?_); rintro e w' ⟨⟨l, rfl⟩, rfl⟩) | (go_at_call 20; (with_reducible refine (HP.out _ _).mono ?_); rintro e w' ⟨rfl, rfl⟩))
  go_end0
  exact ⟨rfl, rfl⟩
/-- the sort of what a call has gathered -/
theorem sort_any {w : World} {B base n c : Nat} {A : Option Addr} {l : List (Int × Int)} (h : w.ownsRow base 32 2 (.slice A n c) n (l.flatMap PrR.cells)) (hB : B ≤ base) (hBw : B ≤ w.heap.size) (hn : n ≤ 1000000) :
    Calls Try.prog 16 #[.slice A n c, .func (.func 17) #[] #[]] w (SortOut w B A l) := by
  rcases h.2 with ⟨h', h0⟩ | ⟨g', cap, cur, h', _⟩
  · injection h' with h1 h2 h3
    subst h1 h2 h3
    have hl : l.length = 0 := by
      have := h.1
      rw [flatR_len] at this
      have e : PrR.sz = 2 := rfl
      rw [e] at this; omega
    obtain rfl := List.eq_nil_of_length_eq_zero hl
    exact (sort_nil _ w).mono fun e w' ⟨he, hw⟩ => ⟨he, [], .refl _, RdR.nil, hw ▸ Below.refl _ _⟩
  · injection h' with h1 h2 h3
    subst h1 h3
    exact sort_some h hB hn
/-- what was gathered in a range -/
structure Col (c : Int → Int) (left : Lit → Bool) (O : List (Int × Int)) : Prop where
  nd : O.Pairwise (fun p q => p.1 ≠ q.1)
  is : ∀ k v, (k, v) ∈ O ↔ c k = v ∧ v ≠ 0 ∧ left (kI k) = false
theorem col_start {H : Type} {D : DataW H} {c : Int → Int} (h : FRep D c) : Col c (Maps.has D) [] :=
  ⟨.nil, fun k v => ⟨fun e => by simp at e, fun ⟨e1, e2, e3⟩ => by rw [h.has, e1] at e3; simp [e2] at e3⟩⟩
theorem Col.step {c : Int → Int} {left : Lit → Bool} {O : List (Int × Int)} (h : Col c left O) {x v : Int} (hx : left (kI x) = true) (hv : c x = v) (h0 : v ≠ 0) : Col c (fun z => left z && !z.sameKey (kI x)) (O ++ [(x, v)]) := by
  refine ⟨?_, fun k u => ?_⟩
  · rw [List.pairwise_append]
    refine ⟨h.nd, by simp, fun a ha b hb e => ?_⟩
    obtain rfl : b = (x, v) := by simpa using hb
    obtain ⟨k, u⟩ := a
    dsimp only at e
    subst e
    have := ((h.is k u).1 ha).2.2
    rw [hx] at this; cases this
  · rw [List.mem_append, h.is]
    show _ ↔ _ ∧ _ ∧ (left (kI k) && !(kI k).sameKey (kI x)) = false
    rw [kI_same]
    by_cases hk : k = x
    · subst hk
      rw [hx]
      constructor
      · rintro (⟨_, _, e⟩ | e)
        · cases e
        · obtain ⟨_, rfl⟩ : k = k ∧ u = v := by simpa using e
          exact ⟨hv, h0, by simp⟩
      · rintro ⟨e1, e2, _⟩
        exact .inr (by rw [← e1, hv]; simp)
    · have e1 : decide (k = x) = false := by simpa using hk
      rw [e1]
      constructor
      · rintro (⟨a, b, e⟩ | e)
        · exact ⟨a, b, by rw [e]; rfl⟩
        · have : k = x ∧ u = v := by simpa using e
          exact absurd this.1 hk
      · rintro ⟨a, b, e⟩
        exact .inl ⟨a, b, by simpa using e⟩
theorem Col.done {c : Int → Int} {left : Lit → Bool} {O : List (Int × Int)} (h : Col c left O) (hl : ∀ kl, left kl = false) : Pl.Ent O c :=
  ⟨h.nd, fun k v => by rw [h.is]; exact ⟨fun ⟨a, b, _⟩ => ⟨a, b⟩, fun ⟨a, b⟩ => ⟨a, b, hl _⟩⟩⟩
theorem bl_grown {B : Nat} {w w' w'' : World} {row : Option Nat} (h : Below B w w') (hg : w'.grownBy w'' row) (hB : B ≤ w'.heap.size) (hk : ∀ k, row = some k → B ≤ k) : Below B w w'' :=
  h.trans ⟨hg.os, hg.tape, hg.output, hg.size, fun i hi => hg.block i (by omega) (fun e => by have := hk i e.symm; omega)⟩
structure SrtRel (c : Int → Int) (w wr : World) (b n N : Nat) (D : DataW Unit) (left : Lit → Bool) (cnt : Nat) (O : List (Int × Int)) (v3 : Value) : Prop where
  rg : wr.ranges Try.prog 3 (plainElem Try.prog 3) b w.heap.size n D left cnt
  own : wr.ownsRow (w.heap.size + 1) 32 2 v3 O.length (O.flatMap PrR.cells)
  bel : Below w.heap.size w wr
  col : Col c left O
  len : O.length + cnt ≤ N
  sz : w.heap.size + 1 ≤ wr.heap.size
def SrtOut (w : World) (c : Int → Int) (n : Nat) (e : Ending) (w' : World) : Prop :=
  ∃ A cap P, e = .returned (.slice A n cap) ∧ Pl.Ent P c ∧ P.length = n ∧ RdR PrR w' w'.heap.size A n P ∧ Below w.heap.size w w'
end Go.Proofs.Ytdddpdhjkeanmaa
