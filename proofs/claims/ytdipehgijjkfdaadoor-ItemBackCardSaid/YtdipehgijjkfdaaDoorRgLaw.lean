/-
  A range over a function that keeps a state of its own in cells: the body goes on in every round.
-/
import Derived.Test.YtdipehgijjkfdaaDoorRgIn
import Derived.Test.YtdipehgijjkfdaaDoorChg
namespace Go.Proofs.YtdipehgijjkfdaaDoor
open Go.RowKit
set_option linter.unusedVariables false
/-- these blocks lie as they lay -/
def SameAt (Z : Nat → Prop) (W W' : World) : Prop := ∀ i, Z i → W'.heap[i]? = W.heap[i]?
theorem chg_put {W : World} {S : Nat → Prop} (r : Nat) (o : Obj) (hr : S r) : Chg W (W.putObj r o) S :=
  ⟨rfl, rfl, rfl, by simp, fun i _ hn => World.putObj_heap_other (fun e => hn (e ▸ hr))⟩
/-- what a closure that cuts does: N rounds, the k-th with xs k; T: its own state in the blocks Z -/
def Cuts (P : Program) (gf : Nat) (lb : Array Value) (N : Nat) (xs : Nat → Array Value) (Z : Nat → Prop) (T : Nat → World → Prop) : Prop :=
  ∀ (l : Nat) (J : Nat → World → Prop) (W : World), (∀ k W1 W2, J k W1 → Chg W1 W2 Z → J k W2) →
    (∀ k W1, k < N → J k W1 → T k W1 → YieldAt Fence.wide 0 P l (xs k) W1 fun e W' => e = .returned (.bool true) ∧ J (k + 1) W' ∧ SameAt Z W1 W') →
    J 0 W → T 0 W → CallsIn Fence.wide 0 P gf (#[.func (.yield l) #[] #[]] ++ lb) W fun e W' => (∃ v, e = .returned v) ∧ J N W'
theorem range_law {P : Program} {g : Operand} {ps : Array Tmp} {assign body : Code} {Q : Exit → Act → World → Prop} {a : Act} {w : World} {gf : Nat} {lb : Array Value} (hg : a.eval g = .func (.func gf) #[] lb)
    (eg : ∀ args w, (callFunc gf args).run P w = .ok (.enter gf args) w) {N : Nat} {xs : Nat → Array Value} {Z : Nat → Prop} {T : Nat → World → Prop} (hc : Cuts P gf lb N xs Z T) (hps : ∀ k, (xs k).size = ps.size)
    (hZ : ∀ i, Z i → i < w.heap.size) (hT : ∀ W, SameAt Z w W → T 0 W) (I : Nat → World → Prop) (hI : ∀ k W1 W2, I k W1 → Chg W1 W2 (fun i => Z i ∨ w.heap.size ≤ i ∧ i < w.heap.size + 2) → I k W2) (h0 : I 0 w) (a₁ : Nat → Act)
    (hassign : ∀ (l k : Nat) (W : World) (K : Act → World → Prop), K (a₁ k) W → assign.wpIn (Fence.wide.inRound l) 0 P (Exit.then K (fun _ _ _ => False)) { tmps := (ps.zip (xs k)).foldl (fun t (p, v) => t.setIfInBounds p v) a.tmps, defers := [] } W)
    (hbody : ∀ (l k : Nat) (W : World), I k W → k < N → w.heap.size + 2 ≤ W.heap.size → body.wpIn (Fence.wide.inRound l) 0 P (fun e _ W' => e = .normal ∧ I (k + 1) W' ∧ W.heap.size ≤ W'.heap.size ∧ SameAt (fun i => Z i ∨ w.heap.size ≤ i ∧ i < w.heap.size + 2) W W') (a₁ k) W)
    (hdone : ∀ (D : Nat) (W : World), w.heap.size ≤ D → D < w.heap.size + 2 → I N W → W.heap[D]? = some (.deferred (some [])) → Q .normal { a with defers := { target := .collected D, args := #[] } :: a.defers } W) :
    (Code.rangeFunc g ps assign body).wpIn Fence.wide 0 P Q a w := by
  refine wpIn_rangeFunc fun fn hfn => ?_
  obtain ⟨rc, hrc⟩ : ∃ rc : LoopState → Loop, rc = fun st => { state := st, pending := none, fn, tmps := a.tmps, params := ps, assign, body, defers := w.heap.size } := ⟨_, rfl⟩
  have hen := run_enterLoop_outer (P := P) (w := w) fn a.tmps ps assign body
  have hst : (w.alloc (.deferred (some []))).alloc (.loop { state := .ready, pending := none, fn, tmps := a.tmps, params := ps, assign, body, defers := w.heap.size }) = (w.alloc (.deferred (some []))).alloc (.loop (rc .ready)) := by rw [hrc]
  rw [hst] at hen
  have hsz : ((w.alloc (.deferred (some []))).alloc (.loop (rc .ready))).heap.size = w.heap.size + 2 := by simp
  have hch : ∀ S, Chg w ((w.alloc (.deferred (some []))).alloc (.loop (rc .ready))) S := fun S => ((Chg.refl w S).alloc _).alloc _
  have hb1 : ((w.alloc (.deferred (some []))).alloc (.loop (rc .ready))).heap[w.heap.size + 1]? = some (.loop (rc .ready)) := by
    have := World.alloc_heap_new (w.alloc (.deferred (some []))) (.loop (rc .ready)); rwa [World.size_alloc] at this
  have hb0 : ((w.alloc (.deferred (some []))).alloc (.loop (rc .ready))).heap[w.heap.size]? = some (.deferred (some [])) :=
    (Below.heap_alloc _ _ _ (by simp)).trans (World.alloc_heap_new w _)
  generalize (w.alloc (.deferred (some []))).alloc (.loop (rc .ready)) = W0 at *
  refine ⟨w.heap.size + 1, _, W0, { target := .fn (.func gf) lb, args := #[.func (.yield (w.heap.size + 1)) #[] #[]] }, W0, gf, #[.func (.yield (w.heap.size + 1)) #[] #[]] ++ lb, W0, hen, ?_, fun _ _ => trivial, ?_, fun h => (by cases h), ?_⟩
  · simp only [resolve, hg]
    simp [go_sem]
  · simp [invoke, go_sem, eg]
  · refine (hc (w.heap.size + 1) (fun k W => I k W ∧ W.heap[w.heap.size + 1]? = some (.loop (rc .ready)) ∧ W.heap[w.heap.size]? = some (.deferred (some [])) ∧ w.heap.size + 2 ≤ W.heap.size) W0 ?_ ?_ ⟨hI 0 _ _ h0 (hch _), hb1, hb0, by omega⟩ (hT _ fun i hi => (hch (fun _ => False)).block i (hZ i hi) (fun h => h))).mono ?_
    · rintro k W1 W2 ⟨h1, h2, h3, h4⟩ hch2
      have hn : ∀ i, w.heap.size ≤ i → ¬ Z i := fun i hi hz => by have := hZ i hz; omega
      exact ⟨hI k _ _ h1 (hch2.mono fun i _ hz => .inl hz), (hch2.block _ (by omega) (hn _ (by omega))).trans h2, (hch2.block _ (by omega) (hn _ (by omega))).trans h3, Nat.le_trans h4 hch2.size⟩
    · rintro k W1 hk ⟨h1, h2, h3, h4⟩ hTk
      have hy := run_yield (P := P) (args := xs k) h2 (by rw [hrc]; exact hps k)
      rw [hrc] at hy
      refine ⟨fn, _, assign, body, hy, roundIn_of_wpIn hfn (hassign _ k W1 _ ⟨_, run_beginRound h2 (by rw [hrc]), ?_⟩)⟩
      obtain ⟨bz, hbz⟩ : ∃ bz, ({ rc .ready with state := .busy } : Loop) = bz := ⟨_, rfl⟩
      rw [hbz]
      have hp := chg_put (W := W1) (S := fun i => Z i ∨ w.heap.size ≤ i ∧ i < w.heap.size + 2) (w.heap.size + 1) (.loop bz) (.inr ⟨by omega, by omega⟩)
      have hl2 : (W1.putObj (w.heap.size + 1) (.loop bz)).heap[w.heap.size + 1]? = some (.loop bz) := World.putObj_heap_same (by omega)
      have hk2 : (W1.putObj (w.heap.size + 1) (.loop bz)).heap[w.heap.size]? = some (.deferred (some [])) := (World.putObj_heap_other (by omega)).trans h3
      refine wpIn_mono (hbody _ k _ (hI k _ _ h1 hp) hk (by simp; omega)) ?_
      rintro e a3 W3 ⟨rfl, hi3, hs3, hsame⟩
      have hl3 := (hsame (w.heap.size + 1) (.inr ⟨by omega, by omega⟩)).trans hl2
      have hk3 := (hsame w.heap.size (.inr ⟨by omega, by omega⟩)).trans hk2
      have hs4 : w.heap.size + 2 ≤ W3.heap.size := by simp at hs3; omega
      have her := run_endRound (P := P) none hl3
      have hrd : ({ bz with state := if (none : Option Code).isNone then .ready else .done, pending := none } : Loop) = rc .ready := by rw [← hbz, hrc]; rfl
      rw [hrd] at her
      refine ⟨_, _, her, rfl, ⟨hI _ _ _ hi3 (chg_put _ _ (.inr ⟨by omega, by omega⟩)), World.putObj_heap_same (by omega), (World.putObj_heap_other (by omega)).trans hk3, by simp; omega⟩, fun i hi => ?_⟩
      have hil := hZ i hi
      have e1 : (W3.putObj (w.heap.size + 1) (.loop (rc .ready))).heap[i]? = W3.heap[i]? := World.putObj_heap_other (by omega)
      have e2 : (W1.putObj (w.heap.size + 1) (.loop bz)).heap[i]? = W1.heap[i]? := World.putObj_heap_other (by omega)
      rw [e1, hsame i (.inl hi), e2]
    · rintro e W2 ⟨⟨v, rfl⟩, h1, h2, h3, h4⟩
      have he := run_endLoop (P := P) h2 (by rw [hrc]; simp)
      rw [hrc] at he
      exact ⟨none, _, he, hdone _ _ (Nat.le_refl _) (by omega) (hI _ _ _ h1 (chg_put _ _ (.inr ⟨by omega, by omega⟩))) ((World.putObj_heap_other (by omega)).trans h3)⟩
end Go.Proofs.YtdipehgijjkfdaaDoor
