/-
  What came in as a slice of flows reads as flows. (open_slice_fields is the guide's block extra-structs 1.)
-/
import Derived.Test.YtjjmfgoeabmfdaaFam
import Derived.Test.YtjjmfgoeabmfdaaRows
import Derived.WalkKit
import Derived.ProofKit
import Derived.OpenShut
import Derived.ShutString
import Derived.ChangeOld
import Derived.Below
import Derived.Deep.Slices
import Derived.Deep.Fields
namespace Go.Proofs.Ytjjmfgoeabmfdaa
open Go.ChangeShapes Go.WideShapes Go.Deep Go.RowKit
set_option linter.unusedVariables false

section
variable {H : Type} {enc : TypeId × Value → H} {P : Program} {w : World} {base : Nat} {spare : Nat → Bool} {held : Bool}
theorem open_slice_fields {t e : TypeId} {fs : Array Field} {fuel : Nat} {cs : List Value} {x : DataW H × List MemPlace} (ht : P.underlying t = some (.slice e)) (he : P.underlying e = some (.struct fs))
    (hone : oneCellFields P fs = true) (hC : P.cellsOf e = fs.size) (h : DataW.trod enc P w base spare held fuel t cs = some x) :
    (cs = [.slice none 0 0] ∧ x = (.nil, [])) ∨
    ∃ (a : Addr) (len cap m : Nat) (D : Nat → DataW H) (Pl : Nat → List MemPlace), cs = [.slice (some a) len cap] ∧ base ≤ a.block ∧ len ≤ cap ∧ cap ≤ maxLen ∧ m = (if spare a.block then cap else len) ∧
      x = (.slice ((List.range len).map D) ((List.range (m - len)).map fun j => D (len + j)), MemPlace.row a (m * fs.size) ++ (List.range m).flatMap Pl) ∧
      ∀ i, i < m → ∃ (ys : List (DataW H × List MemPlace)) (n : Nat), D i = .agg (ys.map (·.1)) ∧ Pl i = ys.flatMap (·.2) ∧ ys.length = fs.size ∧
        ∀ (j : Nat) (f : Field), fs[j]? = some f → ∃ (v : Value) (y : DataW H × List MemPlace), w.cell? (a.add (i * fs.size + j)) = some v ∧ ys[j]? = some y ∧ DataW.trod enc P w base spare held n f.type [v] = some y := by
  rcases open_slice ht h with h0 | ⟨a, len, cap, m, n, D, Pl, hcs, hb, hl, hm, hmm, hx, hi⟩
  · exact .inl h0
  · refine .inr ⟨a, len, cap, m, D, Pl, hcs, hb, hl, hm, hmm, by rw [hC] at hx; exact hx, fun i him => ?_⟩
    obtain ⟨cs', hc, ht'⟩ := hi i him
    rw [hC] at hc
    obtain ⟨ys, n', hn', hy, hlen, hyl, hf⟩ := DataW.trod_struct he ht'
    obtain ⟨_, hcl, hat⟩ := World.cells?_some hc
    simp only [Prod.mk.injEq] at hy
    refine ⟨ys, n', hy.1, hy.2, hyl, fun j f hj => ?_⟩
    obtain ⟨ho, hk⟩ := hone_of hone j f hj
    have hjl : j < fs.size := (Array.getElem?_eq_some_iff.1 hj).1
    have hcell := hat j hjl
    have hv : cs'[j]? = some (cs'[j]'(by omega)) := List.getElem?_eq_getElem (by omega)
    have h1 := hf j f hj
    rw [ho, hk] at h1
    have hone' : (cs'.drop j).take 1 = [cs'[j]'(by omega)] := by
      rw [List.drop_eq_getElem_cons (by omega)]
      rfl
    rw [hone'] at h1
    have hys : ys[j]? = some (ys[j]'(by omega)) := List.getElem?_eq_getElem (by omega)
    refine ⟨_, _, ?_, hys, h1.trans hys⟩
    rw [← Go.Deep.add_add, hcell, hv]
end

section
variable {H : Type} {enc : TypeId × Value → H} {w : World} {base : Nat} {spare : Nat → Bool} {held : Bool}
theorem open_row {t : TypeId} {fuel : Nat} {v : Value} {x : DataW H × List MemPlace} (ht : Try.prog.underlying t = some (.slice 3)) (h : DataW.trod enc Try.prog w base spare held fuel t [v] = some x) :
    ∃ A n c xs, v = .slice A n c ∧ RdI w w.heap.size A n xs := by
  rcases open_ints ht Try.underlying3 (by kernel_rfl) h with ⟨hcs, _⟩ | ⟨x, l, c, zs, hcs, _, hl, hm, hz, _, hcell, hwz⟩
  · simp only [List.cons.injEq, and_true] at hcs
    exact ⟨none, 0, 0, [], hcs, RdI.nil⟩
  · simp only [List.cons.injEq, and_true] at hcs
    have hz1 : l ≤ zs.length ∧ zs.length ≤ c := by rw [hz]; split <;> omega
    have hi : IsRow .i64 w (some x) l zs.length zs := .inr ⟨_, rfl, hz1.1, by omega, rfl, hcell, hwz⟩
    exact ⟨some x, l, c, _, hcs, hi.rd⟩
set_option maxRecDepth 100000 in
theorem open_flows {v : Value} {d : DataW H} {p : List MemPlace} {a : Option Addr} {len cap : Nat} (hv : v = .slice a len cap) (h : DataW.Trod enc Try.prog w base spare held 40 v d p) : len ≤ 9223372036854775807 ∧ ∃ fs : Nat → FV, RdF w w.heap.size a len fs := by
  subst hv
  obtain ⟨fuel, hf⟩ := h
  rcases open_slice_fields Try.underlying40 Try.underlying42 (by kernel_rfl) (by kernel_rfl) hf with ⟨hcs, _⟩ | ⟨x, l, c, m, D, Pl, hcs, _, hl, hcm, hm, _, hi⟩
  · simp [Value.cells] at hcs
    obtain ⟨rfl, rfl, rfl⟩ := hcs
    exact ⟨by omega, fun _ => ⟨none, 0, 0, [], none, 0, 0, []⟩, fun h => absurd h (by omega), fun i hi => absurd hi (by omega), fun i hi => absurd hi (by omega)⟩
  · simp [Value.cells] at hcs
    obtain ⟨rfl, rfl, rfl⟩ := hcs
    have hml : len ≤ m := by rw [hm]; split <;> omega
    have key : ∀ i, i < len → ∃ f : FV, w.cell? (x.add (i * 2)) = some (.slice f.A f.n f.c) ∧ w.cell? (x.add (i * 2 + 1)) = some (.slice f.A' f.n' f.c') ∧ RdI w w.heap.size f.A f.n f.xs ∧ RdI w w.heap.size f.A' f.n' f.zs := by
      intro i hi'
      obtain ⟨ys, n, _, _, _, hg⟩ := hi i (by omega)
      obtain ⟨v0, y0, c0, _, t0⟩ := hg 0 _ rfl
      obtain ⟨v1, y1, c1, _, t1⟩ := hg 1 _ rfl
      obtain ⟨A1, n1, c1', xs, rfl, h1⟩ := open_row Try.underlying22 t0
      obtain ⟨A2, n2, c2', zs, rfl, h2⟩ := open_row Try.underlying30 t1
      exact ⟨⟨A1, n1, c1', xs, A2, n2, c2', zs⟩, c0, c1, h1, h2⟩
    have pick : ∃ q : Nat → FV, ∀ i, i < len → w.cell? (x.add (i * 2)) = some (.slice (q i).A (q i).n (q i).c) ∧ w.cell? (x.add (i * 2 + 1)) = some (.slice (q i).A' (q i).n' (q i).c') ∧ RdI w w.heap.size (q i).A (q i).n (q i).xs ∧ RdI w w.heap.size (q i).A' (q i).n' (q i).zs := by
      refine ⟨fun i => if h : i < len then Classical.choose (key i h) else ⟨none, 0, 0, [], none, 0, 0, []⟩, fun i hi' => ?_⟩
      dsimp only
      rw [dif_pos hi']
      exact Classical.choose_spec (key i hi')
    obtain ⟨q, hq⟩ := pick
    refine ⟨by unfold maxLen at hcm; omega, q, fun h0 => ?_, fun i hi' => (hq i hi').2.2.1, fun i hi' => (hq i hi').2.2.2⟩
    have hc0 := (hq 0 h0).1
    obtain ⟨b, off, spot⟩ := x
    have hs : spot = none := by
      have := World.cell?_spot hc0
      simpa [Addr.add] using this
    subst hs
    refine ⟨b, off, rfl, ?_, fun i hi' => ?_⟩
    · have := lt_of_cell hc0
      simpa [Addr.add] using this
    · obtain ⟨h1, h2, _, _⟩ := hq i hi'
      rw [Addr.add_lit] at h1 h2
      exact ⟨h1, by rw [Nat.add_assoc]; exact h2⟩
end
end Go.Proofs.Ytjjmfgoeabmfdaa
