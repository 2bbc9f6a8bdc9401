/-
  What came in as a slice of ints, or as a setup of random early detection, reads as such.
-/
import Derived.Test.YthhgbpbaihgogaaOpenS
import Derived.Test.YthhgbpbaihgogaaRedNew
import Derived.Test.YthhgbpbaihgogaaLeftOut
namespace Go.Proofs.Ythhgbpbaihgogaa
open Go.ChangeShapes Go.WideShapes Go.Deep Go.RowKit Bkt
set_option linter.unusedVariables false
section
variable {H : Type} {enc : TypeId × Value → H} {w : World} {base : Nat} {spare : Nat → Bool} {held : Bool}
theorem flat_int (zs : List Int) : zs.flatMap IntR.cells = zs.map (Value.int .i64) := by
  induction zs with
  | nil => rfl
  | cons z r ih => rw [List.flatMap_cons, ih]; rfl
theorem el_int (n : Nat) (cs : List Value) (x : DataW H × List MemPlace) (h : DataW.trod enc Try.prog w base spare held n 3 cs = some x) : ∃ q : Int, cs = IntR.cells q := by
  obtain ⟨a, ha, _⟩ := DataW.trod_int Try.underlying3 h
  exact ⟨a, ha⟩
/-- a slice of ints -/
theorem open_nums {v : Value} {d : DataW H} {p : List MemPlace} {a : Option Addr} {len cap : Nat} (hv : v = .slice a len cap) (h : DataW.Trod enc Try.prog w base spare held 32 v d p) :
    len ≤ 9223372036854775807 ∧ ∃ l : List Int, RdI w w.heap.size a len l := by
  obtain ⟨h1, l, h2⟩ := open_recs IntR Try.underlying32 (by kernel_rfl) el_int hv h
  refine ⟨h1, l, ?_⟩
  unfold RdR at h2
  rw [flat_int] at h2
  exact h2
set_option maxRecDepth 100000 in
/-- a setup by value -/
theorem open_setup {r : Reach} {b0 : Nat} {v : Value} {d : DataW H} {p : List MemPlace} (hv : Value.okWide Try.prog w r b0 47 v) (h : DataW.Trod enc Try.prog w base spare held 47 v d p) :
    ∃ U : Pl.SU, v = suV U := by
  obtain ⟨cs, rfl, hsz⟩ := okWide_struct Try.underlying47 hv
  have hsz3 : cs.size = 5 := hsz.trans (by kernel_rfl)
  obtain ⟨l⟩ := cs
  obtain ⟨fuel, h⟩ := h
  obtain ⟨xs, m, _, _, hl, hlen, hf⟩ := DataW.trod_struct Try.underlying47 h
  have e3 : Try.prog.cellsOf 3 = 1 := by kernel_rfl
  have e4 : Try.prog.cellsOf 4 = 1 := by kernel_rfl
  match l, hsz3, xs, hlen with
  | [c0, c1, c2, c3, c4], _, [y0, y1, y2, y3, y4], _ =>
    have g0 := hf 0 _ rfl; have g1 := hf 1 _ rfl; have g2 := hf 2 _ rfl; have g3 := hf 3 _ rfl; have g4 := hf 4 _ rfl
    simp [e3, e4, Value.cells] at g0 g1 g2 g3 g4
    obtain ⟨n0, q0, _⟩ := DataW.trod_int Try.underlying3 g0
    obtain ⟨n1, q1, _⟩ := DataW.trod_int Try.underlying3 g1
    obtain ⟨n2, q2, _⟩ := DataW.trod_int Try.underlying3 g2
    obtain ⟨n3, q3, _⟩ := DataW.trod_int Try.underlying3 g3
    obtain ⟨n4, q4, _⟩ := DataW.trod_bool Try.underlying4 g4
    simp only [List.cons.injEq, and_true] at q0 q1 q2 q3 q4
    subst q0; subst q1; subst q2; subst q3; subst q4
    exact ⟨⟨n0, n1, n2, n3, n4⟩, rfl⟩
end
end Go.Proofs.Ythhgbpbaihgogaa
