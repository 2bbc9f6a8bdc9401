/-
  Actions, buckets and a packet as arguments.
-/
import Derived.Test.YtdhojhgmaodifaaDoorDoor
import Derived.Test.YtdhojhgmaodifaaDoorOpenR
import Derived.Test.YtdhojhgmaodifaaDoorActPrg
namespace Go.Proofs.YtdhojhgmaodifaaDoor
open Go.ChangeShapes Go.WideShapes Go.Deep Go.RowKit Bkt
set_option linter.unusedVariables false

def AcW := { a : Actn.Ac // (Lit.int .i64 a.kind).wf = true }
def AcWR : Rec AcW := ⟨3, fun a => acCells a.1, fun _ => rfl, by decide, ⟨⟨0, 0, 0⟩, by decide⟩⟩
/-- actions that came in: their kinds are ints -/
def ActsIn (w : World) (A : Option Addr) (n : Nat) (l : List Actn.Ac) : Prop := RdR AcR w w.heap.size A n l ∧ (∀ i, (Lit.int .i64 (Actn.ax l i).kind).wf = true) ∧ n ≤ 9223372036854775807
section
variable {H : Type} {enc : TypeId × Value → H} {w : World} {base : Nat} {spare : Nat → Bool} {held : Bool}
set_option maxRecDepth 100000 in
theorem el_act (n : Nat) (cs : List Value) (x : DataW H × List MemPlace) (h : DataW.trod enc Tryd.prog w base spare held n 65 cs = some x) : ∃ q : AcW, cs = AcWR.cells q := by
  obtain ⟨y0, y1, y2, m, _, hl, h0, h1, h2⟩ := trod_struct3 Tryd.underlying65 h
  have e7 : Tryd.prog.cellsOf 65 = 3 := by kernel_rfl
  have e3 : Tryd.prog.cellsOf 3 = 1 := by kernel_rfl
  rw [e7] at hl
  match cs, hl with
  | [c0, c1, c2], _ =>
    simp only [e3, List.drop, List.take] at h0 h1 h2
    obtain ⟨n0, e0, hw⟩ := DataW.trod_int Tryd.underlying3 h0
    obtain ⟨n1, e1, _⟩ := DataW.trod_int Tryd.underlying3 h1
    obtain ⟨n2, e2, _⟩ := DataW.trod_int Tryd.underlying3 h2
    simp only [List.cons.injEq, and_true] at e0 e1 e2
    subst e0; subst e1; subst e2
    exact ⟨⟨⟨n0, n1, n2⟩, hw.2⟩, rfl⟩
theorem open_actions {v : Value} {d : DataW H} {p : List MemPlace} {a : Option Addr} {len cap : Nat} (hv : v = .slice a len cap) (h : DataW.Trod enc Tryd.prog w base spare held 54 v d p) : ∃ l : List Actn.Ac, ActsIn w a len l := by
  obtain ⟨hn, l, hr⟩ := open_recs AcWR Tryd.underlying54 (by kernel_rfl) el_act hv h
  refine ⟨l.map (·.1), ?_, fun i => ?_, hn⟩
  · have e : (l.map (·.1)).flatMap AcR.cells = l.flatMap AcWR.cells := by
      rw [List.flatMap_map]
      rfl
    unfold RdR at hr ⊢
    rw [e]
    exact hr
  · unfold Actn.ax
    rw [List.getD_eq_getElem?_getD, List.getElem?_map]
    cases l[i]? with
    | none => decide
    | some q => exact q.2
set_option maxRecDepth 100000 in
theorem el_bucket (n : Nat) (cs : List Value) (x : DataW H × List MemPlace) (hf : DataW.trod enc Tryd.prog w base spare held n 32 cs = some x) : ∃ q : Bk, cs = BkR.cells q := by
  obtain ⟨y0, y1, m, _, hl, h0, h1⟩ := trod_struct2 Tryd.underlying32 hf
  have e33 : Tryd.prog.cellsOf 32 = 3 := by kernel_rfl
  have e23 : Tryd.prog.cellsOf 23 = 2 := by kernel_rfl
  have e3 : Tryd.prog.cellsOf 3 = 1 := by kernel_rfl
  rw [e33] at hl
  match cs, hl with
  | [c0, c1, c2], _ =>
    simp only [e23, e3, List.drop, List.take] at h0 h1
    obtain ⟨z0, z1, m, _, _, g0, g1⟩ := trod_struct2 Tryd.underlying23 h0
    simp only [e3, List.drop, List.take] at g0 g1
    obtain ⟨a, ha, _⟩ := DataW.trod_int Tryd.underlying3 g0
    obtain ⟨b, hb, _⟩ := DataW.trod_int Tryd.underlying3 g1
    obtain ⟨c, hc, _⟩ := DataW.trod_int Tryd.underlying3 h1
    simp only [List.cons.injEq, and_true] at ha hb hc
    subst ha; subst hb; subst hc
    exact ⟨⟨a, b, c⟩, rfl⟩
theorem open_buckets {v : Value} {d : DataW H} {p : List MemPlace} {a : Option Addr} {len cap : Nat} (hv : v = .slice a len cap) (h : DataW.Trod enc Tryd.prog w base spare held 55 v d p) : ∃ l : List Bk, RdR BkR w w.heap.size a len l := by
  obtain ⟨_, l, hr⟩ := open_recs BkR Tryd.underlying55 (by kernel_rfl) el_bucket hv h
  exact ⟨l, hr⟩
set_option maxRecDepth 100000 in
/-- a packet by value -/
theorem open_item {r : Reach} {b0 : Nat} {v : Value} {d : DataW H} {p : List MemPlace} (hv : Value.okWide Tryd.prog w r b0 39 v) (h : DataW.Trod enc Tryd.prog w base spare held 39 v d p) : ∃ q : It, v = itV q := by
  obtain ⟨cs, rfl, hsz⟩ := okWide_struct Tryd.underlying39 hv
  obtain ⟨fuel, hf⟩ := h
  obtain ⟨l⟩ := cs
  obtain ⟨q, hq⟩ := el_item _ _ _ hf
  have hq' : l = _ := hq
  subst hq'
  exact ⟨q, rfl⟩
end
end Go.Proofs.YtdhojhgmaodifaaDoor
