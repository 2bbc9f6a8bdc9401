/-
  Texts of this claim, one behind the other: OpenR.
-/
import Derived.Test.YtgdijbaodfghjaaGreatDoorZ02
import Derived.Test.YtgdijbaodfghjaaGreatDoorZ01
import Derived.WalkKit
import Derived.ProofKit
import Derived.OpenShut
import Derived.ChangeOld
import Derived.Deep.Slices
import Derived.Deep.Fields
import Derived.Deep.Strs
import Derived.ChangeSame
/-
  Slices of records as arguments: what came in reads as a list of records.
-/
namespace Go.Proofs.YtgdijbaodfghjaaGreatDoor
open Go.ChangeShapes Go.WideShapes Go.Deep Go.RowKit Bkt
set_option linter.unusedVariables false

section
variable {H : Type} {enc : TypeId × Value → H} {P : Program} {w : World} {base : Nat} {spare : Nat → Bool} {held : Bool}
theorem open_recs {α : Type} (R : Rec α) {t e : TypeId} (ht : P.underlying t = some (.slice e)) (hc : P.cellsOf e = R.sz)
    (hel : ∀ n cs x, DataW.trod enc P w base spare held n e cs = some x → ∃ r, cs = R.cells r)
    {v : Value} {d : DataW H} {p : List MemPlace} {a : Option Addr} {len cap : Nat} (hv : v = .slice a len cap) (h : DataW.Trod enc P w base spare held t v d p) : len ≤ 9223372036854775807 ∧ ∃ l : List α, RdR R w w.heap.size a len l := by
  subst hv
  obtain ⟨fuel, hf⟩ := h
  rcases open_slice ht hf with ⟨hcs, _⟩ | ⟨x, l, c, m, n, D, Pl, hcs, _, hl, hm0, hm, _, hi⟩
  · simp [Value.cells] at hcs
    obtain ⟨rfl, rfl, rfl⟩ := hcs
    exact ⟨by omega, [], RdR.nil⟩
  · simp [Value.cells] at hcs
    obtain ⟨rfl, rfl, rfl⟩ := hcs
    rw [hc] at hi
    have hml : len ≤ m := by rw [hm]; split <;> omega
    have key : ∀ i, i < len → ∃ q : α, ∀ j u, (R.cells q)[j]? = some u → w.cell? (x.add (i * R.sz + j)) = some u := by
      intro i hi'
      obtain ⟨cs', hcc, ht'⟩ := hi i (by omega)
      obtain ⟨_, hcl, hat⟩ := World.cells?_some hcc
      obtain ⟨r, rfl⟩ := hel _ _ _ ht'
      refine ⟨r, fun j u hu => ?_⟩
      have hj : j < R.sz := by
        rcases Nat.lt_or_ge j R.sz with h' | h'
        · exact h'
        · rw [List.getElem?_eq_none (by rw [R.len]; exact h')] at hu; cases hu
      rw [← Go.Deep.add_add, hat j hj, hu]
    have pick : ∃ q : Nat → α, ∀ i, i < len → ∀ j u, (R.cells (q i))[j]? = some u → w.cell? (x.add (i * R.sz + j)) = some u := by
      refine ⟨fun i => if h : i < len then Classical.choose (key i h) else R.zero, fun i hi' => ?_⟩
      dsimp only
      rw [dif_pos hi']
      exact Classical.choose_spec (key i hi')
    obtain ⟨q, hq⟩ := pick
    have hlen : ((List.range len).map q).length = len := by simp
    refine ⟨by unfold maxLen at hm0; omega, (List.range len).map q, by rw [flatR_len, hlen], fun hn => ⟨x, rfl, ?_, ?_⟩⟩
    · have hz : (R.cells (q 0))[0]? = some ((R.cells (q 0))[0]'(by rw [R.len]; exact R.pos)) := List.getElem?_eq_getElem _
      have h0 := hq 0 hn 0 _ hz
      rw [show 0 * R.sz + 0 = 0 from by simp, show x.add 0 = x from by simp [Addr.add]] at h0
      exact lt_of_cell h0
    · intro j u hu
      have hp := R.pos
      have hj : j < len * R.sz := by
        rcases Nat.lt_or_ge j (len * R.sz) with h' | h'
        · exact h'
        · rw [List.getElem?_eq_none (by rw [flatR_len, hlen]; exact h')] at hu; cases hu
      have hdm : j = (j / R.sz) * R.sz + j % R.sz := by rw [Nat.mul_comm]; exact (Nat.div_add_mod j R.sz).symm
      have hjd : j / R.sz < len := Nat.div_lt_of_lt_mul (by rw [Nat.mul_comm]; exact hj)
      have hjm : j % R.sz < R.sz := Nat.mod_lt _ hp
      rw [hdm] at hu ⊢
      rw [flatR_get _ _ _ (by rw [hlen]; exact hjd) hjm] at hu
      have hix : ixR R ((List.range len).map q) (j / R.sz) = q (j / R.sz) := by simp [ixR, hjd]
      rw [hix] at hu
      exact hq _ hjd _ _ hu
end

section
variable {H : Type} {enc : TypeId × Value → H} {w : World} {base : Nat} {spare : Nat → Bool} {held : Bool}
set_option maxRecDepth 100000 in
theorem el_item (n : Nat) (cs : List Value) (x : DataW H × List MemPlace) (h : DataW.trod enc Tryz.prog w base spare held n 34 cs = some x) : ∃ q : It, cs = [.int .i64 q.at_, .int .i64 q.len, .int .i64 q.flow, .int .i64 q.band, .int .i64 q.mark] := by
  obtain ⟨xs, m, _, _, hl, hlen, hf⟩ := DataW.trod_struct Tryz.underlying34 h
  have e5 : Tryz.prog.cellsOf 34 = 5 := by kernel_rfl
  have e3 : Tryz.prog.cellsOf 3 = 1 := by kernel_rfl
  rw [e5] at hl
  match cs, hl, xs, hlen with
  | [c0, c1, c2, c3, c4], _, [y0, y1, y2, y3, y4], _ =>
    have g0 := hf 0 _ rfl; have g1 := hf 1 _ rfl; have g2 := hf 2 _ rfl; have g3 := hf 3 _ rfl; have g4 := hf 4 _ rfl
    simp [e3] at g0 g1 g2 g3 g4
    obtain ⟨n0, e0, _⟩ := DataW.trod_int Tryz.underlying3 g0
    obtain ⟨n1, e1, _⟩ := DataW.trod_int Tryz.underlying3 g1
    obtain ⟨n2, e2, _⟩ := DataW.trod_int Tryz.underlying3 g2
    obtain ⟨n3, e3', _⟩ := DataW.trod_int Tryz.underlying3 g3
    obtain ⟨n4, e4, _⟩ := DataW.trod_int Tryz.underlying3 g4
    simp only [List.cons.injEq, and_true] at e0 e1 e2 e3' e4
    subst e0; subst e1; subst e2; subst e3'; subst e4
    exact ⟨⟨n0, n1, n2, n3, n4⟩, rfl⟩
end
end Go.Proofs.YtgdijbaodfghjaaGreatDoor
