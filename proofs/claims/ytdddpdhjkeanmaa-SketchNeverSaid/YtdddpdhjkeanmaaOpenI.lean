/-
  A slice of ints that came in reads as a list of ints, each of 64 bits.
-/
import Derived.Test.YtdddpdhjkeanmaaRec
import Derived.WalkKit
import Derived.ProofKit
import Derived.OpenShut
import Derived.ChangeOld
import Derived.Deep.Slices
import Derived.Deep.Fields
import Derived.Deep.Strs
import Derived.ChangeSame
namespace Go.Proofs.Ytdddpdhjkeanmaa
open Go.ChangeShapes Go.WideShapes Go.Deep Go.RowKit
set_option linter.unusedVariables false
section
variable {H : Type} {enc : TypeId × Value → H} {P : Program} {w : World} {base : Nat} {spare : Nat → Bool} {held : Bool}
/-- a slice of records that came in -/
theorem open_recs {α : Type} (R : Rec α) {t e : TypeId} (ht : P.underlying t = some (.slice e)) (hc : P.cellsOf e = R.sz)
    (hel : ∀ n cs x, DataW.trod enc P w base spare held n e cs = some x → ∃ r, cs = R.cells r)
    {v : Value} {d : DataW H} {p : List MemPlace} {a : Option Addr} {len cap : Nat} (hv : v = .slice a len cap) (h : DataW.Trod enc P w base spare held t v d p) : len ≤ 9223372036854775807 ∧ ∃ l : List α, RdR R w w.heap.size a len l := by
  subst hv
  obtain ⟨fuel, hf⟩ := h
  rcases open_slice ht hf with ⟨hcs, _⟩ | ⟨x, l, c, m, n, D, Pl, hcs, _, hl, hm0, hm, _, hi⟩
  · simp [Value.cells] at hcs
    obtain ⟨rfl, rfl, rfl⟩ := hcs
    exact ⟨by omega, [], RdR.nil⟩
  · simp [Value.cells] at hcs
    obtain ⟨rfl, rfl, rfl⟩ := hcs
    rw [hc] at hi
    have hml : len ≤ m := by rw [hm]; split <;> omega
    have key : ∀ i, i < len → ∃ q : α, ∀ j u, (R.cells q)[j]? = some u → w.cell? (x.add (i * R.sz + j)) = some u := by
      intro i hi'
      obtain ⟨cs', hcc, ht'⟩ := hi i (by omega)
      obtain ⟨_, hcl, hat⟩ := World.cells?_some hcc
      obtain ⟨r, rfl⟩ := hel _ _ _ ht'
      refine ⟨r, fun j u hu => ?_⟩
      have hj : j < R.sz := by
        rcases Nat.lt_or_ge j R.sz with h' | h'
        · exact h'
        · rw [List.getElem?_eq_none (by rw [R.len]; exact h')] at hu; cases hu
      rw [← Go.Deep.add_add, hat j hj, hu]
    have pick : ∃ q : Nat → α, ∀ i, i < len → ∀ j u, (R.cells (q i))[j]? = some u → w.cell? (x.add (i * R.sz + j)) = some u := by
      refine ⟨fun i => if h : i < len then Classical.choose (key i h) else R.zero, fun i hi' => ?_⟩
      dsimp only
      rw [dif_pos hi']
      exact Classical.choose_spec (key i hi')
    obtain ⟨q, hq⟩ := pick
    have hlen : ((List.range len).map q).length = len := by simp
    refine ⟨by unfold maxLen at hm0; omega, (List.range len).map q, by rw [flatR_len, hlen], fun hn => ⟨x, rfl, ?_, ?_⟩⟩
    · have hz : (R.cells (q 0))[0]? = some ((R.cells (q 0))[0]'(by rw [R.len]; exact R.pos)) := List.getElem?_eq_getElem _
      have h0 := hq 0 hn 0 _ hz
      rw [show 0 * R.sz + 0 = 0 from by simp, show x.add 0 = x from by simp [Addr.add]] at h0
      exact lt_of_cell h0
    · intro j u hu
      have hp := R.pos
      have hj : j < len * R.sz := by
        rcases Nat.lt_or_ge j (len * R.sz) with h' | h'
        · exact h'
        · rw [List.getElem?_eq_none (by rw [flatR_len, hlen]; exact h')] at hu; cases hu
      have hdm : j = (j / R.sz) * R.sz + j % R.sz := by rw [Nat.mul_comm]; exact (Nat.div_add_mod j R.sz).symm
      have hjd : j / R.sz < len := Nat.div_lt_of_lt_mul (by rw [Nat.mul_comm]; exact hj)
      have hjm : j % R.sz < R.sz := Nat.mod_lt _ hp
      rw [hdm] at hu ⊢
      rw [flatR_get _ _ _ (by rw [hlen]; exact hjd) hjm] at hu
      have hix : ixR R ((List.range len).map q) (j / R.sz) = q (j / R.sz) := by simp [ixR, hjd]
      rw [hix] at hu
      exact hq _ hjd _ _ hu
end
theorem int_bd {n : Int} (h : (Lit.int .i64 n).wf = true) : -9223372036854775808 ≤ n ∧ n ≤ 9223372036854775807 := by
  have e1 : IntKind.i64.min = -9223372036854775808 := by decide
  have e2 : IntKind.i64.max = 9223372036854775807 := by decide
  simp only [Lit.wf, Bool.and_eq_true, decide_eq_true_eq, e1, e2] at h
  exact h
structure WI where
  v : Int
  wf : (Lit.int .i64 v).wf = true
def WIR : Rec WI := ⟨1, fun x => [.int .i64 x.v], fun _ => rfl, by decide, ⟨0, by decide⟩⟩
/-- it reads as the list, whose numbers have 64 bits -/
structure RdW (w : World) (B : Nat) (A : Option Addr) (n : Nat) (zs : List Int) : Prop where
  r : RdI w B A n zs
  wf : ∀ z ∈ zs, (Lit.int .i64 z).wf = true
section
variable {H : Type} {enc : TypeId × Value → H} {w : World} {base : Nat} {spare : Nat → Bool} {held : Bool}
theorem flat_wi (zs : List WI) : zs.flatMap WIR.cells = (zs.map WI.v).map (Value.int .i64) := by
  induction zs with
  | nil => rfl
  | cons z r ih => rw [List.flatMap_cons, ih]; rfl
theorem el_wi (n : Nat) (cs : List Value) (x : DataW H × List MemPlace) (h : DataW.trod enc Try.prog w base spare held n 3 cs = some x) : ∃ q : WI, cs = WIR.cells q := by
  obtain ⟨a, ha, _, hw⟩ := DataW.trod_int Try.underlying3 h
  exact ⟨⟨a, hw⟩, ha⟩
theorem open_nums {v : Value} {d : DataW H} {p : List MemPlace} {a : Option Addr} {len cap : Nat} (hv : v = .slice a len cap) (h : DataW.Trod enc Try.prog w base spare held 22 v d p) :
    len ≤ 9223372036854775807 ∧ ∃ l : List Int, RdW w w.heap.size a len l := by
  obtain ⟨h1, l, h2⟩ := open_recs WIR Try.underlying22 (by kernel_rfl) el_wi hv h
  refine ⟨h1, l.map WI.v, ?_, fun z hz => ?_⟩
  · unfold RdR at h2
    rw [flat_wi] at h2
    exact h2
  · obtain ⟨x, _, rfl⟩ := List.mem_map.1 hz
    exact x.wf
end
end Go.Proofs.Ytdddpdhjkeanmaa
