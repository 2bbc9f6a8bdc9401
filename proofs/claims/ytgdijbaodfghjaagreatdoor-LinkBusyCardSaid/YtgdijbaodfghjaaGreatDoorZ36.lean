/-
  Texts of this claim, one behind the other: Left.
-/
import Derived.Test.YtgdijbaodfghjaaGreatDoorZ14
import Derived.Test.YtgdijbaodfghjaaGreatDoorZ33
import Derived.Deep.CutRange
import Derived.Deep.CutBlock
/-
  The check that nothing is lost but what is told (left), where it says yes.
-/
namespace Go.Proofs.YtgdijbaodfghjaaGreatDoor
open Go.RowKit Bkt
set_option linter.unusedVariables false

theorem rdSn_at {w : World} {B b off n : Nat} {vs : List SnV} (h : RdR SnR w B (some ⟨b, off, none⟩) n vs) {k : Nat} (hk : k < n) :
    w.cell? ⟨b, off + k * 6, none⟩ = some (.int .i64 (ixR SnR vs k).taken) ∧ w.cell? ⟨b, off + k * 6 + 1, none⟩ = some (.int .i64 (ixR SnR vs k).mark) ∧ w.cell? ⟨b, off + k * 6 + 2, none⟩ = some (.int .i64 (ixR SnR vs k).when_) ∧
    w.cell? ⟨b, off + k * 6 + 3, none⟩ = some (.int .i64 (ixR SnR vs k).len) ∧ w.cell? ⟨b, off + k * 6 + 4, none⟩ = some (.int .i64 (ixR SnR vs k).bytes) ∧ w.cell? ⟨b, off + k * 6 + 5, none⟩ = some (.slice (ixR SnR vs k).A (ixR SnR vs k).n (ixR SnR vs k).c) := by
  have ha := fun j u => h.all hk j u
  refine ⟨?_, ?_, ?_, ?_, ?_, ?_⟩
  · have := ha 0 _ rfl; rw [Nat.add_zero] at this; exact this
  · have := ha 1 _ rfl; rw [← Nat.add_assoc] at this; exact this
  · have := ha 2 _ rfl; rw [← Nat.add_assoc] at this; exact this
  · have := ha 3 _ rfl; rw [← Nat.add_assoc] at this; exact this
  · have := ha 4 _ rfl; rw [← Nat.add_assoc] at this; exact this
  · have := ha 5 _ rfl; rw [← Nat.add_assoc] at this; exact this
theorem RdSn.at_ {w : World} {B n : Nat} {A : Option Addr} {sn : Nat → Pl.Seen} (h : RdSn w B A n sn) {k : Nat} (hk : k < n) : ∃ b off A' c, A = some ⟨b, off, none⟩ ∧ b < B ∧ w.cell? ⟨b, off + k * 6, none⟩ = some (.int .i64 (sn k).taken) ∧
    w.cell? ⟨b, off + k * 6 + 3, none⟩ = some (.int .i64 (sn k).len) ∧ w.cell? ⟨b, off + k * 6 + 4, none⟩ = some (.int .i64 (sn k).bytes) ∧ w.cell? ⟨b, off + k * 6 + 5, none⟩ = some (.slice A' (sn k).lost.length c) ∧ RdI w B A' (sn k).lost.length (sn k).lost := by
  obtain ⟨vs, hr, his⟩ := h
  obtain ⟨b, off, rfl, hb⟩ := hr.addr hk
  obtain ⟨c0, _, _, c3, c4, c5⟩ := rdSn_at hr hk
  have h1 := his k hk
  rw [h1.taken] at c0; rw [h1.len] at c3; rw [h1.bytes] at c4
  have h2 := h1.rd
  rw [h1.n] at c5 h2
  exact ⟨b, off, _, _, rfl, hb, c0, c3, c4, c5, h2⟩
theorem SnIs.over {w w' : World} {B : Nat} {v : SnV} {s : Pl.Seen} (h : SnIs w B v s) (hb : Below w.heap.size w w') (hB : B ≤ w.heap.size) : SnIs w' w'.heap.size v s :=
  ⟨h.taken, h.mark, h.when_, h.len, h.bytes, h.n, h.rd.over hb hB⟩
theorem RdSn.over {w w' : World} {B n : Nat} {A : Option Addr} {sn : Nat → Pl.Seen} (h : RdSn w B A n sn) (hb : Below w.heap.size w w') (hB : B ≤ w.heap.size) : RdSn w' w'.heap.size A n sn := by
  obtain ⟨vs, hr, his⟩ := h
  exact ⟨vs, hr.over hb hB, fun i hi => (his i hi).over hb hB⟩
structure LRel (w1 wr : World) (late : Bool) (ts : List Pl.Stp) (sn : Nat → Pl.Seen) (gS : Nat) (k : Nat) (S : Pl.LS) (vs vt : Value) : Prop where
  mem : LMem wr w1.heap.size gS (gS + 1) (gS + 1 + 1) (gS + 1 + 1 + 1) S vs vt
  lto : Pl.leftTo late ts sn k = some S
  lb : LB S (200000 * k)
  bel : Below w1.heap.size w1 wr
  len : S.state.length ≤ k

structure ORel (w1 wo wr : World) (S0 S2 : Pl.LS) (ls : List Int) (m j : Nat) (S : Pl.LS) (vs vt : Value) : Prop where
  mem : LMem wr w1.heap.size w1.heap.size (w1.heap.size + 1) (w1.heap.size + 1 + 1) (w1.heap.size + 1 + 1 + 1) S vs vt
  rest : Pl.outsL S (ls.drop j) = some S2
  lb : LB S (m + j)
  bel : Below w1.heap.size wo wr
  len : S.state.length ≤ S0.state.length
theorem outL_len {S S' : Pl.LS} {k : Int} (h : Pl.outL S k = some S') : S'.state.length = S.state.length := by
  obtain ⟨_, _, _, rfl⟩ := outL_some h
  simp
theorem ORel.step {w1 wo wr w' : World} {S0 S2 S : Pl.LS} {ls : List Int} {m j : Nat} {vs vt : Value} (h : ORel w1 wo wr S0 S2 ls m j S vs vt) (hj : j < ls.length) :
    ∃ S', Pl.outL S (ls.getD j 0) = some S' ∧ (∀ w', LMem w' w1.heap.size w1.heap.size (w1.heap.size + 1) (w1.heap.size + 1 + 1) (w1.heap.size + 1 + 1 + 1) S' vs vt → Below w1.heap.size wr w' → ORel w1 wo w' S0 S2 ls m (j + 1) S' vs vt) := by
  have hr := h.rest
  rw [List.drop_eq_getElem_cons hj, Pl.outsL] at hr
  have e : ls.getD j 0 = ls[j] := by rw [List.getD, List.getElem?_eq_getElem hj]; rfl
  cases h1 : Pl.outL S ls[j] with
  | none => rw [h1] at hr; cases hr
  | some S' =>
    rw [h1, Option.bind_some] at hr
    exact ⟨S', by rw [e, h1], fun w' hm hb => ⟨hm, hr, h.lb.out h1 h.mem.sl, h.bel.trans hb, by rw [outL_len h1]; exact h.len⟩⟩

end Go.Proofs.YtgdijbaodfghjaaGreatDoor
