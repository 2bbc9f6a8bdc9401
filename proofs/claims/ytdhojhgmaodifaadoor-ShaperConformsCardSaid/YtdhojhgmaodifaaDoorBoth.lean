/-
  Two rows of ints that grow in one statement, in whatever order.
-/
import Derived.Test.YtdhojhgmaodifaaDoorLeftOut
namespace Go.Proofs.YtdhojhgmaodifaaDoor
open Go.RowKit Bkt
set_option linter.unusedVariables false

theorem grown_cell {w w' : World} {v : Value} {b o : Nat} (hg : w.grownBy w' v.ownBlock) (hb : b < w.heap.size) (hne : ∀ i, v.ownBlock = some i → i < b) : w'.cell? ⟨b, o, none⟩ = w.cell? ⟨b, o, none⟩ :=
  World.cell?_of_block (hg.block b hb (fun e => by have := hne b e.symm; omega))
/-- the cells of one int that was just laid -/
theorem int_cells {W : World} {b : Nat} {x : Int} (h : W.cell? ⟨b, 0, none⟩ = some (.int .i64 x)) : ∀ j u, (IntR.cells x)[j]? = some u → W.cell? ((⟨b, 0, none⟩ : Addr).add j) = some u := by
  intro j u hu
  rcases j with _ | j
  · simp [IntR] at hu
    subst hu
    simpa [Addr.add] using h
  · simp [IntR] at hu
/-- two rows of the call's own (values vs, vt), while the variables' cells gS, gT still hold us, ut -/
structure Both (W0 w : World) (base gS gT gW gB : Nat) (us ut vs vt : Value) (ls lt : List Int) (u0 u1 : Int) : Prop where
  bS : Blk w gS 37 #[us]
  bT : Blk w gT 37 #[ut]
  bW : Blk w gW 3 #[.int .i64 u0]
  bB : Blk w gB 3 #[.int .i64 u1]
  oS : OwnW w base 3 1 vs ls.length (ls.flatMap IntR.cells)
  oT : OwnW w base 3 1 vt lt.length (lt.flatMap IntR.cells)
  lo : base ≤ gS ∧ base ≤ gT ∧ base ≤ gW ∧ base ≤ gB
  n1 : gS ≠ gT
  n2 : gW ≠ gB
  n3 : ∀ i, vs.ownBlock = some i → i ≠ gW ∧ i ≠ gB ∧ vt.ownBlock ≠ some i
  n4 : ∀ i, vt.ownBlock = some i → i ≠ gW ∧ i ≠ gB
  bel : Below base W0 w
section
variable {W0 w w' : World} {base gS gT gW gB : Nat} {us ut vs vt v' : Value} {ls lt : List Int} {u0 u1 x : Int}
theorem Both.of {S : Pl.LS} (h : LMem w base gS gT gW gB S vs vt) : Both w w base gS gT gW gB vs vt vs vt S.size S.state S.wait S.bytes :=
  ⟨h.bS, h.bT, h.bW, h.bB, h.oS, h.oT, h.lo, h.n1, h.n2, h.n3, h.n4, Below.refl _ _⟩
theorem Both.drew (h : Both W0 w base gS gT gW gB us ut vs vt ls lt u0 u1) : Both W0 w.drew base gS gT gW gB us ut vs vt ls lt u0 u1 :=
  ⟨h.bS, h.bT, h.bW, h.bB, h.oS, h.oT, h.lo, h.n1, h.n2, h.n3, h.n4, h.bel.drew⟩
theorem Both.szle (h : Both W0 w base gS gT gW gB us ut vs vt ls lt u0 u1) : base ≤ w.heap.size := Nat.le_trans h.lo.1 (Nat.le_of_lt h.bS.lt)
theorem Both.alloc (h : Both W0 w base gS gT gW gB us ut vs vt ls lt u0 u1) (o : Obj) : Both W0 (w.alloc o) base gS gT gW gB us ut vs vt ls lt u0 u1 :=
  ⟨h.bS.alloc o, h.bT.alloc o, h.bW.alloc o, h.bB.alloc o, h.oS.alloc o, h.oT.alloc o, h.lo, h.n1, h.n2, h.n3, h.n4, h.bel.alloc h.szle o⟩
theorem Both.push1 (h : Both W0 w base gS gT gW gB us ut vs vt ls lt u0 u1) (ho : OwnW w' base 3 1 v' (ls.length + 1) ((ls ++ [x]).flatMap IntR.cells)) (hg : w.grownBy w' vs.ownBlock) (hat : v'.ownBlock = vs.ownBlock ∨ ∀ g, v'.ownBlock = some g → w.heap.size ≤ g) :
    Both W0 w' base gS gT gW gB us ut v' vt (ls ++ [x]) lt u0 u1 := by
  have a1 : vs.ownBlock ≠ some gS := h.oS.blk_ne h.bS (by decide)
  have a2 : vs.ownBlock ≠ some gT := h.oS.blk_ne h.bT (by decide)
  refine ⟨h.bS.grown hg (fun e => a1 e.symm), h.bT.grown hg (fun e => a2 e.symm), h.bW.grown hg (fun e => (h.n3 _ e.symm).1 rfl), h.bB.grown hg (fun e => (h.n3 _ e.symm).2.1 rfl), by rw [List.length_append]; exact ho, ?_, h.lo, h.n1, h.n2, ?_, h.n4, ?_⟩
  · refine h.oT.kept hg ?_
    cases e : vt.ownBlock with
    | none => exact .inl rfl
    | some i => exact .inr fun e2 => (h.n3 i e2.symm).2.2 e
  · intro i hi
    rcases hat with e | e
    · exact h.n3 i (e ▸ hi)
    · have h1 := e i hi
      have h2 := h.bW.lt; have h3 := h.bB.lt
      exact ⟨by omega, by omega, fun e2 => by have := (h.oT.lt i e2).2; omega⟩
  · exact h.bel.grown hg h.szle (fun i hi => (h.oS.lt i hi).1)
theorem Both.push2 (h : Both W0 w base gS gT gW gB us ut vs vt ls lt u0 u1) (ho : OwnW w' base 3 1 v' (lt.length + 1) ((lt ++ [x]).flatMap IntR.cells)) (hg : w.grownBy w' vt.ownBlock) (hat : v'.ownBlock = vt.ownBlock ∨ ∀ g, v'.ownBlock = some g → w.heap.size ≤ g) :
    Both W0 w' base gS gT gW gB us ut vs v' ls (lt ++ [x]) u0 u1 := by
  have a1 : vt.ownBlock ≠ some gS := h.oT.blk_ne h.bS (by decide)
  have a2 : vt.ownBlock ≠ some gT := h.oT.blk_ne h.bT (by decide)
  refine ⟨h.bS.grown hg (fun e => a1 e.symm), h.bT.grown hg (fun e => a2 e.symm), h.bW.grown hg (fun e => (h.n4 _ e.symm).1 rfl), h.bB.grown hg (fun e => (h.n4 _ e.symm).2 rfl), ?_, by rw [List.length_append]; exact ho, h.lo, h.n1, h.n2, ?_, ?_, ?_⟩
  · refine h.oS.kept hg ?_
    cases e : vs.ownBlock with
    | none => exact .inl rfl
    | some i => exact .inr fun e2 => (h.n3 i e).2.2 e2.symm
  · intro i hi
    obtain ⟨b1, b2, b3⟩ := h.n3 i hi
    refine ⟨b1, b2, fun e2 => ?_⟩
    rcases hat with e | e
    · exact b3 (e ▸ e2)
    · have h1 := e i e2; have := (h.oS.lt i hi).2; omega
  · intro i hi
    rcases hat with e | e
    · exact h.n4 i (e ▸ hi)
    · have h1 := e i hi
      have h2 := h.bW.lt; have h3 := h.bB.lt
      omega
  · exact h.bel.grown hg h.szle (fun i hi => (h.oT.lt i hi).1)
/-- the variables hold the new rows -/
theorem Both.mem {S : Pl.LS} (h : Both W0 w base gS gT gW gB us ut vs vt S.size S.state S.wait S.bytes) (hl : S.size.length = S.state.length) :
    LMem ((w.setCell ⟨gS, 0, none⟩ vs).setCell ⟨gT, 0, none⟩ vt) base gS gT gW gB S vs vt ∧ Below base W0 ((w.setCell ⟨gS, 0, none⟩ vs).setCell ⟨gT, 0, none⟩ vt) := by
  have a1 : vs.ownBlock ≠ some gS := h.oS.blk_ne h.bS (by decide)
  have a2 : vs.ownBlock ≠ some gT := h.oS.blk_ne h.bT (by decide)
  have a3 : vt.ownBlock ≠ some gS := h.oT.blk_ne h.bS (by decide)
  have a4 : vt.ownBlock ≠ some gT := h.oT.blk_ne h.bT (by decide)
  have m5 : gW ≠ gT := Blk.ne_ h.bW h.bT (by decide)
  have m6 : gW ≠ gS := Blk.ne_ h.bW h.bS (by decide)
  have m7 : gB ≠ gT := Blk.ne_ h.bB h.bT (by decide)
  have m8 : gB ≠ gS := Blk.ne_ h.bB h.bS (by decide)
  exact ⟨⟨(h.bS.set_ 0 vs).far (p := ⟨gT, 0, none⟩) h.n1 _, (h.bT.far (p := ⟨gS, 0, none⟩) (Ne.symm h.n1) _).set_ 0 vt, (h.bW.far (p := ⟨gS, 0, none⟩) m6 _).far (p := ⟨gT, 0, none⟩) m5 _, (h.bB.far (p := ⟨gS, 0, none⟩) m8 _).far (p := ⟨gT, 0, none⟩) m7 _,
    (h.oS.setCell (p := ⟨gS, 0, none⟩) a1 _).setCell (p := ⟨gT, 0, none⟩) a2 _, (h.oT.setCell (p := ⟨gS, 0, none⟩) a3 _).setCell (p := ⟨gT, 0, none⟩) a4 _, h.lo, h.n1, h.n2, h.n3, h.n4, hl⟩,
    (h.bel.setCell (p := ⟨gS, 0, none⟩) h.lo.1 _).setCell (p := ⟨gT, 0, none⟩) h.lo.2.1 _⟩
theorem Both.sees {p : Addr} {u : Value} (h : Both W0 w base gS gT gW gB us ut vs vt ls lt u0 u1) (hx : W0.cell? p = some u) (hp : p.block < base) : w.cell? ⟨gS, 0, none⟩ = some us ∧ w.cell? ⟨gT, 0, none⟩ = some ut ∧ w.cell? p = some u :=
  ⟨h.bS.cell 0, h.bT.cell 0, (h.bel.cell hp).trans hx⟩
/-- an int in a block of its own, apart from both rows -/
structure Pend (w : World) (b : Nat) (x : Int) (vs vt : Value) : Prop where
  c : w.cell? ⟨b, 0, none⟩ = some (.int .i64 x)
  lt : b < w.heap.size
  n1 : vs.ownBlock ≠ some b
  n2 : vt.ownBlock ≠ some b
theorem Both.lay (h : Both W0 w base gS gT gW gB us ut vs vt ls lt u0 u1) (y : Int) : Both W0 (w.alloc (.cells #[.int .i64 y] 3)) base gS gT gW gB us ut vs vt ls lt u0 u1 ∧ Pend (w.alloc (.cells #[.int .i64 y] 3)) w.heap.size y vs vt :=
  ⟨h.alloc _, (Blk.new w _ _).cell 0, by simp, fun e => by have := (h.oS.lt _ e).2; omega, fun e => by have := (h.oT.lt _ e).2; omega⟩
theorem Pend.alloc {b : Nat} {y : Int} (h : Pend w b y vs vt) (o : Obj) : Pend (w.alloc o) b y vs vt :=
  ⟨(World.cell?_alloc_lt w o _ h.lt).trans h.c, by have := h.lt; simp; omega, h.n1, h.n2⟩
theorem Pend.grow1 {b : Nat} {y : Int} (h : Pend w b y vs vt) (hg : w.grownBy w' vs.ownBlock) (hat : v'.ownBlock = vs.ownBlock ∨ ∀ g, v'.ownBlock = some g → w.heap.size ≤ g) : Pend w' b y v' vt := by
  refine ⟨(World.cell?_of_block (hg.block b h.lt (fun e => h.n1 e.symm))).trans h.c, Nat.lt_of_lt_of_le h.lt hg.size, fun e => ?_, h.n2⟩
  rcases hat with e2 | e2
  · exact h.n1 (e2 ▸ e)
  · have := e2 _ e; have := h.lt; omega
end
/-- the two numbers stored anew -/
theorem LMem.nums {w : World} {base gS gT gW gB : Nat} {S : Pl.LS} {vs vt : Value} (h : LMem w base gS gT gW gB S vs vt) (x y : Int) :
    LMem ((w.setCell ⟨gW, 0, none⟩ (.int .i64 x)).setCell ⟨gB, 0, none⟩ (.int .i64 y)) base gS gT gW gB ⟨S.size, S.state, x, y⟩ vs vt ∧ Below base w ((w.setCell ⟨gW, 0, none⟩ (.int .i64 x)).setCell ⟨gB, 0, none⟩ (.int .i64 y)) := by
  have m5 : gW ≠ gT := Blk.ne_ h.bW h.bT (by decide)
  have m6 : gW ≠ gS := Blk.ne_ h.bW h.bS (by decide)
  have m7 : gB ≠ gT := Blk.ne_ h.bB h.bT (by decide)
  have m8 : gB ≠ gS := Blk.ne_ h.bB h.bS (by decide)
  exact ⟨⟨(h.bS.far (p := ⟨gW, 0, none⟩) (Ne.symm m6) _).far (p := ⟨gB, 0, none⟩) (Ne.symm m8) _, (h.bT.far (p := ⟨gW, 0, none⟩) (Ne.symm m5) _).far (p := ⟨gB, 0, none⟩) (Ne.symm m7) _,
    (h.bW.set_ 0 _).far (p := ⟨gB, 0, none⟩) h.n2 _, (h.bB.far (p := ⟨gW, 0, none⟩) (Ne.symm h.n2) _).set_ 0 _,
    (h.oS.setCell (p := ⟨gW, 0, none⟩) (fun e => (h.n3 _ e).1 rfl) _).setCell (p := ⟨gB, 0, none⟩) (fun e => (h.n3 _ e).2.1 rfl) _,
    (h.oT.setCell (p := ⟨gW, 0, none⟩) (fun e => (h.n4 _ e).1 rfl) _).setCell (p := ⟨gB, 0, none⟩) (fun e => (h.n4 _ e).2 rfl) _, h.lo, h.n1, h.n2, h.n3, h.n4, h.sl⟩,
    ((Below.refl base w).setCell (p := ⟨gW, 0, none⟩) h.lo.2.2.1 _).setCell (p := ⟨gB, 0, none⟩) h.lo.2.2.2 _⟩
end Go.Proofs.YtdhojhgmaodifaaDoor
