/-
  The reader of filters: the words of a text.
-/
import Derived.Test.YtdipehgijjkfdaaDoorFlOne
import Derived.Test.YtdipehgijjkfdaaDoorTill
import Derived.Test.YtdipehgijjkfdaaDoorStepW
namespace Go.Proofs.YtdipehgijjkfdaaDoor
open Go.RowKit
set_option linter.unusedVariables false
theorem Tryd.strInfo : (Tryd.prog.info? 9).map (fun i => (i.zero, i.size, i.bytes)) = some (some (.string ⟨#[]⟩), 1, 16) := by kernel_rfl
theorem OwnW.apart {w : World} {b1 b2 e1 e2 n1 n2 m1 m2 : Nat} {v1 v2 : Value} {xs ys : List Value} (h : OwnW w b1 e1 n1 v1 m1 xs) (h' : OwnW w b2 e2 n2 v2 m2 ys) (hne : e1 ≠ e2) : ∀ j, v1.ownBlock = some j → v2.ownBlock ≠ some j := by
  intro j hj
  rcases h.2 with ⟨rfl, _⟩ | ⟨g, o, c, cur, rfl, _, hg, _⟩
  · simp [Value.ownBlock] at hj
  · have e : g = j := by simpa [Value.ownBlock] using hj
    subst e
    exact h'.blk_ne hg (Ne.symm hne)
/-- words read so far: w0 is where the call began, its reader lies at w0.heap.size -/
structure LxM (w0 w : World) (len : Nat) (us ut vs vt : Value) (ws : List (List UInt8)) (ps : List Int) : Prop where
  blk : Blk w w0.heap.size 67 #[us, ut, .int .i64 0, .int .i64 len]
  oS : OwnW w (w0.heap.size + 1) 9 1 vs ws.length (ws.map sv)
  oT : OwnW w (w0.heap.size + 1) 3 1 vt ps.length (ps.map (Value.int .i64))
  bel : Below w0.heap.size w0 w
/-- a value in a block of its own, apart from both rows -/
structure PendV (w : World) (b : Nat) (x : Value) (vs vt : Value) : Prop where
  c : w.cell? ⟨b, 0, none⟩ = some x
  lt : b < w.heap.size
  n1 : vs.ownBlock ≠ some b
  n2 : vt.ownBlock ≠ some b
theorem val_cellsAt {W : World} {b : Nat} {x : Value} (h : W.cell? ⟨b, 0, none⟩ = some x) : ∀ j u, (ValR.cells x)[j]? = some u → W.cell? ((⟨b, 0, none⟩ : Addr).add j) = some u := by
  intro j u hu
  rcases j with _ | j
  · simp [ValR] at hu
    subst hu
    simpa [Addr.add] using h
  · simp [ValR] at hu
section
variable {w0 w w' : World} {len : Nat} {us ut vs vt v' : Value} {ws : List (List UInt8)} {ps : List Int} {s : List UInt8} {x : Int}
theorem LxM.drew (h : LxM w0 w len us ut vs vt ws ps) : LxM w0 w.drew len us ut vs vt ws ps := ⟨h.blk, h.oS, h.oT, h.bel.drew⟩
theorem LxM.szle (h : LxM w0 w len us ut vs vt ws ps) : w0.heap.size + 1 ≤ w.heap.size := h.blk.lt
theorem LxM.alloc (h : LxM w0 w len us ut vs vt ws ps) (o : Obj) : LxM w0 (w.alloc o) len us ut vs vt ws ps := ⟨h.blk.alloc o, h.oS.alloc o, h.oT.alloc o, h.bel.alloc (by have := h.szle; omega) o⟩
theorem LxM.sees (h : LxM w0 w len us ut vs vt ws ps) : w.cell? ⟨w0.heap.size, 0, none⟩ = some us ∧ w.cell? ⟨w0.heap.size, 1, none⟩ = some ut := ⟨h.blk.cell 0, h.blk.cell 1⟩
theorem LxM.push1 (h : LxM w0 w len us ut vs vt ws ps) (ho : OwnW w' (w0.heap.size + 1) 9 1 v' (ws.length + 1) (ws.map sv ++ [sv s])) (hg : w.grownBy w' vs.ownBlock) : LxM w0 w' len us ut v' vt (ws ++ [s]) ps := by
  refine ⟨h.blk.grown hg (fun e => by have := (h.oS.lt _ e.symm).1; omega), by simpa using ho, h.oT.kept hg ?_, h.bel.grown hg (by have := h.szle; omega) (fun i hi => by have := (h.oS.lt i hi).1; omega)⟩
  cases e : vt.ownBlock with
  | none => exact .inl rfl
  | some i => exact .inr fun e2 => h.oS.apart h.oT (by decide) i e2.symm e
theorem LxM.push2 (h : LxM w0 w len us ut vs vt ws ps) (ho : OwnW w' (w0.heap.size + 1) 3 1 v' (ps.length + 1) (ps.map (Value.int .i64) ++ [.int .i64 x])) (hg : w.grownBy w' vt.ownBlock) : LxM w0 w' len us ut vs v' ws (ps ++ [x]) := by
  refine ⟨h.blk.grown hg (fun e => by have := (h.oT.lt _ e.symm).1; omega), h.oS.kept hg ?_, by simpa using ho, h.bel.grown hg (by have := h.szle; omega) (fun i hi => by have := (h.oT.lt i hi).1; omega)⟩
  cases e : vs.ownBlock with
  | none => exact .inl rfl
  | some i => exact .inr fun e2 => h.oS.apart h.oT (by decide) i e e2.symm
theorem LxM.lay (h : LxM w0 w len us ut vs vt ws ps) (y : Value) (t : TypeId) : LxM w0 (w.alloc (.cells #[y] t)) len us ut vs vt ws ps ∧ PendV (w.alloc (.cells #[y] t)) w.heap.size y vs vt :=
  ⟨h.alloc _, (Blk.new w _ _).cell 0, by simp, fun e => by have := (h.oS.lt _ e).2; omega, fun e => by have := (h.oT.lt _ e).2; omega⟩
theorem PendV.alloc {b : Nat} {y : Value} (h : PendV w b y vs vt) (o : Obj) : PendV (w.alloc o) b y vs vt :=
  ⟨(World.cell?_alloc_lt w o _ h.lt).trans h.c, by have := h.lt; simp; omega, h.n1, h.n2⟩
theorem PendV.grown1 {b : Nat} {y : Value} (h : PendV w b y vs vt) (hg : w.grownBy w' vs.ownBlock) (hat : v'.ownBlock = vs.ownBlock ∨ ∀ g, v'.ownBlock = some g → w.heap.size ≤ g) : PendV w' b y v' vt := by
  refine ⟨(World.cell?_of_block (hg.block b h.lt (fun e => h.n1 e.symm))).trans h.c, Nat.lt_of_lt_of_le h.lt hg.size, fun e => ?_, h.n2⟩
  rcases hat with e2 | e2
  · exact h.n1 (e2 ▸ e)
  · have := e2 _ e; have := h.lt; omega
theorem PendV.grown2 {b : Nat} {y : Value} (h : PendV w b y vs vt) (hg : w.grownBy w' vt.ownBlock) (hat : v'.ownBlock = vt.ownBlock ∨ ∀ g, v'.ownBlock = some g → w.heap.size ≤ g) : PendV w' b y vs v' := by
  refine ⟨(World.cell?_of_block (hg.block b h.lt (fun e => h.n2 e.symm))).trans h.c, Nat.lt_of_lt_of_le h.lt hg.size, h.n1, fun e => ?_⟩
  rcases hat with e2 | e2
  · exact h.n2 (e2 ▸ e)
  · have := e2 _ e; have := h.lt; omega
theorem LxM.store1 (h : LxM w0 w len us ut vs vt ws ps) : LxM w0 (w.setCell ⟨w0.heap.size, 0, none⟩ vs) len vs ut vs vt ws ps := by
  have hc : Chg w (w.setCell ⟨w0.heap.size, 0, none⟩ vs) (fun i => i = w0.heap.size) := Chg.setCell (p := ⟨w0.heap.size, 0, none⟩) (Chg.refl w (fun i => i = w0.heap.size)) (fun _ => rfl) _
  exact ⟨h.blk.set_ 0 vs, h.oS.chg hc (fun j hj e => by have := (h.oS.lt j hj).1; omega), h.oT.chg hc (fun j hj e => by have := (h.oT.lt j hj).1; omega), h.bel.setCell (p := ⟨w0.heap.size, 0, none⟩) (Nat.le_refl _) _⟩
theorem LxM.store2 (h : LxM w0 w len us ut vs vt ws ps) : LxM w0 (w.setCell ⟨w0.heap.size, 1, none⟩ vt) len us vt vs vt ws ps := by
  have hc : Chg w (w.setCell ⟨w0.heap.size, 1, none⟩ vt) (fun i => i = w0.heap.size) := Chg.setCell (p := ⟨w0.heap.size, 1, none⟩) (Chg.refl w (fun i => i = w0.heap.size)) (fun _ => rfl) _
  exact ⟨h.blk.set_ 1 vt, h.oS.chg hc (fun j hj e => by have := (h.oS.lt j hj).1; omega), h.oT.chg hc (fun j hj e => by have := (h.oT.lt j hj).1; omega), h.bel.setCell (p := ⟨w0.heap.size, 1, none⟩) (Nat.le_refl _) _⟩
end
theorem ba_len (l : List UInt8) : (⟨l.toArray⟩ : ByteArray).size = l.length := by show l.toArray.size = _; simp
theorem ba_get (l : List UInt8) (i : Nat) (h : i < l.length) : (⟨l.toArray⟩ : ByteArray)[i]'(by rw [ba_len]; exact h) = l[i] := rfl
theorem ba_ext (l : List UInt8) (i k : Nat) : (⟨l.toArray⟩ : ByteArray).extract i k = ⟨((l.drop i).take (k - i)).toArray⟩ := by
  apply ByteArray.ext
  simp
theorem take_more {l : List UInt8} {i k : Nat} (hik : i ≤ k) (hk : k < l.length) : (l.drop i).take (k + 1 - i) = (l.drop i).take (k - i) ++ [l[k]] := by
  rw [show k + 1 - i = (k - i) + 1 by omega, List.take_succ_eq_append_getElem (by rw [List.length_drop]; omega)]
  congr 2
  rw [List.getElem_drop]
  congr 1
  omega
/-- a byte that ends a word -/
def brk (c : UInt8) : Bool := c == 32 || c == 40 || c == 41
theorem lex_go {a : List UInt8} {c : UInt8} {r : List UInt8} (h : brk c = false) : Fl.lexA a (c :: r) = Fl.lexA (a ++ [c]) r := by
  unfold brk at h
  simp at h
  rw [Fl.lexA, if_neg h.1.1, if_neg (by simp [h.1.2, h.2])]
theorem lex_stop {a : List UInt8} {c : UInt8} {r : List UInt8} (h : brk c = true) : Fl.lexA a (c :: r) = Fl.flush a ++ Fl.lexA [] (c :: r) := by
  unfold brk at h
  rw [Fl.lexA, Fl.lexA]
  simp only [Fl.flush, if_true, List.nil_append]
  split
  · rfl
  · split
    · rfl
    · rename_i h1 h2
      simp at h h2
      rcases h with (h | h) | h
      · exact absurd h h1
      · exact absurd h h2.1
      · exact absurd h h2.2
end Go.Proofs.YtdipehgijjkfdaaDoor
