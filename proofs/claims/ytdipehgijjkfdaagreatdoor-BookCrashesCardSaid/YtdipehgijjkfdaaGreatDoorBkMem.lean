/-
  The book in memory: its block of four cells, the map of its counters, its journal.
-/
import Derived.Test.YtdipehgijjkfdaaGreatDoorBookLaw
import Derived.Test.YtdipehgijjkfdaaGreatDoorMapS
import Derived.Test.YtdipehgijjkfdaaGreatDoorRec
import Derived.Test.YtdipehgijjkfdaaGreatDoorChg
import Derived.Lib.AppendStr
namespace Go.Proofs.YtdipehgijjkfdaaGreatDoor
open Go.RowKit Go.Maps
set_option linter.unusedVariables false
/-- bytes as cells -/
def bC (l : List UInt8) : List Value := l.map fun b => Value.int .u8 b.toNat
theorem bC_len (l : List UInt8) : (bC l).length = l.length := by simp [bC]
theorem bC_app (a b : List UInt8) : bC (a ++ b) = bC a ++ bC b := by simp [bC]
theorem bC_get {l : List UInt8} {k : Nat} (h : k < l.length) : (bC l)[k]? = some (.int .u8 l[k].toNat) := by
  unfold bC; rw [List.getElem?_map, List.getElem?_eq_getElem h]; rfl
theorem strCells_is (l : List UInt8) : Lib.strCells ⟨l.toArray⟩ = bC l := rfl
theorem Tryz.lawS : Keyed Tryz.prog 9 := string_keyed Tryz.underlying9
/-- the map of counters, or none -/
def MapB (w : World) (B : Nat) (mv : Option Nat) (xs : List Bo.Ln) : Prop :=
  (mv = none ∧ xs = []) ∨ ∃ (b : Nat) (D : DataW Unit), mv = some b ∧ B ≤ b ∧ w.ownsMap Tryz.prog 9 (plainElem Tryz.prog 3) b xs.length D ∧ FRepS D (Bo.cntL xs)
def FB (g : Nat) (mv : Option Nat) (dv : Value) : Nat → Prop := fun i => i = g ∨ mv = some i ∨ dv.ownBlock = some i
structure BkM (w : World) (B g : Nat) (xs : List Bo.Ln) (su : Nat) (mv : Option Nat) (dv : Value) : Prop where
  blk : Blk w g 43 #[.map mv, .int .i64 xs.length, dv, .int .i64 su]
  bg : B ≤ g
  map : MapB w B mv xs
  data : w.ownsRow B 5 1 dv (Bo.dataF 0 xs).length (bC (Bo.dataF 0 xs))
  ok : Bo.AllOk 0 xs
  su : su ≤ (Bo.dataF 0 xs).length
  bs : B ≤ w.heap.size
section
variable {w w' : World} {B g su : Nat} {xs : List Bo.Ln} {mv : Option Nat} {dv : Value} {S : Nat → Prop}
theorem MapB.chg (h : MapB w B mv xs) (hc : Chg w w' S) (hn : ∀ b, mv = some b → ¬ S b) : MapB w' B mv xs := by
  rcases h with h | ⟨b, D, e, hb, h, hf⟩
  · exact .inl h
  · obtain ⟨es, clock, h1, h2⟩ := h
    have hl : b < w.heap.size := by
      rcases Nat.lt_or_ge b w.heap.size with h | h
      · exact h
      · rw [Array.getElem?_eq_none h] at h1; cases h1
    exact .inr ⟨b, D, e, hb, ⟨es, clock, (hc.block b hl (hn b e)).trans h1, h2⟩, hf⟩
theorem BkM.lt (h : BkM w B g xs su mv dv) : ∀ i, FB g mv dv i → B ≤ i ∧ i < w.heap.size := fun i hi => by
  rcases hi with e | e | e
  · subst e; exact ⟨h.bg, h.blk.lt⟩
  · rcases h.map with ⟨e2, _⟩ | ⟨b, D, e2, hb, h2, _⟩
    · rw [e2] at e; cases e
    · rw [e2] at e; cases e; exact ⟨hb, h2.lt⟩
  · obtain ⟨_, h2⟩ := h.data
    rcases h2 with ⟨e2, _⟩ | ⟨b, c, cur, e2, hb, hc, _⟩
    · rw [e2] at e; cases e
    · rw [e2] at e
      have e3 : i = b := by simpa [Value.ownBlock] using e.symm
      subst e3
      exact ⟨hb, by
        rcases Nat.lt_or_ge i w.heap.size with h | h
        · exact h
        · rw [Array.getElem?_eq_none h] at hc; cases hc⟩
theorem BkM.chg (h : BkM w B g xs su mv dv) (hc : Chg w w' S) (hn : ∀ i, FB g mv dv i → ¬ S i) : BkM w' B g xs su mv dv :=
  ⟨h.blk.chg hc (hn _ (.inl rfl)), h.bg, h.map.chg hc (fun b e => hn _ (.inr (.inl e))), ownsRow_chg h.data hc (fun b e => hn _ (.inr (.inr e))), h.ok, h.su, Nat.le_trans h.bs hc.size⟩
theorem BkM.below (h : BkM w B g xs su mv dv) (hb : Below w.heap.size w w') : BkM w' B g xs su mv dv := h.chg (S := fun _ => False) (Chg.of_below hb) (fun _ _ h => h)
theorem BkM.len (h : BkM w B g xs su mv dv) : xs.length ≤ 500 := by have := h.ok.len (by decide); omega
theorem BkM.dlen (h : BkM w B g xs su mv dv) : (Bo.dataF 0 xs).length ≤ 20000 := by
  have h1 := h.len
  have := (Bo.data_len h.ok (by omega)).1
  omega
theorem BkM.reads (h : BkM w B g xs su mv dv) : ∃ A c, dv = .slice A (Bo.dataF 0 xs).length c ∧ Reads w w.heap.size 1 A (Bo.dataF 0 xs).length (bC (Bo.dataF 0 xs)) := own_reads h.data
/-- the three blocks are three -/
theorem BkM.ne (h : BkM w B g xs su mv dv) : mv ≠ some g ∧ dv.ownBlock ≠ some g ∧ ∀ b, mv = some b → dv.ownBlock ≠ some b := by
  have hmap : ∀ b, mv = some b → ∃ es clock, w.heap[b]? = some (.map es clock) := fun b e => by
    rcases h.map with ⟨e2, _⟩ | ⟨b', D, e2, hb, h2, _⟩
    · rw [e2] at e; cases e
    · rw [e2] at e; cases e
      obtain ⟨es, clock, h3, _⟩ := h2
      exact ⟨es, clock, h3⟩
  refine ⟨fun e => ?_, own_blk_ne h.data h.blk (by decide), fun b e e2 => ?_⟩
  · obtain ⟨es, clock, h3⟩ := hmap g e
    rw [show w.heap[g]? = _ from h.blk] at h3
    cases h3
  · obtain ⟨es, clock, h3⟩ := hmap b e
    obtain ⟨_, h2⟩ := h.data
    rcases h2 with ⟨e4, _⟩ | ⟨b', c, cur, e4, hb, hc, _⟩
    · rw [e4] at e2; cases e2
    · rw [e4] at e2
      have e5 : b = b' := by simpa [Value.ownBlock] using e2.symm
      subst e5
      rw [hc] at h3
      cases h3
end
/-- an empty book -/
theorem BkM.new (w : World) (B : Nat) (hB : B ≤ w.heap.size) : BkM (w.alloc (.cells #[.map none, .int .i64 0, .slice none 0 0, .int .i64 0] 43)) B w.heap.size [] 0 none (.slice none 0 0) :=
  ⟨Blk.new _ _ _, hB, .inl ⟨rfl, rfl⟩, World.ownsRow_nil _ _ _ _, trivial, Nat.le_refl _, by simp; omega⟩
end Go.Proofs.YtdipehgijjkfdaaGreatDoor
