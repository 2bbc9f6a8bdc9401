/-
  A program of actions in the making.
-/
import Derived.Test.YtdhojhgmaodifaaDoorAct
import Derived.Test.YtdhojhgmaodifaaDoorMapI
import Derived.Test.YtdhojhgmaodifaaDoorHeld
import Derived.Deep.CutRange
import Derived.Deep.CutBlock
namespace Go.Proofs.YtdhojhgmaodifaaDoor
open Go.RowKit Bkt
set_option linter.unusedVariables false

def bkCells (k : Bk) : List Value := [.int .i64 k.b, .int .i64 k.t, .int .i64 k.r]
def BkR : Rec Bk := ⟨3, bkCells, fun _ => rfl, by decide, ⟨0, 0, 0⟩⟩
def bx (l : List Bk) (i : Nat) : Bk := l.getD i ⟨0, 0, 0⟩
theorem rdBk_at {w : World} {B b off n : Nat} {l : List Bk} (h : RdR BkR w B (some ⟨b, off, none⟩) n l) {k : Nat} (hk : k < n) :
    w.cell? ⟨b, off + k * 3, none⟩ = some (.int .i64 (bx l k).b) ∧ w.cell? ⟨b, off + k * 3 + 1, none⟩ = some (.int .i64 (bx l k).t) ∧ w.cell? ⟨b, off + k * 3 + 2, none⟩ = some (.int .i64 (bx l k).r) := by
  have ha := fun j u => h.all hk j u
  refine ⟨?_, ?_, ?_⟩
  · have := ha 0 _ rfl; rw [Nat.add_zero] at this; exact this
  · have := ha 1 _ rfl; rw [← Nat.add_assoc] at this; exact this
  · have := ha 2 _ rfl; rw [← Nat.add_assoc] at this; exact this
theorem Tryd.ptInfo : (Tryd.prog.info? 97).map (fun i => (i.zero, i.size, i.bytes)) = some (some (.pointer none), 1, 8) := by kernel_rfl
theorem own_empty3 (w : World) (e : TypeId) : (w.alloc (.cells #[] e)).ownsRow w.heap.size e 3 (.slice (some ⟨w.heap.size, 0, none⟩) 0 0) 0 [] :=
  ⟨rfl, .inr ⟨w.heap.size, 0, #[], rfl, Nat.le_refl _, heap_alloc_new w _, Nat.le_refl _, by decide, rfl, rfl⟩⟩
theorem own_lt {w : World} {base e size n : Nat} {v : Value} {xs : List Value} (h : w.ownsRow base e size v n xs) {g : Nat} (hg : v.ownBlock = some g) : base ≤ g ∧ g < w.heap.size := by
  rcases h.2 with ⟨rfl, _⟩ | ⟨g', cap, cur, rfl, hb, hh, _⟩
  · simp [Value.ownBlock] at hg
  · have : g' = g := by simpa [Value.ownBlock] using hg
    subst this
    exact ⟨hb, (Array.getElem?_eq_some_iff.1 hh).1⟩
theorem own_own_ne {w : World} {base e size n : Nat} {v : Value} {xs : List Value} {e' size' n' : Nat} {v' : Value} {xs' : List Value} (h : w.ownsRow base e size v n xs) (h' : w.ownsRow base e' size' v' n' xs') (hne : e ≠ e') {g : Nat} (hg : v.ownBlock = some g) : v'.ownBlock ≠ some g := by
  rcases h.2 with ⟨rfl, _⟩ | ⟨g1, cap, cur, rfl, hb, hh, _⟩
  · simp [Value.ownBlock] at hg
  · have e1 : g1 = g := by simpa [Value.ownBlock] using hg
    subst e1
    exact own_blk_ne (t := e) h' (cs := cur) hh (fun e => hne e.symm)

structure NewRel (B : Nat) (w wr : World) (g : Nat) (va vb : Value) (l : List Actn.Ac) (gs : List Nat) : Prop where
  blk : Blk wr g 109 (prgCells va vb (fun _ => 0))
  bg : B ≤ g
  owa : wr.ownsRow B 65 3 va l.length (l.flatMap acCells)
  owb : wr.ownsRow B 97 1 vb gs.length (gs.map ptV)
  bk : ∀ x ∈ gs, B ≤ x ∧ BkM wr x
  bel : Below B w wr
section
variable {B : Nat} {w wr w' : World} {g : Nat} {va vb : Value} {l : List Actn.Ac} {gs : List Nat}
theorem own_over {base e size n : Nat} {v : Value} {xs : List Value} (h : w.ownsRow base e size v n xs) (hb : Below w.heap.size w w') : w'.ownsRow base e size v n xs := own_ov h hb
theorem NewRel.over (h : NewRel B w wr g va vb l gs) (hw : Below wr.heap.size wr w') (hB : B ≤ w.heap.size) : NewRel B w w' g va vb l gs :=
  ⟨h.blk.below hw h.blk.lt, h.bg, own_ov h.owa hw, own_ov h.owb hw, fun x hx => ⟨(h.bk x hx).1, (h.bk x hx).2.chg (S := fun _ => False) (Chg.of_below hw) (fun e => e)⟩, h.bel.trans (hw.mono (Nat.le_trans hB h.bel.size))⟩
/-- one bucket more -/
theorem NewRel.push (h : NewRel B w wr g va vb l gs) (hB : B ≤ w.heap.size) {w1 w2 : World} {vb' : Value} {x : Nat} (hw : Below wr.heap.size wr w1) (hx : wr.heap.size ≤ x) (hm : BkM w1 x)
    (hown : w2.ownsRow B 97 1 vb' (gs.length + 1) (gs.map ptV ++ [ptV x])) (hg : w1.grownBy w2 vb.ownBlock) : NewRel B w (w2.setCell ⟨g, 1, none⟩ vb') g va vb' l (gs ++ [x]) := by
  have h1 := h.over hw hB
  have nb : vb.ownBlock ≠ some g := own_blk_ne h1.owb h1.blk (by decide)
  have na : ∀ i, va.ownBlock = some i → vb.ownBlock ≠ some i := fun i hi => own_own_ne h1.owa h1.owb (by decide) hi
  have hc : Chg w1 w2 (fun i => vb.ownBlock = some i) := Chg.of_grown hg (fun i e => e.symm)
  have hc2 : Chg w2 (w2.setCell ⟨g, 1, none⟩ vb') (fun i => i = g) := Chg.setCell (p := ⟨g, 1, none⟩) (Chg.refl w2 (fun i => i = g)) (fun _ => rfl) _
  have hgl := h1.blk.lt
  have hb2 := h1.blk.chg hc nb
  have nb2 : vb'.ownBlock ≠ some g := own_blk_ne hown hb2 (by decide)
  have nbs : ∀ y, BkM w1 y → y ≠ g ∧ vb.ownBlock ≠ some y := fun y ⟨k, s, hy, _⟩ => ⟨Blk.ne_ hy h1.blk (by decide), own_blk_ne h1.owb hy (by decide)⟩
  refine ⟨hb2.set_ 1 vb', h.bg, ?_, ?_, ?_, ?_⟩
  · exact ownsRow_chg (ownsRow_chg h1.owa hc (fun i hi e => na i hi e)) hc2 (fun i hi e => by subst e; exact own_blk_ne h1.owa h1.blk (by decide) hi)
  · have := ownsRow_chg hown hc2 (fun i hi e => nb2 (e ▸ hi))
    rw [List.length_append, List.map_append]
    exact this
  · intro y hy
    have hyk : B ≤ y ∧ BkM w1 y := by
      rcases List.mem_append.1 hy with hy | hy
      · exact h1.bk y hy
      · simp at hy
        subst hy
        exact ⟨Nat.le_trans (Nat.le_trans hB h.bel.size) hx, hm⟩
    exact ⟨hyk.1, (hyk.2.chg hc (nbs y hyk.2).2).chg hc2 (nbs y hyk.2).1⟩
  · have hbb : Below B w w2 := h1.bel.grown hg (Nat.le_trans hB h1.bel.size) (fun i hi => (own_lt h1.owb hi).1)
    exact hbb.setCell (p := ⟨g, 1, none⟩) h.bg _
theorem NewRel.prg (h : NewRel B w wr g va vb l gs) : ∃ Aa ca Ab cb, PrgB B wr g Aa ca Ab cb l gs (fun _ => 0) := by
  obtain ⟨Aa, ca, rfl, hra⟩ := own_reads h.owa
  obtain ⟨Ab, cb, rfl, hrb⟩ := own_reads h.owb
  have oa : ∀ ad, Aa = some ad → (Value.slice Aa l.length ca).ownBlock = some ad.block := fun ad e => by subst e; rfl
  have ob : ∀ ad, Ab = some ad → (Value.slice Ab gs.length cb).ownBlock = some ad.block := fun ad e => by subst e; rfl
  refine ⟨Aa, ca, Ab, cb, h.blk, h.bg, hra, fun ad e => ⟨(own_lt h.owa (oa ad e)).1, fun e2 => ?_⟩, hrb, fun ad e => ⟨(own_lt h.owb (ob ad e)).1, fun e2 => ?_⟩, fun x hx => ?_, ?_⟩
  · exact own_blk_ne h.owa h.blk (by decide) ((oa ad e).trans (by rw [e2]))
  · exact own_blk_ne h.owb h.blk (by decide) ((ob ad e).trans (by rw [e2]))
  · obtain ⟨hxB, hm⟩ := h.bk x hx
    obtain ⟨k, s, hst, _⟩ := id hm
    exact ⟨⟨hxB, Blk.ne_ hst h.blk (by decide)⟩, ⟨fun ad e e2 => own_blk_ne h.owa hst (by decide) ((oa ad e).trans (by rw [e2])), fun ad e e2 => own_blk_ne h.owb hst (by decide) ((ob ad e).trans (by rw [e2]))⟩, hm⟩
  · rintro i (rfl | ⟨ad, e, rfl⟩ | ⟨ad, e, rfl⟩ | hi)
    · exact h.blk.lt
    · exact (own_lt h.owa (oa ad e)).2
    · exact (own_lt h.owb (ob ad e)).2
    · exact (h.bk i hi).2.lt
end
/-- a program that may be -/
structure PrgOk (l : List Actn.Ac) (bs : List Bk) : Prop where
  n : l.length ≤ 50
  m : bs.length ≤ 8
  bk : ∀ i, i < bs.length → BkOk (bx bs i)
  ac : Actn.AllOk l bs.length l.length
def ANewOut (w : World) (l : List Actn.Ac) (bs : List Bk) (e : Ending) (w' : World) : Prop :=
  (PrgOk l bs ∧ ∃ g Aa ca Ab cb gs, e = .returned (.tuple #[.pointer (some ⟨g, 0, none⟩), .nilIface]) ∧ gs.length = bs.length ∧ PrgB w.heap.size w' g Aa ca Ab cb l gs (fun _ => 0) ∧ Below w.heap.size w w') ∨
  (¬ PrgOk l bs ∧ ∃ T v, e = .returned (.tuple #[.pointer none, .iface T v]) ∧ Below w.heap.size w w')

end Go.Proofs.YtdhojhgmaodifaaDoor
