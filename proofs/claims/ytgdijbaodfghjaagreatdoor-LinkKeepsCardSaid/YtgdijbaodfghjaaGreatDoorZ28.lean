/-
  Texts of this claim, one behind the other: SgM, SgTake, SgWhen.
-/
import Derived.Test.YtgdijbaodfghjaaGreatDoorZ01
import Derived.Test.YtgdijbaodfghjaaGreatDoorZ18
import Derived.Test.YtgdijbaodfghjaaGreatDoorZ14
import Derived.Test.YtgdijbaodfghjaaGreatDoorZ25
import Derived.Test.YtgdijbaodfghjaaGreatDoorZ02
import Derived.Deep.CutRange
import Derived.Deep.RegionLaw
/-
  A shaper over whatever queue, as it lies in memory; the next one at hand.
-/
namespace Go.Proofs.YtgdijbaodfghjaaGreatDoor
open Go.RowKit Bkt
set_option linter.unusedVariables false

def hdArr (x : Hd) : Array Value := #[.int .i64 x.it.at_, .int .i64 x.it.len, .int .i64 x.it.flow, .int .i64 x.it.band, .int .i64 x.it.mark, .int .i64 x.num]
theorem own_lt {w : World} {base e size n : Nat} {v : Value} {xs : List Value} (h : w.ownsRow base e size v n xs) : ∀ b, v.ownBlock = some b → base ≤ b ∧ b < w.heap.size := by
  intro b hb
  rcases h.2 with ⟨rfl, _⟩ | ⟨g, cap, cur, rfl, h1, hg, rest⟩
  · simp [Value.ownBlock] at hb
  · have e2 : g = b := by simpa [Value.ownBlock] using hb
    subst e2
    exact ⟨h1, Blk.lt (t := e) hg⟩
theorem own_ne {w : World} {base e size n g : Nat} {t : TypeId} {cs : Array Value} {v : Value} {xs : List Value} (h : w.ownsRow base e size v n xs) (hg : Blk w g t cs) (hne : e ≠ t) : v.ownBlock ≠ some g :=
  (OwnW.of_own h).blk_ne hg hne
def NxG (F Fq : Nat → Prop) (w : World) (vn vl : Value) (nx : Option Hd) : Prop :=
  (nx = none ∧ vn = .pointer none) ∨ ∃ x gn, nx = some x ∧ vn = .pointer (some ⟨gn, 0, none⟩) ∧ Blk w gn 78 (hdArr x) ∧ (F gn ∧ ¬ Fq gn) ∧ vl.ownBlock ≠ some gn
structure SgI {M : Pl.QM} (V : Value) (Inv : M.σ → Nat → (Nat → Prop) → World → Prop) (base : Nat) (b : Bk) (g gt : Nat) (s : Pl.ShS M.σ) (k : Nat) (F Fq : Nat → Prop) (w : World) (vn vl : Value) : Prop where
  blk : Blk w g 135 #[V, .pointer (some ⟨gt, 0, none⟩), vn, vl]
  st : StB w gt b s.st
  sok : SOk b s.st
  sl : s.st.last ≤ 1000000000
  q : ∃ kq, kq ≤ k ∧ Inv s.q kq Fq w
  nx : NxG F Fq w vn vl s.next
  lo : w.ownsRow base 78 6 vl s.lost.length (s.lost.flatMap HdR.cells)
  ld : ∀ i, vl.ownBlock = some i → F i ∧ ¬ Fq i
  d : ¬ Fq g ∧ ¬ Fq gt
  mF : F g ∧ F gt ∧ ∀ i, Fq i → F i
  lt : ∀ i, F i → base ≤ i ∧ i < w.heap.size
section
variable {M : Pl.QM} {V : Value} {Inv : M.σ → Nat → (Nat → Prop) → World → Prop} {base : Nat} {b : Bk} {g gt : Nat} {s : Pl.ShS M.σ} {k : Nat} {F F' Fq Fq' S : Nat → Prop} {w w' : World} {vn vl : Value}
theorem NxG.chg {nx : Option Hd} (h : NxG F Fq w vn vl nx) (hc : Chg w w' S) (hn : ∀ i, F i → ¬ Fq i → vl.ownBlock ≠ some i → ¬ S i) (hF : ∀ i, F i → F' i) (hq : ∀ i, F i → Fq' i → Fq i) : NxG F' Fq' w' vn vl nx := by
  rcases h with h | ⟨x, gn, h1, h2, h3, h4, h5⟩
  · exact .inl h
  · exact .inr ⟨x, gn, h1, h2, h3.chg hc (hn _ h4.1 h4.2 h5), ⟨hF _ h4.1, fun e => h4.2 (hq _ h4.1 e)⟩, h5⟩
theorem SgI.gne (h : SgI V Inv base b g gt s k F Fq w vn vl) : g ≠ gt := Blk.ne_ h.blk h.st (by decide)
theorem SgI.lg (h : SgI V Inv base b g gt s k F Fq w vn vl) : vl.ownBlock ≠ some g := own_ne h.lo h.blk (by decide)
theorem SgI.lgt (h : SgI V Inv base b g gt s k F Fq w vn vl) : vl.ownBlock ≠ some gt := own_ne h.lo h.st (by decide)
theorem SgI.chg (qi : QImp M V base Inv) (h : SgI V Inv base b g gt s k F Fq w vn vl) (hc : Chg w w' S) (hn : ∀ i, F i → ¬ S i) : SgI V Inv base b g gt s k F Fq w' vn vl := by
  obtain ⟨kq, hk, hq⟩ := h.q
  exact ⟨h.blk.chg hc (hn _ h.mF.1), Blk.chg h.st hc (hn _ h.mF.2.1), h.sok, h.sl, ⟨kq, hk, qi.chg _ _ _ _ _ _ hq hc (fun i hi => hn _ (h.mF.2.2 i hi))⟩, h.nx.chg hc (fun i hi _ _ => hn i hi) (fun _ h => h) (fun _ _ h => h), ownsRow_chg h.lo hc (fun i hi => hn i (h.ld i hi).1), h.ld, h.d, h.mF,
    fun i hi => ⟨(h.lt i hi).1, Nat.lt_of_lt_of_le (h.lt i hi).2 hc.size⟩⟩
theorem SgI.over (qi : QImp M V base Inv) (h : SgI V Inv base b g gt s k F Fq w vn vl) (hb : Below w.heap.size w w') : SgI V Inv base b g gt s k F Fq w' vn vl := h.chg qi (S := fun _ => False) (Chg.of_below hb) (fun _ _ e => e)
theorem SgI.more (h : SgI V Inv base b g gt s k F Fq w vn vl) {k' : Nat} (hk : k ≤ k') : SgI V Inv base b g gt s k' F Fq w vn vl := by
  obtain ⟨kq, hkq, hq⟩ := h.q
  exact ⟨h.blk, h.st, h.sok, h.sl, ⟨kq, Nat.le_trans hkq hk, hq⟩, h.nx, h.lo, h.ld, h.d, h.mF, h.lt⟩
theorem SgI.bucket (qi : QImp M V base Inv) (h : SgI V Inv base b g gt s k F Fq w vn vl) (hg : w.grownBy w' (some gt)) {st' : St} (hst : StB w' gt b st') (hs : SOk b st') (hl : st'.last ≤ 1000000000) : SgI V Inv base b g gt ⟨s.q, st', s.next, s.lost⟩ k F Fq w' vn vl := by
  have hc : Chg w w' (fun i => i = gt) := Chg.of_grown hg (fun i e => by injection e)
  have hst0 := h.st
  obtain ⟨kq, hkq, hq⟩ := h.q
  refine ⟨h.blk.chg hc h.gne, hst, hs, hl, ⟨kq, hkq, qi.chg _ _ _ _ _ _ hq hc (fun i hi e => h.d.2 (e ▸ hi))⟩, ?_, ownsRow_chg h.lo hc (fun i hi e => h.lgt (by rw [hi, e])), h.ld, h.d, h.mF, fun i hi => ⟨(h.lt i hi).1, Nat.lt_of_lt_of_le (h.lt i hi).2 hc.size⟩⟩
  rcases h.nx with h1 | ⟨x, gn, h1, h2, h3, h4, h5⟩
  · exact .inl h1
  · exact .inr ⟨x, gn, h1, h2, h3.chg hc (Blk.ne_ h3 hst0 (by decide)), h4, h5⟩
theorem SgI.queue (qi : QImp M V base Inv) (h : SgI V Inv base b g gt s k F Fq w vn vl) {q' : M.σ} {k' : Nat} (hq : ∃ kq, kq ≤ k' ∧ Inv q' kq Fq' w') (hc : Chg w w' Fq) (hf : ∀ i, Fq' i → Fq i ∨ w.heap.size ≤ i) :
    SgI V Inv base b g gt ⟨q', s.st, s.next, s.lost⟩ k' (fun i => F i ∨ Fq' i) Fq' w' vn vl := by
  obtain ⟨kq, hkq, hq'⟩ := id hq
  have hlt := qi.lt _ _ _ _ hq'
  refine ⟨h.blk.chg hc h.d.1, Blk.chg h.st hc h.d.2, h.sok, h.sl, hq, ?_, ownsRow_chg h.lo hc (fun i hi => (h.ld i hi).2), fun i hi => ⟨.inl (h.ld i hi).1, fun e => ?_⟩, ⟨fun e => ?_, fun e => ?_⟩, ⟨.inl h.mF.1, .inl h.mF.2.1, fun i hi => .inr hi⟩, fun i hi => ?_⟩
  · refine h.nx.chg hc (fun i _ hn _ => hn) (fun i hi => .inl hi) (fun i hi e => ?_)
    rcases hf i e with e | e
    · exact e
    · have := (h.lt i hi).2; omega
  · rcases hf i e with e | e
    · exact (h.ld i hi).2 e
    · have := (own_lt h.lo i hi).2; omega
  · rcases hf g e with e | e
    · exact h.d.1 e
    · have := h.blk.lt; omega
  · rcases hf gt e with e | e
    · exact h.d.2 e
    · have := Blk.lt h.st; omega
  · rcases hi with hi | hi
    · exact ⟨(h.lt i hi).1, Nat.lt_of_lt_of_le (h.lt i hi).2 hc.size⟩
    · exact hlt i hi
theorem SgI.lose (qi : QImp M V base Inv) (h : SgI V Inv base b g gt s k F Fq w vn vl) {l : List Hd} {v' : Value} (hg : w.grownBy w' vl.ownBlock) (hv : v'.ownBlock = vl.ownBlock ∨ v'.ownBlock = some w.heap.size) (hl : w'.ownsRow base 78 6 v' l.length (l.flatMap HdR.cells)) :
    SgI V Inv base b g gt ⟨s.q, s.st, s.next, l⟩ k (fun i => F i ∨ v'.ownBlock = some i) Fq (w'.setCell ⟨g, 3, none⟩ v') vn v' := by
  have hc0 : Chg w w' (fun i => vl.ownBlock = some i) := Chg.of_grown hg (fun i e => e.symm)
  have hc : Chg w (w'.setCell ⟨g, 3, none⟩ v') (fun i => vl.ownBlock = some i ∨ i = g) := (hc0.mono (fun i _ e => .inl e)).setCell (p := ⟨g, 3, none⟩) (fun _ => .inr rfl) v'
  have hcg : Chg w' (w'.setCell ⟨g, 3, none⟩ v') (fun i => i = g) := (Chg.refl w' (fun i => i = g)).setCell (p := ⟨g, 3, none⟩) (fun _ => rfl) v'
  have hgl := h.blk.lt
  obtain ⟨kq, hkq, hq⟩ := h.q
  have hne : ∀ i, i < w.heap.size → vl.ownBlock ≠ some i → v'.ownBlock ≠ some i := fun i hi hn e => by
    rcases hv with e2 | e2
    · exact hn (e2 ▸ e)
    · rw [e2] at e; injection e with e; omega
  have hlt' := own_lt hl
  refine ⟨(h.blk.chg hc0 h.lg).set_ 3 v', Blk.chg h.st hc (fun e => e.elim h.lgt (fun e => h.gne e.symm)), h.sok, h.sl, ⟨kq, hkq, qi.chg _ _ _ _ _ _ hq hc (fun i hi e => ?_)⟩, ?_, ownsRow_chg hl hcg (fun i hi e => hne g hgl h.lg (by rw [hi, e])), fun i hi => ⟨.inr hi, fun e => ?_⟩, h.d, ⟨.inl h.mF.1, .inl h.mF.2.1, fun i hi => .inl (h.mF.2.2 i hi)⟩, fun i hi => ?_⟩
  · rcases e with e | e
    · exact (h.ld i e).2 hi
    · exact h.d.1 (e ▸ hi)
  · rcases h.nx with h1 | ⟨x, gn, h1, h2, h3, h4, h5⟩
    · exact .inl h1
    · refine .inr ⟨x, gn, h1, h2, h3.chg hc (fun e => e.elim h5 (Blk.ne_ h3 h.blk (by decide))), ⟨.inl h4.1, h4.2⟩, hne gn h3.lt h5⟩
  · have hil := (h.lt _ (h.mF.2.2 i e)).2
    exact hne i hil (fun e2 => (h.ld i e2).2 e) hi
  · rcases hi with hi | hi
    · exact ⟨(h.lt i hi).1, Nat.lt_of_lt_of_le (h.lt i hi).2 hc.size⟩
    · have h2 := hlt' i hi
      exact ⟨h2.1, by simp [World.setCell]; exact h2.2⟩
theorem SgI.hand (qi : QImp M V base Inv) (h : SgI V Inv base b g gt s k F Fq w vn vl) {o : Hd} {n : Nat} (hn : Blk w n 78 (hdArr o)) (hb : base ≤ n) (hq : ¬ Fq n) (hl : vl.ownBlock ≠ some n) :
    SgI V Inv base b g gt ⟨s.q, s.st, some o, s.lost⟩ k (fun i => F i ∨ i = n) Fq (w.setCell ⟨g, 2, none⟩ (.pointer (some ⟨n, 0, none⟩))) (.pointer (some ⟨n, 0, none⟩)) vl := by
  have hc : Chg w (w.setCell ⟨g, 2, none⟩ (.pointer (some ⟨n, 0, none⟩))) (fun i => i = g) := Chg.setCell (p := ⟨g, 2, none⟩) (Chg.refl _ (fun i => i = g)) (fun _ => rfl) _
  obtain ⟨kq, hkq, hq0⟩ := h.q
  refine ⟨h.blk.set_ 2 _, Blk.chg h.st hc (fun e => h.gne e.symm), h.sok, h.sl, ⟨kq, hkq, qi.chg _ _ _ _ _ _ hq0 hc (fun i hi e => h.d.1 (e ▸ hi))⟩, ?_, ownsRow_chg h.lo hc (fun i hi e => h.lg (by rw [hi, e])), fun i hi => ⟨.inl (h.ld i hi).1, (h.ld i hi).2⟩, h.d, ⟨.inl h.mF.1, .inl h.mF.2.1, fun i hi => .inl (h.mF.2.2 i hi)⟩, fun i hi => ?_⟩
  · exact .inr ⟨o, n, rfl, rfl, hn.chg hc (Blk.ne_ hn h.blk (by decide)), ⟨.inr rfl, hq⟩, hl⟩
  · rcases hi with hi | hi
    · exact ⟨(h.lt i hi).1, Nat.lt_of_lt_of_le (h.lt i hi).2 hc.size⟩
    · subst hi; exact ⟨hb, Nat.lt_of_lt_of_le hn.lt hc.size⟩
theorem SgI.gone (qi : QImp M V base Inv) (h : SgI V Inv base b g gt s k F Fq w vn vl) : SgI V Inv base b g gt ⟨s.q, s.st, none, s.lost⟩ k F Fq (w.setCell ⟨g, 2, none⟩ (.pointer none)) (.pointer none) vl := by
  have hc : Chg w (w.setCell ⟨g, 2, none⟩ (.pointer none)) (fun i => i = g) := Chg.setCell (p := ⟨g, 2, none⟩) (Chg.refl _ (fun i => i = g)) (fun _ => rfl) _
  obtain ⟨kq, hkq, hq⟩ := h.q
  exact ⟨h.blk.set_ 2 _, Blk.chg h.st hc (fun e => h.gne e.symm), h.sok, h.sl, ⟨kq, hkq, qi.chg _ _ _ _ _ _ hq hc (fun i hi e => h.d.1 (e ▸ hi))⟩, .inl ⟨rfl, rfl⟩, ownsRow_chg h.lo hc (fun i hi e => h.lg (by rw [hi, e])), h.ld, h.d, h.mF, fun i hi => ⟨(h.lt i hi).1, Nat.lt_of_lt_of_le (h.lt i hi).2 hc.size⟩⟩
theorem SgI.told (qi : QImp M V base Inv) (h : SgI V Inv base b g gt s k F Fq w vn vl) : SgI V Inv base b g gt ⟨s.q, s.st, s.next, []⟩ k F Fq (w.setCell ⟨g, 3, none⟩ (.slice none 0 0)) vn (.slice none 0 0) := by
  have hc : Chg w (w.setCell ⟨g, 3, none⟩ (.slice none 0 0)) (fun i => i = g) := Chg.setCell (p := ⟨g, 3, none⟩) (Chg.refl _ (fun i => i = g)) (fun _ => rfl) _
  obtain ⟨kq, hkq, hq⟩ := h.q
  refine ⟨h.blk.set_ 3 _, Blk.chg h.st hc (fun e => h.gne e.symm), h.sok, h.sl, ⟨kq, hkq, qi.chg _ _ _ _ _ _ hq hc (fun i hi e => h.d.1 (e ▸ hi))⟩, ?_, World.ownsRow_nil _ _ _ _, fun i hi => by simp [Value.ownBlock] at hi, h.d, h.mF, fun i hi => ⟨(h.lt i hi).1, Nat.lt_of_lt_of_le (h.lt i hi).2 hc.size⟩⟩
  rcases h.nx with h1 | ⟨x, gn, h1, h2, h3, h4, h5⟩
  · exact .inl h1
  · exact .inr ⟨x, gn, h1, h2, h3.chg hc (Blk.ne_ h3 h.blk (by decide)), h4, by simp [Value.ownBlock]⟩
theorem SgI.none_ (h : SgI V Inv base b g gt s k F Fq w vn vl) (hn : s.next = none) : vn = .pointer none := by
  rcases h.nx with ⟨_, e⟩ | ⟨x, gn, e1, _⟩
  · exact e
  · rw [hn] at e1; cases e1
theorem SgI.some_ {x : Hd} (h : SgI V Inv base b g gt s k F Fq w vn vl) (hn : s.next = some x) : ∃ gn, vn = .pointer (some ⟨gn, 0, none⟩) ∧ Blk w gn 78 (hdArr x) ∧ (F gn ∧ ¬ Fq gn) ∧ vl.ownBlock ≠ some gn := by
  rcases h.nx with ⟨e, _⟩ | ⟨y, gn, e1, e2, e3, e4, e5⟩
  · rw [hn] at e; cases e
  · rw [hn] at e1
    injection e1 with e1
    subst e1
    exact ⟨gn, e2, e3, e4, e5⟩
end
def SgInv {M : Pl.QM} (V : Value) (Inv : M.σ → Nat → (Nat → Prop) → World → Prop) (I : M.σ → Prop) (base : Nat) (b : Bk) (g gt : Nat) (s : Pl.ShS M.σ) (k : Nat) (F : Nat → Prop) (w : World) : Prop :=
  base ≤ w.heap.size ∧ k ≤ 1000 ∧ Pl.PI (Pl.shgM b M) (Pl.ShgI b I) s ∧ ((Pl.shgM b M).wait s).length ≤ k ∧ ∃ Fq vn vl, SgI V Inv base b g gt s k F Fq w vn vl
def LkOut {M : Pl.QM} (V : Value) (Inv : M.σ → Nat → (Nat → Prop) → World → Prop) (base : Nat) (b : Bk) (g gt : Nat) (s' : Pl.ShS M.σ) (k : Nat) (F : Nat → Prop) (w : World) (e : Ending) (w' : World) : Prop :=
  e = .returned (.tuple #[]) ∧ Hid (∃ F' Fq vn vl, SgI V Inv base b g gt s' k F' Fq w' vn vl ∧ Chg w w' F ∧ ∀ i, F' i → F i ∨ w.heap.size ≤ i)
theorem SgI.looked {M : Pl.QM} {V : Value} {Inv : M.σ → Nat → (Nat → Prop) → World → Prop} {base : Nat} {b : Bk} {g gt : Nat} {q q' : M.σ} {st : St} {lo l2 : List Hd} {k n : Nat} {F Fq F3 : Nat → Prop} {w w3 w5 : World} {vn vl v' : Value} {o : Hd}
    (qi : QImp M V base Inv) (h : SgI V Inv base b g gt ⟨q, st, none, lo⟩ k F Fq w vn vl) (hq : ∃ kq, kq ≤ k ∧ Inv q' kq F3 w3) (hc : Chg w w3 Fq) (hf : ∀ i, F3 i → Fq i ∨ w.heap.size ≤ i) (hn : l2.length = n)
    (hg : (w3.alloc (.cells (hdArr o) 78)).grownBy w5 vl.ownBlock) (hv : v'.ownBlock = vl.ownBlock ∨ v'.ownBlock = some (w3.alloc (.cells (hdArr o) 78)).heap.size) (hl : w5.ownsRow base 78 6 v' (lo.length + n) (lo.flatMap HdR.cells ++ l2.flatMap HdR.cells)) (hB : base ≤ w.heap.size) :
    (∃ F', SgI V Inv base b g gt ⟨q', st, none, lo ++ l2⟩ k F' F3 (w5.setCell ⟨g, 3, none⟩ v') vn v' ∧ Chg w (w5.setCell ⟨g, 3, none⟩ v') F ∧ ∀ i, F' i → F i ∨ w.heap.size ≤ i) ∧
    ∃ F', SgI V Inv base b g gt ⟨q', st, some o, lo ++ l2⟩ k F' F3 ((w5.setCell ⟨g, 3, none⟩ v').setCell ⟨g, 2, none⟩ (.pointer (some ⟨w3.heap.size, 0, none⟩))) (.pointer (some ⟨w3.heap.size, 0, none⟩)) v' ∧ Chg w ((w5.setCell ⟨g, 3, none⟩ v').setCell ⟨g, 2, none⟩ (.pointer (some ⟨w3.heap.size, 0, none⟩))) F ∧ ∀ i, F' i → F i ∨ w.heap.size ≤ i := by
  subst hn
  have h3 := h.queue qi hq hc hf
  have h4 := h3.over qi (w' := w3.alloc (.cells (hdArr o) 78)) (bl_alloc (Below.refl _ _))
  have hl' : w5.ownsRow base 78 6 v' (lo ++ l2).length ((lo ++ l2).flatMap HdR.cells) := by rw [List.length_append, List.flatMap_append]; exact hl
  have h5 := h4.lose qi (l := lo ++ l2) hg hv hl'
  have hsz := hc.size
  have hvl := own_lt h3.lo
  have hgl := h.blk.lt
  have hcg : Chg (w3.alloc (.cells (hdArr o) 78)) w5 (fun i => vl.ownBlock = some i) := Chg.of_grown hg (fun i e => e.symm)
  have hsa : (w3.alloc (.cells (hdArr o) 78)).heap.size = w3.heap.size + 1 := by simp
  have hc5 : Chg w w5 F := ((hc.mono (fun i _ hi => h.mF.2.2 i hi)).alloc _).trans hcg (fun i hi e => (h.ld i e).1)
  have hc6 : Chg w (w5.setCell ⟨g, 3, none⟩ v') F := hc5.setCell (p := ⟨g, 3, none⟩) (fun _ => h.mF.1) v'
  have hF5 : ∀ i, ((F i ∨ F3 i) ∨ v'.ownBlock = some i) → F i ∨ w.heap.size ≤ i := fun i hi => by
    rcases hi with (hi | hi) | hi
    · exact .inl hi
    · exact (hf i hi).imp (h.mF.2.2 i) id
    · rcases hv with e | e
      · exact .inl (h.ld i (e ▸ hi)).1
      · rw [e] at hi; injection hi with hi; exact .inr (by omega)
  refine ⟨⟨_, h5, hc6, hF5⟩, ?_⟩
  have hnb : Blk (w5.setCell ⟨g, 3, none⟩ v') w3.heap.size 78 (hdArr o) := by
    have h0 := Blk.new w3 78 (hdArr o)
    have h1 := h0.chg hcg (fun e => by have := (hvl _ e).2; omega)
    exact h1.far (p := ⟨g, 3, none⟩) (by show w3.heap.size ≠ g; omega) v'
  have hnq : ¬ F3 w3.heap.size := fun e => by
    obtain ⟨kq, _, hq'⟩ := hq
    have := (qi.lt _ _ _ _ hq' _ e).2; omega
  have hnl : v'.ownBlock ≠ some w3.heap.size := fun e => by
    rcases hv with e2 | e2
    · have := (hvl _ (e2 ▸ e)).2; omega
    · rw [e2] at e; injection e with e; omega
  have h6 := h5.hand qi hnb (by omega) hnq hnl
  refine ⟨_, h6, hc6.setCell (p := ⟨g, 2, none⟩) (fun _ => h.mF.1) _, fun i hi => ?_⟩
  rcases hi with hi | hi
  · exact hF5 i hi
  · exact .inr (by omega)
set_option maxHeartbeats 1000000 in
set_option maxRecDepth 100000 in
theorem lookg_any {M : Pl.QM} {V : Value} {Inv : M.σ → Nat → (Nat → Prop) → World → Prop} (base : Nat) (b : Bk) (qi : QImp M V base Inv) (g gt : Nat) (s : Pl.ShS M.σ) (k : Nat) (F Fq : Nat → Prop) (w : World) (vn vl : Value) (now : Int) (h : SgI V Inv base b g gt s k F Fq w vn vl) (hw : ((Pl.lookG M now s).lost).length ≤ 1000) (h0 : 0 ≤ now) (h1 : now ≤ 1000000000) (hB : base ≤ w.heap.size) :
    Calls Tryz.prog 137 #[.pointer (some ⟨g, 0, none⟩), .int .i64 now] w (LkOut V Inv base b g gt (Pl.lookG M now s) k F w) := by
  obtain ⟨q, st, nx, lo⟩ := s
  have c2 : w.cell? ⟨g, 2, none⟩ = some vn := h.blk.cell 2
  cases nx with
  | some o =>
    have hs : Pl.lookG M now ⟨q, st, some o, lo⟩ = ⟨q, st, some o, lo⟩ := rfl
    rw [hs]
    obtain ⟨gn, rfl, _⟩ := h.some_ rfl
    have H := Lib.hid h
    clear h
    go_enter Tryz.func137, Tryz.ntmps137
    go_wp2_with fail
    go_end0
    exact ⟨rfl, Lib.hid ⟨F, Fq, _, _, H.out, Chg.refl _ _, fun i hi => .inl hi⟩⟩
  | none =>
    obtain rfl := h.none_ rfl
    obtain ⟨ft, rt, hmt, hct⟩ := qi.take
    obtain ⟨kq, hkq, hq⟩ := h.q
    have htk := hct q kq Fq w now hq h0 h1
    have hs : Pl.lookG M now ⟨q, st, none, lo⟩ = ⟨(M.take now q).2.2, st, (M.take now q).1, lo ++ (M.take now q).2.1⟩ := rfl
    rw [hs] at hw ⊢
    generalize M.take now q = r at *
    obtain ⟨o, l2, q2⟩ := r
    have hwl : lo.length + l2.length ≤ 1000 := by rw [← List.length_append]; exact hw
    have c0 : w.cell? ⟨g, 0, none⟩ = some V := h.blk.cell 0
    have HM := Lib.hid hmt; have H := Lib.hid h; have HT := Lib.hid htk; have HQI := Lib.hid qi; have HKQ := Lib.hid hkq
    obtain ⟨i0, hi0, hz0, hz1, hz2⟩ := info_parts Tryz.heldInfo
    have I0 := Lib.hid hi0; have I1 := Lib.hid hz0; have I2 := Lib.hid hz1; have I3 := Lib.hid hz2
    clear h hct hmt htk qi hq hkq hi0 hz0 hz1 hz2 hs hw
    go_enter Tryz.func137, Tryz.ntmps137
    go_upto_region 1 with fail
    go_upto_region 2 with (refine wpList_invoke1 (vx := .int .i64 now) rfl (.tmp 16) (.tmp 17) #[3] rfl HM.out rfl rfl HT.out TakeOut.ret ?_; rintro v3 w3 h3; obtain ⟨y, A, n, c3, F3, rfl, hy, hn, hrd, had, hf3, hc3, ha3⟩ := h3.val; have HY := Lib.hid hy; have HRD := Lib.hid hrd; have HF3 := Lib.hid hf3; have HC3 := Lib.hid hc3; have HA3 := Lib.hid ha3; clear hy hrd had hf3 hc3 ha3 h3; obtain ⟨⟨xa, xl, xf, xb, xm⟩, xn⟩ := y; unfold hdV)
    have h3q := H.out.queue HQI.out (q' := q2) ⟨kq, HKQ.out, HF3.out⟩ HC3.out HA3.out
    have h4 := h3q.over HQI.out (w' := w3.alloc (.cells #[.int .i64 xa, .int .i64 xl, .int .i64 xf, .int .i64 xb, .int .i64 xm, .int .i64 xn] 78)) (bl_alloc (Below.refl _ _))
    have hrow := h4.lo
    dsimp only at hrow
    have hrd4 : Reads (w3.alloc (.cells #[.int .i64 xa, .int .i64 xl, .int .i64 xf, .int .i64 xb, .int .i64 xm, .int .i64 xn] 78)) w3.heap.size 6 A n (l2.flatMap HdR.cells) := Reads.alloc HRD.out (Nat.le_refl _) _
    have hnl : l2.length = n := HRD.out.len
    have hsz3 : base ≤ (w3.alloc (.cells #[.int .i64 xa, .int .i64 xl, .int .i64 xf, .int .i64 xb, .int .i64 xm, .int .i64 xn] 78)).heap.size := by have := HC3.out.size; simp; omega
    have hone : ∀ v ∈ l2.flatMap HdR.cells, v.oneCell' = true := fun v hv => by
      obtain ⟨z, _, hz⟩ := List.mem_flatMap.1 hv
      exact hd_one z v hz
    have hst := fun v' w5 hg hv hl => H.out.looked HQI.out (o := ⟨⟨xa, xl, xf, xb, xm⟩, xn⟩) (n := n) (v' := v') (w5 := w5) ⟨kq, HKQ.out, HF3.out⟩ HC3.out HA3.out hnl hg hv hl hB
    have c3' := h4.blk.cell 3; have c2' := h4.blk.cell 2
    simp at c3' c2'
    have hfr := fun j => h4.blk.frozen j
    have hbl4 := h4.blk
    have hlg := h4.lg
    have HROW := Lib.hid hrow; have HRD4 := Lib.hid hrd4; have HONE := Lib.hid hone; have HSZ3 := Lib.hid hsz3; have HST := Lib.hid hst; have HB4 := Lib.hid hbl4; have HLG := Lib.hid hlg
    clear hrow hrd4 hone hsz3 hst h4 h3q hfr c2 c0 hbl4 hlg
    unfold hdArr at HST
    dsimp only at HST
    generalize w3.alloc (.cells #[.int .i64 xa, .int .i64 xl, .int .i64 xf, .int .i64 xb, .int .i64 xm, .int .i64 xn] 78) = w4 at *
    generalize w3.heap.size = kx at *
    go_upto_region 3 with (at_builtin; refine wpList_append_any _ rfl (.tmp 26) (.tmp 27) 76 rfl base 78 i0 _ 6 48 Tryz.underlying76 I0.out I1.out I2.out I3.out rfl (by decide) _ lo.length (lo.flatMap HdR.cells) rfl HROW.out kx A n c3 (l2.flatMap HdR.cells) rfl HRD4.out HONE.out (by simp only [maxLen]; omega) (by omega) HSZ3.out ?_; intro v' w5 g1 g2 g3; obtain ⟨A5, c5, rfl, _⟩ := own_reads g1; have hs5 := HST.out _ w5 g2 g3 g1; have HS5 := Lib.hid hs5; have hb5 := Blk.chg HB4.out (Chg.of_grown (S := fun i => vl.ownBlock = some i) g2 (fun i e => e.symm)) HLG.out; have fz3 := hb5.frozen 3; have d2 : w5.cell? ⟨g, 2, none⟩ = some (.pointer none) := hb5.cell 2; have d3 : w5.cell? ⟨g, 3, none⟩ = some vl := hb5.cell 3; have HB5 := Lib.hid hb5; clear g1 g2 g3 hs5 hb5)
    obtain ⟨⟨F5, e1, e2, e3⟩, ⟨F6, e4, e5, e6⟩⟩ := HS5.out
    have hb6 := HB5.out.set_ 3 (.slice A5 (lo.length + n) c5)
    have fz2 := hb6.frozen 2
    have HE1 := Lib.hid e1; have HE2 := Lib.hid e2; have HE3 := Lib.hid e3; have HE4 := Lib.hid e4; have HE5 := Lib.hid e5; have HE6 := Lib.hid e6
    clear e1 e2 e3 e4 e5 e6 hb6 HS5
    cases o with
    | none =>
      go_wp2_with fail
      go_end0
      exact ⟨rfl, Lib.hid ⟨F5, F3, _, _, HE1.out, HE2.out, HE3.out⟩⟩
    | some x =>
      have e0 := HY.out x rfl
      subst e0
      go_wp2_with fail
      go_end0
      exact ⟨rfl, Lib.hid ⟨F6, F3, _, _, HE4.out, HE5.out, HE6.out⟩⟩
end Go.Proofs.YtgdijbaodfghjaaGreatDoor

/-
  What a shaper's Take does, over whatever queue.
-/
namespace Go.Proofs.YtgdijbaodfghjaaGreatDoor
open Go.RowKit Bkt
set_option linter.unusedVariables false

theorem bodyPost_is6 {P : Program} {f : Func} {Q : Ending → World → Prop} {x : Exit} {a : Act} {W : World} (h : ∀ Wf, Wf = W → bodyPost P f Q x a Wf) : bodyPost P f Q x a W := h W rfl
theorem chg_sixS (w : World) (g : Nat) (u0 u1 u2 u3 u4 u5 : Value) : Chg w ((((((w.setCell ⟨g, 0, none⟩ u0).setCell ⟨g, 1, none⟩ u1).setCell ⟨g, 2, none⟩ u2).setCell ⟨g, 3, none⟩ u3).setCell ⟨g, 4, none⟩ u4).setCell ⟨g, 5, none⟩ u5) (fun i => i = g) :=
  Chg.setCell (p := ⟨g, 5, none⟩) (Chg.setCell (p := ⟨g, 4, none⟩) (Chg.setCell (p := ⟨g, 3, none⟩) (Chg.setCell (p := ⟨g, 2, none⟩) (Chg.setCell (p := ⟨g, 1, none⟩) (Chg.setCell (p := ⟨g, 0, none⟩) (Chg.refl w (fun i => i = g)) (fun _ => rfl) _) (fun _ => rfl) _) (fun _ => rfl) _) (fun _ => rfl) _) (fun _ => rfl) _) (fun _ => rfl) _
def heldZ : Array Value := #[.int .i64 0, .int .i64 0, .int .i64 0, .int .i64 0, .int .i64 0, .int .i64 0]
def SgTakeOut {M : Pl.QM} (V : Value) (Inv : M.σ → Nat → (Nat → Prop) → World → Prop) (base : Nat) (b : Bk) (g gt : Nat) (r : Option Hd × List Hd × Pl.ShS M.σ) (k : Nat) (F : Nat → Prop) (w : World) (e : Ending) (w' : World) : Prop :=
  ∃ h0 A c, e = .returned (.tuple #[hdV h0, .slice A r.2.1.length c, .bool r.1.isSome]) ∧ (∀ x, r.1 = some x → h0 = x) ∧ Hid (RdR HdR w' w'.heap.size A r.2.1.length r.2.1 ∧ (∀ ad, A = some ad → F ad.block ∨ w.heap.size ≤ ad.block) ∧ ∃ F' Fq vn vl, SgI V Inv base b g gt r.2.2 k F' Fq w' vn vl ∧ Chg w w' F ∧ ∀ i, F' i → F i ∨ w.heap.size ≤ i)
structure SgMid {M : Pl.QM} (V : Value) (Inv : M.σ → Nat → (Nat → Prop) → World → Prop) (base : Nat) (b : Bk) (g gt : Nat) (s : Pl.ShS M.σ) (k : Nat) (F F' Fq : Nat → Prop) (w w1 : World) (vn vl : Value) (tl : List Hd) (A : Option Addr) (c : Nat) : Prop where
  s : SgI V Inv base b g gt s k F' Fq w1 vn vl
  cg : Chg w w1 F
  f : ∀ i, F' i → F i ∨ w.heap.size < i
  z : Blk w1 w.heap.size 78 heldZ
  tl_ : w1.ownsRow base 78 6 (.slice A tl.length c) tl.length (tl.flatMap HdR.cells)
  tf : ∀ ad, A = some ad → F ad.block ∨ w.heap.size < ad.block
theorem tolK {w w1 w' : World} {base : Nat} {A : Option Addr} {c : Nat} {tl : List Hd} {F : Nat → Prop} (hto : w1.ownsRow base 78 6 (.slice A tl.length c) tl.length (tl.flatMap HdR.cells)) (tf : ∀ ad, A = some ad → F ad.block ∨ w.heap.size < ad.block) (hF : ∀ i, F i → i < w.heap.size) (hc : Chg w1 w' (fun i => i = w.heap.size)) :
    w'.ownsRow base 78 6 (.slice A tl.length c) tl.length (tl.flatMap HdR.cells) :=
  ownsRow_chg hto hc (fun i hi e => by
    obtain ⟨ad, rfl, e2⟩ : ∃ ad, A = some ad ∧ ad.block = i := by
      cases A with
      | none => simp [Value.ownBlock] at hi
      | some ad => exact ⟨ad, rfl, by simpa [Value.ownBlock] using hi⟩
    rcases tf ad rfl with e3 | e3
    · have := hF _ e3; omega
    · omega)
theorem rd_of {w : World} {base : Nat} {A : Option Addr} {c : Nat} {tl : List Hd} (h : w.ownsRow base 78 6 (.slice A tl.length c) tl.length (tl.flatMap HdR.cells)) : RdR HdR w w.heap.size A tl.length tl := by
  obtain ⟨A', c', e1, e2⟩ := own_rdR (R := HdR) h
  injection e1 with e1
  subst e1
  exact e2
section
variable {M : Pl.QM} {V : Value} {Inv : M.σ → Nat → (Nat → Prop) → World → Prop} {base : Nat} {b : Bk} {g gt : Nat} {s : Pl.ShS M.σ} {k : Nat} {F F' Fq : Nat → Prop} {w w1 w' : World} {vn vl : Value} {tl : List Hd} {A : Option Addr} {c : Nat}
theorem SgMid.bucket (h : SgMid V Inv base b g gt s k F F' Fq w w1 vn vl tl A c) (qi : QImp M V base Inv) (hg : w1.drew.grownBy w' (some gt)) {st' : St} (hst : StB w' gt b st') (hs : SOk b st') (hl : st'.last ≤ 1000000000) : SgMid V Inv base b g gt ⟨s.q, st', s.next, s.lost⟩ k F F' Fq w w' vn vl tl A c := by
  have h1 : SgI V Inv base b g gt s k F' Fq w1.drew vn vl := h.s.over qi (bl_drew (Below.refl _ _))
  have hc : Chg w1.drew w' (fun i => i = gt) := Chg.of_grown hg (fun i e => by injection e)
  have hto : w1.drew.ownsRow base 78 6 (.slice A tl.length c) tl.length (tl.flatMap HdR.cells) := ownsRow_chg h.tl_ (S := fun _ => False) ((Chg.refl _ _).drew) (fun _ _ e => e)
  refine ⟨h1.bucket qi hg hst hs hl, (h.cg.drew).trans (S' := fun i => i = gt) hc (fun i hi e => ?_), h.f, (h.z.drew).grown hg (fun e => ?_), ownsRow_chg hto hc (fun i hi e => own_ne hto h1.st (by decide) (by rw [hi, e])), h.tf⟩
  · subst e
    rcases h.f _ h.s.mF.2.1 with e | e
    · exact e
    · omega
  · injection e with e
    exact Blk.ne_ h.z h.s.st (by decide) e
theorem SgMid.res (h : SgMid V Inv base b g gt s k F F' Fq w w1 vn vl tl A c) (qi : QImp M V base Inv) (hF : ∀ i, F i → i < w.heap.size) (hc : Chg w1 w' (fun i => i = w.heap.size)) :
    RdR HdR w' w'.heap.size A tl.length tl ∧ (∀ ad, A = some ad → F ad.block ∨ w.heap.size ≤ ad.block) ∧ ∃ F' Fq vn vl, SgI V Inv base b g gt s k F' Fq w' vn vl ∧ Chg w w' F ∧ ∀ i, F' i → F i ∨ w.heap.size ≤ i := by
  refine ⟨rd_of (tolK h.tl_ h.tf hF hc), fun ad e => (h.tf ad e).imp id (fun h => Nat.le_of_lt h), F', Fq, vn, vl, h.s.chg qi hc (fun i hi e => ?_), h.cg.trans hc (fun i hi e => by omega), fun i hi => by rcases h.f i hi with e | e; exact .inl e; exact .inr (by omega)⟩
  rcases h.f i hi with e2 | e2
  · have := hF i e2; omega
  · omega
end

set_option maxHeartbeats 4000000 in
set_option maxRecDepth 100000 in
theorem sgtake_any {M : Pl.QM} {V : Value} {Inv : M.σ → Nat → (Nat → Prop) → World → Prop} (base : Nat) (b : Bk) (hk : BkOk b) (qi : QImp M V base Inv) (g gt : Nat) (s : Pl.ShS M.σ) (k : Nat) (F Fq : Nat → Prop) (w : World) (vn vl : Value) (now : Int) (h : SgI V Inv base b g gt s k F Fq w vn vl) (hw : ((Pl.lookG M now s).lost).length ≤ 1000) (hx : ∀ x, (Pl.lookG M now s).next = some x → 0 ≤ x.it.len ∧ x.it.len ≤ 10000) (h0 : 0 ≤ now) (h1 : now ≤ 1000000000) (hB : base ≤ w.heap.size) :
    Calls Tryz.prog 135 #[.pointer (some ⟨g, 0, none⟩), .int .i64 now] w (SgTakeOut V Inv base b g gt (Pl.shgTake b now (Pl.lookG M now s)) k F w) := by
  have hF : ∀ i, F i → i < w.heap.size := fun i hi => (h.lt i hi).2
  have hov := h.over qi (w' := w.alloc (.cells heldZ 78)) (bl_alloc (Below.refl _ _))
  have hlk := lookg_any base b qi g gt s k F Fq (w.alloc (.cells heldZ 78)) vn vl now hov hw h0 h1 (by simp; omega)
  have HLK := Lib.hid hlk; have HF := Lib.hid hF; have HP := Lib.hid qi; have HK := Lib.hid hk; have HX := Lib.hid hx
  clear h hov hlk qi hF hx hw
  unfold heldZ at HLK
  go_enter Tryz.func135, Tryz.ntmps135
  go_wp2_with fail
  (with_reducible refine HLK.out.mono ?_)
  rintro e w1 ⟨rfl, hl⟩
  obtain ⟨F1, Fq1, vn1, vl1, hs1, hc1, hf1⟩ := hl.out
  obtain ⟨A1, c1', rfl, _⟩ := own_reads hs1.lo
  have hmid : SgMid V Inv base b g gt (Pl.lookG M now s) k F F1 Fq1 w w1 vn1 (.slice A1 (Pl.lookG M now s).lost.length c1') (Pl.lookG M now s).lost A1 c1' := by
    have hf2 : ∀ i, F1 i → F i ∨ w.heap.size < i := fun i hi => by
      rcases hf1 i hi with e | e
      · exact .inl e
      · exact .inr (by simp at e; omega)
    refine ⟨hs1, ?_, hf2, (Blk.new w 78 heldZ).chg hc1 (fun e => by have := HF.out _ e; omega), hs1.lo, fun ad e => hf2 _ (hs1.ld ad.block (by subst e; rfl)).1⟩
    exact (Chg.of_below (bl_alloc (o := .cells heldZ 78) (Below.refl _ w))).trans hc1 (fun i _ h => h)
  clear hl hs1 hc1 hf1
  generalize Pl.lookG M now s = s1 at *
  obtain ⟨q1, st1, nx1, lo1⟩ := s1
  have hb1 := hmid.s.blk
  have c2 : w1.cell? ⟨g, 2, none⟩ = some vn1 := hb1.cell 2
  have c3 : w1.cell? ⟨g, 3, none⟩ = some (.slice A1 lo1.length c1') := hb1.cell 3
  have fz3 : w1.frozen? ⟨g, 3, none⟩ = false := hb1.frozen 3
  have hgR : g ≠ w.heap.size := fun e => by
    rcases hmid.f g hmid.s.mF.1 with h | h
    · have := HF.out g h; omega
    · omega
  have hmid2 : SgMid V Inv base b g gt ⟨q1, st1, nx1, []⟩ k F F1 Fq1 w (w1.setCell ⟨g, 3, none⟩ (.slice none 0 0)) vn1 (.slice none 0 0) lo1 A1 c1' :=
    ⟨hmid.s.told HP.out, hmid.cg.setCell (p := ⟨g, 3, none⟩) (fun hlt => by
      rcases hmid.f g hmid.s.mF.1 with h | h
      · exact h
      · have : g < w.heap.size := hlt
        omega) _, hmid.f, hmid.z.far (p := ⟨g, 3, none⟩) (fun e => hgR e.symm) _, ownsRow_chg hmid.tl_ (Chg.setCell (p := ⟨g, 3, none⟩) (Chg.refl _ (fun i => i = g)) (fun _ => rfl) _) (fun i hi e => hmid.s.lg (by show Value.ownBlock (.slice A1 lo1.length c1') = _; rw [hi, e])), hmid.tf⟩
  have HM := Lib.hid hmid2
  clear hmid hmid2 hb1
  cases nx1 with
  | none =>
    obtain rfl := HM.out.s.none_ rfl
    have hr : Pl.shgTake b now ⟨q1, st1, none, lo1⟩ = (none, lo1, ⟨q1, st1, none, []⟩) := rfl
    rw [hr]
    go_upto_region 3 with fail
    have c2 := HM.out.s.blk.cell 2
    have z0 := HM.out.z.cell 0; have z1 := HM.out.z.cell 1; have z2 := HM.out.z.cell 2; have z3 := HM.out.z.cell 3; have z4 := HM.out.z.cell 4; have z5 := HM.out.z.cell 5
    have f0 := HM.out.z.frozen 0; have f1 := HM.out.z.frozen 1; have f2 := HM.out.z.frozen 2; have f3 := HM.out.z.frozen 3; have f4 := HM.out.z.frozen 4; have f5 := HM.out.z.frozen 5
    clear c3 fz3
    generalize w1.setCell ⟨g, 3, none⟩ (.slice none 0 0) = W2 at *
    simp [heldZ] at c2 z0 z1 z2 z3 z4 z5
    go_quiet (fail)
    go_wp2_with fail
    refine bodyPost_is6 fun Wf hWf => ?_
    have hch : Chg W2 Wf (fun i => i = w.heap.size) := by
      rw [hWf]
      exact ((Chg.refl W2 (fun i => i = w.heap.size)).drewN nq).trans (chg_sixS _ _ _ _ _ _ _ _) (fun _ _ h => h)
    have hkf : Blk Wf w.heap.size 78 #[.int .i64 0, .int .i64 0, .int .i64 0, .int .i64 0, .int .i64 0, .int .i64 0] := by rw [hWf]; exact blk_six (HM.out.z.drewN nq) _ _ _ _ _ _
    clear hWf
    have r0 := hkf.cell 0; have r1 := hkf.cell 1; have r2 := hkf.cell 2; have r3 := hkf.cell 3; have r4 := hkf.cell 4; have r5 := hkf.cell 5
    simp at r0 r1 r2 r3 r4 r5
    refine bodyPost_ret (v := .tuple #[hdV Hd.zero, .slice A1 lo1.length c1', .bool false]) (by simp [results, Tryz.results135, go_sem, hdV, Hd.zero, It.zero, r0, r1, r2, r3, r4, r5]) rfl ?_
    exact ⟨Hd.zero, A1, c1', rfl, fun x e => (by cases e), Lib.hid (HM.out.res HP.out HF.out hch)⟩
  | some x =>
    obtain ⟨gn, hvn, hbn, hgn, _⟩ := HM.out.s.some_ rfl
    have hxl := HX.out x rfl
    subst hvn
    obtain ⟨⟨xa, xl, xf, xb, xm⟩, xn⟩ := x
    have htk : ∀ W, StB W gt b st1 → Calls Tryz.prog 138 #[.pointer (some ⟨gt, 0, none⟩), .int .i64 now, .int .i64 xl] W (BTakeOut W gt (Bkt.take b st1 now xl) b (Bkt.okB b st1 now xl)) := fun W hW => take_any b st1 gt now xl W hk hW HM.out.s.sok.last HM.out.s.sl h1 HM.out.s.sok.has0 HM.out.s.sok.has1 hxl.1 (Int.le_trans hxl.2 (by decide))
    have hso : SOk b (Bkt.take b st1 now xl) := sok_take (now := now) HK.out HM.out.s.sok hxl.1
    have hsl : (Bkt.take b st1 now xl).last ≤ 1000000000 := by rw [last_take]; have := HM.out.s.sl; dsimp only at this; omega
    have hrt : Bkt.okB b st1 now xl = true → Pl.shgTake b now ⟨q1, st1, some ⟨⟨xa, xl, xf, xb, xm⟩, xn⟩, lo1⟩ = (some ⟨⟨xa, xl, xf, xb, xm⟩, xn⟩, lo1, ⟨q1, Bkt.take b st1 now xl, none, []⟩) := fun e => if_pos e
    have hrf : Bkt.okB b st1 now xl = false → Pl.shgTake b now ⟨q1, st1, some ⟨⟨xa, xl, xf, xb, xm⟩, xn⟩, lo1⟩ = (none, lo1, ⟨q1, Bkt.take b st1 now xl, some ⟨⟨xa, xl, xf, xb, xm⟩, xn⟩, []⟩) := fun e => if_neg (by rw [e]; decide)
    generalize Pl.shgTake b now ⟨q1, st1, some ⟨⟨xa, xl, xf, xb, xm⟩, xn⟩, lo1⟩ = res at *
    generalize Bkt.take b st1 now xl = st2 at *
    generalize Bkt.okB b st1 now xl = ok at *
    have HRT := Lib.hid hrt; have HRF := Lib.hid hrf
    clear hrt hrf
    have hst := HM.out.s.st
    have HTK := Lib.hid htk; have HSO := Lib.hid hso; have HSL := Lib.hid hsl; have HXL := Lib.hid hxl; have HGN := Lib.hid hgn; have HST := Lib.hid hst
    clear htk hso hsl hxl hgn hst
    go_upto_region 3 with fail
    have c2 := HM.out.s.blk.cell 2
    have c1 := HM.out.s.blk.cell 1
    have n1 := hbn.cell 1
    clear c3 fz3
    have HBN := Lib.hid hbn
    clear hbn
    generalize w1.setCell ⟨g, 3, none⟩ (.slice none 0 0) = W2 at *
    simp [hdArr] at c2 c1 n1
    go_still_tail 19, (by kernel_rfl)
    change wpList _ _ _ _ _ (World.drew _)
    go_wp2_with fail
    (with_reducible refine (HTK.out _ ?_).mono ?_)
    · exact Blk.drew HST.out
    rintro e w3 ⟨rfl, hg3, hst3⟩
    have hm3 := HM.out.bucket HP.out hg3 hst3 HSO.out HSL.out
    have hbn3 := (HBN.out.drew).grown hg3 (fun e => by injection e with e; exact Blk.ne_ HBN.out HST.out (by decide) e)
    have hgl3 := hm3.s.blk.lt
    have hnR : gn ≠ w.heap.size := fun e => by
      rcases HM.out.f gn HGN.out.1 with h | h
      · have := HF.out gn h; omega
      · omega
    have z0 := hm3.z.cell 0; have z1 := hm3.z.cell 1; have z2 := hm3.z.cell 2; have z3 := hm3.z.cell 3; have z4 := hm3.z.cell 4; have z5 := hm3.z.cell 5
    have f0 := hm3.z.frozen 0; have f1 := hm3.z.frozen 1; have f2 := hm3.z.frozen 2; have f3 := hm3.z.frozen 3; have f4 := hm3.z.frozen 4; have f5 := hm3.z.frozen 5
    have g2 := hm3.s.blk.cell 2
    have gf2 := hm3.s.blk.frozen 2
    have m0 := hbn3.cell 0; have m1 := hbn3.cell 1; have m2 := hbn3.cell 2; have m3 := hbn3.cell 3; have m4 := hbn3.cell 4; have m5 := hbn3.cell 5
    simp [heldZ, hdArr] at z0 z1 z2 z3 z4 z5 g2 m0 m1 m2 m3 m4 m5
    have HM3 := Lib.hid hm3; have HBN3 := Lib.hid hbn3
    clear hm3 hbn3 hst3 hg3 c1 c2 n1
    have hRg : w.heap.size ≠ g := fun e => hgR e.symm
    have hRn : w.heap.size ≠ gn := fun e => hnR e.symm
    cases ok
    · go_wp2_with fail
      refine bodyPost_is6 fun Wf hWf => ?_
      have hch : Chg w3 Wf (fun i => i = w.heap.size) := by
        rw [hWf]
        exact chg_sixS _ _ _ _ _ _ _ _
      have hkf : Blk Wf w.heap.size 78 #[.int .i64 0, .int .i64 0, .int .i64 0, .int .i64 0, .int .i64 0, .int .i64 0] := by rw [hWf]; exact blk_six HM3.out.z _ _ _ _ _ _
      clear hWf
      have r0 := hkf.cell 0; have r1 := hkf.cell 1; have r2 := hkf.cell 2; have r3 := hkf.cell 3; have r4 := hkf.cell 4; have r5 := hkf.cell 5
      simp at r0 r1 r2 r3 r4 r5
      refine bodyPost_ret (v := .tuple #[hdV Hd.zero, .slice A1 lo1.length c1', .bool false]) (by simp [results, Tryz.results135, go_sem, hdV, Hd.zero, It.zero, r0, r1, r2, r3, r4, r5]) rfl ?_
      rw [HRF.out trivial]
      exact ⟨Hd.zero, A1, c1', rfl, fun x e => (by cases e), Lib.hid (HM3.out.res HP.out HF.out hch)⟩
    · go_upto_region 6 with fail
      have hz4 := blk_six HM3.out.z (.int .i64 xa) (.int .i64 xl) (.int .i64 xf) (.int .i64 xb) (.int .i64 xm) (.int .i64 xn)
      have hc4 := chg_sixS w3 w.heap.size (.int .i64 xa) (.int .i64 xl) (.int .i64 xf) (.int .i64 xb) (.int .i64 xm) (.int .i64 xn)
      have hs4 := HM3.out.s.chg HP.out hc4 (fun i hi e => by
        rcases HM.out.f i hi with e2 | e2
        · have := HF.out i e2; omega
        · omega)
      have hcw4 : Chg w ((((((w3.setCell ⟨w.heap.size, 0, none⟩ (.int .i64 xa)).setCell ⟨w.heap.size, 1, none⟩ (.int .i64 xl)).setCell ⟨w.heap.size, 2, none⟩ (.int .i64 xf)).setCell ⟨w.heap.size, 3, none⟩ (.int .i64 xb)).setCell ⟨w.heap.size, 4, none⟩ (.int .i64 xm)).setCell ⟨w.heap.size, 5, none⟩ (.int .i64 xn)) F := HM3.out.cg.trans hc4 (fun i hi e => by omega)
      have hto4 := tolK HM3.out.tl_ HM3.out.tf HF.out hc4
      clear z0 z1 z2 z3 z4 z5 f0 f1 f2 f3 f4 f5 g2 gf2 m0 m1 m2 m3 m4 m5 hc4
      generalize (((((w3.setCell ⟨w.heap.size, 0, none⟩ (.int .i64 xa)).setCell ⟨w.heap.size, 1, none⟩ (.int .i64 xl)).setCell ⟨w.heap.size, 2, none⟩ (.int .i64 xf)).setCell ⟨w.heap.size, 3, none⟩ (.int .i64 xb)).setCell ⟨w.heap.size, 4, none⟩ (.int .i64 xm)).setCell ⟨w.heap.size, 5, none⟩ (.int .i64 xn) = W4 at *
      have g2 := hs4.blk.cell 2
      have gf2 := hs4.blk.frozen 2
      simp at g2
      have HS4 := Lib.hid hs4; have HC4 := Lib.hid hcw4; have HZ4 := Lib.hid hz4; have HTO4 := Lib.hid hto4
      clear hs4 hcw4 hz4 hto4
      go_upto_region 7 with fail
      have hs5 := HS4.out.gone HP.out
      have hto5 := ownsRow_chg HTO4.out (Chg.setCell (p := ⟨g, 2, none⟩) (Chg.refl _ (fun i => i = g)) (fun _ => rfl) (.pointer none)) (fun i hi e => own_ne HTO4.out HS4.out.blk (by decide) (by rw [hi, e]))
      have hz5 := HZ4.out.far (p := ⟨g, 2, none⟩) hRg (.pointer none)
      have hc5 := HC4.out.setCell (p := ⟨g, 2, none⟩) (fun hlt => by
        rcases HM.out.f g HM.out.s.mF.1 with h | h
        · exact h
        · have : g < w.heap.size := hlt
          omega) (.pointer none)
      clear g2 gf2
      generalize W4.setCell ⟨g, 2, none⟩ (.pointer none) = W5 at *
      have z0 := hz5.cell 0; have z1 := hz5.cell 1; have z2 := hz5.cell 2; have z3 := hz5.cell 3; have z4 := hz5.cell 4; have z5 := hz5.cell 5
      have f0 := hz5.frozen 0; have f1 := hz5.frozen 1; have f2 := hz5.frozen 2; have f3 := hz5.frozen 3; have f4 := hz5.frozen 4; have f5 := hz5.frozen 5
      simp at z0 z1 z2 z3 z4 z5
      have HS5 := Lib.hid hs5; have HC5 := Lib.hid hc5; have HZ5 := Lib.hid hz5; have HTO5 := Lib.hid hto5
      clear hs5 hc5 hz5 hto5
      go_wp2_with fail
      refine bodyPost_is6 fun Wf hWf => ?_
      have hch : Chg W5 Wf (fun i => i = w.heap.size) := by
        rw [hWf]
        exact chg_sixS _ _ _ _ _ _ _ _
      have hkf : Blk Wf w.heap.size 78 #[.int .i64 xa, .int .i64 xl, .int .i64 xf, .int .i64 xb, .int .i64 xm, .int .i64 xn] := by rw [hWf]; exact blk_six HZ5.out _ _ _ _ _ _
      clear hWf
      have r0 := hkf.cell 0; have r1 := hkf.cell 1; have r2 := hkf.cell 2; have r3 := hkf.cell 3; have r4 := hkf.cell 4; have r5 := hkf.cell 5
      simp at r0 r1 r2 r3 r4 r5
      refine bodyPost_ret (v := .tuple #[hdV ⟨⟨xa, xl, xf, xb, xm⟩, xn⟩, .slice A1 lo1.length c1', .bool true]) (by simp [results, Tryz.results135, go_sem, hdV, r0, r1, r2, r3, r4, r5]) rfl ?_
      rw [HRT.out trivial]
      refine ⟨⟨⟨xa, xl, xf, xb, xm⟩, xn⟩, A1, c1', rfl, fun x e => (by injection e), Lib.hid ⟨rd_of (tolK HTO5.out HM3.out.tf HF.out hch), fun ad e => (HM3.out.tf ad e).imp id (fun h => Nat.le_of_lt h), F1, Fq1, _, _, HS5.out.chg HP.out hch (fun i hi e => ?_), HC5.out.trans hch (fun i hi e => by omega), fun i hi => by rcases HM.out.f i hi with e | e; exact .inl e; exact .inr (by omega)⟩⟩
      rcases HM.out.f i hi with e2 | e2
      · have := HF.out i e2; omega
      · omega
end Go.Proofs.YtgdijbaodfghjaaGreatDoor

/-
  What a shaper's When does, over whatever queue.
-/
namespace Go.Proofs.YtgdijbaodfghjaaGreatDoor
open Go.RowKit Bkt
set_option linter.unusedVariables false

theorem stB_drew {w : World} {g : Nat} {k : Bk} {s : St} (h : StB w g k s) : StB w.drew g k s := Blk.drew h
def SgWhenOut {M : Pl.QM} (V : Value) (Inv : M.σ → Nat → (Nat → Prop) → World → Prop) (base : Nat) (b : Bk) (g gt : Nat) (r : Option Int × Pl.ShS M.σ) (k : Nat) (F : Nat → Prop) (w : World) (e : Ending) (w' : World) : Prop :=
  ∃ a, e = .returned (.tuple #[.int .i64 a, .bool r.1.isSome]) ∧ (∀ x, r.1 = some x → a = x) ∧ Hid (∃ F' Fq vn vl, SgI V Inv base b g gt r.2 k F' Fq w' vn vl ∧ Chg w w' F ∧ ∀ i, F' i → F i ∨ w.heap.size ≤ i)
set_option maxHeartbeats 4000000 in
set_option maxRecDepth 100000 in
theorem sgwhen_any {M : Pl.QM} {V : Value} {Inv : M.σ → Nat → (Nat → Prop) → World → Prop} (base : Nat) (b : Bk) (hk : BkOk b) (qi : QImp M V base Inv) (g gt : Nat) (s : Pl.ShS M.σ) (k : Nat) (F Fq : Nat → Prop) (w : World) (vn vl : Value) (now : Int) (h : SgI V Inv base b g gt s k F Fq w vn vl) (hw : ((Pl.lookG M now s).lost).length ≤ 1000) (hx : ∀ x, (Pl.lookG M now s).next = some x → 0 ≤ x.it.len ∧ x.it.len ≤ 10000) (h0 : 0 ≤ now) (h1 : now ≤ 1000000000) (hB : base ≤ w.heap.size) :
    Calls Tryz.prog 136 #[.pointer (some ⟨g, 0, none⟩), .int .i64 now] w (SgWhenOut V Inv base b g gt (Pl.shgWhen b M now (Pl.lookG M now s)) k F w) := by
  have hlk := lookg_any base b qi g gt s k F Fq w vn vl now h hw h0 h1 hB
  have HLK := Lib.hid hlk; have HP := Lib.hid qi; have HK := Lib.hid hk; have HX := Lib.hid hx
  clear h hlk qi hw hx
  go_enter Tryz.func136, Tryz.ntmps136
  go_wp2_with fail
  (with_reducible refine HLK.out.mono ?_)
  rintro e w1 ⟨rfl, hl⟩
  obtain ⟨F1, Fq1, vn1, vl1, hs1, hc1, hf1⟩ := hl.out
  clear hl
  generalize Pl.lookG M now s = s1 at *
  obtain ⟨q1, st1, nx1, lo1⟩ := s1
  have c0 := hs1.blk.cell 0
  have c1 := hs1.blk.cell 1
  have c2 := hs1.blk.cell 2
  simp at c0 c1 c2
  cases nx1 with
  | none =>
    obtain rfl := hs1.none_ rfl
    obtain ⟨fw, rw_, hmw, hcw⟩ := HP.out.when_
    obtain ⟨kq, hkq, hq1⟩ := hs1.q
    have hwh := hcw _ kq Fq1 w1 now hq1 h0 h1
    have HT : Hid (Calls Tryz.prog fw #[rw_, .int .i64 now] w1 (WhenOut Inv w1 Fq1 kq (M.when_ now q1))) := Lib.hid hwh
    have HKQ := Lib.hid hkq
    have HM := Lib.hid hmw; have HS1 := Lib.hid hs1; have HC1 := Lib.hid hc1; have HF1 := Lib.hid hf1
    clear hwh hcw hmw hs1 hc1 hf1 c1 hq1 hkq
    go_wp2_with (refine wpList_invoke1 (vx := .int .i64 now) rfl (.tmp 33) (.tmp 34) #[3] rfl HM.out rfl rfl HT.out (fun e w' ⟨_, _, h, _⟩ => ⟨_, h⟩) ?_; rintro v3 w3 ⟨a, F', e3, h3⟩; injection e3 with e3; subst e3; have H3 := Lib.hid h3; clear h3)
    go_ret2
    obtain ⟨e1, e2, e3, e4⟩ := H3.out
    have hs3 := HS1.out.queue HP.out (q' := (M.when_ now q1).2) ⟨kq, HKQ.out, e2⟩ e3 e4
    refine ⟨a, rfl, e1, Lib.hid ⟨_, _, _, _, hs3, HC1.out.trans (S' := Fq1) e3 (fun i hi e => ?_), fun i hi => ?_⟩⟩
    · rcases HF1.out i (HS1.out.mF.2.2 i e) with e | e
      · exact e
      · omega
    · rcases hi with hi | hi
      · exact HF1.out i hi
      · rcases e4 i hi with e | e
        · exact HF1.out i (HS1.out.mF.2.2 i e)
        · exact .inr (Nat.le_trans HC1.out.size e)
  | some x =>
    obtain ⟨gn, rfl, hbn, hgn, _⟩ := hs1.some_ rfl
    have hxl := HX.out _ rfl
    have hst := hs1.st
    have hso := hs1.sok
    have hsl := hs1.sl
    have n1 := hbn.cell 1
    obtain ⟨⟨xa, xl, xf, xb, xm⟩, xn⟩ := x
    simp [hdArr] at n1
    dsimp only at hst hso hsl hxl
    have HS1 := Lib.hid hs1; have HC1 := Lib.hid hc1; have HF1 := Lib.hid hf1
    by_cases hr : b.r < xl
    · have hres : Pl.shgWhen b M now ⟨q1, st1, some ⟨⟨xa, xl, xf, xb, xm⟩, xn⟩, lo1⟩ = (none, ⟨q1, st1, some ⟨⟨xa, xl, xf, xb, xm⟩, xn⟩, lo1⟩) := if_pos hr
      have HRES := Lib.hid hres
      have hwn : ∀ W, StB W gt b st1 → Calls Tryz.prog 139 #[.pointer (some ⟨gt, 0, none⟩), .int .i64 now, .int .i64 xl] W fun e w' => e = .returned (.tuple #[.int .i64 0, .bool false]) ∧ W = w' := fun W hW => when_no b st1 gt now xl W hW h1 hxl.1 hr
      have HWN := Lib.hid hwn; have HST := Lib.hid hst
      clear hwn hst hso hsl hs1 hc1 hf1 hbn hgn hres c0
      go_upto_region 3 with fail
      go_region_law ((go_simp; go_at_call 139; (with_reducible refine (HWN.out _ (stB_drew HST.out)).mono ?_); rintro e w3 ⟨rfl, rfl⟩))
      all_goals
        go_wp2_with fail
        go_ret2
        rw [HRES.out]
        exact ⟨0, rfl, fun x e => (by cases e), Lib.hid ⟨F1, Fq1, _, _, HS1.out.over HP.out (bl_drew (Below.refl _ _)), HC1.out.drew, HF1.out⟩⟩
    · have hres : Pl.shgWhen b M now ⟨q1, st1, some ⟨⟨xa, xl, xf, xb, xm⟩, xn⟩, lo1⟩ = (some (whenAt b st1 now xl), ⟨q1, fill b st1 now, some ⟨⟨xa, xl, xf, xb, xm⟩, xn⟩, lo1⟩) := if_neg hr
      have HRES := Lib.hid hres
      have hwn : ∀ W, StB W gt b st1 → Calls Tryz.prog 139 #[.pointer (some ⟨gt, 0, none⟩), .int .i64 now, .int .i64 xl] W (BWhenOut W gt b (fill b st1 now) (whenAt b st1 now xl)) := fun W hW => when_any b st1 gt now xl W hk hW hso hsl h0 h1 hxl.1 (by omega)
      have hso2 := sok_fill (now := now) hk hso
      have hsl2 : (fill b st1 now).last ≤ 1000000000 := by rw [last_fill]; omega
      have HWN := Lib.hid hwn; have HST := Lib.hid hst; have HSO := Lib.hid hso2; have HSL := Lib.hid hsl2
      clear hwn hst hso hsl hs1 hc1 hf1 hbn hgn hres c0 hso2 hsl2
      go_upto_region 3 with fail
      go_region_law ((go_simp; go_at_call 139; (with_reducible refine (HWN.out _ (stB_drew HST.out)).mono ?_); rintro e w3 ⟨rfl, hg3, hst3⟩; have HG3 := Lib.hid hg3; have HST3 := Lib.hid hst3; clear hg3 hst3))
      all_goals
       go_wp2_with fail
       go_ret2
       rw [HRES.out]
       have hs2 := (HS1.out.over HP.out (bl_drew (Below.refl _ _))).bucket HP.out HG3.out HST3.out HSO.out HSL.out
       refine ⟨_, rfl, fun x e => (by injection e), Lib.hid ⟨F1, Fq1, _, _, hs2, (HC1.out.drew).trans (S' := fun i => i = gt) (Chg.of_grown HG3.out (fun i e => by injection e)) (fun i hi e => ?_), HF1.out⟩⟩
       subst e
       rcases HF1.out _ HS1.out.mF.2.1 with e | e
       · exact e
       · omega
end Go.Proofs.YtgdijbaodfghjaaGreatDoor
