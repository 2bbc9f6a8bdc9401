/-
  Texts of this claim, one behind the other: SgM.
-/
import Derived.Test.YtgdijbaodfghjaaGreatDoorZ01
import Derived.Test.YtgdijbaodfghjaaGreatDoorZ18
import Derived.Test.YtgdijbaodfghjaaGreatDoorZ14
import Derived.Test.YtgdijbaodfghjaaGreatDoorZ22
import Derived.Test.YtgdijbaodfghjaaGreatDoorZ02
import Derived.Deep.CutRange
/-
  A shaper over whatever queue, as it lies in memory; the next one at hand.
-/
namespace Go.Proofs.YtgdijbaodfghjaaGreatDoor
open Go.RowKit Bkt
set_option linter.unusedVariables false

def hdArr (x : Hd) : Array Value := #[.int .i64 x.it.at_, .int .i64 x.it.len, .int .i64 x.it.flow, .int .i64 x.it.band, .int .i64 x.it.mark, .int .i64 x.num]
theorem own_lt {w : World} {base e size n : Nat} {v : Value} {xs : List Value} (h : w.ownsRow base e size v n xs) : ∀ b, v.ownBlock = some b → base ≤ b ∧ b < w.heap.size := by
  intro b hb
  rcases h.2 with ⟨rfl, _⟩ | ⟨g, cap, cur, rfl, h1, hg, rest⟩
  · simp [Value.ownBlock] at hb
  · have e2 : g = b := by simpa [Value.ownBlock] using hb
    subst e2
    exact ⟨h1, Blk.lt (t := e) hg⟩
theorem own_ne {w : World} {base e size n g : Nat} {t : TypeId} {cs : Array Value} {v : Value} {xs : List Value} (h : w.ownsRow base e size v n xs) (hg : Blk w g t cs) (hne : e ≠ t) : v.ownBlock ≠ some g :=
  (OwnW.of_own h).blk_ne hg hne
def NxG (F Fq : Nat → Prop) (w : World) (vn vl : Value) (nx : Option Hd) : Prop :=
  (nx = none ∧ vn = .pointer none) ∨ ∃ x gn, nx = some x ∧ vn = .pointer (some ⟨gn, 0, none⟩) ∧ Blk w gn 78 (hdArr x) ∧ (F gn ∧ ¬ Fq gn) ∧ vl.ownBlock ≠ some gn
structure SgI {M : Pl.QM} (V : Value) (Inv : M.σ → Nat → (Nat → Prop) → World → Prop) (base : Nat) (b : Bk) (g gt : Nat) (s : Pl.ShS M.σ) (k : Nat) (F Fq : Nat → Prop) (w : World) (vn vl : Value) : Prop where
  blk : Blk w g 135 #[V, .pointer (some ⟨gt, 0, none⟩), vn, vl]
  st : StB w gt b s.st
  sok : SOk b s.st
  sl : s.st.last ≤ 1000000000
  q : ∃ kq, kq ≤ k ∧ Inv s.q kq Fq w
  nx : NxG F Fq w vn vl s.next
  lo : w.ownsRow base 78 6 vl s.lost.length (s.lost.flatMap HdR.cells)
  ld : ∀ i, vl.ownBlock = some i → F i ∧ ¬ Fq i
  d : ¬ Fq g ∧ ¬ Fq gt
  mF : F g ∧ F gt ∧ ∀ i, Fq i → F i
  lt : ∀ i, F i → base ≤ i ∧ i < w.heap.size
section
variable {M : Pl.QM} {V : Value} {Inv : M.σ → Nat → (Nat → Prop) → World → Prop} {base : Nat} {b : Bk} {g gt : Nat} {s : Pl.ShS M.σ} {k : Nat} {F F' Fq Fq' S : Nat → Prop} {w w' : World} {vn vl : Value}
theorem NxG.chg {nx : Option Hd} (h : NxG F Fq w vn vl nx) (hc : Chg w w' S) (hn : ∀ i, F i → ¬ Fq i → vl.ownBlock ≠ some i → ¬ S i) (hF : ∀ i, F i → F' i) (hq : ∀ i, F i → Fq' i → Fq i) : NxG F' Fq' w' vn vl nx := by
  rcases h with h | ⟨x, gn, h1, h2, h3, h4, h5⟩
  · exact .inl h
  · exact .inr ⟨x, gn, h1, h2, h3.chg hc (hn _ h4.1 h4.2 h5), ⟨hF _ h4.1, fun e => h4.2 (hq _ h4.1 e)⟩, h5⟩
theorem SgI.gne (h : SgI V Inv base b g gt s k F Fq w vn vl) : g ≠ gt := Blk.ne_ h.blk h.st (by decide)
theorem SgI.lg (h : SgI V Inv base b g gt s k F Fq w vn vl) : vl.ownBlock ≠ some g := own_ne h.lo h.blk (by decide)
theorem SgI.lgt (h : SgI V Inv base b g gt s k F Fq w vn vl) : vl.ownBlock ≠ some gt := own_ne h.lo h.st (by decide)
theorem SgI.chg (qi : QImp M V base Inv) (h : SgI V Inv base b g gt s k F Fq w vn vl) (hc : Chg w w' S) (hn : ∀ i, F i → ¬ S i) : SgI V Inv base b g gt s k F Fq w' vn vl := by
  obtain ⟨kq, hk, hq⟩ := h.q
  exact ⟨h.blk.chg hc (hn _ h.mF.1), Blk.chg h.st hc (hn _ h.mF.2.1), h.sok, h.sl, ⟨kq, hk, qi.chg _ _ _ _ _ _ hq hc (fun i hi => hn _ (h.mF.2.2 i hi))⟩, h.nx.chg hc (fun i hi _ _ => hn i hi) (fun _ h => h) (fun _ _ h => h), ownsRow_chg h.lo hc (fun i hi => hn i (h.ld i hi).1), h.ld, h.d, h.mF,
    fun i hi => ⟨(h.lt i hi).1, Nat.lt_of_lt_of_le (h.lt i hi).2 hc.size⟩⟩
theorem SgI.over (qi : QImp M V base Inv) (h : SgI V Inv base b g gt s k F Fq w vn vl) (hb : Below w.heap.size w w') : SgI V Inv base b g gt s k F Fq w' vn vl := h.chg qi (S := fun _ => False) (Chg.of_below hb) (fun _ _ e => e)
theorem SgI.more (h : SgI V Inv base b g gt s k F Fq w vn vl) {k' : Nat} (hk : k ≤ k') : SgI V Inv base b g gt s k' F Fq w vn vl := by
  obtain ⟨kq, hkq, hq⟩ := h.q
  exact ⟨h.blk, h.st, h.sok, h.sl, ⟨kq, Nat.le_trans hkq hk, hq⟩, h.nx, h.lo, h.ld, h.d, h.mF, h.lt⟩
theorem SgI.bucket (qi : QImp M V base Inv) (h : SgI V Inv base b g gt s k F Fq w vn vl) (hg : w.grownBy w' (some gt)) {st' : St} (hst : StB w' gt b st') (hs : SOk b st') (hl : st'.last ≤ 1000000000) : SgI V Inv base b g gt ⟨s.q, st', s.next, s.lost⟩ k F Fq w' vn vl := by
  have hc : Chg w w' (fun i => i = gt) := Chg.of_grown hg (fun i e => by injection e)
  have hst0 := h.st
  obtain ⟨kq, hkq, hq⟩ := h.q
  refine ⟨h.blk.chg hc h.gne, hst, hs, hl, ⟨kq, hkq, qi.chg _ _ _ _ _ _ hq hc (fun i hi e => h.d.2 (e ▸ hi))⟩, ?_, ownsRow_chg h.lo hc (fun i hi e => h.lgt (by rw [hi, e])), h.ld, h.d, h.mF, fun i hi => ⟨(h.lt i hi).1, Nat.lt_of_lt_of_le (h.lt i hi).2 hc.size⟩⟩
  rcases h.nx with h1 | ⟨x, gn, h1, h2, h3, h4, h5⟩
  · exact .inl h1
  · exact .inr ⟨x, gn, h1, h2, h3.chg hc (Blk.ne_ h3 hst0 (by decide)), h4, h5⟩
theorem SgI.queue (qi : QImp M V base Inv) (h : SgI V Inv base b g gt s k F Fq w vn vl) {q' : M.σ} {k' : Nat} (hq : ∃ kq, kq ≤ k' ∧ Inv q' kq Fq' w') (hc : Chg w w' Fq) (hf : ∀ i, Fq' i → Fq i ∨ w.heap.size ≤ i) :
    SgI V Inv base b g gt ⟨q', s.st, s.next, s.lost⟩ k' (fun i => F i ∨ Fq' i) Fq' w' vn vl := by
  obtain ⟨kq, hkq, hq'⟩ := id hq
  have hlt := qi.lt _ _ _ _ hq'
  refine ⟨h.blk.chg hc h.d.1, Blk.chg h.st hc h.d.2, h.sok, h.sl, hq, ?_, ownsRow_chg h.lo hc (fun i hi => (h.ld i hi).2), fun i hi => ⟨.inl (h.ld i hi).1, fun e => ?_⟩, ⟨fun e => ?_, fun e => ?_⟩, ⟨.inl h.mF.1, .inl h.mF.2.1, fun i hi => .inr hi⟩, fun i hi => ?_⟩
  · refine h.nx.chg hc (fun i _ hn _ => hn) (fun i hi => .inl hi) (fun i hi e => ?_)
    rcases hf i e with e | e
    · exact e
    · have := (h.lt i hi).2; omega
  · rcases hf i e with e | e
    · exact (h.ld i hi).2 e
    · have := (own_lt h.lo i hi).2; omega
  · rcases hf g e with e | e
    · exact h.d.1 e
    · have := h.blk.lt; omega
  · rcases hf gt e with e | e
    · exact h.d.2 e
    · have := Blk.lt h.st; omega
  · rcases hi with hi | hi
    · exact ⟨(h.lt i hi).1, Nat.lt_of_lt_of_le (h.lt i hi).2 hc.size⟩
    · exact hlt i hi
theorem SgI.lose (qi : QImp M V base Inv) (h : SgI V Inv base b g gt s k F Fq w vn vl) {l : List Hd} {v' : Value} (hg : w.grownBy w' vl.ownBlock) (hv : v'.ownBlock = vl.ownBlock ∨ v'.ownBlock = some w.heap.size) (hl : w'.ownsRow base 78 6 v' l.length (l.flatMap HdR.cells)) :
    SgI V Inv base b g gt ⟨s.q, s.st, s.next, l⟩ k (fun i => F i ∨ v'.ownBlock = some i) Fq (w'.setCell ⟨g, 3, none⟩ v') vn v' := by
  have hc0 : Chg w w' (fun i => vl.ownBlock = some i) := Chg.of_grown hg (fun i e => e.symm)
  have hc : Chg w (w'.setCell ⟨g, 3, none⟩ v') (fun i => vl.ownBlock = some i ∨ i = g) := (hc0.mono (fun i _ e => .inl e)).setCell (p := ⟨g, 3, none⟩) (fun _ => .inr rfl) v'
  have hcg : Chg w' (w'.setCell ⟨g, 3, none⟩ v') (fun i => i = g) := (Chg.refl w' (fun i => i = g)).setCell (p := ⟨g, 3, none⟩) (fun _ => rfl) v'
  have hgl := h.blk.lt
  obtain ⟨kq, hkq, hq⟩ := h.q
  have hne : ∀ i, i < w.heap.size → vl.ownBlock ≠ some i → v'.ownBlock ≠ some i := fun i hi hn e => by
    rcases hv with e2 | e2
    · exact hn (e2 ▸ e)
    · rw [e2] at e; injection e with e; omega
  have hlt' := own_lt hl
  refine ⟨(h.blk.chg hc0 h.lg).set_ 3 v', Blk.chg h.st hc (fun e => e.elim h.lgt (fun e => h.gne e.symm)), h.sok, h.sl, ⟨kq, hkq, qi.chg _ _ _ _ _ _ hq hc (fun i hi e => ?_)⟩, ?_, ownsRow_chg hl hcg (fun i hi e => hne g hgl h.lg (by rw [hi, e])), fun i hi => ⟨.inr hi, fun e => ?_⟩, h.d, ⟨.inl h.mF.1, .inl h.mF.2.1, fun i hi => .inl (h.mF.2.2 i hi)⟩, fun i hi => ?_⟩
  · rcases e with e | e
    · exact (h.ld i e).2 hi
    · exact h.d.1 (e ▸ hi)
  · rcases h.nx with h1 | ⟨x, gn, h1, h2, h3, h4, h5⟩
    · exact .inl h1
    · refine .inr ⟨x, gn, h1, h2, h3.chg hc (fun e => e.elim h5 (Blk.ne_ h3 h.blk (by decide))), ⟨.inl h4.1, h4.2⟩, hne gn h3.lt h5⟩
  · have hil := (h.lt _ (h.mF.2.2 i e)).2
    exact hne i hil (fun e2 => (h.ld i e2).2 e) hi
  · rcases hi with hi | hi
    · exact ⟨(h.lt i hi).1, Nat.lt_of_lt_of_le (h.lt i hi).2 hc.size⟩
    · have h2 := hlt' i hi
      exact ⟨h2.1, by simp [World.setCell]; exact h2.2⟩
theorem SgI.hand (qi : QImp M V base Inv) (h : SgI V Inv base b g gt s k F Fq w vn vl) {o : Hd} {n : Nat} (hn : Blk w n 78 (hdArr o)) (hb : base ≤ n) (hq : ¬ Fq n) (hl : vl.ownBlock ≠ some n) :
    SgI V Inv base b g gt ⟨s.q, s.st, some o, s.lost⟩ k (fun i => F i ∨ i = n) Fq (w.setCell ⟨g, 2, none⟩ (.pointer (some ⟨n, 0, none⟩))) (.pointer (some ⟨n, 0, none⟩)) vl := by
  have hc : Chg w (w.setCell ⟨g, 2, none⟩ (.pointer (some ⟨n, 0, none⟩))) (fun i => i = g) := Chg.setCell (p := ⟨g, 2, none⟩) (Chg.refl _ (fun i => i = g)) (fun _ => rfl) _
  obtain ⟨kq, hkq, hq0⟩ := h.q
  refine ⟨h.blk.set_ 2 _, Blk.chg h.st hc (fun e => h.gne e.symm), h.sok, h.sl, ⟨kq, hkq, qi.chg _ _ _ _ _ _ hq0 hc (fun i hi e => h.d.1 (e ▸ hi))⟩, ?_, ownsRow_chg h.lo hc (fun i hi e => h.lg (by rw [hi, e])), fun i hi => ⟨.inl (h.ld i hi).1, (h.ld i hi).2⟩, h.d, ⟨.inl h.mF.1, .inl h.mF.2.1, fun i hi => .inl (h.mF.2.2 i hi)⟩, fun i hi => ?_⟩
  · exact .inr ⟨o, n, rfl, rfl, hn.chg hc (Blk.ne_ hn h.blk (by decide)), ⟨.inr rfl, hq⟩, hl⟩
  · rcases hi with hi | hi
    · exact ⟨(h.lt i hi).1, Nat.lt_of_lt_of_le (h.lt i hi).2 hc.size⟩
    · subst hi; exact ⟨hb, Nat.lt_of_lt_of_le hn.lt hc.size⟩
theorem SgI.gone (qi : QImp M V base Inv) (h : SgI V Inv base b g gt s k F Fq w vn vl) : SgI V Inv base b g gt ⟨s.q, s.st, none, s.lost⟩ k F Fq (w.setCell ⟨g, 2, none⟩ (.pointer none)) (.pointer none) vl := by
  have hc : Chg w (w.setCell ⟨g, 2, none⟩ (.pointer none)) (fun i => i = g) := Chg.setCell (p := ⟨g, 2, none⟩) (Chg.refl _ (fun i => i = g)) (fun _ => rfl) _
  obtain ⟨kq, hkq, hq⟩ := h.q
  exact ⟨h.blk.set_ 2 _, Blk.chg h.st hc (fun e => h.gne e.symm), h.sok, h.sl, ⟨kq, hkq, qi.chg _ _ _ _ _ _ hq hc (fun i hi e => h.d.1 (e ▸ hi))⟩, .inl ⟨rfl, rfl⟩, ownsRow_chg h.lo hc (fun i hi e => h.lg (by rw [hi, e])), h.ld, h.d, h.mF, fun i hi => ⟨(h.lt i hi).1, Nat.lt_of_lt_of_le (h.lt i hi).2 hc.size⟩⟩
theorem SgI.told (qi : QImp M V base Inv) (h : SgI V Inv base b g gt s k F Fq w vn vl) : SgI V Inv base b g gt ⟨s.q, s.st, s.next, []⟩ k F Fq (w.setCell ⟨g, 3, none⟩ (.slice none 0 0)) vn (.slice none 0 0) := by
  have hc : Chg w (w.setCell ⟨g, 3, none⟩ (.slice none 0 0)) (fun i => i = g) := Chg.setCell (p := ⟨g, 3, none⟩) (Chg.refl _ (fun i => i = g)) (fun _ => rfl) _
  obtain ⟨kq, hkq, hq⟩ := h.q
  refine ⟨h.blk.set_ 3 _, Blk.chg h.st hc (fun e => h.gne e.symm), h.sok, h.sl, ⟨kq, hkq, qi.chg _ _ _ _ _ _ hq hc (fun i hi e => h.d.1 (e ▸ hi))⟩, ?_, World.ownsRow_nil _ _ _ _, fun i hi => by simp [Value.ownBlock] at hi, h.d, h.mF, fun i hi => ⟨(h.lt i hi).1, Nat.lt_of_lt_of_le (h.lt i hi).2 hc.size⟩⟩
  rcases h.nx with h1 | ⟨x, gn, h1, h2, h3, h4, h5⟩
  · exact .inl h1
  · exact .inr ⟨x, gn, h1, h2, h3.chg hc (Blk.ne_ h3 h.blk (by decide)), h4, by simp [Value.ownBlock]⟩
theorem SgI.none_ (h : SgI V Inv base b g gt s k F Fq w vn vl) (hn : s.next = none) : vn = .pointer none := by
  rcases h.nx with ⟨_, e⟩ | ⟨x, gn, e1, _⟩
  · exact e
  · rw [hn] at e1; cases e1
theorem SgI.some_ {x : Hd} (h : SgI V Inv base b g gt s k F Fq w vn vl) (hn : s.next = some x) : ∃ gn, vn = .pointer (some ⟨gn, 0, none⟩) ∧ Blk w gn 78 (hdArr x) ∧ (F gn ∧ ¬ Fq gn) ∧ vl.ownBlock ≠ some gn := by
  rcases h.nx with ⟨e, _⟩ | ⟨y, gn, e1, e2, e3, e4, e5⟩
  · rw [hn] at e; cases e
  · rw [hn] at e1
    injection e1 with e1
    subst e1
    exact ⟨gn, e2, e3, e4, e5⟩
end
def SgInv {M : Pl.QM} (V : Value) (Inv : M.σ → Nat → (Nat → Prop) → World → Prop) (I : M.σ → Prop) (base : Nat) (b : Bk) (g gt : Nat) (s : Pl.ShS M.σ) (k : Nat) (F : Nat → Prop) (w : World) : Prop :=
  base ≤ w.heap.size ∧ k ≤ 1000 ∧ Pl.PI (Pl.shgM b M) (Pl.ShgI b I) s ∧ ((Pl.shgM b M).wait s).length ≤ k ∧ ∃ Fq vn vl, SgI V Inv base b g gt s k F Fq w vn vl
def LkOut {M : Pl.QM} (V : Value) (Inv : M.σ → Nat → (Nat → Prop) → World → Prop) (base : Nat) (b : Bk) (g gt : Nat) (s' : Pl.ShS M.σ) (k : Nat) (F : Nat → Prop) (w : World) (e : Ending) (w' : World) : Prop :=
  e = .returned (.tuple #[]) ∧ Hid (∃ F' Fq vn vl, SgI V Inv base b g gt s' k F' Fq w' vn vl ∧ Chg w w' F ∧ ∀ i, F' i → F i ∨ w.heap.size ≤ i)
theorem SgI.looked {M : Pl.QM} {V : Value} {Inv : M.σ → Nat → (Nat → Prop) → World → Prop} {base : Nat} {b : Bk} {g gt : Nat} {q q' : M.σ} {st : St} {lo l2 : List Hd} {k n : Nat} {F Fq F3 : Nat → Prop} {w w3 w5 : World} {vn vl v' : Value} {o : Hd}
    (qi : QImp M V base Inv) (h : SgI V Inv base b g gt ⟨q, st, none, lo⟩ k F Fq w vn vl) (hq : ∃ kq, kq ≤ k ∧ Inv q' kq F3 w3) (hc : Chg w w3 Fq) (hf : ∀ i, F3 i → Fq i ∨ w.heap.size ≤ i) (hn : l2.length = n)
    (hg : (w3.alloc (.cells (hdArr o) 78)).grownBy w5 vl.ownBlock) (hv : v'.ownBlock = vl.ownBlock ∨ v'.ownBlock = some (w3.alloc (.cells (hdArr o) 78)).heap.size) (hl : w5.ownsRow base 78 6 v' (lo.length + n) (lo.flatMap HdR.cells ++ l2.flatMap HdR.cells)) (hB : base ≤ w.heap.size) :
    (∃ F', SgI V Inv base b g gt ⟨q', st, none, lo ++ l2⟩ k F' F3 (w5.setCell ⟨g, 3, none⟩ v') vn v' ∧ Chg w (w5.setCell ⟨g, 3, none⟩ v') F ∧ ∀ i, F' i → F i ∨ w.heap.size ≤ i) ∧
    ∃ F', SgI V Inv base b g gt ⟨q', st, some o, lo ++ l2⟩ k F' F3 ((w5.setCell ⟨g, 3, none⟩ v').setCell ⟨g, 2, none⟩ (.pointer (some ⟨w3.heap.size, 0, none⟩))) (.pointer (some ⟨w3.heap.size, 0, none⟩)) v' ∧ Chg w ((w5.setCell ⟨g, 3, none⟩ v').setCell ⟨g, 2, none⟩ (.pointer (some ⟨w3.heap.size, 0, none⟩))) F ∧ ∀ i, F' i → F i ∨ w.heap.size ≤ i := by
  subst hn
  have h3 := h.queue qi hq hc hf
  have h4 := h3.over qi (w' := w3.alloc (.cells (hdArr o) 78)) (bl_alloc (Below.refl _ _))
  have hl' : w5.ownsRow base 78 6 v' (lo ++ l2).length ((lo ++ l2).flatMap HdR.cells) := by rw [List.length_append, List.flatMap_append]; exact hl
  have h5 := h4.lose qi (l := lo ++ l2) hg hv hl'
  have hsz := hc.size
  have hvl := own_lt h3.lo
  have hgl := h.blk.lt
  have hcg : Chg (w3.alloc (.cells (hdArr o) 78)) w5 (fun i => vl.ownBlock = some i) := Chg.of_grown hg (fun i e => e.symm)
  have hsa : (w3.alloc (.cells (hdArr o) 78)).heap.size = w3.heap.size + 1 := by simp
  have hc5 : Chg w w5 F := ((hc.mono (fun i _ hi => h.mF.2.2 i hi)).alloc _).trans hcg (fun i hi e => (h.ld i e).1)
  have hc6 : Chg w (w5.setCell ⟨g, 3, none⟩ v') F := hc5.setCell (p := ⟨g, 3, none⟩) (fun _ => h.mF.1) v'
  have hF5 : ∀ i, ((F i ∨ F3 i) ∨ v'.ownBlock = some i) → F i ∨ w.heap.size ≤ i := fun i hi => by
    rcases hi with (hi | hi) | hi
    · exact .inl hi
    · exact (hf i hi).imp (h.mF.2.2 i) id
    · rcases hv with e | e
      · exact .inl (h.ld i (e ▸ hi)).1
      · rw [e] at hi; injection hi with hi; exact .inr (by omega)
  refine ⟨⟨_, h5, hc6, hF5⟩, ?_⟩
  have hnb : Blk (w5.setCell ⟨g, 3, none⟩ v') w3.heap.size 78 (hdArr o) := by
    have h0 := Blk.new w3 78 (hdArr o)
    have h1 := h0.chg hcg (fun e => by have := (hvl _ e).2; omega)
    exact h1.far (p := ⟨g, 3, none⟩) (by show w3.heap.size ≠ g; omega) v'
  have hnq : ¬ F3 w3.heap.size := fun e => by
    obtain ⟨kq, _, hq'⟩ := hq
    have := (qi.lt _ _ _ _ hq' _ e).2; omega
  have hnl : v'.ownBlock ≠ some w3.heap.size := fun e => by
    rcases hv with e2 | e2
    · have := (hvl _ (e2 ▸ e)).2; omega
    · rw [e2] at e; injection e with e; omega
  have h6 := h5.hand qi hnb (by omega) hnq hnl
  refine ⟨_, h6, hc6.setCell (p := ⟨g, 2, none⟩) (fun _ => h.mF.1) _, fun i hi => ?_⟩
  rcases hi with hi | hi
  · exact hF5 i hi
  · exact .inr (by omega)
set_option maxHeartbeats 1000000 in
set_option maxRecDepth 100000 in
theorem lookg_any {M : Pl.QM} {V : Value} {Inv : M.σ → Nat → (Nat → Prop) → World → Prop} (base : Nat) (b : Bk) (qi : QImp M V base Inv) (g gt : Nat) (s : Pl.ShS M.σ) (k : Nat) (F Fq : Nat → Prop) (w : World) (vn vl : Value) (now : Int) (h : SgI V Inv base b g gt s k F Fq w vn vl) (hw : ((Pl.lookG M now s).lost).length ≤ 1000) (h0 : 0 ≤ now) (h1 : now ≤ 1000000000) (hB : base ≤ w.heap.size) :
    Calls Tryz.prog 137 #[.pointer (some ⟨g, 0, none⟩), .int .i64 now] w (LkOut V Inv base b g gt (Pl.lookG M now s) k F w) := by
  obtain ⟨q, st, nx, lo⟩ := s
  have c2 : w.cell? ⟨g, 2, none⟩ = some vn := h.blk.cell 2
  cases nx with
  | some o =>
    have hs : Pl.lookG M now ⟨q, st, some o, lo⟩ = ⟨q, st, some o, lo⟩ := rfl
    rw [hs]
    obtain ⟨gn, rfl, _⟩ := h.some_ rfl
    have H := Lib.hid h
    clear h
    go_enter Tryz.func137, Tryz.ntmps137
    go_wp2_with fail
    go_end0
    exact ⟨rfl, Lib.hid ⟨F, Fq, _, _, H.out, Chg.refl _ _, fun i hi => .inl hi⟩⟩
  | none =>
    obtain rfl := h.none_ rfl
    obtain ⟨ft, rt, hmt, hct⟩ := qi.take
    obtain ⟨kq, hkq, hq⟩ := h.q
    have htk := hct q kq Fq w now hq h0 h1
    have hs : Pl.lookG M now ⟨q, st, none, lo⟩ = ⟨(M.take now q).2.2, st, (M.take now q).1, lo ++ (M.take now q).2.1⟩ := rfl
    rw [hs] at hw ⊢
    generalize M.take now q = r at *
    obtain ⟨o, l2, q2⟩ := r
    have hwl : lo.length + l2.length ≤ 1000 := by rw [← List.length_append]; exact hw
    have c0 : w.cell? ⟨g, 0, none⟩ = some V := h.blk.cell 0
    have HM := Lib.hid hmt; have H := Lib.hid h; have HT := Lib.hid htk; have HQI := Lib.hid qi; have HKQ := Lib.hid hkq
    obtain ⟨i0, hi0, hz0, hz1, hz2⟩ := info_parts Tryz.heldInfo
    have I0 := Lib.hid hi0; have I1 := Lib.hid hz0; have I2 := Lib.hid hz1; have I3 := Lib.hid hz2
    clear h hct hmt htk qi hq hkq hi0 hz0 hz1 hz2 hs hw
    go_enter Tryz.func137, Tryz.ntmps137
    go_upto_region 1 with fail
    go_upto_region 2 with (refine wpList_invoke1 (vx := .int .i64 now) rfl (.tmp 16) (.tmp 17) #[3] rfl HM.out rfl rfl HT.out TakeOut.ret ?_; rintro v3 w3 h3; obtain ⟨y, A, n, c3, F3, rfl, hy, hn, hrd, had, hf3, hc3, ha3⟩ := h3.val; have HY := Lib.hid hy; have HRD := Lib.hid hrd; have HF3 := Lib.hid hf3; have HC3 := Lib.hid hc3; have HA3 := Lib.hid ha3; clear hy hrd had hf3 hc3 ha3 h3; obtain ⟨⟨xa, xl, xf, xb, xm⟩, xn⟩ := y; unfold hdV)
    have h3q := H.out.queue HQI.out (q' := q2) ⟨kq, HKQ.out, HF3.out⟩ HC3.out HA3.out
    have h4 := h3q.over HQI.out (w' := w3.alloc (.cells #[.int .i64 xa, .int .i64 xl, .int .i64 xf, .int .i64 xb, .int .i64 xm, .int .i64 xn] 78)) (bl_alloc (Below.refl _ _))
    have hrow := h4.lo
    dsimp only at hrow
    have hrd4 : Reads (w3.alloc (.cells #[.int .i64 xa, .int .i64 xl, .int .i64 xf, .int .i64 xb, .int .i64 xm, .int .i64 xn] 78)) w3.heap.size 6 A n (l2.flatMap HdR.cells) := Reads.alloc HRD.out (Nat.le_refl _) _
    have hnl : l2.length = n := HRD.out.len
    have hsz3 : base ≤ (w3.alloc (.cells #[.int .i64 xa, .int .i64 xl, .int .i64 xf, .int .i64 xb, .int .i64 xm, .int .i64 xn] 78)).heap.size := by have := HC3.out.size; simp; omega
    have hone : ∀ v ∈ l2.flatMap HdR.cells, v.oneCell' = true := fun v hv => by
      obtain ⟨z, _, hz⟩ := List.mem_flatMap.1 hv
      exact hd_one z v hz
    have hst := fun v' w5 hg hv hl => H.out.looked HQI.out (o := ⟨⟨xa, xl, xf, xb, xm⟩, xn⟩) (n := n) (v' := v') (w5 := w5) ⟨kq, HKQ.out, HF3.out⟩ HC3.out HA3.out hnl hg hv hl hB
    have c3' := h4.blk.cell 3; have c2' := h4.blk.cell 2
    simp at c3' c2'
    have hfr := fun j => h4.blk.frozen j
    have hbl4 := h4.blk
    have hlg := h4.lg
    have HROW := Lib.hid hrow; have HRD4 := Lib.hid hrd4; have HONE := Lib.hid hone; have HSZ3 := Lib.hid hsz3; have HST := Lib.hid hst; have HB4 := Lib.hid hbl4; have HLG := Lib.hid hlg
    clear hrow hrd4 hone hsz3 hst h4 h3q hfr c2 c0 hbl4 hlg
    unfold hdArr at HST
    dsimp only at HST
    generalize w3.alloc (.cells #[.int .i64 xa, .int .i64 xl, .int .i64 xf, .int .i64 xb, .int .i64 xm, .int .i64 xn] 78) = w4 at *
    generalize w3.heap.size = kx at *
    go_upto_region 3 with (at_builtin; refine wpList_append_any _ rfl (.tmp 26) (.tmp 27) 76 rfl base 78 i0 _ 6 48 Tryz.underlying76 I0.out I1.out I2.out I3.out rfl (by decide) _ lo.length (lo.flatMap HdR.cells) rfl HROW.out kx A n c3 (l2.flatMap HdR.cells) rfl HRD4.out HONE.out (by simp only [maxLen]; omega) (by omega) HSZ3.out ?_; intro v' w5 g1 g2 g3; obtain ⟨A5, c5, rfl, _⟩ := own_reads g1; have hs5 := HST.out _ w5 g2 g3 g1; have HS5 := Lib.hid hs5; have hb5 := Blk.chg HB4.out (Chg.of_grown (S := fun i => vl.ownBlock = some i) g2 (fun i e => e.symm)) HLG.out; have fz3 := hb5.frozen 3; have d2 : w5.cell? ⟨g, 2, none⟩ = some (.pointer none) := hb5.cell 2; have d3 : w5.cell? ⟨g, 3, none⟩ = some vl := hb5.cell 3; have HB5 := Lib.hid hb5; clear g1 g2 g3 hs5 hb5)
    obtain ⟨⟨F5, e1, e2, e3⟩, ⟨F6, e4, e5, e6⟩⟩ := HS5.out
    have hb6 := HB5.out.set_ 3 (.slice A5 (lo.length + n) c5)
    have fz2 := hb6.frozen 2
    have HE1 := Lib.hid e1; have HE2 := Lib.hid e2; have HE3 := Lib.hid e3; have HE4 := Lib.hid e4; have HE5 := Lib.hid e5; have HE6 := Lib.hid e6
    clear e1 e2 e3 e4 e5 e6 hb6 HS5
    cases o with
    | none =>
      go_wp2_with fail
      go_end0
      exact ⟨rfl, Lib.hid ⟨F5, F3, _, _, HE1.out, HE2.out, HE3.out⟩⟩
    | some x =>
      have e0 := HY.out x rfl
      subst e0
      go_wp2_with fail
      go_end0
      exact ⟨rfl, Lib.hid ⟨F6, F3, _, _, HE4.out, HE5.out, HE6.out⟩⟩
end Go.Proofs.YtgdijbaodfghjaaGreatDoor
