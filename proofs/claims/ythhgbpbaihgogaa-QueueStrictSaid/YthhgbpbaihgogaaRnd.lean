/-
  Flows that take turns, in memory: their block, and what a store, or a list's method, makes of it.
-/
import Derived.Test.YthhgbpbaihgogaaRndLaw
import Derived.Test.YthhgbpbaihgogaaCodPull
import Derived.Test.YthhgbpbaihgogaaLeftOut
namespace Go.Proofs.Ythhgbpbaihgogaa
open Go.RowKit Bkt
set_option linter.unusedVariables false

/-- the rows of the lists, and of the turns -/
def RF (V : Nat → Value) (tv : Value) (i : Nat) : Prop := tv.ownBlock = some i ∨ ∃ f, f < 16 ∧ (V f).ownBlock = some i
def tnL (T : List Nat) : List Int := T.map fun f : Nat => (f : Int)
theorem tnL_len (T : List Nat) : (tnL T).length = T.length := by simp [tnL]
theorem tnL_app (T : List Nat) (f : Nat) : tnL (T ++ [f]) = tnL T ++ [(f : Int)] := by simp [tnL]
/-- flows that take turns, in their block -/
structure Rds (w : World) (base g : Nat) (cs : Array Value) (V : Nat → Value) (tv : Value) (Q : Nat → Int) (room : Int) (s : Pl.RS) (b m : Int) : Prop where
  blk : Blk w g 104 cs
  sz : cs.size = 69
  l0 : ∀ f, f < 16 → cs[f * 2]? = some (V f)
  l1 : ∀ f, f < 16 → cs[f * 2 + 1]? = some (.int .i64 (Pl.tot (s.L f)))
  own : ∀ f, f < 16 → OwnW w base 54 HdR.sz (V f) (s.L f).length ((s.L f).flatMap HdR.cells)
  ne : ∀ i j, i < 16 → j < 16 → i ≠ j → ∀ k, (V i).ownBlock = some k → (V j).ownBlock ≠ some k
  q : ∀ f, f < 16 → cs[32 + f]? = some (.int .i64 (Q f))
  rm : cs[48]? = some (.int .i64 room)
  c : ∀ f, f < 16 → cs[49 + f]? = some (.int .i64 (s.C f))
  t : cs[65]? = some tv
  bg : cs[66]? = some (.bool s.beg)
  by_ : cs[67]? = some (.int .i64 b)
  mn : cs[68]? = some (.int .i64 m)
  tn : OwnW w base 3 1 tv s.T.length ((tnL s.T).flatMap IntR.cells)
/-- nothing else has turned but the block and its rows -/
structure RTrn (w w' : World) (g : Nat) (V : Nat → Value) (tv : Value) (V' : Nat → Value) (tv' : Value) : Prop where
  chg : Chg w w' (fun i => i = g ∨ RF V tv i)
  at_ : ∀ i, RF V' tv' i → RF V tv i ∨ w.heap.size ≤ i
theorem OwnW.ne_of {w : World} {base e1 e2 s1 s2 n1 n2 : Nat} {v1 v2 : Value} {x1 x2 : List Value} (h1 : OwnW w base e1 s1 v1 n1 x1) (h2 : OwnW w base e2 s2 v2 n2 x2) (hne : e2 ≠ e1) : ∀ k, v1.ownBlock = some k → v2.ownBlock ≠ some k := by
  intro k hk
  rcases h1.2 with ⟨rfl, _⟩ | ⟨g, o, c, cur, rfl, hb, hg, _⟩
  · simp [Value.ownBlock] at hk
  · have e : g = k := by simpa [Value.ownBlock] using hk
    subst e
    exact h2.blk_ne hg hne
section
variable {w w' w'' : World} {base g : Nat} {V V' V'' : Nat → Value} {tv tv' tv'' : Value} {cs : Array Value} {Q : Nat → Int} {room : Int} {s : Pl.RS} {b m : Int}
theorem RTrn.refl (w : World) (g : Nat) (V : Nat → Value) (tv : Value) : RTrn w w g V tv V tv := ⟨Chg.refl _ _, fun i hi => .inl hi⟩
theorem RTrn.trans (h : RTrn w w' g V tv V' tv') (h' : RTrn w' w'' g V' tv' V'' tv'') : RTrn w w'' g V tv V'' tv'' := by
  refine ⟨h.chg.trans h'.chg (fun i hi hs => ?_), fun i hi => ?_⟩
  · rcases hs with e | e
    · exact .inl e
    · rcases h.at_ i e with e2 | e2
      · exact .inr e2
      · omega
  · rcases h'.at_ i hi with e | e
    · exact h.at_ i e
    · exact .inr (Nat.le_trans h.chg.size e)
theorem RTrn.below (h : RTrn w w' g V tv V' tv') (hb : Below w'.heap.size w' w'') : RTrn w w'' g V tv V' tv' := ⟨h.chg.trans (Chg.of_below hb) (fun i _ hs => hs), h.at_⟩
theorem RTrn.behind (hb : Below w.heap.size w w') (h : RTrn w' w'' g V tv V' tv') : RTrn w w'' g V tv V' tv' := ⟨(Chg.of_below hb).trans h.chg (fun i _ hs => hs), fun i hi => (h.at_ i hi).imp id (fun h => Nat.le_trans hb.size h)⟩
theorem RTrn.set_ (h : RTrn w w' g V tv V' tv') (i : Nat) (u : Value) : RTrn w (w'.setCell ⟨g, i, none⟩ u) g V tv V' tv' := ⟨h.chg.setCell (p := ⟨g, i, none⟩) (fun _ => .inl rfl) u, h.at_⟩
theorem RTrn.setNew (h : RTrn w w' g V tv V' tv') {p : Addr} (hp : w.heap.size ≤ p.block) (u : Value) : RTrn w (w'.setCell p u) g V tv V' tv' := ⟨h.chg.setCell (p := p) (fun e => by omega) u, h.at_⟩
theorem RTrn.drew (h : RTrn w w' g V tv V' tv') : RTrn w w'.drew g V tv V' tv' := ⟨h.chg.drew, h.at_⟩
theorem RTrn.drewN (h : RTrn w w' g V tv V' tv') (n : Nat) : RTrn w (w'.drewN n) g V tv V' tv' := ⟨h.chg.drewN n, h.at_⟩
theorem RTrn.alloc (h : RTrn w w' g V tv V' tv') (o : Obj) : RTrn w (w'.alloc o) g V tv V' tv' := ⟨h.chg.alloc o, h.at_⟩

theorem Rds.cell {i : Nat} {u : Value} (h : Rds w base g cs V tv Q room s b m) (hi : cs[i]? = some u) : w.cell? ⟨g, i, none⟩ = some u := (h.blk.cell i).trans hi
theorem Rds.rlt (h : Rds w base g cs V tv Q room s b m) : ∀ i, RF V tv i → base ≤ i ∧ i < w.heap.size := by
  rintro i (hi | ⟨f, hf, hi⟩)
  · exact h.tn.lt i hi
  · exact (h.own f hf).lt i hi
theorem Rds.rne (h : Rds w base g cs V tv Q room s b m) : ∀ i, RF V tv i → i ≠ g := by
  rintro i (hi | ⟨f, hf, hi⟩) e
  · subst e; exact h.tn.blk_ne h.blk (by decide) hi
  · subst e; exact (h.own f hf).blk_ne h.blk (by decide) hi
theorem Rds.chg {S : Nat → Prop} (h : Rds w base g cs V tv Q room s b m) (hc : Chg w w' S) (h1 : ¬ S g) (h2 : ∀ i, RF V tv i → ¬ S i) : Rds w' base g cs V tv Q room s b m :=
  ⟨h.blk.chg hc h1, h.sz, h.l0, h.l1, fun f hf => (h.own f hf).chg hc (fun i hi => h2 i (.inr ⟨f, hf, hi⟩)), h.ne, h.q, h.rm, h.c, h.t, h.bg, h.by_, h.mn, h.tn.chg hc (fun i hi => h2 i (.inl hi))⟩
theorem Rds.below (h : Rds w base g cs V tv Q room s b m) (hb : Below w.heap.size w w') : Rds w' base g cs V tv Q room s b m := h.chg (Chg.of_below hb) (fun h => h) (fun _ _ h => h)
theorem Rds.drewN (h : Rds w base g cs V tv Q room s b m) (n : Nat) : Rds (w.drewN n) base g cs V tv Q room s b m := h.below ⟨rfl, rfl, rfl, Nat.le_refl _, fun _ _ => rfl⟩
theorem Rds.drew (h : Rds w base g cs V tv Q room s b m) : Rds w.drew base g cs V tv Q room s b m := h.below ⟨rfl, rfl, rfl, Nat.le_refl _, fun _ _ => rfl⟩
theorem Rds.setNew (h : Rds w base g cs V tv Q room s b m) {p : Addr} (hp : p.block ≠ g) (hv : ¬ RF V tv p.block) (u : Value) : Rds (w.setCell p u) base g cs V tv Q room s b m :=
  h.chg (Chg.setCell (S := fun i => i = p.block) (p := p) (Chg.refl w _) (fun _ => rfl) u) (fun e => hp e.symm) (fun i hi e => hv (e ▸ hi))
theorem Rds.lst (h : Rds w base g cs V tv Q room s b m) {f : Nat} (hf : f < 16) : Lst w base g (f * 2) 104 cs (V f) (s.L f) (Pl.tot (s.L f)) := ⟨h.blk, h.l0 f hf, h.l1 f hf, h.own f hf, by decide⟩
/-- behind a list's method -/
theorem Rds.of_lst (h : Rds w base g cs V tv Q room s b m) {f : Nat} (hf : f < 16) {v' : Value} {l' : List Hd} {b' : Int} (h' : LstTo w w' base g (f * 2) 104 cs (V f) v' l' b') (e : b' = Pl.tot l') :
    ∃ cs', Rds w' base g cs' (Pl.updf V f v') tv Q room ⟨Pl.updf s.L f l', s.C, s.T, s.beg⟩ b m ∧ RTrn w w' g V tv (Pl.updf V f v') tv := by
  subst e
  have hk : ∀ j, j ≠ f * 2 → j ≠ f * 2 + 1 → ((cs.setIfInBounds (f * 2) v').setIfInBounds (f * 2 + 1) (.int .i64 (Pl.tot l')))[j]? = cs[j]? := fun j h0 h1 => by rw [set_at h1, set_at h0]
  have hnew : ∀ i, v'.ownBlock = some i → (V f).ownBlock = some i ∨ w.heap.size ≤ i := fun i hi => by
    rcases h'.at_ with e | e
    · exact .inl (e ▸ hi)
    · exact .inr (e i hi)
  have hold : ∀ j, j < 16 → ∀ i, (V j).ownBlock = some i → i < w.heap.size := fun j hj i hi => ((h.own j hj).lt i hi).2
  refine ⟨_, ⟨h'.lst.blk, by simp [h.sz], fun i hi => ?_, fun i hi => ?_, fun i hi => ?_, fun i j hi hj hne k hkk => ?_, fun i hi => (hk _ (by omega) (by omega)).trans (h.q i hi), (hk _ (by omega) (by omega)).trans h.rm, fun i hi => (hk _ (by omega) (by omega)).trans (h.c i hi), (hk _ (by omega) (by omega)).trans h.t, (hk _ (by omega) (by omega)).trans h.bg, (hk _ (by omega) (by omega)).trans h.by_, (hk _ (by omega) (by omega)).trans h.mn, ?_⟩, ⟨h'.chg.mono (fun i _ hs => hs.imp id fun e => .inr ⟨f, hf, e⟩), ?_⟩⟩
  · by_cases e : i = f
    · subst e; rw [Pl.updf_same]; exact h'.lst.c0
    · rw [Pl.updf_ne _ _ e]; exact (hk _ (by omega) (by omega)).trans (h.l0 i hi)
  · show _ = some (Value.int .i64 (Pl.tot (Pl.updf s.L f l' i)))
    by_cases e : i = f
    · subst e; rw [Pl.updf_same]; exact h'.lst.c1
    · rw [Pl.updf_ne _ _ e]; exact (hk _ (by omega) (by omega)).trans (h.l1 i hi)
  · show OwnW w' base _ _ _ (Pl.updf s.L f l' i).length _
    by_cases e : i = f
    · subst e
      show OwnW w' base _ _ _ (Pl.updf s.L i l' i).length ((Pl.updf s.L i l' i).flatMap HdR.cells)
      rw [Pl.updf_same, Pl.updf_same]; exact h'.lst.own
    · show OwnW w' base _ _ _ (Pl.updf s.L f l' i).length ((Pl.updf s.L f l' i).flatMap HdR.cells)
      rw [Pl.updf_ne _ _ e, Pl.updf_ne _ _ e]
      refine (h.own i hi).chg h'.chg (fun k hk hs => ?_)
      rcases hs with e2 | e2
      · exact h.rne k (.inr ⟨i, hi, hk⟩) e2
      · exact h.ne i f hi hf e k hk e2
  · by_cases e : i = f
    · subst e
      rw [Pl.updf_same] at hkk
      rw [Pl.updf_ne _ _ (Ne.symm hne)]
      rcases hnew k hkk with e2 | e2
      · exact h.ne i j hi hj hne k e2
      · intro e3; have := hold j hj k e3; omega
    · rw [Pl.updf_ne _ _ e] at hkk
      by_cases e3 : j = f
      · subst e3
        rw [Pl.updf_same]
        intro e4
        rcases hnew k e4 with e2 | e2
        · exact h.ne i j hi hj hne k hkk e2
        · have := hold i hi k hkk; omega
      · rw [Pl.updf_ne _ _ e3]; exact h.ne i j hi hj hne k hkk
  · refine h.tn.chg h'.chg (fun k hk hs => ?_)
    rcases hs with e2 | e2
    · exact h.rne k (.inl hk) e2
    · exact (h.tn.ne_of (h.own f hf) (by decide)) k hk e2
  · rintro i (hi | ⟨j, hj, hi⟩)
    · exact .inl (.inl hi)
    · by_cases e : j = f
      · subst e
        rw [Pl.updf_same] at hi
        exact (hnew i hi).imp (fun e => .inr ⟨j, hj, e⟩) id
      · rw [Pl.updf_ne _ _ e] at hi
        exact .inl (.inr ⟨j, hj, hi⟩)
theorem Rds.setO (h : Rds w base g cs V tv Q room s b m) (i : Nat) (u : Value) : ∀ f, f < 16 → OwnW (w.setCell ⟨g, i, none⟩ u) base 54 HdR.sz (V f) (s.L f).length ((s.L f).flatMap HdR.cells) := fun f hf =>
  (h.own f hf).chg (S := fun i => i = g) (Chg.setCell (S := fun i => i = g) (p := ⟨g, i, none⟩) (Chg.refl w _) (fun _ => rfl) u) (fun j hj e => h.rne j (.inr ⟨f, hf, hj⟩) e)
theorem Rds.setN (h : Rds w base g cs V tv Q room s b m) (i : Nat) (u : Value) : OwnW (w.setCell ⟨g, i, none⟩ u) base 3 1 tv s.T.length ((tnL s.T).flatMap IntR.cells) :=
  h.tn.chg (S := fun i => i = g) (Chg.setCell (S := fun i => i = g) (p := ⟨g, i, none⟩) (Chg.refl w _) (fun _ => rfl) u) (fun j hj e => h.rne j (.inl hj) e)
theorem Rds.setC (h : Rds w base g cs V tv Q room s b m) {f : Nat} (hf : f < 16) (x : Int) : Rds (w.setCell ⟨g, 49 + f, none⟩ (.int .i64 x)) base g (cs.setIfInBounds (49 + f) (.int .i64 x)) V tv Q room ⟨s.L, Pl.updf s.C f x, s.T, s.beg⟩ b m :=
  ⟨h.blk.set_ _ _, by simp [h.sz], fun i hi => (set_at (by omega)).trans (h.l0 i hi), fun i hi => (set_at (by omega)).trans (h.l1 i hi), h.setO _ _, h.ne, fun i hi => (set_at (by omega)).trans (h.q i hi), (set_at (by omega)).trans h.rm, fun i hi => by
    show _ = some (Value.int .i64 (Pl.updf s.C f x i))
    by_cases e : i = f
    · subst e; rw [Pl.updf_same]; exact set_is (by rw [h.sz]; omega)
    · rw [Pl.updf_ne _ _ e]; exact (set_at (by omega)).trans (h.c i hi), (set_at (by omega)).trans h.t, (set_at (by omega)).trans h.bg, (set_at (by omega)).trans h.by_, (set_at (by omega)).trans h.mn, h.setN _ _⟩
theorem Rds.setBeg (h : Rds w base g cs V tv Q room s b m) (x : Bool) : Rds (w.setCell ⟨g, 66, none⟩ (.bool x)) base g (cs.setIfInBounds 66 (.bool x)) V tv Q room ⟨s.L, s.C, s.T, x⟩ b m :=
  ⟨h.blk.set_ _ _, by simp [h.sz], fun i hi => (set_at (by omega)).trans (h.l0 i hi), fun i hi => (set_at (by omega)).trans (h.l1 i hi), h.setO _ _, h.ne, fun i hi => (set_at (by omega)).trans (h.q i hi), (set_at (by omega)).trans h.rm, fun i hi => (set_at (by omega)).trans (h.c i hi), (set_at (by omega)).trans h.t, set_is (by rw [h.sz]; omega), (set_at (by omega)).trans h.by_, (set_at (by omega)).trans h.mn, h.setN _ _⟩
theorem Rds.setB (h : Rds w base g cs V tv Q room s b m) (x : Int) : Rds (w.setCell ⟨g, 67, none⟩ (.int .i64 x)) base g (cs.setIfInBounds 67 (.int .i64 x)) V tv Q room s x m :=
  ⟨h.blk.set_ _ _, by simp [h.sz], fun i hi => (set_at (by omega)).trans (h.l0 i hi), fun i hi => (set_at (by omega)).trans (h.l1 i hi), h.setO _ _, h.ne, fun i hi => (set_at (by omega)).trans (h.q i hi), (set_at (by omega)).trans h.rm, fun i hi => (set_at (by omega)).trans (h.c i hi), (set_at (by omega)).trans h.t, (set_at (by omega)).trans h.bg, set_is (by rw [h.sz]; omega), (set_at (by omega)).trans h.mn, h.setN _ _⟩
theorem Rds.setM (h : Rds w base g cs V tv Q room s b m) (x : Int) : Rds (w.setCell ⟨g, 68, none⟩ (.int .i64 x)) base g (cs.setIfInBounds 68 (.int .i64 x)) V tv Q room s b x :=
  ⟨h.blk.set_ _ _, by simp [h.sz], fun i hi => (set_at (by omega)).trans (h.l0 i hi), fun i hi => (set_at (by omega)).trans (h.l1 i hi), h.setO _ _, h.ne, fun i hi => (set_at (by omega)).trans (h.q i hi), (set_at (by omega)).trans h.rm, fun i hi => (set_at (by omega)).trans (h.c i hi), (set_at (by omega)).trans h.t, (set_at (by omega)).trans h.bg, (set_at (by omega)).trans h.by_, set_is (by rw [h.sz]; omega), h.setN _ _⟩
/-- other turns -/
theorem Rds.setT (h : Rds w base g cs V tv Q room s b m) {w1 : World} {T' : List Nat} (hg : w.grownBy w1 tv.ownBlock) (ho : OwnW w1 base 3 1 tv' T'.length ((tnL T').flatMap IntR.cells)) (hat : tv'.ownBlock = tv.ownBlock ∨ ∀ k, tv'.ownBlock = some k → w.heap.size ≤ k) :
    Rds (w1.setCell ⟨g, 65, none⟩ tv') base g (cs.setIfInBounds 65 tv') V tv' Q room ⟨s.L, s.C, T', s.beg⟩ b m ∧ RTrn w (w1.setCell ⟨g, 65, none⟩ tv') g V tv V tv' := by
  have hc : Chg w w1 (fun i => tv.ownBlock = some i) := Chg.of_grown hg (fun i e => e.symm)
  have hblk := h.blk.chg hc (fun e => h.rne g (.inl e) rfl)
  have hv : ∀ f, f < 16 → OwnW w1 base 54 HdR.sz (V f) (s.L f).length ((s.L f).flatMap HdR.cells) := fun f hf => (h.own f hf).chg hc (fun i hi e => (h.tn.ne_of (h.own f hf) (by decide)) i e hi)
  have hs : Chg w1 (w1.setCell ⟨g, 65, none⟩ tv') (fun i => i = g) := Chg.setCell (S := fun i => i = g) (p := ⟨g, 65, none⟩) (Chg.refl w1 _) (fun _ => rfl) tv'
  refine ⟨⟨hblk.set_ _ _, by simp [h.sz], fun i hi => (set_at (by omega)).trans (h.l0 i hi), fun i hi => (set_at (by omega)).trans (h.l1 i hi), fun f hf => (hv f hf).chg hs (fun j hj e => h.rne j (.inr ⟨f, hf, hj⟩) e), h.ne, fun i hi => (set_at (by omega)).trans (h.q i hi), (set_at (by omega)).trans h.rm, fun i hi => (set_at (by omega)).trans (h.c i hi), set_is (by rw [h.sz]; omega), (set_at (by omega)).trans h.bg, (set_at (by omega)).trans h.by_, (set_at (by omega)).trans h.mn, ho.chg hs (fun j hj e => ?_)⟩, ⟨?_, ?_⟩⟩
  · subst e; exact ho.blk_ne hblk (by decide) hj
  · exact (hc.mono (S' := fun i => i = g ∨ RF V tv i) (fun i _ e => .inr (.inl e))).trans (hs.mono (S' := fun i => i = g ∨ RF V tv i) (fun i _ e => .inl e)) (fun i _ h => h)
  · rintro i (hi | ⟨f, hf, hi⟩)
    · rcases hat with e | e
      · exact .inl (.inl (e ▸ hi))
      · exact .inr (e i hi)
    · exact .inl (.inr ⟨f, hf, hi⟩)
end

theorem rndLen_any (base g : Nat) (cs : Array Value) (V : Nat → Value) (tv : Value) (Q : Nat → Int) (room : Int) (s : Pl.RS) (b m : Int) (w : World) (h : Rds w base g cs V tv Q room s b m) :
    Calls Try.prog 75 #[.pointer (some ⟨g, 0, none⟩)] w fun e w' => e = .returned (.int .i64 m) ∧ w = w' := by
  have z := h.cell h.mn
  clear h
  go_enter Try.func75, Try.ntmps75
  go_wp2_with fail
  go_ret
  exact ⟨rfl, rfl⟩
theorem rndBytes_any (base g : Nat) (cs : Array Value) (V : Nat → Value) (tv : Value) (Q : Nat → Int) (room : Int) (s : Pl.RS) (b m : Int) (w : World) (h : Rds w base g cs V tv Q room s b m) :
    Calls Try.prog 74 #[.pointer (some ⟨g, 0, none⟩)] w fun e w' => e = .returned (.int .i64 b) ∧ w = w' := by
  have z := h.cell h.by_
  clear h
  go_enter Try.func74, Try.ntmps74
  go_wp2_with fail
  go_ret
  exact ⟨rfl, rfl⟩
theorem rndWhen_any (base g : Nat) (cs : Array Value) (V : Nat → Value) (tv : Value) (Q : Nat → Int) (room : Int) (s : Pl.RS) (b m now : Int) (w : World) (h : Rds w base g cs V tv Q room s b m) :
    Calls Try.prog 76 #[.pointer (some ⟨g, 0, none⟩), .int .i64 now] w fun e w' => e = .returned (.tuple #[.int .i64 now, .bool (decide (0 < m))]) ∧ ∃ q, w' = w.drewN q := by
  have z := h.cell h.mn
  clear h
  go_enter Try.func76, Try.ntmps76
  go_wp2_with fail
  go_quiet (fail)
  go_wp2_with fail
  go_ret2
  exact ⟨rfl, _, rfl⟩
theorem rndCredit_any (base g : Nat) (cs : Array Value) (V : Nat → Value) (tv : Value) (Q : Nat → Int) (room : Int) (s : Pl.RS) (b m : Int) (f : Nat) (w : World) (h : Rds w base g cs V tv Q room s b m) (hf : f < 16) :
    Calls Try.prog 27 #[.pointer (some ⟨g, 0, none⟩), .int .i64 f] w fun e w' => e = .returned (.int .i64 (s.C f)) ∧ ∃ q, w' = w.drewN q := by
  have z := h.cell (h.c f hf)
  clear h
  have hf0 : (0 : Int) ≤ (f : Int) := by omega
  have hf1 : (f : Int) < 16 := by omega
  go_enter Try.func27, Try.ntmps27
  go_wp2_with fail
  go_ret
  exact ⟨rfl, 0, rfl⟩
end Go.Proofs.Ythhgbpbaihgogaa
