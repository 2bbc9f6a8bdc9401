/-
  Flows that are put together by a hash, in memory: their blocks, and what a store, or a list's method, makes of them.
-/
import Derived.Test.YthhgbpbaihgogaaHshPlay
import Derived.Test.YthhgbpbaihgogaaRndImp
namespace Go.Proofs.Ythhgbpbaihgogaa
open Go.RowKit Bkt
set_option linter.unusedVariables false

/-- the rows of m lists, and of the turns -/
def HF (m : Nat) (V : Nat → Value) (tv : Value) (i : Nat) : Prop := tv.ownBlock = some i ∨ ∃ f, f < m ∧ (V f).ownBlock = some i
/-- flows by a hash, in their two blocks -/
structure Hsh (w : World) (base g gl : Nat) (cs ls : Array Value) (V : Nat → Value) (tv : Value) (P : Pl.HP) (s : Pl.HS) (n : Int) : Prop where
  blk : Blk w g 107 cs
  sz : cs.size = 5
  c0 : cs[0]? = some (.slice (some ⟨gl, 0, none⟩) P.m P.m)
  c1 : cs[1]? = some (.int .i64 P.salt)
  c2 : cs[2]? = some (.int .i64 P.room)
  c3 : cs[3]? = some tv
  c4 : cs[4]? = some (.int .i64 n)
  lk : Blk w gl 59 ls
  lz : ls.size = P.m * 2
  l0 : ∀ f, f < P.m → ls[f * 2]? = some (V f)
  l1 : ∀ f, f < P.m → ls[f * 2 + 1]? = some (.int .i64 (Pl.tot (s.L f)))
  own : ∀ f, f < P.m → OwnW w base 54 HdR.sz (V f) (s.L f).length ((s.L f).flatMap HdR.cells)
  ne : ∀ i j, i < P.m → j < P.m → i ≠ j → ∀ k, (V i).ownBlock = some k → (V j).ownBlock ≠ some k
  tn : OwnW w base 3 1 tv s.T.length ((tnL s.T).flatMap IntR.cells)
/-- nothing else has turned but the two blocks and their rows -/
structure HTrn (w w' : World) (g gl m : Nat) (V : Nat → Value) (tv : Value) (V' : Nat → Value) (tv' : Value) : Prop where
  chg : Chg w w' (fun i => i = g ∨ i = gl ∨ HF m V tv i)
  at_ : ∀ i, HF m V' tv' i → HF m V tv i ∨ w.heap.size ≤ i
section
variable {w w' w'' : World} {base g gl m : Nat} {V V' V'' : Nat → Value} {tv tv' tv'' : Value} {cs ls : Array Value} {P : Pl.HP} {s : Pl.HS} {n : Int}
theorem HTrn.refl (w : World) (g gl m : Nat) (V : Nat → Value) (tv : Value) : HTrn w w g gl m V tv V tv := ⟨Chg.refl _ _, fun i hi => .inl hi⟩
theorem HTrn.trans (h : HTrn w w' g gl m V tv V' tv') (h' : HTrn w' w'' g gl m V' tv' V'' tv'') : HTrn w w'' g gl m V tv V'' tv'' := by
  refine ⟨h.chg.trans h'.chg (fun i hi hs => ?_), fun i hi => ?_⟩
  · rcases hs with e | e | e
    · exact .inl e
    · exact .inr (.inl e)
    · rcases h.at_ i e with e2 | e2
      · exact .inr (.inr e2)
      · omega
  · rcases h'.at_ i hi with e | e
    · exact h.at_ i e
    · exact .inr (Nat.le_trans h.chg.size e)
theorem HTrn.below (h : HTrn w w' g gl m V tv V' tv') (hb : Below w'.heap.size w' w'') : HTrn w w'' g gl m V tv V' tv' := ⟨h.chg.trans (Chg.of_below hb) (fun i _ hs => hs), h.at_⟩
theorem HTrn.set_ (h : HTrn w w' g gl m V tv V' tv') (i : Nat) (u : Value) : HTrn w (w'.setCell ⟨g, i, none⟩ u) g gl m V tv V' tv' := ⟨h.chg.setCell (p := ⟨g, i, none⟩) (fun _ => .inl rfl) u, h.at_⟩
theorem HTrn.setNew (h : HTrn w w' g gl m V tv V' tv') {p : Addr} (hp : w.heap.size ≤ p.block) (u : Value) : HTrn w (w'.setCell p u) g gl m V tv V' tv' := ⟨h.chg.setCell (p := p) (fun e => by omega) u, h.at_⟩
theorem HTrn.drew (h : HTrn w w' g gl m V tv V' tv') : HTrn w w'.drew g gl m V tv V' tv' := ⟨h.chg.drew, h.at_⟩
theorem HTrn.drewN (h : HTrn w w' g gl m V tv V' tv') (n : Nat) : HTrn w (w'.drewN n) g gl m V tv V' tv' := ⟨h.chg.drewN n, h.at_⟩
theorem HTrn.alloc (h : HTrn w w' g gl m V tv V' tv') (o : Obj) : HTrn w (w'.alloc o) g gl m V tv V' tv' := ⟨h.chg.alloc o, h.at_⟩

theorem Hsh.cell {i : Nat} {u : Value} (h : Hsh w base g gl cs ls V tv P s n) (hi : cs[i]? = some u) : w.cell? ⟨g, i, none⟩ = some u := (h.blk.cell i).trans hi
theorem Hsh.lcell {i : Nat} {u : Value} (h : Hsh w base g gl cs ls V tv P s n) (hi : ls[i]? = some u) : w.cell? ⟨gl, i, none⟩ = some u := (h.lk.cell i).trans hi
theorem Hsh.gne (h : Hsh w base g gl cs ls V tv P s n) : g ≠ gl := fun e => by
  have h1 := h.blk
  rw [e] at h1
  exact Blk.ne_ h1 h.lk (by decide) rfl
theorem Hsh.rlt (h : Hsh w base g gl cs ls V tv P s n) : ∀ i, HF P.m V tv i → base ≤ i ∧ i < w.heap.size := by
  rintro i (hi | ⟨f, hf, hi⟩)
  · exact h.tn.lt i hi
  · exact (h.own f hf).lt i hi
theorem Hsh.rne (h : Hsh w base g gl cs ls V tv P s n) : ∀ i, HF P.m V tv i → i ≠ g ∧ i ≠ gl := by
  rintro i (hi | ⟨f, hf, hi⟩)
  · exact ⟨fun e => by subst e; exact h.tn.blk_ne h.blk (by decide) hi, fun e => by subst e; exact h.tn.blk_ne h.lk (by decide) hi⟩
  · exact ⟨fun e => by subst e; exact (h.own f hf).blk_ne h.blk (by decide) hi, fun e => by subst e; exact (h.own f hf).blk_ne h.lk (by decide) hi⟩
theorem Hsh.chg {S : Nat → Prop} (h : Hsh w base g gl cs ls V tv P s n) (hc : Chg w w' S) (h1 : ¬ S g) (h2 : ¬ S gl) (h3 : ∀ i, HF P.m V tv i → ¬ S i) : Hsh w' base g gl cs ls V tv P s n :=
  ⟨h.blk.chg hc h1, h.sz, h.c0, h.c1, h.c2, h.c3, h.c4, h.lk.chg hc h2, h.lz, h.l0, h.l1, fun f hf => (h.own f hf).chg hc (fun i hi => h3 i (.inr ⟨f, hf, hi⟩)), h.ne, h.tn.chg hc (fun i hi => h3 i (.inl hi))⟩
theorem Hsh.below (h : Hsh w base g gl cs ls V tv P s n) (hb : Below w.heap.size w w') : Hsh w' base g gl cs ls V tv P s n := h.chg (Chg.of_below hb) (fun h => h) (fun h => h) (fun _ _ h => h)
theorem Hsh.drewN (h : Hsh w base g gl cs ls V tv P s n) (k : Nat) : Hsh (w.drewN k) base g gl cs ls V tv P s n := h.below ⟨rfl, rfl, rfl, Nat.le_refl _, fun _ _ => rfl⟩
theorem Hsh.drew (h : Hsh w base g gl cs ls V tv P s n) : Hsh w.drew base g gl cs ls V tv P s n := h.below ⟨rfl, rfl, rfl, Nat.le_refl _, fun _ _ => rfl⟩
theorem Hsh.setNew (h : Hsh w base g gl cs ls V tv P s n) {p : Addr} (hp : p.block ≠ g) (hp2 : p.block ≠ gl) (hv : ¬ HF P.m V tv p.block) (u : Value) : Hsh (w.setCell p u) base g gl cs ls V tv P s n :=
  h.chg (Chg.setCell (S := fun i => i = p.block) (p := p) (Chg.refl w _) (fun _ => rfl) u) (fun e => hp e.symm) (fun e => hp2 e.symm) (fun i hi e => hv (e ▸ hi))
theorem Hsh.lst (h : Hsh w base g gl cs ls V tv P s n) {f : Nat} (hf : f < P.m) : Lst w base gl (f * 2) 59 ls (V f) (s.L f) (Pl.tot (s.L f)) := ⟨h.lk, h.l0 f hf, h.l1 f hf, h.own f hf, by decide⟩
/-- behind a list's method -/
theorem Hsh.of_lst (h : Hsh w base g gl cs ls V tv P s n) {f : Nat} (hf : f < P.m) {v' : Value} {l' : List Hd} {b' : Int} (h' : LstTo w w' base gl (f * 2) 59 ls (V f) v' l' b') (e : b' = Pl.tot l') :
    ∃ ls', Hsh w' base g gl cs ls' (Pl.updf V f v') tv P ⟨Pl.updf s.L f l', s.T⟩ n ∧ HTrn w w' g gl P.m V tv (Pl.updf V f v') tv := by
  subst e
  have hk : ∀ j, j ≠ f * 2 → j ≠ f * 2 + 1 → ((ls.setIfInBounds (f * 2) v').setIfInBounds (f * 2 + 1) (.int .i64 (Pl.tot l')))[j]? = ls[j]? := fun j h0 h1 => by rw [set_at h1, set_at h0]
  have hnew : ∀ i, v'.ownBlock = some i → (V f).ownBlock = some i ∨ w.heap.size ≤ i := fun i hi => by
    rcases h'.at_ with e | e
    · exact .inl (e ▸ hi)
    · exact .inr (e i hi)
  have hold : ∀ j, j < P.m → ∀ i, (V j).ownBlock = some i → i < w.heap.size := fun j hj i hi => ((h.own j hj).lt i hi).2
  refine ⟨_, ⟨h.blk.chg h'.chg ?_, h.sz, h.c0, h.c1, h.c2, h.c3, h.c4, h'.lst.blk, by simp [h.lz], fun i hi => ?_, fun i hi => ?_, fun i hi => ?_, fun i j hi hj hne k hkk => ?_, ?_⟩, ⟨h'.chg.mono (fun i _ hs => .inr (hs.imp id fun e => .inr ⟨f, hf, e⟩)), ?_⟩⟩
  · rintro (e | e)
    · exact h.gne e
    · exact (h.rne g (.inr ⟨f, hf, e⟩)).1 rfl
  · by_cases e : i = f
    · subst e; rw [Pl.updf_same]; exact h'.lst.c0
    · rw [Pl.updf_ne _ _ e]; exact (hk _ (by omega) (by omega)).trans (h.l0 i hi)
  · show _ = some (Value.int .i64 (Pl.tot (Pl.updf s.L f l' i)))
    by_cases e : i = f
    · subst e; rw [Pl.updf_same]; exact h'.lst.c1
    · rw [Pl.updf_ne _ _ e]; exact (hk _ (by omega) (by omega)).trans (h.l1 i hi)
  · show OwnW w' base _ _ _ (Pl.updf s.L f l' i).length ((Pl.updf s.L f l' i).flatMap HdR.cells)
    by_cases e : i = f
    · subst e
      rw [Pl.updf_same, Pl.updf_same]; exact h'.lst.own
    · rw [Pl.updf_ne _ _ e, Pl.updf_ne _ _ e]
      refine (h.own i hi).chg h'.chg (fun k hk hs => ?_)
      rcases hs with e2 | e2
      · exact (h.rne k (.inr ⟨i, hi, hk⟩)).2 e2
      · exact h.ne i f hi hf e k hk e2
  · by_cases e : i = f
    · subst e
      rw [Pl.updf_same] at hkk
      rw [Pl.updf_ne _ _ (Ne.symm hne)]
      rcases hnew k hkk with e2 | e2
      · exact h.ne i j hi hj hne k e2
      · intro e3; have := hold j hj k e3; omega
    · rw [Pl.updf_ne _ _ e] at hkk
      by_cases e3 : j = f
      · subst e3
        rw [Pl.updf_same]
        intro e4
        rcases hnew k e4 with e2 | e2
        · exact h.ne i j hi hj hne k hkk e2
        · have := hold i hi k hkk; omega
      · rw [Pl.updf_ne _ _ e3]; exact h.ne i j hi hj hne k hkk
  · refine h.tn.chg h'.chg (fun k hk hs => ?_)
    rcases hs with e2 | e2
    · exact (h.rne k (.inl hk)).2 e2
    · exact (h.tn.ne_of (h.own f hf) (by decide)) k hk e2
  · rintro i (hi | ⟨j, hj, hi⟩)
    · exact .inl (.inl hi)
    · by_cases e : j = f
      · subst e
        rw [Pl.updf_same] at hi
        exact (hnew i hi).imp (fun e => .inr ⟨j, hj, e⟩) id
      · rw [Pl.updf_ne _ _ e] at hi
        exact .inl (.inr ⟨j, hj, hi⟩)
theorem Hsh.setM (h : Hsh w base g gl cs ls V tv P s n) (x : Int) : Hsh (w.setCell ⟨g, 4, none⟩ (.int .i64 x)) base g gl (cs.setIfInBounds 4 (.int .i64 x)) ls V tv P s x := by
  have hc : Chg w (w.setCell ⟨g, 4, none⟩ (.int .i64 x)) (fun i => i = g) := Chg.setCell (S := fun i => i = g) (p := ⟨g, 4, none⟩) (Chg.refl w _) (fun _ => rfl) _
  exact ⟨h.blk.set_ _ _, by simp [h.sz], (set_at (by omega)).trans h.c0, (set_at (by omega)).trans h.c1, (set_at (by omega)).trans h.c2, (set_at (by omega)).trans h.c3, set_is (by rw [h.sz]; omega), h.lk.chg hc (Ne.symm h.gne), h.lz, h.l0, h.l1, fun f hf => (h.own f hf).chg hc (fun i hi => (h.rne i (.inr ⟨f, hf, hi⟩)).1), h.ne, h.tn.chg hc (fun i hi => (h.rne i (.inl hi)).1)⟩
/-- other turns -/
theorem Hsh.setT (h : Hsh w base g gl cs ls V tv P s n) {w1 : World} {T' : List Nat} (hg : w.grownBy w1 tv.ownBlock) (ho : OwnW w1 base 3 1 tv' T'.length ((tnL T').flatMap IntR.cells)) (hat : tv'.ownBlock = tv.ownBlock ∨ ∀ k, tv'.ownBlock = some k → w.heap.size ≤ k) :
    Hsh (w1.setCell ⟨g, 3, none⟩ tv') base g gl (cs.setIfInBounds 3 tv') ls V tv' P ⟨s.L, T'⟩ n ∧ HTrn w (w1.setCell ⟨g, 3, none⟩ tv') g gl P.m V tv V tv' := by
  have hc : Chg w w1 (fun i => tv.ownBlock = some i) := Chg.of_grown hg (fun i e => e.symm)
  have hblk := h.blk.chg hc (fun e => (h.rne g (.inl e)).1 rfl)
  have hlk := h.lk.chg hc (fun e => (h.rne gl (.inl e)).2 rfl)
  have hv : ∀ f, f < P.m → OwnW w1 base 54 HdR.sz (V f) (s.L f).length ((s.L f).flatMap HdR.cells) := fun f hf => (h.own f hf).chg hc (fun i hi e => (h.tn.ne_of (h.own f hf) (by decide)) i e hi)
  have hs : Chg w1 (w1.setCell ⟨g, 3, none⟩ tv') (fun i => i = g) := Chg.setCell (S := fun i => i = g) (p := ⟨g, 3, none⟩) (Chg.refl w1 _) (fun _ => rfl) tv'
  refine ⟨⟨hblk.set_ _ _, by simp [h.sz], (set_at (by omega)).trans h.c0, (set_at (by omega)).trans h.c1, (set_at (by omega)).trans h.c2, set_is (by rw [h.sz]; omega), (set_at (by omega)).trans h.c4, hlk.chg hs (Ne.symm h.gne), h.lz, h.l0, h.l1, fun f hf => (hv f hf).chg hs (fun j hj => (h.rne j (.inr ⟨f, hf, hj⟩)).1), h.ne, ho.chg hs (fun j hj e => ?_)⟩, ⟨?_, ?_⟩⟩
  · subst e; exact ho.blk_ne hblk (by decide) hj
  · exact (hc.mono (S' := fun i => i = g ∨ i = gl ∨ HF P.m V tv i) (fun i _ e => .inr (.inr (.inl e)))).trans (hs.mono (S' := fun i => i = g ∨ i = gl ∨ HF P.m V tv i) (fun i _ e => .inl e)) (fun i _ h => h)
  · rintro i (hi | ⟨f, hf, hi⟩)
    · rcases hat with e | e
      · exact .inl (.inl (e ▸ hi))
      · exact .inr (e i hi)
    · exact .inl (.inr ⟨f, hf, hi⟩)
end

theorem hshLen_any (base g gl : Nat) (cs ls : Array Value) (V : Nat → Value) (tv : Value) (P : Pl.HP) (s : Pl.HS) (n : Int) (w : World) (h : Hsh w base g gl cs ls V tv P s n) :
    Calls Try.prog 78 #[.pointer (some ⟨g, 0, none⟩)] w fun e w' => e = .returned (.int .i64 n) ∧ w = w' := by
  have z := h.cell h.c4
  clear h
  go_enter Try.func78, Try.ntmps78
  go_wp2_with fail
  go_ret
  exact ⟨rfl, rfl⟩
theorem hshWhen_any (base g gl : Nat) (cs ls : Array Value) (V : Nat → Value) (tv : Value) (P : Pl.HP) (s : Pl.HS) (n now : Int) (w : World) (h : Hsh w base g gl cs ls V tv P s n) :
    Calls Try.prog 81 #[.pointer (some ⟨g, 0, none⟩), .int .i64 now] w fun e w' => e = .returned (.tuple #[.int .i64 now, .bool (decide (0 < n))]) ∧ ∃ q, w' = w.drewN q := by
  have z := h.cell h.c4
  clear h
  go_enter Try.func81, Try.ntmps81
  go_wp2_with fail
  go_quiet (fail)
  go_wp2_with fail
  go_ret2
  exact ⟨rfl, _, rfl⟩
set_option maxHeartbeats 1000000 in
theorem hshWhere_any (base g gl : Nat) (cs ls : Array Value) (V : Nat → Value) (tv : Value) (P : Pl.HP) (s : Pl.HS) (n : Int) (f : Int) (w : World) (h : Hsh w base g gl cs ls V tv P s n) (hP : Pl.HPOk P) (hf : 0 ≤ f ∧ f < 16) :
    Calls Try.prog 29 #[.pointer (some ⟨g, 0, none⟩), .int .i64 f] w fun e w' => e = .returned (.int .i64 (Pl.whr P f : Nat)) ∧ ∃ q, w' = w.drewN q := by
  have z0 := h.cell h.c0; have z1 := h.cell h.c1
  obtain ⟨hm1, hm2⟩ := hP.m
  obtain ⟨hs1, hs2⟩ := hP.salt
  obtain ⟨hf0, hf1⟩ := hf
  have hfs : 0 ≤ f * P.salt ∧ f * P.salt ≤ 16 * 1000000 := ⟨Int.mul_nonneg hf0 hs1, Int.mul_le_mul (by omega) hs2 hs1 (by omega)⟩
  obtain ⟨hfs0, hfs1⟩ := hfs
  have hmn := Int.emod_nonneg (f * 31 + P.salt * 7 + f * P.salt) (show (P.m : Int) ≠ 0 by omega)
  have hmm := Int.emod_lt_of_pos (f * 31 + P.salt * 7 + f * P.salt) (show (0 : Int) < P.m by omega)
  have hwh : (((Pl.whr P f : Nat) : Int)) = (f * 31 + P.salt * 7 + f * P.salt) % (P.m : Int) := by
    unfold Pl.whr
    omega
  rw [hwh]
  clear h hwh
  obtain ⟨m, salt, room⟩ := P
  dsimp only at *
  have e1 : IntKind.i64.wrap (f * 31) = f * 31 := IntWalk.i64_in _ (by omega)
  have e2 : IntKind.i64.wrap (salt * 7) = salt * 7 := IntWalk.i64_in _ (by omega)
  have e3 : IntKind.i64.wrap (f * 31 + salt * 7) = f * 31 + salt * 7 := IntWalk.i64_in _ (by omega)
  have e4 : IntKind.i64.wrap (f * salt) = f * salt := IntWalk.i64_in _ (by omega)
  have e5 : IntKind.i64.wrap (f * 31 + salt * 7 + f * salt) = f * 31 + salt * 7 + f * salt := IntWalk.i64_in _ (by omega)
  have e6 : IntKind.i64.wrap ((f * 31 + salt * 7 + f * salt) % (m : Int)) = (f * 31 + salt * 7 + f * salt) % (m : Int) := IntWalk.i64_in _ (by omega)
  have e7 : ((m : Int) == 0) = false := by simp; omega
  have e8 : (m : Int) ≠ 0 := by omega
  clear hmm hmn
  go_enter Try.func29, Try.ntmps29
  go_wp2_with fail
  go_quiet (fail)
  go_wp2_with fail
  go_ret
  exact ⟨rfl, _, rfl⟩
end Go.Proofs.Ythhgbpbaihgogaa
