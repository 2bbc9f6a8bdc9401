/-
  Random early detection in memory: its mean, and a number of its tape.
-/
import Derived.Test.YthhgbpbaihgogaaRedLaw
import Derived.Test.YthhgbpbaihgogaaCodPull
namespace Go.Proofs.Ythhgbpbaihgogaa
open Go.RowKit Bkt
set_option linter.unusedVariables false

/-- it in its block -/
structure Rmm (w : World) (base g : Nat) (v : Value) (cs : Array Value) (U : Pl.SU) (p : Pl.FP) (s : List Hd) (M : Int) (tv : Value) (zs : List Int) : Prop where
  f : Ffo w base g 0 63 cs v s p
  c5 : cs[5]? = some (.int .i64 U.low)
  c6 : cs[6]? = some (.int .i64 U.high)
  c7 : cs[7]? = some (.int .i64 U.often)
  c8 : cs[8]? = some (.int .i64 U.slow)
  c9 : cs[9]? = some (.bool U.mark)
  c10 : cs[10]? = some tv
  c11 : cs[11]? = some (.int .i64 M)
  c12 : ∃ si : Int, cs[12]? = some (.int .i64 si)
  tp : OwnW w base 3 1 tv zs.length (zs.map (Value.int .i64))
  tn : ∀ i, tv.ownBlock = some i → v.ownBlock ≠ some i
  tg : tv.ownBlock ≠ some g
section
variable {w w' w'' : World} {base g : Nat} {v v' v'' tv : Value} {cs : Array Value} {U : Pl.SU} {p : Pl.FP} {s s' : List Hd} {M : Int} {zs : List Int}
theorem Rmm.blk (h : Rmm w base g v cs U p s M tv zs) : Blk w g 63 cs := h.f.lst.blk
theorem Rmm.cell {i : Nat} {u : Value} (h : Rmm w base g v cs U p s M tv zs) (hi : cs[i]? = some u) : w.cell? ⟨g, i, none⟩ = some u := (h.blk.cell i).trans hi
theorem Rmm.vlt (h : Rmm w base g v cs U p s M tv zs) : ∀ i, v.ownBlock = some i → base ≤ i ∧ i < w.heap.size := h.f.lst.own.lt
theorem Rmm.chg {S : Nat → Prop} (h : Rmm w base g v cs U p s M tv zs) (hc : Chg w w' S) (h1 : ¬ S g) (h2 : ∀ i, v.ownBlock = some i → ¬ S i) (h3 : ∀ i, tv.ownBlock = some i → ¬ S i) : Rmm w' base g v cs U p s M tv zs :=
  ⟨h.f.chg hc h1 h2, h.c5, h.c6, h.c7, h.c8, h.c9, h.c10, h.c11, h.c12, h.tp.chg hc h3, h.tn, h.tg⟩
theorem Rmm.below (h : Rmm w base g v cs U p s M tv zs) (hb : Below w.heap.size w w') : Rmm w' base g v cs U p s M tv zs :=
  h.chg (Chg.of_below hb) (fun h => h) (fun _ _ h => h) (fun _ _ h => h)
theorem Rmm.drewN (h : Rmm w base g v cs U p s M tv zs) (n : Nat) : Rmm (w.drewN n) base g v cs U p s M tv zs := h.below ⟨rfl, rfl, rfl, Nat.le_refl _, fun _ _ => rfl⟩
theorem Rmm.setNew (h : Rmm w base g v cs U p s M tv zs) {q : Addr} (hp : q.block ≠ g) (hv : v.ownBlock ≠ some q.block) (ht : tv.ownBlock ≠ some q.block) (u : Value) : Rmm (w.setCell q u) base g v cs U p s M tv zs :=
  h.chg (Chg.setCell (S := fun i => i = q.block) (p := q) (Chg.refl w _) (fun _ => rfl) u) (fun e => hp e.symm) (fun i hi e => hv (by rw [hi, e])) (fun i hi e => ht (by rw [hi, e]))
theorem Rmm.vne (h : Rmm w base g v cs U p s M tv zs) : v.ownBlock ≠ some g := h.f.lst.own.blk_ne h.blk (Ne.symm h.f.lst.ne)
theorem Rmm.size (h : Rmm w base g v cs U p s M tv zs) : 12 < cs.size := by
  rcases Nat.lt_or_ge 12 cs.size with h' | h'
  · exact h'
  · obtain ⟨si, hsi⟩ := h.c12; rw [Array.getElem?_eq_none h'] at hsi; cases hsi
theorem Rmm.setF (h : Rmm w base g v cs U p s M tv zs) (i : Nat) (hi : 5 ≤ i) (u : Value) : Ffo (w.setCell ⟨g, i, none⟩ u) base g 0 63 (cs.setIfInBounds i u) v s p := by
  have hk : ∀ j, j ≠ i → (cs.setIfInBounds i u)[j]? = cs[j]? := fun j hj => by rw [Array.getElem?_setIfInBounds, if_neg (Ne.symm hj)]
  refine ⟨⟨h.blk.set_ i u, (hk 0 (by omega)).trans h.f.lst.c0, (hk (0 + 1) (by omega)).trans h.f.lst.c1, ?_, h.f.lst.ne⟩, (hk (0 + 2) (by omega)).trans h.f.c2, (hk (0 + 3) (by omega)).trans h.f.c3, (hk (0 + 4) (by omega)).trans h.f.c4⟩
  exact h.f.lst.own.chg (S := fun i => i = g) (Chg.setCell (S := fun i => i = g) (p := ⟨g, i, none⟩) (Chg.refl w _) (fun _ => rfl) u) (fun j hj e => h.vne (by rw [hj, e]))
theorem Rmm.setT (h : Rmm w base g v cs U p s M tv zs) (i : Nat) (u : Value) : OwnW (w.setCell ⟨g, i, none⟩ u) base 3 1 tv zs.length (zs.map (Value.int .i64)) :=
  h.tp.chg (S := fun i => i = g) (Chg.setCell (S := fun i => i = g) (p := ⟨g, i, none⟩) (Chg.refl w _) (fun _ => rfl) u) (fun j hj e => h.tg (by rw [hj, e]))
theorem Rmm.setMean (h : Rmm w base g v cs U p s M tv zs) (x : Int) : Rmm (w.setCell ⟨g, 11, none⟩ (.int .i64 x)) base g v (cs.setIfInBounds 11 (.int .i64 x)) U p s x tv zs :=
  ⟨h.setF 11 (by omega) _, (set_at (by omega)).trans h.c5, (set_at (by omega)).trans h.c6, (set_at (by omega)).trans h.c7, (set_at (by omega)).trans h.c8, (set_at (by omega)).trans h.c9, (set_at (by omega)).trans h.c10, set_is (by have := h.size; omega), by obtain ⟨si, hsi⟩ := h.c12; exact ⟨si, (set_at (by omega)).trans hsi⟩, h.setT 11 _, h.tn, h.tg⟩
theorem Rmm.setSince (h : Rmm w base g v cs U p s M tv zs) (x : Int) : Rmm (w.setCell ⟨g, 12, none⟩ (.int .i64 x)) base g v (cs.setIfInBounds 12 (.int .i64 x)) U p s M tv zs :=
  ⟨h.setF 12 (by omega) _, (set_at (by omega)).trans h.c5, (set_at (by omega)).trans h.c6, (set_at (by omega)).trans h.c7, (set_at (by omega)).trans h.c8, (set_at (by omega)).trans h.c9, (set_at (by omega)).trans h.c10, (set_at (by omega)).trans h.c11, ⟨x, set_is (by have := h.size; omega)⟩, h.setT 12 _, h.tn, h.tg⟩
theorem Rmm.setTape (h : Rmm w base g v cs U p s M tv zs) (tv' : Value) (zs' : List Int) (ht : OwnW w base 3 1 tv' zs'.length (zs'.map (Value.int .i64))) (hb : ∀ i, tv'.ownBlock = some i → tv.ownBlock = some i) : Rmm (w.setCell ⟨g, 10, none⟩ tv') base g v (cs.setIfInBounds 10 tv') U p s M tv' zs' :=
  ⟨h.setF 10 (by omega) _, (set_at (by omega)).trans h.c5, (set_at (by omega)).trans h.c6, (set_at (by omega)).trans h.c7, (set_at (by omega)).trans h.c8, (set_at (by omega)).trans h.c9, set_is (by have := h.size; omega), (set_at (by omega)).trans h.c11, by obtain ⟨si, hsi⟩ := h.c12; exact ⟨si, (set_at (by omega)).trans hsi⟩,
    ht.chg (S := fun i => i = g) (Chg.setCell (S := fun i => i = g) (p := ⟨g, 10, none⟩) (Chg.refl w _) (fun _ => rfl) tv') (fun j hj e => h.tg (by rw [hb j hj, e])), fun i hi => h.tn i (hb i hi), fun e => h.tg (hb g e)⟩
/-- behind one of the plain queue's methods -/
theorem Rmm.of_fifo (h : Rmm w base g v cs U p s M tv zs) (h' : FfoTo w w' base g 0 63 cs v s' p) : ∃ v' cs', Rmm w' base g v' cs' U p s' M tv zs ∧ Trn w w' g v v' := by
  obtain ⟨v', cs', f', c', a', e'⟩ := h'
  refine ⟨v', cs', ⟨f', (e' 5 (by omega) (by omega)).trans h.c5, (e' 6 (by omega) (by omega)).trans h.c6, (e' 7 (by omega) (by omega)).trans h.c7, (e' 8 (by omega) (by omega)).trans h.c8, (e' 9 (by omega) (by omega)).trans h.c9, (e' 10 (by omega) (by omega)).trans h.c10, (e' 11 (by omega) (by omega)).trans h.c11, by obtain ⟨si, hsi⟩ := h.c12; exact ⟨si, (e' 12 (by omega) (by omega)).trans hsi⟩, ?_, ?_, h.tg⟩, c', a'⟩
  · refine h.tp.chg c' (fun i hi hs => ?_)
    rcases hs with e | e
    · exact h.tg (by rw [hi, e])
    · exact h.tn i hi e
  · intro i hi e
    rcases a' with e2 | e2
    · exact h.tn i hi (e2 ▸ e)
    · have := e2 i e; have := (h.tp.lt i hi).2; omega
end

set_option maxHeartbeats 1000000 in
theorem rmean_any (base g : Nat) (v : Value) (cs : Array Value) (U : Pl.SU) (p : Pl.FP) (s : List Hd) (M : Int) (tv : Value) (zs : List Int) (w : World) (h : Rmm w base g v cs U p s M tv zs) (hs : 0 ≤ U.slow ∧ U.slow ≤ 10) :
    Calls Try.prog 19 #[.pointer (some ⟨g, 0, none⟩)] w fun e w' => e = .returned (.int .i64 (Pl.mnOf U M)) ∧ ∃ m, w' = w.drewN m := by
  have z8 := h.cell h.c8; have z11 := h.cell h.c11
  have hR : Hid (Pl.mnOf U M = M / 2 ^ U.slow.toNat) := Lib.hid rfl
  obtain ⟨hs0, hs1⟩ := hs
  clear h
  generalize U.slow = sl at *
  go_enter Try.func19, Try.ntmps19
  go_wp2_with fail
  go_quiet (fail)
  go_wp2_with fail
  go_ret
  exact ⟨by rw [hR.out]; rfl, _, rfl⟩

/-- behind a draw -/
def DrawOut (w : World) (base g : Nat) (v : Value) (U : Pl.SU) (p : Pl.FP) (s : List Hd) (M : Int) (tv : Value) (e : Ending) (w' : World) : Prop :=
  ∃ (z : Int) (cs' : Array Value) (tv' : Value) (zs' : List Int), e = .returned (.int .i64 z) ∧ Rmm w' base g v cs' U p s M tv' zs' ∧ Trn w w' g v v ∧ zs'.length ≤ 1000 ∧ ∀ i, tv'.ownBlock = some i → tv.ownBlock = some i

set_option maxHeartbeats 1000000 in
set_option maxRecDepth 100000 in
theorem rdraw_any (base g : Nat) (v : Value) (cs : Array Value) (U : Pl.SU) (p : Pl.FP) (s : List Hd) (M : Int) (tv : Value) (zs : List Int) (w : World) (h : Rmm w base g v cs U p s M tv zs) (hz : zs.length ≤ 1000) :
    Calls Try.prog 35 #[.pointer (some ⟨g, 0, none⟩)] w (DrawOut w base g v U p s M tv) := by
  obtain ⟨A, c, htv, hnc, _, hrd⟩ := h.tp.reads
  subst htv
  have z10 := h.cell h.c10; have x10 := h.blk.frozen 10
  cases zs with
  | nil =>
    have H := Lib.hid h
    clear h hrd
    go_enter Try.func35, Try.ntmps35
    go_wp2_with fail
    go_ret
    exact ⟨0, cs, _, [], rfl, H.out, Trn.refl _ _ _, by simp, fun i h => h⟩
  | cons z r =>
    have hrl : r.length ≤ 999 := by simp at hz; omega
    obtain ⟨hc1, gt, ot, hA, ht1, ht2⟩ := h.tp.tail (by simp)
    subst hA
    have ht1' : c = 1 → OwnW w base 3 1 (.slice (some ⟨gt, ot, none⟩) r.length (c - 1)) r.length (r.map (Value.int .i64)) := ht1
    have ht2' : OwnW w base 3 1 (.slice (some ⟨gt, ot + 1, none⟩) r.length (c - 1)) r.length (r.map (Value.int .i64)) := ht2
    clear ht1 ht2
    obtain ⟨i0, hi, hz0, hz1, hz2⟩ := info_parts Try.intInfo
    have hsl := run_tail1 (P := Try.prog) (s := 1) Try.underlying32 hi hz1 ⟨gt, ot, none⟩ r.length c (by unfold maxLen; omega)
    obtain ⟨A', hA', hown'⟩ : ∃ A', A' = (if c = 1 then (⟨gt, ot, none⟩ : Addr) else (⟨gt, ot, none⟩ : Addr).add 1) ∧ OwnW w base 3 1 (.slice (some A') r.length (c - 1)) r.length (r.map (Value.int .i64)) ∧ A'.block = gt := by
      refine ⟨_, rfl, ?_, ?_⟩
      · split
        · rename_i e; exact ht1' e
        · exact ht2'
      · split
        · rfl
        · rfl
    rw [← hA'] at hsl
    have q0 : w.cell? ⟨gt, ot, none⟩ = some (.int .i64 z) := by
      obtain ⟨ad, u, e1, _, e2, e3⟩ := hrd.at_ (k := 0) (by simp)
      injection e1 with e1
      subst e1
      simp at e2
      subst e2
      exact e3
    have hfin := h.setTape _ r hown'.1 (by intro i hi; simpa [Value.ownBlock, hown'.2] using hi)
    have htr : Trn w (w.setCell ⟨g, 10, none⟩ (.slice (some A') r.length (c - 1))) g v v := (Trn.refl w g v).set_ 10 _
    have hob : ∀ i, Value.ownBlock (.slice (some A') r.length (c - 1)) = some i → Value.ownBlock (.slice (some ⟨gt, ot, none⟩) (r.length + 1) c) = some i := by
      intro i hi; simpa [Value.ownBlock, hown'.2] using hi
    have HFIN := Lib.hid hfin; have HTR := Lib.hid htr; have HOB := Lib.hid hob
    clear hob hA' ht1' ht2' hz0 hz1 hz2 hi hrd h hfin htr hown'
    simp only [List.length_cons] at z10
    go_enter Try.func35, Try.ntmps35
    go_wp2_with fail
    go_ret
    exact ⟨_, _, _, r, rfl, HFIN.out, HTR.out, by omega, HOB.out⟩
end Go.Proofs.Ythhgbpbaihgogaa
