/-
  Bands in memory: their block, the row of their queues, the queues; Put, When, Len, Bytes.
-/
import Derived.Test.YthhgbpbaihgogaaBdsLaw
import Derived.Test.YthhgbpbaihgogaaRndImp
namespace Go.Proofs.Ythhgbpbaihgogaa
open Go.RowKit Bkt
set_option linter.unusedVariables false

def fqV (g : Nat) : Value := .iface 23 (.pointer (some ⟨g, 0, none⟩))
theorem FInv1.grow {base g : Nat} {p : Pl.FP} {s : List Hd} {k k' : Nat} {F : Nat → Prop} {w : World} (h : FInv1 base g p s k F w) (hk : k ≤ k') (hk' : k' ≤ 1000) : FInv1 base g p s k' F w := by
  obtain ⟨v, cs, h⟩ := h
  exact ⟨v, cs, h.f, Nat.le_trans h.n hk, h.b, h.bs, hk', h.bg, h.mF⟩
/-- bands, in the block gb; their row in the block gi; the queue i in the block G i and what FF i says -/
structure BdM (base gb gi c m : Nat) (G : Nat → Nat) (ls : Array Value) (FF : Nat → Nat → Prop) (s : Nat → List Hd) (k : Nat) (F : Nat → Prop) (w : World) : Prop where
  blk : Blk w gb 98 #[.slice (some ⟨gi, 0, none⟩) m c]
  row : Blk w gi 82 ls
  l : ∀ i, i < m → ls[i]? = some (fqV (G i))
  f : ∀ i, i < m → FInv1 base (G i) Pl.bP (s i) k (FF i) w
  ne : ∀ i j, i < m → j < m → i ≠ j → ∀ b, FF i b → ¬ FF j b
  nb : ∀ i, i < m → ¬ FF i gb ∧ ¬ FF i gi
  gne : gb ≠ gi
  bb : base ≤ gb
  bi : base ≤ gi
  bs : base ≤ w.heap.size
  k1 : k ≤ 1000
  m0 : 0 < m
  m8 : m ≤ 8
  inv : Pl.BI m s
  mF : ∀ i, F i ↔ (i = gb ∨ i = gi ∨ ∃ j, j < m ∧ FF j i)
def Bd1 (base gb m : Nat) (s : Nat → List Hd) (k : Nat) (F : Nat → Prop) (w : World) : Prop := ∃ gi c G ls FF, BdM base gb gi c m G ls FF s k F w
section
variable {w w' : World} {base gb gi c m k : Nat} {G : Nat → Nat} {ls : Array Value} {FF : Nat → Nat → Prop} {s : Nat → List Hd} {F : Nat → Prop}
theorem FInv1.lt {base g : Nat} {p : Pl.FP} {s : List Hd} {k : Nat} {F : Nat → Prop} {w : World} (h : FInv1 base g p s k F w) : ∀ i, F i → base ≤ i ∧ i < w.heap.size := by
  obtain ⟨_, _, h⟩ := h; exact h.lt
theorem FInv1.chg {base g : Nat} {p : Pl.FP} {s : List Hd} {k : Nat} {F S : Nat → Prop} {w w' : World} (h : FInv1 base g p s k F w) (hc : Chg w w' S) (hn : ∀ i, F i → ¬ S i) : FInv1 base g p s k F w' := by
  obtain ⟨v, cs, h⟩ := h; exact ⟨v, cs, h.chg hc hn⟩
theorem BdM.lt (h : BdM base gb gi c m G ls FF s k F w) : ∀ i, F i → base ≤ i ∧ i < w.heap.size := fun i hi => by
  rcases (h.mF i).1 hi with e | e | ⟨j, hj, e⟩
  · subst e; exact ⟨h.bb, h.blk.lt⟩
  · subst e; exact ⟨h.bi, h.row.lt⟩
  · exact (h.f j hj).lt i e
theorem BdM.chg {S : Nat → Prop} (h : BdM base gb gi c m G ls FF s k F w) (hc : Chg w w' S) (hn : ∀ i, F i → ¬ S i) : BdM base gb gi c m G ls FF s k F w' :=
  ⟨h.blk.chg hc (hn _ ((h.mF _).2 (.inl rfl))), h.row.chg hc (hn _ ((h.mF _).2 (.inr (.inl rfl)))), h.l, fun i hi => (h.f i hi).chg hc (fun b hb => hn _ ((h.mF _).2 (.inr (.inr ⟨i, hi, hb⟩)))), h.ne, h.nb, h.gne, h.bb, h.bi, Nat.le_trans h.bs hc.size, h.k1, h.m0, h.m8, h.inv, h.mF⟩
theorem BdM.below (h : BdM base gb gi c m G ls FF s k F w) (hb : Below w.heap.size w w') : BdM base gb gi c m G ls FF s k F w' := h.chg (S := fun _ => False) (Chg.of_below hb) (fun _ _ h => h)
/-- behind a queue's method -/
theorem BdM.step (h : BdM base gb gi c m G ls FF s k F w) {i : Nat} (hi : i < m) {l' : List Hd} {k' : Nat} {F' : Nat → Prop} (hf : FInv1 base (G i) Pl.bP l' k' F' w') (hk : k ≤ k') (hk' : k' ≤ 1000) (hc : Chg w w' (FF i)) (ha : ∀ b, F' b → FF i b ∨ w.heap.size ≤ b) (hv : Pl.BI m (Pl.updf s i l')) :
    ∃ F2, BdM base gb gi c m G ls (Pl.updf FF i F') (Pl.updf s i l') k' F2 w' ∧ Chg w w' F ∧ ∀ b, F2 b → F b ∨ w.heap.size ≤ b := by
  have hlt : ∀ j, j < m → ∀ b, FF j b → b < w.heap.size := fun j hj b hb => ((h.f j hj).lt b hb).2
  refine ⟨fun b => b = gb ∨ b = gi ∨ ∃ j, j < m ∧ Pl.updf FF i F' j b, ⟨h.blk.chg hc (h.nb i hi).1, h.row.chg hc (h.nb i hi).2, h.l, fun j hj => ?_, fun j1 j2 h1 h2 hne b hb => ?_, fun j hj => ?_, h.gne, h.bb, h.bi, Nat.le_trans h.bs hc.size, hk', h.m0, h.m8, hv, fun b => Iff.rfl⟩, hc.mono (fun b _ hb => (h.mF b).2 (.inr (.inr ⟨i, hi, hb⟩))), fun b hb => ?_⟩
  · by_cases e : j = i
    · subst e; rw [Pl.updf_same, Pl.updf_same]; exact hf
    · rw [Pl.updf_ne _ _ e, Pl.updf_ne _ _ e]
      exact ((h.f j hj).grow hk hk').chg hc (fun b hb => h.ne j i hj hi e b hb)
  · by_cases e1 : j1 = i
    · subst e1
      rw [Pl.updf_same] at hb
      rw [Pl.updf_ne _ _ (Ne.symm hne)]
      intro hb2
      rcases ha b hb with e | e
      · exact h.ne j1 j2 h1 h2 hne b e hb2
      · have := hlt j2 h2 b hb2; omega
    · rw [Pl.updf_ne _ _ e1] at hb
      by_cases e2 : j2 = i
      · subst e2
        rw [Pl.updf_same]
        intro hb2
        rcases ha b hb2 with e | e
        · exact h.ne j1 j2 h1 h2 hne b hb e
        · have := hlt j1 h1 b hb; omega
      · rw [Pl.updf_ne _ _ e2]; exact h.ne j1 j2 h1 h2 hne b hb
  · by_cases e : j = i
    · subst e
      rw [Pl.updf_same]
      have hg1 := h.blk.lt; have hg2 := h.row.lt
      exact ⟨fun hb => (ha _ hb).elim (h.nb j hj).1 (by omega), fun hb => (ha _ hb).elim (h.nb j hj).2 (by omega)⟩
    · rw [Pl.updf_ne _ _ e]; exact h.nb j hj
  · rcases hb with e | e | ⟨j, hj, e⟩
    · exact .inl ((h.mF b).2 (.inl e))
    · exact .inl ((h.mF b).2 (.inr (.inl e)))
    · by_cases e2 : j = i
      · subst e2
        rw [Pl.updf_same] at e
        exact (ha b e).imp (fun e => (h.mF b).2 (.inr (.inr ⟨j, hj, e⟩))) id
      · rw [Pl.updf_ne _ _ e2] at e
        exact .inl ((h.mF b).2 (.inr (.inr ⟨j, hj, e⟩)))
theorem BdM.cell (h : BdM base gb gi c m G ls FF s k F w) : w.cell? ⟨gb, 0, none⟩ = some (.slice (some ⟨gi, 0, none⟩) m c) := (h.blk.cell 0).trans rfl
theorem BdM.lcell (h : BdM base gb gi c m G ls FF s k F w) {i : Nat} (hi : i < m) : w.cell? ⟨gi, i, none⟩ = some (fqV (G i)) := (h.row.cell i).trans (h.l i hi)
end
theorem fq_put (base g : Nat) : QImp (Pl.fifoM Pl.bP) (fqV g) base (FInv1 base g Pl.bP) := fifo_imp base g Pl.bP Pl.bP_ok

theorem bOk {x : It} (h : Pl.okB x = true) : 0 ≤ x.band ∧ x.band ≤ 1000 := by
  have := (okB_fine.1 h).f3
  omega
set_option maxHeartbeats 4000000 in
set_option maxRecDepth 100000 in
theorem bds_put_c (base gb m : Nat) (s : Nat → List Hd) (k : Nat) (F : Nat → Prop) (w : World) (now : Int) (x : Hd) (hh : Bd1 base gb m s k F w) (hk : k < 1000) (hx : InOk now x) :
    Calls Try.prog 71 #[.pointer (some ⟨gb, 0, none⟩), .int .i64 now, hdV x] w (PutOut (Bd1 base gb m) w F (k + 1) (Pl.putB m x s)) := by
  obtain ⟨gi, c, G, ls, FF, h⟩ := hh
  obtain ⟨hb0, hb1⟩ := bOk hx.ok
  have hm0 := h.m0; have hm8 := h.m8
  obtain ⟨i, hi⟩ : ∃ i, i = Pl.bOf m x.it := ⟨_, rfl⟩
  have him : i < m := by rw [hi]; exact Pl.bOf_lt hm0 _
  have hbi := Pl.bI_put hm0 h.inv hx.ok
  unfold Pl.putB at hbi ⊢
  rw [← hi] at hbi ⊢
  have hbi' : Pl.BI m (Pl.updf s i (Pl.fputL Pl.bP x (s i)).2) := hbi
  unfold Pl.bOf at hi
  have hwx : Below w.heap.size w (w.alloc (.cells #[.int .i64 x.it.at_, .int .i64 x.it.len, .int .i64 x.it.flow, .int .i64 x.it.band, .int .i64 x.it.mark, .int .i64 x.num] 54)) := (Below.refl _ _).alloc (Nat.le_refl _) _
  have h1 := h.below hwx
  have hf1 := h1.f i him
  obtain ⟨fp, rp, hmp, hcp⟩ := (fq_put base (G i)).put
  have hput : Calls Try.prog fp #[rp, .int .i64 now, hdV x] ((w.alloc (.cells #[.int .i64 x.it.at_, .int .i64 x.it.len, .int .i64 x.it.flow, .int .i64 x.it.band, .int .i64 x.it.mark, .int .i64 x.num] 54)).drew) _ := hcp (s i) k (FF i) _ now x (hf1.chg (S := fun _ => False) (Chg.refl _ _).drew (fun _ _ h => h)) hk hx
  have hp2 := hput.mono (R' := fun e w' => ∃ A n c, e = .returned (.slice A n c) ∧ Hid (∃ F2, n ≤ 100000 ∧ RdR HdR w' w'.heap.size A n (Pl.fputL Pl.bP x (s i)).1 ∧ (∀ ad, A = some ad → F ad.block ∨ w.heap.size ≤ ad.block) ∧ Bd1 base gb m (Pl.updf s i (Pl.fputL Pl.bP x (s i)).2) (k + 1) F2 w' ∧ Chg w w' F ∧ ∀ i, F2 i → F i ∨ w.heap.size ≤ i)) (by
    rintro e w' ⟨A, n, c', F', e1, e2, e3, e4, e5, e6, e7⟩
    have h2 := (h1.chg (S := fun _ => False) (Chg.refl _ _).drew (fun _ _ h => h))
    obtain ⟨F2, g1, g2, g3⟩ := h2.step him e5 (by omega) (by omega) e6 e7 hbi'
    refine ⟨A, n, c', e1, Lib.hid ⟨F2, e2, e3, fun ad e => ?_, ⟨_, _, _, _, _, g1⟩, ?_, fun b hb => ?_⟩⟩
    · rcases e4 ad e with e8 | e8
      · exact .inl ((h.mF _).2 (.inr (.inr ⟨i, him, e8⟩)))
      · exact .inr (by simp [World.drew] at e8; omega)
    · exact ((Chg.of_below hwx).drew).trans g2 (fun i _ h => h)
    · rcases g3 b hb with e8 | e8
      · exact .inl e8
      · exact .inr (by simp [World.drew] at e8; omega))
  have y0 := h1.cell
  have yi := h1.lcell him
  have hx6 := Blk.new w 54 #[.int .i64 x.it.at_, .int .i64 x.it.len, .int .i64 x.it.flow, .int .i64 x.it.band, .int .i64 x.it.mark, .int .i64 x.num]
  obtain ⟨M, hM⟩ : ∃ M, m = M + 1 := ⟨m - 1, by omega⟩
  have e1 : IntKind.i64.wrap ((m : Int) - 1) = (M : Int) := by rw [IntWalk.i64_in _ (by omega)]; omega
  have HP := Lib.hid hp2; have HM := Lib.hid hmp
  clear hput hcp hmp hp2 hf1 h1 h hbi hbi' hwx hx
  obtain ⟨⟨xa, xl, xf, xb, xm⟩, xn⟩ := x
  unfold hdV at HP
  unfold hdV
  dsimp only at hi HP y0 yi hb0 hb1 hx6 ⊢
  have HX6 := Lib.hid hx6
  clear hx6
  obtain ⟨b, hb⟩ : ∃ b : Nat, xb = b := ⟨xb.toNat, by omega⟩
  subst hb
  have iim : (i : Int) < (m : Int) := by omega
  unfold fqV at *
  by_cases hc : b ≤ M
  · obtain rfl : i = b := by omega
    have hm2 : (M < i) = False := by simp; omega
    clear hi hM
    go_enter Try.func71, Try.ntmps71
    go_upto_region 1 with fail
    generalize w.alloc (.cells #[.int .i64 xa, .int .i64 xl, .int .i64 xf, .int .i64 (i : Nat), .int .i64 xm, .int .i64 xn] 54) = W at *
    obtain ⟨t0, t1, t2, t3, t4, t5, _, _, _, _, _, _⟩ := blk6 HX6.out
    go_still_tail 18, (by kernel_rfl)
    change wpList _ _ _ _ _ (World.drew _)
    go_wp2_with (refine wpList_invoke2 (vx := .int .i64 now) (vy := .agg #[.int .i64 xa, .int .i64 xl, .int .i64 xf, .int .i64 (i : Nat), .int .i64 xm, .int .i64 xn]) rfl (.tmp 22) (.tmp 23) (.tmp 24) #[3, 54] rfl HM.out rfl rfl rfl HP.out (fun e w' ⟨_, _, _, h, _⟩ => ⟨_, h⟩) ?_; rintro v3 w3 ⟨A, n, c', e3, h3⟩; injection e3 with e3; subst e3; have H3 := Lib.hid h3.out; clear h3)
    go_ret
    obtain ⟨F2, g1, g2, g3, g4, g5, g6⟩ := H3.out
    exact ⟨A, n, c', F2, rfl, g1, g2, g3, g4, g5, g6⟩
  · obtain rfl : i = M := by omega
    have hm2 : (i < b) = True := by simp; omega
    clear hi hM
    go_enter Try.func71, Try.ntmps71
    go_upto_region 1 with fail
    generalize w.alloc (.cells #[.int .i64 xa, .int .i64 xl, .int .i64 xf, .int .i64 (b : Nat), .int .i64 xm, .int .i64 xn] 54) = W at *
    obtain ⟨t0, t1, t2, t3, t4, t5, _, _, _, _, _, _⟩ := blk6 HX6.out
    go_still_tail 18, (by kernel_rfl)
    change wpList _ _ _ _ _ (World.drew _)
    go_wp2_with (refine wpList_invoke2 (vx := .int .i64 now) (vy := .agg #[.int .i64 xa, .int .i64 xl, .int .i64 xf, .int .i64 (b : Nat), .int .i64 xm, .int .i64 xn]) rfl (.tmp 22) (.tmp 23) (.tmp 24) #[3, 54] rfl HM.out rfl rfl rfl HP.out (fun e w' ⟨_, _, _, h, _⟩ => ⟨_, h⟩) ?_; rintro v3 w3 ⟨A, n, c', e3, h3⟩; injection e3 with e3; subst e3; have H3 := Lib.hid h3.out; clear h3)
    go_ret
    obtain ⟨F2, g1, g2, g3, g4, g5, g6⟩ := H3.out
    exact ⟨A, n, c', F2, rfl, g1, g2, g3, g4, g5, g6⟩
end Go.Proofs.Ythhgbpbaihgogaa
