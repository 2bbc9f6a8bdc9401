/-
  What holds between the rounds of FairVarghese.
-/
import Derived.Test.YthhgbpbaihgogaaTurns
import Derived.Test.YthhgbpbaihgogaaVarLaw
import Derived.Test.YthhgbpbaihgogaaRowQ
import Derived.Test.YthhgbpbaihgogaaPick
namespace Go.Proofs.Ythhgbpbaihgogaa
open Go.RowKit Bkt
set_option linter.unusedVariables false

theorem rnd_put_none (base g : Nat) (Q : Nat → Int) (room : Int) (s : Pl.RS) (k : Nat) (F : Nat → Prop) (w : World) (now : Int) (x : Hd) (hh : RInv1 base g Q room s k F w) (hk : k < 1000) (hx : Pl.okB x.it = true) (hp : (Pl.putR room x s).1 = []) :
    Calls Try.prog 30 #[.pointer (some ⟨g, 0, none⟩), .int .i64 now, hdV x] w fun e w' => ∃ A c F', e = .returned (.slice A 0 c) ∧ RInv1 base g Q room (Pl.putR room x s).2 (k + 1) F' w' ∧ Chg w w' F ∧ ∀ i, F' i → F i ∨ w.heap.size ≤ i := by
  refine (rnd_put_c base g Q room s k F w now x hh hk hx).mono ?_
  rintro e w' ⟨A, n, c, F', e1, _, hr, _, h2, h3, h4⟩
  rw [hp] at hr
  have hn : n = 0 := by have := hr.len; simpa using this.symm
  subst hn
  exact ⟨A, c, F', e1, h2, h3, h4⟩
theorem RInv1.move {base g : Nat} {Q : Nat → Int} {room : Int} {s : Pl.RS} {k : Nat} {F : Nat → Prop} {w w' : World} (h : RInv1 base g Q room s k F w) {S : Nat → Prop} (hc : Chg w w' S) (hn : ∀ i, F i → ¬ S i) : RInv1 base g Q room s k F w' := by
  obtain ⟨cs, V, tv, h⟩ := h
  exact ⟨cs, V, tv, h.chg hc hn⟩
theorem RInv1.below {base g : Nat} {Q : Nat → Int} {room : Int} {s : Pl.RS} {k : Nat} {F : Nat → Prop} {w w' : World} (h : RInv1 base g Q room s k F w) (hb : Below w.heap.size w w') : RInv1 base g Q room s k F w' := h.move (Chg.of_below (S := fun _ => False) hb) (fun _ _ h => h)

theorem mul_bd {a b A B : Int} (h0 : 0 ≤ a) (h1 : a ≤ A) (h2 : 0 ≤ b) (h3 : b ≤ B) : 0 ≤ a * b ∧ a * b ≤ A * B :=
  ⟨Int.mul_nonneg h0 h2, Int.mul_le_mul h1 h3 h2 (by omega)⟩
theorem var_calc {sa sb qa qb lg P1 P2 D q2 P3 qs P4 S : Int} (hsa : 0 ≤ sa ∧ sa ≤ 1200000) (hsb : 0 ≤ sb ∧ sb ≤ 1200000) (hqa : 20 ≤ qa ∧ qa ≤ 2019) (hqb : 20 ≤ qb ∧ qb ≤ 2019) (hlg : 0 < lg ∧ lg ≤ 1500)
    (h : sa * qb - sb * qa < 2 * qa * qb + lg * (qa + qb)) (e1 : IntKind.i64.wrap (sa * qb) = P1) (e2 : IntKind.i64.wrap (sb * qa) = P2) (e3 : IntKind.i64.wrap (P1 - P2) = D) (e4 : IntKind.i64.wrap (2 * qa) = q2) (e5 : IntKind.i64.wrap (q2 * qb) = P3)
    (e6 : IntKind.i64.wrap (qa + qb) = qs) (e7 : IntKind.i64.wrap (lg * qs) = P4) (e8 : IntKind.i64.wrap (P3 + P4) = S) : decide (S ≤ D) = false := by
  have b1 := mul_bd hsa.1 hsa.2 (show 0 ≤ qb by omega) hqb.2
  have b2 := mul_bd hsb.1 hsb.2 (show 0 ≤ qa by omega) hqa.2
  rw [IntWalk.i64_in _ (by omega)] at e1 e2 e4 e6
  subst e1 e2 e4 e6
  have b3 := mul_bd (a := 2 * qa) (A := 4038) (by omega) (by omega) (show 0 ≤ qb by omega) hqb.2
  have b4 := mul_bd (a := lg) (A := 1500) (b := qa + qb) (B := 4038) (by omega) (by omega) (by omega) (by omega)
  rw [IntWalk.i64_in _ (by omega)] at e3 e5 e7
  subst e3 e5 e7
  rw [IntWalk.i64_in _ (by omega)] at e8
  subst e8
  exact decide_eq_false (by omega)
structure VRel (w1 wr : World) (g gs gl nq : Nat) (Q : Nat → Int) (s : Pl.RS) (k : Nat) (F : Nat → Prop) (sent left : Nat → Int) : Prop where
  inv : RInv1 w1.heap.size g Q 60 s k F wr
  rs : RowQ wr gs nq sent
  rl : RowQ wr gl nq left
  ns : ¬ F gs
  nl : ¬ F gl
  ne : gs ≠ gl
  b : Below w1.heap.size w1 wr
  gs1 : w1.heap.size ≤ gs
  gl1 : w1.heap.size ≤ gl
section
variable {w1 wr w' : World} {g gs gl nq k : Nat} {Q : Nat → Int} {s s' : Pl.RS} {F F' : Nat → Prop} {sent left : Nat → Int}
theorem VRel.below (h : VRel w1 wr g gs gl nq Q s k F sent left) (hb : Below wr.heap.size wr w') : VRel w1 w' g gs gl nq Q s k F sent left :=
  ⟨h.inv.below hb, h.rs.below hb, h.rl.below hb, h.ns, h.nl, h.ne, h.b.trans (hb.mono h.b.size), h.gs1, h.gl1⟩
theorem VRel.setS (h : VRel w1 wr g gs gl nq Q s k F sent left) {i : Nat} (hi : i < nq) (x : Int) : VRel w1 (wr.setCell ⟨gs, i, none⟩ (.int .i64 x)) g gs gl nq Q s k F (Pl.updf sent i x) left :=
  ⟨h.inv.move (Chg.setCell (S := fun i => i = gs) (p := ⟨gs, i, none⟩) (Chg.refl wr _) (fun _ => rfl) _) (fun i hi e => h.ns (e ▸ hi)), h.rs.set_ hi x, h.rl.far (p := ⟨gs, i, none⟩) (Ne.symm h.ne) _, h.ns, h.nl, h.ne, h.b.setCell (p := ⟨gs, i, none⟩) h.gs1 _, h.gs1, h.gl1⟩
theorem VRel.setL (h : VRel w1 wr g gs gl nq Q s k F sent left) {i : Nat} (hi : i < nq) (x : Int) : VRel w1 (wr.setCell ⟨gl, i, none⟩ (.int .i64 x)) g gs gl nq Q s k F sent (Pl.updf left i x) :=
  ⟨h.inv.move (Chg.setCell (S := fun i => i = gl) (p := ⟨gl, i, none⟩) (Chg.refl wr _) (fun _ => rfl) _) (fun i hi e => h.nl (e ▸ hi)), h.rs.far (p := ⟨gl, i, none⟩) h.ne _, h.rl.set_ hi x, h.ns, h.nl, h.ne, h.b.setCell (p := ⟨gl, i, none⟩) h.gl1 _, h.gs1, h.gl1⟩
theorem VRel.to (h : VRel w1 wr g gs gl nq Q s k F sent left) {k' : Nat} (hi : RInv1 w1.heap.size g Q 60 s' k' F' w') (hc : Chg wr w' F) (hF : ∀ i, F' i → F i ∨ wr.heap.size ≤ i) : VRel w1 w' g gs gl nq Q s' k' F' sent left :=
  ⟨hi, h.rs.chg hc h.ns, h.rl.chg hc h.nl, fun e => (hF _ e).elim h.ns (fun e => by have := h.rs.lt; omega), fun e => (hF _ e).elim h.nl (fun e => by have := h.rl.lt; omega), h.ne, Chg.toB h.b hc (fun i hi => (h.inv.facts.1 i hi).1) h.b.size, h.gs1, h.gl1⟩
theorem VRel.made {wo : World} (hi : RInv1 w1.heap.size g Q 60 s k F wo) (hb : Below w1.heap.size w1 wo) (nq : Nat) :
    VRel w1 ((wo.alloc (.cells (madeCells #[.int .i64 0] nq) 3)).alloc (.cells (madeCells #[.int .i64 0] nq) 3)) g wo.heap.size (wo.heap.size + 1) nq Q s k F (fun _ => 0) (fun _ => 0) := by
  have h1 : Below wo.heap.size wo ((wo.alloc (.cells (madeCells #[.int .i64 0] nq) 3)).alloc (.cells (madeCells #[.int .i64 0] nq) 3)) := ((Below.refl _ _).alloc (Nat.le_refl _) _).alloc (by simp) _
  have hr1 := (rowQ_made wo nq).below (w' := (wo.alloc (.cells (madeCells #[.int .i64 0] nq) 3)).alloc (.cells (madeCells #[.int .i64 0] nq) 3)) ((Below.refl _ _).alloc (Nat.le_refl _) _)
  have hr2 := rowQ_made (wo.alloc (.cells (madeCells #[.int .i64 0] nq) 3)) nq
  rw [show (wo.alloc (.cells (madeCells #[.int .i64 0] nq) 3)).heap.size = wo.heap.size + 1 by simp] at hr2
  exact ⟨hi.below h1, hr1, hr2, fun e => by have := (hi.facts.1 _ e).2; omega, fun e => by have := (hi.facts.1 _ e).2; omega, by omega, hb.trans (h1.mono hb.size), hb.size, by have := hb.size; omega⟩
end
end Go.Proofs.Ythhgbpbaihgogaa
