/-
  Bands: a row of queues that is being made.
-/
import Derived.Test.YthhgbpbaihgogaaBdsNew
import Derived.Test.YthhgbpbaihgogaaTurns
import Derived.Test.YthhgbpbaihgogaaOrdered
import Derived.Test.YthhgbpbaihgogaaFirst
import Derived.Test.YthhgbpbaihgogaaPick
namespace Go.Proofs.Ythhgbpbaihgogaa
open Go.RowKit Bkt
set_option linter.unusedVariables false

def QuR : Rec Nat := ⟨1, fun g => [fqV g], fun _ => rfl, by decide, 0⟩
theorem quR_flat (l : List Nat) : l.flatMap QuR.cells = fqL l := by
  induction l with
  | nil => rfl
  | cons x r ih => rw [List.flatMap_cons, ih]; rfl
theorem qu_one (x : Nat) : ∀ u ∈ QuR.cells x, u.oneCell' = true := by
  intro u hu
  have hu' : u ∈ [fqV x] := hu
  rw [List.mem_singleton] at hu'
  subst hu'; rfl
theorem Try.quRInfo : (Try.prog.info? 82).map (fun i => (i.zero, i.size, i.bytes)) = some (some .nilIface, 1, 16) := by kernel_rfl
structure MkB (W wr : World) (gs : List Nat) (u : Nat) (ov : Value) : Prop where
  own : OwnW wr W.heap.size 82 1 ov u (gs.flatMap QuR.cells)
  len : gs.length = u
  f : ∀ j, j < u → FInv1 W.heap.size (gs.getD j 0) Pl.bP [] 0 (fun b => b = gs.getD j 0) wr
  ne : ∀ i j, i < u → j < u → i ≠ j → gs.getD i 0 ≠ gs.getD j 0
  nr : ∀ j, j < u → ov.ownBlock ≠ some (gs.getD j 0)
  bl : Below W.heap.size W wr
theorem getD_app {gs : List Nat} {g j : Nat} : (gs ++ [g]).getD j 0 = if j < gs.length then gs.getD j 0 else if j = gs.length then g else 0 := by
  by_cases h : j < gs.length
  · rw [if_pos h, List.getD, List.getElem?_append_left h]; rfl
  · rw [if_neg h]
    by_cases e : j = gs.length
    · rw [if_pos e, e, List.getD, List.getElem?_append_right (Nat.le_refl _), Nat.sub_self]; rfl
    · rw [if_neg e, List.getD, List.getElem?_eq_none (by simp; omega)]; rfl
theorem Ffo.base_ {w : World} {b b' g o : Nat} {t : TypeId} {cs : Array Value} {v : Value} {l : List Hd} {p : Pl.FP} (h : Ffo w b g o t cs v l p) (hb : b' ≤ b) : Ffo w b' g o t cs v l p :=
  ⟨⟨h.lst.blk, h.lst.c0, h.lst.c1, h.lst.own.mono hb, h.lst.ne⟩, h.c2, h.c3, h.c4⟩
theorem MkB.below {W wr w' : World} {gs : List Nat} {u : Nat} {ov : Value} (h : MkB W wr gs u ov) (hb : Below wr.heap.size wr w') : MkB W w' gs u ov :=
  ⟨h.own.below hb, h.len, fun j hj => (h.f j hj).chg (S := fun _ => False) (Chg.of_below hb) (fun _ _ h => h), h.ne, h.nr, bl_next h.bl hb⟩
/-- a queue more -/
theorem MkB.next {W wr w1 w2 : World} {gs : List Nat} {u g : Nat} {ov v' : Value} {cs : Array Value} (h : MkB W wr gs u ov) (hg : wr.heap.size ≤ g) (hb : Below wr.heap.size wr w1) (hf : Ffo w1 wr.heap.size g 0 61 cs (.slice none 0 0) [] Pl.bP)
    (ho : OwnW w2 W.heap.size 82 1 v' (u + 1) ((gs ++ [g]).flatMap QuR.cells)) (hgr : w1.grownBy w2 ov.ownBlock) (ha : v'.ownBlock = ov.ownBlock ∨ ∀ k, v'.ownBlock = some k → w1.heap.size < k) : MkB W w2 (gs ++ [g]) (u + 1) v' := by
  have hlen := h.len
  have h1 := h.below hb
  have hsz := h.bl.size
  have hc : Chg w1 w2 (fun i => ov.ownBlock = some i) := Chg.of_grown hgr (fun i e => e.symm)
  have hgl : g < w1.heap.size := hf.lst.blk.lt
  have hne : ov.ownBlock ≠ some g := fun e => by have := (h.own.lt g e).2; omega
  have hfn : FInv1 W.heap.size g Pl.bP [] 0 (fun i => i = g) w1 := Ffo.inv (hf.base_ hsz) (by omega)
  have hlt : ∀ j, j < u → gs.getD j 0 < wr.heap.size := fun j hj => ((h.f j hj).lt _ rfl).2
  refine ⟨ho, by simp [hlen], fun j hj => ?_, fun i j hi hj hij => ?_, fun j hj => ?_, ?_⟩
  · rw [getD_app]
    by_cases e : j < gs.length
    · rw [if_pos e]
      exact (h1.f j (by omega)).chg hc (fun b hb2 e2 => h.nr j (by omega) (by rw [e2, hb2]))
    · rw [if_neg e, if_pos (by omega)]
      exact hfn.chg hc (fun b hb2 e2 => hne (by rw [e2, hb2]))
  · rw [getD_app, getD_app]
    by_cases e : i < gs.length
    · rw [if_pos e]
      by_cases e2 : j < gs.length
      · rw [if_pos e2]; exact h.ne i j (by omega) (by omega) hij
      · rw [if_neg e2, if_pos (by omega)]
        have := hlt i (by omega); omega
    · rw [if_neg e, if_pos (by omega)]
      by_cases e2 : j < gs.length
      · rw [if_pos e2]
        have := hlt j (by omega); omega
      · omega
  · rw [getD_app]
    by_cases e : j < gs.length
    · rw [if_pos e]
      rcases ha with e2 | e2
      · rw [e2]; exact h.nr j (by omega)
      · intro e3
        have := e2 _ e3
        have := hlt j (by omega)
        have := hb.size
        omega
    · rw [if_neg e, if_pos (by omega)]
      rcases ha with e2 | e2
      · rw [e2]; exact hne
      · intro e3
        have := e2 _ e3
        omega
  · exact h1.bl.grown hgr (by have := h1.bl.size; omega) (fun k hk => (h.own.lt k hk).1)
/-- the bands, from their making -/
theorem MkB.inv {W wr w' : World} {gs : List Nat} {m gb gi c : Nat} {ov : Value} {ls : Array Value} (h : MkB W wr gs m ov) (hm : 1 ≤ m) (h8 : m ≤ 8) (hi : wr.heap.size ≤ gi) (hgb : wr.heap.size ≤ gb) (hne : gb ≠ gi) (hb : Blk w' gb 98 #[.slice (some ⟨gi, 0, none⟩) m c]) (hl : Blk w' gi 82 ls)
    (hls : ∀ i, i < m → ls[i]? = some (fqV (gs.getD i 0))) (hbl : Below wr.heap.size wr w') : ∃ F, Bd1 W.heap.size gb m (fun _ => []) 0 F w' ∧ ∀ b, F b → W.heap.size ≤ b := by
  have hsz := h.bl.size
  have hlt : ∀ j, j < m → W.heap.size ≤ gs.getD j 0 ∧ gs.getD j 0 < wr.heap.size := fun j hj => (h.f j hj).lt _ rfl
  refine ⟨fun b => b = gb ∨ b = gi ∨ ∃ j, j < m ∧ b = gs.getD j 0, ⟨gi, c, fun i => gs.getD i 0, ls, fun i b => b = gs.getD i 0, hb, hl, hls, (h.below hbl).f, fun i j h1 h2 h3 b e1 e2 => h.ne i j h1 h2 h3 (e1.symm.trans e2), fun i hi2 => ⟨fun e => by have := hlt i hi2; omega, fun e => by have := hlt i hi2; omega⟩, hne, by omega, by omega, Nat.le_trans hsz hbl.size, by omega, by omega, h8, ⟨fun i _ => by simp, fun i _ x hx => by simp at hx⟩, fun b => Iff.rfl⟩, fun b hb2 => ?_⟩
  rcases hb2 with e | e | ⟨j, hj, e⟩
  · omega
  · omega
  · have := hlt j hj; omega
theorem waitB_0 (m : Nat) : Pl.waitB m (fun _ => []) = [] := by
  unfold Pl.waitB
  simp
/-- what pick answers is always the same -/
theorem pick_val (a n : Int) (h1 : 1 ≤ n) (h2 : n ≤ 1000000) : ∃ r : Int, 0 ≤ r ∧ r < n ∧ ∀ w, Calls Try.prog 14 #[.int .i64 a, .int .i64 n] w (fun e w' => e = .returned (.int .i64 r) ∧ w = w') := by
  refine ⟨_, (pick_bd a n h1 h2).1, (pick_bd a n h1 h2).2, fun w => ?_⟩
  go_enter Try.func14, Try.ntmps14
  go_wp2_with fail
  go_ret
  exact ⟨rfl, rfl⟩
end Go.Proofs.Ythhgbpbaihgogaa
