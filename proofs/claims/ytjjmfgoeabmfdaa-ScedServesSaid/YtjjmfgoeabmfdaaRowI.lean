/-
  More words for rows of ints of the call's own: a block of values; copy into a row that was just made; an append that tells where the new row lies; make as a step of a region that draws its order.
-/
import Derived.Test.YtjjmfgoeabmfdaaFam
import Derived.Test.YtjjmfgoeabmfdaaChg
import Derived.Test.YtjjmfgoeabmfdaaCurveTwiceWalk
import Derived.Laws.CopyOwn
namespace Go.Proofs.Ytjjmfgoeabmfdaa
open Go.RowKit Crv
set_option linter.unusedVariables false

/-- a block of m values -/
def RowV (w : World) (g : Nat) (t : TypeId) (m : Nat) (V : Nat → Value) : Prop := ∃ cs : Array Value, Blk w g t cs ∧ cs.size = m ∧ ∀ i, i < m → cs[i]? = some (V i)
section
variable {w w' : World} {g m : Nat} {t : TypeId} {V : Nat → Value} {S : Nat → Prop}
theorem RowV.cell (h : RowV w g t m V) {i : Nat} (hi : i < m) : w.cell? ⟨g, i, none⟩ = some (V i) := by
  obtain ⟨cs, hb, _, hc⟩ := h
  exact (hb.cell i).trans (hc i hi)
theorem RowV.frozen (h : RowV w g t m V) (i : Nat) : w.frozen? ⟨g, i, none⟩ = false := by
  obtain ⟨cs, hb, _, _⟩ := h
  exact hb.frozen i
theorem RowV.lt (h : RowV w g t m V) : g < w.heap.size := by
  obtain ⟨cs, hb, _, _⟩ := h
  exact hb.lt
theorem RowV.chg (h : RowV w g t m V) (hc : Chg w w' S) (hn : ¬ S g) : RowV w' g t m V := by
  obtain ⟨cs, hb, h1, h2⟩ := h
  exact ⟨cs, hb.chg hc hn, h1, h2⟩
theorem RowV.alloc (h : RowV w g t m V) (o : Obj) : RowV (w.alloc o) g t m V := by
  obtain ⟨cs, hb, h1, h2⟩ := h
  exact ⟨cs, hb.alloc o, h1, h2⟩
theorem RowV.below {B : Nat} (h : RowV w g t m V) (hb : Below B w w') (hg : g < B) : RowV w' g t m V := by
  obtain ⟨cs, hk, h1, h2⟩ := h
  exact ⟨cs, hk.below hb hg, h1, h2⟩
theorem RowV.grown {row : Option Nat} (h : RowV w g t m V) (hb : w.grownBy w' row) (hg : some g ≠ row) : RowV w' g t m V := by
  obtain ⟨cs, hk, h1, h2⟩ := h
  exact ⟨cs, hk.grown hb hg, h1, h2⟩
theorem RowV.set_ (h : RowV w g t m V) {i : Nat} (hi : i < m) (u : Value) : RowV (w.setCell ⟨g, i, none⟩ u) g t m (upd V i u) := by
  obtain ⟨cs, hb, h1, h2⟩ := h
  refine ⟨_, Blk.set_ hb i u, by simpa using h1, fun j hj => ?_⟩
  rw [Array.getElem?_setIfInBounds]
  by_cases e : i = j
  · subst e; rw [if_pos rfl, if_pos (by omega), upd_same]
  · rw [if_neg e, upd_ne _ _ (Ne.symm e)]; exact h2 j hj
theorem RowV.far (h : RowV w g t m V) {p : Addr} (hp : g ≠ p.block) (u : Value) : RowV (w.setCell p u) g t m V := by
  obtain ⟨cs, hb, h1, h2⟩ := h
  exact ⟨cs, Blk.far hb hp u, h1, h2⟩
theorem RowV.drew (h : RowV w g t m V) : RowV w.drew g t m V := h
theorem RowV.drewN (h : RowV w g t m V) (n : Nat) : RowV (w.drewN n) g t m V := h
theorem RowV.same (h : RowV w g t m V) (hw : w'.heap = w.heap) : RowV w' g t m V := by
  obtain ⟨cs, hb, h1, h2⟩ := h
  exact ⟨cs, by unfold Blk; rw [hw]; exact hb, h1, h2⟩
theorem RowV.congr {V' : Nat → Value} (h : RowV w g t m V) (e : ∀ i, i < m → V i = V' i) : RowV w g t m V' := by
  obtain ⟨cs, hb, h1, h2⟩ := h
  exact ⟨cs, hb, h1, fun i hi => by rw [← e i hi]; exact h2 i hi⟩
theorem RowV.of_blk {cs : Array Value} (h : Blk w g t cs) (hs : cs.size = m) (hc : ∀ i, i < m → cs[i]? = some (V i)) : RowV w g t m V := ⟨cs, h, hs, hc⟩
theorem RowV.rd (h : RowV w g 3 m V) {zs : List Int} (hl : zs.length = m) (e : ∀ i, i < m → V i = .int .i64 (at0 zs i)) : RdI w w.heap.size (some ⟨g, 0, none⟩) m zs := by
  refine ⟨by simpa using hl, fun h0 => ⟨_, rfl, h.lt, fun j u hu => ?_⟩⟩
  have hj : j < m := by
    rcases Nat.lt_or_ge j m with h' | h'
    · exact h'
    · rw [List.getElem?_eq_none (by simp; omega)] at hu; cases hu
  have e1 : (⟨g, 0, none⟩ : Addr).add j = ⟨g, j, none⟩ := by unfold Addr.add; split <;> simp_all
  rw [e1, h.cell hj, e j hj, ← hu, List.getElem?_map]
  simp [at0, List.getElem?_eq_getElem (show j < zs.length by omega)]
end

/-- 'copy(d, s)': s no longer than d, d a row of the call's own that is full -/
theorem wpList_copyI {w : World} {ops : Array Oper} {rest : List Oper} {o : Oper} {a : Act} {Q : Exit → Act → World → Prop} (hgd : o.guard = none) (d s : Operand) (dT sT : TypeId) (hu : Try.prog.underlying dT = some (.slice 3))
    (ho : o.op = .call { callee := .builtin .copy, args := #[d, s], argTypes := #[dT, sT] })
    (base g N : Nat) (ys : List Int) (hd : a.eval d = .slice (some ⟨g, 0, none⟩) N N) (hown : w.ownsRow base 3 1 (.slice (some ⟨g, 0, none⟩) N N) N (ys.map (Value.int .i64)))
    (sp : Option Addr) (n c B : Nat) (xs : List Int) (hs : a.eval s = .slice sp n c) (hr : RdI w B sp n xs) (hn : n ≤ N) (hN : 0 < N) (w0 : World) (hb : Below base w0 w)
    (h : ∀ w', w'.ownsRow base 3 1 (.slice (some ⟨g, 0, none⟩) N N) N ((xs ++ ys.drop n).map (Value.int .i64)) → Below base w0 w' → wpList Try.prog ops Q rest (a.put o.dst (goInt n)) w') :
    wpList Try.prog ops Q (o :: rest) a w := by
  obtain ⟨h0, ⟨hv, _⟩ | ⟨g2, cap, cur2, hv, hbg2, hg, hnc, hm, hsz, ht⟩⟩ := hown
  · cases hv
  injection hv with hv1 hv2 hv3
  injection hv1 with hv1
  injection hv1 with hv1 _ _
  subst hv1 hv3
  have hbg := hbg2
  have hcur : cur2.toList = ys.map (Value.int .i64) := by
    rw [← ht, List.take_of_length_le (by simp; omega)]
  have hxl := hr.len
  have hyl : ys.length = N := by simpa using h0
  refine wpList_copy_splice hgd d s dT sT ho 3 hu (by kernel_rfl) _ sp N N n c hd hs g 0 (ys.map (Value.int .i64)) 3 (by rw [← hcur]; simpa using hg) (xs.map (Value.int .i64)) (by rw [List.length_map, hxl]; exact (Nat.min_eq_left hn).symm)
    (fun hp => ⟨rfl, ?_⟩) (by simp; omega) (fun v hv => by
      obtain ⟨x, _, rfl⟩ := List.mem_map.1 hv
      rfl) base w0 hb hbg ?_
  · obtain ⟨ad, e, _, hc⟩ := hr.2 (by simp at hp; omega)
    exact ⟨ad, e, hc⟩
  · intro w' hw' hb'
    have hl : ((xs ++ ys.drop n).map (Value.int .i64)).length = N := by simp; omega
    have e2 : splice (ys.map (Value.int .i64)) 0 (xs.map (Value.int .i64)) = (xs ++ ys.drop n).map (Value.int .i64) := by
      simp [splice, hxl]
    rw [show (xs.map (Value.int .i64)).length = n from by simpa using hxl]
    refine h w' ⟨by rw [hl, Nat.mul_one], .inr ⟨g, N, _, rfl, hbg, hw'.out, Nat.le_refl _, hm, ?_, ?_⟩⟩ hb'
    · rw [e2]; simp only [List.size_toArray]; rw [hl, Nat.mul_one]
    · rw [e2]
      show (((xs ++ ys.drop n).map (Value.int .i64))).take (N * 1) = _
      rw [List.take_of_length_le (by rw [hl]; omega)]

/-- the append, telling where the new row lies -/
theorem wpList_pushA {w : World} {ops : Array Oper} {rest : List Oper} {o : Oper} {a : Act} {Q : Exit → Act → World → Prop} (hgd : o.guard = none) (s x : Operand) (t : TypeId) (ht : Try.prog.underlying t = some (.slice 3))
    (ho : o.op = .call { callee := .builtin .append, args := #[s, x], argTypes := #[t, t] })
    (base : Nat) (v : Value) (n : Nat) (zs : List Int) (u : Int) (hown : w.ownsRow base 3 1 v n (zs.map (Value.int .i64))) (hs : a.eval s = v)
    (hx : a.eval x = .slice (some ⟨w.heap.size, 0, none⟩) 1 1) (hn : n ≤ 1000000) (hbase : base ≤ w.heap.size)
    (h : ∀ v' w', w'.ownsRow base 3 1 v' (n + 1) ((zs ++ [u]).map (Value.int .i64)) → w.grownBy w' v.ownBlock → (v'.ownBlock = v.ownBlock ∨ ∀ g, v'.ownBlock = some g → w.heap.size ≤ g) → wpList Try.prog ops Q rest (a.put o.dst v') w') :
    wpList Try.prog ops Q (o :: rest) a (w.alloc (.cells #[.int .i64 u] 3)) := by
  obtain ⟨i0, hi, hz0, hz1, hz2⟩ := info_parts Try.intInfo
  have hb2 : (n + 1) * 8 ≤ 1000001 * 8 := Nat.mul_le_mul (by omega) (Nat.le_refl _)
  refine wpList_append_any _ hgd s x t ho base 3 i0 (.int .i64 0) 1 8 ht hi hz0 hz1 hz2 rfl (by decide) v n _ hs (hown.alloc _) (w.heap.size + 1) (some ⟨w.heap.size, 0, none⟩) 1 1 [.int .i64 u] hx
    ⟨rfl, fun _ => ⟨_, rfl, by simp, cell_one_new _ _ _⟩⟩ (by intro y hy; simp at hy; subst hy; rfl) (by simp only [maxLen]; omega) (by omega) (by simp; omega) ?_
  intro v' w' hown' hg hat
  have hg0 : w.grownBy w' v.ownBlock := (World.grownBy_alloc w (.cells #[.int .i64 u] 3) v.ownBlock).trans hg
  refine h v' w' (by simpa using hown') hg0 (hat.imp id fun e g hgv => ?_)
  rw [e] at hgv
  simp at hgv
  omega
/-- the same as a step of a region that draws its order -/
theorem step_pushA {W : World} {ops : Array Oper} {o : Oper} {a : Act} {K : Act → World → Prop} {Q : Exit → Act → World → Prop} {E : Prop} (hgd : o.guard = none) (s x : Operand) (t : TypeId) (ht : Try.prog.underlying t = some (.slice 3))
    (ho : o.op = .call { callee := .builtin .append, args := #[s, x], argTypes := #[t, t] })
    (base : Nat) (v : Value) (n : Nat) (zs : List Int) (u : Int) (hown : W.ownsRow base 3 1 v n (zs.map (Value.int .i64))) (hs : a.eval s = v)
    (ad : Addr) (hx : a.eval x = .slice (some ad) 1 1) (hc : W.cell? ad = some (.int .i64 u)) (hn : n ≤ 1000000) (hbase : base ≤ W.heap.size)
    (h : ∀ v' w', w'.ownsRow base 3 1 v' (n + 1) ((zs ++ [u]).map (Value.int .i64)) → W.grownBy w' v.ownBlock → (v'.ownBlock = v.ownBlock ∨ ∀ g, v'.ownBlock = some g → W.heap.size ≤ g) → K (a.put o.dst v') w') :
    if Region.wanted o (yielded ops a.tmps) = true then Oper.wp Try.prog o a W K Q else E := by
  have hw : Region.wanted o (yielded ops a.tmps) = true := by simp [Region.wanted, hgd]
  rw [if_pos hw]
  obtain ⟨i0, hi, hz0, hz1, hz2⟩ := info_parts Try.intInfo
  refine wp_append_any W s x t ho base 3 i0 (.int .i64 0) 1 8 ht hi hz0 hz1 hz2 rfl (by decide) v n _ hs hown W.heap.size (some ad) 1 1 [.int .i64 u] hx
    ⟨rfl, fun _ => ⟨_, rfl, lt_of_cell hc, fun j y hj => ?_⟩⟩ (by intro y hy; simp at hy; subst hy; rfl) (by simp only [maxLen]; omega) (by omega) hbase ?_
  · match j, hj with
    | 0, hj => simp at hj; subst hj; simpa [Addr.add] using hc
  · intro v' w' hown' hg hat
    refine h v' w' (by simpa using hown') hg (hat.imp id fun e g hgv => ?_)
    rw [e] at hgv
    simp at hgv
    omega
end Go.Proofs.Ytjjmfgoeabmfdaa
