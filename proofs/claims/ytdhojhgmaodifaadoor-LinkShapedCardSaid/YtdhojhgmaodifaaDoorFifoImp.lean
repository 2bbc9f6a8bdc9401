/-
  The plain queue is its machine.
-/
import Derived.Test.YtdhojhgmaodifaaDoorQImp
namespace Go.Proofs.YtdhojhgmaodifaaDoor
open Go.RowKit Bkt
set_option linter.unusedVariables false

theorem fifo_put_meth (g : Nat) : Meth (.iface 71 (.pointer (some ⟨g, 0, none⟩))) "Put" 86 (.pointer (some ⟨g, 0, none⟩)) := by
  intro args w; kernel_rfl
theorem fifo_take_meth (g : Nat) : Meth (.iface 71 (.pointer (some ⟨g, 0, none⟩))) "Take" 87 (.pointer (some ⟨g, 0, none⟩)) := by
  intro args w; kernel_rfl
theorem fifo_when_meth (g : Nat) : Meth (.iface 71 (.pointer (some ⟨g, 0, none⟩))) "When" 88 (.pointer (some ⟨g, 0, none⟩)) := by
  intro args w; kernel_rfl
theorem fifo_len_meth (g : Nat) : Meth (.iface 71 (.pointer (some ⟨g, 0, none⟩))) "Len" 85 (.pointer (some ⟨g, 0, none⟩)) := by
  intro args w; kernel_rfl
theorem fifo_bytes_meth (g : Nat) : Meth (.iface 71 (.pointer (some ⟨g, 0, none⟩))) "Bytes" 84 (.pointer (some ⟨g, 0, none⟩)) := by
  intro args w; kernel_rfl

/-- the plain queue at block g, its packets, how many puts at most -/
structure FInvM (base g o : Nat) (t : TypeId) (p : Pl.FP) (s : List Hd) (k : Nat) (F : Nat → Prop) (w : World) (v : Value) (cs : Array Value) : Prop where
  f : Ffo w base g o t cs v s p
  n : s.length ≤ k
  b : ∀ x ∈ s, 0 ≤ x.it.len ∧ x.it.len ≤ 10000
  bs : base ≤ w.heap.size
  k1 : k ≤ 1000
  bg : base ≤ g
  mF : ∀ i, F i ↔ (i = g ∨ v.ownBlock = some i)
def FInv1 (base g : Nat) (p : Pl.FP) (s : List Hd) (k : Nat) (F : Nat → Prop) (w : World) : Prop := ∃ v cs, FInvM base g 0 120 p s k F w v cs
section
variable {w w' : World} {base g o k : Nat} {t : TypeId} {p : Pl.FP} {s s' : List Hd} {F : Nat → Prop} {v : Value} {cs : Array Value}
theorem FInvM.hds (h : FInvM base g o t p s k F w v cs) : HdsOk s := ⟨Nat.le_trans h.n h.k1, h.b⟩
theorem FInvM.to (h : FInvM base g o t p s k F w v cs) (h' : FfoTo w w' base g o t cs v s' p) {k' : Nat} (hn : s'.length ≤ k') (hk : k' ≤ 1000) (hb : ∀ x ∈ s', 0 ≤ x.it.len ∧ x.it.len ≤ 10000) :
    ∃ F' v' cs', FInvM base g o t p s' k' F' w' v' cs' ∧ Chg w w' F ∧ (∀ i, F' i → F i ∨ w.heap.size ≤ i) ∧ ∀ i, i ≠ o → i ≠ o + 1 → cs'[i]? = cs[i]? := by
  obtain ⟨v', cs', f', c', a', e'⟩ := h'
  refine ⟨fun i => i = g ∨ v'.ownBlock = some i, v', cs', ⟨f', hn, hb, Nat.le_trans h.bs c'.size, hk, h.bg, fun i => Iff.rfl⟩, c'.mono (fun i _ hi => (h.mF i).2 hi), fun i hi => ?_, e'⟩
  rcases hi with e | e
  · exact .inl ((h.mF i).2 (.inl e))
  · rcases a' with e2 | e2
    · exact .inl ((h.mF i).2 (.inr (e2 ▸ e)))
    · exact .inr (e2 i e)
theorem FInvM.chg {S : Nat → Prop} (h : FInvM base g o t p s k F w v cs) (hc : Chg w w' S) (hn : ∀ i, F i → ¬ S i) : FInvM base g o t p s k F w' v cs :=
  ⟨h.f.chg hc (hn _ ((h.mF _).2 (.inl rfl))) (fun i hi => hn _ ((h.mF _).2 (.inr hi))), h.n, h.b, Nat.le_trans h.bs hc.size, h.k1, h.bg, h.mF⟩
theorem FInvM.lt (h : FInvM base g o t p s k F w v cs) : ∀ i, F i → base ≤ i ∧ i < w.heap.size := fun i hi => by
  rcases (h.mF i).1 hi with e | e
  · subst e; exact ⟨h.bg, h.f.lst.blk.lt⟩
  · exact h.f.lst.own.lt i e
theorem fput_mem (p : Pl.FP) (x : Hd) (l : List Hd) : ∀ y, y ∈ (Pl.fputL p x l).1 ∨ y ∈ (Pl.fputL p x l).2 → y ∈ l ∨ y = x := by
  intro y hy
  have := (Pl.fput_app p x l).mem_iff (a := y)
  rw [List.mem_append, List.mem_append, List.mem_singleton] at this
  exact this.1 hy
theorem fput_lens (p : Pl.FP) (x : Hd) (l : List Hd) : (Pl.fputL p x l).1.length + (Pl.fputL p x l).2.length = l.length + 1 := by
  have := (Pl.fput_app p x l).length_eq
  simpa using this
/-- Put, in all three ways -/
theorem fput_all (base g o : Nat) (t : TypeId) (cs : Array Value) (v : Value) (l : List Hd) (p : Pl.FP) (now : Int) (x : Hd) (w : World) (h : Ffo w base g o t cs v l p) (hl : HdsOk l) (hx : 0 ≤ x.it.len ∧ x.it.len ≤ 10000) (hbase : base ≤ w.heap.size) (hn : l.length < 1000) (hok : Pl.FOk p) :
    Calls Tryd.prog 86 #[.pointer (some ⟨g, o, none⟩), .int .i64 now, hdV x] w (FPutOut w base g o t cs v (Pl.fputL p x l) p) := by
  by_cases hh : p.head = false
  · by_cases hf : p.packets ≤ (l.length : Int) ∨ p.room < Pl.tot l + x.it.len
    · have e : Pl.fputL p x l = ([x], l) := by unfold Pl.fputL; rw [if_pos hh, if_pos hf]
      rw [e]
      exact fput_full base g o t cs v l p now x w h hl hx hh hf
    · have e : Pl.fputL p x l = ([], l ++ [x]) := by unfold Pl.fputL; rw [if_pos hh, if_neg hf]
      rw [e]
      exact fput_add base g o t cs v l p now x w h hl hx hbase hh (by omega) (by omega)
  · have e : Pl.fputL p x l = Pl.cutQ p.packets p.room (l ++ [x]) := by unfold Pl.fputL; rw [if_neg hh]
    rw [e]
    exact fput_head base g o t cs v l p now x w h hl hx hbase hn (by simpa using hh) hok
theorem ftake_all (base g o : Nat) (t : TypeId) (cs : Array Value) (v : Value) (l : List Hd) (p : Pl.FP) (now : Int) (w : World) (h : Ffo w base g o t cs v l p) (hl : HdsOk l) :
    Calls Tryd.prog 87 #[.pointer (some ⟨g, o, none⟩), .int .i64 now] w (FTakeOut w base g o t cs v (Pl.ftakeL l) p) := by
  cases l with
  | nil => exact ftake_none base g o t cs v p now w h
  | cons x r => exact ftake_some base g o t cs v p now x r w h hl
theorem optV_is : ∀ r : Option Hd, ∃ h, optV r = hdV h ∧ ∀ x, r = some x → h = x
  | none => ⟨Hd.zero, rfl, fun _ e => by cases e⟩
  | some h => ⟨h, rfl, fun x e => by injection e⟩
theorem okB_len {x : It} (h : Pl.okB x = true) : 0 ≤ x.len ∧ x.len ≤ 10000 := by
  have := (okB_fine.1 h).f1
  omega
end
theorem fifo_imp (base g : Nat) (p : Pl.FP) (hp : Pl.FOk p) : QImp (Pl.fifoM p) (.iface 71 (.pointer (some ⟨g, 0, none⟩))) base (FInv1 base g p) where
  lt := fun s k F w ⟨v, cs, h⟩ => h.lt
  base := fun s k F w ⟨v, cs, h⟩ => h.bs
  chg := fun s k F w w' S ⟨v, cs, h⟩ hc hn => ⟨v, cs, h.chg hc hn⟩
  put := ⟨_, _, fifo_put_meth g, fun s k F w now x ⟨v, cs, h⟩ hk hx => by
    have hxl := okB_len hx.ok
    have hn := h.n
    refine (fput_all base g 0 120 cs v s p now x w h.f h.hds hxl h.bs (by omega) hp).mono fun e w' ho => ?_
    obtain ⟨A, n, c, e1, hr, ha, hf⟩ := ho
    have hl := fput_lens p x s
    have hm := fput_mem p x s
    obtain ⟨F', v', cs', g1, g2, g3, _⟩ := h.to hf (k' := k + 1) (by omega) (by omega) (fun y hy => by
      rcases hm y (.inr hy) with e | e
      · exact h.b y e
      · subst e; exact hxl)
    exact ⟨A, n, c, F', e1, by have := hr.len; omega, hr, fun ad e => .inr (ha ad e), ⟨v', cs', g1⟩, g2, g3⟩⟩
  take := ⟨_, _, fifo_take_meth g, fun s k F w now ⟨v, cs, h⟩ _ _ => by
    have hn := h.n; have hk := h.k1
    refine (ftake_all base g 0 120 cs v s p now w h.f h.hds).mono fun e w' ho => ?_
    obtain ⟨e1, e2, hf⟩ := ho
    obtain ⟨h0, e3, e4⟩ := optV_is (Pl.ftakeL s).1
    obtain ⟨F', v', cs', g1, g2, g3, _⟩ := h.to hf (k' := k) (by
      cases s with
      | nil => exact hn
      | cons x r => rw [List.length_cons] at hn; show r.length ≤ _; omega) hk (fun y hy => h.b y (by
      cases s with
      | nil => exact hy
      | cons x r => exact List.mem_cons_of_mem _ hy))
    refine ⟨h0, none, 0, 0, F', by rw [e1, e3]; rfl, e4, by omega, ?_, (fun ad e => by cases e), ⟨v', cs', g1⟩, g2, g3⟩
    show RdR HdR w' w'.heap.size none 0 (Pl.ftakeL s).2.1
    rw [e2]; exact RdR.nil⟩
  when_ := ⟨_, _, fifo_when_meth g, fun s k F w now ⟨v, cs, h⟩ _ _ => by
    refine (fwhen_any base g 0 120 cs v s p now w h.f h.hds.n).mono fun e w' ⟨e1, e2⟩ => ?_
    subst e2
    refine ⟨now, F, ?_, ?_, ⟨v, cs, h⟩, Chg.refl _ _, fun i hi => .inl hi⟩
    · rw [e1]
      show Ending.returned (.tuple #[.int .i64 now, .bool (decide (0 < s.length))]) = .returned (.tuple #[.int .i64 now, .bool (if 0 < s.length then some now else none).isSome])
      by_cases h0 : 0 < s.length
      · rw [if_pos h0, decide_eq_true h0]; rfl
      · rw [if_neg h0, decide_eq_false h0]; rfl
    · intro x hx
      have hx' : (if 0 < s.length then some now else none) = some x := hx
      by_cases h0 : 0 < s.length
      · rw [if_pos h0] at hx'; injection hx'
      · rw [if_neg h0] at hx'; cases hx'⟩
  len := ⟨_, _, fifo_len_meth g, fun s k F w ⟨v, cs, h⟩ => by
    obtain ⟨A, c, rfl, hnc, _, _⟩ := h.f.lst.own.reads
    exact (len_any g 0 s.length c A w ((h.f.lst.blk.cell 0).trans h.f.lst.c0)).mono fun e w' ⟨e1, e2⟩ => ⟨e1, by subst e2; exact Below.refl _ _⟩⟩
  bytes := ⟨_, _, fifo_bytes_meth g, fun s k F w ⟨v, cs, h⟩ =>
    (bytes_any g 0 (Pl.tot s) w ((h.f.lst.blk.cell 1).trans h.f.lst.c1)).mono fun e w' ⟨e1, e2⟩ => ⟨e1, by subst e2; exact Below.refl _ _⟩⟩
end Go.Proofs.YtdhojhgmaodifaaDoor
