/-
  Controlled delay is its machine; its making.
-/
import Derived.Test.YthhgbpbaihgogaaCodTakes
import Derived.Test.YthhgbpbaihgogaaFifoImp
namespace Go.Proofs.Ythhgbpbaihgogaa
open Go.RowKit Bkt
set_option linter.unusedVariables false

theorem del_put_meth (g : Nat) : Meth (.iface 37 (.pointer (some ⟨g, 0, none⟩))) "Put" 36 (.pointer (some ⟨g, 0, none⟩)) := by
  intro args w; kernel_rfl
theorem del_take_meth (g : Nat) : Meth (.iface 37 (.pointer (some ⟨g, 0, none⟩))) "Take" 65 (.pointer (some ⟨g, 0, none⟩)) := by
  intro args w; kernel_rfl
theorem del_when_meth (g : Nat) : Meth (.iface 37 (.pointer (some ⟨g, 0, none⟩))) "When" 64 (.pointer (some ⟨g, 0, none⟩)) := by
  intro args w; kernel_rfl
theorem del_len_meth (g : Nat) : Meth (.iface 37 (.pointer (some ⟨g, 0, none⟩))) "Len" 21 (.pointer (some ⟨g, 0, none⟩)) := by
  intro args w; kernel_rfl
theorem del_bytes_meth (g : Nat) : Meth (.iface 37 (.pointer (some ⟨g, 0, none⟩))) "Bytes" 22 (.pointer (some ⟨g, 0, none⟩)) := by
  intro args w; kernel_rfl

structure DInvM (base g : Nat) (P : Pl.DP) (D : Pl.DS) (k : Nat) (F : Nat → Prop) (w : World) (v : Value) (cs : Array Value) : Prop where
  d : Dmm w base g v cs P D
  dk : Pl.DOk P k D
  hs : HsOk D.s
  bs : base ≤ w.heap.size
  k1 : k ≤ 1000
  bg : base ≤ g
  mF : ∀ i, F i ↔ (i = g ∨ v.ownBlock = some i)
def DInv1 (base g : Nat) (P : Pl.DP) (D : Pl.DS) (k : Nat) (F : Nat → Prop) (w : World) : Prop := ∃ v cs, DInvM base g P D k F w v cs
section
variable {w w' : World} {base g k : Nat} {P : Pl.DP} {D D' : Pl.DS} {F : Nat → Prop} {v v' : Value} {cs cs' : Array Value}
theorem DInvM.to (h : DInvM base g P D k F w v cs) (hd : Dmm w' base g v' cs' P D') (ht : Trn w w' g v v') {k' : Nat} (hk : k' ≤ 1000) (dk : Pl.DOk P k' D') (hs : HsOk D'.s) :
    ∃ F', DInv1 base g P D' k' F' w' ∧ Chg w w' F ∧ ∀ i, F' i → F i ∨ w.heap.size ≤ i := by
  refine ⟨fun i => i = g ∨ v'.ownBlock = some i, ⟨v', cs', hd, dk, hs, Nat.le_trans h.bs ht.chg.size, hk, h.bg, fun i => Iff.rfl⟩, ht.chg.mono (fun i _ hi => (h.mF i).2 hi), fun i hi => ?_⟩
  rcases hi with e | e
  · exact .inl ((h.mF i).2 (.inl e))
  · rcases ht.at_ with e2 | e2
    · exact .inl ((h.mF i).2 (.inr (e2 ▸ e)))
    · exact .inr (e2 i e)
theorem DInvM.chg {S : Nat → Prop} (h : DInvM base g P D k F w v cs) (hc : Chg w w' S) (hn : ∀ i, F i → ¬ S i) : DInvM base g P D k F w' v cs :=
  ⟨h.d.chg hc (hn _ ((h.mF _).2 (.inl rfl))) (fun i hi => hn _ ((h.mF _).2 (.inr hi))), h.dk, h.hs, Nat.le_trans h.bs hc.size, h.k1, h.bg, h.mF⟩
theorem DInvM.lt (h : DInvM base g P D k F w v cs) : ∀ i, F i → base ≤ i ∧ i < w.heap.size := fun i hi => by
  rcases (h.mF i).1 hi with e | e
  · subst e; exact ⟨h.bg, h.d.blk.lt⟩
  · exact h.d.vlt i e
theorem DInvM.sk (h : DInvM base g P D k F w v cs) : D.s.length ≤ k := by have := h.dk.ck; have := h.dk.ct; omega
end
theorem del_imp (base g : Nat) (P : Pl.DP) (hP : Pl.DPOk P) : QImp (Pl.delM P) (.iface 37 (.pointer (some ⟨g, 0, none⟩))) base (DInv1 base g P) where
  lt := fun s k F w ⟨v, cs, h⟩ => h.lt
  base := fun s k F w ⟨v, cs, h⟩ => h.bs
  chg := fun s k F w w' S ⟨v, cs, h⟩ hc hn => ⟨v, cs, h.chg hc hn⟩
  put := ⟨_, _, del_put_meth g, fun s k F w now x ⟨v, cs, h⟩ hk hx => by
    have hxl := okB_len hx.ok
    have hxa := (okB_fine.1 hx.ok).f0
    have hn := h.sk
    refine (fput_all base g 0 89 cs v s.s P.p now x w h.d.f h.hs.h hxl h.bs (by omega) hP.p).mono fun e w' ho => ?_
    obtain ⟨A, n, c, e1, hr, ha, hf⟩ := ho
    obtain ⟨v', cs', hd, ht⟩ := h.d.of_fifo hf
    have hl := fput_lens P.p x s.s
    have hm := fput_mem P.p x s.s
    obtain ⟨F', g1, g2, g3⟩ := h.to hd ht (k' := k + 1) (by omega) (h.dk.put x) ⟨⟨by simp only []; omega, fun y hy => by
      rcases hm y (.inr hy) with e | e
      · exact h.hs.h.b y e
      · subst e; exact hxl⟩, fun y hy => by
      rcases hm y (.inr hy) with e | e
      · exact h.hs.a y e
      · subst e; exact hxa⟩
    exact ⟨A, n, c, F', e1, by have := hr.len; omega, hr, fun ad e => .inr (ha ad e), g1, g2, g3⟩⟩
  take := ⟨_, _, del_take_meth g, fun s k F w now ⟨v, cs, h⟩ h0 h1 => by
    have hn := h.sk; have hk := h.k1
    refine (dtake_any base g v cs P s now k w h.d h.hs hP ⟨h0, h1⟩ h.dk hk h.bs).mono fun e w' ho => ?_
    obtain ⟨hh, A, c, v', cs', e1, e2, hr, ha, hd, ht⟩ := ho
    have hall := Pl.takeD_all P now s
    have hlen := congrArg List.length hall
    rw [List.length_append, List.length_append] at hlen
    obtain ⟨F', g1, g2, g3⟩ := h.to hd ht hk (h.dk.take hP ⟨h0, h1⟩) (h.hs.sub (by omega) (fun y hy => by rw [← hall]; exact List.mem_append_right _ (List.mem_append_right _ hy)))
    exact ⟨hh, A, _, c, F', e1, e2, by show (Pl.takeD P now s).2.1.length ≤ 100000; omega, hr, fun ad e => .inr (ha ad e), g1, g2, g3⟩⟩
  when_ := ⟨_, _, del_when_meth g, fun s k F w now ⟨v, cs, h⟩ _ _ => by
    refine (fwhen_any base g 0 89 cs v s.s P.p now w h.d.f h.hs.h.n).mono fun e w' ⟨e1, e2⟩ => ?_
    subst e2
    refine ⟨now, F, ?_, ?_, ⟨v, cs, h⟩, Chg.refl _ _, fun i hi => .inl hi⟩
    · rw [e1]
      show Ending.returned (.tuple #[.int .i64 now, .bool (decide (0 < s.s.length))]) = .returned (.tuple #[.int .i64 now, .bool (if 0 < s.s.length then some now else none).isSome])
      by_cases h0 : 0 < s.s.length
      · rw [if_pos h0, decide_eq_true h0]; rfl
      · rw [if_neg h0, decide_eq_false h0]; rfl
    · intro x hx
      have hx' : (if 0 < s.s.length then some now else none) = some x := hx
      by_cases h0 : 0 < s.s.length
      · rw [if_pos h0] at hx'; injection hx'
      · rw [if_neg h0] at hx'; cases hx'⟩
  len := ⟨_, _, del_len_meth g, fun s k F w ⟨v, cs, h⟩ => by
    obtain ⟨A, c, rfl, hnc, _, _⟩ := h.d.f.lst.own.reads
    exact (len_any g 0 s.s.length c A w ((h.d.f.lst.blk.cell 0).trans h.d.f.lst.c0)).mono fun e w' ⟨e1, e2⟩ => ⟨e1, by subst e2; exact Below.refl _ _⟩⟩
  bytes := ⟨_, _, del_bytes_meth g, fun s k F w ⟨v, cs, h⟩ =>
    (bytes_any g 0 (Pl.tot s.s) w ((h.d.f.lst.blk.cell 1).trans h.d.f.lst.c1)).mono fun e w' ⟨e1, e2⟩ => ⟨e1, by subst e2; exact Below.refl _ _⟩⟩

/-- what the making hands out -/
def NewDelOut (w : World) (P : Pl.DP) (e : Ending) (w' : World) : Prop :=
  ∃ g v cs, e = .returned (.tuple #[.pointer (some ⟨g, 0, none⟩), .nilIface]) ∧ w.heap.size ≤ g ∧ Below w.heap.size w w' ∧ Dmm w' w.heap.size g v cs P ⟨[], -1, false, 0, 0⟩ ∧ v = .slice none 0 0
set_option maxHeartbeats 1000000 in
set_option maxRecDepth 100000 in
theorem newDelay_yes (P : Pl.DP) (w : World) (hP : Pl.DPOk P) (h1 : P.p.room = 1000000) (h2 : P.p.head = false) :
    Calls Try.prog 15 #[.int .i64 P.target, .int .i64 P.span, .int .i64 P.p.packets] w (NewDelOut w P) := by
  have hnf := newFifo_yes P.p w hP.p
  rw [h1, h2] at hnf
  obtain ⟨ht0, ht1⟩ := hP.tg
  obtain ⟨hs0, hs1⟩ := hP.sp
  have HN := Lib.hid hnf
  have H1 := Lib.hid h1; have H2 := Lib.hid h2
  clear hnf hP h1 h2
  go_enter Try.func15, Try.ntmps15
  go_wp2_with fail
  (with_reducible refine HN.out.mono ?_)
  rintro e w1 ⟨g, rfl, hg, hb1, hf⟩
  rw [H1.out, H2.out] at hf
  have hk := hf.lst.blk
  have z0 := hk.cell 0; have z1 := hk.cell 1; have z2 := hk.cell 2; have z3 := hk.cell 3; have z4 := hk.cell 4
  simp at z0 z1 z2 z3 z4
  have HB1 := Lib.hid hb1; have HF := Lib.hid hf
  clear hb1 hf hk
  go_wp2_with fail
  go_ret2
  have hsz := HB1.out.size
  refine ⟨w1.heap.size, .slice none 0 0, _, rfl, hsz, HB1.out.alloc hsz _, ⟨⟨⟨Blk.new _ _ _, rfl, rfl, OwnW.nil _ _ _ _, by decide⟩, rfl, ?_, ?_⟩, rfl, rfl, rfl, rfl, rfl, rfl⟩, rfl⟩
  · rw [H1.out]; rfl
  · rw [H2.out]; rfl
end Go.Proofs.Ythhgbpbaihgogaa
