/-
  Texts of this claim, one behind the other: LnkOne, Linked.
-/
import Derived.Test.YtgdijbaodfghjaaGreatDoorZ29
import Derived.Test.YtgdijbaodfghjaaGreatDoorZ14
import Derived.Test.YtgdijbaodfghjaaGreatDoorZ19
/-
  A run over a wire that may not be: link.Run's errors; and the fact that one packet goes over a wire.
-/
namespace Go.Proofs.YtgdijbaodfghjaaGreatDoor
open Go.RowKit Bkt
set_option linter.unusedVariables false

namespace Pl
def oneLs : List It := [⟨3, 5, 0, 0, 0⟩]
def oneP : FP := ⟨5, 100, false⟩
def oneH : Hd := ⟨⟨3, 5, 0, 0, 0⟩, 0⟩
structure OneS (S : Lk (List Hd)) (next : Nat) (now free : Int) (q : List Hd) (sent : List Snt) : Prop where
  n : S.next = next
  w : S.now = now
  f : S.free = free
  q : S.q = q
  s : S.sent = sent
  l : S.lost = []
def OneP (S : Lk (List Hd)) : Prop := OneS S 0 0 0 [] [] ∨ OneS S 0 3 0 [] [] ∨ OneS S 1 3 0 [oneH] []
def OneQ (S : Lk (List Hd)) : Prop := OneS S 0 0 0 [] [] ∨ OneS S 1 3 6 [] [⟨0, 3, 6, 0⟩]
def OneR (S : Lk (List Hd)) : Prop := OneS S 1 3 6 [] [⟨0, 3, 6, 0⟩]
theorem ix_one : ix oneLs 0 = ⟨3, 5, 0, 0, 0⟩ := rfl
theorem len_one : oneLs.length = 1 := rfl
theorem one_q0 {S : Lk (List Hd)} (h : OneS S 0 0 0 [] []) : nextT (fifoM oneP) oneLs S = some 3 := by
  have e : aftT (fifoM oneP) S = none := by
    unfold aftT aT
    have : (fifoM oneP).len S.q = 0 := by rw [h.q]; rfl
    rw [if_pos this]
  unfold nextT
  rw [e, h.n]
  rfl
theorem one_q1 {S : Lk (List Hd)} (h : OneS S 1 3 6 [] [⟨0, 3, 6, 0⟩]) : nextT (fifoM oneP) oneLs S = none := by
  have e : aftT (fifoM oneP) S = none := by
    unfold aftT aT
    have : (fifoM oneP).len S.q = 0 := by rw [h.q]; rfl
    rw [if_pos this]
  unfold nextT
  rw [e, h.n]
  rfl
theorem one_aft {S : Lk (List Hd)} (h : S.q = []) : aftS (fifoM oneP) S = S := by
  unfold aftS aQ
  have : (fifoM oneP).len S.q = 0 := by rw [h]; rfl
  rw [if_pos this]
  rfl
theorem one_inv : LnkInv (fifoM oneP) oneLs 2 1 100 OneP OneQ OneR where
  put := fun S h hn hat => by
    rcases h with h | h | h
    · rw [h.n, ix_one, h.w] at hat; exact absurd hat (by decide)
    · refine .inr (.inr ⟨?_, h.w, h.f, ?_, h.s, ?_⟩)
      · show S.next + 1 = 1; rw [h.n]
      · show ((fifoM oneP).put S.now ⟨ix oneLs S.next, (S.next : Nat)⟩ S.q).2 = _
        rw [h.n, h.q]; rfl
      · show S.lost ++ ((fifoM oneP).put S.now ⟨ix oneLs S.next, (S.next : Nat)⟩ S.q).1.map Hd.num = _
        rw [h.n, h.q, h.l]; rfl
    · rw [h.n, len_one] at hn; exact absurd hn (by decide)
  most := fun S h => by
    rcases h with h | h | h
    · exact .inl ⟨h.n, h.w, h.f, h.q, h.s, h.l⟩
    · exact .inr (.inl ⟨h.n, h.w, h.f, h.q, h.s, h.l⟩)
    · exact .inr (.inr ⟨h.n, h.w, h.f, h.q, h.s, h.l⟩)
  take := fun S h hx hf => by
    rcases h with h | h | h
    · have e : (fifoM oneP).take S.now S.q = (none, [], []) := by rw [h.q]; rfl
      unfold takeS
      rw [e]
      exact .inl ⟨h.n, h.w, h.f, rfl, h.s, by show S.lost ++ _ = _; rw [h.l]; rfl⟩
    · have := hx (by rw [h.n, len_one]; decide)
      rw [h.n, ix_one, h.w] at this
      exact absurd this (by decide)
    · have e : (fifoM oneP).take S.now S.q = (some oneH, [], []) := by rw [h.q]; rfl
      unfold takeS
      rw [e]
      refine .inr ⟨h.n, h.w, ?_, rfl, ?_, by show S.lost ++ _ = _; rw [h.l]; rfl⟩
      · show S.now + takes 2 1 oneH.it.len = 6
        rw [h.w]; decide
      · show S.sent ++ _ = _
        have e2 : takes 2 1 oneH.it.len = 3 := by decide
        rw [h.s, h.w, e2]; rfl
  busy := fun S h _ hf => by
    rcases h with h | h | h <;> (rw [h.w, h.f] at hf; exact absurd hf (by decide))
  jump := fun S t h hn _ _ => by
    rcases h with h | h
    · rw [one_q0 h] at hn
      obtain rfl := Option.some.inj hn
      rw [one_aft h.q]
      exact .inr (.inl ⟨h.n, rfl, h.f, h.q, h.s, h.l⟩)
    · rw [one_q1 h] at hn; cases hn
  stop := fun S h hn => by
    rcases h with h | h
    · exact absurd (hn 3 (one_q0 h)) (by decide)
    · rw [one_aft h.q]; exact h
theorem one_start : OneP (Lk.start []) := .inl ⟨rfl, rfl, rfl, rfl, rfl, rfl⟩
theorem one_fine : ListFine oneLs := by
  refine ⟨by decide, fun i hi => ?_, fun i hi => ?_⟩
  · obtain rfl : i = 0 := by rw [len_one] at hi; omega
    rw [ix_one]
    constructor <;> decide
  · rw [len_one] at hi; omega
end Pl
def logN : Value := .agg #[.slice none 0 0, .slice none 0 0, .int .i64 0, .int .i64 0]
def RunNo (w : World) (e : Ending) (w' : World) : Prop := (∃ T v, e = .returned (.tuple #[logN, .iface T v])) ∧ Below w.heap.size w w'
set_option maxHeartbeats 2000000 in
set_option maxRecDepth 100000 in
theorem run_no (T : TypeId) (v : Value) (rb rt until_ : Int) (A : Option Addr) (n c : Nat) (l : List It) (w : World) (hr : RdIt w w.heap.size A n l) (hg : Handle w) (hbad : ¬ SpeedOk rb rt ∨ ¬ ListFine l) :
    Calls Tryz.prog 20 #[.iface T v, .agg #[.int .i64 rb, .int .i64 rt], .slice A n c, .int .i64 until_] w (RunNo w) := by
  have hsy := fun W h => speed_yes rb rt W h
  have hsn := fun W h => speed_no rb rt W h
  have HSY := Lib.hid hsy; have HSN := Lib.hid hsn; have HR := Lib.hid hr; have HG := Lib.hid hg
  have hb0 : Below w.heap.size w ((w.alloc (.cells #[.int .i64 rb, .int .i64 rt] 23)).alloc (.cells logZ 28)) := bl_alloc (bl_alloc (Below.refl _ _))
  have hkz : Blk ((w.alloc (.cells #[.int .i64 rb, .int .i64 rt] 23)).alloc (.cells logZ 28)) (w.heap.size + 1) 28 logZ := by
    have := Blk.new (w.alloc (.cells #[.int .i64 rb, .int .i64 rt] 23)) 28 logZ
    simpa using this
  have HB0 := Lib.hid hb0; have HKZ := Lib.hid hkz
  clear hsy hsn hr hg hb0 hkz
  have hfin : ∀ W Wf : World, Below w.heap.size w W → Blk W (w.heap.size + 1) 28 logZ → Wf = ((((W.setCell ⟨w.heap.size + 1, 0, none⟩ (.slice none 0 0)).setCell ⟨w.heap.size + 1, 1, none⟩ (.slice none 0 0)).setCell ⟨w.heap.size + 1, 2, none⟩ (.int .i64 0)).setCell ⟨w.heap.size + 1, 3, none⟩ (.int .i64 0)) →
      Below w.heap.size w Wf ∧ Blk Wf (w.heap.size + 1) 28 logZ := fun W Wf hb hk e => by
    have hc := chg_4L W (w.heap.size + 1) (.slice none 0 0) (.slice none 0 0) (.int .i64 0) (.int .i64 0)
    have hk2 := blk_4L (by unfold logZ at hk; exact hk) (.slice none 0 0) (.slice none 0 0) (.int .i64 0) (.int .i64 0)
    rw [← e] at hc hk2
    exact ⟨hb.trans (hc.below hb.size (fun i hi e => by omega)), hk2⟩
  have HFIN := Lib.hid hfin
  clear hfin
  unfold logZ at *
  go_enter Tryz.func20, Tryz.ntmps20
  by_cases hs : SpeedOk rb rt
  · have hl : ¬ ListFine l := hbad.resolve_left (fun h => h hs)
    have HSP := Lib.hid (fun W => HSY.out W hs)
    have HL := Lib.hid hl
    clear hbad hl hs HSY HSN
    go_wp2_with fail
    refine (HSP.out _).mono ?_
    rintro e w1 ⟨rfl, hb1⟩
    have hbw1 := bl_next HB0.out hb1
    have hkz1 := HKZ.out.below hb1 HKZ.out.lt
    have hr1 := HR.out.over hbw1 (Nat.le_refl _)
    have hla := list_any A n c l w1 hr1 (HG.out.below hbw1)
    have HBW1 := Lib.hid hbw1; have HKZ1 := Lib.hid hkz1; have HLA := Lib.hid hla
    clear hb1 hbw1 hkz1 hr1 hla
    go_wp2_with fail
    (with_reducible refine HLA.out.mono ?_)
    rintro e w2 (⟨hbad, _⟩ | ⟨_, Te, ve, rfl, hb2⟩)
    · exact absurd hbad HL.out
    · have hbw2 := bl_next HBW1.out hb2
      have hkz2 := HKZ1.out.below hb2 HKZ1.out.lt
      have HBW2 := Lib.hid hbw2; have HKZ2 := Lib.hid hkz2
      have z0 := hkz2.cell 0; have z1 := hkz2.cell 1; have z2 := hkz2.cell 2; have z3 := hkz2.cell 3
      have fz0 := hkz2.frozen 0; have fz1 := hkz2.frozen 1; have fz2 := hkz2.frozen 2; have fz3 := hkz2.frozen 3
      simp at z0 z1 z2 z3
      clear hb2 hbw2 hkz2
      go_wp2_with fail
      refine bodyPost_isL fun Wf hWf => ?_
      obtain ⟨hbf, hkf⟩ := HFIN.out w2 Wf HBW2.out HKZ2.out hWf
      have r0 := hkf.cell 0; have r1 := hkf.cell 1; have r2 := hkf.cell 2; have r3 := hkf.cell 3
      simp at r0 r1 r2 r3
      clear hWf
      refine bodyPost_ret (v := .tuple #[logN, .iface Te ve]) (by simp [results, Tryz.results20, go_sem, logN, r0, r1, r2, r3]) rfl ?_
      exact ⟨⟨_, _, rfl⟩, hbf⟩
  · have HSP := Lib.hid (fun W => HSN.out W hs)
    clear hbad hs HSY HSN
    go_wp2_with fail
    refine (HSP.out _).mono ?_
    rintro e w2 ⟨ke, rfl, hb2⟩
    have hbw2 := bl_next HB0.out hb2
    have hkz2 := HKZ.out.below hb2 HKZ.out.lt
    have HBW2 := Lib.hid hbw2; have HKZ2 := Lib.hid hkz2
    have z0 := hkz2.cell 0; have z1 := hkz2.cell 1; have z2 := hkz2.cell 2; have z3 := hkz2.cell 3
    have fz0 := hkz2.frozen 0; have fz1 := hkz2.frozen 1; have fz2 := hkz2.frozen 2; have fz3 := hkz2.frozen 3
    simp at z0 z1 z2 z3
    clear hb2 hbw2 hkz2
    go_wp2_with fail
    refine bodyPost_isL fun Wf hWf => ?_
    obtain ⟨hbf, hkf⟩ := HFIN.out w2 Wf HBW2.out HKZ2.out hWf
    have r0 := hkf.cell 0; have r1 := hkf.cell 1; have r2 := hkf.cell 2; have r3 := hkf.cell 3
    simp at r0 r1 r2 r3
    clear hWf
    refine bodyPost_ret (v := .tuple #[logN, .iface 69 (.int .i64 ke)]) (by simp [results, Tryz.results20, go_sem, logN, r0, r1, r2, r3]) rfl ?_
    exact ⟨⟨_, _, rfl⟩, hbf⟩
end Go.Proofs.YtgdijbaodfghjaaGreatDoor

/-
  The fact that one packet goes over a wire; a run that ends too late or too early.
-/
namespace Go.Proofs.YtgdijbaodfghjaaGreatDoor
open Go.RowKit Bkt
set_option linter.unusedVariables false

theorem rdSnt_at {w : World} {B n : Nat} {b off : Nat} {l : List Pl.Snt} (h : RdR SntR w B (some ⟨b, off, none⟩) n l) {k : Nat} (hk : k < n) :
    w.cell? ⟨b, off + k * 4, none⟩ = some (.int .i64 (ixR SntR l k).num) ∧ w.cell? ⟨b, off + k * 4 + 1, none⟩ = some (.int .i64 (ixR SntR l k).from_) ∧ w.cell? ⟨b, off + k * 4 + 2, none⟩ = some (.int .i64 (ixR SntR l k).to_) ∧ w.cell? ⟨b, off + k * 4 + 3, none⟩ = some (.int .i64 (ixR SntR l k).mark) :=
  ⟨h.all hk 0 _ rfl, h.all hk 1 _ rfl, h.all hk 2 _ rfl, h.all hk 3 _ rfl⟩
theorem oneFP_ok : Pl.FOk Pl.oneP := ⟨by decide, by decide⟩
theorem fifo_nil (g : Nat) : ∀ W : World, (nilAhead (Tryz.prog.types.size + Made.depth) 61 (.pointer (some ⟨g, 0, none⟩)) "Put").run Tryz.prog W = .ok (some false) W := fun W => by kernel_rfl
theorem one_speed : SpeedOk 2 1 := ⟨⟨by decide, by decide⟩, ⟨by decide, by decide⟩⟩
theorem one_run (base gq : Nat) (b off c : Nat) (F : Nat → Prop) (w : World) (hr : RdIt w w.heap.size (some ⟨b, off, none⟩) 1 Pl.oneLs) (hg : Handle w) (hb : ¬ F b) (hi : FInv1 base gq Pl.oneP [] 0 F w) :
    Calls Tryz.prog 20 #[.iface 61 (.pointer (some ⟨gq, 0, none⟩)), .agg #[.int .i64 2, .int .i64 1], .slice (some ⟨b, off, none⟩) 1 c, .int .i64 100] w (RunOut (M := Pl.fifoM Pl.oneP) Pl.OneR 100 w F) :=
  run_yes (M := Pl.fifoM Pl.oneP) (fifo_imp base gq Pl.oneP oneFP_ok) Pl.oneLs 2 1 100 Pl.one_inv (fun S h x hx => by
    rcases h with h | h | h
    · have e : ((Pl.fifoM Pl.oneP).take S.now S.q).1 = none := by rw [h.q]; rfl
      rw [e] at hx; cases hx
    · have e : ((Pl.fifoM Pl.oneP).take S.now S.q).1 = none := by rw [h.q]; rfl
      rw [e] at hx; cases hx
    · have e : ((Pl.fifoM Pl.oneP).take S.now S.q).1 = some Pl.oneH := by rw [h.q]; rfl
      rw [e] at hx
      obtain rfl := Option.some.inj hx
      exact ⟨by decide, by decide⟩) _ 1 c [] F w hr hg (fun _ ad e => by injection e with e; subst e; exact hb) Pl.one_fine one_speed (by decide) hi Pl.one_start (fun i hi2 => ((fifo_imp base gq Pl.oneP oneFP_ok).lt _ _ _ _ hi i hi2).2)
    (fun S h => by rcases h with h | h | h <;> (rw [h.l, h.s]; decide)) (fifo_nil gq)
set_option maxHeartbeats 4000000 in
set_option maxRecDepth 100000 in
theorem linked_yes (w : World) (hg : Handle w) : Calls Tryz.prog 8 #[] w fun e w' => e = .returned (.bool true) ∧ Below w.heap.size w w' := by
  have hnf := newFifo_yes Pl.oneP w oneFP_ok
  have hon := fun base gq b off c F W hr hG hb hi => one_run base gq b off c F W hr hG hb hi
  have HNF := Lib.hid hnf; have HON := Lib.hid hon; have HG := Lib.hid hg
  clear hnf hon hg
  unfold Pl.oneP at HNF
  dsimp only at HNF
  go_enter Tryz.func8, Tryz.ntmps8
  go_wp2_with fail
  (with_reducible refine HNF.out.mono ?_)
  rintro e w1 ⟨gq, rfl, hgq, hb1, hf1⟩
  have hi1 := Ffo.inv (p := Pl.oneP) hf1 hgq
  have hb2 : Below w1.heap.size w1 (w1.alloc (.cells #[.int .i64 3, .int .i64 5, .int .i64 0, .int .i64 0, .int .i64 0] 34)) := bl_alloc (Below.refl _ _)
  have hi2 := (fifo_imp _ gq Pl.oneP oneFP_ok).chg _ _ _ _ _ (fun _ => False) hi1 (Chg.of_below hb2) (fun _ _ e => e)
  have hgl := ((fifo_imp _ gq Pl.oneP oneFP_ok).lt _ _ _ _ hi1 gq rfl).2
  have hrd : RdIt (w1.alloc (.cells #[.int .i64 3, .int .i64 5, .int .i64 0, .int .i64 0, .int .i64 0] 34)) (w1.alloc (.cells #[.int .i64 3, .int .i64 5, .int .i64 0, .int .i64 0, .int .i64 0] 34)).heap.size (some ⟨w1.heap.size, 0, none⟩) 1 Pl.oneLs :=
    RdR.of_blk (R := ItR) (l := Pl.oneLs) (Blk.new w1 34 #[.int .i64 3, .int .i64 5, .int .i64 0, .int .i64 0, .int .i64 0]) rfl
  have hbw := bl_next hb1 hb2
  have hrun := HON.out _ gq w1.heap.size 0 1 _ _ hrd (HG.out.below hbw) (fun e => by omega) hi2
  have HRUN := Lib.hid hrun; have HBW := Lib.hid hbw
  have hF : ∀ i, i = gq → w.heap.size ≤ i := fun i e => by omega
  have HF := Lib.hid hF
  clear hf1 hi1 hb2 hi2 hrd hbw hrun hb1 hF
  go_wp2_with fail
  (with_reducible refine HRUN.out.mono ?_)
  rintro e w3 ⟨S, As, Al, cs, cl, rfl, h3⟩
  obtain ⟨hR, _, hrs, hrl, hch, _⟩ := h3.out
  have hss := hR.s
  have hbw3 : Below w.heap.size w w3 := HBW.out.trans (hch.below HBW.out.size (fun i hi e => by have := HF.out i e; omega))
  clear h3 hrl hch hR
  rw [hss] at hrs
  rw [hss]
  obtain ⟨b, off, rfl, hbB⟩ := hrs.addr (k := 0) (by decide)
  obtain ⟨c0, c1, c2, c3⟩ := rdSnt_at hrs (k := 0) (by decide)
  have e0 : ixR SntR [(⟨0, 3, 6, 0⟩ : Pl.Snt)] 0 = ⟨0, 3, 6, 0⟩ := rfl
  rw [e0] at c0 c1 c2 c3
  dsimp only at c0 c1 c2 c3
  simp only [Nat.zero_mul, Nat.add_zero] at c0 c1 c2 c3
  have HBW3 := Lib.hid hbw3
  clear hrs hbw3 hss e0 c0 c3
  go_wp2_with fail
  go_ret
  exact ⟨rfl, bl_alloc HBW3.out⟩

set_option maxHeartbeats 2000000 in
set_option maxRecDepth 100000 in
theorem run_bad (T : TypeId) (v : Value) (rb rt until_ : Int) (A : Option Addr) (n c : Nat) (l : List It) (w : World) (hr : RdIt w w.heap.size A n l) (hg : Handle w) (hs : SpeedOk rb rt) (hl : ListFine l) (hbad : ¬ (0 ≤ until_ ∧ until_ ≤ 10000000)) :
    Calls Tryz.prog 20 #[.iface T v, .agg #[.int .i64 rb, .int .i64 rt], .slice A n c, .int .i64 until_] w (RunNo w) := by
  have hsy := fun W h => speed_yes rb rt W h
  have HSY := Lib.hid hsy; have HR := Lib.hid hr; have HG := Lib.hid hg
  have hb0 : Below w.heap.size w ((w.alloc (.cells #[.int .i64 rb, .int .i64 rt] 23)).alloc (.cells logZ 28)) := bl_alloc (bl_alloc (Below.refl _ _))
  have hkz : Blk ((w.alloc (.cells #[.int .i64 rb, .int .i64 rt] 23)).alloc (.cells logZ 28)) (w.heap.size + 1) 28 logZ := by
    have := Blk.new (w.alloc (.cells #[.int .i64 rb, .int .i64 rt] 23)) 28 logZ
    simpa using this
  have HB0 := Lib.hid hb0; have HKZ := Lib.hid hkz
  clear hsy hr hg hb0 hkz
  have hfin : ∀ W Wf : World, Below w.heap.size w W → Blk W (w.heap.size + 1) 28 logZ → Wf = ((((W.setCell ⟨w.heap.size + 1, 0, none⟩ (.slice none 0 0)).setCell ⟨w.heap.size + 1, 1, none⟩ (.slice none 0 0)).setCell ⟨w.heap.size + 1, 2, none⟩ (.int .i64 0)).setCell ⟨w.heap.size + 1, 3, none⟩ (.int .i64 0)) →
      Below w.heap.size w Wf ∧ Blk Wf (w.heap.size + 1) 28 logZ := fun W Wf hb hk e => by
    have hc := chg_4L W (w.heap.size + 1) (.slice none 0 0) (.slice none 0 0) (.int .i64 0) (.int .i64 0)
    have hk2 := blk_4L (by unfold logZ at hk; exact hk) (.slice none 0 0) (.slice none 0 0) (.int .i64 0) (.int .i64 0)
    rw [← e] at hc hk2
    exact ⟨hb.trans (hc.below hb.size (fun i hi e => by omega)), hk2⟩
  have HFIN := Lib.hid hfin
  clear hfin
  unfold logZ at *
  go_enter Tryz.func20, Tryz.ntmps20
  have HSP := Lib.hid (fun W => HSY.out W hs)
  have HL := Lib.hid hl
  clear hl hs HSY
  go_wp2_with fail
  refine (HSP.out _).mono ?_
  rintro e w1 ⟨rfl, hb1⟩
  have hbw1 := bl_next HB0.out hb1
  have hkz1 := HKZ.out.below hb1 HKZ.out.lt
  have hr1 := HR.out.over hbw1 (Nat.le_refl _)
  have hla := list_any A n c l w1 hr1 (HG.out.below hbw1)
  have HBW1 := Lib.hid hbw1; have HKZ1 := Lib.hid hkz1; have HLA := Lib.hid hla
  clear hb1 hbw1 hkz1 hr1 hla
  go_wp2_with fail
  (with_reducible refine HLA.out.mono ?_)
  rintro e w2 (⟨_, rfl, hb2⟩ | ⟨hno, _⟩)
  rotate_left
  · exact absurd HL.out hno
  have hbw2 := bl_next HBW1.out hb2
  have hkz2 := HKZ1.out.below hb2 HKZ1.out.lt
  have HBW2 := Lib.hid hbw2; have HKZ2 := Lib.hid hkz2
  have z0 := hkz2.cell 0; have z1 := hkz2.cell 1; have z2 := hkz2.cell 2; have z3 := hkz2.cell 3
  have fz0 := hkz2.frozen 0; have fz1 := hkz2.frozen 1; have fz2 := hkz2.frozen 2; have fz3 := hkz2.frozen 3
  simp at z0 z1 z2 z3
  clear hb2 hbw2 hkz2
  by_cases c1 : until_ < 0
  · have d1 : decide (until_ < 0) = true := decide_eq_true c1
    clear hbad
    go_wp2_with fail
    refine bodyPost_isL fun Wf hWf => ?_
    obtain ⟨hbf, hkf⟩ := HFIN.out w2 Wf HBW2.out HKZ2.out hWf
    have r0 := hkf.cell 0; have r1 := hkf.cell 1; have r2 := hkf.cell 2; have r3 := hkf.cell 3
    simp at r0 r1 r2 r3
    clear hWf
    refine bodyPost_ret (v := .tuple #[logN, .iface 69 (.int .i64 2)]) (by simp [results, Tryz.results20, go_sem, logN, r0, r1, r2, r3]) rfl ?_
    exact ⟨⟨_, _, rfl⟩, hbf⟩
  · have d1 : decide (until_ < 0) = false := decide_eq_false c1
    have d2 : decide ((10000000 : Int) < until_) = true := decide_eq_true (by omega)
    clear hbad
    go_wp2_with fail
    refine bodyPost_isL fun Wf hWf => ?_
    obtain ⟨hbf, hkf⟩ := HFIN.out w2 Wf HBW2.out HKZ2.out hWf
    have r0 := hkf.cell 0; have r1 := hkf.cell 1; have r2 := hkf.cell 2; have r3 := hkf.cell 3
    simp at r0 r1 r2 r3
    clear hWf
    refine bodyPost_ret (v := .tuple #[logN, .iface 69 (.int .i64 2)]) (by simp [results, Tryz.results20, go_sem, logN, r0, r1, r2, r3]) rfl ?_
    exact ⟨⟨_, _, rfl⟩, hbf⟩
end Go.Proofs.YtgdijbaodfghjaaGreatDoor
