/-
  Texts of this claim, one behind the other: LnkOne, Linked, SgTake, SgWhen, BusySpans.
-/
import Derived.Test.YtgdijbaodfghjaaGreatDoorZ26
import Derived.Test.YtgdijbaodfghjaaGreatDoorZ14
import Derived.Test.YtgdijbaodfghjaaGreatDoorZ19
import Derived.Test.YtgdijbaodfghjaaGreatDoorZ25
import Derived.Test.YtgdijbaodfghjaaGreatDoorZ01
import Derived.Deep.RegionLaw
/-
  A run over a wire that may not be: link.Run's errors; and the fact that one packet goes over a wire.
-/
namespace Go.Proofs.YtgdijbaodfghjaaGreatDoor
open Go.RowKit Bkt
set_option linter.unusedVariables false

namespace Pl
def oneLs : List It := [⟨3, 5, 0, 0, 0⟩]
def oneP : FP := ⟨5, 100, false⟩
def oneH : Hd := ⟨⟨3, 5, 0, 0, 0⟩, 0⟩
structure OneS (S : Lk (List Hd)) (next : Nat) (now free : Int) (q : List Hd) (sent : List Snt) : Prop where
  n : S.next = next
  w : S.now = now
  f : S.free = free
  q : S.q = q
  s : S.sent = sent
  l : S.lost = []
def OneP (S : Lk (List Hd)) : Prop := OneS S 0 0 0 [] [] ∨ OneS S 0 3 0 [] [] ∨ OneS S 1 3 0 [oneH] []
def OneQ (S : Lk (List Hd)) : Prop := OneS S 0 0 0 [] [] ∨ OneS S 1 3 6 [] [⟨0, 3, 6, 0⟩]
def OneR (S : Lk (List Hd)) : Prop := OneS S 1 3 6 [] [⟨0, 3, 6, 0⟩]
theorem ix_one : ix oneLs 0 = ⟨3, 5, 0, 0, 0⟩ := rfl
theorem len_one : oneLs.length = 1 := rfl
theorem one_q0 {S : Lk (List Hd)} (h : OneS S 0 0 0 [] []) : nextT (fifoM oneP) oneLs S = some 3 := by
  have e : aftT (fifoM oneP) S = none := by
    unfold aftT aT
    have : (fifoM oneP).len S.q = 0 := by rw [h.q]; rfl
    rw [if_pos this]
  unfold nextT
  rw [e, h.n]
  rfl
theorem one_q1 {S : Lk (List Hd)} (h : OneS S 1 3 6 [] [⟨0, 3, 6, 0⟩]) : nextT (fifoM oneP) oneLs S = none := by
  have e : aftT (fifoM oneP) S = none := by
    unfold aftT aT
    have : (fifoM oneP).len S.q = 0 := by rw [h.q]; rfl
    rw [if_pos this]
  unfold nextT
  rw [e, h.n]
  rfl
theorem one_aft {S : Lk (List Hd)} (h : S.q = []) : aftS (fifoM oneP) S = S := by
  unfold aftS aQ
  have : (fifoM oneP).len S.q = 0 := by rw [h]; rfl
  rw [if_pos this]
  rfl
theorem one_inv : LnkInv (fifoM oneP) oneLs 2 1 100 OneP OneQ OneR where
  put := fun S h hn hat => by
    rcases h with h | h | h
    · rw [h.n, ix_one, h.w] at hat; exact absurd hat (by decide)
    · refine .inr (.inr ⟨?_, h.w, h.f, ?_, h.s, ?_⟩)
      · show S.next + 1 = 1; rw [h.n]
      · show ((fifoM oneP).put S.now ⟨ix oneLs S.next, (S.next : Nat)⟩ S.q).2 = _
        rw [h.n, h.q]; rfl
      · show S.lost ++ ((fifoM oneP).put S.now ⟨ix oneLs S.next, (S.next : Nat)⟩ S.q).1.map Hd.num = _
        rw [h.n, h.q, h.l]; rfl
    · rw [h.n, len_one] at hn; exact absurd hn (by decide)
  most := fun S h => by
    rcases h with h | h | h
    · exact .inl ⟨h.n, h.w, h.f, h.q, h.s, h.l⟩
    · exact .inr (.inl ⟨h.n, h.w, h.f, h.q, h.s, h.l⟩)
    · exact .inr (.inr ⟨h.n, h.w, h.f, h.q, h.s, h.l⟩)
  take := fun S h hx hf => by
    rcases h with h | h | h
    · have e : (fifoM oneP).take S.now S.q = (none, [], []) := by rw [h.q]; rfl
      unfold takeS
      rw [e]
      exact .inl ⟨h.n, h.w, h.f, rfl, h.s, by show S.lost ++ _ = _; rw [h.l]; rfl⟩
    · have := hx (by rw [h.n, len_one]; decide)
      rw [h.n, ix_one, h.w] at this
      exact absurd this (by decide)
    · have e : (fifoM oneP).take S.now S.q = (some oneH, [], []) := by rw [h.q]; rfl
      unfold takeS
      rw [e]
      refine .inr ⟨h.n, h.w, ?_, rfl, ?_, by show S.lost ++ _ = _; rw [h.l]; rfl⟩
      · show S.now + takes 2 1 oneH.it.len = 6
        rw [h.w]; decide
      · show S.sent ++ _ = _
        have e2 : takes 2 1 oneH.it.len = 3 := by decide
        rw [h.s, h.w, e2]; rfl
  busy := fun S h _ hf => by
    rcases h with h | h | h <;> (rw [h.w, h.f] at hf; exact absurd hf (by decide))
  jump := fun S t h hn _ _ => by
    rcases h with h | h
    · rw [one_q0 h] at hn
      obtain rfl := Option.some.inj hn
      rw [one_aft h.q]
      exact .inr (.inl ⟨h.n, rfl, h.f, h.q, h.s, h.l⟩)
    · rw [one_q1 h] at hn; cases hn
  stop := fun S h hn => by
    rcases h with h | h
    · exact absurd (hn 3 (one_q0 h)) (by decide)
    · rw [one_aft h.q]; exact h
theorem one_start : OneP (Lk.start []) := .inl ⟨rfl, rfl, rfl, rfl, rfl, rfl⟩
theorem one_fine : ListFine oneLs := by
  refine ⟨by decide, fun i hi => ?_, fun i hi => ?_⟩
  · obtain rfl : i = 0 := by rw [len_one] at hi; omega
    rw [ix_one]
    constructor <;> decide
  · rw [len_one] at hi; omega
end Pl
def logN : Value := .agg #[.slice none 0 0, .slice none 0 0, .int .i64 0, .int .i64 0]
def RunNo (w : World) (e : Ending) (w' : World) : Prop := (∃ T v, e = .returned (.tuple #[logN, .iface T v])) ∧ Below w.heap.size w w'
set_option maxHeartbeats 2000000 in
set_option maxRecDepth 100000 in
theorem run_no (T : TypeId) (v : Value) (rb rt until_ : Int) (A : Option Addr) (n c : Nat) (l : List It) (w : World) (hr : RdIt w w.heap.size A n l) (hg : Handle w) (hbad : ¬ SpeedOk rb rt ∨ ¬ ListFine l) :
    Calls Tryz.prog 20 #[.iface T v, .agg #[.int .i64 rb, .int .i64 rt], .slice A n c, .int .i64 until_] w (RunNo w) := by
  have hsy := fun W h => speed_yes rb rt W h
  have hsn := fun W h => speed_no rb rt W h
  have HSY := Lib.hid hsy; have HSN := Lib.hid hsn; have HR := Lib.hid hr; have HG := Lib.hid hg
  have hb0 : Below w.heap.size w ((w.alloc (.cells #[.int .i64 rb, .int .i64 rt] 23)).alloc (.cells logZ 28)) := bl_alloc (bl_alloc (Below.refl _ _))
  have hkz : Blk ((w.alloc (.cells #[.int .i64 rb, .int .i64 rt] 23)).alloc (.cells logZ 28)) (w.heap.size + 1) 28 logZ := by
    have := Blk.new (w.alloc (.cells #[.int .i64 rb, .int .i64 rt] 23)) 28 logZ
    simpa using this
  have HB0 := Lib.hid hb0; have HKZ := Lib.hid hkz
  clear hsy hsn hr hg hb0 hkz
  have hfin : ∀ W Wf : World, Below w.heap.size w W → Blk W (w.heap.size + 1) 28 logZ → Wf = ((((W.setCell ⟨w.heap.size + 1, 0, none⟩ (.slice none 0 0)).setCell ⟨w.heap.size + 1, 1, none⟩ (.slice none 0 0)).setCell ⟨w.heap.size + 1, 2, none⟩ (.int .i64 0)).setCell ⟨w.heap.size + 1, 3, none⟩ (.int .i64 0)) →
      Below w.heap.size w Wf ∧ Blk Wf (w.heap.size + 1) 28 logZ := fun W Wf hb hk e => by
    have hc := chg_4L W (w.heap.size + 1) (.slice none 0 0) (.slice none 0 0) (.int .i64 0) (.int .i64 0)
    have hk2 := blk_4L (by unfold logZ at hk; exact hk) (.slice none 0 0) (.slice none 0 0) (.int .i64 0) (.int .i64 0)
    rw [← e] at hc hk2
    exact ⟨hb.trans (hc.below hb.size (fun i hi e => by omega)), hk2⟩
  have HFIN := Lib.hid hfin
  clear hfin
  unfold logZ at *
  go_enter Tryz.func20, Tryz.ntmps20
  by_cases hs : SpeedOk rb rt
  · have hl : ¬ ListFine l := hbad.resolve_left (fun h => h hs)
    have HSP := Lib.hid (fun W => HSY.out W hs)
    have HL := Lib.hid hl
    clear hbad hl hs HSY HSN
    go_wp2_with fail
    refine (HSP.out _).mono ?_
    rintro e w1 ⟨rfl, hb1⟩
    have hbw1 := bl_next HB0.out hb1
    have hkz1 := HKZ.out.below hb1 HKZ.out.lt
    have hr1 := HR.out.over hbw1 (Nat.le_refl _)
    have hla := list_any A n c l w1 hr1 (HG.out.below hbw1)
    have HBW1 := Lib.hid hbw1; have HKZ1 := Lib.hid hkz1; have HLA := Lib.hid hla
    clear hb1 hbw1 hkz1 hr1 hla
    go_wp2_with fail
    (with_reducible refine HLA.out.mono ?_)
    rintro e w2 (⟨hbad, _⟩ | ⟨_, Te, ve, rfl, hb2⟩)
    · exact absurd hbad HL.out
    · have hbw2 := bl_next HBW1.out hb2
      have hkz2 := HKZ1.out.below hb2 HKZ1.out.lt
      have HBW2 := Lib.hid hbw2; have HKZ2 := Lib.hid hkz2
      have z0 := hkz2.cell 0; have z1 := hkz2.cell 1; have z2 := hkz2.cell 2; have z3 := hkz2.cell 3
      have fz0 := hkz2.frozen 0; have fz1 := hkz2.frozen 1; have fz2 := hkz2.frozen 2; have fz3 := hkz2.frozen 3
      simp at z0 z1 z2 z3
      clear hb2 hbw2 hkz2
      go_wp2_with fail
      refine bodyPost_isL fun Wf hWf => ?_
      obtain ⟨hbf, hkf⟩ := HFIN.out w2 Wf HBW2.out HKZ2.out hWf
      have r0 := hkf.cell 0; have r1 := hkf.cell 1; have r2 := hkf.cell 2; have r3 := hkf.cell 3
      simp at r0 r1 r2 r3
      clear hWf
      refine bodyPost_ret (v := .tuple #[logN, .iface Te ve]) (by simp [results, Tryz.results20, go_sem, logN, r0, r1, r2, r3]) rfl ?_
      exact ⟨⟨_, _, rfl⟩, hbf⟩
  · have HSP := Lib.hid (fun W => HSN.out W hs)
    clear hbad hs HSY HSN
    go_wp2_with fail
    refine (HSP.out _).mono ?_
    rintro e w2 ⟨ke, rfl, hb2⟩
    have hbw2 := bl_next HB0.out hb2
    have hkz2 := HKZ.out.below hb2 HKZ.out.lt
    have HBW2 := Lib.hid hbw2; have HKZ2 := Lib.hid hkz2
    have z0 := hkz2.cell 0; have z1 := hkz2.cell 1; have z2 := hkz2.cell 2; have z3 := hkz2.cell 3
    have fz0 := hkz2.frozen 0; have fz1 := hkz2.frozen 1; have fz2 := hkz2.frozen 2; have fz3 := hkz2.frozen 3
    simp at z0 z1 z2 z3
    clear hb2 hbw2 hkz2
    go_wp2_with fail
    refine bodyPost_isL fun Wf hWf => ?_
    obtain ⟨hbf, hkf⟩ := HFIN.out w2 Wf HBW2.out HKZ2.out hWf
    have r0 := hkf.cell 0; have r1 := hkf.cell 1; have r2 := hkf.cell 2; have r3 := hkf.cell 3
    simp at r0 r1 r2 r3
    clear hWf
    refine bodyPost_ret (v := .tuple #[logN, .iface 69 (.int .i64 ke)]) (by simp [results, Tryz.results20, go_sem, logN, r0, r1, r2, r3]) rfl ?_
    exact ⟨⟨_, _, rfl⟩, hbf⟩
end Go.Proofs.YtgdijbaodfghjaaGreatDoor

/-
  The fact that one packet goes over a wire; a run that ends too late or too early.
-/
namespace Go.Proofs.YtgdijbaodfghjaaGreatDoor
open Go.RowKit Bkt
set_option linter.unusedVariables false

theorem rdSnt_at {w : World} {B n : Nat} {b off : Nat} {l : List Pl.Snt} (h : RdR SntR w B (some ⟨b, off, none⟩) n l) {k : Nat} (hk : k < n) :
    w.cell? ⟨b, off + k * 4, none⟩ = some (.int .i64 (ixR SntR l k).num) ∧ w.cell? ⟨b, off + k * 4 + 1, none⟩ = some (.int .i64 (ixR SntR l k).from_) ∧ w.cell? ⟨b, off + k * 4 + 2, none⟩ = some (.int .i64 (ixR SntR l k).to_) ∧ w.cell? ⟨b, off + k * 4 + 3, none⟩ = some (.int .i64 (ixR SntR l k).mark) :=
  ⟨h.all hk 0 _ rfl, h.all hk 1 _ rfl, h.all hk 2 _ rfl, h.all hk 3 _ rfl⟩
theorem oneFP_ok : Pl.FOk Pl.oneP := ⟨by decide, by decide⟩
theorem fifo_nil (g : Nat) : ∀ W : World, (nilAhead (Tryz.prog.types.size + Made.depth) 61 (.pointer (some ⟨g, 0, none⟩)) "Put").run Tryz.prog W = .ok (some false) W := fun W => by kernel_rfl
theorem one_speed : SpeedOk 2 1 := ⟨⟨by decide, by decide⟩, ⟨by decide, by decide⟩⟩
theorem one_run (base gq : Nat) (b off c : Nat) (F : Nat → Prop) (w : World) (hr : RdIt w w.heap.size (some ⟨b, off, none⟩) 1 Pl.oneLs) (hg : Handle w) (hb : ¬ F b) (hi : FInv1 base gq Pl.oneP [] 0 F w) :
    Calls Tryz.prog 20 #[.iface 61 (.pointer (some ⟨gq, 0, none⟩)), .agg #[.int .i64 2, .int .i64 1], .slice (some ⟨b, off, none⟩) 1 c, .int .i64 100] w (RunOut (M := Pl.fifoM Pl.oneP) Pl.OneR 100 w F) :=
  run_yes (M := Pl.fifoM Pl.oneP) (fifo_imp base gq Pl.oneP oneFP_ok) Pl.oneLs 2 1 100 Pl.one_inv (fun S h x hx => by
    rcases h with h | h | h
    · have e : ((Pl.fifoM Pl.oneP).take S.now S.q).1 = none := by rw [h.q]; rfl
      rw [e] at hx; cases hx
    · have e : ((Pl.fifoM Pl.oneP).take S.now S.q).1 = none := by rw [h.q]; rfl
      rw [e] at hx; cases hx
    · have e : ((Pl.fifoM Pl.oneP).take S.now S.q).1 = some Pl.oneH := by rw [h.q]; rfl
      rw [e] at hx
      obtain rfl := Option.some.inj hx
      exact ⟨by decide, by decide⟩) _ 1 c [] F w hr hg (fun _ ad e => by injection e with e; subst e; exact hb) Pl.one_fine one_speed (by decide) hi Pl.one_start (fun i hi2 => ((fifo_imp base gq Pl.oneP oneFP_ok).lt _ _ _ _ hi i hi2).2)
    (fun S h => by rcases h with h | h | h <;> (rw [h.l, h.s]; decide)) (fifo_nil gq)
set_option maxHeartbeats 4000000 in
set_option maxRecDepth 100000 in
theorem linked_yes (w : World) (hg : Handle w) : Calls Tryz.prog 8 #[] w fun e w' => e = .returned (.bool true) ∧ Below w.heap.size w w' := by
  have hnf := newFifo_yes Pl.oneP w oneFP_ok
  have hon := fun base gq b off c F W hr hG hb hi => one_run base gq b off c F W hr hG hb hi
  have HNF := Lib.hid hnf; have HON := Lib.hid hon; have HG := Lib.hid hg
  clear hnf hon hg
  unfold Pl.oneP at HNF
  dsimp only at HNF
  go_enter Tryz.func8, Tryz.ntmps8
  go_wp2_with fail
  (with_reducible refine HNF.out.mono ?_)
  rintro e w1 ⟨gq, rfl, hgq, hb1, hf1⟩
  have hi1 := Ffo.inv (p := Pl.oneP) hf1 hgq
  have hb2 : Below w1.heap.size w1 (w1.alloc (.cells #[.int .i64 3, .int .i64 5, .int .i64 0, .int .i64 0, .int .i64 0] 34)) := bl_alloc (Below.refl _ _)
  have hi2 := (fifo_imp _ gq Pl.oneP oneFP_ok).chg _ _ _ _ _ (fun _ => False) hi1 (Chg.of_below hb2) (fun _ _ e => e)
  have hgl := ((fifo_imp _ gq Pl.oneP oneFP_ok).lt _ _ _ _ hi1 gq rfl).2
  have hrd : RdIt (w1.alloc (.cells #[.int .i64 3, .int .i64 5, .int .i64 0, .int .i64 0, .int .i64 0] 34)) (w1.alloc (.cells #[.int .i64 3, .int .i64 5, .int .i64 0, .int .i64 0, .int .i64 0] 34)).heap.size (some ⟨w1.heap.size, 0, none⟩) 1 Pl.oneLs :=
    RdR.of_blk (R := ItR) (l := Pl.oneLs) (Blk.new w1 34 #[.int .i64 3, .int .i64 5, .int .i64 0, .int .i64 0, .int .i64 0]) rfl
  have hbw := bl_next hb1 hb2
  have hrun := HON.out _ gq w1.heap.size 0 1 _ _ hrd (HG.out.below hbw) (fun e => by omega) hi2
  have HRUN := Lib.hid hrun; have HBW := Lib.hid hbw
  have hF : ∀ i, i = gq → w.heap.size ≤ i := fun i e => by omega
  have HF := Lib.hid hF
  clear hf1 hi1 hb2 hi2 hrd hbw hrun hb1 hF
  go_wp2_with fail
  (with_reducible refine HRUN.out.mono ?_)
  rintro e w3 ⟨S, As, Al, cs, cl, rfl, h3⟩
  obtain ⟨hR, _, hrs, hrl, hch, _⟩ := h3.out
  have hss := hR.s
  have hbw3 : Below w.heap.size w w3 := HBW.out.trans (hch.below HBW.out.size (fun i hi e => by have := HF.out i e; omega))
  clear h3 hrl hch hR
  rw [hss] at hrs
  rw [hss]
  obtain ⟨b, off, rfl, hbB⟩ := hrs.addr (k := 0) (by decide)
  obtain ⟨c0, c1, c2, c3⟩ := rdSnt_at hrs (k := 0) (by decide)
  have e0 : ixR SntR [(⟨0, 3, 6, 0⟩ : Pl.Snt)] 0 = ⟨0, 3, 6, 0⟩ := rfl
  rw [e0] at c0 c1 c2 c3
  dsimp only at c0 c1 c2 c3
  simp only [Nat.zero_mul, Nat.add_zero] at c0 c1 c2 c3
  have HBW3 := Lib.hid hbw3
  clear hrs hbw3 hss e0 c0 c3
  go_wp2_with fail
  go_ret
  exact ⟨rfl, bl_alloc HBW3.out⟩

set_option maxHeartbeats 2000000 in
set_option maxRecDepth 100000 in
theorem run_bad (T : TypeId) (v : Value) (rb rt until_ : Int) (A : Option Addr) (n c : Nat) (l : List It) (w : World) (hr : RdIt w w.heap.size A n l) (hg : Handle w) (hs : SpeedOk rb rt) (hl : ListFine l) (hbad : ¬ (0 ≤ until_ ∧ until_ ≤ 10000000)) :
    Calls Tryz.prog 20 #[.iface T v, .agg #[.int .i64 rb, .int .i64 rt], .slice A n c, .int .i64 until_] w (RunNo w) := by
  have hsy := fun W h => speed_yes rb rt W h
  have HSY := Lib.hid hsy; have HR := Lib.hid hr; have HG := Lib.hid hg
  have hb0 : Below w.heap.size w ((w.alloc (.cells #[.int .i64 rb, .int .i64 rt] 23)).alloc (.cells logZ 28)) := bl_alloc (bl_alloc (Below.refl _ _))
  have hkz : Blk ((w.alloc (.cells #[.int .i64 rb, .int .i64 rt] 23)).alloc (.cells logZ 28)) (w.heap.size + 1) 28 logZ := by
    have := Blk.new (w.alloc (.cells #[.int .i64 rb, .int .i64 rt] 23)) 28 logZ
    simpa using this
  have HB0 := Lib.hid hb0; have HKZ := Lib.hid hkz
  clear hsy hr hg hb0 hkz
  have hfin : ∀ W Wf : World, Below w.heap.size w W → Blk W (w.heap.size + 1) 28 logZ → Wf = ((((W.setCell ⟨w.heap.size + 1, 0, none⟩ (.slice none 0 0)).setCell ⟨w.heap.size + 1, 1, none⟩ (.slice none 0 0)).setCell ⟨w.heap.size + 1, 2, none⟩ (.int .i64 0)).setCell ⟨w.heap.size + 1, 3, none⟩ (.int .i64 0)) →
      Below w.heap.size w Wf ∧ Blk Wf (w.heap.size + 1) 28 logZ := fun W Wf hb hk e => by
    have hc := chg_4L W (w.heap.size + 1) (.slice none 0 0) (.slice none 0 0) (.int .i64 0) (.int .i64 0)
    have hk2 := blk_4L (by unfold logZ at hk; exact hk) (.slice none 0 0) (.slice none 0 0) (.int .i64 0) (.int .i64 0)
    rw [← e] at hc hk2
    exact ⟨hb.trans (hc.below hb.size (fun i hi e => by omega)), hk2⟩
  have HFIN := Lib.hid hfin
  clear hfin
  unfold logZ at *
  go_enter Tryz.func20, Tryz.ntmps20
  have HSP := Lib.hid (fun W => HSY.out W hs)
  have HL := Lib.hid hl
  clear hl hs HSY
  go_wp2_with fail
  refine (HSP.out _).mono ?_
  rintro e w1 ⟨rfl, hb1⟩
  have hbw1 := bl_next HB0.out hb1
  have hkz1 := HKZ.out.below hb1 HKZ.out.lt
  have hr1 := HR.out.over hbw1 (Nat.le_refl _)
  have hla := list_any A n c l w1 hr1 (HG.out.below hbw1)
  have HBW1 := Lib.hid hbw1; have HKZ1 := Lib.hid hkz1; have HLA := Lib.hid hla
  clear hb1 hbw1 hkz1 hr1 hla
  go_wp2_with fail
  (with_reducible refine HLA.out.mono ?_)
  rintro e w2 (⟨_, rfl, hb2⟩ | ⟨hno, _⟩)
  rotate_left
  · exact absurd HL.out hno
  have hbw2 := bl_next HBW1.out hb2
  have hkz2 := HKZ1.out.below hb2 HKZ1.out.lt
  have HBW2 := Lib.hid hbw2; have HKZ2 := Lib.hid hkz2
  have z0 := hkz2.cell 0; have z1 := hkz2.cell 1; have z2 := hkz2.cell 2; have z3 := hkz2.cell 3
  have fz0 := hkz2.frozen 0; have fz1 := hkz2.frozen 1; have fz2 := hkz2.frozen 2; have fz3 := hkz2.frozen 3
  simp at z0 z1 z2 z3
  clear hb2 hbw2 hkz2
  by_cases c1 : until_ < 0
  · have d1 : decide (until_ < 0) = true := decide_eq_true c1
    clear hbad
    go_wp2_with fail
    refine bodyPost_isL fun Wf hWf => ?_
    obtain ⟨hbf, hkf⟩ := HFIN.out w2 Wf HBW2.out HKZ2.out hWf
    have r0 := hkf.cell 0; have r1 := hkf.cell 1; have r2 := hkf.cell 2; have r3 := hkf.cell 3
    simp at r0 r1 r2 r3
    clear hWf
    refine bodyPost_ret (v := .tuple #[logN, .iface 69 (.int .i64 2)]) (by simp [results, Tryz.results20, go_sem, logN, r0, r1, r2, r3]) rfl ?_
    exact ⟨⟨_, _, rfl⟩, hbf⟩
  · have d1 : decide (until_ < 0) = false := decide_eq_false c1
    have d2 : decide ((10000000 : Int) < until_) = true := decide_eq_true (by omega)
    clear hbad
    go_wp2_with fail
    refine bodyPost_isL fun Wf hWf => ?_
    obtain ⟨hbf, hkf⟩ := HFIN.out w2 Wf HBW2.out HKZ2.out hWf
    have r0 := hkf.cell 0; have r1 := hkf.cell 1; have r2 := hkf.cell 2; have r3 := hkf.cell 3
    simp at r0 r1 r2 r3
    clear hWf
    refine bodyPost_ret (v := .tuple #[logN, .iface 69 (.int .i64 2)]) (by simp [results, Tryz.results20, go_sem, logN, r0, r1, r2, r3]) rfl ?_
    exact ⟨⟨_, _, rfl⟩, hbf⟩
end Go.Proofs.YtgdijbaodfghjaaGreatDoor

/-
  What a shaper's Take does, over whatever queue.
-/
namespace Go.Proofs.YtgdijbaodfghjaaGreatDoor
open Go.RowKit Bkt
set_option linter.unusedVariables false

theorem bodyPost_is6 {P : Program} {f : Func} {Q : Ending → World → Prop} {x : Exit} {a : Act} {W : World} (h : ∀ Wf, Wf = W → bodyPost P f Q x a Wf) : bodyPost P f Q x a W := h W rfl
theorem chg_sixS (w : World) (g : Nat) (u0 u1 u2 u3 u4 u5 : Value) : Chg w ((((((w.setCell ⟨g, 0, none⟩ u0).setCell ⟨g, 1, none⟩ u1).setCell ⟨g, 2, none⟩ u2).setCell ⟨g, 3, none⟩ u3).setCell ⟨g, 4, none⟩ u4).setCell ⟨g, 5, none⟩ u5) (fun i => i = g) :=
  Chg.setCell (p := ⟨g, 5, none⟩) (Chg.setCell (p := ⟨g, 4, none⟩) (Chg.setCell (p := ⟨g, 3, none⟩) (Chg.setCell (p := ⟨g, 2, none⟩) (Chg.setCell (p := ⟨g, 1, none⟩) (Chg.setCell (p := ⟨g, 0, none⟩) (Chg.refl w (fun i => i = g)) (fun _ => rfl) _) (fun _ => rfl) _) (fun _ => rfl) _) (fun _ => rfl) _) (fun _ => rfl) _) (fun _ => rfl) _
def heldZ : Array Value := #[.int .i64 0, .int .i64 0, .int .i64 0, .int .i64 0, .int .i64 0, .int .i64 0]
def SgTakeOut {M : Pl.QM} (V : Value) (Inv : M.σ → Nat → (Nat → Prop) → World → Prop) (base : Nat) (b : Bk) (g gt : Nat) (r : Option Hd × List Hd × Pl.ShS M.σ) (k : Nat) (F : Nat → Prop) (w : World) (e : Ending) (w' : World) : Prop :=
  ∃ h0 A c, e = .returned (.tuple #[hdV h0, .slice A r.2.1.length c, .bool r.1.isSome]) ∧ (∀ x, r.1 = some x → h0 = x) ∧ Hid (RdR HdR w' w'.heap.size A r.2.1.length r.2.1 ∧ (∀ ad, A = some ad → F ad.block ∨ w.heap.size ≤ ad.block) ∧ ∃ F' Fq vn vl, SgI V Inv base b g gt r.2.2 k F' Fq w' vn vl ∧ Chg w w' F ∧ ∀ i, F' i → F i ∨ w.heap.size ≤ i)
structure SgMid {M : Pl.QM} (V : Value) (Inv : M.σ → Nat → (Nat → Prop) → World → Prop) (base : Nat) (b : Bk) (g gt : Nat) (s : Pl.ShS M.σ) (k : Nat) (F F' Fq : Nat → Prop) (w w1 : World) (vn vl : Value) (tl : List Hd) (A : Option Addr) (c : Nat) : Prop where
  s : SgI V Inv base b g gt s k F' Fq w1 vn vl
  cg : Chg w w1 F
  f : ∀ i, F' i → F i ∨ w.heap.size < i
  z : Blk w1 w.heap.size 78 heldZ
  tl_ : w1.ownsRow base 78 6 (.slice A tl.length c) tl.length (tl.flatMap HdR.cells)
  tf : ∀ ad, A = some ad → F ad.block ∨ w.heap.size < ad.block
theorem tolK {w w1 w' : World} {base : Nat} {A : Option Addr} {c : Nat} {tl : List Hd} {F : Nat → Prop} (hto : w1.ownsRow base 78 6 (.slice A tl.length c) tl.length (tl.flatMap HdR.cells)) (tf : ∀ ad, A = some ad → F ad.block ∨ w.heap.size < ad.block) (hF : ∀ i, F i → i < w.heap.size) (hc : Chg w1 w' (fun i => i = w.heap.size)) :
    w'.ownsRow base 78 6 (.slice A tl.length c) tl.length (tl.flatMap HdR.cells) :=
  ownsRow_chg hto hc (fun i hi e => by
    obtain ⟨ad, rfl, e2⟩ : ∃ ad, A = some ad ∧ ad.block = i := by
      cases A with
      | none => simp [Value.ownBlock] at hi
      | some ad => exact ⟨ad, rfl, by simpa [Value.ownBlock] using hi⟩
    rcases tf ad rfl with e3 | e3
    · have := hF _ e3; omega
    · omega)
theorem rd_of {w : World} {base : Nat} {A : Option Addr} {c : Nat} {tl : List Hd} (h : w.ownsRow base 78 6 (.slice A tl.length c) tl.length (tl.flatMap HdR.cells)) : RdR HdR w w.heap.size A tl.length tl := by
  obtain ⟨A', c', e1, e2⟩ := own_rdR (R := HdR) h
  injection e1 with e1
  subst e1
  exact e2
section
variable {M : Pl.QM} {V : Value} {Inv : M.σ → Nat → (Nat → Prop) → World → Prop} {base : Nat} {b : Bk} {g gt : Nat} {s : Pl.ShS M.σ} {k : Nat} {F F' Fq : Nat → Prop} {w w1 w' : World} {vn vl : Value} {tl : List Hd} {A : Option Addr} {c : Nat}
theorem SgMid.bucket (h : SgMid V Inv base b g gt s k F F' Fq w w1 vn vl tl A c) (qi : QImp M V base Inv) (hg : w1.drew.grownBy w' (some gt)) {st' : St} (hst : StB w' gt b st') (hs : SOk b st') (hl : st'.last ≤ 1000000000) : SgMid V Inv base b g gt ⟨s.q, st', s.next, s.lost⟩ k F F' Fq w w' vn vl tl A c := by
  have h1 : SgI V Inv base b g gt s k F' Fq w1.drew vn vl := h.s.over qi (bl_drew (Below.refl _ _))
  have hc : Chg w1.drew w' (fun i => i = gt) := Chg.of_grown hg (fun i e => by injection e)
  have hto : w1.drew.ownsRow base 78 6 (.slice A tl.length c) tl.length (tl.flatMap HdR.cells) := ownsRow_chg h.tl_ (S := fun _ => False) ((Chg.refl _ _).drew) (fun _ _ e => e)
  refine ⟨h1.bucket qi hg hst hs hl, (h.cg.drew).trans (S' := fun i => i = gt) hc (fun i hi e => ?_), h.f, (h.z.drew).grown hg (fun e => ?_), ownsRow_chg hto hc (fun i hi e => own_ne hto h1.st (by decide) (by rw [hi, e])), h.tf⟩
  · subst e
    rcases h.f _ h.s.mF.2.1 with e | e
    · exact e
    · omega
  · injection e with e
    exact Blk.ne_ h.z h.s.st (by decide) e
theorem SgMid.res (h : SgMid V Inv base b g gt s k F F' Fq w w1 vn vl tl A c) (qi : QImp M V base Inv) (hF : ∀ i, F i → i < w.heap.size) (hc : Chg w1 w' (fun i => i = w.heap.size)) :
    RdR HdR w' w'.heap.size A tl.length tl ∧ (∀ ad, A = some ad → F ad.block ∨ w.heap.size ≤ ad.block) ∧ ∃ F' Fq vn vl, SgI V Inv base b g gt s k F' Fq w' vn vl ∧ Chg w w' F ∧ ∀ i, F' i → F i ∨ w.heap.size ≤ i := by
  refine ⟨rd_of (tolK h.tl_ h.tf hF hc), fun ad e => (h.tf ad e).imp id (fun h => Nat.le_of_lt h), F', Fq, vn, vl, h.s.chg qi hc (fun i hi e => ?_), h.cg.trans hc (fun i hi e => by omega), fun i hi => by rcases h.f i hi with e | e; exact .inl e; exact .inr (by omega)⟩
  rcases h.f i hi with e2 | e2
  · have := hF i e2; omega
  · omega
end

set_option maxHeartbeats 4000000 in
set_option maxRecDepth 100000 in
theorem sgtake_any {M : Pl.QM} {V : Value} {Inv : M.σ → Nat → (Nat → Prop) → World → Prop} (base : Nat) (b : Bk) (hk : BkOk b) (qi : QImp M V base Inv) (g gt : Nat) (s : Pl.ShS M.σ) (k : Nat) (F Fq : Nat → Prop) (w : World) (vn vl : Value) (now : Int) (h : SgI V Inv base b g gt s k F Fq w vn vl) (hw : ((Pl.lookG M now s).lost).length ≤ 1000) (hx : ∀ x, (Pl.lookG M now s).next = some x → 0 ≤ x.it.len ∧ x.it.len ≤ 10000) (h0 : 0 ≤ now) (h1 : now ≤ 1000000000) (hB : base ≤ w.heap.size) :
    Calls Tryz.prog 135 #[.pointer (some ⟨g, 0, none⟩), .int .i64 now] w (SgTakeOut V Inv base b g gt (Pl.shgTake b now (Pl.lookG M now s)) k F w) := by
  have hF : ∀ i, F i → i < w.heap.size := fun i hi => (h.lt i hi).2
  have hov := h.over qi (w' := w.alloc (.cells heldZ 78)) (bl_alloc (Below.refl _ _))
  have hlk := lookg_any base b qi g gt s k F Fq (w.alloc (.cells heldZ 78)) vn vl now hov hw h0 h1 (by simp; omega)
  have HLK := Lib.hid hlk; have HF := Lib.hid hF; have HP := Lib.hid qi; have HK := Lib.hid hk; have HX := Lib.hid hx
  clear h hov hlk qi hF hx hw
  unfold heldZ at HLK
  go_enter Tryz.func135, Tryz.ntmps135
  go_wp2_with fail
  (with_reducible refine HLK.out.mono ?_)
  rintro e w1 ⟨rfl, hl⟩
  obtain ⟨F1, Fq1, vn1, vl1, hs1, hc1, hf1⟩ := hl.out
  obtain ⟨A1, c1', rfl, _⟩ := own_reads hs1.lo
  have hmid : SgMid V Inv base b g gt (Pl.lookG M now s) k F F1 Fq1 w w1 vn1 (.slice A1 (Pl.lookG M now s).lost.length c1') (Pl.lookG M now s).lost A1 c1' := by
    have hf2 : ∀ i, F1 i → F i ∨ w.heap.size < i := fun i hi => by
      rcases hf1 i hi with e | e
      · exact .inl e
      · exact .inr (by simp at e; omega)
    refine ⟨hs1, ?_, hf2, (Blk.new w 78 heldZ).chg hc1 (fun e => by have := HF.out _ e; omega), hs1.lo, fun ad e => hf2 _ (hs1.ld ad.block (by subst e; rfl)).1⟩
    exact (Chg.of_below (bl_alloc (o := .cells heldZ 78) (Below.refl _ w))).trans hc1 (fun i _ h => h)
  clear hl hs1 hc1 hf1
  generalize Pl.lookG M now s = s1 at *
  obtain ⟨q1, st1, nx1, lo1⟩ := s1
  have hb1 := hmid.s.blk
  have c2 : w1.cell? ⟨g, 2, none⟩ = some vn1 := hb1.cell 2
  have c3 : w1.cell? ⟨g, 3, none⟩ = some (.slice A1 lo1.length c1') := hb1.cell 3
  have fz3 : w1.frozen? ⟨g, 3, none⟩ = false := hb1.frozen 3
  have hgR : g ≠ w.heap.size := fun e => by
    rcases hmid.f g hmid.s.mF.1 with h | h
    · have := HF.out g h; omega
    · omega
  have hmid2 : SgMid V Inv base b g gt ⟨q1, st1, nx1, []⟩ k F F1 Fq1 w (w1.setCell ⟨g, 3, none⟩ (.slice none 0 0)) vn1 (.slice none 0 0) lo1 A1 c1' :=
    ⟨hmid.s.told HP.out, hmid.cg.setCell (p := ⟨g, 3, none⟩) (fun hlt => by
      rcases hmid.f g hmid.s.mF.1 with h | h
      · exact h
      · have : g < w.heap.size := hlt
        omega) _, hmid.f, hmid.z.far (p := ⟨g, 3, none⟩) (fun e => hgR e.symm) _, ownsRow_chg hmid.tl_ (Chg.setCell (p := ⟨g, 3, none⟩) (Chg.refl _ (fun i => i = g)) (fun _ => rfl) _) (fun i hi e => hmid.s.lg (by show Value.ownBlock (.slice A1 lo1.length c1') = _; rw [hi, e])), hmid.tf⟩
  have HM := Lib.hid hmid2
  clear hmid hmid2 hb1
  cases nx1 with
  | none =>
    obtain rfl := HM.out.s.none_ rfl
    have hr : Pl.shgTake b now ⟨q1, st1, none, lo1⟩ = (none, lo1, ⟨q1, st1, none, []⟩) := rfl
    rw [hr]
    go_upto_region 3 with fail
    have c2 := HM.out.s.blk.cell 2
    have z0 := HM.out.z.cell 0; have z1 := HM.out.z.cell 1; have z2 := HM.out.z.cell 2; have z3 := HM.out.z.cell 3; have z4 := HM.out.z.cell 4; have z5 := HM.out.z.cell 5
    have f0 := HM.out.z.frozen 0; have f1 := HM.out.z.frozen 1; have f2 := HM.out.z.frozen 2; have f3 := HM.out.z.frozen 3; have f4 := HM.out.z.frozen 4; have f5 := HM.out.z.frozen 5
    clear c3 fz3
    generalize w1.setCell ⟨g, 3, none⟩ (.slice none 0 0) = W2 at *
    simp [heldZ] at c2 z0 z1 z2 z3 z4 z5
    go_quiet (fail)
    go_wp2_with fail
    refine bodyPost_is6 fun Wf hWf => ?_
    have hch : Chg W2 Wf (fun i => i = w.heap.size) := by
      rw [hWf]
      exact ((Chg.refl W2 (fun i => i = w.heap.size)).drewN nq).trans (chg_sixS _ _ _ _ _ _ _ _) (fun _ _ h => h)
    have hkf : Blk Wf w.heap.size 78 #[.int .i64 0, .int .i64 0, .int .i64 0, .int .i64 0, .int .i64 0, .int .i64 0] := by rw [hWf]; exact blk_six (HM.out.z.drewN nq) _ _ _ _ _ _
    clear hWf
    have r0 := hkf.cell 0; have r1 := hkf.cell 1; have r2 := hkf.cell 2; have r3 := hkf.cell 3; have r4 := hkf.cell 4; have r5 := hkf.cell 5
    simp at r0 r1 r2 r3 r4 r5
    refine bodyPost_ret (v := .tuple #[hdV Hd.zero, .slice A1 lo1.length c1', .bool false]) (by simp [results, Tryz.results135, go_sem, hdV, Hd.zero, It.zero, r0, r1, r2, r3, r4, r5]) rfl ?_
    exact ⟨Hd.zero, A1, c1', rfl, fun x e => (by cases e), Lib.hid (HM.out.res HP.out HF.out hch)⟩
  | some x =>
    obtain ⟨gn, hvn, hbn, hgn, _⟩ := HM.out.s.some_ rfl
    have hxl := HX.out x rfl
    subst hvn
    obtain ⟨⟨xa, xl, xf, xb, xm⟩, xn⟩ := x
    have htk : ∀ W, StB W gt b st1 → Calls Tryz.prog 138 #[.pointer (some ⟨gt, 0, none⟩), .int .i64 now, .int .i64 xl] W (BTakeOut W gt (Bkt.take b st1 now xl) b (Bkt.okB b st1 now xl)) := fun W hW => take_any b st1 gt now xl W hk hW HM.out.s.sok.last HM.out.s.sl h1 HM.out.s.sok.has0 HM.out.s.sok.has1 hxl.1 (Int.le_trans hxl.2 (by decide))
    have hso : SOk b (Bkt.take b st1 now xl) := sok_take (now := now) HK.out HM.out.s.sok hxl.1
    have hsl : (Bkt.take b st1 now xl).last ≤ 1000000000 := by rw [last_take]; have := HM.out.s.sl; dsimp only at this; omega
    have hrt : Bkt.okB b st1 now xl = true → Pl.shgTake b now ⟨q1, st1, some ⟨⟨xa, xl, xf, xb, xm⟩, xn⟩, lo1⟩ = (some ⟨⟨xa, xl, xf, xb, xm⟩, xn⟩, lo1, ⟨q1, Bkt.take b st1 now xl, none, []⟩) := fun e => if_pos e
    have hrf : Bkt.okB b st1 now xl = false → Pl.shgTake b now ⟨q1, st1, some ⟨⟨xa, xl, xf, xb, xm⟩, xn⟩, lo1⟩ = (none, lo1, ⟨q1, Bkt.take b st1 now xl, some ⟨⟨xa, xl, xf, xb, xm⟩, xn⟩, []⟩) := fun e => if_neg (by rw [e]; decide)
    generalize Pl.shgTake b now ⟨q1, st1, some ⟨⟨xa, xl, xf, xb, xm⟩, xn⟩, lo1⟩ = res at *
    generalize Bkt.take b st1 now xl = st2 at *
    generalize Bkt.okB b st1 now xl = ok at *
    have HRT := Lib.hid hrt; have HRF := Lib.hid hrf
    clear hrt hrf
    have hst := HM.out.s.st
    have HTK := Lib.hid htk; have HSO := Lib.hid hso; have HSL := Lib.hid hsl; have HXL := Lib.hid hxl; have HGN := Lib.hid hgn; have HST := Lib.hid hst
    clear htk hso hsl hxl hgn hst
    go_upto_region 3 with fail
    have c2 := HM.out.s.blk.cell 2
    have c1 := HM.out.s.blk.cell 1
    have n1 := hbn.cell 1
    clear c3 fz3
    have HBN := Lib.hid hbn
    clear hbn
    generalize w1.setCell ⟨g, 3, none⟩ (.slice none 0 0) = W2 at *
    simp [hdArr] at c2 c1 n1
    go_still_tail 19, (by kernel_rfl)
    change wpList _ _ _ _ _ (World.drew _)
    go_wp2_with fail
    (with_reducible refine (HTK.out _ ?_).mono ?_)
    · exact Blk.drew HST.out
    rintro e w3 ⟨rfl, hg3, hst3⟩
    have hm3 := HM.out.bucket HP.out hg3 hst3 HSO.out HSL.out
    have hbn3 := (HBN.out.drew).grown hg3 (fun e => by injection e with e; exact Blk.ne_ HBN.out HST.out (by decide) e)
    have hgl3 := hm3.s.blk.lt
    have hnR : gn ≠ w.heap.size := fun e => by
      rcases HM.out.f gn HGN.out.1 with h | h
      · have := HF.out gn h; omega
      · omega
    have z0 := hm3.z.cell 0; have z1 := hm3.z.cell 1; have z2 := hm3.z.cell 2; have z3 := hm3.z.cell 3; have z4 := hm3.z.cell 4; have z5 := hm3.z.cell 5
    have f0 := hm3.z.frozen 0; have f1 := hm3.z.frozen 1; have f2 := hm3.z.frozen 2; have f3 := hm3.z.frozen 3; have f4 := hm3.z.frozen 4; have f5 := hm3.z.frozen 5
    have g2 := hm3.s.blk.cell 2
    have gf2 := hm3.s.blk.frozen 2
    have m0 := hbn3.cell 0; have m1 := hbn3.cell 1; have m2 := hbn3.cell 2; have m3 := hbn3.cell 3; have m4 := hbn3.cell 4; have m5 := hbn3.cell 5
    simp [heldZ, hdArr] at z0 z1 z2 z3 z4 z5 g2 m0 m1 m2 m3 m4 m5
    have HM3 := Lib.hid hm3; have HBN3 := Lib.hid hbn3
    clear hm3 hbn3 hst3 hg3 c1 c2 n1
    have hRg : w.heap.size ≠ g := fun e => hgR e.symm
    have hRn : w.heap.size ≠ gn := fun e => hnR e.symm
    cases ok
    · go_wp2_with fail
      refine bodyPost_is6 fun Wf hWf => ?_
      have hch : Chg w3 Wf (fun i => i = w.heap.size) := by
        rw [hWf]
        exact chg_sixS _ _ _ _ _ _ _ _
      have hkf : Blk Wf w.heap.size 78 #[.int .i64 0, .int .i64 0, .int .i64 0, .int .i64 0, .int .i64 0, .int .i64 0] := by rw [hWf]; exact blk_six HM3.out.z _ _ _ _ _ _
      clear hWf
      have r0 := hkf.cell 0; have r1 := hkf.cell 1; have r2 := hkf.cell 2; have r3 := hkf.cell 3; have r4 := hkf.cell 4; have r5 := hkf.cell 5
      simp at r0 r1 r2 r3 r4 r5
      refine bodyPost_ret (v := .tuple #[hdV Hd.zero, .slice A1 lo1.length c1', .bool false]) (by simp [results, Tryz.results135, go_sem, hdV, Hd.zero, It.zero, r0, r1, r2, r3, r4, r5]) rfl ?_
      rw [HRF.out trivial]
      exact ⟨Hd.zero, A1, c1', rfl, fun x e => (by cases e), Lib.hid (HM3.out.res HP.out HF.out hch)⟩
    · go_upto_region 6 with fail
      have hz4 := blk_six HM3.out.z (.int .i64 xa) (.int .i64 xl) (.int .i64 xf) (.int .i64 xb) (.int .i64 xm) (.int .i64 xn)
      have hc4 := chg_sixS w3 w.heap.size (.int .i64 xa) (.int .i64 xl) (.int .i64 xf) (.int .i64 xb) (.int .i64 xm) (.int .i64 xn)
      have hs4 := HM3.out.s.chg HP.out hc4 (fun i hi e => by
        rcases HM.out.f i hi with e2 | e2
        · have := HF.out i e2; omega
        · omega)
      have hcw4 : Chg w ((((((w3.setCell ⟨w.heap.size, 0, none⟩ (.int .i64 xa)).setCell ⟨w.heap.size, 1, none⟩ (.int .i64 xl)).setCell ⟨w.heap.size, 2, none⟩ (.int .i64 xf)).setCell ⟨w.heap.size, 3, none⟩ (.int .i64 xb)).setCell ⟨w.heap.size, 4, none⟩ (.int .i64 xm)).setCell ⟨w.heap.size, 5, none⟩ (.int .i64 xn)) F := HM3.out.cg.trans hc4 (fun i hi e => by omega)
      have hto4 := tolK HM3.out.tl_ HM3.out.tf HF.out hc4
      clear z0 z1 z2 z3 z4 z5 f0 f1 f2 f3 f4 f5 g2 gf2 m0 m1 m2 m3 m4 m5 hc4
      generalize (((((w3.setCell ⟨w.heap.size, 0, none⟩ (.int .i64 xa)).setCell ⟨w.heap.size, 1, none⟩ (.int .i64 xl)).setCell ⟨w.heap.size, 2, none⟩ (.int .i64 xf)).setCell ⟨w.heap.size, 3, none⟩ (.int .i64 xb)).setCell ⟨w.heap.size, 4, none⟩ (.int .i64 xm)).setCell ⟨w.heap.size, 5, none⟩ (.int .i64 xn) = W4 at *
      have g2 := hs4.blk.cell 2
      have gf2 := hs4.blk.frozen 2
      simp at g2
      have HS4 := Lib.hid hs4; have HC4 := Lib.hid hcw4; have HZ4 := Lib.hid hz4; have HTO4 := Lib.hid hto4
      clear hs4 hcw4 hz4 hto4
      go_upto_region 7 with fail
      have hs5 := HS4.out.gone HP.out
      have hto5 := ownsRow_chg HTO4.out (Chg.setCell (p := ⟨g, 2, none⟩) (Chg.refl _ (fun i => i = g)) (fun _ => rfl) (.pointer none)) (fun i hi e => own_ne HTO4.out HS4.out.blk (by decide) (by rw [hi, e]))
      have hz5 := HZ4.out.far (p := ⟨g, 2, none⟩) hRg (.pointer none)
      have hc5 := HC4.out.setCell (p := ⟨g, 2, none⟩) (fun hlt => by
        rcases HM.out.f g HM.out.s.mF.1 with h | h
        · exact h
        · have : g < w.heap.size := hlt
          omega) (.pointer none)
      clear g2 gf2
      generalize W4.setCell ⟨g, 2, none⟩ (.pointer none) = W5 at *
      have z0 := hz5.cell 0; have z1 := hz5.cell 1; have z2 := hz5.cell 2; have z3 := hz5.cell 3; have z4 := hz5.cell 4; have z5 := hz5.cell 5
      have f0 := hz5.frozen 0; have f1 := hz5.frozen 1; have f2 := hz5.frozen 2; have f3 := hz5.frozen 3; have f4 := hz5.frozen 4; have f5 := hz5.frozen 5
      simp at z0 z1 z2 z3 z4 z5
      have HS5 := Lib.hid hs5; have HC5 := Lib.hid hc5; have HZ5 := Lib.hid hz5; have HTO5 := Lib.hid hto5
      clear hs5 hc5 hz5 hto5
      go_wp2_with fail
      refine bodyPost_is6 fun Wf hWf => ?_
      have hch : Chg W5 Wf (fun i => i = w.heap.size) := by
        rw [hWf]
        exact chg_sixS _ _ _ _ _ _ _ _
      have hkf : Blk Wf w.heap.size 78 #[.int .i64 xa, .int .i64 xl, .int .i64 xf, .int .i64 xb, .int .i64 xm, .int .i64 xn] := by rw [hWf]; exact blk_six HZ5.out _ _ _ _ _ _
      clear hWf
      have r0 := hkf.cell 0; have r1 := hkf.cell 1; have r2 := hkf.cell 2; have r3 := hkf.cell 3; have r4 := hkf.cell 4; have r5 := hkf.cell 5
      simp at r0 r1 r2 r3 r4 r5
      refine bodyPost_ret (v := .tuple #[hdV ⟨⟨xa, xl, xf, xb, xm⟩, xn⟩, .slice A1 lo1.length c1', .bool true]) (by simp [results, Tryz.results135, go_sem, hdV, r0, r1, r2, r3, r4, r5]) rfl ?_
      rw [HRT.out trivial]
      refine ⟨⟨⟨xa, xl, xf, xb, xm⟩, xn⟩, A1, c1', rfl, fun x e => (by injection e), Lib.hid ⟨rd_of (tolK HTO5.out HM3.out.tf HF.out hch), fun ad e => (HM3.out.tf ad e).imp id (fun h => Nat.le_of_lt h), F1, Fq1, _, _, HS5.out.chg HP.out hch (fun i hi e => ?_), HC5.out.trans hch (fun i hi e => by omega), fun i hi => by rcases HM.out.f i hi with e | e; exact .inl e; exact .inr (by omega)⟩⟩
      rcases HM.out.f i hi with e2 | e2
      · have := HF.out i e2; omega
      · omega
end Go.Proofs.YtgdijbaodfghjaaGreatDoor

/-
  What a shaper's When does, over whatever queue.
-/
namespace Go.Proofs.YtgdijbaodfghjaaGreatDoor
open Go.RowKit Bkt
set_option linter.unusedVariables false

theorem stB_drew {w : World} {g : Nat} {k : Bk} {s : St} (h : StB w g k s) : StB w.drew g k s := Blk.drew h
def SgWhenOut {M : Pl.QM} (V : Value) (Inv : M.σ → Nat → (Nat → Prop) → World → Prop) (base : Nat) (b : Bk) (g gt : Nat) (r : Option Int × Pl.ShS M.σ) (k : Nat) (F : Nat → Prop) (w : World) (e : Ending) (w' : World) : Prop :=
  ∃ a, e = .returned (.tuple #[.int .i64 a, .bool r.1.isSome]) ∧ (∀ x, r.1 = some x → a = x) ∧ Hid (∃ F' Fq vn vl, SgI V Inv base b g gt r.2 k F' Fq w' vn vl ∧ Chg w w' F ∧ ∀ i, F' i → F i ∨ w.heap.size ≤ i)
set_option maxHeartbeats 4000000 in
set_option maxRecDepth 100000 in
theorem sgwhen_any {M : Pl.QM} {V : Value} {Inv : M.σ → Nat → (Nat → Prop) → World → Prop} (base : Nat) (b : Bk) (hk : BkOk b) (qi : QImp M V base Inv) (g gt : Nat) (s : Pl.ShS M.σ) (k : Nat) (F Fq : Nat → Prop) (w : World) (vn vl : Value) (now : Int) (h : SgI V Inv base b g gt s k F Fq w vn vl) (hw : ((Pl.lookG M now s).lost).length ≤ 1000) (hx : ∀ x, (Pl.lookG M now s).next = some x → 0 ≤ x.it.len ∧ x.it.len ≤ 10000) (h0 : 0 ≤ now) (h1 : now ≤ 1000000000) (hB : base ≤ w.heap.size) :
    Calls Tryz.prog 136 #[.pointer (some ⟨g, 0, none⟩), .int .i64 now] w (SgWhenOut V Inv base b g gt (Pl.shgWhen b M now (Pl.lookG M now s)) k F w) := by
  have hlk := lookg_any base b qi g gt s k F Fq w vn vl now h hw h0 h1 hB
  have HLK := Lib.hid hlk; have HP := Lib.hid qi; have HK := Lib.hid hk; have HX := Lib.hid hx
  clear h hlk qi hw hx
  go_enter Tryz.func136, Tryz.ntmps136
  go_wp2_with fail
  (with_reducible refine HLK.out.mono ?_)
  rintro e w1 ⟨rfl, hl⟩
  obtain ⟨F1, Fq1, vn1, vl1, hs1, hc1, hf1⟩ := hl.out
  clear hl
  generalize Pl.lookG M now s = s1 at *
  obtain ⟨q1, st1, nx1, lo1⟩ := s1
  have c0 := hs1.blk.cell 0
  have c1 := hs1.blk.cell 1
  have c2 := hs1.blk.cell 2
  simp at c0 c1 c2
  cases nx1 with
  | none =>
    obtain rfl := hs1.none_ rfl
    obtain ⟨fw, rw_, hmw, hcw⟩ := HP.out.when_
    obtain ⟨kq, hkq, hq1⟩ := hs1.q
    have hwh := hcw _ kq Fq1 w1 now hq1 h0 h1
    have HT : Hid (Calls Tryz.prog fw #[rw_, .int .i64 now] w1 (WhenOut Inv w1 Fq1 kq (M.when_ now q1))) := Lib.hid hwh
    have HKQ := Lib.hid hkq
    have HM := Lib.hid hmw; have HS1 := Lib.hid hs1; have HC1 := Lib.hid hc1; have HF1 := Lib.hid hf1
    clear hwh hcw hmw hs1 hc1 hf1 c1 hq1 hkq
    go_wp2_with (refine wpList_invoke1 (vx := .int .i64 now) rfl (.tmp 33) (.tmp 34) #[3] rfl HM.out rfl rfl HT.out (fun e w' ⟨_, _, h, _⟩ => ⟨_, h⟩) ?_; rintro v3 w3 ⟨a, F', e3, h3⟩; injection e3 with e3; subst e3; have H3 := Lib.hid h3; clear h3)
    go_ret2
    obtain ⟨e1, e2, e3, e4⟩ := H3.out
    have hs3 := HS1.out.queue HP.out (q' := (M.when_ now q1).2) ⟨kq, HKQ.out, e2⟩ e3 e4
    refine ⟨a, rfl, e1, Lib.hid ⟨_, _, _, _, hs3, HC1.out.trans (S' := Fq1) e3 (fun i hi e => ?_), fun i hi => ?_⟩⟩
    · rcases HF1.out i (HS1.out.mF.2.2 i e) with e | e
      · exact e
      · omega
    · rcases hi with hi | hi
      · exact HF1.out i hi
      · rcases e4 i hi with e | e
        · exact HF1.out i (HS1.out.mF.2.2 i e)
        · exact .inr (Nat.le_trans HC1.out.size e)
  | some x =>
    obtain ⟨gn, rfl, hbn, hgn, _⟩ := hs1.some_ rfl
    have hxl := HX.out _ rfl
    have hst := hs1.st
    have hso := hs1.sok
    have hsl := hs1.sl
    have n1 := hbn.cell 1
    obtain ⟨⟨xa, xl, xf, xb, xm⟩, xn⟩ := x
    simp [hdArr] at n1
    dsimp only at hst hso hsl hxl
    have HS1 := Lib.hid hs1; have HC1 := Lib.hid hc1; have HF1 := Lib.hid hf1
    by_cases hr : b.r < xl
    · have hres : Pl.shgWhen b M now ⟨q1, st1, some ⟨⟨xa, xl, xf, xb, xm⟩, xn⟩, lo1⟩ = (none, ⟨q1, st1, some ⟨⟨xa, xl, xf, xb, xm⟩, xn⟩, lo1⟩) := if_pos hr
      have HRES := Lib.hid hres
      have hwn : ∀ W, StB W gt b st1 → Calls Tryz.prog 139 #[.pointer (some ⟨gt, 0, none⟩), .int .i64 now, .int .i64 xl] W fun e w' => e = .returned (.tuple #[.int .i64 0, .bool false]) ∧ W = w' := fun W hW => when_no b st1 gt now xl W hW h1 hxl.1 hr
      have HWN := Lib.hid hwn; have HST := Lib.hid hst
      clear hwn hst hso hsl hs1 hc1 hf1 hbn hgn hres c0
      go_upto_region 3 with fail
      go_region_law ((go_simp; go_at_call 139; (with_reducible refine (HWN.out _ (stB_drew HST.out)).mono ?_); rintro e w3 ⟨rfl, rfl⟩))
      all_goals
        go_wp2_with fail
        go_ret2
        rw [HRES.out]
        exact ⟨0, rfl, fun x e => (by cases e), Lib.hid ⟨F1, Fq1, _, _, HS1.out.over HP.out (bl_drew (Below.refl _ _)), HC1.out.drew, HF1.out⟩⟩
    · have hres : Pl.shgWhen b M now ⟨q1, st1, some ⟨⟨xa, xl, xf, xb, xm⟩, xn⟩, lo1⟩ = (some (whenAt b st1 now xl), ⟨q1, fill b st1 now, some ⟨⟨xa, xl, xf, xb, xm⟩, xn⟩, lo1⟩) := if_neg hr
      have HRES := Lib.hid hres
      have hwn : ∀ W, StB W gt b st1 → Calls Tryz.prog 139 #[.pointer (some ⟨gt, 0, none⟩), .int .i64 now, .int .i64 xl] W (BWhenOut W gt b (fill b st1 now) (whenAt b st1 now xl)) := fun W hW => when_any b st1 gt now xl W hk hW hso hsl h0 h1 hxl.1 (by omega)
      have hso2 := sok_fill (now := now) hk hso
      have hsl2 : (fill b st1 now).last ≤ 1000000000 := by rw [last_fill]; omega
      have HWN := Lib.hid hwn; have HST := Lib.hid hst; have HSO := Lib.hid hso2; have HSL := Lib.hid hsl2
      clear hwn hst hso hsl hs1 hc1 hf1 hbn hgn hres c0 hso2 hsl2
      go_upto_region 3 with fail
      go_region_law ((go_simp; go_at_call 139; (with_reducible refine (HWN.out _ (stB_drew HST.out)).mono ?_); rintro e w3 ⟨rfl, hg3, hst3⟩; have HG3 := Lib.hid hg3; have HST3 := Lib.hid hst3; clear hg3 hst3))
      all_goals
       go_wp2_with fail
       go_ret2
       rw [HRES.out]
       have hs2 := (HS1.out.over HP.out (bl_drew (Below.refl _ _))).bucket HP.out HG3.out HST3.out HSO.out HSL.out
       refine ⟨_, rfl, fun x e => (by injection e), Lib.hid ⟨F1, Fq1, _, _, hs2, (HC1.out.drew).trans (S' := fun i => i = gt) (Chg.of_grown HG3.out (fun i e => by injection e)) (fun i hi e => ?_), HF1.out⟩⟩
       subst e
       rcases HF1.out _ HS1.out.mF.2.1 with e | e
       · exact e
       · omega
end Go.Proofs.YtgdijbaodfghjaaGreatDoor

/-
  LinkBusy's inner function: when the wire is busy, as spans.
-/
namespace Go.Proofs.YtgdijbaodfghjaaGreatDoor
open Go.RowKit Bkt
set_option linter.unusedVariables false
theorem step_push2I {W : World} {ops : Array Oper} {o : Oper} {a : Act} {K : Act → World → Prop} {Q : Exit → Act → World → Prop} {E : Prop} (hgd : o.guard = none) (s x : Operand) (t : TypeId) (ht : Tryz.prog.underlying t = some (.slice 3))
    (ho : o.op = .call { callee := .builtin .append, args := #[s, x], argTypes := #[t, t] })
    (base : Nat) (v : Value) (n : Nat) (zs : List Int) (u1 u2 : Int) (hown : W.ownsRow base 3 1 v n (zs.map (Value.int .i64))) (hs : a.eval s = v)
    (g : Nat) (hx : a.eval x = .slice (some ⟨g, 0, none⟩) 2 2) (hc0 : W.cell? ⟨g, 0, none⟩ = some (.int .i64 u1)) (hc1 : W.cell? ⟨g, 1, none⟩ = some (.int .i64 u2)) (hn : n ≤ 1000000) (hbase : base ≤ W.heap.size)
    (h : ∀ v' w', w'.ownsRow base 3 1 v' (n + 2) ((zs ++ [u1, u2]).map (Value.int .i64)) → W.grownBy w' v.ownBlock → Below base W w' → K (a.put o.dst v') w') :
    if Region.wanted o (yielded ops a.tmps) = true then Oper.wp Tryz.prog o a W K Q else E := by
  have hw : Region.wanted o (yielded ops a.tmps) = true := by simp [Region.wanted, hgd]
  rw [if_pos hw]
  obtain ⟨i0, hi, hz0, hz1, hz2⟩ := info_parts Tryz.intInfo
  refine wp_append_own W s x t ho base 3 i0 (.int .i64 0) 1 8 ht hi hz0 hz1 hz2 rfl (by decide) v n _ hs hown ⟨g, 0, none⟩ 2 2 [.int .i64 u1, .int .i64 u2] hx rfl (fun j y hj => ?_) (by intro y hy; simp at hy; rcases hy with rfl | rfl <;> rfl)
    (by simp only [maxLen]; omega) (by omega) hbase ?_
  · match j, hj with
    | 0, hj => simp at hj; subst hj; simpa [Addr.add] using hc0
    | 1, hj => simp at hj; subst hj; simpa [Addr.add] using hc1
  · intro v' w' hown' hg _
    refine h v' w' (by simpa using hown') hg ((Below.refl base W).grown hg hbase ?_)
    intro k hk
    rcases hown.2 with ⟨rfl, _⟩ | ⟨g, cap, cur, rfl, hge, _⟩
    · simp [Value.ownBlock] at hk
    · simp [Value.ownBlock] at hk
      omega
namespace Pl
theorem spansS_at (l : List Snt) {i : Nat} {x : Snt} (h : l[i]? = some x) : spansS (l.take (i + 1)) = ext (spansS (l.take i)) x.from_ x.to_ := by
  have hlt := (List.getElem?_eq_some_iff.1 h).1
  rw [List.take_succ_eq_append_getElem hlt, (List.getElem?_eq_some_iff.1 h).2, spansS_snoc]
theorem ext_set {s : List Int} {a b : Int} (h : s.getLast? = some a) : ext s a b = s.set (s.length - 1) b := by
  unfold ext
  rw [if_pos h]
  obtain ⟨t, rfl⟩ := List.getLast?_eq_some_iff.1 h
  simp
theorem ext_len (s : List Int) (a b : Int) : (ext s a b).length ≤ s.length + 2 := by
  unfold ext
  split
  · simp; omega
  · simp
theorem spansS_len (l : List Snt) : ∀ i, (spansS (l.take i)).length ≤ 2 * i
  | 0 => by simp [spansS]
  | i + 1 => by
    have ih := spansS_len l i
    cases h : l[i]? with
    | none =>
      have : l.length ≤ i := List.getElem?_eq_none_iff.1 h
      rw [List.take_of_length_le (by omega)]
      rw [List.take_of_length_le this] at ih
      omega
    | some x =>
      rw [spansS_at l h]
      have := ext_len (spansS (l.take i)) x.from_ x.to_
      omega
end Pl
theorem rdSnt_6 {w : World} {B n : Nat} {b off : Nat} {l : List Pl.Snt} (h : RdR SntR w B (some ⟨b, off, none⟩) n l) {k : Nat} (hk : k < n) :
    w.cell? ⟨b, off + k * 4, none⟩ = some (.int .i64 (ixR SntR l k).num) ∧ w.cell? ⟨b, off + k * 4 + 1, none⟩ = some (.int .i64 (ixR SntR l k).from_) ∧ w.cell? ⟨b, off + k * 4 + 2, none⟩ = some (.int .i64 (ixR SntR l k).to_) ∧ w.cell? ⟨b, off + k * 4 + 3, none⟩ = some (.int .i64 (ixR SntR l k).mark) :=
  ⟨h.all hk 0 _ rfl, h.all hk 1 _ rfl, h.all hk 2 _ rfl, h.all hk 3 _ rfl⟩
theorem last_at {zs : List Int} (h : 0 < zs.length) : zs.getLast? = some (zs.getD (zs.length - 1) 0) := by
  rw [List.getLast?_eq_getElem?, List.getD, List.getElem?_eq_getElem (by omega)]; rfl
structure SpR (w wr : World) (lg : Array Value) (v : Value) (n : Nat) (zs : List Int) : Prop where
  k : Blk wr w.heap.size 28 lg
  o : wr.ownsRow (w.heap.size + 1) 3 1 v n (zs.map (Value.int .i64))
  b : Below w.heap.size w wr
  n : zs.length = n
set_option maxHeartbeats 4000000 in
set_option maxRecDepth 100000 in
theorem spans_w (As : Option Addr) (cs : Nat) (Al : Option Addr) (nl cl : Nat) (wt ms : Int) (s : List Pl.Snt) (w : World) (hs : RdR SntR w w.heap.size As s.length s) (hn : s.length ≤ 1000) :
    Calls Tryz.prog 13 #[.agg #[.slice As s.length cs, .slice Al nl cl, .int .i64 wt, .int .i64 ms]] w fun e w' => ∃ A n c, e = .returned (.slice A n c) ∧ Hid (RdI w' w'.heap.size A n (Pl.spansS s) ∧ n ≤ 2000 ∧ Below w.heap.size w w') := by
  have hst : SpR w (w.alloc (.cells #[.slice As s.length cs, .slice Al nl cl, .int .i64 wt, .int .i64 ms] 28)) #[.slice As s.length cs, .slice Al nl cl, .int .i64 wt, .int .i64 ms] (.slice none 0 0) 0 (Pl.spansS (s.take 0)) :=
    ⟨Blk.new w _ _, World.ownsRow_nil _ _ _ _, bl_alloc (Below.refl _ _), rfl⟩
  have HST := Lib.hid hst; have HS := Lib.hid hs; have HN := Lib.hid hn
  clear hst hs
  go_enter Tryz.func13, Tryz.ntmps13
  go_wp2_with fail
  go_loopw [3, 4, 5] (fun vv iv nv wr => ∃ (i n : Nat), iv = .int .i64 i ∧ i ≤ s.length ∧ Hid (SpR w wr #[.slice As s.length cs, .slice Al nl cl, .int .i64 wt, .int .i64 ms] vv n (Pl.spansS (s.take i)))) (fun _ iv _ _ => s.length - (intOf iv).toNat)
  case atStart => exact ⟨0, 0, rfl, Nat.zero_le _, HST.out⟩
  case round =>
    obtain ⟨i, n, rfl, hi, hd⟩ := hrel
    have z0 := hd.out.k.cell 0
    simp at z0
    obtain ⟨A', c', rfl, hrd⟩ := own_reads hd.out.o
    by_cases hlt : i < s.length
    · have ii : (i : Int) < (s.length : Int) := by omega
      have hsx := HS.out.over hd.out.b (Nat.le_refl _)
      obtain ⟨bs, os, rfl, hbs⟩ := HS.out.addr hlt
      obtain ⟨s0, s1, s2, s3⟩ := rdSnt_6 hsx hlt
      have hget : s[i]? = some (ixR SntR s i) := by
        unfold ixR; rw [List.getD, List.getElem?_eq_getElem hlt]; rfl
      have hex := Pl.spansS_at s hget
      have hnl := Pl.spansS_len s i
      have hnn := hd.out.n
      have i0 : decide ((0 : Int) ≤ (i : Int)) = true := decide_eq_true (by omega)
      have hbx := hd.out.b.size
      have HWZ : Hid (w.heap.size + 1 ≤ wr.heap.size) := Lib.hid (by have := hd.out.k.lt; omega)
      generalize (ixR SntR s i).to_ = to_ at *
      generalize (ixR SntR s i).from_ = fr at *
      generalize hzs : Pl.spansS (s.take i) = zs at *
      have HEX := Lib.hid hex; have HZS := Lib.hid hzs
      clear hex hsx s0 s3 hget hzs
      by_cases hpos : 0 < n
      · have hl := last_at (zs := zs) (by omega)
        obtain ⟨g, off, rfl, hgb⟩ : ∃ g off, A' = some ⟨g, off, none⟩ ∧ off = 0 := by
          rcases hd.out.o.2 with ⟨h1, h2⟩ | ⟨g, cap, cur, h1, _⟩
          · omega
          · injection h1 with h1; exact ⟨g, 0, h1, rfl⟩
        subst hgb
        have cl_ := hd.out.o.cellAt (n - 1) (by omega)
        have cf_ := hd.out.o.frozenAt (n - 1)
        have hgg : w.heap.size + 1 ≤ g ∧ g < wr.heap.size := ⟨by
          rcases hd.out.o.2 with ⟨h1, h2⟩ | ⟨g', cap, cur, h1, h2, _⟩
          · omega
          · injection h1 with h1; injection h1 with h1; injection h1 with h1; omega, by
          have := lt_of_cell (w := wr) (a := ⟨g, n - 1, none⟩) (v := .int .i64 (zs.getD (n - 1) 0)) (by rw [cl_, List.getElem?_map, List.getD, List.getElem?_eq_getElem (by omega)]; rfl)
          exact this⟩
        rw [List.getElem?_map, show zs[n - 1]? = some (zs.getD (n - 1) 0) by rw [List.getD, List.getElem?_eq_getElem (by omega)]; rfl, Option.map_some] at cl_
        rw [hnn] at hl
        generalize zs.getD (n - 1) 0 = la at *
        have p0 : decide ((0 : Int) < (n : Int)) = true := decide_eq_true (by omega)
        have p1 : (0 : Int) < (n : Int) := by omega
        have ew : IntKind.i64.wrap ((n : Int) - 1) = ((n - 1 : Nat) : Int) := by rw [show ((n - 1 : Nat) : Int) = (n : Int) - 1 by omega]; exact IntWalk.i64_in _ (by omega)
        have p2 : n - 1 < n := by omega
        have p3 : ((n - 1 : Nat) : Int) < (n : Int) := by omega
        by_cases hc : la = fr
        · subst hc
          have hfin : ∀ nq, SpR w ((wr.drewN nq).setCell ⟨g, n - 1, none⟩ (.int .i64 to_)) #[.slice (some ⟨bs, os, none⟩) s.length cs, .slice Al nl cl, .int .i64 wt, .int .i64 ms] (.slice (some ⟨g, 0, none⟩) n c') n (Pl.spansS (s.take (i + 1))) := by
            intro nq
            have ho : (wr.drewN nq).ownsRow (w.heap.size + 1) 3 1 (.slice (some ⟨g, 0, none⟩) n c') n (zs.map (Value.int .i64)) := hd.out.o
            refine ⟨(hd.out.k.drewN nq).far (p := ⟨g, n - 1, none⟩) (by show w.heap.size ≠ g; omega) _, ?_, (bl_drewN (n := nq) hd.out.b).setCell (p := ⟨g, n - 1, none⟩) (by show w.heap.size ≤ g; omega) _, ?_⟩
            · rw [HEX.out, Pl.ext_set hl, hnn, List.map_set]
              exact (ho.stored (n - 1) (.int .i64 to_)).1
            · rw [HEX.out, Pl.ext_set hl]; simpa using hnn
          have HFIN := Lib.hid hfin; have HNN := Lib.hid hnn
          have p4 : (la == la) = true := beq_self_eq_true la
          clear hfin hl hd hrd hnn
          go_upto_region 6 with fail
          go_quiet (fail)
          go_wp2_with fail
          exact ⟨⟨i + 1, n, by go_num, by omega, Lib.hid (HFIN.out _)⟩, by simp [intOf]; omega⟩
        · have p4 : (la == fr) = false := beq_false_of_ne hc
          have HN6 : Hid (n ≤ 1000000) := Lib.hid (by omega)
          have HL := Lib.hid hl; have HNN := Lib.hid hnn; have HD := Lib.hid hd.out; have HC := Lib.hid hc
          clear hl hd hrd hnn hc
          go_upto_region 6 with fail
          go_quiet (fail)
          go_upto_region 8 with fail
          have hd1 : SpR w (wr.drewN nq) #[.slice (some ⟨bs, os, none⟩) s.length cs, .slice Al nl cl, .int .i64 wt, .int .i64 ms] (.slice (some ⟨g, 0, none⟩) n c') n zs := ⟨HD.out.k.drewN nq, HD.out.o, bl_drewN (n := nq) HD.out.b, HD.out.n⟩
          have y0 : (wr.drewN nq).cell? ⟨w.heap.size, 0, none⟩ = some (.slice (some ⟨bs, os, none⟩) s.length cs) := z0
          have y1 : (wr.drewN nq).cell? ⟨bs, os + i * 4 + 1, none⟩ = some (.int .i64 fr) := s1
          have y2 : (wr.drewN nq).cell? ⟨bs, os + i * 4 + 2, none⟩ = some (.int .i64 to_) := s2
          have hwz : w.heap.size + 1 ≤ (wr.drewN nq).heap.size := HWZ.out
          have HD1 := Lib.hid hd1
          clear z0 s1 s2 hd1 HD
          generalize wr.drewN nq = w6 at *
          have HWZ6 := Lib.hid hwz
          clear hwz
          have HO : Hid ((w6.alloc (.cells #[.int .i64 fr, .int .i64 to_] 3)).drew.ownsRow (w.heap.size + 1) 3 1 (.slice (some ⟨g, 0, none⟩) n c') n (zs.map (Value.int .i64))) := Lib.hid (show (w6.alloc (.cells #[.int .i64 fr, .int .i64 to_] 3)).ownsRow _ _ _ _ _ _ from HD1.out.o.alloc _)
          have HC0 : Hid ((w6.alloc (.cells #[.int .i64 fr, .int .i64 to_] 3)).drew.cell? ⟨w6.heap.size, 0, none⟩ = some (.int .i64 fr)) := Lib.hid ((Blk.new w6 3 #[.int .i64 fr, .int .i64 to_]).cell 0)
          have HC1 : Hid ((w6.alloc (.cells #[.int .i64 fr, .int .i64 to_] 3)).drew.cell? ⟨w6.heap.size, 1, none⟩ = some (.int .i64 to_)) := Lib.hid ((Blk.new w6 3 #[.int .i64 fr, .int .i64 to_]).cell 1)
          have HBS : Hid (w.heap.size + 1 ≤ (w6.alloc (.cells #[.int .i64 fr, .int .i64 to_] 3)).drew.heap.size) := Lib.hid (by have := HWZ6.out; show w.heap.size + 1 ≤ (w6.alloc (.cells #[.int .i64 fr, .int .i64 to_] 3)).heap.size; simp; omega)
          have HFIN : Hid (∀ v' w2, w2.ownsRow (w.heap.size + 1) 3 1 v' (n + 2) ((zs ++ [fr, to_]).map (Value.int .i64)) → Below (w.heap.size + 1) (w6.alloc (.cells #[.int .i64 fr, .int .i64 to_] 3)).drew w2 → SpR w w2 #[.slice (some ⟨bs, os, none⟩) s.length cs, .slice Al nl cl, .int .i64 wt, .int .i64 ms] v' (n + 2) (Pl.spansS (s.take (i + 1)))) := Lib.hid (fun v' w2 h1 h3 => by
            have e : Pl.spansS (s.take (i + 1)) = zs ++ [fr, to_] := by rw [HEX.out]; unfold Pl.ext; rw [if_neg (by rw [HL.out]; simpa using HC.out)]
            rw [e]
            exact ⟨((HD1.out.k.alloc _).drew).below h3 (by omega), h1, (bl_drew (bl_alloc HD1.out.b)).trans (h3.mono (by omega)), by simp [HNN.out]⟩)
          go_region_law ((refine step_push2I (by rfl) (.tmp 41) (.tmp 54) 26 Tryz.underlying26 (by rfl) (w.heap.size + 1) (.slice (some ⟨g, 0, none⟩) n c') n zs fr to_ ?_ (by rfl) w6.heap.size (by rfl) ?_ ?_ HN6.out ?_ ?_; (with_reducible exact HO.out); (with_reducible exact HC0.out); (with_reducible exact HC1.out); (with_reducible exact HBS.out); (intro v' w2 h1 h2 h3; have HS2 := Lib.hid (HFIN.out v' w2 h1 h3); clear h1 h2 h3)))
          all_goals
            go_wp2_with fail
            exact ⟨⟨i + 1, n + 2, by go_num, by omega, Lib.hid HS2.out⟩, by simp [intOf]; omega⟩
      · obtain rfl : n = 0 := by omega
        have p0 : decide ((0 : Int) < ((0 : Nat) : Int)) = false := by decide
        have p1 : decide ((0 : Int) < 0) = false := by decide
        have HNN := Lib.hid hnn; have HD := Lib.hid hd.out
        clear hd hrd hnn
        go_upto_region 6 with fail
        go_quiet (fail)
        go_upto_region 8 with fail
        have hd1 : SpR w (wr.drewN nq) #[.slice (some ⟨bs, os, none⟩) s.length cs, .slice Al nl cl, .int .i64 wt, .int .i64 ms] (.slice A' 0 c') 0 zs := ⟨HD.out.k.drewN nq, HD.out.o, bl_drewN (n := nq) HD.out.b, HD.out.n⟩
        have y0 : (wr.drewN nq).cell? ⟨w.heap.size, 0, none⟩ = some (.slice (some ⟨bs, os, none⟩) s.length cs) := z0
        have y1 : (wr.drewN nq).cell? ⟨bs, os + i * 4 + 1, none⟩ = some (.int .i64 fr) := s1
        have y2 : (wr.drewN nq).cell? ⟨bs, os + i * 4 + 2, none⟩ = some (.int .i64 to_) := s2
        have hwz : w.heap.size + 1 ≤ (wr.drewN nq).heap.size := HWZ.out
        have HD1 := Lib.hid hd1
        clear z0 s1 s2 hd1 HD
        generalize wr.drewN nq = w6 at *
        have HWZ6 := Lib.hid hwz
        clear hwz
        have HO : Hid ((w6.alloc (.cells #[.int .i64 fr, .int .i64 to_] 3)).drew.ownsRow (w.heap.size + 1) 3 1 (.slice A' 0 c') 0 (zs.map (Value.int .i64))) := Lib.hid (show (w6.alloc (.cells #[.int .i64 fr, .int .i64 to_] 3)).ownsRow _ _ _ _ _ _ from HD1.out.o.alloc _)
        have HC0 : Hid ((w6.alloc (.cells #[.int .i64 fr, .int .i64 to_] 3)).drew.cell? ⟨w6.heap.size, 0, none⟩ = some (.int .i64 fr)) := Lib.hid ((Blk.new w6 3 #[.int .i64 fr, .int .i64 to_]).cell 0)
        have HC1 : Hid ((w6.alloc (.cells #[.int .i64 fr, .int .i64 to_] 3)).drew.cell? ⟨w6.heap.size, 1, none⟩ = some (.int .i64 to_)) := Lib.hid ((Blk.new w6 3 #[.int .i64 fr, .int .i64 to_]).cell 1)
        have HBS : Hid (w.heap.size + 1 ≤ (w6.alloc (.cells #[.int .i64 fr, .int .i64 to_] 3)).drew.heap.size) := Lib.hid (by have := HWZ6.out; show w.heap.size + 1 ≤ (w6.alloc (.cells #[.int .i64 fr, .int .i64 to_] 3)).heap.size; simp; omega)
        have HFIN : Hid (∀ v' w2, w2.ownsRow (w.heap.size + 1) 3 1 v' (0 + 2) ((zs ++ [fr, to_]).map (Value.int .i64)) → Below (w.heap.size + 1) (w6.alloc (.cells #[.int .i64 fr, .int .i64 to_] 3)).drew w2 → SpR w w2 #[.slice (some ⟨bs, os, none⟩) s.length cs, .slice Al nl cl, .int .i64 wt, .int .i64 ms] v' (0 + 2) (Pl.spansS (s.take (i + 1)))) := Lib.hid (fun v' w2 h1 h3 => by
          have e : Pl.spansS (s.take (i + 1)) = zs ++ [fr, to_] := by rw [HEX.out]; unfold Pl.ext; rw [if_neg (by rw [List.eq_nil_of_length_eq_zero HNN.out]; simp)]
          rw [e]
          exact ⟨((HD1.out.k.alloc _).drew).below h3 (by omega), h1, (bl_drew (bl_alloc HD1.out.b)).trans (h3.mono (by omega)), by simp [HNN.out]⟩)
        go_region_law ((refine step_push2I (by rfl) (.tmp 41) (.tmp 54) 26 Tryz.underlying26 (by rfl) (w.heap.size + 1) (.slice A' 0 c') 0 zs fr to_ ?_ (by rfl) w6.heap.size (by rfl) ?_ ?_ (by omega) ?_ ?_; (with_reducible exact HO.out); (with_reducible exact HC0.out); (with_reducible exact HC1.out); (with_reducible exact HBS.out); (intro v' w2 h1 h2 h3; have HS2 := Lib.hid (HFIN.out v' w2 h1 h3); clear h1 h2 h3)))
        all_goals
          go_wp2_with fail
          exact ⟨⟨i + 1, 0 + 2, by go_num, by omega, Lib.hid HS2.out⟩, by simp [intOf]; omega⟩
    · obtain rfl : i = s.length := by omega
      have hfin : RdI wr wr.heap.size A' n (Pl.spansS s) ∧ n ≤ 2000 ∧ Below w.heap.size w wr := by
        have h1 := hd.out.n
        have h2 := Pl.spansS_len s s.length
        have h3 : RdI wr wr.heap.size A' n (Pl.spansS (s.take s.length)) := hrd
        rw [List.take_of_length_le (Nat.le_refl _)] at h1 h2 h3
        exact ⟨h3, by have := HN.out; omega, hd.out.b⟩
      have HFIN := Lib.hid hfin
      clear hfin hd hrd
      go_wp2_with fail
      go_ret
      exact ⟨_, _, _, rfl, HFIN⟩
end Go.Proofs.YtgdijbaodfghjaaGreatDoor
