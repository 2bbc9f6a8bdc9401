/-
  LinkShaped: the whole walk.
-/
import Derived.Test.YtdhojhgmaodifaaDoorLnkOne
import Derived.Test.YtdhojhgmaodifaaDoorLnkShl
import Derived.Test.YtdhojhgmaodifaaDoorItRow
import Derived.Test.YtdhojhgmaodifaaDoorShpImp
namespace Go.Proofs.YtdhojhgmaodifaaDoor
open Go.RowKit Bkt
set_option linter.unusedVariables false

theorem rdSnt_at {w : World} {B n : Nat} {b off : Nat} {l : List Pl.Snt} (h : RdR SntR w B (some ⟨b, off, none⟩) n l) {k : Nat} (hk : k < n) :
    w.cell? ⟨b, off + k * 4, none⟩ = some (.int .i64 (ixR SntR l k).num) ∧ w.cell? ⟨b, off + k * 4 + 1, none⟩ = some (.int .i64 (ixR SntR l k).from_) ∧ w.cell? ⟨b, off + k * 4 + 2, none⟩ = some (.int .i64 (ixR SntR l k).to_) ∧ w.cell? ⟨b, off + k * 4 + 3, none⟩ = some (.int .i64 (ixR SntR l k).mark) :=
  ⟨h.all hk 0 _ rfl, h.all hk 1 _ rfl, h.all hk 2 _ rfl, h.all hk 3 _ rfl⟩
theorem rdB_get {w : World} {B n : Nat} {A : Option Addr} {f : Nat → Bool} (h : RdB w B A n f) {k : Nat} (hk : k < n) : ∃ b off, A = some ⟨b, off, none⟩ ∧ b < B ∧ w.cell? ⟨b, off + k, none⟩ = some (.bool (f k)) := by
  have get : ∀ i, i < n → (boolsOf f n)[i]? = some (.bool (f i)) := fun i hi => by simp [boolsOf, hi]
  obtain ⟨ad, e, hb, hc⟩ := h.2 (by omega)
  have h0 := hc 0 _ (get 0 (by omega))
  obtain ⟨b, off, spot⟩ := ad
  have hs : spot = none := by simpa [Addr.add] using World.cell?_spot h0
  subst hs
  have hk' := hc k _ (get k hk)
  refine ⟨b, off, e, hb, ?_⟩
  unfold Addr.add at hk'
  split at hk'
  · rename_i e0; rw [show off + k = off from by omega]; exact hk'
  · exact hk'
theorem oneP_ok : Pl.FOk Pl.oneP := ⟨by decide, by decide⟩
theorem fifo_nil (g : Nat) : ∀ W : World, (nilAhead (Tryd.prog.types.size + Made.depth) 71 (.pointer (some ⟨g, 0, none⟩)) "Put").run Tryd.prog W = .ok (some false) W := fun W => by kernel_rfl
theorem shp_nil (g : Nat) : ∀ W : World, (nilAhead (Tryd.prog.types.size + Made.depth) 74 (.pointer (some ⟨g, 0, none⟩)) "Put").run Tryd.prog W = .ok (some false) W := fun W => by kernel_rfl
theorem one_speed : SpeedOk 2 1 := ⟨⟨by decide, by decide⟩, ⟨by decide, by decide⟩⟩
theorem one_run (base gq : Nat) (b off c : Nat) (F : Nat → Prop) (w : World) (hr : RdIt w w.heap.size (some ⟨b, off, none⟩) 1 Pl.oneL) (hg : Handle w) (hb : ¬ F b) (hi : FInv1 base gq Pl.oneP [] 0 F w) :
    Calls Tryd.prog 42 #[.iface 71 (.pointer (some ⟨gq, 0, none⟩)), .agg #[.int .i64 2, .int .i64 1], .slice (some ⟨b, off, none⟩) 1 c, .int .i64 100] w (RunOut (M := Pl.fifoM Pl.oneP) Pl.OneR 100 w F) :=
  run_yes (M := Pl.fifoM Pl.oneP) (fifo_imp base gq Pl.oneP oneP_ok) Pl.oneL 2 1 100 Pl.one_inv (fun S h x hx => by
    rcases h with h | h | h
    · have e : ((Pl.fifoM Pl.oneP).take S.now S.q).1 = none := by rw [h.q]; rfl
      rw [e] at hx; cases hx
    · have e : ((Pl.fifoM Pl.oneP).take S.now S.q).1 = none := by rw [h.q]; rfl
      rw [e] at hx; cases hx
    · have e : ((Pl.fifoM Pl.oneP).take S.now S.q).1 = some Pl.oneH := by rw [h.q]; rfl
      rw [e] at hx
      obtain rfl := Option.some.inj hx
      exact ⟨by decide, by decide⟩) _ 1 c [] F w hr hg (fun _ ad e => by injection e with e; subst e; exact hb) Pl.one_fine one_speed (by decide) hi Pl.one_start (fun i hi2 => ((fifo_imp base gq Pl.oneP oneP_ok).lt _ _ _ _ hi i hi2).2)
    (fun S h => by rcases h with h | h | h <;> (rw [h.l, h.s]; decide)) (fifo_nil gq)
set_option maxHeartbeats 4000000 in
set_option maxRecDepth 100000 in
theorem linked_yes (w : World) (hg : Handle w) : Calls Tryd.prog 41 #[] w fun e w' => e = .returned (.bool true) ∧ Below w.heap.size w w' := by
  have hnf := newFifo_yes Pl.oneP w oneP_ok
  have hon := fun base gq b off c F W hr hG hb hi => one_run base gq b off c F W hr hG hb hi
  have HNF := Lib.hid hnf; have HON := Lib.hid hon; have HG := Lib.hid hg
  clear hnf hon hg
  unfold Pl.oneP at HNF
  dsimp only at HNF
  go_enter Tryd.func41, Tryd.ntmps41
  go_wp2_with fail
  (with_reducible refine HNF.out.mono ?_)
  rintro e w1 ⟨gq, rfl, hgq, hb1, hf1⟩
  have hi1 := Ffo.inv (p := Pl.oneP) hf1 hgq
  have hb2 : Below w1.heap.size w1 (w1.alloc (.cells #[.int .i64 3, .int .i64 5, .int .i64 0, .int .i64 0, .int .i64 0] 39)) := bl_alloc (Below.refl _ _)
  have hi2 := (fifo_imp _ gq Pl.oneP oneP_ok).chg _ _ _ _ _ (fun _ => False) hi1 (Chg.of_below hb2) (fun _ _ e => e)
  have hgl := ((fifo_imp _ gq Pl.oneP oneP_ok).lt _ _ _ _ hi1 gq rfl).2
  have hrd : RdIt (w1.alloc (.cells #[.int .i64 3, .int .i64 5, .int .i64 0, .int .i64 0, .int .i64 0] 39)) (w1.alloc (.cells #[.int .i64 3, .int .i64 5, .int .i64 0, .int .i64 0, .int .i64 0] 39)).heap.size (some ⟨w1.heap.size, 0, none⟩) 1 Pl.oneL :=
    RdR.of_blk (R := ItR) (l := Pl.oneL) (Blk.new w1 39 #[.int .i64 3, .int .i64 5, .int .i64 0, .int .i64 0, .int .i64 0]) rfl
  have hbw := bl_next hb1 hb2
  have hrun := HON.out _ gq w1.heap.size 0 1 _ _ hrd (HG.out.below hbw) (fun e => by omega) hi2
  have HRUN := Lib.hid hrun; have HBW := Lib.hid hbw
  have hF : ∀ i, i = gq → w.heap.size ≤ i := fun i e => by omega
  have HF := Lib.hid hF
  clear hf1 hi1 hb2 hi2 hrd hbw hrun hb1 hF
  go_wp2_with fail
  (with_reducible refine HRUN.out.mono ?_)
  rintro e w3 ⟨S, As, Al, cs, cl, rfl, h3⟩
  obtain ⟨hR, _, hrs, hrl, hch⟩ := h3.out
  have hss := hR.s
  have hbw3 : Below w.heap.size w w3 := HBW.out.trans (hch.below HBW.out.size (fun i hi e => by have := HF.out i e; omega))
  clear h3 hrl hch hR
  rw [hss] at hrs
  rw [hss]
  obtain ⟨b, off, rfl, hbB⟩ := hrs.addr (k := 0) (by decide)
  obtain ⟨c0, c1, c2, c3⟩ := rdSnt_at hrs (k := 0) (by decide)
  have e0 : ixR SntR [(⟨0, 3, 6, 0⟩ : Pl.Snt)] 0 = ⟨0, 3, 6, 0⟩ := rfl
  rw [e0] at c0 c1 c2 c3
  dsimp only at c0 c1 c2 c3
  simp only [Nat.zero_mul, Nat.add_zero] at c0 c1 c2 c3
  have HBW3 := Lib.hid hbw3
  clear hrs hbw3 hss e0 c0 c3
  go_wp2_with fail
  go_ret
  exact ⟨rfl, bl_alloc HBW3.out⟩

def lkP : Pl.FP := ⟨1000, 1000000, false⟩
theorem lkP_ok : Pl.FOk lkP := ⟨by decide, by decide⟩
set_option maxHeartbeats 1000000 in
set_option maxRecDepth 100000 in
theorem linkShaped_many (k : Bk) (rb rt : Int) (A : Option Addr) (n c : Nat) (W : World) (h : 40 < n) :
    Calls Tryd.prog 12 #[bkV k, .agg #[.int .i64 rb, .int .i64 rt], .slice A n c] W fun e w' => e = .returned (.bool true) ∧ Below W.heap.size W w' := by
  obtain ⟨kb, kt, kr⟩ := k
  unfold bkV
  dsimp only
  have i1 : decide ((40 : Int) < (n : Int)) = true := decide_eq_true (by omega)
  go_enter Tryd.func12, Tryd.ntmps12
  go_wp2_with fail
  go_ret
  exact ⟨rfl, bl_alloc (bl_alloc (Below.refl _ _))⟩
set_option maxHeartbeats 2000000 in
set_option maxRecDepth 100000 in
theorem linkShaped_no (k : Bk) (rb rt : Int) (A : Option Addr) (n c : Nat) (W : World) (h : n ≤ 40) (hk : ¬ BkOk k) :
    Calls Tryd.prog 12 #[bkV k, .agg #[.int .i64 rb, .int .i64 rt], .slice A n c] W fun e w' => e = .returned (.bool true) ∧ Below W.heap.size W w' := by
  have hbc := fun w => bcheck_no k w hk
  have hk0 := (Blk.new W 32 #[.int .i64 k.b, .int .i64 k.t, .int .i64 k.r]).alloc (.cells #[.int .i64 rb, .int .i64 rt] 23)
  obtain ⟨kb, kt, kr⟩ := k
  unfold bkV at *
  dsimp only at *
  have i1 : decide ((40 : Int) < (n : Int)) = false := decide_eq_false (by omega)
  have HBC := Lib.hid hbc
  have hb0 : Below W.heap.size W ((W.alloc (.cells #[.int .i64 kb, .int .i64 kt, .int .i64 kr] 32)).alloc (.cells #[.int .i64 rb, .int .i64 rt] 23)) := bl_alloc (bl_alloc (Below.refl _ _))
  have HB0 := Lib.hid hb0
  have c0 := hk0.cell 0; have c1 := hk0.cell 1; have c2 := hk0.cell 2
  simp at c0 c1 c2
  clear hbc hk0 hk hb0
  go_enter Tryd.func12, Tryd.ntmps12
  go_wp2_with fail
  (with_reducible refine (HBC.out _).mono ?_)
  rintro e w1 ⟨j, rfl, hb1⟩
  have HB1 := Lib.hid (bl_next HB0.out hb1)
  clear hb1 c0 c1 c2
  go_wp2_with fail
  go_ret
  exact ⟨rfl, HB1.out⟩
theorem ls_run (base g gt gq : Nat) (kk : Bk) (hk : BkOk kk) (l : List It) (rb rt : Int) (A : Option Addr) (n c : Nat) (F : Nat → Prop) (w : World) (hr : RdIt w w.heap.size A n l) (hg : Handle w) (hA : 0 < n → ∀ ad, A = some ad → ¬ F ad.block) (hf : ListFine l) (hs : SpeedOk rb rt)
    (hi : ShInv base kk lkP g gt gq ⟨[], Bkt.start kk, none⟩ 0 F w) :
    Calls Tryd.prog 42 #[shpV g, .agg #[.int .i64 rb, .int .i64 rt], .slice A n c, .int .i64 10000000] w (RunOut (M := Pl.shM kk (Pl.fifoM lkP)) (fun S => Pl.ShL2 kk l (S.now + 1) S) 10000000 w F) :=
  run_yes (M := Pl.shM kk (Pl.fifoM lkP)) (shp_imp base g gt gq kk hk lkP lkP_ok) l rb rt 10000000 (Pl.shl2_inv (p := lkP) hk rfl l hf rb rt 10000000) (fun S h => h.len) A n c _ F w hr hg hA hf hs (by decide) hi
    (Pl.ShL2.start hk l) (fun i hi2 => ((shp_imp base g gt gq kk hk lkP lkP_ok).lt _ _ _ _ hi i hi2).2) (fun S h => h.bd hf.1) (shp_nil g)
theorem goneL_ix (l : List It) (s : List Pl.Snt) {k : Nat} (h : k < s.length) : Pl.goneL l (s.take (k + 1)) = Pl.goneL l (s.take k) ++ [⟨(ixR SntR s k).from_, (ix l (ixR SntR s k).num.toNat).len, 0, 0, 0⟩] := by
  unfold Pl.goneL
  rw [take_snoc' SntR s k h, List.map_append]
  rfl
structure LsRel (B : Nat) (w wr : World) (G : List It) (v11 : Value) : Prop where
  o : wr.ownsRow B 39 5 v11 G.length (G.flatMap ItR.cells)
  bel : Below B w wr
set_option maxHeartbeats 8000000 in
set_option maxRecDepth 100000 in
theorem linkShaped_yes (kk : Bk) (rb rt : Int) (A : Option Addr) (n c : Nat) (l : List It) (W : World) (hr : RdIt W W.heap.size A n l) (hg : Handle W) (h : n ≤ 40) (hk : BkOk kk) :
    Calls Tryd.prog 12 #[bkV kk, .agg #[.int .i64 rb, .int .i64 rt], .slice A n c] W fun e w' => e = .returned (.bool true) ∧ Below W.heap.size W w' := by
  have hll := hr.len
  have hk0 := (Blk.new W 32 #[.int .i64 kk.b, .int .i64 kk.t, .int .i64 kk.r]).alloc (.cells #[.int .i64 rb, .int .i64 rt] 23)
  have hkr0 : Blk ((W.alloc (.cells #[.int .i64 kk.b, .int .i64 kk.t, .int .i64 kk.r] 32)).alloc (.cells #[.int .i64 rb, .int .i64 rt] 23)) (W.heap.size + 1) 23 #[.int .i64 rb, .int .i64 rt] := by
    have := Blk.new (W.alloc (.cells #[.int .i64 kk.b, .int .i64 kk.t, .int .i64 kk.r] 32)) 23 #[.int .i64 rb, .int .i64 rt]
    simpa using this
  have hbc := fun w => bcheck_yes kk w hk
  have hnf := fun w => newFifo_yes lkP w lkP_ok
  have hsn := fun base gq w hF hB => snew_yes base kk hk lkP lkP_ok gq (fun i => i = gq) w hF hB
  have hrun := fun base g gt gq F w hr hG hA hf hs hi => ls_run base g gt gq kk hk l rb rt A n c F w hr hG hA hf hs hi
  have hno := fun g w hr hG hb => run_no 74 (.pointer (some ⟨g, 0, none⟩)) rb rt 10000000 A n c l w hr hG hb
  have hcf := fun (A2 : Option Addr) (n2 c2 : Nat) (l2 : List It) w hr hH hf => conform_yes kk A2 n2 c2 l2 w hr hH hk hf
  have hb0 : Below W.heap.size W ((W.alloc (.cells #[.int .i64 kk.b, .int .i64 kk.t, .int .i64 kk.r] 32)).alloc (.cells #[.int .i64 rb, .int .i64 rt] 23)) := bl_alloc (bl_alloc (Below.refl _ _))
  have hsz0 : ((W.alloc (.cells #[.int .i64 kk.b, .int .i64 kk.t, .int .i64 kk.r] 32)).alloc (.cells #[.int .i64 rb, .int .i64 rt] 23)).heap.size = W.heap.size + 2 := by simp
  have HK0 := Lib.hid hk0; have HKR0 := Lib.hid hkr0; have HBC := Lib.hid hbc; have HNF := Lib.hid hnf; have HSN := Lib.hid hsn; have HRUN := Lib.hid hrun; have HNO := Lib.hid hno; have HCF := Lib.hid hcf; have HB0 := Lib.hid hb0; have HSZ0 := Lib.hid hsz0; have HR := Lib.hid hr; have HG := Lib.hid hg; have HLL := Lib.hid hll; have HKK := Lib.hid hk
  have c0 := hk0.cell 0; have c1 := hk0.cell 1; have c2 := hk0.cell 2
  simp at c0 c1 c2
  clear hll hk0 hkr0 hbc hnf hsn hrun hno hcf hb0 hsz0 hr hg hk
  have i1 : decide ((40 : Int) < (n : Int)) = false := decide_eq_false (by omega)
  unfold bkV shpV at *
  have hlkp : lkP.packets = 1000 ∧ lkP.room = 1000000 ∧ lkP.head = false := ⟨rfl, rfl, rfl⟩
  rw [hlkp.1, hlkp.2.1, hlkp.2.2] at HNF
  unfold fifV at HSN
  clear hlkp
  go_enter Tryd.func12, Tryd.ntmps12
  go_wp2_with fail
  (with_reducible refine (HBC.out _).mono ?_)
  rintro e w1 ⟨rfl, hb1⟩
  have hbw1 := bl_next HB0.out hb1
  have hk1 := HK0.out.below hb1 HK0.out.lt
  have hkr1 := HKR0.out.below hb1 HKR0.out.lt
  have hsz1 : W.heap.size + 2 ≤ w1.heap.size := by have := hb1.size; have := HSZ0.out; omega
  have HBW1 := Lib.hid hbw1; have HK1 := Lib.hid hk1; have HKR1 := Lib.hid hkr1; have HSZ1 := Lib.hid hsz1
  clear hb1 hbw1 hk1 hkr1 hsz1 c0 c1 c2
  go_wp2_with fail
  (with_reducible refine (HNF.out _).mono ?_)
  rintro e w2 ⟨gq, rfl, hgq, hb2, hf2⟩
  have hbw2 := bl_next HBW1.out hb2
  have hk2 := HK1.out.below hb2 HK1.out.lt
  have hkr2 := HKR1.out.below hb2 HKR1.out.lt
  have hi2 := Ffo.inv (p := lkP) hf2 hgq
  have hlk := linked_yes w2 (HG.out.below hbw2)
  have HBW2 := Lib.hid hbw2; have HK2 := Lib.hid hk2; have HKR2 := Lib.hid hkr2; have HI2 := Lib.hid hi2; have HLK := Lib.hid hlk
  clear hgq hb2 hbw2 hk2 hkr2 hf2 hi2 hlk
  go_wp2_with fail
  (with_reducible refine HLK.out.mono ?_)
  rintro e w3 ⟨rfl, hb3⟩
  have hbw3 := bl_next HBW2.out hb3
  have hk3 := HK2.out.below hb3 HK2.out.lt
  have hkr3 := HKR2.out.below hb3 HKR2.out.lt
  have hi3 := (fifo_imp _ gq lkP lkP_ok).chg _ _ _ _ w3 (fun _ => False) HI2.out (Chg.of_below hb3) (fun _ _ e => e)
  have c0 := hk3.cell 0; have c1 := hk3.cell 1; have c2 := hk3.cell 2
  simp at c0 c1 c2
  have hB3 := (fifo_imp _ gq lkP lkP_ok).base _ _ _ _ hi3
  have hnew := HSN.out _ gq w3 hi3 hB3
  have HBW3 := Lib.hid hbw3; have HK3 := Lib.hid hk3; have HKR3 := Lib.hid hkr3; have HNEW := Lib.hid hnew; have HB3 := Lib.hid hB3
  clear hb3 hbw3 hk3 hkr3 hi3 hnew hB3
  go_wp2_with fail
  (with_reducible refine HNEW.out.mono ?_)
  rintro e w4 ⟨g, gt, F, rfl, h4⟩
  obtain ⟨hi4, hb4, _⟩ := h4.out
  have hbw4 := bl_next HBW3.out hb4
  have hk4 := HK3.out.below hb4 HK3.out.lt
  have hkr4 := HKR3.out.below hb4 HKR3.out.lt
  have hr4 := HR.out.over hbw4 (Nat.le_refl _)
  have hG4 := HG.out.below hbw4
  have r0 := hkr4.cell 0; have r1 := hkr4.cell 1
  simp at r0 r1
  by_cases hbad : ¬ SpeedOk rb rt ∨ ¬ ListFine l
  · have hcall := HNO.out g w4 hr4 hG4 hbad
    have HCALL := Lib.hid hcall; have HBW4 := Lib.hid hbw4
    clear h4 hi4 hb4 hbw4 hk4 hkr4 hr4 hG4 hbad hcall c0 c1 c2
    go_wp2_with fail
    (with_reducible refine HCALL.out.mono ?_)
    rintro e w5 ⟨⟨Te, ve, rfl⟩, hb5⟩
    have HBW5 := Lib.hid (bl_next HBW4.out hb5)
    clear hb5
    unfold logN
    go_wp2_with fail
    go_ret
    exact ⟨rfl, bl_alloc HBW5.out⟩
  · have hs : SpeedOk rb rt := Classical.byContradiction fun h => hbad (.inl h)
    have hf : ListFine l := Classical.byContradiction fun h => hbad (.inr h)
    have hlt4 := (shp_imp _ g gt gq kk HKK.out lkP lkP_ok).lt _ _ _ _ hi4
    have hFw : ∀ i, F i → W.heap.size + 2 ≤ i := fun i hi => by have := (hlt4 i hi).1; have := HSZ1.out; omega
    have hcall := HRUN.out _ g gt gq F w4 hr4 hG4 (fun hz ad e hF => by
      have h1 := hFw _ hF
      obtain ⟨b, off, e2, hb⟩ := HR.out.addr hz
      rw [e2] at e
      obtain rfl := Option.some.inj e
      dsimp only at h1
      omega) hf hs hi4
    have hsz4 : W.heap.size + 2 ≤ w4.heap.size := by have := hi4.1; have := HSZ1.out; omega
    have HCALL := Lib.hid hcall; have HBW4 := Lib.hid hbw4; have HK4 := Lib.hid hk4; have HFW := Lib.hid hFw; have HLF := Lib.hid hf; have HSZ4 := Lib.hid hsz4
    clear h4 hi4 hb4 hbw4 hk4 hkr4 hr4 hG4 hbad hcall hs hf hlt4 hFw hsz4 c0 c1 c2
    go_wp2_with fail
    (with_reducible refine HCALL.out.mono ?_)
    rintro e w5 ⟨S, As, Al, cs, cl, rfl, h5⟩
    obtain ⟨hR, ⟨hn0, hn1⟩, hrs, _, hch⟩ := h5.out
    have hb45 : Below (W.heap.size + 2) w4 w5 := hch.below HSZ4.out (fun i hi e => by have := HFW.out i e; omega)
    have hbw5 := HBW4.out.trans (hb45.mono (by omega))
    have hk5 := HK4.out.below hb45 (by omega)
    obtain ⟨hnum, hfine, hconf⟩ := hR.s.law (by omega) HLF.out.1
    have hbd := hR.bd HLF.out.1
    have hmx : ∀ (k : Nat), Pl.goneL l (S.sent.take k) = Pl.goneL l (S.sent.take k) := fun _ => rfl
    have hb56 : Below w5.heap.size w5 (w5.alloc (.cells #[.slice As S.sent.length cs, .slice Al S.lost.length cl, .int .i64 ((Pl.shM kk (Pl.fifoM lkP)).len S.q), .int .i64 S.most] 89)) := bl_alloc (Below.refl _ _)
    have hbw6 := bl_next hbw5 hb56
    have hk6 := hk5.below hb56 hk5.lt
    have hkg := Blk.new w5 89 #[.slice As S.sent.length cs, .slice Al S.lost.length cl, .int .i64 ((Pl.shM kk (Pl.fifoM lkP)).len S.q), .int .i64 S.most]
    have hrs6 := hrs.over hb56 (Nat.le_refl _)
    have hr6 := HR.out.over hbw6 (Nat.le_refl _)
    have HBW6 := Lib.hid hbw6; have HK6 := Lib.hid hk6; have HKG := Lib.hid hkg; have HRS6 := Lib.hid hrs6; have HR6 := Lib.hid hr6; have HNUM := Lib.hid hnum; have HFINE := Lib.hid hfine; have HCONF := Lib.hid hconf
    clear h5 hR hn0 hn1 hrs hch hb45 hbw5 hk5 hnum hfine hconf hmx hb56 hbw6 hk6 hkg hrs6 hr6 HCALL HBW4 HK4 HFW r0 r1
    generalize (Pl.shM kk (Pl.fifoM lkP)).len S.q = wt at *
    have hse := hbd.2
    clear hbd
    generalize hsn : S.sent = sn at *
    clear hsn
    generalize S.lost.length = nl at *
    generalize S.most = ms at *
    go_wp2_with fail
    generalize w5.alloc (.cells #[.slice As sn.length cs, .slice Al nl cl, .int .i64 wt, .int .i64 ms] 89) = w6 at *
    generalize w5.heap.size = gl at *
    have hrel0 : LsRel w6.heap.size w6 w6 (Pl.goneL l (sn.take 0)) (.slice none 0 0) := ⟨World.ownsRow_nil _ _ _ _, Below.refl _ _⟩
    have HREL0 := Lib.hid hrel0
    clear hrel0
    go_loopw [11, 12, 13] (fun v11 i _ wr => ∃ k : Nat, k ≤ sn.length ∧ i = .int .i64 k ∧ LsRel w6.heap.size w6 wr (Pl.goneL l (sn.take k)) v11) (fun _ i _ _ => sn.length - (intOf i).toNat)
    case atStart => exact ⟨0, Nat.zero_le _, rfl, HREL0.out⟩
    case round =>
      obtain ⟨k, hk, rfl, hrel⟩ := hrel
      obtain ⟨A11, c11, rfl, rd11⟩ := own_reads hrel.o
      have hkg := HKG.out.below hrel.bel HKG.out.lt
      have g0 := hkg.cell 0
      simp at g0
      by_cases hlt : k < sn.length
      · have ik : (k : Int) < (sn.length : Int) := by omega
        obtain ⟨b, off, rfl, hbB⟩ := HRS6.out.addr hlt
        obtain ⟨c0, c1, _, _⟩ := rdSnt_at HRS6.out hlt
        have x0 := (hrel.bel.cell (p := ⟨b, off + k * 4, none⟩) hbB).trans c0
        have x1 := (hrel.bel.cell (p := ⟨b, off + k * 4 + 1, none⟩) hbB).trans c1
        have hmem : ixR SntR sn k ∈ sn := by
          unfold ixR
          rw [List.getD, List.getElem?_eq_getElem hlt]
          exact List.getElem_mem _
        have hnq := HNUM.out _ hmem
        have hnx := goneL_ix l sn hlt
        have hGl : (Pl.goneL l (sn.take k)).length = k := by unfold Pl.goneL; rw [List.length_map, List.length_take]; omega
        have HNX := Lib.hid hnx
        clear c0 c1 hmem hnx hkg
        generalize ixR SntR sn k = x at *
        obtain ⟨xn, xf, xt, xm⟩ := x
        dsimp only at x0 x1 hnq HNX
        obtain ⟨q, rfl⟩ : ∃ q : Nat, xn = q := ⟨xn.toNat, by omega⟩
        have hqt : ((q : Int)).toNat = q := by omega
        rw [hqt] at HNX
        have hqn : q < n := by have := HLL.out; omega
        obtain ⟨b2, o2, rfl, hb2⟩ := HR6.out.addr hqn
        have y1 := (hrel.bel.cell (p := ⟨b2, o2 + q * 5 + 1, none⟩) hb2).trans (HR6.out.cells hqn).2.1
        generalize (ix l q).len = lq at *
        have iq : (q : Int) < (n : Int) := by omega
        have iq0 : ¬ (q : Int) < 0 := by omega
        have iq1 : ¬ (n : Int) ≤ (q : Int) := by omega
        have dq0 : decide ((q : Int) < 0) = false := decide_eq_false iq0
        have dq1 : decide ((n : Int) ≤ (q : Int)) = false := decide_eq_false iq1
        have HREL := Lib.hid hrel
        clear hrel rd11 hnq
        generalize Pl.goneL l (sn.take k) = G at *
        have hGb : G.length ≤ 1000000 := by omega
        clear hGl
        have hBr := HREL.out.bel.size
        have hO : (wr.alloc (.cells #[.int .i64 xf, .int .i64 lq, .int .i64 0, .int .i64 0, .int .i64 0] 39)).drew.ownsRow w6.heap.size 39 ItR.sz (.slice A11 G.length c11) G.length (G.flatMap ItR.cells) := own_ov HREL.out.o (bl_drew (bl_alloc (Below.refl _ _)))
        have hC : ∀ j u, (ItR.cells ⟨xf, lq, 0, 0, 0⟩)[j]? = some u → (wr.alloc (.cells #[.int .i64 xf, .int .i64 lq, .int .i64 0, .int .i64 0, .int .i64 0] 39)).drew.cell? ((⟨wr.heap.size, 0, none⟩ : Addr).add j) = some u := fun j u hu => by
          have hb := Blk.new wr 39 #[.int .i64 xf, .int .i64 lq, .int .i64 0, .int .i64 0, .int .i64 0]
          rw [Addr.add_lit, Nat.zero_add]
          refine (hb.cell j).trans ?_
          rw [← hu]
          simp [ItR, itCells]
        have hS : w6.heap.size ≤ (wr.alloc (.cells #[.int .i64 xf, .int .i64 lq, .int .i64 0, .int .i64 0, .int .i64 0] 39)).drew.heap.size := Nat.le_trans hBr (bl_drew (bl_alloc (Below.refl wr.heap.size wr))).size
        have hbd : Below w6.heap.size w6 (wr.alloc (.cells #[.int .i64 xf, .int .i64 lq, .int .i64 0, .int .i64 0, .int .i64 0] 39)).drew := HREL.out.bel.trans ((bl_drew (bl_alloc (Below.refl wr.heap.size wr))).mono hBr)
        have HO := Lib.hid hO; have HC := Lib.hid hC; have HS := Lib.hid hS; have HBD := Lib.hid hbd
        clear hO hC hS hbd
        go_upto_region 19 with fail
        go_region_law ((refine step_pushR ItR (by rfl) (.tmp 86) (.tmp 99) 33 w6.heap.size 39 (.agg #[.int .i64 0, .int .i64 0, .int .i64 0, .int .i64 0, .int .i64 0]) 40 Tryd.underlying33 Tryd.itInfo (by rfl) rfl (.slice A11 G.length c11) G.length G ⟨xf, lq, 0, 0, 0⟩ ?_ (by rfl) ⟨wr.heap.size, 0, none⟩ (by rfl) ?_ (it_one _) hGb (by omega) ?_ ?_; (with_reducible exact HO.out); (with_reducible exact HC.out); (with_reducible exact HS.out); (intro v' w2 h1 h2 h3; have HS2 := Lib.hid (show LsRel w6.heap.size w6 w2 (G ++ [⟨xf, lq, 0, 0, 0⟩]) v' from ⟨by rw [List.length_append]; exact h1, HBD.out.trans h3⟩); clear h1 h2 h3)))
        all_goals
          go_wp2_with fail
          exact ⟨⟨k + 1, by omega, by go_num, by rw [HNX.out]; exact HS2.out⟩, by simp [intOf]; omega⟩
      · obtain rfl : k = sn.length := by omega
        have hBr := hrel.bel.size
        have hbwr := HBW6.out.trans (hrel.bel.mono HBW6.out.size)
        have hkr := HK6.out.below hrel.bel HK6.out.lt
        have c0 := hkr.cell 0; have c1 := hkr.cell 1; have c2 := hkr.cell 2
        simp at c0 c1 c2
        have htk : sn.take sn.length = sn := List.take_of_length_le (Nat.le_refl _)
        rw [htk] at rd11
        rw [htk]
        have hrd : RdIt wr wr.heap.size A11 (Pl.goneL l sn).length (Pl.goneL l sn) := rd11
        have hcall := HCF.out A11 (Pl.goneL l sn).length c11 (Pl.goneL l sn) wr hrd (HG.out.below hbwr) HFINE.out
        have HCALL := Lib.hid hcall; have HBWR := Lib.hid hbwr
        clear hrel rd11 hkr hrd hbwr hcall hkg htk
        have hmb := HFINE.out.1
        generalize Pl.goneL l sn = G at *
        go_wp2_with fail
        (with_reducible refine HCALL.out.mono ?_)
        rintro e w8 ⟨Ab, cb, rfl, hb8, hrb⟩
        have hbw8 := bl_next HBWR.out hb8
        have HBW8 := Lib.hid hbw8; have HRB := Lib.hid hrb
        clear hb8 hbw8 hrb c0 c1 c2
        generalize G.length = m at *
        go_wp2_with fail
        go_loopw [15] (fun v w' => ∃ q : Nat, q ≤ m ∧ v = .int .i64 q ∧ w' = w8) (fun v _ => m - (intOf v).toNat)
        case atStart => exact ⟨0, Nat.zero_le _, rfl, rfl⟩
        case round =>
          obtain ⟨q, hq, rfl, rfl⟩ := hrel
          by_cases hqm : q < m
          · have iq : (q : Int) < (m : Int) := by omega
            obtain ⟨bb, ob, rfl, _, hc⟩ := rdB_get HRB.out hqm
            rw [HCONF.out q hqm] at hc
            go_wp2_with fail
            exact ⟨⟨q + 1, by omega, by go_num, by first | rfl | trivial⟩, by simp [intOf]; omega⟩
          · obtain rfl : q = m := by omega
            go_wp2_with fail
            go_ret
            exact ⟨rfl, HBW8.out⟩
theorem linkShaped_core (kk : Bk) (rb rt : Int) (A : Option Addr) (n c : Nat) (l : List It) (W : World) (hr : RdIt W W.heap.size A n l) (hg : Handle W) :
    Calls Tryd.prog 12 #[bkV kk, .agg #[.int .i64 rb, .int .i64 rt], .slice A n c] W fun e w' => e = .returned (.bool true) ∧ Below W.heap.size W w' := by
  by_cases h : 40 < n
  · exact linkShaped_many kk rb rt A n c W h
  · by_cases hk : BkOk kk
    · exact linkShaped_yes kk rb rt A n c l W hr hg (by omega) hk
    · exact linkShaped_no kk rb rt A n c W (by omega) hk
end Go.Proofs.YtdhojhgmaodifaaDoor
