/-
  The shaper is its machine; its making.
-/
import Derived.Test.YtdhojhgmaodifaaDoorShpPut
namespace Go.Proofs.YtdhojhgmaodifaaDoor
open Go.RowKit Bkt
set_option linter.unusedVariables false

def shpV (g : Nat) : Value := .iface 74 (.pointer (some ⟨g, 0, none⟩))
theorem shp_put_meth (g : Nat) : Meth (shpV g) "Put" 94 (.pointer (some ⟨g, 0, none⟩)) := by
  intro args w; kernel_rfl
theorem shp_take_meth (g : Nat) : Meth (shpV g) "Take" 95 (.pointer (some ⟨g, 0, none⟩)) := by
  intro args w; kernel_rfl
theorem shp_when_meth (g : Nat) : Meth (shpV g) "When" 96 (.pointer (some ⟨g, 0, none⟩)) := by
  intro args w; kernel_rfl
theorem shp_len_meth (g : Nat) : Meth (shpV g) "Len" 93 (.pointer (some ⟨g, 0, none⟩)) := by
  intro args w; kernel_rfl
theorem shp_bytes_meth (g : Nat) : Meth (shpV g) "Bytes" 92 (.pointer (some ⟨g, 0, none⟩)) := by
  intro args w; kernel_rfl
theorem take_is (b : Bk) (p : Pl.FP) (now : Int) (s : Pl.Shp (List Hd)) : (Pl.shM b (Pl.fifoM p)).take now s = Pl.shTake b now (Pl.lookF s) := by
  show Pl.shTake b now (Pl.look (Pl.fifoM p) now s) = _
  exact congrArg (Pl.shTake b now) (Pl.look_is p now s)
theorem when_is (b : Bk) (p : Pl.FP) (now : Int) (s : Pl.Shp (List Hd)) : (Pl.shM b (Pl.fifoM p)).when_ now s = Pl.shWhenF b p now (Pl.lookF s) := by
  exact (Pl.shWhen_is b p now (Pl.look (Pl.fifoM p) now s)).trans (congrArg (Pl.shWhenF b p now) (Pl.look_is p now s))
theorem take_lost (b : Bk) (now : Int) (s : Pl.Shp (List Hd)) : (Pl.shTake b now s).2.1 = [] := by
  obtain ⟨q, st, nx⟩ := s
  cases nx with
  | none => rfl
  | some x =>
    unfold Pl.shTake
    dsimp only
    split <;> rfl
theorem shp_imp (base g gt gq : Nat) (b : Bk) (hk : BkOk b) (p : Pl.FP) (hp : Pl.FOk p) : QImp (Pl.shM b (Pl.fifoM p)) (shpV g) base (ShInv base b p g gt gq) where
  lt := fun s k F w ⟨_, Fq, vn, h⟩ => h.lt
  base := fun s k F w ⟨h, _⟩ => h
  chg := fun s k F w w' S ⟨h0, Fq, vn, h⟩ hc hn => ⟨Nat.le_trans h0 hc.size, Fq, vn, h.chg hp hc hn⟩
  put := ⟨_, _, shp_put_meth g, fun s k F w now x ⟨h0, Fq, vn, h⟩ hk1 hx => (sput_any base b p hp g gt gq s k F Fq w vn now x h hk1 hx h0).mono fun e w' ⟨A, n, c, e1, h1⟩ => by
    obtain ⟨g1, g2, g3, F', Fq', vn', g4, g5, g6⟩ := h1.out
    exact ⟨A, n, c, F', e1, g1, g2, g3, ⟨Nat.le_trans h0 g5.size, Fq', vn', g4⟩, g5, g6⟩⟩
  take := ⟨_, _, shp_take_meth g, fun s k F w now ⟨h0, Fq, vn, h⟩ hn0 hn1 => (stake_any base b hk p hp g gt gq s k F Fq w vn now h hn0 hn1 h0).mono fun e w' ⟨x, e1, e2, h1⟩ => by
    obtain ⟨F', Fq', vn', g4, g5, g6⟩ := h1.out
    have hr : RdR HdR w' w'.heap.size none 0 (Pl.shTake b now (Pl.lookF s)).2.1 := by rw [take_lost]; exact RdR.nil
    have ho : TakeOut (σ := Pl.Shp (List Hd)) (ShInv base b p g gt gq) w F k (Pl.shTake b now (Pl.lookF s)) e w' := ⟨x, none, 0, 0, F', e1, e2, by omega, hr, (fun ad e => by cases e), ⟨Nat.le_trans h0 g5.size, Fq', vn', g4⟩, g5, g6⟩
    exact Eq.mpr (congrArg (fun r => TakeOut (σ := Pl.Shp (List Hd)) (ShInv base b p g gt gq) w F k r e w') (take_is b p now s)) ho⟩
  when_ := ⟨_, _, shp_when_meth g, fun s k F w now ⟨h0, Fq, vn, h⟩ hn0 hn1 => (swhen_any base b hk p hp g gt gq s k F Fq w vn now h hn0 hn1 h0).mono fun e w' ⟨a, e1, e2, h1⟩ => by
    obtain ⟨F', Fq', vn', g4, g5, g6⟩ := h1.out
    have ho : WhenOut (σ := Pl.Shp (List Hd)) (ShInv base b p g gt gq) w F k (Pl.shWhenF b p now (Pl.lookF s)) e w' := ⟨a, F', e1, e2, ⟨Nat.le_trans h0 g5.size, Fq', vn', g4⟩, g5, g6⟩
    exact Eq.mpr (congrArg (fun r => WhenOut (σ := Pl.Shp (List Hd)) (ShInv base b p g gt gq) w F k r e w') (when_is b p now s)) ho⟩
  len := ⟨_, _, shp_len_meth g, fun s k F w ⟨h0, Fq, vn, h⟩ => slen_any base b p hp g gt gq s k F Fq w vn h⟩
  bytes := ⟨_, _, shp_bytes_meth g, fun s k F w ⟨h0, Fq, vn, h⟩ => sbytes_any base b p hp g gt gq s k F Fq w vn h⟩

def SNewOut (base : Nat) (b : Bk) (p : Pl.FP) (gq : Nat) (Fq : Nat → Prop) (w : World) (e : Ending) (w' : World) : Prop :=
  ∃ g gt F, e = .returned (.tuple #[.pointer (some ⟨g, 0, none⟩), .nilIface]) ∧ Hid (ShInv base b p g gt gq ⟨[], Bkt.start b, none⟩ 0 F w' ∧ Below w.heap.size w w' ∧ ∀ i, F i → Fq i ∨ w.heap.size ≤ i)
set_option maxHeartbeats 1000000 in
set_option maxRecDepth 100000 in
theorem snew_yes (base : Nat) (b : Bk) (hk : BkOk b) (p : Pl.FP) (hp : Pl.FOk p) (gq : Nat) (Fq : Nat → Prop) (w : World) (h : FInv1 base gq p [] 0 Fq w) (hB : base ≤ w.heap.size) :
    Calls Tryd.prog 36 #[bkV b, fifV gq] w (SNewOut base b p gq Fq w) := by
  have hnew := fun W => new_yes b W hk
  have hlt := (fifo_imp base gq p hp).lt _ _ _ _ h
  have hch := fun w' (hc : Below w.heap.size w w') => (fifo_imp base gq p hp).chg _ _ _ _ w' (fun _ => False) h (Chg.of_below hc) (fun _ _ e => e)
  have HCH := Lib.hid hch; have HLT := Lib.hid hlt; have HK := Lib.hid hk
  clear h hch hlt hk
  obtain ⟨kb, kt, kr⟩ := b
  unfold bkV fifV at *
  dsimp only at hnew
  have HNEW := Lib.hid hnew
  clear hnew
  go_enter Tryd.func36, Tryd.ntmps36
  go_wp2_with fail
  refine (HNEW.out _).mono ?_
  rintro e w1 ⟨gt, hgt, rfl, hb1, hst⟩
  have hbw := bl_next (bl_alloc (Below.refl w.heap.size w)) hb1
  have hgt2 : w.heap.size ≤ gt := by simp at hgt; omega
  have HBW := Lib.hid hbw; have HST := Lib.hid hst
  clear hbw hst hb1 hgt
  go_wp2_with fail
  go_ret2
  have hgl : gt < w1.heap.size := Blk.lt HST.out
  have hsz := HBW.out.size
  have hq2 := HCH.out _ (bl_alloc (o := .cells #[fifV gq, .pointer (some ⟨gt, 0, none⟩), .pointer none, .slice none 0 0] 125) HBW.out)
  refine ⟨w1.heap.size, gt, fun i => i = w1.heap.size ∨ i = gt ∨ Fq i, rfl, Lib.hid ⟨⟨?_, Fq, .pointer none, ⟨Blk.new _ _ _, Blk.alloc HST.out _, sok_start HK.out, by show (0 : Int) ≤ 1000000000; decide, hq2, .inl ⟨rfl, rfl⟩, ⟨fun e => ?_, fun e => ?_⟩, ⟨.inl rfl, .inr (.inl rfl), fun i hi => .inr (.inr hi)⟩, fun i hi => ?_⟩⟩, bl_alloc HBW.out, fun i hi => ?_⟩⟩
  · simp; omega
  · have := (HLT.out _ e).2; omega
  · have := (HLT.out _ e).2; omega
  · rcases hi with rfl | rfl | hi
    · simp; omega
    · simp; omega
    · have := HLT.out _ hi; simp; omega
  · rcases hi with rfl | rfl | hi
    · exact .inr hsz
    · exact .inr hgt2
    · exact .inl hi
set_option maxHeartbeats 1000000 in
set_option maxRecDepth 100000 in
theorem snew_no (b : Bk) (hk : ¬ BkOk b) (gq : Nat) (w : World) :
    Calls Tryd.prog 36 #[bkV b, fifV gq] w fun e w' => (∃ T v, e = .returned (.tuple #[.pointer none, .iface T v])) ∧ Below w.heap.size w w' := by
  have hnew := fun W => new_no b W hk
  clear hk
  obtain ⟨kb, kt, kr⟩ := b
  unfold bkV fifV at *
  dsimp only at hnew
  have HNEW := Lib.hid hnew
  clear hnew
  go_enter Tryd.func36, Tryd.ntmps36
  go_wp2_with fail
  refine (HNEW.out _).mono ?_
  rintro e w1 ⟨j, rfl, hb1⟩
  have hbw := bl_next (bl_alloc (Below.refl w.heap.size w)) hb1
  have HBW := Lib.hid hbw
  clear hbw hb1
  go_wp2_with fail
  go_ret2
  exact ⟨⟨_, _, rfl⟩, HBW.out⟩
end Go.Proofs.YtdhojhgmaodifaaDoor
