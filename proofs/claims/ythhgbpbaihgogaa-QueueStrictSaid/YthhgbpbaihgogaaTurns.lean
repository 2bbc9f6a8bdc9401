/-
  The fact 'turns': two flows that take turns.
-/
import Derived.Test.YthhgbpbaihgogaaRndImp
namespace Go.Proofs.Ythhgbpbaihgogaa
open Go.RowKit Bkt
set_option linter.unusedVariables false

def tX (i : Nat) : Hd := ⟨⟨0, 10, ((i % 2 : Nat) : Int), 0, 0⟩, i⟩
def tS : Nat → Pl.RS
  | 0 => rs0
  | i + 1 => (Pl.putR 5 (tX i) (tS i)).2
def tQ : Nat → Int := qTo [10, 20] 2 16
def tT (s : Pl.RS) : Option Hd × Pl.RS := Pl.takeR tQ (Pl.measR s + 1) s
theorem tS_sees : (tT (tS 4)).1 = some (tX 0) ∧ (tT (tT (tS 4)).2).1 = some (tX 1) ∧ (tT (tT (tT (tS 4)).2).2).1 = some (tX 3) := by
  refine ⟨?_, ?_, ?_⟩ <;> rfl
theorem tQ_ok : Pl.QOk tQ := fun f hf => by
  unfold tQ qTo
  rw [if_pos hf]
  rcases f with _ | f
  · exact ⟨by decide, by decide⟩
  · rw [show min (f + 1) (2 - 1) = 1 by omega]; exact ⟨by decide, by decide⟩
theorem tQs : QsOk 5 2 [10, 20] := ⟨⟨by decide, by decide⟩, ⟨by decide, by decide⟩, fun i hi => by
  rcases i with _ | _ | i
  · exact ⟨by decide, by decide⟩
  · exact ⟨by decide, by decide⟩
  · omega⟩
theorem Rds.inv0 {w : World} {base g : Nat} {cs : Array Value} {Q : Nat → Int} {room : Int} (h : Rds w base g cs (fun _ => .slice none 0 0) (.slice none 0 0) Q room rs0 0 0) (hg : base ≤ g) : RInv1 base g Q room rs0 0 (fun i => i = g) w :=
  ⟨cs, _, _, by rw [Pl.waitR_rs0]; exact h, Pl.rs0_ok, by rw [Pl.waitR_rs0]; exact Nat.le_refl _, Nat.le_trans hg (Nat.le_of_lt h.blk.lt), by omega, hg, fun i => by simp [RF, Value.ownBlock]⟩
theorem Chg.toB {B : Nat} {W w w' : World} {F : Nat → Prop} (hb : Below B W w) (hc : Chg w w' F) (hF : ∀ i, F i → B ≤ i) (hB : B ≤ w.heap.size) : Below B W w' := hb.trans (hc.below hB (fun i hi hf => by have := hF i hf; omega))

theorem take_lit {g : Nat} {now : Int} {w : World} {x : Hd} {v : Value} {R : (Option Addr) → Nat → Nat → (Nat → Prop) → World → Prop}
    (h : Calls Try.prog 31 #[.pointer (some ⟨g, 0, none⟩), .int .i64 now] w fun e w' => ∃ A n c F', e = .returned (.tuple #[hdV x, .slice A n c, .bool true]) ∧ R A n c F' w') (hv : hdV x = v) :
    Calls Try.prog 31 #[.pointer (some ⟨g, 0, none⟩), .int .i64 now] w fun e w' => ∃ A n c F', e = .returned (.tuple #[v, .slice A n c, .bool true]) ∧ R A n c F' w' := by
  subst hv; exact h
set_option maxHeartbeats 4000000 in
set_option maxRecDepth 100000 in
theorem turns_yes (w : World) : Calls Try.prog 25 #[] w fun e w' => e = .returned (.bool true) ∧ Below w.heap.size w w' := by
  have hb0 : Below w.heap.size w (w.alloc (.cells #[.int .i64 10, .int .i64 20] 3)) := (Below.refl _ _).alloc (Nat.le_refl _) _
  have hr : RdI (w.alloc (.cells #[.int .i64 10, .int .i64 20] 3)) (w.alloc (.cells #[.int .i64 10, .int .i64 20] 3)).heap.size (some ⟨w.heap.size, 0, none⟩) 2 [10, 20] := by
    have hk := Blk.new w 3 #[.int .i64 10, .int .i64 20]
    refine ⟨rfl, fun _ => ⟨_, rfl, hk.lt, fun j u hu => ?_⟩⟩
    rw [Addr.add_lit, Nat.zero_add, hk.cell, ← hu]
    simp
  have hn := newRounds_yes 5 (some ⟨w.heap.size, 0, none⟩) 2 2 [10, 20] _ hr tQs
  have HN := Lib.hid hn; have HB0 := Lib.hid hb0
  clear hr hn hb0
  go_enter Try.func25, Try.ntmps25
  go_wp2_with fail
  (with_reducible refine HN.out.mono ?_)
  rintro e w1 ⟨g, cs, rfl, hg, hb1, hd⟩
  have hi := hd.inv0 hg
  have hsz := hb1.size
  have hb2 := HB0.out.trans (hb1.mono HB0.out.size)
  have hgw : w.heap.size ≤ g := Nat.le_trans HB0.out.size hg
  obtain ⟨B1, hB1⟩ : ∃ B, B = (w.alloc (.cells #[.int .i64 10, .int .i64 20] 3)).heap.size := ⟨_, rfl⟩
  rw [← hB1] at hi hsz hg
  have hBw : w.heap.size ≤ B1 := by rw [hB1]; exact HB0.out.size
  have HI := Lib.hid hi; have HB2 := Lib.hid hb2
  clear hi hb2 hd hb1 hB1 HN HB0
  go_wp2_with fail
  go_loopw [3] (fun i wr => ∃ (k : Nat) (F : Nat → Prop), k ≤ 4 ∧ i = .int .i64 k ∧ RInv1 B1 g tQ 5 (tS k) k F wr ∧ Below w.heap.size w wr) (fun i _ => 4 - (intOf i).toNat)
  case atStart => exact ⟨0, _, by omega, rfl, HI.out, HB2.out⟩
  case round =>
    obtain ⟨k, F, hk, rfl, hinv, hbl⟩ := hrel
    by_cases hlt : k < 4
    · have hp := rnd_put_c B1 g tQ 5 (tS k) k F wr 0 (tX k) hinv (by omega) (by rcases k with _|_|_|_|k; all_goals first | rfl | omega)
      have hFl : ∀ i, F i → B1 ≤ i := fun i hi => by obtain ⟨_, _, _, h⟩ := hinv; exact (h.lt i hi).1
      have hwr : B1 ≤ wr.heap.size := by obtain ⟨_, _, _, h⟩ := hinv; exact h.bs
      have HBL := Lib.hid hbl; have HFL := Lib.hid hFl
      unfold tX hdV at hp
      dsimp only at hp
      have HP := Lib.hid hp
      clear hinv hbl hp hFl
      rcases k with _|_|_|_|k
      all_goals first | omega | skip
      all_goals
        simp at HP
        go_wp2_with (go_at_call 30; (with_reducible refine HP.out.mono ?_); rintro e w2 ⟨A, n, c, F', rfl, _, _, _, h1, h2, _⟩; have HIN := Lib.hid h1; have HBN := Lib.hid (Chg.toB HBL.out h2 (fun i hi => Nat.le_trans hBw (HFL.out i hi)) (Nat.le_trans hBw hwr)); clear h1 h2)
        exact ⟨⟨_, _, by decide, rfl, HIN.out, HBN.out⟩, by decide⟩
    · obtain rfl : k = 4 := by omega
      clear HI HB2
      have hwr : B1 ≤ wr.heap.size := by obtain ⟨_, _, _, h⟩ := hinv; exact h.bs
      have hFl : ∀ i, F i → B1 ≤ i := fun i hi => by obtain ⟨_, _, _, h⟩ := hinv; exact (h.lt i hi).1
      obtain ⟨e1, e2, e3⟩ := tS_sees
      have hp1 := take_lit (rnd_take_some B1 g tQ tQ_ok 5 (tS 4) 4 F wr 0 hinv _ e1) (v := .agg #[.int .i64 0, .int .i64 10, .int .i64 0, .int .i64 0, .int .i64 0, .int .i64 0]) rfl
      have hp2 := fun F w h => take_lit (rnd_take_some B1 g tQ tQ_ok 5 (tT (tS 4)).2 4 F w 0 h _ e2) (v := .agg #[.int .i64 0, .int .i64 10, .int .i64 1, .int .i64 0, .int .i64 0, .int .i64 1]) rfl
      have hp3 := fun F w h => take_lit (rnd_take_some B1 g tQ tQ_ok 5 (tT (tT (tS 4)).2).2 4 F w 0 h _ e3) (v := .agg #[.int .i64 0, .int .i64 10, .int .i64 1, .int .i64 0, .int .i64 0, .int .i64 3]) rfl
      have HBL := Lib.hid hbl; have HFL := Lib.hid hFl; have HP1 := Lib.hid hp1; have HP2 := Lib.hid hp2; have HP3 := Lib.hid hp3
      clear hinv hbl hFl e1 e2 e3 hp1 hp2 hp3
      go_upto_region 9 with (go_at_call 31; (with_reducible refine HP1.out.mono ?_); rintro e w2 ⟨A1, n1, c1, F1, rfl, hi1, hc1, hf1⟩; have HI1 := Lib.hid hi1; have HC1 := Lib.hid hc1; have HF1 := Lib.hid hf1; clear hi1 hc1 hf1)
      have hl1 := (HI1.out.facts).1
      have hb1 : Below w2.heap.size w2 (w2.alloc (.cells #[.int .i64 0, .int .i64 10, .int .i64 0, .int .i64 0, .int .i64 0, .int .i64 0] 54)) := (Below.refl _ _).alloc (Nat.le_refl _) _
      have hi1 : RInv1 B1 g tQ 5 (tT (tS 4)).2 4 F1 _ := (rnd_imp B1 g tQ tQ_ok 5).chg _ _ _ _ _ (fun _ => False) HI1.out (Chg.of_below hb1) (fun _ _ h => h)
      have hk1 := Blk.new w2 54 #[.int .i64 0, .int .i64 10, .int .i64 0, .int .i64 0, .int .i64 0, .int .i64 0]
      have hbb1 := (Chg.toB HBL.out HC1.out (fun i hi => Nat.le_trans hBw (HFL.out i hi)) (Nat.le_trans hBw hwr))
      have hsz1 := HI1.out.facts.2
      have hbb1' := hbb1.trans (hb1.mono (Nat.le_trans hBw hsz1))
      have HL1 := Lib.hid hl1; have HI1' := Lib.hid hi1; have HK1 := Lib.hid hk1; have HBB1 := Lib.hid hbb1'
      have hw2 : w2.heap.size < (w2.alloc (.cells #[.int .i64 0, .int .i64 10, .int .i64 0, .int .i64 0, .int .i64 0, .int .i64 0] 54)).heap.size := by simp
      clear hl1 hb1 hi1 hk1 hbb1 hbb1' HP1 HBL HFL HC1 HF1
      generalize w2.heap.size = k1 at *
      generalize w2.alloc (.cells #[.int .i64 0, .int .i64 10, .int .i64 0, .int .i64 0, .int .i64 0, .int .i64 0] 54) = w3 at *
      go_upto_region 10 with (go_at_call 31; (with_reducible refine (HP2.out _ _ HI1'.out).mono ?_); rintro e w4 ⟨A2, n2, c2, F2, rfl, hi2, hc2, hf2⟩; have HI2 := Lib.hid hi2; have HC2 := Lib.hid hc2; have HF2 := Lib.hid hf2; clear hi2 hc2 hf2)
      have hl2 := (HI2.out.facts).1
      have hb2 : Below w4.heap.size w4 (w4.alloc (.cells #[.int .i64 0, .int .i64 10, .int .i64 1, .int .i64 0, .int .i64 0, .int .i64 1] 54)) := (Below.refl _ _).alloc (Nat.le_refl _) _
      have hi2 : RInv1 B1 g tQ 5 (tT (tT (tS 4)).2).2 4 F2 _ := (rnd_imp B1 g tQ tQ_ok 5).chg _ _ _ _ _ (fun _ => False) HI2.out (Chg.of_below hb2) (fun _ _ h => h)
      have hk2 := Blk.new w4 54 #[.int .i64 0, .int .i64 10, .int .i64 1, .int .i64 0, .int .i64 0, .int .i64 1]
      have hk1 := (HK1.out.chg HC2.out (fun e => by have := (HL1.out _ e).2; omega)).alloc (.cells #[.int .i64 0, .int .i64 10, .int .i64 1, .int .i64 0, .int .i64 0, .int .i64 1] 54)
      have hbb2 := (Chg.toB HBB1.out HC2.out (fun i hi => Nat.le_trans hBw (HL1.out i hi).1) HBB1.out.size)
      have hbb2' := hbb2.trans (hb2.mono hbb2.size)
      have hn1 : ¬ F2 k1 := fun e => by
        rcases HF2.out _ e with e2 | e2
        · have := (HL1.out _ e2).2; omega
        · omega
      have HL2 := Lib.hid hl2; have HI2' := Lib.hid hi2; have HK2 := Lib.hid hk2; have HK1' := Lib.hid hk1; have HBB2 := Lib.hid hbb2'; have HN1 := Lib.hid hn1
      have hw4 : w4.heap.size < (w4.alloc (.cells #[.int .i64 0, .int .i64 10, .int .i64 1, .int .i64 0, .int .i64 0, .int .i64 1] 54)).heap.size := by simp
      have hw3 := HC2.out.size
      clear hl2 hb2 hi2 hk2 hk1 hbb2 hbb2' hn1 HP2 HC2 HF2 HK1 HBB1 HI1 HI1' HL1
      generalize w4.heap.size = k2 at *
      generalize w4.alloc (.cells #[.int .i64 0, .int .i64 10, .int .i64 1, .int .i64 0, .int .i64 0, .int .i64 1] 54) = w5 at *
      go_upto_region 11 with (go_at_call 31; (with_reducible refine (HP3.out _ _ HI2'.out).mono ?_); rintro e w6 ⟨A3, n3, c3, F3, rfl, hi3, hc3, hf3⟩; have HI3 := Lib.hid hi3; have HC3 := Lib.hid hc3; clear hi3 hc3 hf3)
      have hk3 := Blk.new w6 54 #[.int .i64 0, .int .i64 10, .int .i64 1, .int .i64 0, .int .i64 0, .int .i64 3]
      have hk2 := (HK2.out.chg HC3.out (fun e => by have := (HL2.out _ e).2; omega)).alloc (.cells #[.int .i64 0, .int .i64 10, .int .i64 1, .int .i64 0, .int .i64 0, .int .i64 3] 54)
      have hk1 := (HK1'.out.chg HC3.out HN1.out).alloc (.cells #[.int .i64 0, .int .i64 10, .int .i64 1, .int .i64 0, .int .i64 0, .int .i64 3] 54)
      have hbb3 := (Chg.toB HBB2.out HC3.out (fun i hi => Nat.le_trans hBw (HL2.out i hi).1) HBB2.out.size)
      have hbb3' := hbb3.alloc hbb3.size (.cells #[.int .i64 0, .int .i64 10, .int .i64 1, .int .i64 0, .int .i64 0, .int .i64 3] 54)
      have z1 := hk1.cell 5; have z2 := hk2.cell 5; have z3 := hk3.cell 5
      simp at z1 z2 z3
      have HBB3 := Lib.hid hbb3'
      clear hk1 hk2 hk3 hbb3 hbb3' HK1' HK2 HC3 HI3 HI2' HI2 HP3 HL2 HBB2 HN1
      go_wp2_with fail
      go_ret
      exact ⟨rfl, HBB3.out⟩
end Go.Proofs.Ythhgbpbaihgogaa
