/-
  Bands in memory: Take.
-/
import Derived.Test.YthhgbpbaihgogaaBds
namespace Go.Proofs.Ythhgbpbaihgogaa
open Go.RowKit Bkt
set_option linter.unusedVariables false

def FqTakeOut (base g k : Nat) (s : List Hd) (w : World) (F : Nat → Prop) (r : Option Hd × List Hd) (e : Ending) (w' : World) : Prop :=
  ∃ h0, e = .returned (.tuple #[hdV h0, .slice none 0 0, .bool r.1.isSome]) ∧ Hid ((∀ x, r.1 = some x → h0 = x) ∧ ∃ F', FInv1 base g Pl.bP r.2 k F' w' ∧ Chg w w' F ∧ ∀ i, F' i → F i ∨ w.heap.size ≤ i)
theorem FqTakeOut.ret {base g k : Nat} {s : List Hd} {w : World} {F : Nat → Prop} {r : Option Hd × List Hd} : ∀ e w', FqTakeOut base g k s w F r e w' → ∃ v, e = .returned v := fun e w' ⟨_, h, _⟩ => ⟨_, h⟩
theorem fq_take (base g k : Nat) (s : List Hd) (F : Nat → Prop) (now : Int) (w : World) (h : FInv1 base g Pl.bP s k F w) :
    Calls Try.prog 20 #[.pointer (some ⟨g, 0, none⟩), .int .i64 now] w (FqTakeOut base g k s w F ((Pl.ftakeL s).1, (Pl.ftakeL s).2.2)) := by
  obtain ⟨v, cs, h⟩ := h
  have hn := h.n; have hk := h.k1
  refine (ftake_all base g 0 61 cs v s Pl.bP now w h.f h.hds).mono fun e w' ho => ?_
  obtain ⟨e1, e2, hf⟩ := ho
  obtain ⟨h0, e3, e4⟩ := optV_is (Pl.ftakeL s).1
  obtain ⟨F', v', cs', g1, g2, g3, _⟩ := h.to hf (k' := k) (by
    cases s with
    | nil => exact hn
    | cons x r => rw [List.length_cons] at hn; show r.length ≤ _; omega) hk (fun y hy => h.b y (by
    cases s with
    | nil => exact hy
    | cons x r => exact List.mem_cons_of_mem _ hy))
  exact ⟨h0, by rw [e1, e3], Lib.hid ⟨e4, F', ⟨v', cs', g1⟩, g2, g3⟩⟩
def FqTo (base g k : Nat) (l' : List Hd) (w : World) (F : Nat → Prop) (w' : World) : Prop := ∃ F', FInv1 base g Pl.bP l' k F' w' ∧ Chg w w' F ∧ ∀ i, F' i → F i ∨ w.heap.size ≤ i
theorem fq_take_none (base g k : Nat) (F : Nat → Prop) (now : Int) (w : World) (h : FInv1 base g Pl.bP [] k F w) :
    Calls Try.prog 20 #[.pointer (some ⟨g, 0, none⟩), .int .i64 now] w (fun e w' => ∃ h0, e = .returned (.tuple #[hdV h0, .slice none 0 0, .bool false]) ∧ Hid (FqTo base g k [] w F w')) :=
  (fq_take base g k [] F now w h).mono fun e w' ⟨h0, e1, h2⟩ => ⟨h0, e1, Lib.hid h2.out.2⟩
theorem fq_take_some (base g k : Nat) (x : Hd) (r : List Hd) (F : Nat → Prop) (now : Int) (w : World) (h : FInv1 base g Pl.bP (x :: r) k F w) :
    Calls Try.prog 20 #[.pointer (some ⟨g, 0, none⟩), .int .i64 now] w (fun e w' => e = .returned (.tuple #[hdV x, .slice none 0 0, .bool true]) ∧ Hid (FqTo base g k r w F w')) :=
  (fq_take base g k (x :: r) F now w h).mono fun e w' ⟨h0, e1, h2⟩ => by
    have := h2.out.1 x rfl
    subst this
    exact ⟨e1, Lib.hid h2.out.2⟩
theorem takeB_at {m : Nat} {s : Nat → List Hd} {i : Nat} {x : Hd} {r : List Hd} (hi : i < m) (hs : s i = x :: r) (hlo : ∀ j, j < i → s j = []) : Pl.takeB m s = (some x, Pl.updf s i r) := by
  rcases Pl.takeB_ways m s with ⟨_, h⟩ | ⟨i2, x2, r2, h1, h2, h3, h4⟩
  · have := h i hi; rw [hs] at this; simp at this
  · have e : i2 = i := by
      rcases Nat.lt_trichotomy i2 i with h | h | h
      · have := hlo i2 h; rw [h2] at this; simp at this
      · exact h
      · have := h3 i h; rw [hs] at this; simp at this
    subst e
    rw [hs] at h2
    injection h2 with e1 e2
    subst e1 e2
    exact h4
theorem takeB_no {m : Nat} {s : Nat → List Hd} (h : ∀ i, i < m → s i = []) : Pl.takeB m s = (none, s) := by
  rcases Pl.takeB_ways m s with ⟨e, _⟩ | ⟨i, x, r, h1, h2, _⟩
  · exact e
  · have := h i h1; rw [h2] at this; simp at this
theorem chg_six {w w' : World} {S : Nat → Prop} (h : Chg w w' S) {b : Nat} (hb : w.heap.size ≤ b) (u0 u1 u2 u3 u4 u5 : Value) :
    Chg w ((((((w'.setCell ⟨b, 0, none⟩ u0).setCell ⟨b, 1, none⟩ u1).setCell ⟨b, 2, none⟩ u2).setCell ⟨b, 3, none⟩ u3).setCell ⟨b, 4, none⟩ u4).setCell ⟨b, 5, none⟩ u5) S :=
  (((((h.setCell (p := ⟨b, 0, none⟩) (fun e => absurd e (Nat.not_lt.2 hb)) u0).setCell (p := ⟨b, 1, none⟩) (fun e => absurd e (Nat.not_lt.2 hb)) u1).setCell (p := ⟨b, 2, none⟩) (fun e => absurd e (Nat.not_lt.2 hb)) u2).setCell (p := ⟨b, 3, none⟩) (fun e => absurd e (Nat.not_lt.2 hb)) u3).setCell (p := ⟨b, 4, none⟩) (fun e => absurd e (Nat.not_lt.2 hb)) u4).setCell (p := ⟨b, 5, none⟩) (fun e => absurd e (Nat.not_lt.2 hb)) u5
theorem chg_one {w : World} (b : Nat) (u0 u1 u2 u3 u4 u5 : Value) :
    Chg w ((((((w.setCell ⟨b, 0, none⟩ u0).setCell ⟨b, 1, none⟩ u1).setCell ⟨b, 2, none⟩ u2).setCell ⟨b, 3, none⟩ u3).setCell ⟨b, 4, none⟩ u4).setCell ⟨b, 5, none⟩ u5) (fun i => i = b) :=
  ((((((Chg.refl w (fun i => i = b)).setCell (p := ⟨b, 0, none⟩) (fun _ => rfl) u0).setCell (p := ⟨b, 1, none⟩) (fun _ => rfl) u1).setCell (p := ⟨b, 2, none⟩) (fun _ => rfl) u2).setCell (p := ⟨b, 3, none⟩) (fun _ => rfl) u3).setCell (p := ⟨b, 4, none⟩) (fun _ => rfl) u4).setCell (p := ⟨b, 5, none⟩) (fun _ => rfl) u5
/-- at the head of Take's loop -/
structure BTk (w wr : World) (base gb gi c m : Nat) (G : Nat → Nat) (ls : Array Value) (s : Nat → List Hd) (k : Nat) (F : Nat → Prop) (FF' : Nat → Nat → Prop) (F' : Nat → Prop) : Prop where
  d : BdM base gb gi c m G ls FF' s k F' wr
  ch : Chg w wr F
  at_ : ∀ b, F' b → F b ∨ w.heap.size ≤ b
  blk : Blk wr w.heap.size 54 #[.int .i64 0, .int .i64 0, .int .i64 0, .int .i64 0, .int .i64 0, .int .i64 0]
  kb : ¬ F' w.heap.size
/-- a queue's step, behind it -/
theorem BTk.step {w wr w3 : World} {base gb gi c m : Nat} {G : Nat → Nat} {ls : Array Value} {s : Nat → List Hd} {k : Nat} {F : Nat → Prop} {FF' : Nat → Nat → Prop} {F' : Nat → Prop} (h : BTk w wr base gb gi c m G ls s k F FF' F') {i : Nat} (hi : i < m) {l' : List Hd} {F3 : Nat → Prop}
    (hf : FInv1 base (G i) Pl.bP l' k F3 w3) (hc : Chg wr w3 (FF' i)) (ha : ∀ b, F3 b → FF' i b ∨ wr.heap.size ≤ b) (hv : Pl.BI m (Pl.updf s i l')) : ∃ FF2 F2, BTk w w3 base gb gi c m G ls (Pl.updf s i l') k F FF2 F2 := by
  have hFF : ∀ b, FF' i b → F' b := fun b hb => (h.d.mF b).2 (.inr (.inr ⟨i, hi, hb⟩))
  obtain ⟨F2, g1, g2, g3⟩ := h.d.step hi hf (Nat.le_refl _) h.d.k1 hc ha hv
  refine ⟨_, F2, g1, h.ch.trans g2 (fun b hb hs => ?_), fun b hb => ?_, h.blk.chg g2 h.kb, fun e => ?_⟩
  · rcases h.at_ b hs with e | e
    · exact e
    · omega
  · rcases g3 b hb with e | e
    · exact h.at_ b e
    · exact .inr (Nat.le_trans h.ch.size e)
  · rcases g3 _ e with e | e
    · exact h.kb e
    · have := h.blk.lt; omega
set_option maxHeartbeats 4000000 in
set_option maxRecDepth 100000 in
theorem bds_take_c (base gb m : Nat) (s : Nat → List Hd) (k : Nat) (F : Nat → Prop) (w : World) (now : Int) (hh : Bd1 base gb m s k F w) :
    Calls Try.prog 72 #[.pointer (some ⟨gb, 0, none⟩), .int .i64 now] w (TakeOut (Bd1 base gb m) w F k ((Pl.takeB m s).1, [], (Pl.takeB m s).2)) := by
  obtain ⟨gi, c, G, ls, FF, h⟩ := hh
  have hm0 := h.m0; have hm8 := h.m8
  have hb0 : Below w.heap.size w (w.alloc (.cells #[.int .i64 0, .int .i64 0, .int .i64 0, .int .i64 0, .int .i64 0, .int .i64 0] 54)) := (Below.refl _ _).alloc (Nat.le_refl _) _
  have hgb := h.blk.lt; have hgi := h.row.lt
  have n1 : w.heap.size ≠ gb := by omega
  have n2 : gb ≠ w.heap.size := by omega
  have n3 : w.heap.size ≠ gi := by omega
  have n4 : gi ≠ w.heap.size := by omega
  have htk : BTk w (w.alloc (.cells #[.int .i64 0, .int .i64 0, .int .i64 0, .int .i64 0, .int .i64 0, .int .i64 0] 54)) base gb gi c m G ls s k F FF F :=
    ⟨h.below hb0, Chg.of_below hb0, fun b hb => .inl hb, Blk.new _ _ _, fun e => by have := (h.lt _ e).2; omega⟩
  have HTK := Lib.hid htk
  have y0 := htk.d.cell
  have HINV := Lib.hid h.inv
  obtain ⟨R, hR⟩ : ∃ R, R = Pl.takeB m s := ⟨_, rfl⟩
  rw [← hR]
  have HR := Lib.hid hR
  clear h hb0 htk hR
  go_enter Try.func72, Try.ntmps72
  go_upto_region 1 with fail
  generalize w.alloc (.cells #[.int .i64 0, .int .i64 0, .int .i64 0, .int .i64 0, .int .i64 0, .int .i64 0] 54) = W at *
  go_wp2_with fail
  go_loopw [5, 17] (fun lv i wr => ∃ (u : Nat) (FF' : Nat → Nat → Prop) (F' : Nat → Prop), u ≤ m ∧ i = .int .i64 u ∧ lv = .slice none 0 0 ∧ BTk w wr base gb gi c m G ls s k F FF' F' ∧ ∀ j, j < u → s j = []) (fun _ i _ => m - (intOf i).toNat)
  case atStart => exact ⟨0, FF, F, Nat.zero_le _, rfl, rfl, HTK.out, fun j h => by omega⟩
  case round =>
    clear HTK y0
    obtain ⟨u, FF', F', hu, rfl, rfl, htk, hem⟩ := hrel
    have HTK := Lib.hid htk; have HEM := Lib.hid hem
    clear htk hem
    by_cases hlt : u < m
    · have yi := HTK.out.d.lcell hlt
      unfold fqV at yi
      have iu : (u : Int) < (m : Int) := by omega
      have hfu := HTK.out.d.f u hlt
      have hkr := HTK.out.blk.lt
      cases hs : s u with
      | nil =>
        rw [hs] at hfu
        have ht := fq_take_none base (G u) k (FF' u) now wr hfu
        have hs0 : Pl.updf s u [] = s := by
          funext i
          by_cases e : i = u
          · subst e; rw [Pl.updf_same, hs]
          · exact Pl.updf_ne _ _ e
        have hv : Pl.BI m (Pl.updf s u []) := by rw [hs0]; exact HINV.out
        have HT := Lib.hid ht; have HV := Lib.hid hv; have HS0 := Lib.hid hs0; have HSU := Lib.hid hs
        clear ht hv hs0 hs hfu
        go_wp2_with (refine wpList_invoke1 (vx := .int .i64 now) rfl (.tmp 22) (.tmp 23) #[3] rfl (fifo_take_meth (G u)) rfl rfl HT.out (fun e w' ⟨_, h, _⟩ => ⟨_, h⟩) ?_; rintro v3 w3 ⟨h3, e3, hh3⟩; injection e3 with e3; subst e3; obtain ⟨⟨xa, xl, xf, xb, xm⟩, xn⟩ := h3; unfold hdV)
        obtain ⟨F3, g1, g2, g3⟩ := hh3.out
        obtain ⟨FF2, F2, g4⟩ := HTK.out.step hlt g1 g2 g3 HV.out
        change BTk w w3 base gb gi c m G ls (Pl.updf s u []) k F FF2 F2 at g4
        rw [HS0.out] at g4
        have hk3 := g4.blk.lt
        have hlt3 := g4.d.lt
        refine ⟨⟨u + 1, FF2, F2, by omega, by go_num, rfl, ⟨g4.d.below ((Below.refl _ _).alloc (Nat.le_refl _) _), g4.ch.alloc _, g4.at_, g4.blk.alloc _, g4.kb⟩, fun j hj => ?_⟩, by simp [intOf]; omega⟩
        by_cases e : j = u
        · subst e; exact HSU.out
        · exact HEM.out j (by omega)
      | cons x r =>
        rw [hs] at hfu
        have ht := fq_take_some base (G u) k x r (FF' u) now wr hfu
        have hta := takeB_at hlt hs HEM.out
        have hv : Pl.BI m (Pl.updf s u r) := by have := Pl.bI_take HINV.out; rw [hta] at this; exact this
        obtain rfl : R = _ := HR.out.trans hta
        have HT := Lib.hid ht; have HV := Lib.hid hv
        obtain ⟨⟨xa, xl, xf, xb, xm⟩, xn⟩ := x
        clear ht hv hta hs hfu
        go_upto_region 5 with (refine wpList_invoke1 (vx := .int .i64 now) rfl (.tmp 22) (.tmp 23) #[3] rfl (fifo_take_meth (G u)) rfl rfl HT.out (fun e w' ⟨h, _⟩ => ⟨_, h⟩) ?_; rintro v3 w3 ⟨e3, hh3⟩; injection e3 with e3; subst e3; obtain ⟨F3, g1, g2, g3⟩ := hh3.out; obtain ⟨FF2, F2, g4⟩ := HTK.out.step hlt g1 g2 g3 HV.out; have G4 := Lib.hid g4; clear g1 g2 g3 g4 hh3; unfold hdV)
        have hk3 := G4.out.blk.lt
        have n5 : w.heap.size ≠ w3.heap.size := by omega
        have n6 : w3.heap.size ≠ w.heap.size := by omega
        have hx4 := Blk.new w3 54 #[.int .i64 xa, .int .i64 xl, .int .i64 xf, .int .i64 xb, .int .i64 xm, .int .i64 xn]
        have hk4 := G4.out.blk.alloc (.cells #[.int .i64 xa, .int .i64 xl, .int .i64 xf, .int .i64 xb, .int .i64 xm, .int .i64 xn] 54)
        have hd4 := G4.out.d.below ((Below.refl _ _).alloc (Nat.le_refl _) (.cells #[.int .i64 xa, .int .i64 xl, .int .i64 xf, .int .i64 xb, .int .i64 xm, .int .i64 xn] 54))
        have hc4 := G4.out.ch.alloc (.cells #[.int .i64 xa, .int .i64 xl, .int .i64 xf, .int .i64 xb, .int .i64 xm, .int .i64 xn] 54)
        have HD4 := Lib.hid hd4; have HC4 := Lib.hid hc4; have HKB := Lib.hid G4.out.kb; have HAT := Lib.hid G4.out.at_
        clear hd4 hc4 G4 yi HTK hk3
        generalize w3.alloc (.cells #[.int .i64 xa, .int .i64 xl, .int .i64 xf, .int .i64 xb, .int .i64 xm, .int .i64 xn] 54) = w4 at *
        generalize w3.heap.size = kx at *
        obtain ⟨t0, t1, t2, t3, t4, t5, s0, s1, s2, s3, s4, s5⟩ := blk6 hk4
        obtain ⟨q0, q1, q2, q3, q4, q5, _, _, _, _, _, _⟩ := blk6 hx4
        have hkf := blk_six hk4 (.int .i64 xa) (.int .i64 xl) (.int .i64 xf) (.int .i64 xb) (.int .i64 xm) (.int .i64 xn)
        have HKF := Lib.hid hkf
        have hcf := chg_six HC4.out (Nat.le_refl _) (.int .i64 xa) (.int .i64 xl) (.int .i64 xf) (.int .i64 xb) (.int .i64 xm) (.int .i64 xn)
        have hdf := HD4.out.chg (chg_one w.heap.size (.int .i64 xa) (.int .i64 xl) (.int .i64 xf) (.int .i64 xb) (.int .i64 xm) (.int .i64 xn)) (fun i hi e => HKB.out (e ▸ hi))
        have HCF := Lib.hid hcf; have HDF := Lib.hid hdf
        clear hkf hcf hdf hk4 hx4
        go_wp2_with fail
        have r0 := HKF.out.cell 0; have r1 := HKF.out.cell 1; have r2 := HKF.out.cell 2; have r3 := HKF.out.cell 3; have r4 := HKF.out.cell 4; have r5 := HKF.out.cell 5
        simp at r0 r1 r2 r3 r4 r5
        clear t0 t1 t2 t3 t4 t5 s0 s1 s2 s3 s4 s5 q0 q1 q2 q3 q4 q5
        exact bodyPost_ret (v := .tuple #[hdV ⟨⟨xa, xl, xf, xb, xm⟩, xn⟩, .slice none 0 0, .bool true]) (by simp [results, Try.results72, go_sem, hdV, r0, r1, r2, r3, r4, r5]) rfl
          ⟨⟨⟨xa, xl, xf, xb, xm⟩, xn⟩, none, 0, 0, F2, rfl, fun x e => (by injection e), by omega, Reads.none_, fun ad e => (by cases e), ⟨gi, c, G, ls, FF2, HDF.out⟩, HCF.out, HAT.out⟩
    · obtain rfl : u = m := by omega
      obtain rfl : R = _ := HR.out.trans (takeB_no HEM.out)
      obtain ⟨t0, t1, t2, t3, t4, t5, s0, s1, s2, s3, s4, s5⟩ := blk6 HTK.out.blk
      go_wp2_with fail
      have hkf := blk_six HTK.out.blk (.int .i64 0) (.int .i64 0) (.int .i64 0) (.int .i64 0) (.int .i64 0) (.int .i64 0)
      have r0 := hkf.cell 0; have r1 := hkf.cell 1; have r2 := hkf.cell 2; have r3 := hkf.cell 3; have r4 := hkf.cell 4; have r5 := hkf.cell 5
      simp at r0 r1 r2 r3 r4 r5
      refine bodyPost_ret (v := .tuple #[hdV Hd.zero, .slice none 0 0, .bool false]) (by simp [results, Try.results72, go_sem, hdV, Hd.zero, It.zero, r0, r1, r2, r3, r4, r5]) rfl
        ⟨Hd.zero, none, 0, 0, F', rfl, fun x e => (by cases e), by omega, Reads.none_, fun ad e => (by cases e), ⟨gi, c, G, ls, FF', ?_⟩, chg_six HTK.out.ch (Nat.le_refl _) _ _ _ _ _ _, HTK.out.at_⟩
      exact HTK.out.d.chg (chg_one w.heap.size _ _ _ _ _ _) (fun i hi e => HTK.out.kb (e ▸ hi))
end Go.Proofs.Ythhgbpbaihgogaa
