/-
  Texts of this claim, one behind the other: RunW.
-/
import Derived.Test.YtgdijbaodfghjaaGreatDoorZ30
import Derived.Test.YtgdijbaodfghjaaGreatDoorZ38
import Derived.Test.YtgdijbaodfghjaaGreatDoorZ22
import Derived.Test.YtgdijbaodfghjaaGreatDoorZ36
/-
  What goes over a wire from a text's queue (run).
-/
namespace Go.Proofs.YtgdijbaodfghjaaGreatDoor
open Go.RowKit Bkt
set_option linter.unusedVariables false
theorem parse_nil (text : List UInt8) (hlm : text.length ≤ 1000000) (w : World) (hv : Pv w) : Calls Tryz.prog 17 #[.string ⟨text.toArray⟩, .slice none 0 0] w (ParseEnd w (parseW [] text)) :=
  parse_p text hlm none 0 [] w hv Reads.none_ (by decide)
def RunWNo (w : World) (e : Ending) (w' : World) : Prop := e = .returned (.tuple #[logN, .bool false]) ∧ Below w.heap.size w w'
def RunWYes {M : Pl.QM} (R : Pl.Lk M.σ → Prop) (w : World) (e : Ending) (w' : World) : Prop :=
  ∃ (S : Pl.Lk M.σ) (As Al : Option Addr) (cs cl : Nat), e = .returned (.tuple #[.agg #[.slice As S.sent.length cs, .slice Al S.lost.length cl, .int .i64 (M.len S.q), .int .i64 S.most], .bool true]) ∧ Hid (R S ∧ RdR SntR w' w'.heap.size As S.sent.length S.sent ∧ RdR IntR w' w'.heap.size Al S.lost.length S.lost ∧ Below w.heap.size w w')
theorem rn_two (w : World) (a b : Value) : Blk ((w.alloc (.cells #[a, b] 23)).alloc (.cells logZ 28)) w.heap.size 23 #[a, b] ∧ Blk ((w.alloc (.cells #[a, b] 23)).alloc (.cells logZ 28)) (w.heap.size + 1) 28 logZ ∧ Below w.heap.size w ((w.alloc (.cells #[a, b] 23)).alloc (.cells logZ 28)) := by
  refine ⟨(Blk.new w _ _).alloc _, ?_, bl_alloc (bl_alloc (Below.refl _ _))⟩
  have := Blk.new (w.alloc (.cells #[a, b] 23)) 28 logZ
  simpa using this
set_option maxHeartbeats 2000000 in
set_option maxRecDepth 100000 in
theorem run_w_none (text : List UInt8) (hlm : text.length ≤ 1000000) (rb rt until_ : Int) (A : Option Addr) (n c : Nat) (w : World) (hv : Pv w) (hp : parseW [] text = none) :
    Calls Tryz.prog 7 #[.string ⟨text.toArray⟩, .agg #[.int .i64 rb, .int .i64 rt], .slice A n c, .int .i64 until_] w (RunWNo w) := by
  obtain ⟨hk0, hk1, hb0⟩ := rn_two w (.int .i64 rb) (.int .i64 rt)
  have hpa := parse_nil text hlm _ (hv.below hb0 hv.sz)
  rw [hp] at hpa
  have HPA := Lib.hid hpa; have HB0 := Lib.hid hb0; have HK1 := Lib.hid hk1
  clear hpa hb0 hk0 hk1 hv
  unfold logZ at *
  go_enter Tryz.func7, Tryz.ntmps7
  go_wp2_with fail
  (with_reducible refine HPA.out.mono ?_)
  rintro e w2 (⟨P, v, F, hP, rfl, hqv, h2⟩ | ⟨_, T, x, rfl, h2⟩)
  · cases hP
  have hb2 := bl_next HB0.out h2.out
  have hk2 := HK1.out.below h2.out HK1.out.lt
  have z0 := hk2.cell 0; have z1 := hk2.cell 1; have z2 := hk2.cell 2; have z3 := hk2.cell 3
  have fz0 := hk2.frozen 0; have fz1 := hk2.frozen 1; have fz2 := hk2.frozen 2; have fz3 := hk2.frozen 3
  simp at z0 z1 z2 z3
  have HB2 := Lib.hid hb2; have HK2 := Lib.hid hk2
  clear h2 hb2 hk2
  go_wp2_with fail
  refine bodyPost_isL fun Wf hWf => ?_
  have hc := chg_4L w2 (w.heap.size + 1) (.slice none 0 0) (.slice none 0 0) (.int .i64 0) (.int .i64 0)
  have hkf := blk_4L HK2.out (.slice none 0 0) (.slice none 0 0) (.int .i64 0) (.int .i64 0)
  rw [← hWf] at hc hkf
  have hbf : Below w.heap.size w Wf := HB2.out.trans (hc.below HB2.out.size (fun i hi e => by omega))
  have r0 := hkf.cell 0; have r1 := hkf.cell 1; have r2 := hkf.cell 2; have r3 := hkf.cell 3
  simp at r0 r1 r2 r3
  clear hWf hc
  refine bodyPost_ret (v := .tuple #[logN, .bool false]) (by simp [results, Tryz.results7, go_sem, logN, r0, r1, r2, r3]) rfl ?_
  exact ⟨rfl, hbf⟩
theorem rn_fin {w w2 W Wf : World} (b0 b1 b2 b3 a0 a1 a2 a3 : Value) (HB2 : Below w.heap.size w w2) (hk2 : Blk w2 (w.heap.size + 1) 28 #[b0, b1, b2, b3]) (hW : Below w2.heap.size w2 W)
    (hWf : Wf = (((W.setCell ⟨w.heap.size + 1, 0, none⟩ a0).setCell ⟨w.heap.size + 1, 1, none⟩ a1).setCell ⟨w.heap.size + 1, 2, none⟩ a2).setCell ⟨w.heap.size + 1, 3, none⟩ a3) :
    Blk Wf (w.heap.size + 1) 28 #[a0, a1, a2, a3] ∧ Chg w2 Wf (fun i => i = w.heap.size + 1) ∧ Below w.heap.size w Wf := by
  have hk := hk2.below hW hk2.lt
  have hc := chg_4L W (w.heap.size + 1) a0 a1 a2 a3
  have hkf := blk_4L hk a0 a1 a2 a3
  rw [← hWf] at hc hkf
  have hb : Below w.heap.size w W := HB2.trans (hW.mono HB2.size)
  exact ⟨hkf, (Chg.of_below hW).trans hc (fun i _ e => e), hb.trans (hc.below hb.size (fun i hi e => by omega))⟩
set_option maxHeartbeats 2000000 in
set_option maxRecDepth 100000 in
theorem run_w_bad {P : Pk} (text : List UInt8) (hlm : text.length ≤ 1000000) (rb rt until_ : Int) (A : Option Addr) (n c : Nat) (l : List It) (w : World) (hv : Pv w) (hr : RdIt w w.heap.size A n l) (hp : parseW [] text = some P) (hbad : (¬ SpeedOk rb rt ∨ ¬ ListFine l) ∨ (SpeedOk rb rt ∧ ListFine l ∧ ¬ (0 ≤ until_ ∧ until_ ≤ 10000000))) :
    Calls Tryz.prog 7 #[.string ⟨text.toArray⟩, .agg #[.int .i64 rb, .int .i64 rt], .slice A n c, .int .i64 until_] w (RunWNo w) := by
  obtain ⟨hk0, hk1, hb0⟩ := rn_two w (.int .i64 rb) (.int .i64 rt)
  have hpa := parse_nil text hlm _ (hv.below hb0 hv.sz)
  rw [hp] at hpa
  have hrn : ∀ T v W, RdIt W W.heap.size A n l → Handle W → Calls Tryz.prog 20 #[.iface T v, .agg #[.int .i64 rb, .int .i64 rt], .slice A n c, .int .i64 until_] W (RunNo W) := fun T v W h1 h2 => by
    rcases hbad with h | ⟨h3, h4, h5⟩
    · exact run_no T v rb rt until_ A n c l W h1 h2 h
    · exact run_bad T v rb rt until_ A n c l W h1 h2 h3 h4 h5
  have HPA := Lib.hid hpa; have HB0 := Lib.hid hb0; have HK0 := Lib.hid hk0; have HK1 := Lib.hid hk1; have HRN := Lib.hid hrn; have HR := Lib.hid hr; have HV := Lib.hid hv
  clear hpa hb0 hk0 hk1 hv hrn hr hbad
  unfold logZ at *
  go_enter Tryz.func7, Tryz.ntmps7
  go_wp2_with fail
  (with_reducible refine HPA.out.mono ?_)
  rintro e w2 (⟨P2, v, F, hP, rfl, hqv, h2⟩ | ⟨hno, _⟩)
  rotate_left
  · cases hno
  obtain ⟨T, gv, rfl⟩ := hqv
  have hb2 := bl_next HB0.out h2.out.2.1
  have hk2 := HK1.out.below h2.out.2.1 HK1.out.lt
  have hr2 := HK0.out.below h2.out.2.1 HK0.out.lt
  have c0 := hr2.cell 0; have c1 := hr2.cell 1
  simp at c0 c1
  have hcall := HRN.out T (.pointer (some ⟨gv, 0, none⟩)) w2 (HR.out.over hb2 (Nat.le_refl _)) (HV.out.below hb2 HV.out.sz).h
  have HB2 := Lib.hid hb2; have HK2 := Lib.hid hk2; have HC := Lib.hid hcall
  clear h2 hb2 hk2 hr2 hcall hP HPA HRN
  go_wp2_with fail
  (with_reducible refine HC.out.mono ?_)
  rintro e w3 ⟨⟨Te, ve, rfl⟩, hb3⟩
  have hb3' := bl_next HB2.out hb3
  have hk3 := HK2.out.below hb3 HK2.out.lt
  have z0 := hk3.cell 0; have z1 := hk3.cell 1; have z2 := hk3.cell 2; have z3 := hk3.cell 3
  have fz0 := hk3.frozen 0; have fz1 := hk3.frozen 1; have fz2 := hk3.frozen 2; have fz3 := hk3.frozen 3
  simp at z0 z1 z2 z3
  have HB3 := Lib.hid hb3'; have HK3 := Lib.hid hk3
  have hlt3 := hk3.lt
  have hz := Blk.new w3 28 #[.slice none 0 0, .slice none 0 0, .int .i64 0, .int .i64 0]
  have hbz : Below w3.heap.size w3 (w3.alloc (.cells #[.slice none 0 0, .slice none 0 0, .int .i64 0, .int .i64 0] 28)) := bl_alloc (Below.refl _ _)
  have HZ := Lib.hid hz; have HBZ := Lib.hid hbz
  have hsz3 : w.heap.size + 1 ≠ w3.heap.size := by omega
  clear hb3 hb3' hk3 c0 c1 HC hz hbz z0 z1 z2 z3 fz0 fz1 fz2 fz3
  unfold logN
  go_upto_region 5 with fail
  generalize w3.alloc (.cells #[.slice none 0 0, .slice none 0 0, .int .i64 0, .int .i64 0] 28) = wz at *
  have hk4 := HK3.out.below HBZ.out HK3.out.lt
  have z0 := hk4.cell 0; have z1 := hk4.cell 1; have z2 := hk4.cell 2; have z3 := hk4.cell 3
  have fz0 := hk4.frozen 0; have fz1 := hk4.frozen 1; have fz2 := hk4.frozen 2; have fz3 := hk4.frozen 3
  have y0 := HZ.out.cell 0; have y1 := HZ.out.cell 1; have y2 := HZ.out.cell 2; have y3 := HZ.out.cell 3
  simp at z0 z1 z2 z3 y0 y1 y2 y3
  clear hk4
  have HY := Lib.hid (⟨y0, y1, y2, y3⟩ : _ ∧ _ ∧ _ ∧ _)
  refine wp_till (fun wx => wx.cell? ⟨w3.heap.size, 0, none⟩ = some (.slice none 0 0) ∧ wx.cell? ⟨w3.heap.size, 1, none⟩ = some (.slice none 0 0) ∧ wx.cell? ⟨w3.heap.size, 2, none⟩ = some (.int .i64 0) ∧ wx.cell? ⟨w3.heap.size, 3, none⟩ = some (.int .i64 0)) [3] (by kernel_rfl) ?_
  refine till_take 0 [] _ ?_ (by simp only [List.getElem?_toArray, List.getElem?_cons_zero]; rfl) (by kernel_rfl) (by kernel_rfl) (by kernel_rfl) (by kernel_rfl) (by kernel_rfl) (by intro _ _ _ _ h; exact h) (Or.inl ⟨by rfl, ?_⟩) HY.out ?_
  rotate_left 1; focus (intro wx hSw; (try dsimp only at hSw); obtain ⟨q0, q1, q2, q3⟩ := hSw; go_simp; try with_reducible rfl)
  try simp only [Act.put, List.setIfInBounds_toArray, List.set_cons_zero, List.set_cons_succ]
  refine till_take0 1 _ ?_ (by simp only [List.getElem?_toArray, List.getElem?_cons_succ, List.getElem?_cons_zero]; rfl) (by kernel_rfl) (by kernel_rfl) (by kernel_rfl) (by kernel_rfl) (by intro _ _ _ _ h; exact h) (Or.inl ⟨by rfl, ?_⟩) (fun _ => HY.out) ?_
  rotate_left 1; focus (intro wx _; go_simp; try with_reducible rfl)
  try simp only [Act.put, List.setIfInBounds_toArray, List.set_cons_zero, List.set_cons_succ]
  refine till_take0 2 _ ?_ (by simp only [List.getElem?_toArray, List.getElem?_cons_succ, List.getElem?_cons_zero]; rfl) (by kernel_rfl) (by kernel_rfl) (by kernel_rfl) (by kernel_rfl) (by intro _ _ _ _ h; exact h) (Or.inl ⟨by rfl, ?_⟩) (fun _ => HY.out) ?_
  rotate_left 1; focus (intro wx _; go_simp; try with_reducible rfl)
  try simp only [Act.put, List.setIfInBounds_toArray, List.set_cons_zero, List.set_cons_succ]
  refine till_ready [3] (by kernel_rfl) (by simp) ?_
  refine alls_cons (by simp only [List.getElem?_toArray, List.getElem?_cons_succ, List.getElem?_cons_zero]; rfl) (fun K hK => ?_) alls_nil
  go_simp
  refine hK.out _ _ (fun h => Bool.noConfusion h) ?_
  clear hK K
  try simp only [Act.put, List.setIfInBounds_toArray, List.set_cons_zero, List.set_cons_succ]
  refine till_take0 4 _ ?_ (by simp only [List.getElem?_toArray, List.getElem?_cons_succ, List.getElem?_cons_zero]; rfl) (by kernel_rfl) (by kernel_rfl) (by kernel_rfl) (by kernel_rfl) (by intro _ _ _ _ h; exact h) (Or.inl ⟨by rfl, ?_⟩) (fun h => Bool.noConfusion h) ?_
  rotate_left 1; focus (intro wx _; go_simp; try with_reducible rfl)
  try simp only [Act.put, List.setIfInBounds_toArray, List.set_cons_zero, List.set_cons_succ]
  refine till_done (by kernel_rfl) ?_ _
  go_wp2_with fail
  refine bodyPost_isL fun Wf hWf => ?_
  obtain ⟨hkf, _, hbf⟩ := rn_fin (w := w) (w2 := w3) _ _ _ _ _ _ _ _ HB3.out HK3.out (bl_drew HBZ.out) hWf
  have r0 := hkf.cell 0; have r1 := hkf.cell 1; have r2 := hkf.cell 2; have r3 := hkf.cell 3
  simp at r0 r1 r2 r3
  clear hWf
  refine bodyPost_ret (v := .tuple #[logN, .bool false]) (by simp [results, Tryz.results7, go_sem, logN, r0, r1, r2, r3]) rfl ?_
  exact ⟨rfl, hbf⟩
set_option maxHeartbeats 2000000 in
set_option maxRecDepth 100000 in
theorem run_w_yes {P : Pk} (text : List UInt8) (hlm : text.length ≤ 1000000) (rb rt until_ : Int) (A : Option Addr) (n c : Nat) (l : List It) (w : World) (hv : Pv w) (hr : RdIt w w.heap.size A n l) (hp : parseW [] text = some P) (hs : SpeedOk rb rt) (hf : ListFine l) (hu : 0 ≤ until_ ∧ until_ ≤ 10000000)
    {Pi Q R : Pl.Lk P.M.σ → Prop} (J : Pl.LnkInv P.M l rb rt until_ Pi Q R) (hP : Pi (Pl.Lk.start P.s0)) (hbd : ∀ S, Pi S → (∀ x, (P.M.take S.now S.q).1 = some x → 0 ≤ x.it.len ∧ x.it.len ≤ 10000) ∧ S.lost.length ≤ 1000 ∧ S.sent.length ≤ 1000) :
    Calls Tryz.prog 7 #[.string ⟨text.toArray⟩, .agg #[.int .i64 rb, .int .i64 rt], .slice A n c, .int .i64 until_] w (RunWYes R w) := by
  obtain ⟨hk0, hk1, hb0⟩ := rn_two w (.int .i64 rb) (.int .i64 rt)
  have hpa := parse_nil text hlm _ (hv.below hb0 hv.sz)
  rw [hp] at hpa
  have hrn : ∀ T gv F W, Below w.heap.size w W → PkM P (.iface T (.pointer (some ⟨gv, 0, none⟩))) 6 F W → (∀ i, F i → w.heap.size ≤ i) → Calls Tryz.prog 20 #[.iface T (.pointer (some ⟨gv, 0, none⟩)), .agg #[.int .i64 rb, .int .i64 rt], .slice A n c, .int .i64 until_] W (RunOut R until_ W F) := fun T gv F W hb hpk hF => by
    obtain ⟨inv, qi, hi⟩ := hpk.ex
    exact run_yes qi l rb rt until_ J (fun S h => (hbd S h).1) A n c P.s0 F W (hr.over hb (Nat.le_refl _)) (hv.below hb hv.sz).h (fun hn ad e hFa => by
      obtain ⟨b, off, e2, hb2⟩ := hr.addr hn
      rw [e2] at e
      obtain rfl := Option.some.inj e
      have := hF _ hFa
      dsimp only at this
      omega) hf hs hu hi hP (fun i hi2 => (qi.lt _ _ _ _ hi i hi2).2) (fun S h => (hbd S h).2) hpk.na
  have HPA := Lib.hid hpa; have HB0 := Lib.hid hb0; have HK0 := Lib.hid hk0; have HK1 := Lib.hid hk1; have HRN := Lib.hid hrn
  clear hpa hb0 hk0 hk1 hv hrn hr hs hf hu J hP hbd
  unfold logZ at *
  go_enter Tryz.func7, Tryz.ntmps7
  go_wp2_with fail
  (with_reducible refine HPA.out.mono ?_)
  rintro e w2 (⟨P2, v, F, hP, rfl, hqv, h2⟩ | ⟨hno, _⟩)
  rotate_left
  · cases hno
  injection hP with hP
  subst hP
  obtain ⟨T, gv, rfl⟩ := hqv
  have hb2 := bl_next HB0.out h2.out.2.1
  have hsz0 : w.heap.size + 2 = ((w.alloc (.cells #[.int .i64 rb, .int .i64 rt] 23)).alloc (.cells #[.slice none 0 0, .slice none 0 0, .int .i64 0, .int .i64 0] 28)).heap.size := by simp
  have hFi : ∀ i, F i → w.heap.size + 2 ≤ i := fun i hi => by have := h2.out.2.2 i hi; omega
  have hk2 := HK1.out.below h2.out.2.1 HK1.out.lt
  have hr2 := HK0.out.below h2.out.2.1 HK0.out.lt
  have c0 := hr2.cell 0; have c1 := hr2.cell 1
  simp at c0 c1
  have hcall := HRN.out T gv F w2 hb2 h2.out.1 (fun i hi => by have := hFi i hi; omega)
  have hk2lt := hk2.lt
  have HB2 := Lib.hid hb2; have HK2 := Lib.hid hk2; have HC := Lib.hid hcall; have HFI := Lib.hid hFi
  clear h2 hb2 hk2 hr2 hcall HPA HRN hsz0 hFi
  go_wp2_with fail
  (with_reducible refine HC.out.mono ?_)
  rintro e w3 ⟨S, As, Al, cs, cl, rfl, h3⟩
  obtain ⟨hR, hnow, hrs, hrl, hch, has, hal⟩ := h3.out
  have hb3' : Below w.heap.size w w3 := HB2.out.trans (hch.below HB2.out.size (fun i hi e => by have := HFI.out i e; omega))
  have hk3 := HK2.out.chg hch (fun e => by have := HFI.out _ e; omega)
  have hlt3 := hk3.lt
  have hz := Blk.new w3 28 #[.slice As S.sent.length cs, .slice Al S.lost.length cl, .int .i64 (P.M.len S.q), .int .i64 S.most]
  have hbz : Below w3.heap.size w3 (w3.alloc (.cells #[.slice As S.sent.length cs, .slice Al S.lost.length cl, .int .i64 (P.M.len S.q), .int .i64 S.most] 28)) := bl_alloc (Below.refl _ _)
  have hsz2 := hk2lt
  have HAS := Lib.hid (fun (b off : Nat) (e : As = some ⟨b, off, none⟩) (e2 : b = w.heap.size + 1) => by have h9 := has _ e; dsimp only at h9; omega : ∀ b off : Nat, As = some ⟨b, off, none⟩ → ¬ b = w.heap.size + 1)
  have HAL := Lib.hid (fun (b off : Nat) (e : Al = some ⟨b, off, none⟩) (e2 : b = w.heap.size + 1) => by have h9 := hal _ e; dsimp only at h9; omega : ∀ b off : Nat, Al = some ⟨b, off, none⟩ → ¬ b = w.heap.size + 1)
  have HZ := Lib.hid hz; have HBZ := Lib.hid hbz; have HB3 := Lib.hid hb3'; have HK3 := Lib.hid hk3; have HRR := Lib.hid hR; have HRS := Lib.hid hrs; have HRL := Lib.hid hrl
  have hsz3 : w.heap.size + 1 ≠ w3.heap.size := by omega
  clear h3 hR hnow hrs hrl hch has hal hb3' hk3 c0 c1 HC hz hbz
  obtain ⟨nQ, hQ⟩ : ∃ nQ, nQ = P.M.len S.q := ⟨_, rfl⟩
  obtain ⟨nS, hS⟩ : ∃ nS, nS = S.sent.length := ⟨_, rfl⟩
  obtain ⟨nL, hL⟩ : ∃ nL, nL = S.lost.length := ⟨_, rfl⟩
  obtain ⟨nM, hM⟩ : ∃ nM, nM = S.most := ⟨_, rfl⟩
  rw [← hQ, ← hS, ← hL, ← hM] at HZ HBZ
  have HQ := Lib.hid hQ; have HS := Lib.hid hS; have HL := Lib.hid hL; have HM := Lib.hid hM
  rw [← hQ, ← hS, ← hL, ← hM]
  clear hQ hS hL hM
  go_upto_region 5 with fail
  generalize w3.alloc (.cells #[.slice As nS cs, .slice Al nL cl, .int .i64 nQ, .int .i64 nM] 28) = wz at *
  have hk4 := HK3.out.below HBZ.out HK3.out.lt
  have z0 := hk4.cell 0; have z1 := hk4.cell 1; have z2 := hk4.cell 2; have z3 := hk4.cell 3
  have fz0 := hk4.frozen 0; have fz1 := hk4.frozen 1; have fz2 := hk4.frozen 2; have fz3 := hk4.frozen 3
  have y0 := HZ.out.cell 0; have y1 := HZ.out.cell 1; have y2 := HZ.out.cell 2; have y3 := HZ.out.cell 3
  simp at z0 z1 z2 z3 y0 y1 y2 y3
  clear hk4
  have HY := Lib.hid (⟨y0, y1, y2, y3⟩ : _ ∧ _ ∧ _ ∧ _)
  refine wp_till (fun wx => wx.cell? ⟨w3.heap.size, 0, none⟩ = some (.slice As nS cs) ∧ wx.cell? ⟨w3.heap.size, 1, none⟩ = some (.slice Al nL cl) ∧ wx.cell? ⟨w3.heap.size, 2, none⟩ = some (.int .i64 nQ) ∧ wx.cell? ⟨w3.heap.size, 3, none⟩ = some (.int .i64 nM)) [3] (by kernel_rfl) ?_
  refine till_take 0 [] _ ?_ (by simp only [List.getElem?_toArray, List.getElem?_cons_zero]; rfl) (by kernel_rfl) (by kernel_rfl) (by kernel_rfl) (by kernel_rfl) (by kernel_rfl) (by intro _ _ _ _ h; exact h) (Or.inl ⟨by rfl, ?_⟩) HY.out ?_
  rotate_left 1; focus (intro wx hSw; (try dsimp only at hSw); obtain ⟨q0, q1, q2, q3⟩ := hSw; go_simp; try with_reducible rfl)
  try simp only [Act.put, List.setIfInBounds_toArray, List.set_cons_zero, List.set_cons_succ]
  refine till_take0 1 _ ?_ (by simp only [List.getElem?_toArray, List.getElem?_cons_succ, List.getElem?_cons_zero]; rfl) (by kernel_rfl) (by kernel_rfl) (by kernel_rfl) (by kernel_rfl) (by intro _ _ _ _ h; exact h) (Or.inl ⟨by rfl, ?_⟩) (fun _ => HY.out) ?_
  rotate_left 1; focus (intro wx _; go_simp; try with_reducible rfl)
  try simp only [Act.put, List.setIfInBounds_toArray, List.set_cons_zero, List.set_cons_succ]
  refine till_take0 2 _ ?_ (by simp only [List.getElem?_toArray, List.getElem?_cons_succ, List.getElem?_cons_zero]; rfl) (by kernel_rfl) (by kernel_rfl) (by kernel_rfl) (by kernel_rfl) (by intro _ _ _ _ h; exact h) (Or.inl ⟨by rfl, ?_⟩) (fun _ => HY.out) ?_
  rotate_left 1; focus (intro wx _; go_simp; try with_reducible rfl)
  try simp only [Act.put, List.setIfInBounds_toArray, List.set_cons_zero, List.set_cons_succ]
  refine till_ready [3] (by kernel_rfl) (by simp) ?_
  refine alls_cons (by simp only [List.getElem?_toArray, List.getElem?_cons_succ, List.getElem?_cons_zero]; rfl) (fun K hK => ?_) alls_nil
  go_simp
  refine hK.out _ _ (fun h => Bool.noConfusion h) ?_
  clear hK K
  try simp only [Act.put, List.setIfInBounds_toArray, List.set_cons_zero, List.set_cons_succ]
  refine till_take0 4 _ ?_ (by simp only [List.getElem?_toArray, List.getElem?_cons_succ, List.getElem?_cons_zero]; rfl) (by kernel_rfl) (by kernel_rfl) (by kernel_rfl) (by kernel_rfl) (by intro _ _ _ _ h; exact h) (Or.inl ⟨by rfl, ?_⟩) (fun h => Bool.noConfusion h) ?_
  rotate_left 1; focus (intro wx _; go_simp; try with_reducible rfl)
  try simp only [Act.put, List.setIfInBounds_toArray, List.set_cons_zero, List.set_cons_succ]
  refine till_done (by kernel_rfl) ?_ _
  go_wp2_with fail
  refine bodyPost_isL fun Wf hWf => ?_
  obtain ⟨hkf, hcf, hbf⟩ := rn_fin (w := w) (w2 := w3) _ _ _ _ _ _ _ _ HB3.out HK3.out (bl_drew HBZ.out) hWf
  have r0 := hkf.cell 0; have r1 := hkf.cell 1; have r2 := hkf.cell 2; have r3 := hkf.cell 3
  simp at r0 r1 r2 r3
  clear hWf
  refine bodyPost_ret (v := .tuple #[.agg #[.slice As nS cs, .slice Al nL cl, .int .i64 nQ, .int .i64 nM], .bool true]) (by simp [results, Tryz.results7, go_sem, r0, r1, r2, r3]) rfl ?_
  refine ⟨S, As, Al, cs, cl, by rw [HQ.out, HS.out, HL.out, HM.out], Lib.hid ⟨HRR.out, ?_, ?_, hbf⟩⟩
  · exact (HRS.out.chg (Nat.le_refl _) hcf HAS.out).more hcf.size
  · exact (HRL.out.chg (Nat.le_refl _) hcf HAL.out).more hcf.size
end Go.Proofs.YtgdijbaodfghjaaGreatDoor
