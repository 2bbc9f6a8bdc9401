/-
  The reader of filters: test.
-/
import Derived.Test.YtdipehgijjkfdaaDoorFlTree
namespace Go.Proofs.YtdipehgijjkfdaaDoor
open Go.RowKit
set_option linter.unusedVariables false
set_option maxHeartbeats 4000000 in
set_option maxRecDepth 100000 in
theorem test_f (c : Rc) (g k f : Nat) (w : World) (h : RdF c w g k) (hv : Pv w) (hg : 10 ≤ g) :
    Calls Tryd.prog 31 #[.pointer (some ⟨g, 0, none⟩), .int .i64 f] w (OneEnd c w g (Fl.testF f (c.ws.drop k))) := by
  have HT := Lib.hid (take_l c g k Fl.sHas #[104, 97, 115] rfl w h)
  have HV := Lib.hid hv; have H := Lib.hid h
  clear h hv
  go_enter Tryd.func31, Tryd.ntmps31
  go_wp2_with fail
  (with_reducible refine HT.out.mono ?_)
  rintro e w1 hT
  obtain ⟨b, k1, rfl, hq⟩ : ∃ (b : Bool) (k1 : Nat), e = .returned (.bool b) ∧ Hid (RdF c w1 g k1 ∧ Chg w w1 (fun i => i = g) ∧ Fl.testF f (c.ws.drop k) = Fl.testB f b (c.ws.drop k1)) := by
    rcases hT with ⟨hk, rfl, hh⟩ | ⟨hk, rfl, hh⟩
    · refine ⟨true, k + 1, rfl, Lib.hid ⟨hh.out.1, hh.out.2, ?_⟩⟩
      rw [drop_some hk, Fl.testF, if_pos rfl]
    · refine ⟨false, k, rfl, Lib.hid ⟨hh.out.1, Chg.of_below hh.out.2, ?_⟩⟩
      cases hd : c.ws[k]? with
      | none => rw [drop_none hd]; rfl
      | some x =>
        rw [drop_some hd, Fl.testF, if_neg (fun e => hk (by rw [hd, e]))]
  obtain ⟨hr1, hc1, hres⟩ := hq.out
  have HRES := Lib.hid hres
  have c0 := hr1.blk.cell 0; have c2 := hr1.blk.cell 2
  simp at c0 c2
  have hv1 : Pv w1 := HV.out.chg hc1 (fun i e => by omega)
  have HR1 := Lib.hid hr1; have HC1 := Lib.hid hc1; have HV1 := Lib.hid hv1
  have hn := hr1.n
  have hle := hr1.le
  have hg1 := hr1.blk.lt
  clear hT hq hr1 hc1 hv1 hres HT H HV
  have hb1 : ∀ o, Below w1.heap.size w1 (w1.alloc o) := fun o => (Below.refl _ _).alloc (Nat.le_refl _) o
  have HB1 := Lib.hid hb1
  clear hb1
  by_cases hlt : k1 = c.ws.length
  · have HF := Lib.hid (fun W (hb : Below w1.heap.size w1 W) => fail_f c g k1 3 W (HR1.out.below hb))
    have hnone : Fl.testB f b (c.ws.drop k1) = .error 3 := by rw [List.drop_eq_nil_of_le (by omega)]; rfl
    have HNO := Lib.hid (HRES.out.trans hnone)
    clear hnone
    have il : (k1 : Int) = (c.ws.length : Int) := by omega
    generalize hl : c.ws.length = n at *
    subst hlt
    go_upto_region 2 with fail
    go_quiet (fail)
    go_wp2_with fail
    (with_reducible refine (HF.out _ (below_drewN (HB1.out _) _)).mono ?_)
    rintro e w2 ⟨q, rfl, h2⟩
    go_wp2_with fail
    go_ret2
    exact .inr ⟨3, _, q, HNO.out, rfl, Lib.hid ⟨h2.out.1, HC1.out.trans (Chg.of_below ((below_drewN (HB1.out _) _).trans (h2.out.2.mono (below_drewN (HB1.out _) _).size))) (fun i hi e => e), .inl rfl⟩⟩
  · have hlt2 : k1 < c.ws.length := by omega
    obtain ⟨bb, off, hA, hbb, x0⟩ := rdT_at HR1.out.rw_ hlt2
    rw [hA] at c0
    have hx : c.ws[k1]? = some (c.ws.getD k1 []) := by rw [List.getD, List.getElem?_eq_getElem hlt2]; rfl
    have hts : (c.ws.getD k1 []).length ≤ 2000 := HR1.out.sz _ (List.mem_of_getElem? hx)
    have hres : Fl.testB f b (c.ws.drop k1) = Fl.testB f b (c.ws.getD k1 [] :: c.ws.drop (k1 + 1)) := by rw [drop_some hx]
    have HRES2 := Lib.hid (HRES.out.trans hres)
    clear hres hx hA HRES
    generalize c.ws.getD k1 [] = t at *
    have il : (k1 : Int) < (c.ws.length : Int) := by omega
    have il2 : decide ((k1 : Int) = (c.ws.length : Int)) = false := decide_eq_false (by omega)
    go_upto_region 2 with fail
    go_quiet (fail)
    go_wp2_with fail
    have hgB : g < w1.heap.size := hg1
    have hp0 := Blk.new w1 101 #[.int .i64 f, .int .i64 0, .int .i64 0, .bool b]
    have c0' := (HB1.out (.cells #[.int .i64 f, .int .i64 0, .int .i64 0, .bool b] 101)).cell (p := ⟨g, 0, none⟩) hgB
    have c2' := (HB1.out (.cells #[.int .i64 f, .int .i64 0, .int .i64 0, .bool b] 101)).cell (p := ⟨g, 2, none⟩) hgB
    have x0' := (HB1.out (.cells #[.int .i64 f, .int .i64 0, .int .i64 0, .bool b] 101)).cell (p := ⟨bb, off + k1, none⟩) hbb
    rw [c0] at c0'
    rw [c2] at c2'
    rw [x0] at x0'
    have hb2 := below_drewN (HB1.out (.cells #[.int .i64 f, .int .i64 0, .int .i64 0, .bool b] 101)) nq
    have HP := Lib.hid (hp0.drewN nq); have HB2 := Lib.hid hb2
    clear c0 c2 x0 hp0 hb2
    generalize w1.alloc (.cells #[.int .i64 f, .int .i64 0, .int .i64 0, .bool b] 101) = wa at *
    change (wa.drewN nq).cell? _ = _ at c0' c2' x0'
    generalize wa.drewN nq = w2 at *
    clear wa
    have hcl := cut_le t
    have hcut := fun W (hb : Below w1.heap.size w1 W) => cut_f t hts W (HV1.out.over hb)
    have htb : Fl.testB f b (t :: c.ws.drop (k1 + 1)) = (if (Lib.cut t Fl.sDots).2.2 = true ∧ b = true then .error 3 else
      match Fl.numF (Lib.cut t Fl.sDots).1 with
      | .error e => .error e
      | .ok lo => if (Lib.cut t Fl.sDots).2.2 = true then
          (match Fl.numF (Lib.cut t Fl.sDots).2.1 with
          | .error e => .error e
          | .ok hi => if hi < lo then .error 10 else .ok (.tst f lo hi b, c.ws.drop (k1 + 1)))
        else .ok (.tst f lo lo b, c.ws.drop (k1 + 1))) := by rw [Fl.testB]; rfl
    have HTB := Lib.hid (HRES2.out.trans htb)
    clear htb HRES2
    generalize Lib.cut t Fl.sDots = cc at *
    obtain ⟨ls, hs, two⟩ := cc
    dsimp only at hcl
    have htb : Fl.testF f (c.ws.drop k) = (if two = true ∧ b = true then .error 3 else
      match Fl.numF ls with
      | .error e => .error e
      | .ok lo => if two = true then
          (match Fl.numF hs with
          | .error e => .error e
          | .ok hi => if hi < lo then .error 10 else .ok (.tst f lo hi b, c.ws.drop (k1 + 1)))
        else .ok (.tst f lo lo b, c.ws.drop (k1 + 1))) := HTB.out
    have HT2 := Lib.hid htb
    clear htb HTB
    have cL : ∀ d os, Calls Tryd.prog 43 #[.string ⟨t.toArray⟩, .string ⟨#[46, 46]⟩] (Sort.grow (redrawn w2 d) os) fun e w'' => e = .returned (.tuple #[.string ⟨ls.toArray⟩, .string ⟨hs.toArray⟩, .bool two]) ∧ ∃ p : Regrown, w'' = Sort.grow (redrawn w2 p.d) p.os := fun d os =>
      Calls.regrown_of ((hcut _ (HB2.out.trans ((below_regrown w2 d os).mono HB2.out.size))).mono fun e w'' h => ⟨h.2, h.1⟩)
    have k0 := cell_regrown c0'
    have k2 := cell_regrown c2'
    have kx := cell_regrown x0'
    clear c0' c2' x0' hcut
    go_upto_region 4 with fail
    refine wp_region_quiet_below (by kernel_rfl) (by kernel_rfl) ?_
    repeat (quiet_step (exact cL _ _))
    refine wpQuiet_nil ?_
    intro _ hw'
    obtain ⟨⟨dq, osq⟩, hw''⟩ := hw'
    subst hw''
    have hb5 : Below w1.heap.size w1 (Sort.grow (redrawn w2 dq) osq) := HB2.out.trans ((below_regrown w2 dq osq).mono HB2.out.size)
    have hp5 := HP.out.below (below_regrown w2 dq osq) HP.out.lt
    have HB5 := Lib.hid hb5; have HP5 := Lib.hid hp5
    clear k0 k2 kx cL hb5 hp5 HP HB2
    generalize Sort.grow (redrawn w2 dq) osq = w5 at *
    have HF := Lib.hid (fun er W (hb : Below w1.heap.size w1 W) => fail_f c g k1 er W (HR1.out.below hb))
    have HN := Lib.hid (fun (s : List UInt8) (hs : s.length ≤ 2000) W (hb : Below w1.heap.size w1 W) => number_f s hs W (HV1.out.over hb))
    by_cases htb : two = true ∧ b = true
    · obtain ⟨rfl, rfl⟩ := htb
      have hb3 := HP5.out.cell 3
      simp at hb3
      have hres : Fl.testF f (c.ws.drop k) = .error 3 := by rw [HT2.out, if_pos ⟨rfl, rfl⟩]
      have HRS := Lib.hid hres
      clear hres
      go_wp2_with fail
      (with_reducible refine (HF.out 3 _ HB5.out).mono ?_)
      rintro e wz ⟨q, rfl, hz⟩
      go_wp2_with fail
      go_ret2
      exact .inr ⟨3, _, q, HRS.out, rfl, Lib.hid ⟨hz.out.1, HC1.out.trans (Chg.of_below (HB5.out.trans (hz.out.2.mono HB5.out.size))) (fun i hi e => e), .inl rfl⟩⟩
    · have hres : Fl.testF f (c.ws.drop k) = (match Fl.numF ls with
          | .error e => .error e
          | .ok lo => if two = true then
              (match Fl.numF hs with
              | .error e => .error e
              | .ok hi => if hi < lo then .error 10 else .ok (.tst f lo hi b, c.ws.drop (k1 + 1)))
            else .ok (.tst f lo lo b, c.ws.drop (k1 + 1))) := by rw [HT2.out, if_neg htb]
      have HR2 := Lib.hid hres
      clear hres
      have hb3 := HP5.out.cell 3
      simp at hb3
      have htest : (two = true ∧ b = false) ∨ two = false := by cases two <;> cases b <;> simp_all
      have hfirst : Calls Tryd.prog 44 #[.string ⟨ls.toArray⟩] w5 fun e w' => Below w5.heap.size w5 w' ∧ ∃ n er : Int, e = .returned (.tuple #[.int .i64 n, .int .i64 er]) ∧ NumEnd ls n er := HN.out ls (by omega) w5 HB5.out
      have HFI := Lib.hid hfirst
      clear hfirst htb
      rcases htest with ⟨rfl, rfl⟩ | rfl
      · go_wp2_with fail
        (with_reducible refine HFI.out.mono ?_)
        rintro e w6 ⟨hb6, lo, er, rfl, hne⟩
        have hp6 := HP5.out.below hb6 HP5.out.lt
        have hbb6 := HB5.out.trans (hb6.mono HB5.out.size)
        have d1 := hp6.cell 1; have f1 := hp6.frozen 1
        simp at d1
        have hp7 := hp6.set_ 1 (.int .i64 lo)
        have hb7 : Below w1.heap.size w1 (w6.setCell ⟨w1.heap.size, 1, none⟩ (.int .i64 lo)) := hbb6.setCell (p := ⟨w1.heap.size, 1, none⟩) (Nat.le_refl _) _
        have HB7 := Lib.hid hb7; have HP7 := Lib.hid hp7
        clear hb7 hp7 hbb6 hp6 hb6 hb3 HFI HP5 HB5
        rcases hne with ⟨hok, rfl⟩ | ⟨herr, hne⟩
        rotate_left
        · have hres : Fl.testF f (c.ws.drop k) = .error er := by rw [HR2.out, herr]
          have HRS := Lib.hid hres
          clear hres herr HR2
          have d0 : decide (er = 0) = false := decide_eq_false hne
          go_wp2_with fail
          generalize w6.setCell ⟨w1.heap.size, 1, none⟩ (.int .i64 lo) = w7 at *
          (with_reducible refine (HF.out er _ HB7.out).mono ?_)
          rintro e wz ⟨q, rfl, hz⟩
          go_wp2_with fail
          go_ret2
          exact .inr ⟨er, _, q, HRS.out, rfl, Lib.hid ⟨hz.out.1, HC1.out.trans (Chg.of_below (HB7.out.trans (hz.out.2.mono HB7.out.size))) (fun i hi e => e), .inl rfl⟩⟩
        · go_upto_region 11 with fail
          generalize w6.setCell ⟨w1.heap.size, 1, none⟩ (.int .i64 lo) = w7 at *
          clear d1 f1
          have d1 := HP7.out.cell 1; have f1 := HP7.out.frozen 1; have d2 := HP7.out.cell 2; have f2 := HP7.out.frozen 2
          simp at d1 d2
          have hp8 := HP7.out.set_ 2 (.int .i64 lo)
          have hb8 : Below w1.heap.size w1 (w7.setCell ⟨w1.heap.size, 2, none⟩ (.int .i64 lo)) := HB7.out.setCell (p := ⟨w1.heap.size, 2, none⟩) (Nat.le_refl _) _
          have HB8 := Lib.hid hb8; have HP8 := Lib.hid hp8
          clear hb8 hp8 HB7 HP7
          have HN2 := Lib.hid (HN.out hs (by omega) _ HB8.out)
          go_upto_region 13 with fail
          generalize w7.setCell ⟨w1.heap.size, 2, none⟩ (.int .i64 lo) = w8 at *
          clear d1 f1 d2 f2
          go_wp2_with fail
          (with_reducible refine HN2.out.mono ?_)
          rintro e w9 ⟨hb9, hi, er, rfl, hne⟩
          have hp9 := HP8.out.below hb9 HP8.out.lt
          have hbb9 := HB8.out.trans (hb9.mono HB8.out.size)
          have d2 := hp9.cell 2; have f2 := hp9.frozen 2
          simp at d2
          have hpA := hp9.set_ 2 (.int .i64 hi)
          have hbA : Below w1.heap.size w1 (w9.setCell ⟨w1.heap.size, 2, none⟩ (.int .i64 hi)) := hbb9.setCell (p := ⟨w1.heap.size, 2, none⟩) (Nat.le_refl _) _
          have HBA := Lib.hid hbA; have HPA := Lib.hid hpA
          clear hbA hpA hbb9 hp9 hb9 HN2 HP8 HB8
          rcases hne with ⟨hok2, rfl⟩ | ⟨herr, hne⟩
          rotate_left
          · have hres : Fl.testF f (c.ws.drop k) = .error er := by rw [HR2.out, hok]; simp only [if_true]; rw [herr]
            have HRS := Lib.hid hres
            clear hres herr HR2 hok
            have d0 : decide (er = 0) = false := decide_eq_false hne
            go_wp2_with fail
            generalize w9.setCell ⟨w1.heap.size, 2, none⟩ (.int .i64 hi) = wA at *
            (with_reducible refine (HF.out er _ HBA.out).mono ?_)
            rintro e wz ⟨q, rfl, hz⟩
            go_wp2_with fail
            go_ret2
            exact .inr ⟨er, _, q, HRS.out, rfl, Lib.hid ⟨hz.out.1, HC1.out.trans (Chg.of_below (HBA.out.trans (hz.out.2.mono HBA.out.size))) (fun i hi e => e), .inl rfl⟩⟩
          · go_upto_region 16 with fail
            generalize w9.setCell ⟨w1.heap.size, 2, none⟩ (.int .i64 hi) = wA at *
            clear d2 f2
            have d1 := HPA.out.cell 1; have d2 := HPA.out.cell 2
            simp at d1 d2
            rcases Int.lt_or_le hi lo with hlo | hlo
            · have hres : Fl.testF f (c.ws.drop k) = .error 10 := by rw [HR2.out, hok]; simp only [if_true]; rw [hok2]; simp only [if_pos hlo]
              have HRS := Lib.hid hres
              clear hres HR2 hok hok2
              go_wp2_with fail
              (with_reducible refine (HF.out 10 _ HBA.out).mono ?_)
              rintro e wz ⟨q, rfl, hz⟩
              go_wp2_with fail
              go_ret2
              exact .inr ⟨10, _, q, HRS.out, rfl, Lib.hid ⟨hz.out.1, HC1.out.trans (Chg.of_below (HBA.out.trans (hz.out.2.mono HBA.out.size))) (fun i hi e => e), .inl rfl⟩⟩
            · have hres : Fl.testF f (c.ws.drop k) = .ok (.tst f lo hi false, c.ws.drop (k1 + 1)) := by rw [HR2.out, hok]; simp only [if_true]; rw [hok2]; simp only [if_neg (Int.not_lt.2 hlo)]
              have HRS := Lib.hid hres
              clear hres HR2 hok hok2
              go_upto_region 18 with fail
              clear d1 d2
              have c2z := (HR1.out.below HBA.out).blk.cell 2; have f2z := (HR1.out.below HBA.out).blk.frozen 2
              simp at c2z
              have hnx : RdF c (wA.setCell ⟨g, 2, none⟩ (.int .i64 ((k1 : Int) + 1))) g (k1 + 1) ∧ Chg wA (wA.setCell ⟨g, 2, none⟩ (.int .i64 ((k1 : Int) + 1))) (fun i => i = g) := (HR1.out.below HBA.out).next hlt2 0
              have HNX := Lib.hid hnx
              clear hnx
              have hne : g ≠ w1.heap.size := by omega
              go_upto_region 19 with fail
              generalize wA.setCell ⟨g, 2, none⟩ (.int .i64 ((k1 : Int) + 1)) = wZ at *
              have hp9 := (HPA.out).chg HNX.out.2 hne.symm
              have z0 := hp9.cell 0; have z1 := hp9.cell 1; have z2 := hp9.cell 2; have z3 := hp9.cell 3
              simp at z0 z1 z2 z3
              clear hp9
              go_wp2_with fail
              go_ret2
              exact .inl ⟨_, _, _, k1 + 1, HRS.out, rfl, Lib.hid ⟨rfl, HNX.out.1, HC1.out.trans ((Chg.of_below HBA.out).trans HNX.out.2 (fun i hi e => e)) (fun i hi e => e), .tst f _ _ _⟩⟩
      · go_wp2_with fail
        (with_reducible refine HFI.out.mono ?_)
        rintro e w6 ⟨hb6, lo, er, rfl, hne⟩
        have hp6 := HP5.out.below hb6 HP5.out.lt
        have hbb6 := HB5.out.trans (hb6.mono HB5.out.size)
        have d1 := hp6.cell 1; have f1 := hp6.frozen 1
        simp at d1
        have hp7 := hp6.set_ 1 (.int .i64 lo)
        have hb7 : Below w1.heap.size w1 (w6.setCell ⟨w1.heap.size, 1, none⟩ (.int .i64 lo)) := hbb6.setCell (p := ⟨w1.heap.size, 1, none⟩) (Nat.le_refl _) _
        have HB7 := Lib.hid hb7; have HP7 := Lib.hid hp7
        clear hb7 hp7 hbb6 hp6 hb6 hb3 HFI HP5 HB5
        rcases hne with ⟨hok, rfl⟩ | ⟨herr, hne⟩
        rotate_left
        · have hres : Fl.testF f (c.ws.drop k) = .error er := by rw [HR2.out, herr]
          have HRS := Lib.hid hres
          clear hres herr HR2
          have d0 : decide (er = 0) = false := decide_eq_false hne
          go_wp2_with fail
          generalize w6.setCell ⟨w1.heap.size, 1, none⟩ (.int .i64 lo) = w7 at *
          (with_reducible refine (HF.out er _ HB7.out).mono ?_)
          rintro e wz ⟨q, rfl, hz⟩
          go_wp2_with fail
          go_ret2
          exact .inr ⟨er, _, q, HRS.out, rfl, Lib.hid ⟨hz.out.1, HC1.out.trans (Chg.of_below (HB7.out.trans (hz.out.2.mono HB7.out.size))) (fun i hi e => e), .inl rfl⟩⟩
        · go_upto_region 11 with fail
          generalize w6.setCell ⟨w1.heap.size, 1, none⟩ (.int .i64 lo) = w7 at *
          clear d1 f1
          have d1 := HP7.out.cell 1; have f1 := HP7.out.frozen 1; have d2 := HP7.out.cell 2; have f2 := HP7.out.frozen 2
          simp at d1 d2
          have hp8 := HP7.out.set_ 2 (.int .i64 lo)
          have hb8 : Below w1.heap.size w1 (w7.setCell ⟨w1.heap.size, 2, none⟩ (.int .i64 lo)) := HB7.out.setCell (p := ⟨w1.heap.size, 2, none⟩) (Nat.le_refl _) _
          have HB8 := Lib.hid hb8; have HP8 := Lib.hid hp8
          clear hb8 hp8 HB7 HP7
          have hres : Fl.testF f (c.ws.drop k) = .ok (.tst f lo lo b, c.ws.drop (k1 + 1)) := by rw [HR2.out, hok]; simp
          have HRS := Lib.hid hres
          clear hres HR2 hok
          go_upto_region 18 with fail
          generalize w7.setCell ⟨w1.heap.size, 2, none⟩ (.int .i64 lo) = w8 at *
          clear d1 f1 d2 f2
          have c2z := (HR1.out.below HB8.out).blk.cell 2; have f2z := (HR1.out.below HB8.out).blk.frozen 2
          simp at c2z
          have hnx : RdF c (w8.setCell ⟨g, 2, none⟩ (.int .i64 ((k1 : Int) + 1))) g (k1 + 1) ∧ Chg w8 (w8.setCell ⟨g, 2, none⟩ (.int .i64 ((k1 : Int) + 1))) (fun i => i = g) := (HR1.out.below HB8.out).next hlt2 0
          have HNX := Lib.hid hnx
          clear hnx
          have hne : g ≠ w1.heap.size := by omega
          go_upto_region 19 with fail
          generalize w8.setCell ⟨g, 2, none⟩ (.int .i64 ((k1 : Int) + 1)) = wZ at *
          have hp9 := (HP8.out).chg HNX.out.2 hne.symm
          have z0 := hp9.cell 0; have z1 := hp9.cell 1; have z2 := hp9.cell 2; have z3 := hp9.cell 3
          simp at z0 z1 z2 z3
          clear hp9
          go_wp2_with fail
          go_ret2
          exact .inl ⟨_, _, _, k1 + 1, HRS.out, rfl, Lib.hid ⟨rfl, HNX.out.1, HC1.out.trans ((Chg.of_below HB8.out).trans HNX.out.2 (fun i hi e => e)) (fun i hi e => e), .tst f _ _ _⟩⟩
end Go.Proofs.YtdipehgijjkfdaaDoor
