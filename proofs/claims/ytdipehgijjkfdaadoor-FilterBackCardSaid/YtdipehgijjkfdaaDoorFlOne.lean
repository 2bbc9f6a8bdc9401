/-
  The reader of filters: one.
-/
import Derived.Test.YtdipehgijjkfdaaDoorFlList
namespace Go.Proofs.YtdipehgijjkfdaaDoor
open Go.RowKit
set_option linter.unusedVariables false
theorem one_at {d k : Nat} {ws : List Fl.Tok} {x : Fl.Tok} (h : ws[k]? = some x) : Fl.oneF (d + 1) (ws.drop k) =
    if x = Fl.sAny then .ok (.any, ws.drop (k + 1))
    else if x = Fl.sNot then (match Fl.oneF d (ws.drop (k + 1)) with
      | .error e => .error e
      | .ok (t, r') => .ok (.not t, r'))
    else if x = [40] then Fl.listF (Fl.oneF d) ((ws.drop (k + 1)).length + 1) 0 [] (ws.drop (k + 1))
    else match Fl.fieldOf x with
      | some f => Fl.testF f (ws.drop (k + 1))
      | none => .error 3 := by
  rw [drop_some h, Fl.oneF]
  rfl
theorem ix_arr (c0 c1 c2 c3 c4 : ByteArray) (w : World) : (Instr.index 81 (.agg #[.string c0, .string c1, .string c2, .string c3, .string c4]) (.int .i64 0)).run Tryd.prog w = .ok (.string c0) w ∧ (Instr.index 81 (.agg #[.string c0, .string c1, .string c2, .string c3, .string c4]) (.int .i64 1)).run Tryd.prog w = .ok (.string c1) w ∧
    (Instr.index 81 (.agg #[.string c0, .string c1, .string c2, .string c3, .string c4]) (.int .i64 2)).run Tryd.prog w = .ok (.string c2) w ∧ (Instr.index 81 (.agg #[.string c0, .string c1, .string c2, .string c3, .string c4]) (.int .i64 3)).run Tryd.prog w = .ok (.string c3) w ∧
    (Instr.index 81 (.agg #[.string c0, .string c1, .string c2, .string c3, .string c4]) (.int .i64 4)).run Tryd.prog w = .ok (.string c4) w := by
  refine ⟨?_, ?_, ?_, ?_, ?_⟩ <;> simp [Instr.index, run_underlying Tryd.underlying81, asIntOf, part, Tryd.sizeOf9, Tryd.isAgg9, go_sem]
set_option maxHeartbeats 8000000 in
set_option maxRecDepth 100000 in
theorem one_f (c : Rc) (g : Nat) (hg : 10 ≤ g) : ∀ (d : Nat), d ≤ 20 → ∀ (k : Nat) (w : World), RdF c w g k → Pv w →
    Calls Tryd.prog 22 #[.pointer (some ⟨g, 0, none⟩), .int .i64 (d : Nat)] w (OneEnd c w g (Fl.oneF d (c.ws.drop k)))
  | 0, _, k, w, h, hv => by
    have HF := Lib.hid (fail_f c g k 4 w h)
    clear h hv
    go_enter Tryd.func22, Tryd.ntmps22
    go_wp2_with fail
    (with_reducible refine HF.out.mono ?_)
    rintro e w9 ⟨q, rfl, h9⟩
    go_wp2_with fail
    go_ret2
    exact .inr ⟨4, _, q, by rw [Fl.oneF], rfl, Lib.hid ⟨h9.out.1, Chg.of_below h9.out.2, .inl rfl⟩⟩
  | d + 1, hd, k, w, h, hv => by
    have hone := fun k W h1 h2 => one_f c g hg d (by omega) k W h1 h2
    have HONE := Lib.hid hone
    have hlist := fun (k : Nat) W h1 h2 => list_f c g d (by omega) hone k W h1 h2 hg ((c.ws.drop k).length + 1) (by omega)
    have HLIST := Lib.hid hlist
    have hgp := h.blk.lt
    have hw : IntKind.i64.wrap ((d : Int) + 1 - 1) = (d : Int) := by rw [IntWalk.i64_in _ (by omega)]; omega
    have e1 : ((d + 1 : Nat) : Int) = (d : Int) + 1 := by omega
    rw [e1]
    have hz : decide ((d : Int) + 1 = 0) = false := decide_eq_false (by omega)
    have HV := Lib.hid hv
    have HTAK := Lib.hid (fun (s : List UInt8) (a : Array UInt8) (ha : s.toArray = a) W (hb : Below w.heap.size w W) => take_l c g k s a ha W (h.below hb))
    have HAT := Lib.hid (fun (x : Fl.Tok) (hx : c.ws[k]? = some x) => one_at (d := d) hx)
    have H := Lib.hid h
    obtain ⟨res, hres⟩ : ∃ res, Fl.oneF (d + 1) (c.ws.drop k) = res := ⟨_, rfl⟩
    rw [hres]
    have hat : ∀ x, c.ws[k]? = some x → res = _ := fun x hx => hres.symm.trans (HAT.out x hx)
    have herr : (∀ x ∈ [Fl.sAny, Fl.sNot, [40], Fl.nm 0, Fl.nm 1, Fl.nm 2, Fl.nm 3, Fl.nm 4], c.ws[k]? ≠ some x) → res = .error 3 := fun hn => by
      rw [← hres]
      cases hx : c.ws[k]? with
      | none => rw [drop_none hx, Fl.oneF]
      | some x =>
        rw [hx] at hn
        rw [one_at hx, if_neg (fun e => hn x (by simp [e]) rfl), if_neg (fun e => hn x (by simp [e]) rfl), if_neg (fun e => hn x (by simp [e]) rfl)]
        have hf : Fl.fieldOf x = none := by
          unfold Fl.fieldOf
          rw [if_neg (fun e => hn x (by simp [e]) rfl), if_neg (fun e => hn x (by simp [e]) rfl), if_neg (fun e => hn x (by simp [e]) rfl), if_neg (fun e => hn x (by simp [e]) rfl), if_neg (fun e => hn x (by simp [e]) rfl)]
        rw [hf]
    have HA := Lib.hid hat; have HERR := Lib.hid herr
    clear hone hlist hv HAT hres hat herr h e1
    have HT0 := Lib.hid (HTAK.out Fl.sAny #[97, 110, 121] rfl w (Below.refl _ _))
    go_enter Tryd.func22, Tryd.ntmps22
    go_wp2_with fail
    (with_reducible refine HT0.out.mono ?_)
    rintro e w1 (⟨hk, rfl, h1⟩ | ⟨hk0, rfl, h1⟩)
    · have hre := HA.out _ hk
      rw [if_pos rfl] at hre
      have HRE := Lib.hid hre
      clear hre hk
      go_wp2_with fail
      go_ret2
      exact .inl ⟨_, _, _, k + 1, HRE.out, rfl, Lib.hid ⟨rfl, h1.out.1, h1.out.2, .any⟩⟩
    have HB1 := Lib.hid h1.out.2
    clear h1 HT0
    have HT1 := Lib.hid (HTAK.out Fl.sNot #[110, 111, 116] rfl w1 HB1.out)
    go_wp2_with fail
    (with_reducible refine HT1.out.mono ?_)
    rintro e w2 (⟨hk, rfl, h2⟩ | ⟨hk1, rfl, h2⟩)
    · have hre := HA.out _ hk
      rw [if_neg (by decide), if_pos rfl] at hre
      have hc2 : Chg w w2 (fun i => i = g) := (Chg.of_below HB1.out).trans h2.out.2 (fun i hi e => e)
      have HO := Lib.hid (HONE.out (k + 1) w2 h2.out.1 (HV.out.chg hc2 (fun i e => by omega)))
      have HRE := Lib.hid hre; have HC2 := Lib.hid hc2
      clear hre hk hc2 h2
      go_wp2_with fail
      (with_reducible refine HO.out.mono ?_)
      rintro e w3 (⟨t, r, u, k2, ho, rfl, h3⟩ | ⟨er, u, q, ho, rfl, h3⟩)
      · have hre : res = .ok (.not t, r) := by rw [HRE.out, ho]
        have HR2 := Lib.hid hre
        clear hre ho
        obtain ⟨uT, ux, rfl⟩ := h3.out.2.2.2.form
        go_wp2_with fail
        go_ret2
        exact .inl ⟨_, _, _, k2, HR2.out, rfl, Lib.hid ⟨h3.out.1, h3.out.2.1, HC2.out.trans h3.out.2.2.1 (fun i hi e => e), .not (h3.out.2.2.2.wide HC2.out.size (Nat.le_refl _))⟩⟩
      · have hre : res = .error er := by rw [HRE.out, ho]
        have HR2 := Lib.hid hre
        clear hre ho
        rcases h3.out.2.2 with rfl | ⟨uT, ux, rfl⟩
        · go_wp2_with fail
          go_ret2
          exact .inr ⟨er, _, q, HR2.out, rfl, Lib.hid ⟨h3.out.1, HC2.out.trans h3.out.2.1 (fun i hi e => e), .inr ⟨_, _, rfl⟩⟩⟩
        · go_wp2_with fail
          go_ret2
          exact .inr ⟨er, _, q, HR2.out, rfl, Lib.hid ⟨h3.out.1, HC2.out.trans h3.out.2.1 (fun i hi e => e), .inr ⟨_, _, rfl⟩⟩⟩
    have HB2 := Lib.hid (HB1.out.trans (h2.out.2.mono HB1.out.size))
    clear h2 HT1
    have HT2 := Lib.hid (HTAK.out [40] #[40] rfl w2 HB2.out)
    go_wp2_with fail
    (with_reducible refine HT2.out.mono ?_)
    rintro e w3 (⟨hk, rfl, h3⟩ | ⟨hk2, rfl, h3⟩)
    · have hre := HA.out _ hk
      rw [if_neg (by decide), if_neg (by decide), if_pos rfl] at hre
      have hc2 : Chg w w3 (fun i => i = g) := (Chg.of_below HB2.out).trans h3.out.2 (fun i hi e => e)
      have HO := Lib.hid (HLIST.out (k + 1) w3 h3.out.1 (HV.out.chg hc2 (fun i e => by omega)))
      have HRE := Lib.hid hre; have HC2 := Lib.hid hc2
      clear hre hk hc2 h3
      go_wp2_with fail
      (with_reducible refine HO.out.mono ?_)
      rintro e w4 (⟨t, r, u, k2, ho, rfl, h4⟩ | ⟨er, u, q, ho, rfl, h4⟩)
      · have HR2 := Lib.hid (HRE.out.trans ho)
        clear ho
        go_wp2_with fail
        go_ret2
        exact .inl ⟨_, _, _, k2, HR2.out, rfl, Lib.hid ⟨h4.out.1, h4.out.2.1, HC2.out.trans h4.out.2.2.1 (fun i hi e => e), h4.out.2.2.2.wide HC2.out.size (Nat.le_refl _)⟩⟩
      · have HR2 := Lib.hid (HRE.out.trans ho)
        clear ho
        go_wp2_with fail
        go_ret2
        exact .inr ⟨er, _, q, HR2.out, rfl, Lib.hid ⟨h4.out.1, HC2.out.trans h4.out.2.1 (fun i hi e => e), h4.out.2.2⟩⟩
    have hb3 := HB2.out.trans (h3.out.2.mono HB2.out.size)
    have HB3 := Lib.hid hb3
    have hv3 := HV.out.over hb3
    have l0 := hv3.fld 0 (by decide); have l1 := hv3.fld 1 (by decide); have l2 := hv3.fld 2 (by decide); have l3 := hv3.fld 3 (by decide); have l4 := hv3.fld 4 (by decide)
    clear h3 HT2 hb3 hv3
    have HTEST := Lib.hid (fun (f : Nat) W (hr : RdF c W g (k + 1)) (hc : Chg w W (fun i => i = g)) => test_f c g (k + 1) f W hr (HV.out.chg hc (fun i e => by omega)) hg)
    go_upto_region 11 with fail
    clear l0 l1 l2 l3 l4
    have i0 := fun W => (ix_arr ⟨(Fl.nm 0).toArray⟩ ⟨(Fl.nm 1).toArray⟩ ⟨(Fl.nm 2).toArray⟩ ⟨(Fl.nm 3).toArray⟩ ⟨(Fl.nm 4).toArray⟩ W).1
    have i1 := fun W => (ix_arr ⟨(Fl.nm 0).toArray⟩ ⟨(Fl.nm 1).toArray⟩ ⟨(Fl.nm 2).toArray⟩ ⟨(Fl.nm 3).toArray⟩ ⟨(Fl.nm 4).toArray⟩ W).2.1
    have i2 := fun W => (ix_arr ⟨(Fl.nm 0).toArray⟩ ⟨(Fl.nm 1).toArray⟩ ⟨(Fl.nm 2).toArray⟩ ⟨(Fl.nm 3).toArray⟩ ⟨(Fl.nm 4).toArray⟩ W).2.2.1
    have i3 := fun W => (ix_arr ⟨(Fl.nm 0).toArray⟩ ⟨(Fl.nm 1).toArray⟩ ⟨(Fl.nm 2).toArray⟩ ⟨(Fl.nm 3).toArray⟩ ⟨(Fl.nm 4).toArray⟩ W).2.2.2.1
    have i4 := fun W => (ix_arr ⟨(Fl.nm 0).toArray⟩ ⟨(Fl.nm 1).toArray⟩ ⟨(Fl.nm 2).toArray⟩ ⟨(Fl.nm 3).toArray⟩ ⟨(Fl.nm 4).toArray⟩ W).2.2.2.2
    refine wp_loop_rounds 6 ?_
    rw [rounds_succ]
    have HF0 := Lib.hid (HTAK.out (Fl.nm 0) (Fl.nm 0).toArray rfl w3 HB3.out)
    go_wp2_with fail
    (with_reducible refine HF0.out.mono ?_)
    rintro e w4 (⟨hk, rfl, hh⟩ | ⟨hn0, rfl, hh⟩)
    · have hre := HA.out _ hk
      rw [if_neg (by decide), if_neg (by decide), if_neg (by decide)] at hre
      have hre2 : res = Fl.testF 0 (c.ws.drop (k + 1)) := hre
      have hc2 : Chg w w4 (fun i => i = g) := (Chg.of_below HB3.out).trans hh.out.2 (fun i hi e => e)
      have ho : Calls Tryd.prog 31 #[.pointer (some ⟨g, 0, none⟩), .int .i64 0] w4 (OneEnd c w4 g (Fl.testF 0 (c.ws.drop (k + 1)))) := HTEST.out 0 w4 hh.out.1 hc2
      have HO := Lib.hid ho; have HRE := Lib.hid hre2; have HC2 := Lib.hid hc2
      clear hre hre2 hk hc2 hh ho
      go_wp2_with fail
      (with_reducible refine HO.out.mono ?_)
      rintro e wz (⟨t, r, u, k2, ho, rfl, h4⟩ | ⟨er, u, q, ho, rfl, h4⟩)
      · have HR2 := Lib.hid (HRE.out.trans ho)
        clear ho
        go_wp2_with fail
        go_ret2
        exact .inl ⟨_, _, _, k2, HR2.out, rfl, Lib.hid ⟨h4.out.1, h4.out.2.1, HC2.out.trans h4.out.2.2.1 (fun i hi e => e), h4.out.2.2.2.wide HC2.out.size (Nat.le_refl _)⟩⟩
      · have HR2 := Lib.hid (HRE.out.trans ho)
        clear ho
        go_wp2_with fail
        go_ret2
        exact .inr ⟨er, _, q, HR2.out, rfl, Lib.hid ⟨h4.out.1, HC2.out.trans h4.out.2.1 (fun i hi e => e), h4.out.2.2⟩⟩
    have HB4 := Lib.hid (HB3.out.trans (hh.out.2.mono HB3.out.size))
    clear hh HF0
    go_wp2_with fail
    rw [rounds_succ]
    have HF1 := Lib.hid (HTAK.out (Fl.nm 1) (Fl.nm 1).toArray rfl w4 HB4.out)
    go_wp2_with fail
    (with_reducible refine HF1.out.mono ?_)
    rintro e w5 (⟨hk, rfl, hh⟩ | ⟨hn1, rfl, hh⟩)
    · have hre := HA.out _ hk
      rw [if_neg (by decide), if_neg (by decide), if_neg (by decide)] at hre
      have hre2 : res = Fl.testF 1 (c.ws.drop (k + 1)) := hre
      have hc2 : Chg w w5 (fun i => i = g) := (Chg.of_below HB4.out).trans hh.out.2 (fun i hi e => e)
      have ho : Calls Tryd.prog 31 #[.pointer (some ⟨g, 0, none⟩), .int .i64 1] w5 (OneEnd c w5 g (Fl.testF 1 (c.ws.drop (k + 1)))) := HTEST.out 1 w5 hh.out.1 hc2
      have HO := Lib.hid ho; have HRE := Lib.hid hre2; have HC2 := Lib.hid hc2
      clear hre hre2 hk hc2 hh ho
      go_wp2_with fail
      (with_reducible refine HO.out.mono ?_)
      rintro e wz (⟨t, r, u, k2, ho, rfl, h4⟩ | ⟨er, u, q, ho, rfl, h4⟩)
      · have HR2 := Lib.hid (HRE.out.trans ho)
        clear ho
        go_wp2_with fail
        go_ret2
        exact .inl ⟨_, _, _, k2, HR2.out, rfl, Lib.hid ⟨h4.out.1, h4.out.2.1, HC2.out.trans h4.out.2.2.1 (fun i hi e => e), h4.out.2.2.2.wide HC2.out.size (Nat.le_refl _)⟩⟩
      · have HR2 := Lib.hid (HRE.out.trans ho)
        clear ho
        go_wp2_with fail
        go_ret2
        exact .inr ⟨er, _, q, HR2.out, rfl, Lib.hid ⟨h4.out.1, HC2.out.trans h4.out.2.1 (fun i hi e => e), h4.out.2.2⟩⟩
    have HB5 := Lib.hid (HB4.out.trans (hh.out.2.mono HB4.out.size))
    clear hh HF1
    go_wp2_with fail
    rw [rounds_succ]
    have HF2 := Lib.hid (HTAK.out (Fl.nm 2) (Fl.nm 2).toArray rfl w5 HB5.out)
    go_wp2_with fail
    (with_reducible refine HF2.out.mono ?_)
    rintro e w6 (⟨hk, rfl, hh⟩ | ⟨hn2, rfl, hh⟩)
    · have hre := HA.out _ hk
      rw [if_neg (by decide), if_neg (by decide), if_neg (by decide)] at hre
      have hre2 : res = Fl.testF 2 (c.ws.drop (k + 1)) := hre
      have hc2 : Chg w w6 (fun i => i = g) := (Chg.of_below HB5.out).trans hh.out.2 (fun i hi e => e)
      have ho : Calls Tryd.prog 31 #[.pointer (some ⟨g, 0, none⟩), .int .i64 2] w6 (OneEnd c w6 g (Fl.testF 2 (c.ws.drop (k + 1)))) := HTEST.out 2 w6 hh.out.1 hc2
      have HO := Lib.hid ho; have HRE := Lib.hid hre2; have HC2 := Lib.hid hc2
      clear hre hre2 hk hc2 hh ho
      go_wp2_with fail
      (with_reducible refine HO.out.mono ?_)
      rintro e wz (⟨t, r, u, k2, ho, rfl, h4⟩ | ⟨er, u, q, ho, rfl, h4⟩)
      · have HR2 := Lib.hid (HRE.out.trans ho)
        clear ho
        go_wp2_with fail
        go_ret2
        exact .inl ⟨_, _, _, k2, HR2.out, rfl, Lib.hid ⟨h4.out.1, h4.out.2.1, HC2.out.trans h4.out.2.2.1 (fun i hi e => e), h4.out.2.2.2.wide HC2.out.size (Nat.le_refl _)⟩⟩
      · have HR2 := Lib.hid (HRE.out.trans ho)
        clear ho
        go_wp2_with fail
        go_ret2
        exact .inr ⟨er, _, q, HR2.out, rfl, Lib.hid ⟨h4.out.1, HC2.out.trans h4.out.2.1 (fun i hi e => e), h4.out.2.2⟩⟩
    have HB6 := Lib.hid (HB5.out.trans (hh.out.2.mono HB5.out.size))
    clear hh HF2
    go_wp2_with fail
    rw [rounds_succ]
    have HF3 := Lib.hid (HTAK.out (Fl.nm 3) (Fl.nm 3).toArray rfl w6 HB6.out)
    go_wp2_with fail
    (with_reducible refine HF3.out.mono ?_)
    rintro e w7 (⟨hk, rfl, hh⟩ | ⟨hn3, rfl, hh⟩)
    · have hre := HA.out _ hk
      rw [if_neg (by decide), if_neg (by decide), if_neg (by decide)] at hre
      have hre2 : res = Fl.testF 3 (c.ws.drop (k + 1)) := hre
      have hc2 : Chg w w7 (fun i => i = g) := (Chg.of_below HB6.out).trans hh.out.2 (fun i hi e => e)
      have ho : Calls Tryd.prog 31 #[.pointer (some ⟨g, 0, none⟩), .int .i64 3] w7 (OneEnd c w7 g (Fl.testF 3 (c.ws.drop (k + 1)))) := HTEST.out 3 w7 hh.out.1 hc2
      have HO := Lib.hid ho; have HRE := Lib.hid hre2; have HC2 := Lib.hid hc2
      clear hre hre2 hk hc2 hh ho
      go_wp2_with fail
      (with_reducible refine HO.out.mono ?_)
      rintro e wz (⟨t, r, u, k2, ho, rfl, h4⟩ | ⟨er, u, q, ho, rfl, h4⟩)
      · have HR2 := Lib.hid (HRE.out.trans ho)
        clear ho
        go_wp2_with fail
        go_ret2
        exact .inl ⟨_, _, _, k2, HR2.out, rfl, Lib.hid ⟨h4.out.1, h4.out.2.1, HC2.out.trans h4.out.2.2.1 (fun i hi e => e), h4.out.2.2.2.wide HC2.out.size (Nat.le_refl _)⟩⟩
      · have HR2 := Lib.hid (HRE.out.trans ho)
        clear ho
        go_wp2_with fail
        go_ret2
        exact .inr ⟨er, _, q, HR2.out, rfl, Lib.hid ⟨h4.out.1, HC2.out.trans h4.out.2.1 (fun i hi e => e), h4.out.2.2⟩⟩
    have HB7 := Lib.hid (HB6.out.trans (hh.out.2.mono HB6.out.size))
    clear hh HF3
    go_wp2_with fail
    rw [rounds_succ]
    have HF4 := Lib.hid (HTAK.out (Fl.nm 4) (Fl.nm 4).toArray rfl w7 HB7.out)
    go_wp2_with fail
    (with_reducible refine HF4.out.mono ?_)
    rintro e w8 (⟨hk, rfl, hh⟩ | ⟨hn4, rfl, hh⟩)
    · have hre := HA.out _ hk
      rw [if_neg (by decide), if_neg (by decide), if_neg (by decide)] at hre
      have hre2 : res = Fl.testF 4 (c.ws.drop (k + 1)) := hre
      have hc2 : Chg w w8 (fun i => i = g) := (Chg.of_below HB7.out).trans hh.out.2 (fun i hi e => e)
      have ho : Calls Tryd.prog 31 #[.pointer (some ⟨g, 0, none⟩), .int .i64 4] w8 (OneEnd c w8 g (Fl.testF 4 (c.ws.drop (k + 1)))) := HTEST.out 4 w8 hh.out.1 hc2
      have HO := Lib.hid ho; have HRE := Lib.hid hre2; have HC2 := Lib.hid hc2
      clear hre hre2 hk hc2 hh ho
      go_wp2_with fail
      (with_reducible refine HO.out.mono ?_)
      rintro e wz (⟨t, r, u, k2, ho, rfl, h4⟩ | ⟨er, u, q, ho, rfl, h4⟩)
      · have HR2 := Lib.hid (HRE.out.trans ho)
        clear ho
        go_wp2_with fail
        go_ret2
        exact .inl ⟨_, _, _, k2, HR2.out, rfl, Lib.hid ⟨h4.out.1, h4.out.2.1, HC2.out.trans h4.out.2.2.1 (fun i hi e => e), h4.out.2.2.2.wide HC2.out.size (Nat.le_refl _)⟩⟩
      · have HR2 := Lib.hid (HRE.out.trans ho)
        clear ho
        go_wp2_with fail
        go_ret2
        exact .inr ⟨er, _, q, HR2.out, rfl, Lib.hid ⟨h4.out.1, HC2.out.trans h4.out.2.1 (fun i hi e => e), h4.out.2.2⟩⟩
    have HB8 := Lib.hid (HB7.out.trans (hh.out.2.mono HB7.out.size))
    clear hh HF4
    go_wp2_with fail
    rw [rounds_succ]
    have hre : res = .error 3 := HERR.out (by
      intro x hx
      simp only [List.mem_cons, List.mem_nil_iff, or_false] at hx
      rcases hx with rfl | rfl | rfl | rfl | rfl | rfl | rfl | rfl
      · exact hk0
      · exact hk1
      · exact hk2
      · exact hn0
      · exact hn1
      · exact hn2
      · exact hn3
      · exact hn4)
    have HRE := Lib.hid hre
    have HF := Lib.hid (fail_f c g k 3 w8 (H.out.below HB8.out))
    clear hre
    go_wp2_with fail
    (with_reducible refine HF.out.mono ?_)
    rintro e w9 ⟨q, rfl, h9⟩
    go_wp2_with fail
    go_ret2
    exact .inr ⟨3, _, q, HRE.out, rfl, Lib.hid ⟨h9.out.1, (Chg.of_below HB8.out).trans (Chg.of_below (S := fun i => i = g) h9.out.2) (fun i hi e => e), .inl rfl⟩⟩
end Go.Proofs.YtdipehgijjkfdaaDoor
