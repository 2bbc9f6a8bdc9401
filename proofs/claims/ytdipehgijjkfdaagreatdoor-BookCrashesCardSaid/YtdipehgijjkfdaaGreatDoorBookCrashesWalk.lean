/-
  BookCrashes: the walk.
-/
import Derived.Test.YtdipehgijjkfdaaGreatDoorBkWrit
import Derived.Test.YtdipehgijjkfdaaGreatDoorPick
namespace Go.Proofs.YtdipehgijjkfdaaGreatDoor
open Go.RowKit Go.Maps Go.Sort Go.Shelf
set_option linter.unusedVariables false
theorem first_of (xs : List Bo.Ln) (j : Nat) : FirstOf (xs.take j) (xs.map Bo.Ln.name) (xs.map Bo.Ln.n) := by
  refine ⟨by rw [List.length_take, List.length_map]; omega, by rw [List.length_take, List.length_map]; omega, fun i hi => ?_⟩
  have h1 : i < xs.length := by rw [List.length_take] at hi; omega
  unfold lnOf
  simp [List.getD, List.getElem?_map, List.getElem?_eq_getElem h1]
theorem nm_enc (xs : List Bo.Ln) : nmL xs = (xs.map Bo.Ln.name).map encStr := by unfold nmL; rw [List.map_map]; rfl
theorem nu_enc (xs : List Bo.Ln) : nuL xs = (xs.map Bo.Ln.n).map (Value.int .i64) := by unfold nuL; rw [List.map_map]; rfl
theorem own_take {w : World} {B n c k : Nat} {A : Option Addr} {l : List UInt8} (h : w.ownsRow B 5 1 (.slice A n c) n (bC l)) (hk : k ≤ n) : w.ownsRow B 5 1 (.slice A k c) k (bC (l.take k)) := by
  obtain ⟨hl, h | ⟨gd, cap, cur, e, hb, hc, h1, h2, h3, h4⟩⟩ := id h
  · obtain ⟨h5, h6⟩ := h
    injection h5 with e1 e2 e3
    subst e1; subst e2; subst e3
    have hk0 : k = 0 := by omega
    subst hk0
    rw [List.take_zero]
    exact World.ownsRow_nil _ _ _ _
  · rw [bC_len] at hl
    injection e with e1 e2 e3
    subst e1; subst e3
    refine ⟨by rw [bC_len, List.length_take]; omega, .inr ⟨gd, c, cur, rfl, hb, hc, by omega, h2, h3, ?_⟩⟩
    have h5 : (cur.toList.take (n * 1)).take (k * 1) = (bC l).take (k * 1) := by rw [h4]
    rw [List.take_take, Nat.min_eq_left (by omega)] at h5
    rw [h5, Nat.mul_one]
    unfold bC
    rw [List.map_take]
def CrR (M a : Nat) (err : Value) : Prop := (err = .nilIface ∧ a + 1 ≤ M) ∨ ((∃ T u, err = .iface T u) ∧ a = M)
set_option maxHeartbeats 8000000 in
set_option maxRecDepth 100000 in
theorem bookCrashes_core (An : Option Addr) (nn cn : Nat) (N : List (List UInt8)) (Az : Option Addr) (nz cz : Nat) (Z : List Int) (As : Option Addr) (ns cs : Nat) (Sy : List Bool) (keep : Int) (w : World)
    (hN : Reads w w.heap.size 1 An nn (N.map encStr)) (hZ : RdI w w.heap.size Az nz Z) (hS : Reads w w.heap.size 1 As ns (Sy.map Value.bool)) (hns : ∀ s ∈ N, s.length ≤ 281474976710656) (hzs : ∀ i, -9223372036854775808 ≤ Z.getD i 0 ∧ Z.getD i 0 ≤ 9223372036854775807) (hnz : nz ≤ 9223372036854775807) (hnss : ns ≤ 9223372036854775807) (hv : Pv w) :
    Calls Tryz.prog 3 #[.slice An nn cn, .slice Az nz cz, .slice As ns cs, .int .i64 keep] w fun e w' => e = .returned (.bool true) ∧ Below w.heap.size w w' := by
  by_cases hbig : 60 < nn
  · have d0 : decide ((60 : Int) < (nn : Int)) = true := decide_eq_true (by omega)
    have d1 : decide (60 < nn) = true := decide_eq_true hbig
    go_enter Tryz.func3, Tryz.ntmps3
    go_wp2_with fail
    go_ret
    exact ⟨rfl, Below.refl _ _⟩
  · have d1 : decide ((60 : Int) < (nn : Int)) = false := decide_eq_false (by omega)
    have hw := written_any An nn cn N Az nz cz Z As ns cs Sy w hN hZ hS (by omega) hns hzs hnz hnss hv
    have HW := Lib.hid hw; have HV := Lib.hid hv
    clear hw hv hN hZ hS hns hzs
    go_enter Tryz.func3, Tryz.ntmps3
    go_wp2_with fail
    (with_reducible refine HW.out.mono ?_)
    rintro e w1 ⟨g, lv, nv, sure, rfl, h1⟩
    obtain ⟨xs, su, mv, dv, hxn, hm⟩ := h1.out
    obtain ⟨Al, cl, rfl, _⟩ := own_reads hm.l
    obtain ⟨Au, cu, rfl, _⟩ := own_reads hm.n
    have hxl := hm.bk.len
    have hdl := (Bo.data_len hm.bk.ok (by omega)).1
    have hsu := hm.bk.su
    obtain ⟨M, hM⟩ : ∃ M, (Bo.dataF 0 xs).length - su = M := ⟨_, rfl⟩
    have hcr : ∀ (a : Int) (W : World), 0 ≤ a → a ≤ 100000 → Below w1.heap.size w1 W → Calls Tryz.prog 6 #[.pointer (some ⟨g, 0, none⟩), .int .i64 a, .slice none 0 0] W fun e w' => ∃ v x, e = .returned (.tuple #[v, x]) ∧ Hid (Below W.heap.size W w' ∧ ((a ≤ M ∧ x = .nilIface ∧ w'.ownsRow W.heap.size 5 1 v (su + a.toNat) (bC ((Bo.dataF 0 xs).take (su + a.toNat)))) ∨ (M < a ∧ ∃ T u, x = .iface T u))) := fun a W h0 h9 hW =>
      (crash_any _ _ _ _ _ _ a W (hm.bk.below hW) (by omega) (by omega)).mono fun e w' h => by
        rcases h with ⟨h1, h2, v, e1, h3⟩ | ⟨h1, ⟨T, u, e1⟩, h3⟩
        · exact ⟨_, _, e1, Lib.hid ⟨h3.out.2, .inl ⟨by omega, rfl, h3.out.1⟩⟩⟩
        · exact ⟨_, _, e1, Lib.hid ⟨h3, .inr ⟨by omega, _, _, rfl⟩⟩⟩
    have HM := Lib.hid hm; have HCR := Lib.hid hcr
    clear h1 hm hcr HW
    have hc1 := HCR.out 1 w1 (by omega) (by omega) (Below.refl _ _)
    have HC1 := Lib.hid hc1
    clear hc1
    go_wp2_with fail
    (with_reducible refine HC1.out.mono ?_)
    rintro e w2 ⟨v2, x2, rfl, h2⟩
    obtain ⟨hb2, h3⟩ := h2.out
    have hst : CrR M 0 x2 := by
      rcases h3 with ⟨h4, h5, _⟩ | ⟨h4, h5⟩
      · exact .inl ⟨h5, by omega⟩
      · exact .inr ⟨h5, by omega⟩
    have HST := Lib.hid hst; have HB2 := Lib.hid hb2
    clear hst h2 h3 hb2 HC1
    go_wp2_with fail
    go_loopw [13, 15] (fun av ev wr => ∃ a : Nat, av = .int .i64 a ∧ a ≤ M ∧ Hid (CrR M a ev ∧ Below w1.heap.size w1 wr)) (fun av _ _ => M - (intOf av).toNat)
    case atStart => exact ⟨0, rfl, Nat.zero_le _, Lib.hid ⟨HST.out, HB2.out⟩⟩
    case round =>
      obtain ⟨a, rfl, haM, HR⟩ := hrel
      obtain ⟨hr, hbr⟩ := HR.out
      have HBR := Lib.hid hbr
      clear HR hbr
      rcases hr with ⟨rfl, ha1⟩ | ⟨⟨T, u, rfl⟩, rfl⟩
      · have hlt : (a : Int) < 5000 := by omega
        have d2 : decide ((a : Int) < 5000) = true := decide_eq_true hlt
        have hc2 := HCR.out ((a : Int) + 1 + 1) wr (by omega) (by omega) HBR.out
        have HC2 := Lib.hid hc2
        clear hc2
        go_wp2_with fail
        (with_reducible refine HC2.out.mono ?_)
        rintro e w3 ⟨v3, x3, rfl, h2⟩
        obtain ⟨hb2, h3⟩ := h2.out
        have hst : CrR M (a + 1) x3 := by
          rcases h3 with ⟨h4, h5, _⟩ | ⟨h4, h5⟩
          · exact .inl ⟨h5, by omega⟩
          · exact .inr ⟨h5, by omega⟩
        have HS3 := Lib.hid hst; have HB3 := Lib.hid (HBR.out.trans (hb2.mono HBR.out.size))
        clear hst h2 h3 hb2 HC2
        go_wp2_with fail
        exact ⟨⟨a + 1, by go_num, ha1, Lib.hid ⟨HS3.out, HB3.out⟩⟩, by simp [intOf]; omega⟩
      · have hpk := pick_all keep ((a : Int) + 1) wr (by omega) (by omega)
        have HPK := Lib.hid hpk
        clear hpk
        go_wp2_with fail
        (with_reducible refine HPK.out.mono ?_)
        rintro e w3 ⟨r, hr0, hr1, rfl, hw3⟩
        obtain rfl : wr = w3 := hw3
        have hc3 := HCR.out r wr hr0 (by omega) HBR.out
        have HC3 := Lib.hid hc3
        clear hc3 HPK
        go_wp2_with fail
        (with_reducible refine HC3.out.mono ?_)
        rintro e w4 ⟨v4, x4, rfl, h4⟩
        obtain ⟨hb4, h5⟩ := h4.out
        rcases h5 with ⟨hra, rfl, ho⟩ | ⟨h5, _⟩
        rotate_left
        · omega
        obtain ⟨p, hp⟩ : ∃ p, su + r.toNat = p := ⟨_, rfl⟩
        rw [hp] at ho
        have hpl : p ≤ (Bo.dataF 0 xs).length := by omega
        obtain ⟨j, t, hj1, hj2, hj3, hj4, hj5⟩ := Bo.crash_law HM.out.bk.ok hpl
        have hsj : sure ≤ j := hj5 sure HM.out.s (by rw [← HM.out.ss]; omega)
        have hjl : (xs.take j).length = j := by rw [List.length_take]; omega
        have hb14 : Below w1.heap.size w1 w4 := HBR.out.trans (hb4.mono HBR.out.size)
        have hm4 := wr_over HM.out hb14
        have hv4 := HV.out.below hm4.bl HV.out.sz
        have hpn : ((Bo.dataF 0 xs).take p).length = p := by rw [List.length_take]; omega
        obtain ⟨A4, c4, rfl, _⟩ := own_reads ho
        have hop := open_any _ _ _ _ (xs.take j) t w4 ho hj2 hj4 (by rw [hjl]; exact hj3) (by omega) hv4
        have hkp : (Bo.dataF 0 (xs.take j)).length ≤ p := by rw [← hpn, hj2, List.length_append]; omega
        have hop2 : ∀ W, Below w4.heap.size w4 W → Calls Tryz.prog 8 #[.slice A4 (Bo.dataF 0 (xs.take j)).length c4] W (OpenOut W (xs.take j)) := fun W hW => by
          have h6 := own_take (own_bl ho hW) hkp
          rw [hj2, List.take_left' rfl] at h6
          exact open_any _ _ _ _ (xs.take j) [] W h6 (by simp) hj4 (by rw [hjl]; exact Bo.read_none (by simp)) (by omega) (hv4.below hW (by have := hv4.sz; omega))
        have hpc : p ≤ c4 := by
          rcases ho.2 with ⟨e, _⟩ | ⟨gd, cap, cur, e, _, _, h1, _⟩
          · injection e with e1 e2 e3; omega
          · injection e with e1 e2 e3; omega
        have hfs := first_of xs j
        have hha : ∀ (W : World) (gg su2 : Nat) (mv2 : Option Nat) (dv2 : Value) (B2 : Nat), Below w4.heap.size w4 W → BkM W B2 gg (xs.take j) su2 mv2 dv2 → Calls Tryz.prog 11 #[.pointer (some ⟨gg, 0, none⟩), .slice Al xs.length cl, .slice Au xs.length cu, .int .i64 j] W fun e w' => e = .returned (.bool true) ∧ Below W.heap.size W w' := fun W gg su2 mv2 dv2 B2 hW hbk => by
          have hmW := wr_over hm4 hW
          obtain ⟨A5, c5, e5, h5⟩ := own_reads hmW.l
          injection e5 with e5 _ e6
          subst e5
          obtain ⟨A7, c7, e7, h7⟩ := own_reads hmW.n
          injection e7 with e7 _ e8
          subst e7
          rw [nm_enc] at h5
          rw [nu_enc] at h7
          have := has_yes B2 gg (xs.take j) su2 mv2 dv2 Al xs.length cl (xs.map Bo.Ln.name) Au xs.length cu (xs.map Bo.Ln.n) W hbk h5 h7 hfs
          rwa [hjl] at this
        have hbk0 := fun W (hW : Below w4.heap.size w4 W) => booked_any W (hv4.below hW (by have := hv4.sz; omega))
        have HOP := Lib.hid hop; have HOP2 := Lib.hid hop2; have HHA := Lib.hid hha; have HBK0 := Lib.hid hbk0; have HW4 := Lib.hid hm4.bl; have HJL := Lib.hid hjl
        clear hop hop2 hha hbk0 hm4 hv4 ho hb4 h4 hb14 hfs hj2 hj3 hj4 hj5 hpn hjl HC3
        generalize hK : (Bo.dataF 0 (xs.take j)).length = K at *
        go_wp2_with fail
        (with_reducible refine HOP.out.mono ?_)
        rintro e w5 ⟨g5, rfl, h5⟩
        rw [hK] at h5
        obtain ⟨mv5, dv5, hbk5, hb5⟩ := h5.out
        have hk0 := HBK0.out w5 hb5
        have HK0 := Lib.hid hk0; have HBK5 := Lib.hid hbk5; have HB5 := Lib.hid hb5
        rw [hK]
        clear hk0 hbk5 hb5 h5 HOP
        go_wp2_with fail
        (with_reducible refine HK0.out.mono ?_)
        rintro e w6 ⟨rfl, hb6⟩
        have hb46 := HB5.out.trans (hb6.mono HB5.out.size)
        have hbk6 := HBK5.out.below hb6
        have hln := lines_any _ _ _ _ _ _ w6 hbk6
        rw [HJL.out] at hln
        have hh6 := HHA.out w6 g5 _ _ _ _ hb46 hbk6
        have HLN := Lib.hid hln; have HH6 := Lib.hid hh6; have HB46 := Lib.hid hb46; have HBK6 := Lib.hid hbk6
        clear hln hh6 hb46 hb6 hbk6 HK0 HBK5
        have q1 : decide ((p : Int) < (K : Int)) = false := decide_eq_false (by omega)
        have q2 : decide ((j : Int) < (sure : Int)) = false := decide_eq_false (by omega)
        go_wp2_with fail
        (with_reducible refine HLN.out.mono ?_)
        rintro e w7 ⟨rfl, hw7⟩
        obtain rfl : w6 = w7 := hw7.symm
        clear hw7
        go_wp2_with fail
        (with_reducible refine HLN.out.mono ?_)
        rintro e w7 ⟨rfl, hw7⟩
        obtain rfl : w6 = w7 := hw7.symm
        clear hw7
        go_wp2_with fail
        (with_reducible refine HH6.out.mono ?_)
        rintro e w8 ⟨rfl, hb8⟩
        have hb48 := HB46.out.trans (hb8.mono HB46.out.size)
        have hop8 := HOP2.out w8 hb48
        have hbk8 := HBK6.out.below hb8
        have HOP8 := Lib.hid hop8; have HB48 := Lib.hid hb48; have HBK8 := Lib.hid hbk8
        clear hop8 hb48 hbk8 hb8 HLN HH6 HB46 HBK6 HOP2
        have q3 : (K : Int) ≤ (c4 : Int) := by omega
        go_wp2_with fail
        (with_reducible refine HOP8.out.mono ?_)
        rintro e w9 ⟨g9, rfl, h9⟩
        rw [hK] at h9
        obtain ⟨mv9, dv9, hbk9, hb9⟩ := h9.out
        have hb49 := HB48.out.trans (hb9.mono HB48.out.size)
        have hln := lines_any _ _ _ _ _ _ w9 (HBK8.out.below hb9)
        rw [HJL.out] at hln
        have hh9 := HHA.out w9 g9 _ _ _ _ hb49 hbk9
        have HLN := Lib.hid hln; have HH9 := Lib.hid hh9; have HB49 := Lib.hid hb49
        rw [hK]
        clear hln hh9 hb49 hb9 hbk9 h9 HOP8 HBK8 HB48
        go_wp2_with fail
        (with_reducible refine HLN.out.mono ?_)
        rintro e w10 ⟨rfl, hw10⟩
        obtain rfl : w9 = w10 := hw10.symm
        clear hw10
        go_wp2_with fail
        (with_reducible refine HH9.out.mono ?_)
        rintro e w11 ⟨rfl, hb11⟩
        have hbE := HW4.out.trans ((HB49.out.trans (hb11.mono HB49.out.size)).mono HW4.out.size)
        have HBE := Lib.hid hbE
        clear hbE hb11
        go_wp2_with fail
        go_ret
        exact ⟨rfl, HBE.out⟩
end Go.Proofs.YtdipehgijjkfdaaGreatDoor
