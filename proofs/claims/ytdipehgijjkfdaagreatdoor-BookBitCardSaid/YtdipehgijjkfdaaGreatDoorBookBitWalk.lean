/-
  BookBit: the walk.
-/
import Derived.Test.YtdipehgijjkfdaaGreatDoorBookCrashesWalk
namespace Go.Proofs.YtdipehgijjkfdaaGreatDoor
open Go.RowKit Go.Maps Go.Sort Go.Shelf
set_option linter.unusedVariables false
theorem own_empty8 (w : World) : (w.alloc (.cells #[] 5)).ownsRow w.heap.size 5 1 (.slice (some ⟨w.heap.size, 0, none⟩) 0 0) 0 [] :=
  ⟨rfl, .inr ⟨w.heap.size, 0, #[], rfl, Nat.le_refl _, heap_alloc_new w _, Nat.le_refl _, by decide, rfl, rfl⟩⟩
theorem bC_set (l : List UInt8) (i : Nat) (t : UInt8) : (bC l).set i (.int .u8 t.toNat) = bC (l.set i t) := by unfold bC; rw [List.map_set]
theorem count_next {l : List UInt8} {i : Nat} (h : i < l.length) : (l.take (i + 1)).count 10 = (l.take i).count 10 + if l[i] = 10 then 1 else 0 := by
  rw [List.take_succ_eq_append_getElem h, List.count_append, List.count_cons, List.count_nil]
  by_cases e : l[i] = 10
  · simp [e]
  · simp [e]
set_option maxHeartbeats 8000000 in
set_option maxRecDepth 100000 in
theorem bookBit_core (An : Option Addr) (nn cn : Nat) (N : List (List UInt8)) (Az : Option Addr) (nz cz : Nat) (Z : List Int) (at_ : Int) (t : UInt8) (w : World)
    (hN : Reads w w.heap.size 1 An nn (N.map encStr)) (hZ : RdI w w.heap.size Az nz Z) (hns : ∀ s ∈ N, s.length ≤ 281474976710656) (hzs : ∀ i, -9223372036854775808 ≤ Z.getD i 0 ∧ Z.getD i 0 ≤ 9223372036854775807) (hnz : nz ≤ 9223372036854775807) (hv : Pv w) :
    Calls Tryz.prog 4 #[.slice An nn cn, .slice Az nz cz, .int .i64 at_, .int .u8 t.toNat] w fun e w' => e = .returned (.bool true) ∧ Below w.heap.size w w' := by
  by_cases hbig : 40 < nn
  · have d0 : decide ((40 : Int) < (nn : Int)) = true := decide_eq_true (by omega)
    go_enter Tryz.func4, Tryz.ntmps4
    go_wp2_with fail
    go_ret
    exact ⟨rfl, Below.refl _ _⟩
  · have d1 : decide ((40 : Int) < (nn : Int)) = false := decide_eq_false (by omega)
    have hw := written_any An nn cn N Az nz cz Z none 0 0 [] w hN hZ Reads.none_ (by omega) hns hzs hnz (by omega) hv
    have HW := Lib.hid hw; have HV := Lib.hid hv
    clear hw hv hN hZ hns hzs
    go_enter Tryz.func4, Tryz.ntmps4
    go_wp2_with fail
    (with_reducible refine HW.out.mono ?_)
    rintro e w1 ⟨g, lv, nv, sure, rfl, h1⟩
    obtain ⟨xs, su, mv, dv, hxn, hm⟩ := h1.out
    obtain ⟨Al, cl, rfl, _⟩ := own_reads hm.l
    obtain ⟨Au, cu, rfl, _⟩ := own_reads hm.n
    have hsn := sync_any _ _ _ _ _ _ w1 hm.bk
    have HSN := Lib.hid hsn; have HM := Lib.hid hm
    clear hsn hm h1 HW
    go_wp2_with fail
    (with_reducible refine HSN.out.mono ?_)
    rintro e w2 ⟨rfl, h2⟩
    have hm2 := wr_sync HM.out h2.out.1 h2.out.2
    have hxl := hm2.bk.len
    have hdl := Bo.data_len hm2.bk.ok (by omega)
    have hcr := crash_any _ _ _ _ _ _ 0 w2 hm2.bk (by decide) (by decide)
    have HCR := Lib.hid hcr; have HM2 := Lib.hid hm2
    clear hcr hm2 h2 HSN HM
    go_wp2_with fail
    (with_reducible refine HCR.out.mono ?_)
    rintro e w3 (⟨_, _, v, rfl, h3⟩ | ⟨h3, _⟩)
    rotate_left
    · exact absurd ⟨by decide, by omega⟩ h3
    obtain ⟨ho, hb3⟩ := h3.out
    have hlen : (Bo.dataF 0 xs).length + (0 : Int).toNat = (Bo.dataF 0 xs).length := by simp
    rw [hlen, List.take_length] at ho
    obtain ⟨A, c, rfl, _⟩ := own_reads ho
    have hm3 := wr_over HM2.out hb3
    have hv3 := HV.out.below hm3.bl HV.out.sz
    have hbk := booked_any w3 hv3
    have HBK := Lib.hid hbk; have HO := Lib.hid ho; have HM3 := Lib.hid hm3
    clear hbk ho hm3 hv3 hb3 h3 hlen HCR HM2
    generalize hd : Bo.dataF 0 xs = d at *
    go_wp2_with fail
    (with_reducible refine HBK.out.mono ?_)
    rintro e w4 ⟨rfl, hb4⟩
    have hm4 := wr_over HM3.out hb4
    have ho4 := own_bl HO.out hb4
    have HM4 := Lib.hid hm4; have HO4 := Lib.hid ho4
    clear hm4 ho4 hb4 HBK HM3 HO
    by_cases hL : d.length = 0
    · have hx0 : xs.length = 0 := by omega
      have q0 : ((d.length : Int) == 0) = true := by simp [hL]
      have hB := HM4.out.bl
      have HB := Lib.hid hB
      clear hB
      go_wp2_with fail
      go_ret
      exact ⟨rfl, HB.out⟩
    · have q0 : ((d.length : Int) == 0) = false := beq_eq_false_iff_ne.mpr (by omega)
      have hpk := pick_all at_ (d.length : Int) w4 (by omega) (by omega)
      have HPK := Lib.hid hpk
      clear hpk
      go_wp2_with fail
      (with_reducible refine HPK.out.mono ?_)
      rintro e w5 ⟨r, hr0, hr1, rfl, hw5⟩
      obtain rfl : w4 = w5 := hw5
      obtain ⟨rn, rfl⟩ := Int.eq_ofNat_of_zero_le hr0
      have hrn : rn < d.length := by omega
      obtain ⟨gd, rfl, hgd⟩ : ∃ gd, A = some ⟨gd, 0, none⟩ ∧ gd < w4.heap.size := by
        rcases HO4.out.2 with ⟨e, _⟩ | ⟨gd, cap, cur, e, _, hc, _⟩
        · injection e with e1 e2 e3; omega
        · injection e with e1 e2 e3
          refine ⟨gd, e1, ?_⟩
          rcases Nat.lt_or_ge gd w4.heap.size with h | h
          · exact h
          · rw [Array.getElem?_eq_none h] at hc; cases hc
      have hcell : ∀ j (h : j < d.length), w4.cell? ⟨gd, j, none⟩ = some (.int .u8 d[j].toNat) := fun j h => by rw [HO4.out.cellAt j (by omega), bC_get h]
      have HC := Lib.hid hcell
      clear hcell HPK
      go_wp2_with fail
      go_loopw [15, 16] (fun lv iv wr => ∃ i : Nat, i ≤ rn ∧ iv = .int .i64 i ∧ lv = .int .i64 ((d.take i).count 10 : Nat) ∧ wr = w4) (fun _ iv _ => rn - (intOf iv).toNat)
      case atStart => exact ⟨0, Nat.zero_le _, rfl, rfl, rfl⟩
      case round =>
        obtain ⟨i, hi, rfl, rfl, hw⟩ := hrel
        obtain rfl : w4 = wr := hw.symm
        by_cases hlt : i < rn
        · have ii : (i : Int) < (rn : Int) := by omega
          have ii2 : (i : Int) < (d.length : Int) := by omega
          have x := HC.out i (by omega)
          have hcn := count_next (l := d) (i := i) (by omega)
          have hcl : (d.take i).count 10 ≤ d.length := Nat.le_trans (List.count_le_length) (by rw [List.length_take]; omega)
          have HCN := Lib.hid hcn
          clear hcn
          generalize hbv : d[i] = bv at *
          by_cases he : bv = 10
          · have q1 : ((bv.toNat : Int) == 10) = true := by rw [he]; rfl
            have hb10 : (bv.toNat : Int) = 10 := by rw [he]; rfl
            go_wp2_with fail
            refine ⟨⟨i + 1, by omega, by go_num, ?_, by first | rfl | trivial⟩, by simp [intOf]; omega⟩
            rw [HCN.out, if_pos he]
            simp
          · have q2 : ¬ (bv.toNat : Int) = 10 := fun e => he (UInt8.toNat_inj.1 (by rw [show bv.toNat = 10 by omega]; rfl))
            have q1 : ((bv.toNat : Int) == 10) = false := beq_eq_false_iff_ne.mpr q2
            go_wp2_with fail
            refine ⟨⟨i + 1, by omega, by go_num, ?_, by first | rfl | trivial⟩, by simp [intOf]; omega⟩
            rw [HCN.out, if_neg he]
            rfl
        · obtain rfl : i = rn := by omega
          have hi := HC.out i hrn
          have HX := Lib.hid hi
          clear hi
          generalize hbv : d[i] = bv at *
          by_cases he : bv = t
          · have q1 : ((bv.toNat : Int) == (t.toNat : Int)) = true := by rw [he]; exact beq_self_eq_true _
            have ii2 : (i : Int) < (d.length : Int) := by omega
            have x := HX.out
            have HB := Lib.hid HM4.out.bl
            rw [he] at x
            go_wp2_with fail
            go_ret
            exact ⟨rfl, HB.out⟩
          · have q2 : ¬ (bv.toNat : Int) = (t.toNat : Int) := fun e => he (UInt8.toNat_inj.1 (by omega))
            have q1 : ((bv.toNat : Int) == (t.toNat : Int)) = false := beq_eq_false_iff_ne.mpr q2
            have ii2 : (i : Int) < (d.length : Int) := by omega
            have x := HX.out
            have hown0 := own_empty8 w4
            have hr4 : Reads (w4.alloc (.cells #[] 5)) w4.heap.size 1 (some ⟨gd, 0, none⟩) d.length (bC d) := (Reads.of_own HO4.out).below ((Below.refl _ _).alloc (Nat.le_refl _) _)
            have HOW := Lib.hid hown0; have HR4 := Lib.hid hr4
            clear hown0 hr4
            obtain ⟨i0, hi0, hz0, hz1, hz2⟩ := info_parts Tryz.u8Info
            go_upto_region 20 with (at_builtin; refine wpList_append_any _ rfl (.tmp 71) (.tmp 72) 28 rfl w4.heap.size 5 i0 (.int .u8 0) 1 1 Tryz.underlying28 hi0 hz0 hz1 hz2 rfl (by decide) _ 0 [] rfl HOW.out w4.heap.size (some ⟨gd, 0, none⟩) d.length c (bC d) rfl HR4.out (fun u hu => by obtain ⟨b, _, rfl⟩ := List.mem_map.1 hu; rfl) (by simp only [maxLen]; omega) (by omega) (by simp) ?_; intro v6 w6 g1 g2 g3; have G1 := Lib.hid g1; have G2 := Lib.hid g2; clear g1 g2 g3)
            have h1 := G1.out
            rw [Nat.zero_add, List.nil_append] at h1
            obtain ⟨g6, c6, rfl, hg6⟩ : ∃ g6 c6, v6 = .slice (some ⟨g6, 0, none⟩) d.length c6 ∧ w4.heap.size ≤ g6 := by
              rcases h1.2 with ⟨e, e2⟩ | ⟨g6, cap, cur, e, hg, _⟩
              · omega
              · exact ⟨g6, cap, e, hg⟩
            have g2' : (w4.alloc (.cells #[] 5)).grownBy w6 (Value.slice (some ⟨w4.heap.size, 0, none⟩) 0 0).ownBlock := G2.out
            have hb6 : Below w4.heap.size w4 w6 := ((Below.refl _ w4).alloc (Nat.le_refl _) (.cells #[] 5)).grown g2' (by simp) (fun k hk => by
              have : k = w4.heap.size := by simpa [Value.ownBlock] using hk.symm
              omega)
            have hfr := h1.frozenAt i
            have hcl := h1.cellAt i (by omega)
            rw [bC_get hrn] at hcl
            obtain ⟨h7, g7⟩ := h1.stored i (.int .u8 t.toNat)
            rw [bC_set] at h7
            have hb7 : Below w4.heap.size w4 (w6.setCell ⟨g6, i, none⟩ (.int .u8 t.toNat)) := hb6.setCell (p := ⟨g6, i, none⟩) hg6 _
            have htt : d[i]? ≠ some t := fun e => he (by rw [List.getElem?_eq_getElem hrn, hbv] at e; exact Option.some.inj e)
            obtain ⟨j, R, hj1, hj2, hj3, hj4, hj5, hj6⟩ := Bo.bit_law (xs := xs) HM4.out.bk.ok (at_ := i) (by rw [hd]; exact hrn) (t := t) (by rw [hd]; exact htt)
            rw [hd] at hj1 hj3
            have hjl : (xs.take j).length = j := by rw [List.length_take]; omega
            have hm7 := wr_over HM4.out hb7
            have hv7 := HV.out.below hm7.bl HV.out.sz
            have hop := open_any _ _ _ _ (xs.take j) R _ h7 hj3 hj5 (by rw [hjl]; exact hj4) (by rw [List.length_set]; omega) hv7
            have hfs := first_of xs j
            have HOP := Lib.hid hop; have HM7 := Lib.hid hm7; have HJL := Lib.hid hjl; have HJ1 := Lib.hid hj1; have HJ6 := Lib.hid hj6; have HFS := Lib.hid hfs
            clear hop hm7 hjl hj1 hj2 hj3 hj4 hj5 hj6 hfs hv7 h7 g7 hb7 hb6 h1
            go_wp2_with fail
            generalize w6.setCell ⟨g6, i, none⟩ (.int .u8 t.toNat) = w7 at *
            (with_reducible refine HOP.out.mono ?_)
            rintro e w8 ⟨g8, rfl, h8⟩
            obtain ⟨mv8, dv8, hbk8, hb8⟩ := h8.out
            have hm8 := wr_over HM7.out hb8
            obtain ⟨A5, c5, e5, h5⟩ := own_reads hm8.l
            injection e5 with e5 _ e6
            subst e5; subst e6
            obtain ⟨A9, c9, e7, h9⟩ := own_reads hm8.n
            injection e7 with e7 _ e8
            subst e7; subst e8
            rw [nm_enc] at h5
            rw [nu_enc] at h9
            have hh := has_yes _ g8 (xs.take j) _ _ _ Al xs.length cl (xs.map Bo.Ln.name) Au xs.length cu (xs.map Bo.Ln.n) w8 hbk8 h5 h9 HFS.out
            rw [HJL.out, HJ1.out] at hh
            have HH := Lib.hid hh; have HB8 := Lib.hid hm8.bl
            have q5 := HJ6.out
            clear hh hm8 h5 h9 hbk8 hb8 h8 HOP HM7
            generalize (Bo.dataF 0 (xs.take j)).length = K at *
            have q6 : (K : Int) ≤ (i : Int) := by omega
            have q7 : decide ((K : Int) ≤ (i : Int)) = true := decide_eq_true q6
            go_wp2_with fail
            (with_reducible refine HH.out.mono ?_)
            rintro e w9 ⟨rfl, hb9⟩
            have HB9 := Lib.hid (HB8.out.trans (hb9.mono HB8.out.size))
            clear hb9
            go_wp2_with fail
            go_ret
            exact ⟨rfl, HB9.out⟩
end Go.Proofs.YtdipehgijjkfdaaGreatDoor
