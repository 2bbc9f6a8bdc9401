/-
  SketchNever: the whole walk.
-/
import Derived.Test.YtdddpdhjkeanmaaSkFact
import Derived.Test.YtdddpdhjkeanmaaGridMerge
import Derived.Test.YtdddpdhjkeanmaaOpenI
import Derived.Test.YtdddpdhjkeanmaaPick
namespace Go.Proofs.Ytdddpdhjkeanmaa
open Go.RowKit
set_option linter.unusedVariables false
/-- three grids -/
structure NvM (W wr : World) (a aa b ba c ca rows cells : Nat) (La Lb Lc : List Int) : Prop where
  ma : GridM wr a aa rows cells (gridV cells La)
  mb : GridM wr b ba rows cells (gridV cells Lb)
  mc : GridM wr c ca rows cells (gridV cells Lc)
  na : b ≠ aa ∧ ba ≠ aa ∧ c ≠ aa ∧ ca ≠ aa
  nb : a ≠ ba ∧ aa ≠ ba ∧ c ≠ ba ∧ ca ≠ ba
  nc : a ≠ ca ∧ aa ≠ ca ∧ b ≠ ca ∧ ba ≠ ca
  lo : W.heap.size ≤ aa ∧ W.heap.size ≤ ba ∧ W.heap.size ≤ ca
  bel : Below W.heap.size W wr
section
variable {W wr w' : World} {a aa b ba c ca rows cells : Nat} {La Lb Lc L : List Int}
theorem NvM.turnA (h : NvM W wr a aa b ba c ca rows cells La Lb Lc) (hg : GridM w' a aa rows cells (gridV cells L)) (hc : Chg wr w' (fun i => i = aa)) : NvM W w' a aa b ba c ca rows cells L Lb Lc :=
  ⟨hg, h.mb.chg hc h.na.1 h.na.2.1, h.mc.chg hc h.na.2.2.1 h.na.2.2.2, h.na, h.nb, h.nc, h.lo, h.bel.trans (hc.below h.bel.size (fun i hi e => by have := h.lo; omega))⟩
theorem NvM.turnB (h : NvM W wr a aa b ba c ca rows cells La Lb Lc) (hg : GridM w' b ba rows cells (gridV cells L)) (hc : Chg wr w' (fun i => i = ba)) : NvM W w' a aa b ba c ca rows cells La L Lc :=
  ⟨h.ma.chg hc h.nb.1 h.nb.2.1, hg, h.mc.chg hc h.nb.2.2.1 h.nb.2.2.2, h.na, h.nb, h.nc, h.lo, h.bel.trans (hc.below h.bel.size (fun i hi e => by have := h.lo; omega))⟩
theorem NvM.turnC (h : NvM W wr a aa b ba c ca rows cells La Lb Lc) (hg : GridM w' c ca rows cells (gridV cells L)) (hc : Chg wr w' (fun i => i = ca)) : NvM W w' a aa b ba c ca rows cells La Lb L :=
  ⟨h.ma.chg hc h.nc.1 h.nc.2.1, h.mb.chg hc h.nc.2.2.1 h.nc.2.2.2, hg, h.na, h.nb, h.nc, h.lo, h.bel.trans (hc.below h.bel.size (fun i hi e => by have := h.lo; omega))⟩
theorem NvM.drewN (h : NvM W wr a aa b ba c ca rows cells La Lb Lc) (q : Nat) : NvM W (wr.drewN q) a aa b ba c ca rows cells La Lb Lc :=
  ⟨h.ma.drewN q, h.mb.drewN q, h.mc.drewN q, h.na, h.nb, h.nc, h.lo, ⟨h.bel.os, h.bel.tape, h.bel.output, h.bel.size, h.bel.block⟩⟩
theorem NvM.over (h : NvM W wr a aa b ba c ca rows cells La Lb Lc) (hb : Below wr.heap.size wr w') : NvM W w' a aa b ba c ca rows cells La Lb Lc :=
  ⟨h.ma.below hb, h.mb.below hb, h.mc.below hb, h.na, h.nb, h.nc, h.lo, h.bel.trans (hb.mono h.bel.size)⟩
end
theorem gridV_nil (cells i : Nat) : gridV cells [] i = 0 := rfl
theorem gridV_app (cells : Nat) (L M : List Int) (i : Nat) : gridV cells L i + gridV cells M i = gridV cells (L ++ M) i := (Pl.cntBy_app _ _ _ _).symm
set_option maxRecDepth 100000 in
theorem sketchNever_many (rows cells : Int) (A1 : Option Addr) (n1 c1 : Nat) (A2 : Option Addr) (n2 c2 : Nat) (key : Int) (W : World) (h : 100 < n1 ∨ 100 < n2) :
    Calls Try.prog 4 #[.int .i64 rows, .int .i64 cells, .slice A1 n1 c1, .slice A2 n2 c2, .int .i64 key] W fun e w' => e = .returned (.bool true) ∧ Below W.heap.size W w' := by
  by_cases h1 : 100 < n1
  · have i1 : decide ((100 : Int) < (n1 : Int)) = true := decide_eq_true (by omega)
    go_enter Try.func4, Try.ntmps4
    go_wp2_with fail
    go_ret
    exact ⟨rfl, Below.refl _ _⟩
  · have i1 : decide ((100 : Int) < (n1 : Int)) = false := decide_eq_false (by omega)
    have i2 : decide ((100 : Int) < (n2 : Int)) = true := decide_eq_true (by omega)
    go_enter Try.func4, Try.ntmps4
    go_wp2_with fail
    go_ret
    exact ⟨rfl, Below.refl _ _⟩
set_option maxHeartbeats 4000000 in
set_option maxRecDepth 100000 in
theorem sketchNever_yes (rows0 cells0 : Int) (A1 : Option Addr) (n1 c1 : Nat) (K : List Int) (A2 : Option Addr) (n2 c2 : Nat) (M : List Int) (key : Int) (W : World) (hr1 : RdI W W.heap.size A1 n1 K) (hr2 : RdI W W.heap.size A2 n2 M) (h1 : n1 ≤ 100) (h2 : n2 ≤ 100) :
    Calls Try.prog 4 #[.int .i64 rows0, .int .i64 cells0, .slice A1 n1 c1, .slice A2 n2 c2, .int .i64 key] W fun e w' => e = .returned (.bool true) ∧ Below W.heap.size W w' := by
  have hl1 := hr1.len; have hl2 := hr2.len
  have hp1 := fun w => pick_all rows0 8 w (by decide) (by decide)
  have hp2 := fun w => pick_all cells0 1000 w (by decide) (by decide)
  have HR1 := Lib.hid hr1; have HR2 := Lib.hid hr2; have HL1 := Lib.hid hl1; have HL2 := Lib.hid hl2; have HP1 := Lib.hid hp1; have HP2 := Lib.hid hp2
  clear hr1 hr2 hl1 hl2 hp1 hp2
  have i1 : decide ((100 : Int) < (n1 : Int)) = false := decide_eq_false (by omega)
  have i2 : decide ((100 : Int) < (n2 : Int)) = false := decide_eq_false (by omega)
  go_enter Try.func4, Try.ntmps4
  go_wp2_with fail
  (with_reducible refine (HP1.out _).mono ?_)
  rintro e w0 ⟨r, hr0, hr8, rfl, rfl⟩
  obtain ⟨q, rfl⟩ : ∃ q : Nat, r = q := ⟨r.toNat, by omega⟩
  have hR : 1 ≤ q + 1 ∧ q + 1 ≤ 8 := by omega
  have e1 : IntKind.i64.wrap (1 + (q : Int)) = ((q + 1 : Nat) : Int) := by rw [IntWalk.i64_in _ (by omega)]; omega
  have e1' : (1 + (q : Int)) = ((q + 1 : Nat) : Int) := by omega
  obtain ⟨q', hq'⟩ : ∃ q' : Nat, q' = q := ⟨q, rfl⟩
  have HQ := Lib.hid hq'
  generalize hrows : q + 1 = rows at *
  clear hr0 hr8 hq'
  go_wp2_with fail
  (with_reducible refine (HP2.out _).mono ?_)
  rintro e w0 ⟨r, hr0, hr8, rfl, rfl⟩
  obtain ⟨p, rfl⟩ : ∃ p : Nat, r = p := ⟨r.toNat, by omega⟩
  have hC : 1 ≤ p + 1 ∧ p + 1 ≤ 1000 := by omega
  have e2 : IntKind.i64.wrap (1 + (p : Int)) = ((p + 1 : Nat) : Int) := by rw [IntWalk.i64_in _ (by omega)]; omega
  have e2' : (1 + (p : Int)) = ((p + 1 : Nat) : Int) := by omega
  generalize hcells : p + 1 = cells at *
  clear hr0 hr8 hcells
  have hn := fun w => newGrid_any rows cells w hR hC
  have HN := Lib.hid hn
  clear hn
  go_wp2_with fail
  (with_reducible refine (HN.out _).mono ?_)
  rintro e w1 ⟨a, aa, rfl, h3⟩
  obtain ⟨m1, lo1, b1⟩ := h3.out
  have t1 := m1.blk.lt; have t2 := m1.arr.lt
  have M1 := Lib.hid m1; have B1 := Lib.hid b1
  clear h3 m1 b1
  go_wp2_with fail
  (with_reducible refine (HN.out _).mono ?_)
  rintro e w2 ⟨b, ba, rfl, h3⟩
  obtain ⟨m2, lo2, b2⟩ := h3.out
  have t3 := m2.blk.lt; have t4 := m2.arr.lt
  have M2 := Lib.hid m2; have B2 := Lib.hid b2
  clear h3 m2 b2
  go_wp2_with fail
  (with_reducible refine (HN.out _).mono ?_)
  rintro e w3 ⟨c, ca, rfl, h3⟩
  obtain ⟨m3, lo3, b3⟩ := h3.out
  have hsk := sketched_yes w3
  have hnv : NvM W w3 a aa b ba c ca rows cells [] [] [] := by
    have s1 := B1.out.size
    exact ⟨((M1.out.below B2.out).below b3).congr (fun i _ => (gridV_nil cells i).symm), (M2.out.below b3).congr (fun i _ => (gridV_nil cells i).symm), m3.congr (fun i _ => (gridV_nil cells i).symm),
      ⟨by omega, by omega, by omega, by omega⟩, ⟨by omega, by omega, by omega, by omega⟩, ⟨by omega, by omega, by omega, by omega⟩, ⟨lo1.2, by omega, by omega⟩, (B1.out.trans (B2.out.mono s1)).trans (b3.mono (by omega))⟩
  have HNV := Lib.hid hnv; have HSK := Lib.hid hsk
  clear h3 m3 b3 hnv hsk M1 B1 M2 B2 HN t1 t2 t3 t4 lo1 lo2 lo3
  go_wp2_with (go_at_call 8; (with_reducible refine HSK.out.mono ?_); rintro e w4 ⟨rfl, hb4⟩; have HNV4 := Lib.hid (HNV.out.over hb4); clear hb4)
  go_loopw [17, 18] (fun n i wr => ∃ k : Nat, k ≤ n1 ∧ i = .int .i64 k ∧ n = .int .i64 (Pl.cnt (K.take k) key) ∧ NvM W wr a aa b ba c ca rows cells (K.take k) [] (K.take k)) (fun _ i _ => n1 - (intOf i).toNat)
  case atStart => exact ⟨0, Nat.zero_le _, rfl, rfl, HNV4.out⟩
  case round =>
    obtain ⟨k, hk, rfl, rfl, hrel⟩ := hrel
    have HREL := Lib.hid hrel
    clear hrel
    by_cases hlt : k < n1
    · have ik : (k : Int) < (n1 : Int) := by omega
      obtain ⟨b1, off, rfl, hbB, hcell⟩ := HR1.out.get hlt
      have hkl : k < K.length := by have := HL1.out; omega
      have hnx := take_next K hkl
      have hcs := cnt_snoc (K.take k) (K.getD k 0) key
      rw [← hnx] at hcs
      have hlk : (K.take k).length ≤ 1000000 := by rw [List.length_take]; omega
      have hcb := Pl.cnt_le (K.take k) key
      have hcb0 := Pl.cnt_nn (K.take k) key
      have hcb1 : (K.take k).length ≤ 100 := by rw [List.length_take]; omega
      have hat : ∀ wt, Below W.heap.size W wt → wt.cell? ⟨b1, off + k, none⟩ = some (.int .i64 (K.getD k 0)) := fun wt hb => (hb.cell (p := ⟨b1, off + k, none⟩) hbB).trans hcell
      have HAT := Lib.hid hat; have HNX := Lib.hid hnx; have HCS := Lib.hid hcs
      clear hat hnx hcs hcell
      generalize K.getD k 0 = x at *
      generalize Pl.cnt (K.take k) key = cn at *
      have x0 := HAT.out wr HREL.out.bel
      have hadd := add_any a aa rows cells (K.take k) x wr HREL.out.ma hlk
      have HADD := Lib.hid hadd
      clear hadd
      go_upto_region 14 with (go_at_call 11; (with_reducible refine HADD.out.mono ?_); rintro e w5 ⟨rfl, h5⟩; have HV5 := Lib.hid (HREL.out.turnA h5.out.1 h5.out.2); clear h5)
      have x1 := HAT.out w5 HV5.out.bel
      have hadd2 := add_any c ca rows cells (K.take k) x w5 HV5.out.mc hlk
      have HADD2 := Lib.hid hadd2
      clear hadd2 x0 HADD
      go_upto_region 15 with (go_at_call 11; (with_reducible refine HADD2.out.mono ?_); rintro e w6 ⟨rfl, h6⟩; have HV6 := Lib.hid (HV5.out.turnC h6.out.1 h6.out.2); clear h6)
      have x2 := HAT.out w6 HV6.out.bel
      have hv6 := HV6.out
      rw [← HNX.out] at hv6
      have HV7 := Lib.hid hv6
      clear hv6 x1 HADD2 HAT
      by_cases hx : x = key
      · have dx : (x == key) = true := by simpa using hx
        have hcn := HCS.out
        rw [if_pos hx.symm] at hcn
        have HCN := Lib.hid hcn
        have ev : wrap64 (cn + 1) = cn + 1 := IntWalk.wrap64_in _ (by omega)
        clear hx hcn
        go_wp2_with fail
        exact ⟨⟨k + 1, by omega, by go_num, by rw [HCN.out], HV7.out⟩, by simp [intOf]; omega⟩
      · have dx : (x == key) = false := by simpa using hx
        have hcn := HCS.out
        rw [if_neg (fun e => hx e.symm)] at hcn
        have HCN := Lib.hid hcn
        clear hx hcn
        go_wp2_with fail
        exact ⟨⟨k + 1, by omega, by go_num, by rw [HCN.out], HV7.out⟩, by simp [intOf]; omega⟩
    · obtain rfl : k = n1 := by omega
      obtain ⟨k0, hk0⟩ : ∃ k0, k0 = k := ⟨k, rfl⟩
      subst hk0
      have htk : K.take k0 = K := List.take_of_length_le (by have := HL1.out; omega)
      have hv0 := HREL.out
      rw [htk] at hv0 ⊢
      have HV0 := Lib.hid hv0
      clear hv0 htk
      have hgs := guess_any a aa rows cells K key wr HV0.out.ma
      have hlo := Pl.gTo_law (hashF cells) K key q
      have hq2 : q + 1 = rows := hrows
      rw [hq2] at hlo
      have hhi := (Pl.gTo_le (hashF cells) K key rows).2
      have hl1 := HL1.out
      have HGS := Lib.hid hgs
      clear hgs hq2
      generalize Pl.gTo (hashF cells) K key rows = gu at *
      generalize Pl.cnt K key = cn at *
      have d1 : decide (gu < cn) = false := decide_eq_false (by omega)
      have d2 : decide ((k0 : Int) < gu) = false := decide_eq_false (by omega)
      clear hlo hhi
      go_wp2_with (go_at_call 12; (with_reducible refine HGS.out.mono ?_); rintro e w5 ⟨rfl, m5, hw5⟩; have HW5 := Lib.hid hw5; clear hw5)
      have hv5 : NvM W w5 a aa b ba c ca rows cells K (M.take 0) (K ++ M.take 0) := by rw [HW5.out, List.take_zero, List.append_nil]; exact HV0.out.drewN _
      have HV5 := Lib.hid hv5
      clear hv5 HW5 HGS HREL HV0 d1 d2 hl1
      go_loopw [20] (fun i wr => ∃ k : Nat, k ≤ n2 ∧ i = .int .i64 k ∧ NvM W wr a aa b ba c ca rows cells K (M.take k) (K ++ M.take k)) (fun i _ => n2 - (intOf i).toNat)
      case atStart => exact ⟨0, Nat.zero_le _, rfl, HV5.out⟩
      case round =>
        obtain ⟨j, hj, rfl, hrel⟩ := hrel
        have HREL := Lib.hid hrel
        clear hrel
        by_cases hlt : j < n2
        · have ik : (j : Int) < (n2 : Int) := by omega
          obtain ⟨b1, off, rfl, hbB, hcell⟩ := HR2.out.get hlt
          have hkl : j < M.length := by have := HL2.out; omega
          have hnx := take_next M hkl
          have hlk : (M.take j).length ≤ 1000000 := by rw [List.length_take]; omega
          have hlk2 : (K ++ M.take j).length ≤ 1000000 := by rw [List.length_append, List.length_take]; have := HL1.out; omega
          have hat : ∀ wt, Below W.heap.size W wt → wt.cell? ⟨b1, off + j, none⟩ = some (.int .i64 (M.getD j 0)) := fun wt hb => (hb.cell (p := ⟨b1, off + j, none⟩) hbB).trans hcell
          have HAT := Lib.hid hat; have HNX := Lib.hid hnx
          clear hat hnx hcell
          generalize M.getD j 0 = x at *
          have x0 := HAT.out wr HREL.out.bel
          have hadd := add_any b ba rows cells (M.take j) x wr HREL.out.mb hlk
          have HADD := Lib.hid hadd
          clear hadd
          go_upto_region 24 with (go_at_call 11; (with_reducible refine HADD.out.mono ?_); rintro e w6 ⟨rfl, h6⟩; have HV6 := Lib.hid (HREL.out.turnB h6.out.1 h6.out.2); clear h6)
          have x1 := HAT.out w6 HV6.out.bel
          have hadd2 := add_any c ca rows cells (K ++ M.take j) x w6 HV6.out.mc hlk2
          have HADD2 := Lib.hid hadd2
          clear hadd2 x0 HADD
          go_wp2_with (go_at_call 11; (with_reducible refine HADD2.out.mono ?_); rintro e w7 ⟨rfl, h7⟩; have HV7 := Lib.hid (HV6.out.turnC h7.out.1 h7.out.2); clear h7)
          have hv7 := HV7.out
          rw [List.append_assoc, ← HNX.out] at hv7
          exact ⟨⟨j + 1, by omega, by go_num, hv7⟩, by simp [intOf]; omega⟩
        · obtain rfl : j = n2 := by omega
          have htk : M.take j = M := List.take_of_length_le (by have := HL2.out; omega)
          have hv0 := HREL.out
          rw [htk] at hv0
          have HV0 := Lib.hid hv0
          have hmg := merge_any a aa b ba rows cells (gridV cells K) (gridV cells M) wr hv0.ma hv0.mb hv0.na.2.1 hv0.na.1 (fun i => by have := gridV_bd cells K i; have := HL1.out; omega) (fun i => by have := gridV_bd cells M i; have := HL2.out; omega)
          have HMG := Lib.hid hmg
          clear hv0 htk hmg HREL HV5
          generalize hG : Pl.gTo (hashF cells) (K ++ M) key rows = G
          have HG := Lib.hid hG
          clear hG
          go_wp2_with fail
          (with_reducible refine HMG.out.mono ?_)
          rintro e w6 ⟨rfl, h6⟩
          have hv6 := HV0.out.turnA (L := K ++ M) (h6.out.1.congr fun i _ => gridV_app cells K M i) h6.out.2
          have hga := HG.out ▸ guess_any a aa rows cells (K ++ M) key w6 hv6.ma
          have HV6 := Lib.hid hv6; have HGA := Lib.hid hga
          clear h6 hv6 hga
          go_wp2_with fail
          (with_reducible refine HGA.out.mono ?_)
          rintro e w7 ⟨rfl, m7, hw7⟩
          have hv7 : NvM W w7 a aa b ba c ca rows cells (K ++ M) M (K ++ M) := by rw [hw7]; exact HV6.out.drewN _
          have hgc := HG.out ▸ guess_any c ca rows cells (K ++ M) key w7 hv7.mc
          have HV7 := Lib.hid hv7; have HGC := Lib.hid hgc
          clear hw7 hv7 hgc
          go_wp2_with fail
          (with_reducible refine HGC.out.mono ?_)
          rintro e w8 ⟨rfl, m8, hw8⟩
          have hv8 : NvM W w8 a aa b ba c ca rows cells (K ++ M) M (K ++ M) := by rw [hw8]; exact HV7.out.drewN _
          have HV8 := Lib.hid hv8
          clear hw8 hv8
          go_wp2_with fail
          clear HV0 HMG HV6 HGA HV7 HGC HG
          go_loopw [21] (fun i wr => ∃ k : Nat, k ≤ k0 ∧ i = .int .i64 k ∧ NvM W wr a aa b ba c ca rows cells (K ++ M) M (K ++ M)) (fun i _ => k0 - (intOf i).toNat)
          case atStart => exact ⟨0, Nat.zero_le _, rfl, HV8.out⟩
          case round =>
            obtain ⟨k, hk, rfl, hrel⟩ := hrel
            have HREL := Lib.hid hrel
            clear hrel
            by_cases hlt : k < k0
            · have ik : (k : Int) < (k0 : Int) := by omega
              obtain ⟨b1, off, rfl, hbB, hcell⟩ := HR1.out.get hlt
              have x0 := (HREL.out.bel.cell (p := ⟨b1, off + k, none⟩) hbB).trans hcell
              clear hcell
              generalize K.getD k 0 = x at *
              generalize hG : Pl.gTo (hashF cells) (K ++ M) x rows = G
              have hga : ∀ q, Calls Try.prog 12 #[.pointer (some ⟨a, 0, none⟩), .int .i64 x] (wr.drewN q) fun e w' => e = .returned (.int .i64 G) ∧ ∃ m, w' = (wr.drewN q).drewN m := fun q => hG ▸ guess_any a aa rows cells (K ++ M) x (wr.drewN q) (HREL.out.ma.drewN q)
              have hgc : ∀ q, Calls Try.prog 12 #[.pointer (some ⟨c, 0, none⟩), .int .i64 x] (wr.drewN q) fun e w' => e = .returned (.int .i64 G) ∧ ∃ m, w' = (wr.drewN q).drewN m := fun q => hG ▸ guess_any c ca rows cells (K ++ M) x (wr.drewN q) (HREL.out.mc.drewN q)
              have HGA := Lib.hid hga; have HGC := Lib.hid hgc
              clear hga hgc hG
              go_upto_region 30 with fail
              go_quiet ((first | (go_at_call 12; (with_reducible exact Calls.quiet_of (HGA.out _))) | (go_at_call 12; (with_reducible exact Calls.quiet_of (HGC.out _)))))
              go_wp2_with fail
              exact ⟨⟨k + 1, by omega, by go_num, HREL.out.drewN _⟩, by simp [intOf]; omega⟩
            · obtain rfl : k = k0 := by omega
              go_wp2_with fail
              go_ret
              exact ⟨rfl, HREL.out.bel⟩
theorem sketchNever_core (rows cells : Int) (A1 : Option Addr) (n1 c1 : Nat) (K : List Int) (A2 : Option Addr) (n2 c2 : Nat) (M : List Int) (key : Int) (W : World) (hr1 : RdW W W.heap.size A1 n1 K) (hl1 : n1 ≤ 9223372036854775807) (hr2 : RdW W W.heap.size A2 n2 M) (hl2 : n2 ≤ 9223372036854775807)
    (_b1 : -9223372036854775808 ≤ rows ∧ rows ≤ 9223372036854775807) (_b2 : -9223372036854775808 ≤ cells ∧ cells ≤ 9223372036854775807) (_b3 : -9223372036854775808 ≤ key ∧ key ≤ 9223372036854775807) :
    Calls Try.prog 4 #[.int .i64 rows, .int .i64 cells, .slice A1 n1 c1, .slice A2 n2 c2, .int .i64 key] W fun e w' => e = .returned (.bool true) ∧ Below W.heap.size W w' := by
  by_cases h : 100 < n1 ∨ 100 < n2
  · exact sketchNever_many rows cells A1 n1 c1 A2 n2 c2 key W h
  · exact sketchNever_yes rows cells A1 n1 c1 K A2 n2 c2 M key W hr1.r hr2.r (by omega) (by omega)
end Go.Proofs.Ytdddpdhjkeanmaa
