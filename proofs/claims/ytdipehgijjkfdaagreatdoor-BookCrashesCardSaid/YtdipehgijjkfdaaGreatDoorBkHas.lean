/-
  'has': a book of just these lines is said to be it.
-/
import Derived.Test.YtdipehgijjkfdaaGreatDoorBkOpen
namespace Go.Proofs.YtdipehgijjkfdaaGreatDoor
open Go.RowKit Go.Maps Go.Sort Go.Shelf
set_option linter.unusedVariables false
def lnOf (N : List (List UInt8)) (Z : List Int) (i : Nat) : Bo.Ln := ⟨N.getD i [], Z.getD i 0⟩
/-- the lines are the first of the names and the numbers -/
structure FirstOf (xs : List Bo.Ln) (N : List (List UInt8)) (Z : List Int) : Prop where
  n : xs.length ≤ N.length
  z : xs.length ≤ Z.length
  h : ∀ i (hi : i < xs.length), xs[i] = lnOf N Z i
structure HasM (w wr : World) (b : Nat) (xs : List Bo.Ln) (k : Nat) (D : DataW Unit) : Prop where
  own : wr.ownsMap Tryz.prog 9 (plainElem Tryz.prog 3) b k D
  rep : FRepS D (Bo.cntL (xs.take k))
  bl : Below w.heap.size w wr
theorem rdS_at {w : World} {B n : Nat} {A : Option Addr} {N : List (List UInt8)} (h : Reads w B 1 A n (N.map encStr)) {k : Nat} (hk : k < n) : ∃ b off, A = some ⟨b, off, none⟩ ∧ b < B ∧ w.cell? ⟨b, off + k, none⟩ = some (.string ⟨(N.getD k []).toArray⟩) := by
  obtain ⟨ad, u, rfl, hb, hx, hc⟩ := Reads.at_ h hk
  obtain ⟨ad0, u0, hA0, _, _, hc0⟩ := Reads.at_ h (show 0 < n by omega)
  injection hA0 with hA0
  subst hA0
  obtain ⟨b, off, spot⟩ := ad
  have hs' : spot = none := by simpa [Addr.add] using World.cell?_spot hc0
  subst hs'
  refine ⟨b, off, rfl, hb, ?_⟩
  have hl : N.length = n := by simpa using h.1
  have e : N[k]? = some (N.getD k []) := by simp [List.getD, List.getElem?_eq_getElem (show k < N.length by omega)]
  rw [List.getElem?_map, e] at hx
  have hu : u = encStr (N.getD k []) := by simpa using hx.symm
  have e2 : (⟨b, off, none⟩ : Addr).add k = ⟨b, off + k, none⟩ := by unfold Addr.add; split <;> simp_all
  rw [← e2, hc, hu]
set_option maxHeartbeats 4000000 in
set_option maxRecDepth 100000 in
theorem has_yes (B g : Nat) (xs : List Bo.Ln) (su : Nat) (mv : Option Nat) (dv : Value) (An : Option Addr) (nn cn : Nat) (N : List (List UInt8)) (Az : Option Addr) (nz cz : Nat) (Z : List Int) (w : World)
    (h : BkM w B g xs su mv dv) (hN : Reads w w.heap.size 1 An nn (N.map encStr)) (hZ : RdI w w.heap.size Az nz Z) (hf : FirstOf xs N Z) :
    Calls Tryz.prog 11 #[.pointer (some ⟨g, 0, none⟩), .slice An nn cn, .slice Az nz cz, .int .i64 xs.length] w fun e w' => e = .returned (.bool true) ∧ Below w.heap.size w w' := by
  have hx5 := h.len
  have hNl : N.length = nn := by simpa using hN.1
  have hZl := hZ.len
  have hn1 := hf.n; have hz1 := hf.z
  have hl0 := lines_any B g xs su mv dv w h
  have hmm := @run_makeMap Tryz.prog
  have hst : HasM w (w.alloc (.map #[] 0)) w.heap.size xs 0 (.map []) := ⟨World.ownsMap_made _ _ _ _, freps_empty.congr (fun k => rfl), (Below.refl _ _).alloc (Nat.le_refl _) _⟩
  have hgl := h.blk.lt
  have H := Lib.hid h; have HN := Lib.hid hN; have HZ := Lib.hid hZ; have HF := Lib.hid hf; have HL := Lib.hid hl0; have HST := Lib.hid hst
  clear h hN hZ hf hl0 hst
  have d1 : ((xs.length : Int) != (xs.length : Int)) = false := by simp
  have d2 : decide (nn < xs.length) = false := decide_eq_false (by omega)
  go_enter Tryz.func11, Tryz.ntmps11
  go_wp2_with fail
  (with_reducible refine HL.out.mono ?_)
  rintro e w1 ⟨rfl, hw1⟩
  obtain rfl : w = w1 := hw1.symm
  clear hw1
  go_wp2_with fail
  go_loopw [10] (fun i wr => ∃ (k : Nat) (D : DataW Unit), k ≤ xs.length ∧ i = .int .i64 k ∧ Hid (HasM w wr w.heap.size xs k D)) (fun i _ => xs.length - (intOf i).toNat)
  case atStart => exact ⟨0, _, Nat.zero_le _, rfl, HST⟩
  case round =>
    obtain ⟨k, D, hk, rfl, HM⟩ := hrel
    by_cases hlt : k < xs.length
    · have ik : (k : Int) < (xs.length : Int) := by omega
      have ikn : (k : Int) < (nn : Int) := by omega
      have ikz : (k : Int) < (nz : Int) := by omega
      obtain ⟨b1, o1, rfl, hb1, c1⟩ := rdS_at HN.out (show k < nn by omega)
      obtain ⟨b2, o2, rfl, hb2, c2⟩ := HZ.out.get (show k < nz by omega)
      have hkx := HF.out.h k hlt
      have hokk := (H.out.ok.at_ hlt)
      have hlk := Bo.addOk_ln hokk
      have hnl := name_short (allOk_mem H.out.ok xs[k] (List.getElem_mem _))
      rw [hkx] at hlk hnl
      have htk : xs.take (k + 1) = xs.take k ++ [lnOf N Z k] := by rw [List.take_add_one, List.getElem?_eq_getElem hlt, hkx]; rfl
      unfold lnOf at hlk hnl htk
      have x1 := (HM.out.bl.cell (p := ⟨b1, o1 + k, none⟩) hb1).trans c1
      have x2 := (HM.out.bl.cell (p := ⟨b2, o2 + k, none⟩) hb2).trans c2
      generalize N.getD k [] = nm at *
      generalize Z.getD k 0 = zn at *
      have hz0 : 1 ≤ zn := hlk.n0
      have hz9 : zn ≤ 1000000 := hlk.n1
      have hky := keyS nm (by show nm.length ≤ _; have : nm.length ≤ 12 := hnl; omega)
      obtain ⟨c, hrun, hat, hwc⟩ := HM.out.own.lookup_int Tryz.lawS Tryz.underlying41 Tryz.underlying3 (Tryz.zeroI _) hky
      have hrun2 : (Instr.lookup 41 (.map (some w.heap.size)) (.string ⟨nm.toArray⟩) false).run Tryz.prog wr.drew = .ok (.int .i64 c) wr.drew := by
        obtain ⟨c', hrun', hat', _⟩ := HM.out.own.drew.lookup_int Tryz.lawS Tryz.underlying41 Tryz.underlying3 (Tryz.zeroI _) hky
        rw [hat] at hat'
        injection hat' with hat'
        injection hat' with _ hat'
        rw [hat']; exact hrun'
      have hcc : c = Bo.cntL (xs.take k) nm := by
        have h3 := HM.out.rep.at_ nm
        have h4 : D.atKey (.string nm) (.lit (.int .i64 0)) = .lit (.int .i64 (Bo.cntL (xs.take k) nm)) := h3
        rw [hat] at h4
        injection h4 with h4
        injection h4 with _ h4
      have hbd := Bo.cntL_bd (H.out.ok.take k) nm
      have hlt2 : (xs.take k).length ≤ 500 := by rw [List.length_take]; omega
      have hsum : IntKind.i64.wrap (c + zn) = c + zn := IntWalk.i64_in _ (by omega)
      have hrep : FRepS (D.put (.string nm) (.lit (.int .i64 (c + zn)))) (Bo.cntL (xs.take (k + 1))) := by
        refine (HM.out.rep.put nm (c + zn) (by omega)).congr fun j => ?_
        rw [htk, Bo.cntL_snoc, hcc]
        by_cases e : j = nm
        · subst e; simp
        · rw [if_neg e, if_neg e]
      have hwf : (Lit.int .i64 (c + zn)).wf = true := WalkArith.wf_i64 (by omega)
      have HKY := Lib.hid hky; have HREP := Lib.hid hrep; have HCC := Lib.hid hcc; have HWF := Lib.hid hwf
      clear hky hat hwc hcc hbd hwf hrep htk hlk hkx hokk hnl
      have hsz := HM.out.bl.size
      go_upto_region 7 with fail
      go_still_tail 11, (by kernel_rfl)
      change wpList _ _ _ _ _ (World.drew _)
      go_wp2_with (at_mapUpdate; refine wpList_mapUpdate_own _ rfl (.tmp 33) (.tmp 37) (.tmp 43) 41 rfl 9 3 Tryz.lawS Tryz.underlying41 (plainElem Tryz.prog 3) w.heap.size k D rfl HM.out.own.drew (by unfold maxLen; omega) (.string ⟨nm.toArray⟩) _ (.string nm) rfl rfl HKY.out _ [] (plainElem_int Tryz.underlying3 HWF.out) ?_; intro w9 h9 g9; have H9 := Lib.hid h9; have G9 := Lib.hid g9; clear h9 g9)
      go_wp2_with fail
      refine ⟨⟨k + 1, _, by omega, by go_num, Lib.hid ⟨H9.out, HREP.out, ?_⟩⟩, by simp [intOf]; omega⟩
      exact HM.out.bl.drew.grown G9.out hsz (fun j e => by injection e with e; omega)
    · obtain rfl : k = xs.length := by omega
      have hsz := HM.out.bl.size
      have hbk := H.out.below HM.out.bl
      have hnm := names_any B g xs su mv dv wr hbk
      have HNM := Lib.hid hnm
      clear hnm hbk hk hlt
      go_wp2_with fail
      (with_reducible refine HNM.out.mono ?_)
      rintro e w2 ⟨A2, c2, ss, rfl, h2⟩
      obtain ⟨hr2, hsl, hcnt, hb2⟩ := h2.out
      have hM2 : HasM w w2 w.heap.size xs xs.length D := ⟨ownsMap_chg HM.out.own (S := fun _ => False) (Chg.of_below hb2) (fun h => h), HM.out.rep, HM.out.bl.trans (hb2.mono hsz)⟩
      have hlen2 : ss.length = Maps.size D := by
        obtain ⟨E, es, hD, hp, hE⟩ := HM.out.rep
        have h3 := hcnt E (by have := hE; rwa [List.take_length] at this)
        rw [h3, HM.out.rep.size hE]
      have hs5 : ss.length ≤ 1000 := by rw [hlen2]; have := own_size HM.out.own; omega
      have hgm := fun (q : List UInt8) (hq : q.length ≤ 281474976710656) (W : World) (hW : Below w2.heap.size w2 W) => get_any B g xs su mv dv q W (((H.out.below HM.out.bl).below hb2).below hW) hq
      have HM2 := Lib.hid hM2; have HR2 := Lib.hid hr2; have HSL := Lib.hid hsl; have HGM := Lib.hid hgm; have HLEN := Lib.hid hlen2
      clear h2 hr2 hsl hcnt hb2 hM2 hgm hlen2 HNM HM
      go_wp2_with fail
      go_loopw [12] (fun i wr => ∃ k : Nat, k ≤ ss.length ∧ i = .int .i64 k ∧ Hid (Below w2.heap.size w2 wr)) (fun i _ => ss.length - (intOf i).toNat)
      case atStart => exact ⟨0, Nat.zero_le _, rfl, Lib.hid (Below.refl _ _)⟩
      case round =>
        obtain ⟨k, hk, rfl, HB⟩ := hrel
        by_cases hlt : k < ss.length
        · have ik : (k : Int) < (ss.length : Int) := by omega
          obtain ⟨b1, o1, rfl, hb1, c1⟩ := rdS_at HR2.out hlt
          have hqs := HSL.out (ss.getD k []) (by rw [List.getD, List.getElem?_eq_getElem hlt]; exact List.getElem_mem _)
          have x1 := (HB.out.cell (p := ⟨b1, o1 + k, none⟩) hb1).trans c1
          generalize ss.getD k [] = nm at *
          have hky := keyS nm hqs
          have hgt := fun nq => HGM.out nm hqs (wr.drewN nq) (below_drewN HB.out _)
          have hrun : ∀ nq, (Instr.lookup 41 (.map (some w.heap.size)) (.string ⟨nm.toArray⟩) false).run Tryz.prog (wr.drewN nq) = .ok (.int .i64 (Bo.cntL xs nm)) (wr.drewN nq) := fun nq => by
            have hoq : (wr.drewN nq).ownsMap Tryz.prog 9 (plainElem Tryz.prog 3) w.heap.size xs.length D := ownsMap_chg HM2.out.own (S := fun _ => False) (Chg.of_below (below_drewN HB.out _)) (fun h => h)
            obtain ⟨c, hr, hat, _⟩ := hoq.lookup_int Tryz.lawS Tryz.underlying41 Tryz.underlying3 (Tryz.zeroI _) hky
            have h3 := HM2.out.rep.at_ nm
            have h4 : D.atKey (.string nm) (.lit (.int .i64 0)) = .lit (.int .i64 (Bo.cntL (xs.take xs.length) nm)) := h3
            rw [hat, List.take_length] at h4
            injection h4 with h4
            injection h4 with _ h4
            rw [hr, h4]
          have HGT := Lib.hid hgt
          clear hgt hky c1
          generalize Bo.cntL xs nm = cv at *
          go_upto_region 12 with fail
          go_quiet ((go_at_call 19; exact Calls.quiet_of_same (HGT.out _)))
          go_wp2_with fail
          exact ⟨⟨k + 1, by omega, by go_num, Lib.hid (below_drewN HB.out _)⟩, by simp [intOf]; omega⟩
        · obtain rfl : k = ss.length := by omega
          have hlen := HLEN.out
          have hmw : wr.ownsMap Tryz.prog 9 (plainElem Tryz.prog 3) w.heap.size xs.length D := ownsMap_chg HM2.out.own (S := fun _ => False) (Chg.of_below HB.out) (fun h => h)
          have hln := hmw.len Tryz.underlying41
          rw [← hlen] at hln
          go_wp2_with fail
          go_ret
          exact ⟨by simp, HM2.out.bl.trans (HB.out.mono HM2.out.bl.size)⟩
end Go.Proofs.YtdipehgijjkfdaaGreatDoor
