/-
  ordered says yes of every play that keeps each flow's order.
-/
import Derived.Test.YthhgbpbaihgogaaOrdLaw
import Derived.Test.YthhgbpbaihgogaaKept
import Derived.Test.YthhgbpbaihgogaaCodPull
namespace Go.Proofs.Ythhgbpbaihgogaa
open Go.RowKit Bkt
set_option linter.unusedVariables false

theorem flowTo_len (ts : List Pl.Stp) : ∀ k, (Pl.flowTo ts k).length ≤ k
  | 0 => Nat.le_refl _
  | k + 1 => by
    have h := flowTo_len ts k
    rw [Pl.flowTo]
    cases ts[k]? with
    | none => simp only []; omega
    | some t =>
      dsimp only
      split
      · simp; omega
      · omega
/-- each flow's last one, in its block -/
structure LstB (w : World) (g : Nat) (last : Nat → Int) : Prop where
  b : ∃ cs, Blk w g 102 cs ∧ cs.size = 16 ∧ ∀ f, f < 16 → cs[f]? = some (.int .i64 (last f))
theorem LstB.cell {w : World} {g : Nat} {last : Nat → Int} (h : LstB w g last) {f : Nat} (hf : f < 16) : w.cell? ⟨g, f, none⟩ = some (.int .i64 (last f)) ∧ w.frozen? ⟨g, f, none⟩ = false ∧ g < w.heap.size := by
  obtain ⟨cs, hb, hs, hc⟩ := h.b
  exact ⟨(hb.cell f).trans (hc f hf), hb.frozen f, hb.lt⟩
theorem LstB.set_ {w : World} {g : Nat} {last : Nat → Int} (h : LstB w g last) {f : Nat} (hf : f < 16) (x : Int) : LstB (w.setCell ⟨g, f, none⟩ (.int .i64 x)) g (Pl.updf last f x) := by
  obtain ⟨cs, hb, hs, hc⟩ := h.b
  refine ⟨_, hb.set_ f _, by simp [hs], fun i hi => ?_⟩
  by_cases e : i = f
  · subst e; rw [Pl.updf_same]; exact set_is (by omega)
  · rw [Pl.updf_ne _ _ e, set_at e]; exact hc i hi
theorem LstB.chg {w w' : World} {g : Nat} {last : Nat → Int} {S : Nat → Prop} (h : LstB w g last) (hc : Chg w w' S) (hn : ¬ S g) : LstB w' g last := by
  obtain ⟨cs, hb, hs, hcc⟩ := h.b
  exact ⟨cs, hb.chg hc hn, hs, hcc⟩

theorem times_o (A : Option Addr) (n c : Nat) (l : List Pl.Stp) (w : World) (hr : RdR StR w w.heap.size A n l) (hn : n ≤ 1000) :
    Calls Try.prog 16 #[.slice A n c] w fun e w' => ∃ At ct, e = .returned (.slice At n ct) ∧ RdR StR w' w'.heap.size At n (Pl.timesTo l n) ∧ Below w.heap.size w w' := by
  have htl := Pl.timesTo_len l n (by have := hr.len; omega)
  refine (times_any A n c l w hr hn).mono ?_
  rintro e w' ⟨At, ct, e1, h1, h2, _⟩
  rw [htl] at e1 h1
  exact ⟨At, ct, e1, h1, h2⟩
set_option maxHeartbeats 4000000 in
set_option maxRecDepth 100000 in
theorem ordered_yes (A : Option Addr) (n c : Nat) (l : List Pl.Stp) (As : Option Addr) (cs : Nat) (sn : Nat → Pl.Seen) (w : World) (hr : RdR StR w w.heap.size A n l) (hrs : RdSn w w.heap.size As n sn) (hn : n ≤ 120)
    (ho : ∀ i, i < n → Pl.StepO (sn i).taken (Pl.lastF (Pl.timesTo l n) sn i) (Pl.flowTo (Pl.timesTo l n) (i + 1))) :
    Calls Try.prog 26 #[.slice A n c, .slice As n cs] w fun e w' => e = .returned (.bool true) ∧ Below w.heap.size w w' := by
  have hll := hr.len
  have htl := Pl.timesTo_len l n (by omega)
  have htm := times_o A n c l w hr (by omega)
  have HTL := Lib.hid htl; have HTM := Lib.hid htm; have HRS := Lib.hid hrs; have HO := Lib.hid ho
  clear htl htm hrs ho hr hll
  go_enter Try.func26, Try.ntmps26
  go_upto_region 4 with (go_at_call 16; (with_reducible refine HTM.out.mono ?_); rintro e w1 ⟨At, ct, rfl, hrt, hb1⟩; have hs1 := HRS.out.over hb1 (Nat.le_refl _); have HB1 := Lib.hid hb1; have HRT := Lib.hid hrt; have HS1 := Lib.hid hs1; clear hrt hs1 hb1)
  have hsz1 := HB1.out.size
  have hl0 : LstB (w1.alloc (.cells #[.int .i64 0, .int .i64 0, .int .i64 0, .int .i64 0, .int .i64 0, .int .i64 0, .int .i64 0, .int .i64 0, .int .i64 0, .int .i64 0, .int .i64 0, .int .i64 0, .int .i64 0, .int .i64 0, .int .i64 0, .int .i64 0] 102)) w1.heap.size (fun _ => 0) :=
    ⟨_, Blk.new _ _ _, rfl, fun f hf => by
      rcases f with _|_|_|_|_|_|_|_|_|_|_|_|_|_|_|_|f
      all_goals first | rfl | omega⟩
  have hb2 : Below w1.heap.size w1 (w1.alloc (.cells #[.int .i64 0, .int .i64 0, .int .i64 0, .int .i64 0, .int .i64 0, .int .i64 0, .int .i64 0, .int .i64 0, .int .i64 0, .int .i64 0, .int .i64 0, .int .i64 0, .int .i64 0, .int .i64 0, .int .i64 0, .int .i64 0] 102)) := (Below.refl _ _).alloc (Nat.le_refl _) _
  have HL0 := Lib.hid hl0; have HB2 := Lib.hid hb2
  clear hl0 hb2
  generalize w1.alloc (.cells #[.int .i64 0, .int .i64 0, .int .i64 0, .int .i64 0, .int .i64 0, .int .i64 0, .int .i64 0, .int .i64 0, .int .i64 0, .int .i64 0, .int .i64 0, .int .i64 0, .int .i64 0, .int .i64 0, .int .i64 0, .int .i64 0] 102) = w2 at *
  generalize Pl.timesTo l n = ts at *
  go_wp2_with fail
  go_loopw [6, 8] (fun cv i wr => ∃ k : Nat, k ≤ n ∧ i = .int .i64 k ∧ OwnW wr w1.heap.size 3 1 cv (Pl.flowTo ts k).length ((Pl.flowTo ts k).flatMap IntR.cells) ∧ LstB wr w1.heap.size (Pl.lastF ts sn k) ∧ Below w1.heap.size w1 wr) (fun _ i _ => n - (intOf i).toNat)
  case atStart => exact ⟨0, Nat.zero_le _, rfl, OwnW.nil _ _ _ _, HL0.out, HB2.out⟩
  case round =>
    obtain ⟨k, hk, rfl, hown, hlb, hbr⟩ := hrel
    have HOWN := Lib.hid hown; have HBR := Lib.hid hbr; have HLB := Lib.hid hlb
    clear hown hbr hlb
    obtain ⟨Ac, cc, hcv, _, _, _⟩ := HOWN.out.reads
    subst hcv
    by_cases hlt : k < n
    · have hget : ts[k]? = some (ixR StR ts k) := by
        unfold ixR
        rw [List.getD, List.getElem?_eq_getElem (show k < ts.length by have := HTL.out; omega)]; rfl
      obtain ⟨bt, ot, rfl, hbt⟩ := HRT.out.addr hlt
      obtain ⟨c0, _, _, _, c4, _, _⟩ := rdSt_at HRT.out hlt
      obtain ⟨bs, os, A', c', rfl, hbs, y0, _, _, _, _⟩ := HS1.out.at_ hlt
      have hfs := Pl.flowTo_succ hget
      have hfl := flowTo_len ts k
      have hfl1 := flowTo_len ts (k + 1)
      have hst := HO.out k hlt
      have hlf : Pl.lastF ts sn (k + 1) = if 0 ≤ (sn k).taken then Pl.updf (Pl.lastF ts sn k) ((Pl.flowTo ts (k + 1)).getD (sn k).taken.toNat 0).toNat ((sn k).taken + 1) else Pl.lastF ts sn k := rfl
      have HST := Lib.hid hst; have HFS := Lib.hid hfs; have HLF := Lib.hid hlf
      have C0 := Lib.hid c0; have C4 := Lib.hid c4; have Y0 := Lib.hid y0
      clear hget hst hfs hlf c0 c4 y0
      generalize ixR StR ts k = t at *
      obtain ⟨sw, sl, ⟨sa, sn', sf, sb, sm⟩⟩ := t
      dsimp only at C0 C4 HFS
      generalize (sn k).taken = tk at *
      have ik : (k : Int) < (n : Int) := by omega
      have d0 := (HBR.out.cell (p := ⟨bt, ot + k * 7, none⟩) hbt).trans C0.out
      have d4 := (HBR.out.cell (p := ⟨bt, ot + k * 7 + 4, none⟩) hbt).trans C4.out
      have hszr := HBR.out.size
      go_upto_if 23 with fail
      go_cut [6] from 12 to 32 (fun cv wx => ∃ A2 c2, cv = .slice A2 (Pl.flowTo ts (k + 1)).length c2 ∧ OwnW wx w1.heap.size 3 1 cv (Pl.flowTo ts (k + 1)).length ((Pl.flowTo ts (k + 1)).flatMap IntR.cells) ∧ LstB wx w1.heap.size (Pl.lastF ts sn k) ∧ Below w1.heap.size w1 wx)
      case first =>
        by_cases h0 : sw = 0
        · subst h0
          have hcs2 : Pl.flowTo ts (k + 1) = Pl.flowTo ts k ++ [sf] := by rw [HFS.out, if_pos rfl]
          have HCS2 := Lib.hid hcs2
          clear hcs2
          go_wp2_with (at_builtin; go_must (refine wpList_addW IntR rfl (.tmp 24) (.tmp 31) _ w1.heap.size 3 _ 8 Try.underlying32 Try.intRInfo rfl rfl _ (Pl.flowTo ts k).length (Pl.flowTo ts k) sf _ HOWN.out rfl rfl (by show Value.slice (some ⟨wr.heap.size, 0, none⟩) 1 1 = _; simp) (int_one _) (by omega) (by omega) hszr ?_); intro v8 w8 h1 h2 h3; (have hb8 : Below w1.heap.size w1 w8 := HBR.out.grown h2 (by omega) (fun i hi => (HOWN.out.lt i hi).1)); (have hl8 := HLB.out.chg (Chg.of_grown (S := fun i => Value.ownBlock (.slice Ac (Pl.flowTo ts k).length cc) = some i) h2 (fun i e => e.symm)) (fun e => by obtain ⟨cs9, hb9, _, _⟩ := HLB.out.b; exact HOWN.out.blk_ne hb9 (by decide) e)); obtain ⟨A8, c8, hv8, _, _, _⟩ := h1.reads; subst hv8; have H1 := Lib.hid h1; have HB8 := Lib.hid hb8; have HL8 := Lib.hid hl8; clear h1 h2 h3 hb8 hl8)
          go_meet
          case rel => exact ⟨A8, c8, by rw [HCS2.out]; simp, by rw [HCS2.out, List.length_append]; exact H1.out, HL8.out, HB8.out⟩
        · have t0 : (sw == 0) = false := by simpa using h0
          have hcs2 : Pl.flowTo ts (k + 1) = Pl.flowTo ts k := by rw [HFS.out, if_neg h0]
          have HCS2 := Lib.hid hcs2
          clear hcs2
          go_wp2_with fail
          go_meet
          case rel => exact ⟨Ac, cc, by rw [HCS2.out], by rw [HCS2.out]; exact HOWN.out, HLB.out, HBR.out⟩
      case rest =>
        obtain ⟨A2, c2, rfl, hoc, hlc, hbc⟩ := hcut
        have y0 := (hbc.cell (p := ⟨bs, os + k * 6, none⟩) hbs).trans Y0.out
        have hszc := hbc.size
        obtain ⟨fs, hfs⟩ : ∃ fs, fs = Pl.flowTo ts (k + 1) := ⟨_, rfl⟩
        have hst := HST.out
        rw [← hfs] at hst hfl1 hoc ⊢
        have HFS2 := Lib.hid hfs; have HOC := Lib.hid hoc; have HLC := Lib.hid hlc; have HBC := Lib.hid hbc; have HST2 := Lib.hid hst
        clear hfs hoc hlc hbc hst d0 d4 hszr HFS
        by_cases h0 : 0 ≤ tk
        · obtain ⟨q1, f, hf, q2, q3⟩ := HST2.out h0
          obtain ⟨u, rfl⟩ : ∃ u : Nat, tk = u := ⟨tk.toNat, by omega⟩
          rw [Int.toNat_natCast] at q2
          obtain ⟨gc, oc, hAc, hcx, hcf, hgc, hgc2⟩ := intR_at HOC.out (k := u) (by omega)
          subst hAc
          rw [q2] at hcx
          obtain ⟨z1, z2, z3⟩ := HLC.out.cell hf
          obtain ⟨la, hla⟩ : ∃ la, la = Pl.lastF ts sn k f := ⟨_, rfl⟩
          rw [← hla] at z1 q3
          have i0 : (0 : Int) ≤ (f : Int) := by omega
          have i1 : (f : Int) < 16 := by omega
          have e1 : IntKind.i64.wrap ((u : Int) + 1) = (u : Int) + 1 := IntWalk.i64_in _ (by omega)
          have t1 : decide ((u : Int) + 1 ≤ la) = false := by simp; omega
          have hne : (Value.slice (some ⟨gc, oc, none⟩) fs.length c2).ownBlock ≠ some w1.heap.size := by
            obtain ⟨cs9, hb9, _, _⟩ := HLC.out.b
            exact HOC.out.blk_ne hb9 (by decide)
          have hl9 := HLC.out.set_ hf ((u : Int) + 1)
          have ho9 := HOC.out.setCell hne (p := ⟨w1.heap.size, f, none⟩) (.int .i64 ((u : Int) + 1))
          have hb9 := HBC.out.setCell (p := ⟨w1.heap.size, f, none⟩) (Nat.le_refl _) (.int .i64 ((u : Int) + 1))
          have hlk : Pl.lastF ts sn (k + 1) = Pl.updf (Pl.lastF ts sn k) f ((u : Int) + 1) := by
            rw [HLF.out, if_pos h0, ← HFS2.out, Int.toNat_natCast, q2, Int.toNat_natCast]
          have HL9 := Lib.hid hl9; have HO9 := Lib.hid ho9; have HB9 := Lib.hid hb9; have HLK := Lib.hid hlk
          clear hne hl9 ho9 hb9 hlk hla q2
          go_wp2_with fail
          go_roundw
          case rel => exact ⟨k + 1, by omega, by go_num, by rw [← HFS2.out]; exact HO9.out, by rw [HLK.out]; exact HL9.out, HB9.out⟩
          case measure => simp [intOf]; omega
        · have hlk : Pl.lastF ts sn (k + 1) = Pl.lastF ts sn k := by rw [HLF.out, if_neg h0]
          have HLK := Lib.hid hlk
          clear hlk
          go_wp2_with fail
          go_roundw
          case rel => exact ⟨k + 1, by omega, by go_num, by rw [← HFS2.out]; exact HOC.out, by rw [HLK.out]; exact HLC.out, HBC.out⟩
          case measure => simp [intOf]; omega
    · obtain rfl : k = n := by omega
      have hfin := HB1.out.trans (HBR.out.mono hsz1)
      have HFIN := Lib.hid hfin
      clear hfin
      go_wp2_with fail
      go_ret
      exact ⟨rfl, HFIN.out⟩
end Go.Proofs.Ythhgbpbaihgogaa
