/-
  SketchGries: the whole walk.
-/
import Derived.Test.YtdddpdhjkeanmaaSkFact
import Derived.Test.YtdddpdhjkeanmaaOpenI
import Derived.Test.YtdddpdhjkeanmaaPick
import Derived.Deep.QuietTactic
import Derived.BigQuiet
namespace Go.Proofs.Ytdddpdhjkeanmaa
open Go.RowKit Go.Sort Go.Shelf
set_option linter.unusedVariables false
structure GrW (W wt : World) (A1 A2 : Option Addr) (P X : List (Int × Int)) : Prop where
  p : RdR PrR wt wt.heap.size A1 P.length P
  x : RdR PrR wt wt.heap.size A2 X.length X
  b : Below W.heap.size W wt
theorem GrW.drewN {W wt : World} {A1 A2 : Option Addr} {P X : List (Int × Int)} (h : GrW W wt A1 A2 P X) (q : Nat) : GrW W (wt.drewN q) A1 A2 P X :=
  ⟨h.p, h.x, ⟨h.b.os, h.b.tape, h.b.output, h.b.size, h.b.block⟩⟩
set_option maxRecDepth 100000 in
theorem sketchGries_many (A : Option Addr) (n c : Nat) (counters : Int) (W : World) (h : 200 < n) (hn : n ≤ 9223372036854775807) :
    Calls Try.prog 3 #[.slice A n c, .int .i64 counters] W fun e w' => e = .returned (.bool true) ∧ Below W.heap.size W w' := by
  have i1 : decide ((200 : Int) < (n : Int)) = true := decide_eq_true (by omega)
  go_enter Try.func3, Try.ntmps3
  go_wp2_with fail
  go_ret
  exact ⟨rfl, Below.refl _ _⟩
theorem sum2_bd : ∀ (X : List (Int × Int)), (∀ p ∈ X, 1 ≤ p.2) → ∀ k, 0 ≤ Pl.sum2 (X.take k) ∧ Pl.sum2 (X.take k) ≤ Pl.sum2 X
  | [], _, k => by simp [Pl.sum2]
  | p :: r, h, 0 => by
    have := (sum2_bd r (fun q hq => h q (List.mem_cons_of_mem _ hq)) r.length)
    rw [List.take_length] at this
    have h1 := h p (by simp)
    refine ⟨by simp [Pl.sum2], ?_⟩
    show (0 : Int) ≤ p.2 + Pl.sum2 r
    omega
  | p :: r, h, k + 1 => by
    have := sum2_bd r (fun q hq => h q (List.mem_cons_of_mem _ hq)) k
    have h1 := h p (by simp)
    rw [List.take_succ_cons]
    show 0 ≤ p.2 + Pl.sum2 (r.take k) ∧ p.2 + Pl.sum2 (r.take k) ≤ p.2 + Pl.sum2 r
    omega
theorem sum2_snoc (a : List (Int × Int)) (p : Int × Int) : Pl.sum2 (a ++ [p]) = Pl.sum2 a + p.2 := by
  induction a with
  | nil => simp [Pl.sum2]
  | cons x r ih => show x.2 + Pl.sum2 (r ++ [p]) = x.2 + Pl.sum2 r + p.2; rw [ih]; omega
theorem take_pr (P : List (Int × Int)) {k : Nat} (h : k < P.length) : P.take (k + 1) = P.take k ++ [ixR PrR P k] := by
  rw [List.take_add_one]
  unfold ixR
  rw [List.getD, List.getElem?_eq_getElem h]; rfl
theorem ix_mem (P : List (Int × Int)) {k : Nat} (h : k < P.length) : ixR PrR P k ∈ P := by
  unfold ixR
  rw [List.getD, List.getElem?_eq_getElem h]
  exact List.getElem_mem _
set_option maxHeartbeats 4000000 in
set_option maxRecDepth 100000 in
theorem sketchGries_yes (A : Option Addr) (n c : Nat) (zs : List Int) (counters : Int) (W : World) (hr : RdW W W.heap.size A n zs) (h : n ≤ 200) :
    Calls Try.prog 3 #[.slice A n c, .int .i64 counters] W fun e w' => e = .returned (.bool true) ∧ Below W.heap.size W w' := by
  have hll := hr.r.len
  have htop := fun K w hr1 hK => top_any A n c zs K w hr1 hr.wf (by omega) hK
  have hex := fun w hr1 => exact_any A n c zs w hr1 hr.wf (by omega)
  have hpk := fun w => pick_all counters 100 w (by decide) (by decide)
  have HR := Lib.hid hr.r; have HLL := Lib.hid hll; have HTOP := Lib.hid htop; have HEX := Lib.hid hex; have HPK := Lib.hid hpk
  clear hr hll htop hex hpk
  have i1 : decide ((200 : Int) < (n : Int)) = false := decide_eq_false (by omega)
  go_enter Try.func3, Try.ntmps3
  go_wp2_with fail
  (with_reducible refine (HPK.out _).mono ?_)
  rintro e w0 ⟨r, h0, h1, rfl, rfl⟩
  obtain ⟨q, rfl⟩ : ∃ q : Nat, r = q := ⟨r.toNat, by omega⟩
  have hK : 1 ≤ q + 1 ∧ q + 1 ≤ 100 := by omega
  have e1 : IntKind.i64.wrap (1 + (q : Int)) = ((q + 1 : Nat) : Int) := by rw [IntWalk.i64_in _ (by omega)]; omega
  have e1' : (1 + (q : Int)) = ((q + 1 : Nat) : Int) := by omega
  generalize q + 1 = K at *
  clear h0 h1
  have ht := HTOP.out K W HR.out hK
  have HT := Lib.hid ht
  clear ht HTOP
  go_wp2_with fail
  (with_reducible refine HT.out.mono ?_)
  rintro e w1 ⟨P, cf, E, d, hPl, hPe, hmg, A1, c1, rfl, hP, hb1⟩
  have hr1 := HR.out.over hb1 (Nat.le_refl _)
  have hx := HEX.out w1 hr1
  have HX := Lib.hid hx; have HPE := Lib.hid hPe; have HMG := Lib.hid hmg; have HP := Lib.hid hP; have HB1 := Lib.hid hb1
  clear hr1 hx hPe hmg hP hb1 HEX HT
  go_wp2_with fail
  (with_reducible refine HX.out.mono ?_)
  rintro e w2 ⟨X, hXl, hXe, A2, c2, rfl, hX, hb2⟩
  have hsk := sketched_yes w2
  have hbw2 := HB1.out.trans (hb2.mono HB1.out.size)
  have hP2 := HP.out.over hb2 (Nat.le_refl _)
  have HSK := Lib.hid hsk; have HXE := Lib.hid hXe; have HXX := Lib.hid hX; have HB2 := Lib.hid hbw2; have HP2 := Lib.hid hP2
  clear hsk hXe hX hb2 hbw2 hP2
  have dl : decide ((K : Int) < (P.length : Int)) = false := decide_eq_false (by omega)
  have dl2 : decide (K < P.length) = false := decide_eq_false (by omega)
  go_wp2_with (go_at_call 8; (with_reducible refine HSK.out.mono ?_); rintro e w3 ⟨rfl, hb3⟩; have HB3 := Lib.hid hb3; clear hb3)
  have hP3 := HP2.out.over HB3.out (Nat.le_refl _)
  have hX3 := HXX.out.over HB3.out (Nat.le_refl _)
  have hB := HB2.out.trans (HB3.out.mono HB2.out.size)
  have hsum := Pl.cnt_sum zs X HXE.out
  have hpos : ∀ p ∈ X, 1 ≤ p.2 := fun ⟨k, v⟩ hp => by
    obtain ⟨e1, e2⟩ := (HXE.out.is k v).1 hp
    have := Pl.cnt_nn zs k
    show 1 ≤ v
    omega
  have hbd := sum2_bd X hpos
  have hlp : ∀ k, Pl.look P k = cf k := fun k => HPE.out.look k
  have hlx : ∀ k, Pl.look X k = Pl.cnt zs k := fun k => HXE.out.look k
  have hlaw := fun k => HMG.out.law k
  have HP3 := Lib.hid hP3; have HX3 := Lib.hid hX3; have HB := Lib.hid hB; have HSUM := Lib.hid hsum; have HBD := Lib.hid hbd; have HLP := Lib.hid hlp; have HLX := Lib.hid hlx; have HLAW := Lib.hid hlaw
  have hm1 := fun key => many_any A1 P.length c1 P key w3 hP3 (by omega)
  have hm2 := fun key => many_any A2 X.length c2 X key w3 hX3 (by omega)
  have HM1 := Lib.hid hm1; have HM2 := Lib.hid hm2
  clear hP3 hX3 hB hsum hpos hbd hlp hlx hlaw hm1 hm2 HP2 HXX HB2 HB3 HP HB1 HX HSK HPK
  go_loopw [8, 9, 10] (fun s i _ wr => ∃ k : Nat, k ≤ X.length ∧ i = .int .i64 k ∧ s = .int .i64 (Pl.sum2 (X.take k)) ∧ wr = w3) (fun _ i _ _ => X.length - (intOf i).toNat)
  case atStart => exact ⟨0, Nat.zero_le _, rfl, rfl, rfl⟩
  case round =>
    obtain ⟨k, hk, rfl, rfl, rfl⟩ := hrel
    by_cases hlt : k < X.length
    · have ik : (k : Int) < (X.length : Int) := by omega
      obtain ⟨b, off, rfl, hb⟩ := HX3.out.addr hlt
      obtain ⟨x0, x1⟩ := rdPr_at HX3.out hlt
      have hmem := ix_mem X hlt
      have htk := take_pr X hlt
      have hb0 := HBD.out k
      have hb1 := HBD.out (k + 1)
      rw [htk, sum2_snoc, HSUM.out] at hb1
      rw [HSUM.out] at hb0
      have HTK := Lib.hid (show Pl.sum2 (X.take (k + 1)) = Pl.sum2 (X.take k) + (ixR PrR X k).2 by rw [htk, sum2_snoc])
      clear htk
      generalize ixR PrR X k = p at *
      obtain ⟨pk, pm⟩ := p
      obtain ⟨hc1, hc2⟩ := (HXE.out.is pk pm).1 hmem
      dsimp only at x0 x1 hb1 HTK
      obtain ⟨hl1, hl2⟩ := HLAW.out pk
      have hnn := HMG.out.nn pk
      have hcall := HM1.out pk
      rw [HLP.out pk] at hcall
      rw [hc1] at hl1 hl2
      have HCALL := Lib.hid hcall
      generalize Pl.sum2 (X.take k) = s at *
      generalize cf pk = t at *
      have hz := HLL.out
      have hpm : pm ≤ 200 := by omega
      have hmul0 : 0 ≤ (pm - t) * ((K : Int) + 1) := Int.mul_nonneg (by omega) (by omega)
      have ev1 : wrap64 (s + pm) = s + pm := IntWalk.wrap64_in _ (by omega)
      have ev2 : wrap64 (pm - t) = pm - t := IntWalk.wrap64_in _ (by omega)
      have ev3 : wrap64 ((K : Int) + 1) = (K : Int) + 1 := IntWalk.wrap64_in _ (by omega)
      have ev4 : wrap64 ((pm - t) * ((K : Int) + 1)) = (pm - t) * ((K : Int) + 1) := IntWalk.wrap64_in _ (by omega)
      have d1 : decide (pm < t) = false := decide_eq_false (by omega)
      have d2 : decide ((n : Int) < (pm - t) * ((K : Int) + 1)) = false := decide_eq_false (by omega)
      clear hmem hc1 hc2 hl1 hl2 hnn hcall hb0 hb1 hmul0
      go_upto_region 14 with (go_at_call 9; (with_reducible refine HCALL.out.mono ?_); rintro e w' ⟨rfl, hw'⟩; subst w')
      go_wp2_with fail
      exact ⟨⟨k + 1, by omega, by go_num, by rw [HTK.out], by first | rfl | trivial⟩, by simp [intOf]; omega⟩
    · obtain rfl : k = X.length := by omega
      have hfin : Pl.sum2 (X.take X.length) = (n : Int) := by rw [List.take_length, HSUM.out, HLL.out]
      rw [hfin]
      clear hfin
      go_wp2_with fail
      have hg0 : GrW W wr A1 A2 P X := ⟨HP3.out, HX3.out, HB.out⟩
      have HG0 := Lib.hid hg0
      clear hg0 HP3 HX3 HB HM1 HM2
      go_loopw [11] (fun i wt => ∃ k : Nat, k ≤ P.length ∧ i = .int .i64 k ∧ GrW W wt A1 A2 P X) (fun i _ => P.length - (intOf i).toNat)
      case atStart => exact ⟨0, Nat.zero_le _, rfl, HG0.out⟩
      case round =>
        obtain ⟨k, hk, rfl, hrel⟩ := hrel
        have HREL := Lib.hid hrel
        clear hrel
        by_cases hlt : k < P.length
        · have ik : (k : Int) < (P.length : Int) := by omega
          obtain ⟨b, off, rfl, hb⟩ := HREL.out.p.addr hlt
          obtain ⟨x0, x1⟩ := rdPr_at HREL.out.p hlt
          have hmem := ix_mem P hlt
          generalize ixR PrR P k = p at *
          obtain ⟨pk, pm⟩ := p
          obtain ⟨hc1, hc2⟩ := (HPE.out.is pk pm).1 hmem
          dsimp only at x0 x1
          obtain ⟨hl1, _⟩ := HLAW.out pk
          have hnn := HMG.out.nn pk
          have hcall : ∀ q, Calls Try.prog 9 #[.slice A2 X.length c2, .int .i64 pk] (wr.drewN q) fun e w' => e = .returned (.int .i64 (Pl.cnt zs pk)) ∧ w' = wr.drewN q := fun q =>
            (many_any A2 X.length c2 X pk (wr.drewN q) HREL.out.x (by omega)).mono fun e w' h => ⟨by rw [h.1, HLX.out pk], h.2⟩
          have HCALL := Lib.hid hcall
          generalize Pl.cnt zs pk = u at *
          have d1 : decide (pm < 1) = false := decide_eq_false (by omega)
          have d2 : decide (u < pm) = false := decide_eq_false (by omega)
          clear hmem hc1 hc2 hl1 hnn hcall
          go_upto_region 19 with fail
          go_quiet ((go_at_call 9; exact Calls.quiet_of_same (HCALL.out _)))
          go_wp2_with fail
          exact ⟨⟨k + 1, by omega, by go_num, HREL.out.drewN _⟩, by simp [intOf]; omega⟩
        · obtain rfl : k = P.length := by omega
          go_wp2_with fail
          go_ret
          exact ⟨by simp, HREL.out.b⟩
theorem sketchGries_core (A : Option Addr) (n c : Nat) (zs : List Int) (counters : Int) (W : World) (hr : RdW W W.heap.size A n zs) (hn : n ≤ 9223372036854775807) (_hb : -9223372036854775808 ≤ counters ∧ counters ≤ 9223372036854775807) :
    Calls Try.prog 3 #[.slice A n c, .int .i64 counters] W fun e w' => e = .returned (.bool true) ∧ Below W.heap.size W w' := by
  by_cases h : 200 < n
  · exact sketchGries_many A n c counters W h hn
  · exact sketchGries_yes A n c zs counters W hr (by omega)
end Go.Proofs.Ytdddpdhjkeanmaa
