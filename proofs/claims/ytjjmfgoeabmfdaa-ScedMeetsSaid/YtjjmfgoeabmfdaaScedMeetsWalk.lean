/-
  The walk of the law ScedMeets: it returns true, and leaves all that was there.
-/
import Derived.Test.YtjjmfgoeabmfdaaSced5
namespace Go.Proofs.Ytjjmfgoeabmfdaa
open Go.RowKit Crv
set_option linter.unusedVariables false

theorem rowsOut_at {w : World} {g m i : Nat} {LL : Nat → List Int} (h : RowsOut w g m LL) (hi : i < m) {K : Nat} (hK : (LL i).length = K) : ∃ A c, w.cell? ⟨g, i, none⟩ = some (.slice A K c) ∧ RdI w w.heap.size A K (LL i) := by
  subst hK
  exact h.2 i hi
theorem RowsOut.over {w w' : World} {g m : Nat} {LL : Nat → List Int} (h : RowsOut w g m LL) (hb : Below w.heap.size w w') : RowsOut w' g m LL :=
  ⟨Nat.lt_of_lt_of_le h.1 hb.size, fun i hi => by
    obtain ⟨A, c, h1, h2⟩ := h.2 i hi
    exact ⟨A, c, (hb.cell (p := ⟨g, i, none⟩) h.1).trans h1, h2.over hb (Nat.le_refl _)⟩⟩

set_option maxHeartbeats 2000000 in
set_option maxRecDepth 100000 in
theorem scedMeets_core (a0 : Option Addr) (m c0 : Nat) (T : Int) (fs : Nat → FV) (w : World) (hr : RdF w w.heap.size a0 m fs) (hm : m ≤ 9223372036854775807) :
    Calls Try.prog 8 #[.slice a0 m c0, .int .i64 T] w fun e w' => e = .returned (.bool true) ∧ Below w.heap.size w w' := by
  go_enter Try.func8, Try.ntmps8
  go_wp2_with fail
  go_loopw [5, 6] (fun v i wr => ∃ (k q : Nat) (N : Int), k ≤ m ∧ i = .int .i64 k ∧ v = .int .i64 N ∧ wr = w.drewN q) (fun _ i _ => m - (intOf i).toNat)
  case atStart => exact ⟨0, 0, 0, Nat.zero_le _, rfl, rfl, rfl⟩
  case round =>
    obtain ⟨k, q, N, hk, rfl, rfl, rfl⟩ := hrel
    by_cases hlt : k < m
    · obtain ⟨b, off, rfl, hbB, c0, c1⟩ := hr.at_ hlt
      have i1 : (k : Int) < (m : Int) := by omega
      go_wp2_with fail
      go_quiet (fail)
      go_wp2_with fail
      go_roundw
      case rel => exact ⟨k + 1, _, _, by omega, by go_num, rfl, rfl⟩
      case measure => simp [intOf]; omega
    · obtain rfl : k = m := by omega
      have hrW := hr.drewN q
      have hbW : Below w.heap.size w (w.drewN q) := bl_drewN (Below.refl _ _)
      have hrW' : RdF (w.drewN q) (w.drewN q).heap.size a0 k fs := hrW
      clear hr hrW
      generalize w.drewN q = W at *
      by_cases h600 : 600 < N
      · go_wp2_with fail
        go_ret
        exact ⟨rfl, hbW⟩
      · by_cases h10 : (10 : Int) < (k : Int)
        · go_wp2_with fail
          go_ret
          exact ⟨rfl, hbW⟩
        · by_cases hs : SOk k fs
          · by_cases hrng : InRange k fs T
            · have hT0 : 0 ≤ T := by have := (hrng 0 hs.1).1; omega
              obtain ⟨T, rfl⟩ : ∃ n : Nat, T = (n : Int) := ⟨T.toNat, by omega⟩
              have hg : FGood k T fs := ⟨hs, hrng, fun i hi => (hrW'.come i hi).len, fun i hi => (hrW'.prom i hi).len⟩
              have HG := Lib.hid hg; have HS := Lib.hid hs; have HR := Lib.hid hrng
              clear hg hs hrng
              go_wp2_with fail
              refine (fits_yes a0 k c0 fs W hrW' HS.out).mono ?_
              rintro e w1 ⟨fb, rfl, hfb, hb1⟩
              have HFB := Lib.hid hfb; clear hfb
              go_wp2_with fail
              refine (make_yes a0 k c0 fs T w1 (hrW'.over hb1 (Nat.le_refl _)) HS.out HR.out).mono ?_
              rintro e w2 ⟨SA, Sc, gP, gT, rfl, hb2, hS, hP, hT⟩
              have hkp := Blk.new w2 47 #[.slice SA T Sc, .slice (some ⟨gP, 0, none⟩) k k, .slice (some ⟨gT, 0, none⟩) k k]
              have hba : Below w2.heap.size w2 (w2.alloc (.cells #[.slice SA T Sc, .slice (some ⟨gP, 0, none⟩) k k, .slice (some ⟨gT, 0, none⟩) k k] 47)) := (Below.refl _ _).alloc (Nat.le_refl _) _
              replace hP := hP.over hba; replace hT := hT.over hba
              have hbw := bl_next (bl_next (bl_next hbW hb1) hb2) hba
              clear hS hba
              have hrest : True := trivial
              have HKP := Lib.hid hkp; have HP := Lib.hid hP; have HT := Lib.hid hT; have HBW := Lib.hid hbw
              clear hkp hP hT hbw hrW'
              go_wp2_with fail
              refine (promised_any _).mono ?_
              rintro e w3 ⟨rfl, hb3⟩
              have hkp := HKP.out.below hb3 HKP.out.lt
              have r0 : w3.cell? ⟨w2.heap.size, 0, none⟩ = some (.slice SA T Sc) := hkp.cell 0
              have r1 : w3.cell? ⟨w2.heap.size, 1, none⟩ = some (.slice (some ⟨gP, 0, none⟩) k k) := hkp.cell 1
              have r2 : w3.cell? ⟨w2.heap.size, 2, none⟩ = some (.slice (some ⟨gT, 0, none⟩) k k) := hkp.cell 2
              have HP3 := Lib.hid (HP.out.over hb3); have HT3 := Lib.hid (HT.out.over hb3); have HBW3 := Lib.hid (bl_next HBW.out hb3)
              clear hkp HKP HP HT HBW hb3
              go_wp2_with fail
              go_loopw [11] (fun i wr => ∃ (j q : Nat), j ≤ k ∧ i = .int .i64 j ∧ wr = w3.drewN q) (fun i _ => k - (intOf i).toNat)
              case atStart => exact ⟨0, 0, Nat.zero_le _, rfl, rfl⟩
              case round =>
                obtain ⟨j, q1, hj, rfl, rfl⟩ := hrel
                by_cases hlt2 : j < k
                · obtain ⟨AP, cP, p1, hrP⟩ := rowsOut_at HP3.out hlt2 (tab_length _ _)
                  obtain ⟨AT, cT, t1, hrT⟩ := rowsOut_at HT3.out hlt2 (Sced.thrF_len (p := plOf k fs T) j (totK fs j) (HG.out.sent_tot hlt2 T))
                  have hK100 := (HG.out.cum_le hlt2 0).2.2
                  have hMeets : ∀ kk, kk < totK fs j → (fb = true → 0 ≤ dueF (fs j).xs (fs j).zs T kk → 0 ≤ at0 (Sced.thrF (plOf k fs T) j (totK fs j)) kk ∧ at0 (Sced.thrF (plOf k fs T) j (totK fs j)) kk ≤ dueF (fs j).xs (fs j).zs T kk) ∧
                      (0 < kk → 0 ≤ at0 (Sced.thrF (plOf k fs T) j (totK fs j)) kk → at0 (Sced.thrF (plOf k fs T) j (totK fs j)) (kk - 1) < at0 (Sced.thrF (plOf k fs T) j (totK fs j)) kk) := fun kk hkk =>
                    ⟨fun hf hd => Sced.meets HG.out.pl (fits_hf (HFB.out hf) HS.out.1 HR.out) hlt2 hkk hd, fun h0 ht => Sced.thr_up h0 hkk ht⟩
                  have HM := Lib.hid hMeets; clear hMeets
                  have i1 : (j : Int) < (k : Int) := by omega
                  generalize totK fs j = K at *
                  generalize hTL : Sced.thrF (plOf k fs T) j K = TL at *
                  clear hTL
                  go_wp2_with fail
                  go_quiet (fail)
                  go_wp2_with fail
                  go_loopw [12] (fun i wr => ∃ (kk q : Nat), kk ≤ K ∧ i = .int .i64 kk ∧ wr = w3.drewN q) (fun i _ => K - (intOf i).toNat)
                  case atStart => exact ⟨0, _, Nat.zero_le _, rfl, by first | exact World.drewN_drewN _ _ _ | rfl⟩
                  case round =>
                    obtain ⟨kk, q2, hkk, rfl, rfl⟩ := hrel
                    by_cases hlt3 : kk < K
                    · obtain ⟨bP, oP, rfl, _⟩ := hrP.addr hlt3
                      obtain ⟨bT, oT, rfl, _⟩ := hrT.addr hlt3
                      obtain ⟨hm1, hm2⟩ := HM.out kk hlt3
                      have x0 : w3.cell? ⟨bP, oP + kk, none⟩ = some (.int .i64 (dueF (fs j).xs (fs j).zs T kk)) := (hrP.all rfl kk hlt3).trans (by rw [show (tab K (dueF (fs j).xs (fs j).zs T)).getD kk 0 = dueF (fs j).xs (fs j).zs T kk from at0_tab hlt3])
                      have x1 : w3.cell? ⟨bT, oT + kk, none⟩ = some (.int .i64 (at0 TL kk)) := hrT.all rfl kk hlt3
                      have x2 : 0 < kk → w3.cell? ⟨bT, oT + (kk - 1), none⟩ = some (.int .i64 (at0 TL (kk - 1))) := fun h => hrT.all rfl (kk - 1) (by omega)
                      have i2 : (kk : Int) < (K : Int) := by omega
                      have HX2 := Lib.hid x2; have HM1 := Lib.hid hm1; have HM2 := Lib.hid hm2
                      clear x2 hm1 hm2
                      generalize dueF (fs j).xs (fs j).zs T kk = d at *
                      generalize htv : at0 TL kk = tv at *
                      clear htv
                      generalize htp : at0 TL (kk - 1) = tp at *
                      clear htp
                      have hc : (fb = true ∧ 0 ≤ d ∧ 0 ≤ tv ∧ tv ≤ d) ∨ (fb = true ∧ d < 0) ∨ fb = false := by
                        cases fb
                        · exact .inr (.inr rfl)
                        · by_cases hd : 0 ≤ d
                          · obtain ⟨h1, h2⟩ := HM1.out rfl hd
                            exact .inl ⟨rfl, hd, h1, h2⟩
                          · exact .inr (.inl ⟨rfl, by omega⟩)
                      have ht : tv < 0 ∨ (0 ≤ tv ∧ kk = 0) ∨ (0 ≤ tv ∧ 0 < kk ∧ tp < tv) := by
                        by_cases h0 : 0 ≤ tv
                        · rcases Nat.eq_zero_or_pos kk with h1 | h1
                          · exact .inr (.inl ⟨h0, h1⟩)
                          · exact .inr (.inr ⟨h0, h1, HM2.out h1 h0⟩)
                        · exact .inl (by omega)
                      clear HM1 HM2
                      rcases Nat.eq_zero_or_pos kk with e5 | e5
                      · subst e5
                        rw [Nat.add_zero] at x0 x1
                        have i3 : (0 : Int) < (K : Int) := by omega
                        have ht0 : tv < 0 ∨ 0 ≤ tv := by omega
                        clear ht
                        rcases hc with ⟨rfl, e1, e2, e3⟩ | ⟨rfl, e1⟩ | rfl <;> rcases ht0 with e4 | e4
                        all_goals try (exfalso; omega)
                        all_goals
                          go_wp2_with fail
                          go_quiet (fail)
                          go_wp2_with fail
                          go_roundw
                          case rel => exact ⟨0 + 1, _, by omega, by go_num, by first | exact World.drewN_drewN _ _ _ | rfl⟩
                          case measure => simp [intOf]; omega
                      · have x2 := HX2.out e5
                        have i3 : (0 : Int) < (kk : Int) := by omega
                        have i4 : 0 ≤ (kk : Int) - 1 := by omega
                        have i5 : (kk : Int) - 1 < (K : Int) := by omega
                        have i6 : ((kk : Int) - 1).toNat = kk - 1 := by omega
                        have ht0 : tv < 0 ∨ (0 ≤ tv ∧ tp < tv) := by
                          rcases ht with h | ⟨_, h⟩ | ⟨h1, _, h2⟩
                          · exact .inl h
                          · omega
                          · exact .inr ⟨h1, h2⟩
                        clear ht
                        rcases hc with ⟨rfl, e1, e2, e3⟩ | ⟨rfl, e1⟩ | rfl <;> rcases ht0 with e4 | ⟨e4, e6⟩
                        all_goals try (exfalso; omega)
                        all_goals
                          go_wp2_with fail
                          go_quiet (fail)
                          go_wp2_with fail
                          go_roundw
                          case rel => exact ⟨kk + 1, _, by omega, by go_num, by first | exact World.drewN_drewN _ _ _ | rfl⟩
                          case measure => simp [intOf]; omega
                    · obtain rfl : K = kk := by omega
                      go_wp2_with fail
                      go_roundw
                      case rel => exact ⟨j + 1, _, by omega, by go_num, rfl⟩
                      case measure => simp [intOf]; omega
                · obtain rfl : k = j := by omega
                  go_wp2_with fail
                  go_ret
                  exact ⟨rfl, bl_drewN HBW3.out⟩
            · go_wp2_with fail
              refine (fits_yes a0 k c0 fs W hrW' hs).mono ?_
              rintro e w1 ⟨fb, rfl, hfb, hb1⟩
              have HS := Lib.hid hs; have HR := Lib.hid hrng; clear hs hrng hfb
              go_wp2_with fail
              refine (make_far a0 k c0 fs T w1 (hrW'.over hb1 (Nat.le_refl _)) HS.out HR.out).mono ?_
              rintro e w2 ⟨k2, rfl, hb2⟩
              go_wp2_with fail
              refine (promised_any _).mono ?_
              rintro e w3 ⟨rfl, hb3⟩
              go_wp2_with fail
              refine (promised_any _).mono ?_
              rintro e w4 ⟨rfl, hb4⟩
              go_wp2_with fail
              go_ret
              exact ⟨rfl, bl_next (bl_next (bl_alloc (bl_next (bl_next hbW hb1) hb2)) hb3) hb4⟩
          · go_wp2_with fail
            refine (fits_no a0 k c0 fs W hrW' hs).mono ?_
            rintro e w1 ⟨k1, rfl, hb1⟩
            have HS := Lib.hid hs; clear hs
            go_wp2_with fail
            refine (make_no a0 k c0 fs T w1 (hrW'.over hb1 (Nat.le_refl _)) HS.out).mono ?_
            rintro e w2 ⟨k2, rfl, hb2⟩
            go_wp2_with fail
            refine (promised_any _).mono ?_
            rintro e w3 ⟨rfl, hb3⟩
            go_wp2_with fail
            refine (promised_any _).mono ?_
            rintro e w4 ⟨rfl, hb4⟩
            go_wp2_with fail
            go_ret
            exact ⟨rfl, bl_next (bl_next (bl_alloc (bl_next (bl_next hbW hb1) hb2)) hb3) hb4⟩
end Go.Proofs.Ytjjmfgoeabmfdaa
