/-
  The walk of the law CurveConforms.
-/
import Derived.Test.YtdhojhgmaodifaaDoorBurst
import Derived.Test.YtdhojhgmaodifaaDoorFit
import Derived.Test.YtdhojhgmaodifaaDoorCurved
import Derived.Test.YtdhojhgmaodifaaDoorBucketGcraWalk
import Derived.Test.YtdhojhgmaodifaaDoorHeld
import Derived.StillTailTactics
import Derived.BigRegion
namespace Go.Proofs.YtdhojhgmaodifaaDoor
open Go.RowKit Bkt Crv
set_option linter.unusedVariables false

def ticksOf (k : Bk) (l : List It) (j : Nat) : Array Value := ((tab 120 (tick k l j)).map (Value.int .i64)).toArray
theorem ticksOf_get (k : Bk) (l : List It) (j u : Nat) (hu : u < 120) : (ticksOf k l j)[u]? = some (.int .i64 (tick k l j u)) := by
  simp [ticksOf, tab, hu]
theorem ticksOf_size (k : Bk) (l : List It) (j : Nat) : (ticksOf k l j).size = 120 := by simp [ticksOf, tab]
theorem ticksOf_zero (k : Bk) (l : List It) : ticksOf k l 0 = (List.replicate 120 (Value.int .i64 0)).toArray := by
  unfold ticksOf
  congr 1
theorem Tryd.zeros120 : Tryd.zeroCells48 = (List.replicate 120 (Value.int .i64 0)).toArray := by rfl
theorem ticksOf_same (k : Bk) (l : List It) (j : Nat) (h : ∀ u, u < 120 → tick k l (j + 1) u = tick k l j u) : ticksOf k l (j + 1) = ticksOf k l j := by
  unfold ticksOf
  rw [tab_congr h]
theorem ticksOf_set (k : Bk) (l : List It) (j a : Nat) (v : Int) (ha : a < 120) (h : ∀ u, u < 120 → tick k l (j + 1) u = if u = a then v else tick k l j u) : (ticksOf k l j).setIfInBounds a (.int .i64 v) = ticksOf k l (j + 1) := by
  apply Array.ext_getElem?
  intro u
  rw [Array.getElem?_setIfInBounds]
  by_cases hu : u < 120
  · rw [ticksOf_get k l (j + 1) u hu, h u hu]
    by_cases e : a = u
    · subst e; rw [if_pos rfl, if_pos (by rw [ticksOf_size]; exact ha), if_pos rfl]
    · rw [if_neg e, ticksOf_get k l j u hu, if_neg (Ne.symm e)]
  · rw [if_neg (by omega), Array.getElem?_eq_none (by rw [ticksOf_size]; omega), Array.getElem?_eq_none (by rw [ticksOf_size]; omega)]
theorem rdI_ticks {w : World} {g : Nat} {t : TypeId} {k : Bk} {l : List It} {j m : Nat} (h : Blk w g t (ticksOf k l j)) (hm : m ≤ 120) : RdI w w.heap.size (some ⟨g, 0, none⟩) m (tab m (tick k l j)) := by
  refine ⟨by simp [tab], fun _ => ⟨_, rfl, h.lt, fun i u hu => ?_⟩⟩
  have e : (⟨g, 0, none⟩ : Addr).add i = ⟨g, i, none⟩ := by unfold Addr.add; split <;> simp_all
  have hi : i < m := by
    rcases Nat.lt_or_ge i m with h' | h'
    · exact h'
    · rw [List.getElem?_eq_none (by simp [tab]; exact h')] at hu; cases hu
  rw [e, h.cell i, ticksOf_get k l j i (by omega)]
  rw [← hu]
  simp [tab, hi]
theorem okay_burst {k : Bk} (hk : BkOk k) : Okay (tab 121 (burst k)) := by
  have hl : (tab 121 (burst k)).length = 121 := tab_length _ _
  refine Okay.of (by omega) (by omega) (fun i hi => ?_) (fun i hi => ?_)
  · rw [show (tab 121 (burst k)).getD i 0 = burst k i from at0_tab (by omega)]
    have := burst_bd hk i (by omega); omega
  · rw [show (tab 121 (burst k)).getD i 0 = burst k i from at0_tab (by omega), show (tab 121 (burst k)).getD (i + 1) 0 = burst k (i + 1) from at0_tab (by omega)]
    exact (burst_bd hk i (by omega)).2.2

theorem slice120 (g m : Nat) (hm : m ≤ 119) (W : World) : (Instr.sliceAt 48 (.pointer (some ⟨g, 0, none⟩)) none (some (.int .i64 ((m : Int) + 1))) none).run Tryd.prog W = .ok (.slice (some ⟨g, 0, none⟩) (m + 1) 120) W := by
  have hl : Tryd.prog.arrayLen 48 = 120 := by kernel_rfl
  have ht : Tryd.prog.underlying 48 = some (.array (Tryd.prog.arrayLen 48) (Tryd.prog.elem 48)) := by kernel_rfl
  have hs : ∀ W : World, (sizeOf (Tryd.prog.elem 48)).run Tryd.prog W = .ok 1 W := fun W => by kernel_rfl
  rw [run_sliceAt_array_h W 48 ⟨g, 0, none⟩ ht .i64 ((m : Int) + 1) (by omega) (by rw [hl]; omega), hs, hl]
  have e : ((m : Int) + 1).toNat = m + 1 := by omega
  rw [e]
  simp [Result.andThen, slicedAt, Addr.add]

set_option maxHeartbeats 2000000 in
set_option maxRecDepth 100000 in
theorem curveConforms_core (k : Bk) (A : Option Addr) (n c : Nat) (l : List It) (w : World) (hr : RdIt w w.heap.size A n l) (hg : Handle w) :
    Calls Tryd.prog 8 #[bkV k, .slice A n c] w fun e w' => e = .returned (.bool true) ∧ Below w.heap.size w w' := by
  have hl := hr.len
  have HL := Lib.hid hl; have HG := Lib.hid hg
  clear hl hg
  by_cases hok : BkOk k ∧ ListFine l
  · obtain ⟨hk, hf⟩ := hok
    have hi := itOk_of hf
    have hcon := fun W hW hH => conform_yes k A n c l W hW hH hk hf
    have hbu := fun W => burst_yes k W hk
    have hn : n ≤ 100 := by have := hf.1; have := HL.out; omega
    have hib : ∀ j, j < n → 0 ≤ (ix l j).at_ ∧ 1 ≤ (ix l j).len ∧ (ix l j).len ≤ 10000 := fun j hj => by
      have h1 := hi.at0 j (by have := HL.out; omega); have h2 := hi.len j (by have := HL.out; omega); omega
    have htb := fun j (hj : j ≤ n) u => tick_bd hk hi (j := j) (by have := HL.out; omega) u
    have hfit : ∀ m, m ≤ 120 → FitsP (tab m (tick k l n)) (tab 121 (burst k)) := fun m hm => by
      refine burst_fits hk hi (fun u hu => ?_) (fun i hi' => ?_)
      · rw [tab_length] at hu
        rw [at0_tab hu, HL.out]
      · rw [tab_length] at hi'
        exact at0_tab (by omega)
    have hko := okay_burst hk
    have hkr := hk.r
    have HIB := Lib.hid hib; have HTB := Lib.hid htb; have HFIT := Lib.hid hfit; have HKO := Lib.hid hko
    obtain ⟨kb, kt, kr⟩ := k
    unfold bkV at hcon ⊢
    dsimp only at hcon hbu hkr ⊢
    have HCO := Lib.hid hcon; have HBU := Lib.hid hbu
    clear hcon hbu hib htb hfit hko hk hf hi
    go_enter Tryd.func8, Tryd.ntmps8
    go_wp2_with fail
    have hb0 : Below w.heap.size w (w.alloc (.cells #[.int .i64 kb, .int .i64 kt, .int .i64 kr] 32)) := (Below.refl _ w).alloc (Nat.le_refl _) _
    have hk0 : Blk (w.alloc (.cells #[.int .i64 kb, .int .i64 kt, .int .i64 kr] 32)) w.heap.size 32 #[.int .i64 kb, .int .i64 kt, .int .i64 kr] := Blk.new _ _ _
    refine (HCO.out _ (hr.over hb0 (Nat.le_refl _)) (HG.out.below hb0)).mono ?_
    rintro e w1 ⟨A1, c1, rfl, hb1, hx⟩
    have HK1 := Lib.hid (hk0.below hb1 hk0.lt)
    have HB1 := Lib.hid (hb0.trans (hb1.mono hb0.size))
    have HX := Lib.hid hx
    clear hb0 hk0 hb1 hx
    go_wp2_with fail
    refine (poured_any w1).mono ?_
    rintro e w2 ⟨rfl, hb2⟩
    have HK2 := Lib.hid (HK1.out.below hb2 HK1.out.lt)
    have HB2 := Lib.hid (HB1.out.trans (hb2.mono HB1.out.size))
    have HX2 := Lib.hid (HX.out.over hb2 (Nat.le_refl _))
    clear hb2 HK1 HB1 HX
    go_wp2_with fail
    refine (curved_any w2).mono ?_
    rintro e w3 ⟨rfl, hb3⟩
    have HK3 := Lib.hid (HK2.out.below hb3 HK2.out.lt)
    have HB3 := Lib.hid (HB2.out.trans (hb3.mono HB2.out.size))
    have HX3 := Lib.hid (HX2.out.over hb3 (Nat.le_refl _))
    have HR3 := Lib.hid (hr.over HB3.out (Nat.le_refl _))
    clear hb3 HK2 HB2 HX2
    have hz : Blk (w3.alloc (.cells Tryd.zeroCells48 48)) w3.heap.size 48 (ticksOf ⟨kb, kt, kr⟩ l 0) := by
      rw [ticksOf_zero, ← Tryd.zeros120]; exact Blk.new _ _ _
    have HZ := Lib.hid hz; clear hz
    go_wp2_with fail
    go_loopw [8, 9] (fun mo i wr => ∃ j m : Nat, j ≤ n ∧ i = .int .i64 j ∧ mo = .int .i64 m ∧ m ≤ 119 ∧ Blk wr w3.heap.size 48 (ticksOf ⟨kb, kt, kr⟩ l j) ∧ Below w3.heap.size w3 wr) (fun _ i _ => n - (intOf i).toNat)
    case atStart => exact ⟨0, 0, Nat.zero_le _, rfl, rfl, by omega, HZ.out, (Below.refl _ w3).alloc (Nat.le_refl _) _⟩
    case round =>
      clear HZ
      obtain ⟨j, m, hj, rfl, rfl, hm, hbk, hb⟩ := hrel
      have HBK := Lib.hid hbk; have HB := Lib.hid hb
      clear hbk hb
      by_cases hlt : j < n
      · obtain ⟨b, off, rfl, hbB⟩ := hr.addr hlt
        obtain ⟨c0, c1', c2, c3, c4⟩ := (HR3.out.over HB.out (Nat.le_refl _)).cells hlt
        obtain ⟨b1, o1, rfl, _, k1⟩ := (HX3.out.over HB.out (Nat.le_refl _)).get hlt
        obtain ⟨i0, i1, i2⟩ := HIB.out j hlt
        have hts := fun u => tick_succ ⟨kb, kt, kr⟩ l j u
        have HTS := Lib.hid hts; clear hts
        have hb3 : b < w3.heap.size := Nat.lt_of_lt_of_le hbB HB3.out.size
        generalize hcf : conf ⟨kb, kt, kr⟩ l j = cf at *
        generalize hta : (ix l j).at_ = ta at *
        generalize htn : (ix l j).len = tn at *
        have HTN := Lib.hid htn; have HTA := Lib.hid hta; have HCF := Lib.hid hcf
        clear htn hta hcf
        have j1 : (j : Int) < (n : Int) := by omega
        cases cf
        · have hsame := ticksOf_same ⟨kb, kt, kr⟩ l j (fun u hu => by rw [HTS.out u, if_neg (by rintro ⟨h, _⟩; cases h)]; omega)
          have HSA := Lib.hid hsame; clear hsame
          go_wp2_with fail
          go_roundw
          case rel => exact ⟨j + 1, m, by omega, by go_num, rfl, hm, by rw [HSA.out]; exact HBK.out, HB.out⟩
          case measure => simp [intOf]; omega
        · by_cases h120 : ta < 120
          · obtain ⟨a, rfl⟩ : ∃ a : Nat, ta = a := ⟨ta.toNat, by omega⟩
            have ha : a < 120 := by omega
            have q0 : wr.cell? ⟨w3.heap.size, a, none⟩ = some (.int .i64 (tick ⟨kb, kt, kr⟩ l j a)) := (HBK.out.cell a).trans (ticksOf_get _ _ _ _ ha)
            have q1 : wr.frozen? ⟨w3.heap.size, a, none⟩ = false := HBK.out.frozen a
            obtain ⟨t0, t1⟩ := HTB.out j hj a
            try dsimp only at t1
            have hset := ticksOf_set ⟨kb, kt, kr⟩ l j a (tick ⟨kb, kt, kr⟩ l j a + tn) ha (fun u hu => by
              rw [HTS.out u]
              by_cases e : u = a
              · subst e; rw [if_pos ⟨rfl, rfl⟩, if_pos rfl]
              · rw [if_neg (fun h => e (by have := h.2; omega)), if_neg e]; omega)
            have HSE := Lib.hid hset; clear hset
            generalize tick ⟨kb, kt, kr⟩ l j a = C at *
            have e1 : IntKind.i64.wrap (C + tn) = C + tn := IntWalk.i64_in _ (by omega)
            have a0 : (0 : Int) ≤ (a : Int) := by omega
            have a1 : (a : Int) < 120 := by omega
            go_upto_region 10 with fail
            go_still_tail 14, (by kernel_rfl)
            change wpList _ _ _ _ _ wr.drew
            go_upto_region 11 with fail
            have hbk5 : Blk (wr.setCell ⟨w3.heap.size, a, none⟩ (.int .i64 (C + tn))).drew w3.heap.size 48 (ticksOf ⟨kb, kt, kr⟩ l (j + 1)) := by
              rw [← HSE.out]; exact Blk.drew (Blk.set_ HBK.out a _)
            have hb5 : Below w3.heap.size w3 (wr.setCell ⟨w3.heap.size, a, none⟩ (.int .i64 (C + tn))).drew := below_drewN (HB.out.setCell (Nat.le_refl _) _) 1
            have z0 : (wr.setCell ⟨w3.heap.size, a, none⟩ (.int .i64 (C + tn))).drew.cell? ⟨b, off + j * 5, none⟩ = some (.int .i64 a) := (World.cell?_setCell_other wr ⟨w3.heap.size, a, none⟩ ⟨b, off + j * 5, none⟩ _ (fun e => by injection e with e; omega)).trans c0
            clear c0 c1' c2 c3 c4 k1 q0 q1
            generalize (wr.setCell ⟨w3.heap.size, a, none⟩ (.int .i64 (C + tn))).drew = w5 at *
            go_wp2_with fail
            go_roundw
            case rel =>
              refine ⟨j + 1, max m a, by omega, by go_num, ?_, by omega, hbk5, hb5⟩
              congr 1; split <;> omega
            case measure => simp [intOf]; omega
          · have hsame := ticksOf_same ⟨kb, kt, kr⟩ l j (fun u hu => by rw [HTS.out u, if_neg (by rintro ⟨_, h⟩; omega)]; omega)
            have HSA := Lib.hid hsame; clear hsame
            go_wp2_with fail
            go_roundw
            case rel => exact ⟨j + 1, m, by omega, by go_num, rfl, hm, by rw [HSA.out]; exact HBK.out, HB.out⟩
            case measure => simp [intOf]; omega
      · obtain rfl : j = n := by omega
        have hbk2 := HK3.out.below HB.out HK3.out.lt
        have s0 : wr.cell? ⟨w.heap.size, 0, none⟩ = some (.int .i64 kb) := hbk2.cell 0
        have s1 : wr.cell? ⟨w.heap.size, 1, none⟩ = some (.int .i64 kt) := hbk2.cell 1
        have s2 : wr.cell? ⟨w.heap.size, 2, none⟩ = some (.int .i64 kr) := hbk2.cell 2
        have HBW := Lib.hid (HB3.out.trans (HB.out.mono HB3.out.size))
        clear hbk2
        go_wp2_with fail
        refine (HBU.out _).mono ?_
        rintro e w5 ⟨A5, c5, rfl, hb5, hr5⟩
        rw [tab_length] at hr5 ⊢
        have hrt := rdI_ticks (m := m + 1) (HBK.out.below hb5 HBK.out.lt) (by omega)
        have HRT := Lib.hid hrt; have HR5 := Lib.hid hr5
        have HB5 := Lib.hid (HBW.out.trans (hb5.mono HBW.out.size))
        clear s0 s1 s2 hb5 hrt hr5
        have hsl := slice120 w3.heap.size m hm
        go_wp2_with fail
        refine (fits_yes _ _ (m + 1) 121 _ _ _ _ w5 HRT.out HR5.out HKO.out (by omega) (fun i hi => ?_)).mono ?_
        · rw [at0_tab hi]
          have := HTB.out j (Nat.le_refl _) i
          try dsimp only at this
          omega
        · rintro e w6 ⟨rfl, ⟨_, rfl⟩ | ⟨hbad, _⟩⟩
          · go_wp2_with fail
            go_ret
            exact ⟨rfl, HB5.out⟩
          · exact absurd (HFIT.out (m + 1) (by omega)) hbad
  · have hcon := fun W hW hH => conform_no k A n c l W hW hH hok
    obtain ⟨kb, kt, kr⟩ := k
    unfold bkV at hcon ⊢
    dsimp only at hcon ⊢
    have HCO := Lib.hid hcon
    clear hcon hok
    go_enter Tryd.func8, Tryd.ntmps8
    go_wp2_with fail
    have hb0 : Below w.heap.size w (w.alloc (.cells #[.int .i64 kb, .int .i64 kt, .int .i64 kr] 32)) := (Below.refl _ w).alloc (Nat.le_refl _) _
    refine (HCO.out _ (hr.over hb0 (Nat.le_refl _)) (HG.out.below hb0)).mono ?_
    rintro e w1 ⟨T, v, rfl, hb1⟩
    have HB1 := Lib.hid (hb0.trans (hb1.mono hb0.size)); clear hb0 hb1
    go_wp2_with fail
    refine (poured_any w1).mono ?_
    rintro e w2 ⟨rfl, hb2⟩
    have HB2 := Lib.hid (HB1.out.trans (hb2.mono HB1.out.size)); clear hb2 HB1
    go_wp2_with fail
    refine (curved_any w2).mono ?_
    rintro e w3 ⟨rfl, hb3⟩
    have HB3 := Lib.hid (HB2.out.trans (hb3.mono HB2.out.size)); clear hb3 HB2
    go_wp2_with fail
    refine (poured_any w3).mono ?_
    rintro e w4 ⟨rfl, hb4⟩
    have HB4 := Lib.hid (HB3.out.trans (hb4.mono HB3.out.size)); clear hb4 HB3
    go_wp2_with fail
    refine (curved_any w4).mono ?_
    rintro e w5 ⟨rfl, hb5⟩
    go_wp2_with fail
    go_ret
    exact ⟨rfl, HB4.out.trans (hb5.mono HB4.out.size)⟩
end Go.Proofs.YtdhojhgmaodifaaDoor
