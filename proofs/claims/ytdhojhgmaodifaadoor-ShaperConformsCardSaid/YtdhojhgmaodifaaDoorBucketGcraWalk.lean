/-
  The walk of the law BucketGcra: it returns true, and leaves all that was there. The condition: errors.errorType holds the handle of the type error.
-/
import Derived.Test.YtdhojhgmaodifaaDoorCells
namespace Go.Proofs.YtdhojhgmaodifaaDoor
open Go.RowKit Bkt
set_option linter.unusedVariables false

set_option maxHeartbeats 1000000 in
theorem poured_any (w : World) : Calls Tryd.prog 18 #[] w fun e w' => e = .returned (.bool true) ∧ Below w.heap.size w w' := by
  have hk : BkOk ⟨1, 1, 10⟩ := ⟨by decide, by decide, by decide⟩
  have hnew := new_yes ⟨1, 1, 10⟩ w hk
  unfold bkV at hnew
  dsimp only at hnew
  have HNW := Lib.hid hnew; have HK := Lib.hid hk
  clear hnew hk
  go_enter Tryd.func18, Tryd.ntmps18
  go_wp2_with fail
  refine (HNW.out).mono ?_
  rintro e w1 ⟨g, hgB, rfl, hb1, hst⟩
  have HS := Lib.hid hst; clear hst
  have grow : ∀ (a b : World), w.heap.size ≤ a.heap.size → Below w.heap.size w a → a.grownBy b (some g) → Below w.heap.size w b := fun _ _ ha hb hg => hb.grown hg ha (fun q hq => by injection hq with hq; omega)
  have HGR := Lib.hid grow; clear grow
  go_wp2_with fail
  refine (take_any ⟨1, 1, 10⟩ (Bkt.start ⟨1, 1, 10⟩) g 0 8 w1 HK.out HS.out (by decide) (by decide) (by decide) (by decide) (by decide) (by decide) (by decide)).mono ?_
  rintro e w2 ⟨rfl, hg2, hst2⟩
  have hb2 := HGR.out _ _ hb1.size hb1 hg2
  rw [show okB ⟨1, 1, 10⟩ (Bkt.start ⟨1, 1, 10⟩) 0 8 = true from by decide]
  have HS2 := Lib.hid hst2; clear hst2 hg2 hb1
  go_wp2_with fail
  refine (take_any ⟨1, 1, 10⟩ (Bkt.take ⟨1, 1, 10⟩ (Bkt.start ⟨1, 1, 10⟩) 0 8) g 0 3 w2 HK.out HS2.out (by decide) (by decide) (by decide) (by decide) (by decide) (by decide) (by decide)).mono ?_
  rintro e w3 ⟨rfl, hg3, hst3⟩
  have hb3 := HGR.out _ _ hb2.size hb2 hg3
  rw [show okB ⟨1, 1, 10⟩ (Bkt.take ⟨1, 1, 10⟩ (Bkt.start ⟨1, 1, 10⟩) 0 8) 0 3 = false from by decide]
  have HS3 := Lib.hid hst3; clear hst3 hg3 hb2
  go_wp2_with fail
  refine (take_any ⟨1, 1, 10⟩ (Bkt.take ⟨1, 1, 10⟩ (Bkt.take ⟨1, 1, 10⟩ (Bkt.start ⟨1, 1, 10⟩) 0 8) 0 3) g 1 3 w3 HK.out HS3.out (by decide) (by decide) (by decide) (by decide) (by decide) (by decide) (by decide)).mono ?_
  rintro e w4 ⟨rfl, hg4, hst4⟩
  have hb4 := HGR.out _ _ hb3.size hb3 hg4
  rw [show okB ⟨1, 1, 10⟩ (Bkt.take ⟨1, 1, 10⟩ (Bkt.take ⟨1, 1, 10⟩ (Bkt.start ⟨1, 1, 10⟩) 0 8) 0 3) 1 3 = true from by decide]
  clear hst4 hg4 hb3
  go_wp2_with fail
  go_ret
  exact ⟨rfl, hb4⟩

theorem RdB.get {w : World} {B n : Nat} {A : Option Addr} {f : Nat → Bool} (h : RdB w B A n f) {k : Nat} (hk : k < n) : ∃ b off, A = some ⟨b, off, none⟩ ∧ b < B ∧ w.cell? ⟨b, off + k, none⟩ = some (.bool (f k)) := by
  have get : ∀ i, i < n → (boolsOf f n)[i]? = some (.bool (f i)) := fun i hi => by simp [boolsOf, hi]
  obtain ⟨ad, e, hb, hc⟩ := h.2 (by omega)
  have h0 := hc 0 _ (get 0 (by omega))
  obtain ⟨b, off, spot⟩ := ad
  have hs : spot = none := by simpa [Addr.add] using World.cell?_spot h0
  subst hs
  have hk' := hc k _ (get k hk)
  refine ⟨b, off, e, hb, ?_⟩
  unfold Addr.add at hk'
  split at hk'
  · rename_i e0; rw [show off + k = off from by omega]; exact hk'
  · exact hk'
theorem RdB.over {w w' : World} {B n : Nat} {A : Option Addr} {f : Nat → Bool} (h : RdB w B A n f) (hb : Below w.heap.size w w') (hB : B ≤ w.heap.size) : RdB w' w'.heap.size A n f :=
  Reads.more (Reads.below (Reads.more h hB) hb) hb.size

set_option maxHeartbeats 2000000 in
set_option maxRecDepth 100000 in
theorem bucketGcra_core (k : Bk) (A : Option Addr) (n c : Nat) (l : List It) (w : World) (hr : RdIt w w.heap.size A n l) (hg : Handle w) :
    Calls Tryd.prog 5 #[bkV k, .slice A n c] w fun e w' => e = .returned (.bool true) ∧ Below w.heap.size w w' := by
  have hl := hr.len
  have HL := Lib.hid hl; have HG := Lib.hid hg
  clear hl hg
  by_cases hok : BkOk k ∧ ListFine l
  · obtain ⟨hk, hf⟩ := hok
    have hcon := fun W hW hH => conform_yes k A n c l W hW hH hk hf
    have hcel := fun W hW hH => cells_yes k A n c l W hW hH hk hf
    have hn : n ≤ 100 := by have := hf.1; have := HL.out; omega
    have heq : ∀ j, j < n → conf k l j = cell k l j := fun j hj => gcra hk (itOk_of hf) (by have := HL.out; omega)
    have HEQ := Lib.hid heq
    obtain ⟨kb, kt, kr⟩ := k
    unfold bkV at hcon hcel ⊢
    dsimp only at hcon hcel ⊢
    have HCO := Lib.hid hcon; have HCE := Lib.hid hcel
    clear hcon hcel heq hk hf
    generalize conf ⟨kb, kt, kr⟩ l = f1 at *
    generalize cell ⟨kb, kt, kr⟩ l = f2 at *
    go_enter Tryd.func5, Tryd.ntmps5
    go_wp2_with fail
    have hb0 : Below w.heap.size w (w.alloc (.cells #[.int .i64 kb, .int .i64 kt, .int .i64 kr] 32)) := (Below.refl _ w).alloc (Nat.le_refl _) _
    refine (HCO.out _ (hr.over hb0 (Nat.le_refl _)) (HG.out.below hb0)).mono ?_
    rintro e w1 ⟨A1, c1, rfl, hb1, hx⟩
    have s0 : w1.cell? ⟨w.heap.size, 0, none⟩ = some (.int .i64 kb) := (hb1.cell (p := ⟨w.heap.size, 0, none⟩) (by simp)).trans (by simp)
    have s1 : w1.cell? ⟨w.heap.size, 1, none⟩ = some (.int .i64 kt) := (hb1.cell (p := ⟨w.heap.size, 1, none⟩) (by simp)).trans (by simp)
    have s2 : w1.cell? ⟨w.heap.size, 2, none⟩ = some (.int .i64 kr) := (hb1.cell (p := ⟨w.heap.size, 2, none⟩) (by simp)).trans (by simp)
    have hbw := hb0.trans (hb1.mono (by simp))
    clear hb0 hb1
    go_wp2_with fail
    refine (HCE.out _ (hr.over hbw (Nat.le_refl _)) (HG.out.below hbw)).mono ?_
    rintro e w2 ⟨A2, c2, rfl, hb2, hy⟩
    clear s0 s1 s2
    replace hx := hx.over hb2 (Nat.le_refl _)
    replace hbw := hbw.trans (hb2.mono hbw.size); clear hb2
    go_wp2_with fail
    refine (poured_any w2).mono ?_
    rintro e w3 ⟨rfl, hb3⟩
    replace hx := hx.over hb3 (Nat.le_refl _); replace hy := hy.over hb3 (Nat.le_refl _)
    replace hbw := hbw.trans (hb3.mono hbw.size); clear hb3
    go_wp2_with fail
    go_loopw [9] (fun i wr => ∃ j q : Nat, j ≤ n ∧ i = .int .i64 j ∧ wr = w3.drewN q) (fun i _ => n - (intOf i).toNat)
    case atStart => exact ⟨0, 0, Nat.zero_le _, rfl, rfl⟩
    case round =>
      obtain ⟨j, q, hj, rfl, rfl⟩ := hrel
      by_cases hlt : j < n
      · obtain ⟨b1, o1, rfl, _, k1⟩ := hx.get hlt
        obtain ⟨b2, o2, rfl, _, k2⟩ := hy.get hlt
        have e := HEQ.out j hlt
        rw [← e] at k2
        clear e
        generalize f1 j = v at *
        have i1 : (j : Int) < (n : Int) := by omega
        go_wp2_with fail
        go_quiet (fail)
        go_wp2_with fail
        go_roundw
        case rel => exact ⟨j + 1, _, by omega, by go_num, rfl⟩
        case measure => simp [intOf]; omega
      · obtain rfl : j = n := by omega
        go_wp2_with fail
        go_ret
        exact ⟨rfl, hbw.trans (⟨rfl, rfl, rfl, Nat.le_refl _, fun _ _ => rfl⟩ : Below w.heap.size w3 (w3.drewN q))⟩
  · have hcon := fun W hW hH => conform_no k A n c l W hW hH hok
    have hcel := fun W hW hH => cells_no k A n c l W hW hH hok
    obtain ⟨kb, kt, kr⟩ := k
    unfold bkV at hcon hcel ⊢
    dsimp only at hcon hcel ⊢
    have HCO := Lib.hid hcon; have HCE := Lib.hid hcel
    clear hcon hcel hok
    go_enter Tryd.func5, Tryd.ntmps5
    go_wp2_with fail
    have hb0 : Below w.heap.size w (w.alloc (.cells #[.int .i64 kb, .int .i64 kt, .int .i64 kr] 32)) := (Below.refl _ w).alloc (Nat.le_refl _) _
    refine (HCO.out _ (hr.over hb0 (Nat.le_refl _)) (HG.out.below hb0)).mono ?_
    rintro e w1 ⟨T1, v1, rfl, hb1⟩
    have s0 : w1.cell? ⟨w.heap.size, 0, none⟩ = some (.int .i64 kb) := (hb1.cell (p := ⟨w.heap.size, 0, none⟩) (by simp)).trans (by simp)
    have s1 : w1.cell? ⟨w.heap.size, 1, none⟩ = some (.int .i64 kt) := (hb1.cell (p := ⟨w.heap.size, 1, none⟩) (by simp)).trans (by simp)
    have s2 : w1.cell? ⟨w.heap.size, 2, none⟩ = some (.int .i64 kr) := (hb1.cell (p := ⟨w.heap.size, 2, none⟩) (by simp)).trans (by simp)
    have hbw := hb0.trans (hb1.mono (by simp))
    clear hb0 hb1
    go_wp2_with fail
    refine (HCE.out _ (hr.over hbw (Nat.le_refl _)) (HG.out.below hbw)).mono ?_
    rintro e w2 ⟨T2, v2, rfl, hb2⟩
    clear s0 s1 s2
    replace hbw := hbw.trans (hb2.mono hbw.size); clear hb2
    go_wp2_with fail
    refine (poured_any w2).mono ?_
    rintro e w3 ⟨rfl, hb3⟩
    replace hbw := hbw.trans (hb3.mono hbw.size); clear hb3
    go_wp2_with fail
    refine (poured_any w3).mono ?_
    rintro e w4 ⟨rfl, hb4⟩
    go_wp2_with fail
    go_ret
    exact ⟨rfl, hbw.trans (hb4.mono hbw.size)⟩
end Go.Proofs.YtdhojhgmaodifaaDoor
