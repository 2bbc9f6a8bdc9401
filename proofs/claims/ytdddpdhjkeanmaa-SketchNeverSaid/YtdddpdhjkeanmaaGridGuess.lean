/-
  The grid: Guess.
-/
import Derived.Test.YtdddpdhjkeanmaaGridAdd
namespace Go.Proofs.Ytdddpdhjkeanmaa
open Go.RowKit
set_option linter.unusedVariables false
theorem drewN_two (w : World) (a b : Nat) : (w.drewN a).drewN b = w.drewN (a + b) := by simp [World.drewN, Nat.add_assoc]
theorem gridV_at (cells : Nat) (L : List Int) (key : Int) (r hh : Nat) (hh2 : hh < cells) (he : hashF cells r key = hh) : gridV cells L (r * cells + hh) = Pl.cntBy (hashF cells r) L (hashF cells r key) := by
  unfold gridV
  rw [(idx_div hh2).1, (idx_div hh2).2, he]
set_option maxHeartbeats 4000000 in
set_option maxRecDepth 100000 in
theorem guess_any (g ga rows cells : Nat) (L : List Int) (key : Int) (w : World) (h : GridM w g ga rows cells (gridV cells L)) :
    Calls Try.prog 12 #[.pointer (some ⟨g, 0, none⟩), .int .i64 key] w fun e w' => e = .returned (.int .i64 (Pl.gTo (hashF cells) L key rows)) ∧ ∃ m, w' = w.drewN m := by
  have hm := mul_bd h.r h.c
  have hr := h.r; have hc := h.c
  have c0 := h.blk.cell 0
  simp at c0
  have H0 := Lib.hid h
  clear h
  go_enter Try.func12, Try.ntmps12
  go_wp2_with fail
  go_loopw [5, 6, 7, 14] (fun best _ _ i wr => ∃ (r q : Nat), r ≤ rows ∧ i = .int .i64 r ∧ best = .int .i64 (Pl.gTo (hashF cells) L key r) ∧ Hid (wr = w.drewN q)) (fun _ _ _ i _ => rows - (intOf i).toNat)
  case atStart => exact ⟨0, 0, Nat.zero_le _, rfl, rfl, Lib.hid rfl⟩
  case round =>
    obtain ⟨r, q, hrr, rfl, rfl, HQ⟩ := hrel
    by_cases hlt : r < rows
    · have ir : (r : Int) < (rows : Int) := by omega
      have hg : GridM wr g ga rows cells (gridV cells L) := by rw [HQ.out]; exact ⟨H0.out.blk, H0.out.arr, H0.out.ne, H0.out.r, H0.out.c⟩
      have hcell := fun W hW => cell_any g rows cells (.slice (some ⟨ga, 0, none⟩) (rows * cells) (rows * cells)) r key W hW hlt hc hr.2
      obtain ⟨hb1, hb2⟩ := hash_bd cells r key hc
      obtain ⟨hh, hhe⟩ : ∃ hh : Nat, hashF cells r key = hh := ⟨(hashF cells r key).toNat, by omega⟩
      have hhl : hh < cells := by omega
      clear hb1 hb2
      have hj : r * cells + hh < rows * cells := by
        have := Nat.mul_le_mul_right cells (show r + 1 ≤ rows from hlt)
        rw [Nat.add_mul, Nat.one_mul] at this
        omega
      have hat := gridV_at cells L key r hh hhl hhe
      rw [hhe] at hcell
      have c0 := hg.blk.cell 0; have c1 := hg.blk.cell 1; have c2 := hg.blk.cell 2
      simp at c0 c1 c2
      have a0 := hg.arr.cell hj
      rw [hat] at a0
      have hcw : ∀ q, Calls Try.prog 15 #[.pointer (some ⟨g, 0, none⟩), .int .i64 r, .int .i64 key] (wr.drewN q) fun e w' => e = .returned (.int .i64 (hh : Int)) ∧ w' = wr.drewN q := fun q => hcell (wr.drewN q) hg.blk
      have HC := Lib.hid hcw
      have hle : r * cells + hh ≤ 1000000 := Nat.le_trans (Nat.le_of_lt hj) (Nat.le_trans hm (by decide))
      have ev1 := wrap_mul_nat r cells (Nat.le_trans (Nat.le_add_right _ _) hle)
      have ev2 := wrap_add_nat (r * cells) hh hle
      rw [← IntWalk.i64_left] at ev1 ev2
      have hnext : Pl.gTo (hashF cells) L key (r + 1) = if Pl.gTo (hashF cells) L key r < 0 ∨ Pl.cntBy (hashF cells r) L (hashF cells r key) < Pl.gTo (hashF cells) L key r then Pl.cntBy (hashF cells r) L (hashF cells r key) else Pl.gTo (hashF cells) L key r := rfl
      have HNX := Lib.hid hnext
      clear hg hcell hhe hat hcw hle hnext
      generalize Pl.cntBy (hashF cells r) L (hashF cells r key) = v at *
      generalize Pl.gTo (hashF cells) L key r = bst at *
      generalize hrc : r * cells = rc at *
      generalize hm2 : rows * cells = m at *
      generalize hjj : rc + hh = j at *
      have ij : (j : Int) < (m : Int) := by omega
      clear hjj
      go_upto_region 7 with fail
      go_quiet ((go_at_call 15; exact Calls.quiet_of_same (HC.out _)))
      by_cases hb0 : bst < 0
      · have d0 : decide (bst < 0) = true := decide_eq_true hb0
        have hn : Pl.gTo (hashF cells) L key (r + 1) = v := by rw [HNX.out, if_pos (.inl hb0)]
        have HN := Lib.hid hn
        clear hn hb0
        go_wp2_with fail
        exact ⟨⟨r + 1, q + nq, by omega, by go_num, by rw [HN.out], Lib.hid (by rw [HQ.out, drewN_two])⟩, by simp [intOf]; omega⟩
      · have d0 : decide (bst < 0) = false := decide_eq_false hb0
        by_cases hb1 : v < bst
        · have d1 : decide (v < bst) = true := decide_eq_true hb1
          have hn : Pl.gTo (hashF cells) L key (r + 1) = v := by rw [HNX.out, if_pos (.inr hb1)]
          have HN := Lib.hid hn
          clear hn hb0 hb1
          go_wp2_with fail
          exact ⟨⟨r + 1, q + nq, by omega, by go_num, by rw [HN.out], Lib.hid (by rw [HQ.out, drewN_two])⟩, by simp [intOf]; omega⟩
        · have d1 : decide (v < bst) = false := decide_eq_false hb1
          have hn : Pl.gTo (hashF cells) L key (r + 1) = bst := by rw [HNX.out, if_neg (fun x => by rcases x with x | x; exact hb0 x; exact hb1 x)]
          have HN := Lib.hid hn
          clear hn hb0 hb1
          go_wp2_with fail
          exact ⟨⟨r + 1, q + nq, by omega, by go_num, by rw [HN.out], Lib.hid (by rw [HQ.out, drewN_two])⟩, by simp [intOf]; omega⟩
    · obtain rfl : r = rows := by omega
      go_wp2_with fail
      go_ret
      exact ⟨rfl, q, HQ.out⟩
end Go.Proofs.Ytdddpdhjkeanmaa
