/-
  QueueKeeps: the whole walk.
-/
import Derived.Test.YthhgbpbaihgogaaFirst
namespace Go.Proofs.Ythhgbpbaihgogaa
open Go.RowKit Bkt
set_option linter.unusedVariables false

set_option maxHeartbeats 1000000 in
set_option maxRecDepth 100000 in
theorem queueKeeps_many (A : Option Addr) (n c : Nat) (pk rm : Int) (hd : Bool) (W : World) (hn : n ≤ 9223372036854775807) (h : 120 < n) :
    Calls Try.prog 3 #[.int .i64 pk, .int .i64 rm, .bool hd, .slice A n c] W fun e w' => e = .returned (.bool true) ∧ Below W.heap.size W w' := by
  go_enter Try.func3, Try.ntmps3
  go_wp2_with fail
  go_ret
  exact ⟨rfl, Below.refl _ _⟩

set_option maxHeartbeats 1000000 in
set_option maxRecDepth 100000 in
theorem queueKeeps_no (A : Option Addr) (n c : Nat) (pk rm : Int) (hd : Bool) (W : World) (h : n ≤ 120) (hp : pk < 0 ∨ 1000000 < pk ∨ rm < 0 ∨ 1000000 < rm) :
    Calls Try.prog 3 #[.int .i64 pk, .int .i64 rm, .bool hd, .slice A n c] W fun e w' => e = .returned (.bool true) ∧ Below W.heap.size W w' := by
  have hn := newFifo_no pk rm hd W hp
  have HN := Lib.hid hn
  clear hn hp
  go_enter Try.func3, Try.ntmps3
  go_wp2_with (go_at_call 10; (with_reducible refine HN.out.mono ?_); rintro e w1 ⟨⟨k, rfl⟩, rfl⟩)
  (with_reducible refine (first_yes _).mono ?_)
  rintro e w2 ⟨rfl, hb2⟩
  have HB2 := Lib.hid hb2
  clear hb2
  go_wp2_with fail
  (with_reducible refine (first_yes _).mono ?_)
  rintro e w3 ⟨rfl, hb3⟩
  have HB3 := Lib.hid hb3
  clear hb3
  go_wp2_with fail
  go_ret
  exact ⟨rfl, bl_next HB2.out HB3.out⟩

set_option maxHeartbeats 2000000 in
set_option maxRecDepth 100000 in
theorem queueKeeps_yes (A : Option Addr) (n c : Nat) (l : List Pl.Stp) (p : Pl.FP) (W : World) (hr : RdR StR W W.heap.size A n l) (h : n ≤ 120) (hp : Pl.FOk p) :
    Calls Try.prog 3 #[.int .i64 p.packets, .int .i64 p.room, .bool p.head, .slice A n c] W fun e w' => e = .returned (.bool true) ∧ Below W.heap.size W w' := by
  have hnf := newFifo_yes p W hp
  have hll := hr.len
  have htl := Pl.timesTo_len l n (by omega)
  have hok := Pl.times_ok l
  rw [hll] at hok
  have hpl := Pl.fifo_play hp (Pl.timesTo l n) hok n (by omega)
  have HN := Lib.hid hnf; have HP := Lib.hid hp; have HTL := Lib.hid htl; have HPL := Lib.hid hpl.2.2
  clear hnf hp htl hok hll hpl
  go_enter Try.func3, Try.ntmps3
  go_wp2_with (go_at_call 10; (with_reducible refine HN.out.mono ?_); rintro e w1 ⟨g, rfl, hg, hb1, hf⟩; have HB1 := Lib.hid hb1; have HF := Lib.hid hf; clear hb1 hf)
  (with_reducible refine (first_yes _).mono ?_)
  rintro e w2 ⟨rfl, hb2⟩
  have hc2 : Chg w1 w2 (fun _ => False) := Chg.of_below hb2
  have hi2 : FInv1 W.heap.size g p [] 0 (fun i => i = g) w2 := (fifo_imp W.heap.size g p HP.out).chg _ _ _ _ _ _ (Ffo.inv HF.out hg) hc2 (fun _ _ h => h)
  have hr2 : RdR StR w2 w2.heap.size A n l := (hr.over HB1.out (Nat.le_refl _)).over hb2 (Nat.le_refl _)
  have hpc := play_seen (fifo_imp W.heap.size g p HP.out) A n c l [] _ w2 hr2 (by omega) hi2
  have HB2 := Lib.hid (bl_next HB1.out hb2); have HR2 := Lib.hid hr2; have HPC := Lib.hid hpc
  clear hc2 hi2 hr2 hpc hb2
  have hg2 : W.heap.size ≤ w2.heap.size := HB2.out.size
  go_wp2_with (go_at_call 12; (with_reducible refine HPC.out.mono ?_); rintro e w3 ⟨As, cs, F', rfl, hs, _, hch, _, _⟩)
  have hbW : Below W.heap.size w2 w3 := hch.below hg2 (fun i hi e => by omega)
  have hr3 : RdR StR w3 w3.heap.size A n l := by
    refine (hr.keep (w' := w3) fun p hp => ?_).more (Nat.le_trans hg2 hch.size)
    exact (hbW.cell hp).trans (HB2.out.cell hp)
  have hk := kept_yes (Pl.fifo_good p false) (s0 := ([] : List Hd)) trivial rfl A n c l As cs w3 hr3 hs (by omega)
  have HK := Lib.hid hk; have HS := Lib.hid hs; have HBW := Lib.hid (HB2.out.trans hbW)
  clear hbW hr3 hk hs hch
  (with_reducible refine HK.out.mono ?_)
  rintro e w4 ⟨rfl, hb4⟩
  have hs4 := HS.out.over hb4 (Nat.le_refl _)
  have HS4 := Lib.hid hs4; have HB4 := Lib.hid (HBW.out.trans (hb4.mono HBW.out.size))
  clear hs4 hb4
  generalize Pl.seenAt (Pl.fifoM p) [] (Pl.timesTo l n) = sn at *
  go_wp2_with fail
  go_loop [12, 13] (fun la i => ∃ k : Nat, k ≤ n ∧ i = .int .i64 k ∧ la = .int .i64 (Pl.lastTo sn k)) (fun _ i => n - (intOf i).toNat)
  case atStart => exact ⟨0, Nat.zero_le _, rfl, rfl⟩
  case round =>
    obtain ⟨k, hk, rfl, rfl⟩ := hrel
    by_cases hlt : k < n
    · obtain ⟨b, off, A', c', rfl, hb, y0, y3, y4, y5, yr⟩ := HS4.out.at_ hlt
      obtain ⟨hx1, hx2, hx3⟩ := HPL.out k hlt
      have hnx : Pl.lastTo sn (k + 1) = if 0 ≤ (sn k).taken then (sn k).taken else Pl.lastTo sn k := rfl
      have HNX := Lib.hid hnx
      clear y5 yr hnx
      have ik : (k : Int) < (n : Int) := by omega
      generalize (sn k).taken = tk at *
      generalize (sn k).len = ln at *
      generalize (sn k).bytes = by_ at *
      generalize Pl.lastTo sn k = la at *
      by_cases ht : 0 ≤ tk
      · have hx := hx1 ht
        clear hx1
        go_wp2_with fail
        go_round
        case rel => exact ⟨k + 1, by omega, by go_num, by rw [HNX.out, if_pos ht]⟩
        case measure => simp [intOf]; omega
      · clear hx1
        go_wp2_with fail
        go_round
        case rel => exact ⟨k + 1, by omega, by go_num, by rw [HNX.out, if_neg ht]⟩
        case measure => simp [intOf]; omega
    · obtain rfl : k = n := by omega
      go_wp2_with fail
      go_ret
      exact ⟨rfl, HB4.out⟩

/-- whatever the input -/
theorem queueKeeps_core (pk rm : Int) (hd : Bool) (A : Option Addr) (n c : Nat) (l : List Pl.Stp) (W : World) (hr : RdR StR W W.heap.size A n l) (hn : n ≤ 9223372036854775807) (_ : -9223372036854775808 ≤ pk ∧ pk ≤ 9223372036854775807) (_ : -9223372036854775808 ≤ rm ∧ rm ≤ 9223372036854775807) :
    Calls Try.prog 3 #[.int .i64 pk, .int .i64 rm, .bool hd, .slice A n c] W fun e w' => e = .returned (.bool true) ∧ Below W.heap.size W w' := by
  by_cases h : 120 < n
  · exact queueKeeps_many A n c pk rm hd W hn h
  · by_cases hp : pk < 0 ∨ 1000000 < pk ∨ rm < 0 ∨ 1000000 < rm
    · exact queueKeeps_no A n c pk rm hd W (by omega) hp
    · exact queueKeeps_yes A n c l ⟨pk, rm, hd⟩ W hr (by omega) ⟨by simp only []; omega, by simp only []; omega⟩
end Go.Proofs.Ythhgbpbaihgogaa
