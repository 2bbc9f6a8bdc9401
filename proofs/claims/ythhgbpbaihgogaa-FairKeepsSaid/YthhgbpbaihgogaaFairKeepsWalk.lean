/-
  FairKeeps: the whole walk.
-/
import Derived.Test.YthhgbpbaihgogaaTurns
import Derived.Test.YthhgbpbaihgogaaOrdered
import Derived.Test.YthhgbpbaihgogaaFirst
namespace Go.Proofs.Ythhgbpbaihgogaa
open Go.RowKit Bkt
set_option linter.unusedVariables false

theorem qTo_ok {room : Int} {n : Nat} {zs : List Int} (h : QsOk room n zs) : Pl.QOk (qTo zs n 16) := fun f hf => by
  unfold qTo
  rw [if_pos hf]
  exact h.q _ (by have := h.nn; omega)
set_option maxHeartbeats 1000000 in
set_option maxRecDepth 100000 in
theorem fairKeeps_many (room : Int) (A2 : Option Addr) (n2 c2 : Nat) (A : Option Addr) (n c : Nat) (W : World) (hn : n ≤ 9223372036854775807) (hn2 : n2 ≤ 9223372036854775807) (h : 120 < n ∨ 16 < n2) :
    Calls Try.prog 7 #[.int .i64 room, .slice A2 n2 c2, .slice A n c] W fun e w' => e = .returned (.bool true) ∧ Below W.heap.size W w' := by
  by_cases h1 : 120 < n
  · go_enter Try.func7, Try.ntmps7
    go_wp2_with fail
    go_ret
    exact ⟨rfl, Below.refl _ _⟩
  · have h2 : 16 < n2 := by omega
    go_enter Try.func7, Try.ntmps7
    go_wp2_with fail
    go_ret
    exact ⟨rfl, Below.refl _ _⟩

set_option maxHeartbeats 4000000 in
set_option maxRecDepth 100000 in
theorem fairKeeps_yes (room : Int) (A2 : Option Addr) (n2 c2 : Nat) (zs : List Int) (A : Option Addr) (n c : Nat) (l : List Pl.Stp) (W : World) (hr2 : RdI W W.heap.size A2 n2 zs) (hr : RdR StR W W.heap.size A n l) (h : n ≤ 120) (h2 : n2 ≤ 16) :
    Calls Try.prog 7 #[.int .i64 room, .slice A2 n2 c2, .slice A n c] W fun e w' => e = .returned (.bool true) ∧ Below W.heap.size W w' := by
  have hll := hr.len
  have htl := Pl.timesTo_len l n (by omega)
  have hok := Pl.times_ok l
  rw [hll] at hok
  have HTL := Lib.hid htl; have HOK := Lib.hid hok; have HR := Lib.hid hr; have HR2 := Lib.hid hr2
  clear htl hok hll hr hr2
  go_enter Try.func7, Try.ntmps7
  go_wp2_with fail
  go_loopw [7] (fun i wr => ∃ k : Nat, k ≤ n2 ∧ i = .int .i64 k ∧ wr = W) (fun i _ => n2 - (intOf i).toNat)
  case atStart => exact ⟨0, Nat.zero_le _, rfl, rfl⟩
  case round =>
    obtain ⟨k, hk, rfl, rfl⟩ := hrel
    by_cases hlt : k < n2
    · obtain ⟨b, off, rfl, hb⟩ := HR2.out.addr hlt
      have hc := HR2.out.all rfl k hlt
      have ik : (k : Int) < (n2 : Int) := by omega
      generalize zs.getD k 0 = y at *
      by_cases hy : y < 20
      · go_wp2_with fail
        go_ret
        exact ⟨rfl, Below.refl _ _⟩
      · go_wp2_with fail
        exact ⟨⟨k + 1, by omega, by go_num, by first | rfl | trivial⟩, by simp [intOf]; omega⟩
    · obtain rfl : n2 = k := by omega
      by_cases hq : QsOk room n2 zs
      · have hnew := newRounds_yes room A2 n2 c2 zs wr HR2.out hq
        have hQ := qTo_ok hq
        have HNEW := Lib.hid hnew; have HQ := Lib.hid hQ
        clear hnew hq hQ
        go_wp2_with fail
        (with_reducible refine HNEW.out.mono ?_)
        rintro e w1 ⟨g, cs, rfl, hg, hb1, hd⟩
        have hi := hd.inv0 hg
        have HB1 := Lib.hid hb1; have HI := Lib.hid hi
        clear hb1 hd hi HNEW
        go_wp2_with fail
        (with_reducible refine (turns_yes _).mono ?_)
        rintro e w2 ⟨rfl, hb2⟩
        have hi2 := (rnd_imp wr.heap.size g _ HQ.out room).chg _ _ _ _ _ (fun _ => False) HI.out (Chg.of_below hb2) (fun _ _ h => h)
        have hr2' : RdR StR w2 w2.heap.size A n l := (HR.out.over HB1.out (Nat.le_refl _)).over hb2 (Nat.le_refl _)
        have hpc := play_seen (rnd_imp wr.heap.size g _ HQ.out room) A n c l rs0 _ w2 hr2' (by omega) hi2
        have HB2 := Lib.hid (bl_next HB1.out hb2); have HPC := Lib.hid hpc
        have hg2 : wr.heap.size ≤ w2.heap.size := HB2.out.size
        clear hi2 hr2' hpc hb2
        go_wp2_with (go_at_call 12; (with_reducible refine HPC.out.mono ?_); rintro e w3 ⟨As, cs, F', rfl, hsn, hinv, hch, _, _⟩)
        have hbW : Below wr.heap.size w2 w3 := hch.below hg2 (fun i hi e => by omega)
        have hr3 : RdR StR w3 w3.heap.size A n l := by
          refine (HR.out.keep (w' := w3) fun p hp => ?_).more (Nat.le_trans hg2 hch.size)
          exact (hbW.cell hp).trans (HB2.out.cell hp)
        have hgood := Pl.fair_good (qTo zs n2 16) HQ.out room
        have hk := kept_yes hgood (s0 := rs0) Pl.rs0_ok Pl.waitR_rs0 A n c l As cs w3 hr3 hsn (by omega)
        have hord := (Pl.ord_play hgood (Pl.fair_ord (qTo zs n2 16) HQ.out room) (s0 := rs0) Pl.rs0_ok Pl.waitR_rs0 (fun f => rfl) HOK.out n (by rw [HTL.out]; exact Nat.le_refl _)).2.2
        have HK := Lib.hid hk; have HS := Lib.hid hsn; have HBW := Lib.hid (HB2.out.trans hbW); have HR3 := Lib.hid hr3; have HORD := Lib.hid hord; have HINV := Lib.hid hinv
        clear hbW hr3 hk hsn hch hord hgood hinv
        (with_reducible refine HK.out.mono ?_)
        rintro e w4 ⟨rfl, hb4⟩
        have hs4 := HS.out.over hb4 (Nat.le_refl _)
        have hr4 := HR3.out.over hb4 (Nat.le_refl _)
        have HB4 := Lib.hid (HBW.out.trans (hb4.mono HBW.out.size))
        have ho := ordered_yes A n c l As cs _ w4 hr4 hs4 h HORD.out
        have HO := Lib.hid ho
        obtain ⟨k3, hinv⟩ := HINV.out
        have hi4 := (rnd_imp wr.heap.size g _ HQ.out room).chg _ _ _ _ _ (fun _ => False) hinv (Chg.of_below hb4) (fun _ _ h => h)
        have HI4 := Lib.hid hi4
        clear hs4 hr4 hb4 ho hinv hi4 HINV
        generalize (Pl.nth (Pl.fairM (qTo zs n2 16) room) rs0 (Pl.timesTo l n) n).2 = sf at *
        go_wp2_with (go_at_call 26; (with_reducible refine HO.out.mono ?_); rintro e w5 ⟨rfl, hb5⟩; have HB45 := Lib.hid hb5; have HB5 := Lib.hid (HB4.out.trans (hb5.mono HB4.out.size)); clear hb5)
        have hi5 := (rnd_imp wr.heap.size g _ HQ.out room).chg _ _ _ _ _ (fun _ => False) HI4.out (Chg.of_below HB45.out) (fun _ _ h => h)
        obtain ⟨cs5, V5, tv5, hi5⟩ := hi5
        have hcr := fun f (hf : f < 16) W2 (hb : Below w5.heap.size w5 W2) => rndCredit_any wr.heap.size g cs5 V5 tv5 _ room sf _ _ f W2 (hi5.d.below hb) hf
        have hc0 := hi5.ri.c
        have HCR := Lib.hid hcr; have HC0 := Lib.hid hc0
        clear hcr hc0 hi5
        obtain ⟨wo, rfl⟩ : ∃ wo : World, wo = wr := ⟨_, rfl⟩
        go_loopw [11] (fun i wx => ∃ f : Nat, f ≤ 16 ∧ i = .int .i64 f ∧ Below w5.heap.size w5 wx) (fun i _ => 16 - (intOf i).toNat)
        case atStart => exact ⟨0, by omega, rfl, Below.refl _ _⟩
        case round =>
          obtain ⟨f, hf, rfl, hbx⟩ := hrel
          have HBX := Lib.hid hbx
          clear hbx
          by_cases hlt : f < 16
          · have hc := HCR.out f hlt _ HBX.out
            have hc0 := (HC0.out f hlt).1
            have i1 : (f : Int) < 16 := by omega
            have HC := Lib.hid hc
            clear hc
            generalize sf.C f = y at *
            go_wp2_with (go_at_call 27; (with_reducible refine HC.out.mono ?_); rintro e w' ⟨rfl, q, rfl⟩)
            exact ⟨⟨f + 1, by omega, by go_num, HBX.out.trans ((bl_drewN (Below.refl _ _)).mono HBX.out.size)⟩, by simp [intOf]; omega⟩
          · obtain rfl : f = 16 := by omega
            have hfin := HB5.out.trans (HBX.out.mono HB5.out.size)
            have HFIN := Lib.hid hfin
            clear hfin
            go_wp2_with fail
            go_ret
            exact ⟨rfl, HFIN.out⟩
      · have hnew := newRounds_no room A2 n2 c2 zs wr HR2.out (by omega) hq
        have HNEW := Lib.hid hnew
        clear hnew hq
        go_wp2_with fail
        (with_reducible refine HNEW.out.mono ?_)
        rintro e w1 ⟨⟨ek, rfl⟩, hb1⟩
        have HB1 := Lib.hid hb1
        clear hb1
        go_wp2_with fail
        (with_reducible refine (turns_yes _).mono ?_)
        rintro e w2 ⟨rfl, hb2⟩
        have HB2 := Lib.hid (bl_next HB1.out hb2)
        clear hb2
        go_wp2_with fail
        (with_reducible refine (turns_yes _).mono ?_)
        rintro e w3 ⟨rfl, hb3⟩
        have HB3 := Lib.hid (bl_next HB2.out hb3)
        clear hb3
        go_wp2_with fail
        go_ret
        exact ⟨rfl, HB3.out⟩

/-- whatever the input -/
theorem fairKeeps_core (room : Int) (A2 : Option Addr) (n2 c2 : Nat) (zs : List Int) (A : Option Addr) (n c : Nat) (l : List Pl.Stp) (W : World) (hr2 : RdI W W.heap.size A2 n2 zs) (hn2 : n2 ≤ 9223372036854775807) (hr : RdR StR W W.heap.size A n l) (hn : n ≤ 9223372036854775807) (_ : -9223372036854775808 ≤ room ∧ room ≤ 9223372036854775807) :
    Calls Try.prog 7 #[.int .i64 room, .slice A2 n2 c2, .slice A n c] W fun e w' => e = .returned (.bool true) ∧ Below W.heap.size W w' := by
  by_cases h : 120 < n ∨ 16 < n2
  · exact fairKeeps_many room A2 n2 c2 A n c W hn hn2 h
  · exact fairKeeps_yes room A2 n2 c2 zs A n c l W hr2 hr (by omega) (by omega)
end Go.Proofs.Ythhgbpbaihgogaa
