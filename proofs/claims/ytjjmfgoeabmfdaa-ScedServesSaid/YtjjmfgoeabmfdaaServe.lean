/-
  What curve.Serve computes, where the curve may be and what comes is in its bounds.
-/
import Derived.Test.YtjjmfgoeabmfdaaThen
import Derived.Test.YtjjmfgoeabmfdaaSrvLaw
namespace Go.Proofs.Ytjjmfgoeabmfdaa
open Go.RowKit Crv
set_option linter.unusedVariables false

set_option maxHeartbeats 2000000 in
set_option maxRecDepth 100000 in
theorem serve_yes (A A' : Option Addr) (n n' c c' : Nat) (xs zs : List Int) (w : World) (hr : RdI w w.heap.size A n xs) (hr' : RdI w w.heap.size A' n' zs) (hy : Okay zs) (hn : n ≤ n') (hx : ∀ i, i < n → 0 ≤ at0 xs i ∧ at0 xs i ≤ 1000000) :
    Calls Try.prog 22 #[.slice A n c, .slice A' n' c'] w (CurveOut w (serveL xs zs)) := by
  have hl := hr.len
  have hl' := hr'.len
  have hn2 := hy.len
  have hbd' : ∀ i, i < n' → 0 ≤ at0 zs i ∧ at0 zs i ≤ 1000000000000 := fun i hi => hy.bd (by omega)
  rw [hl'] at hn2
  have HX := Lib.hid hx; have HB' := Lib.hid hbd'; have HL := Lib.hid hl; have HL' := Lib.hid hl'
  clear hx hbd' hl hl'
  have hd : decide (n' < n) = false := by simp; omega
  go_enter Try.func22, Try.ntmps22
  go_wp2_with fail
  refine (check_yes A' n' c' zs w hr' hy).mono ?_
  rintro e w' ⟨rfl, rfl⟩
  clear hy
  go_wp2_with fail
  go_loopw [7, 8, 28] (fun m v i wr => ∃ k : Nat, k ≤ n ∧ i = .int .i64 k ∧ m = .int .i64 (sumTo xs k) ∧ wr.ownsRow w.heap.size 3 1 v k ((tab k (sumTo xs)).map (Value.int .i64)) ∧ Below w.heap.size w wr)
    (fun _ _ i _ => n - (intOf i).toNat)
  case atStart => exact ⟨0, Nat.zero_le _, rfl, rfl, World.ownsRow_nil _ _ _ _, Below.refl _ _⟩
  case round =>
    obtain ⟨k, hk, rfl, rfl, hown, hb⟩ := hrel
    have hsb := sumTo_bd xs 1000000 k fun i hi => HX.out i (by omega)
    have hs1 : 0 ≤ sumTo xs k := hsb.1
    have hs2 : sumTo xs k ≤ 201000000 := by omega
    clear hsb
    by_cases hlt : k < n
    · obtain ⟨b, off, rfl, hbB⟩ := hr.addr hlt
      have c0 : wr.cell? ⟨b, off + k, none⟩ = some (.int .i64 (at0 xs k)) := (hb.cell (p := ⟨b, off + k, none⟩) hbB).trans (hr.all rfl k hlt)
      have hxk := HX.out k hlt
      have HS : Hid (sumTo xs (k + 1) = sumTo xs k + at0 xs k) := rfl
      generalize hy : at0 xs k = x at *
      have HY := Lib.hid hy; clear hy
      go_wp2_with (at_builtin; refine wpList_pushI rfl _ _ _ Try.underlying22 rfl w.heap.size _ k _ (sumTo xs k) hown rfl rfl (by omega) hb.size ?_; intro v' w' hown' hg' hb')
      go_roundw
      case rel =>
        refine ⟨k + 1, by omega, by go_num, by rw [HS.out], ?_, hb.trans hb'⟩
        rw [tab_succ]; exact hown'
      case measure => simp [intOf]; omega
    · obtain rfl : k = n := by omega
      obtain ⟨A1, c1, rfl, hr1⟩ := own_reads hown
      have hby : RdI wr wr.heap.size A1 k (tab k (sumTo xs)) := hr1
      have hr2 : RdI wr wr.heap.size A' n' zs := hr'.over hb (Nat.le_refl _)
      clear hown hr1 hr hr' hs1 hs2
      obtain ⟨w1, rfl⟩ : ∃ w1 : World, w1 = wr := ⟨_, rfl⟩
      go_wp2_with fail
      go_loopw [11, 49] (fun v i wr => ∃ t : Nat, t ≤ k ∧ i = .int .i64 t ∧ wr.ownsRow w1.heap.size 3 1 v t ((tab t (conv (sumTo xs) (at0 zs))).map (Value.int .i64)) ∧ Below w1.heap.size w1 wr)
        (fun _ i _ => k - (intOf i).toNat)
      case atStart => exact ⟨0, Nat.zero_le _, rfl, World.ownsRow_nil _ _ _ _, Below.refl _ _⟩
      case round =>
        obtain ⟨t, ht, rfl, hown, hb1⟩ := hrel
        by_cases hlt : t < k
        · obtain ⟨b, off, rfl, hbB⟩ := hby.addr hlt
          obtain ⟨b', off', rfl, hbB'⟩ := hr2.addr (show 0 < n' by omega)
          have hc : ∀ j, j < k → wr.cell? ⟨b, off + j, none⟩ = some (.int .i64 (sumTo xs j)) := fun j hj => by
            have := (hb1.cell (p := ⟨b, off + j, none⟩) hbB).trans (hby.all rfl j hj)
            rw [show (tab k (sumTo xs)).getD j 0 = sumTo xs j from at0_tab hj] at this
            exact this
          have hc' : ∀ j, j < n' → wr.cell? ⟨b', off' + j, none⟩ = some (.int .i64 (at0 zs j)) := fun j hj => (hb1.cell (p := ⟨b', off' + j, none⟩) hbB').trans (hr2.all rfl j hj)
          have c0 := hc t hlt
          have c1 : wr.cell? ⟨b', off', none⟩ = some (.int .i64 (at0 zs 0)) := by simpa using hc' 0 (by omega)
          have HC := Lib.hid hc; have HC' := Lib.hid hc'; clear hc hc'
          have b1 := HB'.out 0 (by omega)
          have hsb := sumTo_bd xs 1000000 t fun i hi => HX.out i (by omega)
          have b2 : 0 ≤ sumTo xs t ∧ sumTo xs t ≤ 201000000 := by omega
          clear hsb
          have i1 : (t : Int) < (k : Int) := by omega
          have i3 : (0 : Int) < (n' : Int) := by omega
          go_wp2_with fail
          go_quiet (fail)
          go_wp2_with fail
          have HN : Hid (sumTo xs t + at0 zs 0 = srvTo xs zs t 0) := rfl
          clear c0 c1
          obtain ⟨wo, rfl⟩ : ∃ wo : World, wo = wr := ⟨_, rfl⟩
          go_loopw [13, 61] (fun m s wi => ∃ j q : Nat, j ≤ t ∧ s = .int .i64 j ∧ m = .int .i64 (srvTo xs zs t j) ∧ 0 ≤ srvTo xs zs t j ∧ srvTo xs zs t j ≤ 2000000000000 ∧ wi = wo.drewN q)
            (fun _ s _ => t - (intOf s).toNat)
          case atStart => exact ⟨0, _, by omega, rfl, by rw [← HN.out], by rw [← HN.out]; omega, by rw [← HN.out]; omega, rfl⟩
          case round =>
            obtain ⟨j, q, hj2, rfl, rfl, hm0, hm1, rfl⟩ := hrel
            by_cases hjk : j < t
            · have c0 := HC.out j (by omega)
              have c1 := HC'.out (t - j) (by omega)
              have hsb := sumTo_bd xs 1000000 j fun i hi => HX.out i (by omega)
              have b3 : 0 ≤ sumTo xs j ∧ sumTo xs j ≤ 201000000 := by omega
              clear hsb
              have b4 := HB'.out (t - j) (by omega)
              have HS : Hid (srvTo xs zs t (j + 1) = min (srvTo xs zs t j) (sumTo xs j + at0 zs (t - j))) := rfl
              have j1 : (j : Int) < (t : Int) := by omega
              have j2 : (j : Int) < (k : Int) := by omega
              have j3 : ((t : Int) - (j : Int)) < (n' : Int) := by omega
              have j4 : 0 ≤ ((t : Int) - (j : Int)) := by omega
              have j5 : ((t : Int) - (j : Int)).toNat = t - j := by omega
              go_wp2_with fail
              go_quiet (fail)
              go_wp2_with fail
              go_roundw
              case rel =>
                refine ⟨j + 1, _, by omega, by go_num, by rw [HS.out, ite_min], ?_, ?_, rfl⟩
                · rw [HS.out]; omega
                · rw [HS.out]; omega
              case measure => simp [intOf]; omega
            · obtain rfl : j = t := by omega
              have hown2 : (wo.drewN q).ownsRow w1.heap.size 3 1 u11 j ((tab j (conv (sumTo xs) (at0 zs))).map (Value.int .i64)) := hown
              have hbq : Below w1.heap.size w1 (wo.drewN q) := ⟨hb1.os, hb1.tape, hb1.output, hb1.size, hb1.block⟩
              clear hown hb1
              generalize hW : wo.drewN q = W at *
              clear hW
              have HE : Hid (srvTo xs zs j j = conv (sumTo xs) (at0 zs) j) := srvTo_conv xs zs j
              go_wp2_with (at_builtin; refine wpList_pushI rfl _ _ _ Try.underlying22 rfl w1.heap.size _ j _ (srvTo xs zs j j) hown2 rfl rfl (by omega) hbq.size ?_; intro v' w' hown' hg' hb')
              go_roundw
              case rel =>
                refine ⟨j + 1, by omega, by go_num, ?_, hbq.trans hb'⟩
                rw [tab_succ, ← HE.out]; exact hown'
              case measure => simp [intOf]; omega
        · obtain rfl : t = k := by omega
          obtain ⟨A2, c2, rfl, hrd⟩ := own_reads hown
          have hbb : Below w.heap.size w wr := hb.trans (hb1.mono hb.size)
          have e : serveL xs zs = tab t (conv (sumTo xs) (at0 zs)) := by unfold serveL; rw [HL.out]
          have HE := Lib.hid e; clear e
          go_wp2_with fail
          go_ret2
          exact curveOut_mk rfl (by rw [HE.out]; exact tab_length _ _) hbb (by rw [HE.out]; exact hrd)
#print axioms serve_yes
end Go.Proofs.Ytjjmfgoeabmfdaa
