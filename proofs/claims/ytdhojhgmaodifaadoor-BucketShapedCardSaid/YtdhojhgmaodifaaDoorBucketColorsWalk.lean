/-
  The walk of the law BucketColors.
-/
import Derived.Test.YtdhojhgmaodifaaDoorOne
import Derived.Test.YtdhojhgmaodifaaDoorTwo
import Derived.Test.YtdhojhgmaodifaaDoorPick
import Derived.Test.YtdhojhgmaodifaaDoorBucketGcraWalk
namespace Go.Proofs.YtdhojhgmaodifaaDoor
open Go.RowKit Bkt Crv
set_option linter.unusedVariables false

theorem col1_val {k : Bk} {x : Int} {l : List It} {j : Nat} (hk : BkOk k) (hx : 0 ≤ x) (hl : ItOk l) (hj : j < l.length) :
    (conf k l j = true → col1 k x l j = 1) ∧ (conf k l j = false → x = 0 → col1 k x l j = 3) ∧ (conf k l j = false → col1 k x l j = 2 ∨ col1 k x l j = 3) := by
  obtain ⟨h1, h2, _⟩ := c1_step hk hx hl hj (cinv_all hk hx hl j (by omega))
  have h3 : col1 k x l j = 1 ∨ col1 k x l j = 2 ∨ col1 k x l j = 3 := by
    unfold col1 c1Col
    split
    · exact .inl rfl
    · split
      · exact .inr (.inl rfl)
      · exact .inr (.inr rfl)
  refine ⟨h1.2, fun hc hx0 => ?_, fun hc => ?_⟩
  · rcases h3 with h | h | h
    · rw [h1.1 h] at hc; cases hc
    · exact absurd h (h2 hx0)
    · exact h
  · rcases h3 with h | h | h
    · rw [h1.1 h] at hc; cases hc
    · exact .inl h
    · exact .inr h
theorem blk_two (w : World) (c1 c2 : Array Value) (t t' : TypeId) : Blk ((w.alloc (.cells c1 t)).alloc (.cells c2 t')) w.heap.size t c1 ∧ Blk ((w.alloc (.cells c1 t)).alloc (.cells c2 t')) (w.heap.size + 1) t' c2 := by
  refine ⟨(Blk.new w t c1).alloc _, ?_⟩
  have := Blk.new (w.alloc (.cells c1 t)) t' c2
  rwa [show (w.alloc (.cells c1 t)).heap.size = w.heap.size + 1 from by simp] at this
theorem RdI.getT {w : World} {B : Nat} {A : Option Addr} {n : Nat} {f : Nat → Int} (h : RdI w B A n (tab n f)) {k : Nat} (hk : k < n) : ∃ b off, A = some ⟨b, off, none⟩ ∧ b < B ∧ w.cell? ⟨b, off + k, none⟩ = some (.int .i64 (f k)) := by
  obtain ⟨b, off, e, hb, hc⟩ := h.get hk
  rw [show (tab n f).getD k 0 = f k from at0_tab hk] at hc
  exact ⟨b, off, e, hb, hc⟩

set_option maxHeartbeats 4000000 in
set_option maxRecDepth 100000 in
theorem bucketColors_core (k q : Bk) (ex : Int) (A : Option Addr) (n c : Nat) (l : List It) (w : World) (hr : RdIt w w.heap.size A n l) (hg : Handle w) (hex : -9223372036854775808 ≤ ex ∧ ex ≤ 9223372036854775807) :
    Calls Tryd.prog 7 #[bkV k, bkV q, .int .i64 ex, .slice A n c] w fun e w' => e = .returned (.bool true) ∧ Below w.heap.size w w' := by
  have hl := hr.len
  have HL := Lib.hid hl; have HG := Lib.hid hg; have HEX := Lib.hid hex
  clear hl hg hex
  by_cases hok : BkOk k ∧ ListFine l
  · obtain ⟨hk, hf⟩ := hok
    have hcon := fun W hW hH => conform_yes k A n c l W hW hH hk hf
    have hone := fun x W hW hH hx0 hx1 => one_yes k x A n c l W hW hH hk hx0 hx1 hf
    have hn : n ≤ 100 := by have := hf.1; have := HL.out; omega
    have hval := fun x (hx : 0 ≤ x) j (hj : j < n) => col1_val (x := x) (j := j) hk hx (itOk_of hf) (by have := HL.out; omega)
    have hcq := fun W hW hH (hq : BkOk q) => conform_yes q A n c l W hW hH hq hf
    have hcqn := fun W hW hH (hq : ¬ BkOk q) => conform_no q A n c l W hW hH (fun h => hq h.1)
    have htw := fun W hW hH (hq : BkOk q) => two_yes k q A n c l W hW hH hk hq hf
    have htn := fun W (hq : ¬ BkOk q) => two_no k q A n c W hk hq
    have HV := Lib.hid hval
    obtain ⟨kb, kt, kr⟩ := k
    obtain ⟨qb, qt, qr⟩ := q
    unfold bkV at hcon hone hcq hcqn htw htn ⊢
    dsimp only at hcon hone hcq hcqn htw htn ⊢
    have HCO := Lib.hid hcon; have HON := Lib.hid hone; have HCQ := Lib.hid hcq; have HCN := Lib.hid hcqn; have HTW := Lib.hid htw; have HTN := Lib.hid htn
    clear hcon hone hcq hcqn htw htn hval hk hf
    have hbk := blk_two w #[.int .i64 kb, .int .i64 kt, .int .i64 kr] #[.int .i64 qb, .int .i64 qt, .int .i64 qr] 32 32
    have hb0 : Below w.heap.size w ((w.alloc (.cells #[.int .i64 kb, .int .i64 kt, .int .i64 kr] 32)).alloc (.cells #[.int .i64 qb, .int .i64 qt, .int .i64 qr] 32)) := ((Below.refl _ w).alloc (Nat.le_refl _) _).alloc (by simp) _
    have HB0 := Lib.hid hb0; have HBK := Lib.hid hbk; clear hbk hb0
    generalize conf ⟨kb, kt, kr⟩ l = f1 at *
    generalize conf ⟨qb, qt, qr⟩ l = f2 at *
    go_enter Tryd.func7, Tryd.ntmps7
    go_wp2_with fail
    generalize (w.alloc (.cells #[.int .i64 kb, .int .i64 kt, .int .i64 kr] 32)).alloc (.cells #[.int .i64 qb, .int .i64 qt, .int .i64 qr] 32) = w0 at *
    refine (pick_any ex 1000000 w0 (by omega) (by omega) HEX.out.1 HEX.out.2).mono ?_
    rintro e w' ⟨x, hx0, hx1, rfl, rfl⟩
    have s0 : w0.cell? ⟨w.heap.size, 0, none⟩ = some (.int .i64 kb) := HBK.out.1.cell 0
    have s1 : w0.cell? ⟨w.heap.size, 1, none⟩ = some (.int .i64 kt) := HBK.out.1.cell 1
    have s2 : w0.cell? ⟨w.heap.size, 2, none⟩ = some (.int .i64 kr) := HBK.out.1.cell 2
    go_wp2_with fail
    refine (HCO.out _ (hr.over HB0.out (Nat.le_refl _)) (HG.out.below HB0.out)).mono ?_
    rintro e w1 ⟨A1, c1, rfl, hb1, hx⟩
    have HBK1 := Lib.hid (And.intro (Blk.below HBK.out.1 hb1 (Blk.lt HBK.out.1)) (Blk.below HBK.out.2 hb1 (Blk.lt HBK.out.2)))
    have HB1 := Lib.hid (HB0.out.trans (hb1.mono HB0.out.size))
    clear s0 s1 s2 HBK HB0 hb1
    have s0 : w1.cell? ⟨w.heap.size, 0, none⟩ = some (.int .i64 kb) := HBK1.out.1.cell 0
    have s1 : w1.cell? ⟨w.heap.size, 1, none⟩ = some (.int .i64 kt) := HBK1.out.1.cell 1
    have s2 : w1.cell? ⟨w.heap.size, 2, none⟩ = some (.int .i64 kr) := HBK1.out.1.cell 2
    have HX := Lib.hid hx; clear hx
    go_wp2_with fail
    refine (HON.out 0 _ (hr.over HB1.out (Nat.le_refl _)) (HG.out.below HB1.out) (by omega) (by omega)).mono ?_
    rintro e w2 ⟨A2, c2, rfl, hb2, hy⟩
    have HBK2 := Lib.hid (And.intro (Blk.below HBK1.out.1 hb2 (Blk.lt HBK1.out.1)) (Blk.below HBK1.out.2 hb2 (Blk.lt HBK1.out.2)))
    have HB2 := Lib.hid (HB1.out.trans (hb2.mono HB1.out.size))
    have HX2 := Lib.hid (HX.out.over hb2 (Nat.le_refl _))
    have HY := Lib.hid hy
    clear s0 s1 s2 HBK1 HB1 hb2 HX hy
    have s0 : w2.cell? ⟨w.heap.size, 0, none⟩ = some (.int .i64 kb) := HBK2.out.1.cell 0
    have s1 : w2.cell? ⟨w.heap.size, 1, none⟩ = some (.int .i64 kt) := HBK2.out.1.cell 1
    have s2 : w2.cell? ⟨w.heap.size, 2, none⟩ = some (.int .i64 kr) := HBK2.out.1.cell 2
    go_wp2_with fail
    refine (HON.out x _ (hr.over HB2.out (Nat.le_refl _)) (HG.out.below HB2.out) hx0 (by omega)).mono ?_
    rintro e w3 ⟨A3, c3, rfl, hb3, hz⟩
    have HBK3 := Lib.hid (And.intro (Blk.below HBK2.out.1 hb3 (Blk.lt HBK2.out.1)) (Blk.below HBK2.out.2 hb3 (Blk.lt HBK2.out.2)))
    have HB3 := Lib.hid (HB2.out.trans (hb3.mono HB2.out.size))
    have HX3 := Lib.hid (HX2.out.over hb3 (Nat.le_refl _))
    have HY3 := Lib.hid (HY.out.over hb3 (Nat.le_refl _))
    have HZ := Lib.hid hz
    clear s0 s1 s2 HBK2 HB2 hb3 HX2 HY hz
    go_wp2_with fail
    refine (poured_any w3).mono ?_
    rintro e w4 ⟨rfl, hb4⟩
    have HBK4 := Lib.hid (And.intro (Blk.below HBK3.out.1 hb4 (Blk.lt HBK3.out.1)) (Blk.below HBK3.out.2 hb4 (Blk.lt HBK3.out.2)))
    have HB4 := Lib.hid (HB3.out.trans (hb4.mono HB3.out.size))
    have HX4 := Lib.hid (HX3.out.over hb4 (Nat.le_refl _))
    have HY4 := Lib.hid (HY3.out.over hb4 (Nat.le_refl _))
    have HZ4 := Lib.hid (HZ.out.over hb4 (Nat.le_refl _))
    clear HBK3 HB3 hb4 HX3 HY3 HZ
    go_wp2_with fail
    go_loopw [15] (fun i wr => ∃ j q : Nat, j ≤ n ∧ i = .int .i64 j ∧ wr = w4.drewN q) (fun i _ => n - (intOf i).toNat)
    case atStart => exact ⟨0, 0, Nat.zero_le _, rfl, rfl⟩
    case round =>
      obtain ⟨j, p, hj, rfl, rfl⟩ := hrel
      by_cases hlt : j < n
      · obtain ⟨b1, o1, rfl, _, k1⟩ := HX4.out.get hlt
        obtain ⟨b2, o2, rfl, _, k2⟩ := HY4.out.getT hlt
        obtain ⟨b3, o3, rfl, _, k3⟩ := HZ4.out.getT hlt
        obtain ⟨v1, v2, _⟩ := HV.out 0 (by omega) j hlt
        obtain ⟨v3, _, v4⟩ := HV.out x hx0 j hlt
        have i1 : (j : Int) < (n : Int) := by omega
        cases hc : f1 j
        · rw [v2 hc rfl] at k2
          rw [hc] at k1
          have hv4 := v4 hc
          clear v1 v2 v3 v4 hc
          rcases hv4 with h | h
          · rw [h] at k3
            clear h
            go_wp2_with fail
            go_quiet (fail)
            go_wp2_with fail
            go_roundw
            case rel => exact ⟨j + 1, _, by omega, by go_num, rfl⟩
            case measure => simp [intOf]; omega
          · rw [h] at k3
            clear h
            go_wp2_with fail
            go_quiet (fail)
            go_wp2_with fail
            go_roundw
            case rel => exact ⟨j + 1, _, by omega, by go_num, rfl⟩
            case measure => simp [intOf]; omega
        · rw [v1 hc] at k2
          rw [v3 hc] at k3
          rw [hc] at k1
          clear v1 v2 v3 v4 hc
          go_wp2_with fail
          go_quiet (fail)
          go_wp2_with fail
          go_roundw
          case rel => exact ⟨j + 1, _, by omega, by go_num, rfl⟩
          case measure => simp [intOf]; omega
      · obtain rfl : j = n := by omega
        have hbk5 : Blk (w4.drewN p) w.heap.size 32 #[.int .i64 kb, .int .i64 kt, .int .i64 kr] ∧ Blk (w4.drewN p) (w.heap.size + 1) 32 #[.int .i64 qb, .int .i64 qt, .int .i64 qr] := HBK4.out
        have hb5 : Below w.heap.size w (w4.drewN p) := below_drewN HB4.out p
        have HBK5 := Lib.hid hbk5; have HB5 := Lib.hid hb5
        clear hbk5 hb5 HBK4 HB4 HX4 HY4 HZ4
        generalize w4.drewN p = w5 at *
        have s0 : w5.cell? ⟨w.heap.size, 0, none⟩ = some (.int .i64 kb) := HBK5.out.1.cell 0
        have s1 : w5.cell? ⟨w.heap.size, 1, none⟩ = some (.int .i64 kt) := HBK5.out.1.cell 1
        have s2 : w5.cell? ⟨w.heap.size, 2, none⟩ = some (.int .i64 kr) := HBK5.out.1.cell 2
        have t0 : w5.cell? ⟨w.heap.size + 1, 0, none⟩ = some (.int .i64 qb) := HBK5.out.2.cell 0
        have t1 : w5.cell? ⟨w.heap.size + 1, 1, none⟩ = some (.int .i64 qt) := HBK5.out.2.cell 1
        have t2 : w5.cell? ⟨w.heap.size + 1, 2, none⟩ = some (.int .i64 qr) := HBK5.out.2.cell 2
        by_cases hq : BkOk ⟨qb, qt, qr⟩
        · have HQ := Lib.hid hq; clear hq
          go_wp2_with fail
          refine (HTW.out _ (hr.over HB5.out (Nat.le_refl _)) (HG.out.below HB5.out) HQ.out).mono ?_
          rintro e w6 ⟨A6, c6, zs, rfl, hb6, hz6, hred⟩
          have HBK6 := Lib.hid (Blk.below HBK5.out.2 hb6 (Blk.lt HBK5.out.2))
          have HB6 := Lib.hid (HB5.out.trans (hb6.mono HB5.out.size))
          have HZ6 := Lib.hid hz6; have HRD := Lib.hid hred
          clear s0 s1 s2 t0 t1 t2 hb6 hz6 hred HBK5 HB5
          have t0 : w6.cell? ⟨w.heap.size + 1, 0, none⟩ = some (.int .i64 qb) := HBK6.out.cell 0
          have t1 : w6.cell? ⟨w.heap.size + 1, 1, none⟩ = some (.int .i64 qt) := HBK6.out.cell 1
          have t2 : w6.cell? ⟨w.heap.size + 1, 2, none⟩ = some (.int .i64 qr) := HBK6.out.cell 2
          go_wp2_with fail
          refine (HCQ.out _ (hr.over HB6.out (Nat.le_refl _)) (HG.out.below HB6.out) HQ.out).mono ?_
          rintro e w7 ⟨A7, c7, rfl, hb7, hy7⟩
          have HB7 := Lib.hid (HB6.out.trans (hb7.mono HB6.out.size))
          have HZ7 := Lib.hid (HZ6.out.over hb7 (Nat.le_refl _)); have HY7 := Lib.hid hy7
          clear t0 t1 t2 hb7 hy7 HBK6 HB6 HZ6
          go_wp2_with fail
          go_loopw [20] (fun i wr => ∃ i' p : Nat, i' ≤ j ∧ i = .int .i64 i' ∧ wr = w7.drewN p) (fun i _ => j - (intOf i).toNat)
          case atStart => exact ⟨0, 0, Nat.zero_le _, rfl, rfl⟩
          case round =>
            obtain ⟨i, p, hi, rfl, rfl⟩ := hrel
            by_cases hlt : i < j
            · obtain ⟨b1, o1, rfl, _, k1⟩ := HZ7.out.get hlt
              obtain ⟨b2, o2, rfl, _, k2⟩ := HY7.out.get hlt
              have hrd : at0 zs i ≠ 3 ↔ f2 i = true := HRD.out i hlt
              have k1' : w7.cell? ⟨b1, o1 + i, none⟩ = some (.int .i64 (at0 zs i)) := k1
              clear k1
              generalize at0 zs i = z at *
              have i1 : (i : Int) < (j : Int) := by omega
              cases hc : f2 i
              · rw [hc] at k2 hrd
                obtain rfl : z = 3 := by
                  rcases Int.lt_trichotomy z 3 with h | h | h
                  · exact absurd (hrd.1 (by omega)) (by simp)
                  · exact h
                  · exact absurd (hrd.1 (by omega)) (by simp)
                clear hrd hc
                go_wp2_with fail
                go_quiet (fail)
                go_wp2_with fail
                go_roundw
                case rel => exact ⟨i + 1, _, by omega, by go_num, rfl⟩
                case measure => simp [intOf]; omega
              · rw [hc] at k2 hrd
                have hz3 : z ≠ 3 := hrd.2 rfl
                have hz1 : (z == 3) = false := by simpa using hz3
                have hz2 : (z != 3) = true := by simpa using hz3
                clear hrd hc
                go_wp2_with fail
                go_quiet (fail)
                go_wp2_with fail
                go_roundw
                case rel => exact ⟨i + 1, _, by omega, by go_num, rfl⟩
                case measure => simp [intOf]; omega
            · obtain rfl : i = j := by omega
              go_wp2_with fail
              go_ret
              exact ⟨rfl, below_drewN HB7.out p⟩
        · have HQ := Lib.hid hq; clear hq
          go_wp2_with fail
          refine (HTN.out _ HQ.out).mono ?_
          rintro e w6 ⟨T6, v6, rfl, hb6⟩
          have HBK6 := Lib.hid (Blk.below HBK5.out.2 hb6 (Blk.lt HBK5.out.2))
          have HB6 := Lib.hid (HB5.out.trans (hb6.mono HB5.out.size))
          clear s0 s1 s2 t0 t1 t2 hb6 HBK5 HB5
          have t0 : w6.cell? ⟨w.heap.size + 1, 0, none⟩ = some (.int .i64 qb) := HBK6.out.cell 0
          have t1 : w6.cell? ⟨w.heap.size + 1, 1, none⟩ = some (.int .i64 qt) := HBK6.out.cell 1
          have t2 : w6.cell? ⟨w.heap.size + 1, 2, none⟩ = some (.int .i64 qr) := HBK6.out.cell 2
          go_wp2_with fail
          refine (HCN.out _ (hr.over HB6.out (Nat.le_refl _)) (HG.out.below HB6.out) HQ.out).mono ?_
          rintro e w7 ⟨T7, v7, rfl, hb7⟩
          go_wp2_with fail
          go_ret
          exact ⟨rfl, HB6.out.trans (hb7.mono HB6.out.size)⟩
  · have hcon := fun W hW hH => conform_no k A n c l W hW hH hok
    have hone := fun x W hW hH hx0 hx1 => one_no k x A n c l W hW hH hx0 hx1 hok
    obtain ⟨kb, kt, kr⟩ := k
    obtain ⟨qb, qt, qr⟩ := q
    unfold bkV at hcon hone ⊢
    dsimp only at hcon hone ⊢
    have HCO := Lib.hid hcon; have HON := Lib.hid hone
    have hbk := blk_two w #[.int .i64 kb, .int .i64 kt, .int .i64 kr] #[.int .i64 qb, .int .i64 qt, .int .i64 qr] 32 32
    have hb0 : Below w.heap.size w ((w.alloc (.cells #[.int .i64 kb, .int .i64 kt, .int .i64 kr] 32)).alloc (.cells #[.int .i64 qb, .int .i64 qt, .int .i64 qr] 32)) := ((Below.refl _ w).alloc (Nat.le_refl _) _).alloc (by simp) _
    have HB0 := Lib.hid hb0; have HBK := Lib.hid hbk; clear hbk hb0 hcon hone hok
    go_enter Tryd.func7, Tryd.ntmps7
    go_wp2_with fail
    generalize (w.alloc (.cells #[.int .i64 kb, .int .i64 kt, .int .i64 kr] 32)).alloc (.cells #[.int .i64 qb, .int .i64 qt, .int .i64 qr] 32) = w0 at *
    refine (pick_any ex 1000000 w0 (by omega) (by omega) HEX.out.1 HEX.out.2).mono ?_
    rintro e w' ⟨x, hx0, hx1, rfl, rfl⟩
    have s0 : w0.cell? ⟨w.heap.size, 0, none⟩ = some (.int .i64 kb) := HBK.out.1.cell 0
    have s1 : w0.cell? ⟨w.heap.size, 1, none⟩ = some (.int .i64 kt) := HBK.out.1.cell 1
    have s2 : w0.cell? ⟨w.heap.size, 2, none⟩ = some (.int .i64 kr) := HBK.out.1.cell 2
    go_wp2_with fail
    refine (HCO.out _ (hr.over HB0.out (Nat.le_refl _)) (HG.out.below HB0.out)).mono ?_
    rintro e w1 ⟨T1, v1, rfl, hb1⟩
    have HBK1 := Lib.hid (Blk.below HBK.out.1 hb1 (Blk.lt HBK.out.1))
    have HB1 := Lib.hid (HB0.out.trans (hb1.mono HB0.out.size))
    clear s0 s1 s2 HBK HB0 hb1
    have s0 : w1.cell? ⟨w.heap.size, 0, none⟩ = some (.int .i64 kb) := HBK1.out.cell 0
    have s1 : w1.cell? ⟨w.heap.size, 1, none⟩ = some (.int .i64 kt) := HBK1.out.cell 1
    have s2 : w1.cell? ⟨w.heap.size, 2, none⟩ = some (.int .i64 kr) := HBK1.out.cell 2
    go_wp2_with fail
    refine (HON.out 0 _ (hr.over HB1.out (Nat.le_refl _)) (HG.out.below HB1.out) (by omega) (by omega)).mono ?_
    rintro e w2 ⟨T2, v2, rfl, hb2⟩
    have HBK2 := Lib.hid (Blk.below HBK1.out hb2 (Blk.lt HBK1.out))
    have HB2 := Lib.hid (HB1.out.trans (hb2.mono HB1.out.size))
    clear s0 s1 s2 HBK1 HB1 hb2
    have s0 : w2.cell? ⟨w.heap.size, 0, none⟩ = some (.int .i64 kb) := HBK2.out.cell 0
    have s1 : w2.cell? ⟨w.heap.size, 1, none⟩ = some (.int .i64 kt) := HBK2.out.cell 1
    have s2 : w2.cell? ⟨w.heap.size, 2, none⟩ = some (.int .i64 kr) := HBK2.out.cell 2
    go_wp2_with fail
    refine (HON.out x _ (hr.over HB2.out (Nat.le_refl _)) (HG.out.below HB2.out) hx0 (by omega)).mono ?_
    rintro e w3 ⟨T3, v3, rfl, hb3⟩
    have HB3 := Lib.hid (HB2.out.trans (hb3.mono HB2.out.size))
    clear s0 s1 s2 HBK2 HB2 hb3
    go_wp2_with fail
    refine (poured_any w3).mono ?_
    rintro e w4 ⟨rfl, hb4⟩
    have HB4 := Lib.hid (HB3.out.trans (hb4.mono HB3.out.size)); clear hb4 HB3
    go_wp2_with fail
    refine (poured_any w4).mono ?_
    rintro e w5 ⟨rfl, hb5⟩
    go_wp2_with fail
    go_ret
    exact ⟨rfl, HB4.out.trans (hb5.mono HB4.out.size)⟩
end Go.Proofs.YtdhojhgmaodifaaDoor
