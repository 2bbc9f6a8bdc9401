/-
  The making of a program of actions.
-/
import Derived.Test.YtdhojhgmaodifaaDoorActPrg
namespace Go.Proofs.YtdhojhgmaodifaaDoor
open Go.RowKit Bkt
set_option linter.unusedVariables false

set_option maxHeartbeats 40000000 in
set_option maxRecDepth 100000 in
theorem anew_any (A : Option Addr) (n c : Nat) (l : List Actn.Ac) (Ab : Option Addr) (m cb : Nat) (bs : List Bk) (w : World) (hr : RdR AcR w w.heap.size A n l) (hrb : RdR BkR w w.heap.size Ab m bs)
    (hwf : ∀ i, (Lit.int .i64 (Actn.ax l i).kind).wf = true) (hn : n ≤ 60) (hm : m ≤ 10) :
    Calls Tryd.prog 27 #[.slice A n c, .slice Ab m cb] w (ANewOut w l bs) := by
  have hll := hr.len
  have hlb := hrb.len
  by_cases hbig : n ≤ 50 ∧ m ≤ 8
  · obtain ⟨hn5, hm8⟩ := hbig
    obtain ⟨i0, hi, hz0, hz1, hz2⟩ := info_parts Tryd.actInfo
    have hown := own_empty3 w 65
    have hr2 : RdR AcR (w.alloc (.cells #[] 65)) w.heap.size A n l := Reads.below hr ((Below.refl _ _).alloc (Nat.le_refl _) _)
    have h1c : ∀ u ∈ l.flatMap acCells, u.oneCell' = true := fun u hu => by
      obtain ⟨a, _, ha⟩ := List.mem_flatMap.1 hu
      exact ac_one a u ha
    have HOWN := Lib.hid hown; have HR2 := Lib.hid hr2; have H1C := Lib.hid h1c; have HR := Lib.hid hr; have HRB := Lib.hid hrb; have HLL := Lib.hid hll; have HLB := Lib.hid hlb; have HWF := Lib.hid hwf
    clear hown hr2 h1c hr hrb hll hlb hwf
    have in5 : decide ((50 : Int) < (n : Int)) = false := decide_eq_false (by omega)
    have im8 : decide ((8 : Int) < (m : Int)) = false := decide_eq_false (by omega)
    go_enter Tryd.func27, Tryd.ntmps27
    go_wp2_with (at_builtin; refine wpList_append_any _ rfl (.tmp 26) (.tmp 27) 54 rfl w.heap.size 65 i0 (.agg #[.int .i64 0, .int .i64 0, .int .i64 0]) 3 24 Tryd.underlying54 hi hz0 hz1 hz2 rfl (by decide) _ 0 [] rfl HOWN.out w.heap.size A n c (l.flatMap acCells) rfl HR2.out H1C.out (by simp only [maxLen]; omega) (by omega) (by simp) ?_; intro v' w1 g1 g2 g3; rw [Nat.zero_add, List.nil_append] at g1; obtain ⟨A', c', rfl, _⟩ := own_reads g1; have G1 := Lib.hid g1; have G2 := Lib.hid g2; clear g1 g2 g3)
    have hrel0 : NewRel w.heap.size w (w1.alloc (.cells #[.slice A' n c', .slice none 0 0, .int .i64 0, .int .i64 0, .int .i64 0, .int .i64 0, .int .i64 0, .int .i64 0, .int .i64 0, .int .i64 0] 109)) w1.heap.size (.slice A' n c') (.slice none 0 0) l [] := by
      have hb1 : Below w.heap.size w w1 := ((Below.refl _ _).alloc (Nat.le_refl _) _).grown G2.out (by simp) (fun k hk => by injection hk with hk; subst hk; exact Nat.le_refl _)
      have ho := G1.out
      refine ⟨Blk.new _ _ _, hb1.size, ?_, World.ownsRow_nil _ _ _ _, fun x hx => by simp at hx, hb1.alloc hb1.size _⟩
      rw [HLL.out]
      exact ho.alloc _
    generalize w1.heap.size = g at *
    generalize w1.alloc (.cells #[.slice A' n c', .slice none 0 0, .int .i64 0, .int .i64 0, .int .i64 0, .int .i64 0, .int .i64 0, .int .i64 0, .int .i64 0, .int .i64 0] 109) = W2 at *
    have HREL0 := Lib.hid hrel0
    clear hrel0 G1 G2
    go_loopw [33] (fun i wr => ∃ (k : Nat) (vb : Value) (gs : List Nat), k ≤ m ∧ i = .int .i64 k ∧ gs.length = k ∧ (∀ j, j < k → BkOk (bx bs j)) ∧ NewRel w.heap.size w wr g (.slice A' n c') vb l gs) (fun i _ => m - (intOf i).toNat)
    case atStart => exact ⟨0, _, [], Nat.zero_le _, rfl, rfl, fun j hj => by omega, HREL0.out⟩
    case round =>
      obtain ⟨k, vb, gs, hk, rfl, hgs, hbks, hrel⟩ := hrel
      have HREL := Lib.hid hrel; have HBKS := Lib.hid hbks; have HGS := Lib.hid hgs
      have hpb := hrel.blk
      have hrb := HRB.out.over hrel.bel (Nat.le_refl _)
      clear hrel hbks hgs
      by_cases hlt : k < m
      · have ik : (k : Int) < (m : Int) := by omega
        obtain ⟨b, off, rfl, hbB⟩ := hrb.addr hlt
        obtain ⟨c0, c1, c2⟩ := rdBk_at hrb hlt
        by_cases hq : BkOk (bx bs k)
        · have hnew := fun W => new_yes (bx bs k) W hq
          have HQ := Lib.hid hq
          unfold bkV at hnew
          generalize hqq : bx bs k = q at *
          have HQQ := Lib.hid hqq
          obtain ⟨qb, qt, qr⟩ := q
          dsimp only at c0 c1 c2 hnew
          have HNEW := Lib.hid hnew
          clear hnew hq hqq hrb
          go_wp2_with fail
          refine (HNEW.out _).mono ?_
          rintro e w3 ⟨x, hx, rfl, hb3, hst3⟩
          have hw3 : Below wr.heap.size wr w3 := bl_next (bl_alloc (Below.refl _ _)) hb3
          have hr3 := HREL.out.over hw3 (Nat.le_refl _)
          have hm3 : BkM w3 x := ⟨_, _, hst3, HQ.out, sok_start HQ.out, by show (0 : Int) ≤ 1000000000; decide⟩
          have p1 : w3.cell? ⟨g, 1, none⟩ = some vb := hr3.blk.cell 1
          have hob := hr3.owb
          have hB3 := hr3.bel.size
          have hxs : wr.heap.size ≤ x := Nat.le_trans (by simp) hx
          have HW3 := Lib.hid hw3; have HM3 := Lib.hid hm3; have HOB := Lib.hid hob; have HR3 := Lib.hid hr3
          clear hw3 hm3 hob hr3 hb3 hst3 hx c0 c1 c2
          have hgl : gs.length ≤ 1000000 := by have := HGS.out; omega
          go_wp2_with (at_builtin; refine wpList_push1 rfl _ _ 106 rfl w.heap.size 97 (.pointer none) 8 Tryd.underlying106 Tryd.ptInfo rfl vb gs.length _ (ptV x) (by rfl) HOB.out (by rfl) rfl hgl (by omega) hB3 ?_; intro vb' w4 h1 h2 h3; obtain ⟨A2, c3, rfl, _⟩ := own_reads h1; have H1 := Lib.hid h1; have H2 := Lib.hid h2; have p2 : w4.frozen? ⟨g, 1, none⟩ = false := ((HR3.out.blk.grown h2 (fun e => own_blk_ne HOB.out HR3.out.blk (by decide) e.symm)).frozen 1); have p3 : w4.cell? ⟨g, 1, none⟩ = some vb := ((HR3.out.blk.grown h2 (fun e => own_blk_ne HOB.out HR3.out.blk (by decide) e.symm)).cell 1); clear h1 h2 h3)
          refine ⟨⟨k + 1, .slice A2 (gs.length + 1) c3, gs ++ [x], by omega, by go_num, by have := HGS.out; simp; omega, fun j hj => ?_, ?_⟩, by simp [intOf]; omega⟩
          · rcases Nat.lt_or_ge j k with h' | h'
            · exact HBKS.out j h'
            · obtain rfl : j = k := by omega
              rw [HQQ.out]; exact HQ.out
          · exact HREL.out.push (Nat.le_refl _) HW3.out hxs HM3.out H1.out H2.out
        · have hnew := fun W => new_no (bx bs k) W hq
          have hnok : ¬ PrgOk l bs := fun h => hq (h.bk k (by have := HLB.out; omega))
          unfold bkV at hnew
          generalize hqq : bx bs k = q at *
          obtain ⟨qb, qt, qr⟩ := q
          dsimp only at c0 c1 c2 hnew
          have HNEW := Lib.hid hnew; have HNOK := Lib.hid hnok
          clear hnew hq hqq hrb hnok
          go_wp2_with fail
          refine (HNEW.out _).mono ?_
          rintro e w3 ⟨j, rfl, hb3⟩
          have hw3 : Below wr.heap.size wr w3 := bl_next (bl_alloc (Below.refl _ _)) hb3
          have hr3 := (HREL.out.over hw3 (Nat.le_refl _)).bel
          have HR3 := Lib.hid hr3
          clear hw3 hr3 hb3
          go_wp2_with fail
          go_ret2
          exact .inr ⟨HNOK.out, _, _, rfl, HR3.out⟩
      · obtain rfl : m = k := by omega
        clear hrb hpb
        go_wp2_with fail
        go_loopw [58] (fun i wr => ∃ k : Nat, k ≤ n ∧ i = .int .i64 k ∧ Actn.AllOk l bs.length k ∧ NewRel w.heap.size w wr g (.slice A' n c') vb l gs) (fun i _ => n - (intOf i).toNat)
        case atStart => exact ⟨0, Nat.zero_le _, rfl, fun i hi => by omega, HREL.out⟩
        case round =>
          obtain ⟨k, hk2, rfl, hall, hrel⟩ := hrel
          have HREL2 := Lib.hid hrel; have HALL := Lib.hid hall
          have hra := HR.out.over hrel.bel (Nat.le_refl _)
          clear hrel hall
          by_cases hlt : k < n
          · have ik : (k : Int) < (n : Int) := by omega
            obtain ⟨b, off, rfl, hbB⟩ := hra.addr hlt
            obtain ⟨c0, c1, c2⟩ := rdAc_at hra hlt
            have hwk := HWF.out k
            generalize hq : Actn.ax l k = q at *
            obtain ⟨qk, qa, qb⟩ := q
            dsimp only at c0 c1 c2 hwk
            have HQ := Lib.hid hq
            clear hq hra
            have hmm := @run_makeMap Tryd.prog
            have ho0 : OwnM ((wr.alloc (.cells #[.int .i64 qk, .int .i64 qa, .int .i64 qb] 65)).alloc (.map #[] 0)) (wr.heap.size + 1) 0 (.map []) := by
              have := OwnM.made (wr.alloc (.cells #[.int .i64 qk, .int .i64 qa, .int .i64 qb] 65))
              simpa using this
            go_upto_region 16 with (first
              | (refine wpList_ins rfl _ _ _ rfl (wr.heap.size + 1) 7 _ rfl ho7 (by omega) _ _ rfl rfl (by first | decide | exact WalkArith.wf_i64 (by omega)) (by first | decide | exact WalkArith.wf_i64 (by omega)) ?_; intro w8 ho8 hg8)
              | (refine wpList_ins rfl _ _ _ rfl (wr.heap.size + 1) 6 _ rfl ho6 (by omega) _ _ rfl rfl (by first | decide | exact WalkArith.wf_i64 (by omega)) (by first | decide | exact WalkArith.wf_i64 (by omega)) ?_; intro w7 ho7 hg7)
              | (refine wpList_ins rfl _ _ _ rfl (wr.heap.size + 1) 5 _ rfl ho5 (by omega) _ _ rfl rfl (by first | decide | exact WalkArith.wf_i64 (by omega)) (by first | decide | exact WalkArith.wf_i64 (by omega)) ?_; intro w6 ho6 hg6)
              | (refine wpList_ins rfl _ _ _ rfl (wr.heap.size + 1) 4 _ rfl ho4 (by omega) _ _ rfl rfl (by first | decide | exact WalkArith.wf_i64 (by omega)) (by first | decide | exact WalkArith.wf_i64 (by omega)) ?_; intro w5 ho5 hg5)
              | (refine wpList_ins rfl _ _ _ rfl (wr.heap.size + 1) 3 _ rfl ho3 (by omega) _ _ rfl rfl (by first | decide | exact WalkArith.wf_i64 (by omega)) (by first | decide | exact WalkArith.wf_i64 (by omega)) ?_; intro w4 ho4 hg4)
              | (refine wpList_ins rfl _ _ _ rfl (wr.heap.size + 1) 2 _ rfl ho2 (by omega) _ _ rfl rfl (by first | decide | exact WalkArith.wf_i64 (by omega)) (by first | decide | exact WalkArith.wf_i64 (by omega)) ?_; intro w3 ho3 hg3)
              | (refine wpList_ins rfl _ _ _ rfl (wr.heap.size + 1) 1 _ rfl ho1 (by omega) _ _ rfl rfl (by first | decide | exact WalkArith.wf_i64 (by omega)) (by first | decide | exact WalkArith.wf_i64 (by omega)) ?_; intro w2 ho2 hg2)
              | (refine wpList_ins rfl _ _ _ rfl (wr.heap.size + 1) 0 _ rfl ho0 (by omega) _ _ rfl rfl (by first | decide | exact WalkArith.wf_i64 (by omega)) (by first | decide | exact WalkArith.wf_i64 (by omega)) ?_; intro w1 ho1 hg1)
              | fail)
            have hom : OwnM w8 (wr.heap.size + 1) 8 (mostD n m) := ho8
            have hb8 : Below (wr.heap.size + 1) (wr.alloc (.cells #[.int .i64 qk, .int .i64 qa, .int .i64 qb] 65)) w8 := by
              have b0 : Below (wr.heap.size + 1) (wr.alloc (.cells #[.int .i64 qk, .int .i64 qa, .int .i64 qb] 65)) ((wr.alloc (.cells #[.int .i64 qk, .int .i64 qa, .int .i64 qb] 65)).alloc (.map #[] 0)) := (Below.refl _ _).alloc (by simp) _
              have s0 : wr.heap.size + 1 ≤ (wr.alloc (.cells #[.int .i64 qk, .int .i64 qa, .int .i64 qb] 65)).heap.size := by simp
              have rr : ∀ j, some (wr.heap.size + 1) = some j → wr.heap.size + 1 ≤ j := fun j hj => by injection hj with hj; omega
              have b1 := b0.grown hg1 (Nat.le_trans s0 b0.size) rr
              have b2 := b1.grown hg2 (Nat.le_trans s0 b1.size) rr
              have b3 := b2.grown hg3 (Nat.le_trans s0 b2.size) rr
              have b4 := b3.grown hg4 (Nat.le_trans s0 b3.size) rr
              have b5 := b4.grown hg5 (Nat.le_trans s0 b4.size) rr
              have b6 := b5.grown hg6 (Nat.le_trans s0 b5.size) rr
              have b7 := b6.grown hg7 (Nat.le_trans s0 b6.size) rr
              exact b7.grown hg8 (Nat.le_trans s0 b7.size) rr
            have hbw : Below wr.heap.size wr w8 := ((Below.refl _ _).alloc (Nat.le_refl _) _).trans (hb8.mono (by omega))
            have hk8 := (Blk.new wr 65 #[.int .i64 qk, .int .i64 qa, .int .i64 qb]).below hb8 (by omega)
            have y0 : w8.cell? ⟨wr.heap.size, 0, none⟩ = some (.int .i64 qk) := hk8.cell 0
            have y1 : w8.cell? ⟨wr.heap.size, 1, none⟩ = some (.int .i64 qa) := hk8.cell 1
            have y2 : w8.cell? ⟨wr.heap.size, 2, none⟩ = some (.int .i64 qb) := hk8.cell 2
            have hrel8 := HREL2.out.over hbw (Nat.le_refl _)
            have HOM := Lib.hid hom; have HR8 := Lib.hid hrel8
            clear hom hb8 hbw hk8 hrel8 ho0 ho1 ho2 ho3 ho4 ho5 ho6 ho7 ho8 hg1 hg2 hg3 hg4 hg5 hg6 hg7 hg8 c0 c1 c2
            have hnok : ¬ Actn.AcOk n m ⟨qk, qa, qb⟩ → ¬ PrgOk l bs := fun h h2 => h (by
              have h3 := h2.ac k (by have := HLL.out; omega)
              rw [HQ.out, HLL.out, HLB.out] at h3
              exact h3)
            have HNOK := Lib.hid hnok
            clear hnok
            obtain ⟨has, hhas⟩ : ∃ b : Bool, b = decide (3 ≤ qk ∧ qk ≤ 10) := ⟨_, rfl⟩
            have HH := Lib.hid hhas
            clear hhas
            go_upto_region 18 with (refine wpList_most rfl _ _ rfl (wr.heap.size + 1) 8 n m rfl HOM.out qk rfl hwk has HH.out.symm ?_; intro top htop; have HTOP := Lib.hid htop; clear htop)
            clear HOM
            by_cases r1 : qk < 1
            · have d1 : decide (qk < 1) = true := decide_eq_true (by omega)
              obtain rfl : has = false := by rw [HH.out]; exact decide_eq_false (by omega)
              go_wp2_with fail
              go_ret2
              exact .inr ⟨HNOK.out (fun h => by have := h.kind.1; dsimp only at this; omega), _, _, rfl, HR8.out.bel.alloc HR8.out.bel.size _⟩
            · by_cases r2 : 10 < qk
              · have d1 : decide (qk < 1) = false := decide_eq_false (by omega)
                have d2 : decide (10 < qk) = true := decide_eq_true (by omega)
                obtain rfl : has = false := by rw [HH.out]; exact decide_eq_false (by omega)
                go_wp2_with fail
                go_ret2
                exact .inr ⟨HNOK.out (fun h => by have := h.kind.2; dsimp only at this; omega), _, _, rfl, HR8.out.bel.alloc HR8.out.bel.size _⟩
              · by_cases r3 : qk < 3
                · by_cases za : qa = 0
                  · by_cases zb : qb = 0
                    · subst za
                      subst zb
                      have d1 : decide (qk < 1) = false := decide_eq_false (by omega)
                      have d2 : decide (10 < qk) = false := decide_eq_false (by omega)
                      have d8 : decide (8 ≤ qk) = false := decide_eq_false (by omega)
                      obtain rfl : has = false := by rw [HH.out]; exact decide_eq_false (by omega)
                      go_wp2_with fail
                      refine ⟨⟨k + 1, by omega, by go_num, fun i hi => ?_, HR8.out⟩, by simp [intOf]; omega⟩
                      rcases Nat.lt_or_ge i k with h' | h'
                      · exact HALL.out i h'
                      · obtain rfl : i = k := by omega
                        rw [HQ.out, HLL.out, HLB.out]
                        exact ⟨⟨by dsimp only; omega, by dsimp only; omega⟩, fun h => absurd h (by dsimp only; omega), fun h => absurd h (by dsimp only; omega), fun _ => rfl, fun _ => rfl⟩
                    · subst za
                      have e1 : (qb == 0) = false := by simpa using zb
                      have d1 : decide (qk < 1) = false := decide_eq_false (by omega)
                      have d2 : decide (10 < qk) = false := decide_eq_false (by omega)
                      have d8 : decide (8 ≤ qk) = false := decide_eq_false (by omega)
                      obtain rfl : has = false := by rw [HH.out]; exact decide_eq_false (by omega)
                      go_wp2_with fail
                      go_ret2
                      exact .inr ⟨HNOK.out (fun h => zb (h.z2 (by dsimp only; omega))), _, _, rfl, HR8.out.bel.alloc HR8.out.bel.size _⟩
                  · have e1 : (qa == 0) = false := by simpa using za
                    have d1 : decide (qk < 1) = false := decide_eq_false (by omega)
                    have d2 : decide (10 < qk) = false := decide_eq_false (by omega)
                    obtain rfl : has = false := by rw [HH.out]; exact decide_eq_false (by omega)
                    go_wp2_with fail
                    go_ret2
                    exact .inr ⟨HNOK.out (fun h => za (h.z1 (by dsimp only; omega))), _, _, rfl, HR8.out.bel.alloc HR8.out.bel.size _⟩
                · by_cases r4 : qk < 8
                  · by_cases zb : qb = 0
                    · by_cases ra : qa < 0
                      · subst zb
                        have d1 : decide (qk < 1) = false := decide_eq_false (by omega)
                        have d2 : decide (10 < qk) = false := decide_eq_false (by omega)
                        have d8 : decide (8 ≤ qk) = false := decide_eq_false (by omega)
                        have da : decide (qa < 0) = true := decide_eq_true (by omega)
                        obtain rfl : has = true := by rw [HH.out]; exact decide_eq_true (by omega)
                        have htop := HTOP.out (by omega)
                        go_wp2_with fail
                        go_ret2
                        exact .inr ⟨HNOK.out (fun h => by have := (h.a (by dsimp only; omega)).1; dsimp only at this; omega), _, _, rfl, HR8.out.bel.alloc HR8.out.bel.size _⟩
                      · by_cases rt : Actn.topOf n m qk < qa
                        · subst zb
                          have dt : decide (Actn.topOf n m qk < qa) = true := decide_eq_true rt
                          have d1 : decide (qk < 1) = false := decide_eq_false (by omega)
                          have d2 : decide (10 < qk) = false := decide_eq_false (by omega)
                          have d8 : decide (8 ≤ qk) = false := decide_eq_false (by omega)
                          have da : decide (qa < 0) = false := decide_eq_false (by omega)
                          obtain rfl : has = true := by rw [HH.out]; exact decide_eq_true (by omega)
                          have htop := HTOP.out (by omega); rw [← htop] at dt
                          go_wp2_with fail
                          go_ret2
                          exact .inr ⟨HNOK.out (fun h => by have := (h.a (by dsimp only; omega)).2; dsimp only at this; omega), _, _, rfl, HR8.out.bel.alloc HR8.out.bel.size _⟩
                        · subst zb
                          have ta : decide (Actn.topOf n m qk < qa) = false := decide_eq_false rt
                          have d1 : decide (qk < 1) = false := decide_eq_false (by omega)
                          have d2 : decide (10 < qk) = false := decide_eq_false (by omega)
                          have d8 : decide (8 ≤ qk) = false := decide_eq_false (by omega)
                          have da : decide (qa < 0) = false := decide_eq_false (by omega)
                          obtain rfl : has = true := by rw [HH.out]; exact decide_eq_true (by omega)
                          have htop := HTOP.out (by omega); rw [← htop] at ta
                          go_wp2_with fail
                          refine ⟨⟨k + 1, by omega, by go_num, fun i hi => ?_, HR8.out⟩, by simp [intOf]; omega⟩
                          rcases Nat.lt_or_ge i k with h' | h'
                          · exact HALL.out i h'
                          · obtain rfl : i = k := by omega
                            rw [HQ.out, HLL.out, HLB.out]
                            exact ⟨⟨by dsimp only; omega, by dsimp only; omega⟩, fun _ => ⟨by dsimp only; omega, by dsimp only; omega⟩, fun h => absurd h (by dsimp only; omega), fun h => absurd h (by dsimp only; omega), fun _ => rfl⟩
                    · have e1 : (qb == 0) = false := by simpa using zb
                      have d1 : decide (qk < 1) = false := decide_eq_false (by omega)
                      have d2 : decide (10 < qk) = false := decide_eq_false (by omega)
                      have d8 : decide (8 ≤ qk) = false := decide_eq_false (by omega)
                      obtain rfl : has = true := by rw [HH.out]; exact decide_eq_true (by omega)
                      have htop := HTOP.out (by omega)
                      go_wp2_with fail
                      go_ret2
                      exact .inr ⟨HNOK.out (fun h => zb (h.z2 (by dsimp only; omega))), _, _, rfl, HR8.out.bel.alloc HR8.out.bel.size _⟩
                  · by_cases ra : qa < 0
                    · have d1 : decide (qk < 1) = false := decide_eq_false (by omega)
                      have d2 : decide (10 < qk) = false := decide_eq_false (by omega)
                      have d8 : decide (8 ≤ qk) = true := decide_eq_true (by omega)
                      have da : decide (qa < 0) = true := decide_eq_true (by omega)
                      obtain rfl : has = true := by rw [HH.out]; exact decide_eq_true (by omega)
                      have htop := HTOP.out (by omega)
                      go_wp2_with fail
                      go_ret2
                      exact .inr ⟨HNOK.out (fun h => by have := (h.a (by dsimp only; omega)).1; dsimp only at this; omega), _, _, rfl, HR8.out.bel.alloc HR8.out.bel.size _⟩
                    · by_cases rt : Actn.topOf n m qk < qa
                      · have dt : decide (Actn.topOf n m qk < qa) = true := decide_eq_true rt
                        have d1 : decide (qk < 1) = false := decide_eq_false (by omega)
                        have d2 : decide (10 < qk) = false := decide_eq_false (by omega)
                        have d8 : decide (8 ≤ qk) = true := decide_eq_true (by omega)
                        have da : decide (qa < 0) = false := decide_eq_false (by omega)
                        obtain rfl : has = true := by rw [HH.out]; exact decide_eq_true (by omega)
                        have htop := HTOP.out (by omega); rw [← htop] at dt
                        go_wp2_with fail
                        go_ret2
                        exact .inr ⟨HNOK.out (fun h => by have := (h.a (by dsimp only; omega)).2; dsimp only at this; omega), _, _, rfl, HR8.out.bel.alloc HR8.out.bel.size _⟩
                      · by_cases rb : qb < 0
                        · have ta : decide (Actn.topOf n m qk < qa) = false := decide_eq_false rt
                          have d1 : decide (qk < 1) = false := decide_eq_false (by omega)
                          have d2 : decide (10 < qk) = false := decide_eq_false (by omega)
                          have d8 : decide (8 ≤ qk) = true := decide_eq_true (by omega)
                          have da : decide (qa < 0) = false := decide_eq_false (by omega)
                          have db : decide (qb < 0) = true := decide_eq_true (by omega)
                          obtain rfl : has = true := by rw [HH.out]; exact decide_eq_true (by omega)
                          have htop := HTOP.out (by omega); rw [← htop] at ta
                          go_wp2_with fail
                          go_ret2
                          exact .inr ⟨HNOK.out (fun h => by have := (h.b (by dsimp only; omega)).1; dsimp only at this; omega), _, _, rfl, HR8.out.bel.alloc HR8.out.bel.size _⟩
                        · by_cases rn : (n : Int) < qb
                          · have ta : decide (Actn.topOf n m qk < qa) = false := decide_eq_false rt
                            have d1 : decide (qk < 1) = false := decide_eq_false (by omega)
                            have d2 : decide (10 < qk) = false := decide_eq_false (by omega)
                            have d8 : decide (8 ≤ qk) = true := decide_eq_true (by omega)
                            have da : decide (qa < 0) = false := decide_eq_false (by omega)
                            have db : decide (qb < 0) = false := decide_eq_false (by omega)
                            have dn : decide ((n : Int) < qb) = true := decide_eq_true (by omega)
                            obtain rfl : has = true := by rw [HH.out]; exact decide_eq_true (by omega)
                            have htop := HTOP.out (by omega); rw [← htop] at ta
                            go_wp2_with fail
                            go_ret2
                            exact .inr ⟨HNOK.out (fun h => by have := (h.b (by dsimp only; omega)).2; dsimp only at this; omega), _, _, rfl, HR8.out.bel.alloc HR8.out.bel.size _⟩
                          · have ta : decide (Actn.topOf n m qk < qa) = false := decide_eq_false rt
                            have d1 : decide (qk < 1) = false := decide_eq_false (by omega)
                            have d2 : decide (10 < qk) = false := decide_eq_false (by omega)
                            have d8 : decide (8 ≤ qk) = true := decide_eq_true (by omega)
                            have da : decide (qa < 0) = false := decide_eq_false (by omega)
                            have db : decide (qb < 0) = false := decide_eq_false (by omega)
                            have dn : decide ((n : Int) < qb) = false := decide_eq_false (by omega)
                            obtain rfl : has = true := by rw [HH.out]; exact decide_eq_true (by omega)
                            have htop := HTOP.out (by omega); rw [← htop] at ta
                            go_wp2_with fail
                            refine ⟨⟨k + 1, by omega, by go_num, fun i hi => ?_, HR8.out⟩, by simp [intOf]; omega⟩
                            rcases Nat.lt_or_ge i k with h' | h'
                            · exact HALL.out i h'
                            · obtain rfl : i = k := by omega
                              rw [HQ.out, HLL.out, HLB.out]
                              exact ⟨⟨by dsimp only; omega, by dsimp only; omega⟩, fun _ => ⟨by dsimp only; omega, by dsimp only; omega⟩, fun _ => ⟨by dsimp only; omega, by dsimp only; omega⟩, fun h => absurd h (by dsimp only; omega), fun h => absurd h (by dsimp only; omega)⟩
          · obtain rfl : k = n := by omega
            go_wp2_with fail
            go_ret2
            obtain ⟨Aa, ca, Ab', cb', hprg⟩ := HREL2.out.prg
            refine .inl ⟨⟨by have := HLL.out; omega, by have := HLB.out; omega, fun i hi => HBKS.out i (by have := HLB.out; omega), by have := HALL.out; rw [HLL.out]; exact this⟩, g, Aa, ca, Ab', cb', gs, rfl, by have := HGS.out; have := HLB.out; omega, hprg, HREL2.out.bel⟩
  · have hnok : ¬ PrgOk l bs := fun h => hbig ⟨by have := h.n; omega, by have := h.m; omega⟩
    have hc : (decide ((50 : Int) < (n : Int)) || decide ((8 : Int) < (m : Int))) = true := by
      rw [Bool.or_eq_true, decide_eq_true_eq, decide_eq_true_eq]
      omega
    have HNOK := Lib.hid hnok
    clear hnok hbig hll hlb hr hrb hwf
    by_cases h5 : n ≤ 50
    · have i5 : decide ((50 : Int) < (n : Int)) = false := decide_eq_false (by omega)
      have i8 : decide ((8 : Int) < (m : Int)) = true := by rw [i5] at hc; exact hc
      clear hc
      go_enter Tryd.func27, Tryd.ntmps27
      go_wp2_with fail
      go_ret2
      exact .inr ⟨HNOK.out, _, _, rfl, Below.refl _ _⟩
    · have i5 : decide ((50 : Int) < (n : Int)) = true := decide_eq_true (by omega)
      clear hc
      go_enter Tryd.func27, Tryd.ntmps27
      go_wp2_with fail
      go_ret2
      exact .inr ⟨HNOK.out, _, _, rfl, Below.refl _ _⟩
end Go.Proofs.YtdhojhgmaodifaaDoor
