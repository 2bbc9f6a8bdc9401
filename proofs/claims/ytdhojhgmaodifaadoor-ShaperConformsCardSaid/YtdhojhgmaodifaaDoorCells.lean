/-
  What bucket.Conform tells of what may not be; what bucket.Cells tells.
-/
import Derived.Test.YtdhojhgmaodifaaDoorConform
import Derived.Deep.DeepMust
namespace Go.Proofs.YtdhojhgmaodifaaDoor
open Go.RowKit Bkt
set_option linter.unusedVariables false

set_option maxHeartbeats 2000000 in
theorem conform_no (k : Bk) (A : Option Addr) (n c : Nat) (l : List It) (w : World) (hr : RdIt w w.heap.size A n l) (hg : Handle w) (h : ¬ (BkOk k ∧ ListFine l)) :
    Calls Tryd.prog 17 #[bkV k, .slice A n c] w (NilErr w) := by
  have HG := Lib.hid hg; clear hg
  by_cases hk : BkOk k
  · have hf : ¬ ListFine l := fun hf => h ⟨hk, hf⟩
    clear h
    have hnew := fun W => new_yes k W hk
    obtain ⟨kb, kt, kr⟩ := k
    unfold bkV at hnew ⊢
    dsimp only at hnew ⊢
    have HNW := Lib.hid hnew
    clear hnew
    go_enter Tryd.func17, Tryd.ntmps17
    go_wp2_with fail
    refine (HNW.out _).mono ?_
    rintro e w1 ⟨g, hgB, rfl, hb1, hst⟩
    have hbw1 : Below w.heap.size w w1 := ((Below.refl _ w).alloc (Nat.le_refl _) _).trans (hb1.mono (by simp))
    clear hb1 hgB hst
    have hr1 := hr.over hbw1 (Nat.le_refl _)
    go_wp2_with fail
    refine (list_any A n c l w1 hr1 (HG.out.below hbw1)).mono ?_
    rintro e w2 (⟨hff, rfl, hb2⟩ | ⟨_, T, v, rfl, hb2⟩)
    · exact absurd hff hf
    · go_wp2_with fail
      go_ret2
      exact ⟨T, v, rfl, hbw1.trans (hb2.mono hbw1.size)⟩
  · clear h
    have hnew := fun W => new_no k W hk
    obtain ⟨kb, kt, kr⟩ := k
    unfold bkV at hnew ⊢
    dsimp only at hnew ⊢
    have HNW := Lib.hid hnew
    clear hnew
    go_enter Tryd.func17, Tryd.ntmps17
    go_wp2_with fail
    refine (HNW.out _).mono ?_
    rintro e w1 ⟨j, rfl, hb1⟩
    go_wp2_with fail
    go_ret2
    exact ⟨_, _, rfl, ((Below.refl _ w).alloc (Nat.le_refl _) _).trans (hb1.mono (by simp))⟩
set_option maxHeartbeats 2000000 in
theorem cells_no (k : Bk) (A : Option Addr) (n c : Nat) (l : List It) (w : World) (hr : RdIt w w.heap.size A n l) (hg : Handle w) (h : ¬ (BkOk k ∧ ListFine l)) :
    Calls Tryd.prog 20 #[bkV k, .slice A n c] w (NilErr w) := by
  have HG := Lib.hid hg; clear hg
  by_cases hk : BkOk k
  · have hf : ¬ ListFine l := fun hf => h ⟨hk, hf⟩
    clear h
    have hnew := fun W => bcheck_yes k W hk
    obtain ⟨kb, kt, kr⟩ := k
    unfold bkV at hnew ⊢
    dsimp only at hnew ⊢
    have HNW := Lib.hid hnew
    clear hnew
    go_enter Tryd.func20, Tryd.ntmps20
    go_wp2_with fail
    refine (HNW.out _).mono ?_
    rintro e w1 ⟨rfl, hb1⟩
    have hbw1 : Below w.heap.size w w1 := ((Below.refl _ w).alloc (Nat.le_refl _) _).trans (hb1.mono (by simp))
    clear hb1
    have hr1 := hr.over hbw1 (Nat.le_refl _)
    go_wp2_with fail
    refine (list_any A n c l w1 hr1 (HG.out.below hbw1)).mono ?_
    rintro e w2 (⟨hff, rfl, hb2⟩ | ⟨_, T, v, rfl, hb2⟩)
    · exact absurd hff hf
    · go_wp2_with fail
      go_ret2
      exact ⟨T, v, rfl, hbw1.trans (hb2.mono hbw1.size)⟩
  · clear h
    have hnew := fun W => bcheck_no k W hk
    obtain ⟨kb, kt, kr⟩ := k
    unfold bkV at hnew ⊢
    dsimp only at hnew ⊢
    have HNW := Lib.hid hnew
    clear hnew
    go_enter Tryd.func20, Tryd.ntmps20
    go_wp2_with fail
    refine (HNW.out _).mono ?_
    rintro e w1 ⟨j, rfl, hb1⟩
    go_wp2_with fail
    go_ret2
    exact ⟨_, _, rfl, ((Below.refl _ w).alloc (Nat.le_refl _) _).trans (hb1.mono (by simp))⟩

/-- products of one packet, and what should be, within bounds -/
theorem cell_bd {k : Bk} {l : List It} (hk : BkOk k) (hl : ItOk l) : ∀ j, j ≤ l.length → 0 ≤ shTo k l j ∧ shTo k l j ≤ 1002000000000000 := by
  have hrt := mul_bd hk.r.1 (show (0 : Int) ≤ k.t by have := hk.t.1; omega) hk.r.2 hk.t.2
  have hrt' : k.r * k.t ≤ 1000000000000 := hrt.2
  intro j
  induction j with
  | zero => intro _; show (0 : Int) ≤ 0 ∧ (0 : Int) ≤ _; omega
  | succ j ih =>
    intro hj
    have h1 := ih (by omega)
    have ha := hl.at0 j (by omega); have hn := hl.len j (by omega)
    have hab := mul_bd ha.1 (show (0 : Int) ≤ k.b by have := hk.b.1; omega) ha.2 hk.b.2
    have hab' : (ix l j).at_ * k.b ≤ 1000000000000000 := hab.2
    have hnt := mul_bd (show (0 : Int) ≤ (ix l j).len by omega) (show (0 : Int) ≤ k.t by have := hk.t.1; omega) hn.2 hk.t.2
    rw [show shTo k l (j + 1) = if max (shTo k l j) ((ix l j).at_ * k.b) + (ix l j).len * k.t - (ix l j).at_ * k.b ≤ k.r * k.t then max (shTo k l j) ((ix l j).at_ * k.b) + (ix l j).len * k.t else shTo k l j from rfl]
    split
    · have h0 := hab.1; have h2 := hnt.1; omega
    · exact h1
theorem ite_max (a b : Int) : (if a < b then b else a) = max a b := by split <;> omega

set_option maxHeartbeats 2000000 in
set_option maxRecDepth 100000 in
theorem cells_yes (k : Bk) (A : Option Addr) (n c : Nat) (l : List It) (w : World) (hr : RdIt w w.heap.size A n l) (hg : Handle w) (hk : BkOk k) (hf : ListFine l) :
    Calls Tryd.prog 20 #[bkV k, .slice A n c] w (BoolsOut w n (cell k l)) := by
  have hl := hr.len
  have hi := itOk_of hf
  have hn : n ≤ 100 := by have := hf.1; omega
  have hbd : ∀ j, j < n → 0 ≤ shTo k l j ∧ shTo k l j ≤ 1002000000000000 := fun j hj => cell_bd hk hi j (by omega)
  have hib : ∀ j, j < n → (0 ≤ (ix l j).at_ * k.b ∧ (ix l j).at_ * k.b ≤ 1000000000000000) ∧ 0 ≤ (ix l j).len * k.t ∧ (ix l j).len * k.t ≤ 10000000000 := fun j hj => by
    have ha := hi.at0 j (by omega); have hn := hi.len j (by omega)
    exact ⟨mul_bd ha.1 (show (0 : Int) ≤ k.b by have := hk.b.1; omega) ha.2 hk.b.2, mul_bd (show (0 : Int) ≤ (ix l j).len by omega) (show (0 : Int) ≤ k.t by have := hk.t.1; omega) hn.2 hk.t.2⟩
  have hrt := mul_bd hk.r.1 (show (0 : Int) ≤ k.t by have := hk.t.1; omega) hk.r.2 hk.t.2
  have HBD := Lib.hid hbd; have HIB := Lib.hid hib; have HG := Lib.hid hg; have HF := Lib.hid hf
  have hnew := fun W => bcheck_yes k W hk
  obtain ⟨kb, kt, kr⟩ := k
  obtain ⟨m0, m1⟩ := hrt
  have m1' : kr * kt ≤ 1000000000000 := m1
  dsimp only at m0
  unfold bkV at hnew ⊢
  dsimp only at hnew ⊢
  have HNW := Lib.hid hnew
  clear hbd hib hg hf hk hnew hi hl m1
  go_enter Tryd.func20, Tryd.ntmps20
  go_wp2_with fail
  refine (HNW.out _).mono ?_
  rintro e w1 ⟨rfl, hb1⟩
  have hst : Blk w1 w.heap.size 32 #[.int .i64 kb, .int .i64 kt, .int .i64 kr] := Blk.below (Blk.new w _ _) hb1 (by simp)
  have hbw1 : Below w.heap.size w w1 := ((Below.refl _ w).alloc (Nat.le_refl _) _).trans (hb1.mono (by simp))
  clear hb1
  have hr1 := hr.over hbw1 (Nat.le_refl _)
  go_wp2_with fail
  refine (list_any A n c l w1 hr1 (HG.out.below hbw1)).mono ?_
  rintro e w2 (⟨_, rfl, hb2⟩ | ⟨hbad, _⟩)
  · have hbw2 := hbw1.trans (hb2.mono hbw1.size)
    have hst2 := Blk.below hst hb2 (Blk.lt hst)
    clear hb2 hst hbw1 hr1
    go_wp2_with fail
    go_loopw [8, 9, 27] (fun m v i wr => ∃ j : Nat, j ≤ n ∧ i = .int .i64 j ∧ m = .int .i64 (shTo ⟨kb, kt, kr⟩ l j) ∧ wr.ownsRow w.heap.size 4 1 v j (boolsOf (cell ⟨kb, kt, kr⟩ l) j) ∧ Below w.heap.size w wr ∧ Blk wr w.heap.size 32 #[.int .i64 kb, .int .i64 kt, .int .i64 kr])
      (fun _ _ i _ => n - (intOf i).toNat)
    case atStart => exact ⟨0, Nat.zero_le _, rfl, rfl, World.ownsRow_nil _ _ _ _, hbw2, hst2⟩
    case round =>
      clear hbw2 hst2
      obtain ⟨j, hj, rfl, rfl, hown, hb, hst⟩ := hrel
      by_cases hlt : j < n
      · obtain ⟨b, off, rfl, hbB⟩ := hr.addr hlt
        obtain ⟨c0, c1, c2, c3, c4⟩ := (hr.over hb (Nat.le_refl _)).cells hlt
        obtain ⟨s0, s1⟩ := HBD.out j hlt
        obtain ⟨⟨i0, i1⟩, i2, i3⟩ := HIB.out j hlt
        have b0 : wr.cell? ⟨w.heap.size, 0, none⟩ = some (.int .i64 kb) := hst.cell 0
        have b1 : wr.cell? ⟨w.heap.size, 1, none⟩ = some (.int .i64 kt) := hst.cell 1
        have b2 : wr.cell? ⟨w.heap.size, 2, none⟩ = some (.int .i64 kr) := hst.cell 2
        have bl := hst.lt
        have HCF : Hid (cell ⟨kb, kt, kr⟩ l j = decide (max (shTo ⟨kb, kt, kr⟩ l j) ((ix l j).at_ * kb) + (ix l j).len * kt - (ix l j).at_ * kb ≤ kr * kt)) := rfl
        have HST : Hid (shTo ⟨kb, kt, kr⟩ l (j + 1) = if max (shTo ⟨kb, kt, kr⟩ l j) ((ix l j).at_ * kb) + (ix l j).len * kt - (ix l j).at_ * kb ≤ kr * kt then max (shTo ⟨kb, kt, kr⟩ l j) ((ix l j).at_ * kb) + (ix l j).len * kt else shTo ⟨kb, kt, kr⟩ l j) := rfl
        have HSB := Lib.hid hst; clear hst
        generalize ix l j = x at *
        generalize shTo ⟨kb, kt, kr⟩ l j = s at *
        obtain ⟨xa, xn, xf, xb, xm⟩ := x
        dsimp only at *
        obtain ⟨p, hp⟩ : ∃ p, p = max s (xa * kb) + xn * kt := ⟨_, rfl⟩
        have HZ : Hid (w.heap.size ≤ (wr.alloc (.cells #[.int .i64 xa, .int .i64 xn, .int .i64 xf, .int .i64 xb, .int .i64 xm] 39)).heap.size) := by show _ ≤ _; have := hb.size; simp; omega
        by_cases hmx : s < xa * kb
        · have hp' : p = xa * kb + xn * kt := by omega
          by_cases hok : xa * kb + xn * kt - xa * kb ≤ kr * kt
          · skip
            have HC2 : Hid (cell ⟨kb, kt, kr⟩ l j = true) := by show _ = _; rw [HCF.out]; exact decide_eq_true (by omega)
            have HS2 : Hid (shTo ⟨kb, kt, kr⟩ l (j + 1) = xa * kb + xn * kt) := by show _ = _; rw [HST.out, if_pos (by omega)]; omega
            clear hp hp' HCF HST
            go_wp2_with (at_builtin; refine wpList_push1 rfl _ _ 34 rfl w.heap.size 4 (.bool false) 1 Tryd.underlying34 Tryd.boolInfo rfl u9 j _ (.bool true) (by rfl) (hown.alloc _) (by show Value.slice (some ⟨wr.heap.size + 1, 0, none⟩) 1 1 = _; simp) rfl (by omega) (by omega) HZ.out ?_; intro v' w4 hown' hg' hb')
            have hst4 : Blk w4 w.heap.size 32 #[.int .i64 kb, .int .i64 kt, .int .i64 kr] := Blk.grown (Blk.alloc HSB.out _) hg' (fun h => own_blk_ne hown HSB.out (by decide) h.symm)
            have HS4 := Lib.hid hst4; clear hst4
            go_roundw
            case rel =>
              refine ⟨j + 1, by omega, by go_num, by rw [HS2.out], ?_, (hb.alloc hb.size _).trans hb', HS4.out⟩
              rw [boolsOf_succ, HC2.out]; exact hown'
            case measure => simp [intOf]; omega
          · have hok' : kr * kt < xa * kb + xn * kt - xa * kb := by omega
            have HC2 : Hid (cell ⟨kb, kt, kr⟩ l j = false) := by show _ = _; rw [HCF.out]; exact decide_eq_false (by omega)
            have HS2 : Hid (shTo ⟨kb, kt, kr⟩ l (j + 1) = s) := by show _ = _; rw [HST.out, if_neg (by omega)]
            clear hp hp' HCF HST
            go_wp2_with (at_builtin; refine wpList_push1 rfl _ _ 34 rfl w.heap.size 4 (.bool false) 1 Tryd.underlying34 Tryd.boolInfo rfl u9 j _ (.bool false) (by rfl) (hown.alloc _) (by show Value.slice (some ⟨wr.heap.size + 1, 0, none⟩) 1 1 = _; simp) rfl (by omega) (by omega) HZ.out ?_; intro v' w4 hown' hg' hb')
            have hst4 : Blk w4 w.heap.size 32 #[.int .i64 kb, .int .i64 kt, .int .i64 kr] := Blk.grown (Blk.alloc HSB.out _) hg' (fun h => own_blk_ne hown HSB.out (by decide) h.symm)
            have HS4 := Lib.hid hst4; clear hst4
            go_roundw
            case rel =>
              refine ⟨j + 1, by omega, by go_num, by rw [HS2.out], ?_, (hb.alloc hb.size _).trans hb', HS4.out⟩
              rw [boolsOf_succ, HC2.out]; exact hown'
            case measure => simp [intOf]; omega
        · have hmx' : xa * kb ≤ s := by omega
          have hp' : p = s + xn * kt := by omega
          by_cases hok : s + xn * kt - xa * kb ≤ kr * kt
          · skip
            have HC2 : Hid (cell ⟨kb, kt, kr⟩ l j = true) := by show _ = _; rw [HCF.out]; exact decide_eq_true (by omega)
            have HS2 : Hid (shTo ⟨kb, kt, kr⟩ l (j + 1) = s + xn * kt) := by show _ = _; rw [HST.out, if_pos (by omega)]; omega
            clear hp hp' HCF HST
            go_wp2_with (at_builtin; refine wpList_push1 rfl _ _ 34 rfl w.heap.size 4 (.bool false) 1 Tryd.underlying34 Tryd.boolInfo rfl u9 j _ (.bool true) (by rfl) (hown.alloc _) (by show Value.slice (some ⟨wr.heap.size + 1, 0, none⟩) 1 1 = _; simp) rfl (by omega) (by omega) HZ.out ?_; intro v' w4 hown' hg' hb')
            have hst4 : Blk w4 w.heap.size 32 #[.int .i64 kb, .int .i64 kt, .int .i64 kr] := Blk.grown (Blk.alloc HSB.out _) hg' (fun h => own_blk_ne hown HSB.out (by decide) h.symm)
            have HS4 := Lib.hid hst4; clear hst4
            go_roundw
            case rel =>
              refine ⟨j + 1, by omega, by go_num, by rw [HS2.out], ?_, (hb.alloc hb.size _).trans hb', HS4.out⟩
              rw [boolsOf_succ, HC2.out]; exact hown'
            case measure => simp [intOf]; omega
          · have hok' : kr * kt < s + xn * kt - xa * kb := by omega
            have HC2 : Hid (cell ⟨kb, kt, kr⟩ l j = false) := by show _ = _; rw [HCF.out]; exact decide_eq_false (by omega)
            have HS2 : Hid (shTo ⟨kb, kt, kr⟩ l (j + 1) = s) := by show _ = _; rw [HST.out, if_neg (by omega)]
            clear hp hp' HCF HST
            go_wp2_with (at_builtin; refine wpList_push1 rfl _ _ 34 rfl w.heap.size 4 (.bool false) 1 Tryd.underlying34 Tryd.boolInfo rfl u9 j _ (.bool false) (by rfl) (hown.alloc _) (by show Value.slice (some ⟨wr.heap.size + 1, 0, none⟩) 1 1 = _; simp) rfl (by omega) (by omega) HZ.out ?_; intro v' w4 hown' hg' hb')
            have hst4 : Blk w4 w.heap.size 32 #[.int .i64 kb, .int .i64 kt, .int .i64 kr] := Blk.grown (Blk.alloc HSB.out _) hg' (fun h => own_blk_ne hown HSB.out (by decide) h.symm)
            have HS4 := Lib.hid hst4; clear hst4
            go_roundw
            case rel =>
              refine ⟨j + 1, by omega, by go_num, by rw [HS2.out], ?_, (hb.alloc hb.size _).trans hb', HS4.out⟩
              rw [boolsOf_succ, HC2.out]; exact hown'
            case measure => simp [intOf]; omega
      · obtain rfl : j = n := by omega
        obtain ⟨A2, c2, rfl, hrd⟩ := own_reads hown
        go_wp2_with fail
        go_ret2
        exact ⟨A2, c2, rfl, hb, hrd⟩
  · exact absurd HF.out hbad
end Go.Proofs.YtdhojhgmaodifaaDoor
