/-
  What bucket.Two tells: red is what does not conform to the second bucket.
-/
import Derived.Test.YtdhojhgmaodifaaDoorConform
import Derived.Test.YtdhojhgmaodifaaDoorColLaw
namespace Go.Proofs.YtdhojhgmaodifaaDoor
open Go.RowKit Bkt Crv
set_option linter.unusedVariables false

/-- red is what does not conform -/
def Reds (f : Nat → Bool) (zs : List Int) (n : Nat) : Prop := ∀ i, i < n → (at0 zs i ≠ 3 ↔ f i = true)
def RedsOut (w : World) (n : Nat) (f : Nat → Bool) (e : Ending) (w' : World) : Prop := ∃ A c zs, e = .returned (.tuple #[.slice A n c, .nilIface]) ∧ Below w.heap.size w w' ∧ RdI w' w'.heap.size A n zs ∧ Reds f zs n
theorem Reds.more {f : Nat → Bool} {zs : List Int} {n : Nat} (h : Reds f zs n) (hl : zs.length = n) (c : Int) (hc : c ≠ 3 ↔ f n = true) : Reds f (zs ++ [c]) (n + 1) := by
  intro i hi
  by_cases e : i = n
  · subst e; rw [← hl, app_last, hl]; exact hc
  · rw [app_at (by omega)]; exact h i (by omega)
theorem take_keep {k : Bk} {s : St} {now n : Int} (hk : BkOk k) (hs : SOk k s) (hl : s.last ≤ 1000000000) (hn : now ≤ 1000000000) (h0 : 0 ≤ n) : SOk k (take k s now n) ∧ (take k s now n).last ≤ 1000000000 := by
  by_cases h : s.last ≤ now
  · obtain ⟨h1, h2⟩ := take_ok hk hs h h0
    exact ⟨h1, by rw [h2]; exact hn⟩
  · have hf : fill k s now = s := by unfold fill; rw [if_neg (by omega)]
    have hnt : 0 ≤ n * k.t := Int.mul_nonneg h0 (by have := hk.t.1; omega)
    unfold take okB
    rw [hf]
    by_cases hc : n * k.t ≤ s.has
    · rw [if_pos (decide_eq_true hc)]
      have := hs.last; have := hs.has1
      exact ⟨⟨by assumption, by show 0 ≤ _ - _; omega, by show _ - _ ≤ _; omega⟩, hl⟩
    · rw [if_neg (by simp [hc])]
      exact ⟨hs, hl⟩

set_option maxHeartbeats 4000000 in
set_option maxRecDepth 100000 in
theorem two_yes (k q : Bk) (A : Option Addr) (n c : Nat) (l : List It) (w : World) (hr : RdIt w w.heap.size A n l) (hg : Handle w) (hk : BkOk k) (hq : BkOk q) (hf : ListFine l) :
    Calls Tryd.prog 23 #[bkV k, bkV q, .slice A n c] w (RedsOut w n (conf q l)) := by
  have hl := hr.len
  have hi := itOk_of hf
  have hn : n ≤ 100 := by have := hf.1; omega
  have hbd : ∀ j, j < n → 0 ≤ (stTo q l j).last ∧ (stTo q l j).last ≤ 1000000000 ∧ 0 ≤ (stTo q l j).has ∧ (stTo q l j).has ≤ q.r * q.t := fun j hj => st_bd hq hi (by omega)
  have hib : ∀ j, j < n → ((ix l j).at_ ≤ 1000000000) ∧ 0 ≤ (ix l j).len ∧ (ix l j).len ≤ 1000000 := fun j hj => by
    have h1 := hi.at0 j (by omega); have h2 := hi.len j (by omega); omega
  have HBD := Lib.hid hbd; have HIB := Lib.hid hib; have HG := Lib.hid hg; have HF := Lib.hid hf; have HK := Lib.hid hk; have HQ := Lib.hid hq
  have hnew := fun W => new_yes k W hk
  have hneq := fun W => new_yes q W hq
  have hs0 : SOk k (Bkt.start k) := ⟨Int.le_refl _, Int.mul_nonneg hk.r.1 (by have := hk.t.1; omega), Int.le_refl _⟩
  have HS0 := Lib.hid hs0
  obtain ⟨kb, kt, kr⟩ := k
  obtain ⟨qb, qt, qr⟩ := q
  unfold bkV at hnew hneq ⊢
  dsimp only at hnew hneq ⊢
  have HNK := Lib.hid hnew; have HNQ := Lib.hid hneq
  clear hbd hib hg hf hk hq hnew hneq hi hl hs0
  go_enter Tryd.func23, Tryd.ntmps23
  go_wp2_with fail
  have hb0 : Below w.heap.size w ((w.alloc (.cells #[.int .i64 kb, .int .i64 kt, .int .i64 kr] 32)).alloc (.cells #[.int .i64 qb, .int .i64 qt, .int .i64 qr] 32)) := ((Below.refl _ w).alloc (Nat.le_refl _) _).alloc (by simp) _
  have r0 : ((w.alloc (.cells #[.int .i64 kb, .int .i64 kt, .int .i64 kr] 32)).alloc (.cells #[.int .i64 qb, .int .i64 qt, .int .i64 qr] 32)).cell? ⟨w.heap.size + 1, 0, none⟩ = some (.int .i64 qb) := by simp
  have r1 : ((w.alloc (.cells #[.int .i64 kb, .int .i64 kt, .int .i64 kr] 32)).alloc (.cells #[.int .i64 qb, .int .i64 qt, .int .i64 qr] 32)).cell? ⟨w.heap.size + 1, 1, none⟩ = some (.int .i64 qt) := by simp
  have r2 : ((w.alloc (.cells #[.int .i64 kb, .int .i64 kt, .int .i64 kr] 32)).alloc (.cells #[.int .i64 qb, .int .i64 qt, .int .i64 qr] 32)).cell? ⟨w.heap.size + 1, 2, none⟩ = some (.int .i64 qr) := by simp
  generalize (w.alloc (.cells #[.int .i64 kb, .int .i64 kt, .int .i64 kr] 32)).alloc (.cells #[.int .i64 qb, .int .i64 qt, .int .i64 qr] 32) = w0 at *
  have hs0 : w.heap.size + 1 < w0.heap.size := lt_of_cell r0
  refine (HNK.out _).mono ?_
  rintro e w1 ⟨g, hgB, rfl, hb1, hst⟩
  replace r0 := (hb1.cell (p := ⟨w.heap.size + 1, 0, none⟩) hs0).trans r0
  replace r1 := (hb1.cell (p := ⟨w.heap.size + 1, 1, none⟩) hs0).trans r1
  replace r2 := (hb1.cell (p := ⟨w.heap.size + 1, 2, none⟩) hs0).trans r2
  have hbw1 := hb0.trans (hb1.mono hb0.size)
  go_wp2_with fail
  refine (HNQ.out _).mono ?_
  rintro e w2 ⟨g2, hgB2, rfl, hb2, hst2⟩
  have hst1 := hst.below hb2 hst.lt
  have hbw2 := hbw1.trans (hb2.mono hbw1.size)
  have hne : g2 ≠ g := by have := Blk.lt hst; omega
  have hgw : w.heap.size ≤ g := by omega
  have hgw2 : w.heap.size ≤ g2 := by have := hb1.size; omega
  clear r0 r1 r2 hb1 hb2 hst hbw1 hs0 hb0 hgB hgB2
  have hr1 := hr.over hbw2 (Nat.le_refl _)
  have HT1 := Lib.hid hst1; have HT2 := Lib.hid hst2; clear hst1 hst2
  go_wp2_with fail
  refine (list_any A n c l w2 hr1 (HG.out.below hbw2)).mono ?_
  rintro e w3 (⟨_, rfl, hb3⟩ | ⟨hbad, _⟩)
  · have hbw3 := hbw2.trans (hb3.mono hbw2.size)
    have hta := Blk.below HT1.out hb3 (Blk.lt HT1.out)
    have htb := Blk.below HT2.out hb3 (Blk.lt HT2.out)
    have HTA := Lib.hid hta; have HTB := Lib.hid htb
    clear hb3 hbw2 hr1 hta htb HT1 HT2
    go_wp2_with fail
    go_loopw [12, 38] (fun v i wr => ∃ (j : Nat) (s : St) (zs : List Int), j ≤ n ∧ i = .int .i64 j ∧ wr.ownsRow w.heap.size 3 1 v j (zs.map (Value.int .i64)) ∧ Below w.heap.size w wr ∧ StB wr g ⟨kb, kt, kr⟩ s ∧ SOk ⟨kb, kt, kr⟩ s ∧ s.last ≤ 1000000000 ∧
        StB wr g2 ⟨qb, qt, qr⟩ (stTo ⟨qb, qt, qr⟩ l j) ∧ Reds (conf ⟨qb, qt, qr⟩ l) zs j)
      (fun _ i _ => n - (intOf i).toNat)
    case atStart => exact ⟨0, _, [], Nat.zero_le _, rfl, World.ownsRow_nil _ _ _ _, hbw3, HTA.out, HS0.out, (by show (0 : Int) ≤ 1000000000; omega), HTB.out, fun i hi => by omega⟩
    case round =>
      clear hbw3 HTA HTB
      obtain ⟨j, s, zs, hj, rfl, hown, hb, hsa, hso, hsl, hsb, hred⟩ := hrel
      have HSA := Lib.hid hsa; have HSB := Lib.hid hsb; have HSO := Lib.hid hso; have HRD := Lib.hid hred
      clear hsa hsb hso hred
      by_cases hlt : j < n
      · obtain ⟨b, off, rfl, hbB⟩ := hr.addr hlt
        obtain ⟨c0, c1, c2, c3, c4⟩ := (hr.over hb (Nat.le_refl _)).cells hlt
        obtain ⟨s0, s1, s2, s3⟩ := HBD.out j hlt
        obtain ⟨i0, i1, i2⟩ := HIB.out j hlt
        have HCF : Hid (conf ⟨qb, qt, qr⟩ l j = okB ⟨qb, qt, qr⟩ (stTo ⟨qb, qt, qr⟩ l j) (ix l j).at_ (ix l j).len) := rfl
        have HST : Hid (stTo ⟨qb, qt, qr⟩ l (j + 1) = Bkt.take ⟨qb, qt, qr⟩ (stTo ⟨qb, qt, qr⟩ l j) (ix l j).at_ (ix l j).len) := rfl
        have hzl : zs.length = j := by have := hown.1; simpa using this
        have HZL := Lib.hid hzl; clear hzl
        generalize ix l j = x at *
        generalize stTo ⟨qb, qt, qr⟩ l j = sq at *
        obtain ⟨ta, tn, y2, y3, y4⟩ := x
        dsimp only at c0 c1 c2 c3 c4 i0 i1 i2
        have htk := fun W hW => take_any ⟨qb, qt, qr⟩ sq g2 ta tn W HQ.out hW s0 s1 i0 s2 s3 i1 i2
        have hta := fun W hW => take_any ⟨kb, kt, kr⟩ s g ta tn W HK.out hW HSO.out.last hsl i0 HSO.out.has0 HSO.out.has1 i1 i2
        obtain ⟨hko, hkl⟩ := take_keep (now := ta) (n := tn) HK.out HSO.out hsl i0 i1
        have HTK := Lib.hid htk; have HTA := Lib.hid hta; have HKO := Lib.hid hko
        clear htk hta hko s0 s1 s2 s3 i0 i1 i2
        have nz : wr.heap.size ≠ g := fun e => by have := Blk.lt HSA.out; omega
        have nz2 : wr.heap.size ≠ g2 := fun e => by have := Blk.lt HSB.out; omega
        go_wp2_with fail
        refine (HTK.out _ (Blk.alloc HSB.out _)).mono ?_
        rintro e w4 ⟨rfl, hg4, hst4⟩
        have hne4 := own_blk_ne hown HSB.out (by decide)
        have hown4 := (hown.alloc (.cells #[.int .i64 ta, .int .i64 tn, .int .i64 y2, .int .i64 y3, .int .i64 y4] 39)).kept hg4 (.inr hne4)
        have hb4 : Below w.heap.size w w4 := (hb.alloc hb.size _).grown hg4 (by have := hb.size; simp; omega) (fun q hq => by injection hq with hq; omega)
        have hsa4 : StB w4 g ⟨kb, kt, kr⟩ s := Blk.grown (Blk.alloc HSA.out _) hg4 (fun e => hne (by injection e with e; exact e.symm))
        have z0 : w4.cell? ⟨wr.heap.size, 0, none⟩ = some (.int .i64 ta) := (World.cell?_of_block (hg4.block wr.heap.size (by simp) (fun e => nz2 (by injection e)))).trans (by simp)
        have z1 : w4.cell? ⟨wr.heap.size, 1, none⟩ = some (.int .i64 tn) := (World.cell?_of_block (hg4.block wr.heap.size (by simp) (fun e => nz2 (by injection e)))).trans (by simp)
        have HS4 := Lib.hid hst4; have HA4 := Lib.hid hsa4
        clear hst4 hg4 hown c0 c1 c2 c3 c4 hb hne4 hsa4
        rw [← HCF.out]
        cases hcf : conf ⟨qb, qt, qr⟩ l j
        · have HC2 := Lib.hid hcf; clear hcf
          go_wp2_with (at_builtin; refine wpList_pushI rfl _ _ _ Tryd.underlying37 rfl w.heap.size _ j _ 3 hown4 rfl rfl (by omega) hb4.size ?_; intro v' w5 hown' hg' hb')
          have n1 := own_blk_ne hown4 HS4.out (by decide)
          have n2 := own_blk_ne hown4 HA4.out (by decide)
          have t1 : StB w5 g2 ⟨qb, qt, qr⟩ (Bkt.take ⟨qb, qt, qr⟩ sq ta tn) := Blk.grown HS4.out hg' (fun h => n1 h.symm)
          have t2 : StB w5 g ⟨kb, kt, kr⟩ s := Blk.grown HA4.out hg' (fun h => n2 h.symm)
          have T1 := Lib.hid t1; have T2 := Lib.hid t2; clear t1 t2
          go_roundw
          case rel => exact ⟨j + 1, s, zs ++ [3], by omega, by go_num, hown', hb4.trans hb', T2.out, HSO.out, hsl, by rw [HST.out]; exact T1.out, HRD.out.more HZL.out 3 (by rw [HC2.out]; simp)⟩
          case measure => simp [intOf]; omega
        · have HC2 := Lib.hid hcf; clear hcf
          go_wp2_with fail
          refine (HTA.out _ HA4.out).mono ?_
          rintro e w5 ⟨rfl, hg5, hst5⟩
          have hne5 := own_blk_ne hown4 HA4.out (by decide)
          have hown5 := hown4.kept hg5 (.inr hne5)
          have hb5 : Below w.heap.size w w5 := hb4.grown hg5 hb4.size (fun q hq => by injection hq with hq; omega)
          have hsb5 : StB w5 g2 ⟨qb, qt, qr⟩ (Bkt.take ⟨qb, qt, qr⟩ sq ta tn) := Blk.grown HS4.out hg5 (fun e => hne (by injection e))
          have HS5 := Lib.hid hst5; have HB5 := Lib.hid hsb5
          clear hst5 hg5 hown4 hb4 hne5 hsb5 z0 z1
          generalize okB ⟨kb, kt, kr⟩ s ta tn = ok at *
          have n1 := own_blk_ne hown5 HB5.out (by decide)
          have n2 := own_blk_ne hown5 HS5.out (by decide)
          cases ok
          · go_wp2_with (at_builtin; refine wpList_pushI rfl _ _ _ Tryd.underlying37 rfl w.heap.size _ j _ 2 hown5 rfl rfl (by omega) hb5.size ?_; intro v' w6 hown' hg' hb')
            have t1 : StB w6 g2 ⟨qb, qt, qr⟩ (Bkt.take ⟨qb, qt, qr⟩ sq ta tn) := Blk.grown HB5.out hg' (fun h => n1 h.symm)
            have t2 : StB w6 g ⟨kb, kt, kr⟩ (Bkt.take ⟨kb, kt, kr⟩ s ta tn) := Blk.grown HS5.out hg' (fun h => n2 h.symm)
            have T1 := Lib.hid t1; have T2 := Lib.hid t2; clear t1 t2
            go_roundw
            case rel => exact ⟨j + 1, _, zs ++ [2], by omega, by go_num, hown', hb5.trans hb', T2.out, HKO.out, hkl, by rw [HST.out]; exact T1.out, HRD.out.more HZL.out 2 (by rw [HC2.out]; simp)⟩
            case measure => simp [intOf]; omega
          · go_wp2_with (at_builtin; refine wpList_pushI rfl _ _ _ Tryd.underlying37 rfl w.heap.size _ j _ 1 hown5 rfl rfl (by omega) hb5.size ?_; intro v' w6 hown' hg' hb')
            have t1 : StB w6 g2 ⟨qb, qt, qr⟩ (Bkt.take ⟨qb, qt, qr⟩ sq ta tn) := Blk.grown HB5.out hg' (fun h => n1 h.symm)
            have t2 : StB w6 g ⟨kb, kt, kr⟩ (Bkt.take ⟨kb, kt, kr⟩ s ta tn) := Blk.grown HS5.out hg' (fun h => n2 h.symm)
            have T1 := Lib.hid t1; have T2 := Lib.hid t2; clear t1 t2
            go_roundw
            case rel => exact ⟨j + 1, _, zs ++ [1], by omega, by go_num, hown', hb5.trans hb', T2.out, HKO.out, hkl, by rw [HST.out]; exact T1.out, HRD.out.more HZL.out 1 (by rw [HC2.out]; simp)⟩
            case measure => simp [intOf]; omega
      · obtain rfl : j = n := by omega
        obtain ⟨A2, c2, rfl, hrd⟩ := own_reads hown
        go_wp2_with fail
        go_ret2
        exact ⟨A2, c2, zs, rfl, hb, hrd, HRD.out⟩
  · exact absurd HF.out hbad

set_option maxHeartbeats 1000000 in
theorem two_no (k q : Bk) (A : Option Addr) (n c : Nat) (w : World) (hk : BkOk k) (hq : ¬ BkOk q) :
    Calls Tryd.prog 23 #[bkV k, bkV q, .slice A n c] w (NilErr w) := by
  have hnew := fun W => new_yes k W hk
  have hneq := fun W => new_no q W hq
  obtain ⟨kb, kt, kr⟩ := k
  obtain ⟨qb, qt, qr⟩ := q
  unfold bkV at hnew hneq ⊢
  dsimp only at hnew hneq ⊢
  have HNK := Lib.hid hnew; have HNQ := Lib.hid hneq
  clear hk hq hnew hneq
  go_enter Tryd.func23, Tryd.ntmps23
  go_wp2_with fail
  have hb0 : Below w.heap.size w ((w.alloc (.cells #[.int .i64 kb, .int .i64 kt, .int .i64 kr] 32)).alloc (.cells #[.int .i64 qb, .int .i64 qt, .int .i64 qr] 32)) := ((Below.refl _ w).alloc (Nat.le_refl _) _).alloc (by simp) _
  have r0 : ((w.alloc (.cells #[.int .i64 kb, .int .i64 kt, .int .i64 kr] 32)).alloc (.cells #[.int .i64 qb, .int .i64 qt, .int .i64 qr] 32)).cell? ⟨w.heap.size + 1, 0, none⟩ = some (.int .i64 qb) := by simp
  have r1 : ((w.alloc (.cells #[.int .i64 kb, .int .i64 kt, .int .i64 kr] 32)).alloc (.cells #[.int .i64 qb, .int .i64 qt, .int .i64 qr] 32)).cell? ⟨w.heap.size + 1, 1, none⟩ = some (.int .i64 qt) := by simp
  have r2 : ((w.alloc (.cells #[.int .i64 kb, .int .i64 kt, .int .i64 kr] 32)).alloc (.cells #[.int .i64 qb, .int .i64 qt, .int .i64 qr] 32)).cell? ⟨w.heap.size + 1, 2, none⟩ = some (.int .i64 qr) := by simp
  generalize (w.alloc (.cells #[.int .i64 kb, .int .i64 kt, .int .i64 kr] 32)).alloc (.cells #[.int .i64 qb, .int .i64 qt, .int .i64 qr] 32) = w0 at *
  have hs0 : w.heap.size + 1 < w0.heap.size := lt_of_cell r0
  refine (HNK.out _).mono ?_
  rintro e w1 ⟨g, hgB, rfl, hb1, hst⟩
  replace r0 := (hb1.cell (p := ⟨w.heap.size + 1, 0, none⟩) hs0).trans r0
  replace r1 := (hb1.cell (p := ⟨w.heap.size + 1, 1, none⟩) hs0).trans r1
  replace r2 := (hb1.cell (p := ⟨w.heap.size + 1, 2, none⟩) hs0).trans r2
  have hbw1 := hb0.trans (hb1.mono hb0.size)
  clear hst hb1 hgB
  go_wp2_with fail
  refine (HNQ.out _).mono ?_
  rintro e w2 ⟨j, rfl, hb2⟩
  go_wp2_with fail
  go_ret2
  exact ⟨_, _, rfl, hbw1.trans (hb2.mono hbw1.size)⟩
end Go.Proofs.YtdhojhgmaodifaaDoor
