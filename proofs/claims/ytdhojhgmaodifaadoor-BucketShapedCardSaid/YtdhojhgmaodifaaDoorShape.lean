/-
  What bucket.Shape tells: when each packet may go; or an error.
-/
import Derived.Test.YtdhojhgmaodifaaDoorWhen
import Derived.Test.YtdhojhgmaodifaaDoorOne
namespace Go.Proofs.YtdhojhgmaodifaaDoor
open Go.RowKit Bkt Crv
set_option linter.unusedVariables false

def ShapeOut (w : World) (n : Nat) (k : Bk) (l : List It) (e : Ending) (w' : World) : Prop := ((∀ j, j < n → ShGood k l j) ∧ IntsOut w n (shT k l) e w') ∨ NilErr w e w'

set_option maxHeartbeats 4000000 in
set_option maxRecDepth 100000 in
theorem shape_yes (k : Bk) (A : Option Addr) (n c : Nat) (l : List It) (w : World) (hr : RdIt w w.heap.size A n l) (hg : Handle w) (hk : BkOk k) (hf : ListFine l) :
    Calls Tryd.prog 21 #[bkV k, .slice A n c] w (ShapeOut w n k l) := by
  have hl := hr.len
  have hi := itOk_of hf
  have hn : n ≤ 100 := by have := hf.1; omega
  have hib : ∀ j, j < n → 0 ≤ (ix l j).at_ ∧ (ix l j).at_ ≤ 1000000000 ∧ 0 ≤ (ix l j).len ∧ (ix l j).len ≤ 1000000 := fun j hj => by
    have h1 := hi.at0 j (by omega); have h2 := hi.len j (by omega); omega
  have hinv := fun j (hj : j ≤ n) hg => shinv_all (k := k) hk hi j (by omega) hg
  have hstp := fun j (hj : j < n) h1 h2 => shp_step (k := k) (j := j) hk hi (by omega) h1 h2
  have hwh := fun s g now m W h1 h2 h3 h4 h5 h6 h7 => when_any k s g now m W hk h1 h2 h3 h4 h5 h6 h7
  have htk := fun s g now m W h1 h2 h3 h4 h5 h6 h7 h8 => take_any k s g now m W hk h1 h2 h3 h4 h5 h6 h7 h8
  have hff := fun s now h1 h2 => fill_ok (k := k) (s := s) (now := now) hk h1 h2
  have htf := fun s a t m h1 h2 h3 => take_fill (k := k) (s := s) (a := a) (t := t) (n := m) hk h1 h2 h3
  have HIB := Lib.hid hib; have HG := Lib.hid hg; have HF := Lib.hid hf; have HINV := Lib.hid hinv; have HSTP := Lib.hid hstp; have HWH := Lib.hid hwh; have HTK := Lib.hid htk; have HFF := Lib.hid hff; have HTF := Lib.hid htf
  have hnew := fun W => new_yes k W hk
  obtain ⟨kb, kt, kr⟩ := k
  unfold bkV at hnew ⊢
  dsimp only at hnew ⊢
  have HNW := Lib.hid hnew
  clear hib hg hf hk hnew hi hl hinv hstp hwh htk hff htf
  go_enter Tryd.func21, Tryd.ntmps21
  go_wp2_with fail
  refine (HNW.out _).mono ?_
  rintro e w1 ⟨g, hgB, rfl, hb1, hst⟩
  have hbw1 : Below w.heap.size w w1 := ((Below.refl _ w).alloc (Nat.le_refl _) _).trans (hb1.mono (by simp))
  have hgB' : w.heap.size ≤ g := by simp at hgB; omega
  clear hb1 hgB
  have hr1 := hr.over hbw1 (Nat.le_refl _)
  go_wp2_with fail
  refine (list_any A n c l w1 hr1 (HG.out.below hbw1)).mono ?_
  rintro e w2 (⟨_, rfl, hb2⟩ | ⟨hbad, _⟩)
  · have hbw2 := hbw1.trans (hb2.mono hbw1.size)
    have hst2 : StB w2 g ⟨kb, kt, kr⟩ (Bkt.start ⟨kb, kt, kr⟩) := Blk.below hst hb2 (Blk.lt hst)
    clear hb2 hst hbw1 hr1
    go_wp2_with fail
    go_loopw [9, 10, 30] (fun v nw i wr => ∃ j : Nat, j ≤ n ∧ i = .int .i64 j ∧ nw = .int .i64 (shp ⟨kb, kt, kr⟩ l j).2 ∧ wr.ownsRow w.heap.size 3 1 v j ((tab j (shT ⟨kb, kt, kr⟩ l)).map (Value.int .i64)) ∧ Below w.heap.size w wr ∧
        StB wr g ⟨kb, kt, kr⟩ (shp ⟨kb, kt, kr⟩ l j).1 ∧ (∀ i, i < j → ShGood ⟨kb, kt, kr⟩ l i) ∧ 0 ≤ (shp ⟨kb, kt, kr⟩ l j).2 ∧ (shp ⟨kb, kt, kr⟩ l j).2 ≤ 1000000000)
      (fun _ _ i _ => n - (intOf i).toNat)
    case atStart => exact ⟨0, Nat.zero_le _, rfl, rfl, World.ownsRow_nil _ _ _ _, hbw2, hst2, fun i hi => by omega, by show (0 : Int) ≤ 0; omega, by show (0 : Int) ≤ 1000000000; omega⟩
    case round =>
      clear hbw2 hst2
      obtain ⟨j, hj, rfl, rfl, hown, hb, hst, hgood, hnw0, hnw1⟩ := hrel
      by_cases hlt : j < n
      · obtain ⟨b, off, rfl, hbB⟩ := hr.addr hlt
        obtain ⟨c0, c1, c2, c3, c4⟩ := (hr.over hb (Nat.le_refl _)).cells hlt
        obtain ⟨i0, i1, i2, i3⟩ := HIB.out j hlt
        have hin := HINV.out j hj fun i h => (hgood i h).1
        have hso := hin.ok; have hla := hin.last
        have HIN := Lib.hid hin; have HGD := Lib.hid hgood
        have HT : Hid (shT ⟨kb, kt, kr⟩ l j = whenAt ⟨kb, kt, kr⟩ (shp ⟨kb, kt, kr⟩ l j).1 (max (shp ⟨kb, kt, kr⟩ l j).2 (ix l j).at_) (ix l j).len) := rfl
        have HP1 : Hid ((shp ⟨kb, kt, kr⟩ l (j + 1)).1 = Bkt.take ⟨kb, kt, kr⟩ (shp ⟨kb, kt, kr⟩ l j).1 (shT ⟨kb, kt, kr⟩ l j) (ix l j).len) := rfl
        have HP2 : Hid ((shp ⟨kb, kt, kr⟩ l (j + 1)).2 = shT ⟨kb, kt, kr⟩ l j) := rfl
        have hgd : ShGood ⟨kb, kt, kr⟩ l j ↔ (ix l j).len ≤ kr ∧ shT ⟨kb, kt, kr⟩ l j ≤ 1000000000 := Iff.rfl
        have hsp := fun h => HSTP.out j hlt h HIN.out
        have HGJ := Lib.hid hgd; have HSP := Lib.hid hsp
        clear hin hgood hgd hsp
        generalize (shp ⟨kb, kt, kr⟩ l j).1 = s at *
        generalize (shp ⟨kb, kt, kr⟩ l j).2 = nw at *
        generalize ix l j = x at *
        obtain ⟨ta, tn, y2, y3, y4⟩ := x
        dsimp only at c0 c1 c2 c3 c4 i0 i1 i2 i3
        have HST := Lib.hid hst; have HSO := Lib.hid hso; clear hst hso
        have hgl := Blk.lt HST.out
        have nz : wr.heap.size ≠ g := fun e => by omega
        -- the world behind the packet's box
        have hbW : Below w.heap.size w (wr.alloc (.cells #[.int .i64 ta, .int .i64 tn, .int .i64 y2, .int .i64 y3, .int .i64 y4] 39)) := hb.alloc hb.size _
        have hownW := hown.alloc (.cells #[.int .i64 ta, .int .i64 tn, .int .i64 y2, .int .i64 y3, .int .i64 y4] 39)
        have hstW : StB (wr.alloc (.cells #[.int .i64 ta, .int .i64 tn, .int .i64 y2, .int .i64 y3, .int .i64 y4] 39)) g ⟨kb, kt, kr⟩ s := Blk.alloc HST.out _
        have hz : Blk (wr.alloc (.cells #[.int .i64 ta, .int .i64 tn, .int .i64 y2, .int .i64 y3, .int .i64 y4] 39)) wr.heap.size 39 #[.int .i64 ta, .int .i64 tn, .int .i64 y2, .int .i64 y3, .int .i64 y4] := Blk.new _ _ _
        have HOW := Lib.hid hownW; have HSW := Lib.hid hstW; have HZ := Lib.hid hz; have HBW := Lib.hid hbW
        clear hownW hstW hz hbW hown hb hgl
        have hma : ∀ a' : Int, a' = nw ∨ a' = ta → a' = max nw ta → 0 ≤ a' ∧ a' ≤ 1000000000 := fun a' h _ => by rcases h with h | h <;> omega
        by_cases htr : tn ≤ kr
        · have hwn : ∀ W (a' : Int), a' = max nw ta → StB W g ⟨kb, kt, kr⟩ s → Calls Tryd.prog 46 #[.pointer (some ⟨g, 0, none⟩), .int .i64 a', .int .i64 tn] W (WhenOut W g ⟨kb, kt, kr⟩ (fill ⟨kb, kt, kr⟩ s (max nw ta)) (shT ⟨kb, kt, kr⟩ l j)) := fun W a' ha hW => by
            subst ha
            have := HWH.out s g (max nw ta) tn W hW HSO.out (by omega) (by omega) (by omega) i2 htr
            rw [← HT.out] at this
            exact this
          obtain ⟨hsp1, hsp2, hsp3, hsp4, _⟩ := HSP.out htr
          dsimp only at hsp2 hsp3
          have hfo := HFF.out s (max nw ta) HSO.out (by omega)
          have hfl := hfo.2
          have HFO := Lib.hid hfo.1
          have htkf := HTF.out s (max nw ta) (shT ⟨kb, kt, kr⟩ l j) tn HSO.out (by omega) (by omega)
          have HTKF := Lib.hid htkf; have HWN := Lib.hid hwn
          have hfl' : 0 ≤ (fill ⟨kb, kt, kr⟩ s (max nw ta)).last ∧ (fill ⟨kb, kt, kr⟩ s (max nw ta)).last ≤ 1000000000 := by rw [hfl]; omega
          have HSP1 := Lib.hid hsp1
          clear hsp1 hsp4 hfo hfl htkf hwn
          generalize hT : shT ⟨kb, kt, kr⟩ l j = T at *
          have HTT := Lib.hid hT; clear hT
          generalize hM : max nw ta = M at *
          have HM := Lib.hid hM; clear hM
          generalize fill ⟨kb, kt, kr⟩ s M = fs at *
          go_wp2_with fail
          all_goals
            refine (HWN.out _ _ (by have := HM.out; omega) HSW.out).mono ?_
            rintro e w4 ⟨rfl, hg4, hst4⟩
            have hne4 := own_blk_ne HOW.out HSW.out (by decide)
            have hown4 := HOW.out.kept hg4 (.inr hne4)
            have hb4 : Below w.heap.size w w4 := HBW.out.grown hg4 HBW.out.size (fun q hq => by injection hq with hq; omega)
            have hz4 := HZ.out.grown hg4 (fun e => nz (by injection e))
            have z1 : w4.cell? ⟨wr.heap.size, 1, none⟩ = some (.int .i64 tn) := hz4.cell 1
            have HS4 := Lib.hid hst4; have HO4 := Lib.hid hown4; have HB4 := Lib.hid hb4
            clear hst4 hg4 hown4 hb4 hz4 hne4
            by_cases hTm : T ≤ 1000000000
            · go_wp2_with fail
              refine (HTK.out fs g T tn w4 HS4.out hfl'.1 hfl'.2 hTm HFO.out.has0 HFO.out.has1 i2 i3).mono ?_
              rintro e w5 ⟨rfl, hg5, hst5⟩
              have hne5 := own_blk_ne HO4.out HS4.out (by decide)
              have hown5 := HO4.out.kept hg5 (.inr hne5)
              have hb5 : Below w.heap.size w w5 := HB4.out.grown hg5 HB4.out.size (fun q hq => by injection hq with hq; omega)
              rw [HTKF.out] at hst5
              have HS5 := Lib.hid hst5
              clear hst5 hg5 hne5 z1
              go_wp2_with (at_builtin; refine wpList_pushI rfl _ _ _ Tryd.underlying37 rfl w.heap.size _ j _ T hown5 rfl rfl (by omega) hb5.size ?_; intro v' w6 hown' hg' hb')
              have n1 := own_blk_ne hown5 HS5.out (by decide)
              have t1 := Blk.grown HS5.out hg' (fun h => n1 h.symm)
              have T1 := Lib.hid t1; clear t1
              go_roundw
              case rel =>
                refine ⟨j + 1, by omega, by go_num, by rw [HP2.out], ?_, hb5.trans hb', ?_, ?_, ?_, ?_⟩
                · rw [tab_succ]; first | exact hown' | (rw [HTT.out]; exact hown')
                · rw [HP1.out]; exact T1.out
                · intro i hi
                  by_cases e : i = j
                  · subst e; exact HGJ.out.2 ⟨htr, hTm⟩
                  · exact HGD.out i (by omega)
                · rw [HP2.out]; omega
                · rw [HP2.out]; exact hTm
              case measure => simp [intOf]; omega
            · go_wp2_with fail
              go_ret2
              exact .inr ⟨_, _, rfl, HB4.out⟩
        · have hwn : ∀ W (a' : Int), a' = max nw ta → StB W g ⟨kb, kt, kr⟩ s → Calls Tryd.prog 46 #[.pointer (some ⟨g, 0, none⟩), .int .i64 a', .int .i64 tn] W fun e w' => e = .returned (.tuple #[.int .i64 0, .bool false]) ∧ W = w' := fun W a' ha hW =>
            when_no ⟨kb, kt, kr⟩ s g a' tn W hW (by omega) i2 (by show kr < tn; omega)
          have HWN := Lib.hid hwn; clear hwn
          have hM := Lib.hid (Nat.le_refl 0)
          go_wp2_with fail
          all_goals
            refine (HWN.out _ _ (by omega) HSW.out).mono ?_
            rintro e w4 ⟨rfl, rfl⟩
            go_wp2_with fail
            go_ret2
            exact .inr ⟨_, _, rfl, HBW.out⟩
      · obtain rfl : j = n := by omega
        obtain ⟨A2, c2, rfl, hrd⟩ := own_reads hown
        have HGD := Lib.hid hgood; clear hgood
        go_wp2_with fail
        go_ret2
        exact .inl ⟨HGD.out, A2, c2, rfl, hb, hrd⟩
  · exact absurd HF.out hbad

theorem shape_no (k : Bk) (A : Option Addr) (n c : Nat) (l : List It) (w : World) (hr : RdIt w w.heap.size A n l) (hg : Handle w) (h : ¬ (BkOk k ∧ ListFine l)) :
    Calls Tryd.prog 21 #[bkV k, .slice A n c] w (NilErr w) := by
  have HG := Lib.hid hg; clear hg
  by_cases hk : BkOk k
  · have hf : ¬ ListFine l := fun hf => h ⟨hk, hf⟩
    clear h
    have hnew := fun W => new_yes k W hk
    obtain ⟨kb, kt, kr⟩ := k
    unfold bkV at hnew ⊢
    dsimp only at hnew ⊢
    have HNW := Lib.hid hnew
    clear hnew
    go_enter Tryd.func21, Tryd.ntmps21
    go_wp2_with fail
    refine (HNW.out _).mono ?_
    rintro e w1 ⟨g, hgB, rfl, hb1, hst⟩
    have hbw1 : Below w.heap.size w w1 := ((Below.refl _ w).alloc (Nat.le_refl _) _).trans (hb1.mono (by simp))
    clear hb1 hgB hst
    have hr1 := hr.over hbw1 (Nat.le_refl _)
    go_wp2_with fail
    refine (list_any A n c l w1 hr1 (HG.out.below hbw1)).mono ?_
    rintro e w2 (⟨hff, rfl, hb2⟩ | ⟨_, T, v, rfl, hb2⟩)
    · exact absurd hff hf
    · go_wp2_with fail
      go_ret2
      exact ⟨T, v, rfl, hbw1.trans (hb2.mono hbw1.size)⟩
  · clear h
    have hnew := fun W => new_no k W hk
    obtain ⟨kb, kt, kr⟩ := k
    unfold bkV at hnew ⊢
    dsimp only at hnew ⊢
    have HNW := Lib.hid hnew
    clear hnew
    go_enter Tryd.func21, Tryd.ntmps21
    go_wp2_with fail
    refine (HNW.out _).mono ?_
    rintro e w1 ⟨j, rfl, hb1⟩
    go_wp2_with fail
    go_ret2
    exact ⟨_, _, rfl, ((Below.refl _ w).alloc (Nat.le_refl _) _).trans (hb1.mono (by simp))⟩
end Go.Proofs.YtdhojhgmaodifaaDoor
