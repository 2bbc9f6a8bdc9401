/-
  What plain.Times does: when steps are done.
-/
import Derived.Test.YtdhojhgmaodifaaDoorLose
import Derived.Test.YtdhojhgmaodifaaDoorItemC
namespace Go.Proofs.YtdhojhgmaodifaaDoor
open Go.RowKit Bkt
set_option linter.unusedVariables false

def stCells (t : Pl.Stp) : List Value := [.int .i64 t.what, .int .i64 t.later, .int .i64 t.it.at_, .int .i64 t.it.len, .int .i64 t.it.flow, .int .i64 t.it.band, .int .i64 t.it.mark]
def StR : Rec Pl.Stp := ⟨7, stCells, fun _ => rfl, by decide, ⟨0, 0, It.zero⟩⟩
theorem st_one (t : Pl.Stp) : ∀ u ∈ stCells t, u.oneCell' = true := by
  intro u hu
  simp [stCells] at hu
  rcases hu with rfl | rfl | rfl | rfl | rfl | rfl | rfl <;> rfl
theorem Tryd.stepInfo : (Tryd.prog.info? 82).map (fun i => (i.zero, i.size, i.bytes)) = some (some (.agg #[.int .i64 0, .int .i64 0, .int .i64 0, .int .i64 0, .int .i64 0, .int .i64 0, .int .i64 0]), 7, 56) := by kernel_rfl
/-- a step of a row: its cells -/
theorem rdSt_at {w : World} {B b off n : Nat} {l : List Pl.Stp} (h : RdR StR w B (some ⟨b, off, none⟩) n l) {k : Nat} (hk : k < n) :
    w.cell? ⟨b, off + k * 7, none⟩ = some (.int .i64 (ixR StR l k).what) ∧ w.cell? ⟨b, off + k * 7 + 1, none⟩ = some (.int .i64 (ixR StR l k).later) ∧ w.cell? ⟨b, off + k * 7 + 2, none⟩ = some (.int .i64 (ixR StR l k).it.at_) ∧ w.cell? ⟨b, off + k * 7 + 3, none⟩ = some (.int .i64 (ixR StR l k).it.len) ∧ w.cell? ⟨b, off + k * 7 + 4, none⟩ = some (.int .i64 (ixR StR l k).it.flow) ∧
    w.cell? ⟨b, off + k * 7 + 5, none⟩ = some (.int .i64 (ixR StR l k).it.band) ∧ w.cell? ⟨b, off + k * 7 + 6, none⟩ = some (.int .i64 (ixR StR l k).it.mark) := by
  have ha := fun j u => h.all hk j u
  refine ⟨?_, ?_, ?_, ?_, ?_, ?_, ?_⟩
  · have := ha 0 _ rfl; rw [Nat.add_zero] at this; exact this
  · have := ha 1 _ rfl; rw [← Nat.add_assoc] at this; exact this
  · have := ha 2 _ rfl; rw [← Nat.add_assoc] at this; exact this
  · have := ha 3 _ rfl; rw [← Nat.add_assoc] at this; exact this
  · have := ha 4 _ rfl; rw [← Nat.add_assoc] at this; exact this
  · have := ha 5 _ rfl; rw [← Nat.add_assoc] at this; exact this
  · have := ha 6 _ rfl; rw [← Nat.add_assoc] at this; exact this
theorem okB_fine {x : It} : Pl.okB x = true ↔ ItFine x := by
  unfold Pl.okB
  rw [decide_eq_true_iff]
  constructor
  · rintro ⟨a, b, c, d, e, f, g, h, i, j⟩
    exact ⟨⟨a, b⟩, ⟨c, d⟩, ⟨e, by omega⟩, ⟨g, by omega⟩, ⟨i, j⟩⟩
  · rintro ⟨⟨a, b⟩, ⟨c, d⟩, ⟨e, f⟩, ⟨g, h⟩, ⟨i, j⟩⟩
    exact ⟨a, b, c, d, e, by omega, g, by omega, i, j⟩

theorem OwnW.setCell {w : World} {base e size n : Nat} {v : Value} {xs : List Value} (h : OwnW w base e size v n xs) {p : Addr} (hne : v.ownBlock ≠ some p.block) (u : Value) : OwnW (w.setCell p u) base e size v n xs :=
  h.chg (S := fun i => i = p.block) (Chg.setCell (S := fun i => i = p.block) (p := p) (Chg.refl w _) (fun _ => rfl) u) (fun i hi e => hne (by rw [hi, e]))
def TimesOut (w : World) (l : List Pl.Stp) (e : Ending) (w' : World) : Prop :=
  ∃ A c, e = .returned (.slice A l.length c) ∧ RdR StR w' w'.heap.size A l.length l ∧ Below w.heap.size w w' ∧ ∀ ad, A = some ad → w.heap.size ≤ ad.block
structure TimesRel (w wr : World) (l : List Pl.Stp) (k : Nat) (v : Value) : Prop where
  own : OwnW wr w.heap.size 82 7 v k ((Pl.timesTo l k).flatMap StR.cells)
  bel : Below w.heap.size w wr

set_option maxHeartbeats 2000000 in
set_option maxRecDepth 100000 in
theorem times_any (A : Option Addr) (n c : Nat) (l : List Pl.Stp) (w : World) (hr : RdR StR w w.heap.size A n l) (hn : n ≤ 1000) :
    Calls Tryd.prog 39 #[.slice A n c] w (TimesOut w (Pl.timesTo l n)) := by
  have hll := hr.len
  have hrel0 : TimesRel w w l 0 (.slice none 0 0) := ⟨OwnW.nil _ _ _ _, Below.refl _ _⟩
  have H0 := Lib.hid hrel0; have HLL := Lib.hid hll
  clear hrel0 hll
  go_enter Tryd.func39, Tryd.ntmps39
  go_wp2_with fail
  go_loopw [3, 4, 9] (fun v now i wr => ∃ k : Nat, k ≤ n ∧ i = .int .i64 k ∧ now = .int .i64 (Pl.nowAt l k) ∧ TimesRel w wr l k v) (fun _ _ i _ => n - (intOf i).toNat)
  case atStart => exact ⟨0, Nat.zero_le _, rfl, rfl, H0.out⟩
  case round =>
    obtain ⟨k, hk, rfl, rfl, hrel⟩ := hrel
    have HREL := Lib.hid hrel
    clear hrel
    by_cases hlt : k < n
    · obtain ⟨b, off, rfl, hbB⟩ := hr.addr hlt
      obtain ⟨c0, c1, c2, c3, c4, c5, c6⟩ := rdSt_at hr hlt
      have hcell := fun j => HREL.out.bel.cell (p := ⟨b, j, none⟩) hbB
      have d0 := (hcell _).trans c0; have d1 := (hcell _).trans c1; have d2 := (hcell _).trans c2; have d3 := (hcell _).trans c3; have d4 := (hcell _).trans c4; have d5 := (hcell _).trans c5; have d6 := (hcell _).trans c6
      have i1 : (k : Int) < (n : Int) := by omega
      have hnb := Pl.nowAt_bd l k
      have hnb2 := Pl.nowAt_bd l (k + 1)
      have hnx : Pl.nowAt l (k + 1) = Pl.nowAt l k + Pl.clampL (ixR StR l k).later := by
        rw [Pl.nowAt, List.getElem?_eq_getElem (show k < l.length by have := HLL.out; omega)]
        simp [ixR, List.getD, List.getElem?_eq_getElem (show k < l.length by have := HLL.out; omega)]
      have hsn : Pl.timesTo l (k + 1) = Pl.timesTo l k ++ [Pl.timed (Pl.nowAt l (k + 1)) (ixR StR l k)] := by
        rw [Pl.timesTo, List.getElem?_eq_getElem (show k < l.length by have := HLL.out; omega)]
        simp [ixR, List.getD, List.getElem?_eq_getElem (show k < l.length by have := HLL.out; omega)]
      have HNX := Lib.hid hnx; have HSN := Lib.hid hsn
      clear hcell c0 c1 c2 c3 c4 c5 c6 hnx hsn
      generalize ixR StR l k = s at *
      obtain ⟨sw, sl, ⟨sa, sn, sf, sb, sm⟩⟩ := s
      dsimp only at d0 d1 d2 d3 d4 d5 d6 HNX HSN
      have hsz := HREL.out.bel.size
      obtain ⟨A1, c1, rfl, _, _, _⟩ := HREL.out.own.reads
      generalize Pl.nowAt l k = nw at *
      have hcl : Pl.clampL sl = 0 ∧ sl ≤ 0 ∨ Pl.clampL sl = sl ∧ 0 < sl ∧ sl ≤ 1000 ∨ Pl.clampL sl = 1000 ∧ 1000 < sl := by unfold Pl.clampL; omega
      have hstep : ∀ y v' w3, Pl.timed (nw + Pl.clampL sl) ⟨sw, sl, ⟨sa, sn, sf, sb, sm⟩⟩ = y → OwnW w3 w.heap.size 82 7 v' (k + 1) ((Pl.timesTo l k ++ [y]).flatMap StR.cells) → Below w.heap.size w w3 → TimesRel w w3 l (k + 1) v' := fun y v' w3 e h1 h2 =>
        ⟨by rw [HSN.out, HNX.out, e]; exact h1, h2⟩
      have HST := Lib.hid hstep
      have hlo := fun i hi => (HREL.out.own.lt i hi).1
      have HLO := Lib.hid hlo
      clear hstep hlo
      by_cases h0 : sw = 0
      · subst h0
        by_cases hf : Pl.okB ⟨nw + Pl.clampL sl, sn, sf, sb, sm⟩ = true
        · have hty : ∀ z, z = nw + Pl.clampL sl → Pl.timed (nw + Pl.clampL sl) ⟨0, sl, ⟨sa, sn, sf, sb, sm⟩⟩ = ⟨0, z, ⟨z, sn, sf, sb, sm⟩⟩ := fun z e => by
            subst e; unfold Pl.timed; dsimp only; rw [if_neg (fun h => by rw [hf] at h; cases h.2)]
          have hit : ∀ z, z = nw + Pl.clampL sl → ItFine ⟨z, sn, sf, sb, sm⟩ := fun z e => by subst e; exact okB_fine.1 hf
          have HTY := Lib.hid hty; have HIT := Lib.hid hit; clear hty hit hf
          rcases hcl with ⟨e1, e2⟩ | ⟨e1, e2, e3⟩ | ⟨e1, e2⟩
          all_goals
            have E1 := Lib.hid e1; clear e1
            go_wp2_with fail
            refine (item_yes ⟨_, sn, sf, sb, sm⟩ _ (HIT.out _ (by have b := E1.out; omega))).mono ?_
            rintro e w2 ⟨rfl, hb2⟩
            have hk2 := (Blk.new wr _ _).below hb2 (Blk.new wr _ _).lt
            have z0 := hk2.cell 0; have z1 := hk2.cell 1; have z2 := hk2.cell 2; have z3 := hk2.cell 3; have z4 := hk2.cell 4; have z5 := hk2.cell 5; have z6 := hk2.cell 6
            simp at z0 z1 z2 z3 z4 z5 z6
            have hs2 := hb2.size
            simp at hs2
            have hown := (HREL.out.own.alloc _).below hb2
            have hbw := (HREL.out.bel.alloc hsz _).trans (hb2.mono (by simp; omega))
            have HOWN := Lib.hid hown; have HBW := Lib.hid hbw
            clear hk2 hb2 hown hbw
            go_wp2_with (at_builtin; go_must (refine wpList_addW StR rfl (.tmp 34) (.tmp 36) _ w.heap.size 82 _ 56 Tryd.underlying70 Tryd.stepInfo rfl rfl _ k (Pl.timesTo l k) ⟨_, _, ⟨_, sn, sf, sb, sm⟩⟩ _ HOWN.out rfl rfl rfl (st_one _) (by omega) (by omega) (by omega) ?_); intro v' w3 h1 h2 h3)
            refine ⟨⟨k + 1, by omega, by go_num, congrArg (Value.int .i64) (by have a := HNX.out; have b := E1.out; omega), HST.out _ _ _ (HTY.out _ (by have b := E1.out; omega)) h1 ?_⟩, by simp [intOf]; omega⟩
            exact HBW.out.grown h2 (by omega) HLO.out
        · have hty : ∀ z, z = nw + Pl.clampL sl → Pl.timed (nw + Pl.clampL sl) ⟨0, sl, ⟨sa, sn, sf, sb, sm⟩⟩ = ⟨2, z, ⟨z, sn, sf, sb, sm⟩⟩ := fun z e => by
            subst e; unfold Pl.timed; dsimp only; rw [if_pos ⟨rfl, by simpa using hf⟩]
          have hit : ∀ z, z = nw + Pl.clampL sl → ¬ ItFine ⟨z, sn, sf, sb, sm⟩ := fun z e h => by subst e; exact hf (okB_fine.2 h)
          have HTY := Lib.hid hty; have HIT := Lib.hid hit; clear hty hit hf
          rcases hcl with ⟨e1, e2⟩ | ⟨e1, e2, e3⟩ | ⟨e1, e2⟩
          all_goals
            have E1 := Lib.hid e1; clear e1
            go_wp2_with fail
            refine (item_no ⟨_, sn, sf, sb, sm⟩ _ (HIT.out _ (by have b := E1.out; omega))).mono ?_
            rintro e w2 ⟨ke, rfl, hb2⟩
            have hk2 := (Blk.new wr _ _).below hb2 (Blk.new wr _ _).lt
            have f0 := hk2.frozen 0
            have z0 := hk2.cell 0; have z1 := hk2.cell 1; have z2 := hk2.cell 2; have z3 := hk2.cell 3; have z4 := hk2.cell 4; have z5 := hk2.cell 5; have z6 := hk2.cell 6
            simp at z0 z1 z2 z3 z4 z5 z6
            have hs2 := hb2.size
            simp at hs2
            have hown := ((HREL.out.own.alloc _).below hb2).setCell (p := ⟨wr.heap.size, 0, none⟩) (by
              intro e
              have := (HREL.out.own.lt _ e).2
              simp at this) (.int .i64 2)
            have hbw := ((HREL.out.bel.alloc hsz _).trans (hb2.mono (by simp; omega))).setCell (p := ⟨wr.heap.size, 0, none⟩) hsz (.int .i64 2)
            have HOWN := Lib.hid hown; have HBW := Lib.hid hbw
            have n1 : wr.heap.size ≠ w2.heap.size := by omega
            have n2 : w2.heap.size ≠ wr.heap.size := by omega
            have n3 : wr.heap.size < w2.heap.size := by omega
            clear hk2 hb2 hown hbw
            go_wp2_with (at_builtin; go_must (refine wpList_addW StR rfl (.tmp 34) (.tmp 36) _ w.heap.size 82 _ 56 Tryd.underlying70 Tryd.stepInfo rfl rfl _ k (Pl.timesTo l k) ⟨_, _, ⟨_, sn, sf, sb, sm⟩⟩ _ HOWN.out rfl rfl (by show Value.slice (some ⟨w2.heap.size, 0, none⟩) 1 1 = _; simp) (st_one _) (by omega) (by omega) (by simp; omega) ?_); intro v' w3 h1 h2 h3)
            refine ⟨⟨k + 1, by omega, by go_num, congrArg (Value.int .i64) (by have a := HNX.out; have b := E1.out; omega), HST.out _ _ _ (HTY.out _ (by have b := E1.out; omega)) h1 ?_⟩, by simp [intOf]; omega⟩
            exact HBW.out.grown h2 (by simp; omega) HLO.out
      · have hty : ∀ z, z = nw + Pl.clampL sl → Pl.timed (nw + Pl.clampL sl) ⟨sw, sl, ⟨sa, sn, sf, sb, sm⟩⟩ = ⟨sw, z, ⟨z, sn, sf, sb, sm⟩⟩ := fun z e => by
          subst e; unfold Pl.timed; dsimp only; rw [if_neg (fun h => h0 h.1)]
        have HTY := Lib.hid hty; clear hty
        have hown := fun X => HREL.out.own.alloc X
        have HOWN := Lib.hid hown; clear hown
        have t0 : (sw == 0) = false := by simpa using h0
        rcases hcl with ⟨e1, e2⟩ | ⟨e1, e2, e3⟩ | ⟨e1, e2⟩
        all_goals
          have E1 := Lib.hid e1; clear e1
          go_wp2_with (at_builtin; go_must (refine wpList_addW StR rfl (.tmp 34) (.tmp 36) _ w.heap.size 82 _ 56 Tryd.underlying70 Tryd.stepInfo rfl rfl _ k (Pl.timesTo l k) ⟨_, _, ⟨_, sn, sf, sb, sm⟩⟩ _ (HOWN.out _) rfl rfl (by show Value.slice (some ⟨wr.heap.size + 1, 0, none⟩) 1 1 = _; simp) (st_one _) (by omega) (by omega) (by simp; omega) ?_); intro v' w3 h1 h2 h3)
          refine ⟨⟨k + 1, by omega, by go_num, congrArg (Value.int .i64) (by have a := HNX.out; have b := E1.out; omega), HST.out _ _ _ (HTY.out _ (by have b := E1.out; omega)) h1 ?_⟩, by simp [intOf]; omega⟩
          exact (HREL.out.bel.alloc hsz _).grown h2 (by simp; omega) HLO.out
    · obtain rfl : k = n := by omega
      obtain ⟨A1, c1, rfl, _, _, hrd⟩ := HREL.out.own.reads
      have hlk : (Pl.timesTo l k).length = k := Pl.timesTo_len l k (by have := HLL.out; omega)
      have hfin : TimesOut w (Pl.timesTo l k) (.returned (.slice A1 k c1)) wr := by
        refine ⟨A1, c1, by rw [hlk], by rw [hlk]; exact hrd, HREL.out.bel, fun ad ha => ?_⟩
        obtain ⟨g, o, _⟩ := ad
        subst ha
        exact (HREL.out.own.lt g rfl).1
      have HFIN := Lib.hid hfin; clear hfin hrd hlk
      go_wp2_with fail
      go_ret
      exact HFIN.out
end Go.Proofs.YtdhojhgmaodifaaDoor
