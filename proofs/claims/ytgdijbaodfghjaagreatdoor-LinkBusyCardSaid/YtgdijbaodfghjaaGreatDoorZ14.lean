/-
  Texts of this claim, one behind the other: Lose, Times, QImp, PlayRel, LeftOut, FifoImp, FfoInv, RndLaw, OrdLaw, HshLaw, HshPlay, Both.
-/
import Derived.Test.YtgdijbaodfghjaaGreatDoorZ13
import Derived.Handy
import Derived.Test.YtgdijbaodfghjaaGreatDoorZ02
import Derived.Test.YtgdijbaodfghjaaGreatDoorZ01
/-
  What a play's inner function does: the numbers of what was thrown away are put behind.
-/
namespace Go.Proofs.YtgdijbaodfghjaaGreatDoor
open Go.RowKit Bkt
set_option linter.unusedVariables false

def IntR : Rec Int := ⟨1, fun x => [.int .i64 x], fun _ => rfl, by decide, 0⟩
theorem intR_flat (l : List Int) : l.flatMap IntR.cells = l.map (Value.int .i64) := by
  induction l with
  | nil => rfl
  | cons x r ih => rw [List.flatMap_cons, ih]; rfl
theorem rdI_of_rdR {w : World} {B n : Nat} {A : Option Addr} {l : List Int} (h : RdR IntR w B A n l) : RdI w B A n l := by
  unfold RdI; rw [← intR_flat]; exact h
theorem int_one (x : Int) : ∀ u ∈ IntR.cells x, u.oneCell' = true := by
  intro u hu
  simp [IntR] at hu
  subst hu; rfl
theorem Tryz.intRInfo : (Tryz.prog.info? 3).map (fun i => (i.zero, i.size, i.bytes)) = some (some (.int .i64 0), 1, 8) := by kernel_rfl
theorem rdHd_at {w : World} {B b off n : Nat} {l : List Hd} (h : RdR HdR w B (some ⟨b, off, none⟩) n l) {k : Nat} (hk : k < n) :
    w.cell? ⟨b, off + k * 6, none⟩ = some (.int .i64 (ixR HdR l k).it.at_) ∧ w.cell? ⟨b, off + k * 6 + 1, none⟩ = some (.int .i64 (ixR HdR l k).it.len) ∧ w.cell? ⟨b, off + k * 6 + 2, none⟩ = some (.int .i64 (ixR HdR l k).it.flow) ∧
    w.cell? ⟨b, off + k * 6 + 3, none⟩ = some (.int .i64 (ixR HdR l k).it.band) ∧ w.cell? ⟨b, off + k * 6 + 4, none⟩ = some (.int .i64 (ixR HdR l k).it.mark) ∧ w.cell? ⟨b, off + k * 6 + 5, none⟩ = some (.int .i64 (ixR HdR l k).num) := by
  have ha := fun j u => h.all hk j u
  refine ⟨?_, ?_, ?_, ?_, ?_, ?_⟩
  · have := ha 0 _ rfl; rw [Nat.add_zero] at this; exact this
  · have := ha 1 _ rfl; rw [← Nat.add_assoc] at this; exact this
  · have := ha 2 _ rfl; rw [← Nat.add_assoc] at this; exact this
  · have := ha 3 _ rfl; rw [← Nat.add_assoc] at this; exact this
  · have := ha 4 _ rfl; rw [← Nat.add_assoc] at this; exact this
  · have := ha 5 _ rfl; rw [← Nat.add_assoc] at this; exact this

def LoseOut (w : World) (gx : Nat) (a0 a1 a2 a3 a4 : Value) (nums : List Int) (e : Ending) (w' : World) : Prop :=
  e = .returned (.tuple #[]) ∧ ∃ A c, Blk w' gx 67 #[a0, a1, a2, a3, a4, .slice A nums.length c] ∧ RdI w' w'.heap.size A nums.length nums ∧ Chg w w' (· = gx) ∧ ∀ ad, A = some ad → w.heap.size ≤ ad.block ∧ ad.block < w'.heap.size
structure LoseRel (w wr : World) (gx : Nat) (a0 a1 a2 a3 a4 : Value) (nums : List Int) (k : Nat) (lv : Value) : Prop where
  len : nums.length = k
  blk : Blk wr gx 67 #[a0, a1, a2, a3, a4, lv]
  own : OwnW wr w.heap.size 3 1 lv k (nums.flatMap IntR.cells)
  chg : Chg w wr (· = gx)
theorem take_snoc' {α : Type} (R : Rec α) (l : List α) (k : Nat) (h : k < l.length) : l.take (k + 1) = l.take k ++ [ixR R l k] := by
  rw [List.take_add_one, List.getElem?_eq_getElem h]
  simp [ixR, List.getD, List.getElem?_eq_getElem h]

set_option maxHeartbeats 1000000 in
set_option maxRecDepth 100000 in
theorem lose_any (A : Option Addr) (n c : Nat) (l : List Hd) (gx : Nat) (a0 a1 a2 a3 a4 : Value) (w : World) (hr : RdR HdR w w.heap.size A n l) (hk : Blk w gx 67 #[a0, a1, a2, a3, a4, .slice none 0 0]) (hne : ∀ ad, A = some ad → ad.block ≠ gx) (hn : n ≤ 100000) :
    Calls Tryz.prog 26 #[.slice A n c, .pointer (some ⟨gx, 0, none⟩)] w (LoseOut w gx a0 a1 a2 a3 a4 (l.map Hd.num)) := by
  have hll := hr.len
  have hgx := hk.lt
  have hrel0 : LoseRel w w gx a0 a1 a2 a3 a4 ((l.take 0).map Hd.num) 0 (.slice none 0 0) := ⟨rfl, hk, OwnW.nil _ _ _ _, Chg.refl _ _⟩
  have H0 := Lib.hid hrel0; have HNE := Lib.hid hne; have HLL := Lib.hid hll
  clear hk hrel0 hne hll
  go_enter Tryz.func26, Tryz.ntmps26
  go_wp2_with fail
  go_loopw [7] (fun i wr => ∃ (k : Nat) (lv : Value), k ≤ n ∧ i = .int .i64 k ∧ LoseRel w wr gx a0 a1 a2 a3 a4 ((l.take k).map Hd.num) k lv) (fun i _ => n - (intOf i).toNat)
  case atStart => exact ⟨0, _, Nat.zero_le _, rfl, H0.out⟩
  case round =>
    obtain ⟨k, lv, hk, rfl, hrel⟩ := hrel
    have HREL := Lib.hid hrel
    clear hrel
    by_cases hlt : k < n
    · obtain ⟨b, off, rfl, hbB⟩ := hr.addr hlt
      have hc := rdHd_at hr hlt
      have hbx : b ≠ gx := HNE.out _ rfl
      have hcc : ∀ j, HREL.out.chg.cell (p := ⟨b, j, none⟩) hbB hbx = HREL.out.chg.cell (p := ⟨b, j, none⟩) hbB hbx := fun _ => rfl
      have hcell := fun j => HREL.out.chg.cell (p := ⟨b, j, none⟩) hbB hbx
      obtain ⟨c0, c1, c2, c3, c4, c5⟩ := hc
      have d0 := (hcell _).trans c0; have d1 := (hcell _).trans c1; have d2 := (hcell _).trans c2; have d3 := (hcell _).trans c3; have d4 := (hcell _).trans c4; have d5 := (hcell _).trans c5
      have e5 := HREL.out.blk.cell 5
      have f5 := HREL.out.blk.frozen 5
      simp at e5
      have i1 : (k : Int) < (n : Int) := by omega
      clear hcc hcell c0 c1 c2 c3 c4 c5
      generalize hy : ixR HdR l k = y at *
      have HY := Lib.hid hy; clear hy
      have hsz := HREL.out.chg.size
      have n1 : wr.heap.size ≠ gx := by omega
      have n2 : gx ≠ wr.heap.size := by omega
      have n3 : gx < wr.heap.size := by omega
      obtain ⟨A1, c1, rfl, _, _, _⟩ := HREL.out.own.reads
      have hown := HREL.out.own.alloc (.cells #[.int .i64 y.it.at_, .int .i64 y.it.len, .int .i64 y.it.flow, .int .i64 y.it.band, .int .i64 y.it.mark, .int .i64 y.num] 78)
      have hnx : (l.take (k + 1)).map Hd.num = (l.take k).map Hd.num ++ [y.num] := by
        rw [take_snoc' HdR l k (by have := HLL.out; omega), HY.out, List.map_append]; rfl
      have HOWN := Lib.hid hown; have HNX := Lib.hid hnx
      clear hown hnx
      have hnb : (Value.slice A1 k c1).ownBlock ≠ some gx := HREL.out.own.blk_ne HREL.out.blk (by decide)
      have HNB := Lib.hid hnb; clear hnb
      go_wp2_with (at_builtin; go_must (refine wpList_addW IntR rfl (.tmp 12) (.tmp 15) _ w.heap.size 3 _ 8 Tryz.underlying26 Tryz.intRInfo rfl rfl _ _ ((l.take k).map Hd.num) y.num _ HOWN.out rfl rfl (by show Value.slice (some ⟨wr.heap.size + 1, 0, none⟩) 1 1 = _; simp) (int_one _) (by omega) (by omega) (by simp; omega) ?_); intro v' w3 h1 h2 h3; obtain ⟨A2, c2, rfl, _, _, _⟩ := h1.reads; have hb3 := (HREL.out.blk.alloc _).grown h2 (fun e => HNB.out e.symm); have z5 := hb3.cell 5; have zf := hb3.frozen 5; simp at z5; have H1 := Lib.hid h1; have H2 := Lib.hid h2; have H3 := Lib.hid h3; have HB3 := Lib.hid hb3; clear h1 h2 h3 hb3)
      have hfin : LoseRel w (w3.setCell ⟨gx, 5, none⟩ (.slice A2 (k + 1) c2)) gx a0 a1 a2 a3 a4 ((l.take (k + 1)).map Hd.num) (k + 1) (.slice A2 (k + 1) c2) := by
        rw [HNX.out]
        have hne2 : (Value.slice A2 (k + 1) c2).ownBlock ≠ some gx := H1.out.blk_ne HB3.out (by decide)
        refine ⟨by have := HREL.out.len; simp at this ⊢; omega, HB3.out.set_ 5 _, H1.out.chg (S := fun i => i = gx) ((Chg.refl _ (fun i => i = gx)).setCell (p := ⟨gx, 5, none⟩) (fun _ => rfl) _) (fun i hi e => hne2 (e ▸ hi)), ?_⟩
        refine Chg.setCell (S := fun i => i = gx) (p := ⟨gx, 5, none⟩) ?_ (fun _ => rfl) _
        refine ((HREL.out.chg.alloc _).trans (Chg.of_grown (S := fun i => (Value.slice A1 k c1).ownBlock = some i) H2.out (fun i hi => hi.symm)) (fun i hi hs => ?_))
        have := (HREL.out.own.lt i hs).1
        omega
      have HFIN := Lib.hid hfin; clear hfin
      go_roundw
      case rel => exact ⟨k + 1, _, by omega, by go_num, HFIN.out⟩
      case measure => simp [intOf]; omega
    · obtain rfl : k = n := by omega
      have hfin : LoseOut w gx a0 a1 a2 a3 a4 (l.map Hd.num) (.returned (.tuple #[])) wr := by
        obtain ⟨A1, c1, rfl, _, _, hrd⟩ := HREL.out.own.reads
        have e : (l.take k).map Hd.num = l.map Hd.num := by rw [List.take_of_length_le (by have := HLL.out; omega)]
        have hl := HREL.out.len
        rw [e] at hl hrd
        refine ⟨rfl, A1, c1, by rw [hl]; exact HREL.out.blk, by rw [hl]; exact rdI_of_rdR hrd, HREL.out.chg, fun ad ha => ?_⟩
        obtain ⟨g, o, _⟩ := ad
        subst ha
        exact HREL.out.own.lt g rfl
      have HFIN := Lib.hid hfin; clear hfin
      go_wp2_with fail
      exact bodyPost_end (results_none rfl _ _ _) rfl HFIN.out
end Go.Proofs.YtgdijbaodfghjaaGreatDoor

/-
  What plain.Times does: when steps are done.
-/
namespace Go.Proofs.YtgdijbaodfghjaaGreatDoor
open Go.RowKit Bkt
set_option linter.unusedVariables false

def stCells (t : Pl.Stp) : List Value := [.int .i64 t.what, .int .i64 t.later, .int .i64 t.it.at_, .int .i64 t.it.len, .int .i64 t.it.flow, .int .i64 t.it.band, .int .i64 t.it.mark]
def StR : Rec Pl.Stp := ⟨7, stCells, fun _ => rfl, by decide, ⟨0, 0, It.zero⟩⟩
theorem st_one (t : Pl.Stp) : ∀ u ∈ stCells t, u.oneCell' = true := by
  intro u hu
  simp [stCells] at hu
  rcases hu with rfl | rfl | rfl | rfl | rfl | rfl | rfl <;> rfl
theorem Tryz.stepInfo : (Tryz.prog.info? 65).map (fun i => (i.zero, i.size, i.bytes)) = some (some (.agg #[.int .i64 0, .int .i64 0, .int .i64 0, .int .i64 0, .int .i64 0, .int .i64 0, .int .i64 0]), 7, 56) := by kernel_rfl
theorem rdSt_at {w : World} {B b off n : Nat} {l : List Pl.Stp} (h : RdR StR w B (some ⟨b, off, none⟩) n l) {k : Nat} (hk : k < n) :
    w.cell? ⟨b, off + k * 7, none⟩ = some (.int .i64 (ixR StR l k).what) ∧ w.cell? ⟨b, off + k * 7 + 1, none⟩ = some (.int .i64 (ixR StR l k).later) ∧ w.cell? ⟨b, off + k * 7 + 2, none⟩ = some (.int .i64 (ixR StR l k).it.at_) ∧ w.cell? ⟨b, off + k * 7 + 3, none⟩ = some (.int .i64 (ixR StR l k).it.len) ∧ w.cell? ⟨b, off + k * 7 + 4, none⟩ = some (.int .i64 (ixR StR l k).it.flow) ∧
    w.cell? ⟨b, off + k * 7 + 5, none⟩ = some (.int .i64 (ixR StR l k).it.band) ∧ w.cell? ⟨b, off + k * 7 + 6, none⟩ = some (.int .i64 (ixR StR l k).it.mark) := by
  have ha := fun j u => h.all hk j u
  refine ⟨?_, ?_, ?_, ?_, ?_, ?_, ?_⟩
  · have := ha 0 _ rfl; rw [Nat.add_zero] at this; exact this
  · have := ha 1 _ rfl; rw [← Nat.add_assoc] at this; exact this
  · have := ha 2 _ rfl; rw [← Nat.add_assoc] at this; exact this
  · have := ha 3 _ rfl; rw [← Nat.add_assoc] at this; exact this
  · have := ha 4 _ rfl; rw [← Nat.add_assoc] at this; exact this
  · have := ha 5 _ rfl; rw [← Nat.add_assoc] at this; exact this
  · have := ha 6 _ rfl; rw [← Nat.add_assoc] at this; exact this
theorem okB_fine {x : It} : Pl.okB x = true ↔ ItFine x := by
  unfold Pl.okB
  rw [decide_eq_true_iff]
  constructor
  · rintro ⟨a, b, c, d, e, f, g, h, i, j⟩
    exact ⟨⟨a, b⟩, ⟨c, d⟩, ⟨e, by omega⟩, ⟨g, by omega⟩, ⟨i, j⟩⟩
  · rintro ⟨⟨a, b⟩, ⟨c, d⟩, ⟨e, f⟩, ⟨g, h⟩, ⟨i, j⟩⟩
    exact ⟨a, b, c, d, e, by omega, g, by omega, i, j⟩

theorem OwnW.setCell {w : World} {base e size n : Nat} {v : Value} {xs : List Value} (h : OwnW w base e size v n xs) {p : Addr} (hne : v.ownBlock ≠ some p.block) (u : Value) : OwnW (w.setCell p u) base e size v n xs :=
  h.chg (S := fun i => i = p.block) (Chg.setCell (S := fun i => i = p.block) (p := p) (Chg.refl w _) (fun _ => rfl) u) (fun i hi e => hne (by rw [hi, e]))
def TimesOut (w : World) (l : List Pl.Stp) (e : Ending) (w' : World) : Prop :=
  ∃ A c, e = .returned (.slice A l.length c) ∧ RdR StR w' w'.heap.size A l.length l ∧ Below w.heap.size w w' ∧ ∀ ad, A = some ad → w.heap.size ≤ ad.block
structure TimesRel (w wr : World) (l : List Pl.Stp) (k : Nat) (v : Value) : Prop where
  own : OwnW wr w.heap.size 65 7 v k ((Pl.timesTo l k).flatMap StR.cells)
  bel : Below w.heap.size w wr

set_option maxHeartbeats 2000000 in
set_option maxRecDepth 100000 in
theorem times_any (A : Option Addr) (n c : Nat) (l : List Pl.Stp) (w : World) (hr : RdR StR w w.heap.size A n l) (hn : n ≤ 1000) :
    Calls Tryz.prog 24 #[.slice A n c] w (TimesOut w (Pl.timesTo l n)) := by
  have hll := hr.len
  have hrel0 : TimesRel w w l 0 (.slice none 0 0) := ⟨OwnW.nil _ _ _ _, Below.refl _ _⟩
  have H0 := Lib.hid hrel0; have HLL := Lib.hid hll
  clear hrel0 hll
  go_enter Tryz.func24, Tryz.ntmps24
  go_wp2_with fail
  go_loopw [3, 4, 9] (fun v now i wr => ∃ k : Nat, k ≤ n ∧ i = .int .i64 k ∧ now = .int .i64 (Pl.nowAt l k) ∧ TimesRel w wr l k v) (fun _ _ i _ => n - (intOf i).toNat)
  case atStart => exact ⟨0, Nat.zero_le _, rfl, rfl, H0.out⟩
  case round =>
    obtain ⟨k, hk, rfl, rfl, hrel⟩ := hrel
    have HREL := Lib.hid hrel
    clear hrel
    by_cases hlt : k < n
    · obtain ⟨b, off, rfl, hbB⟩ := hr.addr hlt
      obtain ⟨c0, c1, c2, c3, c4, c5, c6⟩ := rdSt_at hr hlt
      have hcell := fun j => HREL.out.bel.cell (p := ⟨b, j, none⟩) hbB
      have d0 := (hcell _).trans c0; have d1 := (hcell _).trans c1; have d2 := (hcell _).trans c2; have d3 := (hcell _).trans c3; have d4 := (hcell _).trans c4; have d5 := (hcell _).trans c5; have d6 := (hcell _).trans c6
      have i1 : (k : Int) < (n : Int) := by omega
      have hnb := Pl.nowAt_bd l k
      have hnb2 := Pl.nowAt_bd l (k + 1)
      have hnx : Pl.nowAt l (k + 1) = Pl.nowAt l k + Pl.clampL (ixR StR l k).later := by
        rw [Pl.nowAt, List.getElem?_eq_getElem (show k < l.length by have := HLL.out; omega)]
        simp [ixR, List.getD, List.getElem?_eq_getElem (show k < l.length by have := HLL.out; omega)]
      have hsn : Pl.timesTo l (k + 1) = Pl.timesTo l k ++ [Pl.timed (Pl.nowAt l (k + 1)) (ixR StR l k)] := by
        rw [Pl.timesTo, List.getElem?_eq_getElem (show k < l.length by have := HLL.out; omega)]
        simp [ixR, List.getD, List.getElem?_eq_getElem (show k < l.length by have := HLL.out; omega)]
      have HNX := Lib.hid hnx; have HSN := Lib.hid hsn
      clear hcell c0 c1 c2 c3 c4 c5 c6 hnx hsn
      generalize ixR StR l k = s at *
      obtain ⟨sw, sl, ⟨sa, sn, sf, sb, sm⟩⟩ := s
      dsimp only at d0 d1 d2 d3 d4 d5 d6 HNX HSN
      have hsz := HREL.out.bel.size
      obtain ⟨A1, c1, rfl, _, _, _⟩ := HREL.out.own.reads
      generalize Pl.nowAt l k = nw at *
      have hcl : Pl.clampL sl = 0 ∧ sl ≤ 0 ∨ Pl.clampL sl = sl ∧ 0 < sl ∧ sl ≤ 1000 ∨ Pl.clampL sl = 1000 ∧ 1000 < sl := by unfold Pl.clampL; omega
      have hstep : ∀ y v' w3, Pl.timed (nw + Pl.clampL sl) ⟨sw, sl, ⟨sa, sn, sf, sb, sm⟩⟩ = y → OwnW w3 w.heap.size 65 7 v' (k + 1) ((Pl.timesTo l k ++ [y]).flatMap StR.cells) → Below w.heap.size w w3 → TimesRel w w3 l (k + 1) v' := fun y v' w3 e h1 h2 =>
        ⟨by rw [HSN.out, HNX.out, e]; exact h1, h2⟩
      have HST := Lib.hid hstep
      have hlo := fun i hi => (HREL.out.own.lt i hi).1
      have HLO := Lib.hid hlo
      clear hstep hlo
      by_cases h0 : sw = 0
      · subst h0
        by_cases hf : Pl.okB ⟨nw + Pl.clampL sl, sn, sf, sb, sm⟩ = true
        · have hty : ∀ z, z = nw + Pl.clampL sl → Pl.timed (nw + Pl.clampL sl) ⟨0, sl, ⟨sa, sn, sf, sb, sm⟩⟩ = ⟨0, z, ⟨z, sn, sf, sb, sm⟩⟩ := fun z e => by
            subst e; unfold Pl.timed; dsimp only; rw [if_neg (fun h => by rw [hf] at h; cases h.2)]
          have hit : ∀ z, z = nw + Pl.clampL sl → ItFine ⟨z, sn, sf, sb, sm⟩ := fun z e => by subst e; exact okB_fine.1 hf
          have HTY := Lib.hid hty; have HIT := Lib.hid hit; clear hty hit hf
          rcases hcl with ⟨e1, e2⟩ | ⟨e1, e2, e3⟩ | ⟨e1, e2⟩
          all_goals
            have E1 := Lib.hid e1; clear e1
            go_wp2_with fail
            refine (item_yes ⟨_, sn, sf, sb, sm⟩ _ (HIT.out _ (by have b := E1.out; omega))).mono ?_
            rintro e w2 ⟨rfl, hb2⟩
            have hk2 := (Blk.new wr _ _).below hb2 (Blk.new wr _ _).lt
            have z0 := hk2.cell 0; have z1 := hk2.cell 1; have z2 := hk2.cell 2; have z3 := hk2.cell 3; have z4 := hk2.cell 4; have z5 := hk2.cell 5; have z6 := hk2.cell 6
            simp at z0 z1 z2 z3 z4 z5 z6
            have hs2 := hb2.size
            simp at hs2
            have hown := (HREL.out.own.alloc _).below hb2
            have hbw := (HREL.out.bel.alloc hsz _).trans (hb2.mono (by simp; omega))
            have HOWN := Lib.hid hown; have HBW := Lib.hid hbw
            clear hk2 hb2 hown hbw
            go_wp2_with (at_builtin; go_must (refine wpList_addW StR rfl (.tmp 34) (.tmp 36) _ w.heap.size 65 _ 56 Tryz.underlying48 Tryz.stepInfo rfl rfl _ k (Pl.timesTo l k) ⟨_, _, ⟨_, sn, sf, sb, sm⟩⟩ _ HOWN.out rfl rfl rfl (st_one _) (by omega) (by omega) (by omega) ?_); intro v' w3 h1 h2 h3)
            refine ⟨⟨k + 1, by omega, by go_num, congrArg (Value.int .i64) (by have a := HNX.out; have b := E1.out; omega), HST.out _ _ _ (HTY.out _ (by have b := E1.out; omega)) h1 ?_⟩, by simp [intOf]; omega⟩
            exact HBW.out.grown h2 (by omega) HLO.out
        · have hty : ∀ z, z = nw + Pl.clampL sl → Pl.timed (nw + Pl.clampL sl) ⟨0, sl, ⟨sa, sn, sf, sb, sm⟩⟩ = ⟨2, z, ⟨z, sn, sf, sb, sm⟩⟩ := fun z e => by
            subst e; unfold Pl.timed; dsimp only; rw [if_pos ⟨rfl, by simpa using hf⟩]
          have hit : ∀ z, z = nw + Pl.clampL sl → ¬ ItFine ⟨z, sn, sf, sb, sm⟩ := fun z e h => by subst e; exact hf (okB_fine.2 h)
          have HTY := Lib.hid hty; have HIT := Lib.hid hit; clear hty hit hf
          rcases hcl with ⟨e1, e2⟩ | ⟨e1, e2, e3⟩ | ⟨e1, e2⟩
          all_goals
            have E1 := Lib.hid e1; clear e1
            go_wp2_with fail
            refine (item_no ⟨_, sn, sf, sb, sm⟩ _ (HIT.out _ (by have b := E1.out; omega))).mono ?_
            rintro e w2 ⟨ke, rfl, hb2⟩
            have hk2 := (Blk.new wr _ _).below hb2 (Blk.new wr _ _).lt
            have f0 := hk2.frozen 0
            have z0 := hk2.cell 0; have z1 := hk2.cell 1; have z2 := hk2.cell 2; have z3 := hk2.cell 3; have z4 := hk2.cell 4; have z5 := hk2.cell 5; have z6 := hk2.cell 6
            simp at z0 z1 z2 z3 z4 z5 z6
            have hs2 := hb2.size
            simp at hs2
            have hown := ((HREL.out.own.alloc _).below hb2).setCell (p := ⟨wr.heap.size, 0, none⟩) (by
              intro e
              have := (HREL.out.own.lt _ e).2
              simp at this) (.int .i64 2)
            have hbw := ((HREL.out.bel.alloc hsz _).trans (hb2.mono (by simp; omega))).setCell (p := ⟨wr.heap.size, 0, none⟩) hsz (.int .i64 2)
            have HOWN := Lib.hid hown; have HBW := Lib.hid hbw
            have n1 : wr.heap.size ≠ w2.heap.size := by omega
            have n2 : w2.heap.size ≠ wr.heap.size := by omega
            have n3 : wr.heap.size < w2.heap.size := by omega
            clear hk2 hb2 hown hbw
            go_wp2_with (at_builtin; go_must (refine wpList_addW StR rfl (.tmp 34) (.tmp 36) _ w.heap.size 65 _ 56 Tryz.underlying48 Tryz.stepInfo rfl rfl _ k (Pl.timesTo l k) ⟨_, _, ⟨_, sn, sf, sb, sm⟩⟩ _ HOWN.out rfl rfl (by show Value.slice (some ⟨w2.heap.size, 0, none⟩) 1 1 = _; simp) (st_one _) (by omega) (by omega) (by simp; omega) ?_); intro v' w3 h1 h2 h3)
            refine ⟨⟨k + 1, by omega, by go_num, congrArg (Value.int .i64) (by have a := HNX.out; have b := E1.out; omega), HST.out _ _ _ (HTY.out _ (by have b := E1.out; omega)) h1 ?_⟩, by simp [intOf]; omega⟩
            exact HBW.out.grown h2 (by simp; omega) HLO.out
      · have hty : ∀ z, z = nw + Pl.clampL sl → Pl.timed (nw + Pl.clampL sl) ⟨sw, sl, ⟨sa, sn, sf, sb, sm⟩⟩ = ⟨sw, z, ⟨z, sn, sf, sb, sm⟩⟩ := fun z e => by
          subst e; unfold Pl.timed; dsimp only; rw [if_neg (fun h => h0 h.1)]
        have HTY := Lib.hid hty; clear hty
        have hown := fun X => HREL.out.own.alloc X
        have HOWN := Lib.hid hown; clear hown
        have t0 : (sw == 0) = false := by simpa using h0
        rcases hcl with ⟨e1, e2⟩ | ⟨e1, e2, e3⟩ | ⟨e1, e2⟩
        all_goals
          have E1 := Lib.hid e1; clear e1
          go_wp2_with (at_builtin; go_must (refine wpList_addW StR rfl (.tmp 34) (.tmp 36) _ w.heap.size 65 _ 56 Tryz.underlying48 Tryz.stepInfo rfl rfl _ k (Pl.timesTo l k) ⟨_, _, ⟨_, sn, sf, sb, sm⟩⟩ _ (HOWN.out _) rfl rfl (by show Value.slice (some ⟨wr.heap.size + 1, 0, none⟩) 1 1 = _; simp) (st_one _) (by omega) (by omega) (by simp; omega) ?_); intro v' w3 h1 h2 h3)
          refine ⟨⟨k + 1, by omega, by go_num, congrArg (Value.int .i64) (by have a := HNX.out; have b := E1.out; omega), HST.out _ _ _ (HTY.out _ (by have b := E1.out; omega)) h1 ?_⟩, by simp [intOf]; omega⟩
          exact (HREL.out.bel.alloc hsz _).grown h2 (by simp; omega) HLO.out
    · obtain rfl : k = n := by omega
      obtain ⟨A1, c1, rfl, _, _, hrd⟩ := HREL.out.own.reads
      have hlk : (Pl.timesTo l k).length = k := Pl.timesTo_len l k (by have := HLL.out; omega)
      have hfin : TimesOut w (Pl.timesTo l k) (.returned (.slice A1 k c1)) wr := by
        refine ⟨A1, c1, by rw [hlk], by rw [hlk]; exact hrd, HREL.out.bel, fun ad ha => ?_⟩
        obtain ⟨g, o, _⟩ := ad
        subst ha
        exact (HREL.out.own.lt g rfl).1
      have HFIN := Lib.hid hfin; clear hfin hrd hlk
      go_wp2_with fail
      go_ret
      exact HFIN.out
end Go.Proofs.YtgdijbaodfghjaaGreatDoor

/-
  How a queue lies in memory, and what its methods do: what a play asks of it.
-/
namespace Go.Proofs.YtgdijbaodfghjaaGreatDoor
open Go.RowKit Bkt
set_option linter.unusedVariables false

def Meth (q : Value) (name : String) (f : FuncId) (r : Value) : Prop := ∀ (args : Array Value) (w : World), (callMethod q name args).run Tryz.prog w = .ok (.enter f (#[r] ++ args)) w
structure InOk (now : Int) (x : Hd) : Prop where
  ok : Pl.okB x.it = true
  at_ : x.it.at_ ≤ now
  n0 : 0 ≤ now
  n1 : now ≤ 1000000000
  m0 : 0 ≤ x.num
  m1 : x.num ≤ 1000000000
def PutOut {σ : Type} (inv : σ → Nat → (Nat → Prop) → World → Prop) (w : World) (F : Nat → Prop) (k : Nat) (r : List Hd × σ) (e : Ending) (w' : World) : Prop :=
  ∃ A n c F', e = .returned (.slice A n c) ∧ n ≤ 100000 ∧ RdR HdR w' w'.heap.size A n r.1 ∧ (∀ ad, A = some ad → F ad.block ∨ w.heap.size ≤ ad.block) ∧ inv r.2 k F' w' ∧ Chg w w' F ∧ ∀ i, F' i → F i ∨ w.heap.size ≤ i
def TakeOut {σ : Type} (inv : σ → Nat → (Nat → Prop) → World → Prop) (w : World) (F : Nat → Prop) (k : Nat) (r : Option Hd × List Hd × σ) (e : Ending) (w' : World) : Prop :=
  ∃ h A n c F', e = .returned (.tuple #[hdV h, .slice A n c, .bool r.1.isSome]) ∧ (∀ x, r.1 = some x → h = x) ∧ n ≤ 100000 ∧ RdR HdR w' w'.heap.size A n r.2.1 ∧ (∀ ad, A = some ad → F ad.block ∨ w.heap.size ≤ ad.block) ∧ inv r.2.2 k F' w' ∧ Chg w w' F ∧ ∀ i, F' i → F i ∨ w.heap.size ≤ i
def WhenOut {σ : Type} (inv : σ → Nat → (Nat → Prop) → World → Prop) (w : World) (F : Nat → Prop) (k : Nat) (r : Option Int × σ) (e : Ending) (w' : World) : Prop :=
  ∃ a F', e = .returned (.tuple #[.int .i64 a, .bool r.1.isSome]) ∧ (∀ x, r.1 = some x → a = x) ∧ inv r.2 k F' w' ∧ Chg w w' F ∧ ∀ i, F' i → F i ∨ w.heap.size ≤ i

theorem PutOut.ret {σ : Type} {inv : σ → Nat → (Nat → Prop) → World → Prop} {w : World} {F : Nat → Prop} {k : Nat} {r : List Hd × σ} : ∀ e w', PutOut inv w F k r e w' → ∃ v, e = .returned v := fun e w' ⟨_, _, _, _, h, _⟩ => ⟨_, h⟩
theorem TakeOut.ret {σ : Type} {inv : σ → Nat → (Nat → Prop) → World → Prop} {w : World} {F : Nat → Prop} {k : Nat} {r : Option Hd × List Hd × σ} : ∀ e w', TakeOut inv w F k r e w' → ∃ v, e = .returned v := fun e w' ⟨_, _, _, _, _, h, _⟩ => ⟨_, h⟩
theorem WhenOut.ret {σ : Type} {inv : σ → Nat → (Nat → Prop) → World → Prop} {w : World} {F : Nat → Prop} {k : Nat} {r : Option Int × σ} : ∀ e w', WhenOut inv w F k r e w' → ∃ v, e = .returned v := fun e w' ⟨_, _, h, _⟩ => ⟨_, h⟩
theorem PutOut.val {σ : Type} {inv : σ → Nat → (Nat → Prop) → World → Prop} {w w' : World} {F : Nat → Prop} {k : Nat} {r : List Hd × σ} {v : Value} (h : PutOut inv w F k r (.returned v) w') :
    ∃ A n c F', v = .slice A n c ∧ n ≤ 100000 ∧ RdR HdR w' w'.heap.size A n r.1 ∧ (∀ ad, A = some ad → F ad.block ∨ w.heap.size ≤ ad.block) ∧ inv r.2 k F' w' ∧ Chg w w' F ∧ ∀ i, F' i → F i ∨ w.heap.size ≤ i := by
  obtain ⟨A, n, c, F', e, h⟩ := h
  injection e with e
  exact ⟨A, n, c, F', e, h⟩
theorem TakeOut.val {σ : Type} {inv : σ → Nat → (Nat → Prop) → World → Prop} {w w' : World} {F : Nat → Prop} {k : Nat} {r : Option Hd × List Hd × σ} {v : Value} (h : TakeOut inv w F k r (.returned v) w') :
    ∃ h A n c F', v = .tuple #[hdV h, .slice A n c, .bool r.1.isSome] ∧ (∀ x, r.1 = some x → h = x) ∧ n ≤ 100000 ∧ RdR HdR w' w'.heap.size A n r.2.1 ∧ (∀ ad, A = some ad → F ad.block ∨ w.heap.size ≤ ad.block) ∧ inv r.2.2 k F' w' ∧ Chg w w' F ∧ ∀ i, F' i → F i ∨ w.heap.size ≤ i := by
  obtain ⟨h0, A, n, c, F', e, h⟩ := h
  injection e with e
  exact ⟨h0, A, n, c, F', e, h⟩
theorem WhenOut.val {σ : Type} {inv : σ → Nat → (Nat → Prop) → World → Prop} {w w' : World} {F : Nat → Prop} {k : Nat} {r : Option Int × σ} {v : Value} (h : WhenOut inv w F k r (.returned v) w') :
    ∃ a F', v = .tuple #[.int .i64 a, .bool r.1.isSome] ∧ (∀ x, r.1 = some x → a = x) ∧ inv r.2 k F' w' ∧ Chg w w' F ∧ ∀ i, F' i → F i ∨ w.heap.size ≤ i := by
  obtain ⟨a, F', e, h⟩ := h
  injection e with e
  exact ⟨a, F', e, h⟩
structure QImp (M : Pl.QM) (q : Value) (base : Nat) (inv : M.σ → Nat → (Nat → Prop) → World → Prop) : Prop where
  lt : ∀ s k F w, inv s k F w → ∀ i, F i → base ≤ i ∧ i < w.heap.size
  base : ∀ s k F w, inv s k F w → base ≤ w.heap.size
  chg : ∀ s k F w w' S, inv s k F w → Chg w w' S → (∀ i, F i → ¬ S i) → inv s k F w'
  put : ∃ f r, Meth q "Put" f r ∧ ∀ s k F w now x, inv s k F w → k < 1000 → InOk now x → Calls Tryz.prog f #[r, .int .i64 now, hdV x] w (PutOut inv w F (k + 1) (M.put now x s))
  take : ∃ f r, Meth q "Take" f r ∧ ∀ s k F w now, inv s k F w → 0 ≤ now → now ≤ 1000000000 → Calls Tryz.prog f #[r, .int .i64 now] w (TakeOut inv w F k (M.take now s))
  when_ : ∃ f r, Meth q "When" f r ∧ ∀ s k F w now, inv s k F w → 0 ≤ now → now ≤ 1000000000 → Calls Tryz.prog f #[r, .int .i64 now] w (WhenOut inv w F k (M.when_ now s))
  len : ∃ f r, Meth q "Len" f r ∧ ∀ s k F w, inv s k F w → Calls Tryz.prog f #[r] w fun e w' => e = .returned (.int .i64 (M.len s)) ∧ Below w.heap.size w w'
  bytes : ∃ f r, Meth q "Bytes" f r ∧ ∀ s k F w, inv s k F w → Calls Tryz.prog f #[r] w fun e w' => e = .returned (.int .i64 (M.bytes s)) ∧ Below w.heap.size w w'

theorem extract_one (q : Value) (vs : Array Value) : (#[q] ++ vs).extract 1 = vs := by
  apply Array.ext'
  simp
theorem wpList_invoke {q : Value} {name : String} {f : FuncId} {r : Value} {w : World} {ops : Array Oper} {rest : List Oper} {o : Oper} {a : Act} {Q : Exit → Act → World → Prop} (hm : Meth q name f r) (hgd : o.guard = none) (rv : Operand) (args : Array Operand) (tys : Array TypeId)
    (ho : o.op = .call { callee := .invoke rv name, args, argTypes := tys }) (hq : a.eval rv = q) (full : Array Value) (hvs : #[r] ++ args.map a.eval = full) {R : Ending → World → Prop} (hc : Calls Tryz.prog f full w R) (hR : ∀ e w', R e w' → ∃ v, e = .returned v)
    (h : ∀ v w', R (.returned v) w' → wpList Tryz.prog ops Q rest (a.put o.dst v) w') : wpList Tryz.prog ops Q (o :: rest) a w := by
  subst hvs
  refine wpList_plain hgd fun _ hK => ?_
  unfold Oper.wp execOp
  simp only [ho, resolve, invoke, Sem.run_bind, Sem.run_pure, Result.andThen_ok]
  rw [hq]
  have e1 : (#[q] ++ args.map a.eval)[0]? = some q := by rw [Array.getElem?_append_left (by simp)]; rfl
  have e2 : (#[q] ++ args.map a.eval).extract 1 = args.map a.eval := extract_one q _
  rw [e1]
  dsimp only
  rw [e2, hm (args.map a.eval) w]
  show Calls _ _ _ _ _
  refine hc.mono fun e w' hr => ?_
  obtain ⟨v, rfl⟩ := hR e w' hr
  exact hK _ _ (h v w' hr)
theorem wpList_invoke0 {q : Value} {name : String} {f : FuncId} {r : Value} {w : World} {ops : Array Oper} {rest : List Oper} {o : Oper} {a : Act} {Q : Exit → Act → World → Prop} (hgd : o.guard = none) (rv : Operand) (tys : Array TypeId)
    (ho : o.op = .call { callee := .invoke rv name, args := #[], argTypes := tys }) (hm : Meth q name f r) (hq : a.eval rv = q)  {R : Ending → World → Prop} (hc : Calls Tryz.prog f #[r] w R) (hR : ∀ e w', R e w' → ∃ v, e = .returned v)
    (h : ∀ v w', R (.returned v) w' → wpList Tryz.prog ops Q rest (a.put o.dst v) w') : wpList Tryz.prog ops Q (o :: rest) a w := by
  exact wpList_invoke hm hgd rv #[] tys ho hq #[r] (by simp) hc hR h
theorem wpList_invoke1 {q : Value} {name : String} {f : FuncId} {r : Value} {w : World} {ops : Array Oper} {rest : List Oper} {o : Oper} {a : Act} {Q : Exit → Act → World → Prop} {vx : Value} (hgd : o.guard = none) (rv : Operand) (x : Operand) (tys : Array TypeId)
    (ho : o.op = .call { callee := .invoke rv name, args := #[x], argTypes := tys }) (hm : Meth q name f r) (hq : a.eval rv = q) (hx : a.eval x = vx) {R : Ending → World → Prop} (hc : Calls Tryz.prog f #[r, vx] w R) (hR : ∀ e w', R e w' → ∃ v, e = .returned v)
    (h : ∀ v w', R (.returned v) w' → wpList Tryz.prog ops Q rest (a.put o.dst v) w') : wpList Tryz.prog ops Q (o :: rest) a w := by
  subst hx
  exact wpList_invoke hm hgd rv #[x] tys ho hq #[r, a.eval x] (by simp) hc hR h
theorem wpList_invoke2 {q : Value} {name : String} {f : FuncId} {r : Value} {w : World} {ops : Array Oper} {rest : List Oper} {o : Oper} {a : Act} {Q : Exit → Act → World → Prop} {vx vy : Value} (hgd : o.guard = none) (rv : Operand) (x y : Operand) (tys : Array TypeId)
    (ho : o.op = .call { callee := .invoke rv name, args := #[x, y], argTypes := tys }) (hm : Meth q name f r) (hq : a.eval rv = q) (hx : a.eval x = vx) (hy : a.eval y = vy) {R : Ending → World → Prop} (hc : Calls Tryz.prog f #[r, vx, vy] w R) (hR : ∀ e w', R e w' → ∃ v, e = .returned v)
    (h : ∀ v w', R (.returned v) w' → wpList Tryz.prog ops Q rest (a.put o.dst v) w') : wpList Tryz.prog ops Q (o :: rest) a w := by
  subst hx hy
  exact wpList_invoke hm hgd rv #[x, y] tys ho hq #[r, a.eval x, a.eval y] (by simp) hc hR h
end Go.Proofs.YtgdijbaodfghjaaGreatDoor

/-
  The words for a play's walk: what was seen so far, in memory.
-/
namespace Go.Proofs.YtgdijbaodfghjaaGreatDoor
open Go.RowKit Bkt
set_option linter.unusedVariables false

structure SnV where
  taken : Int
  mark : Int
  when_ : Int
  len : Int
  bytes : Int
  A : Option Addr
  n : Nat
  c : Nat
def snCells (s : SnV) : List Value := [.int .i64 s.taken, .int .i64 s.mark, .int .i64 s.when_, .int .i64 s.len, .int .i64 s.bytes, .slice s.A s.n s.c]
def SnR : Rec SnV := ⟨6, snCells, fun _ => rfl, by decide, ⟨0, 0, 0, 0, 0, none, 0, 0⟩⟩
theorem sn_one (s : SnV) : ∀ u ∈ snCells s, u.oneCell' = true := by
  intro u hu
  simp [snCells] at hu
  rcases hu with rfl | rfl | rfl | rfl | rfl | rfl <;> rfl
theorem Tryz.seenInfo : (Tryz.prog.info? 67).map (fun i => (i.zero, i.size, i.bytes)) = some (some (.agg #[.int .i64 0, .int .i64 0, .int .i64 0, .int .i64 0, .int .i64 0, .slice none 0 0]), 6, 64) := by kernel_rfl
structure SnIs (w : World) (B : Nat) (v : SnV) (s : Pl.Seen) : Prop where
  taken : v.taken = s.taken
  mark : v.mark = s.mark
  when_ : v.when_ = s.when_
  len : v.len = s.len
  bytes : v.bytes = s.bytes
  n : v.n = s.lost.length
  rd : RdI w B v.A v.n s.lost
theorem SnIs.chg {w w' : World} {B : Nat} {v : SnV} {s : Pl.Seen} {S : Nat → Prop} (h : SnIs w B v s) (hB : B ≤ w.heap.size) (hc : Chg w w' S) (hn : ∀ ad, v.A = some ad → ¬ S ad.block) : SnIs w' w'.heap.size v s :=
  ⟨h.taken, h.mark, h.when_, h.len, h.bytes, h.n, (h.rd.chg hB hc hn).more (Nat.le_trans hB hc.size)⟩
def RdSn (w : World) (B : Nat) (A : Option Addr) (n : Nat) (sn : Nat → Pl.Seen) : Prop := ∃ vs, RdR SnR w B A n vs ∧ ∀ i, i < n → SnIs w B (ixR SnR vs i) (sn i)

structure PlayRel {M : Pl.QM} (inv : M.σ → Nat → (Nat → Prop) → World → Prop) (w w1 wr : World) (F0 : Nat → Prop) (k0 : Nat) (s0 : M.σ) (ts : List Pl.Stp) (j : Nat) (out : Value) (vs : List SnV) (F : Nat → Prop) : Prop where
  inv : inv (Pl.nth M s0 ts j).2 (k0 + (Pl.nth M s0 ts j).1) F wr
  sub : ∀ i, F i → F0 i ∨ w1.heap.size ≤ i
  chg : Chg w1 wr F0
  own : OwnW wr w1.heap.size 67 6 out j (vs.flatMap SnR.cells)
  onF : ∀ i, out.ownBlock = some i → ¬ F i
  len : vs.length = j
  is : ∀ i, i < j → SnIs wr wr.heap.size (ixR SnR vs i) (Pl.seenAt M s0 ts i) ∧ ∀ ad, (ixR SnR vs i).A = some ad → w1.heap.size ≤ ad.block ∧ ad.block < wr.heap.size ∧ ¬ F ad.block ∧ out.ownBlock ≠ some ad.block
theorem blkTwo (W : World) (ta tb : TypeId) (a b : Array Value) : Blk ((W.alloc (.cells a ta)).alloc (.cells b tb)) W.heap.size ta a ∧ Blk ((W.alloc (.cells a ta)).alloc (.cells b tb)) (W.heap.size + 1) tb b ∧ Below W.heap.size W ((W.alloc (.cells a ta)).alloc (.cells b tb)) := by
  refine ⟨(Blk.new _ _ _).alloc _, ?_, ((Below.refl _ _).alloc (Nat.le_refl _) _).alloc (by simp) _⟩
  have := Blk.new (W.alloc (.cells a ta)) tb b
  rwa [show (W.alloc (.cells a ta)).heap.size = W.heap.size + 1 from by simp] at this
theorem nth_le (M : Pl.QM) (s0 : M.σ) (l : List Pl.Stp) : ∀ k, (Pl.nth M s0 l k).1 ≤ k
  | 0 => Nat.le_refl _
  | k + 1 => by
    have h := nth_le M s0 l k
    unfold Pl.nth
    cases l[k]? with
    | none => dsimp only; omega
    | some t =>
      dsimp only
      unfold Pl.stepM
      split
      · dsimp only; omega
      · split <;> (dsimp only; omega)
theorem stepM_len (M : Pl.QM) (n : Nat) (s : M.σ) (t : Pl.Stp) : (Pl.stepM M n s t).1.len = M.len (Pl.stepM M n s t).2.2 ∧ (Pl.stepM M n s t).1.bytes = M.bytes (Pl.stepM M n s t).2.2 := by
  by_cases h0 : t.what = 0
  · rw [Pl.stepM_put h0]; exact ⟨rfl, rfl⟩
  · by_cases h1 : t.what = 1
    · rw [Pl.stepM_take h1]; exact ⟨rfl, rfl⟩
    · rw [Pl.stepM_when h0 h1]; exact ⟨rfl, rfl⟩
structure MidRel {M : Pl.QM} (inv : M.σ → Nat → (Nat → Prop) → World → Prop) (wr wx : World) (gx : Nat) (k0 : Nat) (s0 : M.σ) (ts : List Pl.Stp) (j : Nat) (F F' : Nat → Prop) (A : Option Addr) (c : Nat) : Prop where
  inv : inv (Pl.nth M s0 ts (j + 1)).2 (k0 + (Pl.nth M s0 ts (j + 1)).1) F' wx
  sub : ∀ i, F' i → F i ∨ gx < i
  chg : Chg wr wx F
  blk : Blk wx gx 67 #[.int .i64 (Pl.seenAt M s0 ts j).taken, .int .i64 (Pl.seenAt M s0 ts j).mark, .int .i64 (Pl.seenAt M s0 ts j).when_, .int .i64 0, .int .i64 0, .slice A (Pl.seenAt M s0 ts j).lost.length c]
  rd : RdI wx wx.heap.size A (Pl.seenAt M s0 ts j).lost.length (Pl.seenAt M s0 ts j).lost
  at_ : ∀ ad, A = some ad → gx < ad.block ∧ ad.block < wx.heap.size ∧ ¬ F' ad.block
theorem PlayRel.step {M : Pl.QM} {inv : M.σ → Nat → (Nat → Prop) → World → Prop} {q : Value} {base : Nat} (I : QImp M q base inv) {w w1 wr wE : World} {F0 F F' : Nat → Prop} {k0 : Nat} {s0 : M.σ} {ts : List Pl.Stp} {j : Nat} {out out' : Value} {vs : List SnV} {v : SnV}
    (h : PlayRel inv w w1 wr F0 k0 s0 ts j out vs F) (hF : inv (Pl.nth M s0 ts (j + 1)).2 (k0 + (Pl.nth M s0 ts (j + 1)).1) F' wE) (hs : ∀ i, F' i → F i ∨ wr.heap.size ≤ i)
    (hc : Chg wr wE (fun i => F i ∨ out.ownBlock = some i)) (hown : OwnW wE w1.heap.size 67 6 out' (j + 1) ((vs ++ [v]).flatMap SnR.cells))
    (hat : out'.ownBlock = out.ownBlock ∨ ∀ i, out'.ownBlock = some i → wr.heap.size ≤ i) (hoF : ∀ i, out'.ownBlock = some i → ¬ F' i)
    (hv : SnIs wE wE.heap.size v (Pl.seenAt M s0 ts j)) (hva : ∀ ad, v.A = some ad → wr.heap.size ≤ ad.block ∧ ad.block < wE.heap.size ∧ ¬ F' ad.block ∧ out'.ownBlock ≠ some ad.block) :
    PlayRel inv w w1 wE F0 k0 s0 ts (j + 1) out' (vs ++ [v]) F' := by
  have hsz := h.chg.size
  have hF0 : ∀ i, i < w1.heap.size → F i → F0 i := fun i hi hf => by
    rcases h.sub i hf with e | e
    · exact e
    · omega
  refine ⟨hF, fun i hi => ?_, h.chg.trans hc (fun i hi hsx => ?_), hown, hoF, by simp [h.len], fun i hi => ?_⟩
  · rcases hs i hi with e | e
    · exact h.sub i e
    · exact .inr (by omega)
  · rcases hsx with e | e
    · exact hF0 i hi e
    · have := (h.own.lt i e).1; omega
  · rcases Nat.lt_or_ge i j with hlt | hge
    · rw [ixR_app_lt (by rw [h.len]; exact hlt)]
      obtain ⟨g1, g2⟩ := h.is i hlt
      have hd : ∀ ad, (ixR SnR vs i).A = some ad → ¬ (F ad.block ∨ out.ownBlock = some ad.block) := fun ad e hx => by
        obtain ⟨_, _, g3, g4⟩ := g2 ad e
        exact hx.elim g3 g4
      refine ⟨g1.chg (Nat.le_refl _) hc hd, fun ad e => ?_⟩
      obtain ⟨g5, g6, g3, g4⟩ := g2 ad e
      refine ⟨g5, Nat.lt_of_lt_of_le g6 hc.size, fun hx => ?_, fun hx => ?_⟩
      · rcases hs _ hx with e2 | e2
        · exact g3 e2
        · omega
      · rcases hat with e2 | e2
        · exact g4 (e2 ▸ hx)
        · have := e2 _ hx; omega
    · obtain rfl : i = j := by omega
      have e1 : ixR SnR (vs ++ [v]) i = v := by rw [← h.len]; exact ixR_app_last
      rw [e1]
      exact ⟨hv, fun ad e => ⟨Nat.le_trans hsz (hva ad e).1, (hva ad e).2⟩⟩

def snOf (s : Pl.Seen) (A : Option Addr) (c : Nat) : SnV := ⟨s.taken, s.mark, s.when_, s.len, s.bytes, A, s.lost.length, c⟩
theorem play_fin {M : Pl.QM} {inv : M.σ → Nat → (Nat → Prop) → World → Prop} {q : Value} {base : Nat} (I : QImp M q base inv) {w w1 wr wc w5 w6 w8 : World} {F0 F F' : Nat → Prop} {k0 : Nat} {s0 : M.σ} {ts : List Pl.Stp} {j : Nat} {out out' : Value} {vs : List SnV} {A : Option Addr} {c : Nat} {u3 u4 : Value}
    (h : PlayRel inv w w1 wr F0 k0 s0 ts j out vs F) (hm : MidRel inv wr wc (wr.heap.size + 1) k0 s0 ts j F F' A c) (hb5 : Below wc.heap.size wc w5) (hb6 : Below w5.heap.size w5 w6)
    (hown : OwnW w8 w1.heap.size 67 6 out' (j + 1) ((vs ++ [snOf (Pl.seenAt M s0 ts j) A c]).flatMap SnR.cells))
    (h2 : ((w6.setCell ⟨wr.heap.size + 1, 3, none⟩ u3).setCell ⟨wr.heap.size + 1, 4, none⟩ u4).grownBy w8 out.ownBlock)
    (h3 : out'.ownBlock = out.ownBlock ∨ ∀ g, out'.ownBlock = some g → ((w6.setCell ⟨wr.heap.size + 1, 3, none⟩ u3).setCell ⟨wr.heap.size + 1, 4, none⟩ u4).heap.size < g) :
    PlayRel inv w w1 w8 F0 k0 s0 ts (j + 1) out' (vs ++ [snOf (Pl.seenAt M s0 ts j) A c]) F' := by
  have hFl : ∀ i, F i → i < wr.heap.size := fun i hi => (I.lt _ _ _ _ h.inv i hi).2
  have hF'l : ∀ i, F' i → i < wc.heap.size := fun i hi => (I.lt _ _ _ _ hm.inv i hi).2
  have hol : ∀ i, out.ownBlock = some i → i < wr.heap.size := fun i hi => (h.own.lt i hi).2
  have hszc := hm.chg.size
  have s56 : wc.heap.size ≤ w6.heap.size := Nat.le_trans hb5.size hb6.size
  have s7 : ((w6.setCell ⟨wr.heap.size + 1, 3, none⟩ u3).setCell ⟨wr.heap.size + 1, 4, none⟩ u4).heap.size = w6.heap.size := by simp [World.setCell]
  rw [s7] at h3
  have hgx : ¬ F' (wr.heap.size + 1) := fun hh => by
    rcases hm.sub _ hh with e | e
    · have := hFl _ e; omega
    · omega
  have hoF : ∀ i, out.ownBlock = some i → ¬ F' i := fun i hi hh => by
    rcases hm.sub _ hh with e | e
    · exact h.onF i hi e
    · have := hol i hi; omega
  have hc : Chg wc w8 (fun i => i = wr.heap.size + 1 ∨ out.ownBlock = some i) := by
    refine Chg.trans (S' := fun i => i = wr.heap.size + 1 ∨ out.ownBlock = some i) (w' := (w6.setCell ⟨wr.heap.size + 1, 3, none⟩ u3).setCell ⟨wr.heap.size + 1, 4, none⟩ u4) ?_ (Chg.of_grown h2 (fun i hi => .inr hi.symm)) (fun i _ h => h)
    refine Chg.setCell (p := ⟨wr.heap.size + 1, 4, none⟩) (Chg.setCell (p := ⟨wr.heap.size + 1, 3, none⟩) ?_ (fun _ => .inl rfl) _) (fun _ => .inl rfl) _
    exact (Chg.of_below hb5).trans (Chg.of_below (S := fun i => i = wr.heap.size + 1 ∨ out.ownBlock = some i) hb6) (fun i _ h => h)
  have hA : ∀ ad, A = some ad → ¬ (ad.block = wr.heap.size + 1 ∨ out.ownBlock = some ad.block) := fun ad e hx => by
    have h1 := (hm.at_ ad e).1
    rcases hx with hx | hx
    · omega
    · have := hol _ hx; omega
  have hsz8 := hc.size
  refine h.step I (I.chg _ _ _ _ _ _ hm.inv hc (fun i hi hs => ?_)) (fun i hi => ?_) ?_ hown ?_ (fun i hi hh => ?_) ⟨rfl, rfl, rfl, rfl, rfl, rfl, (hm.rd.chg (Nat.le_refl _) hc hA).more hsz8⟩ (fun ad e => ?_)
  · rcases hs with hs | hs
    · exact hgx (hs ▸ hi)
    · exact hoF i hs hi
  · rcases hm.sub i hi with e | e
    · exact .inl e
    · exact .inr (by omega)
  · refine Chg.trans (hm.chg.mono (fun i _ h => .inl h)) hc (fun i hi hs => ?_)
    rcases hs with hs | hs
    · omega
    · exact .inr hs
  · exact h3.imp id fun hh i hi => by have := hh i hi; omega
  · rcases h3 with e | e
    · exact hoF i (e ▸ hi) hh
    · have h1 := e i hi; have h4 := hF'l i hh; omega
  · obtain ⟨h1, h4, h5⟩ := hm.at_ ad e
    refine ⟨by omega, by omega, h5, fun hh => ?_⟩
    rcases h3 with e2 | e2
    · have := hol _ (e2 ▸ hh); omega
    · have := e2 _ hh; omega
end Go.Proofs.YtgdijbaodfghjaaGreatDoor

/-
  The check that nothing is lost but what is told: its inner function (left's out), where it says yes.
-/
namespace Go.Proofs.YtgdijbaodfghjaaGreatDoor
open Go.RowKit Bkt
set_option linter.unusedVariables false

theorem intR_at {w : World} {base : Nat} {A : Option Addr} {c n : Nat} {l : List Int} (h : OwnW w base 3 1 (.slice A n c) n (l.flatMap IntR.cells)) {k : Nat} (hk : k < n) :
    ∃ g o, A = some ⟨g, o, none⟩ ∧ w.cell? ⟨g, o + k, none⟩ = some (.int .i64 (l.getD k 0)) ∧ w.frozen? ⟨g, o + k, none⟩ = false ∧ g < w.heap.size ∧ base ≤ g := by
  obtain ⟨h0, ⟨hv, h1⟩ | ⟨g, o, c', cur, hv, hb, hgg, hnc, hm, hs, ht⟩⟩ := h
  · omega
  · injection hv with hA _ _
    subst hA
    refine ⟨g, o, rfl, ?_, hgg.frozen _, hgg.lt, hb⟩
    rw [hgg.cell]
    refine ht k _ ?_
    rw [intR_flat] at h0 ⊢
    rw [List.length_map] at h0
    rw [List.getElem?_map, List.getD, List.getElem?_eq_getElem (show k < l.length by omega)]
    rfl
theorem OwnW.setI {w : World} {base g o c n k : Nat} {l : List Int} (h : OwnW w base 3 1 (.slice (some ⟨g, o, none⟩) n c) n (l.flatMap IntR.cells)) (hk : k < n) (u : Int) :
    OwnW (w.setCell ⟨g, o + k, none⟩ (.int .i64 u)) base 3 1 (.slice (some ⟨g, o, none⟩) n c) n ((l.set k u).flatMap IntR.cells) := by
  obtain ⟨h0, ⟨hv, h1⟩ | ⟨g', o', c', cur, hv, hb, hgg, hnc, hm, hs, ht⟩⟩ := h
  · cases hv
  · injection hv with hA _ hc
    injection hA with hA
    injection hA with e1 e2 _
    subst e1 e2 hc
    rw [intR_flat] at h0 ht ⊢
    rw [List.length_map] at h0
    refine ⟨by simpa using h0, .inr ⟨g, o, c, _, rfl, hb, hgg.set_ (o + k) _, hnc, hm, by simpa using hs, fun j v hj => ?_⟩⟩
    rw [List.getElem?_map] at hj
    rw [Array.getElem?_setIfInBounds]
    by_cases e : k = j
    · subst e
      rw [if_pos rfl, if_pos (by omega)]
      rw [List.getElem?_set, if_pos rfl, if_pos (by omega)] at hj
      simpa using hj
    · rw [if_neg (by omega)]
      rw [List.getElem?_set, if_neg e] at hj
      exact ht j v (by rw [List.getElem?_map]; exact hj)

structure LMem (w : World) (base gS gT gW gB : Nat) (S : Pl.LS) (vs vt : Value) : Prop where
  bS : Blk w gS 26 #[vs]
  bT : Blk w gT 26 #[vt]
  bW : Blk w gW 3 #[.int .i64 S.wait]
  bB : Blk w gB 3 #[.int .i64 S.bytes]
  oS : OwnW w base 3 1 vs S.size.length (S.size.flatMap IntR.cells)
  oT : OwnW w base 3 1 vt S.state.length (S.state.flatMap IntR.cells)
  lo : base ≤ gS ∧ base ≤ gT ∧ base ≤ gW ∧ base ≤ gB
  n1 : gS ≠ gT
  n2 : gW ≠ gB
  n3 : ∀ i, vs.ownBlock = some i → i ≠ gW ∧ i ≠ gB ∧ vt.ownBlock ≠ some i
  n4 : ∀ i, vt.ownBlock = some i → i ≠ gW ∧ i ≠ gB
  sl : S.size.length = S.state.length
theorem LMem.drew {w : World} {base gS gT gW gB : Nat} {S : Pl.LS} {vs vt : Value} (h : LMem w base gS gT gW gB S vs vt) : LMem w.drew base gS gT gW gB S vs vt :=
  ⟨h.bS, h.bT, h.bW, h.bB, h.oS, h.oT, h.lo, h.n1, h.n2, h.n3, h.n4, h.sl⟩
theorem LMem.drewN {w : World} {base gS gT gW gB : Nat} {S : Pl.LS} {vs vt : Value} (h : LMem w base gS gT gW gB S vs vt) (n : Nat) : LMem (w.drewN n) base gS gT gW gB S vs vt :=
  ⟨h.bS, h.bT, h.bW, h.bB, h.oS, h.oT, h.lo, h.n1, h.n2, h.n3, h.n4, h.sl⟩
structure LB (S : Pl.LS) (m : Nat) : Prop where
  w : -(m : Int) ≤ S.wait ∧ S.wait ≤ m
  b : -(10000 * (m : Int)) ≤ S.bytes ∧ S.bytes ≤ 10000 * m
  s : ∀ x ∈ S.size, 0 ≤ x ∧ x ≤ 10000
theorem outL_some {S S' : Pl.LS} {k : Int} (h : Pl.outL S k = some S') : 0 ≤ k ∧ k < S.state.length ∧ S.state.getD k.toNat 0 = 0 ∧ S' = ⟨S.size, S.state.set k.toNat 1, S.wait - 1, S.bytes - S.size.getD k.toNat 0⟩ := by
  unfold Pl.outL at h
  split at h
  · rename_i hc
    injection h with h
    exact ⟨hc.1, hc.2.1, hc.2.2, h.symm⟩
  · cases h
theorem LB.out {S S' : Pl.LS} {m : Nat} {k : Int} (h : LB S m) (ho : Pl.outL S k = some S') (hl : S.size.length = S.state.length) : LB S' (m + 1) := by
  obtain ⟨h0, h1, h2, rfl⟩ := outL_some ho
  have hx : 0 ≤ S.size.getD k.toNat 0 ∧ S.size.getD k.toNat 0 ≤ 10000 := by
    rw [List.getD, List.getElem?_eq_getElem (show k.toNat < S.size.length by omega)]
    exact h.s _ (List.getElem_mem _)
  have a := h.w; have b := h.b
  exact ⟨by dsimp only; omega, by dsimp only; omega, h.s⟩

def OutYes (w : World) (base gS gT gW gB : Nat) (S' : Pl.LS) (vs vt : Value) (e : Ending) (w' : World) : Prop :=
  e = .returned (.bool true) ∧ LMem w' base gS gT gW gB S' vs vt ∧ Below base w w'
end Go.Proofs.YtgdijbaodfghjaaGreatDoor

/-
  The plain queue is its machine.
-/
namespace Go.Proofs.YtgdijbaodfghjaaGreatDoor
open Go.RowKit Bkt
set_option linter.unusedVariables false

theorem fifo_put_meth (g : Nat) : Meth (.iface 61 (.pointer (some ⟨g, 0, none⟩))) "Put" 109 (.pointer (some ⟨g, 0, none⟩)) := by
  intro args w; kernel_rfl
theorem fifo_take_meth (g : Nat) : Meth (.iface 61 (.pointer (some ⟨g, 0, none⟩))) "Take" 110 (.pointer (some ⟨g, 0, none⟩)) := by
  intro args w; kernel_rfl
theorem fifo_when_meth (g : Nat) : Meth (.iface 61 (.pointer (some ⟨g, 0, none⟩))) "When" 111 (.pointer (some ⟨g, 0, none⟩)) := by
  intro args w; kernel_rfl
theorem fifo_len_meth (g : Nat) : Meth (.iface 61 (.pointer (some ⟨g, 0, none⟩))) "Len" 108 (.pointer (some ⟨g, 0, none⟩)) := by
  intro args w; kernel_rfl
theorem fifo_bytes_meth (g : Nat) : Meth (.iface 61 (.pointer (some ⟨g, 0, none⟩))) "Bytes" 107 (.pointer (some ⟨g, 0, none⟩)) := by
  intro args w; kernel_rfl

structure FInvM (base g o : Nat) (t : TypeId) (p : Pl.FP) (s : List Hd) (k : Nat) (F : Nat → Prop) (w : World) (v : Value) (cs : Array Value) : Prop where
  f : Ffo w base g o t cs v s p
  n : s.length ≤ k
  b : ∀ x ∈ s, 0 ≤ x.it.len ∧ x.it.len ≤ 10000
  bs : base ≤ w.heap.size
  k1 : k ≤ 1000
  bg : base ≤ g
  mF : ∀ i, F i ↔ (i = g ∨ v.ownBlock = some i)
def FInv1 (base g : Nat) (p : Pl.FP) (s : List Hd) (k : Nat) (F : Nat → Prop) (w : World) : Prop := ∃ v cs, FInvM base g 0 92 p s k F w v cs
section
variable {w w' : World} {base g o k : Nat} {t : TypeId} {p : Pl.FP} {s s' : List Hd} {F : Nat → Prop} {v : Value} {cs : Array Value}
theorem FInvM.hds (h : FInvM base g o t p s k F w v cs) : HdsOk s := ⟨Nat.le_trans h.n h.k1, h.b⟩
theorem FInvM.to (h : FInvM base g o t p s k F w v cs) (h' : FfoTo w w' base g o t cs v s' p) {k' : Nat} (hn : s'.length ≤ k') (hk : k' ≤ 1000) (hb : ∀ x ∈ s', 0 ≤ x.it.len ∧ x.it.len ≤ 10000) :
    ∃ F' v' cs', FInvM base g o t p s' k' F' w' v' cs' ∧ Chg w w' F ∧ (∀ i, F' i → F i ∨ w.heap.size ≤ i) ∧ ∀ i, i ≠ o → i ≠ o + 1 → cs'[i]? = cs[i]? := by
  obtain ⟨v', cs', f', c', a', e'⟩ := h'
  refine ⟨fun i => i = g ∨ v'.ownBlock = some i, v', cs', ⟨f', hn, hb, Nat.le_trans h.bs c'.size, hk, h.bg, fun i => Iff.rfl⟩, c'.mono (fun i _ hi => (h.mF i).2 hi), fun i hi => ?_, e'⟩
  rcases hi with e | e
  · exact .inl ((h.mF i).2 (.inl e))
  · rcases a' with e2 | e2
    · exact .inl ((h.mF i).2 (.inr (e2 ▸ e)))
    · exact .inr (e2 i e)
theorem FInvM.chg {S : Nat → Prop} (h : FInvM base g o t p s k F w v cs) (hc : Chg w w' S) (hn : ∀ i, F i → ¬ S i) : FInvM base g o t p s k F w' v cs :=
  ⟨h.f.chg hc (hn _ ((h.mF _).2 (.inl rfl))) (fun i hi => hn _ ((h.mF _).2 (.inr hi))), h.n, h.b, Nat.le_trans h.bs hc.size, h.k1, h.bg, h.mF⟩
theorem FInvM.lt (h : FInvM base g o t p s k F w v cs) : ∀ i, F i → base ≤ i ∧ i < w.heap.size := fun i hi => by
  rcases (h.mF i).1 hi with e | e
  · subst e; exact ⟨h.bg, h.f.lst.blk.lt⟩
  · exact h.f.lst.own.lt i e
theorem fput_mem (p : Pl.FP) (x : Hd) (l : List Hd) : ∀ y, y ∈ (Pl.fputL p x l).1 ∨ y ∈ (Pl.fputL p x l).2 → y ∈ l ∨ y = x := by
  intro y hy
  have := (Pl.fput_app p x l).mem_iff (a := y)
  rw [List.mem_append, List.mem_append, List.mem_singleton] at this
  exact this.1 hy
theorem fput_lens (p : Pl.FP) (x : Hd) (l : List Hd) : (Pl.fputL p x l).1.length + (Pl.fputL p x l).2.length = l.length + 1 := by
  have := (Pl.fput_app p x l).length_eq
  simpa using this
theorem fput_all (base g o : Nat) (t : TypeId) (cs : Array Value) (v : Value) (l : List Hd) (p : Pl.FP) (now : Int) (x : Hd) (w : World) (h : Ffo w base g o t cs v l p) (hl : HdsOk l) (hx : 0 ≤ x.it.len ∧ x.it.len ≤ 10000) (hbase : base ≤ w.heap.size) (hn : l.length < 1000) (hok : Pl.FOk p) :
    Calls Tryz.prog 109 #[.pointer (some ⟨g, o, none⟩), .int .i64 now, hdV x] w (FPutOut w base g o t cs v (Pl.fputL p x l) p) := by
  by_cases hh : p.head = false
  · by_cases hf : p.packets ≤ (l.length : Int) ∨ p.room < Pl.tot l + x.it.len
    · have e : Pl.fputL p x l = ([x], l) := by unfold Pl.fputL; rw [if_pos hh, if_pos hf]
      rw [e]
      exact fput_full base g o t cs v l p now x w h hl hx hh hf
    · have e : Pl.fputL p x l = ([], l ++ [x]) := by unfold Pl.fputL; rw [if_pos hh, if_neg hf]
      rw [e]
      exact fput_add base g o t cs v l p now x w h hl hx hbase hh (by omega) (by omega)
  · have e : Pl.fputL p x l = Pl.cutQ p.packets p.room (l ++ [x]) := by unfold Pl.fputL; rw [if_neg hh]
    rw [e]
    exact fput_head base g o t cs v l p now x w h hl hx hbase hn (by simpa using hh) hok
theorem ftake_all (base g o : Nat) (t : TypeId) (cs : Array Value) (v : Value) (l : List Hd) (p : Pl.FP) (now : Int) (w : World) (h : Ffo w base g o t cs v l p) (hl : HdsOk l) :
    Calls Tryz.prog 110 #[.pointer (some ⟨g, o, none⟩), .int .i64 now] w (FTakeOut w base g o t cs v (Pl.ftakeL l) p) := by
  cases l with
  | nil => exact ftake_none base g o t cs v p now w h
  | cons x r => exact ftake_some base g o t cs v p now x r w h hl
theorem optV_is : ∀ r : Option Hd, ∃ h, optV r = hdV h ∧ ∀ x, r = some x → h = x
  | none => ⟨Hd.zero, rfl, fun _ e => by cases e⟩
  | some h => ⟨h, rfl, fun x e => by injection e⟩
theorem okB_len {x : It} (h : Pl.okB x = true) : 0 ≤ x.len ∧ x.len ≤ 10000 := by
  have := (okB_fine.1 h).f1
  omega
end
theorem fifo_imp (base g : Nat) (p : Pl.FP) (hp : Pl.FOk p) : QImp (Pl.fifoM p) (.iface 61 (.pointer (some ⟨g, 0, none⟩))) base (FInv1 base g p) where
  lt := fun s k F w ⟨v, cs, h⟩ => h.lt
  base := fun s k F w ⟨v, cs, h⟩ => h.bs
  chg := fun s k F w w' S ⟨v, cs, h⟩ hc hn => ⟨v, cs, h.chg hc hn⟩
  put := ⟨_, _, fifo_put_meth g, fun s k F w now x ⟨v, cs, h⟩ hk hx => by
    have hxl := okB_len hx.ok
    have hn := h.n
    refine (fput_all base g 0 92 cs v s p now x w h.f h.hds hxl h.bs (by omega) hp).mono fun e w' ho => ?_
    obtain ⟨A, n, c, e1, hr, ha, hf⟩ := ho
    have hl := fput_lens p x s
    have hm := fput_mem p x s
    obtain ⟨F', v', cs', g1, g2, g3, _⟩ := h.to hf (k' := k + 1) (by omega) (by omega) (fun y hy => by
      rcases hm y (.inr hy) with e | e
      · exact h.b y e
      · subst e; exact hxl)
    exact ⟨A, n, c, F', e1, by have := hr.len; omega, hr, fun ad e => .inr (ha ad e), ⟨v', cs', g1⟩, g2, g3⟩⟩
  take := ⟨_, _, fifo_take_meth g, fun s k F w now ⟨v, cs, h⟩ _ _ => by
    have hn := h.n; have hk := h.k1
    refine (ftake_all base g 0 92 cs v s p now w h.f h.hds).mono fun e w' ho => ?_
    obtain ⟨e1, e2, hf⟩ := ho
    obtain ⟨h0, e3, e4⟩ := optV_is (Pl.ftakeL s).1
    obtain ⟨F', v', cs', g1, g2, g3, _⟩ := h.to hf (k' := k) (by
      cases s with
      | nil => exact hn
      | cons x r => rw [List.length_cons] at hn; show r.length ≤ _; omega) hk (fun y hy => h.b y (by
      cases s with
      | nil => exact hy
      | cons x r => exact List.mem_cons_of_mem _ hy))
    refine ⟨h0, none, 0, 0, F', by rw [e1, e3]; rfl, e4, by omega, ?_, (fun ad e => by cases e), ⟨v', cs', g1⟩, g2, g3⟩
    show RdR HdR w' w'.heap.size none 0 (Pl.ftakeL s).2.1
    rw [e2]; exact RdR.nil⟩
  when_ := ⟨_, _, fifo_when_meth g, fun s k F w now ⟨v, cs, h⟩ _ _ => by
    refine (fwhen_any base g 0 92 cs v s p now w h.f h.hds.n).mono fun e w' ⟨e1, e2⟩ => ?_
    subst e2
    refine ⟨now, F, ?_, ?_, ⟨v, cs, h⟩, Chg.refl _ _, fun i hi => .inl hi⟩
    · rw [e1]
      show Ending.returned (.tuple #[.int .i64 now, .bool (decide (0 < s.length))]) = .returned (.tuple #[.int .i64 now, .bool (if 0 < s.length then some now else none).isSome])
      by_cases h0 : 0 < s.length
      · rw [if_pos h0, decide_eq_true h0]; rfl
      · rw [if_neg h0, decide_eq_false h0]; rfl
    · intro x hx
      have hx' : (if 0 < s.length then some now else none) = some x := hx
      by_cases h0 : 0 < s.length
      · rw [if_pos h0] at hx'; injection hx'
      · rw [if_neg h0] at hx'; cases hx'⟩
  len := ⟨_, _, fifo_len_meth g, fun s k F w ⟨v, cs, h⟩ => by
    obtain ⟨A, c, rfl, hnc, _, _⟩ := h.f.lst.own.reads
    exact (len_any g 0 s.length c A w ((h.f.lst.blk.cell 0).trans h.f.lst.c0)).mono fun e w' ⟨e1, e2⟩ => ⟨e1, by subst e2; exact Below.refl _ _⟩⟩
  bytes := ⟨_, _, fifo_bytes_meth g, fun s k F w ⟨v, cs, h⟩ =>
    (bytes_any g 0 (Pl.tot s) w ((h.f.lst.blk.cell 1).trans h.f.lst.c1)).mono fun e w' ⟨e1, e2⟩ => ⟨e1, by subst e2; exact Below.refl _ _⟩⟩
end Go.Proofs.YtgdijbaodfghjaaGreatDoor

/-
  A block of records reads as a list; a plain queue that was just made is its machine, empty.
-/
namespace Go.Proofs.YtgdijbaodfghjaaGreatDoor
open Go.RowKit Bkt
set_option linter.unusedVariables false

theorem RdR.of_blk {α : Type} {R : Rec α} {w : World} {g : Nat} {t : TypeId} {cs : Array Value} {l : List α} (h : Blk w g t cs) (hc : cs.toList = l.flatMap R.cells) : RdR R w w.heap.size (some ⟨g, 0, none⟩) l.length l := by
  refine ⟨flatR_len l, fun _ => ⟨_, rfl, h.lt, fun j u hu => ?_⟩⟩
  rw [Addr.add_lit, Nat.zero_add, h.cell, ← hu, ← hc]
  simp
theorem Ffo.inv {w : World} {base g : Nat} {p : Pl.FP} {cs : Array Value} (h : Ffo w base g 0 92 cs (.slice none 0 0) [] p) (hg : base ≤ g) : FInv1 base g p [] 0 (fun i => i = g) w :=
  ⟨.slice none 0 0, cs, h, by simp, fun x hx => by simp at hx, Nat.le_trans hg (Nat.le_of_lt h.lst.blk.lt), by omega, hg, fun i => by simp [Value.ownBlock]⟩
end Go.Proofs.YtgdijbaodfghjaaGreatDoor

/-
  Plain law of flows that take turns: the machine, that it loses nothing, and that each flow keeps its order.
-/
namespace Go.Proofs.YtgdijbaodfghjaaGreatDoor
open Bkt
namespace Pl
set_option linter.unusedVariables false

def updf {α : Type} (V : Nat → α) (f : Nat) (u : α) : Nat → α := fun i => if i = f then u else V i
theorem updf_same {α : Type} (V : Nat → α) (f : Nat) (u : α) : updf V f u f = u := if_pos rfl
theorem updf_ne {α : Type} (V : Nat → α) {f i : Nat} (u : α) (h : i ≠ f) : updf V f u i = V i := if_neg h
theorem flat_same {α : Type} {G G' : Nat → List α} : ∀ (I : List Nat), (∀ i ∈ I, G' i = G i) → I.flatMap G' = I.flatMap G
  | [], _ => rfl
  | i :: I, h => by rw [List.flatMap_cons, List.flatMap_cons, h i (by simp), flat_same I fun j hj => h j (by simp [hj])]
theorem flat_upd {α : Type} (f : Nat) {G G' : Nat → List α} (h : ∀ i, i ≠ f → G' i = G i) : ∀ (I : List Nat), I.Nodup → f ∈ I → ∃ R, (I.flatMap G).Perm (G f ++ R) ∧ (I.flatMap G').Perm (G' f ++ R)
  | [], _, hf => by cases hf
  | i :: I, hn, hf => by
    rw [List.nodup_cons] at hn
    rw [List.flatMap_cons, List.flatMap_cons]
    by_cases e : i = f
    · subst e
      refine ⟨I.flatMap G, List.Perm.refl _, ?_⟩
      rw [flat_same I fun j hj => h j (fun e => hn.1 (e ▸ hj))]
    · have hf' : f ∈ I := by
        rcases List.mem_cons.1 hf with e2 | h2
        · exact absurd e2.symm e
        · exact h2
      obtain ⟨R, h1, h2⟩ := flat_upd f h I hn.2 hf'
      refine ⟨G i ++ R, ?_, ?_⟩
      · exact (h1.append_left (G i)).trans (List.perm_append_comm_assoc _ _ _)
      · rw [h i e]
        exact (h2.append_left (G i)).trans (List.perm_append_comm_assoc _ _ _)

structure RS where
  L : Nat → List Hd
  C : Nat → Int
  T : List Nat
  beg : Bool
def waitR (s : RS) : List (Int × Int) := (List.range 16).flatMap fun f => (s.L f).map key
def credR (Q : Nat → Int) (s : RS) (f : Nat) : Int := if s.beg = true then s.C f else s.C f + Q f
def takeR (Q : Nat → Int) : Nat → RS → Option Hd × RS
  | 0, s => (none, s)
  | n + 1, s => match s.T with
    | [] => (none, s)
    | f :: T => match s.L f with
      | [] => (none, s)
      | x :: r =>
        if credR Q s f < x.it.len then takeR Q n ⟨s.L, updf s.C f (credR Q s f), T ++ [f], false⟩
        else (some x, ⟨updf s.L f r, updf s.C f (credR Q s f - x.it.len), if r.length = 0 then T else f :: T, if r.length = 0 then false else true⟩)
def putR (room : Int) (x : Hd) (s : RS) : List Hd × RS :=
  if room ≤ ((s.L x.it.flow.toNat).length : Int) then ([x], s)
  else ([], ⟨updf s.L x.it.flow.toNat (s.L x.it.flow.toNat ++ [x]), if (s.L x.it.flow.toNat).length = 0 then updf s.C x.it.flow.toNat 0 else s.C, if (s.L x.it.flow.toNat).length = 0 then s.T ++ [x.it.flow.toNat] else s.T, s.beg⟩)

def lackR (s : RS) (f : Nat) : Nat := match s.L f with
  | [] => 0
  | x :: _ => (x.it.len - s.C f).toNat
def measR (s : RS) : Nat := 2 * (s.T.map (lackR s)).sum + (if s.beg = true then 1 else 0)

structure RI (s : RS) : Prop where
  nd : s.T.Nodup
  ne : ∀ f ∈ s.T, f < 16 ∧ s.L f ≠ []
  im : ∀ f, f < 16 → s.L f ≠ [] → f ∈ s.T
  c : ∀ f, f < 16 → 0 ≤ s.C f ∧ s.C f ≤ 1010000
  cl : ∀ f ∈ s.T, (s.beg = false ∨ s.T.head? ≠ some f) → s.C f ≤ 10000
  bg : s.beg = true → s.T ≠ []
  b : ∀ f, f < 16 → ∀ x ∈ s.L f, 0 ≤ x.it.len ∧ x.it.len ≤ 10000 ∧ x.it.flow = f
def QOk (Q : Nat → Int) : Prop := ∀ f, f < 16 → 1 ≤ Q f ∧ Q f ≤ 1000000

theorem credR_bd {Q : Nat → Int} (hQ : QOk Q) {s : RS} (h : RI s) {f : Nat} {T : List Nat} (hT : s.T = f :: T) : 0 ≤ credR Q s f ∧ credR Q s f ≤ 1010000 := by
  have hf := (h.ne f (by rw [hT]; simp)).1
  have h1 := h.c f hf
  have h2 := hQ f hf
  unfold credR
  split
  · exact h1
  · rename_i hb
    have := h.cl f (by rw [hT]; simp) (.inl (by simpa using hb))
    omega
theorem RI.turn {Q : Nat → Int} (hQ : QOk Q) {s : RS} (h : RI s) {f : Nat} {T : List Nat} (hT : s.T = f :: T) {x : Hd} {r : List Hd} (hL : s.L f = x :: r) (hc : credR Q s f < x.it.len) :
    RI ⟨s.L, updf s.C f (credR Q s f), T ++ [f], false⟩ ∧ measR ⟨s.L, updf s.C f (credR Q s f), T ++ [f], false⟩ < measR s := by
  have hnd := h.nd
  rw [hT, List.nodup_cons] at hnd
  have hf := (h.ne f (by rw [hT]; simp)).1
  have hb := credR_bd hQ h hT
  have hx := h.b f hf x (by rw [hL]; simp)
  have hmem : ∀ i, i ∈ T ++ [f] ↔ i ∈ s.T := fun i => by rw [hT]; simp [or_comm]
  refine ⟨⟨?_, ?_, ?_, ?_, ?_, ?_, h.b⟩, ?_⟩
  · show (T ++ [f]).Nodup
    rw [List.nodup_append]
    refine ⟨hnd.2, by simp, fun a ha b hb e => ?_⟩
    rw [List.mem_singleton] at hb
    subst hb e
    exact hnd.1 ha
  · intro i hi; exact h.ne i ((hmem i).1 hi)
  · intro i h1 h2; exact (hmem i).2 (h.im i h1 h2)
  · intro i hi
    show 0 ≤ updf s.C f (credR Q s f) i ∧ updf s.C f (credR Q s f) i ≤ 1010000
    by_cases e : i = f
    · subst e; rw [updf_same]; exact hb
    · rw [updf_ne _ _ e]; exact h.c i hi
  · intro i hi _
    show updf s.C f (credR Q s f) i ≤ 10000
    by_cases e : i = f
    · subst e; rw [updf_same]; omega
    · rw [updf_ne _ _ e]
      exact h.cl i ((hmem i).1 hi) (.inr (by rw [hT]; simpa using Ne.symm e))
  · intro e; cases e
  · have e1 : ∀ i ∈ T, lackR ⟨s.L, updf s.C f (credR Q s f), T ++ [f], false⟩ i = lackR s i := fun i hi => by
      unfold lackR
      dsimp only
      have hne : i ≠ f := fun e => by subst e; exact hnd.1 hi
      rw [updf_ne _ _ hne]
    have e2 : (T.map (lackR ⟨s.L, updf s.C f (credR Q s f), T ++ [f], false⟩)) = T.map (lackR s) := List.map_congr_left e1
    unfold measR
    dsimp only
    rw [hT, List.map_append, e2, List.sum_append, List.map_cons, List.map_nil, List.sum_cons, List.sum_nil, List.map_cons, List.sum_cons]
    have e3 : lackR ⟨s.L, updf s.C f (credR Q s f), T ++ [f], false⟩ f = (x.it.len - credR Q s f).toNat := by
      unfold lackR
      dsimp only
      rw [hL, updf_same]
    have e4 : lackR s f = (x.it.len - s.C f).toNat := by
      unfold lackR
      rw [hL]
    rw [e3, e4]
    have hq := hQ f hf
    rw [if_neg (by decide)]
    unfold credR at hc ⊢
    split
    · rename_i hbg; rw [if_pos hbg] at *; omega
    · rename_i hbg; rw [if_neg hbg] at *; omega
theorem RI.out {Q : Nat → Int} (hQ : QOk Q) {s : RS} (h : RI s) {f : Nat} {T : List Nat} (hT : s.T = f :: T) {x : Hd} {r : List Hd} (hL : s.L f = x :: r) (hc : ¬ credR Q s f < x.it.len) :
    RI ⟨updf s.L f r, updf s.C f (credR Q s f - x.it.len), if r.length = 0 then T else f :: T, if r.length = 0 then false else true⟩ := by
  have hnd := h.nd
  rw [hT, List.nodup_cons] at hnd
  have hf := (h.ne f (by rw [hT]; simp)).1
  have hb := credR_bd hQ h hT
  have hx := h.b f hf x (by rw [hL]; simp)
  have hcc : ∀ i, i < 16 → 0 ≤ updf s.C f (credR Q s f - x.it.len) i ∧ updf s.C f (credR Q s f - x.it.len) i ≤ 1010000 := fun i hi => by
    by_cases e : i = f
    · subst e; rw [updf_same]; omega
    · rw [updf_ne _ _ e]; exact h.c i hi
  have hbb : ∀ i, i < 16 → ∀ y ∈ updf s.L f r i, 0 ≤ y.it.len ∧ y.it.len ≤ 10000 ∧ y.it.flow = i := fun i hi y hy => by
    by_cases e : i = f
    · subst e; rw [updf_same] at hy; exact h.b i hi y (by rw [hL]; simp [hy])
    · rw [updf_ne _ _ e] at hy; exact h.b i hi y hy
  by_cases h0 : r.length = 0
  · rw [if_pos h0, if_pos h0]
    have hr : r = [] := List.eq_nil_of_length_eq_zero h0
    refine ⟨hnd.2, ?_, ?_, hcc, ?_, (fun e => by cases e), hbb⟩
    · intro i hi
      have e : i ≠ f := fun e => hnd.1 (e ▸ hi)
      have := h.ne i (by rw [hT]; simp [hi])
      exact ⟨this.1, by show updf s.L f r i ≠ []; rw [updf_ne _ _ e]; exact this.2⟩
    · intro i h1 h2
      have h2' : updf s.L f r i ≠ [] := h2
      by_cases e : i = f
      · subst e; rw [updf_same] at h2'; exact absurd hr h2'
      · rw [updf_ne _ _ e] at h2'
        have := h.im i h1 h2'
        rw [hT] at this
        rcases List.mem_cons.1 this with h3 | h3
        · exact absurd h3 e
        · exact h3
    · intro i hi _
      have e : i ≠ f := fun e => hnd.1 (e ▸ hi)
      show updf s.C f (credR Q s f - x.it.len) i ≤ 10000
      rw [updf_ne _ _ e]
      exact h.cl i (by rw [hT]; simp [hi]) (.inr (by rw [hT]; simpa using Ne.symm e))
  · rw [if_neg h0, if_neg h0]
    refine ⟨by show (f :: T).Nodup; rw [← hT]; exact h.nd, ?_, ?_, hcc, ?_, fun _ => by simp, hbb⟩
    · intro i hi
      have hi' : i ∈ s.T := by rw [hT]; exact hi
      refine ⟨(h.ne i hi').1, ?_⟩
      show updf s.L f r i ≠ []
      by_cases e : i = f
      · subst e; rw [updf_same]; intro e; rw [e] at h0; exact h0 rfl
      · rw [updf_ne _ _ e]; exact (h.ne i hi').2
    · intro i h1 h2
      have h2' : updf s.L f r i ≠ [] := h2
      show i ∈ f :: T
      by_cases e : i = f
      · subst e; simp
      · rw [updf_ne _ _ e] at h2'
        rw [← hT]; exact h.im i h1 h2'
    · intro i hi hh
      show updf s.C f (credR Q s f - x.it.len) i ≤ 10000
      rcases hh with hh | hh
      · cases hh
      · have e : i ≠ f := fun e => hh (by subst e; rfl)
        rw [updf_ne _ _ e]
        exact h.cl i (by rw [hT]; exact hi) (.inr (by rw [hT]; simpa using Ne.symm e))
structure TkR (s : RS) (r : Option Hd × RS) : Prop where
  ri : RI r.2
  none_ : s.T = [] → r = (none, s)
  some_ : s.T ≠ [] → ∃ x f, r.1 = some x ∧ f < 16 ∧ s.L f = x :: r.2.L f ∧ ∀ i, i ≠ f → r.2.L i = s.L i
theorem takeR_ok {Q : Nat → Int} (hQ : QOk Q) : ∀ (n : Nat) (s : RS), RI s → measR s < n → TkR s (takeR Q n s)
  | 0, s, h, hm => absurd hm (by omega)
  | n + 1, s, h, hm => by
    rw [takeR]
    cases hT : s.T with
    | nil => exact ⟨h, fun _ => rfl, fun hn => absurd hT hn⟩
    | cons f T =>
      dsimp only
      have hne := h.ne f (by rw [hT]; simp)
      cases hL : s.L f with
      | nil => exact absurd hL hne.2
      | cons x r =>
        dsimp only
        by_cases hc : credR Q s f < x.it.len
        · rw [if_pos hc]
          obtain ⟨h1, h2⟩ := h.turn hQ hT hL hc
          have h3 := takeR_ok hQ n _ h1 (by omega)
          refine ⟨h3.ri, fun hn => (by rw [hT] at hn; cases hn), fun _ => ?_⟩
          exact h3.some_ (by simp)
        · rw [if_neg hc]
          refine ⟨h.out hQ hT hL hc, fun hn => (by rw [hT] at hn; cases hn), fun _ => ⟨x, f, rfl, hne.1, ?_, fun i hi => updf_ne _ _ hi⟩⟩
          show s.L f = x :: updf s.L f r f
          rw [updf_same, hL]
theorem takeR_fuel {Q : Nat → Int} (hQ : QOk Q) : ∀ (n m : Nat) (s : RS), RI s → measR s < n → measR s < m → takeR Q n s = takeR Q m s
  | 0, m, s, h, hm, _ => absurd hm (by omega)
  | n + 1, 0, s, h, _, hm => absurd hm (by omega)
  | n + 1, m + 1, s, h, h1, h2 => by
    rw [takeR, takeR]
    cases hT : s.T with
    | nil => rfl
    | cons f T =>
      dsimp only
      cases hL : s.L f with
      | nil => rfl
      | cons x r =>
        dsimp only
        by_cases hc : credR Q s f < x.it.len
        · rw [if_pos hc, if_pos hc]
          obtain ⟨h3, h4⟩ := h.turn hQ hT hL hc
          exact takeR_fuel hQ n m _ h3 (by omega) (by omega)
        · rw [if_neg hc, if_neg hc]
theorem RI.put {room : Int} {s : RS} (h : RI s) {x : Hd} (hx : okB x.it = true) : RI (putR room x s).2 := by
  have hb := okB_fine.1 hx
  have hf : x.it.flow.toNat < 16 := by have := hb.f2; omega
  have hfl : (x.it.flow.toNat : Int) = x.it.flow := by have := hb.f2; omega
  have hl := hb.f1
  generalize hF : x.it.flow.toNat = f at *
  unfold putR
  rw [hF]
  split
  · exact h
  · have hbb : ∀ i, i < 16 → ∀ y ∈ updf s.L f (s.L f ++ [x]) i, 0 ≤ y.it.len ∧ y.it.len ≤ 10000 ∧ y.it.flow = i := fun i hi y hy => by
      by_cases e : i = f
      · subst e
        rw [updf_same] at hy
        rcases List.mem_append.1 hy with hy | hy
        · exact h.b i hi y hy
        · rw [List.mem_singleton] at hy; subst hy; omega
      · rw [updf_ne _ _ e] at hy; exact h.b i hi y hy
    have hL : ∀ i, updf s.L f (s.L f ++ [x]) i ≠ [] ↔ (i = f ∨ s.L i ≠ []) := fun i => by
      by_cases e : i = f
      · subst e; rw [updf_same]; simp
      · rw [updf_ne _ _ e]; simp [e]
    by_cases h0 : (s.L f).length = 0
    · rw [if_pos h0, if_pos h0]
      have h0' : s.L f = [] := List.eq_nil_of_length_eq_zero h0
      have hnf : f ∉ s.T := fun hm => (h.ne f hm).2 h0'
      refine ⟨?_, ?_, ?_, ?_, ?_, ?_, hbb⟩
      · show (s.T ++ [f]).Nodup
        rw [List.nodup_append]
        refine ⟨h.nd, by simp, fun a ha b hb e => ?_⟩
        rw [List.mem_singleton] at hb
        subst hb e
        exact hnf ha
      · intro i hi
        refine ⟨?_, (hL i).2 ?_⟩
        · rcases List.mem_append.1 hi with hi | hi
          · exact (h.ne i hi).1
          · rw [List.mem_singleton] at hi; omega
        · rcases List.mem_append.1 hi with hi | hi
          · exact .inr (h.ne i hi).2
          · rw [List.mem_singleton] at hi; exact .inl hi
      · intro i h1 h2
        rcases (hL i).1 h2 with e | e
        · subst e; simp
        · exact List.mem_append_left _ (h.im i h1 e)
      · intro i hi
        show 0 ≤ updf s.C f 0 i ∧ updf s.C f 0 i ≤ 1010000
        by_cases e : i = f
        · subst e; rw [updf_same]; omega
        · rw [updf_ne _ _ e]; exact h.c i hi
      · intro i hi hh
        show updf s.C f 0 i ≤ 10000
        by_cases e : i = f
        · subst e; rw [updf_same]; omega
        · rw [updf_ne _ _ e]
          have hi' : i ∈ s.T := by
            rcases List.mem_append.1 hi with hi | hi
            · exact hi
            · rw [List.mem_singleton] at hi; exact absurd hi e
          refine h.cl i hi' (hh.imp id fun h2 h3 => h2 ?_)
          show (s.T ++ [f]).head? = some i
          rw [List.head?_append, h3]; rfl
      · intro hb2
        show s.T ++ [f] ≠ []
        simp
    · rw [if_neg h0, if_neg h0]
      refine ⟨h.nd, fun i hi => ⟨(h.ne i hi).1, (hL i).2 (.inr (h.ne i hi).2)⟩, fun i h1 h2 => ?_, h.c, h.cl, h.bg, hbb⟩
      rcases (hL i).1 h2 with e | e
      · subst e; exact h.im i h1 (fun e => h0 (by rw [e]; rfl))
      · exact h.im i h1 e
def fairM (Q : Nat → Int) (room : Int) : QM where
  σ := RS
  put := fun _ x s => putR room x s
  take := fun _ s => ((takeR Q (measR s + 1) s).1, [], (takeR Q (measR s + 1) s).2)
  when_ := fun now s => (if 0 < (waitR s).length then some now else none, s)
  wait := waitR
  len := fun s => (waitR s).length
  bytes := fun s => sumLen (waitR s)
theorem waitR_put {room : Int} {s : RS} {x : Hd} (hf : x.it.flow.toNat < 16) : (waitR s ++ [key x]).Perm ((putR room x s).1.map key ++ waitR (putR room x s).2) := by
  unfold putR
  generalize x.it.flow.toNat = f at *
  split
  · exact List.perm_append_comm
  · obtain ⟨R, h1, h2⟩ := flat_upd f (G := fun i => (s.L i).map key) (G' := fun i => ((updf s.L f (s.L f ++ [x])) i).map key) (fun i hi => by rw [updf_ne _ _ hi]) (List.range 16) List.nodup_range (List.mem_range.2 hf)
    rw [updf_same, List.map_append] at h2
    show (waitR s ++ [key x]).Perm ([] ++ (List.range 16).flatMap fun i => ((updf s.L f (s.L f ++ [x])) i).map key)
    rw [List.nil_append]
    refine ((h1.append_right [key x]).trans ?_).trans h2.symm
    rw [List.append_assoc, List.append_assoc]
    exact List.Perm.append_left _ List.perm_append_comm
theorem waitR_take {s s' : RS} {x : Hd} {f : Nat} (hf : f < 16) (hL : s.L f = x :: s'.L f) (hne : ∀ i, i ≠ f → s'.L i = s.L i) : (waitR s).Perm (key x :: waitR s') := by
  obtain ⟨R, h1, h2⟩ := flat_upd f (G := fun i => (s.L i).map key) (G' := fun i => (s'.L i).map key) (fun i hi => by rw [hne i hi]) (List.range 16) List.nodup_range (List.mem_range.2 hf)
  rw [hL, List.map_cons] at h1
  exact h1.trans (List.Perm.cons _ h2.symm)
theorem fair_good (Q : Nat → Int) (hQ : QOk Q) (room : Int) : (fairM Q room).Good false RI where
  put := fun s now x h ho => ⟨h.put ho, waitR_put (by have := (okB_fine.1 ho).f2; omega)⟩
  take := fun s now h => by
    have ht := takeR_ok hQ (measR s + 1) s h (by omega)
    refine ⟨ht.ri, ?_⟩
    show (waitR s).Perm ([] ++ ((takeR Q (measR s + 1) s).1.toList.map key ++ waitR (takeR Q (measR s + 1) s).2))
    rw [List.nil_append]
    by_cases hT : s.T = []
    · rw [ht.none_ hT]; exact List.Perm.refl _
    · obtain ⟨x, f, e1, hf, e2, e3⟩ := ht.some_ hT
      rw [e1]
      exact waitR_take hf e2 e3
  when_ := fun s now h => ⟨h, List.Perm.refl _⟩
  len := fun s h => ⟨Int.le_refl _, Int.le_refl _, fun _ => ⟨rfl, rfl⟩⟩
end Pl
end Go.Proofs.YtgdijbaodfghjaaGreatDoor

/-
  Plain law: a queue that takes each flow's packets in the order in which they were put in passes the check of orders.
-/
namespace Go.Proofs.YtgdijbaodfghjaaGreatDoor
open Bkt
namespace Pl
set_option linter.unusedVariables false

def flowTo (ts : List Stp) : Nat → List Int
  | 0 => []
  | k + 1 => match ts[k]? with
    | some t => if t.what = 0 then flowTo ts k ++ [t.it.flow] else flowTo ts k
    | none => flowTo ts k
def lastF (ts : List Stp) (sn : Nat → Seen) : Nat → Nat → Int
  | 0 => fun _ => 0
  | k + 1 => if 0 ≤ (sn k).taken then updf (lastF ts sn k) ((flowTo ts (k + 1)).getD (sn k).taken.toNat 0).toNat ((sn k).taken + 1) else lastF ts sn k
def StepO (tk : Int) (last : Nat → Int) (fs : List Int) : Prop := 0 ≤ tk → tk < fs.length ∧ ∃ f : Nat, f < 16 ∧ fs.getD tk.toNat 0 = f ∧ last f ≤ tk

structure Ordm (M : QM) (I : M.σ → Prop) where
  fl : M.σ → Nat → List Hd
  put : ∀ s now x, I s → okB x.it = true → ∀ f, f < 16 → (fl (M.put now x s).2 f).Sublist (if x.it.flow = f then fl s f ++ [x] else fl s f)
  take : ∀ s now, I s → (∀ f, f < 16 → (fl (M.take now s).2.2 f).Sublist (fl s f)) ∧ ∀ x, (M.take now s).1 = some x → ∃ f r, f < 16 ∧ fl s f = x :: r ∧ (fl (M.take now s).2.2 f).Sublist r
  when_ : ∀ s now, I s → ∀ f, f < 16 → (fl (M.when_ now s).2 f).Sublist (fl s f)

structure OInv (fs : List Int) (last : Nat → Int) (n : Nat) (fl : Nat → List Hd) : Prop where
  len : fs.length = n
  rg : ∀ x ∈ fs, 0 ≤ x ∧ x < 16
  x : ∀ f, f < 16 → ∀ x ∈ fl f, 0 ≤ x.num ∧ x.num < n ∧ fs.getD x.num.toNat 0 = f ∧ last f ≤ x.num
  up : ∀ f, f < 16 → ((fl f).map Hd.num).Pairwise (· < ·)
theorem OInv.sub {fs : List Int} {last : Nat → Int} {n : Nat} {fl fl' : Nat → List Hd} (h : OInv fs last n fl) (hs : ∀ f, f < 16 → (fl' f).Sublist (fl f)) : OInv fs last n fl' :=
  ⟨h.len, h.rg, fun f hf x hx => h.x f hf x ((hs f hf).subset hx), fun f hf => (h.up f hf).sublist ((hs f hf).map _)⟩
theorem OInv.put {fs : List Int} {last : Nat → Int} {n : Nat} {fl : Nat → List Hd} (h : OInv fs last n fl) (hlast : ∀ f, f < 16 → last f ≤ n) (it : It) (hf : 0 ≤ it.flow ∧ it.flow < 16) : OInv (fs ++ [it.flow]) last (n + 1) (fun f => if it.flow = f then fl f ++ [⟨it, n⟩] else fl f) := by
  have hold : ∀ f, f < 16 → ∀ x ∈ fl f, 0 ≤ x.num ∧ x.num < (n + 1 : Nat) ∧ (fs ++ [it.flow]).getD x.num.toNat 0 = f ∧ last f ≤ x.num := fun f hf x hx => by
    obtain ⟨h1, h2, h3, h4⟩ := h.x f hf x hx
    refine ⟨h1, by omega, ?_, h4⟩
    rw [List.getD, List.getElem?_append_left (by have := h.len; omega)]
    exact h3
  refine ⟨by simp [h.len], fun x hx => ?_, fun f hf2 x hx => ?_, fun f hf2 => ?_⟩
  · rcases List.mem_append.1 hx with hx | hx
    · exact h.rg x hx
    · rw [List.mem_singleton] at hx; subst hx; exact hf
  · split at hx
    · rename_i e
      rcases List.mem_append.1 hx with hx | hx
      · exact hold f hf2 x hx
      · rw [List.mem_singleton] at hx
        subst hx
        refine ⟨Int.natCast_nonneg _, by show (n : Int) < _; omega, ?_, hlast f hf2⟩
        show (fs ++ [it.flow]).getD (n : Int).toNat 0 = f
        rw [Int.toNat_natCast, List.getD, List.getElem?_append_right (by have := h.len; omega), h.len, Nat.sub_self]
        exact e
    · exact hold f hf2 x hx
  · split
    · rw [List.map_append]
      exact pairwise_snoc (h.up f hf2) fun y hy => by
        obtain ⟨z, hz, rfl⟩ := List.mem_map.1 hy
        exact (h.x f hf2 z hz).2.1
    · exact h.up f hf2
theorem OInv.take {fs : List Int} {last : Nat → Int} {n : Nat} {fl fl' : Nat → List Hd} (h : OInv fs last n fl) (hs : ∀ f, f < 16 → (fl' f).Sublist (fl f)) {f : Nat} {x : Hd} {r : List Hd} (hf : f < 16) (e : fl f = x :: r) (hr : (fl' f).Sublist r) :
    StepO x.num last fs ∧ OInv fs (updf last ((fs.getD x.num.toNat 0).toNat) (x.num + 1)) n fl' := by
  obtain ⟨h1, h2, h3, h4⟩ := h.x f hf x (by rw [e]; simp)
  refine ⟨fun _ => ⟨by have := h.len; omega, f, hf, h3, h4⟩, h.len, h.rg, fun i hi y hy => ?_, fun i hi => (h.up i hi).sublist ((hs i hi).map _)⟩
  obtain ⟨g1, g2, g3, g4⟩ := h.x i hi y ((hs i hi).subset hy)
  refine ⟨g1, g2, g3, ?_⟩
  rw [h3, Int.toNat_natCast]
  by_cases ei : i = f
  · subst ei
    rw [updf_same]
    have hu := h.up i hi
    rw [e, List.map_cons, List.pairwise_cons] at hu
    have := hu.1 y.num (List.mem_map_of_mem (hr.subset hy))
    omega
  · rw [updf_ne _ _ ei]; exact g4
def fair_ord (Q : Nat → Int) (hQ : QOk Q) (room : Int) : Ordm (fairM Q room) RI where
  fl := fun s f => s.L f
  put := fun s now x h ho f hf => by
    show (((putR room x s).2).L f).Sublist _
    have hfl := (okB_fine.1 ho).f2
    unfold putR
    by_cases c : room ≤ ((s.L x.it.flow.toNat).length : Int)
    · rw [if_pos c]
      split
      · exact List.sublist_append_left _ _
      · exact List.Sublist.refl _
    · rw [if_neg c]
      show (updf s.L x.it.flow.toNat (s.L x.it.flow.toNat ++ [x]) f).Sublist _
      by_cases e : x.it.flow = f
      · have e2 : x.it.flow.toNat = f := by omega
        rw [if_pos e, e2, updf_same]
        exact List.Sublist.refl _
      · have e2 : f ≠ x.it.flow.toNat := by omega
        rw [if_neg e, updf_ne _ _ e2]
        exact List.Sublist.refl _
  take := fun s now h => by
    have ht := takeR_ok hQ (measR s + 1) s h (by omega)
    show (∀ f, f < 16 → ((takeR Q (measR s + 1) s).2.L f).Sublist (s.L f)) ∧ ∀ x, (takeR Q (measR s + 1) s).1 = some x → ∃ f r, f < 16 ∧ s.L f = x :: r ∧ ((takeR Q (measR s + 1) s).2.L f).Sublist r
    by_cases hT : s.T = []
    · rw [ht.none_ hT]
      exact ⟨fun f _ => List.Sublist.refl _, fun x e => by cases e⟩
    · obtain ⟨x, f, e1, hf, e2, e3⟩ := ht.some_ hT
      refine ⟨fun i _ => ?_, fun y ey => ?_⟩
      · by_cases ei : i = f
        · subst ei; rw [e2]; exact List.sublist_cons_self _ _
        · rw [e3 i ei]; exact List.Sublist.refl _
      · rw [e1] at ey; injection ey with ey; subst ey
        exact ⟨f, _, hf, e2, List.Sublist.refl _⟩
  when_ := fun s now h f _ => List.Sublist.refl _
end Pl
end Go.Proofs.YtgdijbaodfghjaaGreatDoor

/-
  Plain law of flows that are put together by a hash: the machine, that it loses nothing, that each flow keeps its order, that a longest list pays.
-/
namespace Go.Proofs.YtgdijbaodfghjaaGreatDoor
open Bkt
namespace Pl
set_option linter.unusedVariables false

structure HS where
  L : Nat → List Hd
  T : List Nat
structure HP where
  m : Nat
  salt : Int
  room : Int
structure HPOk (P : HP) : Prop where
  m : 1 ≤ P.m ∧ P.m ≤ 64
  salt : 0 ≤ P.salt ∧ P.salt ≤ 1000000
  room : 1 ≤ P.room ∧ P.room ≤ 1000000
def whr (P : HP) (f : Int) : Nat := ((f * 31 + P.salt * 7 + f * P.salt) % (P.m : Int)).toNat
theorem whr_lt {P : HP} (h : HPOk P) (f : Int) : whr P f < P.m := by
  have h1 := h.m
  have h2 := Int.emod_lt_of_pos (f * 31 + P.salt * 7 + f * P.salt) (show (0 : Int) < P.m by omega)
  have h3 := Int.emod_nonneg (f * 31 + P.salt * 7 + f * P.salt) (show (P.m : Int) ≠ 0 by omega)
  unfold whr
  omega
def waitH (m : Nat) (s : HS) : List (Int × Int) := (List.range m).flatMap fun k => (s.L k).map key
def lngTo (L : Nat → List Hd) : Nat → Nat
  | 0 => 0
  | i + 1 => if (L (lngTo L i)).length < (L i).length then i else lngTo L i
theorem lngTo_lt (L : Nat → List Hd) : ∀ i, 0 < i → lngTo L i < i
  | 1, _ => by unfold lngTo lngTo; split <;> omega
  | i + 2, _ => by
    have := lngTo_lt L (i + 1) (by omega)
    rw [lngTo]
    split <;> omega
theorem lngTo_max (L : Nat → List Hd) : ∀ i j, j < i → (L j).length ≤ (L (lngTo L i)).length
  | i + 1, j, h => by
    rw [lngTo]
    split
    · rename_i h1
      rcases Nat.lt_or_ge j i with h2 | h2
      · have := lngTo_max L i j h2; omega
      · obtain rfl : j = i := by omega
        exact Nat.le_refl _
    · rename_i h1
      rcases Nat.lt_or_ge j i with h2 | h2
      · exact lngTo_max L i j h2
      · obtain rfl : j = i := by omega
        omega
def addH (k : Nat) (x : Hd) (s : HS) : HS := ⟨updf s.L k (s.L k ++ [x]), if (s.L k).length = 0 then s.T ++ [k] else s.T⟩
def cutH (j : Nat) (s : HS) : HS := ⟨updf s.L j (s.L j).dropLast, if (s.L j).length = 1 then s.T.erase j else s.T⟩
def putH (P : HP) (x : Hd) (s : HS) : List Hd × HS :=
  if ((waitH P.m (addH (whr P x.it.flow) x s)).length : Int) ≤ P.room then ([], addH (whr P x.it.flow) x s)
  else (((addH (whr P x.it.flow) x s).L (lngTo (addH (whr P x.it.flow) x s).L P.m)).getLast?.toList, cutH (lngTo (addH (whr P x.it.flow) x s).L P.m) (addH (whr P x.it.flow) x s))
def takeH (s : HS) : Option Hd × HS := match s.T with
  | [] => (none, s)
  | k :: T => match s.L k with
    | [] => (none, s)
    | x :: r => (some x, ⟨updf s.L k r, if 0 < r.length then T ++ [k] else T⟩)
def hashM (P : HP) : QM where
  σ := HS
  put := fun _ x s => putH P x s
  take := fun _ s => ((takeH s).1, [], (takeH s).2)
  when_ := fun now s => (if 0 < (waitH P.m s).length then some now else none, s)
  wait := waitH P.m
  len := fun s => (waitH P.m s).length
  bytes := fun s => sumLen (waitH P.m s)

structure HI0 (P : HP) (s : HS) : Prop where
  nd : s.T.Nodup
  ne : ∀ k ∈ s.T, k < P.m ∧ s.L k ≠ []
  im : ∀ k, k < P.m → s.L k ≠ [] → k ∈ s.T
  b : ∀ k, k < P.m → ∀ x ∈ s.L k, 0 ≤ x.it.len ∧ x.it.len ≤ 10000 ∧ 0 ≤ x.it.flow ∧ x.it.flow < 16 ∧ whr P x.it.flow = k
structure HI (P : HP) (s : HS) : Prop where
  h : HI0 P s
  rm : ((waitH P.m s).length : Int) ≤ P.room
theorem HI0.add {P : HP} (hP : HPOk P) {s : HS} (h : HI0 P s) {x : Hd} (hx : okB x.it = true) : HI0 P (addH (whr P x.it.flow) x s) := by
  have hb := okB_fine.1 hx
  have hk := whr_lt hP x.it.flow
  have h1 := hb.f1; have h2 := hb.f2
  generalize hw : whr P x.it.flow = k at *
  have hL : ∀ i, updf s.L k (s.L k ++ [x]) i ≠ [] ↔ (i = k ∨ s.L i ≠ []) := fun i => by
    by_cases e : i = k
    · subst e; rw [updf_same]; simp
    · rw [updf_ne _ _ e]; simp [e]
  unfold addH
  refine ⟨?_, fun i hi => ?_, fun i hi hi2 => ?_, fun i hi y hy => ?_⟩
  · show (if (s.L k).length = 0 then s.T ++ [k] else s.T).Nodup
    split
    · rename_i h0
      have h0' := List.eq_nil_of_length_eq_zero h0
      rw [List.nodup_append]
      refine ⟨h.nd, by simp, fun a ha b hb e => ?_⟩
      rw [List.mem_singleton] at hb
      subst hb e
      exact (h.ne a ha).2 h0'
    · exact h.nd
  · have hi' : i ∈ (if (s.L k).length = 0 then s.T ++ [k] else s.T) := hi
    show i < P.m ∧ updf s.L k (s.L k ++ [x]) i ≠ []
    split at hi'
    · rcases List.mem_append.1 hi' with e | e
      · exact ⟨(h.ne i e).1, (hL i).2 (.inr (h.ne i e).2)⟩
      · rw [List.mem_singleton] at e; subst e; exact ⟨hk, (hL i).2 (.inl rfl)⟩
    · exact ⟨(h.ne i hi').1, (hL i).2 (.inr (h.ne i hi').2)⟩
  · show i ∈ (if (s.L k).length = 0 then s.T ++ [k] else s.T)
    have hi2' : updf s.L k (s.L k ++ [x]) i ≠ [] := hi2
    split
    · rcases (hL i).1 hi2' with e | e
      · subst e; simp
      · exact List.mem_append_left _ (h.im i hi e)
    · rename_i h0
      rcases (hL i).1 hi2' with e | e
      · subst e; exact h.im i hi (fun e => h0 (by rw [e]; rfl))
      · exact h.im i hi e
  · have hy' : y ∈ updf s.L k (s.L k ++ [x]) i := hy
    by_cases e : i = k
    · subst e
      rw [updf_same] at hy'
      rcases List.mem_append.1 hy' with hy2 | hy2
      · exact h.b i hi y hy2
      · rw [List.mem_singleton] at hy2; subst hy2; refine ⟨by omega, by omega, by omega, by omega, hw⟩
    · rw [updf_ne _ _ e] at hy'; exact h.b i hi y hy'
theorem HI0.cut {P : HP} {s : HS} (h : HI0 P s) {j : Nat} (hj : j < P.m) : HI0 P (cutH j s) := by
  have hL : ∀ i, updf s.L j (s.L j).dropLast i ≠ [] → s.L i ≠ [] := fun i hi => by
    by_cases e : i = j
    · subst e; rw [updf_same] at hi; intro e2; rw [e2] at hi; exact hi rfl
    · rw [updf_ne _ _ e] at hi; exact hi
  unfold cutH
  refine ⟨?_, fun i hi => ?_, fun i hi hi2 => ?_, fun i hi y hy => ?_⟩
  · show (if (s.L j).length = 1 then s.T.erase j else s.T).Nodup
    split
    · exact h.nd.erase j
    · exact h.nd
  · have hi' : i ∈ (if (s.L j).length = 1 then s.T.erase j else s.T) := hi
    show i < P.m ∧ updf s.L j (s.L j).dropLast i ≠ []
    split at hi'
    · have h1 := (h.nd.mem_erase_iff).1 hi'
      rw [updf_ne _ _ h1.1]
      exact h.ne i h1.2
    · rename_i h1
      refine ⟨(h.ne i hi').1, ?_⟩
      by_cases e : i = j
      · subst e
        rw [updf_same]
        intro e2
        have h2 := congrArg List.length e2
        rw [List.length_dropLast] at h2
        have h3 := (h.ne i hi').2
        have h4 : (s.L i).length ≠ 0 := fun e => h3 (List.eq_nil_of_length_eq_zero e)
        simp at h2
        omega
      · rw [updf_ne _ _ e]; exact (h.ne i hi').2
  · show i ∈ (if (s.L j).length = 1 then s.T.erase j else s.T)
    have hi2' : updf s.L j (s.L j).dropLast i ≠ [] := hi2
    have hm := h.im i hi (hL i hi2')
    split
    · rename_i h1
      refine (h.nd.mem_erase_iff).2 ⟨fun e => ?_, hm⟩
      subst e
      rw [updf_same] at hi2'
      exact hi2' (List.eq_nil_of_length_eq_zero (by rw [List.length_dropLast]; omega))
    · exact hm
  · have hy' : y ∈ updf s.L j (s.L j).dropLast i := hy
    by_cases e : i = j
    · subst e; rw [updf_same] at hy'; exact h.b i hi y (List.dropLast_subset _ hy')
    · rw [updf_ne _ _ e] at hy'; exact h.b i hi y hy'
theorem wait_add {m k : Nat} (hk : k < m) (x : Hd) (s : HS) : (waitH m s ++ [key x]).Perm (waitH m (addH k x s)) := by
  obtain ⟨R, h1, h2⟩ := flat_upd k (G := fun i => (s.L i).map key) (G' := fun i => ((updf s.L k (s.L k ++ [x])) i).map key) (fun i hi => by rw [updf_ne _ _ hi]) (List.range m) List.nodup_range (List.mem_range.2 hk)
  rw [updf_same, List.map_append] at h2
  refine ((h1.append_right [key x]).trans ?_).trans h2.symm
  rw [List.append_assoc, List.append_assoc]
  exact List.Perm.append_left _ List.perm_append_comm
theorem wait_cut {m j : Nat} (hj : j < m) {s : HS} {l : List Hd} {y : Hd} (hL : s.L j = l ++ [y]) : (waitH m s).Perm (key y :: waitH m (cutH j s)) := by
  obtain ⟨R, h1, h2⟩ := flat_upd j (G := fun i => (s.L i).map key) (G' := fun i => ((updf s.L j (s.L j).dropLast) i).map key) (fun i hi => by rw [updf_ne _ _ hi]) (List.range m) List.nodup_range (List.mem_range.2 hj)
  rw [updf_same] at h2
  have h3 : ((s.L j).dropLast.map key) = l.map key := by rw [hL, List.dropLast_concat]
  rw [h3] at h2
  rw [hL, List.map_append] at h1
  refine (h1.trans ?_).trans (List.Perm.cons _ h2.symm)
  rw [List.append_assoc]
  exact List.perm_middle
theorem wait_next {m k : Nat} (hk : k < m) {s s' : HS} {x : Hd} {r : List Hd} (hL : s.L k = x :: r) (hs : s'.L = updf s.L k r) : (waitH m s).Perm (key x :: waitH m s') := by
  obtain ⟨R, h1, h2⟩ := flat_upd k (G := fun i => (s.L i).map key) (G' := fun i => (s'.L i).map key) (fun i hi => by rw [hs, updf_ne _ _ hi]) (List.range m) List.nodup_range (List.mem_range.2 hk)
  rw [hs, updf_same, ← hs] at h2
  rw [hL, List.map_cons] at h1
  exact h1.trans (List.Perm.cons _ h2.symm)
theorem lng_some {m : Nat} {s : HS} (h : 0 < (waitH m s).length) : lngTo s.L m < m ∧ ∃ l y, s.L (lngTo s.L m) = l ++ [y] := by
  have hm : 0 < m := by
    rcases Nat.eq_zero_or_pos m with e | e
    · subst e; simp [waitH] at h
    · exact e
  refine ⟨lngTo_lt _ m hm, ?_⟩
  have hne : s.L (lngTo s.L m) ≠ [] := fun e => by
    have : waitH m s = [] := by
      unfold waitH
      rw [List.flatMap_eq_nil_iff]
      intro k hk
      have h1 := lngTo_max s.L m k (List.mem_range.1 hk)
      rw [e] at h1
      have h2 : s.L k = [] := List.eq_nil_of_length_eq_zero (by simpa using h1)
      rw [h2]
      rfl
    rw [this] at h
    simp at h
  exact ⟨_, _, (List.dropLast_concat_getLast hne).symm⟩
structure PtH (P : HP) (s : HS) (x : Hd) (r : List Hd × HS) : Prop where
  hi : HI P r.2
  ways : (((waitH P.m (addH (whr P x.it.flow) x s)).length : Int) ≤ P.room ∧ r = ([], addH (whr P x.it.flow) x s)) ∨
    (¬ ((waitH P.m (addH (whr P x.it.flow) x s)).length : Int) ≤ P.room ∧ lngTo (addH (whr P x.it.flow) x s).L P.m < P.m ∧ ∃ l y, (addH (whr P x.it.flow) x s).L (lngTo (addH (whr P x.it.flow) x s).L P.m) = l ++ [y] ∧ r = ([y], cutH (lngTo (addH (whr P x.it.flow) x s).L P.m) (addH (whr P x.it.flow) x s)))
theorem putH_ok {P : HP} (hP : HPOk P) {s : HS} (h : HI P s) {x : Hd} (hx : okB x.it = true) : PtH P s x (putH P x s) := by
  have ha := h.h.add hP hx
  have hw := wait_add (whr_lt hP x.it.flow) x s
  have hl := hw.length_eq
  rw [List.length_append, List.length_singleton] at hl
  by_cases c : ((waitH P.m (addH (whr P x.it.flow) x s)).length : Int) ≤ P.room
  · have e : putH P x s = ([], addH (whr P x.it.flow) x s) := by unfold putH; rw [if_pos c]
    rw [e]
    exact ⟨⟨ha, c⟩, .inl ⟨c, rfl⟩⟩
  · obtain ⟨hj, l, y, hL⟩ := lng_some (m := P.m) (s := addH (whr P x.it.flow) x s) (by omega)
    have e : putH P x s = ([y], cutH (lngTo (addH (whr P x.it.flow) x s).L P.m) (addH (whr P x.it.flow) x s)) := by
      unfold putH
      rw [if_neg c, hL, List.getLast?_concat]
      rfl
    rw [e]
    have hc := (wait_cut hj hL).length_eq
    rw [List.length_cons] at hc
    have hrm := h.rm
    exact ⟨⟨ha.cut hj, by show ((waitH P.m (cutH _ _)).length : Int) ≤ P.room; omega⟩, .inr ⟨c, hj, l, y, hL, rfl⟩⟩
structure TkH (P : HP) (s : HS) (r : Option Hd × HS) : Prop where
  hi : HI P r.2
  none_ : s.T = [] → r = (none, s)
  some_ : ∀ k T, s.T = k :: T → ∃ x q, s.L k = x :: q ∧ k < P.m ∧ r = (some x, ⟨updf s.L k q, if 0 < q.length then T ++ [k] else T⟩)
theorem takeH_ok {P : HP} {s : HS} (h : HI P s) : TkH P s (takeH s) := by
  unfold takeH
  cases hT : s.T with
  | nil => exact ⟨h, fun _ => rfl, fun k T e => (by rw [hT] at e; cases e)⟩
  | cons k T =>
    dsimp only
    have hne := h.h.ne k (by rw [hT]; simp)
    have hnd := h.h.nd
    rw [hT, List.nodup_cons] at hnd
    cases hL : s.L k with
    | nil => exact absurd hL hne.2
    | cons x r =>
      dsimp only
      have hw := (wait_next hne.1 (s' := ⟨updf s.L k r, if 0 < r.length then T ++ [k] else T⟩) hL rfl).length_eq
      rw [List.length_cons] at hw
      have hmem : ∀ i, i ∈ (if 0 < r.length then T ++ [k] else T) → i ∈ s.T ∧ (i = k → 0 < r.length) := fun i hi => by
        rw [hT]
        split at hi
        · rename_i h0
          rcases List.mem_append.1 hi with e | e
          · exact ⟨by simp [e], fun _ => h0⟩
          · rw [List.mem_singleton] at e; exact ⟨by simp [e], fun _ => h0⟩
        · exact ⟨by simp [hi], fun e => absurd (e ▸ hi) hnd.1⟩
      refine ⟨⟨⟨?_, fun i hi => ?_, fun i hi hi2 => ?_, fun i hi y hy => ?_⟩, by have := h.rm; show ((waitH P.m ⟨updf s.L k r, if 0 < r.length then T ++ [k] else T⟩).length : Int) ≤ P.room; omega⟩, fun e => (by rw [hT] at e; cases e), fun k' T' e => ?_⟩
      · show (if 0 < r.length then T ++ [k] else T).Nodup
        split
        · rw [List.nodup_append]
          refine ⟨hnd.2, by simp, fun a ha b hb e => ?_⟩
          rw [List.mem_singleton] at hb
          subst hb e
          exact hnd.1 ha
        · exact hnd.2
      · obtain ⟨h1, h2⟩ := hmem i hi
        refine ⟨(h.h.ne i h1).1, ?_⟩
        show updf s.L k r i ≠ []
        by_cases e : i = k
        · subst e; rw [updf_same]; intro e2; have := h2 rfl; rw [e2] at this; simp at this
        · rw [updf_ne _ _ e]; exact (h.h.ne i h1).2
      · have hi2' : updf s.L k r i ≠ [] := hi2
        show i ∈ (if 0 < r.length then T ++ [k] else T)
        by_cases e : i = k
        · subst e
          rw [updf_same] at hi2'
          rw [if_pos (by cases r with | nil => exact absurd rfl hi2' | cons _ _ => simp)]
          simp
        · rw [updf_ne _ _ e] at hi2'
          have hm := h.h.im i hi hi2'
          rw [hT] at hm
          rcases List.mem_cons.1 hm with e2 | e2
          · exact absurd e2 e
          · split
            · exact List.mem_append_left _ e2
            · exact e2
      · have hy' : y ∈ updf s.L k r i := hy
        by_cases e : i = k
        · subst e; rw [updf_same] at hy'; exact h.h.b i hi y (by rw [hL]; simp [hy'])
        · rw [updf_ne _ _ e] at hy'; exact h.h.b i hi y hy'
      · rw [hT] at e
        injection e with e1 e2
        subst e1 e2
        exact ⟨x, r, hL, hne.1, rfl⟩
theorem hash_good (P : HP) (hP : HPOk P) : (hashM P).Good false (HI P) where
  put := fun s now x h ho => by
    have hp := putH_ok hP h ho
    refine ⟨hp.hi, ?_⟩
    show (waitH P.m s ++ [key x]).Perm ((putH P x s).1.map key ++ waitH P.m (putH P x s).2)
    have hw := wait_add (whr_lt hP x.it.flow) x s
    rcases hp.ways with ⟨_, e⟩ | ⟨_, hj, l, y, hL, e⟩
    · rw [e]; exact hw
    · rw [e]; exact hw.trans (wait_cut hj hL)
  take := fun s now h => by
    have ht := takeH_ok h
    refine ⟨ht.hi, ?_⟩
    show (waitH P.m s).Perm ([] ++ ((takeH s).1.toList.map key ++ waitH P.m (takeH s).2))
    rw [List.nil_append]
    cases hT : s.T with
    | nil => rw [ht.none_ hT]; exact List.Perm.refl _
    | cons k T =>
      obtain ⟨x, q, e1, hk, e2⟩ := ht.some_ k T hT
      rw [e2]
      exact wait_next hk e1 rfl
  when_ := fun s now h => ⟨h, List.Perm.refl _⟩
  len := fun s h => ⟨Int.le_refl _, Int.le_refl _, fun _ => ⟨rfl, rfl⟩⟩
def flH (P : HP) (s : HS) (f : Nat) : List Hd := (s.L (whr P (f : Int))).filter fun x => x.it.flow == (f : Int)
theorem flH_sub {P : HP} {s s' : HS} {f : Nat} (h : ∀ i, (s'.L i).Sublist (s.L i)) : (flH P s' f).Sublist (flH P s f) := (h _).filter _
theorem flH_add (P : HP) (s : HS) (x : Hd) (f : Nat) : flH P (addH (whr P x.it.flow) x s) f = if x.it.flow = f then flH P s f ++ [x] else flH P s f := by
  unfold flH addH
  by_cases e : x.it.flow = f
  · rw [if_pos e, e]
    dsimp only
    rw [updf_same, List.filter_append]
    simp [e]
  · rw [if_neg e]
    dsimp only
    by_cases e2 : whr P (f : Int) = whr P x.it.flow
    · rw [e2, updf_same, List.filter_append]
      simp [e]
    · rw [updf_ne _ _ e2]
theorem cut_sub (j : Nat) (s : HS) : ∀ i, ((cutH j s).L i).Sublist (s.L i) := fun i => by
  show (updf s.L j (s.L j).dropLast i).Sublist _
  by_cases e : i = j
  · subst e; rw [updf_same]; exact List.dropLast_sublist _
  · rw [updf_ne _ _ e]; exact List.Sublist.refl _
theorem put_sub {P : HP} (hP : HPOk P) {s : HS} (h : HI P s) {x : Hd} (ho : okB x.it = true) (f : Nat) : (flH P (putH P x s).2 f).Sublist (if x.it.flow = f then flH P s f ++ [x] else flH P s f) := by
  rw [← flH_add]
  rcases (putH_ok hP h ho).ways with ⟨_, e⟩ | ⟨_, hj, l, y, hL, e⟩
  · rw [e]; exact List.Sublist.refl _
  · rw [e]; exact flH_sub (cut_sub _ _)
def hash_ord (P : HP) (hP : HPOk P) : Ordm (hashM P) (HI P) where
  fl := flH P
  put := fun s now x h ho f hf => by
    exact put_sub hP h ho f
  take := fun s now h => by
    have ht := takeH_ok h
    show (∀ f, f < 16 → (flH P (takeH s).2 f).Sublist (flH P s f)) ∧ ∀ x, (takeH s).1 = some x → ∃ f r, f < 16 ∧ flH P s f = x :: r ∧ (flH P (takeH s).2 f).Sublist r
    cases hT : s.T with
    | nil => rw [ht.none_ hT]; exact ⟨fun f _ => List.Sublist.refl _, fun x e => by cases e⟩
    | cons k T =>
      obtain ⟨x, q, e1, hk, e2⟩ := ht.some_ k T hT
      rw [e2]
      refine ⟨fun f _ => flH_sub fun i => ?_, fun y ey => ?_⟩
      · show (updf s.L k q i).Sublist _
        by_cases e : i = k
        · subst e; rw [updf_same, e1]; exact List.sublist_cons_self _ _
        · rw [updf_ne _ _ e]; exact List.Sublist.refl _
      · injection ey with ey
        subst ey
        obtain ⟨_, _, hf0, hf1, hwx⟩ := h.h.b k hk x (by rw [e1]; simp)
        have hfe : ((x.it.flow.toNat : Nat) : Int) = x.it.flow := by omega
        refine ⟨x.it.flow.toNat, q.filter fun y => y.it.flow == ((x.it.flow.toNat : Nat) : Int), by omega, ?_, ?_⟩
        · unfold flH
          rw [hfe, hwx, e1, List.filter_cons, if_pos (by simp)]
        · unfold flH
          show ((updf s.L k q (whr P ((x.it.flow.toNat : Nat) : Int))).filter _).Sublist _
          rw [hfe, hwx, updf_same]
          exact List.Sublist.refl _
  when_ := fun s now h f _ => List.Sublist.refl _
end Pl
end Go.Proofs.YtgdijbaodfghjaaGreatDoor

/-
  Plain law of a play of flows that are put together by a hash: what each step makes of the lists' lengths; who is thrown away was in a longest list.
-/
namespace Go.Proofs.YtgdijbaodfghjaaGreatDoor
open Bkt
namespace Pl
set_option linter.unusedVariables false

def lenI (s : HS) (j : Nat) : Int := (s.L j).length
def hs0 : HS := ⟨fun _ => [], []⟩
def inL' (P : HP) (fs : List Int) (u : Int) (j : Nat) : Prop := 0 ≤ u ∧ u < fs.length ∧ whr P (fs.getD u.toNat 0) = j ∧ j < P.m
structure HStep (P : HP) (t : Stp) (sn : Seen) (s s' : HS) (fs : List Int) : Prop where
  len : sn.len ≤ P.room
  put : t.what = 0 → (0 ≤ t.it.flow ∧ t.it.flow < 16) ∧ sn.taken < 0 ∧
    ((sn.lost = [] ∧ lenI s' = updf (lenI s) (whr P t.it.flow) (lenI s (whr P t.it.flow) + 1)) ∨
     ∃ u j, sn.lost = [u] ∧ inL' P fs u j ∧ (∀ i, i < P.m → updf (lenI s) (whr P t.it.flow) (lenI s (whr P t.it.flow) + 1) i ≤ updf (lenI s) (whr P t.it.flow) (lenI s (whr P t.it.flow) + 1) j) ∧
       lenI s' = updf (updf (lenI s) (whr P t.it.flow) (lenI s (whr P t.it.flow) + 1)) j (updf (lenI s) (whr P t.it.flow) (lenI s (whr P t.it.flow) + 1) j - 1))
  take : t.what ≠ 0 → sn.lost = [] ∧ ((sn.taken < 0 ∧ lenI s' = lenI s) ∨ ∃ j, inL' P fs sn.taken j ∧ lenI s' = updf (lenI s) j (lenI s j - 1))
theorem wait_hs0 (m : Nat) : waitH m hs0 = [] := by
  unfold waitH
  rw [List.flatMap_eq_nil_iff]
  intro k _
  rfl
theorem hs0_ok {P : HP} (hP : HPOk P) : HI P hs0 := ⟨⟨by simp [hs0], fun k hk => by simp [hs0] at hk, fun k _ h => by simp [hs0] at h, fun k _ x hx => by simp [hs0] at hx⟩, by rw [wait_hs0]; have := hP.room; simp; omega⟩
end Pl
end Go.Proofs.YtgdijbaodfghjaaGreatDoor

/-
  Two rows of ints that grow in one statement, in whatever order.
-/
namespace Go.Proofs.YtgdijbaodfghjaaGreatDoor
open Go.RowKit Bkt
set_option linter.unusedVariables false

theorem int_cells {W : World} {b : Nat} {x : Int} (h : W.cell? ⟨b, 0, none⟩ = some (.int .i64 x)) : ∀ j u, (IntR.cells x)[j]? = some u → W.cell? ((⟨b, 0, none⟩ : Addr).add j) = some u := by
  intro j u hu
  rcases j with _ | j
  · simp [IntR] at hu
    subst hu
    simpa [Addr.add] using h
  · simp [IntR] at hu
structure Both (W0 w : World) (base gS gT gW gB : Nat) (us ut vs vt : Value) (ls lt : List Int) (u0 u1 : Int) : Prop where
  bS : Blk w gS 26 #[us]
  bT : Blk w gT 26 #[ut]
  bW : Blk w gW 3 #[.int .i64 u0]
  bB : Blk w gB 3 #[.int .i64 u1]
  oS : OwnW w base 3 1 vs ls.length (ls.flatMap IntR.cells)
  oT : OwnW w base 3 1 vt lt.length (lt.flatMap IntR.cells)
  lo : base ≤ gS ∧ base ≤ gT ∧ base ≤ gW ∧ base ≤ gB
  n1 : gS ≠ gT
  n2 : gW ≠ gB
  n3 : ∀ i, vs.ownBlock = some i → i ≠ gW ∧ i ≠ gB ∧ vt.ownBlock ≠ some i
  n4 : ∀ i, vt.ownBlock = some i → i ≠ gW ∧ i ≠ gB
  bel : Below base W0 w
section
variable {W0 w w' : World} {base gS gT gW gB : Nat} {us ut vs vt v' : Value} {ls lt : List Int} {u0 u1 x : Int}
theorem Both.of {S : Pl.LS} (h : LMem w base gS gT gW gB S vs vt) : Both w w base gS gT gW gB vs vt vs vt S.size S.state S.wait S.bytes :=
  ⟨h.bS, h.bT, h.bW, h.bB, h.oS, h.oT, h.lo, h.n1, h.n2, h.n3, h.n4, Below.refl _ _⟩
theorem Both.drew (h : Both W0 w base gS gT gW gB us ut vs vt ls lt u0 u1) : Both W0 w.drew base gS gT gW gB us ut vs vt ls lt u0 u1 :=
  ⟨h.bS, h.bT, h.bW, h.bB, h.oS, h.oT, h.lo, h.n1, h.n2, h.n3, h.n4, h.bel.drew⟩
theorem Both.szle (h : Both W0 w base gS gT gW gB us ut vs vt ls lt u0 u1) : base ≤ w.heap.size := Nat.le_trans h.lo.1 (Nat.le_of_lt h.bS.lt)
theorem Both.alloc (h : Both W0 w base gS gT gW gB us ut vs vt ls lt u0 u1) (o : Obj) : Both W0 (w.alloc o) base gS gT gW gB us ut vs vt ls lt u0 u1 :=
  ⟨h.bS.alloc o, h.bT.alloc o, h.bW.alloc o, h.bB.alloc o, h.oS.alloc o, h.oT.alloc o, h.lo, h.n1, h.n2, h.n3, h.n4, h.bel.alloc h.szle o⟩
theorem Both.push1 (h : Both W0 w base gS gT gW gB us ut vs vt ls lt u0 u1) (ho : OwnW w' base 3 1 v' (ls.length + 1) ((ls ++ [x]).flatMap IntR.cells)) (hg : w.grownBy w' vs.ownBlock) (hat : v'.ownBlock = vs.ownBlock ∨ ∀ g, v'.ownBlock = some g → w.heap.size ≤ g) :
    Both W0 w' base gS gT gW gB us ut v' vt (ls ++ [x]) lt u0 u1 := by
  have a1 : vs.ownBlock ≠ some gS := h.oS.blk_ne h.bS (by decide)
  have a2 : vs.ownBlock ≠ some gT := h.oS.blk_ne h.bT (by decide)
  refine ⟨h.bS.grown hg (fun e => a1 e.symm), h.bT.grown hg (fun e => a2 e.symm), h.bW.grown hg (fun e => (h.n3 _ e.symm).1 rfl), h.bB.grown hg (fun e => (h.n3 _ e.symm).2.1 rfl), by rw [List.length_append]; exact ho, ?_, h.lo, h.n1, h.n2, ?_, h.n4, ?_⟩
  · refine h.oT.kept hg ?_
    cases e : vt.ownBlock with
    | none => exact .inl rfl
    | some i => exact .inr fun e2 => (h.n3 i e2.symm).2.2 e
  · intro i hi
    rcases hat with e | e
    · exact h.n3 i (e ▸ hi)
    · have h1 := e i hi
      have h2 := h.bW.lt; have h3 := h.bB.lt
      exact ⟨by omega, by omega, fun e2 => by have := (h.oT.lt i e2).2; omega⟩
  · exact h.bel.grown hg h.szle (fun i hi => (h.oS.lt i hi).1)
theorem Both.push2 (h : Both W0 w base gS gT gW gB us ut vs vt ls lt u0 u1) (ho : OwnW w' base 3 1 v' (lt.length + 1) ((lt ++ [x]).flatMap IntR.cells)) (hg : w.grownBy w' vt.ownBlock) (hat : v'.ownBlock = vt.ownBlock ∨ ∀ g, v'.ownBlock = some g → w.heap.size ≤ g) :
    Both W0 w' base gS gT gW gB us ut vs v' ls (lt ++ [x]) u0 u1 := by
  have a1 : vt.ownBlock ≠ some gS := h.oT.blk_ne h.bS (by decide)
  have a2 : vt.ownBlock ≠ some gT := h.oT.blk_ne h.bT (by decide)
  refine ⟨h.bS.grown hg (fun e => a1 e.symm), h.bT.grown hg (fun e => a2 e.symm), h.bW.grown hg (fun e => (h.n4 _ e.symm).1 rfl), h.bB.grown hg (fun e => (h.n4 _ e.symm).2 rfl), ?_, by rw [List.length_append]; exact ho, h.lo, h.n1, h.n2, ?_, ?_, ?_⟩
  · refine h.oS.kept hg ?_
    cases e : vs.ownBlock with
    | none => exact .inl rfl
    | some i => exact .inr fun e2 => (h.n3 i e).2.2 e2.symm
  · intro i hi
    obtain ⟨b1, b2, b3⟩ := h.n3 i hi
    refine ⟨b1, b2, fun e2 => ?_⟩
    rcases hat with e | e
    · exact b3 (e ▸ e2)
    · have h1 := e i e2; have := (h.oS.lt i hi).2; omega
  · intro i hi
    rcases hat with e | e
    · exact h.n4 i (e ▸ hi)
    · have h1 := e i hi
      have h2 := h.bW.lt; have h3 := h.bB.lt
      omega
  · exact h.bel.grown hg h.szle (fun i hi => (h.oT.lt i hi).1)
theorem Both.mem {S : Pl.LS} (h : Both W0 w base gS gT gW gB us ut vs vt S.size S.state S.wait S.bytes) (hl : S.size.length = S.state.length) :
    LMem ((w.setCell ⟨gS, 0, none⟩ vs).setCell ⟨gT, 0, none⟩ vt) base gS gT gW gB S vs vt ∧ Below base W0 ((w.setCell ⟨gS, 0, none⟩ vs).setCell ⟨gT, 0, none⟩ vt) := by
  have a1 : vs.ownBlock ≠ some gS := h.oS.blk_ne h.bS (by decide)
  have a2 : vs.ownBlock ≠ some gT := h.oS.blk_ne h.bT (by decide)
  have a3 : vt.ownBlock ≠ some gS := h.oT.blk_ne h.bS (by decide)
  have a4 : vt.ownBlock ≠ some gT := h.oT.blk_ne h.bT (by decide)
  have m5 : gW ≠ gT := Blk.ne_ h.bW h.bT (by decide)
  have m6 : gW ≠ gS := Blk.ne_ h.bW h.bS (by decide)
  have m7 : gB ≠ gT := Blk.ne_ h.bB h.bT (by decide)
  have m8 : gB ≠ gS := Blk.ne_ h.bB h.bS (by decide)
  exact ⟨⟨(h.bS.set_ 0 vs).far (p := ⟨gT, 0, none⟩) h.n1 _, (h.bT.far (p := ⟨gS, 0, none⟩) (Ne.symm h.n1) _).set_ 0 vt, (h.bW.far (p := ⟨gS, 0, none⟩) m6 _).far (p := ⟨gT, 0, none⟩) m5 _, (h.bB.far (p := ⟨gS, 0, none⟩) m8 _).far (p := ⟨gT, 0, none⟩) m7 _,
    (h.oS.setCell (p := ⟨gS, 0, none⟩) a1 _).setCell (p := ⟨gT, 0, none⟩) a2 _, (h.oT.setCell (p := ⟨gS, 0, none⟩) a3 _).setCell (p := ⟨gT, 0, none⟩) a4 _, h.lo, h.n1, h.n2, h.n3, h.n4, hl⟩,
    (h.bel.setCell (p := ⟨gS, 0, none⟩) h.lo.1 _).setCell (p := ⟨gT, 0, none⟩) h.lo.2.1 _⟩
theorem Both.sees {p : Addr} {u : Value} (h : Both W0 w base gS gT gW gB us ut vs vt ls lt u0 u1) (hx : W0.cell? p = some u) (hp : p.block < base) : w.cell? ⟨gS, 0, none⟩ = some us ∧ w.cell? ⟨gT, 0, none⟩ = some ut ∧ w.cell? p = some u :=
  ⟨h.bS.cell 0, h.bT.cell 0, (h.bel.cell hp).trans hx⟩
structure Pend (w : World) (b : Nat) (x : Int) (vs vt : Value) : Prop where
  c : w.cell? ⟨b, 0, none⟩ = some (.int .i64 x)
  lt : b < w.heap.size
  n1 : vs.ownBlock ≠ some b
  n2 : vt.ownBlock ≠ some b
theorem Both.lay (h : Both W0 w base gS gT gW gB us ut vs vt ls lt u0 u1) (y : Int) : Both W0 (w.alloc (.cells #[.int .i64 y] 3)) base gS gT gW gB us ut vs vt ls lt u0 u1 ∧ Pend (w.alloc (.cells #[.int .i64 y] 3)) w.heap.size y vs vt :=
  ⟨h.alloc _, (Blk.new w _ _).cell 0, by simp, fun e => by have := (h.oS.lt _ e).2; omega, fun e => by have := (h.oT.lt _ e).2; omega⟩
theorem Pend.alloc {b : Nat} {y : Int} (h : Pend w b y vs vt) (o : Obj) : Pend (w.alloc o) b y vs vt :=
  ⟨(World.cell?_alloc_lt w o _ h.lt).trans h.c, by have := h.lt; simp; omega, h.n1, h.n2⟩
end
theorem LMem.nums {w : World} {base gS gT gW gB : Nat} {S : Pl.LS} {vs vt : Value} (h : LMem w base gS gT gW gB S vs vt) (x y : Int) :
    LMem ((w.setCell ⟨gW, 0, none⟩ (.int .i64 x)).setCell ⟨gB, 0, none⟩ (.int .i64 y)) base gS gT gW gB ⟨S.size, S.state, x, y⟩ vs vt ∧ Below base w ((w.setCell ⟨gW, 0, none⟩ (.int .i64 x)).setCell ⟨gB, 0, none⟩ (.int .i64 y)) := by
  have m5 : gW ≠ gT := Blk.ne_ h.bW h.bT (by decide)
  have m6 : gW ≠ gS := Blk.ne_ h.bW h.bS (by decide)
  have m7 : gB ≠ gT := Blk.ne_ h.bB h.bT (by decide)
  have m8 : gB ≠ gS := Blk.ne_ h.bB h.bS (by decide)
  exact ⟨⟨(h.bS.far (p := ⟨gW, 0, none⟩) (Ne.symm m6) _).far (p := ⟨gB, 0, none⟩) (Ne.symm m8) _, (h.bT.far (p := ⟨gW, 0, none⟩) (Ne.symm m5) _).far (p := ⟨gB, 0, none⟩) (Ne.symm m7) _,
    (h.bW.set_ 0 _).far (p := ⟨gB, 0, none⟩) h.n2 _, (h.bB.far (p := ⟨gW, 0, none⟩) (Ne.symm h.n2) _).set_ 0 _,
    (h.oS.setCell (p := ⟨gW, 0, none⟩) (fun e => (h.n3 _ e).1 rfl) _).setCell (p := ⟨gB, 0, none⟩) (fun e => (h.n3 _ e).2.1 rfl) _,
    (h.oT.setCell (p := ⟨gW, 0, none⟩) (fun e => (h.n4 _ e).1 rfl) _).setCell (p := ⟨gB, 0, none⟩) (fun e => (h.n4 _ e).2 rfl) _, h.lo, h.n1, h.n2, h.n3, h.n4, h.sl⟩,
    ((Below.refl base w).setCell (p := ⟨gW, 0, none⟩) h.lo.2.2.1 _).setCell (p := ⟨gB, 0, none⟩) h.lo.2.2.2 _⟩
end Go.Proofs.YtgdijbaodfghjaaGreatDoor
