/-
  What a play's inner function does: the numbers of what was thrown away are put behind.
-/
import Derived.Test.YtdhojhgmaodifaaDoorFifo2
import Derived.Handy
namespace Go.Proofs.YtdhojhgmaodifaaDoor
open Go.RowKit Bkt
set_option linter.unusedVariables false

def IntR : Rec Int := ⟨1, fun x => [.int .i64 x], fun _ => rfl, by decide, 0⟩
theorem intR_flat (l : List Int) : l.flatMap IntR.cells = l.map (Value.int .i64) := by
  induction l with
  | nil => rfl
  | cons x r ih => rw [List.flatMap_cons, ih]; rfl
theorem rdI_of_rdR {w : World} {B n : Nat} {A : Option Addr} {l : List Int} (h : RdR IntR w B A n l) : RdI w B A n l := by
  unfold RdI; rw [← intR_flat]; exact h
theorem int_one (x : Int) : ∀ u ∈ IntR.cells x, u.oneCell' = true := by
  intro u hu
  simp [IntR] at hu
  subst hu; rfl
theorem Tryd.intRInfo : (Tryd.prog.info? 3).map (fun i => (i.zero, i.size, i.bytes)) = some (some (.int .i64 0), 1, 8) := by kernel_rfl
/-- a Held of a row: its cells -/
theorem rdHd_at {w : World} {B b off n : Nat} {l : List Hd} (h : RdR HdR w B (some ⟨b, off, none⟩) n l) {k : Nat} (hk : k < n) :
    w.cell? ⟨b, off + k * 6, none⟩ = some (.int .i64 (ixR HdR l k).it.at_) ∧ w.cell? ⟨b, off + k * 6 + 1, none⟩ = some (.int .i64 (ixR HdR l k).it.len) ∧ w.cell? ⟨b, off + k * 6 + 2, none⟩ = some (.int .i64 (ixR HdR l k).it.flow) ∧
    w.cell? ⟨b, off + k * 6 + 3, none⟩ = some (.int .i64 (ixR HdR l k).it.band) ∧ w.cell? ⟨b, off + k * 6 + 4, none⟩ = some (.int .i64 (ixR HdR l k).it.mark) ∧ w.cell? ⟨b, off + k * 6 + 5, none⟩ = some (.int .i64 (ixR HdR l k).num) := by
  have ha := fun j u => h.all hk j u
  refine ⟨?_, ?_, ?_, ?_, ?_, ?_⟩
  · have := ha 0 _ rfl; rw [Nat.add_zero] at this; exact this
  · have := ha 1 _ rfl; rw [← Nat.add_assoc] at this; exact this
  · have := ha 2 _ rfl; rw [← Nat.add_assoc] at this; exact this
  · have := ha 3 _ rfl; rw [← Nat.add_assoc] at this; exact this
  · have := ha 4 _ rfl; rw [← Nat.add_assoc] at this; exact this
  · have := ha 5 _ rfl; rw [← Nat.add_assoc] at this; exact this

def LoseOut (w : World) (gx : Nat) (a0 a1 a2 a3 a4 : Value) (nums : List Int) (e : Ending) (w' : World) : Prop :=
  e = .returned (.tuple #[]) ∧ ∃ A c, Blk w' gx 84 #[a0, a1, a2, a3, a4, .slice A nums.length c] ∧ RdI w' w'.heap.size A nums.length nums ∧ Chg w w' (· = gx) ∧ ∀ ad, A = some ad → w.heap.size ≤ ad.block ∧ ad.block < w'.heap.size
/-- the loop's relation -/
structure LoseRel (w wr : World) (gx : Nat) (a0 a1 a2 a3 a4 : Value) (nums : List Int) (k : Nat) (lv : Value) : Prop where
  len : nums.length = k
  blk : Blk wr gx 84 #[a0, a1, a2, a3, a4, lv]
  own : OwnW wr w.heap.size 3 1 lv k (nums.flatMap IntR.cells)
  chg : Chg w wr (· = gx)
theorem take_snoc' {α : Type} (R : Rec α) (l : List α) (k : Nat) (h : k < l.length) : l.take (k + 1) = l.take k ++ [ixR R l k] := by
  rw [List.take_add_one, List.getElem?_eq_getElem h]
  simp [ixR, List.getD, List.getElem?_eq_getElem h]

set_option maxHeartbeats 1000000 in
set_option maxRecDepth 100000 in
theorem lose_any (A : Option Addr) (n c : Nat) (l : List Hd) (gx : Nat) (a0 a1 a2 a3 a4 : Value) (w : World) (hr : RdR HdR w w.heap.size A n l) (hk : Blk w gx 84 #[a0, a1, a2, a3, a4, .slice none 0 0]) (hne : ∀ ad, A = some ad → ad.block ≠ gx) (hn : n ≤ 100000) :
    Calls Tryd.prog 51 #[.slice A n c, .pointer (some ⟨gx, 0, none⟩)] w (LoseOut w gx a0 a1 a2 a3 a4 (l.map Hd.num)) := by
  have hll := hr.len
  have hgx := hk.lt
  have hrel0 : LoseRel w w gx a0 a1 a2 a3 a4 ((l.take 0).map Hd.num) 0 (.slice none 0 0) := ⟨rfl, hk, OwnW.nil _ _ _ _, Chg.refl _ _⟩
  have H0 := Lib.hid hrel0; have HNE := Lib.hid hne; have HLL := Lib.hid hll
  clear hk hrel0 hne hll
  go_enter Tryd.func51, Tryd.ntmps51
  go_wp2_with fail
  go_loopw [7] (fun i wr => ∃ (k : Nat) (lv : Value), k ≤ n ∧ i = .int .i64 k ∧ LoseRel w wr gx a0 a1 a2 a3 a4 ((l.take k).map Hd.num) k lv) (fun i _ => n - (intOf i).toNat)
  case atStart => exact ⟨0, _, Nat.zero_le _, rfl, H0.out⟩
  case round =>
    obtain ⟨k, lv, hk, rfl, hrel⟩ := hrel
    have HREL := Lib.hid hrel
    clear hrel
    by_cases hlt : k < n
    · obtain ⟨b, off, rfl, hbB⟩ := hr.addr hlt
      have hc := rdHd_at hr hlt
      have hbx : b ≠ gx := HNE.out _ rfl
      have hcc : ∀ j, HREL.out.chg.cell (p := ⟨b, j, none⟩) hbB hbx = HREL.out.chg.cell (p := ⟨b, j, none⟩) hbB hbx := fun _ => rfl
      have hcell := fun j => HREL.out.chg.cell (p := ⟨b, j, none⟩) hbB hbx
      obtain ⟨c0, c1, c2, c3, c4, c5⟩ := hc
      have d0 := (hcell _).trans c0; have d1 := (hcell _).trans c1; have d2 := (hcell _).trans c2; have d3 := (hcell _).trans c3; have d4 := (hcell _).trans c4; have d5 := (hcell _).trans c5
      have e5 := HREL.out.blk.cell 5
      have f5 := HREL.out.blk.frozen 5
      simp at e5
      have i1 : (k : Int) < (n : Int) := by omega
      clear hcc hcell c0 c1 c2 c3 c4 c5
      generalize hy : ixR HdR l k = y at *
      have HY := Lib.hid hy; clear hy
      have hsz := HREL.out.chg.size
      have n1 : wr.heap.size ≠ gx := by omega
      have n2 : gx ≠ wr.heap.size := by omega
      have n3 : gx < wr.heap.size := by omega
      obtain ⟨A1, c1, rfl, _, _, _⟩ := HREL.out.own.reads
      have hown := HREL.out.own.alloc (.cells #[.int .i64 y.it.at_, .int .i64 y.it.len, .int .i64 y.it.flow, .int .i64 y.it.band, .int .i64 y.it.mark, .int .i64 y.num] 127)
      have hnx : (l.take (k + 1)).map Hd.num = (l.take k).map Hd.num ++ [y.num] := by
        rw [take_snoc' HdR l k (by have := HLL.out; omega), HY.out, List.map_append]; rfl
      have HOWN := Lib.hid hown; have HNX := Lib.hid hnx
      clear hown hnx
      have hnb : (Value.slice A1 k c1).ownBlock ≠ some gx := HREL.out.own.blk_ne HREL.out.blk (by decide)
      have HNB := Lib.hid hnb; clear hnb
      go_wp2_with (at_builtin; go_must (refine wpList_addW IntR rfl (.tmp 12) (.tmp 15) _ w.heap.size 3 _ 8 Tryd.underlying37 Tryd.intRInfo rfl rfl _ _ ((l.take k).map Hd.num) y.num _ HOWN.out rfl rfl (by show Value.slice (some ⟨wr.heap.size + 1, 0, none⟩) 1 1 = _; simp) (int_one _) (by omega) (by omega) (by simp; omega) ?_); intro v' w3 h1 h2 h3; obtain ⟨A2, c2, rfl, _, _, _⟩ := h1.reads; have hb3 := (HREL.out.blk.alloc _).grown h2 (fun e => HNB.out e.symm); have z5 := hb3.cell 5; have zf := hb3.frozen 5; simp at z5; have H1 := Lib.hid h1; have H2 := Lib.hid h2; have H3 := Lib.hid h3; have HB3 := Lib.hid hb3; clear h1 h2 h3 hb3)
      have hfin : LoseRel w (w3.setCell ⟨gx, 5, none⟩ (.slice A2 (k + 1) c2)) gx a0 a1 a2 a3 a4 ((l.take (k + 1)).map Hd.num) (k + 1) (.slice A2 (k + 1) c2) := by
        rw [HNX.out]
        have hne2 : (Value.slice A2 (k + 1) c2).ownBlock ≠ some gx := H1.out.blk_ne HB3.out (by decide)
        refine ⟨by have := HREL.out.len; simp at this ⊢; omega, HB3.out.set_ 5 _, H1.out.chg (S := fun i => i = gx) ((Chg.refl _ (fun i => i = gx)).setCell (p := ⟨gx, 5, none⟩) (fun _ => rfl) _) (fun i hi e => hne2 (e ▸ hi)), ?_⟩
        refine Chg.setCell (S := fun i => i = gx) (p := ⟨gx, 5, none⟩) ?_ (fun _ => rfl) _
        refine ((HREL.out.chg.alloc _).trans (Chg.of_grown (S := fun i => (Value.slice A1 k c1).ownBlock = some i) H2.out (fun i hi => hi.symm)) (fun i hi hs => ?_))
        have := (HREL.out.own.lt i hs).1
        omega
      have HFIN := Lib.hid hfin; clear hfin
      go_roundw
      case rel => exact ⟨k + 1, _, by omega, by go_num, HFIN.out⟩
      case measure => simp [intOf]; omega
    · obtain rfl : k = n := by omega
      have hfin : LoseOut w gx a0 a1 a2 a3 a4 (l.map Hd.num) (.returned (.tuple #[])) wr := by
        obtain ⟨A1, c1, rfl, _, _, hrd⟩ := HREL.out.own.reads
        have e : (l.take k).map Hd.num = l.map Hd.num := by rw [List.take_of_length_le (by have := HLL.out; omega)]
        have hl := HREL.out.len
        rw [e] at hl hrd
        refine ⟨rfl, A1, c1, by rw [hl]; exact HREL.out.blk, by rw [hl]; exact rdI_of_rdR hrd, HREL.out.chg, fun ad ha => ?_⟩
        obtain ⟨g, o, _⟩ := ad
        subst ha
        exact HREL.out.own.lt g rfl
      have HFIN := Lib.hid hfin; clear hfin
      go_wp2_with fail
      exact bodyPost_end (results_none rfl _ _ _) rfl HFIN.out
end Go.Proofs.YtdhojhgmaodifaaDoor
