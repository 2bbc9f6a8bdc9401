/-
  A run over a wire: its inner function lose; the time after now.
-/
import Derived.Test.YtdhojhgmaodifaaDoorLose
import Derived.Test.YtdhojhgmaodifaaDoorQImp
import Derived.Test.YtdhojhgmaodifaaDoorLnkLaw
import Derived.Test.YtdhojhgmaodifaaDoorHeld
namespace Go.Proofs.YtdhojhgmaodifaaDoor
open Go.RowKit Bkt
set_option linter.unusedVariables false

structure LlRel (B : Nat) (w wr : World) (g : Nat) (vs wt ms vl0 : Value) (nums : List Int) (k : Nat) (lv : Value) : Prop where
  blk : Blk wr g 89 #[vs, lv, wt, ms]
  own : OwnW wr B 3 1 lv nums.length (nums.flatMap IntR.cells)
  chg : Chg w wr (fun i => i = g ∨ vl0.ownBlock = some i)
  at_ : lv.ownBlock = vl0.ownBlock ∨ ∀ i, lv.ownBlock = some i → w.heap.size ≤ i
def LlOut (B : Nat) (w : World) (g : Nat) (vs wt ms vl0 : Value) (nums : List Int) (e : Ending) (w' : World) : Prop := e = .returned (.tuple #[]) ∧ Hid (∃ lv, LlRel B w w' g vs wt ms vl0 nums 0 lv)
set_option maxHeartbeats 2000000 in
set_option maxRecDepth 100000 in
theorem llose_any (B : Nat) (A : Option Addr) (n c : Nat) (l : List Hd) (g : Nat) (vs wt ms vl0 : Value) (nums : List Int) (w : World) (hr : RdR HdR w w.heap.size A n l) (hk : Blk w g 89 #[vs, vl0, wt, ms]) (ho : OwnW w B 3 1 vl0 nums.length (nums.flatMap IntR.cells))
    (hne : ∀ ad, A = some ad → ad.block ≠ g ∧ vl0.ownBlock ≠ some ad.block) (hn : n ≤ 100000) (hm : nums.length ≤ 100000) (hB : B ≤ w.heap.size) :
    Calls Tryd.prog 53 #[.slice A n c, .pointer (some ⟨g, 0, none⟩)] w (LlOut B w g vs wt ms vl0 (nums ++ l.map Hd.num)) := by
  have hll := hr.len
  have hrel0 : LlRel B w w g vs wt ms vl0 (nums ++ (l.take 0).map Hd.num) 0 vl0 := ⟨hk, by simpa using ho, Chg.refl _ _, .inl rfl⟩
  have H0 := Lib.hid hrel0; have HNE := Lib.hid hne; have HLL := Lib.hid hll; have HR := Lib.hid hr
  clear hk hrel0 hne hll ho hr
  go_enter Tryd.func53, Tryd.ntmps53
  go_wp2_with fail
  go_loopw [7] (fun i wr => ∃ (k : Nat) (lv : Value), k ≤ n ∧ i = .int .i64 k ∧ LlRel B w wr g vs wt ms vl0 (nums ++ (l.take k).map Hd.num) 0 lv) (fun i _ => n - (intOf i).toNat)
  case atStart => exact ⟨0, _, Nat.zero_le _, rfl, H0.out⟩
  case round =>
    obtain ⟨k, lv, hk, rfl, hrel⟩ := hrel
    have HREL := Lib.hid hrel
    clear hrel
    by_cases hlt : k < n
    · obtain ⟨b, off, rfl, hbB⟩ := HR.out.addr hlt
      obtain ⟨c0, c1, c2, c3, c4, c5⟩ := rdHd_at HR.out hlt
      have hbx := HNE.out _ rfl
      have hcell := fun j => HREL.out.chg.cell (p := ⟨b, j, none⟩) hbB (fun e => by rcases e with e | e; exact hbx.1 e; exact hbx.2 e)
      have d0 := (hcell _).trans c0; have d1 := (hcell _).trans c1; have d2 := (hcell _).trans c2; have d3 := (hcell _).trans c3; have d4 := (hcell _).trans c4; have d5 := (hcell _).trans c5
      have e1 := HREL.out.blk.cell 1
      have f1 := HREL.out.blk.frozen 1
      simp at e1
      have i1 : (k : Int) < (n : Int) := by omega
      clear hcell c0 c1 c2 c3 c4 c5
      generalize hy : ixR HdR l k = y at *
      have HY := Lib.hid hy; clear hy
      have hsz := HREL.out.chg.size
      have hgl := HREL.out.blk.lt
      have n1 : wr.heap.size ≠ g := by omega
      have n2 : g ≠ wr.heap.size := by omega
      obtain ⟨A1, c1, rfl, _, _, _⟩ := HREL.out.own.reads
      have hown := HREL.out.own.alloc (.cells #[.int .i64 y.it.at_, .int .i64 y.it.len, .int .i64 y.it.flow, .int .i64 y.it.band, .int .i64 y.it.mark, .int .i64 y.num] 127)
      have hnx : nums ++ (l.take (k + 1)).map Hd.num = (nums ++ (l.take k).map Hd.num) ++ [y.num] := by
        rw [take_snoc' HdR l k (by have := HLL.out; omega), HY.out, List.map_append, List.append_assoc]; rfl
      have HOWN := Lib.hid hown; have HNX := Lib.hid hnx
      clear hown hnx
      have hlen : (nums ++ (l.take k).map Hd.num).length ≤ 1000000 := by
        rw [List.length_append, List.length_map, List.length_take]; omega
      generalize nums ++ (l.take k).map Hd.num = N at *
      have hnb : (Value.slice A1 N.length c1).ownBlock ≠ some g := HREL.out.own.blk_ne HREL.out.blk (by decide)
      have HNB := Lib.hid hnb; clear hnb
      have hBs : B ≤ (wr.alloc (.cells #[.int .i64 y.it.at_, .int .i64 y.it.len, .int .i64 y.it.flow, .int .i64 y.it.band, .int .i64 y.it.mark, .int .i64 y.num] 127)).heap.size := by simp; omega
      go_wp2_with (at_builtin; go_must (refine wpList_addW IntR rfl (.tmp 12) (.tmp 15) _ B 3 _ 8 Tryd.underlying37 Tryd.intRInfo rfl rfl _ _ N y.num _ HOWN.out rfl rfl (by show Value.slice (some ⟨wr.heap.size + 1, 0, none⟩) 1 1 = _; simp) (int_one _) hlen (by omega) hBs ?_); intro v3 w3 h1 h2 h3; obtain ⟨A2, c2, rfl, _, _, _⟩ := h1.reads; have hb3 := (HREL.out.blk.alloc (.cells #[.int .i64 y.it.at_, .int .i64 y.it.len, .int .i64 y.it.flow, .int .i64 y.it.band, .int .i64 y.it.mark, .int .i64 y.num] 127)).grown h2 (fun e => HNB.out e.symm); have e3 := hb3.cell 1; have f3 := hb3.frozen 1; simp at e3; have H1 := Lib.hid h1; have H2 := Lib.hid h2; have H3 := Lib.hid h3; have HB3 := Lib.hid hb3; clear h1 h2 h3 hb3)
      have hfin : LlRel B w (w3.setCell ⟨g, 1, none⟩ (.slice A2 (N.length + 1) c2)) g vs wt ms vl0 (N ++ [y.num]) 0 (.slice A2 (N.length + 1) c2) := by
        have hne2 : (Value.slice A2 (N.length + 1) c2).ownBlock ≠ some g := H1.out.blk_ne HB3.out (by decide)
        refine ⟨HB3.out.set_ 1 _, ?_, ?_, ?_⟩
        · rw [List.length_append, List.length_singleton]
          exact H1.out.chg (S := fun i => i = g) (Chg.setCell (p := ⟨g, 1, none⟩) (Chg.refl _ (fun i => i = g)) (fun _ => rfl) _) (fun i hi e => hne2 (e ▸ hi))
        · refine Chg.setCell (p := ⟨g, 1, none⟩) ?_ (fun _ => .inl rfl) _
          refine ((HREL.out.chg.alloc _).trans (Chg.of_grown (S := fun i => (Value.slice A1 N.length c1).ownBlock = some i) H2.out (fun i hi => hi.symm)) (fun i hi hs => ?_))
          rcases HREL.out.at_ with e | e
          · exact .inr (e ▸ hs)
          · have := e i hs; omega
        · rcases H3.out with e | e
          · rcases HREL.out.at_ with e2 | e2
            · exact .inl (e.trans e2)
            · exact .inr fun i hi => e2 i (e ▸ hi)
          · exact .inr fun i hi => by have := e i hi; simp at this; omega
      have HFIN := Lib.hid hfin; clear hfin
      go_roundw
      case rel => exact ⟨k + 1, _, by omega, by go_num, by rw [HNX.out]; exact HFIN.out⟩
      case measure => simp [intOf]; omega
    · obtain rfl : k = n := by omega
      have hfin : LlOut B w g vs wt ms vl0 (nums ++ l.map Hd.num) (.returned (.tuple #[])) wr := by
        have e : (l.take k).map Hd.num = l.map Hd.num := by rw [List.take_of_length_le (by have := HLL.out; omega)]
        have h := HREL.out
        rw [e] at h
        exact ⟨rfl, Lib.hid ⟨lv, h⟩⟩
      have HFIN := Lib.hid hfin; clear hfin
      go_wp2_with fail
      exact bodyPost_end (results_none rfl _ _ _) rfl HFIN.out
end Go.Proofs.YtdhojhgmaodifaaDoor
