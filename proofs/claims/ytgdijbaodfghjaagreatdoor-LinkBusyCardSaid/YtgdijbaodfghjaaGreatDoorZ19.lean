/-
  Texts of this claim, one behind the other: ItRow, LnkLose, LnkAfter, LnkMem, BusyLaw, KeepLaw, LnkAnd.
-/
import Derived.Test.YtgdijbaodfghjaaGreatDoorZ18
import Derived.Test.YtgdijbaodfghjaaGreatDoorZ02
import Derived.Test.YtgdijbaodfghjaaGreatDoorZ14
import Derived.Deep.RegionLaw
import Derived.Test.YtgdijbaodfghjaaGreatDoorZ01
/-
  Packets in a row; the append of a struct as a step of a region that draws its order.
-/
namespace Go.Proofs.YtgdijbaodfghjaaGreatDoor
open Go.RowKit Bkt
set_option linter.unusedVariables false

def ItR : Rec It := ⟨5, itCells, fun _ => rfl, by decide, It.zero⟩
end Go.Proofs.YtgdijbaodfghjaaGreatDoor

/-
  A run over a wire: its inner function lose; the time after now.
-/
namespace Go.Proofs.YtgdijbaodfghjaaGreatDoor
open Go.RowKit Bkt
set_option linter.unusedVariables false

structure LlRel (B : Nat) (w wr : World) (g : Nat) (vs wt ms vl0 : Value) (nums : List Int) (k : Nat) (lv : Value) : Prop where
  blk : Blk wr g 28 #[vs, lv, wt, ms]
  own : OwnW wr B 3 1 lv nums.length (nums.flatMap IntR.cells)
  chg : Chg w wr (fun i => i = g ∨ vl0.ownBlock = some i)
  at_ : lv.ownBlock = vl0.ownBlock ∨ ∀ i, lv.ownBlock = some i → w.heap.size ≤ i
def LlOut (B : Nat) (w : World) (g : Nat) (vs wt ms vl0 : Value) (nums : List Int) (e : Ending) (w' : World) : Prop := e = .returned (.tuple #[]) ∧ Hid (∃ lv, LlRel B w w' g vs wt ms vl0 nums 0 lv)
set_option maxHeartbeats 2000000 in
set_option maxRecDepth 100000 in
theorem llose_any (B : Nat) (A : Option Addr) (n c : Nat) (l : List Hd) (g : Nat) (vs wt ms vl0 : Value) (nums : List Int) (w : World) (hr : RdR HdR w w.heap.size A n l) (hk : Blk w g 28 #[vs, vl0, wt, ms]) (ho : OwnW w B 3 1 vl0 nums.length (nums.flatMap IntR.cells))
    (hne : ∀ ad, A = some ad → ad.block ≠ g ∧ vl0.ownBlock ≠ some ad.block) (hn : n ≤ 100000) (hm : nums.length ≤ 100000) (hB : B ≤ w.heap.size) :
    Calls Tryz.prog 29 #[.slice A n c, .pointer (some ⟨g, 0, none⟩)] w (LlOut B w g vs wt ms vl0 (nums ++ l.map Hd.num)) := by
  have hll := hr.len
  have hrel0 : LlRel B w w g vs wt ms vl0 (nums ++ (l.take 0).map Hd.num) 0 vl0 := ⟨hk, by simpa using ho, Chg.refl _ _, .inl rfl⟩
  have H0 := Lib.hid hrel0; have HNE := Lib.hid hne; have HLL := Lib.hid hll; have HR := Lib.hid hr
  clear hk hrel0 hne hll ho hr
  go_enter Tryz.func29, Tryz.ntmps29
  go_wp2_with fail
  go_loopw [7] (fun i wr => ∃ (k : Nat) (lv : Value), k ≤ n ∧ i = .int .i64 k ∧ LlRel B w wr g vs wt ms vl0 (nums ++ (l.take k).map Hd.num) 0 lv) (fun i _ => n - (intOf i).toNat)
  case atStart => exact ⟨0, _, Nat.zero_le _, rfl, H0.out⟩
  case round =>
    obtain ⟨k, lv, hk, rfl, hrel⟩ := hrel
    have HREL := Lib.hid hrel
    clear hrel
    by_cases hlt : k < n
    · obtain ⟨b, off, rfl, hbB⟩ := HR.out.addr hlt
      obtain ⟨c0, c1, c2, c3, c4, c5⟩ := rdHd_at HR.out hlt
      have hbx := HNE.out _ rfl
      have hcell := fun j => HREL.out.chg.cell (p := ⟨b, j, none⟩) hbB (fun e => by rcases e with e | e; exact hbx.1 e; exact hbx.2 e)
      have d0 := (hcell _).trans c0; have d1 := (hcell _).trans c1; have d2 := (hcell _).trans c2; have d3 := (hcell _).trans c3; have d4 := (hcell _).trans c4; have d5 := (hcell _).trans c5
      have e1 := HREL.out.blk.cell 1
      have f1 := HREL.out.blk.frozen 1
      simp at e1
      have i1 : (k : Int) < (n : Int) := by omega
      clear hcell c0 c1 c2 c3 c4 c5
      generalize hy : ixR HdR l k = y at *
      have HY := Lib.hid hy; clear hy
      have hsz := HREL.out.chg.size
      have hgl := HREL.out.blk.lt
      have n1 : wr.heap.size ≠ g := by omega
      have n2 : g ≠ wr.heap.size := by omega
      obtain ⟨A1, c1, rfl, _, _, _⟩ := HREL.out.own.reads
      have hown := HREL.out.own.alloc (.cells #[.int .i64 y.it.at_, .int .i64 y.it.len, .int .i64 y.it.flow, .int .i64 y.it.band, .int .i64 y.it.mark, .int .i64 y.num] 78)
      have hnx : nums ++ (l.take (k + 1)).map Hd.num = (nums ++ (l.take k).map Hd.num) ++ [y.num] := by
        rw [take_snoc' HdR l k (by have := HLL.out; omega), HY.out, List.map_append, List.append_assoc]; rfl
      have HOWN := Lib.hid hown; have HNX := Lib.hid hnx
      clear hown hnx
      have hlen : (nums ++ (l.take k).map Hd.num).length ≤ 1000000 := by
        rw [List.length_append, List.length_map, List.length_take]; omega
      generalize nums ++ (l.take k).map Hd.num = N at *
      have hnb : (Value.slice A1 N.length c1).ownBlock ≠ some g := HREL.out.own.blk_ne HREL.out.blk (by decide)
      have HNB := Lib.hid hnb; clear hnb
      have hBs : B ≤ (wr.alloc (.cells #[.int .i64 y.it.at_, .int .i64 y.it.len, .int .i64 y.it.flow, .int .i64 y.it.band, .int .i64 y.it.mark, .int .i64 y.num] 78)).heap.size := by simp; omega
      go_wp2_with (at_builtin; go_must (refine wpList_addW IntR rfl (.tmp 12) (.tmp 15) _ B 3 _ 8 Tryz.underlying26 Tryz.intRInfo rfl rfl _ _ N y.num _ HOWN.out rfl rfl (by show Value.slice (some ⟨wr.heap.size + 1, 0, none⟩) 1 1 = _; simp) (int_one _) hlen (by omega) hBs ?_); intro v3 w3 h1 h2 h3; obtain ⟨A2, c2, rfl, _, _, _⟩ := h1.reads; have hb3 := (HREL.out.blk.alloc (.cells #[.int .i64 y.it.at_, .int .i64 y.it.len, .int .i64 y.it.flow, .int .i64 y.it.band, .int .i64 y.it.mark, .int .i64 y.num] 78)).grown h2 (fun e => HNB.out e.symm); have e3 := hb3.cell 1; have f3 := hb3.frozen 1; simp at e3; have H1 := Lib.hid h1; have H2 := Lib.hid h2; have H3 := Lib.hid h3; have HB3 := Lib.hid hb3; clear h1 h2 h3 hb3)
      have hfin : LlRel B w (w3.setCell ⟨g, 1, none⟩ (.slice A2 (N.length + 1) c2)) g vs wt ms vl0 (N ++ [y.num]) 0 (.slice A2 (N.length + 1) c2) := by
        have hne2 : (Value.slice A2 (N.length + 1) c2).ownBlock ≠ some g := H1.out.blk_ne HB3.out (by decide)
        refine ⟨HB3.out.set_ 1 _, ?_, ?_, ?_⟩
        · rw [List.length_append, List.length_singleton]
          exact H1.out.chg (S := fun i => i = g) (Chg.setCell (p := ⟨g, 1, none⟩) (Chg.refl _ (fun i => i = g)) (fun _ => rfl) _) (fun i hi e => hne2 (e ▸ hi))
        · refine Chg.setCell (p := ⟨g, 1, none⟩) ?_ (fun _ => .inl rfl) _
          refine ((HREL.out.chg.alloc _).trans (Chg.of_grown (S := fun i => (Value.slice A1 N.length c1).ownBlock = some i) H2.out (fun i hi => hi.symm)) (fun i hi hs => ?_))
          rcases HREL.out.at_ with e | e
          · exact .inr (e ▸ hs)
          · have := e i hs; omega
        · rcases H3.out with e | e
          · rcases HREL.out.at_ with e2 | e2
            · exact .inl (e.trans e2)
            · exact .inr fun i hi => e2 i (e ▸ hi)
          · exact .inr fun i hi => by have := e i hi; simp at this; omega
      have HFIN := Lib.hid hfin; clear hfin
      go_roundw
      case rel => exact ⟨k + 1, _, by omega, by go_num, by rw [HNX.out]; exact HFIN.out⟩
      case measure => simp [intOf]; omega
    · obtain rfl : k = n := by omega
      have hfin : LlOut B w g vs wt ms vl0 (nums ++ l.map Hd.num) (.returned (.tuple #[])) wr := by
        have e : (l.take k).map Hd.num = l.map Hd.num := by rw [List.take_of_length_le (by have := HLL.out; omega)]
        have h := HREL.out
        rw [e] at h
        exact ⟨rfl, Lib.hid ⟨lv, h⟩⟩
      have HFIN := Lib.hid hfin; clear hfin
      go_wp2_with fail
      exact bodyPost_end (results_none rfl _ _ _) rfl HFIN.out
end Go.Proofs.YtgdijbaodfghjaaGreatDoor

/-
  A run over a wire: the next time at which something may be taken out.
-/
namespace Go.Proofs.YtgdijbaodfghjaaGreatDoor
open Go.RowKit Bkt
set_option linter.unusedVariables false

def AfterOut {M : Pl.QM} (inv : M.σ → Nat → (Nat → Prop) → World → Prop) (w : World) (F : Nat → Prop) (k : Nat) (s : M.σ) (now free : Int) (e : Ending) (w' : World) : Prop :=
  ∃ (t : Int) (F' : Nat → Prop), e = .returned (.tuple #[.int .i64 t, .bool (Pl.aT M s now free).isSome]) ∧ Hid (inv (Pl.aQ M s now free) k F' w' ∧ Chg w w' F ∧ (∀ i, F' i → F i ∨ w.heap.size ≤ i) ∧ (∀ x, Pl.aT M s now free = some x → t = x) ∧ (∀ x, Pl.aT M s now free = some x → now < x))
set_option maxHeartbeats 2000000 in
set_option maxRecDepth 100000 in
theorem after_any {M : Pl.QM} {inv : M.σ → Nat → (Nat → Prop) → World → Prop} {q : Value} {base : Nat} (I : QImp M q base inv) (s : M.σ) (k : Nat) (F : Nat → Prop) (w : World) (now free : Int) (hi : inv s k F w) (h0 : 0 ≤ now) (h1 : now ≤ 10000000) :
    Calls Tryz.prog 30 #[q, .int .i64 now, .int .i64 free] w (AfterOut inv w F k s now free) := by
  obtain ⟨fl, rl, hml, hcl⟩ := I.len
  obtain ⟨fw, rw_, hmw, hcw⟩ := I.when_
  have hl := hcl s k F w hi
  have hch := fun w' (hb : Below w.heap.size w w') => I.chg s k F w w' (fun _ => False) hi (Chg.of_below hb) (fun _ _ e => e)
  have hw := fun w' (hb : Below w.heap.size w w') => hcw s k F w' (now + 1) (hch w' hb) (by omega) (by omega)
  have e1 : IntKind.i64.wrap (now + 1) = now + 1 := IntWalk.i64_in _ (by omega)
  have HCH := Lib.hid hch; have HW := Lib.hid hw; have HML := Lib.hid hml; have HMW := Lib.hid hmw
  clear hch hw hml hmw hcl hcw hi I
  by_cases hz : M.len s = 0
  · have ea : Pl.aT M s now free = none := by unfold Pl.aT; rw [if_pos hz]
    have eq : Pl.aQ M s now free = s := by unfold Pl.aQ; rw [if_pos hz]
    have EA := Lib.hid ea; have EQ := Lib.hid eq
    clear ea eq
    rw [hz] at hl
    have HL := Lib.hid hl
    clear hl hz
    go_enter Tryz.func30, Tryz.ntmps30
    go_wp2_with (refine wpList_invoke0 rfl (.tmp 10) #[] rfl HML.out rfl HL.out (fun e w' ⟨h, _⟩ => ⟨_, h⟩) ?_; rintro v3 w3 ⟨e3, hb3⟩; injection e3 with e3; subst e3; have HB3 := Lib.hid hb3; clear hb3)
    go_ret2
    unfold AfterOut
    rw [EA.out, EQ.out]
    exact ⟨0, F, rfl, Lib.hid ⟨HCH.out _ HB3.out, Chg.of_below HB3.out, fun i h => .inl h, fun _ e => (by cases e), fun _ e => (by cases e)⟩⟩
  · by_cases hf : now < free
    · have ea : Pl.aT M s now free = some free := by unfold Pl.aT; rw [if_neg hz, if_pos hf]
      have eq : Pl.aQ M s now free = s := by unfold Pl.aQ; rw [if_neg hz, if_pos hf]
      have EA := Lib.hid ea; have EQ := Lib.hid eq
      clear ea eq
      generalize M.len s = ln at *
      have tz : (ln == 0) = false := by simpa using hz
      have HL := Lib.hid hl
      clear hl hz
      have df : decide (now < free) = true := decide_eq_true hf
      go_enter Tryz.func30, Tryz.ntmps30
      go_wp2_with (refine wpList_invoke0 rfl (.tmp 10) #[] rfl HML.out rfl HL.out (fun e w' ⟨h, _⟩ => ⟨_, h⟩) ?_; rintro v3 w3 ⟨e3, hb3⟩; injection e3 with e3; subst e3; have HB3 := Lib.hid hb3; clear hb3)
      go_ret2
      unfold AfterOut
      rw [EA.out, EQ.out]
      exact ⟨free, F, rfl, Lib.hid ⟨HCH.out _ HB3.out, Chg.of_below HB3.out, fun i h => .inl h, fun _ e => Option.some.inj e, fun _ e => Option.some.inj e ▸ hf⟩⟩
    · have ea : Pl.aT M s now free = (M.when_ (now + 1) s).1.map fun t => max t (now + 1) := by unfold Pl.aT; rw [if_neg hz, if_neg hf]
      have eq : Pl.aQ M s now free = (M.when_ (now + 1) s).2 := by unfold Pl.aQ; rw [if_neg hz, if_neg hf]
      have EA := Lib.hid ea; have EQ := Lib.hid eq
      clear ea eq
      generalize M.len s = ln at *
      have tz : (ln == 0) = false := by simpa using hz
      have HL := Lib.hid hl
      clear hl hz
      have df : decide (now < free) = false := decide_eq_false hf
      go_enter Tryz.func30, Tryz.ntmps30
      go_upto_region 5 with (refine wpList_invoke0 rfl (.tmp 10) #[] rfl HML.out rfl HL.out (fun e w' ⟨h, _⟩ => ⟨_, h⟩) ?_; rintro v3 w3 ⟨e3, hb3⟩; injection e3 with e3; subst e3; have HB3 := Lib.hid hb3; clear hb3)
      have hwh := HW.out _ HB3.out
      have HWH := Lib.hid hwh
      clear hwh
      go_upto_region 6 with (refine wpList_invoke1 (vx := .int .i64 (now + 1)) rfl (.tmp 18) (.tmp 20) #[3] rfl HMW.out rfl rfl HWH.out WhenOut.ret ?_; rintro v4 w4 hv4; obtain ⟨a, F', rfl, h4⟩ := hv4.val; have H4 := Lib.hid h4; clear hv4 h4)
      obtain ⟨g1, g2, g3, g4⟩ := H4.out
      have hout : ∀ t, t = max a (now + 1) → AfterOut inv w F k s now free (.returned (.tuple #[.int .i64 t, .bool (M.when_ (now + 1) s).1.isSome])) w4 := fun t ht => by
        unfold AfterOut
        rw [EA.out, EQ.out]
        refine ⟨t, F', by rw [Option.isSome_map], Lib.hid ⟨g2, (Chg.of_below HB3.out).trans g3 (fun _ _ h => h), fun i hi => ?_, fun x e => ?_, fun x e => ?_⟩⟩
        · rcases g4 i hi with e | e
          · exact .inl e
          · exact .inr (Nat.le_trans HB3.out.size e)
        · cases hq : (M.when_ (now + 1) s).1 with
          | none => rw [hq] at e; cases e
          | some y => rw [hq] at e; obtain rfl := Option.some.inj e; rw [ht, g1 y hq]
        · cases hq : (M.when_ (now + 1) s).1 with
          | none => rw [hq] at e; cases e
          | some y => rw [hq] at e; obtain rfl := Option.some.inj e; dsimp only; omega
      have HOUT := Lib.hid hout
      clear hout g1 g2 g3 g4
      generalize (M.when_ (now + 1) s).1.isSome = ok at *
      by_cases hm : a < now + 1
      · have tm : (a < now + 1) = True := eq_true hm
        go_wp2_with fail
        go_ret2
        exact HOUT.out (now + 1) (by omega)
      · have tm : (a < now + 1) = False := eq_false hm
        go_wp2_with fail
        go_ret2
        exact HOUT.out a (by omega)
end Go.Proofs.YtgdijbaodfghjaaGreatDoor

/-
  A run over a wire, as it lies in memory: the log, the queue, the rate.
-/
namespace Go.Proofs.YtgdijbaodfghjaaGreatDoor
open Go.RowKit Bkt
set_option linter.unusedVariables false

def sntCells (s : Pl.Snt) : List Value := [.int .i64 s.num, .int .i64 s.from_, .int .i64 s.to_, .int .i64 s.mark]
def SntR : Rec Pl.Snt := ⟨4, sntCells, fun _ => rfl, by decide, ⟨0, 0, 0, 0⟩⟩
theorem snt_one (s : Pl.Snt) : ∀ u ∈ sntCells s, u.oneCell' = true := by
  intro u hu
  simp [sntCells] at hu
  rcases hu with rfl | rfl | rfl | rfl <;> rfl
theorem Tryz.sntInfo : (Tryz.prog.info? 37).map (fun i => (i.zero, i.size, i.bytes)) = some (some (.agg #[.int .i64 0, .int .i64 0, .int .i64 0, .int .i64 0]), 4, 32) := by kernel_rfl
def logZ : Array Value := #[.slice none 0 0, .slice none 0 0, .int .i64 0, .int .i64 0]
structure LnM {M : Pl.QM} (inv : M.σ → Nat → (Nat → Prop) → World → Prop) (w0 wr : World) (F0 : Nat → Prop) (gr gz g : Nat) (rb rt : Int) (S : Pl.Lk M.σ) (F : Nat → Prop) (vs vl : Value) : Prop where
  blk : Blk wr g 28 #[vs, vl, .int .i64 0, .int .i64 S.most]
  os : OwnW wr w0.heap.size 37 4 vs S.sent.length (S.sent.flatMap SntR.cells)
  ol : OwnW wr w0.heap.size 3 1 vl S.lost.length (S.lost.flatMap IntR.cells)
  inv : inv S.q S.next F wr
  hF : ∀ i, F i → F0 i ∨ w0.heap.size ≤ i
  hg : ∀ i, F i → (i ≠ g ∧ i ≠ gr ∧ i ≠ gz) ∧ vs.ownBlock ≠ some i ∧ vl.ownBlock ≠ some i
  hlt : ∀ i, F i → i < wr.heap.size
  chg : Chg w0 wr F0
  rate : Blk wr gr 23 #[.int .i64 rb, .int .i64 rt]
  res : Blk wr gz 28 logZ
  n0 : w0.heap.size ≤ g ∧ w0.heap.size ≤ gr ∧ w0.heap.size ≤ gz
  gz : g ≠ gz
theorem ownW_lt {w : World} {base e size n : Nat} {v : Value} {xs : List Value} (h : OwnW w base e size v n xs) {i : Nat} (hi : v.ownBlock = some i) : base ≤ i ∧ i < w.heap.size := h.lt i hi
section
variable {M : Pl.QM} {inv : M.σ → Nat → (Nat → Prop) → World → Prop} {q : Value} {base : Nat} {w0 wr w' : World} {F0 F F' : Nat → Prop} {gr gz g : Nat} {rb rt : Int} {S : Pl.Lk M.σ} {vs vl : Value}
theorem LnM.over (I : QImp M q base inv) (h : LnM inv w0 wr F0 gr gz g rb rt S F vs vl) (hw : Below wr.heap.size wr w') : LnM inv w0 w' F0 gr gz g rb rt S F vs vl :=
  ⟨h.blk.below hw h.blk.lt, h.os.below hw, h.ol.below hw, I.chg _ _ _ _ _ (fun _ => False) h.inv (Chg.of_below hw) (fun _ _ e => e), h.hF, h.hg, fun i hi => Nat.lt_of_lt_of_le (h.hlt i hi) hw.size, h.chg.trans (Chg.of_below hw) (fun _ _ h => h), h.rate.below hw h.rate.lt, h.res.below hw h.res.lt, h.n0, h.gz⟩
theorem LnM.queue (I : QImp M q base inv) (h : LnM inv w0 wr F0 gr gz g rb rt S F vs vl) {s' : M.σ} {k' : Nat} (hi : inv s' k' F' w') (hc : Chg wr w' F) (hf : ∀ i, F' i → F i ∨ wr.heap.size ≤ i) : LnM inv w0 w' F0 gr gz g rb rt { S with q := s', next := k' } F' vs vl := by
  have hng : ¬ F g := fun e => (h.hg g e).1.1 rfl
  have hnr : ¬ F gr := fun e => (h.hg gr e).1.2.1 rfl
  have hnz : ¬ F gz := fun e => (h.hg gz e).1.2.2 rfl
  refine ⟨h.blk.chg hc hng, h.os.chg hc (fun i hi e => (h.hg i e).2.1 hi), h.ol.chg hc (fun i hi e => (h.hg i e).2.2 hi), hi, fun i hi => ?_, fun i hi => ?_, fun i hi2 => (I.lt _ _ _ _ hi i hi2).2, h.chg.trans hc (fun i hi e => ?_), h.rate.chg hc hnr, h.res.chg hc hnz, h.n0, h.gz⟩
  · rcases hf i hi with e | e
    · exact h.hF i e
    · exact .inr (Nat.le_trans h.chg.size e)
  · rcases hf i hi with e | e
    · exact h.hg i e
    · have h1 := h.blk.lt; have h2 := h.rate.lt; have h3 := h.res.lt
      exact ⟨⟨by omega, by omega, by omega⟩, fun e2 => by have := (ownW_lt h.os e2).2; omega, fun e2 => by have := (ownW_lt h.ol e2).2; omega⟩
  · rcases h.hF i e with e | e
    · exact e
    · omega
theorem LnM.at_now (h : LnM inv w0 wr F0 gr gz g rb rt S F vs vl) (x y : Int) : LnM inv w0 wr F0 gr gz g rb rt { S with now := x, free := y } F vs vl :=
  ⟨h.blk, h.os, h.ol, h.inv, h.hF, h.hg, h.hlt, h.chg, h.rate, h.res, h.n0, h.gz⟩
theorem LnM.lose (I : QImp M q base inv) (h : LnM inv w0 wr F0 gr gz g rb rt S F vs vl) {nums : List Int} {lv : Value} (hl : LlRel w0.heap.size wr w' g vs (.int .i64 0) (.int .i64 S.most) vl nums 0 lv) : LnM inv w0 w' F0 gr gz g rb rt { S with lost := nums } F vs lv := by
  have hvg : ∀ i, vl.ownBlock = some i → i ≠ gr ∧ i ≠ gz := fun i hi => ⟨fun e => h.ol.blk_ne h.rate (by decide) (e ▸ hi), fun e => h.ol.blk_ne h.res (by decide) (e ▸ hi)⟩
  have hrg : gr ≠ g := Blk.ne_ h.rate h.blk (by decide)
  have hvsg : vs.ownBlock ≠ some g := h.os.blk_ne h.blk (by decide)
  have hvv : ∀ i, vs.ownBlock = some i → vl.ownBlock ≠ some i := fun i hi e => by
    rcases h.os.2 with ⟨rfl, _⟩ | ⟨g1, o1, c1, cur, rfl, hb, hgg, _⟩
    · simp [Value.ownBlock] at hi
    · have e1 : g1 = i := by simpa [Value.ownBlock] using hi
      subst e1
      exact h.ol.blk_ne hgg (by decide) e
  refine ⟨hl.blk, h.os.chg hl.chg (fun i hi e => ?_), hl.own, I.chg _ _ _ _ _ _ h.inv hl.chg (fun i hi e => ?_), h.hF, fun i hi => ⟨(h.hg i hi).1, (h.hg i hi).2.1, fun e => ?_⟩, fun i hi => Nat.lt_of_lt_of_le (h.hlt i hi) hl.chg.size, h.chg.trans hl.chg (fun i hi e => ?_), h.rate.chg hl.chg (fun e => ?_), h.res.chg hl.chg (fun e => ?_), h.n0, h.gz⟩
  · rcases e with e | e
    · subst e; exact hvsg hi
    · exact hvv i hi e
  · rcases e with e | e
    · exact (h.hg i hi).1.1 e
    · exact (h.hg i hi).2.2 e
  · rcases hl.at_ with e2 | e2
    · exact (h.hg i hi).2.2 (e2 ▸ e)
    · have := e2 i e; have := h.hlt i hi; omega
  · rcases e with e | e
    · have := h.n0.1; omega
    · have := (ownW_lt h.ol e).1; omega
  · rcases e with e | e
    · exact hrg e
    · exact (hvg _ e).1 rfl
  · rcases e with e | e
    · exact h.gz e.symm
    · exact (hvg _ e).2 rfl
theorem LnM.most (I : QImp M q base inv) (h : LnM inv w0 wr F0 gr gz g rb rt S F vs vl) (m : Int) : LnM inv w0 (wr.setCell ⟨g, 3, none⟩ (.int .i64 m)) F0 gr gz g rb rt { S with most := m } F vs vl := by
  have hc : Chg wr (wr.setCell ⟨g, 3, none⟩ (.int .i64 m)) (fun i => i = g) := Chg.setCell (p := ⟨g, 3, none⟩) (Chg.refl _ (fun i => i = g)) (fun _ => rfl) _
  have hrg : gr ≠ g := Blk.ne_ h.rate h.blk (by decide)
  exact ⟨h.blk.set_ 3 _, h.os.chg hc (fun i hi e => h.os.blk_ne h.blk (by decide) (e ▸ hi)), h.ol.chg hc (fun i hi e => h.ol.blk_ne h.blk (by decide) (e ▸ hi)), I.chg _ _ _ _ _ _ h.inv hc (fun i hi e => (h.hg i hi).1.1 e), h.hF, h.hg, fun i hi => Nat.lt_of_lt_of_le (h.hlt i hi) hc.size, h.chg.trans hc (fun i hi e => by have := h.n0.1; omega), h.rate.chg hc hrg, h.res.chg hc (fun e => h.gz e.symm), h.n0, h.gz⟩
theorem LnM.went (I : QImp M q base inv) (h : LnM inv w0 wr F0 gr gz g rb rt S F vs vl) {y : Pl.Snt} {vs' : Value} (ho : OwnW w' w0.heap.size 37 4 vs' (S.sent.length + 1) ((S.sent ++ [y]).flatMap SntR.cells)) (hg : wr.grownBy w' vs.ownBlock) (ha : vs'.ownBlock = vs.ownBlock ∨ ∀ i, vs'.ownBlock = some i → wr.heap.size ≤ i) (free : Int) :
    LnM inv w0 (w'.setCell ⟨g, 0, none⟩ vs') F0 gr gz g rb rt { S with free := free, sent := S.sent ++ [y] } F vs' vl := by
  have hc1 : Chg wr w' (fun i => vs.ownBlock = some i) := Chg.of_grown hg (fun i e => e.symm)
  have hc2 : Chg w' (w'.setCell ⟨g, 0, none⟩ vs') (fun i => i = g) := Chg.setCell (p := ⟨g, 0, none⟩) (Chg.refl _ (fun i => i = g)) (fun _ => rfl) _
  have hrg : gr ≠ g := Blk.ne_ h.rate h.blk (by decide)
  have hvg : vs.ownBlock ≠ some g := h.os.blk_ne h.blk (by decide)
  have hb1 := h.blk.chg hc1 hvg
  have hv2 : vs'.ownBlock ≠ some g := ho.blk_ne hb1 (by decide)
  have hvv : ∀ i, vl.ownBlock = some i → vs.ownBlock ≠ some i := fun i hi e => by
    rcases h.ol.2 with ⟨rfl, _⟩ | ⟨g1, o1, c1, cur, rfl, hb, hgg, _⟩
    · simp [Value.ownBlock] at hi
    · have e1 : g1 = i := by simpa [Value.ownBlock] using hi
      subst e1
      exact h.os.blk_ne hgg (by decide) e
  refine ⟨hb1.set_ 0 _, ?_, (h.ol.chg hc1 (fun i hi e => hvv i hi e)).chg hc2 (fun i hi e => h.ol.blk_ne h.blk (by decide) (e ▸ hi)), I.chg _ _ _ _ _ _ (I.chg _ _ _ _ _ _ h.inv hc1 (fun i hi e => (h.hg i hi).2.1 e)) hc2 (fun i hi e => (h.hg i hi).1.1 e), h.hF, fun i hi => ⟨(h.hg i hi).1, fun e => ?_, (h.hg i hi).2.2⟩, fun i hi => Nat.lt_of_lt_of_le (h.hlt i hi) (Nat.le_trans hc1.size hc2.size), (h.chg.trans hc1 (fun i hi e => ?_)).trans hc2 (fun i hi e => ?_), (h.rate.chg hc1 (fun e => h.os.blk_ne h.rate (by decide) e)).chg hc2 hrg, (h.res.chg hc1 (fun e => h.os.blk_ne h.res (by decide) e)).chg hc2 (fun e => h.gz e.symm), h.n0, h.gz⟩
  · rw [List.length_append, List.length_singleton]
    exact ho.chg hc2 (fun i hi e => hv2 (e ▸ hi))
  · rcases ha with e2 | e2
    · exact (h.hg i hi).2.1 (e2 ▸ e)
    · have := e2 i e; have := h.hlt i hi; omega
  · have := (ownW_lt h.os e).1; omega
  · have := h.n0.1; omega
end
end Go.Proofs.YtgdijbaodfghjaaGreatDoor

/-
  Plain law of the wire with a queue that lets go at once: when the wire is busy does not depend on the order. No program in sight.
-/
namespace Go.Proofs.YtgdijbaodfghjaaGreatDoor
open Bkt
set_option linter.unusedVariables false
namespace Pl
structure WC (M : QM) (I : M.σ → Prop) : Prop where
  good : M.Good false I
  put : ∀ s now x, I s → okB x.it = true → (M.wait s).length < 60 → (∀ p ∈ M.wait s, (0 : Int) ≤ p.2 ∧ p.2 ≤ 10000) → (M.put now x s).1 = []
  take : ∀ s now, I s → M.wait s ≠ [] → (M.take now s).1 ≠ none
  lost : ∀ s now, I s → (M.take now s).2.1 = []
def ext (s : List Int) (a b : Int) : List Int := if s.getLast? = some a then s.dropLast ++ [b] else s ++ [a, b]
theorem ext_ext (s : List Int) (a b c : Int) : ext (ext s a b) b c = ext s a c := by
  have h : (ext s a b).getLast? = some b ∧ (ext s a b).dropLast ++ [c] = ext s a c := by
    unfold ext
    split
    · exact ⟨by simp, by rw [List.dropLast_concat]⟩
    · refine ⟨by simp, ?_⟩
      rw [show s ++ [a, b] = (s ++ [a]) ++ [b] by simp, List.dropLast_concat]
      simp
  rw [ext, if_pos h.1, h.2]
def spansS (l : List Snt) : List Int := l.foldl (fun s x => ext s x.from_ x.to_) []
theorem spansS_snoc (l : List Snt) (x : Snt) : spansS (l ++ [x]) = ext (spansS l) x.from_ x.to_ := by
  unfold spansS; rw [List.foldl_append]; rfl
def spansI (l : List It) (rb rt : Int) : Nat → List Int
  | 0 => []
  | i + 1 => ext (spansI l rb rt i) (fromI l rb rt i) (freeI l rb rt (i + 1))
def sumT (rb rt : Int) : List (Int × Int) → Int
  | [] => 0
  | p :: r => takes rb rt p.2 + sumT rb rt r
theorem sumT_append (rb rt : Int) : ∀ a b : List (Int × Int), sumT rb rt (a ++ b) = sumT rb rt a + sumT rb rt b := by
  intro a; induction a with
  | nil => intro b; simp [sumT]
  | cons h r ih => intro b; simp [sumT, ih]; omega
theorem sumT_perm (rb rt : Int) {a b : List (Int × Int)} (h : a.Perm b) : sumT rb rt a = sumT rb rt b := by
  induction h with
  | nil => rfl
  | cons x _ ih => simp [sumT, ih]
  | swap x y l => simp [sumT]; omega
  | trans _ _ h1 h2 => exact h1.trans h2
theorem sumT_pos {rb rt : Int} (hs : SpeedOk rb rt) : ∀ {l : List (Int × Int)}, (∀ p ∈ l, (1 : Int) ≤ p.2) → 0 ≤ sumT rb rt l
  | [], _ => Int.le_refl _
  | p :: r, h => by
    have h1 := sumT_pos hs (l := r) (fun q hq => h q (List.mem_cons_of_mem _ hq))
    have h2 := takes_pos hs (h p List.mem_cons_self)
    unfold sumT
    omega
theorem sumT_ge {rb rt : Int} (hs : SpeedOk rb rt) {l : List (Int × Int)} (h : ∀ p ∈ l, (1 : Int) ≤ p.2) (hn : l ≠ []) : 1 ≤ sumT rb rt l := by
  cases l with
  | nil => exact absurd rfl hn
  | cons p r =>
    have h1 := sumT_pos hs (l := r) (fun q hq => h q (List.mem_cons_of_mem _ hq))
    have h2 := takes_pos hs (h p List.mem_cons_self)
    unfold sumT
    omega
section
variable (M : QM) (I : M.σ → Prop) (l : List It) (rb rt : Int)
structure BsB (S : Lk M.σ) : Prop where
  nl : S.next ≤ l.length
  i : I S.q
  lo : S.lost = []
  ct : S.sent.length + (M.wait S.q).length = S.next
  ps : ∀ p ∈ M.wait S.q, (1 : Int) ≤ p.2 ∧ p.2 ≤ 10000
  e : M.wait S.q = [] → spansS S.sent = spansI l rb rt S.next ∧ S.free = freeI l rb rt S.next
  ne : M.wait S.q ≠ [] → spansI l rb rt S.next = ext (spansS S.sent) (max S.free S.now) (freeI l rb rt S.next) ∧ freeI l rb rt S.next = max S.free S.now + sumT rb rt (M.wait S.q)
  tos : ∀ x ∈ S.sent, x.to_ ≤ S.free
  la : S.sent = [] ∧ S.free = 0 ∨ ∃ x, S.sent.getLast? = some x ∧ x.to_ = S.free
structure BsP (S : Lk M.σ) : Prop where
  b : BsB M I l rb rt S
  up : S.next < l.length → S.now ≤ (ix l S.next).at_
structure BsQ (S : Lk M.σ) : Prop where
  b : BsB M I l rb rt S
  w : M.wait S.q ≠ [] → S.now < S.free
  up : S.next < l.length → S.now < (ix l S.next).at_
structure BsR (until_ : Int) (S : Lk M.σ) : Prop where
  lo : S.lost = []
  nl : S.sent.length ≤ l.length
  all : S.sent.length = l.length → spansS S.sent = spansI l rb rt l.length ∧ (l ≠ [] → ∃ x ∈ S.sent, x.to_ = freeI l rb rt l.length)
  no : S.sent.length ≠ l.length → until_ < freeI l rb rt l.length
end
theorem freeI_up {l : List It} {rb rt : Int} (hs : SpeedOk rb rt) (hf : ∀ i, i < l.length → 1 ≤ (ix l i).len) : ∀ {m n : Nat}, m ≤ n → n ≤ l.length → freeI l rb rt m ≤ freeI l rb rt n := by
  intro m n h hn
  induction n with
  | zero => obtain rfl : m = 0 := by omega
            exact Int.le_refl _
  | succ n ih =>
    by_cases e : m = n + 1
    · subst e; exact Int.le_refl _
    · have h1 := ih (by omega) (by omega)
      have h2 := takes_pos hs (hf n (by omega))
      rw [freeI_succ]
      unfold fromI
      omega
theorem at_free {l : List It} {rb rt : Int} (hs : SpeedOk rb rt) (hf : ∀ i, i < l.length → 1 ≤ (ix l i).len) {m : Nat} (hm : m < l.length) : (ix l m).at_ < freeI l rb rt l.length := by
  have h1 := freeI_up hs hf (m := m + 1) (n := l.length) hm (Nat.le_refl _)
  have h2 := takes_pos hs (hf m hm)
  rw [freeI_succ] at h1
  unfold fromI at h1
  omega
theorem snoc_ne {α : Type} (a : List α) (b : α) : a ++ [b] ≠ [] := by simp
theorem wc_inv {M : QM} {I : M.σ → Prop} (W : WC M I) {l : List It} (hf : ListFine l) (hn : l.length ≤ 40) {rb rt : Int} (hs : SpeedOk rb rt) (until_ : Int) : LnkInv M l rb rt until_ (BsP M I l rb rt) (BsQ M I l rb rt) (BsR M l rb rt until_) where
  put := fun S h hlt hat => by
    have hb := h.b
    have hup := h.up hlt
    have hfl := hf.2.1 S.next hlt
    have hok : okB (⟨ix l S.next, S.next⟩ : Hd).it = true := okB_fine.2 hfl
    have hwl : (M.wait S.q).length < 60 := by have := hb.ct; omega
    have hlost := W.put S.q S.now ⟨ix l S.next, S.next⟩ hb.i hok hwl (fun p hp => by have := hb.ps p hp; omega)
    obtain ⟨g1, g2⟩ := W.good.put S.q S.now ⟨ix l S.next, S.next⟩ hb.i hok
    rw [hlost, List.map_nil, List.nil_append] at g2
    have e1 : (putS M l S).q = (M.put S.now ⟨ix l S.next, S.next⟩ S.q).2 := rfl
    have hw1 : M.wait (putS M l S).q ≠ [] := fun e => by
      rw [← e1, e] at g2
      exact snoc_ne _ _ g2.eq_nil
    have hlen := g2.length_eq
    rw [List.length_append, List.length_singleton] at hlen
    have hsum := sumT_perm rb rt g2
    rw [sumT_append] at hsum
    have hk : sumT rb rt [key ⟨ix l S.next, S.next⟩] = takes rb rt (ix l S.next).len := by simp [sumT, key]
    rw [hk] at hsum
    have hfs := freeI_succ l rb rt S.next
    refine ⟨⟨?_, g1, ?_, ?_, fun p hp => ?_, fun e => absurd e hw1, fun _ => ?_, hb.tos, hb.la⟩, fun hlt2 => ?_⟩
    · show S.next + 1 ≤ l.length; omega
    · show S.lost ++ (M.put S.now ⟨ix l S.next, S.next⟩ S.q).1.map Hd.num = []
      rw [hlost, hb.lo]; rfl
    · show S.sent.length + (M.wait (M.put S.now ⟨ix l S.next, S.next⟩ S.q).2).length = S.next + 1
      have := hb.ct; omega
    · have := g2.symm.subset hp
      rcases List.mem_append.1 this with h1 | h1
      · exact hb.ps p h1
      · rw [List.mem_singleton] at h1; subst h1
        have := hfl.f1
        exact ⟨this.1, this.2⟩
    · show spansI l rb rt (S.next + 1) = ext (spansS S.sent) (max S.free S.now) (freeI l rb rt (S.next + 1)) ∧ freeI l rb rt (S.next + 1) = max S.free S.now + sumT rb rt (M.wait (M.put S.now ⟨ix l S.next, S.next⟩ S.q).2)
      have hat2 : (ix l S.next).at_ = S.now := by omega
      by_cases hw : M.wait S.q = []
      · obtain ⟨a1, a2⟩ := hb.e hw
        rw [hw] at hsum
        have hfr : fromI l rb rt S.next = max S.free S.now := by unfold fromI; rw [← a2, hat2]
        refine ⟨?_, ?_⟩
        · rw [spansI, ← a1, hfr]
        · rw [hfs, hfr, ← hsum]; simp [sumT]
      · obtain ⟨a1, a2⟩ := hb.ne hw
        have hpos := sumT_ge hs (fun p hp => (hb.ps p hp).1) hw
        have hfr : fromI l rb rt S.next = freeI l rb rt S.next := by unfold fromI; omega
        refine ⟨?_, ?_⟩
        · rw [spansI, hfr, a1, ext_ext]
        · rw [hfs, hfr, ← hsum]; omega
    · show S.now ≤ (ix l (S.next + 1)).at_
      have := hf.2.2 S.next hlt2
      omega
  most := fun S h => ⟨⟨h.b.nl, h.b.i, h.b.lo, h.b.ct, h.b.ps, h.b.e, h.b.ne, h.b.tos, h.b.la⟩, h.up⟩
  take := fun S h hx hfr => by
    have hb := h.b
    obtain ⟨g1, g2⟩ := W.good.take S.q S.now hb.i
    have hlost := W.lost S.q S.now hb.i
    have hsome := W.take S.q S.now hb.i
    rw [hlost, List.map_nil, List.nil_append] at g2
    unfold takeS
    rw [hlost]
    have hlo : S.lost ++ ([] : List Hd).map Hd.num = [] := by rw [hb.lo]; rfl
    cases hc : (M.take S.now S.q).1 with
    | none =>
      rw [hc] at g2
      have hw : M.wait S.q = [] := by
        by_cases h0 : M.wait S.q = []
        · exact h0
        · exact absurd hc (hsome h0)
      have g2' : (M.wait S.q).Perm (M.wait (M.take S.now S.q).2.2) := g2
      rw [hw] at g2'
      have hw' : M.wait (M.take S.now S.q).2.2 = [] := g2'.symm.eq_nil
      refine ⟨⟨hb.nl, g1, hlo, ?_, fun p hp => ?_, fun _ => hb.e hw, fun h0 => absurd hw' h0, hb.tos, hb.la⟩, fun h0 => absurd hw' h0, hx⟩
      · show S.sent.length + (M.wait (M.take S.now S.q).2.2).length = S.next
        rw [hw', ← hb.ct, hw]
      · have hp' : p ∈ M.wait (M.take S.now S.q).2.2 := hp
        rw [hw'] at hp'; cases hp'
    | some x =>
      rw [hc] at g2
      have g2' : (M.wait S.q).Perm (key x :: M.wait (M.take S.now S.q).2.2) := g2
      have hw : M.wait S.q ≠ [] := fun e => by rw [e] at g2'; exact absurd g2'.symm.eq_nil (by simp)
      obtain ⟨a1, a2⟩ := hb.ne hw
      have hmx : max S.free S.now = S.now := by omega
      rw [hmx] at a1 a2
      have hxk := hb.ps (key x) (g2'.symm.subset List.mem_cons_self)
      have htp : 1 ≤ takes rb rt x.it.len := takes_pos hs hxk.1
      have hlen := g2'.length_eq
      rw [List.length_cons] at hlen
      have hsum := sumT_perm rb rt g2'
      have hsum2 : sumT rb rt (M.wait S.q) = takes rb rt x.it.len + sumT rb rt (M.wait (M.take S.now S.q).2.2) := hsum
      refine ⟨⟨hb.nl, g1, hlo, ?_, fun p hp => hb.ps p (g2'.symm.subset (List.mem_cons_of_mem _ hp)), fun h0 => ?_, fun h0 => ?_, fun y hy => ?_, .inr ?_⟩, fun _ => ?_, hx⟩
      · show (S.sent ++ [_]).length + (M.wait (M.take S.now S.q).2.2).length = S.next
        rw [List.length_append, List.length_singleton]
        have := hb.ct; omega
      · show spansS (S.sent ++ [⟨x.num, S.now, S.now + takes rb rt x.it.len, x.it.mark⟩]) = spansI l rb rt S.next ∧ S.now + takes rb rt x.it.len = freeI l rb rt S.next
        have h0' : M.wait (M.take S.now S.q).2.2 = [] := h0
        rw [h0'] at hsum2
        have hz : sumT rb rt [] = 0 := rfl
        rw [hz] at hsum2
        have hfe : S.now + takes rb rt x.it.len = freeI l rb rt S.next := by omega
        refine ⟨?_, hfe⟩
        rw [spansS_snoc, a1, ← hfe]
      · show spansI l rb rt S.next = ext (spansS (S.sent ++ [⟨x.num, S.now, S.now + takes rb rt x.it.len, x.it.mark⟩])) (max (S.now + takes rb rt x.it.len) S.now) (freeI l rb rt S.next) ∧ freeI l rb rt S.next = max (S.now + takes rb rt x.it.len) S.now + sumT rb rt (M.wait (M.take S.now S.q).2.2)
        rw [show max (S.now + takes rb rt x.it.len) S.now = S.now + takes rb rt x.it.len by omega]
        refine ⟨?_, by omega⟩
        rw [spansS_snoc, a1]
        exact (ext_ext _ _ _ _).symm
      · show y.to_ ≤ S.now + takes rb rt x.it.len
        have hy' : y ∈ S.sent ++ [⟨x.num, S.now, S.now + takes rb rt x.it.len, x.it.mark⟩] := hy
        rcases List.mem_append.1 hy' with h1 | h1
        · have := hb.tos y h1; omega
        · rw [List.mem_singleton] at h1; subst h1; exact Int.le_refl _
      · exact ⟨⟨x.num, S.now, S.now + takes rb rt x.it.len, x.it.mark⟩, by show (S.sent ++ [_]).getLast? = _; simp, rfl⟩
      · show S.now < S.now + takes rb rt x.it.len
        omega
  busy := fun S h hx hfr => ⟨h.b, fun _ => hfr, hx⟩
  jump := fun S t h hnx ht hu => by
    have hb := h.b
    obtain ⟨_, _, hl⟩ := W.good.len S.q hb.i
    obtain ⟨hl, _⟩ := hl rfl
    unfold nextT at hnx
    by_cases hw : M.wait S.q = []
    · rw [hw] at hl
      have h1 : M.len S.q = 0 := hl
      have e1 : aftS M S = S := by unfold aftS aQ; rw [if_pos h1]
      have e2 : aftT M S = none := by unfold aftT aT; rw [if_pos h1]
      rw [e1]
      rw [e2] at hnx
      dsimp only at hnx
      split at hnx
      · injection hnx with hnx
        refine ⟨⟨hb.nl, hb.i, hb.lo, hb.ct, hb.ps, hb.e, fun h0 => absurd hw h0, hb.tos, hb.la⟩, fun _ => ?_⟩
        show t ≤ (ix l S.next).at_
        omega
      · cases hnx
    · have h1 : ¬ M.len S.q = 0 := by
        rw [hl]
        have : (M.wait S.q).length ≠ 0 := fun e => hw (List.eq_nil_of_length_eq_zero e)
        omega
      have h2 := h.w hw
      have e1 : aftS M S = S := by unfold aftS aQ; rw [if_neg h1, if_pos h2]
      have e2 : aftT M S = some S.free := by unfold aftT aT; rw [if_neg h1, if_pos h2]
      rw [e1]
      rw [e2] at hnx
      dsimp only at hnx
      have hle : t ≤ S.free ∧ (S.next < l.length → t ≤ (ix l S.next).at_) := by
        split at hnx
        · injection hnx with hnx; exact ⟨by omega, fun _ => by omega⟩
        · rename_i hc
          injection hnx with hnx
          exact ⟨by omega, fun hlt => by
            rcases Int.lt_or_le (ix l S.next).at_ S.free with h | h
            · exact absurd ⟨hlt, h⟩ hc
            · omega⟩
      obtain ⟨a1, a2⟩ := hb.ne hw
      have hm1 : max S.free S.now = S.free := by omega
      have hm2 : max S.free t = S.free := by omega
      rw [hm1] at a1 a2
      refine ⟨⟨hb.nl, hb.i, hb.lo, hb.ct, hb.ps, fun h0 => absurd h0 hw, fun _ => ?_, hb.tos, hb.la⟩, hle.2⟩
      show spansI l rb rt S.next = ext (spansS S.sent) (max S.free t) (freeI l rb rt S.next) ∧ freeI l rb rt S.next = max S.free t + sumT rb rt (M.wait S.q)
      rw [hm2]
      exact ⟨a1, a2⟩
  stop := fun S h hst => by
    have hb := h.b
    have hf1 : ∀ i, i < l.length → 1 ≤ (ix l i).len := fun i hi => (hf.2.1 i hi).f1.1
    obtain ⟨_, _, hl⟩ := W.good.len S.q hb.i
    obtain ⟨hl, _⟩ := hl rfl
    have hct := hb.ct; have hnl := hb.nl
    refine ⟨hb.lo, ?_, fun hc => ?_, fun hc => ?_⟩
    · show S.sent.length ≤ l.length; omega
    · have hc' : S.sent.length = l.length := hc
      have hw : M.wait S.q = [] := List.eq_nil_of_length_eq_zero (by omega)
      have hnx : S.next = l.length := by omega
      obtain ⟨a1, a2⟩ := hb.e hw
      rw [hnx] at a1 a2
      refine ⟨a1, fun hne => ?_⟩
      rcases hb.la with ⟨h1, _⟩ | ⟨x, h1, h2⟩
      · rw [h1] at hc'
        exact absurd (List.eq_nil_of_length_eq_zero hc'.symm) hne
      · exact ⟨x, List.mem_of_getLast? h1, h2.trans a2⟩
    · have hc' : S.sent.length ≠ l.length := hc
      unfold nextT at hst
      by_cases hw : M.wait S.q = []
      · rw [hw] at hl hct
        have h1 : M.len S.q = 0 := hl
        have e2 : aftT M S = none := by unfold aftT aT; rw [if_pos h1]
        rw [e2] at hst
        dsimp only at hst
        have hlt : S.next < l.length := by simp at hct; omega
        rw [if_pos hlt] at hst
        have h3 := hst _ rfl
        have h4 := at_free hs hf1 hlt
        omega
      · have h1 : ¬ M.len S.q = 0 := by
          rw [hl]
          have : (M.wait S.q).length ≠ 0 := fun e => hw (List.eq_nil_of_length_eq_zero e)
          omega
        have h2 := h.w hw
        have e2 : aftT M S = some S.free := by unfold aftT aT; rw [if_neg h1, if_pos h2]
        rw [e2] at hst
        dsimp only at hst
        obtain ⟨a1, a2⟩ := hb.ne hw
        have hpos := sumT_ge hs (fun p hp => (hb.ps p hp).1) hw
        have hup := freeI_up hs hf1 hb.nl (Nat.le_refl _)
        split at hst
        · have h3 := hst _ rfl; omega
        · have h3 := hst _ rfl; omega
theorem wc_start {M : QM} {I : M.σ → Prop} {q0 : M.σ} (hI : I q0) (h0 : M.wait q0 = []) (l : List It) (rb rt : Int) (hl : ∀ i, i < l.length → 0 ≤ (ix l i).at_) : BsP M I l rb rt (Lk.start q0) :=
  ⟨⟨Nat.zero_le _, hI, rfl, by show 0 + (M.wait q0).length = 0; rw [h0]; rfl, fun p hp => (by have hp' : p ∈ M.wait q0 := hp; rw [h0] at hp'; cases hp'), fun _ => ⟨rfl, rfl⟩, fun h => absurd h0 h, fun x hx => by simp [Lk.start] at hx, .inl ⟨rfl, rfl⟩⟩, fun hlt => hl 0 hlt⟩
theorem wc_law {M N : QM} {l : List It} {rb rt until_ : Int} {A : Lk M.σ} {B : Lk N.σ} (a : BsR M l rb rt until_ A) (b : BsR N l rb rt until_ B) (h1 : A.sent.length = l.length) (h2 : ∀ x ∈ A.sent, x.to_ ≤ until_) (h0 : 0 ≤ until_) : B.sent.length = l.length ∧ spansS A.sent = spansS B.sent := by
  obtain ⟨a1, a2⟩ := a.all h1
  have hb : B.sent.length = l.length := by
    by_cases e : B.sent.length = l.length
    · exact e
    · have h3 := b.no e
      have hne : l ≠ [] := fun e2 => by
        subst e2
        have : freeI ([] : List It) rb rt ([] : List It).length = 0 := rfl
        omega
      obtain ⟨x, hx, hx2⟩ := a2 hne
      have := h2 x hx
      omega
  exact ⟨hb, a1.trans (b.all hb).1.symm⟩
end Pl
end Go.Proofs.YtgdijbaodfghjaaGreatDoor

/-
  Plain law of the wire with whatever queue: nothing is lost but what is told. No program in sight.
-/
namespace Go.Proofs.YtgdijbaodfghjaaGreatDoor
open Bkt
set_option linter.unusedVariables false
namespace Pl
def prevTo (s : List Snt) : Nat → Int
  | 0 => 0
  | j + 1 => match s[j]? with
    | some x => x.to_
    | none => 0
theorem prevTo_app (s : List Snt) (x : Snt) {j : Nat} (h : j ≤ s.length) : prevTo (s ++ [x]) j = prevTo s j := by
  cases j with
  | zero => rfl
  | succ j => simp only [prevTo]; rw [List.getElem?_append_left (show j < s.length by omega)]
theorem prevTo_last (s : List Snt) (x : Snt) : prevTo (s ++ [x]) (s ++ [x]).length = x.to_ := by
  rw [List.length_append, List.length_singleton]
  unfold prevTo
  simp
def SntOk (l : List It) (rb rt until_ : Int) (s : List Snt) : Prop := ∀ j x, s[j]? = some x → prevTo s j ≤ x.from_ ∧ (ix l x.num.toNat).at_ ≤ x.from_ ∧ x.from_ ≤ until_ ∧ x.to_ = x.from_ + takes rb rt (ix l x.num.toNat).len
def nums (n : Nat) : List Int := (List.range n).map fun i : Nat => (i : Int)
theorem nums_succ (n : Nat) : nums (n + 1) = nums n ++ [(n : Int)] := by simp [nums, List.range_succ]
theorem mem_nums {n : Nat} {k : Int} : k ∈ nums n ↔ 0 ≤ k ∧ k < n := by
  unfold nums
  rw [List.mem_map]
  constructor
  · rintro ⟨i, hi, rfl⟩
    have := List.mem_range.1 hi
    omega
  · intro h
    exact ⟨k.toNat, List.mem_range.2 (by omega), by omega⟩
section
variable (M : QM) (I : M.σ → Prop) (l : List It) (rb rt until_ : Int)
structure KpB (S : Lk M.σ) : Prop where
  nl : S.next ≤ l.length
  i : I S.q
  pm : (nums S.next).Perm (S.sent.map Snt.num ++ (S.lost ++ (M.wait S.q).map Prod.fst))
  ws : ∀ p ∈ M.wait S.q, 0 ≤ p.1 ∧ p.2 = (ix l p.1.toNat).len
  ar : ∀ i, i < S.next → (ix l i).at_ ≤ S.now
  so : SntOk l rb rt until_ S.sent
  fr : prevTo S.sent S.sent.length ≤ S.free
  nw : 0 ≤ S.now ∧ S.now ≤ until_
structure KpQ (S : Lk M.σ) : Prop where
  b : KpB M I l rb rt until_ S
  up : S.next < l.length → S.now < (ix l S.next).at_
structure KpR (S : Lk M.σ) : Prop where
  b : KpB M I l rb rt until_ S
  st : S.next < l.length → until_ < (ix l S.next).at_
end
theorem key_fst (x : List Hd) : (x.map key).map Prod.fst = x.map Hd.num := by
  rw [List.map_map]; rfl
theorem kp_aft {M : QM} {I : M.σ → Prop} {late : Bool} (G : M.Good late I) {l : List It} {rb rt until_ : Int} {S : Lk M.σ} (h : KpB M I l rb rt until_ S) : KpB M I l rb rt until_ (aftS M S) := by
  obtain ⟨g1, g2⟩ := G.when_ S.q (S.now + 1) h.i
  have hp : I (aQ M S.q S.now S.free) ∧ (M.wait S.q).Perm (M.wait (aQ M S.q S.now S.free)) := by
    unfold aQ
    split
    · exact ⟨h.i, List.Perm.refl _⟩
    · split
      · exact ⟨h.i, List.Perm.refl _⟩
      · exact ⟨g1, g2⟩
  exact ⟨h.nl, hp.1, h.pm.trans (List.Perm.append_left _ (List.Perm.append_left _ (hp.2.map _))), fun p hm => h.ws p (hp.2.symm.subset hm), h.ar, h.so, h.fr, h.nw⟩
theorem kp_inv {M : QM} {I : M.σ → Prop} {late : Bool} (G : M.Good late I) {l : List It} (hf : ListFine l) {rb rt : Int} (hs : SpeedOk rb rt) (until_ : Int) : LnkInv M l rb rt until_ (KpB M I l rb rt until_) (KpQ M I l rb rt until_) (KpR M I l rb rt until_) where
  put := fun S h hlt hat => by
    have hfl := hf.2.1 S.next hlt
    obtain ⟨g1, g2⟩ := G.put S.q S.now ⟨ix l S.next, S.next⟩ h.i (okB_fine.2 hfl)
    refine ⟨by show S.next + 1 ≤ l.length; omega, g1, ?_, fun p hp => ?_, fun i hi => ?_, h.so, h.fr, h.nw⟩
    · show (nums (S.next + 1)).Perm (S.sent.map Snt.num ++ ((S.lost ++ (M.put S.now ⟨ix l S.next, S.next⟩ S.q).1.map Hd.num) ++ (M.wait (M.put S.now ⟨ix l S.next, S.next⟩ S.q).2).map Prod.fst))
      have g3 := g2.map Prod.fst
      rw [List.map_append, List.map_append, key_fst] at g3
      have e : [key (⟨ix l S.next, S.next⟩ : Hd)].map Prod.fst = [(S.next : Int)] := rfl
      rw [e] at g3
      rw [nums_succ]
      refine (h.pm.append_right _).trans ?_
      rw [List.append_assoc, List.append_assoc]
      refine List.Perm.append_left _ ?_
      rw [List.append_assoc]
      exact List.Perm.append_left _ g3
    · have hp' : p ∈ M.wait S.q ++ [key ⟨ix l S.next, S.next⟩] := g2.symm.subset (List.mem_append_right _ hp)
      rcases List.mem_append.1 hp' with h1 | h1
      · exact h.ws p h1
      · rw [List.mem_singleton] at h1; subst h1
        refine ⟨by show (0 : Int) ≤ (S.next : Int); omega, ?_⟩
        show (ix l S.next).len = (ix l ((S.next : Int)).toNat).len
        simp
    · show (ix l i).at_ ≤ S.now
      have hi' : i < S.next + 1 := hi
      by_cases e : i = S.next
      · subst e; exact hat
      · exact h.ar i (by omega)
  most := fun S h => ⟨h.nl, h.i, h.pm, h.ws, h.ar, h.so, h.fr, h.nw⟩
  take := fun S h hx hfr => by
    obtain ⟨g1, g2⟩ := G.take S.q S.now h.i
    have g3 := g2.map Prod.fst
    rw [List.map_append, List.map_append, key_fst] at g3
    unfold takeS
    cases hc : (M.take S.now S.q).1 with
    | none =>
      rw [hc] at g2 g3
      refine ⟨⟨h.nl, g1, ?_, fun p hp => h.ws p (g2.symm.subset (List.mem_append_right _ hp)), h.ar, h.so, h.fr, h.nw⟩, hx⟩
      show (nums S.next).Perm (S.sent.map Snt.num ++ ((S.lost ++ (M.take S.now S.q).2.1.map Hd.num) ++ (M.wait (M.take S.now S.q).2.2).map Prod.fst))
      refine h.pm.trans (List.Perm.append_left _ ?_)
      rw [List.append_assoc]
      exact List.Perm.append_left _ g3
    | some x =>
      rw [hc] at g2 g3
      have hxm : key x ∈ M.wait S.q := g2.symm.subset (List.mem_append_right _ (by simp))
      obtain ⟨hx0, hxl⟩ := h.ws _ hxm
      have hxl' : x.it.len = (ix l x.num.toNat).len := hxl
      have hxn : x.num ∈ nums S.next := h.pm.symm.subset (List.mem_append_right _ (List.mem_append_right _ (List.mem_map.2 ⟨_, hxm, rfl⟩)))
      have hxr := mem_nums.1 hxn
      have hxa := h.ar x.num.toNat (by omega)
      refine ⟨⟨h.nl, g1, ?_, fun p hp => h.ws p (g2.symm.subset (List.mem_append_right _ (List.mem_append_right _ hp))), h.ar, fun j y hy => ?_, ?_, h.nw⟩, hx⟩
      · show (nums S.next).Perm ((S.sent ++ [(⟨x.num, S.now, S.now + takes rb rt x.it.len, x.it.mark⟩ : Snt)]).map Snt.num ++ ((S.lost ++ (M.take S.now S.q).2.1.map Hd.num) ++ (M.wait (M.take S.now S.q).2.2).map Prod.fst))
        have g4 : ((M.wait S.q).map Prod.fst).Perm ((M.take S.now S.q).2.1.map Hd.num ++ ([x.num] ++ (M.wait (M.take S.now S.q).2.2).map Prod.fst)) := g3
        refine h.pm.trans ?_
        rw [List.map_append, List.append_assoc]
        refine List.Perm.append_left _ ?_
        refine (List.Perm.append_left _ g4).trans ?_
        rw [← List.append_assoc]
        exact List.perm_append_comm_assoc _ _ _
      · have hy' : (S.sent ++ [(⟨x.num, S.now, S.now + takes rb rt x.it.len, x.it.mark⟩ : Snt)])[j]? = some y := hy
        rcases Nat.lt_or_ge j S.sent.length with hj | hj
        · rw [List.getElem?_append_left hj] at hy'
          have := h.so j y hy'
          show prevTo (S.sent ++ [(⟨x.num, S.now, S.now + takes rb rt x.it.len, x.it.mark⟩ : Snt)]) j ≤ _ ∧ _
          rw [prevTo_app _ _ (by omega)]
          exact this
        · obtain rfl : j = S.sent.length := by
            have := (List.getElem?_eq_some_iff.1 hy').1
            rw [List.length_append, List.length_singleton] at this
            omega
          rw [List.getElem?_append_right (Nat.le_refl _), Nat.sub_self] at hy'
          injection hy' with hy'
          subst hy'
          show prevTo (S.sent ++ [(⟨x.num, S.now, S.now + takes rb rt x.it.len, x.it.mark⟩ : Snt)]) S.sent.length ≤ S.now ∧ (ix l x.num.toNat).at_ ≤ S.now ∧ S.now ≤ until_ ∧ S.now + takes rb rt x.it.len = S.now + takes rb rt (ix l x.num.toNat).len
          rw [prevTo_app _ _ (Nat.le_refl _), hxl']
          have := h.fr
          exact ⟨by omega, hxa, h.nw.2, rfl⟩
      · show prevTo (S.sent ++ [(⟨x.num, S.now, S.now + takes rb rt x.it.len, x.it.mark⟩ : Snt)]) (S.sent ++ [(⟨x.num, S.now, S.now + takes rb rt x.it.len, x.it.mark⟩ : Snt)]).length ≤ S.now + takes rb rt x.it.len
        rw [prevTo_last]
        exact Int.le_refl _
  busy := fun S h hx _ => ⟨h, hx⟩
  jump := fun S t h _ ht hu => by
    have h1 := kp_aft G h.b
    refine ⟨h1.nl, h1.i, h1.pm, h1.ws, fun i hi => ?_, h1.so, h1.fr, ?_⟩
    · show (ix l i).at_ ≤ t
      have : (ix l i).at_ ≤ S.now := h1.ar i hi
      omega
    · show 0 ≤ t ∧ t ≤ until_
      have := h.b.nw
      omega
  stop := fun S h hst => by
    refine ⟨kp_aft G h.b, fun hlt => ?_⟩
    have hlt' : S.next < l.length := hlt
    show until_ < (ix l S.next).at_
    unfold nextT at hst
    cases ha : aftT M S with
    | none => rw [ha] at hst; exact hst _ (if_pos hlt')
    | some t =>
      rw [ha] at hst
      dsimp only at hst
      by_cases hc : S.next < l.length ∧ (ix l S.next).at_ < t
      · rw [if_pos hc] at hst; exact hst _ rfl
      · rw [if_neg hc] at hst
        have := hst _ rfl
        rcases Int.lt_or_le (ix l S.next).at_ t with h1 | h1
        · exact absurd ⟨hlt', h1⟩ hc
        · omega
theorem kp_start {M : QM} {I : M.σ → Prop} {q0 : M.σ} (hI : I q0) (h0 : M.wait q0 = []) (l : List It) (rb rt until_ : Int) (hu : 0 ≤ until_) : KpB M I l rb rt until_ (Lk.start q0) :=
  ⟨Nat.zero_le _, hI, by show (nums 0).Perm ([] ++ ([] ++ (M.wait q0).map Prod.fst)); rw [h0]; exact List.Perm.refl _, fun p hp => (by have hp' : p ∈ M.wait q0 := hp; rw [h0] at hp'; cases hp'), fun i hi => absurd hi (by simp [Lk.start]), fun j x hx => by simp [Lk.start] at hx, Int.le_refl _, ⟨Int.le_refl _, hu⟩⟩
theorem KpB.lens {M : QM} {I : M.σ → Prop} {l : List It} {rb rt until_ : Int} {S : Lk M.σ} (h : KpB M I l rb rt until_ S) : S.sent.length + S.lost.length + (M.wait S.q).length = S.next := by
  have := h.pm.length_eq
  simp [nums] at this
  omega
def marks (n : Nat) (ks : List Int) : List Bool := (List.range n).map fun i : Nat => decide ((i : Int) ∈ ks)
def restL (l : List It) (ks : List Int) (until_ : Int) : Nat → Int
  | 0 => 0
  | i + 1 => restL l ks until_ i + if (i : Int) ∉ ks ∧ (ix l i).at_ ≤ until_ then 1 else 0
structure KpLaw (l : List It) (rb rt until_ : Int) (sent : List Snt) (lost : List Int) (wait : Int) (late : Bool) : Prop where
  so : SntOk l rb rt until_ sent
  nd : (sent.map Snt.num ++ lost).Nodup
  rg : ∀ k ∈ sent.map Snt.num ++ lost, 0 ≤ k ∧ k < l.length ∧ (ix l k.toNat).at_ ≤ until_
  rest : wait ≤ restL l (sent.map Snt.num ++ lost) until_ l.length ∧ (late = false → wait = restL l (sent.map Snt.num ++ lost) until_ l.length)
end Pl
end Go.Proofs.YtgdijbaodfghjaaGreatDoor

/-
  Plain law of the wire: two invariants of a run together. No program in sight.
-/
namespace Go.Proofs.YtgdijbaodfghjaaGreatDoor
open Bkt
set_option linter.unusedVariables false
namespace Pl
theorem LnkInv.and {M : QM} {l : List It} {rb rt until_ : Int} {P Q R P' Q' R' : Lk M.σ → Prop} (a : LnkInv M l rb rt until_ P Q R) (b : LnkInv M l rb rt until_ P' Q' R') :
    LnkInv M l rb rt until_ (fun S => P S ∧ P' S) (fun S => Q S ∧ Q' S) (fun S => R S ∧ R' S) where
  put := fun S h h1 h2 => ⟨a.put S h.1 h1 h2, b.put S h.2 h1 h2⟩
  most := fun S h => ⟨a.most S h.1, b.most S h.2⟩
  take := fun S h h1 h2 => ⟨a.take S h.1 h1 h2, b.take S h.2 h1 h2⟩
  busy := fun S h h1 h2 => ⟨a.busy S h.1 h1 h2, b.busy S h.2 h1 h2⟩
  jump := fun S t h h1 h2 h3 => ⟨a.jump S t h.1 h1 h2 h3, b.jump S t h.2 h1 h2 h3⟩
  stop := fun S h h1 => ⟨a.stop S h.1 h1, b.stop S h.2 h1⟩
theorem KpB.bd {M : QM} {I : M.σ → Prop} {late : Bool} (G : M.Good late I) {l : List It} (hf : ListFine l) {rb rt until_ : Int} {S : Lk M.σ} (h : KpB M I l rb rt until_ S) :
    (∀ x, (M.take S.now S.q).1 = some x → 0 ≤ x.it.len ∧ x.it.len ≤ 10000) ∧ S.lost.length ≤ 1000 ∧ S.sent.length ≤ 1000 := by
  have hl := h.lens
  have hn := h.nl
  have hf1 := hf.1
  refine ⟨fun x hx => ?_, by omega, by omega⟩
  obtain ⟨_, g2⟩ := G.take S.q S.now h.i
  rw [hx] at g2
  have hm : key x ∈ M.wait S.q := g2.symm.subset (List.mem_append_right _ (by simp))
  obtain ⟨h0, h1⟩ := h.ws _ hm
  have h2 : x.num ∈ nums S.next := h.pm.symm.subset (List.mem_append_right _ (List.mem_append_right _ (List.mem_map.2 ⟨_, hm, rfl⟩)))
  have h3 := mem_nums.1 h2
  have h4 := (hf.2.1 x.num.toNat (by omega)).f1
  have h5 : x.it.len = (ix l x.num.toNat).len := h1
  omega
end Pl
end Go.Proofs.YtgdijbaodfghjaaGreatDoor
