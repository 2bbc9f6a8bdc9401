/-
  Texts of this claim, one behind the other: LnkLose, LnkAfter, LnkMem, KeepLaw, LnkAnd.
-/
import Derived.Test.YtgdijbaodfghjaaGreatDoorZ14
import Derived.Test.YtgdijbaodfghjaaGreatDoorZ22
import Derived.Test.YtgdijbaodfghjaaGreatDoorZ02
import Derived.Test.YtgdijbaodfghjaaGreatDoorZ01
/-
  A run over a wire: its inner function lose; the time after now.
-/
namespace Go.Proofs.YtgdijbaodfghjaaGreatDoor
open Go.RowKit Bkt
set_option linter.unusedVariables false

structure LlRel (B : Nat) (w wr : World) (g : Nat) (vs wt ms vl0 : Value) (nums : List Int) (k : Nat) (lv : Value) : Prop where
  blk : Blk wr g 28 #[vs, lv, wt, ms]
  own : OwnW wr B 3 1 lv nums.length (nums.flatMap IntR.cells)
  chg : Chg w wr (fun i => i = g ∨ vl0.ownBlock = some i)
  at_ : lv.ownBlock = vl0.ownBlock ∨ ∀ i, lv.ownBlock = some i → w.heap.size ≤ i
def LlOut (B : Nat) (w : World) (g : Nat) (vs wt ms vl0 : Value) (nums : List Int) (e : Ending) (w' : World) : Prop := e = .returned (.tuple #[]) ∧ Hid (∃ lv, LlRel B w w' g vs wt ms vl0 nums 0 lv)
set_option maxHeartbeats 2000000 in
set_option maxRecDepth 100000 in
theorem llose_any (B : Nat) (A : Option Addr) (n c : Nat) (l : List Hd) (g : Nat) (vs wt ms vl0 : Value) (nums : List Int) (w : World) (hr : RdR HdR w w.heap.size A n l) (hk : Blk w g 28 #[vs, vl0, wt, ms]) (ho : OwnW w B 3 1 vl0 nums.length (nums.flatMap IntR.cells))
    (hne : ∀ ad, A = some ad → ad.block ≠ g ∧ vl0.ownBlock ≠ some ad.block) (hn : n ≤ 100000) (hm : nums.length ≤ 100000) (hB : B ≤ w.heap.size) :
    Calls Tryz.prog 29 #[.slice A n c, .pointer (some ⟨g, 0, none⟩)] w (LlOut B w g vs wt ms vl0 (nums ++ l.map Hd.num)) := by
  have hll := hr.len
  have hrel0 : LlRel B w w g vs wt ms vl0 (nums ++ (l.take 0).map Hd.num) 0 vl0 := ⟨hk, by simpa using ho, Chg.refl _ _, .inl rfl⟩
  have H0 := Lib.hid hrel0; have HNE := Lib.hid hne; have HLL := Lib.hid hll; have HR := Lib.hid hr
  clear hk hrel0 hne hll ho hr
  go_enter Tryz.func29, Tryz.ntmps29
  go_wp2_with fail
  go_loopw [7] (fun i wr => ∃ (k : Nat) (lv : Value), k ≤ n ∧ i = .int .i64 k ∧ LlRel B w wr g vs wt ms vl0 (nums ++ (l.take k).map Hd.num) 0 lv) (fun i _ => n - (intOf i).toNat)
  case atStart => exact ⟨0, _, Nat.zero_le _, rfl, H0.out⟩
  case round =>
    obtain ⟨k, lv, hk, rfl, hrel⟩ := hrel
    have HREL := Lib.hid hrel
    clear hrel
    by_cases hlt : k < n
    · obtain ⟨b, off, rfl, hbB⟩ := HR.out.addr hlt
      obtain ⟨c0, c1, c2, c3, c4, c5⟩ := rdHd_at HR.out hlt
      have hbx := HNE.out _ rfl
      have hcell := fun j => HREL.out.chg.cell (p := ⟨b, j, none⟩) hbB (fun e => by rcases e with e | e; exact hbx.1 e; exact hbx.2 e)
      have d0 := (hcell _).trans c0; have d1 := (hcell _).trans c1; have d2 := (hcell _).trans c2; have d3 := (hcell _).trans c3; have d4 := (hcell _).trans c4; have d5 := (hcell _).trans c5
      have e1 := HREL.out.blk.cell 1
      have f1 := HREL.out.blk.frozen 1
      simp at e1
      have i1 : (k : Int) < (n : Int) := by omega
      clear hcell c0 c1 c2 c3 c4 c5
      generalize hy : ixR HdR l k = y at *
      have HY := Lib.hid hy; clear hy
      have hsz := HREL.out.chg.size
      have hgl := HREL.out.blk.lt
      have n1 : wr.heap.size ≠ g := by omega
      have n2 : g ≠ wr.heap.size := by omega
      obtain ⟨A1, c1, rfl, _, _, _⟩ := HREL.out.own.reads
      have hown := HREL.out.own.alloc (.cells #[.int .i64 y.it.at_, .int .i64 y.it.len, .int .i64 y.it.flow, .int .i64 y.it.band, .int .i64 y.it.mark, .int .i64 y.num] 78)
      have hnx : nums ++ (l.take (k + 1)).map Hd.num = (nums ++ (l.take k).map Hd.num) ++ [y.num] := by
        rw [take_snoc' HdR l k (by have := HLL.out; omega), HY.out, List.map_append, List.append_assoc]; rfl
      have HOWN := Lib.hid hown; have HNX := Lib.hid hnx
      clear hown hnx
      have hlen : (nums ++ (l.take k).map Hd.num).length ≤ 1000000 := by
        rw [List.length_append, List.length_map, List.length_take]; omega
      generalize nums ++ (l.take k).map Hd.num = N at *
      have hnb : (Value.slice A1 N.length c1).ownBlock ≠ some g := HREL.out.own.blk_ne HREL.out.blk (by decide)
      have HNB := Lib.hid hnb; clear hnb
      have hBs : B ≤ (wr.alloc (.cells #[.int .i64 y.it.at_, .int .i64 y.it.len, .int .i64 y.it.flow, .int .i64 y.it.band, .int .i64 y.it.mark, .int .i64 y.num] 78)).heap.size := by simp; omega
      go_wp2_with (at_builtin; go_must (refine wpList_addW IntR rfl (.tmp 12) (.tmp 15) _ B 3 _ 8 Tryz.underlying26 Tryz.intRInfo rfl rfl _ _ N y.num _ HOWN.out rfl rfl (by show Value.slice (some ⟨wr.heap.size + 1, 0, none⟩) 1 1 = _; simp) (int_one _) hlen (by omega) hBs ?_); intro v3 w3 h1 h2 h3; obtain ⟨A2, c2, rfl, _, _, _⟩ := h1.reads; have hb3 := (HREL.out.blk.alloc (.cells #[.int .i64 y.it.at_, .int .i64 y.it.len, .int .i64 y.it.flow, .int .i64 y.it.band, .int .i64 y.it.mark, .int .i64 y.num] 78)).grown h2 (fun e => HNB.out e.symm); have e3 := hb3.cell 1; have f3 := hb3.frozen 1; simp at e3; have H1 := Lib.hid h1; have H2 := Lib.hid h2; have H3 := Lib.hid h3; have HB3 := Lib.hid hb3; clear h1 h2 h3 hb3)
      have hfin : LlRel B w (w3.setCell ⟨g, 1, none⟩ (.slice A2 (N.length + 1) c2)) g vs wt ms vl0 (N ++ [y.num]) 0 (.slice A2 (N.length + 1) c2) := by
        have hne2 : (Value.slice A2 (N.length + 1) c2).ownBlock ≠ some g := H1.out.blk_ne HB3.out (by decide)
        refine ⟨HB3.out.set_ 1 _, ?_, ?_, ?_⟩
        · rw [List.length_append, List.length_singleton]
          exact H1.out.chg (S := fun i => i = g) (Chg.setCell (p := ⟨g, 1, none⟩) (Chg.refl _ (fun i => i = g)) (fun _ => rfl) _) (fun i hi e => hne2 (e ▸ hi))
        · refine Chg.setCell (p := ⟨g, 1, none⟩) ?_ (fun _ => .inl rfl) _
          refine ((HREL.out.chg.alloc _).trans (Chg.of_grown (S := fun i => (Value.slice A1 N.length c1).ownBlock = some i) H2.out (fun i hi => hi.symm)) (fun i hi hs => ?_))
          rcases HREL.out.at_ with e | e
          · exact .inr (e ▸ hs)
          · have := e i hs; omega
        · rcases H3.out with e | e
          · rcases HREL.out.at_ with e2 | e2
            · exact .inl (e.trans e2)
            · exact .inr fun i hi => e2 i (e ▸ hi)
          · exact .inr fun i hi => by have := e i hi; simp at this; omega
      have HFIN := Lib.hid hfin; clear hfin
      go_roundw
      case rel => exact ⟨k + 1, _, by omega, by go_num, by rw [HNX.out]; exact HFIN.out⟩
      case measure => simp [intOf]; omega
    · obtain rfl : k = n := by omega
      have hfin : LlOut B w g vs wt ms vl0 (nums ++ l.map Hd.num) (.returned (.tuple #[])) wr := by
        have e : (l.take k).map Hd.num = l.map Hd.num := by rw [List.take_of_length_le (by have := HLL.out; omega)]
        have h := HREL.out
        rw [e] at h
        exact ⟨rfl, Lib.hid ⟨lv, h⟩⟩
      have HFIN := Lib.hid hfin; clear hfin
      go_wp2_with fail
      exact bodyPost_end (results_none rfl _ _ _) rfl HFIN.out
end Go.Proofs.YtgdijbaodfghjaaGreatDoor

/-
  A run over a wire: the next time at which something may be taken out.
-/
namespace Go.Proofs.YtgdijbaodfghjaaGreatDoor
open Go.RowKit Bkt
set_option linter.unusedVariables false

def AfterOut {M : Pl.QM} (inv : M.σ → Nat → (Nat → Prop) → World → Prop) (w : World) (F : Nat → Prop) (k : Nat) (s : M.σ) (now free : Int) (e : Ending) (w' : World) : Prop :=
  ∃ (t : Int) (F' : Nat → Prop), e = .returned (.tuple #[.int .i64 t, .bool (Pl.aT M s now free).isSome]) ∧ Hid (inv (Pl.aQ M s now free) k F' w' ∧ Chg w w' F ∧ (∀ i, F' i → F i ∨ w.heap.size ≤ i) ∧ (∀ x, Pl.aT M s now free = some x → t = x) ∧ (∀ x, Pl.aT M s now free = some x → now < x))
set_option maxHeartbeats 2000000 in
set_option maxRecDepth 100000 in
theorem after_any {M : Pl.QM} {inv : M.σ → Nat → (Nat → Prop) → World → Prop} {q : Value} {base : Nat} (I : QImp M q base inv) (s : M.σ) (k : Nat) (F : Nat → Prop) (w : World) (now free : Int) (hi : inv s k F w) (h0 : 0 ≤ now) (h1 : now ≤ 10000000) :
    Calls Tryz.prog 30 #[q, .int .i64 now, .int .i64 free] w (AfterOut inv w F k s now free) := by
  obtain ⟨fl, rl, hml, hcl⟩ := I.len
  obtain ⟨fw, rw_, hmw, hcw⟩ := I.when_
  have hl := hcl s k F w hi
  have hch := fun w' (hb : Below w.heap.size w w') => I.chg s k F w w' (fun _ => False) hi (Chg.of_below hb) (fun _ _ e => e)
  have hw := fun w' (hb : Below w.heap.size w w') => hcw s k F w' (now + 1) (hch w' hb) (by omega) (by omega)
  have e1 : IntKind.i64.wrap (now + 1) = now + 1 := IntWalk.i64_in _ (by omega)
  have HCH := Lib.hid hch; have HW := Lib.hid hw; have HML := Lib.hid hml; have HMW := Lib.hid hmw
  clear hch hw hml hmw hcl hcw hi I
  by_cases hz : M.len s = 0
  · have ea : Pl.aT M s now free = none := by unfold Pl.aT; rw [if_pos hz]
    have eq : Pl.aQ M s now free = s := by unfold Pl.aQ; rw [if_pos hz]
    have EA := Lib.hid ea; have EQ := Lib.hid eq
    clear ea eq
    rw [hz] at hl
    have HL := Lib.hid hl
    clear hl hz
    go_enter Tryz.func30, Tryz.ntmps30
    go_wp2_with (refine wpList_invoke0 rfl (.tmp 10) #[] rfl HML.out rfl HL.out (fun e w' ⟨h, _⟩ => ⟨_, h⟩) ?_; rintro v3 w3 ⟨e3, hb3⟩; injection e3 with e3; subst e3; have HB3 := Lib.hid hb3; clear hb3)
    go_ret2
    unfold AfterOut
    rw [EA.out, EQ.out]
    exact ⟨0, F, rfl, Lib.hid ⟨HCH.out _ HB3.out, Chg.of_below HB3.out, fun i h => .inl h, fun _ e => (by cases e), fun _ e => (by cases e)⟩⟩
  · by_cases hf : now < free
    · have ea : Pl.aT M s now free = some free := by unfold Pl.aT; rw [if_neg hz, if_pos hf]
      have eq : Pl.aQ M s now free = s := by unfold Pl.aQ; rw [if_neg hz, if_pos hf]
      have EA := Lib.hid ea; have EQ := Lib.hid eq
      clear ea eq
      generalize M.len s = ln at *
      have tz : (ln == 0) = false := by simpa using hz
      have HL := Lib.hid hl
      clear hl hz
      have df : decide (now < free) = true := decide_eq_true hf
      go_enter Tryz.func30, Tryz.ntmps30
      go_wp2_with (refine wpList_invoke0 rfl (.tmp 10) #[] rfl HML.out rfl HL.out (fun e w' ⟨h, _⟩ => ⟨_, h⟩) ?_; rintro v3 w3 ⟨e3, hb3⟩; injection e3 with e3; subst e3; have HB3 := Lib.hid hb3; clear hb3)
      go_ret2
      unfold AfterOut
      rw [EA.out, EQ.out]
      exact ⟨free, F, rfl, Lib.hid ⟨HCH.out _ HB3.out, Chg.of_below HB3.out, fun i h => .inl h, fun _ e => Option.some.inj e, fun _ e => Option.some.inj e ▸ hf⟩⟩
    · have ea : Pl.aT M s now free = (M.when_ (now + 1) s).1.map fun t => max t (now + 1) := by unfold Pl.aT; rw [if_neg hz, if_neg hf]
      have eq : Pl.aQ M s now free = (M.when_ (now + 1) s).2 := by unfold Pl.aQ; rw [if_neg hz, if_neg hf]
      have EA := Lib.hid ea; have EQ := Lib.hid eq
      clear ea eq
      generalize M.len s = ln at *
      have tz : (ln == 0) = false := by simpa using hz
      have HL := Lib.hid hl
      clear hl hz
      have df : decide (now < free) = false := decide_eq_false hf
      go_enter Tryz.func30, Tryz.ntmps30
      go_upto_region 5 with (refine wpList_invoke0 rfl (.tmp 10) #[] rfl HML.out rfl HL.out (fun e w' ⟨h, _⟩ => ⟨_, h⟩) ?_; rintro v3 w3 ⟨e3, hb3⟩; injection e3 with e3; subst e3; have HB3 := Lib.hid hb3; clear hb3)
      have hwh := HW.out _ HB3.out
      have HWH := Lib.hid hwh
      clear hwh
      go_upto_region 6 with (refine wpList_invoke1 (vx := .int .i64 (now + 1)) rfl (.tmp 18) (.tmp 20) #[3] rfl HMW.out rfl rfl HWH.out WhenOut.ret ?_; rintro v4 w4 hv4; obtain ⟨a, F', rfl, h4⟩ := hv4.val; have H4 := Lib.hid h4; clear hv4 h4)
      obtain ⟨g1, g2, g3, g4⟩ := H4.out
      have hout : ∀ t, t = max a (now + 1) → AfterOut inv w F k s now free (.returned (.tuple #[.int .i64 t, .bool (M.when_ (now + 1) s).1.isSome])) w4 := fun t ht => by
        unfold AfterOut
        rw [EA.out, EQ.out]
        refine ⟨t, F', by rw [Option.isSome_map], Lib.hid ⟨g2, (Chg.of_below HB3.out).trans g3 (fun _ _ h => h), fun i hi => ?_, fun x e => ?_, fun x e => ?_⟩⟩
        · rcases g4 i hi with e | e
          · exact .inl e
          · exact .inr (Nat.le_trans HB3.out.size e)
        · cases hq : (M.when_ (now + 1) s).1 with
          | none => rw [hq] at e; cases e
          | some y => rw [hq] at e; obtain rfl := Option.some.inj e; rw [ht, g1 y hq]
        · cases hq : (M.when_ (now + 1) s).1 with
          | none => rw [hq] at e; cases e
          | some y => rw [hq] at e; obtain rfl := Option.some.inj e; dsimp only; omega
      have HOUT := Lib.hid hout
      clear hout g1 g2 g3 g4
      generalize (M.when_ (now + 1) s).1.isSome = ok at *
      by_cases hm : a < now + 1
      · have tm : (a < now + 1) = True := eq_true hm
        go_wp2_with fail
        go_ret2
        exact HOUT.out (now + 1) (by omega)
      · have tm : (a < now + 1) = False := eq_false hm
        go_wp2_with fail
        go_ret2
        exact HOUT.out a (by omega)
end Go.Proofs.YtgdijbaodfghjaaGreatDoor

/-
  A run over a wire, as it lies in memory: the log, the queue, the rate.
-/
namespace Go.Proofs.YtgdijbaodfghjaaGreatDoor
open Go.RowKit Bkt
set_option linter.unusedVariables false

def sntCells (s : Pl.Snt) : List Value := [.int .i64 s.num, .int .i64 s.from_, .int .i64 s.to_, .int .i64 s.mark]
def SntR : Rec Pl.Snt := ⟨4, sntCells, fun _ => rfl, by decide, ⟨0, 0, 0, 0⟩⟩
theorem snt_one (s : Pl.Snt) : ∀ u ∈ sntCells s, u.oneCell' = true := by
  intro u hu
  simp [sntCells] at hu
  rcases hu with rfl | rfl | rfl | rfl <;> rfl
theorem Tryz.sntInfo : (Tryz.prog.info? 37).map (fun i => (i.zero, i.size, i.bytes)) = some (some (.agg #[.int .i64 0, .int .i64 0, .int .i64 0, .int .i64 0]), 4, 32) := by kernel_rfl
def logZ : Array Value := #[.slice none 0 0, .slice none 0 0, .int .i64 0, .int .i64 0]
structure LnM {M : Pl.QM} (inv : M.σ → Nat → (Nat → Prop) → World → Prop) (w0 wr : World) (F0 : Nat → Prop) (gr gz g : Nat) (rb rt : Int) (S : Pl.Lk M.σ) (F : Nat → Prop) (vs vl : Value) : Prop where
  blk : Blk wr g 28 #[vs, vl, .int .i64 0, .int .i64 S.most]
  os : OwnW wr w0.heap.size 37 4 vs S.sent.length (S.sent.flatMap SntR.cells)
  ol : OwnW wr w0.heap.size 3 1 vl S.lost.length (S.lost.flatMap IntR.cells)
  inv : inv S.q S.next F wr
  hF : ∀ i, F i → F0 i ∨ w0.heap.size ≤ i
  hg : ∀ i, F i → (i ≠ g ∧ i ≠ gr ∧ i ≠ gz) ∧ vs.ownBlock ≠ some i ∧ vl.ownBlock ≠ some i
  hlt : ∀ i, F i → i < wr.heap.size
  chg : Chg w0 wr F0
  rate : Blk wr gr 23 #[.int .i64 rb, .int .i64 rt]
  res : Blk wr gz 28 logZ
  n0 : w0.heap.size ≤ g ∧ w0.heap.size ≤ gr ∧ w0.heap.size ≤ gz
  gz : g ≠ gz
theorem ownW_lt {w : World} {base e size n : Nat} {v : Value} {xs : List Value} (h : OwnW w base e size v n xs) {i : Nat} (hi : v.ownBlock = some i) : base ≤ i ∧ i < w.heap.size := h.lt i hi
section
variable {M : Pl.QM} {inv : M.σ → Nat → (Nat → Prop) → World → Prop} {q : Value} {base : Nat} {w0 wr w' : World} {F0 F F' : Nat → Prop} {gr gz g : Nat} {rb rt : Int} {S : Pl.Lk M.σ} {vs vl : Value}
theorem LnM.over (I : QImp M q base inv) (h : LnM inv w0 wr F0 gr gz g rb rt S F vs vl) (hw : Below wr.heap.size wr w') : LnM inv w0 w' F0 gr gz g rb rt S F vs vl :=
  ⟨h.blk.below hw h.blk.lt, h.os.below hw, h.ol.below hw, I.chg _ _ _ _ _ (fun _ => False) h.inv (Chg.of_below hw) (fun _ _ e => e), h.hF, h.hg, fun i hi => Nat.lt_of_lt_of_le (h.hlt i hi) hw.size, h.chg.trans (Chg.of_below hw) (fun _ _ h => h), h.rate.below hw h.rate.lt, h.res.below hw h.res.lt, h.n0, h.gz⟩
theorem LnM.queue (I : QImp M q base inv) (h : LnM inv w0 wr F0 gr gz g rb rt S F vs vl) {s' : M.σ} {k' : Nat} (hi : inv s' k' F' w') (hc : Chg wr w' F) (hf : ∀ i, F' i → F i ∨ wr.heap.size ≤ i) : LnM inv w0 w' F0 gr gz g rb rt { S with q := s', next := k' } F' vs vl := by
  have hng : ¬ F g := fun e => (h.hg g e).1.1 rfl
  have hnr : ¬ F gr := fun e => (h.hg gr e).1.2.1 rfl
  have hnz : ¬ F gz := fun e => (h.hg gz e).1.2.2 rfl
  refine ⟨h.blk.chg hc hng, h.os.chg hc (fun i hi e => (h.hg i e).2.1 hi), h.ol.chg hc (fun i hi e => (h.hg i e).2.2 hi), hi, fun i hi => ?_, fun i hi => ?_, fun i hi2 => (I.lt _ _ _ _ hi i hi2).2, h.chg.trans hc (fun i hi e => ?_), h.rate.chg hc hnr, h.res.chg hc hnz, h.n0, h.gz⟩
  · rcases hf i hi with e | e
    · exact h.hF i e
    · exact .inr (Nat.le_trans h.chg.size e)
  · rcases hf i hi with e | e
    · exact h.hg i e
    · have h1 := h.blk.lt; have h2 := h.rate.lt; have h3 := h.res.lt
      exact ⟨⟨by omega, by omega, by omega⟩, fun e2 => by have := (ownW_lt h.os e2).2; omega, fun e2 => by have := (ownW_lt h.ol e2).2; omega⟩
  · rcases h.hF i e with e | e
    · exact e
    · omega
theorem LnM.at_now (h : LnM inv w0 wr F0 gr gz g rb rt S F vs vl) (x y : Int) : LnM inv w0 wr F0 gr gz g rb rt { S with now := x, free := y } F vs vl :=
  ⟨h.blk, h.os, h.ol, h.inv, h.hF, h.hg, h.hlt, h.chg, h.rate, h.res, h.n0, h.gz⟩
theorem LnM.lose (I : QImp M q base inv) (h : LnM inv w0 wr F0 gr gz g rb rt S F vs vl) {nums : List Int} {lv : Value} (hl : LlRel w0.heap.size wr w' g vs (.int .i64 0) (.int .i64 S.most) vl nums 0 lv) : LnM inv w0 w' F0 gr gz g rb rt { S with lost := nums } F vs lv := by
  have hvg : ∀ i, vl.ownBlock = some i → i ≠ gr ∧ i ≠ gz := fun i hi => ⟨fun e => h.ol.blk_ne h.rate (by decide) (e ▸ hi), fun e => h.ol.blk_ne h.res (by decide) (e ▸ hi)⟩
  have hrg : gr ≠ g := Blk.ne_ h.rate h.blk (by decide)
  have hvsg : vs.ownBlock ≠ some g := h.os.blk_ne h.blk (by decide)
  have hvv : ∀ i, vs.ownBlock = some i → vl.ownBlock ≠ some i := fun i hi e => by
    rcases h.os.2 with ⟨rfl, _⟩ | ⟨g1, o1, c1, cur, rfl, hb, hgg, _⟩
    · simp [Value.ownBlock] at hi
    · have e1 : g1 = i := by simpa [Value.ownBlock] using hi
      subst e1
      exact h.ol.blk_ne hgg (by decide) e
  refine ⟨hl.blk, h.os.chg hl.chg (fun i hi e => ?_), hl.own, I.chg _ _ _ _ _ _ h.inv hl.chg (fun i hi e => ?_), h.hF, fun i hi => ⟨(h.hg i hi).1, (h.hg i hi).2.1, fun e => ?_⟩, fun i hi => Nat.lt_of_lt_of_le (h.hlt i hi) hl.chg.size, h.chg.trans hl.chg (fun i hi e => ?_), h.rate.chg hl.chg (fun e => ?_), h.res.chg hl.chg (fun e => ?_), h.n0, h.gz⟩
  · rcases e with e | e
    · subst e; exact hvsg hi
    · exact hvv i hi e
  · rcases e with e | e
    · exact (h.hg i hi).1.1 e
    · exact (h.hg i hi).2.2 e
  · rcases hl.at_ with e2 | e2
    · exact (h.hg i hi).2.2 (e2 ▸ e)
    · have := e2 i e; have := h.hlt i hi; omega
  · rcases e with e | e
    · have := h.n0.1; omega
    · have := (ownW_lt h.ol e).1; omega
  · rcases e with e | e
    · exact hrg e
    · exact (hvg _ e).1 rfl
  · rcases e with e | e
    · exact h.gz e.symm
    · exact (hvg _ e).2 rfl
theorem LnM.most (I : QImp M q base inv) (h : LnM inv w0 wr F0 gr gz g rb rt S F vs vl) (m : Int) : LnM inv w0 (wr.setCell ⟨g, 3, none⟩ (.int .i64 m)) F0 gr gz g rb rt { S with most := m } F vs vl := by
  have hc : Chg wr (wr.setCell ⟨g, 3, none⟩ (.int .i64 m)) (fun i => i = g) := Chg.setCell (p := ⟨g, 3, none⟩) (Chg.refl _ (fun i => i = g)) (fun _ => rfl) _
  have hrg : gr ≠ g := Blk.ne_ h.rate h.blk (by decide)
  exact ⟨h.blk.set_ 3 _, h.os.chg hc (fun i hi e => h.os.blk_ne h.blk (by decide) (e ▸ hi)), h.ol.chg hc (fun i hi e => h.ol.blk_ne h.blk (by decide) (e ▸ hi)), I.chg _ _ _ _ _ _ h.inv hc (fun i hi e => (h.hg i hi).1.1 e), h.hF, h.hg, fun i hi => Nat.lt_of_lt_of_le (h.hlt i hi) hc.size, h.chg.trans hc (fun i hi e => by have := h.n0.1; omega), h.rate.chg hc hrg, h.res.chg hc (fun e => h.gz e.symm), h.n0, h.gz⟩
theorem LnM.went (I : QImp M q base inv) (h : LnM inv w0 wr F0 gr gz g rb rt S F vs vl) {y : Pl.Snt} {vs' : Value} (ho : OwnW w' w0.heap.size 37 4 vs' (S.sent.length + 1) ((S.sent ++ [y]).flatMap SntR.cells)) (hg : wr.grownBy w' vs.ownBlock) (ha : vs'.ownBlock = vs.ownBlock ∨ ∀ i, vs'.ownBlock = some i → wr.heap.size ≤ i) (free : Int) :
    LnM inv w0 (w'.setCell ⟨g, 0, none⟩ vs') F0 gr gz g rb rt { S with free := free, sent := S.sent ++ [y] } F vs' vl := by
  have hc1 : Chg wr w' (fun i => vs.ownBlock = some i) := Chg.of_grown hg (fun i e => e.symm)
  have hc2 : Chg w' (w'.setCell ⟨g, 0, none⟩ vs') (fun i => i = g) := Chg.setCell (p := ⟨g, 0, none⟩) (Chg.refl _ (fun i => i = g)) (fun _ => rfl) _
  have hrg : gr ≠ g := Blk.ne_ h.rate h.blk (by decide)
  have hvg : vs.ownBlock ≠ some g := h.os.blk_ne h.blk (by decide)
  have hb1 := h.blk.chg hc1 hvg
  have hv2 : vs'.ownBlock ≠ some g := ho.blk_ne hb1 (by decide)
  have hvv : ∀ i, vl.ownBlock = some i → vs.ownBlock ≠ some i := fun i hi e => by
    rcases h.ol.2 with ⟨rfl, _⟩ | ⟨g1, o1, c1, cur, rfl, hb, hgg, _⟩
    · simp [Value.ownBlock] at hi
    · have e1 : g1 = i := by simpa [Value.ownBlock] using hi
      subst e1
      exact h.os.blk_ne hgg (by decide) e
  refine ⟨hb1.set_ 0 _, ?_, (h.ol.chg hc1 (fun i hi e => hvv i hi e)).chg hc2 (fun i hi e => h.ol.blk_ne h.blk (by decide) (e ▸ hi)), I.chg _ _ _ _ _ _ (I.chg _ _ _ _ _ _ h.inv hc1 (fun i hi e => (h.hg i hi).2.1 e)) hc2 (fun i hi e => (h.hg i hi).1.1 e), h.hF, fun i hi => ⟨(h.hg i hi).1, fun e => ?_, (h.hg i hi).2.2⟩, fun i hi => Nat.lt_of_lt_of_le (h.hlt i hi) (Nat.le_trans hc1.size hc2.size), (h.chg.trans hc1 (fun i hi e => ?_)).trans hc2 (fun i hi e => ?_), (h.rate.chg hc1 (fun e => h.os.blk_ne h.rate (by decide) e)).chg hc2 hrg, (h.res.chg hc1 (fun e => h.os.blk_ne h.res (by decide) e)).chg hc2 (fun e => h.gz e.symm), h.n0, h.gz⟩
  · rw [List.length_append, List.length_singleton]
    exact ho.chg hc2 (fun i hi e => hv2 (e ▸ hi))
  · rcases ha with e2 | e2
    · exact (h.hg i hi).2.1 (e2 ▸ e)
    · have := e2 i e; have := h.hlt i hi; omega
  · have := (ownW_lt h.os e).1; omega
  · have := h.n0.1; omega
end
end Go.Proofs.YtgdijbaodfghjaaGreatDoor

/-
  Plain law of the wire with whatever queue: nothing is lost but what is told. No program in sight.
-/
namespace Go.Proofs.YtgdijbaodfghjaaGreatDoor
open Bkt
set_option linter.unusedVariables false
namespace Pl
def prevTo (s : List Snt) : Nat → Int
  | 0 => 0
  | j + 1 => match s[j]? with
    | some x => x.to_
    | none => 0
theorem prevTo_app (s : List Snt) (x : Snt) {j : Nat} (h : j ≤ s.length) : prevTo (s ++ [x]) j = prevTo s j := by
  cases j with
  | zero => rfl
  | succ j => simp only [prevTo]; rw [List.getElem?_append_left (show j < s.length by omega)]
theorem prevTo_last (s : List Snt) (x : Snt) : prevTo (s ++ [x]) (s ++ [x]).length = x.to_ := by
  rw [List.length_append, List.length_singleton]
  unfold prevTo
  simp
def SntOk (l : List It) (rb rt until_ : Int) (s : List Snt) : Prop := ∀ j x, s[j]? = some x → prevTo s j ≤ x.from_ ∧ (ix l x.num.toNat).at_ ≤ x.from_ ∧ x.from_ ≤ until_ ∧ x.to_ = x.from_ + takes rb rt (ix l x.num.toNat).len
def nums (n : Nat) : List Int := (List.range n).map fun i : Nat => (i : Int)
theorem nums_succ (n : Nat) : nums (n + 1) = nums n ++ [(n : Int)] := by simp [nums, List.range_succ]
theorem nums_nodup (n : Nat) : (nums n).Nodup := by
  unfold nums
  exact List.Pairwise.map _ (fun a b h => by intro e; apply h; omega) List.nodup_range
theorem mem_nums {n : Nat} {k : Int} : k ∈ nums n ↔ 0 ≤ k ∧ k < n := by
  unfold nums
  rw [List.mem_map]
  constructor
  · rintro ⟨i, hi, rfl⟩
    have := List.mem_range.1 hi
    omega
  · intro h
    exact ⟨k.toNat, List.mem_range.2 (by omega), by omega⟩
section
variable (M : QM) (I : M.σ → Prop) (l : List It) (rb rt until_ : Int)
structure KpB (S : Lk M.σ) : Prop where
  nl : S.next ≤ l.length
  i : I S.q
  pm : (nums S.next).Perm (S.sent.map Snt.num ++ (S.lost ++ (M.wait S.q).map Prod.fst))
  ws : ∀ p ∈ M.wait S.q, 0 ≤ p.1 ∧ p.2 = (ix l p.1.toNat).len
  ar : ∀ i, i < S.next → (ix l i).at_ ≤ S.now
  so : SntOk l rb rt until_ S.sent
  fr : prevTo S.sent S.sent.length ≤ S.free
  nw : 0 ≤ S.now ∧ S.now ≤ until_
structure KpQ (S : Lk M.σ) : Prop where
  b : KpB M I l rb rt until_ S
  up : S.next < l.length → S.now < (ix l S.next).at_
structure KpR (S : Lk M.σ) : Prop where
  b : KpB M I l rb rt until_ S
  st : S.next < l.length → until_ < (ix l S.next).at_
end
theorem key_fst (x : List Hd) : (x.map key).map Prod.fst = x.map Hd.num := by
  rw [List.map_map]; rfl
theorem kp_aft {M : QM} {I : M.σ → Prop} {late : Bool} (G : M.Good late I) {l : List It} {rb rt until_ : Int} {S : Lk M.σ} (h : KpB M I l rb rt until_ S) : KpB M I l rb rt until_ (aftS M S) := by
  obtain ⟨g1, g2⟩ := G.when_ S.q (S.now + 1) h.i
  have hp : I (aQ M S.q S.now S.free) ∧ (M.wait S.q).Perm (M.wait (aQ M S.q S.now S.free)) := by
    unfold aQ
    split
    · exact ⟨h.i, List.Perm.refl _⟩
    · split
      · exact ⟨h.i, List.Perm.refl _⟩
      · exact ⟨g1, g2⟩
  exact ⟨h.nl, hp.1, h.pm.trans (List.Perm.append_left _ (List.Perm.append_left _ (hp.2.map _))), fun p hm => h.ws p (hp.2.symm.subset hm), h.ar, h.so, h.fr, h.nw⟩
theorem kp_inv {M : QM} {I : M.σ → Prop} {late : Bool} (G : M.Good late I) {l : List It} (hf : ListFine l) {rb rt : Int} (hs : SpeedOk rb rt) (until_ : Int) : LnkInv M l rb rt until_ (KpB M I l rb rt until_) (KpQ M I l rb rt until_) (KpR M I l rb rt until_) where
  put := fun S h hlt hat => by
    have hfl := hf.2.1 S.next hlt
    obtain ⟨g1, g2⟩ := G.put S.q S.now ⟨ix l S.next, S.next⟩ h.i (okB_fine.2 hfl)
    refine ⟨by show S.next + 1 ≤ l.length; omega, g1, ?_, fun p hp => ?_, fun i hi => ?_, h.so, h.fr, h.nw⟩
    · show (nums (S.next + 1)).Perm (S.sent.map Snt.num ++ ((S.lost ++ (M.put S.now ⟨ix l S.next, S.next⟩ S.q).1.map Hd.num) ++ (M.wait (M.put S.now ⟨ix l S.next, S.next⟩ S.q).2).map Prod.fst))
      have g3 := g2.map Prod.fst
      rw [List.map_append, List.map_append, key_fst] at g3
      have e : [key (⟨ix l S.next, S.next⟩ : Hd)].map Prod.fst = [(S.next : Int)] := rfl
      rw [e] at g3
      rw [nums_succ]
      refine (h.pm.append_right _).trans ?_
      rw [List.append_assoc, List.append_assoc]
      refine List.Perm.append_left _ ?_
      rw [List.append_assoc]
      exact List.Perm.append_left _ g3
    · have hp' : p ∈ M.wait S.q ++ [key ⟨ix l S.next, S.next⟩] := g2.symm.subset (List.mem_append_right _ hp)
      rcases List.mem_append.1 hp' with h1 | h1
      · exact h.ws p h1
      · rw [List.mem_singleton] at h1; subst h1
        refine ⟨by show (0 : Int) ≤ (S.next : Int); omega, ?_⟩
        show (ix l S.next).len = (ix l ((S.next : Int)).toNat).len
        simp
    · show (ix l i).at_ ≤ S.now
      have hi' : i < S.next + 1 := hi
      by_cases e : i = S.next
      · subst e; exact hat
      · exact h.ar i (by omega)
  most := fun S h => ⟨h.nl, h.i, h.pm, h.ws, h.ar, h.so, h.fr, h.nw⟩
  take := fun S h hx hfr => by
    obtain ⟨g1, g2⟩ := G.take S.q S.now h.i
    have g3 := g2.map Prod.fst
    rw [List.map_append, List.map_append, key_fst] at g3
    unfold takeS
    cases hc : (M.take S.now S.q).1 with
    | none =>
      rw [hc] at g2 g3
      refine ⟨⟨h.nl, g1, ?_, fun p hp => h.ws p (g2.symm.subset (List.mem_append_right _ hp)), h.ar, h.so, h.fr, h.nw⟩, hx⟩
      show (nums S.next).Perm (S.sent.map Snt.num ++ ((S.lost ++ (M.take S.now S.q).2.1.map Hd.num) ++ (M.wait (M.take S.now S.q).2.2).map Prod.fst))
      refine h.pm.trans (List.Perm.append_left _ ?_)
      rw [List.append_assoc]
      exact List.Perm.append_left _ g3
    | some x =>
      rw [hc] at g2 g3
      have hxm : key x ∈ M.wait S.q := g2.symm.subset (List.mem_append_right _ (by simp))
      obtain ⟨hx0, hxl⟩ := h.ws _ hxm
      have hxl' : x.it.len = (ix l x.num.toNat).len := hxl
      have hxn : x.num ∈ nums S.next := h.pm.symm.subset (List.mem_append_right _ (List.mem_append_right _ (List.mem_map.2 ⟨_, hxm, rfl⟩)))
      have hxr := mem_nums.1 hxn
      have hxa := h.ar x.num.toNat (by omega)
      refine ⟨⟨h.nl, g1, ?_, fun p hp => h.ws p (g2.symm.subset (List.mem_append_right _ (List.mem_append_right _ hp))), h.ar, fun j y hy => ?_, ?_, h.nw⟩, hx⟩
      · show (nums S.next).Perm ((S.sent ++ [(⟨x.num, S.now, S.now + takes rb rt x.it.len, x.it.mark⟩ : Snt)]).map Snt.num ++ ((S.lost ++ (M.take S.now S.q).2.1.map Hd.num) ++ (M.wait (M.take S.now S.q).2.2).map Prod.fst))
        have g4 : ((M.wait S.q).map Prod.fst).Perm ((M.take S.now S.q).2.1.map Hd.num ++ ([x.num] ++ (M.wait (M.take S.now S.q).2.2).map Prod.fst)) := g3
        refine h.pm.trans ?_
        rw [List.map_append, List.append_assoc]
        refine List.Perm.append_left _ ?_
        refine (List.Perm.append_left _ g4).trans ?_
        rw [← List.append_assoc]
        exact List.perm_append_comm_assoc _ _ _
      · have hy' : (S.sent ++ [(⟨x.num, S.now, S.now + takes rb rt x.it.len, x.it.mark⟩ : Snt)])[j]? = some y := hy
        rcases Nat.lt_or_ge j S.sent.length with hj | hj
        · rw [List.getElem?_append_left hj] at hy'
          have := h.so j y hy'
          show prevTo (S.sent ++ [(⟨x.num, S.now, S.now + takes rb rt x.it.len, x.it.mark⟩ : Snt)]) j ≤ _ ∧ _
          rw [prevTo_app _ _ (by omega)]
          exact this
        · obtain rfl : j = S.sent.length := by
            have := (List.getElem?_eq_some_iff.1 hy').1
            rw [List.length_append, List.length_singleton] at this
            omega
          rw [List.getElem?_append_right (Nat.le_refl _), Nat.sub_self] at hy'
          injection hy' with hy'
          subst hy'
          show prevTo (S.sent ++ [(⟨x.num, S.now, S.now + takes rb rt x.it.len, x.it.mark⟩ : Snt)]) S.sent.length ≤ S.now ∧ (ix l x.num.toNat).at_ ≤ S.now ∧ S.now ≤ until_ ∧ S.now + takes rb rt x.it.len = S.now + takes rb rt (ix l x.num.toNat).len
          rw [prevTo_app _ _ (Nat.le_refl _), hxl']
          have := h.fr
          exact ⟨by omega, hxa, h.nw.2, rfl⟩
      · show prevTo (S.sent ++ [(⟨x.num, S.now, S.now + takes rb rt x.it.len, x.it.mark⟩ : Snt)]) (S.sent ++ [(⟨x.num, S.now, S.now + takes rb rt x.it.len, x.it.mark⟩ : Snt)]).length ≤ S.now + takes rb rt x.it.len
        rw [prevTo_last]
        exact Int.le_refl _
  busy := fun S h hx _ => ⟨h, hx⟩
  jump := fun S t h _ ht hu => by
    have h1 := kp_aft G h.b
    refine ⟨h1.nl, h1.i, h1.pm, h1.ws, fun i hi => ?_, h1.so, h1.fr, ?_⟩
    · show (ix l i).at_ ≤ t
      have : (ix l i).at_ ≤ S.now := h1.ar i hi
      omega
    · show 0 ≤ t ∧ t ≤ until_
      have := h.b.nw
      omega
  stop := fun S h hst => by
    refine ⟨kp_aft G h.b, fun hlt => ?_⟩
    have hlt' : S.next < l.length := hlt
    show until_ < (ix l S.next).at_
    unfold nextT at hst
    cases ha : aftT M S with
    | none => rw [ha] at hst; exact hst _ (if_pos hlt')
    | some t =>
      rw [ha] at hst
      dsimp only at hst
      by_cases hc : S.next < l.length ∧ (ix l S.next).at_ < t
      · rw [if_pos hc] at hst; exact hst _ rfl
      · rw [if_neg hc] at hst
        have := hst _ rfl
        rcases Int.lt_or_le (ix l S.next).at_ t with h1 | h1
        · exact absurd ⟨hlt', h1⟩ hc
        · omega
theorem kp_start {M : QM} {I : M.σ → Prop} {q0 : M.σ} (hI : I q0) (h0 : M.wait q0 = []) (l : List It) (rb rt until_ : Int) (hu : 0 ≤ until_) : KpB M I l rb rt until_ (Lk.start q0) :=
  ⟨Nat.zero_le _, hI, by show (nums 0).Perm ([] ++ ([] ++ (M.wait q0).map Prod.fst)); rw [h0]; exact List.Perm.refl _, fun p hp => (by have hp' : p ∈ M.wait q0 := hp; rw [h0] at hp'; cases hp'), fun i hi => absurd hi (by simp [Lk.start]), fun j x hx => by simp [Lk.start] at hx, Int.le_refl _, ⟨Int.le_refl _, hu⟩⟩
theorem KpB.lens {M : QM} {I : M.σ → Prop} {l : List It} {rb rt until_ : Int} {S : Lk M.σ} (h : KpB M I l rb rt until_ S) : S.sent.length + S.lost.length + (M.wait S.q).length = S.next := by
  have := h.pm.length_eq
  simp [nums] at this
  omega
def marks (n : Nat) (ks : List Int) : List Bool := (List.range n).map fun i : Nat => decide ((i : Int) ∈ ks)
def restL (l : List It) (ks : List Int) (until_ : Int) : Nat → Int
  | 0 => 0
  | i + 1 => restL l ks until_ i + if (i : Int) ∉ ks ∧ (ix l i).at_ ≤ until_ then 1 else 0
theorem restL_count (l : List It) (ks : List Int) (until_ : Int) : ∀ n, restL l ks until_ n = (((List.range n).filter fun i : Nat => decide ((i : Int) ∉ ks ∧ (ix l i).at_ ≤ until_)).length : Nat)
  | 0 => rfl
  | n + 1 => by
    rw [restL, restL_count l ks until_ n, List.range_succ, List.filter_append, List.length_append]
    by_cases h : (n : Int) ∉ ks ∧ (ix l n).at_ ≤ until_
    · rw [if_pos h, List.filter_cons_of_pos (by simpa using h)]; simp
    · rw [if_neg h, List.filter_cons_of_neg (by simpa using h)]; simp
theorem at_mono {l : List It} (hf : ListFine l) {i j : Nat} (h : i ≤ j) (hj : j < l.length) : (ix l i).at_ ≤ (ix l j).at_ := by
  induction j with
  | zero => obtain rfl : i = 0 := by omega
            exact Int.le_refl _
  | succ j ih =>
    by_cases e : i = j + 1
    · subst e; exact Int.le_refl _
    · have := ih (by omega) (by omega)
      have h2 := hf.2.2 j hj
      omega
structure KpLaw (l : List It) (rb rt until_ : Int) (sent : List Snt) (lost : List Int) (wait : Int) (late : Bool) : Prop where
  so : SntOk l rb rt until_ sent
  nd : (sent.map Snt.num ++ lost).Nodup
  rg : ∀ k ∈ sent.map Snt.num ++ lost, 0 ≤ k ∧ k < l.length ∧ (ix l k.toNat).at_ ≤ until_
  rest : wait ≤ restL l (sent.map Snt.num ++ lost) until_ l.length ∧ (late = false → wait = restL l (sent.map Snt.num ++ lost) until_ l.length)
theorem kp_law {M : QM} {I : M.σ → Prop} {late : Bool} (G : M.Good late I) {l : List It} (hf : ListFine l) {rb rt until_ : Int} {S : Lk M.σ} (h : KpR M I l rb rt until_ S) : KpLaw l rb rt until_ S.sent S.lost (M.len S.q) late := by
  have hb := h.b
  have hpm : (nums S.next).Perm ((S.sent.map Snt.num ++ S.lost) ++ (M.wait S.q).map Prod.fst) := by
    rw [List.append_assoc]; exact hb.pm
  have hnd := (hpm.nodup_iff).1 (nums_nodup S.next)
  rw [List.nodup_append] at hnd
  obtain ⟨hnd1, hnd2, hnd3⟩ := hnd
  have hrest : restL l (S.sent.map Snt.num ++ S.lost) until_ l.length = ((M.wait S.q).length : Nat) := by
    rw [restL_count]
    congr 1
    have e1 : ((List.range l.length).filter fun i : Nat => decide ((i : Int) ∉ S.sent.map Snt.num ++ S.lost ∧ (ix l i).at_ ≤ until_)) = ((List.range S.next).filter fun i : Nat => decide ((i : Int) ∉ S.sent.map Snt.num ++ S.lost)) := by
      have hsp : List.range l.length = List.range S.next ++ (List.range (l.length - S.next)).map (S.next + ·) := by
        rw [← List.range_add]
        congr 1
        have := hb.nl
        omega
      rw [hsp, List.filter_append]
      have e2 : ((List.range (l.length - S.next)).map (S.next + ·)).filter (fun i : Nat => decide ((i : Int) ∉ S.sent.map Snt.num ++ S.lost ∧ (ix l i).at_ ≤ until_)) = [] := by
        rw [List.filter_eq_nil_iff]
        intro i hi
        obtain ⟨j, hj, rfl⟩ := List.mem_map.1 hi
        have hj' := List.mem_range.1 hj
        have h1 := h.st (by omega)
        have h2 := at_mono hf (i := S.next) (j := S.next + j) (by omega) (by omega)
        simp only [decide_eq_true_eq]
        omega
      rw [e2, List.append_nil]
      apply List.filter_congr
      intro i hi
      have hi' := List.mem_range.1 hi
      have h1 := hb.ar i hi'
      have h2 := hb.nw.2
      have h3 : (ix l i).at_ ≤ until_ := by omega
      simp [h3]
    rw [e1]
    have e3 : ((nums S.next).filter fun k => decide (k ∉ S.sent.map Snt.num ++ S.lost)).length = ((List.range S.next).filter fun i : Nat => decide ((i : Int) ∉ S.sent.map Snt.num ++ S.lost)).length := by
      unfold nums
      rw [List.filter_map, List.length_map]
      rfl
    rw [← e3, (hpm.filter _).length_eq, List.filter_append]
    have e4 : (S.sent.map Snt.num ++ S.lost).filter (fun k => decide (k ∉ S.sent.map Snt.num ++ S.lost)) = [] := by
      rw [List.filter_eq_nil_iff]
      intro k hk
      simp only [decide_eq_true_eq]
      exact fun h => h hk
    have e5 : ((M.wait S.q).map Prod.fst).filter (fun k => decide (k ∉ S.sent.map Snt.num ++ S.lost)) = (M.wait S.q).map Prod.fst := by
      rw [List.filter_eq_self]
      intro k hk
      simp only [decide_eq_true_eq]
      exact fun h2 => hnd3 k h2 k hk rfl
    rw [e4, e5]
    simp
  obtain ⟨g1, _, g3⟩ := G.len S.q hb.i
  refine ⟨hb.so, hnd1, fun k hk => ?_, by rw [hrest]; exact ⟨g1, fun hl => (g3 hl).1⟩⟩
  have hk' := mem_nums.1 (hpm.symm.subset (List.mem_append_left _ hk))
  have h1 := hb.nl
  have h2 := hb.ar k.toNat (by omega)
  have h3 := hb.nw.2
  exact ⟨hk'.1, by omega, by omega⟩
end Pl
end Go.Proofs.YtgdijbaodfghjaaGreatDoor

/-
  Plain law of the wire: two invariants of a run together. No program in sight.
-/
namespace Go.Proofs.YtgdijbaodfghjaaGreatDoor
open Bkt
set_option linter.unusedVariables false
namespace Pl
theorem LnkInv.and {M : QM} {l : List It} {rb rt until_ : Int} {P Q R P' Q' R' : Lk M.σ → Prop} (a : LnkInv M l rb rt until_ P Q R) (b : LnkInv M l rb rt until_ P' Q' R') :
    LnkInv M l rb rt until_ (fun S => P S ∧ P' S) (fun S => Q S ∧ Q' S) (fun S => R S ∧ R' S) where
  put := fun S h h1 h2 => ⟨a.put S h.1 h1 h2, b.put S h.2 h1 h2⟩
  most := fun S h => ⟨a.most S h.1, b.most S h.2⟩
  take := fun S h h1 h2 => ⟨a.take S h.1 h1 h2, b.take S h.2 h1 h2⟩
  busy := fun S h h1 h2 => ⟨a.busy S h.1 h1 h2, b.busy S h.2 h1 h2⟩
  jump := fun S t h h1 h2 h3 => ⟨a.jump S t h.1 h1 h2 h3, b.jump S t h.2 h1 h2 h3⟩
  stop := fun S h h1 => ⟨a.stop S h.1 h1, b.stop S h.2 h1⟩
theorem KpB.bd {M : QM} {I : M.σ → Prop} {late : Bool} (G : M.Good late I) {l : List It} (hf : ListFine l) {rb rt until_ : Int} {S : Lk M.σ} (h : KpB M I l rb rt until_ S) :
    (∀ x, (M.take S.now S.q).1 = some x → 0 ≤ x.it.len ∧ x.it.len ≤ 10000) ∧ S.lost.length ≤ 1000 ∧ S.sent.length ≤ 1000 := by
  have hl := h.lens
  have hn := h.nl
  have hf1 := hf.1
  refine ⟨fun x hx => ?_, by omega, by omega⟩
  obtain ⟨_, g2⟩ := G.take S.q S.now h.i
  rw [hx] at g2
  have hm : key x ∈ M.wait S.q := g2.symm.subset (List.mem_append_right _ (by simp))
  obtain ⟨h0, h1⟩ := h.ws _ hm
  have h2 : x.num ∈ nums S.next := h.pm.symm.subset (List.mem_append_right _ (List.mem_append_right _ (List.mem_map.2 ⟨_, hm, rfl⟩)))
  have h3 := mem_nums.1 h2
  have h4 := (hf.2.1 x.num.toNat (by omega)).f1
  have h5 : x.it.len = (ix l x.num.toNat).len := h1
  omega
theorem sentL_get (l : List It) (rb rt : Int) : ∀ {m i : Nat}, i < m → (sentL l rb rt m)[i]? = some ⟨i, fromI l rb rt i, freeI l rb rt (i + 1), (ix l i).mark⟩
  | m + 1, i, h => by
    unfold sentL
    by_cases e : i = m
    · subst e
      rw [List.getElem?_append_right (by rw [sentL_len]; exact Nat.le_refl _), sentL_len, Nat.sub_self]; rfl
    · rw [List.getElem?_append_left (by rw [sentL_len]; omega)]
      exact sentL_get l rb rt (by omega)
end Pl
end Go.Proofs.YtgdijbaodfghjaaGreatDoor
