/-
  ShaperConforms: the whole walk.
-/
import Derived.Test.YtdhojhgmaodifaaDoorShpImp
import Derived.Test.YtdhojhgmaodifaaDoorShpLaw2
import Derived.Test.YtdhojhgmaodifaaDoorFirst
import Derived.Test.YtdhojhgmaodifaaDoorBucketGcraWalk
namespace Go.Proofs.YtdhojhgmaodifaaDoor
open Go.RowKit Bkt
set_option linter.unusedVariables false

def ItR : Rec It := ⟨5, itCells, fun _ => rfl, by decide, It.zero⟩
theorem it_one (x : It) : ∀ u ∈ itCells x, u.oneCell' = true := by
  intro u hu
  simp [itCells] at hu
  rcases hu with rfl | rfl | rfl | rfl | rfl <;> rfl
theorem Tryd.itInfo : (Tryd.prog.info? 39).map (fun i => (i.zero, i.size, i.bytes)) = some (some (.agg #[.int .i64 0, .int .i64 0, .int .i64 0, .int .i64 0, .int .i64 0]), 5, 40) := by kernel_rfl
theorem rdSn_w {w : World} {B n : Nat} {A : Option Addr} {sn : Nat → Pl.Seen} (h : RdSn w B A n sn) : ∃ b off, ∀ k, k < n → A = some ⟨b, off, none⟩ ∧ b < B ∧ w.cell? ⟨b, off + k * 6, none⟩ = some (.int .i64 (sn k).taken) ∧ w.cell? ⟨b, off + k * 6 + 2, none⟩ = some (.int .i64 (sn k).when_) := by
  obtain ⟨vs, hr, his⟩ := h
  by_cases hn : 0 < n
  · obtain ⟨b, off, rfl, hb⟩ := hr.addr hn
    refine ⟨b, off, fun k hk => ?_⟩
    obtain ⟨c0, _, c2, _, _, _⟩ := rdSn_at hr hk
    have h1 := his k hk
    rw [h1.taken] at c0
    rw [h1.when_] at c2
    exact ⟨rfl, hb, c0, c2⟩
  · exact ⟨0, 0, fun k hk => by omega⟩
theorem sown_ne {w : World} {base e size n : Nat} {v : Value} {xs : List Value} {e' size' n' : Nat} {v' : Value} {xs' : List Value} (h : w.ownsRow base e size v n xs) (h' : w.ownsRow base e' size' v' n' xs') (hne : e ≠ e') : v'.ownBlock = none ∨ v'.ownBlock ≠ v.ownBlock := by
  rcases h'.2 with ⟨rfl, _⟩ | ⟨g1, cap, cur, rfl, hb, hh, _⟩
  · exact .inl rfl
  · refine .inr fun e0 => ?_
    have e1 : v.ownBlock = some g1 := e0.symm.trans rfl
    exact own_blk_ne (t := e') h (cs := cur) hh hne e1
/-- the append of a struct as a step of a region that draws its order -/
theorem step_pushR {α : Type} (R : Rec α) {P : Program} {W : World} {ops : Array Oper} {o : Oper} {a : Act} {K : Act → World → Prop} {Q : Exit → Act → World → Prop} {E : Prop} (hgd : o.guard = none) (s x : Operand) (t : TypeId)
    (base : Nat) (e : TypeId) (z : Value) (bytes : Nat) (ht : P.underlying t = some (.slice e)) (hinfo : (P.info? e).map (fun i => (i.zero, i.size, i.bytes)) = some (some z, R.sz, bytes))
    (ho : o.op = .call { callee := .builtin .append, args := #[s, x], argTypes := #[t, t] })
    (hzs : z.cells.size = R.sz) (v : Value) (n : Nat) (l : List α) (y : α) (hown : W.ownsRow base e R.sz v n (l.flatMap R.cells)) (hs : a.eval s = v)
    (ad : Addr) (hx : a.eval x = .slice (some ad) 1 1) (hc : ∀ j u, (R.cells y)[j]? = some u → W.cell? (ad.add j) = some u) (h1 : ∀ u ∈ R.cells y, u.oneCell' = true)
    (hn : n ≤ 1000000) (hbytes : bytes ≤ 1000) (hbase : base ≤ W.heap.size)
    (h : ∀ v' w', w'.ownsRow base e R.sz v' (n + 1) ((l ++ [y]).flatMap R.cells) → W.grownBy w' v.ownBlock → Below base W w' → K (a.put o.dst v') w') :
    if Region.wanted o (yielded ops a.tmps) = true then Oper.wp P o a W K Q else E := by
  have hw : Region.wanted o (yielded ops a.tmps) = true := by simp [Region.wanted, hgd]
  rw [if_pos hw]
  obtain ⟨i0, hi, hz0, hz1, hz2⟩ := info_parts hinfo
  have hb2 : (n + 1) * bytes ≤ 1000001 * 1000 := Nat.mul_le_mul (by omega) hbytes
  refine wp_append_own W s x t ho base e i0 z R.sz bytes ht hi hz0 hz1 hz2 hzs R.pos v n _ hs hown ad 1 1 (R.cells y) hx (by rw [R.len, Nat.one_mul]) hc h1 (by simp only [maxLen]; omega) (by omega) hbase ?_
  intro v' w' hown' hg _
  refine h v' w' (by rw [flatR_app]; exact hown') hg ((Below.refl base W).grown hg hbase ?_)
  intro k hk
  rcases hown.2 with ⟨rfl, _⟩ | ⟨g, cap, cur, rfl, hge, _⟩
  · simp [Value.ownBlock] at hk
  · simp [Value.ownBlock] at hk
    omega
/-- what the loop has gathered -/
structure SRel (B : Nat) (w wr : World) (L : List Int) (G : List It) (v10 v11 : Value) : Prop where
  o1 : wr.ownsRow B 3 1 v10 L.length (L.map (.int .i64))
  o2 : wr.ownsRow B 39 5 v11 G.length (G.flatMap ItR.cells)
  bel : Below B w wr
section
variable {B : Nat} {w wr w1 w2 : World} {L : List Int} {G : List It} {v10 v11 : Value}
theorem SRel.over (h : SRel B w wr L G v10 v11) (hw : Below wr.heap.size wr w1) (hB : B ≤ w.heap.size) : SRel B w w1 L G v10 v11 :=
  ⟨own_ov h.o1 hw, own_ov h.o2 hw, h.bel.trans (hw.mono (Nat.le_trans hB h.bel.size))⟩
theorem SRel.pushL (h : SRel B w wr L G v10 v11) {u : Int} {v' : Value} (ho : w2.ownsRow B 3 1 v' (L.length + 1) ((L ++ [u]).map (.int .i64))) (hg : wr.grownBy w2 v10.ownBlock) (hb : Below B wr w2) : SRel B w w2 (L ++ [u]) G v' v11 :=
  ⟨by rw [List.length_append]; exact ho, h.o2.kept hg (sown_ne h.o1 h.o2 (by decide)), h.bel.trans hb⟩
theorem SRel.pushG (h : SRel B w wr L G v10 v11) {y : It} {v' : Value} (ho : w2.ownsRow B 39 5 v' (G.length + 1) ((G ++ [y]).flatMap ItR.cells)) (hg : wr.grownBy w2 v11.ownBlock) (hb : Below B wr w2) : SRel B w w2 L (G ++ [y]) v10 v' :=
  ⟨h.o1.kept hg (sown_ne h.o2 h.o1 (by decide)), by rw [List.length_append]; exact ho, h.bel.trans hb⟩
end

set_option maxHeartbeats 1000000 in
set_option maxRecDepth 100000 in
theorem shaperConforms_many (k : Bk) (A : Option Addr) (n c : Nat) (W : World) (h : 120 < n) (hn : n ≤ 9223372036854775807) :
    Calls Tryd.prog 11 #[bkV k, .slice A n c] W fun e w' => e = .returned (.bool true) ∧ Below W.heap.size W w' := by
  obtain ⟨kb, kt, kr⟩ := k
  unfold bkV
  dsimp only
  have i1 : decide ((120 : Int) < (n : Int)) = true := decide_eq_true (by omega)
  go_enter Tryd.func11, Tryd.ntmps11
  go_wp2_with fail
  go_ret
  exact ⟨rfl, bl_alloc (Below.refl _ _)⟩
def shP : Pl.FP := ⟨50, 1000000, false⟩
theorem shP_ok : Pl.FOk shP := ⟨by decide, by decide⟩

set_option maxHeartbeats 2000000 in
set_option maxRecDepth 100000 in
theorem shaperConforms_no (k : Bk) (A : Option Addr) (n c : Nat) (W : World) (h : n ≤ 120) (hk : ¬ BkOk k) :
    Calls Tryd.prog 11 #[bkV k, .slice A n c] W fun e w' => e = .returned (.bool true) ∧ Below W.heap.size W w' := by
  have hk0 := Blk.new W 32 #[.int .i64 k.b, .int .i64 k.t, .int .i64 k.r]
  have hnf := fun w => newFifo_yes shP w shP_ok
  have hsn := fun gq w => snew_no k hk gq w
  obtain ⟨kb, kt, kr⟩ := k
  unfold bkV fifV shP at *
  dsimp only at *
  have i1 : decide ((120 : Int) < (n : Int)) = false := decide_eq_false (by omega)
  have HK0 := Lib.hid hk0; have HNF := Lib.hid hnf; have HSN := Lib.hid hsn
  clear hk0 hnf hsn hk
  have hb0 : Below W.heap.size W (W.alloc (.cells #[.int .i64 kb, .int .i64 kt, .int .i64 kr] 32)) := bl_alloc (Below.refl _ _)
  have HB0 := Lib.hid hb0
  clear hb0
  go_enter Tryd.func11, Tryd.ntmps11
  go_wp2_with fail
  (with_reducible refine (HNF.out _).mono ?_)
  rintro e w1 ⟨gq, rfl, hgq, hb1, _⟩
  have hbw1 := bl_next HB0.out hb1
  have hk1 := HK0.out.below hb1 HK0.out.lt
  have HBW1 := Lib.hid hbw1; have HK1 := Lib.hid hk1
  clear hgq hb1 hbw1 hk1
  go_wp2_with fail
  (with_reducible refine (first_yes _).mono ?_)
  rintro e w2 ⟨rfl, hb2⟩
  have hbw2 := bl_next HBW1.out hb2
  have hk2 := HK1.out.below hb2 HK1.out.lt
  have HBW2 := Lib.hid hbw2; have HK2 := Lib.hid hk2
  clear hb2 hbw2 hk2
  go_wp2_with fail
  (with_reducible refine (poured_any _).mono ?_)
  rintro e w3 ⟨rfl, hb3⟩
  have hbw3 := bl_next HBW2.out hb3
  have hk3 := HK2.out.below hb3 HK2.out.lt
  have c0 := hk3.cell 0; have c1 := hk3.cell 1; have c2 := hk3.cell 2
  simp at c0 c1 c2
  have HBW3 := Lib.hid hbw3
  clear hb3 hbw3 hk3
  go_wp2_with fail
  (with_reducible refine (HSN.out gq _).mono ?_)
  rintro e w4 ⟨⟨T, v, rfl⟩, hb4⟩
  have hbw4 := bl_next HBW3.out hb4
  have HBW4 := Lib.hid hbw4
  clear hb4 hbw4
  go_wp2_with fail
  go_ret
  exact ⟨rfl, HBW4.out⟩
theorem fifo_sure (p : Pl.FP) : Pl.Sure (Pl.fifoM p) := fun now s => by
  show (Pl.ftakeL s).2.1 = []
  cases s with
  | nil => rfl
  | cons x r => rfl
def shM0 (k : Bk) : Pl.QM := Pl.shM k (Pl.fifoM shP)
def shS0 (k : Bk) : Pl.Shp (List Hd) := ⟨[], Bkt.start k, none⟩
def shSn (k : Bk) (l : List Pl.Stp) : Nat → Pl.Seen := Pl.seenAt (shM0 k) (shS0 k) (Pl.timesTo l l.length)
theorem sh_play (base g gt gq : Nat) (k : Bk) (hk : BkOk k) (A : Option Addr) (n c : Nat) (l : List Pl.Stp) (F0 : Nat → Prop) (w : World) (hr : RdR StR w w.heap.size A n l) (hn : n ≤ 1000) (hi : ShInv base k shP g gt gq (shS0 k) 0 F0 w) :
    Calls Tryd.prog 37 #[shpV g, .slice A n c] w fun e w' => ∃ As cs, e = .returned (.slice As n cs) ∧ Hid (RdSn w' w'.heap.size As n (shSn k l) ∧ Chg w w' F0 ∧ ∀ i, F0 i → base ≤ i) := by
  have hl := hr.len
  subst hl
  have hlt := (shp_imp base g gt gq k hk shP shP_ok).lt _ _ _ _ hi
  refine (play_seen (shp_imp base g gt gq k hk shP shP_ok) A _ c l (shS0 k) F0 w hr hn hi).mono ?_
  rintro e w' ⟨As, cs, F', e1, h1, _, h2, _⟩
  exact ⟨As, cs, e1, Lib.hid ⟨h1, h2, fun i hi => (hlt i hi).1⟩⟩
theorem sh_kept (k : Bk) (A : Option Addr) (n c : Nat) (l : List Pl.Stp) (As : Option Addr) (cs : Nat) (w : World) (hr : RdR StR w w.heap.size A n l) (hrs : RdSn w w.heap.size As n (shSn k l)) (hn : n ≤ 1000) :
    Calls Tryd.prog 38 #[.slice A n c, .slice As n cs] w fun e w' => e = .returned (.bool true) ∧ Below w.heap.size w w' := by
  have hl := hr.len
  subst hl
  exact kept_yes (M := shM0 k) (Pl.sh_good (Pl.fifo_good shP false) (fifo_sure shP) k) (s0 := shS0 k) trivial rfl A _ c l As cs w hr hrs hn

set_option maxHeartbeats 40000000 in
set_option maxRecDepth 100000 in
theorem shaperConforms_yes (kk : Bk) (A : Option Addr) (n c : Nat) (l : List Pl.Stp) (W : World) (hr : RdR StR W W.heap.size A n l) (hg : Handle W) (h : n ≤ 120) (hk : BkOk kk) :
    Calls Tryd.prog 11 #[bkV kk, .slice A n c] W fun e w' => e = .returned (.bool true) ∧ Below W.heap.size W w' := by
  have hll := hr.len
  have htl := Pl.timesTo_len l n (by omega)
  have hsp : Pl.ShapedPlay kk (Pl.timesTo l n) (shSn kk l) n := by
    have := Pl.shaped_play (p := shP) hk rfl l (by omega)
    rw [hll] at this
    unfold shSn
    rw [hll]
    exact this
  have htw : ∀ k t, (Pl.timesTo l n)[k]? = some t → 0 ≤ (shSn kk l k).taken → t.what = 1 := fun k t ht h0 => by
    unfold shSn at h0
    rw [hll] at h0
    exact Pl.taken_what ht h0
  have hk0 := Blk.new W 32 #[.int .i64 kk.b, .int .i64 kk.t, .int .i64 kk.r]
  have hnf := fun w => newFifo_yes shP w shP_ok
  have hsn := fun base gq w hF hB => snew_yes base kk hk shP shP_ok gq (fun i => i = gq) w hF hB
  have hpl := fun base g gt gq F0 w hr hi => sh_play base g gt gq kk hk A n c l F0 w hr (by omega) hi
  have hkp := fun As cs w hr hrs => sh_kept kk A n c l As cs w hr hrs (by omega)
  have htm := fun w hr => times_any A n c l w hr (by omega)
  have hcf := fun (A2 : Option Addr) (n2 c2 : Nat) (l2 : List It) w hr hH hf => conform_yes kk A2 n2 c2 l2 w hr hH hk hf
  have hbx : Below W.heap.size W (W.alloc (.cells #[.int .i64 kk.b, .int .i64 kk.t, .int .i64 kk.r] 32)) := bl_alloc (Below.refl _ _)
  have HSP := Lib.hid hsp; have HTW := Lib.hid htw; have HK0 := Lib.hid hk0; have HNF := Lib.hid hnf; have HSN := Lib.hid hsn; have HPL := Lib.hid hpl; have HKP := Lib.hid hkp; have HTM := Lib.hid htm; have HCF := Lib.hid hcf; have HR := Lib.hid hr; have HG := Lib.hid hg; have HTL := Lib.hid htl; have HLL := Lib.hid hll; have HB0 := Lib.hid hbx
  clear hsp htw hk0 hnf hsn hpl hkp htm hcf hr hg htl hll hbx hk
  have hsz0 : (W.alloc (.cells #[.int .i64 kk.b, .int .i64 kk.t, .int .i64 kk.r] 32)).heap.size = W.heap.size + 1 := by simp
  have HSZ0 := Lib.hid hsz0
  clear hsz0
  have i1 : decide ((120 : Int) < (n : Int)) = false := decide_eq_false (by omega)
  unfold bkV fifV shpV at *
  have hshp : shP.packets = 50 ∧ shP.room = 1000000 ∧ shP.head = false := ⟨rfl, rfl, rfl⟩
  rw [hshp.1, hshp.2.1, hshp.2.2] at HNF
  clear hshp
  go_enter Tryd.func11, Tryd.ntmps11
  go_wp2_with fail
  (with_reducible refine (HNF.out _).mono ?_)
  rintro e w1 ⟨gq, rfl, hgq, hb1, hf1⟩
  have hbw1 := bl_next HB0.out hb1
  have hk1 := HK0.out.below hb1 HK0.out.lt
  have hi1 := Ffo.inv hf1 hgq
  have HBW1 := Lib.hid hbw1; have HK1 := Lib.hid hk1; have HI1 := Lib.hid hi1
  clear hgq hb1 hbw1 hk1 hf1 hi1
  go_wp2_with fail
  (with_reducible refine (first_yes _).mono ?_)
  rintro e w2 ⟨rfl, hb2⟩
  have hbw2 := bl_next HBW1.out hb2
  have hk2 := HK1.out.below hb2 HK1.out.lt
  have hi2 := (fifo_imp _ gq shP shP_ok).chg _ _ _ _ w2 (fun _ => False) HI1.out (Chg.of_below hb2) (fun _ _ e => e)
  have HBW2 := Lib.hid hbw2; have HK2 := Lib.hid hk2; have HI2 := Lib.hid hi2
  clear hb2 hbw2 hk2 hi2
  go_wp2_with fail
  (with_reducible refine (poured_any _).mono ?_)
  rintro e w3 ⟨rfl, hb3⟩
  have hbw3 := bl_next HBW2.out hb3
  have hk3 := HK2.out.below hb3 HK2.out.lt
  have hi3 := (fifo_imp _ gq shP shP_ok).chg _ _ _ _ w3 (fun _ => False) HI2.out (Chg.of_below hb3) (fun _ _ e => e)
  have c0 := hk3.cell 0; have c1 := hk3.cell 1; have c2 := hk3.cell 2
  simp at c0 c1 c2
  have hB3 := (fifo_imp _ gq shP shP_ok).base _ _ _ _ hi3
  have hnew := HSN.out _ gq w3 hi3 hB3
  have HBW3 := Lib.hid hbw3; have HK3 := Lib.hid hk3; have HNEW := Lib.hid hnew; have HB3 := Lib.hid hB3
  clear hb3 hbw3 hk3 hi3 hnew hB3
  go_wp2_with fail
  (with_reducible refine HNEW.out.mono ?_)
  rintro e w4 ⟨g, gt, F, rfl, h4⟩
  obtain ⟨hi4, hb4, _⟩ := h4.out
  have hbw4 := bl_next HBW3.out hb4
  have hk4 := HK3.out.below hb4 HK3.out.lt
  have hr4 := HR.out.over hbw4 (Nat.le_refl _)
  have hplay := HPL.out _ g gt gq F w4 hr4 hi4
  have hB4 := (hi4).1
  have HBW4 := Lib.hid hbw4; have HK4 := Lib.hid hk4; have HPLAY := Lib.hid hplay; have HB4 := Lib.hid hB4
  clear h4 hi4 hb4 hbw4 hk4 hr4 hplay hB4 c0 c1 c2
  go_wp2_with fail
  (with_reducible refine HPLAY.out.mono ?_)
  rintro e w5 ⟨As, cs, rfl, h5⟩
  obtain ⟨hrs5, hc5, hF5⟩ := h5.out
  have hb45 : Below (W.heap.size + 1) w4 w5 := hc5.below (by have := HB4.out; have := HSZ0.out; omega) (fun i hi e => by have := hF5 i e; have := HSZ0.out; omega)
  have hbw5 := HBW4.out.trans (hb45.mono (by omega))
  have hk5 := HK4.out.below hb45 (by omega)
  have hr5 := HR.out.over hbw5 (Nat.le_refl _)
  have hkept := HKP.out As cs w5 hr5 hrs5
  have HBW5 := Lib.hid hbw5; have HK5 := Lib.hid hk5; have HKEPT := Lib.hid hkept; have HRS5 := Lib.hid hrs5
  clear h5 hrs5 hc5 hF5 hb45 hbw5 hk5 hr5 hkept
  go_wp2_with fail
  (with_reducible refine HKEPT.out.mono ?_)
  rintro e w6 ⟨rfl, hb6⟩
  have hbw6 := bl_next HBW5.out hb6
  have hk6 := HK5.out.below hb6 HK5.out.lt
  have hr6 := HR.out.over hbw6 (Nat.le_refl _)
  have hrs6 := HRS5.out.over hb6 (Nat.le_refl _)
  have htimes := HTM.out w6 hr6
  have HBW6 := Lib.hid hbw6; have HK6 := Lib.hid hk6; have HTIMES := Lib.hid htimes; have HRS6 := Lib.hid hrs6
  clear hb6 hbw6 hk6 hr6 hrs6 htimes
  go_wp2_with fail
  (with_reducible refine HTIMES.out.mono ?_)
  rintro e w7 ⟨At, ct, rfl, hrt7, hb7, _⟩
  rw [HTL.out] at hrt7
  rw [HTL.out]
  have hbw7 := bl_next HBW6.out hb7
  have hk7 := HK6.out.below hb7 HK6.out.lt
  have hrs7 := HRS6.out.over hb7 (Nat.le_refl _)
  have hrel0 : SRel w7.heap.size w7 w7 [] [] (.slice none 0 0) (.slice none 0 0) := ⟨World.ownsRow_nil _ _ _ _, World.ownsRow_nil _ _ _ _, Below.refl _ _⟩
  obtain ⟨bs, os_, hseen⟩ := rdSn_w hrs7
  have HBW7 := Lib.hid hbw7; have HK7 := Lib.hid hk7; have HRT7 := Lib.hid hrt7; have HSEEN := Lib.hid hseen; have HREL0 := Lib.hid hrel0
  clear hb7 hbw7 hk7 hrs7 hrt7 hrel0 hseen
  generalize hts : Pl.timesTo l n = ts at *
  generalize shSn kk l = sn at *
  clear hts HNF HSN HPL HKP HTM HNEW HPLAY HKEPT HTIMES HI1 HI2 HK0 HK1 HK2 HK3 HK4 HK5 HK6 HBW1 HBW2 HBW3 HBW4 HBW5 HBW6 HRS5 HRS6 HB0 HSZ0 HB3 HB4
  go_wp2_with fail
  go_loopw [10, 11, 12, 13] (fun v10 v11 la i wr => ∃ k : Nat, k ≤ n ∧ i = .int .i64 k ∧ la = .int .i64 (Pl.lastTo sn k) ∧ SRel w7.heap.size w7 wr (Pl.lensTo ts k) (Pl.goneTo ts sn k) v10 v11) (fun _ _ _ i _ => n - (intOf i).toNat)
  case atStart => exact ⟨0, Nat.zero_le _, rfl, rfl, HREL0.out⟩
  case round =>
    obtain ⟨k, hk, rfl, rfl, hrel⟩ := hrel
    obtain ⟨A10, c10, rfl, rd10⟩ := own_reads hrel.o1
    obtain ⟨A11, c11, rfl, rd11⟩ := own_reads hrel.o2
    by_cases hlt : k < n
    · have ik : (k : Int) < (n : Int) := by omega
      obtain ⟨b, off, rfl, hbB⟩ := HRT7.out.addr hlt
      obtain ⟨c0, c1, _, c3, _, _, _⟩ := rdSt_at HRT7.out hlt
      obtain ⟨hAs, hb2, s0, s2⟩ := HSEEN.out k hlt
      subst hAs
      have hkl : k < ts.length := by have := HTL.out; omega
      have hget : ts[k]? = some (ixR StR ts k) := by
        unfold ixR
        rw [List.getD, List.getElem?_eq_getElem hkl]
        rfl
      generalize ixR StR ts k = t at *
      obtain ⟨tw, tl, ⟨ta, tn, tf, tb, tm⟩⟩ := t
      dsimp only at c0 c1 c3
      obtain ⟨hst, hsw⟩ := HSP.out.step k hlt
      have htw := HTW.out k _ hget
      have hsw' : ∀ j, k = j + 1 → 0 ≤ (sn j).when_ → tw = 1 → (0 ≤ (sn k).taken ↔ (sn j).when_ ≤ tl) := fun j hj h0 h1 => by
        have := hsw j hj h0 (fun t' ht' => by rw [hget] at ht'; injection ht' with ht'; subst ht'; exact h1)
        rw [(Pl.nowB_succ hget).2] at this
        exact this
      have eL := Pl.lens_succ hget
      have eG : Pl.goneTo ts sn (k + 1) = if 0 ≤ (sn k).taken then Pl.goneTo ts sn k ++ [⟨Pl.laterAt ts k, (Pl.lensTo ts (k + 1)).getD (sn k).taken.toNat 0, 0, 0, 0⟩] else Pl.goneTo ts sn k := rfl
      have eLa : Pl.lastTo sn (k + 1) = if 0 ≤ (sn k).taken then (sn k).taken else Pl.lastTo sn k := rfl
      rw [(Pl.nowB_succ hget).2] at eG
      have hLle := Pl.lens_le ts k
      have hGle := Pl.gone_le ts sn k
      dsimp only at eL htw eG
      have HSW := Lib.hid hsw'
      have hbr := hrel.bel
      have x0 : wr.cell? ⟨b, off + k * 7, none⟩ = some (.int .i64 tw) := (hbr.cell (p := ⟨b, off + k * 7, none⟩) hbB).trans c0
      have x3 : wr.cell? ⟨b, off + k * 7 + 3, none⟩ = some (.int .i64 tn) := (hbr.cell (p := ⟨b, off + k * 7 + 3, none⟩) hbB).trans c3
      have x1 : wr.cell? ⟨b, off + k * 7 + 1, none⟩ = some (.int .i64 tl) := (hbr.cell (p := ⟨b, off + k * 7 + 1, none⟩) hbB).trans c1
      have y0 : wr.cell? ⟨bs, os_ + k * 6, none⟩ = some (.int .i64 (sn k).taken) := (hbr.cell (p := ⟨bs, os_ + k * 6, none⟩) hb2).trans s0
      have hBr := hbr.size
      have hrdI : RdI wr wr.heap.size A10 (Pl.lensTo ts k).length (Pl.lensTo ts k) := rd10
      have HREL := Lib.hid hrel; have HRD := Lib.hid hrdI
      clear hrel rd10 rd11 hsw hsw' hbr hrdI s2 hget
      by_cases h0 : tw = 0
      · have htk : ¬ 0 ≤ (sn k).taken := fun h => by have := htw h; omega
        rw [if_pos h0] at eL
        rw [if_neg htk] at eG eLa
        subst h0
        have d22 : decide (0 ≤ (sn k).taken) = false := decide_eq_false htk
        have HL1 := Lib.hid eL; have HG1 := Lib.hid eG; have HLA1 := Lib.hid eLa
        clear eL eG eLa htw hst
        generalize (sn k).taken = tk at *
        generalize Pl.lensTo ts k = L at *
        generalize Pl.goneTo ts sn k = G at *
        generalize Pl.lastTo sn k = la at *
        have hLb : L.length ≤ 1000000 := by omega
        go_upto_region 27 with (at_builtin; refine wpList_pushI rfl (.tmp 71) (.tmp 78) 37 Tryd.underlying37 rfl w7.heap.size (.slice A10 L.length c10) L.length L tn HREL.out.o1 (by rfl) rfl hLb hBr ?_; intro v' w2 h1 h2 h3; obtain ⟨A', c', rfl, _⟩ := own_reads h1; have HS2 := Lib.hid (HREL.out.pushL h1 h2 h3); have y0 : w2.cell? ⟨bs, os_ + k * 6, none⟩ = some (.int .i64 tk) := ((HREL.out.bel.trans h3).cell (p := ⟨bs, os_ + k * 6, none⟩) hb2).trans s0; have HB2 := Lib.hid (HREL.out.bel.trans h3); clear h1 h2 h3)
        clear x0 x1 x3 y0
        by_cases k0 : k = 0
        · have d0 : decide ((0 : Int) < (k : Int)) = false := decide_eq_false (by omega)
          go_quiet (fail)
          go_wp2_with fail
          exact ⟨⟨k + 1, by omega, by go_num, by rw [HLA1.out], by rw [HL1.out, HG1.out]; exact HS2.out.over (bl_drewN (Below.refl _ _)) (Nat.le_refl _)⟩, by simp [intOf]; omega⟩
        · obtain ⟨j, hj⟩ : ∃ j : Nat, k = j + 1 := ⟨k - 1, by omega⟩
          have d0 : decide ((0 : Int) < (k : Int)) = true := decide_eq_true (by omega)
          have k1 : 0 < k := by omega
          have e1 : IntKind.i64.wrap ((k : Int) - 1) = (j : Int) := by rw [IntWalk.i64_in _ (by omega)]; omega
          have e2 : (k : Int) - 1 = (j : Int) := by omega
          have ij : (j : Int) < (n : Int) := by omega
          have hjn : j < n := by omega
          have q2 : w2.cell? ⟨bs, os_ + j * 6 + 2, none⟩ = some (.int .i64 (sn j).when_) := (HB2.out.cell (p := ⟨bs, os_ + j * 6 + 2, none⟩) (HSEEN.out j hjn).2.1).trans (HSEEN.out j hjn).2.2.2
          have q0 : w2.cell? ⟨b, off + k * 7, none⟩ = some (.int .i64 0) := (HB2.out.cell (p := ⟨b, off + k * 7, none⟩) hbB).trans c0
          have q1 : w2.cell? ⟨b, off + k * 7 + 1, none⟩ = some (.int .i64 tl) := (HB2.out.cell (p := ⟨b, off + k * 7 + 1, none⟩) hbB).trans c1
          have q3 : w2.cell? ⟨bs, os_ + k * 6, none⟩ = some (.int .i64 tk) := (HB2.out.cell (p := ⟨bs, os_ + k * 6, none⟩) hb2).trans s0
          have hws := HSW.out j hj
          clear hj
          generalize (sn j).when_ = wn at *
          by_cases hwn : 0 ≤ wn
          · have d1 : decide (0 ≤ wn) = true := decide_eq_true hwn
            have d2 : ((0 : Int) == 1) = false := rfl
            go_quiet (fail)
            go_wp2_with fail
            exact ⟨⟨k + 1, by omega, by go_num, by rw [HLA1.out], by rw [HL1.out, HG1.out]; exact HS2.out.over (bl_drewN (Below.refl _ _)) (Nat.le_refl _)⟩, by simp [intOf]; omega⟩
          · have d1 : decide (0 ≤ wn) = false := decide_eq_false hwn
            go_quiet (fail)
            go_wp2_with fail
            exact ⟨⟨k + 1, by omega, by go_num, by rw [HLA1.out], by rw [HL1.out, HG1.out]; exact HS2.out.over (bl_drewN (Below.refl _ _)) (Nat.le_refl _)⟩, by simp [intOf]; omega⟩
      · rw [if_neg h0] at eL
        have d19 : (tw == 0) = false := by simpa using h0
        by_cases htk : 0 ≤ (sn k).taken
        · have htw1 := htw htk
          rw [if_pos htk] at eG eLa
          rw [eL] at eG
          obtain ⟨hst1, hst2⟩ := hst htk
          rw [eL] at hst2
          have HL1 := Lib.hid eL; have HG1 := Lib.hid eG; have HLA1 := Lib.hid eLa
          clear eL eG eLa htw hst
          generalize (sn k).taken = tk at *
          generalize Pl.lensTo ts k = L at *
          generalize Pl.goneTo ts sn k = G at *
          generalize Pl.lastTo sn k = la at *
          obtain ⟨q, rfl⟩ : ∃ q : Nat, tk = q := ⟨tk.toNat, by omega⟩
          have hq : q < L.length := by omega
          have d22 : decide (0 ≤ (q : Int)) = true := decide_eq_true (by omega)
          have d23 : decide ((q : Int) ≤ la) = false := decide_eq_false (by omega)
          have d24 : decide ((L.length : Int) ≤ (q : Int)) = false := decide_eq_false (by omega)
          have iq : (q : Int) < (L.length : Int) := by omega
          obtain ⟨b3, o3, rfl, hb3, z0⟩ := HRD.out.get hq
          have hqt : ((q : Int)).toNat = q := by omega
          rw [hqt] at HG1
          generalize L.getD q 0 = lq at *
          have hGb : G.length ≤ 1000000 := by omega
          have hO : (wr.alloc (.cells #[.int .i64 tl, .int .i64 lq, .int .i64 0, .int .i64 0, .int .i64 0] 39)).drew.ownsRow w7.heap.size 39 ItR.sz (.slice A11 G.length c11) G.length (G.flatMap ItR.cells) := own_ov HREL.out.o2 (bl_drew (bl_alloc (Below.refl _ _)))
          have hC : ∀ j u, (ItR.cells ⟨tl, lq, 0, 0, 0⟩)[j]? = some u → (wr.alloc (.cells #[.int .i64 tl, .int .i64 lq, .int .i64 0, .int .i64 0, .int .i64 0] 39)).drew.cell? ((⟨wr.heap.size, 0, none⟩ : Addr).add j) = some u := fun j u hu => by
            have hb := Blk.new wr 39 #[.int .i64 tl, .int .i64 lq, .int .i64 0, .int .i64 0, .int .i64 0]
            rw [Addr.add_lit, Nat.zero_add]
            refine (hb.cell j).trans ?_
            rw [← hu]
            simp [ItR, itCells]
          have hS : w7.heap.size ≤ (wr.alloc (.cells #[.int .i64 tl, .int .i64 lq, .int .i64 0, .int .i64 0, .int .i64 0] 39)).drew.heap.size := Nat.le_trans hBr (bl_drew (bl_alloc (Below.refl wr.heap.size wr))).size
          have hR : SRel w7.heap.size w7 (wr.alloc (.cells #[.int .i64 tl, .int .i64 lq, .int .i64 0, .int .i64 0, .int .i64 0] 39)).drew L G _ _ := HREL.out.over (bl_drew (bl_alloc (Below.refl _ _))) (Nat.le_refl _)
          have HO := Lib.hid hO; have HC := Lib.hid hC; have HS := Lib.hid hS; have HRR := Lib.hid hR
          clear hO hC hS hR
          go_upto_region 26 with fail
          go_region_law ((refine step_pushR ItR (by rfl) (.tmp 97) (.tmp 108) 33 w7.heap.size 39 (.agg #[.int .i64 0, .int .i64 0, .int .i64 0, .int .i64 0, .int .i64 0]) 40 Tryd.underlying33 Tryd.itInfo (by rfl) rfl (.slice A11 G.length c11) G.length G ⟨tl, lq, 0, 0, 0⟩ ?_ (by rfl) ⟨wr.heap.size, 0, none⟩ (by rfl) ?_ (it_one _) hGb (by omega) ?_ ?_; (with_reducible exact HO.out); (with_reducible exact HC.out); (with_reducible exact HS.out); (intro v' w2 h1 h2 h3; obtain ⟨A', c', rfl, _⟩ := own_reads h1; have hs2 := HRR.out.pushG h1 h2 h3; have HS2 := Lib.hid hs2; have HB2 := Lib.hid hs2.bel; clear h1 h2 h3 hs2)))
          all_goals
            go_wp2_with fail
            clear x0 x1 x3 y0 z0
            by_cases k0 : k = 0
            · have d0 : decide ((0 : Int) < (k : Int)) = false := decide_eq_false (by omega)
              go_quiet (fail)
              go_wp2_with fail
              exact ⟨⟨k + 1, by omega, by go_num, by rw [HLA1.out], by rw [HL1.out, HG1.out]; exact HS2.out.over (bl_drewN (Below.refl _ _)) (Nat.le_refl _)⟩, by simp [intOf]; omega⟩
            · obtain ⟨j, hj⟩ : ∃ j : Nat, k = j + 1 := ⟨k - 1, by omega⟩
              have d0 : decide ((0 : Int) < (k : Int)) = true := decide_eq_true (by omega)
              have k1 : 0 < k := by omega
              have e1 : IntKind.i64.wrap ((k : Int) - 1) = (j : Int) := by rw [IntWalk.i64_in _ (by omega)]; omega
              have e2 : (k : Int) - 1 = (j : Int) := by omega
              have ij : (j : Int) < (n : Int) := by omega
              have hjn : j < n := by omega
              have q2 : w2.cell? ⟨bs, os_ + j * 6 + 2, none⟩ = some (.int .i64 (sn j).when_) := (HB2.out.cell (p := ⟨bs, os_ + j * 6 + 2, none⟩) (HSEEN.out j hjn).2.1).trans (HSEEN.out j hjn).2.2.2
              have q0 : w2.cell? ⟨b, off + k * 7, none⟩ = some (.int .i64 tw) := (HB2.out.cell (p := ⟨b, off + k * 7, none⟩) hbB).trans c0
              have q1 : w2.cell? ⟨b, off + k * 7 + 1, none⟩ = some (.int .i64 tl) := (HB2.out.cell (p := ⟨b, off + k * 7 + 1, none⟩) hbB).trans c1
              have q3 : w2.cell? ⟨bs, os_ + k * 6, none⟩ = some (.int .i64 (q : Int)) := (HB2.out.cell (p := ⟨bs, os_ + k * 6, none⟩) hb2).trans s0
              have hws := HSW.out j hj
              clear hj
              generalize (sn j).when_ = wn at *
              by_cases hwn : 0 ≤ wn
              · have d1 : decide (0 ≤ wn) = true := decide_eq_true hwn
                have d2 : (tw == 1) = true := by simpa using htw1
                have hle : wn ≤ tl := (hws hwn htw1).1 htk
                have d3 : decide (wn ≤ tl) = true := decide_eq_true hle
                go_quiet (fail)
                go_wp2_with fail
                exact ⟨⟨k + 1, by omega, by go_num, by rw [HLA1.out], by rw [HL1.out, HG1.out]; exact HS2.out.over (bl_drewN (Below.refl _ _)) (Nat.le_refl _)⟩, by simp [intOf]; omega⟩
              · have d1 : decide (0 ≤ wn) = false := decide_eq_false hwn
                go_quiet (fail)
                go_wp2_with fail
                exact ⟨⟨k + 1, by omega, by go_num, by rw [HLA1.out], by rw [HL1.out, HG1.out]; exact HS2.out.over (bl_drewN (Below.refl _ _)) (Nat.le_refl _)⟩, by simp [intOf]; omega⟩
        · rw [if_neg htk] at eG eLa
          have d22 : decide (0 ≤ (sn k).taken) = false := decide_eq_false htk
          have HL1 := Lib.hid eL; have HG1 := Lib.hid eG; have HLA1 := Lib.hid eLa
          clear eL eG eLa htw hst
          generalize (sn k).taken = tk at *
          generalize Pl.lensTo ts k = L at *
          generalize Pl.goneTo ts sn k = G at *
          generalize Pl.lastTo sn k = la at *
          have HS2 := HREL
          have HB2 := Lib.hid HREL.out.bel
          go_upto_region 27 with fail
          clear x0 x1 x3 y0
          by_cases k0 : k = 0
          · have d0 : decide ((0 : Int) < (k : Int)) = false := decide_eq_false (by omega)
            go_quiet (fail)
            go_wp2_with fail
            exact ⟨⟨k + 1, by omega, by go_num, by rw [HLA1.out], by rw [HL1.out, HG1.out]; exact HS2.out.over (bl_drewN (Below.refl _ _)) (Nat.le_refl _)⟩, by simp [intOf]; omega⟩
          · obtain ⟨j, hj⟩ : ∃ j : Nat, k = j + 1 := ⟨k - 1, by omega⟩
            have d0 : decide ((0 : Int) < (k : Int)) = true := decide_eq_true (by omega)
            have k1 : 0 < k := by omega
            have e1 : IntKind.i64.wrap ((k : Int) - 1) = (j : Int) := by rw [IntWalk.i64_in _ (by omega)]; omega
            have e2 : (k : Int) - 1 = (j : Int) := by omega
            have ij : (j : Int) < (n : Int) := by omega
            have hjn : j < n := by omega
            have q2 : wr.cell? ⟨bs, os_ + j * 6 + 2, none⟩ = some (.int .i64 (sn j).when_) := (HB2.out.cell (p := ⟨bs, os_ + j * 6 + 2, none⟩) (HSEEN.out j hjn).2.1).trans (HSEEN.out j hjn).2.2.2
            have q0 : wr.cell? ⟨b, off + k * 7, none⟩ = some (.int .i64 tw) := (HB2.out.cell (p := ⟨b, off + k * 7, none⟩) hbB).trans c0
            have q1 : wr.cell? ⟨b, off + k * 7 + 1, none⟩ = some (.int .i64 tl) := (HB2.out.cell (p := ⟨b, off + k * 7 + 1, none⟩) hbB).trans c1
            have q3 : wr.cell? ⟨bs, os_ + k * 6, none⟩ = some (.int .i64 tk) := (HB2.out.cell (p := ⟨bs, os_ + k * 6, none⟩) hb2).trans s0
            have hws := HSW.out j hj
            clear hj
            generalize (sn j).when_ = wn at *
            by_cases hwn : 0 ≤ wn
            · have d1 : decide (0 ≤ wn) = true := decide_eq_true hwn
              by_cases htw1 : tw = 1
              · have d2 : (tw == 1) = true := by simpa using htw1
                have hle : ¬ wn ≤ tl := fun h => htk ((hws hwn htw1).2 h)
                have d3 : decide (wn ≤ tl) = false := decide_eq_false hle
                go_quiet (fail)
                go_wp2_with fail
                exact ⟨⟨k + 1, by omega, by go_num, by rw [HLA1.out], by rw [HL1.out, HG1.out]; exact HS2.out.over (bl_drewN (Below.refl _ _)) (Nat.le_refl _)⟩, by simp [intOf]; omega⟩
              · have d2 : (tw == 1) = false := by simpa using htw1
                go_quiet (fail)
                go_wp2_with fail
                exact ⟨⟨k + 1, by omega, by go_num, by rw [HLA1.out], by rw [HL1.out, HG1.out]; exact HS2.out.over (bl_drewN (Below.refl _ _)) (Nat.le_refl _)⟩, by simp [intOf]; omega⟩
            · have d1 : decide (0 ≤ wn) = false := decide_eq_false hwn
              go_quiet (fail)
              go_wp2_with fail
              exact ⟨⟨k + 1, by omega, by go_num, by rw [HLA1.out], by rw [HL1.out, HG1.out]; exact HS2.out.over (bl_drewN (Below.refl _ _)) (Nat.le_refl _)⟩, by simp [intOf]; omega⟩
    · obtain rfl : n = k := by omega
      have hBr := hrel.bel.size
      have hbwr := HBW7.out.trans (hrel.bel.mono HBW7.out.size)
      have hGle := Pl.gone_le ts sn n
      have hgn := HSP.out.gone
      have hkr := HK7.out.below hrel.bel HK7.out.lt
      have c0 := hkr.cell 0; have c1 := hkr.cell 1; have c2 := hkr.cell 2
      simp at c0 c1 c2
      have hrd : RdIt wr wr.heap.size A11 (Pl.goneTo ts sn n).length (Pl.goneTo ts sn n) := rd11
      generalize Pl.goneTo ts sn n = G at *
      by_cases hbig : 100 < G.length
      · have ib : decide ((100 : Int) < (G.length : Int)) = true := decide_eq_true (by omega)
        have HBWR := Lib.hid hbwr
        clear hrel rd10 rd11 hkr hgn hrd hbwr
        go_wp2_with fail
        go_ret
        exact ⟨rfl, HBWR.out⟩
      · have ib : decide ((100 : Int) < (G.length : Int)) = false := decide_eq_false (by omega)
        obtain ⟨hfine, hconf⟩ := hgn (by omega)
        have hcall := HCF.out A11 G.length c11 G wr hrd (HG.out.below hbwr) hfine
        have HCALL := Lib.hid hcall; have HBWR := Lib.hid hbwr; have HCONF := Lib.hid hconf
        clear hrel rd10 rd11 hkr hgn hrd hbwr hcall hfine hconf
        unfold bkV at HCALL
        go_wp2_with fail
        (with_reducible refine HCALL.out.mono ?_)
        rintro e w8 ⟨Ab, cb, rfl, hb8, hrb⟩
        have hbw8 := bl_next HBWR.out hb8
        have HBW8 := Lib.hid hbw8; have HRB := Lib.hid hrb
        clear hb8 hbw8 hrb c0 c1 c2
        generalize G.length = m at *
        go_wp2_with fail
        go_loopw [16] (fun v w' => ∃ q : Nat, q ≤ m ∧ v = .int .i64 q ∧ w' = w8) (fun v _ => m - (intOf v).toNat)
        case atStart => exact ⟨0, Nat.zero_le _, rfl, rfl⟩
        case round =>
          obtain ⟨q, hq, rfl, rfl⟩ := hrel
          by_cases hqm : q < m
          · have iq : (q : Int) < (m : Int) := by omega
            obtain ⟨bb, ob, rfl, _, hc⟩ := HRB.out.get hqm
            rw [HCONF.out q hqm] at hc
            go_wp2_with fail
            exact ⟨⟨q + 1, by omega, by go_num, by first | rfl | trivial⟩, by simp [intOf]; omega⟩
          · obtain rfl : q = m := by omega
            go_wp2_with fail
            go_ret
            exact ⟨rfl, HBW8.out⟩
theorem shaperConforms_core (kk : Bk) (A : Option Addr) (n c : Nat) (l : List Pl.Stp) (W : World) (hr : RdR StR W W.heap.size A n l) (hn : n ≤ 9223372036854775807) (hg : Handle W) :
    Calls Tryd.prog 11 #[bkV kk, .slice A n c] W fun e w' => e = .returned (.bool true) ∧ Below W.heap.size W w' := by
  by_cases h : 120 < n
  · exact shaperConforms_many kk A n c W h hn
  · by_cases hk : BkOk kk
    · exact shaperConforms_yes kk A n c l W hr hg (by omega) hk
    · exact shaperConforms_no kk A n c W (by omega) hk
end Go.Proofs.YtdhojhgmaodifaaDoor
