/-
  What the plain queue's Take and When do, and its making (queue.Fifo).
-/
import Derived.Test.YtdhojhgmaodifaaDoorFifo
namespace Go.Proofs.YtdhojhgmaodifaaDoor
open Go.RowKit Bkt
set_option linter.unusedVariables false

theorem LstTo.behind {w w' w'' : World} {base g o : Nat} {t : TypeId} {cs : Array Value} {v v' : Value} {l : List Hd} {b : Int} (hb : Below w.heap.size w w') (h : LstTo w' w'' base g o t cs v v' l b) : LstTo w w'' base g o t cs v v' l b :=
  ⟨h.lst, (Chg.of_below hb).trans h.chg (fun i _ hs => hs), h.at_.imp id (fun h i hi => Nat.le_trans hb.size (h i hi))⟩
/-- the world behind a walk, under a name -/
theorem bodyPost_as {P : Program} {f : Func} {Q : Ending → World → Prop} {x : Exit} {a : Act} {W : World} (h : ∀ Wf, Wf = W → bodyPost P f Q x a Wf) : bodyPost P f Q x a W := h W rfl
def optV : Option Hd → Value
  | some h => hdV h
  | none => hdV Hd.zero
/-- what Take hands out -/
def FTakeOut (w : World) (base g o : Nat) (t : TypeId) (cs : Array Value) (v : Value) (r : Option Hd × List Hd × List Hd) (p : Pl.FP) (e : Ending) (w' : World) : Prop :=
  e = .returned (.tuple #[optV r.1, .slice none 0 0, .bool r.1.isSome]) ∧ r.2.1 = [] ∧ FfoTo w w' base g o t cs v r.2.2 p

set_option maxHeartbeats 1000000 in
set_option maxRecDepth 100000 in
theorem ftake_none (base g o : Nat) (t : TypeId) (cs : Array Value) (v : Value) (p : Pl.FP) (now : Int) (w : World) (h : Ffo w base g o t cs v [] p) :
    Calls Tryd.prog 87 #[.pointer (some ⟨g, o, none⟩), .int .i64 now] w (FTakeOut w base g o t cs v (Pl.ftakeL []) p) := by
  have hgl := h.lst.blk.lt
  have hb0 : Below w.heap.size w (w.alloc (.cells #[.int .i64 0, .int .i64 0, .int .i64 0, .int .i64 0, .int .i64 0, .int .i64 0] 127)) := (Below.refl _ _).alloc (Nat.le_refl _) _
  have hnx := next_none base g o t cs v (Pl.tot []) _ (h.lst.below hb0)
  have hk := Blk.new w 127 #[.int .i64 0, .int .i64 0, .int .i64 0, .int .i64 0, .int .i64 0, .int .i64 0]
  unfold PairOut hdV Hd.zero It.zero at hnx
  dsimp only at hnx
  have H := Lib.hid h; have HNX := Lib.hid hnx; have HB0 := Lib.hid hb0; have HK := Lib.hid hk
  clear h hnx hb0 hk
  go_enter Tryd.func87, Tryd.ntmps87
  go_wp2_with fail
  refine HNX.out.mono ?_
  rintro e w1 ⟨rfl, hb1⟩
  have hk1 := HK.out.below hb1 HK.out.lt
  have z0 := hk1.cell 0; have z1 := hk1.cell 1; have z2 := hk1.cell 2; have z3 := hk1.cell 3; have z4 := hk1.cell 4; have z5 := hk1.cell 5
  have f0 := hk1.frozen 0; have f1 := hk1.frozen 1; have f2 := hk1.frozen 2; have f3 := hk1.frozen 3; have f4 := hk1.frozen 4; have f5 := hk1.frozen 5
  simp at z0 z1 z2 z3 z4 z5
  have hbw := bl_next HB0.out hb1
  have HBW := Lib.hid hbw; have HK1 := Lib.hid hk1
  clear hk1 hb1 hbw
  go_wp2_with fail
  have hb := fun (W : World) (c : Nat) (u : Value) (h : Below w.heap.size w W) => h.setCell (p := ⟨w.heap.size, c, none⟩) (Nat.le_refl _) u
  refine bodyPost_as fun Wf hWf => ?_
  have hkf : Blk Wf w.heap.size 127 #[.int .i64 0, .int .i64 0, .int .i64 0, .int .i64 0, .int .i64 0, .int .i64 0] := by rw [hWf]; exact blk_six (blk_six HK1.out _ _ _ _ _ _) _ _ _ _ _ _
  have hfin : Below w.heap.size w Wf := by
    rw [hWf]
    (repeat refine hb _ _ _ ?_)
    exact HBW.out
  clear hWf
  have r0 := hkf.cell 0; have r1 := hkf.cell 1; have r2 := hkf.cell 2; have r3 := hkf.cell 3; have r4 := hkf.cell 4; have r5 := hkf.cell 5
  simp at r0 r1 r2 r3 r4 r5
  exact bodyPost_ret (v := .tuple #[hdV Hd.zero, .slice none 0 0, .bool false]) (by simp [results, Tryd.results87, go_sem, hdV, Hd.zero, It.zero, r0, r1, r2, r3, r4, r5]) rfl ⟨rfl, rfl, FfoTo.refl H.out hfin⟩
theorem LstTo.behindNew {w w'' : World} {base g o : Nat} {t : TypeId} {cs : Array Value} {v v' : Value} {l : List Hd} {b : Int} {ob : Obj} (hg : g < w.heap.size) (hv : ∀ i, v.ownBlock = some i → i < w.heap.size) (h : LstTo (w.alloc ob) w'' base g o t cs v v' l b) :
    LstTo w w'' base g o t cs v v' l b ∧ v'.ownBlock ≠ some w.heap.size := by
  refine ⟨LstTo.behind ((Below.refl _ _).alloc (Nat.le_refl _) ob) h, fun e => ?_⟩
  rcases h.at_ with e2 | e2
  · have := hv _ (e2 ▸ e); omega
  · have := e2 _ e; simp at this; omega

set_option maxHeartbeats 1000000 in
set_option maxRecDepth 100000 in
theorem ftake_some (base g o : Nat) (t : TypeId) (cs : Array Value) (v : Value) (p : Pl.FP) (now : Int) (x : Hd) (r : List Hd) (w : World) (h : Ffo w base g o t cs v (x :: r) p) (hl : HdsOk (x :: r)) :
    Calls Tryd.prog 87 #[.pointer (some ⟨g, o, none⟩), .int .i64 now] w (FTakeOut w base g o t cs v (Pl.ftakeL (x :: r)) p) := by
  have hgl := h.lst.blk.lt
  have hx := hl.b x (by simp)
  have htl := hl.tot
  have hln := hl.n
  rw [List.length_cons] at hln
  have hb0 : Below w.heap.size w (w.alloc (.cells #[.int .i64 0, .int .i64 0, .int .i64 0, .int .i64 0, .int .i64 0, .int .i64 0] 127)) := (Below.refl _ _).alloc (Nat.le_refl _) _
  have hnx := next_some base g o t cs v x r (Pl.tot (x :: r)) _ (h.lst.below hb0) (by omega) htl.1 (by omega) hx.1 (by omega)
  have hk := Blk.new w 127 #[.int .i64 0, .int .i64 0, .int .i64 0, .int .i64 0, .int .i64 0, .int .i64 0]
  have hof : ∀ w2 v2, LstTo w w2 base g o t cs v v2 r (Pl.tot (x :: r) - x.it.len) → FfoTo w w2 base g o t cs v r p := fun w2 v2 h2 => h.of_lst h2 (by rw [Pl.tot_cons]; omega)
  have hv := fun i hi => (h.lst.own.lt i hi).2
  obtain ⟨⟨xa, xl, xf, xb, xm⟩, xn⟩ := x
  unfold NextOut hdV at hnx
  dsimp only at hnx
  have HNX := Lib.hid hnx; have HK := Lib.hid hk; have HOF := Lib.hid hof; have HV := Lib.hid hv
  clear h hnx hb0 hk hof hv
  go_enter Tryd.func87, Tryd.ntmps87
  go_wp2_with fail
  refine HNX.out.mono ?_
  rintro e w1 ⟨rfl, v', hl1⟩
  obtain ⟨hl2, hne⟩ := hl1.behindNew hgl HV.out
  have hk1 := HK.out.chg hl1.chg (by
    rintro (e | e)
    · omega
    · have := HV.out _ e; omega)
  have z0 := hk1.cell 0; have z1 := hk1.cell 1; have z2 := hk1.cell 2; have z3 := hk1.cell 3; have z4 := hk1.cell 4; have z5 := hk1.cell 5
  have f0 := hk1.frozen 0; have f1 := hk1.frozen 1; have f2 := hk1.frozen 2; have f3 := hk1.frozen 3; have f4 := hk1.frozen 4; have f5 := hk1.frozen 5
  simp at z0 z1 z2 z3 z4 z5
  have HL2 := Lib.hid hl2; have HNE := Lib.hid hne; have HK1 := Lib.hid hk1
  clear hk1 hl1 hl2 hne
  go_wp2_with fail
  have hb := fun (W : World) (c : Nat) (u : Value) (h : LstTo w W base g o t cs v v' r (Pl.tot (⟨⟨xa, xl, xf, xb, xm⟩, xn⟩ :: r) - xl)) => h.setNew hgl (p := ⟨w.heap.size, c, none⟩) (Nat.le_refl _) HNE.out u
  refine bodyPost_as fun Wf hWf => ?_
  have hkf : Blk Wf w.heap.size 127 #[.int .i64 xa, .int .i64 xl, .int .i64 xf, .int .i64 xb, .int .i64 xm, .int .i64 xn] := by rw [hWf]; exact blk_six (blk_six HK1.out _ _ _ _ _ _) _ _ _ _ _ _
  have hfin : LstTo w Wf base g o t cs v v' r (Pl.tot (⟨⟨xa, xl, xf, xb, xm⟩, xn⟩ :: r) - xl) := by
    rw [hWf]
    (repeat refine hb _ _ _ ?_)
    exact HL2.out
  clear hWf
  have r0 := hkf.cell 0; have r1 := hkf.cell 1; have r2 := hkf.cell 2; have r3 := hkf.cell 3; have r4 := hkf.cell 4; have r5 := hkf.cell 5
  simp at r0 r1 r2 r3 r4 r5
  exact bodyPost_ret (v := .tuple #[hdV ⟨⟨xa, xl, xf, xb, xm⟩, xn⟩, .slice none 0 0, .bool true]) (by simp [results, Tryd.results87, go_sem, hdV, r0, r1, r2, r3, r4, r5]) rfl ⟨rfl, rfl, HOF.out _ _ hfin⟩

theorem fwhen_any (base g o : Nat) (t : TypeId) (cs : Array Value) (v : Value) (l : List Hd) (p : Pl.FP) (now : Int) (w : World) (h : Ffo w base g o t cs v l p) (hn : l.length ≤ 1000) :
    Calls Tryd.prog 88 #[.pointer (some ⟨g, o, none⟩), .int .i64 now] w fun e w' => e = .returned (.tuple #[.int .i64 now, .bool (decide (0 < l.length))]) ∧ w = w' := by
  obtain ⟨A, c, rfl, hnc, _, _⟩ := h.lst.own.reads
  have c0 : w.cell? ⟨g, o, none⟩ = some (.slice A l.length c) := (h.lst.blk.cell o).trans h.lst.c0
  clear h
  by_cases h0 : 0 < l.length
  · have e : decide (0 < l.length) = true := by simpa using h0
    have e2 : decide ((0 : Int) < (l.length : Int)) = true := decide_eq_true (by omega)
    go_enter Tryd.func88, Tryd.ntmps88
    go_wp2_with fail
    refine (len_any _ _ _ _ _ _ c0).mono ?_
    rintro e w1 ⟨rfl, rfl⟩
    go_wp2_with fail
    go_ret2
    exact ⟨by rw [e]; rfl, rfl⟩
  · have e : decide (0 < l.length) = false := by simpa using h0
    have e2 : decide ((0 : Int) < (l.length : Int)) = false := decide_eq_false (by omega)
    go_enter Tryd.func88, Tryd.ntmps88
    go_wp2_with fail
    refine (len_any _ _ _ _ _ _ c0).mono ?_
    rintro e w1 ⟨rfl, rfl⟩
    go_wp2_with fail
    go_ret2
    exact ⟨by rw [e]; rfl, rfl⟩

/-- what the making hands out -/
def NewFifoOut (w : World) (p : Pl.FP) (e : Ending) (w' : World) : Prop :=
  ∃ g, e = .returned (.tuple #[.pointer (some ⟨g, 0, none⟩), .nilIface]) ∧ w.heap.size ≤ g ∧ Below w.heap.size w w' ∧ Ffo w' w.heap.size g 0 120 #[.slice none 0 0, .int .i64 0, .int .i64 p.packets, .int .i64 p.room, .bool p.head] (.slice none 0 0) [] p
set_option maxHeartbeats 1000000 in
theorem newFifo_yes (p : Pl.FP) (w : World) (hp : Pl.FOk p) : Calls Tryd.prog 34 #[.int .i64 p.packets, .int .i64 p.room, .bool p.head] w (NewFifoOut w p) := by
  obtain ⟨pk, rm, hd⟩ := p
  have h1 := hp.pk; have h2 := hp.rm
  dsimp only at h1 h2
  obtain ⟨h1, h3⟩ := h1
  obtain ⟨h2, h4⟩ := h2
  dsimp only
  clear hp
  go_enter Tryd.func34, Tryd.ntmps34
  go_wp2_with fail
  go_ret2
  refine ⟨w.heap.size, rfl, Nat.le_refl _, (Below.refl _ _).alloc (Nat.le_refl _) _, ⟨Blk.new _ _ _, rfl, rfl, OwnW.nil _ _ _ _, by decide⟩, rfl, rfl, rfl⟩
def NewFifoNo (w : World) (e : Ending) (w' : World) : Prop := (∃ k : Int, e = .returned (.tuple #[.pointer none, .iface 61 (.int .i64 k)])) ∧ w = w'
set_option maxHeartbeats 1000000 in
theorem newFifo_no (pk rm : Int) (hd : Bool) (w : World) (hp : pk < 0 ∨ 1000000 < pk ∨ rm < 0 ∨ 1000000 < rm) : Calls Tryd.prog 34 #[.int .i64 pk, .int .i64 rm, .bool hd] w (NewFifoNo w) := by
  by_cases a1 : pk < 0
  · go_enter Tryd.func34, Tryd.ntmps34
    go_wp2_with fail
    go_ret2
    exact ⟨⟨_, rfl⟩, rfl⟩
  by_cases a2 : 1000000 < pk
  · go_enter Tryd.func34, Tryd.ntmps34
    go_wp2_with fail
    go_ret2
    exact ⟨⟨_, rfl⟩, rfl⟩
  by_cases a3 : rm < 0
  · go_enter Tryd.func34, Tryd.ntmps34
    go_wp2_with fail
    go_ret2
    exact ⟨⟨_, rfl⟩, rfl⟩
  have a4 : 1000000 < rm := by omega
  clear hp
  go_enter Tryd.func34, Tryd.ntmps34
  go_wp2_with fail
  go_ret2
  exact ⟨⟨_, rfl⟩, rfl⟩
end Go.Proofs.YtdhojhgmaodifaaDoor
