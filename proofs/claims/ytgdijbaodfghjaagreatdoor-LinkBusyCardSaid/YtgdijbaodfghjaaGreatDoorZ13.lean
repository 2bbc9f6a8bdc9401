/-
  Texts of this claim, one behind the other: Fifo, Fifo2.
-/
import Derived.Test.YtgdijbaodfghjaaGreatDoorZ12
import Derived.Test.YtgdijbaodfghjaaGreatDoorZ01
import Derived.Deep.QuietTactic
import Derived.Deep.DeepMust
/-
  What the plain queue's methods do (queue.Fifo), its five cells anywhere in a block.
-/
namespace Go.Proofs.YtgdijbaodfghjaaGreatDoor
open Go.RowKit Bkt
set_option linter.unusedVariables false

structure Ffo (w : World) (base g o : Nat) (t : TypeId) (cs : Array Value) (v : Value) (l : List Hd) (p : Pl.FP) : Prop where
  lst : Lst w base g o t cs v l (Pl.tot l)
  c2 : cs[o + 2]? = some (.int .i64 p.packets)
  c3 : cs[o + 3]? = some (.int .i64 p.room)
  c4 : cs[o + 4]? = some (.bool p.head)
def FfoTo (w w' : World) (base g o : Nat) (t : TypeId) (cs : Array Value) (v : Value) (l' : List Hd) (p : Pl.FP) : Prop :=
  ∃ v' cs', Ffo w' base g o t cs' v' l' p ∧ Chg w w' (fun i => i = g ∨ v.ownBlock = some i) ∧ (v'.ownBlock = v.ownBlock ∨ ∀ i, v'.ownBlock = some i → w.heap.size ≤ i) ∧ ∀ i, i ≠ o → i ≠ o + 1 → cs'[i]? = cs[i]?
structure HdsOk (l : List Hd) : Prop where
  n : l.length ≤ 1000
  b : ∀ x ∈ l, 0 ≤ x.it.len ∧ x.it.len ≤ 10000
theorem tot_bd {l : List Hd} (h : ∀ x ∈ l, 0 ≤ x.it.len ∧ x.it.len ≤ 10000) : 0 ≤ Pl.tot l ∧ Pl.tot l ≤ 10000 * l.length := by
  induction l with
  | nil => simp [Pl.tot, Pl.sumLen]
  | cons x r ih =>
    have h1 := h x (by simp)
    have h2 := ih fun y hy => h y (by simp [hy])
    rw [Pl.tot_cons, List.length_cons]
    omega
theorem HdsOk.tot {l : List Hd} (h : HdsOk l) : 0 ≤ Pl.tot l ∧ Pl.tot l ≤ 10000000 := by
  have := tot_bd h.b
  have := h.n
  omega
section
variable {w w' w'' : World} {base g o : Nat} {t : TypeId} {cs : Array Value} {v v' : Value} {l l' : List Hd} {p : Pl.FP}
theorem Ffo.of_lst (h : Ffo w base g o t cs v l p) {b : Int} (h' : LstTo w w' base g o t cs v v' l' b) (e : b = Pl.tot l') : FfoTo w w' base g o t cs v l' p := by
  subst e
  refine ⟨v', _, ⟨h'.lst, ?_, ?_, ?_⟩, h'.chg, h'.at_, fun i h1 h2 => ?_⟩
  · rw [Array.getElem?_setIfInBounds, if_neg (by omega), Array.getElem?_setIfInBounds, if_neg (by omega)]; exact h.c2
  · rw [Array.getElem?_setIfInBounds, if_neg (by omega), Array.getElem?_setIfInBounds, if_neg (by omega)]; exact h.c3
  · rw [Array.getElem?_setIfInBounds, if_neg (by omega), Array.getElem?_setIfInBounds, if_neg (by omega)]; exact h.c4
  · rw [Array.getElem?_setIfInBounds, if_neg (by omega), Array.getElem?_setIfInBounds, if_neg (by omega)]
theorem Ffo.below (h : Ffo w base g o t cs v l p) (hb : Below w.heap.size w w') : Ffo w' base g o t cs v l p := ⟨h.lst.below hb, h.c2, h.c3, h.c4⟩
theorem Lst.chg {S : Nat → Prop} {b : Int} (h : Lst w base g o t cs v l b) (hc : Chg w w' S) (h1 : ¬ S g) (h2 : ∀ i, v.ownBlock = some i → ¬ S i) : Lst w' base g o t cs v l b :=
  ⟨h.blk.chg hc h1, h.c0, h.c1, h.own.chg hc h2, h.ne⟩
theorem Ffo.chg {S : Nat → Prop} (h : Ffo w base g o t cs v l p) (hc : Chg w w' S) (h1 : ¬ S g) (h2 : ∀ i, v.ownBlock = some i → ¬ S i) : Ffo w' base g o t cs v l p := ⟨h.lst.chg hc h1 h2, h.c2, h.c3, h.c4⟩
theorem FfoTo.refl (h : Ffo w base g o t cs v l p) (hb : Below w.heap.size w w') : FfoTo w w' base g o t cs v l p := ⟨v, cs, h.below hb, Chg.of_below hb, .inl rfl, fun _ _ _ => rfl⟩
theorem FfoTo.then_ {l'' : List Hd} (h : FfoTo w w' base g o t cs v l' p) (hg : g < w.heap.size) (h' : ∀ v1 cs1, Ffo w' base g o t cs1 v1 l' p → FfoTo w' w'' base g o t cs1 v1 l'' p) : FfoTo w w'' base g o t cs v l'' p := by
  obtain ⟨v1, cs1, f1, c1, a1, e1⟩ := h
  obtain ⟨v2, cs2, f2, c2, a2, e2⟩ := h' v1 cs1 f1
  refine ⟨v2, cs2, f2, c1.trans c2 (fun i hi hs => ?_), ?_, fun i hi hi2 => (e2 i hi hi2).trans (e1 i hi hi2)⟩
  · rcases hs with hs | hs
    · exact .inl hs
    · rcases a1 with e | e
      · exact .inr (e ▸ hs)
      · have := e i hs; omega
  · rcases a2 with e | e
    · rw [e]; exact a1
    · exact .inr fun i hi => Nat.le_trans c1.size (e i hi)
theorem FfoTo.behind (hb : Below w.heap.size w w') (h : FfoTo w' w'' base g o t cs v l' p) : FfoTo w w'' base g o t cs v l' p := by
  obtain ⟨v2, cs2, f2, c2, a2, e2⟩ := h
  exact ⟨v2, cs2, f2, (Chg.of_below hb).trans c2 (fun i _ hs => hs), a2.imp id (fun h i hi => Nat.le_trans hb.size (h i hi)), e2⟩
theorem FfoTo.same (h : FfoTo w w' base g o t cs v l' p) (hg : g < w.heap.size) (hb : Below w'.heap.size w' w'') : FfoTo w w'' base g o t cs v l' p :=
  h.then_ hg fun _ _ f => FfoTo.refl f hb
end

theorem len_q (g o n c : Nat) (A : Option Addr) (w : World) (hc : w.cell? ⟨g, o, none⟩ = some (.slice A n c)) : Calls Tryz.prog 108 #[.pointer (some ⟨g, o, none⟩)] w fun e w' => e = .returned (.int .i64 n) ∧ w' = w :=
  (len_any g o n c A w hc).mono fun _ _ ⟨a, b⟩ => ⟨a, b.symm⟩
theorem bytes_q (g o : Nat) (b : Int) (w : World) (hc : w.cell? ⟨g, o + 1, none⟩ = some (.int .i64 b)) : Calls Tryz.prog 107 #[.pointer (some ⟨g, o, none⟩)] w fun e w' => e = .returned (.int .i64 b) ∧ w' = w :=
  (bytes_any g o b w hc).mono fun _ _ ⟨a, b⟩ => ⟨a, b.symm⟩

theorem blk_second (w : World) (n : Nat) (X X' : Array Value) (t t' : TypeId) : Blk (((w.alloc (.cells X t)).drewN n).alloc (.cells X' t')) (w.heap.size + 1) t' X' := by
  have := Blk.new ((w.alloc (.cells X t)).drewN n) t' X'
  rwa [show ((w.alloc (.cells X t)).drewN n).heap.size = w.heap.size + 1 from by show (w.alloc (.cells X t)).heap.size = _; simp] at this
theorem rdHd_one {w : World} {g : Nat} {t : TypeId} {x : Hd} {cs : Array Value} (h : Blk w g t cs) (hc : cs.toList = hdCells x) : RdR HdR w w.heap.size (some ⟨g, 0, none⟩) 1 [x] := by
  refine ⟨by simp [HdR, hdCells], fun _ => ⟨_, rfl, h.lt, fun j u hu => ?_⟩⟩
  rw [Addr.add_lit, Nat.zero_add, h.cell j]
  have e : [x].flatMap HdR.cells = cs.toList := by rw [hc]; simp [HdR]
  rw [e] at hu
  simpa using hu
def FPutOut (w : World) (base g o : Nat) (t : TypeId) (cs : Array Value) (v : Value) (r : List Hd × List Hd) (p : Pl.FP) (e : Ending) (w' : World) : Prop :=
  ∃ A n c, e = .returned (.slice A n c) ∧ RdR HdR w' w'.heap.size A n r.1 ∧ (∀ ad, A = some ad → w.heap.size ≤ ad.block) ∧ FfoTo w w' base g o t cs v r.2 p

set_option maxHeartbeats 1000000 in
set_option maxRecDepth 100000 in
theorem fput_full (base g o : Nat) (t : TypeId) (cs : Array Value) (v : Value) (l : List Hd) (p : Pl.FP) (now : Int) (x : Hd) (w : World) (h : Ffo w base g o t cs v l p) (hl : HdsOk l) (hx : 0 ≤ x.it.len ∧ x.it.len ≤ 10000)
    (hp : p.head = false) (hf : p.packets ≤ (l.length : Int) ∨ p.room < Pl.tot l + x.it.len) :
    Calls Tryz.prog 109 #[.pointer (some ⟨g, o, none⟩), .int .i64 now, hdV x] w (FPutOut w base g o t cs v ([x], l) p) := by
  have hgl := h.lst.blk.lt
  obtain ⟨A, c, rfl, hnc, _, _⟩ := h.lst.own.reads
  have hb0 : Below w.heap.size w (w.alloc (.cells #[.int .i64 x.it.at_, .int .i64 x.it.len, .int .i64 x.it.flow, .int .i64 x.it.band, .int .i64 x.it.mark, .int .i64 x.num] 78)) := (Below.refl _ _).alloc (Nat.le_refl _) _
  have c0 : w.cell? ⟨g, o, none⟩ = some (.slice A l.length c) := (h.lst.blk.cell o).trans h.lst.c0
  have c1 : w.cell? ⟨g, o + 1, none⟩ = some (.int .i64 (Pl.tot l)) := (h.lst.blk.cell (o + 1)).trans h.lst.c1
  have c2 : w.cell? ⟨g, o + 2, none⟩ = some (.int .i64 p.packets) := (h.lst.blk.cell (o + 2)).trans h.c2
  have c3 : w.cell? ⟨g, o + 3, none⟩ = some (.int .i64 p.room) := (h.lst.blk.cell (o + 3)).trans h.c3
  have c4 : w.cell? ⟨g, o + 4, none⟩ = some (.bool false) := (h.lst.blk.cell (o + 4)).trans (hp ▸ h.c4)
  have d0 := (hb0.cell (p := ⟨g, o, none⟩) hgl).trans c0
  have d1 := (hb0.cell (p := ⟨g, o + 1, none⟩) hgl).trans c1
  have htot := hl.tot
  have H := Lib.hid h
  have n1 : w.heap.size ≠ g := by omega
  have n2 : g ≠ w.heap.size := by omega
  obtain ⟨⟨xa, xl, xf, xb, xm⟩, xn⟩ := x
  unfold hdV
  dsimp only at hx hf hb0 ⊢
  obtain ⟨hx0, hx1⟩ := hx
  obtain ⟨pk, rm, hd⟩ := p
  dsimp only at hp hf c2 c3
  subst hp
  clear h
  generalize Pl.tot l = b at *
  by_cases hpk : pk ≤ (l.length : Int)
  · have t1 : decide (pk ≤ (l.length : Int)) = true := by simpa using hpk
    go_enter Tryz.func109, Tryz.ntmps109
    go_wp2_with fail
    go_quiet (first | (go_at_call 108; exact Calls.quiet_of_same (len_q _ _ _ _ _ _ (by assumption))) | (go_at_call 107; exact Calls.quiet_of_same (bytes_q _ _ _ _ (by assumption))))
    go_wp2_with fail
    go_ret
    exact ⟨_, 1, 1, rfl, rdHd_one (blk_second w nq _ _ _ _) rfl, fun ad e => by injection e with e; subst e; show _ ≤ w.heap.size + 1; omega, FfoTo.refl H.out (bl_alloc (bl_drewN hb0))⟩
  · have t1 : decide (pk ≤ (l.length : Int)) = false := by simpa using hpk
    have t2 : rm < b + xl := by omega
    have t3 : decide (rm < b + xl) = true := by simpa using t2
    have e1 : IntKind.i64.wrap (b + xl) = b + xl := IntWalk.i64_in _ (by omega)
    go_enter Tryz.func109, Tryz.ntmps109
    go_wp2_with fail
    go_quiet (first | (go_at_call 108; exact Calls.quiet_of_same (len_q _ _ _ _ _ _ (by assumption))) | (go_at_call 107; exact Calls.quiet_of_same (bytes_q _ _ _ _ (by assumption))))
    go_wp2_with fail
    go_ret
    exact ⟨_, 1, 1, rfl, rdHd_one (blk_second w nq _ _ _ _) rfl, fun ad e => by injection e with e; subst e; show _ ≤ w.heap.size + 1; omega, FfoTo.refl H.out (bl_alloc (bl_drewN hb0))⟩

set_option maxHeartbeats 1000000 in
set_option maxRecDepth 100000 in
theorem fput_add (base g o : Nat) (t : TypeId) (cs : Array Value) (v : Value) (l : List Hd) (p : Pl.FP) (now : Int) (x : Hd) (w : World) (h : Ffo w base g o t cs v l p) (hl : HdsOk l) (hx : 0 ≤ x.it.len ∧ x.it.len ≤ 10000) (hbase : base ≤ w.heap.size)
    (hp : p.head = false) (hf1 : (l.length : Int) < p.packets) (hf2 : Pl.tot l + x.it.len ≤ p.room) :
    Calls Tryz.prog 109 #[.pointer (some ⟨g, o, none⟩), .int .i64 now, hdV x] w (FPutOut w base g o t cs v ([], l ++ [x]) p) := by
  have hgl := h.lst.blk.lt
  have hb0 : Below w.heap.size w (w.alloc (.cells #[.int .i64 x.it.at_, .int .i64 x.it.len, .int .i64 x.it.flow, .int .i64 x.it.band, .int .i64 x.it.mark, .int .i64 x.num] 78)) := (Below.refl _ _).alloc (Nat.le_refl _) _
  have htot := hl.tot
  have hadd := fun W (hW : Below w.heap.size w W) => add_any base g o t cs v l (Pl.tot l) x W (h.lst.below hW) (Nat.le_trans hbase hW.size) hl.n htot.1 (by omega) hx.1 (by omega)
  have hfin := fun W W' v' (hW : Below w.heap.size w W) (h' : LstTo W W' base g o t cs v v' (l ++ [x]) (Pl.tot l + x.it.len)) => FfoTo.behind hW ((h.below hW).of_lst h' (Pl.tot_snoc l x).symm)
  obtain ⟨A, c, rfl, hnc, _, _⟩ := h.lst.own.reads
  have c0 : w.cell? ⟨g, o, none⟩ = some (.slice A l.length c) := (h.lst.blk.cell o).trans h.lst.c0
  have c1 : w.cell? ⟨g, o + 1, none⟩ = some (.int .i64 (Pl.tot l)) := (h.lst.blk.cell (o + 1)).trans h.lst.c1
  have c2 : w.cell? ⟨g, o + 2, none⟩ = some (.int .i64 p.packets) := (h.lst.blk.cell (o + 2)).trans h.c2
  have c3 : w.cell? ⟨g, o + 3, none⟩ = some (.int .i64 p.room) := (h.lst.blk.cell (o + 3)).trans h.c3
  have c4 : w.cell? ⟨g, o + 4, none⟩ = some (.bool false) := (h.lst.blk.cell (o + 4)).trans (hp ▸ h.c4)
  have d0 := (hb0.cell (p := ⟨g, o, none⟩) hgl).trans c0
  have d1 := (hb0.cell (p := ⟨g, o + 1, none⟩) hgl).trans c1
  have HADD := Lib.hid hadd; have HFIN := Lib.hid hfin
  have n1 : w.heap.size ≠ g := by omega
  have n2 : g ≠ w.heap.size := by omega
  obtain ⟨⟨xa, xl, xf, xb, xm⟩, xn⟩ := x
  unfold hdV at HADD ⊢
  dsimp only at hx hf2 hb0 HADD ⊢
  obtain ⟨hx0, hx1⟩ := hx
  obtain ⟨pk, rm, hd⟩ := p
  dsimp only at hp hf1 hf2 c2 c3
  subst hp
  clear h hadd hfin
  generalize Pl.tot l = b at *
  have t1 : decide (pk ≤ (l.length : Int)) = false := by simpa using hf1
  have t3 : decide (rm < b + xl) = false := by simpa using hf2
  have e1 : IntKind.i64.wrap (b + xl) = b + xl := IntWalk.i64_in _ (by omega)
  go_enter Tryz.func109, Tryz.ntmps109
  go_wp2_with fail
  go_quiet (first | (go_at_call 108; exact Calls.quiet_of_same (len_q _ _ _ _ _ _ (by assumption))) | (go_at_call 107; exact Calls.quiet_of_same (bytes_q _ _ _ _ (by assumption))))
  go_wp2_with fail
  have hb1 : Below w.heap.size w ((w.alloc (.cells #[.int .i64 xa, .int .i64 xl, .int .i64 xf, .int .i64 xb, .int .i64 xm, .int .i64 xn] 78)).drewN nq) := bl_drewN hb0
  have hk := (Blk.new w 78 #[.int .i64 xa, .int .i64 xl, .int .i64 xf, .int .i64 xb, .int .i64 xm, .int .i64 xn]).drewN nq
  clear d0 d1
  generalize (w.alloc (.cells #[.int .i64 xa, .int .i64 xl, .int .i64 xf, .int .i64 xb, .int .i64 xm, .int .i64 xn] 78)).drewN nq = W at *
  have k0 : W.cell? ⟨w.heap.size, 0, none⟩ = some (.int .i64 xa) := hk.cell 0
  have k1 : W.cell? ⟨w.heap.size, 1, none⟩ = some (.int .i64 xl) := hk.cell 1
  have k2 : W.cell? ⟨w.heap.size, 2, none⟩ = some (.int .i64 xf) := hk.cell 2
  have k3 : W.cell? ⟨w.heap.size, 3, none⟩ = some (.int .i64 xb) := hk.cell 3
  have k4 : W.cell? ⟨w.heap.size, 4, none⟩ = some (.int .i64 xm) := hk.cell 4
  have k5 : W.cell? ⟨w.heap.size, 5, none⟩ = some (.int .i64 xn) := hk.cell 5
  have hb2 := bl_drew hb1
  have HB2 := Lib.hid hb2
  clear hk hb0 hb1 hb2
  go_still_tail 4, (by kernel_rfl)
  change wpList _ _ _ _ _ W.drew
  go_wp2_with fail
  refine (HADD.out _ HB2.out).mono ?_
  rintro e w1 ⟨rfl, v', hl'⟩
  have hf' := HFIN.out _ _ _ HB2.out hl'
  have HF' := Lib.hid hf'
  clear hl' hf'
  go_wp2_with fail
  go_ret
  exact ⟨none, 0, 0, rfl, RdR.nil, (fun ad e => by cases e), HF'.out⟩

def sliceLen : Value → Nat
  | .slice _ n _ => n
  | _ => 0
theorem OwnW.slen {w : World} {base e size n : Nat} {v : Value} {xs : List Value} (h : OwnW w base e size v n xs) : sliceLen v = n := by
  obtain ⟨A, c, rfl, _⟩ := h.reads
  rfl
structure CutRel (w wr : World) (base g o : Nat) (t : TypeId) (cs : Array Value) (v : Value) (p : Pl.FP) (all : List Hd) (cs1 : Array Value) (v1 : Value) (gone left : List Hd) (out : Value) : Prop where
  f : Ffo wr base g o t cs1 v1 left p
  chg : Chg w wr (fun i => i = g ∨ v.ownBlock = some i)
  at_ : v1.ownBlock = v.ownBlock ∨ ∀ i, v1.ownBlock = some i → w.heap.size ≤ i
  eq : ∀ i, i ≠ o → i ≠ o + 1 → cs1[i]? = cs[i]?
  own : OwnW wr w.heap.size 78 HdR.sz out gone.length (gone.flatMap HdR.cells)
  ne : ∀ i, out.ownBlock = some i → v1.ownBlock ≠ some i
  one : (Pl.cutQ p.packets p.room all).1 = gone ++ (Pl.cutQ p.packets p.room left).1
  two : (Pl.cutQ p.packets p.room all).2 = (Pl.cutQ p.packets p.room left).2
  len : gone.length + left.length = all.length
  sub : ∀ x ∈ left, x ∈ all
theorem Pl.cutQ_yes {P R : Int} {x : Hd} {r : List Hd} (h : P < ((x :: r).length : Int) ∨ R < Pl.tot (x :: r)) : Pl.cutQ P R (x :: r) = (x :: (Pl.cutQ P R r).1, (Pl.cutQ P R r).2) := by
  rw [Pl.cutQ, if_pos h]
theorem Pl.cutQ_no {P R : Int} {x : Hd} {r : List Hd} (h : ¬ (P < ((x :: r).length : Int) ∨ R < Pl.tot (x :: r))) : Pl.cutQ P R (x :: r) = ([], x :: r) := by
  rw [Pl.cutQ, if_neg h]
theorem CutRel.step {w wr w2 w3 : World} {base g o n : Nat} {t : TypeId} {cs cs1 : Array Value} {v v1 v2 out out' : Value} {p : Pl.FP} {all gone r : List Hd} {y : Hd}
    (h : CutRel w wr base g o t cs v p all cs1 v1 gone (y :: r) out) (hg : g < w.heap.size) (ht : p.packets < ((y :: r).length : Int) ∨ p.room < Pl.tot (y :: r))
    (hn : LstTo (wr.drewN n) w2 base g o t cs1 v1 v2 r (Pl.tot (y :: r) - y.it.len)) (hown : OwnW w3 w.heap.size 78 HdR.sz out' (gone.length + 1) ((gone ++ [y]).flatMap HdR.cells))
    (hgr : w2.grownBy w3 out.ownBlock) (hat : out'.ownBlock = out.ownBlock ∨ ∀ g, out'.ownBlock = some g → w2.heap.size ≤ g) :
    ∃ cs2, CutRel w w3 base g o t cs v p all cs2 v2 (gone ++ [y]) r out' := by
  have hf1 : Ffo (wr.drewN n) base g o t cs1 v1 (y :: r) p := h.f.below (bl_drewN (Below.refl _ _))
  have hf2 : FfoTo (wr.drewN n) w2 base g o t cs1 v1 r p := hf1.of_lst hn (by rw [Pl.tot_cons]; omega)
  have hsz : (wr.drewN n).heap.size = wr.heap.size := rfl
  have hlt := h.own.lt
  have hv1 := h.f.lst.own.lt
  have h2g : out.ownBlock ≠ some g := h.own.blk_ne h.f.lst.blk (Ne.symm h.f.lst.ne)
  -- the list's own next words
  have k2 : Lst w2 base g o t _ v2 r (Pl.tot (y :: r) - y.it.len) := hn.lst
  have hb2 := k2.own.lt
  have hne2 : ∀ i, out.ownBlock = some i → v2.ownBlock ≠ some i := by
    intro i hi e
    rcases hn.at_ with e2 | e2
    · exact h.ne i hi (e2 ▸ e)
    · have h1 := e2 i e; have h2 := (hlt i hi).2; omega
  have hcg : Chg w2 w3 (fun i => out.ownBlock = some i) := Chg.of_grown hgr (fun i hi => hi.symm)
  have hk3 := k2.chg hcg h2g (fun i hi e => hne2 i e hi)
  have eb : Pl.tot (y :: r) - y.it.len = Pl.tot r := by rw [Pl.tot_cons]; omega
  rw [eb] at hk3
  have hy := Pl.cutQ_yes ht
  have one := h.one; have two := h.two
  rw [hy] at one two
  refine ⟨_, ⟨hk3, ?_, ?_, ?_⟩, ?_, ?_, ?_, ?_, ?_, ?_, ?_, ?_, ?_⟩
  · rw [Array.getElem?_setIfInBounds, if_neg (by omega), Array.getElem?_setIfInBounds, if_neg (by omega)]; exact h.f.c2
  · rw [Array.getElem?_setIfInBounds, if_neg (by omega), Array.getElem?_setIfInBounds, if_neg (by omega)]; exact h.f.c3
  · rw [Array.getElem?_setIfInBounds, if_neg (by omega), Array.getElem?_setIfInBounds, if_neg (by omega)]; exact h.f.c4
  · refine ((h.chg.drewN n).trans hn.chg (fun i hi hs => ?_)).trans hcg (fun i hi hs => ?_)
    · rcases hs with hs | hs
      · exact .inl hs
      · rcases h.at_ with e | e
        · exact .inr (e ▸ hs)
        · have := e i hs; omega
    · have := (hlt i hs).1; omega
  · rcases hn.at_ with e | e
    · rw [e]; exact h.at_
    · exact .inr fun i hi => by have h1 := e i hi; have h2 := h.chg.size; omega
  · intro i h1 h2
    rw [Array.getElem?_setIfInBounds, if_neg (by omega), Array.getElem?_setIfInBounds, if_neg (by omega)]
    exact h.eq i h1 h2
  · rw [List.length_append]; exact hown
  · intro i hi e
    rcases hat with e2 | e2
    · exact hne2 i (e2 ▸ hi) e
    · have h1 := e2 i hi; have h2 := (hb2 i e).2; omega
  · rw [one]; simp
  · rw [two]
  · have := h.len; simp at this ⊢; omega
  · exact fun x hx => h.sub x (List.mem_cons_of_mem _ hx)

set_option maxHeartbeats 2000000 in
set_option maxRecDepth 100000 in
theorem fput_head (base g o : Nat) (t : TypeId) (cs : Array Value) (v : Value) (l : List Hd) (p : Pl.FP) (now : Int) (x : Hd) (w : World) (h : Ffo w base g o t cs v l p) (hl : HdsOk l) (hx : 0 ≤ x.it.len ∧ x.it.len ≤ 10000) (hbase : base ≤ w.heap.size) (hn : l.length < 1000)
    (hp : p.head = true) (hok : Pl.FOk p) :
    Calls Tryz.prog 109 #[.pointer (some ⟨g, o, none⟩), .int .i64 now, hdV x] w (FPutOut w base g o t cs v (Pl.cutQ p.packets p.room (l ++ [x])) p) := by
  have hgl := h.lst.blk.lt
  have hb0 : Below w.heap.size w (w.alloc (.cells #[.int .i64 x.it.at_, .int .i64 x.it.len, .int .i64 x.it.flow, .int .i64 x.it.band, .int .i64 x.it.mark, .int .i64 x.num] 78)) := (Below.refl _ _).alloc (Nat.le_refl _) _
  have htot := hl.tot
  have hadd := fun W (hW : Below w.heap.size w W) => add_any base g o t cs v l (Pl.tot l) x W (h.lst.below hW) (Nat.le_trans hbase hW.size) hl.n htot.1 (by omega) hx.1 (by omega)
  have hfin := fun W W' v' (hW : Below w.heap.size w W) (h' : LstTo W W' base g o t cs v v' (l ++ [x]) (Pl.tot l + x.it.len)) => FfoTo.behind hW ((h.below hW).of_lst h' (Pl.tot_snoc l x).symm)
  have hall : HdsOk (l ++ [x]) := ⟨by simp; omega, fun y hy => by
    rcases List.mem_append.1 hy with hy | hy
    · exact hl.b y hy
    · simp at hy; subst hy; exact hx⟩
  obtain ⟨A, c, rfl, hnc, _, _⟩ := h.lst.own.reads
  have c4 : w.cell? ⟨g, o + 4, none⟩ = some (.bool true) := (h.lst.blk.cell (o + 4)).trans (hp ▸ h.c4)
  have HADD := Lib.hid hadd; have HFIN := Lib.hid hfin; have HALL := Lib.hid hall
  have n1 : w.heap.size ≠ g := by omega
  have n2 : g ≠ w.heap.size := by omega
  obtain ⟨⟨xa, xl, xf, xb, xm⟩, xn⟩ := x
  unfold hdV at HADD ⊢
  dsimp only at hx hb0 HADD ⊢
  obtain ⟨hx0, hx1⟩ := hx
  clear h hadd hfin hall
  have hk := Blk.new w 78 #[.int .i64 xa, .int .i64 xl, .int .i64 xf, .int .i64 xb, .int .i64 xm, .int .i64 xn]
  have HK := Lib.hid hk
  clear hk
  go_enter Tryz.func109, Tryz.ntmps109
  go_wp2_with fail
  have hk := HK.out
  generalize (w.alloc (.cells #[.int .i64 xa, .int .i64 xl, .int .i64 xf, .int .i64 xb, .int .i64 xm, .int .i64 xn] 78)) = W at *
  have k0 : W.cell? ⟨w.heap.size, 0, none⟩ = some (.int .i64 xa) := hk.cell 0
  have k1 : W.cell? ⟨w.heap.size, 1, none⟩ = some (.int .i64 xl) := hk.cell 1
  have k2 : W.cell? ⟨w.heap.size, 2, none⟩ = some (.int .i64 xf) := hk.cell 2
  have k3 : W.cell? ⟨w.heap.size, 3, none⟩ = some (.int .i64 xb) := hk.cell 3
  have k4 : W.cell? ⟨w.heap.size, 4, none⟩ = some (.int .i64 xm) := hk.cell 4
  have k5 : W.cell? ⟨w.heap.size, 5, none⟩ = some (.int .i64 xn) := hk.cell 5
  have hb2 := bl_drew hb0
  have HB2 := Lib.hid hb2
  clear hk hb0 hb2
  go_still_tail 4, (by kernel_rfl)
  change wpList _ _ _ _ _ W.drew
  go_wp2_with fail
  refine (HADD.out _ HB2.out).mono ?_
  rintro e w1 ⟨rfl, v', hl'⟩
  have hf' := HFIN.out _ _ _ HB2.out hl'
  clear hl' k0 k1 k2 k3 k4 k5 c4
  obtain ⟨v1, cs1, f1, g1, a1, e1⟩ := hf'
  have hrel0 : CutRel w w1 base g o t cs (.slice A l.length c) p (l ++ [(⟨⟨xa, xl, xf, xb, xm⟩, xn⟩ : Hd)]) cs1 v1 [] (l ++ [(⟨⟨xa, xl, xf, xb, xm⟩, xn⟩ : Hd)]) (.slice none 0 0) :=
    ⟨f1, g1, a1, e1, OwnW.nil _ _ _ _, (fun i h => by simp [Value.ownBlock] at h), rfl, rfl, by simp, fun _ hx => hx⟩
  generalize l ++ [(⟨⟨xa, xl, xf, xb, xm⟩, xn⟩ : Hd)] = all at *
  have HF0 := Lib.hid hrel0
  clear f1 g1 a1 e1 hrel0
  go_wp2_with fail
  go_loopw [7] (fun out wr => ∃ gone left v1 cs1, CutRel w wr base g o t cs (.slice A l.length c) p all cs1 v1 gone left out) (fun out _ => all.length - sliceLen out)
  case atStart => exact ⟨_, _, _, _, HF0.out⟩
  case round =>
    obtain ⟨gone, left, v1, cs1, hr⟩ := hrel
    have hlen := hr.len
    have hso := hr.own.slen
    have hall := HALL.out
    have hleft : HdsOk left := ⟨by have := hall.n; omega, fun y hy => hall.b y (hr.sub y hy)⟩
    have htl := hleft.tot
    obtain ⟨A1, cc, rfl, _, _, _⟩ := hr.f.lst.own.reads
    obtain ⟨Ao, co, rfl, _, _, _⟩ := hr.own.reads
    have c0 : wr.cell? ⟨g, o, none⟩ = some (.slice A1 left.length cc) := (hr.f.lst.blk.cell o).trans hr.f.lst.c0
    have c1 : wr.cell? ⟨g, o + 1, none⟩ = some (.int .i64 (Pl.tot left)) := (hr.f.lst.blk.cell (o + 1)).trans hr.f.lst.c1
    have c2 : wr.cell? ⟨g, o + 2, none⟩ = some (.int .i64 p.packets) := (hr.f.lst.blk.cell (o + 2)).trans hr.f.c2
    have c3 : wr.cell? ⟨g, o + 3, none⟩ = some (.int .i64 p.room) := (hr.f.lst.blk.cell (o + 3)).trans hr.f.c3
    have hln := hleft.n
    have halln := hall.n
    have HR := Lib.hid hr; have HSO := Lib.hid hso; have HLEFT := Lib.hid hleft
    obtain ⟨pk, rm, hd⟩ := p
    dsimp only at c2 c3 hp
    have hok1 := hok.pk.1; have hok2 := hok.rm.1
    dsimp only at hok1 hok2
    by_cases ht : pk < (left.length : Int) ∨ rm < Pl.tot left
    · obtain ⟨y, r, rfl⟩ : ∃ y r, left = y :: r := by
        cases left with
        | nil => simp [Pl.tot_nil] at ht; omega
        | cons y r => exact ⟨y, r, rfl⟩
      have hy := HLEFT.out.b y (by simp)
      have hr1 : r.length ≤ 1000 := by rw [List.length_cons] at hln; omega
      have hnx := fun n => next_some base g o t cs1 _ y r (Pl.tot (y :: r)) (wr.drewN n) ((hr.f.below (bl_drewN (Below.refl _ _))).lst) hr1 htl.1 (by omega) hy.1 (by omega)
      have how : ∀ n w2 v2, LstTo (wr.drewN n) w2 base g o t cs1 (.slice A1 (y :: r).length cc) v2 r (Pl.tot (y :: r) - y.it.len) → OwnW w2 w.heap.size 78 HdR.sz (.slice Ao gone.length co) gone.length (gone.flatMap HdR.cells) := fun n w2 v2 h2 =>
        hr.own.chg (w := wr.drewN n) h2.chg (fun i hi hs => by
          rcases hs with hs | hs
          · exact hr.own.blk_ne hr.f.lst.blk (Ne.symm hr.f.lst.ne) (hs ▸ hi)
          · exact hr.ne i hi hs)
      have hsz : ∀ n w2 v2, LstTo (wr.drewN n) w2 base g o t cs1 (.slice A1 (y :: r).length cc) v2 r (Pl.tot (y :: r) - y.it.len) → w.heap.size ≤ w2.heap.size := fun n w2 v2 h2 => Nat.le_trans hr.chg.size h2.chg.size
      have HNX := Lib.hid hnx; have HOW := Lib.hid how; have HSZ := Lib.hid hsz; have HT := Lib.hid ht
      obtain ⟨⟨ya, yl, yf, yb, ym⟩, yn⟩ := y
      dsimp only at hy
      unfold NextOut hdV at HNX
      dsimp only at HNX
      generalize hbe : Pl.tot ((⟨⟨ya, yl, yf, yb, ym⟩, yn⟩ : Hd) :: r) = b at *
      generalize hme : (((⟨⟨ya, yl, yf, yb, ym⟩, yn⟩ : Hd) :: r).length) = m at *
      have HBE := Lib.hid hbe; have HME := Lib.hid hme
      have hm0 : m = r.length + 1 := by rw [← hme]; rfl
      have hlen2 : gone.length + r.length + 1 = all.length := by omega
      clear hbe hme hm0 hlen
      clear hr hso hleft hall hnx how hsz
      by_cases hpk : pk < (m : Int)
      · have t1 : decide (pk < (m : Int)) = true := by simpa using hpk
        go_wp2_with fail
        go_quiet (first | (go_at_call 108; exact Calls.quiet_of_same (len_q _ _ _ _ _ _ (by assumption))) | (go_at_call 107; exact Calls.quiet_of_same (bytes_q _ _ _ _ (by assumption))))
        go_wp2_with fail
        refine (HNX.out nq).mono ?_
        rintro e w2 ⟨rfl, v2, hl2⟩
        have hk2 := hl2.lst
        have HL2 := Lib.hid hl2
        clear hl2 hk2
        have hlt2 := HR.out.own.lt
        have hown2 := (HOW.out _ _ _ HL2.out).alloc (.cells #[.int .i64 ya, .int .i64 yl, .int .i64 yf, .int .i64 yb, .int .i64 ym, .int .i64 yn] 78)
        have hsz2 : w.heap.size ≤ w2.heap.size := HSZ.out _ _ _ HL2.out
        go_wp2_with (at_builtin; go_must (refine wpList_addW HdR rfl (.tmp 78) (.tmp 80) _ w.heap.size 78 _ 48 Tryz.underlying76 Tryz.heldInfo rfl rfl _ gone.length gone ⟨⟨ya, yl, yf, yb, ym⟩, yn⟩ _ hown2 rfl rfl (by show Value.slice (some ⟨w2.heap.size + 1, 0, none⟩) 1 1 = _; simp) (hd_one _) (by omega) (by omega) (by simp; omega) ?_); intro v' w3 h1 h2 h3)
        have hgr := (World.grownBy_alloc w2 (.cells #[.int .i64 ya, .int .i64 yl, .int .i64 yf, .int .i64 yb, .int .i64 ym, .int .i64 yn] 78) (Value.slice Ao gone.length co).ownBlock).trans h2
        have hfin := CutRel.step HR.out hgl (HBE.out.symm ▸ HME.out.symm ▸ HT.out) (HBE.out.symm ▸ HL2.out) h1 hgr (h3.imp id fun h g hg => by have := h g hg; simp at this; omega)
        have hs1 := h1.slen
        obtain ⟨cs2, hfin⟩ := hfin
        refine ⟨⟨_, _, _, _, hfin⟩, ?_⟩
        rw [hs1]
        show all.length - (gone.length + 1) < all.length - gone.length
        omega
      · have t1 : decide (pk < (m : Int)) = false := by simpa using hpk
        have t2 : decide (rm < b) = true := by simp; omega
        go_wp2_with fail
        go_quiet (first | (go_at_call 108; exact Calls.quiet_of_same (len_q _ _ _ _ _ _ (by assumption))) | (go_at_call 107; exact Calls.quiet_of_same (bytes_q _ _ _ _ (by assumption))))
        go_wp2_with fail
        refine (HNX.out nq).mono ?_
        rintro e w2 ⟨rfl, v2, hl2⟩
        have hk2 := hl2.lst
        have HL2 := Lib.hid hl2
        clear hl2 hk2
        have hlt2 := HR.out.own.lt
        have hown2 := (HOW.out _ _ _ HL2.out).alloc (.cells #[.int .i64 ya, .int .i64 yl, .int .i64 yf, .int .i64 yb, .int .i64 ym, .int .i64 yn] 78)
        have hsz2 : w.heap.size ≤ w2.heap.size := HSZ.out _ _ _ HL2.out
        go_wp2_with (at_builtin; go_must (refine wpList_addW HdR rfl (.tmp 78) (.tmp 80) _ w.heap.size 78 _ 48 Tryz.underlying76 Tryz.heldInfo rfl rfl _ gone.length gone ⟨⟨ya, yl, yf, yb, ym⟩, yn⟩ _ hown2 rfl rfl (by show Value.slice (some ⟨w2.heap.size + 1, 0, none⟩) 1 1 = _; simp) (hd_one _) (by omega) (by omega) (by simp; omega) ?_); intro v' w3 h1 h2 h3)
        have hgr := (World.grownBy_alloc w2 (.cells #[.int .i64 ya, .int .i64 yl, .int .i64 yf, .int .i64 yb, .int .i64 ym, .int .i64 yn] 78) (Value.slice Ao gone.length co).ownBlock).trans h2
        have hfin := CutRel.step HR.out hgl (HBE.out.symm ▸ HME.out.symm ▸ HT.out) (HBE.out.symm ▸ HL2.out) h1 hgr (h3.imp id fun h g hg => by have := h g hg; simp at this; omega)
        have hs1 := h1.slen
        obtain ⟨cs2, hfin⟩ := hfin
        refine ⟨⟨_, _, _, _, hfin⟩, ?_⟩
        rw [hs1]
        show all.length - (gone.length + 1) < all.length - gone.length
        omega
    · have t1 : decide (pk < (left.length : Int)) = false := by simp; omega
      have t2 : decide (rm < Pl.tot left) = false := by simp; omega
      have hno : (Pl.cutQ pk rm left).1 = [] ∧ (Pl.cutQ pk rm left).2 = left := by
        cases left with
        | nil => exact ⟨rfl, rfl⟩
        | cons y r => rw [Pl.cutQ_no ht]; exact ⟨rfl, rfl⟩
      have hfin : ∀ n, FPutOut w base g o t cs (.slice A l.length c) (Pl.cutQ pk rm all) ⟨pk, rm, hd⟩ (.returned (.slice Ao gone.length co)) (wr.drewN n) := fun n => by
        obtain ⟨A', c', e, _, _, hrd⟩ := hr.own.reads
        injection e with e1 e2 e3
        subst e1 e3
        have one := hr.one; have two := hr.two
        dsimp only at one two
        rw [hno.1, List.append_nil] at one
        rw [hno.2] at two
        refine ⟨_, _, _, rfl, ?_, ?_, ?_⟩
        · rw [one]; exact hrd
        · intro ad e
          obtain ⟨gg, oo, _⟩ := ad
          subst e
          exact (hr.own.lt _ rfl).1
        · rw [two]
          exact ⟨_, _, hr.f.below (bl_drewN (Below.refl _ _)), hr.chg.drewN n, hr.at_, hr.eq⟩
      have HFI := Lib.hid hfin
      clear hr hso hleft hall hfin hno
      generalize Pl.tot left = b at *
      generalize left.length = m at *
      go_wp2_with fail
      go_quiet (first | (go_at_call 108; exact Calls.quiet_of_same (len_q _ _ _ _ _ _ (by assumption))) | (go_at_call 107; exact Calls.quiet_of_same (bytes_q _ _ _ _ (by assumption))))
      go_wp2_with fail
      go_ret
      exact HFI.out _
end Go.Proofs.YtgdijbaodfghjaaGreatDoor

/-
  What the plain queue's Take and When do, and its making (queue.Fifo).
-/
namespace Go.Proofs.YtgdijbaodfghjaaGreatDoor
open Go.RowKit Bkt
set_option linter.unusedVariables false

theorem LstTo.behind {w w' w'' : World} {base g o : Nat} {t : TypeId} {cs : Array Value} {v v' : Value} {l : List Hd} {b : Int} (hb : Below w.heap.size w w') (h : LstTo w' w'' base g o t cs v v' l b) : LstTo w w'' base g o t cs v v' l b :=
  ⟨h.lst, (Chg.of_below hb).trans h.chg (fun i _ hs => hs), h.at_.imp id (fun h i hi => Nat.le_trans hb.size (h i hi))⟩
theorem bodyPost_as {P : Program} {f : Func} {Q : Ending → World → Prop} {x : Exit} {a : Act} {W : World} (h : ∀ Wf, Wf = W → bodyPost P f Q x a Wf) : bodyPost P f Q x a W := h W rfl
def optV : Option Hd → Value
  | some h => hdV h
  | none => hdV Hd.zero
def FTakeOut (w : World) (base g o : Nat) (t : TypeId) (cs : Array Value) (v : Value) (r : Option Hd × List Hd × List Hd) (p : Pl.FP) (e : Ending) (w' : World) : Prop :=
  e = .returned (.tuple #[optV r.1, .slice none 0 0, .bool r.1.isSome]) ∧ r.2.1 = [] ∧ FfoTo w w' base g o t cs v r.2.2 p

set_option maxHeartbeats 1000000 in
set_option maxRecDepth 100000 in
theorem ftake_none (base g o : Nat) (t : TypeId) (cs : Array Value) (v : Value) (p : Pl.FP) (now : Int) (w : World) (h : Ffo w base g o t cs v [] p) :
    Calls Tryz.prog 110 #[.pointer (some ⟨g, o, none⟩), .int .i64 now] w (FTakeOut w base g o t cs v (Pl.ftakeL []) p) := by
  have hgl := h.lst.blk.lt
  have hb0 : Below w.heap.size w (w.alloc (.cells #[.int .i64 0, .int .i64 0, .int .i64 0, .int .i64 0, .int .i64 0, .int .i64 0] 78)) := (Below.refl _ _).alloc (Nat.le_refl _) _
  have hnx := next_none base g o t cs v (Pl.tot []) _ (h.lst.below hb0)
  have hk := Blk.new w 78 #[.int .i64 0, .int .i64 0, .int .i64 0, .int .i64 0, .int .i64 0, .int .i64 0]
  unfold PairOut hdV Hd.zero It.zero at hnx
  dsimp only at hnx
  have H := Lib.hid h; have HNX := Lib.hid hnx; have HB0 := Lib.hid hb0; have HK := Lib.hid hk
  clear h hnx hb0 hk
  go_enter Tryz.func110, Tryz.ntmps110
  go_wp2_with fail
  refine HNX.out.mono ?_
  rintro e w1 ⟨rfl, hb1⟩
  have hk1 := HK.out.below hb1 HK.out.lt
  have z0 := hk1.cell 0; have z1 := hk1.cell 1; have z2 := hk1.cell 2; have z3 := hk1.cell 3; have z4 := hk1.cell 4; have z5 := hk1.cell 5
  have f0 := hk1.frozen 0; have f1 := hk1.frozen 1; have f2 := hk1.frozen 2; have f3 := hk1.frozen 3; have f4 := hk1.frozen 4; have f5 := hk1.frozen 5
  simp at z0 z1 z2 z3 z4 z5
  have hbw := bl_next HB0.out hb1
  have HBW := Lib.hid hbw; have HK1 := Lib.hid hk1
  clear hk1 hb1 hbw
  go_wp2_with fail
  have hb := fun (W : World) (c : Nat) (u : Value) (h : Below w.heap.size w W) => h.setCell (p := ⟨w.heap.size, c, none⟩) (Nat.le_refl _) u
  refine bodyPost_as fun Wf hWf => ?_
  have hkf : Blk Wf w.heap.size 78 #[.int .i64 0, .int .i64 0, .int .i64 0, .int .i64 0, .int .i64 0, .int .i64 0] := by rw [hWf]; exact blk_six (blk_six HK1.out _ _ _ _ _ _) _ _ _ _ _ _
  have hfin : Below w.heap.size w Wf := by
    rw [hWf]
    (repeat refine hb _ _ _ ?_)
    exact HBW.out
  clear hWf
  have r0 := hkf.cell 0; have r1 := hkf.cell 1; have r2 := hkf.cell 2; have r3 := hkf.cell 3; have r4 := hkf.cell 4; have r5 := hkf.cell 5
  simp at r0 r1 r2 r3 r4 r5
  exact bodyPost_ret (v := .tuple #[hdV Hd.zero, .slice none 0 0, .bool false]) (by simp [results, Tryz.results110, go_sem, hdV, Hd.zero, It.zero, r0, r1, r2, r3, r4, r5]) rfl ⟨rfl, rfl, FfoTo.refl H.out hfin⟩
theorem LstTo.behindNew {w w'' : World} {base g o : Nat} {t : TypeId} {cs : Array Value} {v v' : Value} {l : List Hd} {b : Int} {ob : Obj} (hg : g < w.heap.size) (hv : ∀ i, v.ownBlock = some i → i < w.heap.size) (h : LstTo (w.alloc ob) w'' base g o t cs v v' l b) :
    LstTo w w'' base g o t cs v v' l b ∧ v'.ownBlock ≠ some w.heap.size := by
  refine ⟨LstTo.behind ((Below.refl _ _).alloc (Nat.le_refl _) ob) h, fun e => ?_⟩
  rcases h.at_ with e2 | e2
  · have := hv _ (e2 ▸ e); omega
  · have := e2 _ e; simp at this; omega

set_option maxHeartbeats 1000000 in
set_option maxRecDepth 100000 in
theorem ftake_some (base g o : Nat) (t : TypeId) (cs : Array Value) (v : Value) (p : Pl.FP) (now : Int) (x : Hd) (r : List Hd) (w : World) (h : Ffo w base g o t cs v (x :: r) p) (hl : HdsOk (x :: r)) :
    Calls Tryz.prog 110 #[.pointer (some ⟨g, o, none⟩), .int .i64 now] w (FTakeOut w base g o t cs v (Pl.ftakeL (x :: r)) p) := by
  have hgl := h.lst.blk.lt
  have hx := hl.b x (by simp)
  have htl := hl.tot
  have hln := hl.n
  rw [List.length_cons] at hln
  have hb0 : Below w.heap.size w (w.alloc (.cells #[.int .i64 0, .int .i64 0, .int .i64 0, .int .i64 0, .int .i64 0, .int .i64 0] 78)) := (Below.refl _ _).alloc (Nat.le_refl _) _
  have hnx := next_some base g o t cs v x r (Pl.tot (x :: r)) _ (h.lst.below hb0) (by omega) htl.1 (by omega) hx.1 (by omega)
  have hk := Blk.new w 78 #[.int .i64 0, .int .i64 0, .int .i64 0, .int .i64 0, .int .i64 0, .int .i64 0]
  have hof : ∀ w2 v2, LstTo w w2 base g o t cs v v2 r (Pl.tot (x :: r) - x.it.len) → FfoTo w w2 base g o t cs v r p := fun w2 v2 h2 => h.of_lst h2 (by rw [Pl.tot_cons]; omega)
  have hv := fun i hi => (h.lst.own.lt i hi).2
  obtain ⟨⟨xa, xl, xf, xb, xm⟩, xn⟩ := x
  unfold NextOut hdV at hnx
  dsimp only at hnx
  have HNX := Lib.hid hnx; have HK := Lib.hid hk; have HOF := Lib.hid hof; have HV := Lib.hid hv
  clear h hnx hb0 hk hof hv
  go_enter Tryz.func110, Tryz.ntmps110
  go_wp2_with fail
  refine HNX.out.mono ?_
  rintro e w1 ⟨rfl, v', hl1⟩
  obtain ⟨hl2, hne⟩ := hl1.behindNew hgl HV.out
  have hk1 := HK.out.chg hl1.chg (by
    rintro (e | e)
    · omega
    · have := HV.out _ e; omega)
  have z0 := hk1.cell 0; have z1 := hk1.cell 1; have z2 := hk1.cell 2; have z3 := hk1.cell 3; have z4 := hk1.cell 4; have z5 := hk1.cell 5
  have f0 := hk1.frozen 0; have f1 := hk1.frozen 1; have f2 := hk1.frozen 2; have f3 := hk1.frozen 3; have f4 := hk1.frozen 4; have f5 := hk1.frozen 5
  simp at z0 z1 z2 z3 z4 z5
  have HL2 := Lib.hid hl2; have HNE := Lib.hid hne; have HK1 := Lib.hid hk1
  clear hk1 hl1 hl2 hne
  go_wp2_with fail
  have hb := fun (W : World) (c : Nat) (u : Value) (h : LstTo w W base g o t cs v v' r (Pl.tot (⟨⟨xa, xl, xf, xb, xm⟩, xn⟩ :: r) - xl)) => h.setNew hgl (p := ⟨w.heap.size, c, none⟩) (Nat.le_refl _) HNE.out u
  refine bodyPost_as fun Wf hWf => ?_
  have hkf : Blk Wf w.heap.size 78 #[.int .i64 xa, .int .i64 xl, .int .i64 xf, .int .i64 xb, .int .i64 xm, .int .i64 xn] := by rw [hWf]; exact blk_six (blk_six HK1.out _ _ _ _ _ _) _ _ _ _ _ _
  have hfin : LstTo w Wf base g o t cs v v' r (Pl.tot (⟨⟨xa, xl, xf, xb, xm⟩, xn⟩ :: r) - xl) := by
    rw [hWf]
    (repeat refine hb _ _ _ ?_)
    exact HL2.out
  clear hWf
  have r0 := hkf.cell 0; have r1 := hkf.cell 1; have r2 := hkf.cell 2; have r3 := hkf.cell 3; have r4 := hkf.cell 4; have r5 := hkf.cell 5
  simp at r0 r1 r2 r3 r4 r5
  exact bodyPost_ret (v := .tuple #[hdV ⟨⟨xa, xl, xf, xb, xm⟩, xn⟩, .slice none 0 0, .bool true]) (by simp [results, Tryz.results110, go_sem, hdV, r0, r1, r2, r3, r4, r5]) rfl ⟨rfl, rfl, HOF.out _ _ hfin⟩

theorem fwhen_any (base g o : Nat) (t : TypeId) (cs : Array Value) (v : Value) (l : List Hd) (p : Pl.FP) (now : Int) (w : World) (h : Ffo w base g o t cs v l p) (hn : l.length ≤ 1000) :
    Calls Tryz.prog 111 #[.pointer (some ⟨g, o, none⟩), .int .i64 now] w fun e w' => e = .returned (.tuple #[.int .i64 now, .bool (decide (0 < l.length))]) ∧ w = w' := by
  obtain ⟨A, c, rfl, hnc, _, _⟩ := h.lst.own.reads
  have c0 : w.cell? ⟨g, o, none⟩ = some (.slice A l.length c) := (h.lst.blk.cell o).trans h.lst.c0
  clear h
  by_cases h0 : 0 < l.length
  · have e : decide (0 < l.length) = true := by simpa using h0
    have e2 : decide ((0 : Int) < (l.length : Int)) = true := decide_eq_true (by omega)
    go_enter Tryz.func111, Tryz.ntmps111
    go_wp2_with fail
    refine (len_any _ _ _ _ _ _ c0).mono ?_
    rintro e w1 ⟨rfl, rfl⟩
    go_wp2_with fail
    go_ret2
    exact ⟨by rw [e]; rfl, rfl⟩
  · have e : decide (0 < l.length) = false := by simpa using h0
    have e2 : decide ((0 : Int) < (l.length : Int)) = false := decide_eq_false (by omega)
    go_enter Tryz.func111, Tryz.ntmps111
    go_wp2_with fail
    refine (len_any _ _ _ _ _ _ c0).mono ?_
    rintro e w1 ⟨rfl, rfl⟩
    go_wp2_with fail
    go_ret2
    exact ⟨by rw [e]; rfl, rfl⟩

def NewFifoOut (w : World) (p : Pl.FP) (e : Ending) (w' : World) : Prop :=
  ∃ g, e = .returned (.tuple #[.pointer (some ⟨g, 0, none⟩), .nilIface]) ∧ w.heap.size ≤ g ∧ Below w.heap.size w w' ∧ Ffo w' w.heap.size g 0 92 #[.slice none 0 0, .int .i64 0, .int .i64 p.packets, .int .i64 p.room, .bool p.head] (.slice none 0 0) [] p
set_option maxHeartbeats 1000000 in
theorem newFifo_yes (p : Pl.FP) (w : World) (hp : Pl.FOk p) : Calls Tryz.prog 21 #[.int .i64 p.packets, .int .i64 p.room, .bool p.head] w (NewFifoOut w p) := by
  obtain ⟨pk, rm, hd⟩ := p
  have h1 := hp.pk; have h2 := hp.rm
  dsimp only at h1 h2
  obtain ⟨h1, h3⟩ := h1
  obtain ⟨h2, h4⟩ := h2
  dsimp only
  clear hp
  go_enter Tryz.func21, Tryz.ntmps21
  go_wp2_with fail
  go_ret2
  refine ⟨w.heap.size, rfl, Nat.le_refl _, (Below.refl _ _).alloc (Nat.le_refl _) _, ⟨Blk.new _ _ _, rfl, rfl, OwnW.nil _ _ _ _, by decide⟩, rfl, rfl, rfl⟩
def NewFifoNo (w : World) (e : Ending) (w' : World) : Prop := (∃ k : Int, e = .returned (.tuple #[.pointer none, .iface 69 (.int .i64 k)])) ∧ w = w'
set_option maxHeartbeats 1000000 in
theorem newFifo_no (pk rm : Int) (hd : Bool) (w : World) (hp : pk < 0 ∨ 1000000 < pk ∨ rm < 0 ∨ 1000000 < rm) : Calls Tryz.prog 21 #[.int .i64 pk, .int .i64 rm, .bool hd] w (NewFifoNo w) := by
  by_cases a1 : pk < 0
  · go_enter Tryz.func21, Tryz.ntmps21
    go_wp2_with fail
    go_ret2
    exact ⟨⟨_, rfl⟩, rfl⟩
  by_cases a2 : 1000000 < pk
  · go_enter Tryz.func21, Tryz.ntmps21
    go_wp2_with fail
    go_ret2
    exact ⟨⟨_, rfl⟩, rfl⟩
  by_cases a3 : rm < 0
  · go_enter Tryz.func21, Tryz.ntmps21
    go_wp2_with fail
    go_ret2
    exact ⟨⟨_, rfl⟩, rfl⟩
  have a4 : 1000000 < rm := by omega
  clear hp
  go_enter Tryz.func21, Tryz.ntmps21
  go_wp2_with fail
  go_ret2
  exact ⟨⟨_, rfl⟩, rfl⟩
end Go.Proofs.YtgdijbaodfghjaaGreatDoor
