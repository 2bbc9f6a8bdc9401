/-
  Texts of this claim, one behind the other: QHd.
-/
import Derived.Test.YtgdijbaodfghjaaGreatDoorZ10
import Derived.Test.YtgdijbaodfghjaaGreatDoorZ02
import Derived.Test.YtgdijbaodfghjaaGreatDoorZ01
import Derived.StillTailTactics
import Derived.BigRegion
import Derived.Deep.RegionHeld3
import Derived.Deep.RegionLaw
/-
  What queue.List's methods do, the list's two cells anywhere in a block.
-/
namespace Go.Proofs.YtgdijbaodfghjaaGreatDoor
open Go.RowKit Bkt
set_option linter.unusedVariables false

def hdCells (h : Hd) : List Value := [.int .i64 h.it.at_, .int .i64 h.it.len, .int .i64 h.it.flow, .int .i64 h.it.band, .int .i64 h.it.mark, .int .i64 h.num]
def HdR : Rec Hd := ⟨6, hdCells, fun _ => rfl, by decide, Hd.zero⟩
def hdV (h : Hd) : Value := .agg #[.int .i64 h.it.at_, .int .i64 h.it.len, .int .i64 h.it.flow, .int .i64 h.it.band, .int .i64 h.it.mark, .int .i64 h.num]
theorem hd_one (h : Hd) : ∀ u ∈ hdCells h, u.oneCell' = true := by
  intro u hu
  simp [hdCells] at hu
  rcases hu with rfl | rfl | rfl | rfl | rfl | rfl <;> rfl
theorem Tryz.heldInfo : (Tryz.prog.info? 78).map (fun i => (i.zero, i.size, i.bytes)) = some (some (.agg #[.int .i64 0, .int .i64 0, .int .i64 0, .int .i64 0, .int .i64 0, .int .i64 0]), 6, 48) := by kernel_rfl

theorem step_addW {α : Type} (R : Rec α) {P : Program} {W : World} {ops : Array Oper} {o : Oper} {a : Act} {K : Act → World → Prop} {Q : Exit → Act → World → Prop} {E : Prop} (hgd : o.guard = none) (s x : Operand) (t : TypeId)
    (base : Nat) (e : TypeId) (z : Value) (bytes : Nat) (ht : P.underlying t = some (.slice e)) (hinfo : (P.info? e).map (fun i => (i.zero, i.size, i.bytes)) = some (some z, R.sz, bytes))
    (ho : o.op = .call { callee := .builtin .append, args := #[s, x], argTypes := #[t, t] })
    (hzs : z.cells.size = R.sz) (v : Value) (n : Nat) (l : List α) (y : α) (hown : OwnW W base e R.sz v n (l.flatMap R.cells)) (hs : a.eval s = v)
    (hx : ∃ ad, a.eval x = .slice (some ad) 1 1 ∧ ∀ j u, (R.cells y)[j]? = some u → W.cell? (ad.add j) = some u) (h1 : ∀ u ∈ R.cells y, u.oneCell' = true)
    (hn : n ≤ 1000000) (hbytes : bytes ≤ 1000) (hbase : base ≤ W.heap.size)
    (h : ∀ v' w', OwnW w' base e R.sz v' (n + 1) ((l ++ [y]).flatMap R.cells) → W.grownBy w' v.ownBlock → (v'.ownBlock = v.ownBlock ∨ ∀ g, v'.ownBlock = some g → W.heap.size ≤ g) → K (a.put o.dst v') w') :
    if Region.wanted o (yielded ops a.tmps) = true then Oper.wp P o a W K Q else E := by
  have hw : Region.wanted o (yielded ops a.tmps) = true := by simp [Region.wanted, hgd]
  rw [if_pos hw]
  obtain ⟨ad, hx, hc⟩ := hx
  obtain ⟨i0, hi, hz0, hz1, hz2⟩ := info_parts hinfo
  have hb2 : (n + 1) * bytes ≤ 1000001 * 1000 := Nat.mul_le_mul (by omega) hbytes
  refine wp_append_win W s x t base e i0 z R.sz bytes ht hi hz0 hz1 hz2 hzs R.pos v n (l.flatMap R.cells) hown ho hs ad 1 1 (R.cells y) hx (by rw [R.len, Nat.one_mul]) hc h1
    (by simp only [maxLen]; omega) (by omega) hbase ?_
  intro v' w' hown' hg hat
  rw [← flatR_app] at hown'
  exact h v' w' hown' hg hat

section
variable {w w' w'' : World} {S S' : Nat → Prop}
theorem OwnW.chg {base e size n : Nat} {v : Value} {xs : List Value} (h : OwnW w base e size v n xs) (hc : Chg w w' S) (hn : ∀ g, v.ownBlock = some g → ¬ S g) : OwnW w' base e size v n xs := by
  refine ⟨h.1, ?_⟩
  rcases h.2 with h0 | ⟨g, o, c, cur, rfl, hb, hgg, rest⟩
  · exact .inl h0
  · exact .inr ⟨g, o, c, cur, rfl, hb, hgg.chg hc (hn g rfl), rest⟩
theorem RdR.chg {α : Type} {R : Rec α} {B n : Nat} {A : Option Addr} {l : List α} (h : RdR R w B A n l) (hB : B ≤ w.heap.size) (hc : Chg w w' S) (hn : ∀ g off, A = some ⟨g, off, none⟩ → ¬ S g) : RdR R w' B A n l := by
  refine ⟨h.1, fun h0 => ?_⟩
  obtain ⟨b, off, e, hb⟩ := h.addr h0
  obtain ⟨ad, e', hb', hcell⟩ := h.2 h0
  refine ⟨ad, e', hb', fun j u hu => ?_⟩
  rw [e] at e'
  injection e' with e'
  subst e'
  refine (World.cell?_of_block ?_).trans (hcell j u hu)
  rw [block_of_add]
  exact hc.block b (by omega) (hn b off e)
end

theorem bytes_any (g o : Nat) (b : Int) (w : World) (hc : w.cell? ⟨g, o + 1, none⟩ = some (.int .i64 b)) : Calls Tryz.prog 107 #[.pointer (some ⟨g, o, none⟩)] w fun e w' => e = .returned (.int .i64 b) ∧ w = w' := by
  go_enter Tryz.func107, Tryz.ntmps107
  go_wp2_with fail
  go_ret
  exact ⟨rfl, rfl⟩
theorem len_any (g o n c : Nat) (A : Option Addr) (w : World) (hc : w.cell? ⟨g, o, none⟩ = some (.slice A n c)) : Calls Tryz.prog 108 #[.pointer (some ⟨g, o, none⟩)] w fun e w' => e = .returned (.int .i64 n) ∧ w = w' := by
  go_enter Tryz.func108, Tryz.ntmps108
  go_wp2_with fail
  go_ret
  exact ⟨rfl, rfl⟩

structure Lst (w : World) (base g o : Nat) (t : TypeId) (cs : Array Value) (v : Value) (l : List Hd) (b : Int) : Prop where
  blk : Blk w g t cs
  c0 : cs[o]? = some v
  c1 : cs[o + 1]? = some (.int .i64 b)
  own : OwnW w base 78 HdR.sz v l.length (l.flatMap HdR.cells)
  ne : t ≠ 78
structure LstTo (w w' : World) (base g o : Nat) (t : TypeId) (cs : Array Value) (v v' : Value) (l : List Hd) (b : Int) : Prop where
  lst : Lst w' base g o t ((cs.setIfInBounds o v').setIfInBounds (o + 1) (.int .i64 b)) v' l b
  chg : Chg w w' fun i => i = g ∨ v.ownBlock = some i
  at_ : v'.ownBlock = v.ownBlock ∨ ∀ i, v'.ownBlock = some i → w.heap.size ≤ i
def AddOut (w : World) (base g o : Nat) (t : TypeId) (cs : Array Value) (v : Value) (l : List Hd) (b : Int) (e : Ending) (w' : World) : Prop := e = .returned (.tuple #[]) ∧ ∃ v', LstTo w w' base g o t cs v v' l b

theorem set2_get {cs : Array Value} {o : Nat} {u v : Value} (h : o + 1 < cs.size) : ((cs.setIfInBounds o u).setIfInBounds (o + 1) v)[o]? = some u ∧ ((cs.setIfInBounds o u).setIfInBounds (o + 1) v)[o + 1]? = some v := by
  constructor
  · rw [Array.getElem?_setIfInBounds, if_neg (by omega), Array.getElem?_setIfInBounds, if_pos rfl, if_pos (by omega)]
  · rw [Array.getElem?_setIfInBounds, if_pos rfl, if_pos (by simp; omega)]
theorem add_fin {w w0 w1 : World} {base g o : Nat} {t : TypeId} {cs : Array Value} {v v' : Value} {l : List Hd} {b b' : Int} {x : Hd} (h : Lst w base g o t cs v l b) (hcs1 : o + 1 < cs.size)
    (h0 : Below w.heap.size w w0) (hg : w0.grownBy w1 v.ownBlock) (hown : OwnW w1 base 78 HdR.sz v' (l.length + 1) ((l ++ [x]).flatMap HdR.cells)) (hat : v'.ownBlock = v.ownBlock ∨ ∀ g, v'.ownBlock = some g → w0.heap.size ≤ g) (hne : v.ownBlock ≠ some g) :
    LstTo w (((w1.setCell ⟨g, o, none⟩ v').setCell ⟨g, o + 1, none⟩ (.int .i64 b')).drew) base g o t cs v v' (l ++ [x]) b' := by
  have hgl := h.blk.lt
  have hk1 : Blk w1 g t cs := (h.blk.below h0 hgl).grown hg (fun e => hne e.symm)
  have hn' : v'.ownBlock ≠ some g := hown.blk_ne hk1 (Ne.symm h.ne)
  refine ⟨⟨Blk.drew (Blk.set_ (Blk.set_ hk1 o v') (o + 1) (.int .i64 b')), (set2_get hcs1).1, (set2_get hcs1).2, ?_, h.ne⟩, ?_, ?_⟩
  · have e : (l ++ [x]).length = l.length + 1 := by simp
    rw [e]
    have hc : Chg w1 (((w1.setCell ⟨g, o, none⟩ v').setCell ⟨g, o + 1, none⟩ (.int .i64 b')).drew) (fun i => i = g) :=
      Chg.drew (Chg.setCell (p := ⟨g, o + 1, none⟩) (Chg.setCell (p := ⟨g, o, none⟩) (Chg.refl w1 (fun i => i = g)) (fun _ => rfl) v') (fun _ => rfl) (.int .i64 b'))
    exact hown.chg hc (fun i hi e => hn' (by rw [hi, e]))
  · have hc1 : Chg w w1 (fun i => i = g ∨ v.ownBlock = some i) := (Chg.of_below h0).trans (Chg.of_grown (S := fun i => i = g ∨ v.ownBlock = some i) hg (fun i hi => .inr hi.symm)) (fun i _ h => h)
    exact Chg.drew (Chg.setCell (p := ⟨g, o + 1, none⟩) (Chg.setCell (p := ⟨g, o, none⟩) hc1 (fun _ => .inl rfl) v') (fun _ => .inl rfl) (.int .i64 b'))
  · exact hat.imp id fun h2 i hi => Nat.le_trans h0.size (h2 i hi)

set_option maxHeartbeats 1000000 in
set_option maxRecDepth 100000 in
theorem add_any (base g o : Nat) (t : TypeId) (cs : Array Value) (v : Value) (l : List Hd) (b : Int) (x : Hd) (w : World) (h : Lst w base g o t cs v l b) (hbase : base ≤ w.heap.size) (hn : l.length ≤ 1000)
    (hb0 : 0 ≤ b) (hb1 : b ≤ 1000000000) (hx0 : 0 ≤ x.it.len) (hx1 : x.it.len ≤ 1000000) :
    Calls Tryz.prog 112 #[.pointer (some ⟨g, o, none⟩), hdV x] w (AddOut w base g o t cs v (l ++ [x]) (b + x.it.len)) := by
  have hgl := h.blk.lt
  have hcs1 : o + 1 < cs.size := by
    rcases Nat.lt_or_ge (o + 1) cs.size with h' | h'
    · exact h'
    · have := h.c1; rw [Array.getElem?_eq_none h'] at this; cases this
  have hne : v.ownBlock ≠ some g := h.own.blk_ne h.blk (Ne.symm h.ne)
  have hvl := h.own.lt
  have hS : ∀ wx, (w.alloc (.cells #[.int .i64 x.it.at_, .int .i64 x.it.len, .int .i64 x.it.flow, .int .i64 x.it.band, .int .i64 x.it.mark, .int .i64 x.num] 78)).grownBy wx v.ownBlock →
      wx.cell? ⟨g, o, none⟩ = some v ∧ wx.frozen? ⟨g, o, none⟩ = false ∧ wx.cell? ⟨w.heap.size, 0, none⟩ = some (.int .i64 x.it.at_) ∧ wx.cell? ⟨w.heap.size, 1, none⟩ = some (.int .i64 x.it.len) ∧ wx.cell? ⟨w.heap.size, 2, none⟩ = some (.int .i64 x.it.flow) ∧
      wx.cell? ⟨w.heap.size, 3, none⟩ = some (.int .i64 x.it.band) ∧ wx.cell? ⟨w.heap.size, 4, none⟩ = some (.int .i64 x.it.mark) ∧ wx.cell? ⟨w.heap.size, 5, none⟩ = some (.int .i64 x.num) ∧
      (w.alloc (.cells #[.int .i64 x.it.at_, .int .i64 x.it.len, .int .i64 x.it.flow, .int .i64 x.it.band, .int .i64 x.it.mark, .int .i64 x.num] 78)).grownBy wx v.ownBlock := fun wx hg => by
    have k1 : Blk wx g t cs := (h.blk.alloc _).grown hg (fun e => hne e.symm)
    have k2 : Blk wx w.heap.size 78 #[.int .i64 x.it.at_, .int .i64 x.it.len, .int .i64 x.it.flow, .int .i64 x.it.band, .int .i64 x.it.mark, .int .i64 x.num] :=
      (Blk.new w _ _).grown hg (fun e => by have := (hvl _ e.symm).2; omega)
    exact ⟨(k1.cell o).trans h.c0, k1.frozen o, k2.cell 0, k2.cell 1, k2.cell 2, k2.cell 3, k2.cell 4, k2.cell 5, hg⟩
  have HS := Lib.hid hS; have H := Lib.hid h; have HNE := Lib.hid hne; have HVL := Lib.hid hvl
  obtain ⟨A, c, hv, _, _, _⟩ := h.own.reads
  have HV := Lib.hid hv
  have hown1 : OwnW (w.alloc (.cells #[.int .i64 x.it.at_, .int .i64 x.it.len, .int .i64 x.it.flow, .int .i64 x.it.band, .int .i64 x.it.mark, .int .i64 x.num] 78)) base 78 HdR.sz v l.length (l.flatMap HdR.cells) := h.own.alloc _
  have HO := Lib.hid hown1
  have hnew : Blk ((w.alloc (.cells #[.int .i64 x.it.at_, .int .i64 x.it.len, .int .i64 x.it.flow, .int .i64 x.it.band, .int .i64 x.it.mark, .int .i64 x.num] 78)).alloc (.cells #[.int .i64 x.it.at_, .int .i64 x.it.len, .int .i64 x.it.flow, .int .i64 x.it.band, .int .i64 x.it.mark, .int .i64 x.num] 78)) (w.heap.size + 1) 78 #[.int .i64 x.it.at_, .int .i64 x.it.len, .int .i64 x.it.flow, .int .i64 x.it.band, .int .i64 x.it.mark, .int .i64 x.num] := by
    have := Blk.new (w.alloc (.cells #[.int .i64 x.it.at_, .int .i64 x.it.len, .int .i64 x.it.flow, .int .i64 x.it.band, .int .i64 x.it.mark, .int .i64 x.num] 78)) 78 #[.int .i64 x.it.at_, .int .i64 x.it.len, .int .i64 x.it.flow, .int .i64 x.it.band, .int .i64 x.it.mark, .int .i64 x.num]
    rwa [show (w.alloc (.cells #[.int .i64 x.it.at_, .int .i64 x.it.len, .int .i64 x.it.flow, .int .i64 x.it.band, .int .i64 x.it.mark, .int .i64 x.num] 78)).heap.size = w.heap.size + 1 from by simp] at this
  have HNW := Lib.hid hnew
  clear hS h hne hvl hv hown1 hnew
  obtain ⟨⟨xa, xl, xf, xb, xm⟩, xn⟩ := x
  unfold hdV
  dsimp only at hx0 hx1 HS HO HNW ⊢
  go_enter Tryz.func112, Tryz.ntmps112
  go_wp2_with fail
  have q0 : w.cell? ⟨g, o, none⟩ = some v := (H.out.blk.cell o).trans H.out.c0
  have q1 : w.frozen? ⟨g, o, none⟩ = false := H.out.blk.frozen o
  have q2 : g < w.heap.size := hgl
  have q3 : g ≠ w.heap.size := by omega
  have q4 : w.heap.size ≠ g := by omega
  have q5 := fun w1 (hg : ((w.alloc (.cells #[.int .i64 xa, .int .i64 xl, .int .i64 xf, .int .i64 xb, .int .i64 xm, .int .i64 xn] 78)).alloc (.cells #[.int .i64 xa, .int .i64 xl, .int .i64 xf, .int .i64 xb, .int .i64 xm, .int .i64 xn] 78)).drew.grownBy w1 v.ownBlock) =>
    (show Blk w1 g t cs from Blk.grown (Blk.drew ((H.out.blk.alloc _).alloc _)) hg (fun e => HNE.out e.symm))
  have Q5 := Lib.hid q5; clear q5
  go_region_law
    ((refine step_addW HdR (by rfl) (.tmp 8) (.tmp 10) _ base 78 _ 48 Tryz.underlying76 Tryz.heldInfo (by rfl) rfl v l.length l ⟨⟨xa, xl, xf, xb, xm⟩, xn⟩ ?_ (by rfl) ?_ (hd_one _) (by omega) (by omega) ?_ ?_; (first | exact HO.out.alloc _ | exact (HO.out.alloc _)); (focus ((refine ⟨_, rfl, fun j u hu => ?_⟩); rw [Addr.add_lit, Nat.zero_add]; exact ((Blk.drew HNW.out).cell j).trans (by rw [← hu]; simp [HdR, hdCells]))); (focus (simp; omega)); intro v' w1 hown1 hg1 hat1; obtain ⟨A', c', rfl, hq1, hq2, hrd1⟩ := hown1.reads; have z0 : w1.cell? ⟨g, o, none⟩ = some v := ((Q5.out _ hg1).cell o).trans H.out.c0; have z1 : w1.frozen? ⟨g, o, none⟩ = false := (Q5.out _ hg1).frozen o))
  all_goals
    have hk1 := Q5.out _ hg1
    have hkb : Blk w1 w.heap.size 78 #[.int .i64 xa, .int .i64 xl, .int .i64 xf, .int .i64 xb, .int .i64 xm, .int .i64 xn] :=
      Blk.grown (Blk.drew ((Blk.new w _ _).alloc _)) hg1 (fun e => by have := (HVL.out _ e.symm).2; omega)
    have y1 : (w1.setCell ⟨g, o, none⟩ (.slice A' (l.length + 1) c')).cell? ⟨g, o + 1, none⟩ = some (.int .i64 b) := ((Blk.set_ hk1 o _).cell (o + 1)).trans (by rw [Array.getElem?_setIfInBounds, if_neg (by omega)]; exact H.out.c1)
    have y2 : (w1.setCell ⟨g, o, none⟩ (.slice A' (l.length + 1) c')).frozen? ⟨g, o + 1, none⟩ = false := (Blk.set_ hk1 o _).frozen (o + 1)
    have y3 : (w1.setCell ⟨g, o, none⟩ (.slice A' (l.length + 1) c')).cell? ⟨w.heap.size, 1, none⟩ = some (.int .i64 xl) := (Blk.far hkb (p := ⟨g, o, none⟩) q4 _).cell 1
    have hfin := fun b' => add_fin (b' := b') (x := ⟨⟨xa, xl, xf, xb, xm⟩, xn⟩) H.out hcs1 (bl_drew (bl_alloc ((Below.refl _ w).alloc (Nat.le_refl _) (.cells #[.int .i64 xa, .int .i64 xl, .int .i64 xf, .int .i64 xb, .int .i64 xm, .int .i64 xn] 78)))) hg1 hown1 hat1 HNE.out
    have HFN := Lib.hid hfin
    have e1 : IntKind.i64.wrap (b + xl) = b + xl := IntWalk.i64_in _ (by omega)
    clear hfin hk1 hkb hown1 hg1 hat1 hq1 hq2 hrd1 z0 z1 q0 q1
    generalize w1.setCell ⟨g, o, none⟩ (.slice A' (l.length + 1) c') = w2 at *
    go_wp2_with fail
    go_still_tail 10, (by kernel_rfl)
    change wpList _ _ _ _ _ w2.drew
    go_wp2_with fail
    go_end0
    exact ⟨rfl, _, HFN.out _⟩
end Go.Proofs.YtgdijbaodfghjaaGreatDoor
