/-
  'written': a book that was written.
-/
import Derived.Test.YtdipehgijjkfdaaGreatDoorBkFact
namespace Go.Proofs.YtdipehgijjkfdaaGreatDoor
open Go.RowKit Go.Maps Go.Sort Go.Shelf
set_option linter.unusedVariables false
def nmL (xs : List Bo.Ln) : List Value := xs.map fun x => encStr x.name
def nuL (xs : List Bo.Ln) : List Value := xs.map fun x => Value.int .i64 x.n
structure WrM (w wr : World) (g : Nat) (xs : List Bo.Ln) (su sure : Nat) (mv : Option Nat) (dv lv nv : Value) : Prop where
  bk : BkM wr w.heap.size g xs su mv dv
  l : wr.ownsRow w.heap.size 9 1 lv xs.length (nmL xs)
  n : wr.ownsRow w.heap.size 3 1 nv xs.length (nuL xs)
  s : sure ≤ xs.length
  ss : su = (Bo.dataF 0 (xs.take sure)).length
  bl : Below w.heap.size w wr
def WrOut (w : World) (nn : Nat) (e : Ending) (w' : World) : Prop :=
  ∃ g lv nv sure, e = .returned (.tuple #[.pointer (some ⟨g, 0, none⟩), lv, nv, .int .i64 (sure : Nat)]) ∧ Hid (∃ xs su mv dv, xs.length ≤ nn ∧ WrM w w' g xs su sure mv dv lv nv)
/-- the book's blocks are no row of another type -/
theorem BkM.apart {w : World} {B g su : Nat} {xs : List Bo.Ln} {mv : Option Nat} {dv : Value} (h : BkM w B g xs su mv dv) {B' n : Nat} {e : TypeId} {v : Value} {l : List Value} (hr : w.ownsRow B' e 1 v n l) (h1 : e ≠ 43) (h2 : e ≠ 5) : ∀ i, v.ownBlock = some i → ¬ FB g mv dv i := by
  intro i hi hF
  obtain ⟨_, hr2⟩ := hr
  rcases hr2 with ⟨e1, _⟩ | ⟨b, cap, cur, e1, _, hc, _⟩
  · rw [e1] at hi; cases hi
  · rw [e1] at hi
    have e2 : i = b := by simpa [Value.ownBlock] using hi.symm
    subst e2
    rcases hF with e3 | e3 | e3
    · subst e3
      rw [show w.heap[i]? = _ from h.blk] at hc
      injection hc with hc
      injection hc with _ hc
      exact h1 hc.symm
    · rcases h.map with ⟨e4, _⟩ | ⟨b, D, e4, _, h5, _⟩
      · rw [e4] at e3; cases e3
      · rw [e4] at e3; cases e3
        obtain ⟨es, clock, h6, _⟩ := h5
        rw [h6] at hc; cases hc
    · obtain ⟨_, h4⟩ := h.data
      rcases h4 with ⟨e5, _⟩ | ⟨b, cap2, cur2, e5, _, hc2, _⟩
      · rw [e5] at e3; cases e3
      · rw [e5] at e3
        have e6 : i = b := by simpa [Value.ownBlock] using e3.symm
        subst e6
        rw [hc2] at hc
        injection hc with hc
        injection hc with _ hc
        exact h2 hc.symm
theorem own_apart {w : World} {B B' n n' : Nat} {e e' : TypeId} {v v' : Value} {l l' : List Value} (h : w.ownsRow B e 1 v n l) (h' : w.ownsRow B' e' 1 v' n' l') (he : e ≠ e') : ∀ i, v.ownBlock = some i → v'.ownBlock ≠ some i := by
  intro i hi hi'
  rcases h.2 with ⟨e1, _⟩ | ⟨b, cap, cur, e1, _, hc, _⟩
  · rw [e1] at hi; cases hi
  · rcases h'.2 with ⟨e2, _⟩ | ⟨b', cap', cur', e2, _, hc', _⟩
    · rw [e2] at hi'; cases hi'
    · rw [e1] at hi; rw [e2] at hi'
      have q1 : i = b := by simpa [Value.ownBlock] using hi.symm
      have q2 : i = b' := by simpa [Value.ownBlock] using hi'.symm
      subst q1; subst q2
      rw [hc] at hc'
      injection hc' with hc'
      injection hc' with _ hc'
      exact he hc'
theorem own_bl {w w' : World} {B n : Nat} {e : TypeId} {v : Value} {l : List Value} (h : w.ownsRow B e 1 v n l) (hb : Below w.heap.size w w') : w'.ownsRow B e 1 v n l :=
  ownsRow_chg h (S := fun _ => False) (Chg.of_below hb) (fun _ _ h => h)
theorem Tryz.strInfo : (Tryz.prog.info? 9).map (fun i => (i.zero, i.size, i.bytes)) = some (some (.string ByteArray.empty), 1, 16) := by kernel_rfl
theorem results_tmp4 {fn : Func} {t u v x : Tmp} (h : fn.results = #[.tmp t, .tmp u, .tmp v, .tmp x]) (tmps : Array Value) (P : Program) (w : World) :
    (results fn tmps).run P w = .ok (.tuple #[tmps.getD t undef, tmps.getD u undef, tmps.getD v undef, tmps.getD x undef]) w := by
  simp [results, h]
/-- one more, in a drawn region -/
theorem step_own1 {P : Program} {W : World} {ops : Array Oper} {o : Oper} {a : Act} {K : Act → World → Prop} {Q : Exit → Act → World → Prop} {E : Prop} (hgd : o.guard = none) (s x : Operand) (t : TypeId)
    (ho : o.op = .call { callee := .builtin .append, args := #[s, x], argTypes := #[t, t] })
    (base : Nat) (e : TypeId) (i : TypeInfo) (z : Value) (bytes : Nat) (ht : P.underlying t = some (.slice e)) (hi : P.info? e = some i) (hz : i.zero = some z)
    (hsize : i.size = 1) (hby : i.bytes = bytes) (hzs : z.cells.size = 1)
    (v : Value) (n : Nat) (xs : List Value) (hs : a.eval s = v) (hown : W.ownsRow base e 1 v n xs) (u : Value) (h1 : u.oneCell' = true)
    (hxc : ∃ ad, a.eval x = .slice (some ad) 1 1 ∧ W.cell? ad = some u)
    (h63 : n + 1 ≤ maxLen) (hbytes : (n + 1) * bytes ≤ 140737488355328) (hbase : base ≤ W.heap.size)
    (h : ∀ v' w', w'.ownsRow base e 1 v' (n + 1) (xs ++ [u]) → W.grownBy w' v.ownBlock → K (a.put o.dst v') w') :
    if Region.wanted o (yielded ops a.tmps) = true then Oper.wp P o a W K Q else E := by
  obtain ⟨ad, hx, hc⟩ := hxc
  refine step_append_any _ hgd s x t ho base e i z 1 bytes ht hi hz hsize hby hzs (by decide) v n xs hs hown (ad.block + 1) (some ad) 1 1 [u] hx ⟨rfl, fun _ => ⟨ad, rfl, Nat.lt_succ_self _, fun j y hj => ?_⟩⟩ (fun y hy => by rw [List.mem_singleton] at hy; rw [hy]; exact h1) h63 hbytes hbase (fun v' w' h2 h3 _ => h v' w' h2 h3)
  cases j with
  | zero =>
    have hy : u = y := by simpa using hj
    rw [← hy, ← hc]
    unfold Addr.add
    split
    · rfl
    · rename_i h9; exact absurd rfl h9
  | succ j => simp at hj
theorem own_size2 {w : World} {B n : Nat} {e : TypeId} {v : Value} {l : List Value} (h : w.ownsRow B e 1 v n l) : ∀ i, v.ownBlock = some i → B ≤ i ∧ i < w.heap.size := h.lt
/-- two rows, one element more each -/
structure AppF (w w3 : World) (B : Nat) (e1 e2 : TypeId) (n : Nat) (lv nv v2 v3 : Value) (L1 L2 : List Value) : Prop where
  a : w3.ownsRow B e1 1 v2 (n + 1) L1
  b : w3.ownsRow B e2 1 v3 (n + 1) L2
  c : Chg w w3 (fun i => lv.ownBlock = some i ∨ nv.ownBlock = some i)
theorem app_fin {w W2 w2 W3 w3 : World} {B n : Nat} {e1 e2 : TypeId} {lv nv v2 v3 : Value} {L N L1 L2 : List Value} (he : e1 ≠ e2) (hl : w.ownsRow B e1 1 lv n L) (hn : w.ownsRow B e2 1 nv n N)
    (h1 : Below w.heap.size w W2) (h2 : w2.ownsRow B e1 1 v2 (n + 1) L1) (g2 : W2.grownBy w2 lv.ownBlock) (h3 : Below w2.heap.size w2 W3) (h4 : w3.ownsRow B e2 1 v3 (n + 1) L2) (g3 : W3.grownBy w3 nv.ownBlock) : AppF w w3 B e1 e2 n lv nv v2 v3 L1 L2 := by
  have hc2 : Chg w w2 (fun i => lv.ownBlock = some i ∨ nv.ownBlock = some i) := (Chg.of_below h1).trans (Chg.of_grown (S := fun i => lv.ownBlock = some i ∨ nv.ownBlock = some i) g2 (fun i e => .inl e.symm)) (fun _ _ h => h)
  have hc3 : Chg W3 w3 (fun i => nv.ownBlock = some i) := Chg.of_grown g3 (fun i e => e.symm)
  have hn2 : w2.ownsRow B e2 1 nv n N := ownsRow_chg (own_bl hn h1) (S := fun i => lv.ownBlock = some i) (Chg.of_grown g2 (fun i e => e.symm)) (fun i hi e => own_apart hl hn he i e hi)
  have h23 : W3.ownsRow B e1 1 v2 (n + 1) L1 := own_bl h2 h3
  have hn3 : W3.ownsRow B e2 1 nv n N := own_bl hn2 h3
  exact ⟨ownsRow_chg h23 hc3 (fun i hi e => own_apart h23 hn3 he i hi e), h4, (hc2.trans (Chg.of_below h3) (fun _ _ h => h)).trans (hc3.mono (fun i _ h => .inr h)) (fun _ _ h => h)⟩
theorem app_swap {w w3 : World} {B n : Nat} {e1 e2 : TypeId} {lv nv v2 v3 : Value} {L1 L2 : List Value} (h : AppF w w3 B e1 e2 n lv nv v2 v3 L1 L2) : AppF w w3 B e2 e1 n nv lv v3 v2 L2 L1 :=
  ⟨h.b, h.a, h.c.mono (fun i _ h => h.symm)⟩
/-- a row behind the other one's growth -/
theorem own_past {w W2 w2 W : World} {B n : Nat} {e1 e2 : TypeId} {lv nv : Value} {L N : List Value} (he : e1 ≠ e2) (hl : w.ownsRow B e1 1 lv n L) (hn : w.ownsRow B e2 1 nv n N) (h1 : Below w.heap.size w W2) (g2 : W2.grownBy w2 lv.ownBlock) (h3 : Below w2.heap.size w2 W) : W.ownsRow B e2 1 nv n N :=
  own_bl (ownsRow_chg (own_bl hn h1) (S := fun i => lv.ownBlock = some i) (Chg.of_grown g2 (fun i e => e.symm)) (fun i hi e => own_apart hl hn he i e hi)) h3
theorem wr_over {w wr wt : World} {g su sure : Nat} {xs : List Bo.Ln} {mv : Option Nat} {dv lv nv : Value} (h : WrM w wr g xs su sure mv dv lv nv) (hb : Below wr.heap.size wr wt) : WrM w wt g xs su sure mv dv lv nv :=
  ⟨h.bk.below hb, own_bl h.l hb, own_bl h.n hb, h.s, h.ss, h.bl.trans (hb.mono h.bl.size)⟩
theorem wr_sync {w wr wt : World} {g su sure : Nat} {xs : List Bo.Ln} {mv : Option Nat} {dv lv nv : Value} (h : WrM w wr g xs su sure mv dv lv nv) (hb : BkM wt w.heap.size g xs (Bo.dataF 0 xs).length mv dv) (hc : Chg wr wt (fun i => i = g)) : WrM w wt g xs (Bo.dataF 0 xs).length xs.length mv dv lv nv :=
  ⟨hb, ownsRow_chg h.l hc (fun i hi e => h.bk.apart h.l (by decide) (by decide) i hi (.inl e)), ownsRow_chg h.n hc (fun i hi e => h.bk.apart h.n (by decide) (by decide) i hi (.inl e)), Nat.le_refl _, by rw [List.take_length], h.bl.trans (hc.below h.bl.size (fun i hi e => by have := h.bk.bg; omega))⟩
/-- the book has a line more than the rows -/
structure WrA (w wr : World) (g : Nat) (xs : List Bo.Ln) (x : Bo.Ln) (su sure : Nat) (mv : Option Nat) (dv lv nv : Value) : Prop where
  bk : BkM wr w.heap.size g (xs ++ [x]) su mv dv
  l : wr.ownsRow w.heap.size 9 1 lv xs.length (nmL xs)
  n : wr.ownsRow w.heap.size 3 1 nv xs.length (nuL xs)
  s : sure ≤ xs.length
  ss : su = (Bo.dataF 0 (xs.take sure)).length
  bl : Below w.heap.size w wr
theorem wr_add {w wr wt : World} {g su sure : Nat} {xs : List Bo.Ln} {x : Bo.Ln} {mv mv' : Option Nat} {dv dv' lv nv : Value} (h : WrM w wr g xs su sure mv dv lv nv) (hb : BkM wt w.heap.size g (xs ++ [x]) su mv' dv') (hc : Chg wr wt (FB g mv dv)) : WrA w wt g xs x su sure mv' dv' lv nv :=
  ⟨hb, ownsRow_chg h.l hc (h.bk.apart h.l (by decide) (by decide)), ownsRow_chg h.n hc (h.bk.apart h.n (by decide) (by decide)), h.s, h.ss, h.bl.trans (hc.below h.bl.size (fun i hi e => by have := (h.bk.lt i e).1; omega))⟩
theorem wr_app {w wr wt : World} {g su sure : Nat} {xs : List Bo.Ln} {x : Bo.Ln} {mv : Option Nat} {dv lv nv v2 v3 : Value} (h : WrA w wr g xs x su sure mv dv lv nv) (ha : AppF wr wt w.heap.size 9 3 xs.length lv nv v2 v3 (nmL xs ++ [encStr x.name]) (nuL xs ++ [.int .i64 x.n])) : WrM w wt g (xs ++ [x]) su sure mv dv v2 v3 := by
  have hT : ∀ i, FB g mv dv i → ¬ (lv.ownBlock = some i ∨ nv.ownBlock = some i) := fun i hF hS => by
    rcases hS with e | e
    · exact h.bk.apart h.l (by decide) (by decide) i e hF
    · exact h.bk.apart h.n (by decide) (by decide) i e hF
  refine ⟨h.bk.chg ha.c hT, ?_, ?_, by rw [List.length_append]; have := h.s; omega, ?_, h.bl.trans (ha.c.below h.bl.size (fun i hi hS => ?_))⟩
  · have := ha.a
    rw [List.length_append]
    unfold nmL
    rw [List.map_append]
    exact this
  · have := ha.b
    rw [List.length_append]
    unfold nuL
    rw [List.map_append]
    exact this
  · rw [List.take_append_of_le_length h.s]; exact h.ss
  · rcases hS with e | e
    · have := (h.l.lt i e).1; omega
    · have := (h.n.lt i e).1; omega
theorem rdB_at {w : World} {B n : Nat} {A : Option Addr} {N : List Bool} (h : Reads w B 1 A n (N.map Value.bool)) {k : Nat} (hk : k < n) : ∃ b off, A = some ⟨b, off, none⟩ ∧ b < B ∧ w.cell? ⟨b, off + k, none⟩ = some (.bool (N.getD k false)) := by
  obtain ⟨ad, u, rfl, hb, hx, hc⟩ := Reads.at_ h hk
  obtain ⟨ad0, u0, hA0, _, _, hc0⟩ := Reads.at_ h (show 0 < n by omega)
  injection hA0 with hA0
  subst hA0
  obtain ⟨b, off, spot⟩ := ad
  have hs' : spot = none := by simpa [Addr.add] using World.cell?_spot hc0
  subst hs'
  refine ⟨b, off, rfl, hb, ?_⟩
  have hl : N.length = n := by simpa using h.1
  have e : N[k]? = some (N.getD k false) := by simp [List.getD, List.getElem?_eq_getElem (show k < N.length by omega)]
  rw [List.getElem?_map, e] at hx
  have hu : u = .bool (N.getD k false) := by simpa using hx.symm
  have e2 : (⟨b, off, none⟩ : Addr).add k = ⟨b, off + k, none⟩ := by unfold Addr.add; split <;> simp_all
  rw [← e2, hc, hu]
set_option maxHeartbeats 4000000 in
set_option maxRecDepth 100000 in
theorem written_any (An : Option Addr) (nn cn : Nat) (N : List (List UInt8)) (Az : Option Addr) (nz cz : Nat) (Z : List Int) (As : Option Addr) (ns cs : Nat) (Sy : List Bool) (w : World)
    (hN : Reads w w.heap.size 1 An nn (N.map encStr)) (hZ : RdI w w.heap.size Az nz Z) (hS : Reads w w.heap.size 1 As ns (Sy.map Value.bool)) (hn : nn ≤ 100) (hns : ∀ s ∈ N, s.length ≤ 281474976710656) (hzs : ∀ i, -9223372036854775808 ≤ Z.getD i 0 ∧ Z.getD i 0 ≤ 9223372036854775807) (hnz : nz ≤ 9223372036854775807) (hnss : ns ≤ 9223372036854775807) (hv : Pv w) :
    Calls Tryz.prog 5 #[.slice An nn cn, .slice Az nz cz, .slice As ns cs] w (WrOut w nn) := by
  have hst : WrM w (w.alloc (.cells #[.map none, .int .i64 0, .slice none 0 0, .int .i64 0] 43)) w.heap.size [] 0 0 none (.slice none 0 0) (.slice none 0 0) (.slice none 0 0) :=
    ⟨BkM.new w _ (Nat.le_refl _), World.ownsRow_nil _ _ _ _, World.ownsRow_nil _ _ _ _, Nat.le_refl _, rfl, (Below.refl _ _).alloc (Nat.le_refl _) _⟩
  have hNl : N.length = nn := by simpa using hN.1
  have hZl := hZ.len
  have HST := Lib.hid hst; have HN := Lib.hid hN; have HZ := Lib.hid hZ; have HS := Lib.hid hS; have HNS := Lib.hid hns; have HZS := Lib.hid hzs; have HV := Lib.hid hv
  clear hst hN hZ hS hns hzs hv
  go_enter Tryz.func5, Tryz.ntmps5
  go_wp2_with fail
  go_loopw [11, 12, 13, 14] (fun lv nv sv i wr => ∃ (k sure su : Nat) (xs : List Bo.Ln) (mv : Option Nat) (dv : Value), k ≤ nn ∧ k ≤ nz ∧ i = .int .i64 k ∧ sv = .int .i64 (sure : Nat) ∧ xs.length ≤ k ∧ Hid (WrM w wr w.heap.size xs su sure mv dv lv nv)) (fun _ _ _ i _ => nn - (intOf i).toNat)
  case atStart => exact ⟨0, 0, 0, [], none, _, by omega, by omega, rfl, rfl, Nat.zero_le _, HST⟩
  case round =>
    obtain ⟨k, sure, su, xs, mv, dv, hk, hkz, rfl, rfl, hxk, HM⟩ := hrel
    obtain ⟨Al, cl, rfl, _⟩ := own_reads HM.out.l
    obtain ⟨Au, cu, rfl, _⟩ := own_reads HM.out.n
    by_cases hkn : k < nn
    · by_cases hkz2 : k < nz
      · have hi1 : (k : Int) < (nn : Int) := by omega
        have hi2 : (k : Int) < (nz : Int) := by omega
        have d1 : decide (k < nn) = true := decide_eq_true hkn
        have d2 : decide (k < nz) = true := decide_eq_true hkz2
        obtain ⟨b1, o1, rfl, hb1, c1⟩ := rdS_at HN.out hkn
        obtain ⟨b2, o2, rfl, hb2, c2⟩ := HZ.out.get hkz2
        have hns1 := HNS.out (N.getD k []) (by rw [List.getD, List.getElem?_eq_getElem (show k < N.length by omega)]; exact List.getElem_mem _)
        have hzs1 := HZS.out k
        have hsv : ∀ W, Below w.heap.size w W → W.cell? ⟨b1, o1 + k, none⟩ = some (.string ⟨(N.getD k []).toArray⟩) ∧ W.cell? ⟨b2, o2 + k, none⟩ = some (.int .i64 (Z.getD k 0)) := fun W hW => ⟨(hW.cell (p := ⟨b1, o1 + k, none⟩) hb1).trans c1, (hW.cell (p := ⟨b2, o2 + k, none⟩) hb2).trans c2⟩
        clear c1 c2
        generalize N.getD k [] = nm at *
        generalize Z.getD k 0 = zn at *
        obtain ⟨x1, x2⟩ := hsv wr HM.out.bl
        have hadd := fun W (hW : Below wr.heap.size wr W) => add_any _ _ _ _ _ _ nm zn W (HM.out.bk.below hW) ((HV.out.below HM.out.bl HV.out.sz).below hW (by have := HV.out.sz; have := HM.out.bl.size; omega)) hzs1.1 hzs1.2 hns1 HV.out.sz
        cases hok : Bo.addOk xs.length ⟨nm, zn⟩ with
        | false =>
          have hA : ∀ W, Below wr.heap.size wr W → Calls Tryz.prog 13 #[.pointer (some ⟨w.heap.size, 0, none⟩), .string ⟨nm.toArray⟩, .int .i64 zn] W fun e w'' => e = .returned (.iface 45 (.int .i64 (errA ⟨nm, zn⟩))) ∧ Hid (Below wr.heap.size wr w'') := fun W hW =>
            (hadd W hW).mono fun e w'' ⟨r, e1, h1⟩ => by
              rcases h1 with h1 | h1
              · rw [hok] at h1; exact absurd h1.1 (by decide)
              · exact ⟨by rw [e1, h1.2.1], Lib.hid (bl_next hW h1.2.2)⟩
          have HA := Lib.hid hA; have HSV := Lib.hid hsv
          clear hA hadd hsv hok hzs1 hns1
          generalize errA ⟨nm, zn⟩ = er at *
          go_upto_region 8 with fail
          go_region_held3 (fun wx => wx.cell? ⟨b1, o1 + k, none⟩ = some (.string ⟨nm.toArray⟩) ∧ wx.cell? ⟨b2, o2 + k, none⟩ = some (.int .i64 zn))
            (first
              | (refine HSV.out _ (HM.out.bl.trans (Below.mono ?_ HM.out.bl.size)); (repeat (first | exact H5.out | exact Below.refl _ _ | apply bl_drew | apply bl_drewN))))
            (first
              | (go_at_call 13; (with_reducible refine (HA.out _ ?_).mono ?_); (repeat (first | exact Below.refl _ _ | apply bl_drew | apply bl_drewN)); rintro e w5 ⟨rfl, h5⟩; have H5 := Lib.hid h5.out; clear h5)
              | fail)
          have HMx := Lib.hid (wr_over HM.out H5.out)
          clear x1 x2 HA HSV H5
          by_cases hks : k < ns
          · obtain ⟨b3, o3, rfl, hb3, c3⟩ := rdB_at HS.out hks
            have x3 := (HMx.out.bl.cell (p := ⟨b3, o3 + k, none⟩) hb3).trans c3
            have hks2 : (k : Int) < (ns : Int) := by omega
            have d1 : decide (k < ns) = true := decide_eq_true hks
            cases hsy : Sy.getD k false with
            | true =>
              rw [hsy] at x3
              have hsn := sync_any _ _ _ _ _ _ w5 HMx.out.bk
              have HSN := Lib.hid hsn
              clear hsn hsy c3
              go_wp2_with fail
              (with_reducible refine HSN.out.mono ?_)
              rintro e w7 ⟨rfl, h7⟩
              have hw7 := wr_sync HMx.out h7.out.1 h7.out.2
              have HW7 := Lib.hid hw7
              clear h7 hw7 HSN x3
              go_wp2_with fail
              exact ⟨⟨k + 1, _, _, _, _, _, by omega, by omega, by go_num, rfl, (by omega), HW7⟩, by simp [intOf]; omega⟩
            | false =>
              rw [hsy] at x3
              clear hsy c3
              go_wp2_with fail
              exact ⟨⟨k + 1, _, _, _, _, _, by omega, by omega, by go_num, rfl, (by omega), HMx⟩, by simp [intOf]; omega⟩
          · have d1 : decide (k < ns) = false := decide_eq_false hks
            go_wp2_with fail
            exact ⟨⟨k + 1, _, _, _, _, _, by omega, by omega, by go_num, rfl, (by omega), HMx⟩, by simp [intOf]; omega⟩
        | true =>
          have hA : ∀ W, Below wr.heap.size wr W → Calls Tryz.prog 13 #[.pointer (some ⟨w.heap.size, 0, none⟩), .string ⟨nm.toArray⟩, .int .i64 zn] W fun e w'' => e = .returned .nilIface ∧ Hid (∃ mv' dv', WrA w w'' w.heap.size xs ⟨nm, zn⟩ su sure mv' dv' (.slice Al xs.length cl) (.slice Au xs.length cu)) := fun W hW =>
            (hadd W hW).mono fun e w'' ⟨r, e1, h1⟩ => by
              rcases h1 with h1 | h1
              · obtain ⟨mv', dv', h2, h3⟩ := h1.2.2.out
                exact ⟨by rw [e1, h1.2.1], Lib.hid ⟨mv', dv', wr_add (wr_over HM.out hW) h2 h3⟩⟩
              · rw [hok] at h1; exact absurd h1.1 (by decide)
          have HA := Lib.hid hA; have HSV := Lib.hid hsv
          clear hA hadd hsv hok hzs1 hns1
          go_upto_region 8 with fail
          go_region_held3 (fun wx => wx.cell? ⟨b1, o1 + k, none⟩ = some (.string ⟨nm.toArray⟩) ∧ wx.cell? ⟨b2, o2 + k, none⟩ = some (.int .i64 zn))
            (first
              | exact HS5.out
              | (refine HSV.out _ (HM.out.bl.trans (Below.mono ?_ HM.out.bl.size)); (repeat (first | exact Below.refl _ _ | apply bl_drew | apply bl_drewN))))
            (first
              | (go_at_call 13; (with_reducible refine (HA.out _ ?_).mono ?_); (repeat (first | exact Below.refl _ _ | apply bl_drew | apply bl_drewN)); rintro e w5 ⟨rfl, h5⟩; obtain ⟨mv5, dv5, h6⟩ := h5.out; have HS5 := Lib.hid (HSV.out _ h6.bl); have H6 := Lib.hid h6; clear h5 h6)
              | fail)
          clear x1 x2 HA HS5
          obtain ⟨i1, hj1, hq0, hq1, hq2⟩ := info_parts Tryz.strInfo
          obtain ⟨i2, hj2, hr0, hr1, hr2⟩ := info_parts Tryz.intInfo
          have I1 := Lib.hid hj1; have I2 := Lib.hid hq0; have I3 := Lib.hid hq1; have I4 := Lib.hid hq2
          have J1 := Lib.hid hj2; have J2 := Lib.hid hr0; have J3 := Lib.hid hr1; have J4 := Lib.hid hr2
          clear hj1 hq0 hq1 hq2 hj2 hr0 hr1 hr2
          have hx5 := H6.out.bk.len
          have hxl1 : (xs ++ [(⟨nm, zn⟩ : Bo.Ln)]).length = xs.length + 1 := by simp
          have hbs : ∀ W, Below w5.heap.size w5 W → w.heap.size ≤ W.heap.size := fun W hW => Nat.le_trans H6.out.bl.size hW.size
          have hol := fun W (hW : Below w5.heap.size w5 W) => own_bl H6.out.l hW
          have hon := fun W (hW : Below w5.heap.size w5 W) => own_bl H6.out.n hW
          have hol2 := fun W2 w2 W (h1 : Below w5.heap.size w5 W2) (g2 : W2.grownBy w2 (Value.slice Au xs.length cu).ownBlock) (h3 : Below w2.heap.size w2 W) => own_past (e1 := 3) (e2 := 9) (by decide) H6.out.n H6.out.l h1 g2 h3
          have hon2 := fun W2 w2 W (h1 : Below w5.heap.size w5 W2) (g2 : W2.grownBy w2 (Value.slice Al xs.length cl).ownBlock) (h3 : Below w2.heap.size w2 W) => own_past (e1 := 9) (e2 := 3) (by decide) H6.out.l H6.out.n h1 g2 h3
          have hbs2 : ∀ (W2 w2 W : World) (o : Option Nat), Below w5.heap.size w5 W2 → W2.grownBy w2 o → Below w2.heap.size w2 W → w.heap.size ≤ W.heap.size := fun W2 w2 W o h1 g2 h3 => Nat.le_trans (Nat.le_trans (hbs W2 h1) g2.size) h3.size
          have hsc : ∀ W, Chg w5 W (fun i => (Value.slice Al xs.length cl).ownBlock = some i ∨ (Value.slice Au xs.length cu).ownBlock = some i) → W.cell? ⟨b1, o1 + k, none⟩ = some (.string ⟨nm.toArray⟩) ∧ W.cell? ⟨b2, o2 + k, none⟩ = some (.int .i64 zn) := fun W hW =>
            HSV.out W (H6.out.bl.trans (hW.below H6.out.bl.size (fun i hi h => by
              rcases h with h | h
              · have := (H6.out.l.lt i h).1; omega
              · have := (H6.out.n.lt i h).1; omega)))
          have HOL := Lib.hid hol; have HON := Lib.hid hon; have HOL2 := Lib.hid hol2; have HON2 := Lib.hid hon2; have HBS := Lib.hid hbs; have HBS2 := Lib.hid hbs2; have HSC := Lib.hid hsc
          clear hol hon hol2 hon2 hbs hbs2 hsc
          have hkc : ∀ (W2 w2 : World) (o : Option Nat), (∀ i, o = some i → (Value.slice Al xs.length cl).ownBlock = some i ∨ (Value.slice Au xs.length cu).ownBlock = some i) → Chg w5 W2 (fun i => (Value.slice Al xs.length cl).ownBlock = some i ∨ (Value.slice Au xs.length cu).ownBlock = some i) → W2.grownBy w2 o → Chg w5 w2 (fun i => (Value.slice Al xs.length cl).ownBlock = some i ∨ (Value.slice Au xs.length cu).ownBlock = some i) := fun W2 w2 o ho h1 g => h1.trans (Chg.of_grown (S := fun i => (Value.slice Al xs.length cl).ownBlock = some i ∨ (Value.slice Au xs.length cu).ownBlock = some i) g (fun i e => ho i e.symm)) (fun _ _ h => h)
          have hkl : ∀ (W2 w2 : World) (q : Nat), W2.grownBy w2 (Value.slice Al xs.length cl).ownBlock → w5.heap.size ≤ q → q < W2.heap.size → w2.cell? ⟨q, 0, none⟩ = W2.cell? ⟨q, 0, none⟩ := fun W2 w2 q g h1 h2 => World.cell?_of_block (g.block q h2 (fun e => by have := (H6.out.l.lt q e.symm).2; omega))
          have hkn2 : ∀ (W2 w2 : World) (q : Nat), W2.grownBy w2 (Value.slice Au xs.length cu).ownBlock → w5.heap.size ≤ q → q < W2.heap.size → w2.cell? ⟨q, 0, none⟩ = W2.cell? ⟨q, 0, none⟩ := fun W2 w2 q g h1 h2 => World.cell?_of_block (g.block q h2 (fun e => by have := (H6.out.n.lt q e.symm).2; omega))
          have HKC := Lib.hid hkc; have HKL := Lib.hid hkl; have HKN := Lib.hid hkn2
          clear hkc hkl hkn2
          go_upto_region 9 with fail
          go_cut [11, 12] from 17 to 67 (fun l2 n2 wx => ∃ A2 c2 A3 c3, l2 = .slice A2 (xs.length + 1) c2 ∧ n2 = .slice A3 (xs.length + 1) c3 ∧ Hid (WrM w wx w.heap.size (xs ++ [⟨nm, zn⟩]) su sure mv5 dv5 (.slice A2 (xs.length + 1) c2) (.slice A3 (xs.length + 1) c3)))
          case first =>
            go_region_held3 (fun wx => wx.cell? ⟨b1, o1 + k, none⟩ = some (.string ⟨nm.toArray⟩) ∧ wx.cell? ⟨b2, o2 + k, none⟩ = some (.int .i64 zn))
              ((refine HSC.out _ ?_; (repeat (first | exact Chg.refl _ _ | exact HC2.out | exact HC3.out | apply Chg.drew | apply Chg.drewN | apply Chg.alloc))))
              (first
                | (refine step_own1 (by rfl) (.tmp 40) (.tmp 45) _ (by rfl) w.heap.size 9 i1 (.string ByteArray.empty) 16 Tryz.underlying22 I1.out I2.out I3.out I4.out rfl (.slice Al xs.length cl) xs.length (nmL xs) (by rfl) ?_ (encStr nm) rfl ?_ (by unfold maxLen; omega) (by omega) ?_ ?_; (first | (focus ((refine HOL.out _ ?_); (repeat (first | exact Below.refl _ _ | apply bl_drew | apply bl_drewN | apply bl_alloc)); done)) | (focus ((refine HOL2.out _ _ _ ?_ G3.out ?_); (repeat (first | exact Below.refl _ _ | apply bl_drew | apply bl_drewN | apply bl_alloc)); done)) | fail); (focus ((refine ⟨_, rfl, ?_⟩); (first | (simp [encStr]; done) | (refine (HKN.out _ _ _ G3.out ?_ ?_).trans ?_ <;> (first | (simp [encStr]; done) | (simp; omega))) | fail))); (first | (focus ((refine HBS.out _ ?_); (repeat (first | exact Below.refl _ _ | apply bl_drew | apply bl_drewN | apply bl_alloc)); done)) | (focus ((refine HBS2.out _ _ _ _ ?_ G3.out ?_); (repeat (first | exact Below.refl _ _ | apply bl_drew | apply bl_drewN | apply bl_alloc)); done)) | fail); intro v2 w2 h2 g2; have HC2 := Lib.hid (HKC.out _ _ _ (fun i e => .inl e) (by (repeat (first | exact Chg.refl _ _ | exact HC2.out | exact HC3.out | apply Chg.drew | apply Chg.drewN | apply Chg.alloc))) g2); obtain ⟨A2, c2, rfl, _⟩ := own_reads h2; have H2 := Lib.hid h2; have G2 := Lib.hid g2; clear h2 g2)
                | (refine step_own1 (by rfl) (.tmp 47) (.tmp 52) _ (by rfl) w.heap.size 3 i2 (.int .i64 0) 8 Tryz.underlying23 J1.out J2.out J3.out J4.out rfl (.slice Au xs.length cu) xs.length (nuL xs) (by rfl) ?_ (.int .i64 zn) rfl ?_ (by unfold maxLen; omega) (by omega) ?_ ?_; (first | (focus ((refine HON.out _ ?_); (repeat (first | exact Below.refl _ _ | apply bl_drew | apply bl_drewN | apply bl_alloc)); done)) | (focus ((refine HON2.out _ _ _ ?_ G2.out ?_); (repeat (first | exact Below.refl _ _ | apply bl_drew | apply bl_drewN | apply bl_alloc)); done)) | fail); (focus ((refine ⟨_, rfl, ?_⟩); (first | (simp; done) | (refine (HKL.out _ _ _ G2.out ?_ ?_).trans ?_ <;> (first | (simp; done) | (simp; omega))) | fail))); (first | (focus ((refine HBS.out _ ?_); (repeat (first | exact Below.refl _ _ | apply bl_drew | apply bl_drewN | apply bl_alloc)); done)) | (focus ((refine HBS2.out _ _ _ _ ?_ G2.out ?_); (repeat (first | exact Below.refl _ _ | apply bl_drew | apply bl_drewN | apply bl_alloc)); done)) | fail); intro v3 w3 h3 g3; have HC3 := Lib.hid (HKC.out _ _ _ (fun i e => .inr e) (by (repeat (first | exact Chg.refl _ _ | exact HC2.out | exact HC3.out | apply Chg.drew | apply Chg.drewN | apply Chg.alloc))) g3); obtain ⟨A3, c3, rfl, _⟩ := own_reads h3; have H3 := Lib.hid h3; have G3 := Lib.hid g3; clear h3 g3)
                | fail)
            all_goals
              go_wp2_with fail
              go_meet
              refine ⟨A2, c2, A3, c3, rfl, rfl, Lib.hid (wr_app H6.out ?_)⟩
              first
                | (refine app_fin (by decide) H6.out.l H6.out.n ?_ H2.out G2.out ?_ H3.out G3.out <;> ((repeat (first | exact Below.refl _ _ | apply bl_drew | apply bl_drewN | apply bl_alloc)); done))
                | (refine app_swap (app_fin (by decide) H6.out.n H6.out.l ?_ H3.out G3.out ?_ H2.out G2.out) <;> ((repeat (first | exact Below.refl _ _ | apply bl_drew | apply bl_drewN | apply bl_alloc)); done))
          case rest =>
            obtain ⟨A2, c2, A3, c3, rfl, rfl, HMx⟩ := hcut
            by_cases hks : k < ns
            · obtain ⟨b3, o3, rfl, hb3, c3⟩ := rdB_at HS.out hks
              have x3 := (HMx.out.bl.cell (p := ⟨b3, o3 + k, none⟩) hb3).trans c3
              have hks2 : (k : Int) < (ns : Int) := by omega
              have d1 : decide (k < ns) = true := decide_eq_true hks
              cases hsy : Sy.getD k false with
              | true =>
                rw [hsy] at x3
                have hsn := sync_any _ _ _ _ _ _ wc HMx.out.bk
                have HSN := Lib.hid hsn
                clear hsn hsy c3
                go_wp2_with fail
                (with_reducible refine HSN.out.mono ?_)
                rintro e w7 ⟨rfl, h7⟩
                have hw7 := wr_sync HMx.out h7.out.1 h7.out.2
                rw [hxl1] at hw7
                have HW7 := Lib.hid hw7
                clear h7 hw7 HSN x3
                go_wp2_with fail
                exact ⟨⟨k + 1, _, _, _, _, _, by omega, by omega, by go_num, rfl, (by rw [hxl1]; omega), HW7⟩, by simp [intOf]; omega⟩
              | false =>
                rw [hsy] at x3
                clear hsy c3
                go_wp2_with fail
                exact ⟨⟨k + 1, _, _, _, _, _, by omega, by omega, by go_num, rfl, (by rw [hxl1]; omega), HMx⟩, by simp [intOf]; omega⟩
            · have d1 : decide (k < ns) = false := decide_eq_false hks
              go_wp2_with fail
              exact ⟨⟨k + 1, _, _, _, _, _, by omega, by omega, by go_num, rfl, (by rw [hxl1]; omega), HMx⟩, by simp [intOf]; omega⟩
      · have hf : WrOut w nn (.returned (.tuple #[.pointer (some ⟨w.heap.size, 0, none⟩), .slice Al xs.length cl, .slice Au xs.length cu, .int .i64 (sure : Nat)])) wr := ⟨_, _, _, _, rfl, Lib.hid ⟨xs, su, mv, dv, by omega, HM.out⟩⟩
        have HF := Lib.hid hf
        clear hf
        have d1 : decide (k < nn) = true := decide_eq_true hkn
        have d2 : decide (k < nz) = false := decide_eq_false hkz2
        go_wp2_with fail
        refine bodyPost_ret (results_tmp4 rfl _ _ _) rfl ?_
        exact HF.out
    · have hf : WrOut w nn (.returned (.tuple #[.pointer (some ⟨w.heap.size, 0, none⟩), .slice Al xs.length cl, .slice Au xs.length cu, .int .i64 (sure : Nat)])) wr := ⟨_, _, _, _, rfl, Lib.hid ⟨xs, su, mv, dv, by omega, HM.out⟩⟩
      have HF := Lib.hid hf
      clear hf
      have d1 : decide (k < nn) = false := decide_eq_false hkn
      go_wp2_with fail
      refine bodyPost_ret (results_tmp4 rfl _ _ _) rfl ?_
      exact HF.out
end Go.Proofs.YtdipehgijjkfdaaGreatDoor
