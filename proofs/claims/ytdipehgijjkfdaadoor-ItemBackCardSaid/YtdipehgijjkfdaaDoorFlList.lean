/-
  The reader of filters: list.
-/
import Derived.Test.YtdipehgijjkfdaaDoorFlTest
import Derived.Test.YtdipehgijjkfdaaDoorWin
namespace Go.Proofs.YtdipehgijjkfdaaDoor
open Go.RowKit
set_option linter.unusedVariables false
def ValR : Rec Value := ⟨1, fun u => [u], fun _ => rfl, by decide, .nilIface⟩
theorem val_cells (l : List Value) : l.flatMap ValR.cells = l := by
  induction l with
  | nil => rfl
  | cons x r ih => rw [List.flatMap_cons, ih]; rfl
theorem Tryd.fltInfo : (Tryd.prog.info? 34).map (fun i => (i.zero, i.size, i.bytes)) = some (some .nilIface, 1, 16) := by kernel_rfl
theorem OwnW.chg {w w' : World} {base e size n : Nat} {v : Value} {xs : List Value} {S : Nat → Prop} (h : OwnW w base e size v n xs) (hc : Chg w w' S) (hn : ∀ k, v.ownBlock = some k → ¬ S k) : OwnW w' base e size v n xs := by
  refine ⟨h.1, ?_⟩
  rcases h.2 with hh | ⟨g, o, c, cur, rfl, hb, hgg, rest⟩
  · exact .inl hh
  · exact .inr ⟨g, o, c, cur, rfl, hb, hgg.chg hc (hn g rfl), rest⟩
/-- a list under way: what has been read; p: the block of 'several' -/
structure LsM (c : Rc) (w : World) (g : Nat) (wr : World) (k : Nat) (acc : List Fl.Ft) (vs : List Value) (v : Value) : Prop where
  rd : RdF c wr g k
  chg : Chg w wr (fun i => i = g)
  blk : Blk wr w.heap.size 73 #[v, .bool false]
  own : OwnW wr (w.heap.size + 1) 34 1 v acc.length vs
  ft : ∀ (i : Nat) u t, vs[i]? = some u → acc[i]? = some t → ∃ Bi Ei, w.heap.size < Bi ∧ Ei ≤ wr.heap.size ∧ (∀ j, v.ownBlock = some j → ¬ (Bi ≤ j ∧ j < Ei)) ∧ FtV Bi Ei wr u t
section
variable {c : Rc} {w wr w2 : World} {g k k2 : Nat} {acc : List Fl.Ft} {vs : List Value} {v : Value}
theorem LsM.start (h : RdF c w g k) : LsM c w g (w.alloc (.cells #[.slice none 0 0, .bool false] 73)) k [] [] (.slice none 0 0) :=
  ⟨h.below ((Below.refl _ _).alloc (Nat.le_refl _) _), Chg.of_below ((Below.refl _ _).alloc (Nat.le_refl _) _), Blk.new _ _ _, OwnW.nil _ _ _ _, fun i u t hu => by cases hu⟩
theorem LsM.call (h : LsM c w g wr k acc vs v) (hg : g < w.heap.size) (hr : RdF c w2 g k2) (hc : Chg wr w2 (fun i => i = g)) : LsM c w g w2 k2 acc vs v := by
  refine ⟨hr, h.chg.trans hc (fun i _ e => e), h.blk.chg hc (by omega), h.own.chg hc (fun j hj e => ?_), fun i u t hu ht => ?_⟩
  · have := (h.own.lt j hj).1; omega
  · obtain ⟨Bi, Ei, h1, h2, h3, h4⟩ := h.ft i u t hu ht
    exact ⟨Bi, Ei, h1, Nat.le_trans h2 hc.size, h3, h4.keep fun j hj hj2 => hc.block j (by omega) (by omega)⟩
theorem LsM.push {k0 : Nat} (h0 : RdF c w g k0) (h : LsM c w g wr k acc vs v) (hg : g < w.heap.size) {B0 : Nat} {u : Value} {t : Fl.Ft} (hB : w.heap.size < B0) (hB2 : ∀ j, v.ownBlock = some j → j < B0) (hu : FtV B0 wr.heap.size wr u t) {v' : Value} {w3 : World}
    (h1 : OwnW w3 (w.heap.size + 1) 34 1 v' (acc.length + 1) (vs ++ [u])) (h2 : wr.grownBy w3 v.ownBlock) (h3 : v'.ownBlock = v.ownBlock ∨ ∀ j, v'.ownBlock = some j → wr.heap.size < j) :
    LsM c w g (w3.setCell ⟨w.heap.size, 0, none⟩ v') k (acc ++ [t]) (vs ++ [u]) v' := by
  have hne : ∀ j, v.ownBlock = some j → w.heap.size + 1 ≤ j := fun j hj => (h.own.lt j hj).1
  have hb3 : Blk w3 w.heap.size 73 #[v, .bool false] := h.blk.grown h2 (fun e => by have := hne _ e.symm; omega)
  have hc3 : Chg wr w3 (fun i => v.ownBlock = some i) := ⟨h2.os, h2.tape, h2.output, h2.size, fun i hi hn => h2.block i hi (fun e => hn e.symm)⟩
  have hc4 : Chg wr (w3.setCell ⟨w.heap.size, 0, none⟩ v') (fun i => v.ownBlock = some i ∨ i = w.heap.size) := Chg.setCell (p := ⟨w.heap.size, 0, none⟩) (hc3.mono (fun i _ e => .inl e)) (fun _ => .inr rfl) _
  have hc5 : Chg w (w3.setCell ⟨w.heap.size, 0, none⟩ v') (fun i => i = g) := h.chg.trans hc4 (fun i hi e => by
    rcases e with e | e
    · have := hne _ e; omega
    · omega)
  have hblk : Blk (w3.setCell ⟨w.heap.size, 0, none⟩ v') w.heap.size 73 #[v', .bool false] := hb3.set_ 0 v'
  refine ⟨?_, hc5, hblk, ?_, fun i x y hx hy => ?_⟩
  · exact h0.at_ hc5 (h.rd.blk.chg hc4 (fun e => by
      rcases e with e | e
      · have := hne _ e; omega
      · omega)) h.rd.le
  · have hl : (acc ++ [t]).length = acc.length + 1 := by simp
    rw [hl]
    exact h1.chg (Chg.setCell (p := ⟨w.heap.size, 0, none⟩) (Chg.refl w3 (fun i => i = w.heap.size)) (fun _ => rfl) _) (fun j hj e => by have := (h1.lt j hj).1; omega)
  · have hlen : vs.length = acc.length := by have := h.own.1; omega
    have hsz := hc4.size
    rcases Nat.lt_or_ge i vs.length with hi | hi
    · rw [List.getElem?_append_left hi] at hx
      rw [List.getElem?_append_left (by omega)] at hy
      obtain ⟨Bi, Ei, e1, e2, e3, e4⟩ := h.ft i x y hx hy
      refine ⟨Bi, Ei, e1, Nat.le_trans e2 hsz, fun j hj => ?_, e4.keep fun j hj hj2 => hc4.block j (by omega) (fun e => ?_)⟩
      · rcases h3 with h3 | h3
        · exact e3 j (h3 ▸ hj)
        · have := h3 j hj; omega
      · rcases e with e | e
        · exact e3 j e ⟨hj, hj2⟩
        · omega
    · have hi2 : i = vs.length := by
        have := (List.getElem?_eq_some_iff.1 hx).1
        simp at this; omega
      subst hi2
      rw [List.getElem?_append_right (Nat.le_refl _)] at hx
      rw [hlen, List.getElem?_append_right (Nat.le_refl _)] at hy
      simp at hx hy
      subst hx; subst hy
      refine ⟨B0, wr.heap.size, hB, hsz, fun j hj => ?_, hu.keep fun j hj hj2 => hc4.block j hj2 (fun e => ?_)⟩
      · rcases h3 with h3 | h3
        · have := hB2 j (h3 ▸ hj); omega
        · have := h3 j hj; omega
      · rcases e with e | e
        · have := hB2 j e; omega
        · omega
theorem LsM.blk3 (h : LsM c w g wr k acc vs v) {w3 : World} (h2 : wr.grownBy w3 v.ownBlock) : Blk w3 w.heap.size 73 #[v, .bool false] :=
  h.blk.grown h2 (fun e => by have := (h.own.lt _ e.symm).1; omega)
/-- the whole list read -/
theorem LsM.done {k0 : Nat} (h0 : RdF c w g k0) (h : LsM c w g wr k acc vs v) (b : Bool) {A : Option Addr} {n cc : Nat} (hv : v = .slice A n cc) : ∀ {w' : World}, (∀ i, i < wr.heap.size → i ≠ w.heap.size → i ≠ g → w'.heap[i]? = wr.heap[i]?) → wr.heap.size ≤ w'.heap.size →
    FtV w.heap.size w'.heap.size w' (.iface 73 (.agg #[.slice A n cc, .bool b])) (.sev acc b) := by
  intro w' hk hsz
  subst hv
  obtain ⟨A', c', e, _, _, hr⟩ := h.own.reads
  injection e with e1 e2 e3
  subst e1; subst e2; subst e3
  have hgp : g < w.heap.size := h0.blk.lt
  refine .sev ⟨hr.1, fun hn => ?_⟩ rfl (fun ad e => ?_) (fun i u t hu ht => ?_)
  · obtain ⟨ad, e, hb, hc⟩ := hr.2 hn
    obtain ⟨j1, j2⟩ := h.own.lt ad.block (by rw [e]; rfl)
    refine ⟨ad, e, by omega, fun j u hj => ?_⟩
    rw [← hc j u hj]
    have e2 : (ad.add j).block = ad.block := by unfold Addr.add; split <;> rfl
    exact cell_of_heap (hk _ (by rw [e2]; omega) (by rw [e2]; omega) (by rw [e2]; omega))
  · have := (h.own.lt ad.block (by rw [e]; rfl)).1
    omega
  · obtain ⟨Bi, Ei, h1, h2, _, h4⟩ := h.ft i u t hu ht
    exact (h4.keep fun j hj hj2 => hk j (by omega) (by omega) (by omega)).wide (by omega) (by omega)
end
/-- the word between -/
def wl : Nat → List UInt8
  | 0 => []
  | 1 => Fl.sAnd
  | _ => Fl.sOr
def atOf (g : Nat) (w : World) : Nat := match w.cell? ⟨g, 2, none⟩ with
  | some (.int _ n) => n.toNat
  | _ => 0
theorem RdF.atOf {c : Rc} {w : World} {g k : Nat} (h : RdF c w g k) : atOf g w = k := by
  have := h.blk.cell 2
  simp at this
  unfold Go.Proofs.YtdipehgijjkfdaaDoor.atOf
  rw [this]
  simp
theorem cnt_pos (t : Fl.Ft) : 1 ≤ Fl.cnt t := by cases t <;> simp [Fl.cnt]
theorem one_next {d : Nat} {ws : List Fl.Tok} {k k2 : Nat} {t : Fl.Ft} {r : List Fl.Tok} (h : Fl.oneF d (ws.drop k) = .ok (t, r)) (hr : r = ws.drop k2) (hk2 : k2 ≤ ws.length) : k < k2 := by
  have h1 := (Fl.oneF_fine _ _ _ _ h).2.2
  have h2 := cnt_pos t
  rw [hr, List.length_drop, List.length_drop] at h1
  omega
structure LsR (c : Rc) (w : World) (g d : Nat) (res : Fl.Res) (wr : World) (k wn nf : Nat) (acc : List Fl.Ft) (vs : List Value) (v : Value) : Prop where
  m : LsM c w g wr k acc vs v
  lt : (c.ws.drop k).length < nf
  al : acc.length ≤ k
  res : Fl.listF (Fl.oneF d) nf wn acc (c.ws.drop k) = res
set_option maxHeartbeats 4000000 in
set_option maxRecDepth 100000 in
theorem list_f (c : Rc) (g d : Nat) (hd : d < 100) (hone : ∀ k W, RdF c W g k → Pv W → Calls Tryd.prog 22 #[.pointer (some ⟨g, 0, none⟩), .int .i64 (d : Nat)] W (OneEnd c W g (Fl.oneF d (c.ws.drop k))))
    (k : Nat) (w : World) (h : RdF c w g k) (hv : Pv w) (hg : 10 ≤ g) (nf : Nat) (hnf : (c.ws.drop k).length < nf) :
    Calls Tryd.prog 30 #[.pointer (some ⟨g, 0, none⟩), .int .i64 ((d : Int) + 1)] w (OneEnd c w g (Fl.listF (Fl.oneF d) nf 0 [] (c.ws.drop k))) := by
  have hgp := h.blk.lt
  have HONE := Lib.hid hone; have HV := Lib.hid hv
  have hw : IntKind.i64.wrap ((d : Int) + 1 - 1) = (d : Int) := by rw [IntWalk.i64_in _ (by omega)]; omega
  obtain ⟨res, hres⟩ : ∃ res, Fl.listF (Fl.oneF d) nf 0 [] (c.ws.drop k) = res := ⟨_, rfl⟩
  rw [hres]
  have hst : LsR c w g d res (w.alloc (.cells #[.slice none 0 0, .bool false] 73)) k 0 nf [] [] (.slice none 0 0) := ⟨LsM.start h, hnf, Nat.zero_le _, hres⟩
  have HST := Lib.hid hst; have H0 := Lib.hid h
  clear hone hv hres hst hnf h
  go_enter Tryd.func30, Tryd.ntmps30
  go_wp2_with fail
  go_loopw [7] (fun x wr => ∃ (k1 wn nf1 : Nat) (acc : List Fl.Ft) (vs : List Value) (v : Value), x = .string ⟨(wl wn).toArray⟩ ∧ wn ≤ 2 ∧ Hid (LsR c w g d res wr k1 wn nf1 acc vs v)) (fun _ wr => c.ws.length - atOf g wr)
  case atStart => exact ⟨k, 0, nf, [], [], _, rfl, by omega, HST.out⟩
  case round =>
    obtain ⟨k1, wn, nf1, acc, vs, v, rfl, hwn, hls⟩ := hrel
    obtain ⟨hm, hnf, hal, hres⟩ := hls.out
    have hvr : Pv wr := HV.out.chg hm.chg (fun i e => by omega)
    have HC := Lib.hid (HONE.out k1 wr hm.rd hvr)
    have HM := Lib.hid hm; have HNF := Lib.hid hnf; have HRES := Lib.hid hres
    clear hls hm hnf hres hvr HST
    go_wp2_with fail
    (with_reducible refine HC.out.mono ?_)
    rintro e w2 (⟨t, r, u, k2, ho, rfl, h2⟩ | ⟨er, u, q, ho, rfl, h2⟩)
    · obtain ⟨hr, hrd2, hch2, hft2⟩ := h2.out
      obtain ⟨uT, ux, rfl⟩ := hft2.form
      have hk12 : k1 < k2 := one_next ho hr hrd2.le
      obtain ⟨nf2, rfl⟩ : ∃ nf2, nf1 = nf2 + 1 := ⟨nf1 - 1, by have := HNF.out; omega⟩
      have hstep : res = (match c.ws.drop k2 with
          | [] => .error 3
          | x :: r => if x = [41] then .ok (.sev (acc ++ [t]) (wn == 2), r)
            else if wn ≠ 2 ∧ x = Fl.sAnd then Fl.listF (Fl.oneF d) nf2 1 (acc ++ [t]) r
            else if wn ≠ 1 ∧ x = Fl.sOr then Fl.listF (Fl.oneF d) nf2 2 (acc ++ [t]) r
            else .error 3) := by
        rw [← HRES.out, Fl.listF, ho, hr]
        cases c.ws.drop k2 <;> rfl
      have hlen2 : (c.ws.drop k2).length < nf2 + 1 := by have := HNF.out; rw [List.length_drop] at this ⊢; omega
      have hm2 := HM.out.call hgp hrd2 hch2
      have hBp : w.heap.size < wr.heap.size := HM.out.blk.lt
      have hB2 : ∀ j, v.ownBlock = some j → j < wr.heap.size := fun j hj => (HM.out.own.lt j hj).2
      have hal2 : acc.length ≤ 2000 := by have := hrd2.n; have := hrd2.le; omega
      have hsz2 : w.heap.size + 1 ≤ w2.heap.size := hm2.blk.lt
      obtain ⟨A, cc, rfl, _, _, _⟩ := hm2.own.reads
      have y0 := hm2.blk.cell 0; have x0 := hm2.blk.frozen 0
      simp at y0
      have hown : OwnW w2 (w.heap.size + 1) 34 ValR.sz (.slice A acc.length cc) acc.length (vs.flatMap ValR.cells) := by rw [val_cells]; exact hm2.own
      have HOWN := Lib.hid hown
      have HST := Lib.hid hstep; have HM2 := Lib.hid hm2; have HFT := Lib.hid hft2; have HB2 := Lib.hid hB2; have HL2 := Lib.hid hlen2
      clear hown hstep hm2 hft2 hB2 hlen2 hr ho h2 HC HRES HNF hrd2 hch2
      go_upto_region 8 with (at_builtin; go_must (refine wpList_addW ValR rfl (.tmp 21) (.tmp 23) 44 (w.heap.size + 1) 34 .nilIface 16 Tryd.underlying44 Tryd.fltInfo rfl rfl (.slice A acc.length cc) acc.length vs (.iface uT ux) #[.iface uT ux] HOWN.out rfl rfl (by show Value.slice (some ⟨w2.heap.size, 0, none⟩) 1 1 = _; simp) (fun y hy => by rw [List.mem_singleton.1 hy]; exact HFT.out.one) (by omega) (by omega) hsz2 ?_); intro v3 w3 h1 h2 h3; rw [List.flatMap_append, val_cells] at h1; obtain ⟨A3, c3, rfl, _, _, _⟩ := h1.reads; have hm4 := LsM.push H0.out HM2.out hgp hBp HB2.out HFT.out h1 h2 h3; have HM4 := Lib.hid hm4; have hb3 := LsM.blk3 HM2.out h2; have y3 := hb3.cell 0; have x3 := hb3.frozen 0; simp at y3; clear h1 h2 h3 hm4 hb3)
      generalize w3.setCell ⟨w.heap.size, 0, none⟩ (.slice A3 (acc.length + 1) c3) = w4 at *
      have HTK := Lib.hid (take_l c g k2 [41] #[41] rfl w4 HM4.out.rd)
      clear y0 x0 y3 x3
      go_wp2_with fail
      (with_reducible refine HTK.out.mono ?_)
      rintro e w5 (⟨hk5, rfl, h5⟩ | ⟨hk5, rfl, h5⟩)
      · have hm5 := HM4.out.call hgp h5.out.1 h5.out.2
        have p0 := hm5.blk.cell 0; have p1 := hm5.blk.cell 1; have f1 := hm5.blk.frozen 1
        simp at p0 p1
        have hq : (wl wn == [111, 114]) = (wn == 2) := by
          rcases (by omega : wn = 0 ∨ wn = 1 ∨ wn = 2) with rfl | rfl | rfl <;> rfl
        have hre : res = .ok (.sev (acc ++ [t]) (wn == 2), c.ws.drop (k2 + 1)) := by
          rw [HST.out, drop_some hk5]
          simp
        generalize hbb : (wn == 2) = bb at *
        have hw6 : Blk (w5.setCell ⟨w.heap.size, 1, none⟩ (.bool bb)) w.heap.size 73 #[.slice A3 (acc.length + 1) c3, .bool bb] := hm5.blk.set_ 1 (.bool bb)
        have hfin : OneEnd c w g res (.returned (.tuple #[.iface 73 (.agg #[.slice A3 (acc.length + 1) c3, .bool bb]), .nilIface])) (w5.setCell ⟨w.heap.size, 1, none⟩ (.bool bb)) := by
          have hc6 : Chg w (w5.setCell ⟨w.heap.size, 1, none⟩ (.bool bb)) (fun i => i = g) := Chg.setCell (p := ⟨w.heap.size, 1, none⟩) hm5.chg (fun e => absurd e (by simp)) _
          have hc56 : Chg w5 (w5.setCell ⟨w.heap.size, 1, none⟩ (.bool bb)) (fun i => i = w.heap.size) := Chg.setCell (p := ⟨w.heap.size, 1, none⟩) (Chg.refl w5 (fun i => i = w.heap.size)) (fun _ => rfl) _
          refine .inl ⟨_, _, _, k2 + 1, hre, rfl, Lib.hid ⟨rfl, H0.out.at_ hc6 (hm5.rd.blk.chg hc56 (by omega)) hm5.rd.le, hc6, hm5.done H0.out bb rfl (fun i hi hn _ => hc56.block i hi hn) hc56.size⟩⟩
        have HFIN := Lib.hid hfin; have HW6 := Lib.hid hw6
        clear hfin hw6 hre hm5 h5 hk5 hbb
        go_upto_region 10 with fail
        generalize w5.setCell ⟨w.heap.size, 1, none⟩ (.bool bb) = w6 at *
        clear p0 p1 f1
        have p0 := HW6.out.cell 0; have p1 := HW6.out.cell 1
        simp at p0 p1
        go_wp2_with fail
        go_ret2
        exact HFIN.out
      · have hm5 := HM4.out.call hgp h5.out.1 (Chg.of_below h5.out.2)
        have HM5 := Lib.hid hm5; have HAL := Lib.hid hal
        have herr : c.ws[k2]? ≠ some [41] → (wn ≠ 2 → c.ws[k2]? ≠ some Fl.sAnd) → (wn ≠ 1 → c.ws[k2]? ≠ some Fl.sOr) → res = .error 3 := fun e1 e2 e3 => by
          cases hx : c.ws[k2]? with
          | none => rw [HST.out, drop_none hx]
          | some x =>
            rw [hx] at e1 e2 e3
            rw [HST.out, drop_some hx]
            dsimp only
            rw [if_neg (fun e => e1 (by rw [e])), if_neg (fun e => e2 e.1 (by rw [e.2])), if_neg (fun e => e3 e.1 (by rw [e.2]))]
        have HERR := Lib.hid herr
        clear herr hm5 h5 hal
        by_cases hn2 : wn = 2
        · have q2 : (wl wn == [111, 114]) = true := by rw [hn2]; rfl
          have q1 : (wl wn == [97, 110, 100]) = false := by rw [hn2]; rfl
          have HT3 := Lib.hid (take_l c g k2 Fl.sOr #[111, 114] rfl w5 HM5.out.rd)
          go_wp2_with fail
          (with_reducible refine HT3.out.mono ?_)
          rintro e w7 (⟨hk6, rfl, h6⟩ | ⟨hk6, rfl, h6⟩)
          · have hre : res = Fl.listF (Fl.oneF d) nf2 2 (acc ++ [t]) (c.ws.drop (k2 + 1)) := by
              have := HST.out
              rw [drop_some hk6] at this
              dsimp only at this
              rw [if_neg (by decide), if_neg (fun e => by have := e.2; revert this; decide), if_pos ⟨(by omega), rfl⟩] at this
              exact this
            have hm6 := HM5.out.call hgp h6.out.1 h6.out.2
            have hls : LsR c w g d res w7 (k2 + 1) 2 nf2 (acc ++ [t]) (vs ++ [.iface uT ux]) (.slice A3 (acc.length + 1) c3) := ⟨hm6, by have := HL2.out; have h9 := hm6.rd.le; rw [List.length_drop] at this ⊢; omega, by have := HAL.out; simp; omega, hre.symm⟩
            have HLS := Lib.hid hls
            clear hls hm6 hre hk6 h6
            go_wp2_with fail
            refine ⟨⟨k2 + 1, 2, nf2, _, _, _, rfl, by omega, HLS.out⟩, ?_⟩
            rw [HLS.out.m.rd.atOf, HM.out.rd.atOf]
            have := HLS.out.m.rd.le
            omega
          · have hm6 := HM5.out.call hgp h6.out.1 (Chg.of_below h6.out.2)
            have HM6 := Lib.hid hm6
            clear hm6
            have hre : res = .error 3 := HERR.out hk5 (fun e => absurd hn2 e) (fun _ => hk6)
            have HF := Lib.hid (fail_f c g k2 3 w7 HM6.out.rd)
            have HRE := Lib.hid hre
            clear hre
            go_wp2_with fail
            (with_reducible refine HF.out.mono ?_)
            rintro e w9 ⟨q, rfl, h9⟩
            go_wp2_with fail
            go_ret2
            exact .inr ⟨3, _, q, HRE.out, rfl, Lib.hid ⟨h9.out.1, HM6.out.chg.trans (Chg.of_below h9.out.2) (fun i hi e => e), .inl rfl⟩⟩
        · have q2 : (wl wn == [111, 114]) = false := by
            rcases (by omega : wn = 0 ∨ wn = 1) with rfl | rfl <;> rfl
          have HT2 := Lib.hid (take_l c g k2 Fl.sAnd #[97, 110, 100] rfl w5 HM5.out.rd)
          go_wp2_with fail
          (with_reducible refine HT2.out.mono ?_)
          rintro e w6 (⟨hk6, rfl, h6⟩ | ⟨hka, rfl, ha⟩)
          · have hre : res = Fl.listF (Fl.oneF d) nf2 1 (acc ++ [t]) (c.ws.drop (k2 + 1)) := by
              have := HST.out
              rw [drop_some hk6] at this
              dsimp only at this
              rw [if_neg (by decide), if_pos ⟨hn2, rfl⟩] at this
              exact this
            have hm6 := HM5.out.call hgp h6.out.1 h6.out.2
            have hls : LsR c w g d res w6 (k2 + 1) 1 nf2 (acc ++ [t]) (vs ++ [.iface uT ux]) (.slice A3 (acc.length + 1) c3) := ⟨hm6, by have := HL2.out; have h9 := hm6.rd.le; rw [List.length_drop] at this ⊢; omega, by have := HAL.out; simp; omega, hre.symm⟩
            have HLS := Lib.hid hls
            clear hls hm6 hre hk6 h6
            go_wp2_with fail
            refine ⟨⟨k2 + 1, 1, nf2, _, _, _, rfl, by omega, HLS.out⟩, ?_⟩
            rw [HLS.out.m.rd.atOf, HM.out.rd.atOf]
            have := HLS.out.m.rd.le
            omega
          · have hm6 := HM5.out.call hgp ha.out.1 (Chg.of_below ha.out.2)
            have HMA := Lib.hid hm6
            clear hm6 ha HT2
            by_cases hn1 : wn = 1
            · have q1 : (wl wn == [97, 110, 100]) = true := by rw [hn1]; rfl
              have hre : res = .error 3 := HERR.out hk5 (fun _ => hka) (fun e => absurd hn1 e)
              have HF := Lib.hid (fail_f c g k2 3 w6 HMA.out.rd)
              have HRE := Lib.hid hre
              clear hre
              go_wp2_with fail
              (with_reducible refine HF.out.mono ?_)
              rintro e w9 ⟨q, rfl, h9⟩
              go_wp2_with fail
              go_ret2
              exact .inr ⟨3, _, q, HRE.out, rfl, Lib.hid ⟨h9.out.1, HMA.out.chg.trans (Chg.of_below h9.out.2) (fun i hi e => e), .inl rfl⟩⟩
            · have q1 : (wl wn == [97, 110, 100]) = false := by
                obtain rfl : wn = 0 := by omega
                rfl
              have HT3 := Lib.hid (take_l c g k2 Fl.sOr #[111, 114] rfl w6 HMA.out.rd)
              go_wp2_with fail
              (with_reducible refine HT3.out.mono ?_)
              rintro e w7 (⟨hk6, rfl, h6⟩ | ⟨hk6, rfl, h6⟩)
              · have hre : res = Fl.listF (Fl.oneF d) nf2 2 (acc ++ [t]) (c.ws.drop (k2 + 1)) := by
                  have := HST.out
                  rw [drop_some hk6] at this
                  dsimp only at this
                  rw [if_neg (by decide), if_neg (fun e => by have := e.2; revert this; decide), if_pos ⟨hn1, rfl⟩] at this
                  exact this
                have hm6 := HMA.out.call hgp h6.out.1 h6.out.2
                have hls : LsR c w g d res w7 (k2 + 1) 2 nf2 (acc ++ [t]) (vs ++ [.iface uT ux]) (.slice A3 (acc.length + 1) c3) := ⟨hm6, by have := HL2.out; have h9 := hm6.rd.le; rw [List.length_drop] at this ⊢; omega, by have := HAL.out; simp; omega, hre.symm⟩
                have HLS := Lib.hid hls
                clear hls hm6 hre hk6 h6
                go_wp2_with fail
                refine ⟨⟨k2 + 1, 2, nf2, _, _, _, rfl, by omega, HLS.out⟩, ?_⟩
                rw [HLS.out.m.rd.atOf, HM.out.rd.atOf]
                have := HLS.out.m.rd.le
                omega
              · have hm6 := HMA.out.call hgp h6.out.1 (Chg.of_below h6.out.2)
                have HM6 := Lib.hid hm6
                clear hm6
                have hre : res = .error 3 := HERR.out hk5 (fun _ => hka) (fun _ => hk6)
                have HF := Lib.hid (fail_f c g k2 3 w7 HM6.out.rd)
                have HRE := Lib.hid hre
                clear hre
                go_wp2_with fail
                (with_reducible refine HF.out.mono ?_)
                rintro e w9 ⟨q, rfl, h9⟩
                go_wp2_with fail
                go_ret2
                exact .inr ⟨3, _, q, HRE.out, rfl, Lib.hid ⟨h9.out.1, HM6.out.chg.trans (Chg.of_below h9.out.2) (fun i hi e => e), .inl rfl⟩⟩
    · obtain ⟨nf2, rfl⟩ : ∃ nf2, nf1 = nf2 + 1 := ⟨nf1 - 1, by have := HNF.out; omega⟩
      have hre : res = .error er := by rw [← HRES.out, Fl.listF, ho]
      have HRE := Lib.hid hre
      clear hre ho
      go_wp2_with fail
      go_ret2
      exact .inr ⟨er, _, q, HRE.out, rfl, Lib.hid ⟨h2.out.1, HM.out.chg.trans h2.out.2.1 (fun i hi e => e), .inl rfl⟩⟩
end Go.Proofs.YtdipehgijjkfdaaDoor
