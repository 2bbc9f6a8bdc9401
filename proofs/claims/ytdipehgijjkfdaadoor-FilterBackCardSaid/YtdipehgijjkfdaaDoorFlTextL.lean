/-
  The text of several filters; the text of any filter.
-/
import Derived.Test.YtdipehgijjkfdaaDoorFlText
import Derived.Test.YtdipehgijjkfdaaDoorFlMeant
import Derived.Test.YtdipehgijjkfdaaDoorFlList
namespace Go.Proofs.YtdipehgijjkfdaaDoor
open Go.RowKit
set_option linter.unusedVariables false
theorem Tryd.strInfo3 : (Tryd.prog.info? 9).map (fun i => (i.zero, i.size, i.bytes)) = some (some (.string ⟨#[]⟩), 1, 16) := by kernel_rfl
theorem sv_list (l : List (List UInt8)) : (l.map fun s => (⟨s.toArray⟩ : ByteArray)).map (·.data.toList) = l := by
  rw [List.map_map]
  conv => rhs; rw [← List.map_id l]
  exact List.map_congr_left fun s _ => by simp
/-- the strings joined: a row of the call's own -/
theorem join_f (ts : List (List UInt8)) (hn : ts ≠ []) (hl : ts.length ≤ 1000000) (sep : List UInt8) (sa : Array UInt8) (hsa : sep.toArray = sa) (hj : (Lib.join ts sep).length ≤ 100000000) (base : Nat) (v : Value) (w : World) (h : OwnW w base 9 1 v ts.length (ts.map sv)) :
    Calls Tryd.prog 103 #[v, .string ⟨sa⟩] w fun e w' => e = .returned (.string ⟨(Lib.join ts sep).toArray⟩) ∧ Below w.heap.size w w' := by
  subst hsa
  obtain ⟨A, c, rfl, hc, _, hr⟩ := h.reads
  have hp : 0 < ts.length := List.length_pos_iff.2 hn
  obtain ⟨b, off, u, rfl, hb, _, _⟩ := rdV_at hr hp
  have hall : ∀ (j : Nat) x, (ts.map fun s => (⟨s.toArray⟩ : ByteArray))[j]? = some x → w.cell? ⟨b, off + j, none⟩ = some (.string x) := fun j x hx => by
    rw [List.getElem?_map, Option.map_eq_some_iff] at hx
    obtain ⟨s, hs, rfl⟩ := hx
    have hj : j < ts.length := (List.getElem?_eq_some_iff.1 hs).1
    obtain ⟨b2, off2, u2, e, _, hu2, hc2⟩ := rdV_at hr hj
    injection e with e
    injection e with e1 e2
    subst e1; subst e2
    rw [List.getElem?_map, hs] at hu2
    injection hu2 with hu2
    subst hu2
    exact hc2
  have := Tryd.strings_Join b off c (ts.map fun s => (⟨s.toArray⟩ : ByteArray)) ⟨sep.toArray⟩ w hall hb (by rw [List.length_map]; omega) (by rw [List.length_map]; omega) (by rw [sv_list]; show (Lib.join ts sep.toArray.toList).length ≤ _; simp; omega)
  rw [List.length_map, sv_list] at this
  exact this
theorem take_snoc {α : Type} {l : List α} {i : Nat} {x : α} (h : l[i]? = some x) : l.take (i + 1) = l.take i ++ [x] := by
  rw [List.take_add_one, h]
  rfl
set_option maxHeartbeats 4000000 in
set_option maxRecDepth 100000 in
theorem sev_text (B E : Nat) (l : List Fl.Ft) (hne : l ≠ []) (ok : Fl.okL l) (hcn : Fl.cntL l ≤ 1000000) (a : Bool) (ih : ∀ (i : Nat) (t : Fl.Ft), l[i]? = some t → ∀ v, TextOk B E v t) (r : Value) (T : TypeId) (w : World) (h : FtV B E w (.iface T r) (.sev l a)) (hE : E ≤ w.heap.size) (hv : Pv w) :
    Calls Tryd.prog 102 #[r] w fun e w' => e = .returned (.string ⟨(Fl.textF (.sev l a)).toArray⟩) ∧ Below w.heap.size w w' := by
  obtain ⟨A, c, vs, rfl, hr, _, hel⟩ := h.sev_inv
  have hC : ∀ (i : Nat) (u : Value) (t : Fl.Ft), vs[i]? = some u → l[i]? = some t → ∀ W, Below w.heap.size w W → ∃ T r, u = .iface T r ∧ Meth u "Text" (textOf t) r ∧ Calls Tryd.prog (textOf t) #[r] W fun e w' => e = .returned (.string ⟨(Fl.textF t).toArray⟩) ∧ Below W.heap.size W w' := fun i u t hu ht W hb => by
    have hf := hel i u t hu ht
    obtain ⟨T, r, rfl, _, hm⟩ := hf.meth
    exact ⟨T, r, rfl, hm, ih i t ht _ T r rfl W (hf.over hE hb) (Nat.le_trans hE hb.size) (hv.over hb)⟩
  have HC := Lib.hid hC; have HR := Lib.hid hr
  have hvl : vs.length = l.length := by have := hr.1; omega
  have hll : l.length ≤ 1000000 := by have := cntL_len l; omega
  have htl := Fl.textL_len l
  have hjl : ∀ sep : List UInt8, sep.length ≤ 5 → (Lib.join (Fl.textL l) sep).length ≤ 50 * Fl.cntL l := fun sep hs => by
    have h1 := Fl.join_len sep (Fl.textL l)
    have h2 := Fl.text_lenL l ok
    have h3 : ((Fl.textL l).map (·.length + sep.length)).sum ≤ ((Fl.textL l).map (·.length + 5)).sum := by
      generalize Fl.textL l = q
      clear h1 h2 htl
      induction q with
      | nil => simp
      | cons y r ih => simp only [List.map_cons, List.sum_cons]; omega
    omega
  have HT := Lib.hid (fun i t (e : l[i]? = some t) => show (Fl.textL l)[i]? = some (Fl.textF t) by rw [Fl.textL_get, e]; rfl)
  rw [Fl.textF]
  have hnt : Fl.textL l ≠ [] := fun e => by rw [e] at htl; exact hne (List.eq_nil_of_length_eq_zero htl.symm)
  generalize Fl.textL l = ts at *
  have HJ := Lib.hid (fun (sep : List UInt8) (sa : Array UInt8) (e : sep.toArray = sa) (hs : sep.length ≤ 5) v W B0 (ho : OwnW W B0 9 1 v ts.length (ts.map sv)) => join_f ts hnt (by omega) sep sa e (by have := hjl sep hs; omega) B0 v W ho)
  have HJL := Lib.hid hjl; have HV := Lib.hid hv
  clear ih h hel hC hr hjl hnt hv ok hne
  go_enter Tryd.func102, Tryd.ntmps102
  go_wp2_with fail
  have hb2 : Below w.heap.size w (w.alloc (.cells #[.slice A l.length c, .bool a] 73)) := (Below.refl w.heap.size w).alloc (Nat.le_refl _) _
  have hk1 : Blk (w.alloc (.cells #[.slice A l.length c, .bool a] 73)) w.heap.size 73 #[.slice A l.length c, .bool a] := Blk.new w _ _
  have HB2 := Lib.hid hb2; have HK1 := Lib.hid hk1
  have hsz : w.heap.size < (w.alloc (.cells #[.slice A l.length c, .bool a] 73)).heap.size := by simp
  have HSZ := Lib.hid hsz
  clear hb2 hk1 hsz
  generalize w.alloc (.cells #[.slice A l.length c, .bool a] 73) = W2 at *
  go_loopw [3, 10] (fun v iv wr => ∃ i : Nat, iv = .int .i64 i ∧ i ≤ l.length ∧ Hid (Below W2.heap.size W2 wr ∧ OwnW wr W2.heap.size 9 1 v i ((ts.take i).map sv))) (fun _ iv _ => l.length - (intOf iv).toNat)
  case atStart => exact ⟨0, rfl, Nat.zero_le _, Lib.hid ⟨Below.refl _ _, OwnW.nil _ _ _ _⟩⟩
  case round =>
    obtain ⟨i, rfl, hi, hx⟩ := hrel
    obtain ⟨hb, hown⟩ := hx.out
    have hk1 := HK1.out.below hb HK1.out.lt
    have hbw : Below w.heap.size w wr := HB2.out.trans (hb.mono HB2.out.size)
    have p1 := hk1.cell 1
    simp at p1
    by_cases hlt : i < l.length
    · have ii : (i : Int) < (l.length : Int) := by omega
      obtain ⟨b, off, u, rfl, hbb, hu, hc⟩ := rdV_at HR.out hlt
      have x0 := (hbw.cell (p := ⟨b, off + i, none⟩) (by show b < _; omega)).trans hc
      obtain ⟨t, ht⟩ : ∃ t, l[i]? = some t := ⟨_, List.getElem?_eq_getElem hlt⟩
      obtain ⟨T1, r1, rfl, hm, hcall⟩ := HC.out i u t hu ht wr hbw
      obtain ⟨A0, c0, rfl, _, _, _⟩ := hown.reads
      have hnx : ((ts.take (i + 1)).map sv) = (ts.take i).map sv ++ [sv (Fl.textF t)] := by rw [take_snoc (HT.out i t ht)]; simp
      have HM := Lib.hid hm; have HCALL := Lib.hid hcall; have HNX := Lib.hid hnx; have HBW := Lib.hid hb
      have HOWN := Lib.hid hown
      have hws := hb.size
      clear hx hb hown hm hcall hnx hk1 hbw hc hu ht HC HT HJ HJL p1
      generalize Fl.textF t = st at *
      go_upto_region 5 with fail
      go_wp2_with (first
        | (refine wpList_invoke0 rfl (.tmp 15) #[] rfl HM.out rfl HCALL.out (fun e w' h => ⟨_, h.1⟩) ?_; rintro v3 w3 ⟨e3, hb3⟩; injection e3 with e3; subst e3; have hw3 := hb3.size; have HO3 : Hid (OwnW w3 W2.heap.size 9 ValR.sz (.slice A0 i c0) i (((ts.take i).map sv).flatMap ValR.cells)) := Lib.hid (by rw [val_cells]; exact HOWN.out.below hb3); have HB3 := Lib.hid (HBW.out.trans (hb3.mono hws)); clear hb3)
        | (at_builtin; go_must (refine wpList_addW ValR rfl (.tmp 14) (.tmp 17) 64 W2.heap.size 9 (.string ⟨#[]⟩) 16 Tryd.underlying64 Tryd.strInfo3 rfl rfl (.slice A0 i c0) i ((ts.take i).map sv) (sv st) #[sv st] HO3.out rfl rfl (by show Value.slice (some ⟨w3.heap.size, 0, none⟩) 1 1 = _; simp) (fun y hy => by rw [List.mem_singleton.1 hy]; rfl) (by omega) (by omega) (by omega) ?_); intro v4 w4 h1 h2 h3; rw [List.flatMap_append, val_cells] at h1; have H1 := Lib.hid h1; have H2 := Lib.hid h2; clear h1 h2 h3))
      refine ⟨⟨i + 1, by go_num, by omega, Lib.hid ⟨HB3.out.grown H2.out (by omega) (fun j hj => (HOWN.out.lt j hj).1), by rw [HNX.out]; exact H1.out⟩⟩, by simp [intOf]; omega⟩
    · obtain rfl : i = l.length := by omega
      obtain ⟨A0, c0, rfl, _, _, _⟩ := hown.reads
      rw [← htl, List.take_length] at hown
      have hws := hb.size
      have hj := fun sep sa e hs => HJ.out sep sa e hs _ wr _ hown
      rw [htl] at hj
      have HJ2 := Lib.hid hj
      have HBW := Lib.hid hbw
      clear hx hb hown hj hk1 hbw HC HT HJ
      cases a with
      | true =>
        have hl := HJL.out [32, 111, 114, 32] (by decide)
        have HJ3 := Lib.hid (HJ2.out [32, 111, 114, 32] #[32, 111, 114, 32] rfl (by decide))
        obtain ⟨js, hjs⟩ : ∃ js, Lib.join ts [32, 111, 114, 32] = js := ⟨_, rfl⟩
        obtain ⟨p, hp⟩ : ∃ p, [40] ++ js = p := ⟨_, rfl⟩
        obtain ⟨q, hq⟩ : ∃ q, p ++ [41] = q := ⟨_, rfl⟩
        rw [hjs] at HJ3 hl
        have hpl : p.length = js.length + 1 := by rw [← hp]; simp
        have hql : q.length = p.length + 1 := by rw [← hq]; simp
        have c1 := cat_run [40] js p hp (by omega)
        have c2 := cat_run p [41] q hq (by omega)
        have hfin : ([40] ++ Lib.join ts (if true = true then [32, 111, 114, 32] else [32, 97, 110, 100, 32]) ++ [41] : List UInt8) = q := by rw [if_pos rfl, hjs, hp, hq]
        have HF := Lib.hid hfin
        clear hfin hjs hp hq HJ2 HJL
        go_wp2_with fail
        (with_reducible refine HJ3.out.mono ?_)
        rintro e w3 ⟨rfl, hb3⟩
        have HB3 := Lib.hid (HBW.out.trans (hb3.mono HBW.out.size))
        clear hb3
        go_wp2_with fail
        go_ret
        exact ⟨by rw [← HF.out]; rfl, HB3.out⟩
      | false =>
        have hl := HJL.out [32, 97, 110, 100, 32] (by decide)
        have HJ3 := Lib.hid (HJ2.out [32, 97, 110, 100, 32] #[32, 97, 110, 100, 32] rfl (by decide))
        obtain ⟨js, hjs⟩ : ∃ js, Lib.join ts [32, 97, 110, 100, 32] = js := ⟨_, rfl⟩
        obtain ⟨p, hp⟩ : ∃ p, [40] ++ js = p := ⟨_, rfl⟩
        obtain ⟨q, hq⟩ : ∃ q, p ++ [41] = q := ⟨_, rfl⟩
        rw [hjs] at HJ3 hl
        have hpl : p.length = js.length + 1 := by rw [← hp]; simp
        have hql : q.length = p.length + 1 := by rw [← hq]; simp
        have c1 := cat_run [40] js p hp (by omega)
        have c2 := cat_run p [41] q hq (by omega)
        have hfin : ([40] ++ Lib.join ts (if false = true then [32, 111, 114, 32] else [32, 97, 110, 100, 32]) ++ [41] : List UInt8) = q := by rw [if_neg (by decide), hjs, hp, hq]
        have HF := Lib.hid hfin
        clear hfin hjs hp hq HJ2 HJL
        go_wp2_with fail
        (with_reducible refine HJ3.out.mono ?_)
        rintro e w3 ⟨rfl, hb3⟩
        have HB3 := Lib.hid (HBW.out.trans (hb3.mono HBW.out.size))
        clear hb3
        go_wp2_with fail
        go_ret
        exact ⟨by rw [← HF.out]; rfl, HB3.out⟩
mutual
theorem text_any (B E : Nat) : ∀ t : Fl.Ft, Fl.okF t → Fl.cnt t ≤ 1000000 → ∀ v, TextOk B E v t
  | .tst f lo hi b, ok, _, v => by
    intro T r e W hW hE hv
    subst e
    cases hW
    exact tst_text f lo hi b ok W hv
  | .any, ok, _, v => by
    intro T r e W hW hE hv
    subst e
    cases hW
    rw [Fl.textF]
    exact any_text W
  | .not t, ok, hn, v => by
    intro T r e W hW hE hv
    subst e
    simp only [Fl.cnt] at hn
    cases hW with
    | not h => exact not_text B E t _ (by have := Fl.text_len t ok; omega) (text_any B E t ok (by omega) _) W h hE hv
  | .sev l a, ok, hn, v => by
    intro T r e W hW hE hv
    subst e
    simp only [Fl.cnt] at hn
    exact sev_text B E l ok.1 ok.2 (by omega) a (text_anyL B E l ok.2 (by omega)) r T W hW hE hv
theorem text_anyL (B E : Nat) : ∀ l : List Fl.Ft, Fl.okL l → Fl.cntL l ≤ 1000000 → ∀ (i : Nat) (t : Fl.Ft), l[i]? = some t → ∀ v, TextOk B E v t
  | [], _, _, i, t, e, v => by simp at e
  | t :: r, ok, hn, 0, t', e, v => by
    simp at e
    subst e
    exact text_any B E t ok.1 (by simp only [Fl.cntL] at hn; omega) v
  | t :: r, ok, hn, i + 1, t', e, v => text_anyL B E r ok.2 (by simp only [Fl.cntL] at hn; omega) i t' (by simpa using e) v
end
end Go.Proofs.YtdipehgijjkfdaaDoor
