/-
  First: the first of filters that means a packet.
-/
import Derived.Test.YtdipehgijjkfdaaDoorFlMeant
namespace Go.Proofs.YtdipehgijjkfdaaDoor
open Go.RowKit
set_option linter.unusedVariables false
/-- an operation that is wanted, in a plain region -/
theorem wpList_wanted {P : Program} {w : World} {ops : Array Oper} {rest : List Oper} {o : Oper} {a : Act} {Q : Exit → Act → World → Prop} (hw : Region.wanted o (yielded ops a.tmps) = true)
    (h : ∀ K : Act → World → Prop, (∀ a w, wpList P ops Q rest a w → K a w) → o.wp P a w K Q) : wpList P ops Q (o :: rest) a w :=
  wpList_step fun K hK => by rw [if_pos hw]; exact h K hK
theorem wpList_invoke1W {q : Value} {name : String} {f : FuncId} {r : Value} {w : World} {ops : Array Oper} {rest : List Oper} {o : Oper} {a : Act} {Q : Exit → Act → World → Prop} {vx : Value} (hgd : Region.wanted o (yielded ops a.tmps) = true) (rv : Operand) (x : Operand) (tys : Array TypeId)
    (ho : o.op = .call { callee := .invoke rv name, args := #[x], argTypes := tys }) (hm : Meth q name f r) (hq : a.eval rv = q) (hx : a.eval x = vx) {R : Ending → World → Prop} (hc : Calls Tryd.prog f #[r, vx] w R) (hR : ∀ e w', R e w' → ∃ v, e = .returned v)
    (h : ∀ v w', R (.returned v) w' → wpList Tryd.prog ops Q rest (a.put o.dst v) w') : wpList Tryd.prog ops Q (o :: rest) a w := by
  refine wpList_wanted hgd fun _ hK => ?_
  subst hx
  unfold Oper.wp execOp
  simp only [ho, resolve, invoke, Sem.run_bind, Sem.run_pure, Result.andThen_ok]
  rw [hq]
  have e1 : (#[q] ++ #[x].map a.eval)[0]? = some q := by rw [Array.getElem?_append_left (by simp)]; rfl
  have e2 : (#[q] ++ #[x].map a.eval).extract 1 = #[x].map a.eval := extract_one q _
  rw [e1]
  dsimp only
  rw [e2, hm (#[x].map a.eval) w]
  have e3 : #[r] ++ #[x].map a.eval = #[r, a.eval x] := by simp
  show Calls _ _ _ _ _
  rw [e3]
  refine hc.mono fun e w' hr => ?_
  obtain ⟨v, rfl⟩ := hR e w' hr
  exact hK _ _ (h v w' hr)
def FirstEnd (x : Nat → Int) (l : List Fl.Ft) (e : Ending) : Prop := ∃ k : Int, e = .returned (.int .i64 k) ∧ ((∃ (i : Nat) (t : Fl.Ft), l[i]? = some t ∧ Fl.meantF x t = true) → 0 ≤ k)
set_option maxHeartbeats 4000000 in
set_option maxRecDepth 100000 in
theorem first_f (x : Nat → Int) (A : Option Addr) (n c B E : Nat) (vs : List Value) (l : List Fl.Ft) (w : World) (hr : Reads w E 1 A n vs) (hl : l.length = n) (hn : n ≤ 1000000) (hE : E ≤ w.heap.size)
    (hok : ∀ (i : Nat) u t, vs[i]? = some u → l[i]? = some t → FtV B E w u t ∧ Fl.okF t ∧ Fl.cnt t ≤ 1000000) :
    Calls Tryd.prog 14 #[.slice A n c, itX x] w fun e w' => FirstEnd x l e ∧ Below w.heap.size w w' := by
  have hC : ∀ (i : Nat) (u : Value) (t : Fl.Ft), vs[i]? = some u → l[i]? = some t → ∃ T r, u = .iface T r ∧ Meth u "Meant" (meantOf t) r ∧ ∀ W, Below w.heap.size w W → Calls Tryd.prog (meantOf t) #[r, itX x] W fun e w' => e = .returned (.bool (Fl.meantF x t)) ∧ Below W.heap.size W w' := fun i u t hu ht => by
    obtain ⟨hf, ok, hc⟩ := hok i u t hu ht
    obtain ⟨T, r, rfl, hm, hcall⟩ := hf.meant ok hc x
    exact ⟨T, r, rfl, hm, fun W hb => hcall W (hf.over hE hb) (Nat.le_trans hE hb.size)⟩
  have HC := Lib.hid hC; have HR := Lib.hid hr
  have hvl : vs.length = n := by have := hr.1; omega
  unfold itX at HC ⊢
  clear hok hC hr
  go_enter Tryd.func14, Tryd.ntmps14
  go_wp2_with fail
  have hb2 : Below w.heap.size w (w.alloc (.cells #[.int .i64 (x 0), .int .i64 (x 1), .int .i64 (x 2), .int .i64 (x 3), .int .i64 (x 4)] 31)) := (Below.refl w.heap.size w).alloc (Nat.le_refl _) _
  have hk2 := Blk.new w 31 #[.int .i64 (x 0), .int .i64 (x 1), .int .i64 (x 2), .int .i64 (x 3), .int .i64 (x 4)]
  have HB2 := Lib.hid hb2; have HK2 := Lib.hid hk2
  clear hb2 hk2
  generalize w.alloc (.cells #[.int .i64 (x 0), .int .i64 (x 1), .int .i64 (x 2), .int .i64 (x 3), .int .i64 (x 4)] 31) = W2 at *
  go_loopw [9] (fun iv wr => ∃ i : Nat, iv = .int .i64 i ∧ i ≤ n ∧ Hid (Below W2.heap.size W2 wr ∧ ∀ (j : Nat) (t : Fl.Ft), j < i → l[j]? = some t → Fl.meantF x t = false)) (fun iv _ => n - (intOf iv).toNat)
  case atStart => exact ⟨0, rfl, Nat.zero_le _, Lib.hid ⟨Below.refl _ _, fun j t hj => absurd hj (Nat.not_lt_zero _)⟩⟩
  case round =>
    obtain ⟨i, rfl, hi, hx⟩ := hrel
    obtain ⟨hb, hno⟩ := hx.out
    have hk2 := HK2.out.below hb HK2.out.lt
    have hbw : Below w.heap.size w wr := HB2.out.trans (hb.mono HB2.out.size)
    by_cases hlt : i < n
    · have ii : (i : Int) < (n : Int) := by omega
      obtain ⟨b, off, u, rfl, hbb, hu, hc⟩ := rdV_at HR.out hlt
      have x0 := (hbw.cell (p := ⟨b, off + i, none⟩) (by show b < _; omega)).trans hc
      obtain ⟨t, ht⟩ : ∃ t, l[i]? = some t := ⟨_, List.getElem?_eq_getElem (by omega)⟩
      obtain ⟨T1, r1, rfl, hm, hcall⟩ := HC.out i u t hu ht
      have HM := Lib.hid hm; have HCALL := Lib.hid (hcall wr hbw); have HB := Lib.hid hb; have HBW := Lib.hid hbw; have HNO := Lib.hid hno; have HT := Lib.hid ht
      have q0 := hk2.cell 0; have q1 := hk2.cell 1; have q2 := hk2.cell 2; have q3 := hk2.cell 3; have q4 := hk2.cell 4
      simp at q0 q1 q2 q3 q4
      clear hm hcall hb hbw hno hc hx hk2 ht
      go_upto_region 4 with fail
      go_wp2_with (refine wpList_invoke1W (vx := .agg #[.int .i64 (x 0), .int .i64 (x 1), .int .i64 (x 2), .int .i64 (x 3), .int .i64 (x 4)]) (by rfl) (.tmp 17) (.tmp 18) #[31] rfl HM.out rfl rfl HCALL.out (fun e w' h => ⟨_, h.1⟩) ?_; rintro v3 w3 ⟨e3, hb3⟩; injection e3 with e3; subst e3; have HB3 := Lib.hid hb3; clear hb3)
      · rename_i hmt
        go_ret
        refine ⟨⟨i, rfl, fun _ => by omega⟩, HBW.out.trans (HB3.out.mono HBW.out.size)⟩
      · rename_i hmt
        refine ⟨⟨i + 1, by go_num, by omega, Lib.hid ⟨HB.out.trans (HB3.out.mono HB.out.size), fun j t' hj hjt => ?_⟩⟩, by simp [intOf]; omega⟩
        rcases Nat.lt_or_ge j i with h | h
        · exact HNO.out j t' h hjt
        · obtain rfl : j = i := by omega
          rw [HT.out] at hjt
          injection hjt with hjt
          subst hjt
          exact hmt
    · obtain rfl : i = n := by omega
      have HNO := Lib.hid hno; have HBW := Lib.hid hbw
      clear hno hx hb hk2 hbw
      go_wp2_with fail
      go_ret
      refine ⟨⟨-1, rfl, fun ⟨j, t, hj, hm⟩ => ?_⟩, HBW.out⟩
      have hjl : j < l.length := (List.getElem?_eq_some_iff.1 hj).1
      rw [HNO.out j t (by omega) hj] at hm
      cases hm
end Go.Proofs.YtdipehgijjkfdaaDoor
