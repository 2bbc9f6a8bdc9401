/-
  Texts of this claim, one behind the other: ZDoor.
-/
import Derived.Test.YtgdijbaodfghjaaGreatDoorZ09
import Derived.Test.YtgdijbaodfghjaaGreatDoorZ16
import Derived.Test.YtgdijbaodfghjaaGreatDoorZ19
import Derived.Test.YtgdijbaodfghjaaGreatDoorZ14
import Derived.Test.YtgdijbaodfghjaaGreatDoorRows
import Derived.WalkKit
import Derived.ProofKit
import Derived.OpenShut
import Derived.ChangeOld
import Derived.ChangeMaps5
import Derived.Below
import Derived.Deep.Slices
import Derived.Deep.Fields
import Derived.ChangeSame
import Derived.ChangeVars
import Derived.JoinedOf
import Derived.RowKit
import Derived.RowKitTokens
import Derived.LaidLaws
import Derived.LaidMore
import Derived.LaidHandle
import Derived.Lay
import Derived.SizedLaws
import Derived.HandedShaped
import Derived.Shelf.Vars
import Derived.Stop.Joined
/-
  The frame of the plants' cards: what the laid variables give a walk; a world that meets the condition; rates, packets, ints as arguments.
-/
namespace Go.Proofs.YtgdijbaodfghjaaGreatDoor
open Go.ChangeShapes Go.WideShapes Go.Deep Go.RowKit Bkt
set_option linter.unusedVariables false

theorem ZDoor.own : ownKnob Tryz.prog.godebug = none := by kernel_rfl
theorem ZDoor.laidOut : laidOutB Tryz.prog = true := by kernel_rfl
theorem returns_shaped_and {H : Type} {enc : TypeId × Value → H} {a : Assume} {C : Checked} {os : Os} {f : FuncId} {fn : Func} {s : ChangeSpec} {conds : List PathCond} {apart fresh handsOn again : Bool} {X : World → Array Value → Prop}
    (hX : ∀ (w w' : World) (args : Array Value), w.heap = w'.heap → X w args → X w' args)
    (own : ownKnob C.prog.godebug = none) (started : os.Started) (noInit : C.prog.inits.idxOf? f = none) (hfn : C.prog.funcs[f]? = some fn)
    (witness : ∃ (w : World) (tape : Tape) (i : Input), w.os = os ∧ (w.forCall tape i).Shaped C.prog ∧ i.vars = [] ∧ Input.okWide C.prog (w.forCall tape i) .any w.heap.size f i ∧
      ((s.pre enc C.prog fn conds apart (w.forCall tape i).memory i.args ∧ X (w.forCall tape i).memory i.args) ∧ sizedMet enc C.prog fn (OpenSpec.ofChange s) apart (w.forCall tape i).memory i.args) ∧ a.holds C.prog (lone (Frame.enter C.prog f i.args .normal) [] (w.forCall tape i)))
    (contract : ∀ (W : World) (base : Nat) (args : Array Value) (ds gs : List (DataW H)) (before : List MemPlace),
      (∀ (j : Nat) t v, fn.params[j]? = some t → args[j]? = some v → Value.okWide C.prog W .any base t v) →
      DataW.Whole enc C.prog fn.params.toList s.vars apart W args.toList ds gs before →
      (DataW.weightsEach C.prog (fn.params.toList ++ s.plain.varTypes C.prog) (ds ++ gs)).all (· ≤ reachBytes) = true → X W args →
      W.ShapedOpen C.prog →
      Calls C.prog f args W fun e W' => ∃ v, e = .returned v ∧ s.post enc C.prog fn apart fresh handsOn again W args v W') :
    ReturnsInHanded a C os f .any (fun w args => (s.pre enc C.prog fn conds apart w args ∧ X w args) ∧ sizedMet enc C.prog fn (OpenSpec.ofChange s) apart w args) (s.post enc C.prog fn apart fresh handsOn again) := by
  refine returnsInHanded_of_calls own started noInit witness ?_
  intro w tape i _ hsh _ hok hpre _
  obtain ⟨_, _, _, fn', hfn', _, _, _, _, hval⟩ := hok
  have e : fn' = fn := Option.some.inj (hfn'.symm.trans hfn)
  subst e
  obtain ⟨⟨⟨ds, gs, before, hw, _⟩, hx⟩, hz⟩ := hpre
  have hw' := DataW.Whole.of_heap (w' := w.forCall tape i) (by rfl) hw
  refine (contract (w.forCall tape i) w.heap.size i.args ds gs before hval hw' (hz.weights hw) (hX _ _ _ (by rfl) hx) hsh).mono fun e W' ⟨v, he, hp⟩ => ?_
  subst he
  exact ChangeSpec.post_blind hp

theorem laid_in {W : World} {n : String} {d : DataW Unit} : ∀ {l : List (String × DataW Unit)} {ps : List MemPlace}, DataW.LaidVars Tryz.prog W l ps → (n, d) ∈ l →
    ∃ g t cs fuel p, Tryz.prog.globalNamed n = some g ∧ (Tryz.prog.globals[g]?).map (·.type) = some t ∧ W.var? Tryz.prog n = some cs ∧ DataW.trod (fun _ => ()) Tryz.prog W 0 (fun _ => true) false fuel t cs.toList = some (d, p)
  | [], _, _, h => by cases h
  | (n', d') :: r, ps, hl, h => by
    obtain ⟨g, t, cs, fuel, p, q, h1, h2, h3, h4, h5, _⟩ := hl
    rcases List.mem_cons.1 h with h | h
    · injection h with e1 e2
      subst e1; subst e2
      exact ⟨g, t, cs, fuel, p, h1, h2, h3, h4⟩
    · exact laid_in h5 h
theorem pv_of_met {W : World} {l : List (String × DataW Unit)} (h : laidMet Tryz.prog l W) (m0 : ("math/bits.deBruijn64tab", Rows.laid_math_bits_deBruijn64tab) ∈ l) (m1 : ("internal/strconv.uint64pow10", Rows.laid_internal_strconv_uint64pow10) ∈ l) (m2 : ("strconv.ErrRange", Rows.laid_strconv_ErrRange) ∈ l) (m3 : ("strconv.ErrSyntax", Rows.laid_strconv_ErrSyntax) ∈ l) (hh : Handle W) : Pv W := by
  obtain ⟨ps, hl, _, _⟩ := h
  obtain ⟨g0, _, cs0, _, _, hg0, _, hv0, _⟩ := laid_in hl m0
  obtain ⟨g1, t1, cs1, f1, _, hg1, ht1, hv1, hd1⟩ := laid_in hl m1
  obtain ⟨g2, t2, cs2, f2, _, hg2, ht2, hv2, hd2⟩ := laid_in hl m2
  obtain ⟨g3, t3, cs3, f3, _, hg3, ht3, hv3, hd3⟩ := laid_in hl m3
  obtain rfl := Option.some.inj (gl_tab.symm.trans hg1)
  obtain rfl := Option.some.inj (gl_rng.symm.trans hg2)
  obtain rfl := Option.some.inj (gl_syn.symm.trans hg3)
  obtain rfl := Option.some.inj ((show (Tryz.prog.globals[3]?).map (·.type) = some 213 by kernel_rfl).symm.trans ht1)
  obtain rfl := Option.some.inj ((show (Tryz.prog.globals[2]?).map (·.type) = some 52 by kernel_rfl).symm.trans ht2)
  obtain rfl := Option.some.inj ((show (Tryz.prog.globals[1]?).map (·.type) = some 52 by kernel_rfl).symm.trans ht3)
  obtain ⟨_, u2, x2, e2, _, _⟩ := iface_of_trod Tryz.underlying52 hd2
  obtain ⟨_, u3, x3, e3, _, _⟩ := iface_of_trod Tryz.underlying52 hd3
  have c2 : cs2 = #[.iface u2 x2] := by apply Array.toList_inj.1; exact e2
  have c3 : cs3 = #[.iface u3 x3] := by apply Array.toList_inj.1; exact e3
  rw [c2] at hv2
  rw [c3] at hv3
  have hsz : 6 ≤ W.heap.size := by
    unfold World.var? at hv0
    rw [show Tryz.prog.globalNamed "math/bits.deBruijn64tab" = some 5 by kernel_rfl] at hv0
    rcases Nat.lt_or_ge 5 W.heap.size with h | h
    · exact h
    · simp [Array.getElem?_eq_none h] at hv0
  have ht : Lib.TabIs Tryz.prog W "internal/strconv.uint64pow10" .u64 Lib.pow10Tab := by
    unfold Lib.TabIs
    rw [hv1, ← Lib.cells_of_tab (zs := Lib.pow10Tab) (k := .u64) (n := 20) Tryz.underlying213 Tryz.underlying194 (by kernel_rfl) (by kernel_rfl) (by exact hd1)]
  exact ⟨hh, ⟨_, _, hv3⟩, ⟨_, _, hv2⟩, ht, hsz⟩
noncomputable abbrev zdLaid : List (String × DataW Unit) := Rows.plantKeepsRow.laid
noncomputable abbrev zdPlain : List (String × DataW Unit) := [("math/bits.deBruijn32tab", Rows.laid_math_bits_deBruijn32tab), ("math/bits.deBruijn64tab", Rows.laid_math_bits_deBruijn64tab), ("internal/strconv.uint64pow10", Rows.laid_internal_strconv_uint64pow10), ("strconv.ErrRange", Rows.laid_strconv_ErrRange), ("strconv.ErrSyntax", Rows.laid_strconv_ErrSyntax)]
theorem zd_parts {W : World} (h : laidMetH Tryz.prog zdLaid W) : laidMet Tryz.prog zdPlain W ∧ handlesMet Tryz.prog [("errors.errorType", Rows.laid_errors_errorType)] W := h
theorem ZDoor.et : Tryz.prog.globalNamed "errors.errorType" = some 0 := by kernel_rfl
theorem ZDoor.rt : (Tryz.prog.cutTypes.find? (·.1 == "internal/reflectlite.rtype")).map (·.2) = some 173 := by kernel_rfl
theorem ZDoor.oneRow : ((List.range Tryz.prog.types.size).filter fun t => Tryz.prog.rowNamed t [101, 114, 114, 111, 114]) = [52] := by kernel_rfl
theorem handle_of_parts {W : World} (h : handlesMet Tryz.prog [("errors.errorType", Rows.laid_errors_errorType)] W) : Handle W := by
  obtain ⟨name, u, ty, e1, e2, e3, e4, e5⟩ := h _ (List.mem_singleton.2 rfl)
  have en : name = [101, 114, 114, 111, 114] := (Option.some.inj e1).symm
  subst en
  obtain rfl := Option.some.inj (ZDoor.rt.symm.trans e2)
  have hm : ty ∈ (List.range Tryz.prog.types.size).filter fun t => Tryz.prog.rowNamed t [101, 114, 114, 111, 114] := List.mem_filter.2 ⟨List.mem_range.2 e3, e4⟩
  rw [ZDoor.oneRow] at hm
  obtain rfl := List.mem_singleton.1 hm
  have hh : typeHandle Tryz.prog 52 = .pointer (some ⟨6, 52, none⟩) := by kernel_rfl
  rw [hh] at e5
  unfold Handle
  simpa using World.var?_cell ZDoor.et e5 0
theorem pv_of_zd {W : World} (h : laidMetH Tryz.prog zdLaid W) : Pv W := by
  refine pv_of_met (zd_parts h).1 ?_ ?_ ?_ ?_ (handle_of_parts (zd_parts h).2)
  · exact .tail _ (.head _)
  · exact .tail _ (.tail _ (.head _))
  · exact .tail _ (.tail _ (.tail _ (.head _)))
  · exact .tail _ (.tail _ (.tail _ (.tail _ (.head _))))
noncomputable def zdWorld (os : Os) : World :=
  let w0 := World.laidAll Tryz.prog os zdPlain
  { w0 with heap := w0.heap.modify 0 fun
      | .cells _ t frozen => .cells #[.iface 173 (.agg #[.pointer (some ⟨6, 52, none⟩)])] t frozen
      | o => o }
theorem zdWorld_os (os : Os) : (zdWorld os).os = os := by
  have h := World.laidAll_os Tryz.prog os zdPlain
  unfold zdWorld
  generalize World.laidAll Tryz.prog os zdPlain = w0 at h ⊢
  exact h
set_option maxRecDepth 100000 in
theorem zdWorld_met (os : Os) (args : Array Value) : laidMetH Tryz.prog zdLaid ((zdWorld os).forCall (fun _ _ => 0) ⟨#[], args, []⟩).memory :=
  laidMetH_of_parts (l := zdLaid) (show laidMet Tryz.prog zdPlain _ from laidMet_of_run' 8 (by kernel_rfl) (by kernel_rfl)) (by kernel_rfl)
theorem zdWorld_shaped (os : Os) (args : Array Value) : ((zdWorld os).forCall (fun _ _ => 0) ⟨#[], args, []⟩).Shaped Tryz.prog := World.shaped_of_ZipB (by kernel_rfl) (by kernel_rfl)
section
variable {H : Type} {enc : TypeId × Value → H} {w : World} {base : Nat} {spare : Nat → Bool} {held : Bool}
set_option maxRecDepth 100000 in
theorem open_rate {r : Reach} {b0 : Nat} {v : Value} {d : DataW H} {p : List MemPlace} (hv : Value.okWide Tryz.prog w r b0 23 v) (h : DataW.Trod enc Tryz.prog w base spare held 23 v d p) :
    ∃ b t : Int, v = .agg #[.int .i64 b, .int .i64 t] := by
  obtain ⟨cs, rfl, hsz⟩ := okWide_struct Tryz.underlying23 hv
  have hsz3 : cs.size = 2 := hsz.trans (by kernel_rfl)
  obtain ⟨l⟩ := cs
  match l, hsz3 with
  | [c0, c1], _ =>
    obtain ⟨fuel, hf⟩ := h
    obtain ⟨y0, y1, n, _, _, g0, g1⟩ := trod_struct2 Tryz.underlying23 hf
    have e3 : Tryz.prog.cellsOf 3 = 1 := by kernel_rfl
    simp only [e3, Value.cells, List.drop, List.take] at g0 g1
    obtain ⟨a, ha, _⟩ := DataW.trod_int Tryz.underlying3 g0
    obtain ⟨b, hb, _⟩ := DataW.trod_int Tryz.underlying3 g1
    simp only [List.cons.injEq, and_true] at ha hb
    subst ha; subst hb
    exact ⟨a, b, rfl⟩
theorem int_bd {n : Int} (h : (Lit.int .i64 n).wf = true) : -9223372036854775808 ≤ n ∧ n ≤ 9223372036854775807 := by
  have e1 : IntKind.i64.min = -9223372036854775808 := by decide
  have e2 : IntKind.i64.max = 9223372036854775807 := by decide
  simp only [Lit.wf, Bool.and_eq_true, decide_eq_true_eq, e1, e2] at h
  exact h
theorem el_itR (n : Nat) (cs : List Value) (x : DataW H × List MemPlace) (h : DataW.trod enc Tryz.prog w base spare held n 34 cs = some x) : ∃ q : It, cs = ItR.cells q := by
  obtain ⟨q, hq⟩ := el_item _ _ _ h
  exact ⟨q, hq⟩
theorem open_items {v : Value} {d : DataW H} {p : List MemPlace} {a : Option Addr} {len cap : Nat} (hv : v = .slice a len cap) (h : DataW.Trod enc Tryz.prog w base spare held 24 v d p) : ∃ l : List It, RdIt w w.heap.size a len l := by
  obtain ⟨_, l, hr⟩ := open_recs ItR Tryz.underlying24 (by kernel_rfl) el_itR hv h
  exact ⟨l, hr⟩
end
end Go.Proofs.YtgdijbaodfghjaaGreatDoor
