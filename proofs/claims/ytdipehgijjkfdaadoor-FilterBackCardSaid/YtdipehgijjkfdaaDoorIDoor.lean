/-
  The frame of the filters' cards: what the laid variables give a walk; a world that meets the condition; a packet as an argument.
-/
import Derived.Test.YtdipehgijjkfdaaDoorFlNum
import Derived.Test.YtdipehgijjkfdaaDoorRows
import Derived.WalkKit
import Derived.ProofKit
import Derived.OpenShut
import Derived.ChangeOld
import Derived.ChangeMaps5
import Derived.Below
import Derived.Deep.Slices
import Derived.Deep.Fields
import Derived.ChangeSame
import Derived.ChangeVars
import Derived.JoinedOf
import Derived.RowKit
import Derived.RowKitTokens
import Derived.LaidLaws
import Derived.LaidMore
import Derived.LaidHandle
import Derived.Lay
import Derived.SizedLaws
import Derived.HandedShaped
import Derived.Shelf.Vars
import Derived.Stop.Joined
namespace Go.Proofs.YtdipehgijjkfdaaDoor
open Go.ChangeShapes Go.WideShapes Go.Deep Go.RowKit
set_option linter.unusedVariables false

theorem IDoor.own : ownKnob Tryd.prog.godebug = none := by kernel_rfl
theorem IDoor.laidOut : laidOutB Tryd.prog = true := by kernel_rfl
theorem gl_fld : Tryd.prog.globalNamed "millrace/filter.fields" = some 0 := by kernel_rfl
theorem gl_d64 : Tryd.prog.globalNamed "math/bits.deBruijn64tab" = some 9 := by kernel_rfl

/-- The plain wrap, with a condition of its own and the world's shape kept. -/
theorem returns_shaped_and {H : Type} {enc : TypeId × Value → H} {a : Assume} {C : Checked} {os : Os} {f : FuncId} {fn : Func} {s : ChangeSpec} {conds : List PathCond} {apart fresh handsOn again : Bool} {X : World → Array Value → Prop}
    (hX : ∀ (w w' : World) (args : Array Value), w.heap = w'.heap → X w args → X w' args)
    (own : ownKnob C.prog.godebug = none) (started : os.Started) (noInit : C.prog.inits.idxOf? f = none) (hfn : C.prog.funcs[f]? = some fn)
    (witness : ∃ (w : World) (tape : Tape) (i : Input), w.os = os ∧ (w.forCall tape i).Shaped C.prog ∧ i.vars = [] ∧ Input.okWide C.prog (w.forCall tape i) .any w.heap.size f i ∧
      ((s.pre enc C.prog fn conds apart (w.forCall tape i).memory i.args ∧ X (w.forCall tape i).memory i.args) ∧ sizedMet enc C.prog fn (OpenSpec.ofChange s) apart (w.forCall tape i).memory i.args) ∧ a.holds C.prog (lone (Frame.enter C.prog f i.args .normal) [] (w.forCall tape i)))
    (contract : ∀ (W : World) (base : Nat) (args : Array Value) (ds gs : List (DataW H)) (before : List MemPlace),
      (∀ (j : Nat) t v, fn.params[j]? = some t → args[j]? = some v → Value.okWide C.prog W .any base t v) →
      DataW.Whole enc C.prog fn.params.toList s.vars apart W args.toList ds gs before →
      (DataW.weightsEach C.prog (fn.params.toList ++ s.plain.varTypes C.prog) (ds ++ gs)).all (· ≤ reachBytes) = true → X W args →
      W.ShapedOpen C.prog →
      Calls C.prog f args W fun e W' => ∃ v, e = .returned v ∧ s.post enc C.prog fn apart fresh handsOn again W args v W') :
    ReturnsInHanded a C os f .any (fun w args => (s.pre enc C.prog fn conds apart w args ∧ X w args) ∧ sizedMet enc C.prog fn (OpenSpec.ofChange s) apart w args) (s.post enc C.prog fn apart fresh handsOn again) := by
  refine returnsInHanded_of_calls own started noInit witness ?_
  intro w tape i _ hsh _ hok hpre _
  obtain ⟨_, _, _, fn', hfn', _, _, _, _, hval⟩ := hok
  have e : fn' = fn := Option.some.inj (hfn'.symm.trans hfn)
  subst e
  obtain ⟨⟨⟨ds, gs, before, hw, _⟩, hx⟩, hz⟩ := hpre
  have hw' := DataW.Whole.of_heap (w' := w.forCall tape i) (by rfl) hw
  refine (contract (w.forCall tape i) w.heap.size i.args ds gs before hval hw' (hz.weights hw) (hX _ _ _ (by rfl) hx) hsh).mono fun e W' ⟨v, he, hp⟩ => ?_
  subst he
  exact ChangeSpec.post_blind hp

/-- a listed variable -/
theorem laid_in {W : World} {n : String} {d : DataW Unit} : ∀ {l : List (String × DataW Unit)} {ps : List MemPlace}, DataW.LaidVars Tryd.prog W l ps → (n, d) ∈ l →
    ∃ g t cs fuel p, Tryd.prog.globalNamed n = some g ∧ (Tryd.prog.globals[g]?).map (·.type) = some t ∧ W.var? Tryd.prog n = some cs ∧ DataW.trod (fun _ => ()) Tryd.prog W 0 (fun _ => true) false fuel t cs.toList = some (d, p)
  | [], _, _, h => by cases h
  | (n', d') :: r, ps, hl, h => by
    obtain ⟨g, t, cs, fuel, p, q, h1, h2, h3, h4, h5, _⟩ := hl
    rcases List.mem_cons.1 h with h | h
    · injection h with e1 e2
      subst e1; subst e2
      exact ⟨g, t, cs, fuel, p, h1, h2, h3, h4⟩
    · exact laid_in h5 h
/-- an array of strings that reads as these -/
theorem cells_of_strs {W : World} {fuel : Nat} {t e : TypeId} {n : Nat} {cs : List Value} {zs : List (List UInt8)} {p : List MemPlace} (ht : Tryd.prog.underlying t = some (.array n e)) (he : Tryd.prog.underlying e = some .string) (hce : Tryd.prog.cellsOf e = 1) (hct : Tryd.prog.cellsOf t = n)
    (h : DataW.trod (fun _ => ()) Tryd.prog W 0 (fun _ => true) false fuel t cs = some (.agg (zs.map fun z => .lit (.string z)), p)) : cs = zs.map fun z => Value.string ⟨z.toArray⟩ := by
  cases fuel with
  | zero => simp [DataW.trod] at h
  | succ fuel =>
    simp only [DataW.trod, ht, hce, hct, Nat.mul_one] at h
    split at h
    · rename_i hl
      obtain ⟨xs, hm, hx⟩ := Option.map_eq_some_iff.1 h
      have hxs : xs.map (·.1) = zs.map fun z => (DataW.lit (.string z) : DataW Unit) := by
        have := congrArg Prod.fst hx
        simpa using this
      have hxl : xs.length = n := by simpa using Lib.mapM_length hm
      have hzl : zs.length = n := by
        have := congrArg List.length hxs
        simp at this
        omega
      apply List.ext_getElem?
      intro i
      by_cases hi : i < n
      · obtain ⟨b, hb, hf⟩ := Lib.mapM_at hm i i (by simp [hi])
        obtain ⟨z, hc, rfl, _⟩ := DataW.trod_string he hf
        have h1 : cs[i]? = some (.string z) := by
          have := congrArg (·[0]?) hc
          simpa [List.getElem?_take, List.getElem?_drop] using this
        have h2 : (xs.map (·.1))[i]? = some (DataW.lit (.string z.data.toList) : DataW Unit) := by simp [hb]
        rw [hxs] at h2
        simp only [List.getElem?_map, Option.map_eq_some_iff, DataW.lit.injEq, Lit.string.injEq] at h2
        obtain ⟨z', hz', rfl⟩ := h2
        simp [h1, hz']
      · rw [List.getElem?_eq_none (by omega), List.getElem?_eq_none (by simp; omega)]
    · cases h
/-- What the conditions give a walk. -/
theorem pv_of_met {W : World} {l : List (String × DataW Unit)} (h : laidMet Tryd.prog l W) (hsh : W.ShapedOpen Tryd.prog) (m0 : ("math/bits.deBruijn64tab", Rows.laid_math_bits_deBruijn64tab) ∈ l) (m1 : ("internal/strconv.uint64pow10", Rows.laid_internal_strconv_uint64pow10) ∈ l) (m2 : ("strconv.ErrRange", Rows.laid_strconv_ErrRange) ∈ l) (m3 : ("strconv.ErrSyntax", Rows.laid_strconv_ErrSyntax) ∈ l) (m4 : ("millrace/filter.fields", Rows.laid_millrace_filter_fields) ∈ l) : Pv W := by
  obtain ⟨ps, hl, _, _⟩ := h
  obtain ⟨_, _, cs0, _, _, _, _, hv0, _⟩ := laid_in hl m0
  obtain ⟨g1, t1, cs1, f1, _, hg1, ht1, hv1, hd1⟩ := laid_in hl m1
  obtain ⟨g2, t2, cs2, f2, _, hg2, ht2, hv2, hd2⟩ := laid_in hl m2
  obtain ⟨g3, t3, cs3, f3, _, hg3, ht3, hv3, hd3⟩ := laid_in hl m3
  obtain ⟨g4, t4, cs4, f4, _, hg4, ht4, hv4, hd4⟩ := laid_in hl m4
  obtain rfl := Option.some.inj (gl_tab.symm.trans hg1)
  obtain rfl := Option.some.inj (gl_rng.symm.trans hg2)
  obtain rfl := Option.some.inj (gl_syn.symm.trans hg3)
  obtain rfl := Option.some.inj (gl_fld.symm.trans hg4)
  obtain rfl := Option.some.inj ((show (Tryd.prog.globals[7]?).map (·.type) = some 146 by kernel_rfl).symm.trans ht1)
  obtain rfl := Option.some.inj ((show (Tryd.prog.globals[6]?).map (·.type) = some 25 by kernel_rfl).symm.trans ht2)
  obtain rfl := Option.some.inj ((show (Tryd.prog.globals[5]?).map (·.type) = some 25 by kernel_rfl).symm.trans ht3)
  obtain rfl := Option.some.inj ((show (Tryd.prog.globals[0]?).map (·.type) = some 81 by kernel_rfl).symm.trans ht4)
  obtain ⟨_, u2, x2, e2, _, _⟩ := iface_of_trod Tryd.underlying25 hd2
  obtain ⟨_, u3, x3, e3, _, _⟩ := iface_of_trod Tryd.underlying25 hd3
  have c2 : cs2 = #[.iface u2 x2] := by apply Array.toList_inj.1; exact e2
  have c3 : cs3 = #[.iface u3 x3] := by apply Array.toList_inj.1; exact e3
  rw [c2] at hv2
  rw [c3] at hv3
  obtain ⟨m, hm⟩ := cell_of_shapedOpen_int (P := Tryd.prog) (g := 4) (t := 3) (zero := #[.int .i64 0]) hsh (of_decide_eq_true (by kernel_rfl)) (by kernel_rfl) rfl (by kernel_rfl) (by kernel_rfl) Tryd.underlying3
  have hsz : 10 ≤ W.heap.size := by
    unfold World.var? at hv0
    rw [gl_d64] at hv0
    rcases Nat.lt_or_ge 9 W.heap.size with h | h
    · exact h
    · simp [Array.getElem?_eq_none h] at hv0
  have ht : Lib.TabIs Tryd.prog W "internal/strconv.uint64pow10" .u64 Lib.pow10Tab := by
    unfold Lib.TabIs
    rw [hv1, ← Lib.cells_of_tab (zs := Lib.pow10Tab) (k := .u64) (n := 20) Tryd.underlying146 Tryd.underlying127 (by kernel_rfl) (by kernel_rfl) (by exact hd1)]
  have hf := cells_of_strs (zs := [Fl.nm 0, Fl.nm 1, Fl.nm 2, Fl.nm 3, Fl.nm 4]) (n := 5) Tryd.underlying81 Tryd.underlying9 (by kernel_rfl) (by kernel_rfl) (by exact hd4)
  refine ⟨⟨_, _, hv3⟩, ⟨_, _, hv2⟩, ht, ⟨m, hm⟩, fun i hi => ?_, hsz⟩
  have hc := World.var?_cell gl_fld hv4 i
  rw [hc, ← Array.getElem?_toList, hf]
  rcases (by omega : i = 0 ∨ i = 1 ∨ i = 2 ∨ i = 3 ∨ i = 4) with rfl | rfl | rfl | rfl | rfl <;> rfl

section
variable {H : Type} {enc : TypeId × Value → H} {w : World} {base : Nat} {spare : Nat → Bool} {held : Bool}
set_option maxRecDepth 100000 in
theorem el_item5 (n : Nat) (cs : List Value) (x : DataW H × List MemPlace) (h : DataW.trod enc Tryd.prog w base spare held n 31 cs = some x) : ∃ n0 n1 n2 n3 n4 : Int, cs = [.int .i64 n0, .int .i64 n1, .int .i64 n2, .int .i64 n3, .int .i64 n4] := by
  obtain ⟨xs, m, _, _, hl, hlen, hf⟩ := DataW.trod_struct Tryd.underlying31 h
  have e5 : Tryd.prog.cellsOf 31 = 5 := by kernel_rfl
  have e3 : Tryd.prog.cellsOf 3 = 1 := by kernel_rfl
  rw [e5] at hl
  match cs, hl, xs, hlen with
  | [c0, c1, c2, c3, c4], _, [y0, y1, y2, y3, y4], _ =>
    have g0 := hf 0 _ rfl; have g1 := hf 1 _ rfl; have g2 := hf 2 _ rfl; have g3 := hf 3 _ rfl; have g4 := hf 4 _ rfl
    simp [e3] at g0 g1 g2 g3 g4
    obtain ⟨n0, e0, _⟩ := DataW.trod_int Tryd.underlying3 g0
    obtain ⟨n1, e1, _⟩ := DataW.trod_int Tryd.underlying3 g1
    obtain ⟨n2, e2, _⟩ := DataW.trod_int Tryd.underlying3 g2
    obtain ⟨n3, e3', _⟩ := DataW.trod_int Tryd.underlying3 g3
    obtain ⟨n4, e4, _⟩ := DataW.trod_int Tryd.underlying3 g4
    simp only [List.cons.injEq, and_true] at e0 e1 e2 e3' e4
    subst e0; subst e1; subst e2; subst e3'; subst e4
    exact ⟨n0, n1, n2, n3, n4, rfl⟩
set_option maxRecDepth 100000 in
/-- a packet by value -/
theorem open_item5 {r : Reach} {b0 : Nat} {v : Value} {d : DataW H} {p : List MemPlace} (hv : Value.okWide Tryd.prog w r b0 31 v) (h : DataW.Trod enc Tryd.prog w base spare held 31 v d p) : ∃ n0 n1 n2 n3 n4 : Int, v = .agg #[.int .i64 n0, .int .i64 n1, .int .i64 n2, .int .i64 n3, .int .i64 n4] := by
  obtain ⟨cs, rfl, hsz⟩ := okWide_struct Tryd.underlying31 hv
  obtain ⟨fuel, hf⟩ := h
  obtain ⟨l⟩ := cs
  obtain ⟨n0, n1, n2, n3, n4, hq⟩ := el_item5 _ _ _ hf
  have hq' : l = _ := hq
  subst hq'
  exact ⟨n0, n1, n2, n3, n4, rfl⟩
end
/-! FilterMorgan's condition -/
noncomputable abbrev fmLaid : List (String × DataW Unit) := Rows.filterMorganRow.laid
theorem pv_of_fm {W : World} (h : laidMetH Tryd.prog fmLaid W) (hsh : W.ShapedOpen Tryd.prog) : Pv W := by
  rw [MakeChecks.laidMetH_plain _ _ _ (by kernel_rfl)] at h
  refine pv_of_met h hsh ?_ ?_ ?_ ?_ ?_
  · exact .tail _ (.head _)
  · exact .tail _ (.tail _ (.head _))
  · exact .tail _ (.tail _ (.tail _ (.head _)))
  · exact .tail _ (.tail _ (.tail _ (.tail _ (.head _))))
  · exact .tail _ (.tail _ (.tail _ (.tail _ (.tail _ (.head _)))))
/-- A world that meets the condition. -/
noncomputable def fmWorld (os : Os) : World := World.laidAll Tryd.prog os fmLaid
theorem fmWorld_os (os : Os) : (fmWorld os).os = os := World.laidAll_os _ _ _
theorem fmWorld_met (os : Os) (args : Array Value) : laidMetH Tryd.prog fmLaid ((fmWorld os).forCall (fun _ _ => 0) ⟨#[], args, []⟩).memory := by
  rw [MakeChecks.laidMetH_plain _ _ _ (by kernel_rfl)]
  exact laidMet_laidAll _ (by kernel_rfl) (by kernel_rfl)
theorem fmWorld_shaped (os : Os) (args : Array Value) : ((fmWorld os).forCall (fun _ _ => 0) ⟨#[], args, []⟩).Shaped Tryd.prog := World.shaped_of_ZipB (by kernel_rfl) (by kernel_rfl)
end Go.Proofs.YtdipehgijjkfdaaDoor
