/-
  The frame of the book's cards: what the laid variables give a walk; a world that meets the condition; slices of strings, ints and bools, and a byte, as arguments.
-/
import Derived.Test.YtdipehgijjkfdaaGreatDoorBkNum
import Derived.Test.YtdipehgijjkfdaaGreatDoorRows
import Derived.WalkKit
import Derived.ProofKit
import Derived.OpenShut
import Derived.ChangeOld
import Derived.Below
import Derived.Deep.Slices
import Derived.Deep.Grids
import Derived.SliceStrings
import Derived.ChangeSame
import Derived.ChangeVars
import Derived.JoinedOf
import Derived.RowKit
import Derived.LaidLaws
import Derived.LaidMore
import Derived.Lay
import Derived.SizedLaws
import Derived.HandedShaped
import Derived.Shelf.Vars
import Derived.Stop.Joined
namespace Go.Proofs.YtdipehgijjkfdaaGreatDoor
open Go.ChangeShapes Go.WideShapes Go.Deep Go.RowKit
set_option linter.unusedVariables false

theorem BDoor.own : ownKnob Tryz.prog.godebug = none := by kernel_rfl
theorem BDoor.laidOut : laidOutB Tryz.prog = true := by kernel_rfl
noncomputable abbrev bkLaid : List (String × DataW Unit) := Rows.bookCrashesRow.laid
theorem gl_d64 : Tryz.prog.globalNamed "math/bits.deBruijn64tab" = some 7 := by kernel_rfl

/-- The plain wrap, with a condition of its own and the world's shape kept. -/
theorem returns_shaped_and {H : Type} {enc : TypeId × Value → H} {a : Assume} {C : Checked} {os : Os} {f : FuncId} {fn : Func} {s : ChangeSpec} {conds : List PathCond} {apart fresh handsOn again : Bool} {X : World → Array Value → Prop}
    (hX : ∀ (w w' : World) (args : Array Value), w.heap = w'.heap → X w args → X w' args)
    (own : ownKnob C.prog.godebug = none) (started : os.Started) (noInit : C.prog.inits.idxOf? f = none) (hfn : C.prog.funcs[f]? = some fn)
    (witness : ∃ (w : World) (tape : Tape) (i : Input), w.os = os ∧ (w.forCall tape i).Shaped C.prog ∧ i.vars = [] ∧ Input.okWide C.prog (w.forCall tape i) .any w.heap.size f i ∧
      ((s.pre enc C.prog fn conds apart (w.forCall tape i).memory i.args ∧ X (w.forCall tape i).memory i.args) ∧ sizedMet enc C.prog fn (OpenSpec.ofChange s) apart (w.forCall tape i).memory i.args) ∧ a.holds C.prog (lone (Frame.enter C.prog f i.args .normal) [] (w.forCall tape i)))
    (contract : ∀ (W : World) (base : Nat) (args : Array Value) (ds gs : List (DataW H)) (before : List MemPlace),
      (∀ (j : Nat) t v, fn.params[j]? = some t → args[j]? = some v → Value.okWide C.prog W .any base t v) →
      DataW.Whole enc C.prog fn.params.toList s.vars apart W args.toList ds gs before →
      (DataW.weightsEach C.prog (fn.params.toList ++ s.plain.varTypes C.prog) (ds ++ gs)).all (· ≤ reachBytes) = true → X W args →
      W.ShapedOpen C.prog →
      Calls C.prog f args W fun e W' => ∃ v, e = .returned v ∧ s.post enc C.prog fn apart fresh handsOn again W args v W') :
    ReturnsInHanded a C os f .any (fun w args => (s.pre enc C.prog fn conds apart w args ∧ X w args) ∧ sizedMet enc C.prog fn (OpenSpec.ofChange s) apart w args) (s.post enc C.prog fn apart fresh handsOn again) := by
  refine returnsInHanded_of_calls own started noInit witness ?_
  intro w tape i _ hsh _ hok hpre _
  obtain ⟨_, _, _, fn', hfn', _, _, _, _, hval⟩ := hok
  have e : fn' = fn := Option.some.inj (hfn'.symm.trans hfn)
  subst e
  obtain ⟨⟨⟨ds, gs, before, hw, _⟩, hx⟩, hz⟩ := hpre
  have hw' := DataW.Whole.of_heap (w' := w.forCall tape i) (by rfl) hw
  refine (contract (w.forCall tape i) w.heap.size i.args ds gs before hval hw' (hz.weights hw) (hX _ _ _ (by rfl) hx) hsh).mono fun e W' ⟨v, he, hp⟩ => ?_
  subst he
  exact ChangeSpec.post_blind hp

/-- What the conditions give a walk. -/
theorem pv_of_laid {W : World} (h : laidMetH Tryz.prog bkLaid W) (hsh : W.ShapedOpen Tryz.prog) : Pv W := by
  rw [MakeChecks.laidMetH_plain _ _ _ (by kernel_rfl)] at h
  obtain ⟨ps, ⟨_, _, _, _, _, _, _, _, _, _, ⟨_, _, cs1, _, _, _, _, _, hv1, _, ⟨g2, t2, cs2, _, _, _, hg2, ht2, hv2, hd2, ⟨_, _, _, _, _, _, _, _, _, _, ⟨g4, t4, cs4, _, _, _, hg4, ht4, hv4, hd4, ⟨g5, t5, cs5, _, _, _, hg5, ht5, hv5, hd5, _⟩, _⟩, _⟩, _⟩, _⟩, _⟩, _, hok⟩ := h
  obtain rfl := Option.some.inj (gl_rng.symm.trans hg4)
  obtain rfl := Option.some.inj (gl_syn.symm.trans hg5)
  obtain rfl := Option.some.inj (gl_tab.symm.trans hg2)
  obtain rfl := Option.some.inj ((show (Tryz.prog.globals[2]?).map (·.type) = some 30 by kernel_rfl).symm.trans ht4)
  obtain rfl := Option.some.inj ((show (Tryz.prog.globals[1]?).map (·.type) = some 30 by kernel_rfl).symm.trans ht5)
  obtain rfl := Option.some.inj ((show (Tryz.prog.globals[5]?).map (·.type) = some 128 by kernel_rfl).symm.trans ht2)
  obtain ⟨_, u4, x4, e4, _, _⟩ := iface_of_trod Tryz.underlying30 hd4
  obtain ⟨_, u5, x5, e5, _, _⟩ := iface_of_trod Tryz.underlying30 hd5
  have c4 : cs4 = #[.iface u4 x4] := by apply Array.toList_inj.1; exact e4
  have c5 : cs5 = #[.iface u5 x5] := by apply Array.toList_inj.1; exact e5
  rw [c4] at hv4
  rw [c5] at hv5
  obtain ⟨m, hm⟩ := cell_of_shapedOpen_int (P := Tryz.prog) (g := 0) (t := 3) (zero := #[.int .i64 0]) hsh (of_decide_eq_true (by kernel_rfl)) (by kernel_rfl) rfl (by kernel_rfl) (by kernel_rfl) Tryz.underlying3
  have hsz : 8 ≤ W.heap.size := by
    unfold World.var? at hv1
    rw [gl_d64] at hv1
    rcases Nat.lt_or_ge 7 W.heap.size with h | h
    · exact h
    · simp [Array.getElem?_eq_none h] at hv1
  have ht : Lib.TabIs Tryz.prog W "internal/strconv.uint64pow10" .u64 Lib.pow10Tab := by
    unfold Lib.TabIs
    rw [hv2, ← Lib.cells_of_tab (zs := Lib.pow10Tab) (k := .u64) (n := 20) Tryz.underlying128 Tryz.underlying85 (by kernel_rfl) (by kernel_rfl) (by exact hd2)]
  exact ⟨⟨_, _, hv5⟩, ⟨_, _, hv4⟩, ht, ⟨m, hm⟩, hsz⟩

/-- A world that meets the condition. -/
noncomputable def bkWorld (os : Os) : World := World.laidAll Tryz.prog os bkLaid
theorem bkWorld_met (os : Os) (args : Array Value) : laidMetH Tryz.prog bkLaid ((bkWorld os).forCall (fun _ _ => 0) ⟨#[], args, []⟩).memory := by
  rw [MakeChecks.laidMetH_plain _ _ _ (by kernel_rfl)]
  exact laidMet_laidAll _ (by kernel_rfl) (by kernel_rfl)
theorem bkWorld_shaped (os : Os) (args : Array Value) : ((bkWorld os).forCall (fun _ _ => 0) ⟨#[], args, []⟩).Shaped Tryz.prog := World.shaped_of_ZipB (by kernel_rfl) (by kernel_rfl)

section
variable {H : Type} {enc : TypeId × Value → H} {w : World} {held : Bool}
theorem bk_int_bd {n : Int} (h : (Lit.int .i64 n).wf = true) : -9223372036854775808 ≤ n ∧ n ≤ 9223372036854775807 := by
  have e1 : IntKind.i64.min = -9223372036854775808 := by decide
  have e2 : IntKind.i64.max = 9223372036854775807 := by decide
  simp only [Lit.wf, Bool.and_eq_true, decide_eq_true_eq, e1, e2] at h
  exact h
theorem bk_byte {n : Int} (h : (Lit.int .u8 n).wf = true) : ∃ t : UInt8, n = (t.toNat : Int) := by
  have e1 : IntKind.u8.min = 0 := by decide
  have e2 : IntKind.u8.max = 255 := by decide
  simp only [Lit.wf, Bool.and_eq_true, decide_eq_true_eq, e1, e2] at h
  refine ⟨UInt8.ofNat n.toNat, ?_⟩
  rw [UInt8.toNat_ofNat']
  omega
/-- a slice of strings -/
theorem open_names {v : Value} {d : DataW H} {p : List MemPlace} {a : Option Addr} {len cap : Nat} (hv : v = .slice a len cap) (h : DataW.Trod enc Tryz.prog w 0 (fun _ => true) held 22 v d p) :
    ∃ l : List (List UInt8), Reads w w.heap.size 1 a len (l.map encStr) ∧ ∀ (ts : List TypeId) (ds : List (DataW H)) (j : Nat), ts[j]? = some 22 → ds[j]? = some d → (DataW.weightsEach Tryz.prog ts ds).all (· ≤ reachBytes) = true → ∀ s ∈ l, s.length ≤ 281474976710656 := by
  subst hv
  obtain ⟨fuel, hf⟩ := h
  rcases open_strings Tryz.underlying22 Tryz.underlying9 (by kernel_rfl) hf with ⟨hcs, _⟩ | ⟨x, l, c, ss, hcs, _, hl, _, hm, hx, hi, _⟩
  · simp [Value.cells] at hcs
    obtain ⟨rfl, rfl, rfl⟩ := hcs
    exact ⟨[], ⟨rfl, fun h => absurd h (by omega)⟩, fun _ _ _ _ _ _ s hs => by cases hs⟩
  · simp [Value.cells] at hcs
    obtain ⟨rfl, rfl, rfl⟩ := hcs
    simp only [if_true] at hm
    have hlen : (ss.take len).length = len := by rw [List.length_take]; omega
    refine ⟨(ss.take len).map (·.data.toList), ⟨by simp; omega, fun hn => ⟨x, rfl, ?_, ?_⟩⟩, ?_⟩
    · have := hi 0 (by omega)
      exact lt_of_cell this
    · intro j u hu
      simp only [List.map_map, List.getElem?_map, Option.map_eq_some_iff] at hu
      obtain ⟨s, hs, rfl⟩ := hu
      have hj : j < len := by rcases Nat.lt_or_ge j len with h | h; exact h; rw [List.getElem?_eq_none (by omega)] at hs; cases hs
      rw [List.getElem?_take_of_lt hj] at hs
      have h2 := hi j (by omega)
      rw [List.getD, hs] at h2
      exact h2
    · intro ts ds j ht hd hw s hs
      obtain ⟨b, hb, rfl⟩ := List.mem_map.1 hs
      have hmem : b.data.toList.length ∈ DataW.weights Tryz.prog 22 d := by
        obtain ⟨rfl, _⟩ := Prod.mk.inj hx
        simp only [DataW.weights, Tryz.underlying22]
        refine List.mem_cons_of_mem _ (List.mem_append_left _ ?_)
        generalize ss.take len = q at hb
        induction q with
        | nil => cases hb
        | cons y r ih =>
          rcases List.mem_cons.1 hb with rfl | hb
          · simp [strs, DataW.weightsAll, DataW.weights]
          · have := ih hb
            simp only [strs, List.map_cons, DataW.weightsAll]
            exact List.mem_append_right _ this
      have := List.all_eq_true.1 hw _ (DataW.weights_mem_each ht hd _ hmem)
      simp only [decide_eq_true_eq] at this
      have h2 := reachBytes_lt
      omega
/-- a slice of ints -/
theorem open_nums {v : Value} {d : DataW H} {p : List MemPlace} {a : Option Addr} {len cap : Nat} (hv : v = .slice a len cap) (h : DataW.Trod enc Tryz.prog w 0 (fun _ => true) held 23 v d p) :
    len ≤ 9223372036854775807 ∧ ∃ l : List Int, RdI w w.heap.size a len l ∧ ∀ i, -9223372036854775808 ≤ l.getD i 0 ∧ l.getD i 0 ≤ 9223372036854775807 := by
  subst hv
  obtain ⟨fuel, hf⟩ := h
  rcases open_ints Tryz.underlying23 Tryz.underlying3 (by kernel_rfl) hf with ⟨hcs, _⟩ | ⟨x, l, c, zs, hcs, _, hl, hc, hm, hx, hi, hw⟩
  · simp [Value.cells] at hcs
    obtain ⟨rfl, rfl, rfl⟩ := hcs
    exact ⟨by omega, [], ⟨rfl, fun h => absurd h (by omega)⟩, fun i => by simp⟩
  · simp [Value.cells] at hcs
    obtain ⟨rfl, rfl, rfl⟩ := hcs
    simp only [if_true] at hm
    have hlen : (zs.take len).length = len := by rw [List.length_take]; omega
    refine ⟨by simp only [maxLen] at hc; omega, zs.take len, ⟨by simp; omega, fun hn => ⟨x, rfl, ?_, ?_⟩⟩, ?_⟩
    · have := hi 0 (by omega)
      exact lt_of_cell this
    · intro j u hu
      simp only [List.getElem?_map, Option.map_eq_some_iff] at hu
      obtain ⟨s, hs, rfl⟩ := hu
      have hj : j < len := by rcases Nat.lt_or_ge j len with h | h; exact h; rw [List.getElem?_eq_none (by omega)] at hs; cases hs
      rw [List.getElem?_take_of_lt hj] at hs
      have h2 := hi j (by omega)
      rw [List.getD, hs] at h2
      exact h2
    · intro i
      rw [List.getD]
      cases hz : (zs.take len)[i]? with
      | none => simp
      | some z => exact bk_int_bd (hw z (List.mem_of_mem_take (List.mem_of_getElem? hz)))
/-- a slice of bools -/
theorem open_flags {v : Value} {d : DataW H} {p : List MemPlace} {a : Option Addr} {len cap : Nat} (hv : v = .slice a len cap) (h : DataW.Trod enc Tryz.prog w 0 (fun _ => true) held 24 v d p) :
    len ≤ 9223372036854775807 ∧ ∃ l : List Bool, Reads w w.heap.size 1 a len (l.map Value.bool) := by
  subst hv
  obtain ⟨fuel, hf⟩ := h
  rcases open_bools Tryz.underlying24 Tryz.underlying4 (by kernel_rfl) hf with ⟨hcs, _⟩ | ⟨x, l, c, B, hcs, _, hl, hc, hx, hi⟩
  · simp [Value.cells] at hcs
    obtain ⟨rfl, rfl, rfl⟩ := hcs
    exact ⟨by omega, [], ⟨rfl, fun h => absurd h (by omega)⟩⟩
  · simp [Value.cells] at hcs
    obtain ⟨rfl, rfl, rfl⟩ := hcs
    refine ⟨by simp only [maxLen] at hc; omega, (List.range len).map B, ⟨by simp, fun hn => ⟨x, rfl, ?_, ?_⟩⟩⟩
    · have := hi 0 (by omega)
      exact lt_of_cell this
    · intro j u hu
      simp only [List.map_map, List.getElem?_map, Option.map_eq_some_iff] at hu
      obtain ⟨s, hs, rfl⟩ := hu
      have hj : j < len := by rcases Nat.lt_or_ge j len with h | h; exact h; rw [List.getElem?_eq_none (by simpa using h)] at hs; cases hs
      rw [List.getElem?_range hj] at hs
      injection hs with hs
      subst hs
      exact hi _ (by omega)
end
end Go.Proofs.YtdipehgijjkfdaaGreatDoor
