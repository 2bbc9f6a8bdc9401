/-
  sketch.sorted: a map of ints, told as pairs: a permutation of its entries, each once.
-/
import Derived.Test.YtdddpdhjkeanmaaSkSort
import Derived.Test.YtdddpdhjkeanmaaMapC
namespace Go.Proofs.Ytdddpdhjkeanmaa
open Go.RowKit Go.Sort Go.Shelf
open Go.Maps (Keyed int_keyed keyOf_int_mk)
set_option linter.unusedVariables false
theorem Try.lawI : Keyed Try.prog 3 := int_keyed Try.underlying3
theorem Try.zeroI (w : World) : (zeroValue 3).run Try.prog w = .ok (.int .i64 0) w := by kernel_rfl
theorem Try.prInfo : (Try.prog.info? 32).map (fun i => (i.zero, i.size, i.bytes)) = some (some (.agg #[.int .i64 0, .int .i64 0]), 2, 16) := by kernel_rfl
theorem flat_pr (l : List (Int × Int)) (i j : Nat) (hi : i < l.length) (hj : j < 2) : (flatK encPr 2 l.toArray)[i * 2 + j]! = (encPr (ixR PrR l i))[j]! := by
  rw [get_flatK _ _ _ _ (by simp; omega), show (i * 2 + j) / 2 = i by omega, show (i * 2 + j) % 2 = j by omega]
  congr 2
  unfold ixR
  simp [hi]
theorem encPr_get (p : Int × Int) {j : Nat} (hj : j < 2) : (encPr p)[j]? = some (encPr p)[j]! := by
  rcases (show j = 0 ∨ j = 1 by omega) with rfl | rfl <;> rfl
theorem holds_of_own {w : World} {base n c g : Nat} {l : List (Int × Int)} (h : w.ownsRow base 32 2 (.slice (some ⟨g, 0, none⟩) n c) n (l.flatMap PrR.cells)) : HoldsK encPr 2 w g 0 l.toArray := by
  obtain ⟨A, c', e, hr⟩ := own_reads h
  injection e with e1 _ _
  subst e1
  have hr : RdR PrR w w.heap.size (some ⟨g, 0, none⟩) n l := hr
  have hn := hr.len
  have hb : ∃ cs, Blk w g 32 cs := by
    rcases h.2 with ⟨h', _⟩ | ⟨g', cap, cur, h', _, hh, _⟩
    · cases h'
    · injection h' with h1 _ _
      injection h1 with h1
      injection h1 with h1
      subst h1
      exact ⟨_, hh⟩
  obtain ⟨cs, hb⟩ := hb
  intro j hj
  rw [size_flatK] at hj
  have hj' : j < l.length * 2 := by simpa using hj
  have hc := hr.all (k := j / 2) (by omega) (j % 2) _ (encPr_get _ (by omega))
  have e2 : j / 2 * 2 + j % 2 = j := by omega
  have e3 : PrR.sz = 2 := rfl
  rw [e3, e2] at hc
  refine ⟨?_, by rw [Nat.zero_add]; exact hb.frozen j⟩
  have := flat_pr l (j / 2) (j % 2) (by omega) (by omega)
  rw [e2] at this
  rw [this]
  exact hc
theorem rd_of_holds {w : World} {g : Nat} {d : Array (Int × Int)} (h : HoldsK encPr 2 w g 0 d) (hg : g < w.heap.size) : RdR PrR w w.heap.size (some ⟨g, 0, none⟩) d.toList.length d.toList := by
  refine ⟨flatR_len _, fun _ => ⟨_, rfl, hg, fun j u hu => ?_⟩⟩
  have hl : j < d.toList.length * 2 := by
    have h1 := (List.getElem?_eq_some_iff.1 hu).1
    rw [flatR_len] at h1
    exact h1
  have e2 : j / 2 * 2 + j % 2 = j := by omega
  have h1 := flatR_get (R := PrR) d.toList (j / 2) (j % 2) (by omega) (show j % 2 < 2 by omega)
  have hh := (h j (by rw [size_flatK]; simpa using hl)).1
  have h3 := flat_pr d.toList (j / 2) (j % 2) (by omega) (by omega)
  rw [e2] at h3
  have e3 : PrR.sz = 2 := rfl
  rw [e3, e2, hu] at h1
  have h4 : (encPr (ixR PrR d.toList (j / 2)))[j % 2]? = some u := h1.symm
  rw [encPr_get _ (by omega)] at h4
  rw [Addr.add_lit, hh]
  show some (flatK encPr 2 d.toList.toArray)[j]! = _
  rw [h3]
  exact h4
theorem sortWorld_below {w : World} {g B m : Nat} {d' : Array (Int × Int)} {os : Array Obj} (hB : B ≤ g) (hg : g < w.heap.size) : Below B w (sortWorldK encPr 2 w g 0 m d' os) := by
  refine ⟨rfl, rfl, rfl, size_sortWorldK_c encPr 2 w g 0 m d' os, fun i hi => ?_⟩
  unfold sortWorldK
  rw [heap_grow_old _ _ (by rw [size_putRowK]; show i < w.heap.size; omega)]
  unfold putRowK putRow mapBlock
  simp only [Array.getElem?_modify]
  rw [if_neg (by omega)]
  rfl
theorem perm_of_in {d d' : Array (Int × Int)} (h : PermIn 0 d.size d d') : d'.toList.Perm d.toList := by
  obtain ⟨h1, _, h3⟩ := h
  have e1 : d.extract 0 d.size = d := by simp
  have e2 : d'.extract 0 d.size = d' := by rw [← h1]; simp
  rwa [e1, e2] at h3
def SortOut (w : World) (B : Nat) (A : Option Addr) (l : List (Int × Int)) (e : Ending) (w' : World) : Prop :=
  e = .returned (.tuple #[]) ∧ ∃ P : List (Int × Int), P.Perm l ∧ RdR PrR w' w'.heap.size A l.length P ∧ Below B w w'
theorem sort_some {w : World} {B base n c g : Nat} {l : List (Int × Int)} (h : w.ownsRow base 32 2 (.slice (some ⟨g, 0, none⟩) n c) n (l.flatMap PrR.cells)) (hB : B ≤ base) (hn : n ≤ 1000000) :
    Calls Try.prog 16 #[.slice (some ⟨g, 0, none⟩) n c, .func (.func 17) #[] #[]] w (SortOut w B (some ⟨g, 0, none⟩) l) := by
  have hH := holds_of_own h
  obtain ⟨A, c', e, hr⟩ := own_reads h
  injection e with e1 _ _
  subst e1
  have hr : RdR PrR w w.heap.size (some ⟨g, 0, none⟩) n l := hr
  have hln := hr.len
  have hg : base ≤ g ∧ g < w.heap.size := by
    rcases h.2 with ⟨h', _⟩ | ⟨g', cap, cur, h', hb, hh, _⟩
    · cases h'
    · injection h' with h1 _ _
      injection h1 with h1
      injection h1 with h1
      subst h1
      exact ⟨hb, Blk.lt (show Blk w g 32 cur from hh)⟩
  have eg : ∀ args w, (callFunc 17 args).run Try.prog w = .ok (.enter 17 args) w := enters_of Try.func17 (by kernel_rfl) rfl
  have hsz : l.toArray.size = n := by simpa using hln
  have hcon := AnyQ.slices_SortFunc Try.sortPair 2 Try.isAgg32 Try.sizeOf32 encPr (fun _ => rfl) (fun x v hv => pr_one x v hv) prCmp pr_swo 17 #[] g 0 c l.toArray w eg (cmpLays_pr g 0 _ w) hH hg.2 (by rw [hsz]; omega)
  change Calls Try.prog 16 _ _ _ at hcon
  rw [hsz] at hcon
  refine hcon.mono ?_
  rintro e w' ⟨he, d', m, os, hp, _, rfl⟩
  rw [← hsz] at hp
  have hd : d'.size = l.toArray.size := hp.1
  have hh := holdsK_sortWorldK_c encPr 2 w g 0 l.toArray d' m os hH hg.2 hd
  have hgl : g < (sortWorldK encPr 2 w g 0 m d' os).heap.size := Nat.lt_of_lt_of_le hg.2 (size_sortWorldK_c encPr 2 w g 0 m d' os)
  have hrd := rd_of_holds hh hgl
  have hpl := perm_of_in hp
  rw [hpl.length_eq] at hrd
  exact ⟨he, d'.toList, hpl, hrd, sortWorld_below (Nat.le_trans hB hg.1) hg.2⟩
set_option maxRecDepth 100000 in
theorem ins_none (cap : Nat) (fv : Value) (w : World) : Calls Try.prog 23 #[.slice none 0 cap, .int .i64 0, .int .i64 0, fv] w fun e w' => e = .returned (.tuple #[]) ∧ w' = w := by
  go_enter Try.func23, Try.ntmps23
  go_wp2
  refine wp_loop_rounds 1 ?_
  rw [rounds_succ]
  go_wp2
  go_end0
  exact ⟨rfl, rfl⟩
set_option maxRecDepth 100000 in
theorem pdq_none (cap : Nat) (lim : Int) (fv : Value) (w : World) : Calls Try.prog 20 #[.slice none 0 cap, .int .i64 0, .int .i64 0, .int .i64 lim, fv] w fun e w' => e = .returned (.tuple #[]) ∧ w' = w := by
  have hi := fun W => ins_none cap fv W
  have HI := Lib.hid hi
  clear hi
  go_enter Try.func20, Try.ntmps20
  go_wp2
  refine wp_loop_rounds 1 ?_
  rw [rounds_succ]
  go_wp2_with (go_at_call 23; (with_reducible refine (HI.out _).mono ?_); rintro e w' ⟨rfl, rfl⟩)
  (try simp only [Exit.inBlock, Exit.then]); refine bodyPost_ret (results_none rfl _ _ _) rfl ?_
  exact ⟨rfl, rfl⟩
end Go.Proofs.Ytdddpdhjkeanmaa
