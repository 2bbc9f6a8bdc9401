/-
  The book: Name, Add.
-/
import Derived.Test.YtdipehgijjkfdaaGreatDoorBkLine
import Derived.Deep.RegionLaw
import Derived.Deep.CutRange
import Derived.Deep.CutBlock
import Derived.Deep.QuietTactic
import Derived.StillTailTactics
import Derived.Maps.OwnOps
namespace Go.Proofs.YtdipehgijjkfdaaGreatDoor
open Go.RowKit Go.Maps
set_option linter.unusedVariables false
section
variable {P : Program} {w : World}
theorem step_append_str {ops : Array Oper} {o : Oper} {a : Act} {K : Act → World → Prop} {Q : Exit → Act → World → Prop} {E : Prop} (hgd : o.guard = none) (sl x : Operand) (t u : TypeId)
    (ho : o.op = .call { callee := .builtin .append, args := #[sl, x], argTypes := #[t, u] })
    (base : Nat) (e : TypeId) (i : TypeInfo) (ht : P.underlying t = some (.slice e)) (hu : P.underlying u = some .string) (hi : P.info? e = some i) (hz : i.zero = some (.int .u8 0))
    (hsize : i.size = 1) (hby : i.bytes = 1)
    (v : Value) (n : Nat) (xs : List Value) (hs : a.eval sl = v) (hown : w.ownsRow base e 1 v n xs) (s : ByteArray) (hx : a.eval x = .string s)
    (h63 : n + s.size ≤ maxLen) (hbytes : n + s.size ≤ 140737488355328) (hbase : base ≤ w.heap.size)
    (h : ∀ v' w', w'.ownsRow base e 1 v' (n + s.size) (xs ++ Lib.strCells s) → w.grownBy w' v.ownBlock → K (a.put o.dst v') w') :
    if Region.wanted o (yielded ops a.tmps) = true then Oper.wp P o a w K Q else E := by
  have hw : Region.wanted o (yielded ops a.tmps) = true := by simp [Region.wanted, hgd]
  rw [if_pos hw]
  obtain ⟨v', w', hr, h2, h3, h4⟩ := Lib.run_append_own_string (P := P) w base t u o.type e i ht hu hi hz hsize hby v n xs hown s h63 hbytes hbase
  unfold Oper.wp execOp
  simp only [ho, resolve, invoke, builtin, Sem.run_bind, Sem.run_pure, Result.andThen_ok, List.map_toArray, List.map_cons, List.map_nil, hs, hx, hr]
  exact h v' w' h2 h3
end
theorem Tryz.u8Info : (Tryz.prog.info? 5).map (fun i => (i.zero, i.size, i.bytes)) = some (some (.int .u8 0), 1, 1) := by kernel_rfl
theorem trim_nil (s c : List UInt8) : Lib.trimS s c = [] ↔ s.all (c.contains ·) = true := by
  unfold Lib.trimS Lib.trimLeftS Lib.trimRightS
  have dw : ∀ (p : UInt8 → Bool) (l : List UInt8), l.dropWhile p = [] ↔ l.all p = true := by
    intro p l
    induction l with
    | nil => simp
    | cons x r ih =>
      rw [List.dropWhile_cons]
      by_cases h : p x = true
      · rw [if_pos h, ih]; simp [h]
      · rw [if_neg h]; simp [h]
  rw [dw, List.all_reverse]
  constructor
  · intro h
    rw [List.all_eq_true] at h ⊢
    intro x hx
    have h2 : s.reverse = s.reverse.takeWhile (c.contains ·) ++ s.reverse.dropWhile (c.contains ·) := (List.takeWhile_append_dropWhile).symm
    have hx2 : x ∈ s.reverse := List.mem_reverse.2 hx
    rw [h2, List.mem_append] at hx2
    rcases hx2 with h3 | h3
    · exact List.all_eq_true.1 (List.all_takeWhile (p := (c.contains ·)) (l := s.reverse)) x h3
    · exact h x h3
  · intro h
    rw [List.all_eq_true] at h ⊢
    intro x hx
    exact h x (List.mem_reverse.1 ((List.dropWhile_sublist _).subset hx))
theorem nset_is : Bo.nset = [97, 98, 99, 100, 101, 102, 103, 104, 105, 106, 107, 108, 109, 110, 111, 112, 113, 114, 115, 116, 117, 118, 119, 120, 121, 122, 48, 49, 50, 51, 52, 53, 54, 55, 56, 57, 45] := by decide +kernel
theorem name_any (s : List UInt8) (w : World) (hs : s.length ≤ 281474976710656) : Calls Tryz.prog 21 #[.string ⟨s.toArray⟩] w fun e w' => Below w.heap.size w w' ∧ e = .returned (.bool (Bo.nameB s)) := by
  have ht : ∀ W, Calls Tryz.prog 30 #[.string ⟨s.toArray⟩, .string ⟨#[97, 98, 99, 100, 101, 102, 103, 104, 105, 106, 107, 108, 109, 110, 111, 112, 113, 114, 115, 116, 117, 118, 119, 120, 121, 122, 48, 49, 50, 51, 52, 53, 54, 55, 56, 57, 45]⟩] W fun e w' => e = .returned (.string ⟨(Lib.trimS s [97, 98, 99, 100, 101, 102, 103, 104, 105, 106, 107, 108, 109, 110, 111, 112, 113, 114, 115, 116, 117, 118, 119, 120, 121, 122, 48, 49, 50, 51, 52, 53, 54, 55, 56, 57, 45]).toArray⟩) ∧ Below W.heap.size W w' := fun W => Tryz.strings_Trim ⟨s.toArray⟩ ⟨#[97, 98, 99, 100, 101, 102, 103, 104, 105, 106, 107, 108, 109, 110, 111, 112, 113, 114, 115, 116, 117, 118, 119, 120, 121, 122, 48, 49, 50, 51, 52, 53, 54, 55, 56, 57, 45]⟩ W (by show s.toArray.size ≤ _; simp; omega) (by decide) (by
    intro j b hb
    have h2 : ∀ b ∈ ([97, 98, 99, 100, 101, 102, 103, 104, 105, 106, 107, 108, 109, 110, 111, 112, 113, 114, 115, 116, 117, 118, 119, 120, 121, 122, 48, 49, 50, 51, 52, 53, 54, 55, 56, 57, 45] : List UInt8), b.toNat < 128 := by decide
    exact h2 b (List.mem_of_getElem? hb))
  have hn := trim_nil s Bo.nset
  rw [nset_is] at hn
  have hnb : Bo.nameB s = (decide (s ≠ []) && decide (s.length ≤ 12) && s.all (Bo.nset.contains ·)) := rfl
  rw [nset_is] at hnb
  generalize Lib.trimS s [97, 98, 99, 100, 101, 102, 103, 104, 105, 106, 107, 108, 109, 110, 111, 112, 113, 114, 115, 116, 117, 118, 119, 120, 121, 122, 48, 49, 50, 51, 52, 53, 54, 55, 56, 57, 45] = T at ht hn
  generalize (s.all fun x => List.contains [97, 98, 99, 100, 101, 102, 103, 104, 105, 106, 107, 108, 109, 110, 111, 112, 113, 114, 115, 116, 117, 118, 119, 120, 121, 122, 48, 49, 50, 51, 52, 53, 54, 55, 56, 57, 45] x) = bb at hn hnb
  have HT := Lib.hid ht; have HN := Lib.hid hn; have HNB := Lib.hid hnb
  clear ht hn hnb
  go_enter Tryz.func21, Tryz.ntmps21
  by_cases h0 : s = []
  · subst h0
    go_wp2_with fail
    go_ret
    exact ⟨Below.refl _ _, rfl⟩
  · have hne : s.isEmpty = false := by cases s with
      | nil => exact absurd rfl h0
      | cons _ _ => rfl
    by_cases h12 : s.length ≤ 12
    · go_wp2_with fail
      (with_reducible refine (HT.out _).mono ?_)
      rintro e w1 ⟨rfl, hb⟩
      have HB := Lib.hid hb
      clear hb
      go_wp2_with fail
      go_ret
      refine ⟨HB.out, ?_⟩
      have e1 : T.isEmpty = bb := by
        have := HN.out
        cases T with
        | nil => cases bb <;> simp_all
        | cons x r => cases bb <;> simp_all
      rw [HNB.out, decide_eq_true h0, decide_eq_true h12]
      simp [e1]
    · have hb : Bo.nameB s = false := by rw [HNB.out, decide_eq_false h12]; simp
      rw [hb]
      go_wp2_with fail
      go_ret
      exact ⟨Below.refl _ _, rfl⟩
/-- which error -/
def errA (x : Bo.Ln) : Int := if Bo.nameB x.name = false then 5 else if 1 ≤ x.n ∧ x.n ≤ 1000000 then 4 else 2
def AddOut (B g : Nat) (xs : List Bo.Ln) (su : Nat) (mv : Option Nat) (dv : Value) (x : Bo.Ln) (w : World) (e : Ending) (w' : World) : Prop :=
  ∃ r, e = .returned r ∧ ((Bo.addOk xs.length x = true ∧ r = .nilIface ∧ Hid (∃ mv' dv', BkM w' B g (xs ++ [x]) su mv' dv' ∧ Chg w w' (FB g mv dv))) ∨
    (Bo.addOk xs.length x = false ∧ r = .iface 45 (.int .i64 (errA x)) ∧ Below w.heap.size w w'))
theorem Tryz.zeroI (w : World) : (zeroValue 3).run Tryz.prog w = .ok (.int .i64 0) w := by kernel_rfl
theorem keyS (l : List UInt8) (h : l.length ≤ 281474976710656) : keyOf Tryz.prog 9 (.string ⟨l.toArray⟩) = some (.string l) :=
  WideMaps.keyOf_string_mk (P := Tryz.prog) Tryz.underlying9 (s := ⟨l.toArray⟩) (by show l.toArray.size ≤ maxLen; unfold maxLen; simp; omega)
theorem addOk_name {i : Nat} {x : Bo.Ln} (h : Bo.nameB x.name = false) : Bo.addOk i x = false := by unfold Bo.addOk; rw [h]; rfl
theorem addOk_num {i : Nat} {x : Bo.Ln} (h : ¬ (1 ≤ x.n ∧ x.n ≤ 1000000)) : Bo.addOk i x = false := by unfold Bo.addOk; rw [decide_eq_false h]; simp
theorem addOk_all {i : Nat} {x : Bo.Ln} (h1 : Bo.nameB x.name = true) (h2 : 1 ≤ x.n ∧ x.n ≤ 1000000) (h3 : i ≠ 500) : Bo.addOk i x = true := by unfold Bo.addOk; rw [h1, decide_eq_true h2, decide_eq_true h3]; rfl
theorem ownsMap_chg {w w' : World} {S : Nat → Prop} {k e : TypeId} {b n : Nat} {D : DataW Unit} (h : w.ownsMap Tryz.prog k (plainElem Tryz.prog e) b n D) (hc : Chg w w' S) (hn : ¬ S b) : w'.ownsMap Tryz.prog k (plainElem Tryz.prog e) b n D := by
  have hl := h.lt
  obtain ⟨es, clock, h1, h2⟩ := h
  exact ⟨es, clock, (hc.block b hl hn).trans h1, h2⟩
theorem MapB.some_ {w : World} {B b : Nat} {xs : List Bo.Ln} (h : MapB w B (some b) xs) : ∃ D : DataW Unit, B ≤ b ∧ w.ownsMap Tryz.prog 9 (plainElem Tryz.prog 3) b xs.length D ∧ FRepS D (Bo.cntL xs) := by
  rcases h with ⟨e, _⟩ | ⟨b', D, e, h1, h2, h3⟩
  · cases e
  · cases e; exact ⟨D, h1, h2, h3⟩
/-- ahead of the journal's line: there is a map -/
def AdMid (B g : Nat) (xs : List Bo.Ln) (su : Nat) (mv : Option Nat) (dv : Value) (w wx : World) : Prop := ∃ b, BkM wx B g xs su (some b) dv ∧ Chg w wx (FB g mv dv) ∧ (mv = some b ∨ w.heap.size ≤ b)
theorem adMid_made {B g : Nat} {xs : List Bo.Ln} {su : Nat} {dv : Value} {w : World} (h : BkM w B g xs su none dv) : AdMid B g xs su none dv w ((w.alloc (.map #[] 0)).setCell ⟨g, 0, none⟩ (.map (some w.heap.size))) := by
  have hx : xs = [] := by
    rcases h.map with ⟨_, e⟩ | ⟨b, D, e, _⟩
    · exact e
    · cases e
  subst hx
  have hgl := h.blk.lt
  have hc1 : Chg w (w.alloc (.map #[] 0)) (FB g none dv) := (Chg.refl w _).alloc _
  have hc2 : Chg w ((w.alloc (.map #[] 0)).setCell ⟨g, 0, none⟩ (.map (some w.heap.size))) (FB g none dv) := hc1.setCell (fun _ => .inl rfl) _
  have hne := h.ne
  have hc3 : Chg (w.alloc (.map #[] 0)) ((w.alloc (.map #[] 0)).setCell ⟨g, 0, none⟩ (.map (some w.heap.size))) (fun i => i = g) := Chg.setCell (p := ⟨g, 0, none⟩) (Chg.refl _ (fun i => i = g)) (fun _ => rfl) _
  have hc4 : Chg w ((w.alloc (.map #[] 0)).setCell ⟨g, 0, none⟩ (.map (some w.heap.size))) (fun i => i = g) := Chg.setCell (p := ⟨g, 0, none⟩) ((Chg.refl w (fun i => i = g)).alloc _) (fun _ => rfl) _
  refine ⟨w.heap.size, ⟨(h.blk.alloc _).set_ 0 _, h.bg, .inr ⟨w.heap.size, .map [], rfl, h.bs, ?_, freps_empty⟩, ?_, h.ok, h.su, Nat.le_trans h.bs hc2.size⟩, hc2, .inr (Nat.le_refl _)⟩
  · exact ownsMap_chg (World.ownsMap_made w Tryz.prog 9 _) hc3 (by show ¬ w.heap.size = g; omega)
  · exact ownsRow_chg h.data hc4 (fun b hb e => hne.2.1 (by rw [hb, e]))
/-- behind it -/
structure AdNext (B g : Nat) (xs : List Bo.Ln) (su b : Nat) (dv dv' : Value) (x : Bo.Ln) (w wx : World) : Prop where
  blk : Blk wx g 43 #[.map (some b), .int .i64 xs.length, dv', .int .i64 su]
  map : MapB wx B (some b) xs
  data : wx.ownsRow B 5 1 dv' (Bo.dataF 0 (xs ++ [x])).length (bC (Bo.dataF 0 (xs ++ [x])))
  chg : Chg w wx (fun i => i = g ∨ dv.ownBlock = some i)
theorem adNext_fin {B g su b : Nat} {xs : List Bo.Ln} {dv v' : Value} {x : Bo.Ln} {wc w2 w3 : World} (hm : BkM wc B g xs su (some b) dv) (hb : Below wc.heap.size wc w2)
    (h3 : w3.ownsRow B 5 1 v' ((Bo.dataF 0 xs).length + (Bo.lineF xs.length x).length) (bC (Bo.dataF 0 xs) ++ Lib.strCells ⟨(Bo.lineF xs.length x).toArray⟩)) (hg : w2.grownBy w3 dv.ownBlock) :
    AdNext B g xs su b dv v' x wc (w3.setCell ⟨g, 2, none⟩ v') := by
  have k3 : Blk w3 g 43 #[.map (some b), .int .i64 xs.length, dv, .int .i64 su] := (hm.below hb).blk.grown hg (fun e => hm.ne.2.1 e.symm)
  have hc1 : Chg wc w3 (fun i => i = g ∨ dv.ownBlock = some i) := (Chg.of_below hb).trans (Chg.of_grown (S := fun i => i = g ∨ dv.ownBlock = some i) hg (fun i e => .inr e.symm)) (fun _ _ h => h)
  have hc2 : Chg wc (w3.setCell ⟨g, 2, none⟩ v') (fun i => i = g ∨ dv.ownBlock = some i) := hc1.setCell (p := ⟨g, 2, none⟩) (fun _ => .inl rfl) _
  have hc3 : Chg w3 (w3.setCell ⟨g, 2, none⟩ v') (fun i => i = g) := Chg.setCell (p := ⟨g, 2, none⟩) (Chg.refl _ (fun i => i = g)) (fun _ => rfl) _
  have hne := hm.ne
  refine ⟨k3.set_ 2 v', hm.map.chg hc2 (fun b' e => ?_), ?_, hc2⟩
  · rintro (e2 | e2)
    · rw [e2] at e; exact hne.1 e
    · exact hne.2.2 _ e e2
  · rw [Bo.data_snoc, List.length_append, bC_app, ← strCells_is (Bo.lineF xs.length x)]
    exact ownsRow_chg h3 hc3 (fun i e e2 => own_blk_ne h3 k3 (by decide) (by rw [e, e2]))
theorem add_chg {w w1 wc w9 : World} {B g su b : Nat} {mv : Option Nat} {xs : List Bo.Ln} {dv : Value} (h1 : Below w.heap.size w w1) (h2 : Chg w1 wc (FB g mv dv)) (h3 : Chg wc w9 (FB g (some b) dv)) (hb : mv = some b ∨ w1.heap.size ≤ b) (h : BkM w1 B g xs su mv dv) : Chg w w9 (FB g mv dv) := by
  refine ((Chg.of_below h1).trans h2 (fun _ _ h => h)).trans h3 (fun i hi hS => ?_)
  rcases hS with e | e | e
  · exact .inl e
  · rcases hb with e2 | e2
    · exact .inr (.inl (by rw [e2]; exact e))
    · injection e with e
      have := h1.size
      omega
  · exact .inr (.inr e)
theorem add_end {B g su b : Nat} {xs : List Bo.Ln} {dv dv' : Value} {nm : List UInt8} {n c : Int} {wc wx w9 : World} {D : DataW Unit} (hm : BkM wc B g xs su (some b) dv) (hn : AdNext B g xs su b dv dv' ⟨nm, n⟩ wc wx) (hbB : B ≤ b)
    (hD : FRepS D (Bo.cntL xs)) (hc : D.atKey (.string nm) (.lit (.int .i64 0)) = .lit (.int .i64 c)) (h9 : w9.ownsMap Tryz.prog 9 (plainElem Tryz.prog 3) b (xs.length + 1) (D.put (.string nm) (.lit (.int .i64 (wrap64 (c + n))))))
    (hg : (wx.setCell ⟨g, 1, none⟩ (.int .i64 ((xs.length : Int) + 1))).grownBy w9 (some b)) (hok : Bo.addOk xs.length ⟨nm, n⟩ = true) :
    BkM w9 B g (xs ++ [⟨nm, n⟩]) su (some b) dv' ∧ Chg wc w9 (FB g (some b) dv) := by
  have hl := Bo.addOk_ln hok
  have h0 : 1 ≤ n := hl.n0
  have h1 : n ≤ 1000000 := hl.n1
  have hne := hm.ne
  have hx5 := hm.len
  have hbd := Bo.cntL_bd hm.ok nm
  have hcc : c = Bo.cntL xs nm := by
    have h2 := hD.at_ nm
    have h3 : D.atKey (.string nm) (.lit (.int .i64 0)) = .lit (.int .i64 (Bo.cntL xs nm)) := h2
    rw [hc] at h3
    injection h3 with h3
    injection h3 with _ h3
  have hbg : b ≠ g := fun e => hne.1 (by rw [e])
  have hdb : dv'.ownBlock ≠ some b := fun e => by
    obtain ⟨_, h2⟩ := hn.data
    rcases h2 with ⟨e4, _⟩ | ⟨b', c', cur, e4, hb, hc', _⟩
    · rw [e4] at e; cases e
    · rw [e4] at e
      have e5 : b = b' := by simpa [Value.ownBlock] using e.symm
      subst e5
      obtain ⟨es, clock, h3, _⟩ := hn.map.some_.choose_spec.2.1
      rw [hc'] at h3; cases h3
  have hdg : dv'.ownBlock ≠ some g := own_blk_ne hn.data hn.blk (by decide)
  have hc3 : Chg wx (wx.setCell ⟨g, 1, none⟩ (.int .i64 ((xs.length : Int) + 1))) (fun i => i = g) := Chg.setCell (p := ⟨g, 1, none⟩) (Chg.refl _ (fun i => i = g)) (fun _ => rfl) _
  have hc4 : Chg wx w9 (fun i => i = g ∨ i = b) := (hc3.mono (fun i _ h => .inl h)).trans (Chg.of_grown (S := fun i => i = g ∨ i = b) hg (fun i e => .inr (by injection e))) (fun _ _ h => h)
  have hk := (hn.blk.set_ 1 (.int .i64 ((xs.length : Int) + 1))).grown hg (fun e => hbg (by injection e with e; exact e.symm))
  refine ⟨⟨?_, hm.bg, .inr ⟨b, D.put (.string nm) (.lit (.int .i64 (wrap64 (c + n)))), rfl, hbB, ?_, ?_⟩, ownsRow_chg hn.data hc4 (fun i e e2 => ?_), hm.ok.snoc (by rw [Nat.zero_add]; exact hok), ?_, ?_⟩, ?_⟩
  · have e1 : (#[.map (some b), .int .i64 xs.length, dv', .int .i64 su] : Array Value).setIfInBounds 1 (.int .i64 ((xs.length : Int) + 1)) = #[.map (some b), .int .i64 (xs ++ [(⟨nm, n⟩ : Bo.Ln)]).length, dv', .int .i64 su] := by simp
    rw [e1] at hk
    exact hk
  · rw [List.length_append]; exact h9
  · have h4 : wrap64 (c + n) = c + n := IntWalk.wrap64_in _ (by omega)
    rw [h4]
    refine (hD.put nm (c + n) (by omega)).congr fun k => ?_
    rw [Bo.cntL_snoc, hcc]
    by_cases e : k = nm
    · subst e; simp
    · rw [if_neg e, if_neg e]
  · rcases e2 with e2 | e2
    · exact hdg (by rw [e, e2])
    · exact hdb (by rw [e, e2])
  · rw [Bo.data_snoc, List.length_append]; have := hm.su; omega
  · exact Nat.le_trans hm.bs (Nat.le_trans hn.chg.size hc4.size)
  · refine (hn.chg.mono (fun i _ h => ?_)).trans (hc4.mono (fun i _ h => ?_)) (fun i _ h => ?_) (S := FB g (some b) dv) (S' := FB g (some b) dv)
    · exact h.elim .inl (fun h => .inr (.inr h))
    · exact h.elim .inl (fun h => .inr (.inl (by rw [h])))
    · exact h
set_option maxHeartbeats 4000000 in
set_option maxRecDepth 100000 in
theorem add_any (B g : Nat) (xs : List Bo.Ln) (su : Nat) (mv : Option Nat) (dv : Value) (nm : List UInt8) (n : Int) (w : World) (h : BkM w B g xs su mv dv) (hv : Pv w) (hn0 : -9223372036854775808 ≤ n) (hn1 : n ≤ 9223372036854775807) (hl : nm.length ≤ 281474976710656) (hB8 : 8 ≤ B) :
    Calls Tryz.prog 13 #[.pointer (some ⟨g, 0, none⟩), .string ⟨nm.toArray⟩, .int .i64 n] w (AddOut B g xs su mv dv ⟨nm, n⟩ w) := by
  have hN := name_any nm w hl
  have hx5 := h.len
  have HN := Lib.hid hN; have H := Lib.hid h; have HV := Lib.hid hv; have HB8 := Lib.hid hB8
  clear hN h hv hB8
  go_enter Tryz.func13, Tryz.ntmps13
  go_wp2_with fail
  (with_reducible refine HN.out.mono ?_)
  rintro e w1 ⟨hb1, rfl⟩
  have h1 := H.out.below hb1
  have y0 := h1.blk.cell 0; have y1 := h1.blk.cell 1; have y2 := h1.blk.cell 2
  have x0 := h1.blk.frozen 0
  simp at y0 y1 y2
  have HB1 := Lib.hid hb1; have H1 := Lib.hid h1
  clear hb1 h1 HN
  cases hnm : Bo.nameB nm with
  | false =>
    have HX := Lib.hid (addOk_name (i := xs.length) (x := ⟨nm, n⟩) hnm)
    have HNB := Lib.hid hnm
    clear hnm
    go_wp2_with fail
    go_ret
    exact ⟨_, rfl, .inr ⟨HX.out, by unfold errA; rw [if_pos HNB.out]; rfl, HB1.out⟩⟩
  | true =>
    have HNM := Lib.hid hnm
    clear hnm
    by_cases hlo : n < 1
    · have HX := Lib.hid (addOk_num (i := xs.length) (x := ⟨nm, n⟩) (by show ¬ (1 ≤ n ∧ _); omega))
      go_wp2_with fail
      go_ret
      exact ⟨_, rfl, .inr ⟨HX.out, by unfold errA; rw [if_neg (by rw [HNM.out]; simp), if_neg (by show ¬ (1 ≤ n ∧ n ≤ 1000000); omega)]; rfl, HB1.out⟩⟩
    · by_cases hhi : 1000000 < n
      · have HX := Lib.hid (addOk_num (i := xs.length) (x := ⟨nm, n⟩) (by show ¬ (1 ≤ n ∧ n ≤ 1000000); omega))
        go_wp2_with fail
        go_ret
        exact ⟨_, rfl, .inr ⟨HX.out, by unfold errA; rw [if_neg (by rw [HNM.out]; simp), if_neg (by show ¬ (1 ≤ n ∧ n ≤ 1000000); omega)]; rfl, HB1.out⟩⟩
      · by_cases h500 : (xs.length : Int) = 500
        · have HX : Hid (Bo.addOk xs.length ⟨nm, n⟩ = false) := Lib.hid (by unfold Bo.addOk; rw [show decide (xs.length ≠ 500) = false from decide_eq_false (by omega)]; simp)
          go_wp2_with fail
          go_ret
          exact ⟨_, rfl, .inr ⟨HX.out, by unfold errA; rw [if_neg (by rw [HNM.out]; simp), if_pos (by show 1 ≤ n ∧ n ≤ 1000000; omega)]; rfl, HB1.out⟩⟩
        · have HOK := Lib.hid (addOk_all (i := xs.length) (x := ⟨nm, n⟩) HNM.out (by show 1 ≤ n ∧ n ≤ 1000000; omega) (by omega))
          have hcmp : ∀ w, Sem.run Tryz.prog (binOp BinOp.eql 41 (.map mv) (.map none)) w = .ok (.bool mv.isNone) w := fun w => by cases mv <;> kernel_rfl
          go_upto_if 31 with fail
          clear hcmp
          go_cut [] from 7 (fun wx => AdMid B g xs su mv dv w1 wx)
          case first =>
            cases mv with
            | none =>
              have hmm := @run_makeMap Tryz.prog
              have hka := H1.out.blk.alloc (.map #[] 0)
              have a0 := hka.cell 0; have a1 := hka.frozen 0
              simp at a0
              have HKA := Lib.hid hka
              clear hka
              go_wp2_with fail
              go_meet
              case rel => exact adMid_made H1.out
            | some b =>
              go_wp2_with fail
              go_meet
              case rel => exact ⟨b, H1.out, Chg.refl _ _, .inl rfl⟩
          case rest =>
            clear y0 y1 y2 x0
            obtain ⟨b, hm, hmc, hmb⟩ := hcut
            have y1 := hm.blk.cell 1; have y2 := hm.blk.cell 2
            simp at y1 y2
            have hgl := hm.blk.lt
            have hsz : w1.heap.size ≤ wc.heap.size := hmc.size
            have hlen : (Bo.lineF xs.length ⟨nm, n⟩).length ≤ 40 := (Bo.line_len HOK.out (by omega)).2
            have hdl := hm.dlen
            have hln : ∀ W, Below wc.heap.size wc W → Calls Tryz.prog 18 #[.int .i64 xs.length, .string ⟨nm.toArray⟩, .int .i64 n] W fun e w' => e = .returned (.string ⟨(Bo.lineF xs.length ⟨nm, n⟩).toArray⟩) ∧ Hid (Below wc.heap.size wc w' ∧ w'.cell? ⟨g, 2, none⟩ = some dv) := fun W hW =>
              (line_any xs.length nm n W (((HV.out.below HB1.out HV.out.sz).chg hmc (fun i hi => ?_)).below hW ?_) (by omega) (by omega) (by omega) hl).mono fun e w' ⟨hb, he⟩ => ⟨he, Lib.hid ⟨bl_next hW hb, ((bl_next hW hb).cell hgl).trans y2⟩⟩
            rotate_left
            · have h1 := HB8.out; have h2 := H1.out.lt i hi; omega
            · have h1 := HV.out.sz; have h2 := HB1.out.size; omega
            have hdat : Bo.dataF 0 (xs ++ [⟨nm, n⟩]) = Bo.dataF 0 xs ++ Bo.lineF xs.length ⟨nm, n⟩ := Bo.data_snoc xs _
            have hown : ∀ W, Below wc.heap.size wc W → W.ownsRow B 5 1 dv (Bo.dataF 0 xs).length (bC (Bo.dataF 0 xs)) := fun W hW => (hm.below hW).data
            have hfin : ∀ w2 w3 v', Below wc.heap.size wc w2 → w3.ownsRow B 5 1 v' ((Bo.dataF 0 xs).length + (Bo.lineF xs.length ⟨nm, n⟩).length) (bC (Bo.dataF 0 xs) ++ Lib.strCells ⟨(Bo.lineF xs.length ⟨nm, n⟩).toArray⟩) → w2.grownBy w3 dv.ownBlock → AdNext B g xs su b dv v' ⟨nm, n⟩ wc (w3.setCell ⟨g, 2, none⟩ v') :=
              fun w2 w3 v' h1 h2 h3 => adNext_fin hm h1 h2 h3
            have hblk3 : ∀ w2 w3, Below wc.heap.size wc w2 → w2.grownBy w3 dv.ownBlock → Blk w3 g 43 #[.map (some b), .int .i64 xs.length, dv, .int .i64 su] := fun w2 w3 h2 h3 => (hm.below h2).blk.grown h3 (fun e => hm.ne.2.1 e.symm)
            have hbsz : ∀ W, Below wc.heap.size wc W → B ≤ W.heap.size := fun W hW => Nat.le_trans hm.bs hW.size
            have HLN := Lib.hid hln; have HOWN := Lib.hid hown; have HFIN := Lib.hid hfin; have HM := Lib.hid hm; have HMC := Lib.hid hmc; have HDAT := Lib.hid hdat; have HK3 := Lib.hid hblk3; have HBSZ := Lib.hid hbsz
            clear hln hown hfin hm hmc hdat hblk3 hbsz
            obtain ⟨i0, hi0, hz0, hz1, hz2⟩ := info_parts Tryz.u8Info
            have I0 := Lib.hid hi0; have I1 := Lib.hid hz0; have I2 := Lib.hid hz1; have I3 := Lib.hid hz2
            clear hi0 hz0 hz1 hz2
            generalize Bo.lineF xs.length ⟨nm, n⟩ = L at *
            generalize hNn : (Bo.dataF 0 xs).length = N at *
            generalize bC (Bo.dataF 0 xs) = C at *
            go_upto_region 9 with fail
            go_cut [] from 7 (fun wx => ∃ dv', AdNext B g xs su b dv dv' ⟨nm, n⟩ wc wx)
            case first =>
              go_region_law (first
                | (refine step_append_str (by rfl) (.tmp 40) (.tmp 47) _ _ (by rfl) B 5 i0 Tryz.underlying28 Tryz.underlying9 I0.out I1.out I2.out I3.out dv N C (by rfl) ?_ ⟨L.toArray⟩ (by rfl) ?_ ?_ ?_ ?_; (exact HOWN.out _ HW2.out); (show N + L.toArray.size ≤ maxLen; simp only [maxLen, List.size_toArray]; omega); (show N + L.toArray.size ≤ _; simp only [List.size_toArray]; omega); (exact HBSZ.out _ HW2.out); (intro v3 w3 h3 g3; have h3 : w3.ownsRow B 5 1 v3 (N + L.length) _ := h3; obtain ⟨A3, c3, rfl, _⟩ := own_reads h3; have k3 := HK3.out _ _ HW2.out g3; have k3c := k3.cell 2; have k3f := k3.frozen 2; (simp at k3c); have H3 := Lib.hid h3; have G3 := Lib.hid g3; clear h3 g3 k3))
                | (go_simp; go_at_call 18; (with_reducible refine (HLN.out _ ?_).mono ?_); (repeat (first | exact Below.refl _ _ | apply bl_drew)); rintro e w2 ⟨rfl, h2⟩; have HW2 := Lib.hid h2.out.1; have y2' := h2.out.2; clear h2))
              all_goals
                go_wp2_with fail
                go_meet
                case rel => exact ⟨_, HFIN.out _ _ _ HW2.out H3.out G3.out⟩
            case rest =>
              obtain ⟨dv', hn⟩ := hcut
              have y0 := hn.blk.cell 0; have y1 := hn.blk.cell 1; have x1 := hn.blk.frozen 1
              simp at y0 y1
              obtain ⟨D, hbB, ho, hD⟩ := hn.map.some_
              have hk1 := hn.blk.set_ 1 (.int .i64 ((xs.length : Int) + 1))
              have z0 := hk1.cell 0
              simp at z0
              have ho2 := ownsMap_chg ho (Chg.setCell (p := ⟨g, 1, none⟩) (Chg.refl _ (fun i => i = g)) (fun _ => rfl) (.int .i64 ((xs.length : Int) + 1))) (fun e => HM.out.ne.1 (by rw [e]))
              have HN2 := Lib.hid hn; have HO2 := Lib.hid ho2; have HD := Lib.hid hD; have HK1 := Lib.hid hk1; have HBB := Lib.hid hbB
              clear hn ho ho2 hD hk1 hbB
              have hky := keyS nm hl
              have HKY := Lib.hid hky
              clear hky
              have hcb := Bo.cntL_bd HM.out.ok nm
              have HCB := Lib.hid hcb
              clear hcb
              have hat0 := HD.out.at_ nm
              have HAT := Lib.hid hat0
              clear hat0
              go_wp2_with (first
                | (at_lookup; refine wpList_lookup_own_int _ rfl (.tmp 61) (.tmp 62) 41 rfl 9 3 .i64 Tryz.lawS Tryz.underlying41 Tryz.underlying3 (Tryz.zeroI _) b xs.length D rfl HO2.out (.string ⟨nm.toArray⟩) (.string nm) rfl HKY.out ?_; intro c hat hwc; have HC := Lib.hid hat; clear hat)
                | (at_mapUpdate; refine wpList_mapUpdate_own _ rfl (.tmp 61) (.tmp 62) (.tmp 65) 41 rfl 9 3 Tryz.lawS Tryz.underlying41 (plainElem Tryz.prog 3) b xs.length D rfl HO2.out (by unfold maxLen; omega) (.string ⟨nm.toArray⟩) _ (.string nm) rfl rfl HKY.out _ [] (plainElem_int Tryz.underlying3 (wrap64_wf _)) ?_; intro w9 h9 g9; have H9 := Lib.hid h9; have G9 := Lib.hid g9; clear h9 g9))
              go_ret
              refine ⟨_, rfl, .inl ⟨HOK.out, rfl, Lib.hid ⟨some b, dv', (add_end HM.out HN2.out HBB.out HD.out HC.out H9.out G9.out HOK.out).1, ?_⟩⟩⟩
              exact add_chg HB1.out HMC.out (add_end HM.out HN2.out HBB.out HD.out HC.out H9.out G9.out HOK.out).2 hmb (H.out.below HB1.out)
end Go.Proofs.YtdipehgijjkfdaaGreatDoor
