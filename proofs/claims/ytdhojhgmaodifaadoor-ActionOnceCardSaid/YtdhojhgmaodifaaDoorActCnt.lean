/-
  The counters of a program of actions; a program twice.
-/
import Derived.Test.YtdhojhgmaodifaaDoorAct
import Derived.Test.YtdhojhgmaodifaaDoorActPrg
namespace Go.Proofs.YtdhojhgmaodifaaDoor
open Go.RowKit Bkt
set_option linter.unusedVariables false

namespace Actn
theorem Ends.twice {l : List Ac} {x : It} {s1 s2 : Sa} {on1 on2 cyc1 cyc2 : Bool} (h1 : Ends l ⟨0, x, fun _ => 0⟩ s1 on1 cyc1) (h2 : Ends l ⟨0, x, s1.c⟩ s2 on2 cyc2) (hl : Ahead l) {nb : Int} (ho : AllOk l nb l.length) (hn : l.length ≤ 45) :
    s2.x = s1.x ∧ on1 = on2 ∧ cyc1 = false ∧ cyc2 = false ∧ ∀ j, (0 ≤ s1.c j ∧ s1.c j ≤ 100) ∧ s2.c j = 2 * s1.c j := by
  have hb : ∀ j, 0 ≤ s1.c j ∧ s1.c j ≤ 100 := fun j => by
    obtain ⟨k, hk, he⟩ := h1
    have := hk.bd (m := 0) (fun j => ⟨Int.le_refl _, Int.le_refl _⟩) (by omega) j
    omega
  obtain ⟨e1, e2, e3⟩ := Ends.same (d := s1.c) h1 h2 hl ⟨rfl, rfl, fun j => by simp⟩ (fun j => by simp) (fun j => by have := hb j; exact ⟨this.1, by show s1.c j ≤ 800; omega⟩)
  refine ⟨e1.x, e2, h1.no_round hl ho rfl hn, h2.no_round hl ho rfl hn, fun j => ⟨hb j, ?_⟩⟩
  rw [e1.c j]
  omega
end Actn

def cntL (c : Nat → Int) : List Int := [c 0, c 1, c 2, c 3, c 4, c 5, c 6, c 7]
theorem cnt_get (c : Nat → Int) {j : Nat} (hj : j < 8) : (cntL c).getD j 0 = c j := by
  have : j = 0 ∨ j = 1 ∨ j = 2 ∨ j = 3 ∨ j = 4 ∨ j = 5 ∨ j = 6 ∨ j = 7 := by omega
  rcases this with rfl | rfl | rfl | rfl | rfl | rfl | rfl | rfl <;> rfl
theorem own_empty1 (w : World) (e : TypeId) : (w.alloc (.cells #[] e)).ownsRow w.heap.size e 1 (.slice (some ⟨w.heap.size, 0, none⟩) 0 0) 0 [] :=
  ⟨rfl, .inr ⟨w.heap.size, 0, #[], rfl, Nat.le_refl _, heap_alloc_new w _, Nat.le_refl _, by decide, rfl, rfl⟩⟩
def CntOut (w : World) (c : Nat → Int) (e : Ending) (w' : World) : Prop := ∃ A k, e = .returned (.slice A 8 k) ∧ RdI w' w'.heap.size A 8 (cntL c) ∧ Below w.heap.size w w' ∧ ∀ ad, A = some ad → w.heap.size ≤ ad.block

set_option maxHeartbeats 1000000 in
set_option maxRecDepth 100000 in
theorem counts_any (base g : Nat) (Aa : Option Addr) (ca : Nat) (Ab : Option Addr) (cb : Nat) (l : List Actn.Ac) (gs : List Nat) (c : Nat → Int) (w : World) (hp : PrgB base w g Aa ca Ab cb l gs c) :
    Calls Tryd.prog 33 #[.pointer (some ⟨g, 0, none⟩)] w (CntOut w c) := by
  obtain ⟨i0, hi, hz0, hz1, hz2⟩ := info_parts Tryd.intInfo
  have hown := own_empty1 w 3
  have hblk := hp.blk
  have hbl := hblk.lt
  have hrd : Reads (w.alloc (.cells #[] 3)) w.heap.size 1 (some ⟨g, 2, none⟩) 8 ((cntL c).map (.int .i64)) := by
    refine ⟨rfl, fun _ => ⟨_, rfl, hbl, fun j u hu => ?_⟩⟩
    have hj : j < 8 := by
      rcases Nat.lt_or_ge j 8 with h | h
      · exact h
      · rw [List.getElem?_eq_none (by simpa [cntL] using h)] at hu; cases hu
    have e : (⟨g, 2, none⟩ : Addr).add j = ⟨g, 2 + j, none⟩ := by
      unfold Addr.add
      split
      · subst_vars; rfl
      · rfl
    rw [e, World.cell?_alloc_lt _ _ ⟨g, 2 + j, none⟩ hbl, hblk.cell (2 + j), prg_get _ _ _ hj, ← hu]
    have : j = 0 ∨ j = 1 ∨ j = 2 ∨ j = 3 ∨ j = 4 ∨ j = 5 ∨ j = 6 ∨ j = 7 := by omega
    rcases this with rfl | rfl | rfl | rfl | rfl | rfl | rfl | rfl <;> rfl
  have h1c : ∀ u ∈ (cntL c).map (Value.int .i64), u.oneCell' = true := fun u hu => by
    obtain ⟨a, _, rfl⟩ := List.mem_map.1 hu
    rfl
  have HOWN := Lib.hid hown; have HRD := Lib.hid hrd; have H1C := Lib.hid h1c
  clear hown hrd h1c hp hblk
  go_enter Tryd.func33, Tryd.ntmps33
  go_wp2_with (at_builtin; refine wpList_append_any _ rfl (.tmp 6) (.tmp 10) 37 rfl w.heap.size 3 i0 (.int .i64 0) 1 8 Tryd.underlying37 hi hz0 hz1 hz2 rfl (by decide) _ 0 [] rfl HOWN.out w.heap.size (some ⟨g, 2, none⟩) 8 8 ((cntL c).map (.int .i64)) rfl HRD.out H1C.out (by simp only [maxLen]; omega) (by omega) (by simp) ?_; intro v' w1 g1 g2 g3; rw [Nat.zero_add, List.nil_append] at g1; obtain ⟨A', c', rfl, hrd'⟩ := own_reads g1; have G1 := Lib.hid hrd'; have go : ∀ q : Nat, (Value.slice A' 8 c').ownBlock = some q → w.heap.size ≤ q ∧ q < w1.heap.size := fun q hq => own_lt g1 hq; have GO := Lib.hid go; clear go; have G2 := Lib.hid g2; clear g1 g2 g3 hrd')
  go_ret
  exact ⟨A', c', rfl, G1.out, ((Below.refl _ _).alloc (Nat.le_refl _) _).grown G2.out (by simp) (fun k hk => by injection hk with hk; subst hk; exact Nat.le_refl _), fun ad e => (GO.out ad.block (by subst e; rfl)).1⟩

theorem tell_nil (w : World) : Calls Tryd.prog 30 #[.nilIface] w fun e w' => e = .returned (.int .i64 0) ∧ Below w.heap.size w w' := by
  go_enter Tryd.func30, Tryd.ntmps30
  go_wp2_with fail
  go_ret
  exact ⟨rfl, (by first | exact Below.refl _ _ | exact (Below.refl _ _).alloc (Nat.le_refl _) _)⟩
end Go.Proofs.YtdhojhgmaodifaaDoor
