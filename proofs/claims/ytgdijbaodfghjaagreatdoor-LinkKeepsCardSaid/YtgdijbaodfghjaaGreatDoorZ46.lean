/-
  Texts of this claim, one behind the other: KeepOnce.
-/
import Derived.Test.YtgdijbaodfghjaaGreatDoorZ23
import Derived.Test.YtgdijbaodfghjaaGreatDoorZ18
import Derived.Test.YtgdijbaodfghjaaGreatDoorZ26
import Derived.Deep.QuietTactic
import Derived.BigQuiet
/-
  LinkKeeps' inner function: a packet's number is met once.
-/
namespace Go.Proofs.YtgdijbaodfghjaaGreatDoor
open Go.RowKit Bkt
set_option linter.unusedVariables false
def RowB (w : World) (g n : Nat) (ks : List Int) : Prop := ∃ cs : Array Value, Blk w g 4 cs ∧ cs.size = n ∧ ∀ i, i < n → cs[i]? = some (.bool (decide ((i : Int) ∈ ks)))
section
variable {w w' : World} {g n : Nat} {ks : List Int} {S : Nat → Prop}
theorem RowB.cell (h : RowB w g n ks) {i : Nat} (hi : i < n) : w.cell? ⟨g, i, none⟩ = some (.bool (decide ((i : Int) ∈ ks))) := by
  obtain ⟨cs, hb, _, hc⟩ := h
  exact (hb.cell i).trans (hc i hi)
theorem RowB.frozen (h : RowB w g n ks) (i : Nat) : w.frozen? ⟨g, i, none⟩ = false := by
  obtain ⟨cs, hb, _, _⟩ := h
  exact hb.frozen i
theorem RowB.lt (h : RowB w g n ks) : g < w.heap.size := by
  obtain ⟨cs, hb, _, _⟩ := h
  exact hb.lt
theorem RowB.chg (h : RowB w g n ks) (hc : Chg w w' S) (hn : ¬ S g) : RowB w' g n ks := by
  obtain ⟨cs, hb, h1, h2⟩ := h
  exact ⟨cs, hb.chg hc hn, h1, h2⟩
theorem RowB.below (h : RowB w g n ks) (hb : Below w.heap.size w w') : RowB w' g n ks := h.chg (Chg.of_below (S := fun _ => False) hb) (fun h => h)
theorem RowB.met (h : RowB w g n ks) {k : Nat} (hk : k < n) : RowB (w.setCell ⟨g, k, none⟩ (.bool true)) g n (ks ++ [(k : Int)]) := by
  obtain ⟨cs, hb, h1, h2⟩ := h
  refine ⟨_, Blk.set_ hb k _, by simpa using h1, fun j hj => ?_⟩
  by_cases e : j = k
  · subst e
    rw [set_is (by omega)]
    simp
  · rw [set_at e, h2 j hj]
    have : (j : Int) ≠ (k : Int) := by omega
    simp [this]
end
theorem rowB_made (w : World) (n : Nat) : RowB (w.alloc (.cells (madeCells #[.bool false] n) 4)) w.heap.size n [] := by
  have hl := toList_madeCells_one (.bool false) n
  refine ⟨_, Blk.new _ _ _, by rw [← Array.length_toList, hl, List.length_replicate], fun i hi => ?_⟩
  rw [← Array.getElem?_toList, hl, List.getElem?_replicate, if_pos hi]
  simp
structure OnM (w : World) (bl bs bu gs : Nat) (A : Option Addr) (n c : Nat) (until_ : Int) (ks : List Int) : Prop where
  cl : Blk w bl 24 #[.slice A n c]
  cs : Blk w bs 45 #[.slice (some ⟨gs, 0, none⟩) n n]
  cu : Blk w bu 3 #[.int .i64 until_]
  r : RowB w gs n ks
  nl : bl ≠ gs
  ns : bs ≠ gs
  nu : bu ≠ gs
theorem OnM.chg {w w' : World} {bl bs bu gs n c : Nat} {A : Option Addr} {until_ : Int} {ks ks' : List Int} (h : OnM w bl bs bu gs A n c until_ ks) (hc : Chg w w' (fun i => i = gs)) (hr : RowB w' gs n ks') : OnM w' bl bs bu gs A n c until_ ks' :=
  ⟨h.cl.chg hc h.nl, h.cs.chg hc h.ns, h.cu.chg hc h.nu, hr, h.nl, h.ns, h.nu⟩
theorem OnM.below {w w' : World} {bl bs bu gs n c : Nat} {A : Option Addr} {until_ : Int} {ks : List Int} (h : OnM w bl bs bu gs A n c until_ ks) (hb : Below w.heap.size w w') : OnM w' bl bs bu gs A n c until_ ks :=
  h.chg (Chg.of_below hb) (h.r.below hb)
def OnEnd (w : World) (gs n : Nat) (ks : List Int) (e : Ending) (w' : World) : Prop := e = .returned (.bool true) ∧ Hid (RowB w' gs n ks ∧ Chg w w' (fun i => i = gs))
set_option maxHeartbeats 2000000 in
set_option maxRecDepth 100000 in
theorem once_w (bl bs bu gs : Nat) (A : Option Addr) (n c : Nat) (until_ : Int) (ks : List Int) (l : List It) (k : Nat) (w : World) (h : OnM w bl bs bu gs A n c until_ ks) (hr : RdIt w w.heap.size A n l) (hk : k < n) (hn : n ≤ 1000) (hm : (k : Int) ∉ ks) (hat : (ix l k).at_ ≤ until_) :
    Calls Tryz.prog 16 #[.int .i64 k, .pointer (some ⟨bl, 0, none⟩), .pointer (some ⟨bs, 0, none⟩), .pointer (some ⟨bu, 0, none⟩)] w (OnEnd w gs n (ks ++ [(k : Int)])) := by
  obtain ⟨b, off, rfl, hb⟩ := hr.addr hk
  have c0 := h.cl.cell 0; have c1 := h.cs.cell 0; have c2 := h.cu.cell 0
  have c3 := h.r.cell hk
  have x0 := (hr.cells hk).1
  have f3 := h.r.frozen k
  simp at c0 c1 c2
  rw [decide_eq_false hm] at c3
  have hfin : ∀ q, OnEnd w gs n (ks ++ [(k : Int)]) (.returned (.bool true)) ((w.drewN q).setCell ⟨gs, k, none⟩ (.bool true)) := fun q => by
    refine ⟨rfl, Lib.hid ⟨RowB.met (show RowB (w.drewN q) gs n ks from h.r.below (below_drewN (Below.refl _ _) _)) hk, ?_⟩⟩
    exact Chg.setCell (p := ⟨gs, k, none⟩) (show Chg w (w.drewN q) (fun i => i = gs) from Chg.of_below (below_drewN (Below.refl _ _) _)) (fun _ => rfl) _
  have HF := Lib.hid hfin
  have ik : (k : Int) < (n : Int) := by omega
  have i0 : decide ((k : Int) < 0) = false := decide_eq_false (by omega)
  have i1 : decide ((n : Int) ≤ (k : Int)) = false := decide_eq_false (by omega)
  have i2 : decide (until_ < (ix l k).at_) = false := decide_eq_false (by omega)
  clear hfin h hr hm
  generalize (ix l k).at_ = z at *
  go_enter Tryz.func16, Tryz.ntmps16
  go_upto_region 1 with fail
  go_quiet (fail)
  go_wp2_with fail
  go_ret
  exact HF.out _
end Go.Proofs.YtgdijbaodfghjaaGreatDoor
