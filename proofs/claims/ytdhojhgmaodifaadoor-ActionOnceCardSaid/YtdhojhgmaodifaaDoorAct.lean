/-
  A program of actions, as it lies in memory.
-/
import Derived.Test.YtdhojhgmaodifaaDoorState
import Derived.Test.YtdhojhgmaodifaaDoorShpLaw
import Derived.Test.YtdhojhgmaodifaaDoorRec
import Derived.Test.YtdhojhgmaodifaaDoorChg
import Derived.Test.YtdhojhgmaodifaaDoorActLaw
namespace Go.Proofs.YtdhojhgmaodifaaDoor
open Go.RowKit Bkt
set_option linter.unusedVariables false

def acCells (a : Actn.Ac) : List Value := [.int .i64 a.kind, .int .i64 a.a, .int .i64 a.b]
def AcR : Rec Actn.Ac := ⟨3, acCells, fun _ => rfl, by decide, ⟨0, 0, 0⟩⟩
theorem ac_one (a : Actn.Ac) : ∀ u ∈ acCells a, u.oneCell' = true := by
  intro u hu
  simp [acCells] at hu
  rcases hu with rfl | rfl | rfl <;> rfl
theorem Tryd.actInfo : (Tryd.prog.info? 65).map (fun i => (i.zero, i.size, i.bytes)) = some (some (.agg #[.int .i64 0, .int .i64 0, .int .i64 0]), 3, 24) := by kernel_rfl
theorem rdAc_at {w : World} {B b off n : Nat} {l : List Actn.Ac} (h : RdR AcR w B (some ⟨b, off, none⟩) n l) {k : Nat} (hk : k < n) :
    w.cell? ⟨b, off + k * 3, none⟩ = some (.int .i64 (Actn.ax l k).kind) ∧ w.cell? ⟨b, off + k * 3 + 1, none⟩ = some (.int .i64 (Actn.ax l k).a) ∧ w.cell? ⟨b, off + k * 3 + 2, none⟩ = some (.int .i64 (Actn.ax l k).b) := by
  have ha := fun j u => h.all hk j u
  refine ⟨?_, ?_, ?_⟩
  · have := ha 0 _ rfl; rw [Nat.add_zero] at this; exact this
  · have := ha 1 _ rfl; rw [← Nat.add_assoc] at this; exact this
  · have := ha 2 _ rfl; rw [← Nat.add_assoc] at this; exact this
/-- a row of pointers -/
def ptV (g : Nat) : Value := .pointer (some ⟨g, 0, none⟩)
def RdP (w : World) (B : Nat) (A : Option Addr) (n : Nat) (gs : List Nat) : Prop := Reads w B 1 A n (gs.map ptV)
theorem RdP.len {w : World} {B n : Nat} {A : Option Addr} {gs : List Nat} (h : RdP w B A n gs) : gs.length = n := by simpa using h.1
theorem RdP.at_ {w : World} {B n : Nat} {A : Option Addr} {gs : List Nat} (h : RdP w B A n gs) {k : Nat} (hk : k < n) : ∃ b off, A = some ⟨b, off, none⟩ ∧ b < B ∧ w.cell? ⟨b, off + k, none⟩ = some (.pointer (some ⟨gs.getD k 0, 0, none⟩)) := by
  obtain ⟨ad0, u0, hA0, _, _, hc0⟩ := Reads.at_ h (show 0 < n by omega)
  obtain ⟨ad, u, rfl, hb, hx, hc⟩ := Reads.at_ h hk
  injection hA0 with hA0
  subst hA0
  obtain ⟨b, off, spot⟩ := ad
  have hs' : spot = none := by simpa [Addr.add] using World.cell?_spot hc0
  subst hs'
  refine ⟨b, off, rfl, hb, ?_⟩
  have hl := h.len
  have e : gs[k]? = some (gs.getD k 0) := by simp [List.getD, List.getElem?_eq_getElem (show k < gs.length by omega)]
  rw [List.getElem?_map, e] at hx
  have hu : u = ptV (gs.getD k 0) := by simpa using hx.symm
  unfold ptV at hu
  rw [← hu, ← hc]
  unfold Addr.add
  split
  · subst_vars; rfl
  · rfl
def prgCells (va vb : Value) (c : Nat → Int) : Array Value := #[va, vb, .int .i64 (c 0), .int .i64 (c 1), .int .i64 (c 2), .int .i64 (c 3), .int .i64 (c 4), .int .i64 (c 5), .int .i64 (c 6), .int .i64 (c 7)]
theorem prg_get (va vb : Value) (c : Nat → Int) {j : Nat} (hj : j < 8) : (prgCells va vb c)[2 + j]? = some (.int .i64 (c j)) := by
  have : j = 0 ∨ j = 1 ∨ j = 2 ∨ j = 3 ∨ j = 4 ∨ j = 5 ∨ j = 6 ∨ j = 7 := by omega
  rcases this with rfl | rfl | rfl | rfl | rfl | rfl | rfl | rfl <;> rfl
theorem prg_up (va vb : Value) (c : Nat → Int) {j : Nat} (hj : j < 8) : (prgCells va vb c).setIfInBounds (2 + j) (.int .i64 (IntKind.i64.wrap (c j + 1))) = prgCells va vb (Actn.up c j) := by
  have : j = 0 ∨ j = 1 ∨ j = 2 ∨ j = 3 ∨ j = 4 ∨ j = 5 ∨ j = 6 ∨ j = 7 := by omega
  rcases this with rfl | rfl | rfl | rfl | rfl | rfl | rfl | rfl <;> simp [prgCells, Actn.up]
/-- a bucket that may be, on its way -/
def BkM (w : World) (x : Nat) : Prop := ∃ k s, StB w x k s ∧ BkOk k ∧ SOk k s ∧ s.last ≤ 1000000000
/-- its blocks -/
def PF (g : Nat) (Aa Ab : Option Addr) (gs : List Nat) (i : Nat) : Prop := i = g ∨ (∃ ad, Aa = some ad ∧ ad.block = i) ∨ (∃ ad, Ab = some ad ∧ ad.block = i) ∨ i ∈ gs
structure PrgB (base : Nat) (w : World) (g : Nat) (Aa : Option Addr) (ca : Nat) (Ab : Option Addr) (cb : Nat) (l : List Actn.Ac) (gs : List Nat) (c : Nat → Int) : Prop where
  blk : Blk w g 109 (prgCells (.slice Aa l.length ca) (.slice Ab gs.length cb) c)
  bg : base ≤ g
  la : RdR AcR w w.heap.size Aa l.length l
  na : ∀ ad, Aa = some ad → base ≤ ad.block ∧ ad.block ≠ g
  pb : RdP w w.heap.size Ab gs.length gs
  nb : ∀ ad, Ab = some ad → base ≤ ad.block ∧ ad.block ≠ g
  bk : ∀ x ∈ gs, (base ≤ x ∧ x ≠ g) ∧ ((∀ ad, Aa = some ad → ad.block ≠ x) ∧ ∀ ad, Ab = some ad → ad.block ≠ x) ∧ BkM w x
  lt : ∀ i, PF g Aa Ab gs i → i < w.heap.size
section
variable {base : Nat} {w w' : World} {g : Nat} {Aa : Option Addr} {ca : Nat} {Ab : Option Addr} {cb : Nat} {l : List Actn.Ac} {gs : List Nat} {c : Nat → Int} {S : Nat → Prop}
theorem BkM.lt {x : Nat} (h : BkM w x) : x < w.heap.size := by obtain ⟨k, s, h, _⟩ := h; exact Blk.lt h
theorem BkM.chg {x : Nat} (h : BkM w x) (hc : Chg w w' S) (hn : ¬ S x) : BkM w' x := by
  obtain ⟨k, s, h, h2⟩ := h
  exact ⟨k, s, Blk.chg h hc hn, h2⟩
theorem PrgB.chg (h : PrgB base w g Aa ca Ab cb l gs c) (hc : Chg w w' S) (hn : ∀ i, PF g Aa Ab gs i → ¬ S i) : PrgB base w' g Aa ca Ab cb l gs c :=
  ⟨h.blk.chg hc (hn _ (.inl rfl)), h.bg, Reads.more (Reads.chg h.la (Nat.le_refl _) hc (fun ad e => hn _ (.inr (.inl ⟨ad, e, rfl⟩)))) hc.size, h.na,
    Reads.more (Reads.chg h.pb (Nat.le_refl _) hc (fun ad e => hn _ (.inr (.inr (.inl ⟨ad, e, rfl⟩))))) hc.size, h.nb,
    fun x hx => by obtain ⟨a, b, d⟩ := h.bk x hx; exact ⟨a, b, d.chg hc (hn _ (.inr (.inr (.inr hx))))⟩, fun i hi => Nat.lt_of_lt_of_le (h.lt i hi) hc.size⟩
theorem PrgB.over (h : PrgB base w g Aa ca Ab cb l gs c) (hb : Below w.heap.size w w') : PrgB base w' g Aa ca Ab cb l gs c := h.chg (S := fun _ => False) (Chg.of_below hb) (fun _ _ e => e)
theorem PrgB.count (h : PrgB base w g Aa ca Ab cb l gs c) {j : Nat} (hj : j < 8) : PrgB base (w.setCell ⟨g, 2 + j, none⟩ (.int .i64 (IntKind.i64.wrap (c j + 1)))) g Aa ca Ab cb l gs (Actn.up c j) := by
  have hc : Chg w (w.setCell ⟨g, 2 + j, none⟩ (.int .i64 (IntKind.i64.wrap (c j + 1)))) (fun i => i = g) := Chg.setCell (p := ⟨g, 2 + j, none⟩) (Chg.refl w (fun i => i = g)) (fun _ => rfl) _
  refine ⟨?_, h.bg, Reads.more (Reads.chg h.la (Nat.le_refl _) hc (fun ad e => (h.na ad e).2)) hc.size, h.na, Reads.more (Reads.chg h.pb (Nat.le_refl _) hc (fun ad e => (h.nb ad e).2)) hc.size, h.nb, fun x hx => ?_, fun i hi => Nat.lt_of_lt_of_le (h.lt i hi) hc.size⟩
  · rw [← prg_up _ _ _ hj]
    exact Blk.set_ h.blk _ _
  · obtain ⟨a, b, d⟩ := h.bk x hx
    exact ⟨a, b, d.chg hc a.2⟩
/-- a bucket has turned -/
theorem PrgB.took (h : PrgB base w g Aa ca Ab cb l gs c) {x : Nat} (hx : x ∈ gs) (hg : w.grownBy w' (some x)) (hm : BkM w' x) : PrgB base w' g Aa ca Ab cb l gs c := by
  have hc : Chg w w' (fun i => i = x) := Chg.of_grown hg (fun i e => by injection e)
  obtain ⟨a, b, d⟩ := h.bk x hx
  refine ⟨h.blk.chg hc (fun e => a.2 e.symm), h.bg, Reads.more (Reads.chg h.la (Nat.le_refl _) hc (fun ad e => b.1 ad e)) hc.size, h.na, Reads.more (Reads.chg h.pb (Nat.le_refl _) hc (fun ad e => b.2 ad e)) hc.size, h.nb, fun y hy => ?_, fun i hi => Nat.lt_of_lt_of_le (h.lt i hi) hc.size⟩
  obtain ⟨a', b', d'⟩ := h.bk y hy
  by_cases e : y = x
  · subst e; exact ⟨a', b', hm⟩
  · exact ⟨a', b', d'.chg hc e⟩
end
end Go.Proofs.YtdhojhgmaodifaaDoor
