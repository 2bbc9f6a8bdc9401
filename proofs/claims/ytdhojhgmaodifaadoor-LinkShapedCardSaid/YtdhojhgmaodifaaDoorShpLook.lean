/-
  A shaper has the next one at hand.
-/
import Derived.Test.YtdhojhgmaodifaaDoorShp
import Derived.Test.YtdhojhgmaodifaaDoorHeld
import Derived.Deep.CutRange
namespace Go.Proofs.YtdhojhgmaodifaaDoor
open Go.RowKit Bkt
set_option linter.unusedVariables false

def Pl.lookF (s : Pl.Shp (List Hd)) : Pl.Shp (List Hd) :=
  match s.next, s.q with
  | some _, _ => s
  | none, [] => s
  | none, x :: r => ⟨r, s.st, some x⟩
theorem Pl.look_is (p : Pl.FP) (now : Int) (s : Pl.Shp (List Hd)) : Pl.look (Pl.fifoM p) now s = Pl.lookF s := by
  obtain ⟨q, st, nx⟩ := s
  cases nx with
  | some x => cases q <;> rfl
  | none => cases q <;> rfl
def LookOut (base : Nat) (b : Bk) (p : Pl.FP) (g gt gq : Nat) (s' : Pl.Shp (List Hd)) (k : Nat) (F : Nat → Prop) (w : World) (e : Ending) (w' : World) : Prop :=
  e = .returned (.tuple #[]) ∧ Hid (∃ F' Fq vn, ShI base b p g gt gq s' k F' Fq w' vn ∧ Chg w w' F ∧ ∀ i, F' i → F i ∨ w.heap.size ≤ i)
set_option maxHeartbeats 1000000 in
set_option maxRecDepth 100000 in
theorem look_any (base : Nat) (b : Bk) (p : Pl.FP) (hp : Pl.FOk p) (g gt gq : Nat) (s : Pl.Shp (List Hd)) (k : Nat) (F Fq : Nat → Prop) (w : World) (vn : Value) (now : Int) (h : ShI base b p g gt gq s k F Fq w vn) (h0 : 0 ≤ now) (h1 : now ≤ 1000000000) (hB : base ≤ w.heap.size) :
    Calls Tryd.prog 97 #[.pointer (some ⟨g, 0, none⟩), .int .i64 now] w (LookOut base b p g gt gq (Pl.lookF s) k F w) := by
  obtain ⟨q, st, nx⟩ := s
  have c2 : w.cell? ⟨g, 2, none⟩ = some vn := h.blk.cell 2
  cases nx with
  | some o =>
    have hs : Pl.lookF ⟨q, st, some o⟩ = ⟨q, st, some o⟩ := by cases q <;> rfl
    rw [hs]
    obtain ⟨x, gn, _, rfl, _⟩ : ∃ x gn, some o = some x ∧ vn = .pointer (some ⟨gn, 0, none⟩) ∧ True := by
      rcases h.nx with ⟨e, _⟩ | ⟨x, gn, e1, e2, _⟩
      · cases e
      · exact ⟨x, gn, e1, e2, trivial⟩
    have H := Lib.hid h
    clear h
    go_enter Tryd.func97, Tryd.ntmps97
    go_wp2_with fail
    go_end0
    exact ⟨rfl, Lib.hid ⟨F, Fq, _, H.out, Chg.refl _ _, fun i hi => .inl hi⟩⟩
  | none =>
    obtain rfl : vn = .pointer none := by
      rcases h.nx with ⟨_, e⟩ | ⟨x, gn, e1, _⟩
      · exact e
      · cases e1
    obtain ⟨ft, rt, hmt, hct⟩ := (fifo_imp base gq p hp).take
    have htk := hct _ k Fq w now h.q h0 h1
    have c0 : w.cell? ⟨g, 0, none⟩ = some (fifV gq) := h.blk.cell 0
    have HM := Lib.hid hmt; have H := Lib.hid h; have HP := Lib.hid hp
    cases q with
    | nil =>
      have hs : Pl.lookF ⟨[], st, none⟩ = ⟨[], st, none⟩ := rfl
      rw [hs]
      have HT : Hid (Calls Tryd.prog ft #[rt, .int .i64 now] w fun e w' => ∃ h A c F', e = .returned (.tuple #[hdV h, .slice A 0 c, .bool false]) ∧ Hid (FInv1 base gq p [] k F' w' ∧ Chg w w' Fq ∧ ∀ i, F' i → Fq i ∨ w.heap.size ≤ i)) := Lib.hid (htk.mono fun e w' ⟨h, A, n, c, F', e1, _, _, hr, _, g1, g2, g3⟩ => by
        obtain rfl : n = 0 := by have := hr.len; exact this.symm
        exact ⟨h, A, c, F', e1, Lib.hid ⟨g1, g2, g3⟩⟩)
      clear h hp hct hmt htk
      unfold fifV at *
      go_enter Tryd.func97, Tryd.ntmps97
      go_upto_region 1 with fail
      go_upto_region 2 with (refine wpList_invoke1 (vx := .int .i64 now) rfl (.tmp 16) (.tmp 17) #[3] rfl HM.out rfl rfl HT.out (fun e w' ⟨_, _, _, _, h, _⟩ => ⟨_, h⟩) ?_; rintro v3 w3 ⟨o, A, c, F', e3, h3⟩; injection e3 with e3; subst e3; unfold hdV; dsimp only)
      obtain ⟨f1, f2, f3⟩ := h3.out
      have hs3 := H.out.queue f1 f2 f3
      have hch : Chg w w3 F := f2.mono (fun i _ hi => H.out.mF.2.2 i hi)
      have b3 := hs3.blk
      have c3 : w3.cell? ⟨g, 3, none⟩ = some (.slice none 0 0) := b3.cell 3
      have fz3 : w3.frozen? ⟨g, 3, none⟩ = false := b3.frozen 3
      have n3 : g < w3.heap.size := b3.lt
      have n4 : g ≠ w3.heap.size := by omega
      have HS3 := Lib.hid hs3; have HCH := Lib.hid hch; have HF3 := Lib.hid f3
      clear b3 f1 f2 f3 hs3 hch h3 c2 c0
      go_wp2_with (refine wpList_app00 rfl (.tmp 26) (.tmp 27) 116 127 Tryd.underlying116 Tryd.heldInfo rfl A c rfl rfl ?_)
      go_end0
      refine ⟨rfl, Lib.hid ⟨_, _, _, (HS3.out.same HP.out 3 _ rfl).over HP.out (bl_alloc (Below.refl _ _)), ?_, fun i hi => ?_⟩⟩
      · exact ((HCH.out).setCell (p := ⟨g, 3, none⟩) (fun _ => H.out.mF.1) _).alloc _
      · rcases hi with hi | hi
        · exact .inl hi
        · rcases HF3.out i hi with e | e
          · exact .inl (H.out.mF.2.2 i e)
          · exact .inr e
    | cons x r =>
      have hs : Pl.lookF ⟨x :: r, st, none⟩ = ⟨r, st, some x⟩ := rfl
      rw [hs]
      have hxl : 0 ≤ x.it.len ∧ x.it.len ≤ 10000 := by
        obtain ⟨v, cs, hq⟩ := h.q
        exact hq.b x (by simp)
      have HT : Hid (Calls Tryd.prog ft #[rt, .int .i64 now] w fun e w' => ∃ A c F', e = .returned (.tuple #[hdV x, .slice A 0 c, .bool true]) ∧ Hid (FInv1 base gq p r k F' w' ∧ Chg w w' Fq ∧ ∀ i, F' i → Fq i ∨ w.heap.size ≤ i)) := Lib.hid (htk.mono fun e w' ⟨h, A, n, c, F', e1, ex, _, hr, _, g1, g2, g3⟩ => by
        obtain rfl : n = 0 := by have := hr.len; exact this.symm
        have e2 : h = x := ex x rfl
        subst e2
        exact ⟨A, c, F', e1, Lib.hid ⟨g1, g2, g3⟩⟩)
      have HXL := Lib.hid hxl
      clear h hp hct hmt htk hxl
      unfold fifV at *
      obtain ⟨⟨xa, xl, xf, xb, xm⟩, xn⟩ := x
      unfold hdV at HT
      dsimp only at HT
      go_enter Tryd.func97, Tryd.ntmps97
      go_upto_region 1 with fail
      go_upto_region 2 with (refine wpList_invoke1 (vx := .int .i64 now) rfl (.tmp 16) (.tmp 17) #[3] rfl HM.out rfl rfl HT.out (fun e w' ⟨_, _, _, h, _⟩ => ⟨_, h⟩) ?_; rintro v3 w3 ⟨A, c, F', e3, h3⟩; injection e3 with e3; subst e3)
      obtain ⟨f1, f2, f3⟩ := h3.out
      have hs3 := H.out.queue f1 f2 f3
      have hch : Chg w w3 F := f2.mono (fun i _ hi => H.out.mF.2.2 i hi)
      have b3 := hs3.blk
      have c3 : w3.cell? ⟨g, 3, none⟩ = some (.slice none 0 0) := b3.cell 3
      have fz3 : w3.frozen? ⟨g, 3, none⟩ = false := b3.frozen 3
      have c2' : w3.cell? ⟨g, 2, none⟩ = some (.pointer none) := b3.cell 2
      have fz2 : w3.frozen? ⟨g, 2, none⟩ = false := b3.frozen 2
      have n3 : g < w3.heap.size := b3.lt
      have n4 : g ≠ w3.heap.size := by omega
      have hB3 : base ≤ w3.heap.size := Nat.le_trans hB f2.size
      have HS3 := Lib.hid hs3; have HCH := Lib.hid hch; have HF3 := Lib.hid f3
      clear b3 f1 f2 f3 hs3 hch h3 c2 c0
      go_wp2_with (refine wpList_app00 rfl (.tmp 26) (.tmp 27) 116 127 Tryd.underlying116 Tryd.heldInfo rfl A c rfl rfl ?_)
      go_end0
      have hsz : (w3.setCell ⟨g, 3, none⟩ (.slice none 0 0)).heap.size = w3.heap.size := by simp [World.setCell]
      refine ⟨rfl, Lib.hid ⟨_, _, _, (HS3.out.same HP.out 3 _ rfl).hand HP.out (o := ⟨⟨xa, xl, xf, xb, xm⟩, xn⟩) HXL.out (by rw [hsz]; exact hB3) hsz.symm, ?_, fun i hi => ?_⟩⟩
      · exact (((HCH.out).setCell (p := ⟨g, 3, none⟩) (fun _ => H.out.mF.1) _).setCell (p := ⟨g, 2, none⟩) (fun _ => H.out.mF.1) _).alloc _
      · rcases hi with (hi | hi) | hi
        · exact .inl hi
        · rcases HF3.out i hi with e | e
          · exact .inl (H.out.mF.2.2 i e)
          · exact .inr e
        · exact .inr (by have := HCH.out.size; omega)
end Go.Proofs.YtdhojhgmaodifaaDoor
