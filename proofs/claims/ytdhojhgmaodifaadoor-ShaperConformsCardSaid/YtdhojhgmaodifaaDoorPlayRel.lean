/-
  The words for a play's walk: what was seen so far, in memory.
-/
import Derived.Test.YtdhojhgmaodifaaDoorQImp
namespace Go.Proofs.YtdhojhgmaodifaaDoor
open Go.RowKit Bkt
set_option linter.unusedVariables false

/-- what a step showed, as it lies in memory -/
structure SnV where
  taken : Int
  mark : Int
  when_ : Int
  len : Int
  bytes : Int
  A : Option Addr
  n : Nat
  c : Nat
def snCells (s : SnV) : List Value := [.int .i64 s.taken, .int .i64 s.mark, .int .i64 s.when_, .int .i64 s.len, .int .i64 s.bytes, .slice s.A s.n s.c]
def SnR : Rec SnV := ⟨6, snCells, fun _ => rfl, by decide, ⟨0, 0, 0, 0, 0, none, 0, 0⟩⟩
theorem sn_one (s : SnV) : ∀ u ∈ snCells s, u.oneCell' = true := by
  intro u hu
  simp [snCells] at hu
  rcases hu with rfl | rfl | rfl | rfl | rfl | rfl <;> rfl
theorem Tryd.seenInfo : (Tryd.prog.info? 84).map (fun i => (i.zero, i.size, i.bytes)) = some (some (.agg #[.int .i64 0, .int .i64 0, .int .i64 0, .int .i64 0, .int .i64 0, .slice none 0 0]), 6, 64) := by kernel_rfl
structure SnIs (w : World) (B : Nat) (v : SnV) (s : Pl.Seen) : Prop where
  taken : v.taken = s.taken
  mark : v.mark = s.mark
  when_ : v.when_ = s.when_
  len : v.len = s.len
  bytes : v.bytes = s.bytes
  n : v.n = s.lost.length
  rd : RdI w B v.A v.n s.lost
theorem SnIs.chg {w w' : World} {B : Nat} {v : SnV} {s : Pl.Seen} {S : Nat → Prop} (h : SnIs w B v s) (hB : B ≤ w.heap.size) (hc : Chg w w' S) (hn : ∀ ad, v.A = some ad → ¬ S ad.block) : SnIs w' w'.heap.size v s :=
  ⟨h.taken, h.mark, h.when_, h.len, h.bytes, h.n, (h.rd.chg hB hc hn).more (Nat.le_trans hB hc.size)⟩
/-- a row of what was seen -/
def RdSn (w : World) (B : Nat) (A : Option Addr) (n : Nat) (sn : Nat → Pl.Seen) : Prop := ∃ vs, RdR SnR w B A n vs ∧ ∀ i, i < n → SnIs w B (ixR SnR vs i) (sn i)

structure PlayRel {M : Pl.QM} (inv : M.σ → Nat → (Nat → Prop) → World → Prop) (w w1 wr : World) (F0 : Nat → Prop) (k0 : Nat) (s0 : M.σ) (ts : List Pl.Stp) (j : Nat) (out : Value) (vs : List SnV) (F : Nat → Prop) : Prop where
  inv : inv (Pl.nth M s0 ts j).2 (k0 + (Pl.nth M s0 ts j).1) F wr
  sub : ∀ i, F i → F0 i ∨ w1.heap.size ≤ i
  chg : Chg w1 wr F0
  own : OwnW wr w1.heap.size 84 6 out j (vs.flatMap SnR.cells)
  onF : ∀ i, out.ownBlock = some i → ¬ F i
  len : vs.length = j
  is : ∀ i, i < j → SnIs wr wr.heap.size (ixR SnR vs i) (Pl.seenAt M s0 ts i) ∧ ∀ ad, (ixR SnR vs i).A = some ad → w1.heap.size ≤ ad.block ∧ ad.block < wr.heap.size ∧ ¬ F ad.block ∧ out.ownBlock ≠ some ad.block
theorem lt_of_rdI {w : World} {B n : Nat} {A : Option Addr} {zs : List Int} (h : RdI w B A n zs) (hn : 0 < n) {ad : Addr} (e : A = some ad) : ad.block < B := by
  obtain ⟨b, off, e2, hb⟩ := h.addr hn
  rw [e] at e2
  injection e2 with e2
  subst e2
  exact hb
theorem blkTwo (W : World) (ta tb : TypeId) (a b : Array Value) : Blk ((W.alloc (.cells a ta)).alloc (.cells b tb)) W.heap.size ta a ∧ Blk ((W.alloc (.cells a ta)).alloc (.cells b tb)) (W.heap.size + 1) tb b ∧ Below W.heap.size W ((W.alloc (.cells a ta)).alloc (.cells b tb)) := by
  refine ⟨(Blk.new _ _ _).alloc _, ?_, ((Below.refl _ _).alloc (Nat.le_refl _) _).alloc (by simp) _⟩
  have := Blk.new (W.alloc (.cells a ta)) tb b
  rwa [show (W.alloc (.cells a ta)).heap.size = W.heap.size + 1 from by simp] at this
theorem nth_le (M : Pl.QM) (s0 : M.σ) (l : List Pl.Stp) : ∀ k, (Pl.nth M s0 l k).1 ≤ k
  | 0 => Nat.le_refl _
  | k + 1 => by
    have h := nth_le M s0 l k
    unfold Pl.nth
    cases l[k]? with
    | none => dsimp only; omega
    | some t =>
      dsimp only
      unfold Pl.stepM
      split
      · dsimp only; omega
      · split <;> (dsimp only; omega)
theorem stepM_len (M : Pl.QM) (n : Nat) (s : M.σ) (t : Pl.Stp) : (Pl.stepM M n s t).1.len = M.len (Pl.stepM M n s t).2.2 ∧ (Pl.stepM M n s t).1.bytes = M.bytes (Pl.stepM M n s t).2.2 := by
  by_cases h0 : t.what = 0
  · rw [Pl.stepM_put h0]; exact ⟨rfl, rfl⟩
  · by_cases h1 : t.what = 1
    · rw [Pl.stepM_take h1]; exact ⟨rfl, rfl⟩
    · rw [Pl.stepM_when h0 h1]; exact ⟨rfl, rfl⟩
/-- in the middle of a round: the step is done; how many wait is not asked yet -/
structure MidRel {M : Pl.QM} (inv : M.σ → Nat → (Nat → Prop) → World → Prop) (wr wx : World) (gx : Nat) (k0 : Nat) (s0 : M.σ) (ts : List Pl.Stp) (j : Nat) (F F' : Nat → Prop) (A : Option Addr) (c : Nat) : Prop where
  inv : inv (Pl.nth M s0 ts (j + 1)).2 (k0 + (Pl.nth M s0 ts (j + 1)).1) F' wx
  sub : ∀ i, F' i → F i ∨ gx < i
  chg : Chg wr wx F
  blk : Blk wx gx 84 #[.int .i64 (Pl.seenAt M s0 ts j).taken, .int .i64 (Pl.seenAt M s0 ts j).mark, .int .i64 (Pl.seenAt M s0 ts j).when_, .int .i64 0, .int .i64 0, .slice A (Pl.seenAt M s0 ts j).lost.length c]
  rd : RdI wx wx.heap.size A (Pl.seenAt M s0 ts j).lost.length (Pl.seenAt M s0 ts j).lost
  at_ : ∀ ad, A = some ad → gx < ad.block ∧ ad.block < wx.heap.size ∧ ¬ F' ad.block
/-- the round's end -/
theorem PlayRel.step {M : Pl.QM} {inv : M.σ → Nat → (Nat → Prop) → World → Prop} {q : Value} {base : Nat} (I : QImp M q base inv) {w w1 wr wE : World} {F0 F F' : Nat → Prop} {k0 : Nat} {s0 : M.σ} {ts : List Pl.Stp} {j : Nat} {out out' : Value} {vs : List SnV} {v : SnV}
    (h : PlayRel inv w w1 wr F0 k0 s0 ts j out vs F) (hF : inv (Pl.nth M s0 ts (j + 1)).2 (k0 + (Pl.nth M s0 ts (j + 1)).1) F' wE) (hs : ∀ i, F' i → F i ∨ wr.heap.size ≤ i)
    (hc : Chg wr wE (fun i => F i ∨ out.ownBlock = some i)) (hown : OwnW wE w1.heap.size 84 6 out' (j + 1) ((vs ++ [v]).flatMap SnR.cells))
    (hat : out'.ownBlock = out.ownBlock ∨ ∀ i, out'.ownBlock = some i → wr.heap.size ≤ i) (hoF : ∀ i, out'.ownBlock = some i → ¬ F' i)
    (hv : SnIs wE wE.heap.size v (Pl.seenAt M s0 ts j)) (hva : ∀ ad, v.A = some ad → wr.heap.size ≤ ad.block ∧ ad.block < wE.heap.size ∧ ¬ F' ad.block ∧ out'.ownBlock ≠ some ad.block) :
    PlayRel inv w w1 wE F0 k0 s0 ts (j + 1) out' (vs ++ [v]) F' := by
  have hsz := h.chg.size
  have hF0 : ∀ i, i < w1.heap.size → F i → F0 i := fun i hi hf => by
    rcases h.sub i hf with e | e
    · exact e
    · omega
  refine ⟨hF, fun i hi => ?_, h.chg.trans hc (fun i hi hsx => ?_), hown, hoF, by simp [h.len], fun i hi => ?_⟩
  · rcases hs i hi with e | e
    · exact h.sub i e
    · exact .inr (by omega)
  · rcases hsx with e | e
    · exact hF0 i hi e
    · have := (h.own.lt i e).1; omega
  · rcases Nat.lt_or_ge i j with hlt | hge
    · rw [ixR_app_lt (by rw [h.len]; exact hlt)]
      obtain ⟨g1, g2⟩ := h.is i hlt
      have hd : ∀ ad, (ixR SnR vs i).A = some ad → ¬ (F ad.block ∨ out.ownBlock = some ad.block) := fun ad e hx => by
        obtain ⟨_, _, g3, g4⟩ := g2 ad e
        exact hx.elim g3 g4
      refine ⟨g1.chg (Nat.le_refl _) hc hd, fun ad e => ?_⟩
      obtain ⟨g5, g6, g3, g4⟩ := g2 ad e
      refine ⟨g5, Nat.lt_of_lt_of_le g6 hc.size, fun hx => ?_, fun hx => ?_⟩
      · rcases hs _ hx with e2 | e2
        · exact g3 e2
        · omega
      · rcases hat with e2 | e2
        · exact g4 (e2 ▸ hx)
        · have := e2 _ hx; omega
    · obtain rfl : i = j := by omega
      have e1 : ixR SnR (vs ++ [v]) i = v := by rw [← h.len]; exact ixR_app_last
      rw [e1]
      exact ⟨hv, fun ad e => ⟨Nat.le_trans hsz (hva ad e).1, (hva ad e).2⟩⟩

def snOf (s : Pl.Seen) (A : Option Addr) (c : Nat) : SnV := ⟨s.taken, s.mark, s.when_, s.len, s.bytes, A, s.lost.length, c⟩
theorem play_fin {M : Pl.QM} {inv : M.σ → Nat → (Nat → Prop) → World → Prop} {q : Value} {base : Nat} (I : QImp M q base inv) {w w1 wr wc w5 w6 w8 : World} {F0 F F' : Nat → Prop} {k0 : Nat} {s0 : M.σ} {ts : List Pl.Stp} {j : Nat} {out out' : Value} {vs : List SnV} {A : Option Addr} {c : Nat} {u3 u4 : Value}
    (h : PlayRel inv w w1 wr F0 k0 s0 ts j out vs F) (hm : MidRel inv wr wc (wr.heap.size + 1) k0 s0 ts j F F' A c) (hb5 : Below wc.heap.size wc w5) (hb6 : Below w5.heap.size w5 w6)
    (hown : OwnW w8 w1.heap.size 84 6 out' (j + 1) ((vs ++ [snOf (Pl.seenAt M s0 ts j) A c]).flatMap SnR.cells))
    (h2 : ((w6.setCell ⟨wr.heap.size + 1, 3, none⟩ u3).setCell ⟨wr.heap.size + 1, 4, none⟩ u4).grownBy w8 out.ownBlock)
    (h3 : out'.ownBlock = out.ownBlock ∨ ∀ g, out'.ownBlock = some g → ((w6.setCell ⟨wr.heap.size + 1, 3, none⟩ u3).setCell ⟨wr.heap.size + 1, 4, none⟩ u4).heap.size < g) :
    PlayRel inv w w1 w8 F0 k0 s0 ts (j + 1) out' (vs ++ [snOf (Pl.seenAt M s0 ts j) A c]) F' := by
  have hFl : ∀ i, F i → i < wr.heap.size := fun i hi => (I.lt _ _ _ _ h.inv i hi).2
  have hF'l : ∀ i, F' i → i < wc.heap.size := fun i hi => (I.lt _ _ _ _ hm.inv i hi).2
  have hol : ∀ i, out.ownBlock = some i → i < wr.heap.size := fun i hi => (h.own.lt i hi).2
  have hszc := hm.chg.size
  have s56 : wc.heap.size ≤ w6.heap.size := Nat.le_trans hb5.size hb6.size
  have s7 : ((w6.setCell ⟨wr.heap.size + 1, 3, none⟩ u3).setCell ⟨wr.heap.size + 1, 4, none⟩ u4).heap.size = w6.heap.size := by simp [World.setCell]
  rw [s7] at h3
  have hgx : ¬ F' (wr.heap.size + 1) := fun hh => by
    rcases hm.sub _ hh with e | e
    · have := hFl _ e; omega
    · omega
  have hoF : ∀ i, out.ownBlock = some i → ¬ F' i := fun i hi hh => by
    rcases hm.sub _ hh with e | e
    · exact h.onF i hi e
    · have := hol i hi; omega
  have hc : Chg wc w8 (fun i => i = wr.heap.size + 1 ∨ out.ownBlock = some i) := by
    refine Chg.trans (S' := fun i => i = wr.heap.size + 1 ∨ out.ownBlock = some i) (w' := (w6.setCell ⟨wr.heap.size + 1, 3, none⟩ u3).setCell ⟨wr.heap.size + 1, 4, none⟩ u4) ?_ (Chg.of_grown h2 (fun i hi => .inr hi.symm)) (fun i _ h => h)
    refine Chg.setCell (p := ⟨wr.heap.size + 1, 4, none⟩) (Chg.setCell (p := ⟨wr.heap.size + 1, 3, none⟩) ?_ (fun _ => .inl rfl) _) (fun _ => .inl rfl) _
    exact (Chg.of_below hb5).trans (Chg.of_below (S := fun i => i = wr.heap.size + 1 ∨ out.ownBlock = some i) hb6) (fun i _ h => h)
  have hA : ∀ ad, A = some ad → ¬ (ad.block = wr.heap.size + 1 ∨ out.ownBlock = some ad.block) := fun ad e hx => by
    have h1 := (hm.at_ ad e).1
    rcases hx with hx | hx
    · omega
    · have := hol _ hx; omega
  have hsz8 := hc.size
  refine h.step I (I.chg _ _ _ _ _ _ hm.inv hc (fun i hi hs => ?_)) (fun i hi => ?_) ?_ hown ?_ (fun i hi hh => ?_) ⟨rfl, rfl, rfl, rfl, rfl, rfl, (hm.rd.chg (Nat.le_refl _) hc hA).more hsz8⟩ (fun ad e => ?_)
  · rcases hs with hs | hs
    · exact hgx (hs ▸ hi)
    · exact hoF i hs hi
  · rcases hm.sub i hi with e | e
    · exact .inl e
    · exact .inr (by omega)
  · refine Chg.trans (hm.chg.mono (fun i _ h => .inl h)) hc (fun i hi hs => ?_)
    rcases hs with hs | hs
    · omega
    · exact .inr hs
  · exact h3.imp id fun hh i hi => by have := hh i hi; omega
  · rcases h3 with e | e
    · exact hoF i (e ▸ hi) hh
    · have h1 := e i hi; have h4 := hF'l i hh; omega
  · obtain ⟨h1, h4, h5⟩ := hm.at_ ad e
    refine ⟨by omega, by omega, h5, fun hh => ?_⟩
    rcases h3 with e2 | e2
    · have := hol _ (e2 ▸ hh); omega
    · have := e2 _ hh; omega
end Go.Proofs.YtdhojhgmaodifaaDoor
