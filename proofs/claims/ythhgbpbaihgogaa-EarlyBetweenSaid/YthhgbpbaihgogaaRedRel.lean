/-
  What holds between the rounds of EarlyBetween, and how each of its steps keeps it.
-/
import Derived.Test.YthhgbpbaihgogaaRedNew
import Derived.Test.YthhgbpbaihgogaaLeftOut
namespace Go.Proofs.Ythhgbpbaihgogaa
open Go.RowKit Bkt
set_option linter.unusedVariables false

structure BRel (w5 wr : World) (B g : Nat) (U : Pl.SU) (p : Pl.FP) (k : Nat) (s : List Hd) (la lens : List Int) (M : Int) (v : Value) (cs : Array Value) (tv : Value) (zs : List Int) (cv : Value) : Prop where
  r : Rmm wr B g v cs U p s M tv zs
  z : zs.length ≤ 1000
  own : OwnW wr w5.heap.size 3 1 cv la.length (la.flatMap IntR.cells)
  chg : Chg w5 wr (fun i => i = g)
  vn : ∀ i, v.ownBlock = some i → w5.heap.size ≤ i
  tvn : ∀ i, tv.ownBlock = some i → i < w5.heap.size
  vc : ∀ i, v.ownBlock = some i → cv.ownBlock ≠ some i
  inv : Pl.RInv p s lens
  b : ∀ x ∈ s, 0 ≤ x.it.len ∧ x.it.len ≤ 10000
  n : s.length ≤ k
  ll : la.length ≤ k
section
variable {w5 wr wx w6 : World} {B g k : Nat} {U : Pl.SU} {p : Pl.FP} {s : List Hd} {la lens : List Int} {M : Int} {v : Value} {cs : Array Value} {tv : Value} {zs : List Int} {cv : Value}
theorem BRel.below (h : BRel w5 wr B g U p k s la lens M v cs tv zs cv) (hb : Below wr.heap.size wr wx) : BRel w5 wx B g U p k s la lens M v cs tv zs cv :=
  ⟨h.r.below hb, h.z, h.own.below hb, h.chg.trans (Chg.of_below (S := fun i => i = g) hb) (fun _ _ h => h), h.vn, h.tvn, h.vc, h.inv, h.b, h.n, h.ll⟩
theorem BRel.hds (h : BRel w5 wr B g U p k s la lens M v cs tv zs cv) (hk : k ≤ 1000) : HdsOk s := ⟨Nat.le_trans h.n hk, h.b⟩
theorem BRel.after (h : BRel w5 wr B g U p k s la lens M v cs tv zs cv) (hg : g < w5.heap.size) {s' : List Hd} {lens' : List Int} {k' : Nat} {M' : Int} {v' : Value} {cs' : Array Value} {tv' : Value} {zs' : List Int}
    (hr : Rmm w6 B g v' cs' U p s' M' tv' zs') (ht : Trn wr w6 g v v') (hz : zs'.length ≤ 1000) (htb : ∀ i, tv'.ownBlock = some i → tv.ownBlock = some i) (hi : Pl.RInv p s' lens') (hb : ∀ x ∈ s', 0 ≤ x.it.len ∧ x.it.len ≤ 10000) (hn : s'.length ≤ k') (hk : k ≤ k') :
    BRel w5 w6 B g U p k' s' la lens' M' v' cs' tv' zs' cv := by
  have hsz := h.chg.size
  refine ⟨hr, hz, h.own.chg ht.chg ?_, h.chg.trans ht.chg ?_, ?_, fun i hi => h.tvn i (htb i hi), ?_, hi, hb, hn, Nat.le_trans h.ll hk⟩
  · rintro i hi (e | e)
    · have := (h.own.lt i hi).1; omega
    · exact h.vc i e hi
  · rintro i hi (e | e)
    · exact e
    · have := h.vn i e; omega
  · intro i hi
    rcases ht.at_ with e | e
    · exact h.vn i (e ▸ hi)
    · have := e i hi; omega
  · intro i hi e
    rcases ht.at_ with e2 | e2
    · exact h.vc i (e2 ▸ hi) e
    · have := e2 i hi; have := (h.own.lt i e).2; omega
theorem BRel.up (h : BRel w5 wr B g U p k s la lens M v cs tv zs cv) {k' : Nat} (hk : k ≤ k') : BRel w5 wr B g U p k' s la lens M v cs tv zs cv :=
  ⟨h.r, h.z, h.own, h.chg, h.vn, h.tvn, h.vc, h.inv, h.b, Nat.le_trans h.n hk, Nat.le_trans h.ll hk⟩
theorem BRel.set (h : BRel w5 wr B g U p k s la lens M v cs tv zs cv) {q : Addr} (h5 : w5.heap.size ≤ q.block) (h1 : q.block ≠ g) (h2 : v.ownBlock ≠ some q.block) (h4 : cv.ownBlock ≠ some q.block) (u : Value) : BRel w5 (wr.setCell q u) B g U p k s la lens M v cs tv zs cv :=
  ⟨h.r.setNew h1 h2 (fun e => by have := h.tvn _ e; omega) u, h.z, h.own.setCell h4 u, h.chg.setCell (p := q) (fun e => by omega) u, h.vn, h.tvn, h.vc, h.inv, h.b, h.n, h.ll⟩
theorem BRel.six (h : BRel w5 wr B g U p k s la lens M v cs tv zs cv) {b : Nat} (h5 : w5.heap.size ≤ b) (h1 : b ≠ g) (h2 : v.ownBlock ≠ some b) (h4 : cv.ownBlock ≠ some b) (u0 u1 u2 u3 u4 u5 : Value) :
    BRel w5 ((((((wr.setCell ⟨b, 0, none⟩ u0).setCell ⟨b, 1, none⟩ u1).setCell ⟨b, 2, none⟩ u2).setCell ⟨b, 3, none⟩ u3).setCell ⟨b, 4, none⟩ u4).setCell ⟨b, 5, none⟩ u5) B g U p k s la lens M v cs tv zs cv :=
  (((((h.set (q := ⟨b, 0, none⟩) h5 h1 h2 h4 u0).set (q := ⟨b, 1, none⟩) h5 h1 h2 h4 u1).set (q := ⟨b, 2, none⟩) h5 h1 h2 h4 u2).set (q := ⟨b, 3, none⟩) h5 h1 h2 h4 u3).set (q := ⟨b, 4, none⟩) h5 h1 h2 h4 u4).set (q := ⟨b, 5, none⟩) h5 h1 h2 h4 u5
theorem BRel.put (h : BRel w5 wr B g U p k s la lens M v cs tv zs cv) (hg : g < w5.heap.size) {x : Hd} (hx : x.num = lens.length) (hxl : 0 ≤ x.it.len ∧ x.it.len ≤ 10000) {m M' : Int} {e : Ending}
    (ho : RPutOut wr B g v U p s m M' tv x e w6) :
    ∃ (A : Option Addr) (c gl : Nat) (s' : List Hd) (v' : Value) (cs' : Array Value) (tv' : Value) (zs' : List Int), e = .returned (.slice A gl c) ∧ BRel w5 w6 B g U p (k + 1) s' la (lens ++ [x.it.len]) M' v' cs' tv' zs' cv ∧
      (m < U.low → (0 < gl ↔ Pl.fullR p x s)) ∧ (¬ m < U.low → U.high ≤ m → U.mark = false → gl = 1) ∧ (U.mark = true → (0 < gl ↔ Pl.fullR p x s)) ∧ (gl = 0 → s'.length = s.length + 1 ∧ Pl.tot s' = Pl.tot s + x.it.len) ∧ (0 < gl → s' = s) := by
  obtain ⟨A, c, gone, s', v', cs', tv', zs', rfl, hrp, hr, ht, hz, htb⟩ := ho
  have hs' : (gone.length = 0 → s'.length = s.length + 1 ∧ Pl.tot s' = Pl.tot s + x.it.len) := fun h0 => by
    obtain ⟨x', e1, e2, rfl⟩ := hrp.none_ h0
    refine ⟨by simp, ?_⟩
    rw [← e2]
    exact Pl.tot_snoc s x'
  have hb' : ∀ y ∈ s', 0 ≤ y.it.len ∧ y.it.len ≤ 10000 := fun y hy => by
    by_cases h0 : gone.length = 0
    · obtain ⟨x', e1, e2, rfl⟩ := hrp.none_ h0
      rcases List.mem_append.1 hy with hy | hy
      · exact h.b y hy
      · rw [List.mem_singleton] at hy; subst hy; rw [e2]; exact hxl
    · rw [hrp.some_ (by omega)] at hy; exact h.b y hy
  have hn' : s'.length ≤ k + 1 := by
    have := h.n
    by_cases h0 : gone.length = 0
    · have := (hs' h0).1; omega
    · rw [hrp.some_ (by omega)]; omega
  exact ⟨A, c, gone.length, s', v', cs', tv', zs', rfl, h.after hg hr ht hz htb (h.inv.put hx hrp) hb' hn' (by omega), hrp.low, hrp.high, hrp.mrk, hs', hrp.some_⟩
theorem BRel.push (h : BRel w5 w6 B g U p k s la lens M v cs tv zs cv) (hg : g < w5.heap.size) {w7 : World} {cv' : Value} {y : Int} (h1 : OwnW w7 w5.heap.size 3 1 cv' (la.length + 1) ((la ++ [y]).flatMap IntR.cells)) (h2 : w6.grownBy w7 cv.ownBlock) (h3 : cv'.ownBlock = cv.ownBlock ∨ ∀ g, cv'.ownBlock = some g → w6.heap.size < g) (hk : la.length + 1 ≤ k) :
    BRel w5 w7 B g U p k s (la ++ [y]) lens M v cs tv zs cv' := by
  have hc : Chg w6 w7 (fun i => cv.ownBlock = some i) := Chg.of_grown h2 (fun i e => e.symm)
  have hsz := h.chg.size
  refine ⟨h.r.chg hc ?_ ?_ ?_, h.z, by rw [List.length_append]; exact h1, h.chg.trans hc ?_, h.vn, h.tvn, ?_, h.inv, h.b, h.n, by rw [List.length_append]; exact hk⟩
  · intro e; have := (h.own.lt _ e).1; omega
  · intro i hi e; exact h.vc i hi e
  · intro i hi e; have := h.tvn i hi; have := (h.own.lt i e).1; omega
  · intro i hi e; have := (h.own.lt i e).1; omega
  · intro i hi e
    rcases h3 with e2 | e2
    · exact h.vc i hi (e2 ▸ e)
    · have := e2 i e; have := (h.r.vlt i hi).2; omega
theorem BRel.take (h : BRel w5 wr B g U p k s la lens M v cs tv zs cv) (hg : g < w5.heap.size) {s' : List Hd} (hsub : ∀ x ∈ s', x ∈ s) (hl : s'.length ≤ s.length) (ho : FfoTo wr w6 B g 0 63 cs v s' p) :
    ∃ v' cs', BRel w5 w6 B g U p k s' la lens M v' cs' tv zs cv ∧ Trn wr w6 g v v' := by
  obtain ⟨v', cs', hr, ht⟩ := h.r.of_fifo ho
  refine ⟨v', cs', ?_, ht⟩
  exact (h.after hg hr ht h.z (fun _ h => h) ⟨fun x hx => h.inv.num x (hsub x hx)⟩ (fun x hx => h.b x (hsub x hx)) (by have := h.n; omega) (Nat.le_refl _))
end
end Go.Proofs.Ythhgbpbaihgogaa
