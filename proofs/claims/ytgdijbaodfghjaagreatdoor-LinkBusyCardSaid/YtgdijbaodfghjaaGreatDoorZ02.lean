/-
  Texts of this claim, one behind the other: Mem, Chg, Rec, Held, ItemC, RedMLaw, Pick.
-/
import Derived.Test.YtgdijbaodfghjaaGreatDoorRows
import Derived.WalkKit
import Derived.Below
import Derived.Laws.OwnMore
import Derived.Deep.AppendLies
import Derived.Deep.Draws
import Derived.Laws.Rows
import Derived.Maps.AppendAt
import Derived.RegionTactic
import Derived.OwnWalk
import Derived.Lib.Hide
import Derived.Test.YtgdijbaodfghjaaGreatDoorZ01
/-
  Words for memory: a slice that reads as a list (nil let in), a block that is known whole, an append onto a row of the call's own. No condition beyond each lemma's own premises. (Sections 1 to 3 began as the guide's words for memory, which it gives to be copied.)
-/
namespace Go.Proofs.YtgdijbaodfghjaaGreatDoor
open Go.RowKit
set_option linter.unusedVariables false

/-! ### 1 -/
theorem block_of_add (a : Addr) (n : Nat) : (a.add n).block = a.block := by unfold Addr.add; split <;> rfl
theorem add_of_add (a : Addr) (i j : Nat) : (a.add i).add j = a.add (i + j) := by
  unfold Addr.add
  by_cases hi : i = 0 <;> by_cases hj : j = 0 <;> simp [hi, hj, Nat.add_assoc]

def Reads (w : World) (B size : Nat) (A : Option Addr) (n : Nat) (xs : List Value) : Prop :=
  xs.length = n * size ∧ (0 < n → ∃ ad, A = some ad ∧ ad.block < B ∧ ∀ j u, xs[j]? = some u → w.cell? (ad.add j) = some u)

section
variable {w w' : World} {B B' size n : Nat} {A : Option Addr} {xs : List Value}
theorem Reads.none_ : Reads w B size A 0 [] := ⟨by simp, fun h => absurd h (by omega)⟩
theorem Reads.at_ {k : Nat} (h : Reads w B 1 A n xs) (hk : k < n) : ∃ ad u, A = some ad ∧ ad.block < B ∧ xs[k]? = some u ∧ w.cell? (ad.add k) = some u := by
  obtain ⟨ad, e, hb, hc⟩ := h.2 (by omega)
  have hl : k < xs.length := by have := h.1; omega
  exact ⟨ad, xs[k], e, hb, List.getElem?_eq_getElem hl, hc k _ (List.getElem?_eq_getElem hl)⟩
theorem Reads.keep (h : Reads w B size A n xs) (hk : ∀ p : Addr, p.block < B → w'.cell? p = w.cell? p) : Reads w' B size A n xs :=
  ⟨h.1, fun hn => by
    obtain ⟨ad, e, hb, hc⟩ := h.2 hn
    exact ⟨ad, e, hb, fun j u hu => (hk _ (by rw [block_of_add]; exact hb)).trans (hc j u hu)⟩⟩
theorem Reads.more (h : Reads w B size A n xs) (hB : B ≤ B') : Reads w B' size A n xs :=
  ⟨h.1, fun hn => by
    obtain ⟨ad, e, hb, hc⟩ := h.2 hn
    exact ⟨ad, e, by omega, hc⟩⟩
theorem Reads.below (h : Reads w B size A n xs) (hb : Below B w w') : Reads w' B size A n xs := h.keep fun _ hp => hb.cell hp
theorem Reads.drew (h : Reads w B size A n xs) : Reads w.drew B size A n xs := h
theorem Reads.drewN (h : Reads w B size A n xs) (k : Nat) : Reads (w.drewN k) B size A n xs := h
theorem Reads.alloc (h : Reads w B size A n xs) (hB : B ≤ w.heap.size) (o : Obj) : Reads (w.alloc o) B size A n xs := h.keep fun p hp => World.cell?_alloc_lt w o p (by omega)
theorem Reads.setCell (h : Reads w B size A n xs) {p : Addr} (hB : B ≤ p.block) (u : Value) : Reads (w.setCell p u) B size A n xs :=
  h.keep fun q hq => World.cell?_setCell_other w p q u (fun e => by subst e; omega)
theorem Reads.grown (h : Reads w B size A n xs) {row : Option Nat} (hg : w.grownBy w' row) (hB : B ≤ w.heap.size) (hr : ∀ g, row = some g → B ≤ g) : Reads w' B size A n xs :=
  h.keep fun p hp => World.cell?_of_block (hg.block p.block (by omega) (fun e => by have := hr _ e.symm; omega))
theorem Reads.cut (h : Reads w B size A n xs) {k cap : Nat} (hk : k ≤ n) (hc : n ≤ cap) :
    Reads w B size (if cap = k then A else A.map (·.add (k * size))) (n - k) (xs.drop (k * size)) := by
  refine ⟨by rw [List.length_drop, h.1, Nat.sub_mul], fun hn => ?_⟩
  obtain ⟨ad, rfl, hb, hcell⟩ := h.2 (by omega)
  rw [if_neg (by omega)]
  refine ⟨ad.add (k * size), rfl, by rw [block_of_add]; exact hb, fun j u hu => ?_⟩
  rw [add_of_add]
  exact hcell _ u (by rw [← hu, List.getElem?_drop])
theorem Reads.of_own {base : Nat} {e : TypeId} {c : Nat} (h : w.ownsRow base e size (.slice A n c) n xs) : Reads w w.heap.size size A n xs := by
  refine ⟨h.1, fun hn => ?_⟩
  obtain ⟨g, cap, hv, _, hlt⟩ := h.form hn
  have hA : A = some ⟨g, 0, none⟩ := by injection hv
  subst hA
  exact ⟨_, rfl, hlt, h.cells (g := g) rfl⟩
end

/-! ### 2 -/
def Blk (w : World) (g : Nat) (t : TypeId) (cs : Array Value) : Prop := w.heap[g]? = some (.cells cs t (0, 0))

section
variable {w w' : World} {g : Nat} {t : TypeId} {cs : Array Value}
theorem Blk.lt (h : Blk w g t cs) : g < w.heap.size := by
  rcases Nat.lt_or_ge g w.heap.size with hlt | hge
  · exact hlt
  · unfold Blk at h; rw [Array.getElem?_eq_none hge] at h; cases h
theorem Blk.cell (h : Blk w g t cs) (i : Nat) : w.cell? ⟨g, i, none⟩ = cs[i]? := cell_of_row w g i cs t (0, 0) h
theorem Blk.frozen (h : Blk w g t cs) (i : Nat) : w.frozen? ⟨g, i, none⟩ = false := by
  unfold Blk at h
  simp [World.frozen?, h]
theorem Blk.new (w : World) (t : TypeId) (cs : Array Value) : Blk (w.alloc (.cells cs t)) w.heap.size t cs := heap_alloc_new w _
theorem Blk.drew (h : Blk w g t cs) : Blk w.drew g t cs := h
theorem Blk.drewN (h : Blk w g t cs) (n : Nat) : Blk (w.drewN n) g t cs := h
theorem Blk.alloc (h : Blk w g t cs) (o : Obj) : Blk (w.alloc o) g t cs := (Below.heap_alloc w o g h.lt).trans h
theorem Blk.set_ (h : Blk w g t cs) (i : Nat) (u : Value) : Blk (w.setCell ⟨g, i, none⟩ u) g t (cs.setIfInBounds i u) := by
  unfold Blk at h ⊢
  simp [World.setCell, Array.getElem?_modify, h]
theorem Blk.far (h : Blk w g t cs) {p : Addr} (hp : g ≠ p.block) (u : Value) : Blk (w.setCell p u) g t cs := (Below.heap_setCell w p u g hp).trans h
theorem Blk.below {B : Nat} (h : Blk w g t cs) (hb : Below B w w') (hg : g < B) : Blk w' g t cs := (hb.block g hg).trans h
theorem Blk.grown {row : Option Nat} (h : Blk w g t cs) (hb : w.grownBy w' row) (hg : some g ≠ row) : Blk w' g t cs := (hb.block g h.lt hg).trans h
theorem Blk.ne_ {g' : Nat} {t' : TypeId} {cs' : Array Value} (h : Blk w g t cs) (h' : Blk w g' t' cs') (hne : t ≠ t') : g ≠ g' := by
  rintro rfl
  unfold Blk at h h'
  rw [h] at h'
  injection h' with h'
  injection h' with _ ht
  exact hne ht
end

/-! ### 3 -/
section
variable {P : Program} (w : World)

theorem run_append_of_nil (base : Nat) (t ty e : TypeId) (i : TypeInfo) (size : Nat) (ht : P.underlying t = some (.slice e)) (hi : P.info? e = some i)
    (v : Value) (n : Nat) (xs : List Value) (hown : w.ownsRow base e size v n xs) (c : Nat) : (Builtin.append_ #[t, t] ty #[v, .slice none 0 c]).run P w = .ok v w := by
  rcases hown.2 with ⟨rfl, rfl⟩ | ⟨g, cap, cur, rfl, _, _, hnc, _⟩
  · simp [Builtin.append_, run_underlying ht, sizeOf, typeInfo, hi, Builtin.lenOf, Builtin.firstCells]
  · simp [Builtin.append_, run_underlying ht, sizeOf, typeInfo, hi, Builtin.lenOf, Builtin.firstCells, hnc, storeCells]

theorem run_append_any (base : Nat) (t ty e : TypeId) (i : TypeInfo) (z : Value) (size bytes : Nat) (ht : P.underlying t = some (.slice e)) (hi : P.info? e = some i) (hz : i.zero = some z)
    (hsize : i.size = size) (hby : i.bytes = bytes) (hzs : z.cells.size = size) (hsz : 0 < size)
    (v : Value) (n : Nat) (xs : List Value) (hown : w.ownsRow base e size v n xs)
    (B : Nat) (A : Option Addr) (m c : Nat) (news : List Value) (hr : Reads w B size A m news) (h1 : ∀ u ∈ news, u.oneCell' = true)
    (h63 : n + m ≤ maxLen) (hbytes : (n + m) * bytes ≤ 140737488355328) (hbase : base ≤ w.heap.size) :
    ∃ v' w', (Builtin.append_ #[t, t] ty #[v, .slice A m c]).run P w = .ok v' w' ∧ w'.ownsRow base e size v' (n + m) (xs ++ news) ∧ w.grownBy w' v.ownBlock ∧
      (v'.ownBlock = v.ownBlock ∨ v'.ownBlock = some w.heap.size) := by
  rcases A with _ | ad
  · have hm : m = 0 := by
      rcases Nat.eq_zero_or_pos m with h0 | h0
      · exact h0
      · obtain ⟨ad, h, _⟩ := hr.2 h0
        cases h
    subst hm
    have hn : news = [] := List.eq_nil_of_length_eq_zero (by simpa using hr.1)
    subst hn
    exact ⟨v, w, run_append_of_nil w base t ty e i size ht hi v n xs hown c, by simpa using hown, World.grownBy.refl w _, .inl rfl⟩
  · have hcells : ∀ j u, news[j]? = some u → w.cell? (ad.add j) = some u := by
      intro j u hu
      rcases Nat.eq_zero_or_pos m with h0 | h0
      · subst h0
        have hn : news = [] := List.eq_nil_of_length_eq_zero (by simpa using hr.1)
        subst hn
        simp at hu
      · obtain ⟨ad', h, _, hc⟩ := hr.2 h0
        injection h with h
        subst h
        exact hc j u hu
    obtain ⟨v', w', hrun, h2, h3, _, h5⟩ := run_append_own_at (P := P) w base t ty e i z size bytes ht hi hz hsize hby hzs hsz v n xs hown ad m c news hr.1 hcells h1 h63 hbytes hbase
    exact ⟨v', w', hrun, h2, h3, h5⟩

theorem wp_append_any {o : Oper} {a : Act} {K : Act → World → Prop} {Q : Exit → Act → World → Prop} (s x : Operand) (t : TypeId)
    (ho : o.op = .call { callee := .builtin .append, args := #[s, x], argTypes := #[t, t] })
    (base : Nat) (e : TypeId) (i : TypeInfo) (z : Value) (size bytes : Nat) (ht : P.underlying t = some (.slice e)) (hi : P.info? e = some i) (hz : i.zero = some z)
    (hsize : i.size = size) (hby : i.bytes = bytes) (hzs : z.cells.size = size) (hsz : 0 < size)
    (v : Value) (n : Nat) (xs : List Value) (hs : a.eval s = v) (hown : w.ownsRow base e size v n xs)
    (B : Nat) (A : Option Addr) (m c : Nat) (news : List Value) (hx : a.eval x = .slice A m c) (hr : Reads w B size A m news) (h1 : ∀ u ∈ news, u.oneCell' = true)
    (h63 : n + m ≤ maxLen) (hbytes : (n + m) * bytes ≤ 140737488355328) (hbase : base ≤ w.heap.size)
    (h : ∀ v' w', w'.ownsRow base e size v' (n + m) (xs ++ news) → w.grownBy w' v.ownBlock → (v'.ownBlock = v.ownBlock ∨ v'.ownBlock = some w.heap.size) → K (a.put o.dst v') w') : o.wp P a w K Q := by
  obtain ⟨v', w', hrun, h2, h3, h4⟩ := run_append_any (P := P) w base t o.type e i z size bytes ht hi hz hsize hby hzs hsz v n xs hown B A m c news hr h1 h63 hbytes hbase
  unfold Oper.wp execOp
  simp only [ho, resolve, invoke, builtin, Sem.run_bind, Sem.run_pure, Result.andThen_ok, List.map_toArray, List.map_cons, List.map_nil, hs, hx, hrun]
  exact h v' w' h2 h3 h4

theorem wpList_append_any {ops : Array Oper} {rest : List Oper} {o : Oper} {a : Act} {Q : Exit → Act → World → Prop} (hgd : o.guard = none) (s x : Operand) (t : TypeId)
    (ho : o.op = .call { callee := .builtin .append, args := #[s, x], argTypes := #[t, t] })
    (base : Nat) (e : TypeId) (i : TypeInfo) (z : Value) (size bytes : Nat) (ht : P.underlying t = some (.slice e)) (hi : P.info? e = some i) (hz : i.zero = some z)
    (hsize : i.size = size) (hby : i.bytes = bytes) (hzs : z.cells.size = size) (hsz : 0 < size)
    (v : Value) (n : Nat) (xs : List Value) (hs : a.eval s = v) (hown : w.ownsRow base e size v n xs)
    (B : Nat) (A : Option Addr) (m c : Nat) (news : List Value) (hx : a.eval x = .slice A m c) (hr : Reads w B size A m news) (h1 : ∀ u ∈ news, u.oneCell' = true)
    (h63 : n + m ≤ maxLen) (hbytes : (n + m) * bytes ≤ 140737488355328) (hbase : base ≤ w.heap.size)
    (h : ∀ v' w', w'.ownsRow base e size v' (n + m) (xs ++ news) → w.grownBy w' v.ownBlock → (v'.ownBlock = v.ownBlock ∨ v'.ownBlock = some w.heap.size) → wpList P ops Q rest (a.put o.dst v') w') : wpList P ops Q (o :: rest) a w :=
  wpList_plain hgd fun _ hK => wp_append_any w s x t ho base e i z size bytes ht hi hz hsize hby hzs hsz v n xs hs hown B A m c news hx hr h1 h63 hbytes hbase fun v' w' h2 h3 h4 => hK _ _ (h v' w' h2 h3 h4)

theorem step_append_any {ops : Array Oper} {o : Oper} {a : Act} {K : Act → World → Prop} {Q : Exit → Act → World → Prop} {E : Prop} (hgd : o.guard = none) (s x : Operand) (t : TypeId)
    (ho : o.op = .call { callee := .builtin .append, args := #[s, x], argTypes := #[t, t] })
    (base : Nat) (e : TypeId) (i : TypeInfo) (z : Value) (size bytes : Nat) (ht : P.underlying t = some (.slice e)) (hi : P.info? e = some i) (hz : i.zero = some z)
    (hsize : i.size = size) (hby : i.bytes = bytes) (hzs : z.cells.size = size) (hsz : 0 < size)
    (v : Value) (n : Nat) (xs : List Value) (hs : a.eval s = v) (hown : w.ownsRow base e size v n xs)
    (B : Nat) (A : Option Addr) (m c : Nat) (news : List Value) (hx : a.eval x = .slice A m c) (hr : Reads w B size A m news) (h1 : ∀ u ∈ news, u.oneCell' = true)
    (h63 : n + m ≤ maxLen) (hbytes : (n + m) * bytes ≤ 140737488355328) (hbase : base ≤ w.heap.size)
    (h : ∀ v' w', w'.ownsRow base e size v' (n + m) (xs ++ news) → w.grownBy w' v.ownBlock → (v'.ownBlock = v.ownBlock ∨ v'.ownBlock = some w.heap.size) → K (a.put o.dst v') w') :
    if Region.wanted o (yielded ops a.tmps) = true then Oper.wp P o a w K Q else E := by
  have hw : Region.wanted o (yielded ops a.tmps) = true := by simp [Region.wanted, hgd]
  rw [if_pos hw]
  exact wp_append_any w s x t ho base e i z size bytes ht hi hz hsize hby hzs hsz v n xs hs hown B A m c news hx hr h1 h63 hbytes hbase h
end

/-! ### numbers -/
def RdI (w : World) (B : Nat) (A : Option Addr) (n : Nat) (zs : List Int) : Prop := Reads w B 1 A n (zs.map (Value.int .i64))
section
variable {w w' : World} {B B' n : Nat} {A : Option Addr} {zs : List Int}
theorem RdI.len (h : RdI w B A n zs) : zs.length = n := by simpa using h.1
theorem RdI.nil : RdI w B A 0 [] := ⟨by simp, fun h => absurd h (by omega)⟩
theorem RdI.get (h : RdI w B A n zs) {k : Nat} (hk : k < n) : ∃ b off, A = some ⟨b, off, none⟩ ∧ b < B ∧ w.cell? ⟨b, off + k, none⟩ = some (.int .i64 (zs.getD k 0)) := by
  obtain ⟨ad0, u0, hA0, _, _, hc0⟩ := Reads.at_ h (show 0 < n by omega)
  obtain ⟨ad, u, rfl, hb, hx, hc⟩ := Reads.at_ h hk
  injection hA0 with hA0
  subst hA0
  obtain ⟨b, off, spot⟩ := ad
  have hs' : spot = none := by simpa [Addr.add] using World.cell?_spot hc0
  subst hs'
  refine ⟨b, off, rfl, hb, ?_⟩
  have hl := h.len
  have e : zs[k]? = some (zs.getD k 0) := by simp [List.getD, List.getElem?_eq_getElem (show k < zs.length by omega)]
  rw [List.getElem?_map, e] at hx
  have hu : u = .int .i64 (zs.getD k 0) := by simpa using hx.symm
  rw [← hu, ← hc]
  unfold Addr.add
  split
  · subst_vars; rfl
  · rfl
theorem RdI.addr (h : RdI w B A n zs) {k : Nat} (hk : k < n) : ∃ b off, A = some ⟨b, off, none⟩ ∧ b < B := by
  obtain ⟨b, off, e, hb, _⟩ := h.get hk
  exact ⟨b, off, e, hb⟩
theorem RdI.all (h : RdI w B A n zs) {b off : Nat} (hA : A = some ⟨b, off, none⟩) : ∀ k, k < n → w.cell? ⟨b, off + k, none⟩ = some (.int .i64 (zs.getD k 0)) := by
  intro k hk
  obtain ⟨b', off', e, _, hc⟩ := h.get hk
  rw [hA] at e
  injection e with e; injection e with e1 e2
  subst e1 e2
  exact hc
theorem RdI.below (h : RdI w B A n zs) (hb : Below B w w') : RdI w' B A n zs := Reads.below h hb
theorem RdI.more (h : RdI w B A n zs) (hB : B ≤ B') : RdI w B' A n zs := Reads.more h hB
theorem RdI.over (h : RdI w B A n zs) (hb : Below w.heap.size w w') (hB : B ≤ w.heap.size) : RdI w' w'.heap.size A n zs :=
  Reads.more (Reads.below (Reads.more h hB) hb) hb.size
end

theorem own_reads {w : World} {base : Nat} {e : TypeId} {size : Nat} {n : Nat} {v : Value} {xs : List Value} (h : w.ownsRow base e size v n xs) :
    ∃ A c, v = .slice A n c ∧ Reads w w.heap.size size A n xs := by
  have h' := h
  obtain ⟨h0, ⟨rfl, rfl⟩ | ⟨g, cap, cur, rfl, _, _, _, _⟩⟩ := h'
  · have : xs = [] := List.eq_nil_of_length_eq_zero (by simpa using h0)
    subst this
    exact ⟨none, 0, rfl, Reads.none_⟩
  · exact ⟨some ⟨g, 0, none⟩, cap, rfl, Reads.of_own h⟩
theorem Tryz.intInfo : (Tryz.prog.info? 3).map (fun i => (i.zero, i.size, i.bytes)) = some (some (.int .i64 0), 1, 8) := by kernel_rfl

theorem wpList_push1 {P : Program} {w : World} {ops : Array Oper} {rest : List Oper} {o : Oper} {a : Act} {Q : Exit → Act → World → Prop} (hgd : o.guard = none) (s x : Operand) (t : TypeId)
    (ho : o.op = .call { callee := .builtin .append, args := #[s, x], argTypes := #[t, t] })
    (base : Nat) (e : TypeId) (z : Value) (bytes : Nat) (ht : P.underlying t = some (.slice e)) (hinfo : (P.info? e).map (fun i => (i.zero, i.size, i.bytes)) = some (some z, 1, bytes))
    (hzs : z.cells.size = 1) (v : Value) (n : Nat) (xs : List Value) (u : Value) (hs : a.eval s = v) (hown : w.ownsRow base e 1 v n xs)
    (hx : a.eval x = .slice (some ⟨w.heap.size, 0, none⟩) 1 1) (h1 : u.oneCell' = true)
    (hn : n ≤ 1000000) (hbytes : bytes ≤ 1000) (hbase : base ≤ w.heap.size)
    (h : ∀ v' w', w'.ownsRow base e 1 v' (n + 1) (xs ++ [u]) → w.grownBy w' v.ownBlock → Below base w w' → wpList P ops Q rest (a.put o.dst v') w') :
    wpList P ops Q (o :: rest) a (w.alloc (.cells #[u] e)) := by
  obtain ⟨i0, hi, hz0, hz1, hz2⟩ := info_parts hinfo
  have hb2 : (n + 1) * bytes ≤ 1000001 * 1000 := Nat.mul_le_mul (by omega) hbytes
  refine wpList_append_own _ hgd s x t ho base e i0 z 1 bytes ht hi hz0 hz1 hz2 hzs (by decide) v n xs hs (hown.alloc _) ⟨w.heap.size, 0, none⟩ 1 1 [u] hx rfl (cell_one_new _ _ _) (by simpa using h1)
    (by simp only [maxLen]; omega) (by omega) (by simp; omega) ?_
  intro v' w' hown' hg _
  have hg0 : w.grownBy w' v.ownBlock := (World.grownBy_alloc w (.cells #[u] e) v.ownBlock).trans hg
  refine h v' w' hown' hg0 ((Below.refl base w).grown hg0 hbase ?_)
  intro k hk
  rcases hown.2 with ⟨rfl, _⟩ | ⟨g, cap, cur, rfl, hge, _⟩
  · simp [Value.ownBlock] at hk
  · simp [Value.ownBlock] at hk
    omega

theorem wpList_pushI {w : World} {ops : Array Oper} {rest : List Oper} {o : Oper} {a : Act} {Q : Exit → Act → World → Prop} (hgd : o.guard = none) (s x : Operand) (t : TypeId) (ht : Tryz.prog.underlying t = some (.slice 3))
    (ho : o.op = .call { callee := .builtin .append, args := #[s, x], argTypes := #[t, t] })
    (base : Nat) (v : Value) (n : Nat) (zs : List Int) (u : Int) (hown : w.ownsRow base 3 1 v n (zs.map (Value.int .i64))) (hs : a.eval s = v)
    (hx : a.eval x = .slice (some ⟨w.heap.size, 0, none⟩) 1 1) (hn : n ≤ 1000000) (hbase : base ≤ w.heap.size)
    (h : ∀ v' w', w'.ownsRow base 3 1 v' (n + 1) ((zs ++ [u]).map (Value.int .i64)) → w.grownBy w' v.ownBlock → Below base w w' → wpList Tryz.prog ops Q rest (a.put o.dst v') w') :
    wpList Tryz.prog ops Q (o :: rest) a (w.alloc (.cells #[.int .i64 u] 3)) :=
  wpList_push1 hgd s x t ho base 3 (.int .i64 0) 8 ht Tryz.intInfo rfl v n _ (.int .i64 u) hs hown hx rfl hn (by omega) hbase
    fun v' w' h1 h2 h3 => h v' w' (by simpa using h1) h2 h3

def IsRow (k : IntKind) (w : World) (a : Option Addr) (len cap : Nat) (zs : List Int) : Prop :=
  (a = none ∧ len = 0 ∧ cap = 0 ∧ zs = []) ∨
  ∃ x, a = some x ∧ len ≤ cap ∧ cap ≤ maxLen ∧ zs.length = cap ∧ (∀ i, i < zs.length → w.cell? (x.add i) = some (.int k (zs.getD i 0))) ∧ ∀ n ∈ zs, (Lit.int k n).wf = true
theorem lt_of_cell {w : World} {a : Addr} {v : Value} (h : w.cell? a = some v) : a.block < w.heap.size := by
  rcases Nat.lt_or_ge a.block w.heap.size with hlt | hge
  · exact hlt
  · have : w.heap[a.block]? = none := by simp [hge]
    simp [World.cell?, this] at h
theorem IsRow.rd {w : World} {A : Option Addr} {n c : Nat} {zs : List Int} (h : IsRow .i64 w A n c zs) : RdI w w.heap.size A n (zs.take n) := by
  rcases h with ⟨rfl, rfl, rfl, rfl⟩ | ⟨x, rfl, h1, h2, h3, h4, h5⟩
  · exact RdI.nil
  · have hl : (zs.take n).length = n := by rw [List.length_take]; omega
    refine ⟨by simpa using hl, fun hn => ⟨x, rfl, ?_, ?_⟩⟩
    · have := lt_of_cell (h4 0 (by omega))
      simpa [Addr.add] using this
    · intro j u hu
      rw [List.getElem?_map] at hu
      have hj : j < n := by
        rcases Nat.lt_or_ge j n with hj | hj
        · exact hj
        · rw [List.getElem?_eq_none (by omega)] at hu; simp at hu
      rw [List.getElem?_take_of_lt hj, List.getElem?_eq_getElem (show j < zs.length by omega)] at hu
      simp at hu
      rw [h4 j (by omega), ← hu]
      simp [List.getD, List.getElem?_eq_getElem (show j < zs.length by omega)]
theorem IsRow.bd {w : World} {A : Option Addr} {n c : Nat} {zs : List Int} (h : IsRow .i64 w A n c zs) : ∀ i, -9223372036854775808 ≤ (zs.take n).getD i 0 ∧ (zs.take n).getD i 0 ≤ 9223372036854775807 := by
  intro i
  rcases Nat.lt_or_ge i (zs.take n).length with hi | hi
  · have hm : (zs.take n).getD i 0 ∈ zs := by
      rw [show (zs.take n).getD i 0 = (zs.take n)[i] from by simp [List.getD, List.getElem?_eq_getElem hi]]
      exact List.mem_of_mem_take (List.getElem_mem hi)
    rcases h with ⟨rfl, rfl, rfl, rfl⟩ | ⟨x, rfl, h1, h2, h3, h4, h5⟩
    · simp at hi
    · have := h5 _ hm
      have e1 : IntKind.i64.min = -9223372036854775808 := by decide
      have e2 : IntKind.i64.max = 9223372036854775807 := by decide
      simp only [Lit.wf, Bool.and_eq_true, decide_eq_true_eq, e1, e2] at this
      exact this
  · rw [show (zs.take n).getD i 0 = 0 from by simp [List.getD, List.getElem?_eq_none hi]]
    omega
end Go.Proofs.YtgdijbaodfghjaaGreatDoor

/-
  What has turned between two worlds: the blocks of a set, and what is new.
-/
namespace Go.Proofs.YtgdijbaodfghjaaGreatDoor
open Go.RowKit
set_option linter.unusedVariables false

structure Chg (w w' : World) (S : Nat → Prop) : Prop where
  os : w'.os = w.os
  tape : w'.tape = w.tape
  output : w'.output = w.output
  size : w.heap.size ≤ w'.heap.size
  block : ∀ i, i < w.heap.size → ¬ S i → w'.heap[i]? = w.heap[i]?
section
variable {w w' w'' : World} {S S' : Nat → Prop}
theorem Chg.refl (w : World) (S : Nat → Prop) : Chg w w S := ⟨rfl, rfl, rfl, Nat.le_refl _, fun _ _ _ => rfl⟩
theorem Chg.mono (h : Chg w w' S) (hs : ∀ i, i < w.heap.size → S i → S' i) : Chg w w' S' := ⟨h.os, h.tape, h.output, h.size, fun i hi hn => h.block i hi fun hS => hn (hs i hi hS)⟩
theorem Chg.trans (h : Chg w w' S) (h' : Chg w' w'' S') (hs : ∀ i, i < w.heap.size → S' i → S i) : Chg w w'' S :=
  ⟨h'.os.trans h.os, h'.tape.trans h.tape, h'.output.trans h.output, Nat.le_trans h.size h'.size, fun i hi hn => (h'.block i (Nat.lt_of_lt_of_le hi h.size) fun hS => hn (hs i hi hS)).trans (h.block i hi hn)⟩
theorem Chg.of_grown {row : Option Nat} (h : w.grownBy w' row) (hs : ∀ i, some i = row → S i) : Chg w w' S := ⟨h.os, h.tape, h.output, h.size, fun i hi hn => h.block i hi fun e => hn (hs i e)⟩
theorem Chg.of_below (h : Below w.heap.size w w') : Chg w w' S := ⟨h.os, h.tape, h.output, h.size, fun i hi _ => h.block i hi⟩
theorem Chg.drew (h : Chg w w' S) : Chg w w'.drew S := ⟨h.os, h.tape, h.output, h.size, h.block⟩
theorem Chg.drewN (h : Chg w w' S) (n : Nat) : Chg w (w'.drewN n) S := ⟨h.os, h.tape, h.output, h.size, h.block⟩
theorem Chg.alloc (h : Chg w w' S) (o : Obj) : Chg w (w'.alloc o) S :=
  ⟨h.os, h.tape, h.output, Nat.le_trans h.size (by simp), fun i hi hn => (Below.heap_alloc w' o i (Nat.lt_of_lt_of_le hi h.size)).trans (h.block i hi hn)⟩
theorem Chg.setCell (h : Chg w w' S) {p : Addr} (hp : p.block < w.heap.size → S p.block) (u : Value) : Chg w (w'.setCell p u) S :=
  ⟨h.os, h.tape, h.output, by simpa [World.setCell] using h.size, fun i hi hn => (Below.heap_setCell w' p u i (by
    rintro rfl
    exact hn (hp hi))).trans (h.block i hi hn)⟩
theorem Chg.below {B : Nat} (h : Chg w w' S) (hB : B ≤ w.heap.size) (hs : ∀ i, i < B → ¬ S i) : Below B w w' := ⟨h.os, h.tape, h.output, h.size, fun i hi => h.block i (by omega) (hs i hi)⟩
theorem Blk.chg {g : Nat} {t : TypeId} {cs : Array Value} (h : Blk w g t cs) (hc : Chg w w' S) (hn : ¬ S g) : Blk w' g t cs := (hc.block g h.lt hn).trans h
theorem Reads.chg {B size n : Nat} {A : Option Addr} {xs : List Value} (h : Reads w B size A n xs) (hB : B ≤ w.heap.size) (hc : Chg w w' S) (hn : ∀ ad, A = some ad → ¬ S ad.block) : Reads w' B size A n xs := by
  refine ⟨h.1, fun h0 => ?_⟩
  obtain ⟨ad, e, hb, hcell⟩ := h.2 h0
  refine ⟨ad, e, hb, fun j u hu => ?_⟩
  refine (World.cell?_of_block ?_).trans (hcell j u hu)
  rw [block_of_add]
  exact hc.block _ (by omega) (hn ad e)
theorem RdI.chg {B n : Nat} {A : Option Addr} {zs : List Int} (h : RdI w B A n zs) (hB : B ≤ w.heap.size) (hc : Chg w w' S) (hn : ∀ ad, A = some ad → ¬ S ad.block) : RdI w' B A n zs := Reads.chg h hB hc hn
theorem ownsRow_chg {base e size n : Nat} {v : Value} {xs : List Value} (h : w.ownsRow base e size v n xs) (hc : Chg w w' S) (hn : ∀ g, v.ownBlock = some g → ¬ S g) : w'.ownsRow base e size v n xs := by
  refine ⟨h.1, ?_⟩
  rcases h.2 with h0 | ⟨g, cap, cur, rfl, hb, hg, rest⟩
  · exact .inl h0
  · exact .inr ⟨g, cap, cur, rfl, hb, (show Blk w' g e cur from Blk.chg (w := w) hg hc (hn g rfl)), rest⟩
theorem Chg.cell (h : Chg w w' S) {p : Addr} (hp : p.block < w.heap.size) (hn : ¬ S p.block) : w'.cell? p = w.cell? p := World.cell?_of_block (h.block _ hp hn)
theorem Chg.same (h : Chg w w' S) (hw : w''.heap = w'.heap) (h1 : w''.os = w'.os) (h2 : w''.tape = w'.tape) (h3 : w''.output = w'.output) : Chg w w'' S := ⟨h1.trans h.os, h2.trans h.tape, h3.trans h.output, by rw [hw]; exact h.size, fun i hi hn => by rw [hw]; exact h.block i hi hn⟩
end
end Go.Proofs.YtgdijbaodfghjaaGreatDoor

/-
  Records in a row: a slice of structs that reads as a list.
-/
namespace Go.Proofs.YtgdijbaodfghjaaGreatDoor
open Go.RowKit
set_option linter.unusedVariables false

structure Rec (α : Type) where
  sz : Nat
  cells : α → List Value
  len : ∀ x, (cells x).length = sz
  pos : 0 < sz
  zero : α
def ixR {α : Type} (R : Rec α) (l : List α) (i : Nat) : α := l.getD i R.zero
section
variable {α : Type} {R : Rec α}
theorem flatR_len (l : List α) : (l.flatMap R.cells).length = l.length * R.sz := by
  induction l with
  | nil => simp
  | cons x l ih => rw [List.flatMap_cons, List.length_append, ih, List.length_cons, R.len, Nat.succ_mul]; omega
theorem flatR_get (l : List α) : ∀ k j, k < l.length → j < R.sz → (l.flatMap R.cells)[k * R.sz + j]? = (R.cells (ixR R l k))[j]? := by
  induction l with
  | nil => intro k j hk; simp at hk
  | cons x l ih =>
    intro k j hk hj
    rw [List.flatMap_cons]
    rcases k with _ | k
    · rw [List.getElem?_append_left (by rw [R.len, Nat.zero_mul, Nat.zero_add]; exact hj), Nat.zero_mul, Nat.zero_add]
      simp [ixR]
    · rw [List.getElem?_append_right (by rw [R.len, Nat.succ_mul]; omega), R.len, show (k + 1) * R.sz + j - R.sz = k * R.sz + j from by rw [Nat.succ_mul]; omega, ih k j (by simpa using hk) hj]
      rfl
theorem ixR_app_lt {l : List α} {y : α} {i : Nat} (h : i < l.length) : ixR R (l ++ [y]) i = ixR R l i := by
  simp [ixR, List.getD, List.getElem?_append_left h]
theorem ixR_app_last {l : List α} {y : α} : ixR R (l ++ [y]) l.length = y := by simp [ixR, List.getD]

def RdR (R : Rec α) (w : World) (B : Nat) (A : Option Addr) (n : Nat) (l : List α) : Prop := Reads w B R.sz A n (l.flatMap R.cells)
variable {w w' : World} {B B' n : Nat} {A : Option Addr} {l : List α}
theorem RdR.len (h : RdR R w B A n l) : l.length = n := by
  have := h.1
  rw [flatR_len] at this
  exact Nat.eq_of_mul_eq_mul_right R.pos this
theorem RdR.nil : RdR R w B A 0 [] := ⟨by simp, fun h => absurd h (by omega)⟩
theorem RdR.addr (h : RdR R w B A n l) {k : Nat} (hk : k < n) : ∃ b off, A = some ⟨b, off, none⟩ ∧ b < B := by
  obtain ⟨ad, e, hb, hc⟩ := h.2 (by omega)
  have hl := h.len
  have h0 := flatR_get (R := R) l 0 0 (by omega) R.pos
  have hz : (R.cells (ixR R l 0))[0]? = some ((R.cells (ixR R l 0))[0]'(by rw [R.len]; exact R.pos)) := List.getElem?_eq_getElem _
  rw [hz, Nat.zero_mul, Nat.zero_add] at h0
  have := hc 0 _ h0
  obtain ⟨b, off, spot⟩ := ad
  have hs : spot = none := by simpa [Addr.add] using World.cell?_spot this
  subst hs
  exact ⟨b, off, e, hb⟩
theorem RdR.all {b off : Nat} (h : RdR R w B (some ⟨b, off, none⟩) n l) {k : Nat} (hk : k < n) : ∀ j u, (R.cells (ixR R l k))[j]? = some u → w.cell? ⟨b, off + (k * R.sz + j), none⟩ = some u := by
  intro j u hu
  have hj : j < R.sz := by
    rcases Nat.lt_or_ge j R.sz with h' | h'
    · exact h'
    · rw [List.getElem?_eq_none (by rw [R.len]; exact h')] at hu; cases hu
  obtain ⟨ad, e, hb, hc⟩ := h.2 (by omega)
  injection e with e
  subst e
  have hl := h.len
  have := hc (k * R.sz + j) u (by rw [flatR_get l k j (by omega) hj]; exact hu)
  unfold Addr.add at this
  split at this
  · rename_i h0; rw [h0]; exact this
  · exact this
theorem RdR.over (h : RdR R w B A n l) (hb : Below w.heap.size w w') (hB : B ≤ w.heap.size) : RdR R w' w'.heap.size A n l :=
  Reads.more (Reads.below (Reads.more h hB) hb) hb.size
theorem RdR.more (h : RdR R w B A n l) (hB : B ≤ B') : RdR R w B' A n l := Reads.more h hB
theorem RdR.keep (h : RdR R w B A n l) (hk : ∀ p : Addr, p.block < B → w'.cell? p = w.cell? p) : RdR R w' B A n l := Reads.keep h hk

theorem own_rdR {base : Nat} {e : TypeId} {v : Value} (h : w.ownsRow base e R.sz v n (l.flatMap R.cells)) : ∃ A c, v = .slice A n c ∧ RdR R w w.heap.size A n l := by
  obtain ⟨A, c, hv, hr⟩ := own_reads h
  exact ⟨A, c, hv, hr⟩
theorem flatR_app (l : List α) (y : α) : (l ++ [y]).flatMap R.cells = l.flatMap R.cells ++ R.cells y := by simp
end

end Go.Proofs.YtgdijbaodfghjaaGreatDoor

/-
  Small words for drawn regions: what lies below stays.
-/
namespace Go.Proofs.YtgdijbaodfghjaaGreatDoor
open Go.RowKit
theorem bl_drew {w0 w1 : World} (h : Below w0.heap.size w0 w1) : Below w0.heap.size w0 w1.drew := ⟨h.os, h.tape, h.output, h.size, h.block⟩
theorem bl_drewN {w0 w1 : World} {n : Nat} (h : Below w0.heap.size w0 w1) : Below w0.heap.size w0 (w1.drewN n) := ⟨h.os, h.tape, h.output, h.size, h.block⟩
theorem bl_alloc {w0 w1 : World} {o : Obj} (h : Below w0.heap.size w0 w1) : Below w0.heap.size w0 (w1.alloc o) := h.alloc h.size _
theorem bl_next {w0 w1 w2 : World} (h : Below w0.heap.size w0 w1) (h' : Below w1.heap.size w1 w2) : Below w0.heap.size w0 w2 := h.trans (h'.mono h.size)
end Go.Proofs.YtgdijbaodfghjaaGreatDoor

/-
  What item.Check tells.
-/
namespace Go.Proofs.YtgdijbaodfghjaaGreatDoor
open Go.RowKit Bkt
set_option linter.unusedVariables false

def itV (x : It) : Value := .agg #[.int .i64 x.at_, .int .i64 x.len, .int .i64 x.flow, .int .i64 x.band, .int .i64 x.mark]
structure ItFine (x : It) : Prop where
  f0 : 0 ≤ x.at_ ∧ x.at_ ≤ 1000000000
  f1 : 1 ≤ x.len ∧ x.len ≤ 10000
  f2 : 0 ≤ x.flow ∧ x.flow ≤ 15
  f3 : 0 ≤ x.band ∧ x.band ≤ 7
  f4 : 0 ≤ x.mark ∧ x.mark ≤ 255
def ErrnoErr (w : World) (e : Ending) (w' : World) : Prop := ∃ k : Int, e = .returned (.iface 69 (.int .i64 k)) ∧ Below w.heap.size w w'

theorem item_yes (x : It) (w : World) (h : ItFine x) : Calls Tryz.prog 40 #[itV x] w fun e w' => e = .returned .nilIface ∧ Below w.heap.size w w' := by
  obtain ⟨at_, len, flow, band, mark⟩ := x
  obtain ⟨⟨a0, a1⟩, ⟨b0, b1⟩, ⟨c0, c1⟩, ⟨d0, d1⟩, ⟨e0, e1⟩⟩ := h
  dsimp only at a0 a1 b0 b1 c0 c1 d0 d1 e0 e1
  unfold itV
  dsimp only
  go_enter Tryz.func40, Tryz.ntmps40
  go_wp2_with fail
  go_ret
  exact ⟨rfl, (Below.refl _ _).alloc (Nat.le_refl _) _⟩
theorem item_no0 (at_ len flow band mark : Int) (w : World)  (hb : at_ < 0) : Calls Tryz.prog 40 #[.agg #[.int .i64 at_, .int .i64 len, .int .i64 flow, .int .i64 band, .int .i64 mark]] w (ErrnoErr w) := by
  go_enter Tryz.func40, Tryz.ntmps40
  go_wp2_with fail
  go_ret
  exact ⟨_, rfl, (Below.refl _ _).alloc (Nat.le_refl _) _⟩
theorem item_no1 (at_ len flow band mark : Int) (w : World) (h0 : 0 ≤ at_) (hb : 1000000000 < at_) : Calls Tryz.prog 40 #[.agg #[.int .i64 at_, .int .i64 len, .int .i64 flow, .int .i64 band, .int .i64 mark]] w (ErrnoErr w) := by
  go_enter Tryz.func40, Tryz.ntmps40
  go_wp2_with fail
  go_ret
  exact ⟨_, rfl, (Below.refl _ _).alloc (Nat.le_refl _) _⟩
theorem item_no2 (at_ len flow band mark : Int) (w : World) (h0 : 0 ≤ at_) (h1 : at_ ≤ 1000000000) (hb : len < 1) : Calls Tryz.prog 40 #[.agg #[.int .i64 at_, .int .i64 len, .int .i64 flow, .int .i64 band, .int .i64 mark]] w (ErrnoErr w) := by
  go_enter Tryz.func40, Tryz.ntmps40
  go_wp2_with fail
  go_ret
  exact ⟨_, rfl, (Below.refl _ _).alloc (Nat.le_refl _) _⟩
theorem item_no3 (at_ len flow band mark : Int) (w : World) (h0 : 0 ≤ at_) (h1 : at_ ≤ 1000000000) (h2 : 1 ≤ len) (hb : 10000 < len) : Calls Tryz.prog 40 #[.agg #[.int .i64 at_, .int .i64 len, .int .i64 flow, .int .i64 band, .int .i64 mark]] w (ErrnoErr w) := by
  go_enter Tryz.func40, Tryz.ntmps40
  go_wp2_with fail
  go_ret
  exact ⟨_, rfl, (Below.refl _ _).alloc (Nat.le_refl _) _⟩
theorem item_no4 (at_ len flow band mark : Int) (w : World) (h0 : 0 ≤ at_) (h1 : at_ ≤ 1000000000) (h2 : 1 ≤ len) (h3 : len ≤ 10000) (hb : flow < 0) : Calls Tryz.prog 40 #[.agg #[.int .i64 at_, .int .i64 len, .int .i64 flow, .int .i64 band, .int .i64 mark]] w (ErrnoErr w) := by
  go_enter Tryz.func40, Tryz.ntmps40
  go_wp2_with fail
  go_ret
  exact ⟨_, rfl, (Below.refl _ _).alloc (Nat.le_refl _) _⟩
theorem item_no5 (at_ len flow band mark : Int) (w : World) (h0 : 0 ≤ at_) (h1 : at_ ≤ 1000000000) (h2 : 1 ≤ len) (h3 : len ≤ 10000) (h4 : 0 ≤ flow) (hb : 15 < flow) : Calls Tryz.prog 40 #[.agg #[.int .i64 at_, .int .i64 len, .int .i64 flow, .int .i64 band, .int .i64 mark]] w (ErrnoErr w) := by
  go_enter Tryz.func40, Tryz.ntmps40
  go_wp2_with fail
  go_ret
  exact ⟨_, rfl, (Below.refl _ _).alloc (Nat.le_refl _) _⟩
theorem item_no6 (at_ len flow band mark : Int) (w : World) (h0 : 0 ≤ at_) (h1 : at_ ≤ 1000000000) (h2 : 1 ≤ len) (h3 : len ≤ 10000) (h4 : 0 ≤ flow) (h5 : flow ≤ 15) (hb : band < 0) : Calls Tryz.prog 40 #[.agg #[.int .i64 at_, .int .i64 len, .int .i64 flow, .int .i64 band, .int .i64 mark]] w (ErrnoErr w) := by
  go_enter Tryz.func40, Tryz.ntmps40
  go_wp2_with fail
  go_ret
  exact ⟨_, rfl, (Below.refl _ _).alloc (Nat.le_refl _) _⟩
theorem item_no7 (at_ len flow band mark : Int) (w : World) (h0 : 0 ≤ at_) (h1 : at_ ≤ 1000000000) (h2 : 1 ≤ len) (h3 : len ≤ 10000) (h4 : 0 ≤ flow) (h5 : flow ≤ 15) (h6 : 0 ≤ band) (hb : 7 < band) : Calls Tryz.prog 40 #[.agg #[.int .i64 at_, .int .i64 len, .int .i64 flow, .int .i64 band, .int .i64 mark]] w (ErrnoErr w) := by
  go_enter Tryz.func40, Tryz.ntmps40
  go_wp2_with fail
  go_ret
  exact ⟨_, rfl, (Below.refl _ _).alloc (Nat.le_refl _) _⟩
theorem item_no8 (at_ len flow band mark : Int) (w : World) (h0 : 0 ≤ at_) (h1 : at_ ≤ 1000000000) (h2 : 1 ≤ len) (h3 : len ≤ 10000) (h4 : 0 ≤ flow) (h5 : flow ≤ 15) (h6 : 0 ≤ band) (h7 : band ≤ 7) (hb : mark < 0) : Calls Tryz.prog 40 #[.agg #[.int .i64 at_, .int .i64 len, .int .i64 flow, .int .i64 band, .int .i64 mark]] w (ErrnoErr w) := by
  go_enter Tryz.func40, Tryz.ntmps40
  go_wp2_with fail
  go_ret
  exact ⟨_, rfl, (Below.refl _ _).alloc (Nat.le_refl _) _⟩
theorem item_no9 (at_ len flow band mark : Int) (w : World) (h0 : 0 ≤ at_) (h1 : at_ ≤ 1000000000) (h2 : 1 ≤ len) (h3 : len ≤ 10000) (h4 : 0 ≤ flow) (h5 : flow ≤ 15) (h6 : 0 ≤ band) (h7 : band ≤ 7) (h8 : 0 ≤ mark) (hb : 255 < mark) : Calls Tryz.prog 40 #[.agg #[.int .i64 at_, .int .i64 len, .int .i64 flow, .int .i64 band, .int .i64 mark]] w (ErrnoErr w) := by
  go_enter Tryz.func40, Tryz.ntmps40
  go_wp2_with fail
  go_ret
  exact ⟨_, rfl, (Below.refl _ _).alloc (Nat.le_refl _) _⟩
theorem item_no (x : It) (w : World) (h : ¬ ItFine x) : Calls Tryz.prog 40 #[itV x] w (ErrnoErr w) := by
  obtain ⟨at_, len, flow, band, mark⟩ := x
  unfold itV
  dsimp only
  by_cases h0 : 0 ≤ at_
  case neg => exact item_no0 at_ len flow band mark w  (by omega)
  by_cases h1 : at_ ≤ 1000000000
  case neg => exact item_no1 at_ len flow band mark w h0 (by omega)
  by_cases h2 : 1 ≤ len
  case neg => exact item_no2 at_ len flow band mark w h0 h1 (by omega)
  by_cases h3 : len ≤ 10000
  case neg => exact item_no3 at_ len flow band mark w h0 h1 h2 (by omega)
  by_cases h4 : 0 ≤ flow
  case neg => exact item_no4 at_ len flow band mark w h0 h1 h2 h3 (by omega)
  by_cases h5 : flow ≤ 15
  case neg => exact item_no5 at_ len flow band mark w h0 h1 h2 h3 h4 (by omega)
  by_cases h6 : 0 ≤ band
  case neg => exact item_no6 at_ len flow band mark w h0 h1 h2 h3 h4 h5 (by omega)
  by_cases h7 : band ≤ 7
  case neg => exact item_no7 at_ len flow band mark w h0 h1 h2 h3 h4 h5 h6 (by omega)
  by_cases h8 : 0 ≤ mark
  case neg => exact item_no8 at_ len flow band mark w h0 h1 h2 h3 h4 h5 h6 h7 (by omega)
  by_cases h9 : mark ≤ 255
  case neg => exact item_no9 at_ len flow band mark w h0 h1 h2 h3 h4 h5 h6 h7 h8 (by omega)
  exact absurd ⟨⟨h0, h1⟩, ⟨h2, h3⟩, ⟨h4, h5⟩, ⟨h6, h7⟩, ⟨h8, h9⟩⟩ h

end Go.Proofs.YtgdijbaodfghjaaGreatDoor

/-
  Plain law of random early detection, exactly: its machine.
-/
namespace Go.Proofs.YtgdijbaodfghjaaGreatDoor
open Bkt
namespace Pl
set_option linter.unusedVariables false

structure SU where
  low : Int
  high : Int
  often : Int
  slow : Int
  mark : Bool
structure SUOk (U : SU) : Prop where
  lo : 0 ≤ U.low ∧ U.low < U.high ∧ U.high ≤ 1000000
  of_ : 1 ≤ U.often ∧ U.often ≤ 1000
  sl : 0 ≤ U.slow ∧ U.slow ≤ 10
def mnOf (U : SU) (M : Int) : Int := M / 2 ^ U.slow.toNat
def nextM (U : SU) (b M : Int) : Int := Go.IntKind.i64.wrap (M + Go.IntKind.i64.wrap (b - mnOf U M))
def drawZ : List Int → Int × List Int
  | [] => (0, [])
  | z :: r => (Go.RowKit.wrap64 ((Go.IntKind.u64.wrap z).tmod 1000), r)
structure RdS where
  s : List Hd
  mean : Int
  since : Int
  tape : List Int
def hitR (U : SU) (m since : Int) (zs : List Int) : Bool × Int × List Int :=
  if m < U.low then (false, 0, zs)
  else if U.high ≤ m then (true, since, zs)
  else
    if Go.IntKind.i64.wrap (Go.IntKind.i64.wrap (1000 * Go.IntKind.i64.wrap (U.high - U.low)) - Go.IntKind.i64.wrap (since * Go.IntKind.i64.wrap (U.often * Go.IntKind.i64.wrap (m - U.low)))) ≤ 0 then (true, Go.RowKit.wrap64 (since + 1), zs)
    else (decide (Go.RowKit.wrap64 ((drawZ zs).1 * Go.IntKind.i64.wrap (Go.IntKind.i64.wrap (1000 * Go.IntKind.i64.wrap (U.high - U.low)) - Go.IntKind.i64.wrap (since * Go.IntKind.i64.wrap (U.often * Go.IntKind.i64.wrap (m - U.low))))) < Go.RowKit.wrap64 (1000 * Go.IntKind.i64.wrap (U.often * Go.IntKind.i64.wrap (m - U.low)))), Go.RowKit.wrap64 (since + 1), (drawZ zs).2)
def marked (x : Hd) : Hd := ⟨⟨x.it.at_, x.it.len, x.it.flow, x.it.band, 255⟩, x.num⟩
def hitP (U : SU) (p : FP) (M1 : Int) (x : Hd) (s : List Hd) (d : Bool × Int × List Int) : List Hd × RdS :=
  if d.1 = true then
    if U.mark = true then ((fputL p (marked x) s).1, ⟨(fputL p (marked x) s).2, M1, 0, d.2.2⟩)
    else ([x], ⟨s, M1, 0, d.2.2⟩)
  else ((fputL p x s).1, ⟨(fputL p x s).2, M1, d.2.1, d.2.2⟩)
def putRd (U : SU) (p : FP) (x : Hd) (r : RdS) : List Hd × RdS :=
  hitP U p (nextM U (tot r.s) r.mean) x r.s (hitR U (mnOf U (nextM U (tot r.s) r.mean)) r.since r.tape)
def redM (U : SU) (p : FP) : QM where
  σ := RdS
  put := fun _ x r => putRd U p x r
  take := fun now r => (((fifoM p).take now r.s).1, ((fifoM p).take now r.s).2.1, ⟨((fifoM p).take now r.s).2.2, r.mean, r.since, r.tape⟩)
  when_ := fun now r => (((fifoM p).when_ now r.s).1, r)
  wait := fun r => (fifoM p).wait r.s
  len := fun r => (fifoM p).len r.s
  bytes := fun r => (fifoM p).bytes r.s
theorem red_good (U : SU) (p : FP) (late : Bool) : (redM U p).Good late fun _ => True where
  put := fun r now x _ _ => by
    refine ⟨trivial, ?_⟩
    show ((fifoM p).wait r.s ++ [key x]).Perm ((putRd U p x r).1.map key ++ (fifoM p).wait (putRd U p x r).2.s)
    unfold putRd
    generalize hitR U (mnOf U (nextM U (tot r.s) r.mean)) r.since r.tape = d
    unfold hitP
    split
    · split
      · exact fput_perm p (marked x) r.s
      · exact List.perm_append_comm
    · exact fput_perm p x r.s
  take := fun r now _ => ⟨trivial, ((fifo_good p late).take r.s now trivial).2⟩
  when_ := fun r now _ => ⟨trivial, List.Perm.refl _⟩
  len := fun r _ => (fifo_good p late).len r.s trivial
end Pl
end Go.Proofs.YtgdijbaodfghjaaGreatDoor

/-
  What pick answers: a number from 0 to below n.
-/
namespace Go.Proofs.YtgdijbaodfghjaaGreatDoor
open Go.RowKit
set_option linter.unusedVariables false

def PickPost (n : Int) (w : World) (e : Ending) (w' : World) : Prop := ∃ r : Int, 0 ≤ r ∧ r < n ∧ e = .returned (.int .i64 r) ∧ w = w'
theorem pick_bd (a n : Int) (h1 : 1 ≤ n) (h2 : n ≤ 1000000) : 0 ≤ wrap64 ((IntKind.u64.wrap a).tmod n) ∧ wrap64 ((IntKind.u64.wrap a).tmod n) < n := by
  have h0 : 0 ≤ IntKind.u64.wrap a := by rw [IntKind.wrap_u64]; omega
  have e : (IntKind.u64.wrap a).tmod n = IntKind.u64.wrap a % n := Int.tmod_eq_emod_of_nonneg h0
  have b1 := Int.emod_nonneg (IntKind.u64.wrap a) (show n ≠ 0 by omega)
  have b2 := Int.emod_lt_of_pos (IntKind.u64.wrap a) (show 0 < n by omega)
  rw [e, IntWalk.wrap64_in _ ⟨by omega, by omega⟩]
  exact ⟨b1, b2⟩
set_option maxRecDepth 100000 in
theorem pick_any (a n : Int) (w : World) (h1 : 1 ≤ n) (h2 : n ≤ 1000000) (ha : -9223372036854775808 ≤ a) (ha' : a ≤ 9223372036854775807) :
    Calls Tryz.prog 12 #[.int .i64 a, .int .i64 n] w (PickPost n w) := by
  go_enter Tryz.func12, Tryz.ntmps12
  go_wp2_with fail
  go_ret
  exact ⟨_, (pick_bd a n h1 h2).1, (pick_bd a n h1 h2).2, rfl, rfl⟩
end Go.Proofs.YtgdijbaodfghjaaGreatDoor
