/-
  Texts of this claim, one behind the other: Win.
-/
import Derived.Test.YtgdijbaodfghjaaGreatDoorZ02
import Derived.ArgAppend
import Derived.Deep.Upon
/-
  A slice of the call's own that may begin in the middle of its block (a queue: taken at its head, appended at its end).
-/
namespace Go.Proofs.YtgdijbaodfghjaaGreatDoor
open Go.RowKit
set_option linter.unusedVariables false

def putAt (cs : Array Value) : Nat → List Value → Array Value
  | _, [] => cs
  | o, v :: r => putAt (cs.setIfInBounds o v) (o + 1) r
theorem putAt_size : ∀ (vs : List Value) (o : Nat) (cs : Array Value), (putAt cs o vs).size = cs.size := by
  intro vs
  induction vs with
  | nil => intro o cs; rfl
  | cons v r ih => intro o cs; show (putAt (cs.setIfInBounds o v) (o + 1) r).size = _; rw [ih]; simp
theorem putAt_out : ∀ (vs : List Value) (o : Nat) (cs : Array Value) (i : Nat), i < o ∨ o + vs.length ≤ i → (putAt cs o vs)[i]? = cs[i]? := by
  intro vs
  induction vs with
  | nil => intro o cs i _; rfl
  | cons v r ih =>
    intro o cs i h
    show (putAt (cs.setIfInBounds o v) (o + 1) r)[i]? = _
    rw [ih (o + 1) _ i (by simp at h; omega), Array.getElem?_setIfInBounds, if_neg (by simp at h; omega)]
theorem putAt_in : ∀ (vs : List Value) (o : Nat) (cs : Array Value) (j : Nat) (u : Value), o + vs.length ≤ cs.size → vs[j]? = some u → (putAt cs o vs)[o + j]? = some u := by
  intro vs
  induction vs with
  | nil => intro o cs j u _ h; simp at h
  | cons v r ih =>
    intro o cs j u hs h
    show (putAt (cs.setIfInBounds o v) (o + 1) r)[o + j]? = _
    rw [List.length_cons] at hs
    rcases j with _ | j
    · rw [putAt_out r (o + 1) _ _ (.inl (by omega)), Array.getElem?_setIfInBounds, if_pos (by omega), if_pos (by omega)]
      simpa using h
    · have := ih (o + 1) (cs.setIfInBounds o v) j u (by simp; omega) (by simpa using h)
      rw [show o + (j + 1) = o + 1 + j from by omega]
      exact this
theorem blk_setCells {g : Nat} {t : TypeId} : ∀ (vs : List Value) (o : Nat) (cs : Array Value) (w : World), Blk w g t cs → Blk (w.setCells g o vs) g t (putAt cs o vs) := by
  intro vs
  induction vs with
  | nil => intro o cs w h; exact h
  | cons v r ih => intro o cs w h; exact ih (o + 1) _ _ (Blk.set_ h o v)
theorem grown_setCells (w : World) (g : Nat) : ∀ (vs : List Value) (o : Nat) (w' : World), w.grownBy w' (some g) → w.grownBy (w'.setCells g o vs) (some g) := by
  intro vs
  induction vs with
  | nil => intro o w' h; exact h
  | cons v r ih =>
    intro o w' h
    refine ih (o + 1) _ ⟨h.os, h.tape, h.output, by simpa [World.setCell] using h.size, fun i hi hne => (Below.heap_setCell w' ⟨g, o, none⟩ v i (by rintro rfl; exact hne rfl)).trans (h.block i hi hne)⟩

def OwnW (w : World) (base : Nat) (e : TypeId) (size : Nat) (v : Value) (n : Nat) (xs : List Value) : Prop :=
  xs.length = n * size ∧ ((v = .slice none 0 0 ∧ n = 0) ∨
    ∃ g o c cur, v = .slice (some ⟨g, o, none⟩) n c ∧ base ≤ g ∧ Blk w g e cur ∧ n ≤ c ∧ c ≤ maxLen ∧ o + c * size ≤ cur.size ∧ ∀ j u, xs[j]? = some u → cur[o + j]? = some u)
section
variable {w w' : World} {base e size n : Nat} {v : Value} {xs : List Value}
theorem OwnW.nil (w : World) (base : Nat) (e : TypeId) (size : Nat) : OwnW w base e size (.slice none 0 0) 0 [] := ⟨by simp, .inl ⟨rfl, rfl⟩⟩
theorem OwnW.of_own (h : w.ownsRow base e size v n xs) : OwnW w base e size v n xs := by
  refine ⟨h.1, ?_⟩
  rcases h.2 with hn | ⟨g, cap, cur, rfl, hb, hg, hnc, hm, hs, ht⟩
  · exact .inl hn
  · refine .inr ⟨g, 0, cap, cur, rfl, hb, hg, hnc, hm, by omega, fun j u hj => ?_⟩
    rw [← ht, List.getElem?_take] at hj
    split at hj
    · rw [Nat.zero_add]; simpa using hj
    · cases hj
theorem OwnW.kept {row : Option Nat} (h : OwnW w base e size v n xs) (hg : w.grownBy w' row) (hne : v.ownBlock = none ∨ v.ownBlock ≠ row) : OwnW w' base e size v n xs := by
  refine ⟨h.1, ?_⟩
  rcases h.2 with hn | ⟨g, o, c, cur, rfl, hb, hgg, rest⟩
  · exact .inl hn
  · exact .inr ⟨g, o, c, cur, rfl, hb, Blk.grown hgg hg (by simpa [Value.ownBlock] using hne), rest⟩
theorem OwnW.alloc (h : OwnW w base e size v n xs) (o : Obj) : OwnW (w.alloc o) base e size v n xs :=
  h.kept (World.grownBy_alloc w o none) (by cases hv : v.ownBlock <;> simp)
theorem OwnW.below (h : OwnW w base e size v n xs) (hb : Below w.heap.size w w') : OwnW w' base e size v n xs :=
  h.kept (row := none) ⟨hb.os, hb.tape, hb.output, hb.size, fun i hi _ => hb.block i hi⟩ (by cases v.ownBlock <;> simp)
theorem OwnW.mono {base' : Nat} (h : OwnW w base e size v n xs) (hb : base' ≤ base) : OwnW w base' e size v n xs := by
  refine ⟨h.1, ?_⟩
  rcases h.2 with hn | ⟨g, o, c, cur, rfl, hbg, rest⟩
  · exact .inl hn
  · exact .inr ⟨g, o, c, cur, rfl, by omega, rest⟩
theorem OwnW.lt (h : OwnW w base e size v n xs) : ∀ k, v.ownBlock = some k → base ≤ k ∧ k < w.heap.size := by
  intro k hk
  rcases h.2 with ⟨rfl, _⟩ | ⟨g, o, c, cur, rfl, hb, hg, _⟩
  · simp [Value.ownBlock] at hk
  · simp [Value.ownBlock] at hk
    subst hk
    exact ⟨hb, hg.lt⟩
theorem OwnW.blk_ne {g : Nat} {t : TypeId} {cs : Array Value} (h : OwnW w base e size v n xs) (hg : Blk w g t cs) (hne : e ≠ t) : v.ownBlock ≠ some g := by
  rcases h.2 with ⟨rfl, _⟩ | ⟨g', o, c, cur, rfl, _, hh, _⟩
  · simp [Value.ownBlock]
  · intro he
    have : g' = g := by simpa [Value.ownBlock] using he
    subst this
    exact Blk.ne_ (t := e) hh hg hne rfl
theorem OwnW.reads (h : OwnW w base e size v n xs) : ∃ A c, v = .slice A n c ∧ n ≤ c ∧ (A = none → c = 0) ∧ Reads w w.heap.size size A n xs := by
  obtain ⟨h0, ⟨rfl, rfl⟩ | ⟨g, o, c, cur, rfl, hb, hgg, hnc, hm, hs, ht⟩⟩ := h
  · have : xs = [] := List.eq_nil_of_length_eq_zero (by simpa using h0)
    subst this
    exact ⟨none, 0, rfl, Nat.le_refl _, fun _ => rfl, Reads.none_⟩
  · refine ⟨some ⟨g, o, none⟩, c, rfl, hnc, (fun e => by cases e), h0, fun _ => ⟨_, rfl, hgg.lt, fun j u hj => ?_⟩⟩
    have e1 : (⟨g, o, none⟩ : Addr).add j = ⟨g, o + j, none⟩ := by unfold Addr.add; split <;> simp_all
    rw [e1, hgg.cell (o + j)]
    exact ht j u hj
theorem OwnW.tail {A : Option Addr} {c : Nat} (h : OwnW w base e size (.slice A n c) n xs) (hn : 1 ≤ n) : 1 ≤ c ∧ ∃ g o, A = some ⟨g, o, none⟩ ∧ (c = 1 → OwnW w base e size (.slice (some ⟨g, o, none⟩) (n - 1) (c - 1)) (n - 1) (xs.drop size)) ∧
    OwnW w base e size (.slice (some ⟨g, o + size, none⟩) (n - 1) (c - 1)) (n - 1) (xs.drop size) := by
  obtain ⟨h0, ⟨hv, h1⟩ | ⟨g, o, c', cur, hv, hb, hgg, hnc, hm, hs, ht⟩⟩ := h
  · omega
  · injection hv with hA _ hc
    subst hA; subst hc
    have hl : (xs.drop size).length = (n - 1) * size := by rw [List.length_drop, h0, Nat.sub_mul, Nat.one_mul]
    refine ⟨by omega, g, o, rfl, fun hc1 => ⟨hl, .inr ⟨g, o, c - 1, cur, rfl, hb, hgg, by omega, by omega, ?_, fun j u hj => ?_⟩⟩, ⟨hl, .inr ⟨g, o + size, c - 1, cur, rfl, hb, hgg, by omega, by omega, ?_, fun j u hj => ?_⟩⟩⟩
    · subst hc1; simp; omega
    · have hn1 : n = 1 := by omega
      subst hn1
      have : (xs.drop size).length = 0 := by rw [hl]; simp
      rw [List.getElem?_eq_none (by omega)] at hj; cases hj
    · have : c * size = (c - 1) * size + size := by
        obtain ⟨d, rfl⟩ : ∃ d, c = d + 1 := ⟨c - 1, by omega⟩
        rw [Nat.add_sub_cancel, Nat.succ_mul]
      omega
    · rw [List.getElem?_drop] at hj
      rw [Nat.add_assoc]
      exact ht _ u hj
theorem OwnW.init {A : Option Addr} {c k : Nat} (h : OwnW w base e size (.slice A n c) n xs) (hk : k ≤ n) (hn : 1 ≤ n) : OwnW w base e size (.slice A k k) k (xs.take (k * size)) := by
  obtain ⟨h0, ⟨hv, h1⟩ | ⟨g, o, c', cur, hv, hb, hgg, hnc, hm, hs, ht⟩⟩ := h
  · omega
  · injection hv with hA _ hc
    subst hA; subst hc
    have h1 : k * size ≤ n * size := Nat.mul_le_mul_right _ hk
    have h2 : n * size ≤ c * size := Nat.mul_le_mul_right _ hnc
    refine ⟨by rw [List.length_take, h0]; omega, .inr ⟨g, o, k, cur, rfl, hb, hgg, Nat.le_refl _, by omega, by omega, fun j u hj => ?_⟩⟩
    rw [List.getElem?_take] at hj
    split at hj
    · exact ht j u hj
    · cases hj
end

section
variable {P : Program} (w : World)
theorem run_append_win (base : Nat) (t ty e : TypeId) (i : TypeInfo) (z : Value) (size bytes : Nat) (ht : P.underlying t = some (.slice e)) (hi : P.info? e = some i) (hz : i.zero = some z)
    (hsize : i.size = size) (hby : i.bytes = bytes) (hzs : z.cells.size = size) (hsz : 0 < size)
    (v : Value) (n : Nat) (xs : List Value) (hown : OwnW w base e size v n xs)
    (ad : Addr) (m c : Nat) (news : List Value) (hl : news.length = m * size) (hnews : ∀ j u, news[j]? = some u → w.cell? (ad.add j) = some u) (h1 : ∀ u ∈ news, u.oneCell' = true)
    (h63 : n + m ≤ maxLen) (hbytes : (n + m) * bytes ≤ 140737488355328) (hbase : base ≤ w.heap.size) :
    ∃ v' w', (Builtin.append_ #[t, t] ty #[v, .slice (some ad) m c]).run P w = .ok v' w' ∧ OwnW w' base e size v' (n + m) (xs ++ news) ∧ w.grownBy w' v.ownBlock ∧
      (v'.ownBlock = v.ownBlock ∨ ∀ g, v'.ownBlock = some g → w.heap.size ≤ g) := by
  obtain ⟨h0, ⟨rfl, rfl⟩ | ⟨g, o, cap, cur, rfl, hb, hgg, hnc, hm, hs, hx⟩⟩ := hown
  · obtain rfl : xs = [] := List.eq_nil_of_length_eq_zero (by simpa using h0)
    obtain ⟨v', w', hrun, r1, r2, _⟩ := run_append_own (P := P) w w.heap.size t ty e i z size bytes ht hi hz hsize hby hzs hsz (.slice none 0 0) 0 [] (World.ownsRow_nil w _ e size) ad m c news hl hnews h1 h63 hbytes (Nat.le_refl _)
    exact ⟨v', w', hrun, (OwnW.of_own r1).mono hbase, r2, .inr fun k hk => (r1.lt k hk).1⟩
  · by_cases hr : n + m ≤ cap
    · have e1 : (n + m) * size ≤ cap * size := Nat.mul_le_mul_right _ hr
      rw [Nat.add_mul] at e1
      have hrun := run_append_room_cells (P := P) w t ty e i ht hi g o n cap ad m c news (by rw [hsize]; exact hl) hnews h1 hr (fun j hj => by
          rw [hsize, hgg.cell]
          rw [Array.getElem?_eq_getElem (by omega)]; rfl) (fun j hj => hgg.frozen _)
      rw [hsize] at hrun
      refine ⟨_, _, hrun, ⟨by rw [List.length_append, h0, hl, Nat.add_mul], .inr ⟨g, o, cap, _, rfl, hb, blk_setCells news _ _ _ hgg, hr, hm, by rw [putAt_size]; exact hs, fun j u hj => ?_⟩⟩, grown_setCells w g news _ w (World.grownBy.refl w _), .inl rfl⟩
      rcases Nat.lt_or_ge j xs.length with hlt | hge
      · rw [List.getElem?_append_left hlt] at hj
        rw [putAt_out _ _ _ _ (.inl (by omega))]
        exact hx j u hj
      · rw [List.getElem?_append_right hge] at hj
        have := putAt_in news (o + n * size) cur (j - xs.length) u (by omega) hj
        rw [show o + n * size + (j - xs.length) = o + j from by omega] at this
        exact this
    · obtain ⟨v', w', hrun, r1, r2⟩ := run_append_arg_grows (P := P) w t ty e i z size bytes ht hi hz hsize hby hzs hsz ⟨g, o, none⟩ n cap xs h0 (fun j u hj => by
          rw [Addr.add_lit, hgg.cell]; exact hx j u hj) ad m c news hl hnews (by omega) h63 hbytes
      exact ⟨v', w', hrun, (OwnW.of_own r1).mono hbase, ⟨r2.os, r2.tape, r2.output, r2.size, fun k hk _ => r2.block k hk (by simp)⟩, .inr fun k hk => (r1.lt k hk).1⟩

theorem wp_append_win {o : Oper} {a : Act} {K : Act → World → Prop} {Q : Exit → Act → World → Prop} (s x : Operand) (t : TypeId)
    (base : Nat) (e : TypeId) (i : TypeInfo) (z : Value) (size bytes : Nat) (ht : P.underlying t = some (.slice e)) (hi : P.info? e = some i) (hz : i.zero = some z)
    (hsize : i.size = size) (hby : i.bytes = bytes) (hzs : z.cells.size = size) (hsz : 0 < size)
    (v : Value) (n : Nat) (xs : List Value) (hown : OwnW w base e size v n xs)
    (ho : o.op = .call { callee := .builtin .append, args := #[s, x], argTypes := #[t, t] })
    (hs : a.eval s = v) (ad : Addr) (m c : Nat) (news : List Value) (hx : a.eval x = .slice (some ad) m c) (hl : news.length = m * size) (hnews : ∀ j u, news[j]? = some u → w.cell? (ad.add j) = some u) (h1 : ∀ u ∈ news, u.oneCell' = true)
    (h63 : n + m ≤ maxLen) (hbytes : (n + m) * bytes ≤ 140737488355328) (hbase : base ≤ w.heap.size)
    (h : ∀ v' w', OwnW w' base e size v' (n + m) (xs ++ news) → w.grownBy w' v.ownBlock → (v'.ownBlock = v.ownBlock ∨ ∀ g, v'.ownBlock = some g → w.heap.size ≤ g) → K (a.put o.dst v') w') : o.wp P a w K Q := by
  obtain ⟨v', w', hrun, h2, h3, h4⟩ := run_append_win (P := P) w base t o.type e i z size bytes ht hi hz hsize hby hzs hsz v n xs hown ad m c news hl hnews h1 h63 hbytes hbase
  unfold Oper.wp execOp
  simp only [ho, resolve, invoke, builtin, Sem.run_bind, Sem.run_pure, Result.andThen_ok, List.map_toArray, List.map_cons, List.map_nil, hs, hx, hrun]
  exact h v' w' h2 h3 h4
end
theorem wpList_addW {α : Type} (R : Rec α) {P : Program} {w : World} {ops : Array Oper} {rest : List Oper} {o : Oper} {a : Act} {Q : Exit → Act → World → Prop} (hgd : o.guard = none) (s x : Operand) (t : TypeId)
    (base : Nat) (e : TypeId) (z : Value) (bytes : Nat) (ht : P.underlying t = some (.slice e)) (hinfo : (P.info? e).map (fun i => (i.zero, i.size, i.bytes)) = some (some z, R.sz, bytes))
    (ho : o.op = .call { callee := .builtin .append, args := #[s, x], argTypes := #[t, t] })
    (hzs : z.cells.size = R.sz) (v : Value) (n : Nat) (l : List α) (y : α) (cs : Array Value) (hown : OwnW w base e R.sz v n (l.flatMap R.cells)) (hs : a.eval s = v) (hcs : cs.toList = R.cells y)
    (hx : a.eval x = .slice (some ⟨w.heap.size, 0, none⟩) 1 1) (h1 : ∀ u ∈ R.cells y, u.oneCell' = true)
    (hn : n ≤ 1000000) (hbytes : bytes ≤ 1000) (hbase : base ≤ w.heap.size)
    (h : ∀ v' w', OwnW w' base e R.sz v' (n + 1) ((l ++ [y]).flatMap R.cells) → w.grownBy w' v.ownBlock → (v'.ownBlock = v.ownBlock ∨ ∀ g, v'.ownBlock = some g → w.heap.size < g) → wpList P ops Q rest (a.put o.dst v') w') :
    wpList P ops Q (o :: rest) a (w.alloc (.cells cs e)) := by
  obtain ⟨i0, hi, hz0, hz1, hz2⟩ := info_parts hinfo
  have hb2 : (n + 1) * bytes ≤ 1000001 * 1000 := Nat.mul_le_mul (by omega) hbytes
  refine wpList_plain hgd fun _ hK => ?_
  refine wp_append_win (w.alloc (.cells cs e)) s x t base e i0 z R.sz bytes ht hi hz0 hz1 hz2 hzs R.pos v n (l.flatMap R.cells) (hown.alloc _) ho hs ⟨w.heap.size, 0, none⟩ 1 1 (R.cells y) hx (by rw [R.len, Nat.one_mul]) ?_ h1
    (by simp only [maxLen]; omega) (by omega) (by simp; omega) ?_
  · intro j u hu
    have e1 : (⟨w.heap.size, 0, none⟩ : Addr).add j = ⟨w.heap.size, j, none⟩ := by unfold Addr.add; split <;> simp_all
    rw [e1, (Blk.new w e cs).cell j, ← hu, ← hcs]
    simp
  · intro v' w' hown' hg hat
    rw [← flatR_app] at hown'
    refine hK _ _ (h v' w' hown' ((World.grownBy_alloc w (.cells cs e) v.ownBlock).trans hg) (hat.imp id fun h g hgv => ?_))
    have := h g hgv
    simp at this
    omega
end Go.Proofs.YtgdijbaodfghjaaGreatDoor
