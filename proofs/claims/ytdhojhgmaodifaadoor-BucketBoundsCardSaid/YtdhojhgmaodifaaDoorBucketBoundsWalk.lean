/-
  The walk of the law BucketBounds.
-/
import Derived.Test.YtdhojhgmaodifaaDoorBounded
import Derived.Test.YtdhojhgmaodifaaDoorBucketGcraWalk
import Derived.ArgAppend
import Derived.Deep.RegionHeld3
import Derived.Deep.RegionLawGrows
import Derived.Deep.CutRange
import Derived.Deep.DeepCutAuto
namespace Go.Proofs.YtdhojhgmaodifaaDoor
open Go.RowKit Crv Bkt
set_option linter.unusedVariables false

set_option maxRecDepth 100000 in
/-- 'append(s[:n:n], x)': it must grow: a new row, all else as it was -/
theorem wpList_grow1 {w : World} {ops : Array Oper} {rest : List Oper} {o : Oper} {a : Act} {Q : Exit → Act → World → Prop} (hg : o.guard = none) (s x : Operand) (t : TypeId) (ht : Tryd.prog.underlying t = some (.slice 3))
    (hop : o.op = .call { callee := .builtin .append, args := #[s, x], argTypes := #[t, t] })
    (ao : Option Addr) (n : Nat) (zs : List Int) (u : Int) (hr : RdI w w.heap.size ao n zs) (hs : a.eval s = .slice ao n n) (hnone : ao = none → n = 0)
    (hx : a.eval x = .slice (some ⟨w.heap.size, 0, none⟩) 1 1) (hn : n ≤ 1000000)
    (hK : ∀ A' c' w', RdI w' w'.heap.size A' (n + 1) (zs ++ [u]) → Below w.heap.size w w' → wpList Tryd.prog ops Q rest (a.put o.dst (.slice A' (n + 1) c')) w') :
    wpList Tryd.prog ops Q (o :: rest) a (w.alloc (.cells #[.int .i64 u] 3)) := by
  obtain ⟨i0, hi, hz0, hz1, hz2⟩ := info_parts Tryd.intInfo
  have hl := hr.len
  refine wpList_append_grows _ hg s x t hop 3 i0 (.int .i64 0) 1 8 ht hi hz0 hz1 hz2 rfl (by decide) ao n n (zs.map (Value.int .i64)) hs (fun h => ⟨hnone h, hnone h⟩) (by simp; omega) ?_
    ⟨w.heap.size, 0, none⟩ 1 1 [.int .i64 u] hx rfl (cell_one_new _ _ _) (by intro y hy; simp at hy; subst hy; rfl) (by omega) (by simp only [maxLen]; omega) (by omega) ?_
  · intro b hb j y hj
    have hj' : j < n := by
      rcases Nat.lt_or_ge j n with h | h
      · exact h
      · rw [List.getElem?_eq_none (by simp; omega)] at hj; simp at hj
    obtain ⟨ad, e, hB, hc⟩ := hr.2 (by omega)
    rw [hb] at e
    injection e with e
    subst e
    exact (World.cell?_alloc_lt w _ _ (by rw [block_of_add]; exact hB)).trans (hc j y hj)
  · intro v' w' hown hg'
    have hown2 : w'.ownsRow (w.alloc (.cells #[.int .i64 u] 3)).heap.size 3 1 v' (n + 1) ((zs ++ [u]).map (Value.int .i64)) := by simpa using hown
    obtain ⟨A', c', rfl, hrd⟩ := own_reads hown2
    exact hK A' c' w' hrd (((Below.refl _ w).alloc (Nat.le_refl _) _).grown hg' (by simp) (fun k hk => by cases hk))
theorem own_cap {w : World} {base : Nat} {e : TypeId} {size n c : Nat} {A : Option Addr} {xs : List Value} (h : w.ownsRow base e size (.slice A n c) n xs) : n ≤ c ∧ (A = none → n = 0) := by
  rcases h.2 with ⟨h', rfl⟩ | ⟨g, cap, cur, h', _, _, hc, _⟩
  · exact ⟨by omega, fun _ => rfl⟩
  · injection h' with h1 h2 h3
    subst h1 h3
    exact ⟨hc, fun h => by cases h⟩
theorem own_over {w w' : World} {base : Nat} {e : TypeId} {size n : Nat} {v : Value} {xs : List Value} (h : w.ownsRow base e size v n xs) (hb : Below w.heap.size w w') : w'.ownsRow base e size v n xs :=
  h.kept (row := none) ⟨hb.os, hb.tape, hb.output, hb.size, fun i hi _ => hb.block i hi⟩ (by cases v.ownBlock <;> simp)


theorem bl_drew {w0 w1 : World} (h : Below w0.heap.size w0 w1) : Below w0.heap.size w0 w1.drew := ⟨h.os, h.tape, h.output, h.size, h.block⟩
theorem bl_drewN {w0 w1 : World} {n : Nat} (h : Below w0.heap.size w0 w1) : Below w0.heap.size w0 (w1.drewN n) := ⟨h.os, h.tape, h.output, h.size, h.block⟩
theorem bl_alloc {w0 w1 : World} {o : Obj} (h : Below w0.heap.size w0 w1) : Below w0.heap.size w0 (w1.alloc o) := h.alloc h.size _
theorem bl_next {w0 w1 w2 : World} (h : Below w0.heap.size w0 w1) (h' : Below w1.heap.size w1 w2) : Below w0.heap.size w0 w2 := h.trans (h'.mono h.size)
set_option maxRecDepth 100000 in
/-- the same as a step of a region that draws its order -/
theorem step_grow1 {W : World} {ops : Array Oper} {o : Oper} {a : Act} {K : Act → World → Prop} {Q : Exit → Act → World → Prop} {E : Prop} (hg : o.guard = none) (s x : Operand) (t : TypeId) (ht : Tryd.prog.underlying t = some (.slice 3))
    (hop : o.op = .call { callee := .builtin .append, args := #[s, x], argTypes := #[t, t] })
    (B : Nat) (ao : Option Addr) (n : Nat) (zs : List Int) (u : Int) (hr : RdI W B ao n zs) (hs : a.eval s = .slice ao n n) (hnone : ao = none → n = 0)
    (hxc : ∃ ad, a.eval x = .slice (some ad) 1 1 ∧ W.cell? ad = some (.int .i64 u)) (hn : n ≤ 1000000)
    (hK : ∀ A' c' w', RdI w' w'.heap.size A' (n + 1) (zs ++ [u]) → n + 1 ≤ c' → Below W.heap.size W w' → K (a.put o.dst (.slice A' (n + 1) c')) w') :
    if Region.wanted o (yielded ops a.tmps) = true then Oper.wp Tryd.prog o a W K Q else E := by
  obtain ⟨ad, hx, hc⟩ := hxc
  obtain ⟨i0, hi, hz0, hz1, hz2⟩ := info_parts Tryd.intInfo
  have hl := hr.len
  refine step_append_grows hg s x t hop 3 i0 (.int .i64 0) 1 8 ht hi hz0 hz1 hz2 rfl (by decide) ao n n (zs.map (Value.int .i64)) hs (fun h => ⟨hnone h, hnone h⟩) (by simp; omega) ?_
    ad 1 1 [.int .i64 u] hx rfl (fun j y hj => ?_) (by intro y hy; simp at hy; subst hy; rfl) (by omega) (by simp only [maxLen]; omega) (by omega) ?_
  · intro b hb j y hj
    have hj' : j < n := by
      rcases Nat.lt_or_ge j n with h | h
      · exact h
      · rw [List.getElem?_eq_none (by simp; omega)] at hj; simp at hj
    obtain ⟨ad, e, hB, hc⟩ := hr.2 (by omega)
    rw [hb] at e
    injection e with e
    subst e
    exact hc j y hj
  · match j, hj with
    | 0, hj => simp at hj; subst hj; simpa [Addr.add] using hc
  · intro v' w' hown hg'
    have hown2 : w'.ownsRow W.heap.size 3 1 v' (n + 1) ((zs ++ [u]).map (Value.int .i64)) := by simpa using hown
    obtain ⟨A', c', rfl, hrd⟩ := own_reads hown2
    exact hK A' c' w' hrd (own_cap hown2).1 ((Below.refl _ W).grown hg' (Nat.le_refl _) (fun k hk => by cases hk))

theorem bounded_at (k : Bk) (v : Bool) (A A' : Option Addr) (n c c' : Nat) (xs ns : List Int) (w : World) (hr : RdI w w.heap.size A n xs) (hr' : RdI w w.heap.size A' n ns) (hk : BkOk k) (hn : n ≤ 100)
    (ha : ∀ i, i < n → 0 ≤ at0 xs i ∧ at0 xs i ≤ 1000000000) (hb : ∀ i, i < n → 0 ≤ at0 ns i ∧ at0 ns i ≤ 10000) (hv : Bounded k xs ns ↔ v = true) :
    Calls Tryd.prog 19 #[bkV k, .slice A n c, .slice A' n c'] w fun e w' => e = .returned (.bool v) ∧ Below w.heap.size w w' :=
  (bounded_any k A A' n c c' xs ns w hr hr' hk hn ha hb).mono fun e w' ⟨hbel, h⟩ => by
    rcases h with ⟨h1, h2⟩ | ⟨h1, h2⟩
    · rw [hv] at h1; subst h1; exact ⟨h2, hbel⟩
    · rw [hv] at h1
      have : v = false := by simpa using h1
      subst this; exact ⟨h2, hbel⟩
theorem RdI.pos {w : World} {B n : Nat} {A : Option Addr} {zs : List Int} (h : RdI w B A n zs) : A = none → n = 0 := by
  intro hA
  rcases Nat.eq_zero_or_pos n with h0 | h0
  · exact h0
  · obtain ⟨b, off, e, _⟩ := h.addr h0
    rw [hA] at e; cases e

set_option maxHeartbeats 2000000 in
set_option maxRecDepth 100000 in
theorem bucketBounds_core (k : Bk) (A : Option Addr) (n c : Nat) (l : List It) (w : World) (hr : RdIt w w.heap.size A n l) (hg : Handle w) :
    Calls Tryd.prog 4 #[bkV k, .slice A n c] w fun e w' => e = .returned (.bool true) ∧ Below w.heap.size w w' := by
  have hl := hr.len
  have HL := Lib.hid hl; have HG := Lib.hid hg
  clear hl hg
  by_cases hok : BkOk k ∧ ListFine l
  · obtain ⟨hk, hf⟩ := hok
    have hcon := fun W hW hH => conform_yes k A n c l W hW hH hk hf
    have hn : n ≤ 100 := by have := hf.1; have := HL.out; omega
    have hbn := fun v A1 A2 m c1 c2 xs ns W h1 h2 h3 h4 h5 h6 => bounded_at k v A1 A2 m c1 c2 xs ns W h1 h2 hk h3 h4 h5 h6
    have hlb := fun j (hj : j < n) => letBy_bd (k := k) (itOk_of hf) j (by have := HL.out; omega)
    have hib := fun j (hj : j < n) => And.intro ((itOk_of hf).at0 j (by have := HL.out; omega)) ((itOk_of hf).len j (by have := HL.out; omega))
    have hlt1 : ∀ j, conf k l j = true → letBy k l (j + 1) = ((letBy k l j).1 ++ [(ix l j).at_], (letBy k l j).2 ++ [(ix l j).len]) := fun j hc => by simp [letBy, hc]
    have hlt0 : ∀ j, conf k l j = false → letBy k l (j + 1) = letBy k l j := fun j hc => by simp [letBy, hc]
    have HLB := Lib.hid hlb; have HIB := Lib.hid hib; have HL1 := Lib.hid hlt1; have HL0 := Lib.hid hlt0
    clear hlb hib hlt1 hlt0
    have hst := fun j (hj : j < n) => bounds_step hk (itOk_of hf) (j := j) (by have := HL.out; omega) (binv_all hk (itOk_of hf) j (by have := HL.out; omega))
    have HST := Lib.hid hst
    have HF := Lib.hid hf
    obtain ⟨kb, kt, kr⟩ := k
    unfold bkV at hcon hbn ⊢
    dsimp only at hcon hbn ⊢
    have HCO := Lib.hid hcon; have HBN := Lib.hid hbn
    clear hcon hbn hk hf hst
    go_enter Tryd.func4, Tryd.ntmps4
    go_wp2_with fail
    have hb0 : Below w.heap.size w (w.alloc (.cells #[.int .i64 kb, .int .i64 kt, .int .i64 kr] 32)) := (Below.refl _ w).alloc (Nat.le_refl _) _
    refine (HCO.out _ (hr.over hb0 (Nat.le_refl _)) (HG.out.below hb0)).mono ?_
    rintro e w1 ⟨A1, c1, rfl, hb1, hx⟩
    have s0 : w1.cell? ⟨w.heap.size, 0, none⟩ = some (.int .i64 kb) := (hb1.cell (p := ⟨w.heap.size, 0, none⟩) (by simp)).trans (by simp)
    have s1 : w1.cell? ⟨w.heap.size, 1, none⟩ = some (.int .i64 kt) := (hb1.cell (p := ⟨w.heap.size, 1, none⟩) (by simp)).trans (by simp)
    have s2 : w1.cell? ⟨w.heap.size, 2, none⟩ = some (.int .i64 kr) := (hb1.cell (p := ⟨w.heap.size, 2, none⟩) (by simp)).trans (by simp)
    have hbw := hb0.trans (hb1.mono (by simp))
    clear hb0 hb1
    go_wp2_with fail
    refine (poured_any w1).mono ?_
    rintro e w3 ⟨rfl, hb3⟩
    replace hx := hx.over hb3 (Nat.le_refl _)
    have hw1s : w.heap.size + 1 ≤ w1.heap.size := lt_of_cell s0
    replace s0 := (hb3.cell (p := ⟨w.heap.size, 0, none⟩) hw1s).trans s0
    replace s1 := (hb3.cell (p := ⟨w.heap.size, 1, none⟩) hw1s).trans s1
    replace s2 := (hb3.cell (p := ⟨w.heap.size, 2, none⟩) hw1s).trans s2
    have hw3s : w.heap.size < w3.heap.size := lt_of_cell s0
    clear hw1s
    go_wp2_with fail
    have hbw3 := hbw.trans (hb3.mono hbw.size); clear hb3
    go_loopw [7, 8, 9] (fun u v i wr => ∃ (j m ca cb : Nat) (Aa Ab : Option Addr), j ≤ n ∧ i = .int .i64 j ∧ u = .slice Aa m ca ∧ v = .slice Ab m cb ∧ m ≤ j ∧ (Aa = none → m = 0) ∧ (Ab = none → m = 0) ∧ m ≤ ca ∧ m ≤ cb ∧
      RdI wr wr.heap.size Aa m (letBy ⟨kb, kt, kr⟩ l j).1 ∧ RdI wr wr.heap.size Ab m (letBy ⟨kb, kt, kr⟩ l j).2 ∧ Below w3.heap.size w3 wr) (fun _ _ i _ => n - (intOf i).toNat)
    case atStart => exact ⟨0, 0, 0, 0, none, none, Nat.zero_le _, rfl, rfl, rfl, Nat.le_refl _, fun _ => rfl, fun _ => rfl, Nat.le_refl _, Nat.le_refl _, Reads.none_, Reads.none_, Below.refl _ _⟩
    case round =>
      obtain ⟨j, m, ca, cb, Aa, Ab, hj, rfl, rfl, rfl, hm, hAa, hAb, hca, hcb, ra, rb, hb⟩ := hrel
      by_cases hlt : j < n
      · obtain ⟨b, off, rfl, hbB⟩ := hr.addr hlt
        have hbt := hbw3.trans (hb.mono hbw3.size)
        obtain ⟨c0, c1', _, _, _⟩ := (hr.over hbt (Nat.le_refl _)).cells hlt
        have hs := HST.out j hlt
        generalize hX : letBy ⟨kb, kt, kr⟩ l j = X at *
        generalize hA : (ix l j).at_ = ta at *
        generalize hB : (ix l j).len = tb at *
        have hS : ∀ wx, Below wr.heap.size wr wx → wx.cell? ⟨b, off + j * 5, none⟩ = some (.int .i64 ta) ∧ wx.cell? ⟨b, off + j * 5 + 1, none⟩ = some (.int .i64 tb) ∧ Below wr.heap.size wr wx := fun wx hw =>
          have hlt : b < wr.heap.size := Nat.lt_of_lt_of_le hbB hbt.size
          ⟨(hw.cell (p := ⟨b, off + j * 5, none⟩) hlt).trans c0, (hw.cell (p := ⟨b, off + j * 5 + 1, none⟩) hlt).trans c1', hw⟩
        go_upto_region 10 with fail
        go_cut [10, 11] (fun u v wx => ∃ A2 c2 A3 c3, u = .slice A2 (m + 1) c2 ∧ v = .slice A3 (m + 1) c3 ∧ m + 1 ≤ c2 ∧ m + 1 ≤ c3 ∧ RdI wx wx.heap.size A2 (m + 1) (X.1 ++ [ta]) ∧ RdI wx wx.heap.size A3 (m + 1) (X.2 ++ [tb]) ∧ Below wr.heap.size wr wx)
        case first =>
          go_region_held3 (fun wx => wx.cell? ⟨b, off + j * 5, none⟩ = some (.int .i64 ta) ∧ wx.cell? ⟨b, off + j * 5 + 1, none⟩ = some (.int .i64 tb) ∧ Below wr.heap.size wr wx)
            ((refine hS _ ?_; (repeat (first | assumption | exact Below.refl _ _ | apply bl_drew | apply bl_alloc | (refine bl_next ?_ (by assumption))))))
            (first
              | (refine step_grow1 (by rfl) (.tmp 46) (.tmp 52) _ Tryd.underlying37 (by rfl) wr.heap.size Aa m X.1 ta (ra.below ?_) (by rfl) hAa ?_ (by omega) ?_; (repeat (first | assumption | exact Below.refl _ _ | apply bl_drew | apply bl_drewN | apply bl_alloc | (refine bl_next ?_ (by assumption)))); (focus ((refine ⟨_, rfl, ?_⟩); (first | (simp; done) | (refine (hb2.cell (p := ⟨_, 0, none⟩) ?_).trans ?_ <;> (first | (simp; done) | (simp; omega))) | (refine (hb3.cell (p := ⟨_, 0, none⟩) ?_).trans ?_ <;> (first | (simp; done) | (simp; omega))) | fail))); intro A2 c2 w2 hx2 hq2 hb2)
              | (refine step_grow1 (by rfl) (.tmp 59) (.tmp 65) _ Tryd.underlying37 (by rfl) wr.heap.size Ab m X.2 tb (rb.below ?_) (by rfl) hAb ?_ (by omega) ?_; (repeat (first | assumption | exact Below.refl _ _ | apply bl_drew | apply bl_drewN | apply bl_alloc | (refine bl_next ?_ (by assumption)))); (focus ((refine ⟨_, rfl, ?_⟩); (first | (simp; done) | (refine (hb2.cell (p := ⟨_, 0, none⟩) ?_).trans ?_ <;> (first | (simp; done) | (simp; omega))) | (refine (hb3.cell (p := ⟨_, 0, none⟩) ?_).trans ?_ <;> (first | (simp; done) | (simp; omega))) | fail))); intro A3 c3 w4 hx3 hq3 hb3)
              | fail)
          all_goals
            go_wp2_with fail
            go_meet
            refine ⟨A2, c2, A3, c3, rfl, rfl, hq2, hq3, ?_, ?_, ?_⟩
            · first | exact hx2 | (refine hx2.over ?_ (Nat.le_refl _); (repeat (first | assumption | exact Below.refl _ _ | apply bl_drew | apply bl_drewN | apply bl_alloc | (refine bl_next ?_ (by assumption)))))
            · first | exact hx3 | (refine hx3.over ?_ (Nat.le_refl _); (repeat (first | assumption | exact Below.refl _ _ | apply bl_drew | apply bl_drewN | apply bl_alloc | (refine bl_next ?_ (by assumption)))))
            · (repeat (first | assumption | exact Below.refl _ _ | apply bl_drew | apply bl_drewN | apply bl_alloc | (refine bl_next ?_ (by assumption))))
        case rest =>
          obtain ⟨A2, c2, A3, c3, rfl, rfl, hq2, hq3, hx2, hx3, hbx⟩ := hcut
          obtain ⟨b1, o1, rfl, hb1, kx⟩ := (hx.over (hb.trans (hbx.mono hb.size)) (Nat.le_refl _)).get hlt
          have hbtx := hb.trans (hbx.mono hb.size)
          have t0 : wc.cell? ⟨w.heap.size, 0, none⟩ = some (.int .i64 kb) := (hbtx.cell (p := ⟨w.heap.size, 0, none⟩) hw3s).trans s0
          have t1 : wc.cell? ⟨w.heap.size, 1, none⟩ = some (.int .i64 kt) := (hbtx.cell (p := ⟨w.heap.size, 1, none⟩) hw3s).trans s1
          have t2 : wc.cell? ⟨w.heap.size, 2, none⟩ = some (.int .i64 kr) := (hbtx.cell (p := ⟨w.heap.size, 2, none⟩) hw3s).trans s2
          have hS2 : ∀ wy, Below wc.heap.size wc wy → wy.cell? ⟨w.heap.size, 0, none⟩ = some (.int .i64 kb) ∧ wy.cell? ⟨w.heap.size, 1, none⟩ = some (.int .i64 kt) ∧ wy.cell? ⟨w.heap.size, 2, none⟩ = some (.int .i64 kr) ∧
              wy.cell? ⟨b1, o1 + j, none⟩ = some (.bool (conf ⟨kb, kt, kr⟩ l j)) ∧ Below wc.heap.size wc wy := fun wy hw =>
            have hlt : w.heap.size < wc.heap.size := lt_of_cell t0
            ⟨(hw.cell (p := ⟨w.heap.size, 0, none⟩) hlt).trans t0, (hw.cell (p := ⟨w.heap.size, 1, none⟩) hlt).trans t1, (hw.cell (p := ⟨w.heap.size, 2, none⟩) hlt).trans t2, (hw.cell (p := ⟨b1, o1 + j, none⟩) hb1).trans kx, hw⟩
          have hlen1 : X.1.length = m := ra.len
          have hlen2 : X.2.length = m := rb.len
          have hbda := all_app (P := fun v => 0 ≤ v ∧ v ≤ 1000000000) (y := ta) (by have := (HLB.out j hlt).1; rw [hX] at this; exact this) (by have := (HIB.out j hlt).1; rw [hA] at this; exact this)
          have hbdb := all_app (P := fun v => 0 ≤ v ∧ v ≤ 10000) (y := tb) (by have := (HLB.out j hlt).2; rw [hX] at this; exact this) (by have := (HIB.out j hlt).2; rw [hB] at this; omega)
          have hcl : ∀ W, Below wc.heap.size wc W → Calls Tryd.prog 19 #[.agg #[.int .i64 kb, .int .i64 kt, .int .i64 kr], .slice A2 (m + 1) c2, .slice A3 (m + 1) c3] W fun e w' => e = .returned (.bool (conf ⟨kb, kt, kr⟩ l j)) ∧ Below W.heap.size W w' := fun W hW =>
            HBN.out _ A2 A3 (m + 1) c2 c3 (X.1 ++ [ta]) (X.2 ++ [tb]) W (hx2.over hW (Nat.le_refl _)) (hx3.over hW (Nat.le_refl _)) (by omega) (fun i hi => hbda i (by simp; omega)) (fun i hi => hbdb i (by simp; omega)) hs.1
          have HCL := Lib.hid hcl; have HS2 := Lib.hid hS2; have HS := Lib.hid hs; have HX := Lib.hid hX; have HTA := Lib.hid hA; have HTB := Lib.hid hB; have HBX := Lib.hid hbx
          have hlj1 := HL1.out j; have hlj0 := HL0.out j
          rw [hX, hA, hB] at hlj1; rw [hX] at hlj0
          have HJ1 := Lib.hid hlj1; have HJ0 := Lib.hid hlj0
          clear hcl hS2 hS hs hX hA hB hbda hbdb hlen1 hlen2 hlj1 hlj0 c0 c1'
          generalize hcf : conf ⟨kb, kt, kr⟩ l j = cf at *
          have HCF := Lib.hid hcf; clear hcf
          go_wp2_with fail
          go_region_held3 (fun wy => wy.cell? ⟨w.heap.size, 0, none⟩ = some (.int .i64 kb) ∧ wy.cell? ⟨w.heap.size, 1, none⟩ = some (.int .i64 kt) ∧ wy.cell? ⟨w.heap.size, 2, none⟩ = some (.int .i64 kr) ∧
              wy.cell? ⟨b1, o1 + j, none⟩ = some (.bool cf) ∧ Below wc.heap.size wc wy)
            ((refine HS2.out _ ?_; (repeat (first | assumption | exact Below.refl _ _ | apply bl_drew | apply bl_drewN | apply bl_alloc | (refine bl_next ?_ (by assumption))))))
            (((with_reducible refine (HCL.out _ ?_).mono ?_); (repeat (first | assumption | exact Below.refl _ _ | apply bl_drew | apply bl_drewN | apply bl_alloc | (refine bl_next ?_ (by assumption)))); rintro e w4 ⟨rfl, hb4⟩))
          have hbx4 : Below wc.heap.size wc w4 := by (repeat (first | assumption | exact Below.refl _ _ | apply bl_drew | apply bl_drewN | apply bl_alloc | (refine bl_next ?_ (by assumption))))
          have hbr4 := HBX.out.trans (hbx4.mono HBX.out.size)
          have kx4 : w4.cell? ⟨b1, o1 + j, none⟩ = some (.bool cf) := (hbx4.cell (p := ⟨b1, o1 + j, none⟩) hb1).trans kx
          have hbw4 := hb.trans (hbr4.mono hb.size)
          cases cf
          · have e1 := HJ0.out rfl
            have E1 := Lib.hid e1; clear e1
            go_wp2_with fail
            refine ⟨⟨j + 1, m, ca, cb, Aa, Ab, by omega, by go_num, rfl, rfl, by omega, hAa, hAb, hca, hcb, ?_, ?_, hbw4⟩, by simp [intOf]; omega⟩
            · rw [E1.out]; exact ra.over hbr4 (Nat.le_refl _)
            · rw [E1.out]; exact rb.over hbr4 (Nat.le_refl _)
          · have e1 := HJ1.out rfl
            have E1 := Lib.hid e1; clear e1
            go_wp2_with fail
            refine ⟨⟨j + 1, m + 1, c2, c3, A2, A3, by omega, by go_num, rfl, rfl, by omega, hx2.pos, hx3.pos, hq2, hq3, ?_, ?_, hbw4⟩, by simp [intOf]; omega⟩
            · rw [E1.out]; exact hx2.over hbx4 (Nat.le_refl _)
            · rw [E1.out]; exact hx3.over hbx4 (Nat.le_refl _)
      · obtain rfl : j = n := by omega
        go_wp2_with fail
        go_ret
        exact ⟨rfl, hbw3.trans (hb.mono hbw3.size)⟩
  · have hcon := fun W hW hH => conform_no k A n c l W hW hH hok
    obtain ⟨kb, kt, kr⟩ := k
    unfold bkV at hcon ⊢
    dsimp only at hcon ⊢
    have HCO := Lib.hid hcon
    clear hcon hok
    go_enter Tryd.func4, Tryd.ntmps4
    go_wp2_with fail
    have hb0 : Below w.heap.size w (w.alloc (.cells #[.int .i64 kb, .int .i64 kt, .int .i64 kr] 32)) := (Below.refl _ w).alloc (Nat.le_refl _) _
    refine (HCO.out _ (hr.over hb0 (Nat.le_refl _)) (HG.out.below hb0)).mono ?_
    rintro e w1 ⟨T1, v1, rfl, hb1⟩
    have hbw := hb0.trans (hb1.mono (by simp))
    clear hb0 hb1
    go_wp2_with fail
    refine (poured_any w1).mono ?_
    rintro e w3 ⟨rfl, hb3⟩
    replace hbw := hbw.trans (hb3.mono hbw.size); clear hb3
    go_wp2_with fail
    refine (poured_any w3).mono ?_
    rintro e w4 ⟨rfl, hb4⟩
    go_wp2_with fail
    go_ret
    exact ⟨rfl, hbw.trans (hb4.mono hbw.size)⟩
end Go.Proofs.YtdhojhgmaodifaaDoor
