/-
  The book: Crash (slices.Grow, slices.Concat at two slices of bytes, the second nil).
-/
import Derived.Test.YtdipehgijjkfdaaGreatDoorBkLook
namespace Go.Proofs.YtdipehgijjkfdaaGreatDoor
open Go.RowKit Go.Maps Go.Shelf
set_option linter.unusedVariables false
def RowOut (w : World) (n : Nat) (l : List Value) (e : Ending) (w' : World) : Prop := ∃ v, e = .returned v ∧ Hid (w'.ownsRow w.heap.size 5 1 v n l ∧ Below w.heap.size w w')
theorem grow_any (n : Nat) (hn : n ≤ 100000) (w : World) : Calls Tryz.prog 22 #[.slice none 0 0, .int .i64 n] w (RowOut w 0 []) := by
  obtain ⟨i0, hi0, hz0, hz1, hz2⟩ := info_parts Tryz.u8Info
  by_cases h0 : n = 0
  · subst h0
    exact (Any8.slices_Grow_room Tryz.grow22 none 0 0 0 w (by omega) (by omega) (by omega) (by omega)).mono fun e w' ⟨h1, h2⟩ => ⟨_, h1, Lib.hid (by subst h2; exact ⟨World.ownsRow_nil _ _ _ _, Below.refl _ _⟩)⟩
  · refine (Any8.slices_Grow_grow Tryz.grow22 i0 (.int .u8 0) hi0 hz0 (by omega) none 0 0 n [] w (by omega) (by omega) (by rw [hz2]; omega) (by omega) (by simp) (fun _ => rfl) (fun a e => by cases e)).mono fun e w' ⟨h1, h2⟩ => ?_
    subst h2
    have hge := grownCap_ge w (0 + n) 0 5
    have hle : grownCap w (0 + n) 0 5 ≤ maxLen := grownCap_le_maxLen w (0 + n) 0 5 (by unfold maxLen; omega)
    refine ⟨_, h1, Lib.hid ⟨?_, (Below.refl _ w).drew.alloc (Nat.le_refl _) _⟩⟩
    exact World.ownsRow_made w.drew _ _ (Nat.le_refl _) hle (by
      simp [Builtin.zeroCells, Value.cells]
      have hge2 : n ≤ grownCap w n 0 (Tryz.grow22_ren.t 25) := by have h := hge; rw [Nat.zero_add] at h; exact h
      omega)
set_option maxHeartbeats 1000000 in
set_option maxRecDepth 100000 in
theorem concat_any (q : Nat) (A : Option Addr) (n c : Nat) (bs : List UInt8) (t : TypeId) (w : World) (hq : Blk w q t #[.slice A n c, .slice none 0 0]) (hr : Reads w w.heap.size 1 A n (bC bs)) (hn : n ≤ 100000) :
    Calls Tryz.prog 14 #[.slice (some ⟨q, 0, none⟩) 2 2] w (RowOut w n (bC bs)) := by
  have hql := hq.lt
  have c0 := hq.cell 0; have c1 := hq.cell 1
  simp at c0 c1
  have HR := Lib.hid hr; have HQ := Lib.hid hq
  clear hr hq
  go_enter Tryz.func14, Tryz.ntmps14
  go_wp2_with fail
  go_loopw [3, 11] (fun sz i wr => ∃ k : Nat, k ≤ 2 ∧ i = .int .i64 k ∧ sz = .int .i64 (if k = 0 then 0 else (n : Int)) ∧ wr = w) (fun _ i _ => 2 - (intOf i).toNat)
  case atStart => exact ⟨0, by omega, rfl, rfl, rfl⟩
  case round =>
    obtain ⟨k, hk, rfl, rfl, hw⟩ := hrel
    have hw2 := hw.symm
    subst hw2
    have hk2 : k = 0 ∨ k = 1 ∨ k = 2 := by omega
    rcases hk2 with rfl | rfl | rfl
    · rw [if_pos rfl]
      go_wp2_with fail
      exact ⟨⟨1, by omega, rfl, by simp, by first | rfl | trivial⟩, by simp [intOf]⟩
    · rw [if_neg (by omega)]
      go_wp2_with fail
      exact ⟨⟨2, by omega, rfl, by simp, by first | rfl | trivial⟩, by simp [intOf]⟩
    · rw [if_neg (by omega)]
      have hg := grow_any n hn w
      have HG := Lib.hid hg
      clear hg
      go_wp2_with fail
      (with_reducible refine HG.out.mono ?_)
      rintro e w1 ⟨v1, rfl, h1⟩
      obtain ⟨ho1, hb1⟩ := h1.out
      have HO1 := Lib.hid ho1; have HB1 := Lib.hid hb1
      clear ho1 hb1 h1 HG
      go_wp2_with fail
      obtain ⟨i0, hi0, hz0, hz1, hz2⟩ := info_parts Tryz.u8Info
      go_loopw [6, 27] (fun v i wx => ∃ k : Nat, k ≤ 2 ∧ i = .int .i64 k ∧ Hid (wx.ownsRow w.heap.size 5 1 v (if k = 0 then 0 else n) (if k = 0 then [] else bC bs) ∧ Below w.heap.size w wx)) (fun _ i _ => 2 - (intOf i).toNat)
      case atStart => exact ⟨0, by omega, rfl, Lib.hid ⟨HO1.out, HB1.out⟩⟩
      case round =>
        obtain ⟨k, hk, rfl, hro⟩ := hrel
        obtain ⟨ho2, hb2⟩ := hro.out
        have y0 := (hb2.cell (p := ⟨q, 0, none⟩) hql).trans c0
        have y1 := (hb2.cell (p := ⟨q, 1, none⟩) hql).trans c1
        have hr2 := HR.out.below hb2
        have hsz := hb2.size
        have HO2 := Lib.hid ho2; have HB2 := Lib.hid hb2; have HR2 := Lib.hid hr2
        clear ho2 hb2 hr2 hro HO1 HB1 HR HQ c0 c1
        have hk2 : k = 0 ∨ k = 1 ∨ k = 2 := by omega
        rcases hk2 with rfl | rfl | rfl
        · have ho := HO2.out
          rw [if_pos rfl, if_pos rfl] at ho
          have HO := Lib.hid ho
          clear ho HO2
          go_wp2_with (at_builtin; refine wpList_append_any _ rfl (.tmp 31) (.tmp 32) 28 rfl w.heap.size 5 i0 (.int .u8 0) 1 1 Tryz.underlying28 hi0 hz0 hz1 hz2 rfl (by decide) _ 0 [] rfl HO.out w.heap.size A n c (bC bs) rfl HR2.out (fun u hu => by obtain ⟨b, _, rfl⟩ := List.mem_map.1 hu; rfl) (by simp only [maxLen]; omega) (by omega) (by omega) ?_; intro v' w' g1 g2 g3; have G1 := Lib.hid g1; have G2 := Lib.hid g2; clear g1 g2 g3)
          refine ⟨⟨1, by omega, rfl, Lib.hid ⟨?_, ?_⟩⟩, by simp [intOf]⟩
          · have h := G1.out
            rw [Nat.zero_add, List.nil_append] at h
            exact h
          · exact HB2.out.grown G2.out hsz (fun k e => (HO.out.lt k e).1)
        · have ho := HO2.out
          rw [if_neg (by omega), if_neg (by omega)] at ho
          have HO := Lib.hid ho
          clear ho HO2
          go_wp2_with (at_builtin; refine wpList_append_any _ rfl (.tmp 31) (.tmp 32) 28 rfl w.heap.size 5 i0 (.int .u8 0) 1 1 Tryz.underlying28 hi0 hz0 hz1 hz2 rfl (by decide) _ n (bC bs) rfl HO.out w.heap.size none 0 0 [] rfl Reads.none_ (fun u hu => by cases hu) (by simp only [maxLen]; omega) (by omega) (by omega) ?_; intro v' w' g1 g2 g3; have G1 := Lib.hid g1; have G2 := Lib.hid g2; clear g1 g2 g3)
          refine ⟨⟨2, by omega, rfl, Lib.hid ⟨?_, ?_⟩⟩, by simp [intOf]⟩
          · have h := G1.out
            rw [Nat.add_zero, List.append_nil] at h
            exact h
          · exact HB2.out.grown G2.out hsz (fun k e => (HO.out.lt k e).1)
        · have ho := HO2.out
          rw [if_neg (by omega), if_neg (by omega)] at ho
          have HO := Lib.hid ho
          clear ho HO2
          go_wp2_with fail
          go_ret
          exact ⟨_, rfl, Lib.hid ⟨HO.out, HB2.out⟩⟩
theorem reads_take {w : World} {B n c k : Nat} {A : Option Addr} {l : List UInt8} (h : Reads w B 1 A n (bC l)) (hl : l.length = n) (hk : k ≤ n) (hc : n ≤ c) : Reads w B 1 A k (bC (l.take k)) := by
  refine ⟨by rw [bC_len, List.length_take]; omega, fun h0 => ?_⟩
  obtain ⟨ad, e, hb, hc⟩ := h.2 (by omega)
  refine ⟨ad, e, hb, fun j u hj => hc j u ?_⟩
  unfold bC at hj ⊢
  rw [List.map_take, List.getElem?_take] at hj
  split at hj
  · exact hj
  · cases hj
theorem own_mono {w : World} {B B' n : Nat} {e : TypeId} {v : Value} {l : List Value} (h : w.ownsRow B e 1 v n l) (hb : B' ≤ B) : w.ownsRow B' e 1 v n l :=
  ⟨h.1, h.2.imp id fun ⟨g, cap, cur, h1, h2, h3⟩ => ⟨g, cap, cur, h1, Nat.le_trans hb h2, h3⟩⟩
def CrashOut (w : World) (l : List UInt8) (su : Nat) (k : Int) (e : Ending) (w' : World) : Prop :=
  (0 ≤ k ∧ k ≤ l.length - su ∧ ∃ v, e = .returned (.tuple #[v, .nilIface]) ∧ Hid (w'.ownsRow w.heap.size 5 1 v (su + k.toNat) (bC (l.take (su + k.toNat))) ∧ Below w.heap.size w w')) ∨
  (¬ (0 ≤ k ∧ k ≤ l.length - su) ∧ (∃ T u, e = .returned (.tuple #[.slice none 0 0, .iface T u])) ∧ Below w.heap.size w w')
set_option maxHeartbeats 1000000 in
set_option maxRecDepth 100000 in
theorem crash_any (B g : Nat) (xs : List Bo.Ln) (su : Nat) (mv : Option Nat) (dv : Value) (k : Int) (w : World) (h : BkM w B g xs su mv dv) (hk0 : -9223372036854775808 ≤ k) (hk1 : k ≤ 9223372036854775807) :
    Calls Tryz.prog 6 #[.pointer (some ⟨g, 0, none⟩), .int .i64 k, .slice none 0 0] w (CrashOut w (Bo.dataF 0 xs) su k) := by
  have y2 := h.blk.cell 2; have y3 := h.blk.cell 3
  simp at y2 y3
  have hsu := h.su
  have hdl := h.dlen
  have hgl := h.blk.lt
  obtain ⟨A, c, hdv, hr⟩ := h.reads
  have hform : (A = none ∧ (Bo.dataF 0 xs).length = 0 ∧ c = 0) ∨ (∃ gd, A = some ⟨gd, 0, none⟩ ∧ (Bo.dataF 0 xs).length ≤ c ∧ c ≤ maxLen) := by
    rcases h.data.2 with ⟨e, _⟩ | ⟨gd, cap, cur, e, _, _, h1, h2, _⟩
    · rw [hdv] at e; injection e with e1 e2 e3; exact .inl ⟨e1, e2, e3⟩
    · rw [hdv] at e; injection e with e1 e2 e3; exact .inr ⟨gd, e1, by omega, by omega⟩
  rw [hdv] at y2
  have hbl : (bC (Bo.dataF 0 xs)).length = (Bo.dataF 0 xs).length := bC_len _
  have HR := Lib.hid hr
  have hw0 := IntWalk.i64_in (((Bo.dataF 0 xs).length : Int) - (su : Int)) (by omega)
  have HO : ∀ n', n' = su + k.toNat → 0 ≤ k → n' ≤ (Bo.dataF 0 xs).length → ∀ W, Below w.heap.size w W → ∀ q, Blk W q 28 #[.slice A n' c, .slice none 0 0] → Calls Tryz.prog 14 #[.slice (some ⟨q, 0, none⟩) 2 2] W (RowOut w n' (bC ((Bo.dataF 0 xs).take n'))) := fun n' h1 h2 h3 W hW q hq =>
    (concat_any q A n' c _ _ W hq (reads_take ((hr.below hW).more hW.size) rfl h3 (by
      rcases hform with ⟨_, h4, h5⟩ | ⟨_, _, h4, _⟩ <;> omega)) (by omega)).mono fun e w' ⟨v, e1, h⟩ => ⟨v, e1, Lib.hid ⟨own_mono h.out.1 hW.size, bl_next hW h.out.2⟩⟩
  have HOC := Lib.hid HO
  clear hr HO h hdv hbl
  generalize Bo.dataF 0 xs = l at *
  by_cases hneg : k < 0
  · have d1 : decide (k < 0) = true := decide_eq_true hneg
    go_enter Tryz.func6, Tryz.ntmps6
    go_upto_region 1 with fail
    go_quiet (fail)
    go_wp2_with fail
    go_ret2
    exact .inr ⟨by omega, ⟨_, _, rfl⟩, below_drewN (Below.refl _ _) _⟩
  · have d1 : decide (k < 0) = false := decide_eq_false hneg
    by_cases hbig : (l.length : Int) - su < k
    · have d2 : decide ((l.length : Int) - su < k) = true := decide_eq_true hbig
      go_enter Tryz.func6, Tryz.ntmps6
      go_upto_region 1 with fail
      go_quiet (fail)
      go_wp2_with fail
      go_ret2
      exact .inr ⟨by omega, ⟨_, _, rfl⟩, below_drewN (Below.refl _ _) _⟩
    · have d2 : decide ((l.length : Int) - su < k) = false := decide_eq_false hbig
      obtain ⟨kn, rfl⟩ := Int.eq_ofNat_of_zero_le (show 0 ≤ k by omega)
      obtain ⟨n', hn'⟩ : ∃ n' : Nat, su + kn = n' := ⟨_, rfl⟩
      have hw1 : IntKind.i64.wrap ((su : Int) + (kn : Int)) = (n' : Int) := by rw [IntWalk.i64_in _ (by omega)]; omega
      have hnl : n' ≤ l.length := by omega
      have HOC2 := Lib.hid (HOC.out n' (by rw [Int.toNat_natCast]; omega) (by omega) hnl)
      have HN := Lib.hid hn'
      clear HOC hn'
      go_enter Tryz.func6, Tryz.ntmps6
      go_upto_region 1 with fail
      go_quiet (fail)
      go_upto_region 3 with fail
      have y2' : ∀ nq, (w.drewN nq).cell? ⟨g, 2, none⟩ = some (.slice A l.length c) := fun nq => y2
      rcases hform with ⟨rfl, h5, rfl⟩ | ⟨gd, rfl, h5, h6⟩
      · obtain rfl : kn = 0 := by have := HN.out; omega
        obtain rfl : su = 0 := by omega
        obtain rfl : n' = 0 := by omega
        clear hw1 hw0
        have hw2 : IntKind.i64.wrap 0 = 0 := rfl
        go_region_law (go_simp; go_at_call 14; (with_reducible refine (HOC2.out _ ?_ _ ?_).mono ?_); (repeat (first | exact Below.refl _ _ | apply bl_drew | apply bl_drewN | apply bl_alloc)); (first | exact Blk.new _ _ _ | exact (Blk.new _ _ _).drewN _); rintro e w5 ⟨v, rfl, h5⟩; have H5 := Lib.hid h5.out; clear h5)
        all_goals
          go_wp2_with fail
          go_ret2
          exact .inl ⟨Int.le_refl _, by simp, _, rfl, H5⟩
      · have hnc : n' ≤ c := by omega
        go_region_law (go_simp; go_at_call 14; (with_reducible refine (HOC2.out _ ?_ _ ?_).mono ?_); (repeat (first | exact Below.refl _ _ | apply bl_drew | apply bl_drewN | apply bl_alloc)); (first | exact Blk.new _ _ _ | exact (Blk.new _ _ _).drewN _); rintro e w5 ⟨v, rfl, h5⟩; have H5 := Lib.hid h5.out; clear h5)
        all_goals
          go_wp2_with fail
          go_ret2
          exact .inl ⟨by omega, by omega, _, rfl, by rw [Int.toNat_natCast, HN.out]; exact H5⟩
end Go.Proofs.YtdipehgijjkfdaaGreatDoor
