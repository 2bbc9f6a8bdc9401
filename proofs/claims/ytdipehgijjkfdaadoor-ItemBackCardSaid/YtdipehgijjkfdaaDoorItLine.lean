/-
  item.line at a line that tells a packet.
-/
import Derived.Test.YtdipehgijjkfdaaDoorSqCut
import Derived.Test.YtdipehgijjkfdaaDoorItNum
import Derived.Test.YtdipehgijjkfdaaDoorWin
import Derived.Test.YtdipehgijjkfdaaDoorInAdd
import Derived.Test.YtdipehgijjkfdaaDoorFlList
import Derived.StillTailTactics
namespace Go.Proofs.YtdipehgijjkfdaaDoor
open Go.RowKit
set_option linter.unusedVariables false
attribute [local go_sem] Oper.semAt_some
set_option maxHeartbeats 1000000 in
theorem split_seq (s c : ByteArray) (w : World) : Calls Tryd.prog 16 #[.string s, .string c] w fun e w' =>
    e = .returned (.func (.func 36) #[] #[.pointer (some ⟨w.heap.size + 1, 0, none⟩), .pointer (some ⟨w.heap.size, 0, none⟩), .pointer (some ⟨w.heap.size + 2, 0, none⟩)]) ∧ w' = ((w.alloc (.cells #[.string s] 9)).alloc (.cells #[.string c] 9)).alloc (.cells #[.int .i64 0] 3) := by
  have hin : Calls Tryd.prog 25 #[.string s, .string c, .int .i64 0] w fun e w' =>
    e = .returned (.func (.func 36) #[] #[.pointer (some ⟨w.heap.size + 1, 0, none⟩), .pointer (some ⟨w.heap.size, 0, none⟩), .pointer (some ⟨w.heap.size + 2, 0, none⟩)]) ∧ w' = ((w.alloc (.cells #[.string s] 9)).alloc (.cells #[.string c] 9)).alloc (.cells #[.int .i64 0] 3) := by
    go_enter Tryd.func25, Tryd.ntmps25
    go_wp2_with fail
    go_ret
    exact ⟨rfl, rfl⟩
  have HI := Lib.hid hin
  clear hin
  go_enter Tryd.func16, Tryd.ntmps16
  go_wp2_with fail
  (with_reducible refine HI.out.mono ?_)
  rintro e w' ⟨rfl, rfl⟩
  go_wp2_with fail
  go_ret
  exact ⟨rfl, rfl⟩
theorem Tryd.intLInfo : (Tryd.prog.info? 3).map (fun i => (i.zero, i.size, i.bytes)) = some (some (.int .i64 0), 1, 8) := by kernel_rfl
theorem rdV_it {w : World} {B n : Nat} {A : Option Addr} {vs : List Value} (h : Reads w B 1 A n vs) {k : Nat} (hk : k < n) : ∃ b off u, A = some ⟨b, off, none⟩ ∧ b < B ∧ vs[k]? = some u ∧ w.cell? ⟨b, off + k, none⟩ = some u := by
  obtain ⟨ad, u, rfl, hb, hx, hc⟩ := Reads.at_ h hk
  obtain ⟨ad0, u0, hA0, _, _, hc0⟩ := Reads.at_ h (show 0 < n by omega)
  injection hA0 with hA0
  subst hA0
  obtain ⟨b, off, spot⟩ := ad
  have hs' : spot = none := by simpa [Addr.add] using World.cell?_spot hc0
  subst hs'
  refine ⟨b, off, u, rfl, hb, hx, ?_⟩
  have e2 : (⟨b, off, none⟩ : Addr).add k = ⟨b, off + k, none⟩ := by unfold Addr.add; split <;> simp_all
  rw [← e2, hc]
/-- between two rounds of line: k numbers are read -/
structure LnI (w : World) (zs : List Int) (k : Nat) (W : World) : Prop where
  r0 : Blk W w.heap.size 31 #[.int .i64 0, .int .i64 0, .int .i64 0, .int .i64 0, .int .i64 0]
  r1 : Blk W (w.heap.size + 1) 25 #[.nilIface]
  n : ∃ v, Blk W (w.heap.size + 1 + 1) 65 #[v] ∧ OwnW W (w.heap.size + 8) 3 1 v k ((zs.take k).map (Value.int .i64))
  b : Below w.heap.size w W
theorem LnI.chg {w : World} {zs : List Int} {k : Nat} {W W' : World} (h : LnI w zs k W) (hc : Chg W W' (fun i => w.heap.size + 3 ≤ i ∧ i < w.heap.size + 8)) : LnI w zs k W' := by
  obtain ⟨v, h1, h2⟩ := h.n
  exact ⟨h.r0.chg hc (by omega), h.r1.chg hc (by omega), ⟨v, h1.chg hc (by omega), h2.chg hc (fun j hj e => by have := (h2.lt j hj).1; omega)⟩, h.b.trans (hc.below h.b.size (fun i hi e => by omega))⟩
theorem LnI.push {w : World} {zs : List Int} {k : Nat} {W w2 w4 : World} {v v' : Value} (h : LnI w zs k W) (hs : w.heap.size + 8 ≤ W.heap.size) (hbk : Blk W (w.heap.size + 1 + 1) 65 #[v]) (hb : Below W.heap.size W w2) (hv : ∀ j, v.ownBlock = some j → w.heap.size + 8 ≤ j)
    (h1 : OwnW w4 (w.heap.size + 8) 3 1 v' (k + 1) ((zs.take (k + 1)).map (Value.int .i64))) (h2 : w2.grownBy w4 v.ownBlock) :
    LnI w zs (k + 1) (w4.setCell ⟨w.heap.size + 1 + 1, 0, none⟩ v') ∧ W.heap.size ≤ (w4.setCell ⟨w.heap.size + 1 + 1, 0, none⟩ v').heap.size ∧ ∀ i, w.heap.size + 3 ≤ i → i < w.heap.size + 8 → (w4.setCell ⟨w.heap.size + 1 + 1, 0, none⟩ v').heap[i]? = W.heap[i]? := by
  have hc1 : Chg W w4 (fun i => v.ownBlock = some i) := (Chg.of_below (S := fun i => v.ownBlock = some i) hb).trans (Chg.of_grown (S := fun i => v.ownBlock = some i) h2 (fun i e => e.symm)) (fun i _ e => e)
  have hc2 : Chg W (w4.setCell ⟨w.heap.size + 1 + 1, 0, none⟩ v') (fun i => v.ownBlock = some i ∨ i = w.heap.size + 1 + 1) := Chg.setCell (p := ⟨w.heap.size + 1 + 1, 0, none⟩) (hc1.mono fun i _ e => .inl e) (fun _ => .inr rfl) _
  have hne : ∀ i, i < w.heap.size + 8 → i ≠ w.heap.size + 1 + 1 → ¬ (v.ownBlock = some i ∨ i = w.heap.size + 1 + 1) := fun i hi hn e => by
    rcases e with e | e
    · have := hv i e; omega
    · exact hn e
  refine ⟨⟨h.r0.chg hc2 (hne _ (by omega) (by omega)), h.r1.chg hc2 (hne _ (by omega) (by omega)), ⟨v', ?_, ?_⟩, h.b.trans (hc2.below h.b.size (fun i hi => hne i (by omega) (by omega)))⟩, hc2.size, fun i h3 h4 => hc2.block i (by omega) (hne i h4 (by omega))⟩
  · have hb4 : Blk w4 (w.heap.size + 1 + 1) 65 #[v] := hbk.chg hc1 (fun e => by have := hv _ e; omega)
    exact hb4.set_ 0 v'
  · exact h1.chg (Chg.setCell (p := ⟨w.heap.size + 1 + 1, 0, none⟩) (Chg.refl w4 (fun i => i = w.heap.size + 1 + 1)) (fun _ => rfl) _) (fun j hj e => by have := (h1.lt j hj).1; omega)
theorem atoi_num (z : Int) (h0 : 0 ≤ z) (h1 : z ≤ 1000000000) (w : World) : Calls Tryd.prog 26 #[.string ⟨(Lib.itoa z).toArray⟩] w fun e w' => e = .returned (.tuple #[.int .i64 z, .nilIface]) ∧ Below w.heap.size w w' := by
  obtain ⟨u, rfl⟩ := Int.eq_ofNat_of_zero_le h0
  have hok : Lib.atoiAll (Lib.itoa ((u : Nat) : Int)) = .ok (u : Int) := by rw [show Lib.itoa ((u : Nat) : Int) = Lib.decDigits u from Bo.itoa_nat u]; exact Bo.atoi_dec u (by omega)
  have hsz : (⟨(Lib.itoa ((u : Nat) : Int)).toArray⟩ : ByteArray).size ≤ 11 := by show (Lib.itoa ((u : Nat) : Int)).toArray.size ≤ 11; have := Fl.itoa_len2 h0 h1; simpa using this
  refine (Tryd.strconv_Atoi_ok ⟨(Lib.itoa ((u : Nat) : Int)).toArray⟩ (by omega) _ (by simpa using hok) w).mono ?_
  rintro e w' ⟨rfl, hw⟩
  refine ⟨rfl, ?_⟩
  rcases hw with rfl | ⟨t, rfl⟩
  · exact Below.refl _ _
  · exact Lib.bytesWorld_below _ _ _
def LnW (w : World) (tx : List UInt8) : World := (((((w.alloc (.cells #[.int .i64 0, .int .i64 0, .int .i64 0, .int .i64 0, .int .i64 0] 31)).alloc (.cells #[.nilIface] 25)).alloc (.cells #[.slice none 0 0] 65)).alloc (.cells #[.string ⟨tx.toArray⟩] 9)).alloc (.cells #[.string ⟨#[32]⟩] 9)).alloc (.cells #[.int .i64 0] 3)
theorem ln_start (w : World) (tx : List UInt8) (zs : List Int) : LnI w zs 0 (LnW w tx) := by
  refine ⟨(((((Blk.new w _ _).alloc _).alloc _).alloc _).alloc _).alloc _, ?_, ⟨.slice none 0 0, ?_, OwnW.nil _ _ _ _⟩, (((((Below.refl w.heap.size w).alloc (Nat.le_refl _) _).alloc (by simp) _).alloc (by simp; omega) _).alloc (by simp; omega) _).alloc (by simp; omega) _ |>.alloc (by simp; omega) _⟩
  · have := Blk.new (w.alloc (.cells #[.int .i64 0, .int .i64 0, .int .i64 0, .int .i64 0, .int .i64 0] 31)) 25 #[.nilIface]
    rw [World.size_alloc] at this
    exact (((this.alloc _).alloc _).alloc _).alloc _
  · have := Blk.new ((w.alloc (.cells #[.int .i64 0, .int .i64 0, .int .i64 0, .int .i64 0, .int .i64 0] 31)).alloc (.cells #[.nilIface] 25)) 65 #[.slice none 0 0]
    rw [World.size_alloc, World.size_alloc] at this
    exact ((this.alloc _).alloc _).alloc _
theorem ln_sq (w : World) (tx : List UInt8) : SqT 32 (w.heap.size + 4) (w.heap.size + 3) (w.heap.size + 5) tx (LnW w tx) := by
  have e3 := Blk.new (((w.alloc (.cells #[.int .i64 0, .int .i64 0, .int .i64 0, .int .i64 0, .int .i64 0] 31)).alloc (.cells #[.nilIface] 25)).alloc (.cells #[.slice none 0 0] 65)) 9 #[.string ⟨tx.toArray⟩]
  have e4 := Blk.new ((((w.alloc (.cells #[.int .i64 0, .int .i64 0, .int .i64 0, .int .i64 0, .int .i64 0] 31)).alloc (.cells #[.nilIface] 25)).alloc (.cells #[.slice none 0 0] 65)).alloc (.cells #[.string ⟨tx.toArray⟩] 9)) 9 #[.string ⟨#[32]⟩]
  have e5 := Blk.new (((((w.alloc (.cells #[.int .i64 0, .int .i64 0, .int .i64 0, .int .i64 0, .int .i64 0] 31)).alloc (.cells #[.nilIface] 25)).alloc (.cells #[.slice none 0 0] 65)).alloc (.cells #[.string ⟨tx.toArray⟩] 9)).alloc (.cells #[.string ⟨#[32]⟩] 9)) 3 #[.int .i64 0]
  simp only [World.size_alloc] at e3 e4 e5
  exact ⟨e4.alloc _, (e3.alloc _).alloc _, e5⟩
set_option maxHeartbeats 4000000 in
set_option maxRecDepth 100000 in
theorem line_f (zs : List Int) (hz : zs.length = 5) (hb : ∀ z ∈ zs, 0 ≤ z ∧ z ≤ 1000000000) (w : World) (hv : PvN w) (hlen : (glue 32 (zs.map Lib.itoa)).length ≤ 1000000) :
    Calls Tryd.prog 17 #[.string ⟨(glue 32 (zs.map Lib.itoa)).toArray⟩] w fun e w' => e = .returned (.tuple #[.agg #[.int .i64 (zs.getD 0 0), .int .i64 (zs.getD 1 0), .int .i64 (zs.getD 2 0), .int .i64 (zs.getD 3 0), .int .i64 (zs.getD 4 0)], .nilIface]) ∧ Below w.heap.size w w' := by
  have hfn : ∀ f, Fence.wide.fn f := fun _ => trivial
  have hdp : Fence.wide.depth = none := rfl
  have hcut := sq_cuts 32 (zs.map Lib.itoa) (by intro e; have := congrArg List.length e; rw [List.length_map, hz] at this; cases this) (fun s hs => by
    obtain ⟨z, hz, rfl⟩ := List.mem_map.1 hs
    exact (Bo.pure_itoa (hb z hz).1).1) hlen (w.heap.size + 4) (w.heap.size + 3) (w.heap.size + 5) (by omega) (by omega) (by omega)
  rw [List.length_map, hz] at hcut
  obtain ⟨wd, hwd⟩ : ∃ wd : Nat → List UInt8, (fun k => (zs.map Lib.itoa).getD k []) = wd := ⟨_, rfl⟩
  have hcut' : Cuts Tryd.prog 36 #[.pointer (some ⟨w.heap.size + 4, 0, none⟩), .pointer (some ⟨w.heap.size + 3, 0, none⟩), .pointer (some ⟨w.heap.size + 5, 0, none⟩)] 5 (fun k => #[.string ⟨(wd k).toArray⟩]) (fun i => i = w.heap.size + 4 ∨ i = w.heap.size + 3 ∨ i = w.heap.size + 5) (fun k W => SqT 32 (w.heap.size + 4) (w.heap.size + 3) (w.heap.size + 5) (glue 32 ((zs.map Lib.itoa).drop k)) W) := by
    rw [← hwd]; exact hcut
  have HCUT := Lib.hid hcut'
  have HWD := Lib.hid hwd
  clear hcut' hwd
  clear hcut
  obtain ⟨tx, htx⟩ : ∃ tx, glue 32 (zs.map Lib.itoa) = tx := ⟨_, rfl⟩
  have HTX := Lib.hid htx
  rw [htx]
  rw [htx] at hlen
  clear htx
  refine (callsIn_wide (n := 0)).1 ?_
  refine callsIn_of_wp_marks Tryd.func17 rfl trivial ?_ rfl
  simp only [Tryd.ntmps17, List.size_toArray, List.length_cons, List.length_nil, Nat.reduceAdd, Nat.reduceSub, Array.replicate_succ, Array.replicate_zero, List.push_toArray, List.append_toArray, List.nil_append, List.cons_append]
  gi_wp2_with (gi_at_call 16; refine (callsIn_wide.2 (split_seq _ _ _)).mono ?_; rintro e w' ⟨rfl, rfl⟩)
  have hst := ln_start w tx zs
  have hst2 := ln_sq w tx
  have HST := Lib.hid hst; have HSQ := Lib.hid hst2
  clear hst hst2
  have hsw : (LnW w tx).heap.size = w.heap.size + 6 := by simp [LnW]
  have HSW := Lib.hid hsw
  clear hsw
  change Code.wpIn _ _ _ _ _ _ (LnW w tx)
  generalize LnW w tx = W0 at *
  refine range_law (gf := 36) rfl (enters_of Tryd.func36 (by kernel_rfl) rfl) HCUT.out (fun _ => rfl) ?hZ ?hT (LnI w zs) ?hI HST.out (fun k => { tmps := #[.string ⟨tx.toArray⟩, undef, .pointer (some ⟨w.heap.size, 0, none⟩), .pointer (some ⟨w.heap.size + 1, 0, none⟩), .pointer (some ⟨w.heap.size + 1 + 1, 0, none⟩), .string ⟨(wd k).toArray⟩, undef, undef, .string ⟨tx.toArray⟩, .func (.func 36) #[] #[.pointer (some ⟨w.heap.size + 1 + 1 + 1 + 1, 0, none⟩), .pointer (some ⟨w.heap.size + 1 + 1 + 1, 0, none⟩), .pointer (some ⟨w.heap.size + 1 + 1 + 1 + 2, 0, none⟩)], .string ⟨(wd k).toArray⟩, undef, undef, undef, undef, undef, undef, undef, undef, undef, undef, undef, undef, undef, undef, undef, undef, undef, undef, undef, undef, undef, undef, undef, undef, undef, undef, undef, undef, undef, undef, undef, undef, undef, undef, undef, undef, undef, undef, undef, undef], defers := [] }) ?assign ?body ?done
  case hZ =>
    have := HSW.out
    rintro i (rfl | rfl | rfl) <;> omega
  case hT =>
    intro W hs
    have h9 := HSQ.out.same hs
    rw [← HTX.out] at h9
    exact h9
  case hI =>
    intro k W1 W2 h hc
    have := HSW.out
    exact h.chg (hc.mono fun i _ hi => by rcases hi with (e | e | e) | e <;> omega)
  case assign =>
    intro l k W K hK
    gi_wp2
    exact hK
  case body =>
    intro l k W hI hk hsz
    have hs0 := HSW.out
    have hzk : zs[k]? = some (zs.getD k 0) := by rw [List.getD, List.getElem?_eq_getElem (by omega)]; rfl
    have hbz := hb (zs.getD k 0) (List.mem_of_getElem? hzk)
    have hwk : wd k = Lib.itoa (zs.getD k 0) := by
      rw [← HWD.out]
      show (zs.map Lib.itoa).getD k [] = _
      rw [List.getD, List.getElem?_map, hzk]; rfl
    have htk : (zs.take (k + 1)).map (Value.int .i64) = (zs.take k).map (Value.int .i64) ++ [Value.int .i64 (zs.getD k 0)] := by rw [List.take_add_one, hzk]; simp
    obtain ⟨v, hbk, hown⟩ := hI.n
    have hlt := hown.lt
    obtain ⟨A0, c0, rfl, _, _, _⟩ := hown.reads
    have hvW := hv.over hI.b
    have hat := atoi_num (zs.getD k 0) hbz.1 hbz.2 W
    have hit := fun W' (h : Below W.heap.size W W') => itoa_n (zs.getD k 0) (by omega) (by omega) W' (hvW.over h)
    rw [← hwk] at hat hit
    have y0 := hbk.cell 0; have f0 := hbk.frozen 0
    simp at y0
    have HI := Lib.hid hI; have HBK := Lib.hid hbk; have HAT := Lib.hid hat; have HIT := Lib.hid hit; have HTK := Lib.hid htk; have HLT := Lib.hid (fun j hj => (hlt j hj).1)
    have HOWN : Hid (OwnW W (w.heap.size + 8) 3 ValR.sz (.slice A0 k c0) k (((zs.take k).map (Value.int .i64)).flatMap ValR.cells)) := Lib.hid (by rw [val_cells]; exact hown)
    generalize wd k = sk at *
    generalize zs.getD k 0 = z at *
    clear hI hbk hown hat hit htk hlt hvW hwk hzk hb HWD HCUT
    gi_wp2_with (first
      | (gi_at_call 26; refine (CallsIn.inRound l (callsIn_wide.2 HAT.out)).mono ?_; rintro e w1 ⟨rfl, hb1⟩; have HB1 := Lib.hid hb1; have HBK1 := HBK.out.below hb1 HBK.out.lt; have y1 := HBK1.cell 0; have f1 := HBK1.frozen 0; simp at y1; clear hb1)
      | (gi_at_call 20; refine (CallsIn.inRound l (callsIn_wide.2 (HIT.out _ HB1.out))).mono ?_; rintro e w2 ⟨hb2, rfl⟩; have hb12 := HB1.out.trans (hb2.mono HB1.out.size); have HB2 := Lib.hid hb12; have HBK2 := HBK.out.below hb12 HBK.out.lt; have y2 := HBK2.cell 0; have f2 := HBK2.frozen 0; simp at y2; have HO2 := Lib.hid (HOWN.out.below hb12); have hw2 := hb12.size; clear hb2 hb12)
      | (gi_at_builtin; refine wpListIn_addW ValR rfl (.tmp 26) (.tmp 28) 65 (w.heap.size + 8) 3 (.int .i64 0) 8 Tryd.underlying65 Tryd.intLInfo rfl rfl (.slice A0 k c0) k ((zs.take k).map (Value.int .i64)) (.int .i64 z) #[.int .i64 z] HO2.out rfl rfl (by show Value.slice (some ⟨w2.heap.size, 0, none⟩) 1 1 = _; simp) (fun y hy => by rw [List.mem_singleton.1 hy]; rfl) (by omega) (by omega) (by omega) ?_; intro v4 w4 h1 h2 h3; rw [List.flatMap_append, val_cells] at h1; rw [show ([Value.int .i64 z].flatMap ValR.cells) = [Value.int .i64 z] from rfl, ← HTK.out] at h1; obtain ⟨A4, c4, rfl, _, _, _⟩ := h1.reads; have hb4 := (HBK.out.below HB2.out HBK.out.lt).grown h2 (fun e => by have := HLT.out _ e.symm; omega); have y4 := hb4.cell 0; have f4 := hb4.frozen 0; simp at y4; have HP := Lib.hid (LnI.push HI.out (by omega) HBK.out HB2.out HLT.out h1 h2); clear h1 h2 h3 hb4))
    refine ⟨HP.out.1, (by simpa using HP.out.2.1), fun i hi => HP.out.2.2 i ?_ ?_⟩
    · rcases hi with (e | e | e) | e <;> omega
    · rcases hi with (e | e | e) | e <;> omega
  case done =>
    intro D W hD hD2 hI hK
    have hs0 := HSW.out
    obtain ⟨v, hbk, hown⟩ := hI.n
    have hlt := hown.lt
    rw [List.take_of_length_le (by omega)] at hown
    obtain ⟨A0, c0, rfl, hc0, _, hr⟩ := hown.reads
    obtain ⟨b, off, u, rfl, hbb, _, _⟩ := rdV_it hr (show 0 < 5 by omega)
    have hcells : ∀ i, i < 5 → W.cell? ⟨b, off + i, none⟩ = some (.int .i64 (zs.getD i 0)) := fun i hi => by
      obtain ⟨b', off', u', e, _, hu, hc⟩ := rdV_it hr hi
      injection e with e
      injection e with e1 e2
      subst e1; subst e2
      rw [List.getElem?_map, Option.map_eq_some_iff] at hu
      obtain ⟨z, hz1, rfl⟩ := hu
      rw [hc, List.getD, hz1]; rfl
    have z0 := hcells 0 (by omega); have z1 := hcells 1 (by omega); have z2 := hcells 2 (by omega); have z3 := hcells 3 (by omega); have z4 := hcells 4 (by omega)
    rw [Nat.add_zero] at z0
    have y0 := hbk.cell 0
    simp at y0
    obtain ⟨a0, ha0⟩ : ∃ a, zs.getD 0 0 = a := ⟨_, rfl⟩
    rw [ha0] at z0
    have HA0 := Lib.hid ha0
    clear ha0
    obtain ⟨a1, ha1⟩ : ∃ a, zs.getD 1 0 = a := ⟨_, rfl⟩
    rw [ha1] at z1
    have HA1 := Lib.hid ha1
    clear ha1
    obtain ⟨a2, ha2⟩ : ∃ a, zs.getD 2 0 = a := ⟨_, rfl⟩
    rw [ha2] at z2
    have HA2 := Lib.hid ha2
    clear ha2
    obtain ⟨a3, ha3⟩ : ∃ a, zs.getD 3 0 = a := ⟨_, rfl⟩
    rw [ha3] at z3
    have HA3 := Lib.hid ha3
    clear ha3
    obtain ⟨a4, ha4⟩ : ∃ a, zs.getD 4 0 = a := ⟨_, rfl⟩
    rw [ha4] at z4
    have HA4 := Lib.hid ha4
    clear ha4
    have HI := Lib.hid hI; have HK := Lib.hid hK
    clear hI hbk hown hr hcells hK hb HWD HCUT
    have k0 := HI.out.r0.cell 0; have k1 := HI.out.r0.cell 1; have k2 := HI.out.r0.cell 2; have k3 := HI.out.r0.cell 3; have k4 := HI.out.r0.cell 4; have k5 := HI.out.r1.cell 0
    have g0 := HI.out.r0.frozen 0; have g1 := HI.out.r0.frozen 1; have g2 := HI.out.r0.frozen 2; have g3 := HI.out.r0.frozen 3; have g4 := HI.out.r0.frozen 4; have g5 := HI.out.r1.frozen 0
    simp at k0 k1 k2 k3 k4 k5
    gi_wp2
    refine wpIn_wide.2 ?_
    go_still_tail 16, (by kernel_rfl)
    change wpList _ _ _ _ _ W.drew
    go_wp2
    generalize hW9 : ((((((W.setCell ⟨w.heap.size, 0, none⟩ (.int .i64 a0)).setCell ⟨w.heap.size, 1, none⟩ (.int .i64 a1)).setCell ⟨w.heap.size, 2, none⟩ (.int .i64 a2)).setCell ⟨w.heap.size, 3, none⟩ (.int .i64 a3)).setCell ⟨w.heap.size, 4, none⟩ (.int .i64 a4)).setCell ⟨w.heap.size + 1, 0, none⟩ .nilIface).drew = W9
    have hb9 : Blk W9 w.heap.size 31 #[.int .i64 a0, .int .i64 a1, .int .i64 a2, .int .i64 a3, .int .i64 a4] := by
      rw [← hW9]
      exact ((((((HI.out.r0.set_ 0 _).set_ 1 _).set_ 2 _).set_ 3 _).set_ 4 _).far (p := ⟨w.heap.size + 1, 0, none⟩) (by simp) _).drew
    have hr9 : Blk W9 (w.heap.size + 1) 25 #[.nilIface] := by
      rw [← hW9]
      have h9 := ((((HI.out.r1.far (p := ⟨w.heap.size, 0, none⟩) (by simp) (.int .i64 a0)).far (p := ⟨w.heap.size, 1, none⟩) (by simp) (.int .i64 a1)).far (p := ⟨w.heap.size, 2, none⟩) (by simp) (.int .i64 a2)).far (p := ⟨w.heap.size, 3, none⟩) (by simp) (.int .i64 a3)).far (p := ⟨w.heap.size, 4, none⟩) (by simp) (.int .i64 a4)
      exact (h9.set_ 0 .nilIface).drew
    have hbl9 : Below w.heap.size w W9 := by
      rw [← hW9]
      have := ((((((HI.out.b.setCell (p := ⟨w.heap.size, 0, none⟩) (Nat.le_refl _) (.int .i64 a0)).setCell (p := ⟨w.heap.size, 1, none⟩) (Nat.le_refl _) (.int .i64 a1)).setCell (p := ⟨w.heap.size, 2, none⟩) (Nat.le_refl _) (.int .i64 a2)).setCell (p := ⟨w.heap.size, 3, none⟩) (Nat.le_refl _) (.int .i64 a3)).setCell (p := ⟨w.heap.size, 4, none⟩) (Nat.le_refl _) (.int .i64 a4)).setCell (p := ⟨w.heap.size + 1, 0, none⟩) (Nat.le_succ _) .nilIface)
      exact bl_drew this
    have hd9 : W9.heap[D]? = some (.deferred (some [])) := by
      rw [← hW9, ← HK.out]
      show ((((((W.setCell ⟨w.heap.size, 0, none⟩ (.int .i64 a0)).setCell ⟨w.heap.size, 1, none⟩ (.int .i64 a1)).setCell ⟨w.heap.size, 2, none⟩ (.int .i64 a2)).setCell ⟨w.heap.size, 3, none⟩ (.int .i64 a3)).setCell ⟨w.heap.size, 4, none⟩ (.int .i64 a4)).setCell ⟨w.heap.size + 1, 0, none⟩ .nilIface).heap[D]? = _
      have hf : ∀ (X : World) (p : Addr) (u : Value), D ≠ p.block → (X.setCell p u).heap[D]? = X.heap[D]? := fun X p u h => Below.heap_setCell X p u D h
      rw [hf _ _ _ (by show D ≠ w.heap.size + 1; omega), hf _ _ _ (by show D ≠ w.heap.size; omega), hf _ _ _ (by show D ≠ w.heap.size; omega), hf _ _ _ (by show D ≠ w.heap.size; omega), hf _ _ _ (by show D ≠ w.heap.size; omega), hf _ _ _ (by show D ≠ w.heap.size; omega)]
    clear hW9 k0 k1 k2 k3 k4 k5 g0 g1 g2 g3 g4 g5 z0 z1 z2 z3 z4 y0
    have hpc : ∀ p : Addr, p.block ≠ D → (W9.putObj D (.deferred none)).cell? p = W9.cell? p := fun p hp => by unfold World.cell?; rw [World.putObj_heap_other hp]
    have r0 := (hpc ⟨w.heap.size, 0, none⟩ (by show w.heap.size ≠ D; omega)).trans (hb9.cell 0)
    have r1 := (hpc ⟨w.heap.size, 1, none⟩ (by show w.heap.size ≠ D; omega)).trans (hb9.cell 1)
    have r2 := (hpc ⟨w.heap.size, 2, none⟩ (by show w.heap.size ≠ D; omega)).trans (hb9.cell 2)
    have r3 := (hpc ⟨w.heap.size, 3, none⟩ (by show w.heap.size ≠ D; omega)).trans (hb9.cell 3)
    have r4 := (hpc ⟨w.heap.size, 4, none⟩ (by show w.heap.size ≠ D; omega)).trans (hb9.cell 4)
    have r5 := (hpc ⟨w.heap.size + 1, 0, none⟩ (by show w.heap.size + 1 ≠ D; omega)).trans (hr9.cell 0)
    simp at r0 r1 r2 r3 r4 r5
    have hbf : Below w.heap.size w (W9.putObj D (.deferred none)) := hbl9.trans ⟨rfl, rfl, rfl, by simp, fun i hi => World.putObj_heap_other (by omega)⟩
    have HBF := Lib.hid hbf; have HD9 := Lib.hid hd9
    clear hb9 hr9 hbl9 hpc hbf hd9 hlt HI HK
    refine wpIn_ret ?_
    refine ⟨by simp, .inl ⟨_, _, rfl, run_takeDeferred HD9.out, ?_⟩⟩
    refine ⟨.tuple #[.agg #[.int .i64 a0, .int .i64 a1, .int .i64 a2, .int .i64 a3, .int .i64 a4], .nilIface], (by simp [results, Tryd.results17, go_sem, r0, r1, r2, r3, r4, r5]), ?_, HBF.out⟩
    rw [HA0.out, HA1.out, HA2.out, HA3.out, HA4.out]
end Go.Proofs.YtdipehgijjkfdaaDoor
