/-
  Texts of this claim, one behind the other: Del, HshPut, HshTake, HshNew, HshNo, HshImp.
-/
import Derived.Test.YtgdijbaodfghjaaGreatDoorZ28
import Derived.Lib.SliceRun
import Derived.Test.YtgdijbaodfghjaaGreatDoorZ24
/-
  slices.DeleteFunc on the turns of flows by a hash: the one that is told is taken out.
-/
namespace Go.Proofs.YtgdijbaodfghjaaGreatDoor
open Go.RowKit Bkt
set_option linter.unusedVariables false

theorem hdel_any (x j : Int) (kb : Nat) (w : World) (hc : w.cell? ⟨kb, 0, none⟩ = some (.int .i64 j)) : Calls Tryz.prog 131 #[.int .i64 x, .pointer (some ⟨kb, 0, none⟩)] w fun e w' => e = .returned (.bool (x == j)) ∧ w' = w := by
  go_enter Tryz.func131, Tryz.ntmps131
  go_wp2_with fail
  go_ret
  exact ⟨rfl, rfl⟩
theorem OwnW.short {w : World} {base e size n c k : Nat} {A : Option Addr} {xs : List Value} (h : OwnW w base e size (.slice A n c) n xs) (hk : k ≤ n) (hn : 1 ≤ n) : OwnW w base e size (.slice A k c) k (xs.take (k * size)) := by
  obtain ⟨h0, ⟨hv, h1⟩ | ⟨g, o, c', cur, hv, hb, hgg, hnc, hm, hs, ht⟩⟩ := h
  · omega
  · injection hv with hA _ hc
    subst hA; subst hc
    have h1 : k * size ≤ n * size := Nat.mul_le_mul_right _ hk
    refine ⟨by rw [List.length_take, h0]; omega, .inr ⟨g, o, c, cur, rfl, hb, hgg, by omega, hm, hs, fun j u hj => ?_⟩⟩
    rw [List.getElem?_take] at hj
    split at hj
    · exact ht j u hj
    · cases hj
theorem OwnW.setI_out {w : World} {base e size n c g o k : Nat} {xs : List Value} {u : Value} (h : OwnW w base e size (.slice (some ⟨g, o, none⟩) n c) n xs) (hk : n * size ≤ k) : OwnW (w.setCell ⟨g, o + k, none⟩ u) base e size (.slice (some ⟨g, o, none⟩) n c) n xs := by
  obtain ⟨h0, ⟨hv, h1⟩ | ⟨g', o', c', cur, hv, hb, hgg, hnc, hm, hs, ht⟩⟩ := h
  · cases hv
  · injection hv with hA _ hc
    injection hA with hA
    injection hA with e1 e2 _
    subst e1 e2 hc
    refine ⟨h0, .inr ⟨g, o, c, _, rfl, hb, hgg.set_ (o + k) u, hnc, hm, by simpa using hs, fun j v hj => ?_⟩⟩
    have hjl : j < n * size := by
      rcases Nat.lt_or_ge j xs.length with h' | h'
      · omega
      · rw [List.getElem?_eq_none h'] at hj; cases hj
    rw [Array.getElem?_setIfInBounds, if_neg (by omega)]
    exact ht j v hj
theorem tnL_get {T : List Nat} {i : Nat} (h : i < T.length) : (tnL T).getD i 0 = ((T.getD i 0 : Nat) : Int) := by
  simp [tnL, List.getD, List.getElem?_eq_getElem h]
set_option maxHeartbeats 1000000 in
theorem hindex_any (base : Nat) (A : Option Addr) (c : Nat) (T1 T2 : List Nat) (j : Nat) (kb : Nat) (w : World) (h : OwnW w base 3 1 (.slice A (T1 ++ j :: T2).length c) (T1 ++ j :: T2).length ((tnL (T1 ++ j :: T2)).flatMap IntR.cells)) (hn : (T1 ++ j :: T2).length ≤ 1000) (hj : j ∉ T1) (hc : w.cell? ⟨kb, 0, none⟩ = some (.int .i64 (j : Int))) :
    Calls Tryz.prog 62 #[.slice A (T1 ++ j :: T2).length c, .func (.func 131) #[] #[.pointer (some ⟨kb, 0, none⟩)]] w fun e w' => e = .returned (.int .i64 (T1.length : Int)) ∧ w' = w := by
  obtain ⟨T, hT⟩ : ∃ T, T = T1 ++ j :: T2 := ⟨_, rfl⟩
  have hl : T.length = T1.length + T2.length + 1 := by rw [hT]; simp; omega
  have hget : ∀ i, i < T1.length → T.getD i 0 ≠ j := fun i hi e => by
    rw [hT, List.getD, List.getElem?_append_left hi, List.getElem?_eq_getElem hi] at e
    exact hj (by rw [← show T1[i] = j from e]; exact List.getElem_mem _)
  have hgj : T.getD T1.length 0 = j := by rw [hT, List.getD, List.getElem?_append_right (Nat.le_refl _)]; simp
  rw [← hT] at h hn ⊢
  have H := Lib.hid h; have HG := Lib.hid hget; have HGJ := Lib.hid hgj; have HL := Lib.hid hl
  clear h hget hgj hT hj
  obtain ⟨n, hnl⟩ : ∃ n, n = T.length := ⟨_, rfl⟩
  rw [← hnl] at hl hn H ⊢
  obtain ⟨n1, hn1⟩ : ∃ n1, n1 = T1.length := ⟨_, rfl⟩
  rw [← hn1] at hl ⊢
  have HN := Lib.hid hnl; have HN1 := Lib.hid hn1
  have hlt1 : n1 < n := by omega
  clear hnl hn1 hl HL
  go_enter Tryz.func62, Tryz.ntmps62
  go_wp2_with fail
  go_loopw [8] (fun i wr => ∃ k : Nat, k ≤ n1 ∧ i = .int .i64 k ∧ wr = w) (fun i _ => n - (intOf i).toNat)
  case atStart => exact ⟨0, Nat.zero_le _, rfl, rfl⟩
  case round =>
    obtain ⟨k, hk, rfl, rfl⟩ := hrel
    obtain ⟨g, o, rfl, hcx, _, _, _⟩ := intR_at H.out (k := k) (by omega)
    rw [tnL_get (by have := HN.out; omega)] at hcx
    have ik : (k : Int) < (n : Int) := by omega
    have hp := hdel_any ((T.getD k 0 : Nat) : Int) (j : Int) kb wr hc
    by_cases e : k = n1
    · have e2 : T.getD k 0 = j := by rw [e, HN1.out]; exact HGJ.out
      rw [e2] at hp hcx
      have t1 : ((j : Int) == (j : Int)) = true := by simp
      have HP := Lib.hid hp
      clear hp e2
      subst e
      go_wp2_with (go_at_call 131; (with_reducible refine HP.out.mono ?_); rintro e w' ⟨rfl, rfl⟩)
      go_ret
      exact ⟨rfl, rfl⟩
    · have e2 := HG.out k (by have := HN1.out; omega)
      have t1 : (((T.getD k 0 : Nat) : Int) == (j : Int)) = false := by rw [beq_eq_false_iff_ne]; omega
      generalize ((T.getD k 0 : Nat) : Int) = y at *
      have HP := Lib.hid hp
      clear hp e2
      go_wp2_with (go_at_call 131; (with_reducible refine HP.out.mono ?_); rintro e w' ⟨rfl, rfl⟩)
      exact ⟨⟨k + 1, by omega, by go_num, by first | rfl | trivial⟩, by simp [intOf]; omega⟩

theorem run_tailQ {P : Program} {t e : TypeId} {i : TypeInfo} (ht : P.underlying t = some (.slice e)) (hi : P.info? e = some i) (hs : i.size = 1) (g off n c k : Nat) (hk : k ≤ n) (hc : k < c) :
    ∀ w, (Instr.sliceAt t (.slice (some ⟨g, off, none⟩) n c) (some (.int .i64 (k : Int))) none none).run P w = .ok (.slice (some ⟨g, off + k, none⟩) (n - k) (c - k)) w := fun w => by
  have he : P.elem t = e := by simp [Program.elem, ht]
  have ht' : P.underlying t = some (.slice (P.elem t)) := by rw [he]; exact ht
  rw [run_sliceAt_slice w t _ _ _ _ ht', run_slice_l w t (some ⟨g, off, none⟩) n c ht' .i64 (k : Int) (by omega) (by omega), he]
  have hne : c ≠ k := by omega
  simp [sizeOf, typeInfo, hi, hs, Result.andThen, sliced, Addr.add, hne]
theorem run_headQ {P : Program} {t e : TypeId} {i : TypeInfo} (ht : P.underlying t = some (.slice e)) (hi : P.info? e = some i) (hs : i.size = 1) (g off n c k : Nat) (hk : k ≤ c) :
    ∀ w, (Instr.sliceAt t (.slice (some ⟨g, off, none⟩) n c) none (some (.int .i64 (k : Int))) none).run P w = .ok (.slice (some ⟨g, off, none⟩) k c) w := fun w => by
  have he : P.elem t = e := by simp [Program.elem, ht]
  have ht' : P.underlying t = some (.slice (P.elem t)) := by rw [he]; exact ht
  rw [run_sliceAt_slice w t _ _ _ _ ht', run_slice_h w t (some ⟨g, off, none⟩) n c ht' .i64 (k : Int) (by omega) (by omega), he]
  simp [sizeOf, typeInfo, hi, hs, Result.andThen, sliced, Addr.add]
theorem run_clear1 (g off c : Nat) (ty : TypeId) (w : World) (h : (w.cell? ⟨g, off, none⟩).isSome = true) (hf : w.frozen? ⟨g, off, none⟩ = false) :
    (Builtin.clear_ #[26] ty #[.slice (some ⟨g, off, none⟩) 1 c]).run Tryz.prog w = .ok (.tuple #[]) (w.setCell ⟨g, off, none⟩ (.int .i64 0)) := by
  have h1 : ∀ j, j < 1 → (w.cell? ⟨g, off + j, none⟩).isSome = true := fun j hj => by
    obtain rfl : j = 0 := by omega
    exact h
  have h2 : ∀ j, j < 1 → w.frozen? ⟨g, off + j, none⟩ = false := fun j hj => by
    obtain rfl : j = 0 := by omega
    exact hf
  have := Go.Lib.run_clear_slice (P := Tryz.prog) w 26 3 ty (.int .i64 0) Tryz.underlying26 (fun w => by kernel_rfl) rfl rfl g off 1 c (by omega) h1 h2
  exact this

def delL (T1 T2 : List Nat) (m : Nat) (y : Int) : List Int := tnL (T1 ++ T2.take m) ++ [y] ++ tnL (T2.drop m)
theorem delL_start (T1 T2 : List Nat) (j : Nat) : tnL (T1 ++ j :: T2) = delL T1 T2 0 (j : Int) := by simp [delL, tnL]
theorem delL_end (T1 T2 : List Nat) (y : Int) : delL T1 T2 T2.length y = tnL (T1 ++ T2) ++ [y] := by simp [delL, tnL]
theorem delL_get {T1 T2 : List Nat} {m : Nat} (h : m < T2.length) (y : Int) : (delL T1 T2 m y).getD (T1.length + m + 1) 0 = ((T2.getD m 0 : Nat) : Int) := by
  have hl : (tnL (T1 ++ T2.take m) ++ [y]).length = T1.length + m + 1 := by simp [tnL]; omega
  unfold delL
  rw [List.getD, List.getElem?_append_right (by omega), hl, Nat.sub_self]
  simp [tnL, List.getD, List.getElem?_eq_getElem h]
theorem delL_set {T1 T2 : List Nat} {m : Nat} (h : m < T2.length) (y : Int) : (delL T1 T2 m y).set (T1.length + m) ((T2.getD m 0 : Nat) : Int) = delL T1 T2 (m + 1) ((T2.getD m 0 : Nat) : Int) := by
  have hl : (tnL (T1 ++ T2.take m)).length = T1.length + m := by simp [tnL]; omega
  have hd : T2.drop m = T2.getD m 0 :: T2.drop (m + 1) := by
    rw [List.drop_eq_getElem_cons h]
    simp [List.getD, List.getElem?_eq_getElem h]
  have ht : T2.take (m + 1) = T2.take m ++ [T2.getD m 0] := by
    rw [List.take_add_one]
    simp [List.getD, List.getElem?_eq_getElem h]
  unfold delL
  rw [List.append_assoc, List.set_append_right _ _ (by omega), hl, Nat.sub_self, hd, ht]
  simp [tnL]
theorem Chg.grown {w w' : World} {g : Nat} (h : Chg w w' (fun i => i = g)) : w.grownBy w' (some g) := ⟨h.os, h.tape, h.output, h.size, fun i hi hne => h.block i hi fun e => hne (by rw [e])⟩
set_option maxHeartbeats 2000000 in
set_option maxRecDepth 100000 in
theorem hdelete_any (base g o c n : Nat) (T1 T2 : List Nat) (j : Nat) (kb : Nat) (w : World) (hnl : n = (T1 ++ j :: T2).length) (h : OwnW w base 3 1 (.slice (some ⟨g, o, none⟩) n c) n ((tnL (T1 ++ j :: T2)).flatMap IntR.cells)) (hn : n ≤ 1000) (hj1 : j ∉ T1) (hj2 : j ∉ T2)
    (hc : w.cell? ⟨kb, 0, none⟩ = some (.int .i64 (j : Int))) (hkl : kb < w.heap.size) (hkb : kb ≠ g) :
    Calls Tryz.prog 130 #[.slice (some ⟨g, o, none⟩) n c, .func (.func 131) #[] #[.pointer (some ⟨kb, 0, none⟩)]] w
      fun e w' => e = .returned (.slice (some ⟨g, o, none⟩) (T1 ++ T2).length c) ∧ OwnW w' base 3 1 (.slice (some ⟨g, o, none⟩) (T1 ++ T2).length c) (T1 ++ T2).length ((tnL (T1 ++ T2)).flatMap IntR.cells) ∧ w.grownBy w' (some g) := by
  have hix := hindex_any base (some ⟨g, o, none⟩) c T1 T2 j kb w (by rw [← hnl]; exact h) (by omega) hj1 hc
  rw [← hnl] at hix
  have hcn : n ≤ c := by
    rcases h.2 with ⟨e, _⟩ | ⟨_, _, _, _, e, _, _, hcc, _⟩
    · cases e
    · injection e with _ _ e3; omega
  rw [delL_start] at h
  have hl : n = T1.length + T2.length + 1 := by rw [hnl]; simp; omega
  have HIX := Lib.hid hix; have H := Lib.hid h
  have hne : ∀ m, m < T2.length → ((((T2.getD m 0 : Nat) : Int)) == (j : Int)) = false := fun m hm => by
    rw [beq_eq_false_iff_ne]
    intro e
    have e2 : T2.getD m 0 = j := by omega
    rw [List.getD, List.getElem?_eq_getElem hm] at e2
    exact hj2 (by rw [← show T2[m] = j from e2]; exact List.getElem_mem _)
  have HNE := Lib.hid hne
  have hl12 : (T1 ++ T2).length = T1.length + T2.length := by simp
  rw [hl12]
  obtain ⟨i0, hi, hz0, hz1, hz2⟩ := info_parts Tryz.intInfo
  obtain ⟨n1, hn1⟩ : ∃ n1, n1 = T1.length := ⟨_, rfl⟩
  obtain ⟨n2, hn2⟩ : ∃ n2, n2 = T2.length := ⟨_, rfl⟩
  have hset := fun m (hm : m < n2) y => delL_set (T1 := T1) (T2 := T2) (m := m) (by omega) y
  have hget := fun m (hm : m < n2) y => delL_get (T1 := T1) (T2 := T2) (m := m) (by omega) y
  rw [← hn1] at hset hget HIX hl
  rw [← hn2] at HNE hl
  rw [← hn1, ← hn2]
  have HSET := Lib.hid hset; have HGET := Lib.hid hget; have HN1 := Lib.hid hn1; have HN2 := Lib.hid hn2
  have hnn : n1 < n := by omega
  have HLN := Lib.hid hl
  clear hix h hne hl12 hset hget hn1 hn2 hj1 hj2 hnl hl
  go_enter Tryz.func130, Tryz.ntmps130
  have t0 : ((n1 : Int) == -1) = false := by rw [beq_eq_false_iff_ne]; omega
  have e1 : IntKind.i64.wrap ((n1 : Int) + 1) = (n1 : Int) + 1 := IntWalk.i64_in _ (by omega)
  go_wp2_with (go_at_call 62; (with_reducible refine HIX.out.mono ?_); rintro e w' ⟨rfl, rfl⟩)
  go_loopw [5, 6] (fun i jj wr => ∃ (m : Nat) (y : Int), m ≤ n2 ∧ i = .int .i64 ((n1 + m : Nat) : Int) ∧ jj = .int .i64 ((n1 + m : Nat) + 1 : Int) ∧ OwnW wr base 3 1 (.slice (some ⟨g, o, none⟩) n c) n ((delL T1 T2 m y).flatMap IntR.cells) ∧ Chg w' wr (fun i => i = g)) (fun _ jj _ => n - (intOf jj).toNat)
  case atStart => exact ⟨0, j, Nat.zero_le _, rfl, rfl, H.out, Chg.refl _ _⟩
  case round =>
    obtain ⟨m, y, hm, rfl, rfl, hown, hch⟩ := hrel
    have HOWN := Lib.hid hown; have HCH := Lib.hid hch
    clear hown hch H
    by_cases hlt : m < n2
    · obtain ⟨g', o', e, hcx, hfx, hgl, _⟩ := intR_at HOWN.out (k := n1 + m + 1) (by have := HLN.out; omega)
      injection e with e; injection e with e2 e3
      subst e2 e3
      rw [HGET.out m hlt] at hcx
      obtain ⟨_, _, e, hcy, hfy, _, _⟩ := intR_at HOWN.out (k := n1 + m) (by have := HLN.out; omega)
      injection e with e; injection e with e2 e3
      subst e2 e3
      have t1 := HNE.out m hlt
      have hset := HSET.out m hlt y
      have hown2 := HOWN.out.setI (k := n1 + m) (by have := HLN.out; omega) ((T2.getD m 0 : Nat) : Int)
      rw [hset] at hown2
      have hch2 := HCH.out.setCell (p := ⟨g, o + (n1 + m), none⟩) (fun _ => rfl) (.int .i64 ((T2.getD m 0 : Nat) : Int))
      have hck : wr.cell? ⟨kb, 0, none⟩ = some (.int .i64 (j : Int)) := (HCH.out.cell (p := ⟨kb, 0, none⟩) hkl hkb).trans hc
      have hp := hdel_any ((T2.getD m 0 : Nat) : Int) (j : Int) kb wr hck
      have HOWN2 := Lib.hid hown2; have HCH2 := Lib.hid hch2
      generalize ((T2.getD m 0 : Nat) : Int) = v at *
      have HP := Lib.hid hp
      have hn12 : n1 + m + 1 < n := by have := HLN.out; omega
      clear hset hown2 hch2 hck hp HCH HOWN
      generalize hu : n1 + m = u at *
      have HU := Lib.hid hu
      clear hu
      have iu : (u : Int) + 1 < (n : Int) := by omega
      have e5 : IntKind.i64.wrap ((u : Int) + 1) = (u : Int) + 1 := IntWalk.i64_in _ (by omega)
      have e6 : IntKind.i64.wrap ((u : Int) + 1 + 1) = (u : Int) + 1 + 1 := IntWalk.i64_in _ (by omega)
      have hcx' : wr.cell? ⟨g, o + (u + 1), none⟩ = some (.int .i64 v) := hcx
      clear hcx
      go_wp2_with (go_at_call 131; (with_reducible refine HP.out.mono ?_); rintro e w'' ⟨rfl, rfl⟩)
      exact ⟨⟨m + 1, v, by omega, by congr 1; have := HU.out; omega, by congr 1; have := HU.out; omega, HOWN2.out, HCH2.out⟩, by simp [intOf]; omega⟩
    · obtain rfl : n2 = m := by omega
      obtain ⟨g', o', e, hcx, hfx, hgl, _⟩ := intR_at HOWN.out (k := n1 + n2) (by have := HLN.out; omega)
      injection e with e; injection e with e2 e3
      subst e2 e3
      have hown := HOWN.out
      rw [HN2.out, delL_end] at hown
      have hln : (T1 ++ T2).length = n1 + n2 := by simp [HN1.out, HN2.out]
      have hsh := (OwnW.short (k := n1 + n2) hown (by have := HLN.out; omega) (by have := HLN.out; omega))
      have hel : (((tnL (T1 ++ T2) ++ [y]).flatMap IntR.cells).take ((n1 + n2) * 1)) = (tnL (T1 ++ T2)).flatMap IntR.cells := by
        rw [List.flatMap_append]
        have hl : ((tnL (T1 ++ T2)).flatMap IntR.cells).length = (n1 + n2) * 1 := by
          have := flatR_len (R := IntR) (tnL (T1 ++ T2))
          rw [this, tnL_len, hln]
          rfl
        rw [← hl, List.take_left]
      rw [hel] at hsh
      have hfin := hsh.setI_out (u := .int .i64 0) (k := n1 + n2) (by omega)
      have hch2 := HCH.out.setCell (p := ⟨g, o + (n1 + n2), none⟩) (fun _ => rfl) (.int .i64 0)
      have hgr := hch2.grown
      have hnn2 : n - (n1 + n2) = 1 := by have := HLN.out; omega
      have hs1 := run_tailQ (P := Tryz.prog) Tryz.underlying26 hi hz1 g o n c (n1 + n2) (by have := HLN.out; omega) (by have := HLN.out; omega)
      have hs2 := run_headQ (P := Tryz.prog) Tryz.underlying26 hi hz1 g o n c (n1 + n2) (by have := HLN.out; omega)
      have hcl := fun ty c' => run_clear1 g (o + (n1 + n2)) c' ty wr (by rw [hcx]; rfl) hfx
      rw [hnn2] at hs1
      have HFIN := Lib.hid hfin; have HGR := Lib.hid hgr
      have hov : (n : Int) ≤ ((n1 + n2 : Nat) : Int) + 1 := by have := HLN.out; omega
      have tt : (((n1 + n2 : Nat) : Int) + 1 < (n : Int)) = False := by simp; omega
      clear hown hsh hel hfin hch2 hgr hcx hfx HOWN HCH hnn2 hln
      generalize hu : n1 + n2 = u at *
      have HU := Lib.hid hu
      clear hu
      go_wp2_with fail
      go_ret
      rw [HU.out]
      exact ⟨rfl, HFIN.out, HGR.out⟩
end Go.Proofs.YtgdijbaodfghjaaGreatDoor

/-
  Flows that are put together by a hash, in memory: Put.
-/
namespace Go.Proofs.YtgdijbaodfghjaaGreatDoor
open Go.RowKit Bkt
set_option linter.unusedVariables false

def HshPutOut (w : World) (base g gl : Nat) (V : Nat → Value) (tv : Value) (P : Pl.HP) (R : List Hd × Pl.HS) (e : Ending) (w' : World) : Prop :=
  ∃ (A : Option Addr) (c : Nat) (cs' ls' : Array Value) (V' : Nat → Value) (tv' : Value),
    e = .returned (.slice A R.1.length c) ∧ RdR HdR w' w'.heap.size A R.1.length R.1 ∧ (∀ ad, A = some ad → w.heap.size ≤ ad.block) ∧
    Hsh w' base g gl cs' ls' V' tv' P R.2 (Pl.waitH P.m R.2).length ∧ HTrn w w' g gl P.m V tv V' tv'
structure HMid (w wr : World) (base g gl kx : Nat) (V : Nat → Value) (tv : Value) (P : Pl.HP) (x : Hd) (s : Pl.HS) (n : Int) (cs ls : Array Value) (V' : Nat → Value) (tv' : Value) : Prop where
  h : Hsh wr base g gl cs ls V' tv' P s n
  t : HTrn w wr g gl P.m V tv V' tv'
  k : Blk wr kx 78 #[.int .i64 x.it.at_, .int .i64 x.it.len, .int .i64 x.it.flow, .int .i64 x.it.band, .int .i64 x.it.mark, .int .i64 x.num]
  kn : ¬ HF P.m V' tv' kx
section
variable {w wr w' : World} {base g gl kx : Nat} {V V' : Nat → Value} {tv tv' tv'' : Value} {P : Pl.HP} {x : Hd} {s : Pl.HS} {n : Int} {cs ls : Array Value}
theorem HMid.below (h : HMid w wr base g gl kx V tv P x s n cs ls V' tv') (hb : Below wr.heap.size wr w') : HMid w w' base g gl kx V tv P x s n cs ls V' tv' := ⟨h.h.below hb, h.t.below hb, h.k.below hb h.k.lt, h.kn⟩
theorem HMid.drew (h : HMid w wr base g gl kx V tv P x s n cs ls V' tv') : HMid w wr.drew base g gl kx V tv P x s n cs ls V' tv' := h.below (bl_drew (Below.refl _ _))
theorem HMid.kg (h : HMid w wr base g gl kx V tv P x s n cs ls V' tv') : kx ≠ g ∧ kx ≠ gl := ⟨fun e => Blk.ne_ (e ▸ h.k) h.h.blk (by decide) rfl, fun e => Blk.ne_ (e ▸ h.k) h.h.lk (by decide) rfl⟩
theorem HMid.setM (h : HMid w wr base g gl kx V tv P x s n cs ls V' tv') (y : Int) : HMid w (wr.setCell ⟨g, 4, none⟩ (.int .i64 y)) base g gl kx V tv P x s y (cs.setIfInBounds 4 (.int .i64 y)) ls V' tv' :=
  ⟨h.h.setM y, h.t.set_ 4 _, h.k.far (p := ⟨g, 4, none⟩) h.kg.1 _, h.kn⟩
theorem HMid.setT (h : HMid w wr base g gl kx V tv P x s n cs ls V' tv') {w1 : World} {T' : List Nat} (hg : wr.grownBy w1 tv'.ownBlock) (ho : OwnW w1 base 3 1 tv'' T'.length ((tnL T').flatMap IntR.cells)) (hat : tv''.ownBlock = tv'.ownBlock ∨ ∀ k, tv''.ownBlock = some k → wr.heap.size ≤ k) :
    HMid w (w1.setCell ⟨g, 3, none⟩ tv'') base g gl kx V tv P x ⟨s.L, T'⟩ n (cs.setIfInBounds 3 tv'') ls V' tv'' := by
  obtain ⟨h1, h2⟩ := h.h.setT hg ho hat
  have hc : Chg wr w1 (fun i => tv'.ownBlock = some i) := Chg.of_grown hg (fun i e => e.symm)
  exact ⟨h1, h.t.trans h2, (h.k.chg hc (fun e => h.kn (.inl e))).far (p := ⟨g, 3, none⟩) h.kg.1 _, fun e => (h2.at_ _ e).elim h.kn (fun e => by have := h.k.lt; omega)⟩
theorem HMid.setKb (h : HMid w wr base g gl kx V tv P x s n cs ls V' tv') {p : Addr} (hp : p.block ≠ g) (hp2 : p.block ≠ gl) (hv : ¬ HF P.m V' tv' p.block) (hk : kx ≠ p.block) (hw : w.heap.size ≤ p.block) (u : Value) : HMid w (wr.setCell p u) base g gl kx V tv P x s n cs ls V' tv' :=
  ⟨h.h.setNew hp hp2 hv u, h.t.setNew hw u, h.k.far hk u, h.kn⟩
theorem HMid.six (h : HMid w wr base g gl kx V tv P x s n cs ls V' tv') {b : Nat} (hp : b ≠ g) (hp2 : b ≠ gl) (hv : ¬ HF P.m V' tv' b) (hk : kx ≠ b) (hw : w.heap.size ≤ b) (u0 u1 u2 u3 u4 u5 : Value) :
    HMid w ((((((wr.setCell ⟨b, 0, none⟩ u0).setCell ⟨b, 1, none⟩ u1).setCell ⟨b, 2, none⟩ u2).setCell ⟨b, 3, none⟩ u3).setCell ⟨b, 4, none⟩ u4).setCell ⟨b, 5, none⟩ u5) base g gl kx V tv P x s n cs ls V' tv' :=
  (((((h.setKb (p := ⟨b, 0, none⟩) hp hp2 hv hk hw u0).setKb (p := ⟨b, 1, none⟩) hp hp2 hv hk hw u1).setKb (p := ⟨b, 2, none⟩) hp hp2 hv hk hw u2).setKb (p := ⟨b, 3, none⟩) hp hp2 hv hk hw u3).setKb (p := ⟨b, 4, none⟩) hp hp2 hv hk hw u4).setKb (p := ⟨b, 5, none⟩) hp hp2 hv hk hw u5
theorem HMid.of_lst (h : HMid w wr base g gl kx V tv P x s n cs ls V' tv') {f : Nat} (hf : f < P.m) {v' : Value} {l' : List Hd} {b' : Int} (h' : LstTo wr w' base gl (f * 2) 90 ls (V' f) v' l' b') (e : b' = Pl.tot l') :
    ∃ ls', HMid w w' base g gl kx V tv P x ⟨Pl.updf s.L f l', s.T⟩ n cs ls' (Pl.updf V' f v') tv' := by
  obtain ⟨ls', h1, h2⟩ := h.h.of_lst hf h' e
  refine ⟨ls', h1, h.t.trans h2, h.k.chg h2.chg ?_, fun e => (h2.at_ _ e).elim h.kn (fun e => by have := h.k.lt; omega)⟩
  rintro (e | e | e)
  · exact h.kg.1 e
  · exact h.kg.2 e
  · exact h.kn e
end

set_option maxHeartbeats 8000000 in
set_option maxRecDepth 100000 in
theorem hshPut_any (base g gl : Nat) (cs ls : Array Value) (V : Nat → Value) (tv : Value) (P : Pl.HP) (s : Pl.HS) (now : Int) (x : Hd) (w : World) (h : Hsh w base g gl cs ls V tv P s (Pl.waitH P.m s).length) (hi : Pl.HI P s) (hP : Pl.HPOk P) (hx : Pl.okB x.it = true)
    (hbase : base ≤ w.heap.size) (hl : ∀ f, f < P.m → HdsOk (s.L f)) (hn : (Pl.waitH P.m s).length ≤ 999) (hT : s.T.length ≤ 900) :
    Calls Tryz.prog 125 #[.pointer (some ⟨g, 0, none⟩), .int .i64 now, hdV x] w (HshPutOut w base g gl V tv P (Pl.putH P x s)) := by
  have hb0 : Below w.heap.size w (w.alloc (.cells #[.int .i64 x.it.at_, .int .i64 x.it.len, .int .i64 x.it.flow, .int .i64 x.it.band, .int .i64 x.it.mark, .int .i64 x.num] 78)) := (Below.refl _ _).alloc (Nat.le_refl _) _
  have hfi := okB_fine.1 hx
  have hfl := hfi.f2
  have hm64 := hP.m.2
  have hxl := okB_len hx
  obtain ⟨k, hk⟩ : ∃ k, k = Pl.whr P x.it.flow := ⟨_, rfl⟩
  have hkm : k < P.m := by rw [hk]; exact Pl.whr_lt hP _
  have hm0 : HMid w (w.alloc (.cells #[.int .i64 x.it.at_, .int .i64 x.it.len, .int .i64 x.it.flow, .int .i64 x.it.band, .int .i64 x.it.mark, .int .i64 x.num] 78)) base g gl w.heap.size V tv P x s (Pl.waitH P.m s).length cs ls V tv :=
    ⟨h.below hb0, (HTrn.refl _ _ _ _ _ _).below hb0, Blk.new _ _ _, fun e => by have := (h.rlt _ e).2; omega⟩
  have hwa := (Pl.wait_add hkm x s).length_eq
  rw [List.length_append, List.length_singleton] at hwa
  have hpo := (Pl.putH_ok hP hi hx).ways
  have hadd := hi.h.add hP hx
  rw [← hk] at hpo hadd
  have HM0 := Lib.hid hm0; have HL := Lib.hid hl; have HPO := Lib.hid hpo; have HAD := Lib.hid hadd; have HK := Lib.hid hk
  have hwhere := fun W nn cs' (hh : Hsh W base g gl cs' ls V tv P s nn) => hshWhere_any base g gl cs' ls V tv P s nn x.it.flow W hh hP (by omega)
  rw [← hk] at hwhere
  have HWH := Lib.hid hwhere
  obtain ⟨n, hnn⟩ : ∃ n, n = (Pl.waitH P.m s).length := ⟨_, rfl⟩
  rw [← hnn] at hn hwa HM0
  obtain ⟨hxl0, hxl1⟩ := hxl
  clear h hi hx hfi hfl hwhere hpo hm0 hk hl hb0 hnn hP hadd
  obtain ⟨s1, hs1⟩ : ∃ s1, s1 = Pl.addH k x s := ⟨_, rfl⟩
  have HS1 := Lib.hid hs1
  clear hs1
  obtain ⟨⟨xa, xl, xf, xb, xm⟩, xn⟩ := x
  unfold hdV
  dsimp only at HM0 HWH hxl0 hxl1 ⊢
  go_enter Tryz.func125, Tryz.ntmps125
  go_upto_region 1 with fail
  generalize w.alloc (.cells #[.int .i64 xa, .int .i64 xl, .int .i64 xf, .int .i64 xb, .int .i64 xm, .int .i64 xn] 78) = W at *
  obtain ⟨t0, t1, t2, t3, t4, t5, _, _, _, _, _, _⟩ := blk6 HM0.out.k
  have hwc := HWH.out _ _ _ HM0.out.h
  have HWC := Lib.hid hwc
  clear hwc
  go_upto_region 2 with (go_at_call 128; (with_reducible refine HWC.out.mono ?_); rintro e w1 ⟨rfl, q, rfl⟩)
  have hm1 := HM0.out.below (bl_drewN (n := q) (Below.refl _ _))
  have HM1 := Lib.hid hm1
  have hkl := HM0.out.k.lt
  clear hm1 t0 t1 t2 t3 t4 t5 HM0 HWC HWH
  have hkl : w.heap.size < (W.drewN q).heap.size := hkl
  generalize W.drewN q = W1 at *
  have ikm : (k : Int) < (P.m : Int) := by omega
  have y0 := HM1.out.h.cell HM1.out.h.c0
  have y3 := HM1.out.h.cell HM1.out.h.c3
  have x3 := HM1.out.h.blk.frozen 3
  obtain ⟨Ak, ck, hvk, _, _, _⟩ := (HM1.out.h.own k hkm).reads
  have yk := HM1.out.h.lcell (HM1.out.h.l0 k hkm)
  rw [hvk] at yk
  have hlq := len_q gl (k * 2) (s.L k).length ck Ak W1 yk
  have HLQ := Lib.hid hlq
  obtain ⟨At, ct, hvt, _, _, _⟩ := HM1.out.h.tn.reads
  rw [hvt] at y3
  have HVT := Lib.hid hvt
  have hszW : base ≤ W1.heap.size := by omega
  have hglt := HM1.out.h.blk.lt
  clear hlq hvk hvt yk
  obtain ⟨len, hlen⟩ : ∃ len, len = (s.L k).length := ⟨_, rfl⟩
  rw [← hlen] at HLQ
  have HLEN := Lib.hid hlen
  clear hlen
  go_upto_if 24 with (go_at_call 108; (with_reducible refine HLQ.out.mono ?_); rintro e w2 ⟨rfl, rfl⟩)
  go_cut [] from 12 to 34 (fun wx => ∃ (cs1 : Array Value) (tv1 : Value), HMid w wx base g gl w.heap.size V tv P ⟨⟨xa, xl, xf, xb, xm⟩, xn⟩ ⟨s.L, if (s.L k).length = 0 then s.T ++ [k] else s.T⟩ n cs1 ls V tv1)
  case first =>
    by_cases h0 : len = 0
    · have t0 : ((len : Int) == 0) = true := by rw [h0]; rfl
      have hT1 : (if (s.L k).length = 0 then s.T ++ [k] else s.T) = s.T ++ [k] := if_pos (by have := HLEN.out; omega)
      have HT1 := Lib.hid hT1
      have hown2 : OwnW w2 base 3 IntR.sz (.slice At s.T.length ct) s.T.length ((tnL s.T).flatMap IntR.cells) := by rw [← HVT.out]; exact HM1.out.h.tn
      have HOWN := Lib.hid hown2
      have hgN : g ≠ w2.heap.size := by omega
      clear hT1 hown2
      go_wp2_with (at_builtin; go_must (refine wpList_addW IntR rfl (.tmp 29) (.tmp 31) _ base 3 _ 8 Tryz.underlying26 Tryz.intRInfo rfl rfl _ s.T.length (tnL s.T) (k : Int) _ HOWN.out rfl rfl (by show Value.slice (some ⟨w2.heap.size, 0, none⟩) 1 1 = _; simp) (int_one _) (by omega) (by omega) (by omega) ?_); intro v8 w8 h1 h2 h3; rw [← HVT.out] at h2 h3; have hc8 : Chg w2 w8 (fun i => tv.ownBlock = some i) := Chg.of_grown h2 (fun i e => e.symm); have hb8 := HM1.out.h.blk.chg hc8 (fun e => (HM1.out.h.rne g (.inl e)).1 rfl); have z3 := (hb8.cell 3).trans HM1.out.h.c3; have x3' := hb8.frozen 3; obtain ⟨A8, c8, hv8, _, _, _⟩ := h1.reads; subst hv8; have H81 := Lib.hid h1; have H82 := Lib.hid h2; have H83 := Lib.hid h3; clear h1 h2 h3 hb8)
      go_meet
      case rel =>
        rw [HT1.out]
        exact ⟨_, _, HM1.out.setT (T' := s.T ++ [k]) H82.out (by rw [tnL_app, List.length_append]; exact H81.out) (H83.out.imp id fun h k hk => Nat.le_of_lt (h k hk))⟩
    · have t0 : ((len : Int) == 0) = false := by simp; omega
      have hT1 : (if (s.L k).length = 0 then s.T ++ [k] else s.T) = s.T := if_neg (by have := HLEN.out; omega)
      have HT1 := Lib.hid hT1
      clear hT1
      go_wp2_with fail
      go_meet
      case rel =>
        rw [HT1.out]
        exact ⟨cs, tv, HM1.out⟩
  case rest =>
    obtain ⟨cs1, tv1, hm2⟩ := hcut
    have HM2 := Lib.hid hm2
    clear hm2 y0 y3 x3 HM1 HLQ HVT
    go_upto_region 4 with fail
    have y0 := HM2.out.h.cell HM2.out.h.c0
    obtain ⟨t0, t1, t2, t3, t4, t5, _, _, _, _, _, _⟩ := blk6 HM2.out.k
    have hlst := HM2.out.drew.h.lst hkm
    have hlk := HL.out k hkm
    obtain ⟨htot0, htot1⟩ := hlk.tot
    have hszc := HM2.out.t.chg.size
    have hadd := add_any base gl (k * 2) 90 ls (V k) (s.L k) (Pl.tot (s.L k)) ⟨⟨xa, xl, xf, xb, xm⟩, xn⟩ wc.drew hlst (by show base ≤ wc.heap.size; omega) hlk.n htot0 (by omega) hxl0 (by simp only []; omega)
    unfold hdV at hadd
    dsimp only at hadd
    have HADD := Lib.hid hadd
    clear hadd hlst hlk
    go_still_tail 7, (by kernel_rfl)
    change wpList _ _ _ _ _ wc.drew
    go_upto_region 5 with (go_at_call 112; (with_reducible refine HADD.out.mono ?_); rintro e w5 ⟨rfl, v5, h5⟩; have H5 := Lib.hid h5; clear h5)
    obtain ⟨ls5, hm5⟩ := HM2.out.drew.of_lst hkm H5.out (Pl.tot_snoc (s.L k) ⟨⟨xa, xl, xf, xb, xm⟩, xn⟩).symm
    have hs1 : (⟨Pl.updf s.L k (s.L k ++ [⟨⟨xa, xl, xf, xb, xm⟩, xn⟩]), if (s.L k).length = 0 then s.T ++ [k] else s.T⟩ : Pl.HS) = s1 := HS1.out.symm
    have hm5' : HMid w w5 base g gl w.heap.size V tv P ⟨⟨xa, xl, xf, xb, xm⟩, xn⟩ s1 n cs1 ls5 (Pl.updf V k v5) tv1 := by rw [← hs1]; exact hm5
    have HM5 := Lib.hid hm5'
    clear hm5 hm5' hs1 HM2 H5 HADD y0 t0 t1 t2 t3 t4 t5
    generalize Pl.updf V k v5 = V5 at *
    have y4 := HM5.out.h.cell HM5.out.h.c4
    have x4 := HM5.out.h.blk.frozen 4
    have e4 : IntKind.i64.wrap ((n : Int) + 1) = (n : Int) + 1 := IntWalk.i64_in _ (by omega)
    have hm6 := HM5.out.setM ((n : Int) + 1)
    have HM6 := Lib.hid hm6
    clear hm6 HM5
    go_upto_region 6 with fail
    clear y4 x4 e4
    generalize w5.setCell ⟨g, 4, none⟩ (.int .i64 ((n : Int) + 1)) = w6 at *
    have y4 := HM6.out.h.cell HM6.out.h.c4
    have y2 := HM6.out.h.cell HM6.out.h.c2
    go_quiet (fail)
    have HM7 := Lib.hid (HM6.out.below (bl_drewN (n := nq) (Below.refl _ _)))
    clear y4 y2 HM6
    generalize w6.drewN nq = w7 at *
    have hwn : (Pl.waitH P.m s1).length = n + 1 := by rw [HS1.out]; exact hwa.symm
    by_cases hrm : (n : Int) + 1 ≤ P.room
    · have tr : decide ((n : Int) + 1 ≤ P.room) = true := by simpa using hrm
      have hR : Pl.putH P ⟨⟨xa, xl, xf, xb, xm⟩, xn⟩ s = ([], s1) := by
        rcases HPO.out with ⟨_, e⟩ | ⟨c, _⟩
        · rw [e, HS1.out]
        · exact absurd c (by rw [← hwa]; omega)
      have HR := Lib.hid hR; have HWN := Lib.hid hwn
      clear hR hwn
      go_wp2_with fail
      go_ret
      refine ⟨none, 0, cs1.setIfInBounds 4 (.int .i64 ((n : Int) + 1)), ls5, V5, tv1, ?_⟩
      rw [HR.out]
      refine ⟨rfl, Reads.none_, fun ad e => (by cases e), ?_, HM7.out.t⟩
      have := HM7.out.h
      rw [HWN.out]
      exact this
    · have tr : decide ((n : Int) + 1 ≤ P.room) = false := by simpa using hrm
      have hw' : (∃ l y, Pl.lngTo s1.L P.m < P.m ∧ s1.L (Pl.lngTo s1.L P.m) = l ++ [y] ∧ Pl.putH P ⟨⟨xa, xl, xf, xb, xm⟩, xn⟩ s = ([y], Pl.cutH (Pl.lngTo s1.L P.m) s1)) := by
        rcases HPO.out with ⟨c, _⟩ | ⟨_, hj, l, y, h1, h2⟩
        · exact absurd c (by rw [← hwa]; omega)
        · rw [HS1.out]; exact ⟨l, y, hj, h1, h2⟩
      obtain ⟨l, y, hjm, hLj, hR⟩ := hw'
      have HLJ := Lib.hid hLj; have HR := Lib.hid hR; have HWN := Lib.hid hwn; have HJM := Lib.hid hjm
      clear hLj hR hwn hjm
      have hb8 : Below w7.heap.size w7 (w7.alloc (.cells #[.int .i64 0] 3)) := (Below.refl _ _).alloc (Nat.le_refl _) _
      have hm8 := HM7.out.below hb8
      have hkb : ¬ HF P.m V5 tv1 w7.heap.size := fun e => by have := (HM7.out.h.rlt _ e).2; omega
      have hk8 := Blk.new w7 3 #[.int .i64 0]
      have hkg : w7.heap.size ≠ g := by have := HM7.out.h.blk.lt; omega
      have hkgl : w7.heap.size ≠ gl := by have := HM7.out.h.lk.lt; omega
      have hkw : w7.heap.size ≠ w.heap.size := by have := HM7.out.k.lt; omega
      have hwk0 : w.heap.size ≤ w7.heap.size := HM7.out.t.chg.size
      have HM8 := Lib.hid hm8; have HKB := Lib.hid hkb; have HK8 := Lib.hid hk8
      clear hb8 hm8 hkb hk8 HM7
      go_upto_region 9 with fail
      generalize w7.alloc (.cells #[.int .i64 0] 3) = w8 at *
      generalize w7.heap.size = kb at *
      have y0 := HM8.out.h.cell HM8.out.h.c0
      generalize cs1.setIfInBounds 4 (.int .i64 ((n : Int) + 1)) = cs2 at *
      go_upto_region 10 with fail
      clear y0
      go_loopw [64] (fun i wr => ∃ u : Nat, u ≤ P.m ∧ i = .int .i64 u ∧ HMid w wr base g gl w.heap.size V tv P ⟨⟨xa, xl, xf, xb, xm⟩, xn⟩ s1 ((n : Int) + 1) cs2 ls5 V5 tv1 ∧ Blk wr kb 3 #[.int .i64 (Pl.lngTo s1.L u : Nat)]) (fun i _ => P.m - (intOf i).toNat)
      case atStart => exact ⟨0, Nat.zero_le _, rfl, HM8.out, HK8.out⟩
      case round =>
        clear HM8 HK8
        obtain ⟨u, hu, rfl, hm8, hk8⟩ := hrel
        have HM8 := Lib.hid hm8; have HK8 := Lib.hid hk8
        clear hm8 hk8
        by_cases hlt : u < P.m
        · have iu : (u : Int) < (P.m : Int) := by omega
          obtain ⟨j, hj⟩ : ∃ j, j = Pl.lngTo s1.L u := ⟨_, rfl⟩
          have hjm : j < P.m := by
            rw [hj]
            rcases Nat.eq_zero_or_pos u with e | e
            · subst e; unfold Pl.lngTo; omega
            · have := Pl.lngTo_lt s1.L u e; omega
          have hnx : Pl.lngTo s1.L (u + 1) = if (s1.L j).length < (s1.L u).length then u else j := by rw [hj]; rfl
          have z8 := HK8.out.cell 0
          simp at z8
          rw [← hj] at z8
          have ij : (j : Int) < (P.m : Int) := by omega
          have y0 := HM8.out.h.cell HM8.out.h.c0
          obtain ⟨Au, cu, hvu, _, _, _⟩ := (HM8.out.h.own u hlt).reads
          obtain ⟨Aj, cj, hvj, _, _, _⟩ := (HM8.out.h.own j hjm).reads
          have yu := HM8.out.h.lcell (HM8.out.h.l0 u hlt)
          have yj := HM8.out.h.lcell (HM8.out.h.l0 j hjm)
          rw [hvu] at yu
          rw [hvj] at yj
          have HNX := Lib.hid hnx; have HJ := Lib.hid hj
          have xk := HK8.out.frozen 0
          clear hvu hvj hj hnx
          generalize (s1.L u).length = lu at *
          generalize (s1.L j).length = lj at *
          go_upto_region 12 with fail
          go_quiet (first | (go_at_call 108; exact Calls.quiet_of_same (len_q _ _ _ _ _ _ (by assumption))))
          have HM9 := Lib.hid (HM8.out.below (bl_drewN (n := nq) (Below.refl _ _))); have HK9 := Lib.hid (HK8.out.drewN nq)
          have xk' : (wr.drewN nq).frozen? ⟨kb, 0, none⟩ = false := xk
          have z8' : (wr.drewN nq).cell? ⟨kb, 0, none⟩ = some (.int .i64 (j : Int)) := z8
          clear HM8 HK8 y0 yu yj z8 xk
          generalize wr.drewN nq = w9 at *
          have hwk : w.heap.size ≤ kb := by omega
          by_cases hc : lj < lu
          · have hnx : Pl.lngTo s1.L (u + 1) = u := by rw [HNX.out, if_pos hc]
            have hm10 := HM9.out.setKb (p := ⟨kb, 0, none⟩) hkg hkgl HKB.out (Ne.symm hkw) hwk (.int .i64 (u : Int))
            have hk10 : Blk _ kb 3 #[.int .i64 (u : Int)] := HK9.out.set_ 0 (.int .i64 (u : Int))
            have HM10 := Lib.hid hm10; have HK10 := Lib.hid hk10; have HNX2 := Lib.hid hnx
            clear hm10 hk10 hnx
            go_wp2_with fail
            exact ⟨⟨u + 1, by omega, by go_num, HM10.out, by rw [HNX2.out]; exact HK10.out⟩, by simp [intOf]; omega⟩
          · have hnx : Pl.lngTo s1.L (u + 1) = j := by rw [HNX.out, if_neg hc]
            have HNX2 := Lib.hid hnx
            clear hnx
            go_wp2_with fail
            exact ⟨⟨u + 1, by omega, by go_num, HM9.out, by rw [HNX2.out, HJ.out]; exact HK9.out⟩, by simp [intOf]; omega⟩
        · obtain rfl : u = P.m := by omega
          obtain ⟨j, hj⟩ : ∃ j, j = Pl.lngTo s1.L P.m := ⟨_, rfl⟩
          have hjm := HJM.out
          have hlj := HLJ.out
          have hrr := HR.out
          have hk8 := HK8.out
          rw [← hj] at hjm hlj hrr hk8
          have hkt : kb < wr.heap.size := HK8.out.lt
          have HLJ2 := Lib.hid hlj; have HRR := Lib.hid hrr; have HK9 := Lib.hid hk8
          clear hj hlj hrr hk8 HLJ HR HK8 HJM
          have hs1l : HdsOk (s1.L j) := by
            refine ⟨?_, fun z hz => ?_⟩
            · have h1 := flat_lenR (G := fun f => (s1.L f).map Pl.key) (List.mem_range.2 hjm)
              have h2 : (s1.L j).length ≤ (Pl.waitH P.m s1).length := by simpa [Pl.waitH] using h1
              rw [HWN.out] at h2
              omega
            · have := HAD.out.b j hjm z (by rw [← HS1.out]; exact hz)
              omega
          rw [HLJ2.out] at hs1l
          have hyl := hs1l.b y (by simp)
          obtain ⟨htot0, htot1⟩ := hs1l.tot
          have hln := hs1l.n
          simp only [List.length_append, List.length_singleton] at hln
          have hlast : ∀ W, Below wr.heap.size wr W → Calls Tryz.prog 129 #[.pointer (some ⟨gl, j * 2, none⟩)] W (fun e w' => e = .returned (.tuple #[hdV y, .bool true]) ∧
              Hid (∃ v2 ls2, HMid w w' base g gl w.heap.size V tv P ⟨⟨xa, xl, xf, xb, xm⟩, xn⟩ ⟨Pl.updf s1.L j l, s1.T⟩ ((n : Int) + 1) cs2 ls2 (Pl.updf V5 j v2) tv1 ∧ Blk w' kb 3 #[.int .i64 (j : Nat)] ∧ HTrn W w' g gl P.m V5 tv1 (Pl.updf V5 j v2) tv1)) := fun W hb => by
            have hmw := HM8.out.below hb
            have hkw := HK9.out.below hb HK9.out.lt
            have hlst := hmw.h.lst hjm
            rw [HLJ2.out] at hlst
            refine (last_some base gl (j * 2) 90 ls5 (V5 j) y l _ W hlst (by omega) htot0 (by omega) (by omega) (by omega)).mono ?_
            rintro e w' ⟨rfl, v2, h2⟩
            have htc : Pl.tot (l ++ [y]) - y.it.len = Pl.tot l := by rw [Pl.tot_snoc]; omega
            obtain ⟨ls2, hm2⟩ := hmw.of_lst hjm h2 htc
            obtain ⟨_, _, ht2⟩ := hmw.h.of_lst hjm h2 htc
            refine ⟨rfl, Lib.hid ⟨v2, ls2, hm2, hkw.chg ht2.chg ?_, ht2⟩⟩
            rintro (e | e | e)
            · exact hkg e
            · exact hkgl e
            · exact HKB.out e
          have HLS := Lib.hid hlast
          clear hlast hs1l htot0 htot1
          have z8 := HK9.out.cell 0
          simp at z8
          have y0 := HM8.out.h.cell HM8.out.h.c0
          have ij : (j : Int) < (P.m : Int) := by omega
          have hgr := HM8.out.h.blk.lt
          have hglr := HM8.out.h.lk.lt
          have hkwr := HM8.out.k.lt
          have hrl : ¬ HF P.m V5 tv1 wr.heap.size := fun e => by have := (HM8.out.h.rlt _ e).2; omega
          have HRL := Lib.hid hrl
          have hwwr := HM8.out.t.chg.size
          clear hrl
          obtain ⟨⟨ya, yl, yf, yb, ym⟩, yn⟩ := y
          unfold hdV at HLS
          dsimp only at HLS hyl
          go_upto_region 15 with fail
          go_cut [10, 11] from 84 to 93 (fun xv ov wx => ov = .bool true ∧ ∃ kx2 ls2 v2, xv = .pointer (some ⟨kx2, 0, none⟩) ∧ HMid w wx base g gl w.heap.size V tv P ⟨⟨xa, xl, xf, xb, xm⟩, xn⟩ ⟨Pl.updf s1.L j l, s1.T⟩ ((n : Int) + 1) cs2 ls2 (Pl.updf V5 j v2) tv1 ∧ Blk wx kb 3 #[.int .i64 (j : Nat)] ∧
            Blk wx kx2 78 #[.int .i64 ya, .int .i64 yl, .int .i64 yf, .int .i64 yb, .int .i64 ym, .int .i64 yn] ∧ ¬ HF P.m (Pl.updf V5 j v2) tv1 kb)
          case first =>
            go_region_law ((go_simp; go_at_call 129; (with_reducible refine (HLS.out _ ?_).mono ?_); (repeat (first | assumption | exact Below.refl _ _ | apply bl_drew | apply bl_alloc)); rintro e w6 ⟨rfl, hb6⟩; obtain ⟨v2, ls2, h6, hk6, ht6⟩ := hb6.out; have hsz6 := ht6.chg.size; have H6 := Lib.hid h6; have HK6 := Lib.hid hk6; have HT6 := Lib.hid ht6; (try (have hkx := Blk.chg (Blk.drew (Blk.new wr 78 #[.int .i64 0, .int .i64 0, .int .i64 0, .int .i64 0, .int .i64 0, .int .i64 0])) ht6.chg (by rintro (e | e | e); exact absurd e (by omega); exact absurd e (by omega); exact HRL.out e); obtain ⟨k0, k1, k2, k3, k4, k5, k6, k7, k8, k9, k10, k11⟩ := blk6 hkx; have HKX := Lib.hid hkx; clear hkx)); clear h6 hk6 ht6 hb6))
            all_goals
              have hnk := fun (e : HF P.m (Pl.updf V5 j v2) tv1 kb) => (HT6.out.at_ _ e).elim HKB.out (fun e => by first | omega | (simp at e; omega))
              have HNK := Lib.hid hnk
              clear hnk
              go_wp2_with fail
              go_meet
              case rel =>
                first
                  | (have hkz := HKX
                     have hn9 : ¬ HF P.m (Pl.updf V5 j v2) tv1 wr.heap.size := fun e => (HT6.out.at_ _ e).elim HRL.out (fun e => by first | omega | (simp at e; omega) | simp at e)
                     exact ⟨rfl, wr.heap.size, ls2, v2, rfl, H6.out.six (b := wr.heap.size) (by omega) (by omega) hn9 (by omega) hwwr (.int .i64 ya) (.int .i64 yl) (.int .i64 yf) (.int .i64 yb) (.int .i64 ym) (.int .i64 yn), ((((((HK6.out.far (p := ⟨wr.heap.size, 0, none⟩) (by simp only []; omega) _).far (p := ⟨wr.heap.size, 1, none⟩) (by simp only []; omega) _).far (p := ⟨wr.heap.size, 2, none⟩) (by simp only []; omega) _).far (p := ⟨wr.heap.size, 3, none⟩) (by simp only []; omega) _).far (p := ⟨wr.heap.size, 4, none⟩) (by simp only []; omega) _).far (p := ⟨wr.heap.size, 5, none⟩) (by simp only []; omega) _), blk_six hkz.out (.int .i64 ya) (.int .i64 yl) (.int .i64 yf) (.int .i64 yb) (.int .i64 ym) (.int .i64 yn), HNK.out⟩)
                  | exact ⟨rfl, w6.heap.size, ls2, v2, rfl, H6.out.below ((Below.refl _ _).alloc (Nat.le_refl _) _), HK6.out.alloc _, Blk.new w6 78 #[.int .i64 ya, .int .i64 yl, .int .i64 yf, .int .i64 yb, .int .i64 ym, .int .i64 yn], HNK.out⟩
          case rest =>
            obtain ⟨rfl, kx2, ls2, v2, rfl, hm9, hk9, hy9, hkb9⟩ := hcut
            have HM9 := Lib.hid hm9; have HK9' := Lib.hid hk9; have HY9 := Lib.hid hy9; have HKB9 := Lib.hid hkb9
            have hk2g : kx2 ≠ g := fun e => Blk.ne_ (e ▸ hy9) hm9.h.blk (by decide) rfl
            clear hm9 hk9 hy9 hkb9 HLS y0 z8 HM8 HK9
            have y4 := HM9.out.h.cell HM9.out.h.c4
            have x4 := HM9.out.h.blk.frozen 4
            have e4 : IntKind.i64.wrap ((n : Int)) = (n : Int) := IntWalk.i64_in _ (by omega)
            have hm10 := HM9.out.setM (n : Int)
            have hy10 := HY9.out.far (p := ⟨g, 4, none⟩) hk2g (.int .i64 (n : Int))
            have hk10 := HK9'.out.far (p := ⟨g, 4, none⟩) hkg (.int .i64 (n : Int))
            have HM10 := Lib.hid hm10; have HY10 := Lib.hid hy10; have HK10 := Lib.hid hk10
            clear hm10 hy10 hk10 HM9 HY9 HK9'
            go_upto_region 17 with fail
            clear y4 x4 e4
            generalize wc.setCell ⟨g, 4, none⟩ (.int .i64 (n : Int)) = w10 at *
            have y0 := HM10.out.h.cell HM10.out.h.c0
            have z8 := HK10.out.cell 0
            simp at z8
            obtain ⟨Aj, cj, hvj, _, _, _⟩ := (HM10.out.h.own j hjm).reads
            have yj := HM10.out.h.lcell (HM10.out.h.l0 j hjm)
            rw [hvj, show (⟨Pl.updf s1.L j l, s1.T⟩ : Pl.HS).L j = l from Pl.updf_same _ _ _] at yj
            clear hvj
            obtain ⟨ll, hll⟩ : ∃ ll, ll = l.length := ⟨_, rfl⟩
            rw [← hll] at yj
            have HLLn := Lib.hid hll
            clear hll
            go_quiet (first | (go_at_call 108; exact Calls.quiet_of_same (len_q _ _ _ _ _ _ (by assumption))))
            have HM11 := Lib.hid (HM10.out.below (bl_drewN (n := nq) (Below.refl _ _))); have HY11 := Lib.hid (HY10.out.drewN nq); have HK11 := Lib.hid (HK10.out.drewN nq)
            clear HM10 HY10 HK10 y0 z8 yj
            generalize w10.drewN nq = w11 at *
            have hcutS : Pl.cutH j s1 = ⟨Pl.updf s1.L j l, if ll = 0 then s1.T.erase j else s1.T⟩ := by
              unfold Pl.cutH
              rw [HLJ2.out, List.dropLast_concat, List.length_append, List.length_singleton, HLLn.out]
              congr 1
              by_cases e : l.length = 0
              · rw [if_pos (by omega), if_pos e]
              · rw [if_neg (by omega), if_neg e]
            have HCS := Lib.hid hcutS
            clear hcutS
            go_upto_if 108 with fail
            go_cut [] from 94 to 117 (fun wx => ∃ cs3 tv3, HMid w wx base g gl w.heap.size V tv P ⟨⟨xa, xl, xf, xb, xm⟩, xn⟩ (Pl.cutH j s1) (n : Int) cs3 ls2 (Pl.updf V5 j v2) tv3 ∧ Blk wx kx2 78 #[.int .i64 ya, .int .i64 yl, .int .i64 yf, .int .i64 yb, .int .i64 ym, .int .i64 yn])
            case first =>
              by_cases hz : ll = 0
              · have tz : ((ll : Int) == 0) = true := by rw [hz]; rfl
                have hjT : j ∈ s1.T := by
                  have h1 := HAD.out.im j hjm (by rw [← HS1.out, HLJ2.out]; simp)
                  rw [← HS1.out] at h1
                  exact h1
                have hnd : s1.T.Nodup := by rw [HS1.out]; exact HAD.out.nd
                obtain ⟨T1, T2, hT12⟩ := List.append_of_mem hjT
                rw [hT12] at hnd
                have hnd2 := List.nodup_append.1 hnd
                have hj1 : j ∉ T1 := fun e => hnd2.2.2 j e j (by simp) rfl
                have hj2 : j ∉ T2 := (List.nodup_cons.1 hnd2.2.1).1
                have her : s1.T.erase j = T1 ++ T2 := by rw [hT12, List.erase_append_right _ hj1, List.erase_cons_head]
                have hrow := HM11.out.h.tn
                have hrow' : OwnW w11 base 3 1 tv1 (T1 ++ j :: T2).length ((tnL (T1 ++ j :: T2)).flatMap IntR.cells) := by rw [← hT12]; exact hrow
                obtain ⟨At, ct, hvt, _, _, _⟩ := hrow'.reads
                have hrow2 := hrow'
                rw [hvt] at hrow2
                obtain ⟨gt, ot, hAt, _, _, _, _⟩ := intR_at (l := tnL (T1 ++ j :: T2)) hrow2 (k := 0) (by simp; omega)
                subst hAt
                have hTl : (T1 ++ j :: T2).length ≤ 1000 := by
                  rw [← hT12, HS1.out]
                  unfold Pl.addH
                  dsimp only
                  split
                  · simp; omega
                  · omega
                have hkb9 : kb ≠ gt := fun e => HKB9.out (.inl (by rw [hvt, e]; rfl))
                have hdel := hdelete_any base gt ot ct (T1 ++ j :: T2).length T1 T2 j kb w11 rfl hrow2 hTl hj1 hj2 (HK11.out.cell 0) HK11.out.lt hkb9
                have y3 := HM11.out.h.cell HM11.out.h.c3
                rw [hvt] at y3
                obtain ⟨tq, htq⟩ : ∃ q, q = (T1 ++ T2).length := ⟨_, rfl⟩
                rw [← htq] at hdel
                have HTQ := Lib.hid htq
                clear htq
                have HDEL := Lib.hid hdel; have HVT := Lib.hid hvt; have HER := Lib.hid her
                have hmf : ∀ (fn : Fn) (first cap : Array Value) (w : World), (Instr.makeFunc fn first cap).run Tryz.prog w = .ok (.func fn first cap) w := fun _ _ _ _ => rfl
                clear hdel hrow hrow' hrow2 hvt hnd hnd2 hj1 hj2 her hT12 hjT
                generalize (T1 ++ j :: T2).length = tl at *
                go_wp2_with (go_at_call 130; (with_reducible refine HDEL.out.mono ?_); rintro e w12 ⟨rfl, hown12, hgr12⟩; have hgr13 : w11.grownBy w12 tv1.ownBlock := (by rw [HVT.out]; exact hgr12); have hc12 : Chg w11 w12 (fun i => tv1.ownBlock = some i) := Chg.of_grown hgr13 (fun i e => e.symm); have hb12 := HM11.out.h.blk.chg hc12 (fun e => (HM11.out.h.rne g (.inl e)).1 rfl); have z3 := (hb12.cell 3).trans HM11.out.h.c3; have x3' := hb12.frozen 3; have hy12 := HY11.out.chg hc12 (fun e => HM11.out.h.tn.blk_ne HY11.out (by decide) e); have HO12 := Lib.hid hown12; have HG12 := Lib.hid hgr13; have HY12 := Lib.hid hy12; clear hown12 hgr12 hgr13 hb12 hy12 hc12)
                go_meet
                case rel =>
                  rw [HCS.out, if_pos hz, HER.out]
                  exact ⟨_, _, HM11.out.setT (T' := T1 ++ T2) HG12.out (by rw [← HTQ.out]; exact HO12.out) (.inl (by rw [HVT.out]; rfl)), HY12.out.far (p := ⟨g, 3, none⟩) hk2g _⟩
              · have tz : ((ll : Int) == 0) = false := by simp; omega
                go_wp2_with fail
                go_meet
                case rel =>
                  rw [HCS.out, if_neg hz]
                  exact ⟨_, tv1, HM11.out, HY11.out⟩
            case rest =>
              obtain ⟨cs3, tv3, hm13, hy13⟩ := hcut
              have HM13 := Lib.hid hm13; have HY13 := Lib.hid hy13
              obtain ⟨t0, t1, t2, t3, t4, t5, _, _, _, _, _, _⟩ := blk6 hy13
              have hszf := hm13.t.chg.size
              have hwf : (Pl.waitH P.m (Pl.cutH j s1)).length = n := by
                have h1 := (Pl.wait_cut hjm HLJ2.out).length_eq
                rw [HWN.out, List.length_cons] at h1
                omega
              have HWF := Lib.hid hwf
              clear hm13 hy13 hwf
              go_wp2_with fail
              go_ret
              refine ⟨some ⟨wc.heap.size, 0, none⟩, 1, cs3, ls2, Pl.updf V5 j v2, tv3, ?_⟩
              rw [HRR.out]
              refine ⟨rfl, rdHd_one (Blk.new wc _ _) rfl, fun ad e => by injection e with e; subst e; exact hszf, ?_, HM13.out.t.below ((Below.refl _ _).alloc (Nat.le_refl _) _)⟩
              have := HM13.out.h.below ((Below.refl _ _).alloc (Nat.le_refl _) (.cells #[.int .i64 ya, .int .i64 yl, .int .i64 yf, .int .i64 yb, .int .i64 ym, .int .i64 yn] 78))
              rw [HWF.out]
              exact this
end Go.Proofs.YtgdijbaodfghjaaGreatDoor

/-
  Flows that are put together by a hash, in memory: Take.
-/
namespace Go.Proofs.YtgdijbaodfghjaaGreatDoor
open Go.RowKit Bkt
set_option linter.unusedVariables false

theorem HMid.fill {w wr : World} {base g gl kx : Nat} {V V' : Nat → Value} {tv tv' : Value} {P : Pl.HP} {x : Hd} {s : Pl.HS} {n : Int} {cs ls : Array Value} (h : HMid w wr base g gl kx V tv P x s n cs ls V' tv') (hw : w.heap.size ≤ kx) (y : Hd) :
    HMid w ((((((wr.setCell ⟨kx, 0, none⟩ (.int .i64 y.it.at_)).setCell ⟨kx, 1, none⟩ (.int .i64 y.it.len)).setCell ⟨kx, 2, none⟩ (.int .i64 y.it.flow)).setCell ⟨kx, 3, none⟩ (.int .i64 y.it.band)).setCell ⟨kx, 4, none⟩ (.int .i64 y.it.mark)).setCell ⟨kx, 5, none⟩ (.int .i64 y.num)) base g gl kx V tv P y s n cs ls V' tv' := by
  have hset := fun (W : World) (c : Nat) (u : Value) (hd : Hsh W base g gl cs ls V' tv' P s n) => hd.setNew (p := ⟨kx, c, none⟩) h.kg.1 h.kg.2 h.kn u
  have hst := fun (W : World) (c : Nat) (u : Value) (ht : HTrn w W g gl P.m V tv V' tv') => ht.setNew (p := ⟨kx, c, none⟩) hw u
  exact ⟨hset _ 5 _ (hset _ 4 _ (hset _ 3 _ (hset _ 2 _ (hset _ 1 _ (hset _ 0 _ h.h))))), hst _ 5 _ (hst _ 4 _ (hst _ 3 _ (hst _ 2 _ (hst _ 1 _ (hst _ 0 _ h.t))))), blk_six h.k _ _ _ _ _ _, h.kn⟩
def HshTakeOut (w : World) (base g gl : Nat) (V : Nat → Value) (tv : Value) (P : Pl.HP) (R : Option Hd × Pl.HS) (e : Ending) (w' : World) : Prop :=
  ∃ (h : Hd) (cs' ls' : Array Value) (V' : Nat → Value) (tv' : Value),
    e = .returned (.tuple #[hdV h, .slice none 0 0, .bool R.1.isSome]) ∧ (∀ x, R.1 = some x → h = x) ∧
    Hsh w' base g gl cs' ls' V' tv' P R.2 (Pl.waitH P.m R.2).length ∧ HTrn w w' g gl P.m V tv V' tv'
set_option maxHeartbeats 4000000 in
set_option maxRecDepth 100000 in
theorem hshTake_none (base g gl : Nat) (cs ls : Array Value) (V : Nat → Value) (tv : Value) (P : Pl.HP) (s : Pl.HS) (now : Int) (w : World) (h : Hsh w base g gl cs ls V tv P s (Pl.waitH P.m s).length) (hT : s.T = []) :
    Calls Tryz.prog 126 #[.pointer (some ⟨g, 0, none⟩), .int .i64 now] w (HshTakeOut w base g gl V tv P (Pl.takeH s)) := by
  have hb0 : Below w.heap.size w (w.alloc (.cells #[.int .i64 0, .int .i64 0, .int .i64 0, .int .i64 0, .int .i64 0, .int .i64 0] 78)) := (Below.refl _ _).alloc (Nat.le_refl _) _
  have hR : Pl.takeH s = (none, s) := by unfold Pl.takeH; rw [hT]
  rw [hR]
  have hgl := h.blk.lt
  have hgll := h.lk.lt
  have n1 : w.heap.size ≠ g := by omega
  have n3 : w.heap.size ≠ gl := by omega
  have n2 : g ≠ w.heap.size := by omega
  have hrw : ¬ HF P.m V tv w.heap.size := fun e => by have := (h.rlt _ e).2; omega
  have y3 := (h.below hb0).cell h.c3
  obtain ⟨At, ct, hvt, _, _, _⟩ := h.tn.reads
  rw [hvt, hT] at y3
  simp only [List.length_nil] at y3
  have hk := Blk.new w 78 #[.int .i64 0, .int .i64 0, .int .i64 0, .int .i64 0, .int .i64 0, .int .i64 0]
  have H := Lib.hid (h.below hb0); have HT := Lib.hid ((HTrn.refl w g gl P.m V tv).below hb0); have HK := Lib.hid hk; have HRW := Lib.hid hrw
  clear h hb0 hR hrw hvt hk hT
  go_enter Tryz.func126, Tryz.ntmps126
  go_upto_region 1 with fail
  generalize w.alloc (.cells #[.int .i64 0, .int .i64 0, .int .i64 0, .int .i64 0, .int .i64 0, .int .i64 0] 78) = W at *
  obtain ⟨t0, t1, t2, t3, t4, t5, s0, s1, s2, s3, s4, s5⟩ := blk6 HK.out
  have hkf := blk_six HK.out (.int .i64 0) (.int .i64 0) (.int .i64 0) (.int .i64 0) (.int .i64 0) (.int .i64 0)
  have HKF := Lib.hid hkf
  clear hkf HK
  go_wp2_with fail
  have r0 := HKF.out.cell 0; have r1 := HKF.out.cell 1; have r2 := HKF.out.cell 2; have r3 := HKF.out.cell 3; have r4 := HKF.out.cell 4; have r5 := HKF.out.cell 5
  simp at r0 r1 r2 r3 r4 r5
  have hset := fun (W : World) (c : Nat) (u : Value) (hd : Hsh W base g gl cs ls V tv P s (Pl.waitH P.m s).length) => hd.setNew (p := ⟨w.heap.size, c, none⟩) n1 n3 HRW.out u
  have hst := fun (W : World) (c : Nat) (u : Value) (ht : HTrn w W g gl P.m V tv V tv) => ht.setNew (p := ⟨w.heap.size, c, none⟩) (Nat.le_refl _) u
  exact bodyPost_ret (v := .tuple #[hdV Hd.zero, .slice none 0 0, .bool false]) (by simp [results, Tryz.results126, go_sem, hdV, Hd.zero, It.zero, r0, r1, r2, r3, r4, r5]) rfl
    ⟨Hd.zero, cs, ls, V, tv, rfl, fun x e => (by cases e), hset _ 5 _ (hset _ 4 _ (hset _ 3 _ (hset _ 2 _ (hset _ 1 _ (hset _ 0 _ H.out))))), hst _ 5 _ (hst _ 4 _ (hst _ 3 _ (hst _ 2 _ (hst _ 1 _ (hst _ 0 _ HT.out)))))⟩

set_option maxHeartbeats 8000000 in
set_option maxRecDepth 100000 in
theorem hshTake_some (base g gl : Nat) (cs ls : Array Value) (V : Nat → Value) (tv : Value) (P : Pl.HP) (s : Pl.HS) (now : Int) (w : World) (h : Hsh w base g gl cs ls V tv P s (Pl.waitH P.m s).length) (hi : Pl.HI P s)
    (hbase : base ≤ w.heap.size) (hl : ∀ f, f < P.m → HdsOk (s.L f)) (hn : (Pl.waitH P.m s).length ≤ 1000) (hTl : s.T.length ≤ 1000) {k : Nat} {T' : List Nat} (hT : s.T = k :: T') :
    Calls Tryz.prog 126 #[.pointer (some ⟨g, 0, none⟩), .int .i64 now] w (HshTakeOut w base g gl V tv P (Pl.takeH s)) := by
  have hb0 : Below w.heap.size w (w.alloc (.cells #[.int .i64 0, .int .i64 0, .int .i64 0, .int .i64 0, .int .i64 0, .int .i64 0] 78)) := (Below.refl _ _).alloc (Nat.le_refl _) _
  have hkm := (hi.h.ne k (by rw [hT]; simp)).1
  have hLne := (hi.h.ne k (by rw [hT]; simp)).2
  obtain ⟨x, r, hLk⟩ : ∃ x r, s.L k = x :: r := by
    cases hq : s.L k with
    | nil => exact absurd hq hLne
    | cons x r => exact ⟨x, r, rfl⟩
  have hR : Pl.takeH s = (some x, ⟨Pl.updf s.L k r, if 0 < r.length then T' ++ [k] else T'⟩) := by unfold Pl.takeH; rw [hT]; dsimp only; rw [hLk]
  rw [hR]
  obtain ⟨S', hS'⟩ : ∃ S', S' = (⟨Pl.updf s.L k r, if 0 < r.length then T' ++ [k] else T'⟩ : Pl.HS) := ⟨_, rfl⟩
  have HSS := Lib.hid hS'
  rw [← hS']
  have hwn := (Pl.wait_next hkm (s' := ⟨Pl.updf s.L k r, if 0 < r.length then T' ++ [k] else T'⟩) hLk rfl).length_eq
  rw [List.length_cons] at hwn
  have hgl := h.blk.lt
  have hgll := h.lk.lt
  have n1 : w.heap.size ≠ g := by omega
  have n3 : w.heap.size ≠ gl := by omega
  have hrw : ¬ HF P.m V tv w.heap.size := fun e => by have := (h.rlt _ e).2; omega
  have hm0 : HMid w (w.alloc (.cells #[.int .i64 0, .int .i64 0, .int .i64 0, .int .i64 0, .int .i64 0, .int .i64 0] 78)) base g gl w.heap.size V tv P Hd.zero s (Pl.waitH P.m s).length cs ls V tv :=
    ⟨h.below hb0, (HTrn.refl _ _ _ _ _ _).below hb0, Blk.new _ _ _, hrw⟩
  have hxb := (hl k hkm).b x (by rw [hLk]; simp)
  obtain ⟨hx0, hx1⟩ := hxb
  have htot := (hl k hkm).tot
  rw [hLk] at htot
  obtain ⟨htot0, htot1⟩ := htot
  have hrn : r.length ≤ 1000 := by have := (hl k hkm).n; rw [hLk] at this; simp at this; omega
  obtain ⟨n, hnn⟩ : ∃ n, n = (Pl.waitH P.m s).length := ⟨_, rfl⟩
  rw [← hnn] at hn hwn hm0
  have HM0 := Lib.hid hm0; have HLK := Lib.hid hLk; have HTT := Lib.hid hT; have HWN := Lib.hid hwn
  obtain ⟨TN, hTN⟩ : ∃ q, q = T'.length := ⟨_, rfl⟩
  have hTl' : TN + 1 ≤ 1000 := by rw [hTN]; rw [hT] at hTl; simpa using hTl
  have HTN := Lib.hid hTN
  have hn1 : 1 ≤ n := by omega
  clear h hb0 hR hS' hrw hm0 hwn hnn hl hi hLne hTN hTl hLk hT
  go_enter Tryz.func126, Tryz.ntmps126
  go_upto_region 1 with fail
  generalize w.alloc (.cells #[.int .i64 0, .int .i64 0, .int .i64 0, .int .i64 0, .int .i64 0, .int .i64 0] 78) = W at *
  have hrow := HM0.out.h.tn
  rw [HTT.out] at hrow
  have hrow' : OwnW W base 3 1 tv (TN + 1) ((tnL (k :: T')).flatMap IntR.cells) := by rw [HTN.out]; exact hrow
  obtain ⟨At, ct, hvt, _, _, _⟩ := hrow'.reads
  have hrow2 := hrow'
  rw [hvt] at hrow2
  obtain ⟨gt, ot, hAt, hct, _, hgt, _⟩ := intR_at (l := tnL (k :: T')) hrow2 (k := 0) (by omega)
  subst hAt
  have hct' : W.cell? ⟨gt, ot, none⟩ = some (.int .i64 (k : Int)) := hct
  obtain ⟨A', hA', hown', hsl⟩ := turn_tail hrow2 (by omega)
  have hob : Value.ownBlock (.slice (some A') TN (ct - 1)) = tv.ownBlock := by rw [hvt]; simp [Value.ownBlock, hA']
  have y3 := HM0.out.h.cell HM0.out.h.c3
  rw [hvt] at y3
  have x3 := HM0.out.h.blk.frozen 3
  have hm1 := HM0.out.setT (T' := T') (World.grownBy.refl W _) (by rw [← HTN.out]; exact hown') (.inl hob)
  have e0 : (((TN : Int) + 1) == 0) = false := by rw [beq_eq_false_iff_ne]; omega
  have HM1 := Lib.hid hm1
  clear hrow hrow' hrow2 hct hown' hob hm1 hA' HM0
  go_upto_region 5 with fail
  clear y3 x3 hct' e0 hsl hvt
  generalize W.setCell ⟨g, 3, none⟩ (.slice (some A') TN (ct - 1)) = w1 at *
  have y0 := HM1.out.h.cell HM1.out.h.c0
  have ikm : (k : Int) < (P.m : Int) := by omega
  have hlst := HM1.out.h.lst hkm
  rw [show (⟨s.L, T'⟩ : Pl.HS).L k = x :: r from HLK.out] at hlst
  have hnx := next_some base gl (k * 2) 90 ls (V k) x r _ w1 hlst hrn htot0 (by omega) (by omega) (by omega)
  have HNX := Lib.hid hnx
  obtain ⟨⟨xa, xl, xf, xb, xm⟩, xn⟩ := x
  unfold NextOut hdV at HNX
  dsimp only at HNX hx0 hx1
  clear hlst hnx
  have HK1 := Lib.hid HM1.out.k
  go_upto_region 6 with (go_at_call 113; (with_reducible refine HNX.out.mono ?_); rintro e w5 ⟨rfl, v5, h5⟩; have htc : Pl.tot (⟨⟨xa, xl, xf, xb, xm⟩, xn⟩ :: r) - xl = Pl.tot r := (by rw [Pl.tot_cons]; simp only []; omega); have h6 := HM1.out.of_lst hkm h5 htc; obtain ⟨ls5, hm5⟩ := h6; have hk5 := hm5.k; obtain ⟨t0, t1, t2, t3, t4, t5, s0, s1, s2, s3, s4, s5⟩ := blk6 hk5; have HM5 := Lib.hid hm5; clear h5 hm5 hk5 htc)
  have hm6 := HM5.out.fill (Nat.le_refl _) ⟨⟨xa, xl, xf, xb, xm⟩, xn⟩
  dsimp only at hm6
  have HM6 := Lib.hid hm6
  clear hm6 t0 t1 t2 t3 t4 t5 s0 s1 s2 s3 s4 s5 HM5 y0 HNX HM1 HK1
  generalize (((((w5.setCell ⟨w.heap.size, 0, none⟩ (.int .i64 xa)).setCell ⟨w.heap.size, 1, none⟩ (.int .i64 xl)).setCell ⟨w.heap.size, 2, none⟩ (.int .i64 xf)).setCell ⟨w.heap.size, 3, none⟩ (.int .i64 xb)).setCell ⟨w.heap.size, 4, none⟩ (.int .i64 xm)).setCell ⟨w.heap.size, 5, none⟩ (.int .i64 xn) = w6 at *
  have y4 := HM6.out.h.cell HM6.out.h.c4
  have x4 := HM6.out.h.blk.frozen 4
  have e4 : IntKind.i64.wrap ((n : Int) - 1) = (n : Int) - 1 := IntWalk.i64_in _ (by omega)
  have hm7 := HM6.out.setM ((n : Int) - 1)
  have HM7 := Lib.hid hm7
  clear hm7 HM6
  go_upto_region 7 with fail
  clear y4 x4 e4
  generalize w6.setCell ⟨g, 4, none⟩ (.int .i64 ((n : Int) - 1)) = w7 at *
  have y0 := HM7.out.h.cell HM7.out.h.c0
  obtain ⟨Ak, ck, hvk, _, _, _⟩ := (HM7.out.h.own k hkm).reads
  have yk := HM7.out.h.lcell (HM7.out.h.l0 k hkm)
  rw [hvk, show (⟨Pl.updf s.L k r, T'⟩ : Pl.HS).L k = r from Pl.updf_same _ _ _] at yk
  obtain ⟨rl, hrl⟩ : ∃ q, q = r.length := ⟨_, rfl⟩
  rw [← hrl] at yk
  have hlq := len_q gl (k * 2) rl ck Ak w7 yk
  have HLQ := Lib.hid hlq; have HRL := Lib.hid hrl
  clear hlq hvk yk hrl
  have hrow7 := HM7.out.h.tn
  have hrow8 : OwnW w7 base 3 1 (.slice (some A') TN (ct - 1)) TN ((tnL T').flatMap IntR.cells) := by rw [HTN.out]; rw [HTN.out] at hrow7; exact hrow7
  have HROW := Lib.hid hrow8
  have hszb : base ≤ w7.heap.size := by have := HM7.out.t.chg.size; omega
  have hgN : g ≠ w7.heap.size := by have := HM7.out.h.blk.lt; omega
  have hwN : w.heap.size ≠ w7.heap.size := by have := HM7.out.k.lt; omega
  have hg7 := HM7.out.h.blk.lt
  clear hrow7 hrow8
  go_upto_if 53 with (go_at_call 108; (with_reducible refine HLQ.out.mono ?_); rintro e w8 ⟨rfl, rfl⟩)
  go_cut [] from 46 to 63 (fun wx => ∃ (cs1 : Array Value) (tv1 : Value), HMid w wx base g gl w.heap.size V tv P ⟨⟨xa, xl, xf, xb, xm⟩, xn⟩ ⟨Pl.updf s.L k r, if 0 < r.length then T' ++ [k] else T'⟩ ((n : Int) - 1) cs1 ls5 (Pl.updf V k v5) tv1)
  case first =>
    by_cases h0 : 0 < rl
    · have hT1 : (if 0 < r.length then T' ++ [k] else T') = T' ++ [k] := if_pos (by rw [← HRL.out]; exact h0)
      have HT1 := Lib.hid hT1
      have y3 := HM7.out.h.cell HM7.out.h.c3
      clear hT1
      go_wp2_with (at_builtin; go_must (refine wpList_addW IntR rfl (.tmp 58) (.tmp 60) _ base 3 _ 8 Tryz.underlying26 Tryz.intRInfo rfl rfl _ TN (tnL T') (k : Int) _ HROW.out rfl rfl (by show Value.slice (some ⟨w8.heap.size, 0, none⟩) 1 1 = _; simp) (int_one _) (by omega) (by omega) (by omega) ?_); intro v9 w9 h1 h2 h3; have hc9 : Chg w8 w9 (fun i => Value.ownBlock (.slice (some A') TN (ct - 1)) = some i) := Chg.of_grown h2 (fun i e => e.symm); have hb9 := HM7.out.h.blk.chg hc9 (fun e => (HM7.out.h.rne g (.inl e)).1 rfl); have z3 := (hb9.cell 3).trans HM7.out.h.c3; have x3' := hb9.frozen 3; obtain ⟨A9, c9, hv9, _, _, _⟩ := h1.reads; subst hv9; have H91 := Lib.hid h1; have H92 := Lib.hid h2; have H93 := Lib.hid h3; clear h1 h2 h3 hb9)
      go_meet
      case rel =>
        rw [HT1.out]
        exact ⟨_, _, HM7.out.setT (T' := T' ++ [k]) H92.out (by rw [tnL_app, List.length_append, ← HTN.out]; exact H91.out) (H93.out.imp id fun h k hk => Nat.le_of_lt (h k hk))⟩
    · have hT1 : (if 0 < r.length then T' ++ [k] else T') = T' := if_neg (by rw [← HRL.out]; exact h0)
      have HT1 := Lib.hid hT1
      clear hT1
      go_wp2_with fail
      go_meet
      case rel =>
        rw [HT1.out]
        exact ⟨_, _, HM7.out⟩
  case rest =>
    obtain ⟨cs1, tv1, hm9⟩ := hcut
    have HM9 := Lib.hid hm9
    obtain ⟨t0, t1, t2, t3, t4, t5, s0, s1, s2, s3, s4, s5⟩ := blk6 hm9.k
    have hfin := hm9.fill (Nat.le_refl _) ⟨⟨xa, xl, xf, xb, xm⟩, xn⟩
    dsimp only at hfin
    have HFIN := Lib.hid hfin
    have hnf : ((n : Int) - 1) = ((Pl.waitH P.m ⟨Pl.updf s.L k r, if 0 < r.length then T' ++ [k] else T'⟩).length : Int) := by have := HWN.out; omega
    have HNF := Lib.hid hnf
    clear hm9 hfin hnf y0 HLQ
    go_wp2_with fail
    have r0 := HFIN.out.k.cell 0; have r1 := HFIN.out.k.cell 1; have r2 := HFIN.out.k.cell 2; have r3 := HFIN.out.k.cell 3; have r4 := HFIN.out.k.cell 4; have r5 := HFIN.out.k.cell 5
    simp at r0 r1 r2 r3 r4 r5
    refine bodyPost_ret (v := .tuple #[hdV ⟨⟨xa, xl, xf, xb, xm⟩, xn⟩, .slice none 0 0, .bool true]) (by simp [results, Tryz.results126, go_sem, hdV, r0, r1, r2, r3, r4, r5]) rfl
      ⟨⟨⟨xa, xl, xf, xb, xm⟩, xn⟩, cs1, ls5, Pl.updf V k v5, tv1, rfl, fun x e => ?_, ?_, HFIN.out.t⟩
    · injection e
    · have := HFIN.out.h
      rw [HNF.out, ← HSS.out] at this
      exact this
theorem hshTake_any (base g gl : Nat) (cs ls : Array Value) (V : Nat → Value) (tv : Value) (P : Pl.HP) (s : Pl.HS) (now : Int) (w : World) (h : Hsh w base g gl cs ls V tv P s (Pl.waitH P.m s).length) (hi : Pl.HI P s)
    (hbase : base ≤ w.heap.size) (hl : ∀ f, f < P.m → HdsOk (s.L f)) (hn : (Pl.waitH P.m s).length ≤ 1000) (hTl : s.T.length ≤ 1000) :
    Calls Tryz.prog 126 #[.pointer (some ⟨g, 0, none⟩), .int .i64 now] w (HshTakeOut w base g gl V tv P (Pl.takeH s)) := by
  cases hT : s.T with
  | nil => exact hshTake_none base g gl cs ls V tv P s now w h hT
  | cons k T => exact hshTake_some base g gl cs ls V tv P s now w h hi hbase hl hn hTl hT
end Go.Proofs.YtgdijbaodfghjaaGreatDoor

/-
  Flows that are put together by a hash: their making; their bytes.
-/
namespace Go.Proofs.YtgdijbaodfghjaaGreatDoor
open Go.RowKit Bkt
set_option linter.unusedVariables false

theorem Tryz.listInfo : (Tryz.prog.info? 90).map (fun i => (i.zero, i.size, i.bytes)) = some (some (.agg #[.slice none 0 0, .int .i64 0]), 2, 32) := by kernel_rfl
theorem made_l (m : Nat) (hm : m ≤ 1000) : ∀ wz, (Instr.makeSlice 124 (.int .i64 (m : Int)) (.int .i64 (m : Int))).run Tryz.prog wz = .ok (.slice (some ⟨wz.heap.size, 0, none⟩) m m) (wz.alloc (.cells (madeCells #[.slice none 0 0, .int .i64 0] (m * 2)) 90)) := fun wz => by
  obtain ⟨i0, hi, hz0, hz1, hz2⟩ := info_parts Tryz.listInfo
  have := run_make (P := Tryz.prog) wz 124 90 i0 (.agg #[.slice none 0 0, .int .i64 0]) Tryz.underlying124 hi hz0 .i64 .i64 m m (by omega) (Int.le_refl _) (by rw [hz2]; omega) (by omega)
  rw [this, hz1]
  simp [Value.cells]
theorem made_l0 (m f : Nat) (hf : f < m) : (madeCells #[.slice none 0 0, .int .i64 0] (m * 2))[f * 2]? = some (.slice none 0 0) ∧ (madeCells #[.slice none 0 0, .int .i64 0] (m * 2))[f * 2 + 1]? = some (.int .i64 0) := by
  have h1 : f * 2 < m * 2 := by omega
  have h2 : f * 2 + 1 < m * 2 := by omega
  constructor
  · simp [madeCells, h1]
  · simp [madeCells, h2]
def NewHshOut (w : World) (P : Pl.HP) (e : Ending) (w' : World) : Prop :=
  ∃ g gl cs ls, e = .returned (.tuple #[.pointer (some ⟨g, 0, none⟩), .nilIface]) ∧ w.heap.size ≤ g ∧ w.heap.size ≤ gl ∧ Below w.heap.size w w' ∧ Hsh w' w.heap.size g gl cs ls (fun _ => .slice none 0 0) (.slice none 0 0) P Pl.hs0 0
theorem Hsh.start (w : World) (P : Pl.HP) : Hsh ((w.alloc (.cells (madeCells #[.slice none 0 0, .int .i64 0] (P.m * 2)) 90)).alloc (.cells #[.slice (some ⟨w.heap.size, 0, none⟩) P.m P.m, .int .i64 P.salt, .int .i64 P.room, .slice none 0 0, .int .i64 0] 126)) w.heap.size (w.heap.size + 1) w.heap.size
    #[.slice (some ⟨w.heap.size, 0, none⟩) P.m P.m, .int .i64 P.salt, .int .i64 P.room, .slice none 0 0, .int .i64 0] (madeCells #[.slice none 0 0, .int .i64 0] (P.m * 2)) (fun _ => .slice none 0 0) (.slice none 0 0) P Pl.hs0 0 := by
  have hk := Blk.new (w.alloc (.cells (madeCells #[.slice none 0 0, .int .i64 0] (P.m * 2)) 90)) 126 #[.slice (some ⟨w.heap.size, 0, none⟩) P.m P.m, .int .i64 P.salt, .int .i64 P.room, .slice none 0 0, .int .i64 0]
  rw [show (w.alloc (.cells (madeCells #[.slice none 0 0, .int .i64 0] (P.m * 2)) 90)).heap.size = w.heap.size + 1 by simp] at hk
  exact ⟨hk, rfl, rfl, rfl, rfl, rfl, rfl, (Blk.new _ _ _).alloc _, size_madeCells _ _, fun f hf => (made_l0 P.m f hf).1, fun f hf => (made_l0 P.m f hf).2, fun f hf => OwnW.nil _ _ _ _, fun i j _ _ _ k hk => by simp [Value.ownBlock] at hk, OwnW.nil _ _ _ _⟩
set_option maxHeartbeats 1000000 in
set_option maxRecDepth 100000 in
theorem newHashed_yes (P : Pl.HP) (w : World) (hP : Pl.HPOk P) : Calls Tryz.prog 36 #[.int .i64 (P.m : Int), .int .i64 P.salt, .int .i64 P.room] w (NewHshOut w P) := by
  obtain ⟨h1, h2⟩ := hP.m
  obtain ⟨h3, h4⟩ := hP.salt
  obtain ⟨h5, h6⟩ := hP.room
  have hst := Hsh.start w P
  have hmd := made_l P.m (by omega)
  have HST := Lib.hid hst
  clear hst hP
  obtain ⟨m, salt, room⟩ := P
  dsimp only at h1 h2 h3 h4 h5 h6 hmd HST ⊢
  go_enter Tryz.func36, Tryz.ntmps36
  go_wp2_with fail
  go_ret2
  exact ⟨w.heap.size + 1, w.heap.size, _, _, rfl, by omega, Nat.le_refl _, ((Below.refl _ _).alloc (Nat.le_refl _) _).alloc (by simp) _, HST.out⟩

def totTo (L : Nat → List Hd) : Nat → Int
  | 0 => 0
  | i + 1 => totTo L i + Pl.tot (L i)
theorem totTo_wait (s : Pl.HS) : ∀ m, totTo s.L m = Pl.sumLen (Pl.waitH m s)
  | 0 => rfl
  | m + 1 => by
    rw [totTo, totTo_wait s m]
    unfold Pl.waitH
    rw [List.range_succ, List.flatMap_append, Pl.sumLen_append]
    simp [Pl.tot]
theorem totTo_bd {P : Pl.HP} {s : Pl.HS} (hl : ∀ f, f < P.m → HdsOk (s.L f)) : ∀ i, i ≤ P.m → 0 ≤ totTo s.L i ∧ totTo s.L i ≤ 10000000 * i
  | 0, _ => by simp [totTo]
  | i + 1, h => by
    have h1 := totTo_bd hl i (by omega)
    have h2 := (hl i (by omega)).tot
    rw [totTo]
    omega
set_option maxHeartbeats 1000000 in
theorem hshBytes_any (base g gl : Nat) (cs ls : Array Value) (V : Nat → Value) (tv : Value) (P : Pl.HP) (s : Pl.HS) (n : Int) (w : World) (h : Hsh w base g gl cs ls V tv P s n) (hP : Pl.HPOk P) (hl : ∀ f, f < P.m → HdsOk (s.L f)) :
    Calls Tryz.prog 123 #[.pointer (some ⟨g, 0, none⟩)] w fun e w' => e = .returned (.int .i64 (Pl.sumLen (Pl.waitH P.m s))) ∧ w' = w := by
  have hm64 := hP.m.2
  have y0 := h.cell h.c0
  have hc := fun f (hf : f < P.m) => h.lcell (h.l1 f hf)
  have hbd := fun i hi => totTo_bd hl i hi
  have hnx : ∀ i, totTo s.L (i + 1) = totTo s.L i + Pl.tot (s.L i) := fun i => rfl
  rw [← totTo_wait]
  have HC := Lib.hid hc; have HBD := Lib.hid hbd; have HNX := Lib.hid hnx
  have h0 : Hid (totTo s.L 0 = 0) := Lib.hid rfl
  clear h hc hbd hnx hl hP
  go_enter Tryz.func123, Tryz.ntmps123
  go_wp2_with fail
  go_loopw [3, 10] (fun sv i wr => ∃ u : Nat, u ≤ P.m ∧ i = .int .i64 u ∧ sv = .int .i64 (totTo s.L u) ∧ wr = w) (fun _ i _ => P.m - (intOf i).toNat)
  case atStart => exact ⟨0, Nat.zero_le _, rfl, by rw [h0.out], rfl⟩
  case round =>
    obtain ⟨u, hu, rfl, rfl, rfl⟩ := hrel
    by_cases hlt : u < P.m
    · have iu : (u : Int) < (P.m : Int) := by omega
      have yc := HC.out u hlt
      have hb := bytes_q gl (u * 2) _ wr yc
      have hb1 := HBD.out u (by omega)
      have hb2 := HBD.out (u + 1) (by omega)
      have hn := HNX.out u
      rw [hn] at hb2
      have HB := Lib.hid hb; have HN := Lib.hid hn
      clear hb yc hn
      generalize Pl.tot (s.L u) = t at *
      generalize hy : totTo s.L u = y at *
      have HY := Lib.hid hy
      clear hy
      have e1 : IntKind.i64.wrap (y + t) = y + t := IntWalk.i64_in _ (by omega)
      go_wp2_with (go_at_call 107; (with_reducible refine HB.out.mono ?_); rintro e w' ⟨rfl, rfl⟩)
      exact ⟨⟨u + 1, by omega, by go_num, by rw [HN.out], by first | rfl | trivial⟩, by simp [intOf]; omega⟩
    · obtain rfl : u = P.m := by omega
      go_wp2_with fail
      go_ret
      exact ⟨rfl, rfl⟩
end Go.Proofs.YtgdijbaodfghjaaGreatDoor

/-
  fair.NewHashed: bad numbers.
-/
namespace Go.Proofs.YtgdijbaodfghjaaGreatDoor
open Go.RowKit
set_option linter.unusedVariables false
def NoErr (w : World) (e : Ending) (w' : World) : Prop := (∃ k : Int, e = .returned (.tuple #[.pointer none, .iface 69 (.int .i64 k)])) ∧ w' = w
set_option maxHeartbeats 1000000 in
set_option maxRecDepth 100000 in
theorem newHashed_no (m salt room : Int) (w : World) (h : m < 1 ∨ 64 < m ∨ salt < 0 ∨ 1000000 < salt ∨ room < 1 ∨ 1000000 < room) :
    Calls Tryz.prog 36 #[.int .i64 m, .int .i64 salt, .int .i64 room] w (NoErr w) := by
  by_cases a1 : m < 1
  · go_enter Tryz.func36, Tryz.ntmps36
    go_wp2_with fail
    go_ret2
    exact ⟨⟨_, rfl⟩, rfl⟩
  by_cases a2 : 64 < m
  · go_enter Tryz.func36, Tryz.ntmps36
    go_wp2_with fail
    go_ret2
    exact ⟨⟨_, rfl⟩, rfl⟩
  by_cases a3 : salt < 0
  · go_enter Tryz.func36, Tryz.ntmps36
    go_wp2_with fail
    go_ret2
    exact ⟨⟨_, rfl⟩, rfl⟩
  by_cases a4 : 1000000 < salt
  · go_enter Tryz.func36, Tryz.ntmps36
    go_wp2_with fail
    go_ret2
    exact ⟨⟨_, rfl⟩, rfl⟩
  by_cases a5 : room < 1
  · go_enter Tryz.func36, Tryz.ntmps36
    go_wp2_with fail
    go_ret2
    exact ⟨⟨_, rfl⟩, rfl⟩
  have a6 : 1000000 < room := by omega
  clear h
  go_enter Tryz.func36, Tryz.ntmps36
  go_wp2_with fail
  go_ret2
  exact ⟨⟨_, rfl⟩, rfl⟩
end Go.Proofs.YtgdijbaodfghjaaGreatDoor

/-
  Flows that are put together by a hash are their machine.
-/
namespace Go.Proofs.YtgdijbaodfghjaaGreatDoor
open Go.RowKit Bkt
set_option linter.unusedVariables false

theorem hsh_put_meth (g : Nat) : Meth (.iface 104 (.pointer (some ⟨g, 0, none⟩))) "Put" 125 (.pointer (some ⟨g, 0, none⟩)) := by
  intro args w; kernel_rfl
theorem hsh_take_meth (g : Nat) : Meth (.iface 104 (.pointer (some ⟨g, 0, none⟩))) "Take" 126 (.pointer (some ⟨g, 0, none⟩)) := by
  intro args w; kernel_rfl
theorem hsh_when_meth (g : Nat) : Meth (.iface 104 (.pointer (some ⟨g, 0, none⟩))) "When" 127 (.pointer (some ⟨g, 0, none⟩)) := by
  intro args w; kernel_rfl
theorem hsh_len_meth (g : Nat) : Meth (.iface 104 (.pointer (some ⟨g, 0, none⟩))) "Len" 124 (.pointer (some ⟨g, 0, none⟩)) := by
  intro args w; kernel_rfl
theorem hsh_bytes_meth (g : Nat) : Meth (.iface 104 (.pointer (some ⟨g, 0, none⟩))) "Bytes" 123 (.pointer (some ⟨g, 0, none⟩)) := by
  intro args w; kernel_rfl
theorem HI_len {P : Pl.HP} {s : Pl.HS} {f : Nat} (hf : f < P.m) : (s.L f).length ≤ (Pl.waitH P.m s).length := by
  have := flat_lenR (G := fun f => (s.L f).map Pl.key) (List.mem_range.2 hf)
  simpa [Pl.waitH] using this
theorem HI_tl {P : Pl.HP} {s : Pl.HS} (h : Pl.HI P s) : s.T.length ≤ P.m := nodup_lt P.m s.T h.h.nd fun x hx => (h.h.ne x hx).1
structure HInvM (base g gl : Nat) (P : Pl.HP) (s : Pl.HS) (k : Nat) (F : Nat → Prop) (w : World) (cs ls : Array Value) (V : Nat → Value) (tv : Value) : Prop where
  d : Hsh w base g gl cs ls V tv P s (Pl.waitH P.m s).length
  hi : Pl.HI P s
  n : (Pl.waitH P.m s).length ≤ k
  k1 : k ≤ 1000
  bs : base ≤ w.heap.size
  bg : base ≤ g
  bl : base ≤ gl
  mF : ∀ i, F i ↔ (i = g ∨ i = gl ∨ HF P.m V tv i)
def HInv1 (base g gl : Nat) (P : Pl.HP) (s : Pl.HS) (k : Nat) (F : Nat → Prop) (w : World) : Prop := ∃ cs ls V tv, HInvM base g gl P s k F w cs ls V tv
section
variable {w w' : World} {base g gl k : Nat} {P : Pl.HP} {s s' : Pl.HS} {F : Nat → Prop} {cs cs' ls ls' : Array Value} {V V' : Nat → Value} {tv tv' : Value}
theorem HInvM.hds (h : HInvM base g gl P s k F w cs ls V tv) : ∀ f, f < P.m → HdsOk (s.L f) := fun f hf =>
  ⟨by have := HI_len (s := s) hf; have := h.n; have := h.k1; omega, fun x hx => by have := h.hi.h.b f hf x hx; omega⟩
theorem HInvM.lt (h : HInvM base g gl P s k F w cs ls V tv) : ∀ i, F i → base ≤ i ∧ i < w.heap.size := fun i hi => by
  rcases (h.mF i).1 hi with e | e | e
  · subst e; exact ⟨h.bg, h.d.blk.lt⟩
  · subst e; exact ⟨h.bl, h.d.lk.lt⟩
  · exact h.d.rlt i e
theorem HInvM.chg {S : Nat → Prop} (h : HInvM base g gl P s k F w cs ls V tv) (hc : Chg w w' S) (hn : ∀ i, F i → ¬ S i) : HInvM base g gl P s k F w' cs ls V tv :=
  ⟨h.d.chg hc (hn _ ((h.mF _).2 (.inl rfl))) (hn _ ((h.mF _).2 (.inr (.inl rfl)))) (fun i hi => hn _ ((h.mF _).2 (.inr (.inr hi)))), h.hi, h.n, h.k1, Nat.le_trans h.bs hc.size, h.bg, h.bl, h.mF⟩
theorem HInvM.to (h : HInvM base g gl P s k F w cs ls V tv) (hd : Hsh w' base g gl cs' ls' V' tv' P s' (Pl.waitH P.m s').length) (ht : HTrn w w' g gl P.m V tv V' tv') (hi : Pl.HI P s') (k' : Nat) (hn : (Pl.waitH P.m s').length ≤ k') (hk : k' ≤ 1000) :
    ∃ F', HInv1 base g gl P s' k' F' w' ∧ Chg w w' F ∧ ∀ i, F' i → F i ∨ w.heap.size ≤ i := by
  refine ⟨fun i => i = g ∨ i = gl ∨ HF P.m V' tv' i, ⟨cs', ls', V', tv', hd, hi, hn, hk, Nat.le_trans h.bs ht.chg.size, h.bg, h.bl, fun i => Iff.rfl⟩, ht.chg.mono (fun i _ hi => (h.mF i).2 hi), fun i hi => ?_⟩
  rcases hi with e | e | e
  · exact .inl ((h.mF i).2 (.inl e))
  · exact .inl ((h.mF i).2 (.inr (.inl e)))
  · exact (ht.at_ i e).imp (fun e => (h.mF i).2 (.inr (.inr e))) id
end
theorem hsh_imp (base g gl : Nat) (P : Pl.HP) (hP : Pl.HPOk P) : QImp (Pl.hashM P) (.iface 104 (.pointer (some ⟨g, 0, none⟩))) base (HInv1 base g gl P) where
  lt := fun s k F w ⟨cs, ls, V, tv, h⟩ => h.lt
  base := fun s k F w ⟨cs, ls, V, tv, h⟩ => h.bs
  chg := fun s k F w w' S ⟨cs, ls, V, tv, h⟩ hc hn => ⟨cs, ls, V, tv, h.chg hc hn⟩
  put := ⟨_, _, hsh_put_meth g, fun s k F w now x ⟨cs, ls, V, tv, h⟩ hk hx => by
    have hrm := h.n; have hk1 := h.k1; have htl := HI_tl h.hi; have hm := hP.m.2
    refine (hshPut_any base g gl cs ls V tv P s now x w h.d h.hi hP hx.ok h.bs h.hds (by omega) (by omega)).mono fun e w' ho => ?_
    obtain ⟨A, c, cs', ls', V', tv', e1, hrd, ha, hd, ht⟩ := ho
    have hpi := Pl.putH_ok hP h.hi hx.ok
    have hgp := (Pl.hash_good P hP).put s now x h.hi hx.ok
    have hln := hgp.2.length_eq
    rw [List.length_append, List.length_append, List.length_map] at hln
    have hl1 : (Pl.waitH P.m s).length + 1 = (Pl.putH P x s).1.length + (Pl.waitH P.m (Pl.putH P x s).2).length := hln
    obtain ⟨F', g1, g2, g3⟩ := h.to hd ht hpi.hi (k + 1) (by omega) (by omega)
    refine ⟨A, _, c, F', e1, ?_, hrd, fun ad e => .inr (ha ad e), g1, g2, g3⟩
    show (Pl.putH P x s).1.length ≤ 100000
    rcases hpi.ways with ⟨_, e⟩ | ⟨_, _, _, _, _, e⟩
    · rw [e]; simp
    · rw [e]; simp⟩
  take := ⟨_, _, hsh_take_meth g, fun s k F w now ⟨cs, ls, V, tv, h⟩ h0 h1 => by
    have hrm := h.n; have hk1 := h.k1; have htl := HI_tl h.hi; have hm := hP.m.2
    refine (hshTake_any base g gl cs ls V tv P s now w h.d h.hi h.bs h.hds (by omega) (by omega)).mono fun e w' ho => ?_
    obtain ⟨hh, cs', ls', V', tv', e1, e2, hd, ht⟩ := ho
    have hgp := (Pl.hash_good P hP).take s now h.hi
    have hln := hgp.2.length_eq
    rw [List.length_append, List.length_append] at hln
    have hl1 : (Pl.waitH P.m s).length = 0 + (((Pl.takeH s).1.toList.map Pl.key).length + (Pl.waitH P.m (Pl.takeH s).2).length) := hln
    obtain ⟨F', g1, g2, g3⟩ := h.to hd ht (Pl.takeH_ok h.hi).hi k (by omega) (by omega)
    exact ⟨hh, none, 0, 0, F', e1, e2, by omega, Reads.none_, fun ad e => (by cases e), g1, g2, g3⟩⟩
  when_ := ⟨_, _, hsh_when_meth g, fun s k F w now ⟨cs, ls, V, tv, h⟩ _ _ => by
    refine (hshWhen_any base g gl cs ls V tv P s _ now w h.d).mono fun e w' ⟨e1, q, e2⟩ => ?_
    subst e2
    have hb : Below w.heap.size w (w.drewN q) := bl_drewN (Below.refl _ _)
    refine ⟨now, F, ?_, ?_, ⟨cs, ls, V, tv, h.chg (Chg.of_below (S := fun _ => False) hb) (fun _ _ h => h)⟩, Chg.of_below hb, fun i hi => .inl hi⟩
    · rw [e1]
      show Ending.returned (.tuple #[.int .i64 now, .bool (decide ((0 : Int) < ((Pl.waitH P.m s).length : Int)))]) = .returned (.tuple #[.int .i64 now, .bool (if 0 < (Pl.waitH P.m s).length then some now else none).isSome])
      by_cases h0 : 0 < (Pl.waitH P.m s).length
      · rw [if_pos h0, decide_eq_true (by omega)]; rfl
      · rw [if_neg h0, decide_eq_false (by omega)]; rfl
    · intro x hx
      have hx' : (if 0 < (Pl.waitH P.m s).length then some now else none) = some x := hx
      by_cases h0 : 0 < (Pl.waitH P.m s).length
      · rw [if_pos h0] at hx'; injection hx'
      · rw [if_neg h0] at hx'; cases hx'⟩
  len := ⟨_, _, hsh_len_meth g, fun s k F w ⟨cs, ls, V, tv, h⟩ => (hshLen_any base g gl cs ls V tv P s _ w h.d).mono fun e w' ⟨e1, e2⟩ => ⟨e1, by subst e2; exact Below.refl _ _⟩⟩
  bytes := ⟨_, _, hsh_bytes_meth g, fun s k F w ⟨cs, ls, V, tv, h⟩ => (hshBytes_any base g gl cs ls V tv P s _ w h.d hP h.hds).mono fun e w' ⟨e1, e2⟩ => ⟨e1, by subst e2; exact Below.refl _ _⟩⟩
theorem Hsh.inv0 {w : World} {base g gl : Nat} {cs ls : Array Value} {P : Pl.HP} (hP : Pl.HPOk P) (h : Hsh w base g gl cs ls (fun _ => .slice none 0 0) (.slice none 0 0) P Pl.hs0 0) (hg : base ≤ g) (hgl : base ≤ gl) : HInv1 base g gl P Pl.hs0 0 (fun i => i = g ∨ i = gl) w :=
  ⟨cs, ls, _, _, by rw [Pl.wait_hs0]; exact h, Pl.hs0_ok hP, by rw [Pl.wait_hs0]; exact Nat.le_refl _, by omega, Nat.le_trans hg (Nat.le_of_lt h.blk.lt), hg, hgl, fun i => by simp [HF, Value.ownBlock]⟩
end Go.Proofs.YtgdijbaodfghjaaGreatDoor
