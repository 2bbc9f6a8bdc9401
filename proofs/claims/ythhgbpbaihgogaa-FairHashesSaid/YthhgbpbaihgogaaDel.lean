/-
  slices.DeleteFunc on the turns of flows by a hash: the one that is told is taken out.
-/
import Derived.Test.YthhgbpbaihgogaaHsh
import Derived.Lib.SliceRun
namespace Go.Proofs.Ythhgbpbaihgogaa
open Go.RowKit Bkt
set_option linter.unusedVariables false

theorem hdel_any (x j : Int) (kb : Nat) (w : World) (hc : w.cell? ⟨kb, 0, none⟩ = some (.int .i64 j)) : Calls Try.prog 84 #[.int .i64 x, .pointer (some ⟨kb, 0, none⟩)] w fun e w' => e = .returned (.bool (x == j)) ∧ w' = w := by
  go_enter Try.func84, Try.ntmps84
  go_wp2_with fail
  go_ret
  exact ⟨rfl, rfl⟩
theorem OwnW.short {w : World} {base e size n c k : Nat} {A : Option Addr} {xs : List Value} (h : OwnW w base e size (.slice A n c) n xs) (hk : k ≤ n) (hn : 1 ≤ n) : OwnW w base e size (.slice A k c) k (xs.take (k * size)) := by
  obtain ⟨h0, ⟨hv, h1⟩ | ⟨g, o, c', cur, hv, hb, hgg, hnc, hm, hs, ht⟩⟩ := h
  · omega
  · injection hv with hA _ hc
    subst hA; subst hc
    have h1 : k * size ≤ n * size := Nat.mul_le_mul_right _ hk
    refine ⟨by rw [List.length_take, h0]; omega, .inr ⟨g, o, c, cur, rfl, hb, hgg, by omega, hm, hs, fun j u hj => ?_⟩⟩
    rw [List.getElem?_take] at hj
    split at hj
    · exact ht j u hj
    · cases hj
/-- a cell behind the row: the row is as it was -/
theorem OwnW.setI_out {w : World} {base e size n c g o k : Nat} {xs : List Value} {u : Value} (h : OwnW w base e size (.slice (some ⟨g, o, none⟩) n c) n xs) (hk : n * size ≤ k) : OwnW (w.setCell ⟨g, o + k, none⟩ u) base e size (.slice (some ⟨g, o, none⟩) n c) n xs := by
  obtain ⟨h0, ⟨hv, h1⟩ | ⟨g', o', c', cur, hv, hb, hgg, hnc, hm, hs, ht⟩⟩ := h
  · cases hv
  · injection hv with hA _ hc
    injection hA with hA
    injection hA with e1 e2 _
    subst e1 e2 hc
    refine ⟨h0, .inr ⟨g, o, c, _, rfl, hb, hgg.set_ (o + k) u, hnc, hm, by simpa using hs, fun j v hj => ?_⟩⟩
    have hjl : j < n * size := by
      rcases Nat.lt_or_ge j xs.length with h' | h'
      · omega
      · rw [List.getElem?_eq_none h'] at hj; cases hj
    rw [Array.getElem?_setIfInBounds, if_neg (by omega)]
    exact ht j v hj
theorem tnL_get {T : List Nat} {i : Nat} (h : i < T.length) : (tnL T).getD i 0 = ((T.getD i 0 : Nat) : Int) := by
  simp [tnL, List.getD, List.getElem?_eq_getElem h]
set_option maxHeartbeats 1000000 in
/-- the first one that is j -/
theorem hindex_any (base : Nat) (A : Option Addr) (c : Nat) (T1 T2 : List Nat) (j : Nat) (kb : Nat) (w : World) (h : OwnW w base 3 1 (.slice A (T1 ++ j :: T2).length c) (T1 ++ j :: T2).length ((tnL (T1 ++ j :: T2)).flatMap IntR.cells)) (hn : (T1 ++ j :: T2).length ≤ 1000) (hj : j ∉ T1) (hc : w.cell? ⟨kb, 0, none⟩ = some (.int .i64 (j : Int))) :
    Calls Try.prog 47 #[.slice A (T1 ++ j :: T2).length c, .func (.func 84) #[] #[.pointer (some ⟨kb, 0, none⟩)]] w fun e w' => e = .returned (.int .i64 (T1.length : Int)) ∧ w' = w := by
  obtain ⟨T, hT⟩ : ∃ T, T = T1 ++ j :: T2 := ⟨_, rfl⟩
  have hl : T.length = T1.length + T2.length + 1 := by rw [hT]; simp; omega
  have hget : ∀ i, i < T1.length → T.getD i 0 ≠ j := fun i hi e => by
    rw [hT, List.getD, List.getElem?_append_left hi, List.getElem?_eq_getElem hi] at e
    exact hj (by rw [← show T1[i] = j from e]; exact List.getElem_mem _)
  have hgj : T.getD T1.length 0 = j := by rw [hT, List.getD, List.getElem?_append_right (Nat.le_refl _)]; simp
  rw [← hT] at h hn ⊢
  have H := Lib.hid h; have HG := Lib.hid hget; have HGJ := Lib.hid hgj; have HL := Lib.hid hl
  clear h hget hgj hT hj
  obtain ⟨n, hnl⟩ : ∃ n, n = T.length := ⟨_, rfl⟩
  rw [← hnl] at hl hn H ⊢
  obtain ⟨n1, hn1⟩ : ∃ n1, n1 = T1.length := ⟨_, rfl⟩
  rw [← hn1] at hl ⊢
  have HN := Lib.hid hnl; have HN1 := Lib.hid hn1
  have hlt1 : n1 < n := by omega
  clear hnl hn1 hl HL
  go_enter Try.func47, Try.ntmps47
  go_wp2_with fail
  go_loopw [8] (fun i wr => ∃ k : Nat, k ≤ n1 ∧ i = .int .i64 k ∧ wr = w) (fun i _ => n - (intOf i).toNat)
  case atStart => exact ⟨0, Nat.zero_le _, rfl, rfl⟩
  case round =>
    obtain ⟨k, hk, rfl, rfl⟩ := hrel
    obtain ⟨g, o, rfl, hcx, _, _, _⟩ := intR_at H.out (k := k) (by omega)
    rw [tnL_get (by have := HN.out; omega)] at hcx
    have ik : (k : Int) < (n : Int) := by omega
    have hp := hdel_any ((T.getD k 0 : Nat) : Int) (j : Int) kb wr hc
    by_cases e : k = n1
    · have e2 : T.getD k 0 = j := by rw [e, HN1.out]; exact HGJ.out
      rw [e2] at hp hcx
      have t1 : ((j : Int) == (j : Int)) = true := by simp
      have HP := Lib.hid hp
      clear hp e2
      subst e
      go_wp2_with (go_at_call 84; (with_reducible refine HP.out.mono ?_); rintro e w' ⟨rfl, rfl⟩)
      go_ret
      exact ⟨rfl, rfl⟩
    · have e2 := HG.out k (by have := HN1.out; omega)
      have t1 : (((T.getD k 0 : Nat) : Int) == (j : Int)) = false := by rw [beq_eq_false_iff_ne]; omega
      generalize ((T.getD k 0 : Nat) : Int) = y at *
      have HP := Lib.hid hp
      clear hp e2
      go_wp2_with (go_at_call 84; (with_reducible refine HP.out.mono ?_); rintro e w' ⟨rfl, rfl⟩)
      exact ⟨⟨k + 1, by omega, by go_num, by first | rfl | trivial⟩, by simp [intOf]; omega⟩

theorem run_tailQ {P : Program} {t e : TypeId} {i : TypeInfo} (ht : P.underlying t = some (.slice e)) (hi : P.info? e = some i) (hs : i.size = 1) (g off n c k : Nat) (hk : k ≤ n) (hc : k < c) :
    ∀ w, (Instr.sliceAt t (.slice (some ⟨g, off, none⟩) n c) (some (.int .i64 (k : Int))) none none).run P w = .ok (.slice (some ⟨g, off + k, none⟩) (n - k) (c - k)) w := fun w => by
  have he : P.elem t = e := by simp [Program.elem, ht]
  have ht' : P.underlying t = some (.slice (P.elem t)) := by rw [he]; exact ht
  rw [run_sliceAt_slice w t _ _ _ _ ht', run_slice_l w t (some ⟨g, off, none⟩) n c ht' .i64 (k : Int) (by omega) (by omega), he]
  have hne : c ≠ k := by omega
  simp [sizeOf, typeInfo, hi, hs, Result.andThen, sliced, Addr.add, hne]
theorem run_headQ {P : Program} {t e : TypeId} {i : TypeInfo} (ht : P.underlying t = some (.slice e)) (hi : P.info? e = some i) (hs : i.size = 1) (g off n c k : Nat) (hk : k ≤ c) :
    ∀ w, (Instr.sliceAt t (.slice (some ⟨g, off, none⟩) n c) none (some (.int .i64 (k : Int))) none).run P w = .ok (.slice (some ⟨g, off, none⟩) k c) w := fun w => by
  have he : P.elem t = e := by simp [Program.elem, ht]
  have ht' : P.underlying t = some (.slice (P.elem t)) := by rw [he]; exact ht
  rw [run_sliceAt_slice w t _ _ _ _ ht', run_slice_h w t (some ⟨g, off, none⟩) n c ht' .i64 (k : Int) (by omega) (by omega), he]
  simp [sizeOf, typeInfo, hi, hs, Result.andThen, sliced, Addr.add]
theorem run_clear1 (g off c : Nat) (ty : TypeId) (w : World) (h : (w.cell? ⟨g, off, none⟩).isSome = true) (hf : w.frozen? ⟨g, off, none⟩ = false) :
    (Builtin.clear_ #[32] ty #[.slice (some ⟨g, off, none⟩) 1 c]).run Try.prog w = .ok (.tuple #[]) (w.setCell ⟨g, off, none⟩ (.int .i64 0)) := by
  have h1 : ∀ j, j < 1 → (w.cell? ⟨g, off + j, none⟩).isSome = true := fun j hj => by
    obtain rfl : j = 0 := by omega
    exact h
  have h2 : ∀ j, j < 1 → w.frozen? ⟨g, off + j, none⟩ = false := fun j hj => by
    obtain rfl : j = 0 := by omega
    exact hf
  have := Go.Lib.run_clear_slice (P := Try.prog) w 32 3 ty (.int .i64 0) Try.underlying32 (fun w => by kernel_rfl) rfl rfl g off 1 c (by omega) h1 h2
  exact this

/-- the turns while one is taken out: m behind it have moved up -/
def delL (T1 T2 : List Nat) (m : Nat) (y : Int) : List Int := tnL (T1 ++ T2.take m) ++ [y] ++ tnL (T2.drop m)
theorem delL_start (T1 T2 : List Nat) (j : Nat) : tnL (T1 ++ j :: T2) = delL T1 T2 0 (j : Int) := by simp [delL, tnL]
theorem delL_end (T1 T2 : List Nat) (y : Int) : delL T1 T2 T2.length y = tnL (T1 ++ T2) ++ [y] := by simp [delL, tnL]
theorem delL_get {T1 T2 : List Nat} {m : Nat} (h : m < T2.length) (y : Int) : (delL T1 T2 m y).getD (T1.length + m + 1) 0 = ((T2.getD m 0 : Nat) : Int) := by
  have hl : (tnL (T1 ++ T2.take m) ++ [y]).length = T1.length + m + 1 := by simp [tnL]; omega
  unfold delL
  rw [List.getD, List.getElem?_append_right (by omega), hl, Nat.sub_self]
  simp [tnL, List.getD, List.getElem?_eq_getElem h]
theorem delL_set {T1 T2 : List Nat} {m : Nat} (h : m < T2.length) (y : Int) : (delL T1 T2 m y).set (T1.length + m) ((T2.getD m 0 : Nat) : Int) = delL T1 T2 (m + 1) ((T2.getD m 0 : Nat) : Int) := by
  have hl : (tnL (T1 ++ T2.take m)).length = T1.length + m := by simp [tnL]; omega
  have hd : T2.drop m = T2.getD m 0 :: T2.drop (m + 1) := by
    rw [List.drop_eq_getElem_cons h]
    simp [List.getD, List.getElem?_eq_getElem h]
  have ht : T2.take (m + 1) = T2.take m ++ [T2.getD m 0] := by
    rw [List.take_add_one]
    simp [List.getD, List.getElem?_eq_getElem h]
  unfold delL
  rw [List.append_assoc, List.set_append_right _ _ (by omega), hl, Nat.sub_self, hd, ht]
  simp [tnL]
theorem Chg.grown {w w' : World} {g : Nat} (h : Chg w w' (fun i => i = g)) : w.grownBy w' (some g) := ⟨h.os, h.tape, h.output, h.size, fun i hi hne => h.block i hi fun e => hne (by rw [e])⟩
set_option maxHeartbeats 2000000 in
set_option maxRecDepth 100000 in
theorem hdelete_any (base g o c n : Nat) (T1 T2 : List Nat) (j : Nat) (kb : Nat) (w : World) (hnl : n = (T1 ++ j :: T2).length) (h : OwnW w base 3 1 (.slice (some ⟨g, o, none⟩) n c) n ((tnL (T1 ++ j :: T2)).flatMap IntR.cells)) (hn : n ≤ 1000) (hj1 : j ∉ T1) (hj2 : j ∉ T2)
    (hc : w.cell? ⟨kb, 0, none⟩ = some (.int .i64 (j : Int))) (hkl : kb < w.heap.size) (hkb : kb ≠ g) :
    Calls Try.prog 83 #[.slice (some ⟨g, o, none⟩) n c, .func (.func 84) #[] #[.pointer (some ⟨kb, 0, none⟩)]] w
      fun e w' => e = .returned (.slice (some ⟨g, o, none⟩) (T1 ++ T2).length c) ∧ OwnW w' base 3 1 (.slice (some ⟨g, o, none⟩) (T1 ++ T2).length c) (T1 ++ T2).length ((tnL (T1 ++ T2)).flatMap IntR.cells) ∧ w.grownBy w' (some g) := by
  have hix := hindex_any base (some ⟨g, o, none⟩) c T1 T2 j kb w (by rw [← hnl]; exact h) (by omega) hj1 hc
  rw [← hnl] at hix
  have hcn : n ≤ c := by
    rcases h.2 with ⟨e, _⟩ | ⟨_, _, _, _, e, _, _, hcc, _⟩
    · cases e
    · injection e with _ _ e3; omega
  rw [delL_start] at h
  have hl : n = T1.length + T2.length + 1 := by rw [hnl]; simp; omega
  have HIX := Lib.hid hix; have H := Lib.hid h
  have hne : ∀ m, m < T2.length → ((((T2.getD m 0 : Nat) : Int)) == (j : Int)) = false := fun m hm => by
    rw [beq_eq_false_iff_ne]
    intro e
    have e2 : T2.getD m 0 = j := by omega
    rw [List.getD, List.getElem?_eq_getElem hm] at e2
    exact hj2 (by rw [← show T2[m] = j from e2]; exact List.getElem_mem _)
  have HNE := Lib.hid hne
  have hl12 : (T1 ++ T2).length = T1.length + T2.length := by simp
  rw [hl12]
  obtain ⟨i0, hi, hz0, hz1, hz2⟩ := info_parts Try.intInfo
  obtain ⟨n1, hn1⟩ : ∃ n1, n1 = T1.length := ⟨_, rfl⟩
  obtain ⟨n2, hn2⟩ : ∃ n2, n2 = T2.length := ⟨_, rfl⟩
  have hset := fun m (hm : m < n2) y => delL_set (T1 := T1) (T2 := T2) (m := m) (by omega) y
  have hget := fun m (hm : m < n2) y => delL_get (T1 := T1) (T2 := T2) (m := m) (by omega) y
  rw [← hn1] at hset hget HIX hl
  rw [← hn2] at HNE hl
  rw [← hn1, ← hn2]
  have HSET := Lib.hid hset; have HGET := Lib.hid hget; have HN1 := Lib.hid hn1; have HN2 := Lib.hid hn2
  have hnn : n1 < n := by omega
  have HLN := Lib.hid hl
  clear hix h hne hl12 hset hget hn1 hn2 hj1 hj2 hnl hl
  go_enter Try.func83, Try.ntmps83
  have t0 : ((n1 : Int) == -1) = false := by rw [beq_eq_false_iff_ne]; omega
  have e1 : IntKind.i64.wrap ((n1 : Int) + 1) = (n1 : Int) + 1 := IntWalk.i64_in _ (by omega)
  go_wp2_with (go_at_call 47; (with_reducible refine HIX.out.mono ?_); rintro e w' ⟨rfl, rfl⟩)
  go_loopw [5, 6] (fun i jj wr => ∃ (m : Nat) (y : Int), m ≤ n2 ∧ i = .int .i64 ((n1 + m : Nat) : Int) ∧ jj = .int .i64 ((n1 + m : Nat) + 1 : Int) ∧ OwnW wr base 3 1 (.slice (some ⟨g, o, none⟩) n c) n ((delL T1 T2 m y).flatMap IntR.cells) ∧ Chg w' wr (fun i => i = g)) (fun _ jj _ => n - (intOf jj).toNat)
  case atStart => exact ⟨0, j, Nat.zero_le _, rfl, rfl, H.out, Chg.refl _ _⟩
  case round =>
    obtain ⟨m, y, hm, rfl, rfl, hown, hch⟩ := hrel
    have HOWN := Lib.hid hown; have HCH := Lib.hid hch
    clear hown hch H
    by_cases hlt : m < n2
    · obtain ⟨g', o', e, hcx, hfx, hgl, _⟩ := intR_at HOWN.out (k := n1 + m + 1) (by have := HLN.out; omega)
      injection e with e; injection e with e2 e3
      subst e2 e3
      rw [HGET.out m hlt] at hcx
      obtain ⟨_, _, e, hcy, hfy, _, _⟩ := intR_at HOWN.out (k := n1 + m) (by have := HLN.out; omega)
      injection e with e; injection e with e2 e3
      subst e2 e3
      have t1 := HNE.out m hlt
      have hset := HSET.out m hlt y
      have hown2 := HOWN.out.setI (k := n1 + m) (by have := HLN.out; omega) ((T2.getD m 0 : Nat) : Int)
      rw [hset] at hown2
      have hch2 := HCH.out.setCell (p := ⟨g, o + (n1 + m), none⟩) (fun _ => rfl) (.int .i64 ((T2.getD m 0 : Nat) : Int))
      have hck : wr.cell? ⟨kb, 0, none⟩ = some (.int .i64 (j : Int)) := (HCH.out.cell (p := ⟨kb, 0, none⟩) hkl hkb).trans hc
      have hp := hdel_any ((T2.getD m 0 : Nat) : Int) (j : Int) kb wr hck
      have HOWN2 := Lib.hid hown2; have HCH2 := Lib.hid hch2
      generalize ((T2.getD m 0 : Nat) : Int) = v at *
      have HP := Lib.hid hp
      have hn12 : n1 + m + 1 < n := by have := HLN.out; omega
      clear hset hown2 hch2 hck hp HCH HOWN
      generalize hu : n1 + m = u at *
      have HU := Lib.hid hu
      clear hu
      have iu : (u : Int) + 1 < (n : Int) := by omega
      have e5 : IntKind.i64.wrap ((u : Int) + 1) = (u : Int) + 1 := IntWalk.i64_in _ (by omega)
      have e6 : IntKind.i64.wrap ((u : Int) + 1 + 1) = (u : Int) + 1 + 1 := IntWalk.i64_in _ (by omega)
      have hcx' : wr.cell? ⟨g, o + (u + 1), none⟩ = some (.int .i64 v) := hcx
      clear hcx
      go_wp2_with (go_at_call 84; (with_reducible refine HP.out.mono ?_); rintro e w'' ⟨rfl, rfl⟩)
      exact ⟨⟨m + 1, v, by omega, by congr 1; have := HU.out; omega, by congr 1; have := HU.out; omega, HOWN2.out, HCH2.out⟩, by simp [intOf]; omega⟩
    · obtain rfl : n2 = m := by omega
      obtain ⟨g', o', e, hcx, hfx, hgl, _⟩ := intR_at HOWN.out (k := n1 + n2) (by have := HLN.out; omega)
      injection e with e; injection e with e2 e3
      subst e2 e3
      have hown := HOWN.out
      rw [HN2.out, delL_end] at hown
      have hln : (T1 ++ T2).length = n1 + n2 := by simp [HN1.out, HN2.out]
      have hsh := (OwnW.short (k := n1 + n2) hown (by have := HLN.out; omega) (by have := HLN.out; omega))
      have hel : (((tnL (T1 ++ T2) ++ [y]).flatMap IntR.cells).take ((n1 + n2) * 1)) = (tnL (T1 ++ T2)).flatMap IntR.cells := by
        rw [List.flatMap_append]
        have hl : ((tnL (T1 ++ T2)).flatMap IntR.cells).length = (n1 + n2) * 1 := by
          have := flatR_len (R := IntR) (tnL (T1 ++ T2))
          rw [this, tnL_len, hln]
          rfl
        rw [← hl, List.take_left]
      rw [hel] at hsh
      have hfin := hsh.setI_out (u := .int .i64 0) (k := n1 + n2) (by omega)
      have hch2 := HCH.out.setCell (p := ⟨g, o + (n1 + n2), none⟩) (fun _ => rfl) (.int .i64 0)
      have hgr := hch2.grown
      have hnn2 : n - (n1 + n2) = 1 := by have := HLN.out; omega
      have hs1 := run_tailQ (P := Try.prog) Try.underlying32 hi hz1 g o n c (n1 + n2) (by have := HLN.out; omega) (by have := HLN.out; omega)
      have hs2 := run_headQ (P := Try.prog) Try.underlying32 hi hz1 g o n c (n1 + n2) (by have := HLN.out; omega)
      have hcl := fun ty c' => run_clear1 g (o + (n1 + n2)) c' ty wr (by rw [hcx]; rfl) hfx
      rw [hnn2] at hs1
      have HFIN := Lib.hid hfin; have HGR := Lib.hid hgr
      have hov : (n : Int) ≤ ((n1 + n2 : Nat) : Int) + 1 := by have := HLN.out; omega
      have tt : (((n1 + n2 : Nat) : Int) + 1 < (n : Int)) = False := by simp; omega
      clear hown hsh hel hfin hch2 hgr hcx hfx HOWN HCH hnn2 hln
      generalize hu : n1 + n2 = u at *
      have HU := Lib.hid hu
      clear hu
      go_wp2_with fail
      go_ret
      rw [HU.out]
      exact ⟨rfl, HFIN.out, HGR.out⟩
end Go.Proofs.Ythhgbpbaihgogaa
