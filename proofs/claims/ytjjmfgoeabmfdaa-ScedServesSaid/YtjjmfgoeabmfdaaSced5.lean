/-
  What promised tells (true); what the make tells, where it may or may not.
-/
import Derived.Test.YtjjmfgoeabmfdaaSced4
namespace Go.Proofs.Ytjjmfgoeabmfdaa
open Go.RowKit Crv
set_option linter.unusedVariables false

def fsP (B : Nat) : Nat → FV := fun _ => ⟨some ⟨B, 0, none⟩, 1, 1, [1], some ⟨B + 1, 0, none⟩, 4, 4, [0, 0, 1, 2]⟩
theorem RdF.drewN {w : World} {B m : Nat} {A : Option Addr} {fs : Nat → FV} (h : RdF w B A m fs) (n : Nat) : RdF (w.drewN n) B A m fs := ⟨h.cells, h.come, h.prom⟩
/-- all that the laws ask of the plan -/
theorem fits_hf {m T : Nat} {fs : Nat → FV} (h : FitsP m fs) (h1 : 1 ≤ m) (hr : InRange m fs T) : ∀ t, t ≤ (plOf m fs T).ticks → Sced.sumF (fun i => at0 ((plOf m fs T).fl i).prom t) (plOf m fs T).m ≤ t := fun t ht => by
  refine h t ?_
  have h2 : T + 1 ≤ minN fs m := le_minN fs (T + 1) (by have := (hr 0 h1).2; omega) m (fun i hi => by have := (hr i hi).2; omega)
  have h3 : t ≤ T := ht
  omega
theorem okP : Okay [0, 0, 1, 2] := by
  refine ⟨by decide, by decide, ?_, ?_, ?_⟩
  · intro i hi
    have hi' : i < 4 := hi
    match i, hi' with
    | 0, _ => decide
    | 1, _ => decide
    | 2, _ => decide
    | 3, _ => decide
  · intro i hi
    have hi' : i < 4 := hi
    match i, hi' with
    | 0, _ => decide
    | 1, _ => decide
    | 2, _ => decide
    | 3, _ => decide
  · intro i hi
    have hi' : i + 1 < 4 := hi
    match i, hi' with
    | 0, _ => decide
    | 1, _ => decide
    | 2, _ => decide
theorem comeP : ∀ i, i < 1 → 0 ≤ at0 [1] i ∧ at0 [1] i ≤ 100 := fun i hi => by
  obtain rfl : i = 0 := by omega
  decide
theorem sumP : ∀ i, i ≤ 1 → sumTo [1] i ≤ 100 := fun i hi => by
  match i, hi with
  | 0, _ => decide
  | 1, _ => decide
theorem fsP_ok (B : Nat) : SOk 1 (fsP B) := ⟨by omega, by omega, fun i hi => ⟨okP, rfl, (by show 1 < 4; omega), comeP, sumP⟩⟩
theorem fsP_rng (B : Nat) : InRange 1 (fsP B) ((3 : Nat) : Int) := fun i _ => ⟨by show ((1 : Nat) : Int) ≤ _; omega, by show _ < ((4 : Nat) : Int); omega⟩
theorem fsP_sent (B : Nat) : Sced.sentL (plOf 1 (fsP B) 3) 3 = [0, -1, -1] := by rfl
theorem fsP_due (B : Nat) : tab (totK (fsP B) 0) (dueF (fsP B 0).xs (fsP B 0).zs 3) = [2] := by rfl
theorem fsP_thr (B : Nat) : Sced.thrF (plOf 1 (fsP B) 3) 0 (totK (fsP B) 0) = [1] := by rfl
theorem rdF_P (w : World) (ta tb tc : TypeId) : RdF (((w.alloc (.cells #[.int .i64 1] ta)).alloc (.cells #[.int .i64 0, .int .i64 0, .int .i64 1, .int .i64 2] tb)).alloc (.cells #[.slice (some ⟨w.heap.size, 0, none⟩) 1 1, .slice (some ⟨w.heap.size + 1, 0, none⟩) 4 4] tc))
    (w.heap.size + 1 + 1 + 1) (some ⟨w.heap.size + 1 + 1, 0, none⟩) 1 (fsP w.heap.size) := by
  obtain ⟨h1, h2, h3, _⟩ := blk3 w ta tb tc #[.int .i64 1] #[.int .i64 0, .int .i64 0, .int .i64 1, .int .i64 2] #[.slice (some ⟨w.heap.size, 0, none⟩) 1 1, .slice (some ⟨w.heap.size + 1, 0, none⟩) 4 4]
  refine ⟨fun _ => ⟨_, 0, rfl, by omega, fun i hi => ?_⟩, fun i hi => ?_, fun i hi => ?_⟩
  · obtain rfl : i = 0 := by omega
    exact ⟨h3.cell 0, h3.cell 1⟩
  · refine ⟨rfl, fun _ => ⟨_, rfl, by show w.heap.size < _; omega, fun j u hu => ?_⟩⟩
    have e1 : (⟨w.heap.size, 0, none⟩ : Addr).add j = ⟨w.heap.size, j, none⟩ := by unfold Addr.add; split <;> simp_all
    rw [e1, h1.cell j, ← hu]
    match j with
    | 0 => rfl
    | j + 1 => rfl
  · refine ⟨rfl, fun _ => ⟨_, rfl, by show w.heap.size + 1 < _; omega, fun j u hu => ?_⟩⟩
    have e1 : (⟨w.heap.size + 1, 0, none⟩ : Addr).add j = ⟨w.heap.size + 1, j, none⟩ := by unfold Addr.add; split <;> simp_all
    rw [e1, h2.cell j, ← hu]
    match j with
    | 0 => rfl
    | 1 => rfl
    | 2 => rfl
    | 3 => rfl
    | j + 4 => rfl

theorem rd_one {w : World} {g : Nat} {t : TypeId} {x : Int} (h : Blk w g t #[.int .i64 x]) : RdI w w.heap.size (some ⟨g, 0, none⟩) 1 [x] :=
  ⟨rfl, fun _ => ⟨_, rfl, h.lt, fun j u hu => by
    have e1 : (⟨g, 0, none⟩ : Addr).add j = ⟨g, j, none⟩ := by unfold Addr.add; split <;> simp_all
    rw [e1, h.cell j, ← hu]
    match j with
    | 0 => rfl
    | j + 1 => rfl⟩⟩
set_option maxHeartbeats 1000000 in
set_option maxRecDepth 100000 in
theorem promised_any (w : World) : Calls Try.prog 29 #[] w fun e w' => e = .returned (.bool true) ∧ Below w.heap.size w w' := by
  have hr := rdF_P w 3 3 42
  have hb0 : Below w.heap.size w (((w.alloc (.cells #[.int .i64 1] 3)).alloc (.cells #[.int .i64 0, .int .i64 0, .int .i64 1, .int .i64 2] 3)).alloc (.cells #[.slice (some ⟨w.heap.size, 0, none⟩) 1 1, .slice (some ⟨w.heap.size + 1, 0, none⟩) 4 4] 42)) := (blk3 w _ _ _ _ _ _).2.2.2
  have hs : (((w.alloc (.cells #[.int .i64 1] 3)).alloc (.cells #[.int .i64 0, .int .i64 0, .int .i64 1, .int .i64 2] 3)).alloc (.cells #[.slice (some ⟨w.heap.size, 0, none⟩) 1 1, .slice (some ⟨w.heap.size + 1, 0, none⟩) 4 4] 42)).heap.size = w.heap.size + 1 + 1 + 1 := by simp
  rw [← hs] at hr
  have hmk := make_yes (some ⟨w.heap.size + 1 + 1, 0, none⟩) 1 1 (fsP w.heap.size) 3 _ hr (fsP_ok _) (fsP_rng _)
  rw [show ((3 : Nat) : Int) = 3 from rfl] at hmk
  have HMK := Lib.hid hmk
  clear hr hs hmk
  go_enter Try.func29, Try.ntmps29
  go_wp2_with fail
  refine HMK.out.mono ?_
  rintro e w1 ⟨SA, Sc, gP, gT, rfl, hb1, hS, hP, hT⟩
  rw [fsP_sent] at hS
  obtain ⟨AP, cP, hPc, hPr⟩ := hP.2 0 (by omega)
  obtain ⟨AT, cT, hTc, hTr⟩ := hT.2 0 (by omega)
  dsimp only at hPc hPr hTc hTr
  rw [fsP_due] at hPc hPr
  rw [fsP_thr] at hTc hTr
  have hbw := hb0.trans (hb1.mono hb0.size)
  obtain ⟨bs, os, rfl, _⟩ := hS.addr (show 0 < 3 by omega)
  have d0 : w1.cell? ⟨bs, os, none⟩ = some (.int .i64 0) := by have := hS.all rfl 0 (by omega); exact this
  have d1 : w1.cell? ⟨bs, os + 1, none⟩ = some (.int .i64 (-1)) := by have := hS.all rfl 1 (by omega); exact this
  have hPc' : w1.cell? ⟨gP, 0, none⟩ = some (.slice AP 1 cP) := hPc
  have hTc' : w1.cell? ⟨gT, 0, none⟩ = some (.slice AT 1 cT) := hTc
  have hPr' : RdI w1 w1.heap.size AP 1 [2] := hPr
  have hTr' : RdI w1 w1.heap.size AT 1 [1] := hTr
  have hgP := hP.1; have hgT := hT.1
  clear hPc hTc hPr hTr hP hT hS HMK hb0 hb1
  have hkp := Blk.new w1 47 #[.slice (some ⟨bs, os, none⟩) 3 Sc, .slice (some ⟨gP, 0, none⟩) 1 1, .slice (some ⟨gT, 0, none⟩) 1 1]
  have hk2 := (blk2 w1 47 3 #[.slice (some ⟨bs, os, none⟩) 3 Sc, .slice (some ⟨gP, 0, none⟩) 1 1, .slice (some ⟨gT, 0, none⟩) 1 1] #[.int .i64 2]).2.1
  have hk1 := (blk2 w1 47 3 #[.slice (some ⟨bs, os, none⟩) 3 Sc, .slice (some ⟨gP, 0, none⟩) 1 1, .slice (some ⟨gT, 0, none⟩) 1 1] #[.int .i64 2]).1
  have hb2 := (blk2 w1 47 3 #[.slice (some ⟨bs, os, none⟩) 3 Sc, .slice (some ⟨gP, 0, none⟩) 1 1, .slice (some ⟨gT, 0, none⟩) 1 1] #[.int .i64 2]).2.2
  have ha2 := rd_one hk2
  have HPr := Lib.hid (hPr'.over hb2 (Nat.le_refl _)); have HTr := Lib.hid (hTr'.over hb2 (Nat.le_refl _)); have HA2 := Lib.hid ha2; have HK1 := Lib.hid hk1; have HBW := Lib.hid (bl_next hbw hb2); have HT2 := Lib.hid (hb2.cell (p := ⟨gT, 0, none⟩) hgT)
  clear hkp hk2 hk1 hb2 ha2 hPr' hTr' hbw
  go_wp2_with fail
  refine (same_yes _ _ 1 1 _ _ [2] [2] _ HPr.out HA2.out (by omega) rfl).mono ?_
  rintro e w2 ⟨rfl, hb3⟩
  have hk1 := HK1.out.below hb3 HK1.out.lt
  have q2 : w2.cell? ⟨w1.heap.size, 2, none⟩ = some (.slice (some ⟨gT, 0, none⟩) 1 1) := hk1.cell 2
  have q3 : w2.cell? ⟨gT, 0, none⟩ = some (.slice AT 1 cT) := (hb3.cell (p := ⟨gT, 0, none⟩) (by simp; omega)).trans (HT2.out.trans hTc')
  have hk3 := rd_one (Blk.new w2 3 #[.int .i64 1])
  have hba : Below w2.heap.size w2 (w2.alloc (.cells #[.int .i64 1] 3)) := (Below.refl _ _).alloc (Nat.le_refl _) _
  have HTr2 := Lib.hid ((HTr.out.over hb3 (Nat.le_refl _)).over hba (Nat.le_refl _)); have HK3 := Lib.hid hk3; have HBW2 := Lib.hid (bl_next (bl_next HBW.out hb3) hba)
  clear hk1 hk3 hba hb3 HTr HPr
  go_wp2_with fail
  refine (same_yes _ _ 1 1 _ _ [1] [1] _ HTr2.out HK3.out (by omega) rfl).mono ?_
  rintro e w3 ⟨rfl, hb4⟩
  have hbz := bl_next HBW2.out hb4
  go_wp2_with fail
  go_ret
  exact ⟨rfl, hbz⟩
end Go.Proofs.Ytjjmfgoeabmfdaa
