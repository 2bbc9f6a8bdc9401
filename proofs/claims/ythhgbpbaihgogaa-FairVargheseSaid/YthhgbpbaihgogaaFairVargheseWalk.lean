/-
  FairVarghese: the whole walk.
-/
import Derived.Test.YthhgbpbaihgogaaVarRel
namespace Go.Proofs.Ythhgbpbaihgogaa
open Go.RowKit Bkt
set_option linter.unusedVariables false

theorem qToOk {room : Int} {n : Nat} {zs : List Int} (h : QsOk room n zs) : Pl.QOk (qTo zs n 16) := fun f hf => by
  unfold qTo
  rw [if_pos hf]
  exact h.q _ (by have := h.nn; omega)
def QzOk (zs : List Int) : Prop := ∀ x ∈ zs, 20 ≤ x ∧ x ≤ 2019
theorem qz_at {zs : List Int} {n : Nat} (h : QzOk zs) (hl : zs.length = n) {i : Nat} (hi : i < n) : 20 ≤ zs.getD i 0 ∧ zs.getD i 0 ≤ 2019 := by
  rw [List.getD, List.getElem?_eq_getElem (by omega)]
  exact h _ (List.getElem_mem _)
theorem qz_ok {zs : List Int} {n : Nat} (h : QzOk zs) (hl : zs.length = n) (h2 : 2 ≤ n) (h6 : n ≤ 6) : QsOk 60 n zs :=
  ⟨by omega, by omega, fun i hi => by have := qz_at h hl hi; omega⟩
set_option maxHeartbeats 1000000 in
set_option maxRecDepth 100000 in
theorem fairVarghese_many (A1 : Option Addr) (n1 c1 : Nat) (A2 : Option Addr) (n2 c2 : Nat) (tk : Int) (W : World) (hn1 : n1 ≤ 9223372036854775807) (hn2 : n2 ≤ 9223372036854775807) (h : n1 < 2 ∨ 6 < n1 ∨ n2 = 0 ∨ 40 < n2) :
    Calls Try.prog 9 #[.slice A1 n1 c1, .slice A2 n2 c2, .int .i64 tk] W fun e w' => e = .returned (.bool true) ∧ Below W.heap.size W w' := by
  by_cases c1 : n1 < 2
  · go_enter Try.func9, Try.ntmps9
    go_wp2_with fail
    go_ret
    exact ⟨rfl, Below.refl _ _⟩
  · by_cases c2 : 6 < n1
    · go_enter Try.func9, Try.ntmps9
      go_wp2_with fail
      go_ret
      exact ⟨rfl, Below.refl _ _⟩
    · by_cases c3 : n2 = 0
      · subst c3
        go_enter Try.func9, Try.ntmps9
        go_wp2_with fail
        go_ret
        exact ⟨rfl, Below.refl _ _⟩
      · have c4 : 40 < n2 := by omega
        have c5 : ((n2 : Int) == 0) = false := by simp; omega
        go_enter Try.func9, Try.ntmps9
        go_wp2_with fail
        go_ret
        exact ⟨rfl, Below.refl _ _⟩

set_option maxHeartbeats 8000000 in
set_option maxRecDepth 100000 in
theorem fairVarghese_yes (A1 : Option Addr) (n1 c1 : Nat) (zs1 : List Int) (A2 : Option Addr) (n2 c2 : Nat) (zs2 : List Int) (tk : Int) (W : World) (hr1 : RdI W W.heap.size A1 n1 zs1) (hr2 : RdI W W.heap.size A2 n2 zs2) (h2 : 2 ≤ n1) (h6 : n1 ≤ 6) (h0 : 0 < n2) (h40 : n2 ≤ 40) :
    Calls Try.prog 9 #[.slice A1 n1 c1, .slice A2 n2 c2, .int .i64 tk] W fun e w' => e = .returned (.bool true) ∧ Below W.heap.size W w' := by
  have c5 : ((n2 : Int) == 0) = false := by simp; omega
  have c1' : ((n1 : Int) < 2) = False := by simp; omega
  have c2' : (6 < (n1 : Int)) = False := by simp; omega
  have c3' : (40 < (n2 : Int)) = False := by simp; omega
  have HR1 := Lib.hid hr1; have HR2 := Lib.hid hr2
  clear hr1 hr2
  go_enter Try.func9, Try.ntmps9
  go_wp2_with fail
  clear c5 c1' c2' c3'
  go_loopw [7, 8] (fun cv i wr => ∃ (k : Nat) (zs : List Int), k ≤ n1 ∧ i = .int .i64 k ∧ wr.ownsRow W.heap.size 3 1 cv k (zs.map (Value.int .i64)) ∧ QzOk zs ∧ Below W.heap.size W wr) (fun _ i _ => n1 - (intOf i).toNat)
  case atStart => exact ⟨0, [], Nat.zero_le _, rfl, World.ownsRow_nil _ _ _ _, fun x hx => by simp at hx, Below.refl _ _⟩
  case round =>
    obtain ⟨k, zs, hk, rfl, hown, hqz, hbl⟩ := hrel
    have HOWN := Lib.hid hown; have HQZ := Lib.hid hqz; have HBL := Lib.hid hbl
    clear hqz hbl
    by_cases hlt : k < n1
    · obtain ⟨b, off, rfl, hb⟩ := HR1.out.addr hlt
      have hc := (HBL.out.cell (p := ⟨b, off + k, none⟩) hb).trans (HR1.out.all rfl k hlt)
      have ik : (k : Int) < (n1 : Int) := by omega
      obtain ⟨Ac, cc, hcv, _⟩ := own_reads hown
      subst hcv
      generalize zs1.getD k 0 = y at *
      clear hown
      go_wp2_with (first | (go_at_call 14; (with_reducible refine (pick_all _ _ _ (by omega) (by omega)).mono ?_); rintro e w' ⟨p, hp0, hp1, rfl, rfl⟩; have e20 : IntKind.i64.wrap (20 + p) = 20 + p := IntWalk.i64_in _ (by omega)) | (at_builtin; go_must (refine wpList_pushI rfl _ _ _ Try.underlying32 rfl W.heap.size _ k zs (20 + p) HOWN.out rfl (by show Value.slice _ _ _ = _; simp) (by omega) HBL.out.size ?_); intro v' w4 hown' hg' hb'; have HOWN' := Lib.hid hown'; have HB' := Lib.hid (HBL.out.trans hb'); clear hown' hg' hb'))
      exact ⟨⟨k + 1, zs ++ [20 + p], by omega, by go_num, HOWN'.out, fun x hx => by
        rcases List.mem_append.1 hx with hx | hx
        · exact HQZ.out x hx
        · rw [List.mem_singleton] at hx; subst hx; omega, HB'.out⟩, by simp [intOf]; omega⟩
    · obtain rfl : n1 = k := by omega
      obtain ⟨Aq, cq, hcv, hrq⟩ := own_reads hown
      subst hcv
      have hrq' : RdI wr wr.heap.size Aq n1 zs := hrq
      have hql := hrq'.len
      have hq := qz_ok HQZ.out hql h2 h6
      have hnew := newRounds_yes 60 Aq n1 cq zs wr hrq' hq
      have hQ := qToOk hq
      have hr2' := (HR2.out.over HBL.out (Nat.le_refl _))
      have HNEW := Lib.hid hnew; have HQ := Lib.hid hQ; have HRQ := Lib.hid hrq'; have HR2' := Lib.hid hr2'; have HQL := Lib.hid hql
      clear hrq hrq' hq hnew hQ hr2' hown HOWN hql
      obtain ⟨w1, rfl⟩ : ∃ w1 : World, w1 = wr := ⟨_, rfl⟩
      go_wp2_with fail
      (with_reducible refine HNEW.out.mono ?_)
      rintro e w2 ⟨g, cs, rfl, hg, hb1, hd⟩
      have hi := hd.inv0 hg
      have HB1 := Lib.hid hb1; have HI := Lib.hid hi
      clear hb1 hd hi HNEW
      go_wp2_with fail
      (with_reducible refine (turns_yes _).mono ?_)
      rintro e w3 ⟨rfl, hb2⟩
      have hi3 := HI.out.below hb2
      have hb3 := bl_next HB1.out hb2
      have HI3 := Lib.hid hi3; have HB3 := Lib.hid hb3
      clear hi3 hb3 hb2 HI HB1
      go_wp2_with fail
      have hsz3 := HB3.out.size
      go_loopw [11, 12, 13] (fun lv nv i wr => ∃ (k m : Nat) (lg : Int) (s : Pl.RS) (F : Nat → Prop), k ≤ 50 ∧ m ≤ 6 * k ∧ lg ≤ 1500 ∧ i = .int .i64 k ∧ lv = .int .i64 lg ∧ nv = .int .i64 m ∧ Pl.PI n1 k 0 lg s ∧ RInv1 w1.heap.size g (qTo zs n1 16) 60 s m F wr ∧ Below w1.heap.size w1 wr) (fun _ _ i _ => 50 - (intOf i).toNat)
      case atStart => exact ⟨0, 0, 0, rs0, _, by omega, by omega, by omega, rfl, rfl, rfl, Pl.PI.start n1, HI3.out, HB3.out⟩
      case round =>
        clear HI3 HB3 hsz3
        obtain ⟨k, m, lg, s, F, hk, hm, hlg, rfl, rfl, rfl, hpi, hinv, hbl⟩ := hrel
        have HPI := Lib.hid hpi; have HINV := Lib.hid hinv; have HBL2 := Lib.hid hbl
        clear hpi hinv hbl
        obtain ⟨wo, rfl⟩ : ∃ wo : World, wo = wr := ⟨_, rfl⟩
        by_cases hlt : k < 50
        · have ik : (k : Int) < 50 := by omega
          go_wp2_with fail
          go_loopw [11, 12, 14] (fun lv nv j wr => ∃ (f m : Nat) (lg : Int) (s : Pl.RS) (F : Nat → Prop), f ≤ n1 ∧ m ≤ 6 * k + f ∧ lg ≤ 1500 ∧ j = .int .i64 f ∧ lv = .int .i64 lg ∧ nv = .int .i64 m ∧ Pl.PI n1 k f lg s ∧ RInv1 w1.heap.size g (qTo zs n1 16) 60 s m F wr ∧ Below w1.heap.size w1 wr) (fun _ _ j _ => n1 - (intOf j).toNat)
          case atStart => exact ⟨0, m, lg, s, F, by omega, by omega, hlg, rfl, rfl, rfl, HPI.out, HINV.out, HBL2.out⟩
          case round =>
            clear HPI HINV HBL2
            obtain ⟨f, m, lg, s, F, hf, hm, hlg, rfl, rfl, rfl, hpi, hinv, hbl⟩ := hrel
            have HPI := Lib.hid hpi; have HINV := Lib.hid hinv; have HBL2 := Lib.hid hbl
            clear hpi hinv hbl
            by_cases hfl : f < n1
            · have jk : (f : Int) < (n1 : Int) := by omega
              obtain ⟨u, hu⟩ : ∃ u : Nat, Int.tmod ((k : Int) * 7 + (f : Int) * 3) (n2 : Int) = (u : Int) ∧ u < n2 := by
                refine ⟨(k * 7 + f * 3) % n2, ?_, Nat.mod_lt _ h0⟩
                rw [Int.tmod_eq_emod_of_nonneg (by omega)]
                simp
              obtain ⟨hu1, hu2⟩ := hu
              obtain ⟨b, off, rfl, hb⟩ := HR2'.out.addr hu2
              have hc := (HBL2.out.cell (p := ⟨b, off + u, none⟩) hb).trans (HR2'.out.all rfl u hu2)
              have e1 : IntKind.i64.wrap ((k : Int) * 7) = (k : Int) * 7 := IntWalk.i64_in _ (by omega)
              have e2 : IntKind.i64.wrap ((f : Int) * 3) = (f : Int) * 3 := IntWalk.i64_in _ (by omega)
              have e3 : IntKind.i64.wrap ((k : Int) * 7 + (f : Int) * 3) = (k : Int) * 7 + (f : Int) * 3 := IntWalk.i64_in _ (by omega)
              have e4 : ((n2 : Int) == 0) = false := by simp; omega
              have iu : (u : Int) < (n2 : Int) := by omega
              generalize zs2.getD u 0 = y at *
              go_upto_region 19 with (go_at_call 14; (with_reducible refine (pick_all _ _ _ (by omega) (by omega)).mono ?_); rintro e w' ⟨p, hp0, hp1, rfl, rfl⟩; have e20 : IntKind.i64.wrap (1 + p) = 1 + p := IntWalk.i64_in _ (by omega))
              obtain ⟨xl, hxl⟩ : ∃ xl, xl = 1 + p := ⟨_, rfl⟩
              rw [← hxl] at e20 ⊢
              have hxl0 : 1 ≤ xl := by omega
              have hxl1 : xl ≤ 1500 := by omega
              clear e20 hxl
              have hok : Pl.okB ⟨0, xl, (f : Int), 0, 0⟩ = true := by
                unfold Pl.okB
                refine decide_eq_true ?_
                dsimp only
                omega
              have hpp := HPI.out.put hlt hfl (by omega) (x := ⟨⟨0, xl, (f : Int), 0, 0⟩, (m : Int)⟩) rfl hok
              have hpt := rnd_put_none w1.heap.size g _ 60 s m F wr 0 ⟨⟨0, xl, (f : Int), 0, 0⟩, (m : Int)⟩ HINV.out (by omega) hok hpp.1
              have hFl := HINV.out.facts
              unfold hdV at hpt
              dsimp only at hpt
              have HPT := Lib.hid hpt; have HPP := Lib.hid hpp.2; have HFL := Lib.hid hFl.1
              clear hok hpp hpt hFl e1 e2 e3 e4 hc hu1
              go_wp2_with (go_at_call 30; (with_reducible refine HPT.out.mono ?_); rintro e w5 ⟨A5, c5, F5, rfl, hi5, hc5, hf5⟩; have HI5 := Lib.hid hi5; have HB5 := Lib.hid (Chg.toB HBL2.out hc5 (fun i hi => (HFL.out i hi).1) HBL2.out.size); clear hi5 hc5 hf5)
              all_goals exact ⟨⟨f + 1, m + 1, max lg xl, _, _, by omega, by omega, by omega, by go_num, by first | rfl | (congr 1; split <;> omega) | (congr 1; omega), by go_num, HPP.out, HI5.out, HB5.out⟩, by simp [intOf]; omega⟩
            · obtain rfl : n1 = f := by omega
              go_wp2_with fail
              exact ⟨⟨k + 1, m, lg, s, F, by omega, by omega, hlg, by go_num, rfl, rfl, HPI.out.next (by omega), HINV.out, HBL2.out⟩, by simp [intOf]; omega⟩
        · obtain rfl : k = 50 := by omega
          have hmade := made_q n1 (by omega)
          have hvr := VRel.made HINV.out HBL2.out n1
          have hvi := HPI.out.vi (Q := qTo zs n1 16) (by omega)
          have hll : ∀ j, j < n1 → (s.L j).length = 50 := fun j hj => by have := HPI.out.L j hj; rw [if_neg (by omega)] at this; exact this
          have hlgp : 0 < lg := HPI.out.lg1 (.inl (by omega))
          have HVR := Lib.hid hvr; have HVI := Lib.hid hvi; have HLL := Lib.hid hll
          clear hvr hvi hll HINV HPI HBL2
          go_upto_region 25 with fail
          clear hmade
          generalize (wo.alloc (.cells (madeCells #[.int .i64 0] n1) 3)).alloc (.cells (madeCells #[.int .i64 0] n1) 3) = w4 at *
          generalize wo.heap.size + 1 = gl at *
          generalize wo.heap.size = gs at *
          go_wp2_with fail
          go_loopw [18] (fun i wr => ∃ k : Nat, k ≤ n1 ∧ i = .int .i64 k ∧ VRel w1 wr g gs gl n1 (qTo zs n1 16) s m F (fun _ => 0) (fun j => if j < k then 50 else 0)) (fun i _ => n1 - (intOf i).toNat)
          case atStart => exact ⟨0, Nat.zero_le _, rfl, by simpa using HVR.out⟩
          case round =>
            clear HVR
            obtain ⟨k, hk, rfl, hv⟩ := hrel
            by_cases hlt : k < n1
            · have y := hv.rl.cell hlt
              have x := hv.rl.frozen k
              have hgl := hv.rl.lt
              have hfin := hv.setL hlt 50
              have hco : VRel w1 _ g gs gl n1 (qTo zs n1 16) s m F (fun _ => 0) (fun j => if j < k + 1 then 50 else 0) := ⟨hfin.inv, hfin.rs, hfin.rl.congr (fun i hi => by
                by_cases e : i = k
                · subst e; rw [Pl.updf_same, if_pos (by omega)]
                · rw [Pl.updf_ne _ _ e]
                  by_cases h : i < k
                  · rw [if_pos h, if_pos (by omega)]
                  · rw [if_neg h, if_neg (by omega)]), hfin.ns, hfin.nl, hfin.ne, hfin.b, hfin.gs1, hfin.gl1⟩
              have HCO := Lib.hid hco
              have ik : (k : Int) < (n1 : Int) := by omega
              clear hv hfin hco
              go_wp2_with fail
              exact ⟨⟨k + 1, by omega, by go_num, HCO.out⟩, by simp [intOf]; omega⟩
            · obtain rfl : n1 = k := by omega
              have HV := Lib.hid hv
              clear hv
              obtain ⟨w5, rfl⟩ : ∃ w5 : World, w5 = wr := ⟨_, rfl⟩
              go_wp2_with fail
              (with_reducible refine (pick_all _ _ _ (by omega) (by omega)).mono ?_)
              rintro e w' ⟨p, hp0, hp1, rfl, rfl⟩
              go_wp2_with fail
              have hst : ∃ left : Nat → Int, VRel w1 w5 g gs gl n1 (qTo zs n1 16) s m F (fun _ => 0) left ∧ ∀ j, j < n1 → left j = (s.L j).length ∧ left j ≤ 50 := ⟨_, HV.out, fun j hj => by rw [if_pos hj, HLL.out j hj]; omega⟩
              have HST := Lib.hid hst
              have hqp : ∀ f, f < n1 → 0 < qTo zs n1 16 f := fun f hf => by have := (HQ.out f (by omega)).1; omega
              have HQP := Lib.hid hqp
              clear hst hqp HV HLL
              go_loopw [19] (fun kv wr => ∃ (kk : Int) (t : Nat) (s' : Pl.RS) (c sent left : Nat → Int) (F' : Nat → Prop), kv = .int .i64 kk ∧ -1 ≤ kk ∧ kk + t ≤ 119 ∧ VRel w1 wr g gs gl n1 (qTo zs n1 16) s' m F' sent left ∧ Pl.VI n1 (qTo zs n1 16) lg s' c sent ∧ (∀ j, j < n1 → left j = (s'.L j).length ∧ left j ≤ 50) ∧ ∀ j, j < n1 → 0 ≤ sent j ∧ sent j ≤ 10000 * t) (fun kv _ => (intOf kv + 1).toNat)
              case atStart =>
                obtain ⟨left, hv, hl⟩ := HST.out
                exact ⟨p, 0, s, _, _, left, F, rfl, by omega, by omega, hv, HVI.out, hl, fun j _ => by simp⟩
              case round =>
                clear HST HVI
                obtain ⟨kk, t, s', c, sent, left, F', rfl, hk0, hk1, hv, hvi, hl, hse⟩ := hrel
                obtain ⟨wo, rfl⟩ : ∃ wo : World, wo = wr := ⟨_, rfl⟩
                have HV := Lib.hid hv; have HVI := Lib.hid hvi; have HL := Lib.hid hl; have HSE := Lib.hid hse
                clear hv hvi hl hse
                by_cases hkk : 0 ≤ kk
                · have hvt := (Pl.VI.take HQ.out (by omega) (by omega) (Pl.measR s' + 1) s' c sent HVI.out (by omega)).x
                  obtain ⟨x, f, hx1, hf, hxf, hLf, hLo, hx0, hx2, hnext⟩ := hvt
                  have htk := rnd_take_some w1.heap.size g _ HQ.out 60 s' m F' wo 0 HV.out.inv x hx1
                  obtain ⟨⟨xa, xl, xf, xb, xm⟩, xn⟩ := x
                  dsimp only at hxf hx0 hx2 hnext
                  subst hxf
                  unfold hdV at htk
                  dsimp only at htk
                  have HTK := Lib.hid htk; have HLF := Lib.hid hLf; have HLO := Lib.hid hLo; have HNX := Lib.hid hnext
                  clear htk hLf hLo hnext hx1
                  go_upto_region 33 with (go_at_call 31; (with_reducible refine HTK.out.mono ?_); rintro e w6 ⟨A6, n6, c6, F6, rfl, hi6, hc6, hf6⟩; have HV6 := Lib.hid (HV.out.to hi6 hc6 hf6); clear hi6 hc6 hf6)
                  generalize (Pl.takeR (qTo zs n1 16) (Pl.measR s' + 1) s').2 = s6 at *
                  have hk7 := Blk.new w6 54 #[.int .i64 xa, .int .i64 xl, .int .i64 f, .int .i64 xb, .int .i64 xm, .int .i64 xn]
                  have hv7 := HV6.out.below ((Below.refl _ _).alloc (Nat.le_refl _) (.cells #[.int .i64 xa, .int .i64 xl, .int .i64 f, .int .i64 xb, .int .i64 xm, .int .i64 xn] 54))
                  have hks : w6.heap.size ≠ gs := by have := HV6.out.rs.lt; omega
                  have hkl : w6.heap.size ≠ gl := by have := HV6.out.rl.lt; omega
                  have HK7 := Lib.hid hk7; have HV7 := Lib.hid hv7
                  obtain ⟨q0, q1, q2, q3, q4, q5, _, _, _, _, _, _⟩ := blk6 hk7
                  clear hk7 hv7 HV6 HTK HV
                  generalize w6.heap.size = kx at *
                  generalize w6.alloc (.cells #[.int .i64 xa, .int .i64 xl, .int .i64 f, .int .i64 xb, .int .i64 xm, .int .i64 xn] 54) = w7 at *
                  have jf : (f : Int) < (n1 : Int) := by omega
                  go_upto_region 35 with fail
                  have z16 := HV7.out.rs.cell hf
                  have x16 := HV7.out.rs.frozen f
                  obtain ⟨se0, se1⟩ := HSE.out f hf
                  obtain ⟨le1, le2⟩ := HL.out f hf
                  obtain ⟨sf, hsf⟩ : ∃ y, y = sent f := ⟨_, rfl⟩
                  obtain ⟨lf, hlf⟩ : ∃ y, y = left f := ⟨_, rfl⟩
                  rw [← hsf] at z16 se0 se1
                  rw [← hlf] at le1 le2
                  have hl1 : 1 ≤ lf := by rw [le1, HLF.out]; simp; omega
                  have HLE := Lib.hid le1
                  clear le1
                  have e16 : IntKind.i64.wrap (sf + xl) = sf + xl := IntWalk.i64_in _ (by omega)
                  have hv8 := (HV7.out.setS hf (sf + xl)).below (bl_drew (Below.refl _ _))
                  have hk8 := (HK7.out.far (p := ⟨gs, f, none⟩) hks (.int .i64 (sf + xl))).drew
                  have HV8 := Lib.hid hv8; have HK8 := Lib.hid hk8; have HSF := Lib.hid hsf; have HLf := Lib.hid hlf
                  clear hv8 hk8 HV7 HK7 hsf hlf
                  go_still_tail 11, (by kernel_rfl)
                  change wpList _ _ _ _ _ w7.drew
                  go_upto_region 36 with fail
                  clear q0 q1 q2 q3 q4 q5 z16 x16 e16
                  generalize (w7.setCell ⟨gs, f, none⟩ (.int .i64 (sf + xl))).drew = w8 at *
                  have z17 := HV8.out.rl.cell hf
                  rw [← HLf.out] at z17
                  have x17 := HV8.out.rl.frozen f
                  have e17 : IntKind.i64.wrap (lf - 1) = lf - 1 := IntWalk.i64_in _ (by omega)
                  obtain ⟨q0, q1, q2, q3, q4, q5, _, _, _, _, _, _⟩ := blk6 HK8.out
                  have hv9 := HV8.out.setL hf (lf - 1)
                  have hk9 := HK8.out.far (p := ⟨gl, f, none⟩) hkl (.int .i64 (lf - 1))
                  have HV9 := Lib.hid hv9; have HK9 := Lib.hid hk9
                  clear hv9 hk9 HV8 HK8
                  go_upto_region 37 with fail
                  clear q0 q1 q2 q3 q4 q5 z17 x17 e17
                  generalize w8.setCell ⟨gl, f, none⟩ (.int .i64 (lf - 1)) = w9 at *
                  have z17 := HV9.out.rl.cell hf
                  rw [Pl.updf_same] at z17
                  obtain ⟨q0, q1, q2, q3, q4, q5, _, _, _, _, _, _⟩ := blk6 HK9.out
                  by_cases hz : lf - 1 = 0
                  · have tz : (lf - 1 == 0) = true := by simpa using hz
                    have hfin := HBL.out.trans (HV9.out.b.mono HBL.out.size)
                    have HFIN := Lib.hid hfin
                    clear hfin
                    go_wp2_with fail
                    go_ret
                    exact ⟨rfl, HFIN.out⟩
                  · have tz : (lf - 1 == 0) = false := by simpa using hz
                    have le1 := HLE.out
                    have hne : s6.L f ≠ [] := fun e => by rw [HLF.out, e] at le1; simp at le1; omega
                    obtain ⟨c9, hvi9⟩ := HNX.out hne
                    rw [← HSF.out] at hvi9
                    have hl9 : ∀ j, j < n1 → Pl.updf left f (lf - 1) j = (s6.L j).length ∧ Pl.updf left f (lf - 1) j ≤ 50 := fun j hj => by
                      by_cases e : j = f
                      · subst e; rw [Pl.updf_same]; rw [HLF.out] at le1; simp at le1; omega
                      · rw [Pl.updf_ne _ _ e, HLO.out j e]; exact HL.out j hj
                    have hs9 : ∀ j, j < n1 → 0 ≤ Pl.updf sent f (sf + xl) j ∧ Pl.updf sent f (sf + xl) j ≤ 10000 * ((t + 1 : Nat) : Int) := fun j hj => by
                      by_cases e : j = f
                      · subst e; rw [Pl.updf_same]; omega
                      · rw [Pl.updf_ne _ _ e]; have := HSE.out j hj; omega
                    have HVI9 := Lib.hid hvi9; have HL9 := Lib.hid hl9; have HS9 := Lib.hid hs9
                    clear hne hvi9 hl9 hs9 HVI HL HSE HNX HLF HLO le1 le2 se0 se1 HSF HLf
                    generalize Pl.updf sent f (sf + xl) = sent9 at *
                    generalize Pl.updf left f (lf - 1) = left9 at *
                    go_wp2_with fail
                    clear q0 q1 q2 q3 q4 q5 z17 HK9
                    have hsent : ∀ j, j < n1 → 0 ≤ sent9 j ∧ sent9 j ≤ 1200000 := fun j hj => by have := HS9.out j hj; omega
                    have hbd : ∀ i j, i < n1 → j < n1 → sent9 i * zs.getD j 0 - sent9 j * zs.getD i 0 < 2 * zs.getD i 0 * zs.getD j 0 + lg * (zs.getD i 0 + zs.getD j 0) := fun i j hi hj => by
                      have hb := HVI9.out.bound HQP.out (by omega) hi hj
                      have e : ∀ u, u < n1 → qTo zs n1 16 u = zs.getD u 0 := fun u hu => by
                        unfold qTo
                        rw [if_pos (by omega), Nat.min_eq_left (by omega)]
                      rw [e i hi, e j hj] at hb
                      exact hb
                    have hqz : ∀ i, i < n1 → 20 ≤ zs.getD i 0 ∧ zs.getD i 0 ≤ 2019 := fun i hi => qz_at HQZ.out HQL.out hi
                    obtain ⟨bq, oq, hAq, hbq⟩ := HRQ.out.addr (show 0 < n1 by omega)
                    subst hAq
                    have hqc : ∀ i, i < n1 → w9.cell? ⟨bq, oq + i, none⟩ = some (.int .i64 (zs.getD i 0)) := fun i hi => (HV9.out.b.cell (p := ⟨bq, oq + i, none⟩) hbq).trans (HRQ.out.all rfl i hi)
                    have HSN := Lib.hid hsent; have HBD := Lib.hid hbd; have HQZ2 := Lib.hid hqz; have HQC := Lib.hid hqc
                    clear hsent hbd hqz hqc
                    have hlg1 : lg ≤ 1500 := by omega
                    go_loopw [23] (fun i wx => ∃ (a q : Nat), a ≤ n1 ∧ i = .int .i64 a ∧ wx = w9.drewN q) (fun i _ => n1 - (intOf i).toNat)
                    case atStart => exact ⟨0, 0, Nat.zero_le _, rfl, rfl⟩
                    case round =>
                      obtain ⟨a, q, ha, rfl, hwx⟩ := hrel
                      obtain ⟨wp, hwp⟩ : ∃ wp : World, wp = wr := ⟨_, rfl⟩
                      by_cases hal : a < n1
                      · have ia : (a : Int) < (n1 : Int) := by omega
                        subst hwx
                        go_wp2_with fail
                        go_loopw [24] (fun i wx => ∃ (d q : Nat), d ≤ n1 ∧ i = .int .i64 d ∧ wx = w9.drewN q) (fun i _ => n1 - (intOf i).toNat)
                        case atStart => exact ⟨0, q, Nat.zero_le _, rfl, rfl⟩
                        case round =>
                          obtain ⟨d, q2, hd, rfl, rfl⟩ := hrel
                          by_cases hdl : d < n1
                          · have id : (d : Int) < (n1 : Int) := by omega
                            have v1 : w9.cell? ⟨gs, a, none⟩ = some (.int .i64 (sent9 a)) := HV9.out.rs.cell hal
                            have v2 : w9.cell? ⟨gs, d, none⟩ = some (.int .i64 (sent9 d)) := HV9.out.rs.cell hdl
                            have v3 : w9.cell? ⟨bq, oq + a, none⟩ = some (.int .i64 (zs.getD a 0)) := HQC.out a hal
                            have v4 : w9.cell? ⟨bq, oq + d, none⟩ = some (.int .i64 (zs.getD d 0)) := HQC.out d hdl
                            have u1 := HSN.out a hal; have u2 := HSN.out d hdl; have u3 := HQZ2.out a hal; have u4 := HQZ2.out d hdl; have u5 := HBD.out a d hal hdl
                            generalize sent9 a = sa at *
                            generalize sent9 d = sd at *
                            generalize zs.getD a 0 = qa at *
                            generalize zs.getD d 0 = qd at *
                            obtain ⟨P1, e1⟩ : ∃ P, IntKind.i64.wrap (sa * qd) = P := ⟨_, rfl⟩
                            obtain ⟨P2, e2⟩ : ∃ P, IntKind.i64.wrap (sd * qa) = P := ⟨_, rfl⟩
                            obtain ⟨D, e3⟩ : ∃ P, IntKind.i64.wrap (P1 - P2) = P := ⟨_, rfl⟩
                            obtain ⟨q2a, e4⟩ : ∃ P, IntKind.i64.wrap (2 * qa) = P := ⟨_, rfl⟩
                            obtain ⟨P3, e5⟩ : ∃ P, IntKind.i64.wrap (q2a * qd) = P := ⟨_, rfl⟩
                            obtain ⟨qs, e6⟩ : ∃ P, IntKind.i64.wrap (qa + qd) = P := ⟨_, rfl⟩
                            obtain ⟨P4, e7⟩ : ∃ P, IntKind.i64.wrap (lg * qs) = P := ⟨_, rfl⟩
                            obtain ⟨S, e8⟩ : ∃ P, IntKind.i64.wrap (P3 + P4) = P := ⟨_, rfl⟩
                            have hcalc := var_calc u1 u2 u3 u4 ⟨hlgp, hlg1⟩ u5 e1 e2 e3 e4 e5 e6 e7 e8
                            clear u1 u2 u3 u4 u5
                            go_upto_region 45 with fail
                            go_quiet (fail)
                            go_wp2_with fail
                            exact ⟨⟨d + 1, _, by omega, by go_num, by first | rfl | exact World.drewN_drewN _ _ _⟩, by simp [intOf]; omega⟩
                          · obtain rfl : n1 = d := by omega
                            go_wp2_with fail
                            exact ⟨⟨a + 1, q2, by omega, by go_num, rfl⟩, by simp [intOf]; omega⟩
                      · obtain rfl : n1 = a := by omega
                        subst hwx
                        have hv9 := HV9.out.below (bl_drewN (n := q) (Below.refl _ _))
                        have HV10 := Lib.hid hv9
                        clear hv9
                        go_wp2_with fail
                        exact ⟨⟨kk - 1, t + 1, s6, c9, sent9, left9, F6, by go_num, by omega, by omega, HV10.out, HVI9.out, HL9.out, HS9.out⟩, by simp [intOf]; omega⟩
                · have hfin := HBL.out.trans (HV.out.b.mono HBL.out.size)
                  have HFIN := Lib.hid hfin
                  clear hfin
                  go_wp2_with fail
                  go_ret
                  exact ⟨rfl, HFIN.out⟩

/-- whatever the input -/
theorem fairVarghese_core (A1 : Option Addr) (n1 c1 : Nat) (zs1 : List Int) (A2 : Option Addr) (n2 c2 : Nat) (zs2 : List Int) (tk : Int) (W : World) (hr1 : RdI W W.heap.size A1 n1 zs1) (hn1 : n1 ≤ 9223372036854775807) (hr2 : RdI W W.heap.size A2 n2 zs2) (hn2 : n2 ≤ 9223372036854775807) (_ : -9223372036854775808 ≤ tk ∧ tk ≤ 9223372036854775807) :
    Calls Try.prog 9 #[.slice A1 n1 c1, .slice A2 n2 c2, .int .i64 tk] W fun e w' => e = .returned (.bool true) ∧ Below W.heap.size W w' := by
  by_cases h : n1 < 2 ∨ 6 < n1 ∨ n2 = 0 ∨ 40 < n2
  · exact fairVarghese_many A1 n1 c1 A2 n2 c2 tk W hn1 hn2 h
  · exact fairVarghese_yes A1 n1 c1 zs1 A2 n2 c2 zs2 tk W hr1 hr2 (by omega) (by omega) (by omega) (by omega)
end Go.Proofs.Ythhgbpbaihgogaa
