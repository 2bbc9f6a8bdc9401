/-
  The book: Open.
-/
import Derived.Test.YtdipehgijjkfdaaGreatDoorTill
import Derived.Test.YtdipehgijjkfdaaGreatDoorBkSplit
import Derived.Deep.RegionHeld3
namespace Go.Proofs.YtdipehgijjkfdaaGreatDoor
open Go.RowKit Go.Maps Go.Shelf
set_option linter.unusedVariables false
def lnsOf (g : Nat) (w : World) : Nat := match w.cell? ⟨g, 1, none⟩ with
  | some (.int _ z) => z.toNat
  | _ => 0
theorem BkM.lns {w : World} {B g su : Nat} {xs : List Bo.Ln} {mv : Option Nat} {dv : Value} (h : BkM w B g xs su mv dv) : lnsOf g w = xs.length := by
  unfold lnsOf
  rw [h.blk.cell 1]
  simp
def OpenOut (w : World) (ys : List Bo.Ln) (e : Ending) (w' : World) : Prop :=
  ∃ g, e = .returned (.tuple #[.pointer (some ⟨g, 0, none⟩), .int .i64 (Bo.dataF 0 ys).length]) ∧ Hid (∃ mv dv, BkM w' w.heap.size g ys (Bo.dataF 0 ys).length mv dv ∧ Below w.heap.size w w')
theorem hok_take {ys : List Bo.Ln} (h : Bo.AllOk 0 ys) {i : Nat} (hi : i ≤ ys.length) : (ys.take i).length = i := by rw [List.length_take]; omega
theorem data_le {ys : List Bo.Ln} (h : Bo.AllOk 0 ys) {i : Nat} (hi : i ≤ ys.length) : (Bo.dataF 0 (ys.take i)).length ≤ (Bo.dataF 0 ys).length := by
  conv => rhs; rw [← List.take_append_drop i ys]
  rw [Bo.data_app, List.length_append]; omega
/-- what is read behind i lines -/
theorem read_at {ys : List Bo.Ln} {R : List UInt8} (h : Bo.AllOk 0 ys) (hR : Bo.readL ys.length R = none) {i : Nat} (hi : i ≤ ys.length) : Bo.readL i ((Bo.dataF 0 ys ++ R).drop (Bo.dataF 0 (ys.take i)).length) = ys[i]? := by
  rcases Nat.lt_or_ge i ys.length with h1 | h1
  · rw [Bo.data_split h1, List.append_assoc, List.drop_left' rfl, List.append_assoc, Bo.read_line (h.at_ h1), List.getElem?_eq_getElem h1]
  · obtain rfl : i = ys.length := by omega
    rw [List.take_length, List.drop_left' rfl, hR, List.getElem?_eq_none (Nat.le_refl _)]
theorem split_le (l : List UInt8) : ∀ x ∈ Lib.split l [32], x.length ≤ l.length := by
  have : ∀ (n : Nat) (l : List UInt8), l.count 32 = n → ∀ x ∈ Lib.split l [32], x.length ≤ l.length := by
    intro n
    induction n with
    | zero =>
      intro l h x hx
      rw [Bo.split_last (List.count_eq_zero.1 h), List.mem_singleton] at hx
      rw [hx]; exact Nat.le_refl _
    | succ n ih =>
      intro l h x hx
      have hm : 32 ∈ l := List.count_pos_iff.1 (by omega)
      obtain ⟨a, r, e, hn⟩ := List.eq_append_cons_of_mem hm
      rw [e] at h hx ⊢
      rw [Bo.split_app hn] at hx
      rw [List.count_append, List.count_cons, List.count_eq_zero.2 hn] at h
      simp only [beq_self_eq_true, if_true] at h
      rw [List.length_append, List.length_cons]
      rcases List.mem_cons.1 hx with e2 | e2
      · rw [e2]; omega
      · have := ih r (by omega) x e2
        omega
  exact this _ l rfl
/-- between two lines -/
structure OpM (w wr : World) (g : Nat) (ys : List Bo.Ln) (i : Nat) (mv : Option Nat) (dv : Value) : Prop where
  bk : BkM wr w.heap.size g (ys.take i) 0 mv dv
  bl : Below w.heap.size w wr
set_option maxHeartbeats 8000000 in
set_option maxRecDepth 100000 in
theorem open_row (gd cap : Nat) (d : List UInt8) (ys : List Bo.Ln) (R : List UInt8) (w : World) (hcell : ∀ j (h : j < d.length), w.cell? ⟨gd, j, none⟩ = some (.int .u8 d[j].toNat)) (hgd : gd < w.heap.size) (hcap : d.length ≤ cap) (hcm : cap ≤ maxLen)
    (hd : d = Bo.dataF 0 ys ++ R) (hok : Bo.AllOk 0 ys) (hR : Bo.readL ys.length R = none) (hn : d.length ≤ 100000) (hv : Pv w) :
    Calls Tryz.prog 8 #[.slice (some ⟨gd, 0, none⟩) d.length cap] w (OpenOut w ys) := by
  have hlen := hok.len (by decide)
  rw [Nat.zero_add] at hlen
  have hst : OpM w (w.alloc (.cells #[.map none, .int .i64 0, .slice none 0 0, .int .i64 0] 43)) w.heap.size ys 0 none (.slice none 0 0) :=
    ⟨BkM.new w _ (Nat.le_refl _), (Below.refl _ _).alloc (Nat.le_refl _) _⟩
  have HST := Lib.hid hst; have HV := Lib.hid hv; have HC := Lib.hid hcell; have HD := Lib.hid hd; have HOK := Lib.hid hok; have HNR := Lib.hid hR
  clear hst hv hcell hd hok hR
  go_enter Tryz.func8, Tryz.ntmps8
  go_wp2_with fail
  go_loopw [5, 6, 7, 8, 9] (fun _ _ _ _ _ wr => ∃ i mv dv, i ≤ ys.length ∧ Hid (OpM w wr w.heap.size ys i mv dv)) (fun _ _ _ _ _ wr => ys.length - lnsOf w.heap.size wr)
  case atStart => exact ⟨0, _, _, Nat.zero_le _, HST⟩
  case round =>
    obtain ⟨i, mv, dv, hi, HM⟩ := hrel
    have y2 := HM.out.bk.blk.cell 2
    obtain ⟨A, c, hdv, _⟩ := HM.out.bk.reads
    rw [hdv] at y2
    simp at y2
    have hlen2 := hok_take HOK.out hi
    have hm : (Bo.dataF 0 (ys.take i)).length ≤ d.length := by rw [HD.out, List.length_append]; have := data_le HOK.out hi; omega
    have hrd : Bo.readL i (d.drop (Bo.dataF 0 (ys.take i)).length) = ys[i]? := by rw [HD.out]; exact read_at HOK.out HNR.out hi
    generalize hml : (Bo.dataF 0 (ys.take i)).length = m at *
    have hgl := HM.out.bk.blk.lt
    obtain ⟨off, hif, hoff⟩ : ∃ off, (if cap = m then (some ⟨gd, 0, none⟩ : Option Addr) else some ⟨gd, m, none⟩) = some ⟨gd, off, none⟩ ∧ (cap ≠ m → off = m) := by
      by_cases e : cap = m
      · exact ⟨0, if_pos e, fun h => absurd e h⟩
      · exact ⟨m, if_neg e, fun _ => rfl⟩
    have hrl : (d.drop m).length = d.length - m := List.length_drop
    have hrc : ∀ W, Below w.heap.size w W → ∀ j (h : j < (d.drop m).length), W.cell? ⟨gd, off + j, none⟩ = some (.int .u8 (d.drop m)[j].toNat) := fun W hW j h => by
      have hj : m + j < d.length := by omega
      have he : off = m := hoff (by omega)
      rw [(hW.cell (p := ⟨gd, off + j, none⟩) hgd), he, HC.out (m + j) hj, List.getElem_drop]
    have HRC := Lib.hid hrc; have HRL := Lib.hid hrl; have HRD := Lib.hid hrd; have HML := Lib.hid hml
    clear hrc hrd hml hoff
    have hNC : d.length - m ≤ cap - m := by omega
    have hN5 : d.length - m ≤ 100000 := by omega
    have hCm : cap - m ≤ maxLen := by omega
    go_upto_region 3 with fail
    clear hif y2
    generalize d.drop m = r at *
    generalize d.length - m = N at *
    generalize cap - m = C at *
    have hidx := index_any gd off N C r wr HRL.out (HRC.out wr HM.out.bl)
    have hend : i = ys.length → ∀ W, Below wr.heap.size wr W → Calls Tryz.prog 12 #[.pointer (some ⟨w.heap.size, 0, none⟩)] W fun e w' => e = .returned (.tuple #[]) ∧ Hid (BkM w' w.heap.size w.heap.size ys (Bo.dataF 0 ys).length mv dv ∧ Below w.heap.size w w') := fun he W hW => by
      have h1 := HM.out.bk.below hW
      rw [he, List.take_length] at h1
      refine (sync_any _ _ _ _ _ _ W h1).mono fun e w' ⟨e1, h2⟩ => ⟨e1, Lib.hid ⟨h2.out.1, (HM.out.bl.trans (hW.mono HM.out.bl.size)).trans (h2.out.2.below (by have := HM.out.bl.size; have := hW.size; omega) (fun j hj e => by omega))⟩⟩
    have HIDX := Lib.hid hidx; have HEND := Lib.hid hend
    clear hidx hend
    rcases Bo.index_ways r with ⟨h1, h2⟩ | ⟨a, q, h1, h2, h3⟩
    · have hnone : Bo.readL i r = none := by unfold Bo.readL; rw [h1]; rfl
      rw [h1] at HIDX
      have hie : i = ys.length := by
        have h3 := HRD.out
        rw [hnone] at h3
        rcases Nat.lt_or_ge i ys.length with h4 | h4
        · rw [List.getElem?_eq_getElem h4] at h3; cases h3
        · omega
      have HE := Lib.hid (HEND.out hie)
      clear hnone hie h1 h2
      go_wp2_with fail
      (with_reducible refine HIDX.out.mono ?_)
      rintro e w1 ⟨rfl, rfl⟩
      go_wp2_with fail
      (with_reducible refine (HE.out _ (Below.refl _ _)).mono ?_)
      rintro e w9 ⟨rfl, h9⟩
      obtain ⟨hbk, hbl⟩ := h9.out
      have z2 := hbk.blk.cell 2
      obtain ⟨A9, c9, hdv9, _⟩ := hbk.reads
      rw [hdv9] at z2
      simp at z2
      have HBK := Lib.hid hbk; have HBL := Lib.hid hbl
      clear hbk hbl h9 hdv9
      go_upto_region 10 with fail
      go_quiet (fail)
      go_wp2_with fail
      go_ret2
      exact ⟨_, rfl, Lib.hid ⟨_, _, HBK.out.below (below_drewN (Below.refl _ _) _), below_drewN HBL.out _⟩⟩
    · have hka : a.length + 1 ≤ N := by rw [← HRL.out, h1]; simp
      rw [h3] at HIDX
      have hra : ∀ W, Below w.heap.size w W → ∀ j (h : j < a.length), W.cell? ⟨gd, off + j, none⟩ = some (.int .u8 a[j].toNat) := fun W hW j h => by
        have h4 : j < r.length := by rw [h1]; simp; omega
        rw [HRC.out W hW j h4]
        simp only [h1]
        rw [List.getElem_append_left h]
      have hra1 : ∀ W, Below w.heap.size w W → ∀ j (h : j < (a ++ [10]).length), W.cell? ⟨gd, off + j, none⟩ = some (.int .u8 (a ++ [10])[j].toNat) := fun W hW j h => by
        have h5 : r = (a ++ [10]) ++ q := by rw [h1]; simp
        have h4 : j < r.length := by rw [h5, List.length_append]; omega
        rw [HRC.out W hW j h4]
        simp only [h5]
        rw [List.getElem_append_left h]
      have hv1 := HV.out.below HM.out.bl HV.out.sz
      have hcv1 := conv_any gd off a.length C a wr rfl (hra wr HM.out.bl)
      have hsp := split_any a wr (by omega) hv1
      have hcv2 : ∀ W, Below w.heap.size w W → (convert 28 9 (.slice (some ⟨gd, off, none⟩) (a.length + 1) C)).run Tryz.prog W = .ok (.string ⟨(a ++ [10]).toArray⟩) W := fun W hW => conv_any gd off (a.length + 1) C (a ++ [10]) W (by simp) (hra1 W hW)
      have htk : r.take a.length = a := by rw [h1, List.take_left' rfl]
      have htk1 : r.take (a.length + 1) = a ++ [10] := by rw [h1, show a ++ 10 :: q = (a ++ [10]) ++ q by simp, List.take_left' (by simp)]
      have hrd2 : Bo.readL i r = (match Lib.split a [32] with
          | [_, w1, w2, _] => match Lib.atoiAll w2 with
            | .ok n => if Bo.lineF i ⟨w1, n⟩ = a ++ [10] ∧ Bo.addOk i ⟨w1, n⟩ = true then some ⟨w1, n⟩ else none
            | _ => none
          | _ => none) := by
        unfold Bo.readL
        rw [h3, if_neg (by omega), Int.toNat_natCast, htk, htk1]
        rfl
      have hsl : ∀ x ∈ Lib.split a [32], x.length ≤ a.length := fun x hx => split_le a x hx
      have HSP := Lib.hid hsp; have HSL := Lib.hid hsl; have HCV2 := Lib.hid hcv2; have HRD2 := Lib.hid hrd2; have HV1 := Lib.hid hv1
      clear hsl hra hra1 hsp hcv2 hrd2 htk htk1 h1 h2 h3 hv1
      generalize Lib.split a [32] = ws at *
      by_cases h4 : ws.length = 4
      · obtain ⟨s0, s1, s2, s3, rfl⟩ : ∃ s0 s1 s2 s3, ws = [s0, s1, s2, s3] := by
          rcases ws with _ | ⟨s0, _ | ⟨s1, _ | ⟨s2, _ | ⟨s3, _ | ⟨s4, t⟩⟩⟩⟩⟩
          · exact absurd h4 (by decide)
          · exact absurd h4 (by simp)
          · exact absurd h4 (by simp)
          · exact absurd h4 (by simp)
          · exact ⟨_, _, _, _, rfl⟩
          · exact absurd h4 (by simp)
        clear h4
        have h6 : decide ((a.length : Int) < 0) = false := decide_eq_false (by omega)
        have hrd3 : Bo.readL i r = (match Lib.atoiAll s2 with
            | .ok n => if Bo.lineF i ⟨s1, n⟩ = a ++ [10] ∧ Bo.addOk i ⟨s1, n⟩ = true then some ⟨s1, n⟩ else none
            | _ => none) := HRD2.out
        have hs1 : s1.length ≤ 1000000 ∧ s2.length ≤ 1000000 := by
          have q1 := HSL.out s1 (by simp); have q2 := HSL.out s2 (by simp)
          omega
        clear HSL
        have HRD3 := Lib.hid hrd3
        clear HRD2 hrd3
        have hk4 := Blk.new wr 9 #[.string ⟨s0.toArray⟩, .string ⟨s1.toArray⟩, .string ⟨s2.toArray⟩, .string ⟨s3.toArray⟩]
        have HSP2 : Hid (Calls Tryz.prog 16 #[.string ⟨a.toArray⟩, .string ⟨#[32]⟩] wr fun e w' => e = .returned (.slice (some ⟨wr.heap.size, 0, none⟩) 4 4) ∧ w' = wr.alloc (.cells #[.string ⟨s0.toArray⟩, .string ⟨s1.toArray⟩, .string ⟨s2.toArray⟩, .string ⟨s3.toArray⟩] 9)) := HSP
        clear HSP
        have hb4 : Below wr.heap.size wr (wr.alloc (.cells #[.string ⟨s0.toArray⟩, .string ⟨s1.toArray⟩, .string ⟨s2.toArray⟩, .string ⟨s3.toArray⟩] 9)) := (Below.refl _ _).alloc (Nat.le_refl _) _
        have hat := atoi_any ⟨s2.toArray⟩ (by show s2.toArray.size ≤ _; simp; omega) _ (HV1.out.below hb4 HV1.out.sz)
        have HAT := Lib.hid hat; have HK4 := Lib.hid hk4; have HB4 := Lib.hid hb4
        clear hat hk4 hb4
        go_wp2_with fail
        (with_reducible refine HIDX.out.mono ?_)
        rintro e w1 ⟨rfl, rfl⟩
        go_wp2_with fail
        (with_reducible refine HSP2.out.mono ?_)
        rintro e w2 ⟨rfl, rfl⟩
        generalize w1.alloc (.cells #[.string ⟨s0.toArray⟩, .string ⟨s1.toArray⟩, .string ⟨s2.toArray⟩, .string ⟨s3.toArray⟩] 9) = w2 at *
        have x2 := HK4.out.cell 2
        simp at x2
        go_wp2_with fail
        (with_reducible refine HAT.out.mono ?_)
        rintro e w3 ⟨hb3, n1, xe, rfl, hxe⟩
        have hb13 := HB4.out.trans (hb3.mono HB4.out.size)
        have HB13 := Lib.hid hb13; have HB3 := Lib.hid hb3
        clear x2 hb3 hb13 HAT
        rcases hxe with ⟨hok1, rfl⟩ | ⟨hno, T, N1, rfl⟩
        · rw [hok1] at HRD3
          have hrd4 : Bo.readL i r = if Bo.lineF i ⟨s1, n1⟩ = a ++ [10] ∧ Bo.addOk i ⟨s1, n1⟩ = true then some ⟨s1, n1⟩ else none := HRD3.out
          have hfit := atoi_fits _ _ hok1
          have HRD4 := Lib.hid hrd4
          clear HRD3 hok1 hrd4
          have hv3 := HV1.out.below HB13.out (by have := HV1.out.sz; omega)
          have hbk3 := HM.out.bk.below HB13.out
          have hk3 := HK4.out.below HB3.out HK4.out.lt
          have z1 := hbk3.blk.cell 1; have x1 := hk3.cell 1
          simp at x1
          replace z1 : w3.cell? ⟨w.heap.size, 1, none⟩ = some (.int .i64 i) := by rw [z1, hlen2]; rfl
          have cL : ∀ d os, Calls Tryz.prog 18 #[.int .i64 i, .string ⟨s1.toArray⟩, .int .i64 n1] (Sort.grow (redrawn w3 d) os) fun e w'' => e = .returned (.string ⟨(Bo.lineF i ⟨s1, n1⟩).toArray⟩) ∧ ∃ p : Regrown, w'' = Sort.grow (redrawn w3 p.d) p.os := fun d os =>
            Calls.regrown_of ((line_any i s1 n1 _ (hv3.below (below_regrown w3 d os) hv3.sz) (by omega) hfit.1 hfit.2 (by omega)).mono fun e w'' h => ⟨h.2, h.1⟩)
          have hbw3 : Below w.heap.size w w3 := HM.out.bl.trans (HB13.out.mono HM.out.bl.size)
          obtain ⟨K, hK⟩ : ∃ K, a.length + 1 = K := ⟨_, rfl⟩
          have hwK : IntKind.i64.wrap ((a.length : Int) + 1) = (K : Int) := by rw [IntWalk.i64_in _ (by omega)]; omega
          have hKC : K ≤ C := by omega
          rw [hK] at HCV2
          clear hK
          have kcv : ∀ d os, (convert 28 9 (.slice (some ⟨gd, off, none⟩) K C)).run Tryz.prog (Sort.grow (redrawn w3 d) os) = .ok (.string ⟨(a ++ [10]).toArray⟩) (Sort.grow (redrawn w3 d) os) := fun d os => HCV2.out _ (hbw3.trans ((below_regrown w3 d os).mono hbw3.size))
          have k1 := cell_regrown z1
          have kx := cell_regrown x1
          by_cases heq : Bo.lineF i ⟨s1, n1⟩ = a ++ [10]
          · have hd2 : (Bo.lineF i ⟨s1, n1⟩ == a ++ [10]) = true := beq_iff_eq.2 heq
            cases hadd : Bo.addOk i ⟨s1, n1⟩ with
            | false =>
              have hnone : Bo.readL i r = none := by rw [HRD4.out, if_neg (fun h => by rw [hadd] at h; cases h.2)]
              have hie : i = ys.length := by
                have h3 := HRD.out
                rw [hnone] at h3
                rcases Nat.lt_or_ge i ys.length with h4 | h4
                · rw [List.getElem?_eq_getElem h4] at h3; cases h3
                · omega
              have HE := Lib.hid (HEND.out hie)
              clear hnone hie
              have cA : ∀ d os, Calls Tryz.prog 13 #[.pointer (some ⟨w.heap.size, 0, none⟩), .string ⟨s1.toArray⟩, .int .i64 n1] (Sort.grow (redrawn w3 d) os) fun e w'' => e = .returned (.iface 45 (.int .i64 (errA ⟨s1, n1⟩))) ∧ ∃ p : Regrown, w'' = Sort.grow (redrawn w3 p.d) p.os := fun d os =>
                Calls.regrown_of ((add_any _ _ _ _ _ _ s1 n1 _ (hbk3.below (below_regrown w3 d os)) (hv3.below (below_regrown w3 d os) hv3.sz) hfit.1 hfit.2 (by omega) HV.out.sz).mono fun e w'' h => by
                  obtain ⟨r0, e1, h2 | h2⟩ := h
                  · have := h2.1; rw [hlen2, hadd] at this; cases this
                  · exact ⟨by rw [e1, h2.2.1], h2.2.2⟩)
              generalize errA ⟨s1, n1⟩ = er at *
              clear hadd heq
              generalize Bo.lineF i ⟨s1, n1⟩ = L at *
              go_upto_region 8 with fail
              refine wp_region_quiet_below (by kernel_rfl) (by kernel_rfl) ?_
              iterate 20 (quiet_step (exact cL _ _))
              repeat (quiet_step (exact cA _ _))
              refine wpQuiet_nil ?_
              intro _ hw'
              obtain ⟨⟨dq, osq⟩, hw''⟩ := hw'
              subst hw''
              have hb9 : Below w1.heap.size w1 (Sort.grow (redrawn w3 dq) osq) := HB13.out.trans ((below_regrown w3 dq osq).mono HB13.out.size)
              have HB9 := Lib.hid hb9
              clear k1 kx kcv cL cA hb9
              generalize Sort.grow (redrawn w3 dq) osq = w8 at *
              go_wp2_with fail
              (with_reducible refine (HE.out _ HB9.out).mono ?_)
              rintro e w9 ⟨rfl, h9⟩
              obtain ⟨hbk, hbl⟩ := h9.out
              have z2 := hbk.blk.cell 2
              obtain ⟨A9, c9, hdv9, _⟩ := hbk.reads
              rw [hdv9] at z2
              simp at z2
              have HBK := Lib.hid hbk; have HBL := Lib.hid hbl
              clear hbk hbl h9 hdv9
              go_upto_region 10 with fail
              go_quiet (fail)
              go_wp2_with fail
              go_ret2
              exact ⟨_, rfl, Lib.hid ⟨_, _, HBK.out.below (below_drewN (Below.refl _ _) _), below_drewN HBL.out _⟩⟩
            | true =>
              have hi2 : i < ys.length ∧ ys[i]? = some ⟨s1, n1⟩ := by
                have h3 := HRD.out
                rw [HRD4.out, if_pos ⟨heq, hadd⟩] at h3
                rcases Nat.lt_or_ge i ys.length with h4 | h4
                · exact ⟨h4, h3.symm⟩
                · rw [List.getElem?_eq_none h4] at h3; cases h3
              have htk : ys.take (i + 1) = ys.take i ++ [⟨s1, n1⟩] := by
                rw [List.take_add_one, hi2.2]; rfl
              have hbw : Below w.heap.size w w3 := hbw3
              have hHA : ∀ W, Below w3.heap.size w3 W → Calls Tryz.prog 13 #[.pointer (some ⟨w.heap.size, 0, none⟩), .string ⟨s1.toArray⟩, .int .i64 n1] W fun e w'' => e = .returned .nilIface ∧ Hid (∃ mv' dv', OpM w w'' w.heap.size ys (i + 1) mv' dv') := fun W hW => by
                have hbkW := hbk3.below hW
                refine (add_any _ _ _ _ _ _ s1 n1 W hbkW (hv3.below hW hv3.sz) hfit.1 hfit.2 (by omega) HV.out.sz).mono fun e w'' h => ?_
                obtain ⟨r0, e1, h2 | h2⟩ := h
                · obtain ⟨h3, e2, h4⟩ := h2
                  obtain ⟨mv', dv', h5, h6⟩ := h4.out
                  have hbW : Below w.heap.size w W := hbw.trans (hW.mono hbw.size)
                  have hbF : Below w.heap.size w w'' := hbW.trans (h6.below hbW.size (fun j hj hS => by have := hbkW.lt j hS; omega))
                  exact ⟨by rw [e1, e2], Lib.hid ⟨mv', dv', ⟨by rw [htk]; exact h5, hbF⟩⟩⟩
                · have := h2.1; rw [hlen2, hadd] at this; cases this
              have hHL : ∀ W, Below w3.heap.size w3 W → Calls Tryz.prog 18 #[.int .i64 i, .string ⟨s1.toArray⟩, .int .i64 n1] W fun e w'' => e = .returned (.string ⟨(Bo.lineF i ⟨s1, n1⟩).toArray⟩) ∧ Hid (Below w3.heap.size w3 w'') := fun W hW =>
                (line_any i s1 n1 W (hv3.below hW hv3.sz) (by omega) hfit.1 hfit.2 (by omega)).mono fun e w'' h => ⟨h.2, Lib.hid (bl_next hW h.1)⟩
              have hS3 : ∀ W, Below w3.heap.size w3 W → W.cell? ⟨w.heap.size, 1, none⟩ = some (.int .i64 i) ∧ W.cell? ⟨w1.heap.size, 1, none⟩ = some (.string ⟨s1.toArray⟩) ∧ (convert 28 9 (.slice (some ⟨gd, off, none⟩) K C)).run Tryz.prog W = .ok (.string ⟨(a ++ [10]).toArray⟩) W := fun W hW => ⟨(hW.cell hbk3.blk.lt).trans z1, (hW.cell hk3.lt).trans x1, HCV2.out _ (hbw.trans (hW.mono hbw.size))⟩
              have HHA := Lib.hid hHA; have HHL := Lib.hid hHL
              have hlns : lnsOf w.heap.size w1 = i := by rw [HM.out.bk.lns, hlen2]
              have HLNS := Lib.hid hlns; have HS3 := Lib.hid hS3
              have HI2 := Lib.hid hi2.1
              clear hHA hHL kcv cL k1 kx htk hi2 hadd heq hlns hbk3 hk3 hbw hbw3 hv3 hs1 hlen2 hm hrl hfit hS3
              generalize Bo.lineF i ⟨s1, n1⟩ = L at *
              go_upto_region 8 with fail
              have HSD : Hid (_ ∧ _ ∧ _) := Lib.hid (HS3.out _ (bl_drew (Below.refl _ _)))
              refine wp_till (fun wx => wx.cell? ⟨w.heap.size, 1, none⟩ = some (.int .i64 i) ∧ wx.cell? ⟨w1.heap.size, 1, none⟩ = some (.string ⟨s1.toArray⟩) ∧ (convert 28 9 (.slice (some ⟨gd, off, none⟩) K C)).run Tryz.prog wx = .ok (.string ⟨(a ++ [10]).toArray⟩) wx) [25] (by kernel_rfl) ?_
              refine till_take 0 [1, 2, 18, 19] _ ?_ (by simp only [List.getElem?_toArray, List.getElem?_cons_zero]; rfl) (by kernel_rfl) (by kernel_rfl) (by kernel_rfl) (by kernel_rfl) (by kernel_rfl) (by intro _ _ _ _ h; exact h) (Or.inl ⟨by rfl, ?_⟩) HSD.out ?_
              rotate_left 1; focus (intro wx hSw; (try dsimp only at hSw); obtain ⟨q1, q2, q3⟩ := hSw; go_simp; try with_reducible rfl)
              try simp only [Act.put, List.setIfInBounds_toArray, List.set_cons_zero, List.set_cons_succ]
              refine till_take 1 [2, 18, 19] _ ?_ (by simp only [List.getElem?_toArray, List.getElem?_cons_succ, List.getElem?_cons_zero]; rfl) (by kernel_rfl) (by kernel_rfl) (by kernel_rfl) (by kernel_rfl) (by kernel_rfl) (by intro _ _ _ _ h; exact h) (Or.inl ⟨by rfl, ?_⟩) HSD.out ?_
              rotate_left 1; focus (intro wx hSw; (try dsimp only at hSw); obtain ⟨q1, q2, q3⟩ := hSw; go_simp; try with_reducible rfl)
              try simp only [Act.put, List.setIfInBounds_toArray, List.set_cons_zero, List.set_cons_succ]
              refine till_take 2 [18, 19] _ ?_ (by simp only [List.getElem?_toArray, List.getElem?_cons_succ, List.getElem?_cons_zero]; rfl) (by kernel_rfl) (by kernel_rfl) (by kernel_rfl) (by kernel_rfl) (by kernel_rfl) (by intro _ _ _ _ h; exact h) (Or.inl ⟨by rfl, ?_⟩) HSD.out ?_
              rotate_left 1; focus (intro wx hSw; (try dsimp only at hSw); obtain ⟨q1, q2, q3⟩ := hSw; go_simp; try with_reducible rfl)
              try simp only [Act.put, List.setIfInBounds_toArray, List.set_cons_zero, List.set_cons_succ]
              refine till_take 3 [4, 5, 6, 11, 17, 18, 19] _ ?_ (by simp only [List.getElem?_toArray, List.getElem?_cons_succ, List.getElem?_cons_zero]; rfl) (by kernel_rfl) (by kernel_rfl) (by kernel_rfl) (by kernel_rfl) (by kernel_rfl) (by intro _ _ _ _ h; exact h) (Or.inl ⟨by rfl, ?_⟩) HSD.out ?_
              rotate_left 1; focus (intro wx hSw; (try dsimp only at hSw); obtain ⟨q1, q2, q3⟩ := hSw; go_simp; try with_reducible rfl)
              try simp only [Act.put, List.setIfInBounds_toArray, List.set_cons_zero, List.set_cons_succ]
              refine till_take 4 [5, 6, 11, 17, 18, 19] _ ?_ (by simp only [List.getElem?_toArray, List.getElem?_cons_succ, List.getElem?_cons_zero]; rfl) (by kernel_rfl) (by kernel_rfl) (by kernel_rfl) (by kernel_rfl) (by kernel_rfl) (by intro _ _ _ _ h; exact h) (Or.inl ⟨by rfl, ?_⟩) HSD.out ?_
              rotate_left 1; focus (intro wx hSw; (try dsimp only at hSw); obtain ⟨q1, q2, q3⟩ := hSw; go_simp; try with_reducible rfl)
              try simp only [Act.put, List.setIfInBounds_toArray, List.set_cons_zero, List.set_cons_succ]
              refine till_take 5 [6, 11, 17, 18, 19] _ ?_ (by simp only [List.getElem?_toArray, List.getElem?_cons_succ, List.getElem?_cons_zero]; rfl) (by kernel_rfl) (by kernel_rfl) (by kernel_rfl) (by kernel_rfl) (by kernel_rfl) (by intro _ _ _ _ h; exact h) (Or.inl ⟨by rfl, ?_⟩) HSD.out ?_
              rotate_left 1; focus (intro wx hSw; (try dsimp only at hSw); obtain ⟨q1, q2, q3⟩ := hSw; go_simp; try with_reducible rfl)
              try simp only [Act.put, List.setIfInBounds_toArray, List.set_cons_zero, List.set_cons_succ]
              refine till_take 6 [11, 17, 18, 19] _ ?_ (by simp only [List.getElem?_toArray, List.getElem?_cons_succ, List.getElem?_cons_zero]; rfl) (by kernel_rfl) (by kernel_rfl) (by kernel_rfl) (by kernel_rfl) (by kernel_rfl) (by intro _ _ _ _ h; exact h) (Or.inl ⟨by rfl, ?_⟩) HSD.out ?_
              rotate_left 1; focus (intro wx hSw; (try dsimp only at hSw); obtain ⟨q1, q2, q3⟩ := hSw; go_simp; try with_reducible rfl)
              try simp only [Act.put, List.setIfInBounds_toArray, List.set_cons_zero, List.set_cons_succ]
              refine till_take 7 [8, 9, 11, 17, 18, 19] _ ?_ (by simp only [List.getElem?_toArray, List.getElem?_cons_succ, List.getElem?_cons_zero]; rfl) (by kernel_rfl) (by kernel_rfl) (by kernel_rfl) (by kernel_rfl) (by kernel_rfl) (by intro _ _ _ _ h; exact h) (Or.inl ⟨by rfl, ?_⟩) HSD.out ?_
              rotate_left 1; focus (intro wx hSw; (try dsimp only at hSw); obtain ⟨q1, q2, q3⟩ := hSw; go_simp; try with_reducible rfl)
              try simp only [Act.put, List.setIfInBounds_toArray, List.set_cons_zero, List.set_cons_succ]
              refine till_take 8 [9, 11, 17, 18, 19] _ ?_ (by simp only [List.getElem?_toArray, List.getElem?_cons_succ, List.getElem?_cons_zero]; rfl) (by kernel_rfl) (by kernel_rfl) (by kernel_rfl) (by kernel_rfl) (by kernel_rfl) (by intro _ _ _ _ h; exact h) (Or.inl ⟨by rfl, ?_⟩) HSD.out ?_
              rotate_left 1; focus (intro wx hSw; (try dsimp only at hSw); obtain ⟨q1, q2, q3⟩ := hSw; go_simp; try with_reducible rfl)
              try simp only [Act.put, List.setIfInBounds_toArray, List.set_cons_zero, List.set_cons_succ]
              refine till_take 9 [11, 17, 18, 19] _ ?_ (by simp only [List.getElem?_toArray, List.getElem?_cons_succ, List.getElem?_cons_zero]; rfl) (by kernel_rfl) (by kernel_rfl) (by kernel_rfl) (by kernel_rfl) (by kernel_rfl) (by intro _ _ _ _ h; exact h) (Or.inl ⟨by rfl, ?_⟩) HSD.out ?_
              rotate_left 1; focus (intro wx hSw; (try dsimp only at hSw); obtain ⟨q1, q2, q3⟩ := hSw; go_simp; try with_reducible rfl)
              try simp only [Act.put, List.setIfInBounds_toArray, List.set_cons_zero, List.set_cons_succ]
              refine till_take 10 [11, 17, 18, 19] _ ?_ (by simp only [List.getElem?_toArray, List.getElem?_cons_succ, List.getElem?_cons_zero]; rfl) (by kernel_rfl) (by kernel_rfl) (by kernel_rfl) (by kernel_rfl) (by kernel_rfl) (by intro _ _ _ _ h; exact h) (Or.inl ⟨by rfl, ?_⟩) HSD.out ?_
              rotate_left 1; focus (intro wx hSw; (try dsimp only at hSw); obtain ⟨q1, q2, q3⟩ := hSw; go_simp; try with_reducible rfl)
              try simp only [Act.put, List.setIfInBounds_toArray, List.set_cons_zero, List.set_cons_succ]
              refine till_take 12 [15, 16, 17, 18, 19] _ ?_ (by simp only [List.getElem?_toArray, List.getElem?_cons_succ, List.getElem?_cons_zero]; rfl) (by kernel_rfl) (by kernel_rfl) (by kernel_rfl) (by kernel_rfl) (by kernel_rfl) (by intro _ _ _ _ h; exact h) (Or.inl ⟨by rfl, ?_⟩) HSD.out ?_
              rotate_left 1; focus (intro wx hSw; (try dsimp only at hSw); obtain ⟨q1, q2, q3⟩ := hSw; go_simp; try with_reducible rfl)
              try simp only [Act.put, List.setIfInBounds_toArray, List.set_cons_zero, List.set_cons_succ]
              refine till_take 13 [14, 15, 16, 17, 18, 19] _ ?_ (by simp only [List.getElem?_toArray, List.getElem?_cons_succ, List.getElem?_cons_zero]; rfl) (by kernel_rfl) (by kernel_rfl) (by kernel_rfl) (by kernel_rfl) (by kernel_rfl) (by intro _ _ _ _ h; exact h) (Or.inl ⟨by rfl, ?_⟩) HSD.out ?_
              rotate_left 1; focus (intro wx hSw; (try dsimp only at hSw); obtain ⟨q1, q2, q3⟩ := hSw; go_simp; try with_reducible rfl)
              try simp only [Act.put, List.setIfInBounds_toArray, List.set_cons_zero, List.set_cons_succ]
              refine till_take 14 [15, 16, 17, 18, 19] _ ?_ (by simp only [List.getElem?_toArray, List.getElem?_cons_succ, List.getElem?_cons_zero]; rfl) (by kernel_rfl) (by kernel_rfl) (by kernel_rfl) (by kernel_rfl) (by kernel_rfl) (by intro _ _ _ _ h; exact h) (Or.inl ⟨by rfl, ?_⟩) HSD.out ?_
              rotate_left 1; focus (intro wx hSw; (try dsimp only at hSw); obtain ⟨q1, q2, q3⟩ := hSw; go_simp; try with_reducible rfl)
              try simp only [Act.put, List.setIfInBounds_toArray, List.set_cons_zero, List.set_cons_succ]
              refine till_take 15 [16, 17, 18, 19] _ ?_ (by simp only [List.getElem?_toArray, List.getElem?_cons_succ, List.getElem?_cons_zero]; rfl) (by kernel_rfl) (by kernel_rfl) (by kernel_rfl) (by kernel_rfl) (by kernel_rfl) (by intro _ _ _ _ h; exact h) (Or.inl ⟨by rfl, ?_⟩) HSD.out ?_
              rotate_left 1; focus (intro wx hSw; (try dsimp only at hSw); obtain ⟨q1, q2, q3⟩ := hSw; go_simp; try with_reducible rfl)
              try simp only [Act.put, List.setIfInBounds_toArray, List.set_cons_zero, List.set_cons_succ]
              refine till_take 16 [17, 18, 19] _ ?_ (by simp only [List.getElem?_toArray, List.getElem?_cons_succ, List.getElem?_cons_zero]; rfl) (by kernel_rfl) (by kernel_rfl) (by kernel_rfl) (by kernel_rfl) (by kernel_rfl) (by intro _ _ _ _ h; exact h) (Or.inl ⟨by rfl, ?_⟩) HSD.out ?_
              rotate_left 1; focus (intro wx hSw; (try dsimp only at hSw); obtain ⟨q1, q2, q3⟩ := hSw; go_simp; try with_reducible rfl)
              try simp only [Act.put, List.setIfInBounds_toArray, List.set_cons_zero, List.set_cons_succ]
              refine till_ready [11] (by kernel_rfl) (by simp) ?_
              refine alls_cons (by simp only [List.getElem?_toArray, List.getElem?_cons_succ, List.getElem?_cons_zero]; rfl) (fun K hK => ?_) alls_nil
              go_simp
              go_at_call 18; (with_reducible refine (HHL.out _ (bl_drew (Below.refl _ _))).mono ?_); rintro e w5 ⟨rfl, h5⟩
              have HB5 := Lib.hid h5.out; clear h5
              have hs5 := HS3.out _ HB5.out; have HS5 := Lib.hid hs5; clear hs5
              refine hK.out _ _ (fun _ => HS5.out) ?_
              clear hK K
              try simp only [Act.put, List.setIfInBounds_toArray, List.set_cons_zero, List.set_cons_succ]
              refine till_take 17 [18, 19] _ ?_ (by simp only [List.getElem?_toArray, List.getElem?_cons_succ, List.getElem?_cons_zero]; rfl) (by kernel_rfl) (by kernel_rfl) (by kernel_rfl) (by kernel_rfl) (by kernel_rfl) (by intro _ _ _ _ h; exact h) (Or.inl ⟨by rfl, ?_⟩) HS5.out ?_
              rotate_left 1; focus (intro wx hSw; (try dsimp only at hSw); obtain ⟨q1, q2, q3⟩ := hSw; go_simp; try with_reducible rfl)
              try simp only [Act.put, List.setIfInBounds_toArray, List.set_cons_zero, List.set_cons_succ]
              refine till_take 18 [19] _ ?_ (by simp only [List.getElem?_toArray, List.getElem?_cons_succ, List.getElem?_cons_zero]; rfl) (by kernel_rfl) (by kernel_rfl) (by kernel_rfl) (by kernel_rfl) (by kernel_rfl) (by intro _ _ _ _ h; exact h) (Or.inl ⟨by rfl, ?_⟩) HS5.out ?_
              rotate_left 1; focus (intro wx hSw; (try dsimp only at hSw); obtain ⟨q1, q2, q3⟩ := hSw; go_simp; try with_reducible rfl)
              try simp only [Act.put, List.setIfInBounds_toArray, List.set_cons_zero, List.set_cons_succ]
              refine till_take 19 [] _ ?_ (by simp only [List.getElem?_toArray, List.getElem?_cons_succ, List.getElem?_cons_zero]; rfl) (by kernel_rfl) (by kernel_rfl) (by kernel_rfl) (by kernel_rfl) (by kernel_rfl) (by intro _ _ _ _ h; exact h) (Or.inl ⟨by rfl, ?_⟩) HS5.out ?_
              rotate_left 1; focus (intro wx hSw; (try dsimp only at hSw); obtain ⟨q1, q2, q3⟩ := hSw; go_simp; try with_reducible rfl)
              try simp only [Act.put, List.setIfInBounds_toArray, List.set_cons_zero, List.set_cons_succ]
              refine till_take 20 [] _ ?_ (by simp only [List.getElem?_toArray, List.getElem?_cons_succ, List.getElem?_cons_zero]; rfl) (by kernel_rfl) (by kernel_rfl) (by kernel_rfl) (by kernel_rfl) (by kernel_rfl) (by intro _ _ _ _ h; exact h) (Or.inl ⟨by rfl, ?_⟩) HS5.out ?_
              rotate_left 1; focus (intro wx hSw; (try dsimp only at hSw); obtain ⟨q1, q2, q3⟩ := hSw; go_simp; try with_reducible rfl)
              try simp only [Act.put, List.setIfInBounds_toArray, List.set_cons_zero, List.set_cons_succ]
              refine till_take 21 [22, 23] _ ?_ (by simp only [List.getElem?_toArray, List.getElem?_cons_succ, List.getElem?_cons_zero]; rfl) (by kernel_rfl) (by kernel_rfl) (by kernel_rfl) (by kernel_rfl) (by kernel_rfl) (by intro _ _ _ _ h; exact h) (Or.inl ⟨by rfl, ?_⟩) HS5.out ?_
              rotate_left 1; focus (intro wx hSw; (try dsimp only at hSw); obtain ⟨q1, q2, q3⟩ := hSw; go_simp; try with_reducible rfl)
              try simp only [Act.put, List.setIfInBounds_toArray, List.set_cons_zero, List.set_cons_succ]
              refine till_take 22 [23] _ ?_ (by simp only [List.getElem?_toArray, List.getElem?_cons_succ, List.getElem?_cons_zero]; rfl) (by kernel_rfl) (by kernel_rfl) (by kernel_rfl) (by kernel_rfl) (by kernel_rfl) (by intro _ _ _ _ h; exact h) (Or.inl ⟨by rfl, ?_⟩) HS5.out ?_
              rotate_left 1; focus (intro wx hSw; (try dsimp only at hSw); obtain ⟨q1, q2, q3⟩ := hSw; go_simp; try with_reducible rfl)
              try simp only [Act.put, List.setIfInBounds_toArray, List.set_cons_zero, List.set_cons_succ]
              refine till_take 23 [] _ ?_ (by simp only [List.getElem?_toArray, List.getElem?_cons_succ, List.getElem?_cons_zero]; rfl) (by kernel_rfl) (by kernel_rfl) (by kernel_rfl) (by kernel_rfl) (by kernel_rfl) (by intro _ _ _ _ h; exact h) (Or.inl ⟨by rfl, ?_⟩) HS5.out ?_
              rotate_left 1; focus (intro wx hSw; (try dsimp only at hSw); obtain ⟨q1, q2, q3⟩ := hSw; go_simp; try with_reducible rfl)
              try simp only [Act.put, List.setIfInBounds_toArray, List.set_cons_zero, List.set_cons_succ]
              refine till_take 24 [] _ ?_ (by simp only [List.getElem?_toArray, List.getElem?_cons_succ, List.getElem?_cons_zero]; rfl) (by kernel_rfl) (by kernel_rfl) (by kernel_rfl) (by kernel_rfl) (by kernel_rfl) (by intro _ _ _ _ h; exact h) (Or.inl ⟨by rfl, ?_⟩) HS5.out ?_
              rotate_left 1; focus (intro wx hSw; (try dsimp only at hSw); obtain ⟨q1, q2, q3⟩ := hSw; go_simp; try with_reducible rfl)
              try simp only [Act.put, List.setIfInBounds_toArray, List.set_cons_zero, List.set_cons_succ]
              refine till_ready [25] (by kernel_rfl) (by simp) ?_
              refine alls_cons (by simp only [List.getElem?_toArray, List.getElem?_cons_succ, List.getElem?_cons_zero]; rfl) (fun K hK => ?_) alls_nil
              go_simp
              go_at_call 13; (with_reducible refine (HHA.out _ HB5.out).mono ?_); rintro e w6 ⟨rfl, h6⟩
              have H6 := Lib.hid h6.out; clear h6
              refine hK.out _ _ (fun h => Bool.noConfusion h) ?_
              clear hK K
              try simp only [Act.put, List.setIfInBounds_toArray, List.set_cons_zero, List.set_cons_succ]
              refine till_ready [26] (by kernel_rfl) (by simp) ?_
              refine alls_cons (by simp only [List.getElem?_toArray, List.getElem?_cons_succ, List.getElem?_cons_zero]; rfl) (fun K hK => ?_) alls_nil
              go_simp
              refine hK.out _ _ (fun h => Bool.noConfusion h) ?_
              clear hK K
              try simp only [Act.put, List.setIfInBounds_toArray, List.set_cons_zero, List.set_cons_succ]
              refine till_ready [27] (by kernel_rfl) (by simp) ?_
              refine alls_cons (by simp only [List.getElem?_toArray, List.getElem?_cons_succ, List.getElem?_cons_zero]; rfl) (fun K hK => ?_) alls_nil
              go_simp
              refine hK.out _ _ (fun h => Bool.noConfusion h) ?_
              clear hK K
              try simp only [Act.put, List.setIfInBounds_toArray, List.set_cons_zero, List.set_cons_succ]
              refine till_done (by kernel_rfl) ?_ _
              go_wp2_with fail
              obtain ⟨mv', dv', h9⟩ := H6.out
              refine ⟨⟨i + 1, mv', dv', HI2.out, Lib.hid h9⟩, ?_⟩
              have hi9 := HI2.out
              rw [h9.bk.lns, HLNS.out, List.length_take]
              omega
          · have hnone : Bo.readL i r = none := by rw [HRD4.out, if_neg (fun h => heq h.1)]
            have hie : i = ys.length := by
              have h3 := HRD.out
              rw [hnone] at h3
              rcases Nat.lt_or_ge i ys.length with h4 | h4
              · rw [List.getElem?_eq_getElem h4] at h3; cases h3
              · omega
            have HE := Lib.hid (HEND.out hie)
            clear hnone hie
            have hd2 : (Bo.lineF i ⟨s1, n1⟩ == a ++ [10]) = false := beq_eq_false_iff_ne.mpr heq
            generalize Bo.lineF i ⟨s1, n1⟩ = L at *
            go_upto_region 8 with fail
            refine wp_region_quiet_below (by kernel_rfl) (by kernel_rfl) ?_
            iterate 20 (quiet_step (exact cL _ _))
            repeat (quiet_step (fail))
            refine wpQuiet_nil ?_
            intro _ hw'
            obtain ⟨⟨dq, osq⟩, hw''⟩ := hw'
            subst hw''
            have hb9 : Below w1.heap.size w1 (Sort.grow (redrawn w3 dq) osq) := HB13.out.trans ((below_regrown w3 dq osq).mono HB13.out.size)
            have HB9 := Lib.hid hb9
            clear k1 kx kcv cL hb9
            generalize Sort.grow (redrawn w3 dq) osq = w8 at *
            go_wp2_with fail
            (with_reducible refine (HE.out _ HB9.out).mono ?_)
            rintro e w9 ⟨rfl, h9⟩
            obtain ⟨hbk, hbl⟩ := h9.out
            have z2 := hbk.blk.cell 2
            obtain ⟨A9, c9, hdv9, _⟩ := hbk.reads
            rw [hdv9] at z2
            simp at z2
            have HBK := Lib.hid hbk; have HBL := Lib.hid hbl
            clear hbk hbl h9 hdv9
            go_upto_region 10 with fail
            go_quiet (fail)
            go_wp2_with fail
            go_ret2
            exact ⟨_, rfl, Lib.hid ⟨_, _, HBK.out.below (below_drewN (Below.refl _ _) _), below_drewN HBL.out _⟩⟩
        · have hnone : Bo.readL i r = none := by
            rw [HRD3.out]
            split
            · rename_i v hv; exact absurd hv (hno v)
            · rfl
          have hie : i = ys.length := by
            have h3 := HRD.out
            rw [hnone] at h3
            rcases Nat.lt_or_ge i ys.length with h4 | h4
            · rw [List.getElem?_eq_getElem h4] at h3; cases h3
            · omega
          have HE := Lib.hid (HEND.out hie)
          clear hnone hie
          go_upto_region 8 with fail
          go_quiet (fail)
          go_wp2_with fail
          (with_reducible refine (HE.out _ (below_drewN HB13.out _)).mono ?_)
          rintro e w9 ⟨rfl, h9⟩
          obtain ⟨hbk, hbl⟩ := h9.out
          have z2 := hbk.blk.cell 2
          obtain ⟨A9, c9, hdv9, _⟩ := hbk.reads
          rw [hdv9] at z2
          simp at z2
          have HBK := Lib.hid hbk; have HBL := Lib.hid hbl
          clear hbk hbl h9 hdv9
          go_upto_region 10 with fail
          go_quiet (fail)
          go_wp2_with fail
          go_ret2
          exact ⟨_, rfl, Lib.hid ⟨_, _, HBK.out.below (below_drewN (Below.refl _ _) _), below_drewN HBL.out _⟩⟩
      · have hnone : Bo.readL i r = none := by
          rw [HRD2.out]
          rcases ws with _ | ⟨s0, _ | ⟨s1, _ | ⟨s2, _ | ⟨s3, _ | ⟨s4, t⟩⟩⟩⟩⟩
          · rfl
          · rfl
          · rfl
          · rfl
          · exact absurd rfl h4
          · rfl
        have hie : i = ys.length := by
          have h3 := HRD.out
          rw [hnone] at h3
          rcases Nat.lt_or_ge i ys.length with h4 | h4
          · rw [List.getElem?_eq_getElem h4] at h3; cases h3
          · omega
        have HE := Lib.hid (HEND.out hie)
        clear hnone hie
        have h5 : ((ws.length : Int) != 4) = true := by simp; omega
        have h6 : decide ((a.length : Int) < 0) = false := decide_eq_false (by omega)
        go_wp2_with fail
        (with_reducible refine HIDX.out.mono ?_)
        rintro e w1 ⟨rfl, rfl⟩
        go_wp2_with fail
        (with_reducible refine HSP.out.mono ?_)
        rintro e w2 ⟨rfl, rfl⟩
        go_wp2_with fail
        (with_reducible refine (HE.out _ ((Below.refl _ _).alloc (Nat.le_refl _) _)).mono ?_)
        rintro e w9 ⟨rfl, h9⟩
        obtain ⟨hbk, hbl⟩ := h9.out
        have z2 := hbk.blk.cell 2
        obtain ⟨A9, c9, hdv9, _⟩ := hbk.reads
        rw [hdv9] at z2
        simp at z2
        have HBK := Lib.hid hbk; have HBL := Lib.hid hbl
        clear hbk hbl h9 hdv9
        go_upto_region 10 with fail
        go_quiet (fail)
        go_wp2_with fail
        go_ret2
        exact ⟨_, rfl, Lib.hid ⟨_, _, HBK.out.below (below_drewN (Below.refl _ _) _), below_drewN HBL.out _⟩⟩
set_option maxHeartbeats 2000000 in
set_option maxRecDepth 100000 in
theorem open_nil (w : World) : Calls Tryz.prog 8 #[.slice none 0 0] w (OpenOut w []) := by
  have hst : OpM w (w.alloc (.cells #[.map none, .int .i64 0, .slice none 0 0, .int .i64 0] 43)) w.heap.size [] 0 none (.slice none 0 0) :=
    ⟨BkM.new w _ (Nat.le_refl _), (Below.refl _ _).alloc (Nat.le_refl _) _⟩
  have HST := Lib.hid hst
  clear hst
  go_enter Tryz.func8, Tryz.ntmps8
  go_wp2_with fail
  go_loopw [5, 6, 7, 8, 9] (fun _ _ _ _ _ wr => Hid (OpM w wr w.heap.size [] 0 none (.slice none 0 0))) (fun _ _ _ _ _ wr => 0)
  case atStart => exact HST
  case round =>
    have HM := hrel
    have y2 := HM.out.bk.blk.cell 2
    simp at y2
    have hidx := Tryz.bytes_IndexByte_nil 10 wr
    have hend : ∀ W, Below wr.heap.size wr W → Calls Tryz.prog 12 #[.pointer (some ⟨w.heap.size, 0, none⟩)] W fun e w' => e = .returned (.tuple #[]) ∧ Hid (BkM w' w.heap.size w.heap.size [] (Bo.dataF 0 []).length none (.slice none 0 0) ∧ Below w.heap.size w w') := fun W hW => by
      have h1 := HM.out.bk.below hW
      refine (sync_any _ _ _ _ _ _ W h1).mono fun e w' ⟨e1, h2⟩ => ⟨e1, Lib.hid ⟨h2.out.1, (HM.out.bl.trans (hW.mono HM.out.bl.size)).trans (h2.out.2.below (by have := HM.out.bl.size; have := hW.size; omega) (fun j hj e => by omega))⟩⟩
    have HIDX := Lib.hid hidx; have HE := Lib.hid hend
    clear hidx hend
    go_wp2_with fail
    (with_reducible refine HIDX.out.mono ?_)
    rintro e w1 ⟨rfl, rfl⟩
    go_wp2_with fail
    (with_reducible refine (HE.out _ (Below.refl _ _)).mono ?_)
    rintro e w9 ⟨rfl, h9⟩
    obtain ⟨hbk, hbl⟩ := h9.out
    have z2 := hbk.blk.cell 2
    simp at z2
    have HBK := Lib.hid hbk; have HBL := Lib.hid hbl
    clear hbk hbl h9
    go_upto_region 10 with fail
    go_quiet (fail)
    go_wp2_with fail
    go_ret2
    exact ⟨_, rfl, Lib.hid ⟨_, _, HBK.out.below (below_drewN (Below.refl _ _) _), below_drewN HBL.out _⟩⟩
/-- Open at a row of bytes -/
theorem open_any (B0 n : Nat) (v : Value) (d : List UInt8) (ys : List Bo.Ln) (R : List UInt8) (w : World) (hown : w.ownsRow B0 5 1 v n (bC d)) (hd : d = Bo.dataF 0 ys ++ R) (hok : Bo.AllOk 0 ys) (hR : Bo.readL ys.length R = none) (hn : d.length ≤ 100000) (hv : Pv w) :
    Calls Tryz.prog 8 #[v] w (OpenOut w ys) := by
  obtain ⟨hl, h | ⟨gd, cap, cur, rfl, hb, hc, h1, h2, h3, h4⟩⟩ := id hown
  · obtain ⟨rfl, rfl⟩ := h
    rw [bC_len] at hl
    have h0 : d = [] := List.eq_nil_of_length_eq_zero (by omega)
    rw [h0] at hd
    have hy : ys = [] := by
      cases ys with
      | nil => rfl
      | cons y r =>
        have := congrArg List.length hd
        rw [List.length_append, Bo.dataF, List.length_append] at this
        have h5 := (Bo.line_len hok.1 (by decide)).1
        simp at this
        omega
    subst hy
    exact open_nil w
  · rw [bC_len, Nat.mul_one] at hl
    subst hl
    have hgd : gd < w.heap.size := by
      rcases Nat.lt_or_ge gd w.heap.size with h | h
      · exact h
      · rw [Array.getElem?_eq_none h] at hc; cases hc
    refine open_row gd cap d ys R w (fun j hj => ?_) hgd h1 h2 hd hok hR hn hv
    rw [hown.cellAt j (by omega), bC_get hj]
end Go.Proofs.YtdipehgijjkfdaaGreatDoor
