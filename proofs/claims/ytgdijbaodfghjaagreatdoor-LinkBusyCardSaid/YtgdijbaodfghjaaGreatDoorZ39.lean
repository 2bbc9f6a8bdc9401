/-
  Texts of this claim, one behind the other: BusySay, Planted, LinkBusyWalk.
-/
import Derived.Test.YtgdijbaodfghjaaGreatDoorZ31
import Derived.Test.YtgdijbaodfghjaaGreatDoorZ35
import Derived.Test.YtgdijbaodfghjaaGreatDoorZ36
import Derived.Test.YtgdijbaodfghjaaGreatDoorZ37
import Derived.Test.YtgdijbaodfghjaaGreatDoorZ27
import Derived.Test.YtgdijbaodfghjaaGreatDoorZ19
import Derived.Test.YtgdijbaodfghjaaGreatDoorZ02
import Derived.Test.YtgdijbaodfghjaaGreatDoorZ38
/-
  LinkBusy: what its texts say.
-/
namespace Go.Proofs.YtgdijbaodfghjaaGreatDoor
open Bkt
set_option linter.unusedVariables false
def mixText : List UInt8 := [98, 97, 110, 100, 115, 32, 40, 102, 105, 102, 111, 32, 49, 48, 48, 48, 32, 49, 48, 48, 48, 48, 48, 48, 44, 32, 102, 105, 102, 111, 32, 49, 48, 48, 48, 32, 49, 48, 48, 48, 48, 48, 48, 44, 32, 102, 105, 102, 111, 32, 49, 48, 48, 48, 32, 49, 48, 48, 48, 48, 48, 48, 41]
def hshText : List UInt8 := [104, 97, 115, 104, 101, 100, 32, 55, 32, 51, 32, 49, 48, 48, 48]
def rndText : List UInt8 := [114, 111, 117, 110, 100, 115, 32, 49, 48, 48, 48, 32, 40, 57, 48, 48, 32, 53, 48, 48, 32, 50, 48, 48, 48, 41]
def heaText : List UInt8 := [104, 101, 97, 100, 32, 49, 48, 48, 48, 32, 49, 48, 48, 48, 48, 48, 48]
theorem hsh_ok : Pl.HPOk ⟨7, 3, 1000⟩ := ⟨by decide, by decide, by decide⟩
theorem rnd_ok : Pl.QOk (qTo [900, 500, 2000] 3 16) := qTo_ok (room := 1000) ((qsB_iff (zs := [900, 500, 2000])).1 (by decide))
theorem mix_parse : parseW [] mixText = some (mixPk fi3 (by decide)) := by kernel_rfl
theorem hsh_parse : parseW [] hshText = some (hshPk ⟨7, 3, 1000⟩ hsh_ok) := by kernel_rfl
theorem rnd_parse : parseW [] rndText = some (rndPk (qTo [900, 500, 2000] 3 16) rnd_ok 1000) := by kernel_rfl
theorem hea_parse : parseW [] heaText = some (fifoPk ⟨1000, 1000000, true⟩) := by kernel_rfl
end Go.Proofs.YtgdijbaodfghjaaGreatDoor

/-
  The fact 'planted': bands by text; a play over a queue that was just made, told by the number of steps.
-/
namespace Go.Proofs.YtgdijbaodfghjaaGreatDoor
open Go.RowKit Bkt
set_option linter.unusedVariables false
namespace Pl
end Pl
theorem play_seen {M : Pl.QM} {inv : M.σ → Nat → (Nat → Prop) → World → Prop} {q : Value} {base : Nat} (I : QImp M q base inv) (A : Option Addr) (n c : Nat) (l : List Pl.Stp) (s0 : M.σ) (F0 : Nat → Prop) (w : World)
    (hr : RdR StR w w.heap.size A n l) (hn : n ≤ 1000) (hi : inv s0 0 F0 w) :
    Calls Tryz.prog 19 #[q, .slice A n c] w fun e w' => ∃ As cs F', e = .returned (.slice As n cs) ∧ RdSn w' w'.heap.size As n (Pl.seenAt M s0 (Pl.timesTo l n)) ∧ (∃ k, inv (Pl.nth M s0 (Pl.timesTo l n) n).2 k F' w') ∧ Chg w w' F0 ∧
      (∀ i, F' i → F0 i ∨ w.heap.size ≤ i) ∧ ∀ ad, As = some ad → w.heap.size ≤ ad.block := by
  have htl := Pl.timesTo_len l n (by have := hr.len; omega)
  refine (play_any I A n c l s0 0 F0 w hr (by omega) hi).mono ?_
  rintro e w' ⟨As, cs, e1, h1, h4, F', h2, h3, h5⟩
  rw [htl] at e1 h1 h2
  exact ⟨As, cs, F', e1, h1, ⟨_, h2⟩, h3, h5, h4⟩
theorem play_pk {P : Pk} {v : Value} {base : Nat} {F : Nat → Prop} (A : Option Addr) (n c : Nat) (l : List Pl.Stp) (w : World) (hp : PkM P v base F w) (hr : RdR StR w w.heap.size A n l) (hn : n ≤ 1000) :
    Calls Tryz.prog 19 #[v, .slice A n c] w fun e w' => ∃ As cs, e = .returned (.slice As n cs) ∧ Hid (RdSn w' w'.heap.size As n (Pl.seenAt P.M P.s0 (Pl.timesTo l n)) ∧ Chg w w' F) := by
  obtain ⟨inv, qi, hi⟩ := hp.ex
  refine (play_seen qi A n c l P.s0 F w hr hn hi).mono ?_
  rintro e w' ⟨As, cs, F', rfl, h1, _, h2, _, _⟩
  exact ⟨As, cs, rfl, Lib.hid ⟨h1, h2⟩⟩
def plantedText : List UInt8 := [98, 97, 110, 100, 115, 32, 40, 102, 105, 102, 111, 32, 49, 32, 49, 48, 44, 32, 104, 101, 97, 100, 32, 50, 32, 50, 48, 41]
def plantedPk : Pk := mixPk [fifoPk ⟨1, 10, false⟩, fifoPk ⟨2, 20, true⟩] (by decide)
theorem planted_parse : parseW [] plantedText = some plantedPk := by kernel_rfl
def plantedSteps : List Pl.Stp := [⟨0, 0, ⟨0, 5, 0, 3, 0⟩⟩, ⟨0, 0, ⟨0, 5, 0, 0, 0⟩⟩, ⟨1, 0, ⟨0, 0, 0, 0, 0⟩⟩]
theorem planted_sees : (Pl.seenAt plantedPk.M plantedPk.s0 (Pl.timesTo plantedSteps 3) 2).taken = 1 ∧ (Pl.seenAt plantedPk.M plantedPk.s0 (Pl.timesTo plantedSteps 3) 2).len = 1 := by
  refine ⟨?_, ?_⟩ <;> kernel_rfl
def plantedCells : Array Value := #[.int .i64 0, .int .i64 0, .int .i64 0, .int .i64 5, .int .i64 0, .int .i64 3, .int .i64 0, .int .i64 0, .int .i64 0, .int .i64 0, .int .i64 5, .int .i64 0, .int .i64 0, .int .i64 0, .int .i64 1, .int .i64 0, .int .i64 0, .int .i64 0, .int .i64 0, .int .i64 0, .int .i64 0]
set_option maxHeartbeats 1000000 in
set_option maxRecDepth 100000 in
theorem planted_yes (w : World) (hv : Pv w) : Calls Tryz.prog 9 #[] w fun e w' => e = .returned (.bool true) ∧ Below w.heap.size w w' := by
  have hn := parse_p plantedText (by decide) none 0 [] w hv Reads.none_ (by decide)
  rw [planted_parse] at hn
  have HN : Hid (Calls Tryz.prog 17 #[.string ⟨#[98, 97, 110, 100, 115, 32, 40, 102, 105, 102, 111, 32, 49, 32, 49, 48, 44, 32, 104, 101, 97, 100, 32, 50, 32, 50, 48, 41]⟩, .slice none 0 0] w (ParseEnd w (some plantedPk))) := Lib.hid hn
  clear hn hv
  go_enter Tryz.func9, Tryz.ntmps9
  go_wp2_with fail
  (with_reducible refine HN.out.mono ?_)
  rintro e w1 (⟨P, v, F, hP, rfl, hqv, h1⟩ | ⟨hno, _⟩)
  rotate_left
  · cases hno
  injection hP with hP
  subst hP
  obtain ⟨T, gv, rfl⟩ := hqv
  obtain ⟨hpk, hb1, hF⟩ := h1.out
  have hpl := play_pk (some ⟨w1.heap.size, 0, none⟩) 3 3 plantedSteps (w1.alloc (.cells plantedCells 65)) (hpk.chg ((Chg.refl w1 (fun _ => False)).alloc _) (fun _ _ e => e)) (RdR.of_blk (Blk.new w1 65 plantedCells) rfl) (by decide)
  have HB1 := Lib.hid hb1; have HPL := Lib.hid hpl; have HF := Lib.hid hF
  clear hb1 hpk h1 hpl hF HN
  unfold plantedCells at HPL
  go_wp2_with fail
  (with_reducible refine HPL.out.mono ?_)
  rintro e w2 ⟨A, c, rfl, h2⟩
  obtain ⟨b, off, A', c', rfl, hb, z0, z3, _, _, _⟩ := h2.out.1.at_ (k := 2) (by omega)
  rw [planted_sees.1] at z0
  rw [planted_sees.2] at z3
  have hfin : Below w.heap.size w w2 := by
    have h3 := (h2.out.2.below (B := w.heap.size) (by have := HB1.out.size; simp; omega) (fun i hi e => by have := HF.out i e; omega))
    exact (HB1.out.alloc HB1.out.size _).trans h3
  have HFIN := Lib.hid hfin
  clear h2 hfin HPL
  simp at z0 z3
  go_wp2_with fail
  go_ret
  exact ⟨rfl, HFIN.out⟩
end Go.Proofs.YtgdijbaodfghjaaGreatDoor

/-
  LinkBusy: the whole walk. (printed by gen_busy.py)
-/
namespace Go.Proofs.YtgdijbaodfghjaaGreatDoor
open Go.RowKit Bkt
set_option linter.unusedVariables false
def fifText : List UInt8 := [102, 105, 102, 111, 32, 49, 48, 48, 48, 32, 49, 48, 48, 48, 48, 48, 48]
theorem fif_parse : parseW [] fifText = some (fifoPk ⟨1000, 1000000, false⟩) := by kernel_rfl
def txt : Nat → List UInt8
  | 0 => mixText
  | 1 => hshText
  | 2 => rndText
  | _ => heaText
theorem txt_len : ∀ j, (txt j).length ≤ 100
  | 0 => by decide
  | 1 => by decide
  | 2 => by decide
  | _ + 3 => by show heaText.length ≤ 100; decide
theorem txt_all : ∀ j, j < 4 → ∃ P : Pk, Pl.WC P.M P.I ∧ parseW [] (txt j) = some P
  | 0, _ => ⟨_, wc_mix, mix_parse⟩
  | 1, _ => ⟨_, wc_hsh hsh_ok (by decide), hsh_parse⟩
  | 2, _ => ⟨_, wc_rnd rnd_ok (by decide), rnd_parse⟩
  | 3, _ => ⟨_, wc_fifo true, hea_parse⟩
theorem busy_run {P : Pk} (WC : Pl.WC P.M P.I) (text : List UInt8) (hlm : text.length ≤ 1000000) (rb rt : Int) (A : Option Addr) (n c : Nat) (l : List It) (w : World) (hv : Pv w) (hr : RdIt w w.heap.size A n l) (hp : parseW [] text = some P) (hs : SpeedOk rb rt) (hf : ListFine l) (hn : l.length ≤ 40) :
    Calls Tryz.prog 7 #[.string ⟨text.toArray⟩, .agg #[.int .i64 rb, .int .i64 rt], .slice A n c, .int .i64 9000000] w (RunWYes (fun S => Pl.BsR P.M l rb rt 9000000 S) w) := by
  have hg := WC.good
  refine (run_w_yes (P := P) text hlm rb rt 9000000 A n c l w hv hr hp hs hf (by decide) ((Pl.wc_inv WC hf hn hs 9000000).and (Pl.kp_inv hg hf hs 9000000)) ⟨Pl.wc_start P.hI P.w0 l rb rt (fun i hi => (hf.2.1 i hi).f0.1), Pl.kp_start P.hI P.w0 l rb rt 9000000 (by decide)⟩ (fun S hS => Pl.KpB.bd hg hf hS.2)).mono ?_
  rintro e w' ⟨S, As, Al, cs, cl, he, h⟩
  exact ⟨S, As, Al, cs, cl, he, Lib.hid ⟨h.out.1.1, h.out.2⟩⟩
set_option maxHeartbeats 1000000 in
set_option maxRecDepth 100000 in
theorem linkBusy_many (rb rt : Int) (A : Option Addr) (n c : Nat) (lists : Int) (W : World) (h : 40 < n) :
    Calls Tryz.prog 4 #[.agg #[.int .i64 rb, .int .i64 rt], .slice A n c, .int .i64 lists] W fun e w' => e = .returned (.bool true) ∧ Below W.heap.size W w' := by
  have i1 : decide ((40 : Int) < (n : Int)) = true := decide_eq_true (by omega)
  go_enter Tryz.func4, Tryz.ntmps4
  go_wp2_with fail
  go_ret
  exact ⟨rfl, bl_alloc (Below.refl _ _)⟩
set_option maxHeartbeats 2000000 in
set_option maxRecDepth 100000 in
theorem linkBusy_no (rb rt : Int) (A : Option Addr) (n c : Nat) (l : List It) (lists : Int) (W : World) (hv : Pv W) (hr : RdIt W W.heap.size A n l) (h : n ≤ 40) (hbad : ¬ SpeedOk rb rt ∨ ¬ ListFine l) :
    Calls Tryz.prog 4 #[.agg #[.int .i64 rb, .int .i64 rt], .slice A n c, .int .i64 lists] W fun e w' => e = .returned (.bool true) ∧ Below W.heap.size W w' := by
  have hb0 : Below W.heap.size W (W.alloc (.cells #[.int .i64 rb, .int .i64 rt] 23)) := bl_alloc (Below.refl _ _)
  have hrn := run_w_bad (P := fifoPk ⟨1000, 1000000, false⟩) fifText (by decide) rb rt 9000000 A n c l _ (hv.below hb0 hv.sz) (hr.over hb0 (Nat.le_refl _)) fif_parse (.inl hbad)
  have HLK := Lib.hid (fun W' (hb : Below W.heap.size W W') => linked_yes W' (hv.below hb hv.sz).h)
  have HPL := Lib.hid (fun W' (hb : Below W.heap.size W W') => planted_yes W' (hv.below hb hv.sz))
  have HRN : Hid (Calls Tryz.prog 7 #[.string ⟨#[102, 105, 102, 111, 32, 49, 48, 48, 48, 32, 49, 48, 48, 48, 48, 48, 48]⟩, .agg #[.int .i64 rb, .int .i64 rt], .slice A n c, .int .i64 9000000] (W.alloc (.cells #[.int .i64 rb, .int .i64 rt] 23)) (RunWNo (W.alloc (.cells #[.int .i64 rb, .int .i64 rt] 23)))) := Lib.hid hrn
  have HB0 := Lib.hid hb0
  have i1 : decide ((40 : Int) < (n : Int)) = false := decide_eq_false (by omega)
  clear hb0 hrn hv hr hbad
  go_enter Tryz.func4, Tryz.ntmps4
  go_wp2_with fail
  (with_reducible refine HRN.out.mono ?_)
  rintro e w1 ⟨rfl, hb1⟩
  have HB1 := Lib.hid (bl_next HB0.out hb1)
  clear hb1
  unfold logN
  go_wp2_with fail
  (with_reducible refine (HLK.out _ (bl_alloc HB1.out)).mono ?_)
  rintro e w2 ⟨rfl, hb2⟩
  have HB2 := Lib.hid (bl_next (bl_alloc HB1.out) hb2)
  clear hb2
  go_wp2_with fail
  (with_reducible refine (HPL.out _ HB2.out).mono ?_)
  rintro e w3 ⟨rfl, hb3⟩
  have HB3 := Lib.hid (bl_next HB2.out hb3)
  clear hb3
  go_wp2_with fail
  (with_reducible refine (HLK.out _ HB3.out).mono ?_)
  rintro e w4 ⟨rfl, hb4⟩
  have HB4 := Lib.hid (bl_next HB3.out hb4)
  clear hb4
  go_wp2_with fail
  (with_reducible refine (HPL.out _ HB4.out).mono ?_)
  rintro e w5 ⟨rfl, hb5⟩
  have HB5 := Lib.hid (bl_next HB4.out hb5)
  clear hb5
  go_wp2_with fail
  go_ret
  exact ⟨rfl, HB5.out⟩
structure BuS (W w3 : World) (rb rt : Int) (wx : World) : Prop where
  a : wx.cell? ⟨W.heap.size, 0, none⟩ = some (.int .i64 rb)
  b : wx.cell? ⟨W.heap.size, 1, none⟩ = some (.int .i64 rt)
  c : ∀ j, j < 4 → wx.cell? ⟨w3.heap.size, j, none⟩ = some (.string ⟨(txt j).toArray⟩)
theorem BuS.below {W w3 w w' : World} {rb rt : Int} (h : BuS W w3 rb rt w) (hb : Below w.heap.size w w') : BuS W w3 rb rt w' :=
  ⟨(hb.cell (lt_of_cell h.a)).trans h.a, (hb.cell (lt_of_cell h.b)).trans h.b, fun j hj => (hb.cell (lt_of_cell (h.c j hj))).trans (h.c j hj)⟩
def BzOut (l : List It) (rb rt : Int) (w3 : World) (pv bv : Value) (wx : World) : Prop :=
  ∃ (M : Pl.QM) (SB : Pl.Lk M.σ) (gb : Nat) (Bs Bl : Option Addr) (ds dl : Nat) (Qb mb : Int), pv = .pointer (some ⟨gb, 0, none⟩) ∧ bv = .bool true ∧ Hid (Pl.BsR M l rb rt 9000000 SB ∧ Blk wx gb 28 #[.slice Bs SB.sent.length ds, .slice Bl 0 dl, .int .i64 Qb, .int .i64 mb] ∧ RdR SntR wx wx.heap.size Bs SB.sent.length SB.sent ∧ Below w3.heap.size w3 wx ∧ w3.heap.size ≤ gb)
theorem rd_notlog {w : World} {B n gb : Nat} {b off : Nat} {l : List Pl.Snt} {v0 v1 v2 v3 : Value} (h : RdR SntR w B (some ⟨b, off, none⟩) n l) (hn : 0 < n) (hk : Blk w gb 28 #[v0, v1, v2, v3]) (h0 : ∀ x, v0 ≠ .int .i64 x) : b ≠ gb := by
  intro e
  subst e
  obtain ⟨a0, a1, a2, a3⟩ := rdSnt_6 h hn
  have k0 := hk.cell (off + 0 * 4); have k3 := hk.cell (off + 0 * 4 + 3)
  rw [a0] at k0
  rw [a3] at k3
  have e0 : off = 0 := by
    rcases Nat.eq_zero_or_pos off with e | e
    · exact e
    · rw [Array.getElem?_eq_none (by simp; omega)] at k3; cases k3
  subst e0
  simp at k0
  exact h0 _ k0.symm
theorem bz_mk {l : List It} {rb rt : Int} {w3 wz : World} {M : Pl.QM} {SB : Pl.Lk M.σ} {gb : Nat} {Bs Bl : Option Addr} {ds dl : Nat} {v0 v1 v2 v3 : Value} {Qb mb : Int} (hb : Pl.BsR M l rb rt 9000000 SB) (hz : Blk wz gb 28 #[v0, v1, v2, v3]) (hs : RdR SntR wz wz.heap.size Bs SB.sent.length SB.sent) (h3 : Below w3.heap.size w3 wz) (hg : w3.heap.size ≤ gb) (h0 : v0 = .slice none 0 0) :
    BzOut l rb rt w3 (.pointer (some ⟨gb, 0, none⟩)) (.bool true) ((((wz.setCell ⟨gb, 0, none⟩ (.slice Bs SB.sent.length ds)).setCell ⟨gb, 1, none⟩ (.slice Bl 0 dl)).setCell ⟨gb, 2, none⟩ (.int .i64 Qb)).setCell ⟨gb, 3, none⟩ (.int .i64 mb)) := by
  have hc : Chg wz ((((wz.setCell ⟨gb, 0, none⟩ (.slice Bs SB.sent.length ds)).setCell ⟨gb, 1, none⟩ (.slice Bl 0 dl)).setCell ⟨gb, 2, none⟩ (.int .i64 Qb)).setCell ⟨gb, 3, none⟩ (.int .i64 mb)) (fun i => i = gb) :=
    ((((Chg.refl wz (fun i => i = gb)).setCell (p := ⟨gb, 0, none⟩) (fun _ => rfl) _).setCell (p := ⟨gb, 1, none⟩) (fun _ => rfl) _).setCell (p := ⟨gb, 2, none⟩) (fun _ => rfl) _).setCell (p := ⟨gb, 3, none⟩) (fun _ => rfl) _
  refine ⟨M, SB, gb, Bs, Bl, ds, dl, Qb, mb, rfl, rfl, Lib.hid ⟨hb, (((hz.set_ 0 _).set_ 1 _).set_ 2 _).set_ 3 _, ?_, ?_, hg⟩⟩
  · rcases Nat.eq_zero_or_pos SB.sent.length with e | e
    · exact ⟨hs.1, fun h0 => absurd h0 (by omega)⟩
    · exact (hs.chg (Nat.le_refl _) hc (fun b off e2 => by subst e2; exact rd_notlog hs e hz (fun x => by rw [h0]; intro h; cases h))).more hc.size
  · exact h3.trans (hc.below (B := w3.heap.size) h3.size (fun i hi e => by omega))
theorem bz_mkA {l : List It} {rb rt : Int} {w3 w6 : World} {M : Pl.QM} {SB : Pl.Lk M.σ} {Bs Bl : Option Addr} {ds dl : Nat} {Qb mb : Int} (hb : Pl.BsR M l rb rt 9000000 SB) (hs : RdR SntR w6 w6.heap.size Bs SB.sent.length SB.sent) (h3 : Below w3.heap.size w3 w6) :
    BzOut l rb rt w3 (.pointer (some ⟨w6.heap.size, 0, none⟩)) (.bool true) (w6.alloc (.cells #[.slice Bs SB.sent.length ds, .slice Bl 0 dl, .int .i64 Qb, .int .i64 mb] 28)) :=
  ⟨M, SB, w6.heap.size, Bs, Bl, ds, dl, Qb, mb, rfl, rfl, Lib.hid ⟨hb, Blk.new _ _ _, hs.over (bl_alloc (Below.refl _ _)) (Nat.le_refl _), bl_alloc h3, h3.size⟩⟩
structure BzR (W wr : World) (ga gb : Nat) (lga lgb : Array Value) (As Bs : Option Addr) (sa sb : List Pl.Snt) : Prop where
  za : Blk wr ga 28 lga
  zb : Blk wr gb 28 lgb
  sa : RdR SntR wr wr.heap.size As sa.length sa
  sb : RdR SntR wr wr.heap.size Bs sb.length sb
  b : Below W.heap.size W wr
set_option maxHeartbeats 8000000 in
set_option maxRecDepth 100000 in
theorem linkBusy_yes (rb rt : Int) (A : Option Addr) (n c : Nat) (l : List It) (lists : Int) (W : World) (hv : Pv W) (hr : RdIt W W.heap.size A n l) (h : n ≤ 40) (hl0 : -9223372036854775808 ≤ lists) (hl1 : lists ≤ 9223372036854775807) (hs : SpeedOk rb rt) (hf : ListFine l) :
    Calls Tryz.prog 4 #[.agg #[.int .i64 rb, .int .i64 rt], .slice A n c, .int .i64 lists] W fun e w' => e = .returned (.bool true) ∧ Below W.heap.size W w' := by
  have hll := hr.len
  have hb0 : Below W.heap.size W (W.alloc (.cells #[.int .i64 rb, .int .i64 rt] 23)) := bl_alloc (Below.refl _ _)
  have hk0 := Blk.new W 23 #[.int .i64 rb, .int .i64 rt]
  have hrn := busy_run (wc_fifo false) fifText (by decide) rb rt A n c l _ (hv.below hb0 hv.sz) (hr.over hb0 (Nat.le_refl _)) fif_parse hs hf (by omega)
  have HLK := Lib.hid (fun W' (hb : Below W.heap.size W W') => linked_yes W' (hv.below hb hv.sz).h)
  have HPL := Lib.hid (fun W' (hb : Below W.heap.size W W') => planted_yes W' (hv.below hb hv.sz))
  have HV := Lib.hid (fun W' (hb : Below W.heap.size W W') => hv.below hb hv.sz)
  have HRN : Hid (Calls Tryz.prog 7 #[.string ⟨#[102, 105, 102, 111, 32, 49, 48, 48, 48, 32, 49, 48, 48, 48, 48, 48, 48]⟩, .agg #[.int .i64 rb, .int .i64 rt], .slice A n c, .int .i64 9000000] (W.alloc (.cells #[.int .i64 rb, .int .i64 rt] 23)) _) := Lib.hid hrn
  have HB0 := Lib.hid hb0; have HK0 := Lib.hid hk0; have HR := Lib.hid hr; have HLL := Lib.hid hll; have HF := Lib.hid hf; have HS := Lib.hid hs; have HB := Lib.hid txt_all; have HN := Lib.hid h
  have i1 : decide ((40 : Int) < (n : Int)) = false := decide_eq_false (by omega)
  clear hb0 hrn hv hr hk0 hll hf hs
  go_enter Tryz.func4, Tryz.ntmps4
  go_wp2_with fail
  (with_reducible refine HRN.out.mono ?_)
  rintro e w1 ⟨S, As, Al, cs, cl, he, h1⟩
  obtain ⟨hw, hrs, hrl, hb1⟩ := h1.out
  have hlo := hw.lo
  rw [hlo, List.length_nil] at he
  have HW := Lib.hid hw
  generalize (fifoPk ⟨1000, 1000000, false⟩).M.len S.q = Qa at he
  generalize S.most = ma at he
  generalize hsa : S.sent = sa at *
  have HSA := Lib.hid hsa
  subst he
  have hb1' := bl_next HB0.out hb1
  have hk1 := HK0.out.below hb1 HK0.out.lt
  have HB1 := Lib.hid hb1'; have HK1 := Lib.hid hk1; have HSN1 := Lib.hid hrs
  clear h1 hw hrs hrl hb1 hb1' hlo hk1 HRN hsa
  have hz1 := Blk.new w1 28 #[.slice As sa.length cs, .slice Al 0 cl, .int .i64 Qa, .int .i64 ma]
  have hbz : Below w1.heap.size w1 (w1.alloc (.cells #[.slice As sa.length cs, .slice Al 0 cl, .int .i64 Qa, .int .i64 ma] 28)) := bl_alloc (Below.refl _ _)
  have HZ1 := Lib.hid hz1; have HBZ := Lib.hid hbz
  clear hz1 hbz
  go_wp2_with fail
  (with_reducible refine (HLK.out _ (bl_alloc HB1.out)).mono ?_)
  rintro e w2 ⟨rfl, hb2⟩
  have HB2 := Lib.hid (bl_next (bl_alloc HB1.out) hb2); have HC2 := Lib.hid (hb2 : Below _ _ w2)
  clear hb2
  go_wp2_with fail
  (with_reducible refine (HPL.out _ HB2.out).mono ?_)
  rintro e w3 ⟨rfl, hb3⟩
  have HB3 := Lib.hid (bl_next HB2.out hb3)
  have h13 : Below w1.heap.size w1 w3 := HBZ.out.trans ((HC2.out.trans (hb3.mono HC2.out.size)).mono HBZ.out.size)
  have hz3 := (HZ1.out.below HC2.out HZ1.out.lt).below hb3 (HZ1.out.below HC2.out HZ1.out.lt).lt
  have hk3 := HK1.out.below h13 HK1.out.lt
  have hs3 := HSN1.out.over h13 (Nat.le_refl _)
  have HZ3 := Lib.hid hz3; have HK3 := Lib.hid hk3; have HS3 := Lib.hid hs3
  have hbt : Below w3.heap.size w3 (w3.alloc (.cells #[.string ⟨(txt 0).toArray⟩, .string ⟨(txt 1).toArray⟩, .string ⟨(txt 2).toArray⟩, .string ⟨(txt 3).toArray⟩] 9)).drew := bl_drew (bl_alloc (Below.refl _ _))
  have hbd := bl_next HB3.out hbt
  have HBT := Lib.hid hbt; have HBD := Lib.hid hbd
  have hbt0 : Below w3.heap.size w3 (w3.alloc (.cells #[.string ⟨(txt 0).toArray⟩, .string ⟨(txt 1).toArray⟩, .string ⟨(txt 2).toArray⟩, .string ⟨(txt 3).toArray⟩] 9)) := bl_alloc (Below.refl _ _)
  have HBT0 := Lib.hid hbt0; have HBD0 := Lib.hid (bl_next HB3.out hbt0)
  clear hbt0
  have hsd : BuS W w3 rb rt (w3.alloc (.cells #[.string ⟨(txt 0).toArray⟩, .string ⟨(txt 1).toArray⟩, .string ⟨(txt 2).toArray⟩, .string ⟨(txt 3).toArray⟩] 9)).drew := by
    refine ⟨(hk3.below hbt hk3.lt).cell 0, (hk3.below hbt hk3.lt).cell 1, fun j hj => ?_⟩
    have ht4 : Blk (w3.alloc (.cells #[.string ⟨(txt 0).toArray⟩, .string ⟨(txt 1).toArray⟩, .string ⟨(txt 2).toArray⟩, .string ⟨(txt 3).toArray⟩] 9)).drew w3.heap.size 9 #[.string ⟨(txt 0).toArray⟩, .string ⟨(txt 1).toArray⟩, .string ⟨(txt 2).toArray⟩, .string ⟨(txt 3).toArray⟩] := (Blk.new w3 _ _).drew
    rw [ht4.cell j]
    match j, hj with
    | 0, _ => rfl
    | 1, _ => rfl
    | 2, _ => rfl
    | 3, _ => rfl
  have HSD := Lib.hid hsd
  have HRUN : Hid (∀ j, j < 4 → ∀ w', Below W.heap.size W w' → ∃ PB : Pk, Calls Tryz.prog 7 #[.string ⟨(txt j).toArray⟩, .agg #[.int .i64 rb, .int .i64 rt], .slice A n c, .int .i64 9000000] w' (RunWYes (fun S => Pl.BsR PB.M l rb rt 9000000 S) w')) := Lib.hid (fun j hj w' hb => by
    obtain ⟨PB, WB, hpB⟩ := HB.out j hj
    exact ⟨PB, busy_run WB (txt j) (by have := txt_len j; omega) rb rt A n c l w' (HV.out w' hb) (HR.out.over hb (Nat.le_refl _)) hpB HS.out HF.out (by have := HLL.out; have := HN.out; omega)⟩)
  clear hb3 h13 hz3 hk3 hs3 hbt hbd hsd HC2
  go_upto_region 8 with fail
  change Code.wp _ _ _ _ (w3.alloc (.cells #[.string ⟨(txt 0).toArray⟩, .string ⟨(txt 1).toArray⟩, .string ⟨(txt 2).toArray⟩, .string ⟨(txt 3).toArray⟩] 9))
  go_cut [11, 12] from 40 to 53 (fun pv bv wx => BzOut l rb rt w3 pv bv wx)
  case first =>
    go_upto_region 8 with fail
    refine wp_till (BuS W w3 rb rt) [15] (by kernel_rfl) ?_
    refine till_take0 0 _ ?_ (by simp only [List.getElem?_toArray, List.getElem?_cons_zero]; rfl) (by kernel_rfl) (by kernel_rfl) (by kernel_rfl) (by kernel_rfl) (by intro _ _ _ _ h; exact h) (Or.inl ⟨by rfl, ?_⟩) (fun _ => HSD.out) ?_
    rotate_left 1; focus (intro wx _; go_simp; try with_reducible rfl)
    try simp only [Act.put, List.setIfInBounds_toArray, List.set_cons_zero, List.set_cons_succ]
    refine till_take0 1 _ ?_ (by simp only [List.getElem?_toArray, List.getElem?_cons_succ, List.getElem?_cons_zero]; rfl) (by kernel_rfl) (by kernel_rfl) (by kernel_rfl) (by kernel_rfl) (by intro _ _ _ _ h; exact h) (Or.inl ⟨by rfl, ?_⟩) (fun _ => HSD.out) ?_
    rotate_left 1; focus (intro wx _; go_simp; try with_reducible rfl)
    try simp only [Act.put, List.setIfInBounds_toArray, List.set_cons_zero, List.set_cons_succ]
    refine till_take0 2 _ ?_ (by simp only [List.getElem?_toArray, List.getElem?_cons_succ, List.getElem?_cons_zero]; rfl) (by kernel_rfl) (by kernel_rfl) (by kernel_rfl) (by kernel_rfl) (by intro _ _ _ _ h; exact h) (Or.inl ⟨by rfl, ?_⟩) (fun _ => HSD.out) ?_
    rotate_left 1; focus (intro wx _; go_simp; try with_reducible rfl)
    try simp only [Act.put, List.setIfInBounds_toArray, List.set_cons_zero, List.set_cons_succ]
    refine till_take0 3 _ ?_ (by simp only [List.getElem?_toArray, List.getElem?_cons_succ, List.getElem?_cons_zero]; rfl) (by kernel_rfl) (by kernel_rfl) (by kernel_rfl) (by kernel_rfl) (by intro _ _ _ _ h; exact h) (Or.inl ⟨by rfl, ?_⟩) (fun _ => HSD.out) ?_
    rotate_left 1; focus (intro wx _; go_simp; try with_reducible rfl)
    try simp only [Act.put, List.setIfInBounds_toArray, List.set_cons_zero, List.set_cons_succ]
    refine till_take 7 [] _ ?_ (by simp only [List.getElem?_toArray, List.getElem?_cons_succ, List.getElem?_cons_zero]; rfl) (by kernel_rfl) (by kernel_rfl) (by kernel_rfl) (by kernel_rfl) (by kernel_rfl) (by intro _ _ _ _ h; exact h) (Or.inl ⟨by rfl, ?_⟩) HSD.out ?_
    rotate_left 1; focus (intro wx hSw; (try dsimp only at hSw); obtain ⟨q0, q1, q2⟩ := hSw; go_simp; try with_reducible rfl)
    try simp only [Act.put, List.setIfInBounds_toArray, List.set_cons_zero, List.set_cons_succ]
    refine till_take0 8 _ ?_ (by simp only [List.getElem?_toArray, List.getElem?_cons_succ, List.getElem?_cons_zero]; rfl) (by kernel_rfl) (by kernel_rfl) (by kernel_rfl) (by kernel_rfl) (by intro _ _ _ _ h; exact h) (Or.inl ⟨by rfl, ?_⟩) (fun _ => HSD.out) ?_
    rotate_left 1; focus (intro wx _; go_simp; try with_reducible rfl)
    try simp only [Act.put, List.setIfInBounds_toArray, List.set_cons_zero, List.set_cons_succ]
    refine till_take0 9 _ ?_ (by simp only [List.getElem?_toArray, List.getElem?_cons_succ, List.getElem?_cons_zero]; rfl) (by kernel_rfl) (by kernel_rfl) (by kernel_rfl) (by kernel_rfl) (by intro _ _ _ _ h; exact h) (Or.inl ⟨by rfl, ?_⟩) (fun _ => HSD.out) ?_
    rotate_left 1; focus (intro wx _; go_simp; try with_reducible rfl)
    try simp only [Act.put, List.setIfInBounds_toArray, List.set_cons_zero, List.set_cons_succ]
    refine till_ready [4, 14] (by kernel_rfl) (by simp) ?_
    refine alls_cons (by simp only [List.getElem?_toArray, List.getElem?_cons_succ, List.getElem?_cons_zero]; rfl) (fun K hK => ?_) (alls_cons (by simp only [List.getElem?_toArray, List.getElem?_cons_succ, List.getElem?_cons_zero]; rfl) (fun K hK => ?_) alls_nil)
    · go_simp
      go_at_call 12; (with_reducible refine (pick_any lists 4 _ (by decide) (by decide) hl0 hl1).mono ?_); rintro e w5 ⟨r, hr0, hr1, rfl, rfl⟩
      obtain ⟨j, rfl⟩ : ∃ j : Nat, r = j := ⟨r.toNat, by omega⟩
      have hj4 : j < 4 := by omega
      refine hK.out _ _ (fun _ => HSD.out) ?_
      clear hK K
      try simp only [Act.put, List.setIfInBounds_toArray, List.set_cons_zero, List.set_cons_succ]
      refine till_take 5 [] _ ?_ (by simp only [List.getElem?_toArray, List.getElem?_cons_succ, List.getElem?_cons_zero]; rfl) (by kernel_rfl) (by kernel_rfl) (by kernel_rfl) (by kernel_rfl) (by kernel_rfl) (by intro _ _ _ _ h; exact h) (Or.inl ⟨by rfl, ?_⟩) HSD.out ?_
      rotate_left 1; focus (intro wx hSw; (try dsimp only at hSw); obtain ⟨q0, q1, q2⟩ := hSw; go_simp; try with_reducible rfl)
      try simp only [Act.put, List.setIfInBounds_toArray, List.set_cons_zero, List.set_cons_succ]
      refine till_take 6 [] _ ?_ (by simp only [List.getElem?_toArray, List.getElem?_cons_succ, List.getElem?_cons_zero]; rfl) (by kernel_rfl) (by kernel_rfl) (by kernel_rfl) (by kernel_rfl) (by kernel_rfl) (by intro _ _ _ _ h; exact h) (Or.inl ⟨by rfl, ?_⟩) HSD.out ?_
      rotate_left 1; focus (intro wx hSw; (try dsimp only at hSw); obtain ⟨q0, q1, q2⟩ := hSw; have q9 := q2 j hj4; go_simp; try with_reducible rfl)
      try simp only [Act.put, List.setIfInBounds_toArray, List.set_cons_zero, List.set_cons_succ]
      refine till_ready [10, 14] (by kernel_rfl) (by simp) ?_
      refine alls_cons (by simp only [List.getElem?_toArray, List.getElem?_cons_succ, List.getElem?_cons_zero]; rfl) (fun K hK => ?_) (alls_cons (by simp only [List.getElem?_toArray, List.getElem?_cons_succ, List.getElem?_cons_zero]; rfl) (fun K hK => ?_) alls_nil)
      · go_simp
        obtain ⟨PB, hrb⟩ := HRUN.out j hj4 ((w3.alloc (.cells #[.string ⟨(txt 0).toArray⟩, .string ⟨(txt 1).toArray⟩, .string ⟨(txt 2).toArray⟩, .string ⟨(txt 3).toArray⟩] 9)).drew) HBD.out
        have HRB := Lib.hid hrb
        go_at_call 7; (with_reducible refine HRB.out.mono ?_)
        rintro e w6 ⟨SB, Bs, Bl, ds, dl, he6, h6⟩
        obtain ⟨hb, hbs, -, hb6⟩ := h6.out
        rw [hb.lo, List.length_nil] at he6
        subst he6
        have HBB := Lib.hid hb; have HBSR := Lib.hid hbs; have HB6 := Lib.hid hb6
        have HS6 : Hid (BuS W w3 rb rt w6) := Lib.hid (BuS.below HSD.out hb6)
        clear hb hbs hb6 h6 hrb
        refine hK.out _ _ (fun _ => HS6.out) ?_
        clear hK K
        try simp only [Act.put, List.setIfInBounds_toArray, List.set_cons_zero, List.set_cons_succ]
        refine till_take0 11 _ ?_ (by simp only [List.getElem?_toArray, List.getElem?_cons_succ, List.getElem?_cons_zero]; rfl) (by kernel_rfl) (by kernel_rfl) (by kernel_rfl) (by kernel_rfl) (by intro _ _ _ _ h; exact h) (Or.inl ⟨by rfl, ?_⟩) (fun _ => HS6.out) ?_
        rotate_left 1; focus (intro wx _; go_simp; try with_reducible rfl)
        try simp only [Act.put, List.setIfInBounds_toArray, List.set_cons_zero, List.set_cons_succ]
        refine till_take0 12 _ ?_ (by simp only [List.getElem?_toArray, List.getElem?_cons_succ, List.getElem?_cons_zero]; rfl) (by kernel_rfl) (by kernel_rfl) (by kernel_rfl) (by kernel_rfl) (by intro _ _ _ _ h; exact h) (Or.inl ⟨by rfl, ?_⟩) (fun _ => HS6.out) ?_
        rotate_left 1; focus (intro wx _; go_simp; try with_reducible rfl)
        try simp only [Act.put, List.setIfInBounds_toArray, List.set_cons_zero, List.set_cons_succ]
        refine till_take0 13 _ ?_ (by simp only [List.getElem?_toArray, List.getElem?_cons_succ, List.getElem?_cons_zero]; rfl) (by kernel_rfl) (by kernel_rfl) (by kernel_rfl) (by kernel_rfl) (by intro _ _ _ _ h; exact h) (Or.inl ⟨by rfl, ?_⟩) (fun _ => HS6.out) ?_
        rotate_left 1; focus (intro wx _; go_simp; try with_reducible rfl)
        try simp only [Act.put, List.setIfInBounds_toArray, List.set_cons_zero, List.set_cons_succ]
        refine till_ready [14] (by kernel_rfl) (by simp) ?_
        refine alls_cons (by simp only [List.getElem?_toArray, List.getElem?_cons_succ, List.getElem?_cons_zero]; rfl) (fun K hK => ?_) alls_nil
        go_simp
        have HS7 : Hid (BuS W w3 rb rt (w6.alloc (.cells #[.slice none 0 0, .slice none 0 0, .int .i64 0, .int .i64 0] 28))) := Lib.hid (BuS.below HS6.out (bl_alloc (Below.refl _ _)))
        refine hK.out _ _ (fun _ => HS7.out) ?_
        clear hK K
        try simp only [Act.put, List.setIfInBounds_toArray, List.set_cons_zero, List.set_cons_succ]
        refine till_ready [15] (by kernel_rfl) (by simp) ?_
        refine alls_cons (by simp only [List.getElem?_toArray, List.getElem?_cons_succ, List.getElem?_cons_zero]; rfl) (fun K hK => ?_) alls_nil
        go_simp
        refine hK.out _ _ (fun h => Bool.noConfusion h) ?_
        clear hK K
        try simp only [Act.put, List.setIfInBounds_toArray, List.set_cons_zero, List.set_cons_succ]
        refine till_take0 16 _ ?_ (by simp only [List.getElem?_toArray, List.getElem?_cons_succ, List.getElem?_cons_zero]; rfl) (by kernel_rfl) (by kernel_rfl) (by kernel_rfl) (by kernel_rfl) (by intro _ _ _ _ h; exact h) (Or.inl ⟨by rfl, ?_⟩) (fun h => Bool.noConfusion h) ?_
        rotate_left 1; focus (intro wx _; go_simp; try with_reducible rfl)
        try simp only [Act.put, List.setIfInBounds_toArray, List.set_cons_zero, List.set_cons_succ]
        refine till_done (by kernel_rfl) ?_ _
        go_wp2_with fail
        go_meet
        case rel => exact bz_mkA HBB.out HBSR.out (bl_next HBT.out HB6.out)
      · go_simp
        have HS5 : Hid (BuS W w3 rb rt ((w3.alloc (.cells #[.string ⟨(txt 0).toArray⟩, .string ⟨(txt 1).toArray⟩, .string ⟨(txt 2).toArray⟩, .string ⟨(txt 3).toArray⟩] 9)).alloc (.cells #[.slice none 0 0, .slice none 0 0, .int .i64 0, .int .i64 0] 28)).drew) := Lib.hid (BuS.below (w := (w3.alloc (.cells #[.string ⟨(txt 0).toArray⟩, .string ⟨(txt 1).toArray⟩, .string ⟨(txt 2).toArray⟩, .string ⟨(txt 3).toArray⟩] 9))) (show BuS W w3 rb rt (w3.alloc (.cells #[.string ⟨(txt 0).toArray⟩, .string ⟨(txt 1).toArray⟩, .string ⟨(txt 2).toArray⟩, .string ⟨(txt 3).toArray⟩] 9)) from ⟨HSD.out.a, HSD.out.b, HSD.out.c⟩) (bl_drew (bl_alloc (Below.refl _ _))))
        refine hK.out _ _ (fun _ => HS5.out) ?_
        clear hK K
        try simp only [Act.put, List.setIfInBounds_toArray, List.set_cons_zero, List.set_cons_succ]
        refine till_ready [10] (by kernel_rfl) (by simp) ?_
        refine alls_cons (by simp only [List.getElem?_toArray, List.getElem?_cons_succ, List.getElem?_cons_zero]; rfl) (fun K hK => ?_) alls_nil
        go_simp
        obtain ⟨PB, hrb⟩ := HRUN.out j hj4 (((w3.alloc (.cells #[.string ⟨(txt 0).toArray⟩, .string ⟨(txt 1).toArray⟩, .string ⟨(txt 2).toArray⟩, .string ⟨(txt 3).toArray⟩] 9)).alloc (.cells #[.slice none 0 0, .slice none 0 0, .int .i64 0, .int .i64 0] 28)).drew) (bl_drew (bl_alloc HBD0.out))
        have HRB := Lib.hid hrb
        go_at_call 7; (with_reducible refine HRB.out.mono ?_)
        rintro e w6 ⟨SB, Bs, Bl, ds, dl, he6, h6⟩
        obtain ⟨hb, hbs, -, hb6⟩ := h6.out
        rw [hb.lo, List.length_nil] at he6
        subst he6
        have HBB := Lib.hid hb; have HBSR := Lib.hid hbs; have HB6 := Lib.hid hb6
        have HS6 : Hid (BuS W w3 rb rt w6) := Lib.hid (BuS.below HS5.out hb6)
        clear hb hbs hb6 h6 hrb
        have hz6 : Blk w6 (w3.heap.size + 1) 28 #[.slice none 0 0, .slice none 0 0, .int .i64 0, .int .i64 0] := by
          have h := ((Blk.new (w3.alloc (.cells #[.string ⟨(txt 0).toArray⟩, .string ⟨(txt 1).toArray⟩, .string ⟨(txt 2).toArray⟩, .string ⟨(txt 3).toArray⟩] 9)) 28 #[.slice none 0 0, .slice none 0 0, .int .i64 0, .int .i64 0]).drew).below HB6.out (Blk.new (w3.alloc (.cells #[.string ⟨(txt 0).toArray⟩, .string ⟨(txt 1).toArray⟩, .string ⟨(txt 2).toArray⟩, .string ⟨(txt 3).toArray⟩] 9)) _ _).lt
          rw [show (w3.alloc (.cells #[.string ⟨(txt 0).toArray⟩, .string ⟨(txt 1).toArray⟩, .string ⟨(txt 2).toArray⟩, .string ⟨(txt 3).toArray⟩] 9)).heap.size = w3.heap.size + 1 by simp] at h
          exact h
        have HZ6 := Lib.hid hz6
        have g0 := hz6.cell 0; have g1 := hz6.cell 1; have g2 := hz6.cell 2; have g3 := hz6.cell 3
        have f0 := hz6.frozen 0; have f1 := hz6.frozen 1; have f2 := hz6.frozen 2; have f3 := hz6.frozen 3
        simp at g0 g1 g2 g3
        clear hz6
        refine hK.out _ _ (fun _ => HS6.out) ?_
        clear hK K
        try simp only [Act.put, List.setIfInBounds_toArray, List.set_cons_zero, List.set_cons_succ]
        refine till_take0 11 _ ?_ (by simp only [List.getElem?_toArray, List.getElem?_cons_succ, List.getElem?_cons_zero]; rfl) (by kernel_rfl) (by kernel_rfl) (by kernel_rfl) (by kernel_rfl) (by intro _ _ _ _ h; exact h) (Or.inl ⟨by rfl, ?_⟩) (fun _ => HS6.out) ?_
        rotate_left 1; focus (intro wx _; go_simp; try with_reducible rfl)
        try simp only [Act.put, List.setIfInBounds_toArray, List.set_cons_zero, List.set_cons_succ]
        refine till_take0 12 _ ?_ (by simp only [List.getElem?_toArray, List.getElem?_cons_succ, List.getElem?_cons_zero]; rfl) (by kernel_rfl) (by kernel_rfl) (by kernel_rfl) (by kernel_rfl) (by intro _ _ _ _ h; exact h) (Or.inl ⟨by rfl, ?_⟩) (fun _ => HS6.out) ?_
        rotate_left 1; focus (intro wx _; go_simp; try with_reducible rfl)
        try simp only [Act.put, List.setIfInBounds_toArray, List.set_cons_zero, List.set_cons_succ]
        refine till_take0 13 _ ?_ (by simp only [List.getElem?_toArray, List.getElem?_cons_succ, List.getElem?_cons_zero]; rfl) (by kernel_rfl) (by kernel_rfl) (by kernel_rfl) (by kernel_rfl) (by intro _ _ _ _ h; exact h) (Or.inl ⟨by rfl, ?_⟩) (fun _ => HS6.out) ?_
        rotate_left 1; focus (intro wx _; go_simp; try with_reducible rfl)
        try simp only [Act.put, List.setIfInBounds_toArray, List.set_cons_zero, List.set_cons_succ]
        refine till_ready [15] (by kernel_rfl) (by simp) ?_
        refine alls_cons (by simp only [List.getElem?_toArray, List.getElem?_cons_succ, List.getElem?_cons_zero]; rfl) (fun K hK => ?_) alls_nil
        go_simp
        refine hK.out _ _ (fun h => Bool.noConfusion h) ?_
        clear hK K
        try simp only [Act.put, List.setIfInBounds_toArray, List.set_cons_zero, List.set_cons_succ]
        refine till_take0 16 _ ?_ (by simp only [List.getElem?_toArray, List.getElem?_cons_succ, List.getElem?_cons_zero]; rfl) (by kernel_rfl) (by kernel_rfl) (by kernel_rfl) (by kernel_rfl) (by intro _ _ _ _ h; exact h) (Or.inl ⟨by rfl, ?_⟩) (fun h => Bool.noConfusion h) ?_
        rotate_left 1; focus (intro wx _; go_simp; try with_reducible rfl)
        try simp only [Act.put, List.setIfInBounds_toArray, List.set_cons_zero, List.set_cons_succ]
        refine till_done (by kernel_rfl) ?_ _
        go_wp2_with fail
        go_meet
        case rel => exact bz_mk HBB.out HZ6.out HBSR.out (bl_next (bl_drew (bl_alloc HBT0.out)) HB6.out) (by omega) rfl
    · go_simp
      have HS5 : Hid (BuS W w3 rb rt ((w3.alloc (.cells #[.string ⟨(txt 0).toArray⟩, .string ⟨(txt 1).toArray⟩, .string ⟨(txt 2).toArray⟩, .string ⟨(txt 3).toArray⟩] 9)).alloc (.cells #[.slice none 0 0, .slice none 0 0, .int .i64 0, .int .i64 0] 28)).drew) := Lib.hid (BuS.below (w := (w3.alloc (.cells #[.string ⟨(txt 0).toArray⟩, .string ⟨(txt 1).toArray⟩, .string ⟨(txt 2).toArray⟩, .string ⟨(txt 3).toArray⟩] 9))) (show BuS W w3 rb rt (w3.alloc (.cells #[.string ⟨(txt 0).toArray⟩, .string ⟨(txt 1).toArray⟩, .string ⟨(txt 2).toArray⟩, .string ⟨(txt 3).toArray⟩] 9)) from ⟨HSD.out.a, HSD.out.b, HSD.out.c⟩) (bl_drew (bl_alloc (Below.refl _ _))))
      refine hK.out _ _ (fun _ => HS5.out) ?_
      clear hK K
      try simp only [Act.put, List.setIfInBounds_toArray, List.set_cons_zero, List.set_cons_succ]
      refine till_ready [4] (by kernel_rfl) (by simp) ?_
      refine alls_cons (by simp only [List.getElem?_toArray, List.getElem?_cons_succ, List.getElem?_cons_zero]; rfl) (fun K hK => ?_) alls_nil
      go_simp
      go_at_call 12; (with_reducible refine (pick_any lists 4 _ (by decide) (by decide) hl0 hl1).mono ?_); rintro e w5 ⟨r, hr0, hr1, rfl, rfl⟩
      obtain ⟨j, rfl⟩ : ∃ j : Nat, r = j := ⟨r.toNat, by omega⟩
      have hj4 : j < 4 := by omega
      refine hK.out _ _ (fun _ => HS5.out) ?_
      clear hK K
      try simp only [Act.put, List.setIfInBounds_toArray, List.set_cons_zero, List.set_cons_succ]
      refine till_take 5 [] _ ?_ (by simp only [List.getElem?_toArray, List.getElem?_cons_succ, List.getElem?_cons_zero]; rfl) (by kernel_rfl) (by kernel_rfl) (by kernel_rfl) (by kernel_rfl) (by kernel_rfl) (by intro _ _ _ _ h; exact h) (Or.inl ⟨by rfl, ?_⟩) HS5.out ?_
      rotate_left 1; focus (intro wx hSw; (try dsimp only at hSw); obtain ⟨q0, q1, q2⟩ := hSw; go_simp; try with_reducible rfl)
      try simp only [Act.put, List.setIfInBounds_toArray, List.set_cons_zero, List.set_cons_succ]
      refine till_take 6 [] _ ?_ (by simp only [List.getElem?_toArray, List.getElem?_cons_succ, List.getElem?_cons_zero]; rfl) (by kernel_rfl) (by kernel_rfl) (by kernel_rfl) (by kernel_rfl) (by kernel_rfl) (by intro _ _ _ _ h; exact h) (Or.inl ⟨by rfl, ?_⟩) HS5.out ?_
      rotate_left 1; focus (intro wx hSw; (try dsimp only at hSw); obtain ⟨q0, q1, q2⟩ := hSw; have q9 := q2 j hj4; go_simp; try with_reducible rfl)
      try simp only [Act.put, List.setIfInBounds_toArray, List.set_cons_zero, List.set_cons_succ]
      refine till_ready [10] (by kernel_rfl) (by simp) ?_
      refine alls_cons (by simp only [List.getElem?_toArray, List.getElem?_cons_succ, List.getElem?_cons_zero]; rfl) (fun K hK => ?_) alls_nil
      go_simp
      obtain ⟨PB, hrb⟩ := HRUN.out j hj4 (((w3.alloc (.cells #[.string ⟨(txt 0).toArray⟩, .string ⟨(txt 1).toArray⟩, .string ⟨(txt 2).toArray⟩, .string ⟨(txt 3).toArray⟩] 9)).alloc (.cells #[.slice none 0 0, .slice none 0 0, .int .i64 0, .int .i64 0] 28)).drew) (bl_drew (bl_alloc HBD0.out))
      have HRB := Lib.hid hrb
      go_at_call 7; (with_reducible refine HRB.out.mono ?_)
      rintro e w6 ⟨SB, Bs, Bl, ds, dl, he6, h6⟩
      obtain ⟨hb, hbs, -, hb6⟩ := h6.out
      rw [hb.lo, List.length_nil] at he6
      subst he6
      have HBB := Lib.hid hb; have HBSR := Lib.hid hbs; have HB6 := Lib.hid hb6
      have HS6 : Hid (BuS W w3 rb rt w6) := Lib.hid (BuS.below HS5.out hb6)
      clear hb hbs hb6 h6 hrb
      have hz6 : Blk w6 (w3.heap.size + 1) 28 #[.slice none 0 0, .slice none 0 0, .int .i64 0, .int .i64 0] := by
        have h := ((Blk.new (w3.alloc (.cells #[.string ⟨(txt 0).toArray⟩, .string ⟨(txt 1).toArray⟩, .string ⟨(txt 2).toArray⟩, .string ⟨(txt 3).toArray⟩] 9)) 28 #[.slice none 0 0, .slice none 0 0, .int .i64 0, .int .i64 0]).drew).below HB6.out (Blk.new (w3.alloc (.cells #[.string ⟨(txt 0).toArray⟩, .string ⟨(txt 1).toArray⟩, .string ⟨(txt 2).toArray⟩, .string ⟨(txt 3).toArray⟩] 9)) _ _).lt
        rw [show (w3.alloc (.cells #[.string ⟨(txt 0).toArray⟩, .string ⟨(txt 1).toArray⟩, .string ⟨(txt 2).toArray⟩, .string ⟨(txt 3).toArray⟩] 9)).heap.size = w3.heap.size + 1 by simp] at h
        exact h
      have HZ6 := Lib.hid hz6
      have g0 := hz6.cell 0; have g1 := hz6.cell 1; have g2 := hz6.cell 2; have g3 := hz6.cell 3
      have f0 := hz6.frozen 0; have f1 := hz6.frozen 1; have f2 := hz6.frozen 2; have f3 := hz6.frozen 3
      simp at g0 g1 g2 g3
      clear hz6
      refine hK.out _ _ (fun _ => HS6.out) ?_
      clear hK K
      try simp only [Act.put, List.setIfInBounds_toArray, List.set_cons_zero, List.set_cons_succ]
      refine till_take0 11 _ ?_ (by simp only [List.getElem?_toArray, List.getElem?_cons_succ, List.getElem?_cons_zero]; rfl) (by kernel_rfl) (by kernel_rfl) (by kernel_rfl) (by kernel_rfl) (by intro _ _ _ _ h; exact h) (Or.inl ⟨by rfl, ?_⟩) (fun _ => HS6.out) ?_
      rotate_left 1; focus (intro wx _; go_simp; try with_reducible rfl)
      try simp only [Act.put, List.setIfInBounds_toArray, List.set_cons_zero, List.set_cons_succ]
      refine till_take0 12 _ ?_ (by simp only [List.getElem?_toArray, List.getElem?_cons_succ, List.getElem?_cons_zero]; rfl) (by kernel_rfl) (by kernel_rfl) (by kernel_rfl) (by kernel_rfl) (by intro _ _ _ _ h; exact h) (Or.inl ⟨by rfl, ?_⟩) (fun _ => HS6.out) ?_
      rotate_left 1; focus (intro wx _; go_simp; try with_reducible rfl)
      try simp only [Act.put, List.setIfInBounds_toArray, List.set_cons_zero, List.set_cons_succ]
      refine till_take0 13 _ ?_ (by simp only [List.getElem?_toArray, List.getElem?_cons_succ, List.getElem?_cons_zero]; rfl) (by kernel_rfl) (by kernel_rfl) (by kernel_rfl) (by kernel_rfl) (by intro _ _ _ _ h; exact h) (Or.inl ⟨by rfl, ?_⟩) (fun _ => HS6.out) ?_
      rotate_left 1; focus (intro wx _; go_simp; try with_reducible rfl)
      try simp only [Act.put, List.setIfInBounds_toArray, List.set_cons_zero, List.set_cons_succ]
      refine till_ready [15] (by kernel_rfl) (by simp) ?_
      refine alls_cons (by simp only [List.getElem?_toArray, List.getElem?_cons_succ, List.getElem?_cons_zero]; rfl) (fun K hK => ?_) alls_nil
      go_simp
      refine hK.out _ _ (fun h => Bool.noConfusion h) ?_
      clear hK K
      try simp only [Act.put, List.setIfInBounds_toArray, List.set_cons_zero, List.set_cons_succ]
      refine till_take0 16 _ ?_ (by simp only [List.getElem?_toArray, List.getElem?_cons_succ, List.getElem?_cons_zero]; rfl) (by kernel_rfl) (by kernel_rfl) (by kernel_rfl) (by kernel_rfl) (by intro _ _ _ _ h; exact h) (Or.inl ⟨by rfl, ?_⟩) (fun h => Bool.noConfusion h) ?_
      rotate_left 1; focus (intro wx _; go_simp; try with_reducible rfl)
      try simp only [Act.put, List.setIfInBounds_toArray, List.set_cons_zero, List.set_cons_succ]
      refine till_done (by kernel_rfl) ?_ _
      go_wp2_with fail
      go_meet
      case rel => exact bz_mk HBB.out HZ6.out HBSR.out (bl_next (bl_drew (bl_alloc HBT0.out)) HB6.out) (by omega) rfl
  case rest =>
    obtain ⟨M, SB, gb, Bs, Bl, ds, dl, Qb, mb, rfl, rfl, hz⟩ := hcut
    obtain ⟨hb, hzb, hsb, hbc, -⟩ := hz.out
    have HBB := Lib.hid hb
    have hbz : BzR W wc w1.heap.size gb #[.slice As sa.length cs, .slice Al 0 cl, .int .i64 Qa, .int .i64 ma] #[.slice Bs SB.sent.length ds, .slice Bl 0 dl, .int .i64 Qb, .int .i64 mb] As Bs sa SB.sent :=
      ⟨HZ3.out.below hbc HZ3.out.lt, hzb, HS3.out.over hbc (Nat.le_refl _), hsb, bl_next HB3.out hbc⟩
    have HLB : Hid (SB.sent.length ≤ 1000) := Lib.hid (by have := hb.nl; have := HLL.out; have := HN.out; omega)
    have HLA : Hid (sa.length ≤ 1000) := Lib.hid (by have := HW.out.nl; rw [HSA.out] at this; have := HLL.out; have := HN.out; omega)
    generalize hsbq : SB.sent = sb at *
    have HSBQ := Lib.hid hsbq
    have HBZ2 := Lib.hid hbz
    have z1 := hbz.za.cell 1; have y1 := hbz.zb.cell 1
    simp at z1 y1
    clear hz hb hzb hsb hbc hbz hsbq
    go_wp2_with fail
    clear z1 y1
    go_loopw [13] (fun iv wr => ∃ i : Nat, iv = .int .i64 i ∧ i ≤ sa.length ∧ Hid (∀ k, k < i → (ixR SntR sa k).to_ ≤ 9000000) ∧ Hid (BzR W wr w1.heap.size gb #[.slice As sa.length cs, .slice Al 0 cl, .int .i64 Qa, .int .i64 ma] #[.slice Bs sb.length ds, .slice Bl 0 dl, .int .i64 Qb, .int .i64 mb] As Bs sa sb)) (fun iv _ => sa.length - (intOf iv).toNat)
    case atStart => exact ⟨0, rfl, Nat.zero_le _, Lib.hid (fun k hk => absurd hk (by omega)), HBZ2.out⟩
    case round =>
      obtain ⟨i, rfl, hi, hto, hbz⟩ := hrel
      have HTO := Lib.hid hto.out; have HBZ3 := Lib.hid hbz.out
      have z0 := hbz.out.za.cell 0
      simp at z0
      clear hto
      by_cases hlt : i < sa.length
      · have ii : (i : Int) < (sa.length : Int) := by omega
        have hla : sa.length ≤ 1000 := HLA.out
        obtain ⟨bs, os, rfl, hbs⟩ := hbz.out.sa.addr hlt
        obtain ⟨s0, s1, s2, s3⟩ := rdSnt_6 hbz.out.sa hlt
        generalize hto : (ixR SntR sa i).to_ = to_ at *
        have HTQ := Lib.hid hto
        clear hbz hto s0 s1 s3
        by_cases hc : 9000000 < to_
        · have i3 : decide ((9000000 : Int) < to_) = true := decide_eq_true hc
          go_wp2_with fail
          go_ret
          exact ⟨rfl, HBZ3.out.b⟩
        · have i3 : decide ((9000000 : Int) < to_) = false := decide_eq_false hc
          have HC := Lib.hid hc
          clear hc
          go_wp2_with fail
          refine ⟨⟨i + 1, by go_num, by omega, Lib.hid (fun k hk => ?_), HBZ3⟩, by simp [intOf]; omega⟩
          by_cases e : k = i
          · subst e; rw [HTQ.out]; have := HC.out; omega
          · exact HTO.out k (by omega)
      · obtain rfl : i = sa.length := by omega
        by_cases hen : sa.length = n
        · have hlw := Pl.wc_law HW.out HBB.out (by rw [HSA.out, HLL.out]; exact hen) (by
            rw [HSA.out]
            intro x hx
            obtain ⟨k, hk, e⟩ := List.getElem_of_mem hx
            have h1 := HTO.out k hk
            have e2 : ixR SntR sa k = x := by unfold ixR; rw [List.getD, List.getElem?_eq_getElem hk]; exact e
            rw [e2] at h1
            exact h1) (by decide)
          rw [HSA.out, HSBQ.out, HLL.out] at hlw
          have HEQ := Lib.hid hlw.2
          have i4 : (((sb.length : Nat) : Int) == (n : Int)) = true := by simp [hlw.1]
          have i5 : (((sa.length : Nat) : Int) != (n : Int)) = false := by simp [hen]
          have i6 : (((sa.length : Nat) : Int) == (n : Int)) = true := by simp [hen]
          have HSBR := Lib.hid (show RdR SntR wr.drew wr.drew.heap.size Bs sb.length sb from hbz.out.sb)
          have za := hbz.out.za; have zb := hbz.out.zb
          have HSD2 : Hid (wr.drew.cell? ⟨w1.heap.size, 0, none⟩ = some (.slice As sa.length cs) ∧ wr.drew.cell? ⟨w1.heap.size, 1, none⟩ = some (.slice Al 0 cl) ∧ wr.drew.cell? ⟨w1.heap.size, 2, none⟩ = some (.int .i64 Qa) ∧ wr.drew.cell? ⟨w1.heap.size, 3, none⟩ = some (.int .i64 ma) ∧ wr.drew.cell? ⟨gb, 0, none⟩ = some (.slice Bs sb.length ds) ∧ wr.drew.cell? ⟨gb, 1, none⟩ = some (.slice Bl 0 dl) ∧ wr.drew.cell? ⟨gb, 2, none⟩ = some (.int .i64 Qb) ∧ wr.drew.cell? ⟨gb, 3, none⟩ = some (.int .i64 mb)) := Lib.hid ⟨za.cell 0, za.cell 1, za.cell 2, za.cell 3, zb.cell 0, zb.cell 1, zb.cell 2, zb.cell 3⟩
          have HSB : Hid (∀ w w', Below w.heap.size w w' → (w.cell? ⟨w1.heap.size, 0, none⟩ = some (.slice As sa.length cs) ∧ w.cell? ⟨w1.heap.size, 1, none⟩ = some (.slice Al 0 cl) ∧ w.cell? ⟨w1.heap.size, 2, none⟩ = some (.int .i64 Qa) ∧ w.cell? ⟨w1.heap.size, 3, none⟩ = some (.int .i64 ma) ∧ w.cell? ⟨gb, 0, none⟩ = some (.slice Bs sb.length ds) ∧ w.cell? ⟨gb, 1, none⟩ = some (.slice Bl 0 dl) ∧ w.cell? ⟨gb, 2, none⟩ = some (.int .i64 Qb) ∧ w.cell? ⟨gb, 3, none⟩ = some (.int .i64 mb)) → (w'.cell? ⟨w1.heap.size, 0, none⟩ = some (.slice As sa.length cs) ∧ w'.cell? ⟨w1.heap.size, 1, none⟩ = some (.slice Al 0 cl) ∧ w'.cell? ⟨w1.heap.size, 2, none⟩ = some (.int .i64 Qa) ∧ w'.cell? ⟨w1.heap.size, 3, none⟩ = some (.int .i64 ma) ∧ w'.cell? ⟨gb, 0, none⟩ = some (.slice Bs sb.length ds) ∧ w'.cell? ⟨gb, 1, none⟩ = some (.slice Bl 0 dl) ∧ w'.cell? ⟨gb, 2, none⟩ = some (.int .i64 Qb) ∧ w'.cell? ⟨gb, 3, none⟩ = some (.int .i64 mb))) := Lib.hid (fun w w' hb h => ⟨(hb.cell (lt_of_cell h.1)).trans h.1, (hb.cell (lt_of_cell h.2.1)).trans h.2.1, (hb.cell (lt_of_cell h.2.2.1)).trans h.2.2.1, (hb.cell (lt_of_cell h.2.2.2.1)).trans h.2.2.2.1, (hb.cell (lt_of_cell h.2.2.2.2.1)).trans h.2.2.2.2.1, (hb.cell (lt_of_cell h.2.2.2.2.2.1)).trans h.2.2.2.2.2.1, (hb.cell (lt_of_cell h.2.2.2.2.2.2.1)).trans h.2.2.2.2.2.2.1, (hb.cell (lt_of_cell h.2.2.2.2.2.2.2)).trans h.2.2.2.2.2.2.2⟩)
          have HSP1 := Lib.hid (spans_w As cs Al 0 cl Qa ma sa wr.drew hbz.out.sa HLA.out)
          clear hlw hbz za zb hen
          go_upto_region 19 with fail
          clear z0
          refine wp_till (fun wx => wx.cell? ⟨w1.heap.size, 0, none⟩ = some (.slice As sa.length cs) ∧ wx.cell? ⟨w1.heap.size, 1, none⟩ = some (.slice Al 0 cl) ∧ wx.cell? ⟨w1.heap.size, 2, none⟩ = some (.int .i64 Qa) ∧ wx.cell? ⟨w1.heap.size, 3, none⟩ = some (.int .i64 ma) ∧ wx.cell? ⟨gb, 0, none⟩ = some (.slice Bs sb.length ds) ∧ wx.cell? ⟨gb, 1, none⟩ = some (.slice Bl 0 dl) ∧ wx.cell? ⟨gb, 2, none⟩ = some (.int .i64 Qb) ∧ wx.cell? ⟨gb, 3, none⟩ = some (.int .i64 mb)) [13] (by kernel_rfl) ?_
          refine till_take 0 [1, 2, 5, 6, 7, 8, 9, 10, 11, 12] _ ?_ (by simp only [List.getElem?_toArray, List.getElem?_cons_zero]; rfl) (by kernel_rfl) (by kernel_rfl) (by kernel_rfl) (by kernel_rfl) (by kernel_rfl) (by intro _ _ _ _ h; exact h) (Or.inl ⟨by rfl, ?_⟩) HSD2.out ?_
          rotate_left 1; focus (intro wx hSw; (try dsimp only at hSw); obtain ⟨q0, q1, q2, q3, q4, q5, q6, q7⟩ := hSw; go_simp; try with_reducible rfl)
          try simp only [Act.put, List.setIfInBounds_toArray, List.set_cons_zero, List.set_cons_succ]
          refine till_take 1 [2, 5, 6, 7, 8, 9, 10, 11, 12] _ ?_ (by simp only [List.getElem?_toArray, List.getElem?_cons_succ, List.getElem?_cons_zero]; rfl) (by kernel_rfl) (by kernel_rfl) (by kernel_rfl) (by kernel_rfl) (by kernel_rfl) (by intro _ _ _ _ h; exact h) (Or.inl ⟨by rfl, ?_⟩) HSD2.out ?_
          rotate_left 1; focus (intro wx hSw; (try dsimp only at hSw); obtain ⟨q0, q1, q2, q3, q4, q5, q6, q7⟩ := hSw; go_simp; try with_reducible rfl)
          try simp only [Act.put, List.setIfInBounds_toArray, List.set_cons_zero, List.set_cons_succ]
          refine till_take 2 [5, 6, 7, 8, 9, 10, 11, 12] _ ?_ (by simp only [List.getElem?_toArray, List.getElem?_cons_succ, List.getElem?_cons_zero]; rfl) (by kernel_rfl) (by kernel_rfl) (by kernel_rfl) (by kernel_rfl) (by kernel_rfl) (by intro _ _ _ _ h; exact h) (Or.inl ⟨by rfl, ?_⟩) HSD2.out ?_
          rotate_left 1; focus (intro wx hSw; (try dsimp only at hSw); obtain ⟨q0, q1, q2, q3, q4, q5, q6, q7⟩ := hSw; go_simp; try with_reducible rfl)
          try simp only [Act.put, List.setIfInBounds_toArray, List.set_cons_zero, List.set_cons_succ]
          refine till_take 3 [4, 5, 6, 7, 8, 9, 10, 11, 12] _ ?_ (by simp only [List.getElem?_toArray, List.getElem?_cons_succ, List.getElem?_cons_zero]; rfl) (by kernel_rfl) (by kernel_rfl) (by kernel_rfl) (by kernel_rfl) (by kernel_rfl) (by intro _ _ _ _ h; exact h) (Or.inl ⟨by rfl, ?_⟩) HSD2.out ?_
          rotate_left 1; focus (intro wx hSw; (try dsimp only at hSw); obtain ⟨q0, q1, q2, q3, q4, q5, q6, q7⟩ := hSw; go_simp; try with_reducible rfl)
          try simp only [Act.put, List.setIfInBounds_toArray, List.set_cons_zero, List.set_cons_succ]
          refine till_take 4 [5, 6, 7, 8, 9, 10, 11, 12] _ ?_ (by simp only [List.getElem?_toArray, List.getElem?_cons_succ, List.getElem?_cons_zero]; rfl) (by kernel_rfl) (by kernel_rfl) (by kernel_rfl) (by kernel_rfl) (by kernel_rfl) (by intro _ _ _ _ h; exact h) (Or.inl ⟨by rfl, ?_⟩) HSD2.out ?_
          rotate_left 1; focus (intro wx hSw; (try dsimp only at hSw); obtain ⟨q0, q1, q2, q3, q4, q5, q6, q7⟩ := hSw; go_simp; try with_reducible rfl)
          try simp only [Act.put, List.setIfInBounds_toArray, List.set_cons_zero, List.set_cons_succ]
          refine till_take 5 [6, 7, 8, 9, 10, 11, 12] _ ?_ (by simp only [List.getElem?_toArray, List.getElem?_cons_succ, List.getElem?_cons_zero]; rfl) (by kernel_rfl) (by kernel_rfl) (by kernel_rfl) (by kernel_rfl) (by kernel_rfl) (by intro _ _ _ _ h; exact h) (Or.inl ⟨by rfl, ?_⟩) HSD2.out ?_
          rotate_left 1; focus (intro wx hSw; (try dsimp only at hSw); obtain ⟨q0, q1, q2, q3, q4, q5, q6, q7⟩ := hSw; go_simp; try with_reducible rfl)
          try simp only [Act.put, List.setIfInBounds_toArray, List.set_cons_zero, List.set_cons_succ]
          refine till_take 6 [7, 8, 9, 10, 11, 12] _ ?_ (by simp only [List.getElem?_toArray, List.getElem?_cons_succ, List.getElem?_cons_zero]; rfl) (by kernel_rfl) (by kernel_rfl) (by kernel_rfl) (by kernel_rfl) (by kernel_rfl) (by intro _ _ _ _ h; exact h) (Or.inl ⟨by rfl, ?_⟩) HSD2.out ?_
          rotate_left 1; focus (intro wx hSw; (try dsimp only at hSw); obtain ⟨q0, q1, q2, q3, q4, q5, q6, q7⟩ := hSw; go_simp; try with_reducible rfl)
          try simp only [Act.put, List.setIfInBounds_toArray, List.set_cons_zero, List.set_cons_succ]
          refine till_take 7 [9] _ ?_ (by simp only [List.getElem?_toArray, List.getElem?_cons_succ, List.getElem?_cons_zero]; rfl) (by kernel_rfl) (by kernel_rfl) (by kernel_rfl) (by kernel_rfl) (by kernel_rfl) (by intro _ _ _ _ h; exact h) (Or.inl ⟨by rfl, ?_⟩) HSD2.out ?_
          rotate_left 1; focus (intro wx hSw; (try dsimp only at hSw); obtain ⟨q0, q1, q2, q3, q4, q5, q6, q7⟩ := hSw; go_simp; try with_reducible rfl)
          try simp only [Act.put, List.setIfInBounds_toArray, List.set_cons_zero, List.set_cons_succ]
          refine till_take 8 [9] _ ?_ (by simp only [List.getElem?_toArray, List.getElem?_cons_succ, List.getElem?_cons_zero]; rfl) (by kernel_rfl) (by kernel_rfl) (by kernel_rfl) (by kernel_rfl) (by kernel_rfl) (by intro _ _ _ _ h; exact h) (Or.inl ⟨by rfl, ?_⟩) HSD2.out ?_
          rotate_left 1; focus (intro wx hSw; (try dsimp only at hSw); obtain ⟨q0, q1, q2, q3, q4, q5, q6, q7⟩ := hSw; go_simp; try with_reducible rfl)
          try simp only [Act.put, List.setIfInBounds_toArray, List.set_cons_zero, List.set_cons_succ]
          refine till_take 10 [12] _ ?_ (by simp only [List.getElem?_toArray, List.getElem?_cons_succ, List.getElem?_cons_zero]; rfl) (by kernel_rfl) (by kernel_rfl) (by kernel_rfl) (by kernel_rfl) (by kernel_rfl) (by intro _ _ _ _ h; exact h) (Or.inl ⟨by rfl, ?_⟩) HSD2.out ?_
          rotate_left 1; focus (intro wx hSw; (try dsimp only at hSw); obtain ⟨q0, q1, q2, q3, q4, q5, q6, q7⟩ := hSw; go_simp; try with_reducible rfl)
          try simp only [Act.put, List.setIfInBounds_toArray, List.set_cons_zero, List.set_cons_succ]
          refine till_take 11 [12] _ ?_ (by simp only [List.getElem?_toArray, List.getElem?_cons_succ, List.getElem?_cons_zero]; rfl) (by kernel_rfl) (by kernel_rfl) (by kernel_rfl) (by kernel_rfl) (by kernel_rfl) (by intro _ _ _ _ h; exact h) (Or.inl ⟨by rfl, ?_⟩) HSD2.out ?_
          rotate_left 1; focus (intro wx hSw; (try dsimp only at hSw); obtain ⟨q0, q1, q2, q3, q4, q5, q6, q7⟩ := hSw; go_simp; try with_reducible rfl)
          try simp only [Act.put, List.setIfInBounds_toArray, List.set_cons_zero, List.set_cons_succ]
          refine till_ready [9] (by kernel_rfl) (by simp) ?_
          refine alls_cons (by simp only [List.getElem?_toArray, List.getElem?_cons_succ, List.getElem?_cons_zero]; rfl) (fun K hK => ?_) alls_nil
          go_simp
          go_at_call 13; (with_reducible refine HSP1.out.mono ?_); rintro e w8 ⟨A8, n8, c8, rfl, h8⟩
          obtain ⟨r8, hn8, hb8⟩ := h8.out
          have HS8 := Lib.hid (HSB.out _ w8 hb8 HSD2.out); have HB8 := Lib.hid hb8; have HR8 := Lib.hid r8; have HN8 := Lib.hid hn8; clear h8 r8 hn8 hb8
          refine hK.out _ _ (fun _ => HS8.out) ?_
          clear hK K
          try simp only [Act.put, List.setIfInBounds_toArray, List.set_cons_zero, List.set_cons_succ]
          refine till_ready [12] (by kernel_rfl) (by simp) ?_
          refine alls_cons (by simp only [List.getElem?_toArray, List.getElem?_cons_succ, List.getElem?_cons_zero]; rfl) (fun K hK => ?_) alls_nil
          go_simp
          have HSP2 := Lib.hid (spans_w Bs ds Bl 0 dl Qb mb sb w8 (HSBR.out.over HB8.out (Nat.le_refl _)) HLB.out)
          go_at_call 13; (with_reducible refine HSP2.out.mono ?_); rintro e w9 ⟨A9, n9, c9, rfl, h9⟩
          obtain ⟨r9, hn9, hb9⟩ := h9.out
          have HS9 := Lib.hid (HSB.out _ w9 hb9 HS8.out); have HB9 := Lib.hid hb9; have HR9 := Lib.hid r9; clear h9 r9 hn9 hb9
          refine hK.out _ _ (fun _ => HS9.out) ?_
          clear hK K
          try simp only [Act.put, List.setIfInBounds_toArray, List.set_cons_zero, List.set_cons_succ]
          refine till_ready [13] (by kernel_rfl) (by simp) ?_
          refine alls_cons (by simp only [List.getElem?_toArray, List.getElem?_cons_succ, List.getElem?_cons_zero]; rfl) (fun K hK => ?_) alls_nil
          go_simp
          have HSM := Lib.hid (same_yes A8 A9 n8 n9 c8 c9 _ _ w9 (HR8.out.over HB9.out (Nat.le_refl _)) HR9.out (by have := HN8.out; omega) HEQ.out)
          go_at_call 14; (with_reducible refine HSM.out.mono ?_); rintro e w10 ⟨rfl, hb10⟩
          refine hK.out _ _ (fun h => Bool.noConfusion h) ?_
          clear hK K
          try simp only [Act.put, List.setIfInBounds_toArray, List.set_cons_zero, List.set_cons_succ]
          refine till_take0 14 _ ?_ (by simp only [List.getElem?_toArray, List.getElem?_cons_succ, List.getElem?_cons_zero]; rfl) (by kernel_rfl) (by kernel_rfl) (by kernel_rfl) (by kernel_rfl) (by intro _ _ _ _ h; exact h) (Or.inl ⟨by rfl, ?_⟩) (fun h => Bool.noConfusion h) ?_
          rotate_left 1; focus (intro wx _; go_simp; try with_reducible rfl)
          try simp only [Act.put, List.setIfInBounds_toArray, List.set_cons_zero, List.set_cons_succ]
          refine till_take0 15 _ ?_ (by simp only [List.getElem?_toArray, List.getElem?_cons_succ, List.getElem?_cons_zero]; rfl) (by kernel_rfl) (by kernel_rfl) (by kernel_rfl) (by kernel_rfl) (by intro _ _ _ _ h; exact h) (Or.inl ⟨by rfl, ?_⟩) (fun h => Bool.noConfusion h) ?_
          rotate_left 1; focus (intro wx _; go_simp; try with_reducible rfl)
          try simp only [Act.put, List.setIfInBounds_toArray, List.set_cons_zero, List.set_cons_succ]
          refine till_done (by kernel_rfl) ?_ _
          go_wp2_with fail
          go_ret
          exact ⟨rfl, (HBZ3.out.b.trans ((bl_drew (Below.refl _ _)).mono HBZ3.out.b.size)).trans ((HB8.out.trans ((HB9.out.trans (hb10.mono HB9.out.size)).mono HB8.out.size)).mono HBZ3.out.b.size)⟩
        · have i5 : (((sa.length : Nat) : Int) != (n : Int)) = true := by simp; omega
          have i6 : (((sa.length : Nat) : Int) == (n : Int)) = false := by simp; omega
          clear hbz
          go_wp2_with fail
          go_ret
          exact ⟨rfl, HBZ3.out.b⟩
theorem linkBusy_core (rb rt : Int) (A : Option Addr) (n c : Nat) (l : List It) (lists : Int) (W : World) (hv : Pv W) (hr : RdIt W W.heap.size A n l) (hl : -9223372036854775808 ≤ lists ∧ lists ≤ 9223372036854775807) :
    Calls Tryz.prog 4 #[.agg #[.int .i64 rb, .int .i64 rt], .slice A n c, .int .i64 lists] W fun e w' => e = .returned (.bool true) ∧ Below W.heap.size W w' := by
  by_cases h : n ≤ 40
  · by_cases hs : SpeedOk rb rt
    · by_cases hf : ListFine l
      · exact linkBusy_yes rb rt A n c l lists W hv hr h hl.1 hl.2 hs hf
      · exact linkBusy_no rb rt A n c l lists W hv hr h (.inr hf)
    · exact linkBusy_no rb rt A n c l lists W hv hr h (.inl hs)
  · exact linkBusy_many rb rt A n c lists W (by omega)
end Go.Proofs.YtgdijbaodfghjaaGreatDoor
