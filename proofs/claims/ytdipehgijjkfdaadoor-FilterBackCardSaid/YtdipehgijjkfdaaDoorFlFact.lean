/-
  Parse of a filter's own text; the fact 'meant'.
-/
import Derived.Test.YtdipehgijjkfdaaDoorFltBack
import Derived.Test.YtdipehgijjkfdaaDoorFlLex
import Derived.Test.YtdipehgijjkfdaaDoorFlFirst
namespace Go.Proofs.YtdipehgijjkfdaaDoor
open Go.RowKit
set_option linter.unusedVariables false
theorem parse_text (t : Fl.Ft) (ok : Fl.okF t) (sn : Fl.sinF t) (hd : Fl.dep t ≤ 20) (hl : (Fl.textF t).length ≤ 2000) : parseF (Fl.textF t) = .ok t := by
  unfold parseF
  rw [if_neg (by omega), Fl.lx_whole t ok]
  have h := Fl.rd_text t ok sn 20 hd []
  rw [List.append_nil] at h
  rw [h]
theorem parse_not (t : Fl.Ft) (ok : Fl.okF t) (sn : Fl.sinF t) (hd : Fl.dep t ≤ 20) : parseF ([110, 111, 116, 32] ++ Fl.textF t) = .ok (.not t) ∨ parseF ([110, 111, 116, 32] ++ Fl.textF t) = .error 4 := by
  have e : [110, 111, 116, 32] ++ Fl.textF t = Fl.textF (.not t) := by rw [Fl.textF]
  rw [e]
  by_cases hl : 2000 < (Fl.textF (.not t)).length
  · exact .inr (by unfold parseF; rw [if_pos hl])
  · by_cases h19 : Fl.dep t ≤ 19
    · exact .inl (parse_text (.not t) ok sn (by simp only [Fl.dep]; omega) (by omega))
    · refine .inr ?_
      unfold parseF
      rw [if_neg hl, Fl.lx_whole (.not t) ok]
      have h := Fl.rd_deep (.not t) ok sn 20 (by simp only [Fl.dep]; omega) []
      rw [List.append_nil] at h
      rw [h]
/-- what Parse reads -/
theorem parse_ok {s : List UInt8} {t : Fl.Ft} (h : parseF s = .ok t) : Fl.okF t ∧ Fl.sinF t ∧ Fl.dep t ≤ 20 ∧ Fl.cnt t ≤ (Fl.lexA [] s).length := by
  unfold parseF at h
  split at h
  · cases h
  · split at h
    · cases h
    · rename_i t' ho
      injection h with h
      subst h
      obtain ⟨a, b, c⟩ := Fl.oneF_fine _ _ _ _ ho
      exact ⟨a, Fl.oneF_sin _ _ _ _ ho, b, by simp at c; exact c⟩
    · cases h
theorem lex_len : ∀ (s a : List UInt8), (Fl.lexA a s).length ≤ 2 * s.length + 1
  | [], a => by unfold Fl.lexA Fl.flush; split <;> simp
  | c :: s, a => by
    have hf : (Fl.flush a).length ≤ 1 := by unfold Fl.flush; split <;> simp
    have h1 := lex_len s []
    have h2 := lex_len s (a ++ [c])
    unfold Fl.lexA
    split
    · simp; omega
    · split
      · simp; omega
      · simp; omega
/-- five numbers -/
def ix5 (a b c d e : Int) : Nat → Int
  | 0 => a
  | 1 => b
  | 2 => c
  | 3 => d
  | _ => e
def mtT : Fl.Ft := .not (.sev [.tst 2 2 2 false, .tst 1 5 9 false] false)
theorem itoa_dig {u : Nat} (h : u < 10) : Lib.itoa (u : Int) = [UInt8.ofNat (48 + u)] := by rw [Bo.itoa_nat, Lib.decDigits_one h]
theorem mt_text : Fl.textF mtT = [110, 111, 116, 32, 40, 102, 108, 111, 119, 32, 50, 32, 97, 110, 100, 32, 108, 101, 110, 32, 53, 46, 46, 57, 41] := by
  have h2 : Lib.itoa 2 = [50] := itoa_dig (u := 2) (by omega)
  have h5 : Lib.itoa 5 = [53] := itoa_dig (u := 5) (by omega)
  have h9 : Lib.itoa 9 = [57] := itoa_dig (u := 9) (by omega)
  simp only [mtT, Fl.textF, Fl.textL, h2, h5, h9]
  rfl
theorem mt_parse : parseF [110, 111, 116, 32, 40, 102, 108, 111, 119, 32, 50, 32, 97, 110, 100, 32, 108, 101, 110, 32, 53, 46, 46, 57, 41] = .ok mtT := by
  have h := parse_text mtT (by simp [mtT, Fl.okF, Fl.okL]) (by simp [mtT, Fl.sinF, Fl.sinL]) (by simp [mtT, Fl.dep, Fl.depL]) (by rw [mt_text]; decide)
  rw [mt_text] at h
  exact h
set_option maxHeartbeats 2000000 in
set_option maxRecDepth 100000 in
theorem meant_fact (w : World) (hv : Pv w) : Calls Tryd.prog 11 #[] w fun e w' => e = .returned (.bool true) ∧ Below w.heap.size w w' := by
  have hp := parse_f [110, 111, 116, 32, 40, 102, 108, 111, 119, 32, 50, 32, 97, 110, 100, 32, 108, 101, 110, 32, 53, 46, 46, 57, 41] (by decide) w hv
  rw [mt_parse] at hp
  have HP := Lib.hid hp
  clear hp
  go_enter Tryd.func11, Tryd.ntmps11
  go_wp2_with fail
  (with_reducible refine HP.out.mono ?_)
  rintro e w2 (⟨t, v, hre, rfl, h2⟩ | ⟨er, T, x, hre, rfl, h2⟩)
  · injection hre with hre
    subst hre
    obtain ⟨hft, hb2⟩ := h2.out
    obtain ⟨T, r, rfl, hm, hc⟩ := hft.meant (by simp [mtT, Fl.okF, Fl.okL]) (by simp [mtT, Fl.cnt, Fl.cntL]) (ix5 0 4 2 0 0)
    obtain ⟨T', r', e', hm', hc'⟩ := hft.meant (by simp [mtT, Fl.okF, Fl.okL]) (by simp [mtT, Fl.cnt, Fl.cntL]) (ix5 0 9 2 0 0)
    injection e' with e1' e2'
    subst e1'; subst e2'
    have m1 : Fl.meantF (ix5 0 4 2 0 0) mtT = true := by simp [mtT, Fl.meantF, Fl.meantL, ix5]
    have m2 : Fl.meantF (ix5 0 9 2 0 0) mtT = false := by simp [mtT, Fl.meantF, Fl.meantL, ix5]
    rw [m1] at hc
    rw [m2] at hc'
    have HM := Lib.hid hm; have HFT := Lib.hid hft; have HB2 := Lib.hid hb2
    have HC1 : Hid (Calls Tryd.prog (meantOf mtT) #[r, .agg #[.int .i64 0, .int .i64 4, .int .i64 2, .int .i64 0, .int .i64 0]] w2 fun e w' => e = .returned (.bool true) ∧ Below w2.heap.size w2 w') := Lib.hid (hc w2 hft (Nat.le_refl _))
    have HC2 : Hid (∀ W, Below w2.heap.size w2 W → Calls Tryd.prog (meantOf mtT) #[r, .agg #[.int .i64 0, .int .i64 9, .int .i64 2, .int .i64 0, .int .i64 0]] W fun e w' => e = .returned (.bool false) ∧ Below W.heap.size W w') := Lib.hid (fun W hb => hc' W (hft.over (Nat.le_refl _) hb) hb.size)
    clear hm hm' hc hc' hft hb2 h2 m1 m2
    go_wp2_with (first
      | (refine wpList_invoke1W (vx := .agg #[.int .i64 0, .int .i64 4, .int .i64 2, .int .i64 0, .int .i64 0]) (by rfl) (.tmp 14) (.tmp 15) #[31] rfl HM.out rfl rfl HC1.out (fun e w' h => ⟨_, h.1⟩) ?_; rintro v3 w3 ⟨e3, hb3⟩; injection e3 with e3; subst e3; have HB3 := Lib.hid hb3; clear hb3)
      | (refine wpList_invoke1W (vx := .agg #[.int .i64 0, .int .i64 9, .int .i64 2, .int .i64 0, .int .i64 0]) (by rfl) (.tmp 19) (.tmp 20) #[31] rfl HM.out rfl rfl (HC2.out _ HB3.out) (fun e w' h => ⟨_, h.1⟩) ?_; rintro v4 w4 ⟨e4, hb4⟩; injection e4 with e4; subst e4; have HB4 := Lib.hid hb4; clear hb4))
    go_ret
    exact ⟨rfl, HB2.out.trans ((HB3.out.trans (HB4.out.mono HB3.out.size)).mono HB2.out.size)⟩
  · cases hre
end Go.Proofs.YtdipehgijjkfdaaDoor
