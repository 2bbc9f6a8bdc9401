/-
  The reader of filters: Parse.
-/
import Derived.Test.YtdipehgijjkfdaaDoorFlLexM
namespace Go.Proofs.YtdipehgijjkfdaaDoor
open Go.RowKit
set_option linter.unusedVariables false
def parseF (text : List UInt8) : Except Int Fl.Ft := if 2000 < text.length then .error 4 else
  match Fl.oneF 20 (Fl.lexA [] text) with
  | .error e => .error e
  | .ok (t, []) => .ok t
  | .ok (t, _ :: _) => .error 3
/-- an error of Parse's -/
def PErr (e : Int) (v : Value) (w : World) : Prop := v = .iface 41 (.int .i64 e) ∨ FErr e v w
def ParseEnd (w : World) (res : Except Int Fl.Ft) (e : Ending) (w' : World) : Prop :=
  (∃ (t : Fl.Ft) (v : Value), res = .ok t ∧ e = .returned (.tuple #[v, .nilIface]) ∧ Hid (FtV w.heap.size w'.heap.size w' v t ∧ Below w.heap.size w w')) ∨
  (∃ (er : Int) (T : TypeId) (x : Value), res = .error er ∧ e = .returned (.tuple #[.nilIface, .iface T x]) ∧ Hid (PErr er (.iface T x) w' ∧ Below w.heap.size w w'))
set_option maxHeartbeats 8000000 in
set_option maxRecDepth 100000 in
theorem parse_f (text : List UInt8) (hlm : text.length ≤ 1000000) (w : World) (hv : Pv w) :
    Calls Tryd.prog 10 #[.string ⟨text.toArray⟩] w (ParseEnd w (parseF text)) := by
  by_cases hl : text.length ≤ 2000
  rotate_left
  · have d0 : decide ((2000 : Int) < (text.length : Int)) = true := decide_eq_true (by omega)
    have hre : parseF text = .error 4 := if_pos (by omega)
    have HRE := Lib.hid hre
    clear hre hv
    go_enter Tryd.func10, Tryd.ntmps10
    go_wp2_with fail
    go_ret2
    exact .inr ⟨4, _, _, HRE.out, rfl, Lib.hid ⟨.inl rfl, Below.refl _ _⟩⟩
  have d0 : decide ((2000 : Int) < (text.length : Int)) = false := decide_eq_false (by omega)
  obtain ⟨res, hres⟩ : ∃ res, parseF text = res := ⟨_, rfl⟩
  have hre : res = (match Fl.oneF 20 (Fl.lexA [] text) with
    | .error e => .error e
    | .ok (t, []) => .ok t
    | .ok (t, _ :: _) => .error 3) := by rw [← hres]; exact if_neg (by omega)
  rw [hres]
  have HRE := Lib.hid hre; have HV := Lib.hid hv
  clear hre hres hv
  go_enter Tryd.func10, Tryd.ntmps10
  go_wp2_with fail
  go_loopw [5] (fun iv wr => ∃ (i : Nat) (ws : List (List UInt8)) (ps : List Int) (As : Option Addr) (cs : Nat) (At : Option Addr) (ct : Nat), iv = .int .i64 i ∧ i ≤ text.length ∧
    Hid (LxM w wr text.length (.slice As ws.length cs) (.slice At ps.length ct) (.slice As ws.length cs) (.slice At ps.length ct) ws ps ∧ Fl.lexA [] text = ws ++ Fl.lexA [] (text.drop i) ∧ ws.length ≤ i ∧ ps.length = ws.length ∧ ∀ s ∈ ws, s.length ≤ 2000)) (fun iv _ => text.length - (intOf iv).toNat)
  case atStart =>
    refine ⟨0, [], [], none, 0, none, 0, rfl, Nat.zero_le _, Lib.hid ⟨⟨Blk.new _ _ _, OwnW.nil _ _ _ _, OwnW.nil _ _ _ _, (Below.refl _ _).alloc (Nat.le_refl _) _⟩, rfl, Nat.le_refl _, rfl, fun s hs => by cases hs⟩⟩
  case round =>
    obtain ⟨i, ws, ps, As, cs, At, ct, rfl, hi, hx⟩ := hrel
    by_cases hlt : i < text.length
    · have ii : (i : Int) < (text.length : Int) := by omega
      have hdr : text.drop i = text[i] :: text.drop (i + 1) := List.drop_eq_getElem_cons hlt
      have HDR := Lib.hid hdr
      clear hdr
      have hbx := ba_get text i hlt
      have hlex0 : Fl.lexA [] (text.drop i) = Fl.lexA [] (text[i] :: text.drop (i + 1)) := by rw [HDR.out]
      generalize hc : text[i] = c at *
      by_cases h32 : c = 32
      · have m1 : ((c.toNat : Int) == 32) = true := by rw [h32]; rfl
        have n1 : (c.toNat : Int) = 32 := by rw [h32]; rfl
        have HL0 := Lib.hid hlex0
        clear hlex0
        go_wp2_with fail
        obtain ⟨hm, hlex, hlen, hpl, hsz⟩ := hx.out
        refine ⟨⟨i + 1, ws, ps, As, cs, At, ct, by go_num, by omega, Lib.hid ⟨hm, ?_, by omega, hpl, hsz⟩⟩, by simp [intOf]; omega⟩
        rw [hlex, HL0.out, Fl.lexA, if_pos h32]
        rfl
      · have n1 : ¬ (c.toNat : Int) = 32 := fun e => h32 (UInt8.toNat_inj.1 (by rw [show c.toNat = 32 by omega]; rfl))
        have m1 : ((c.toNat : Int) == 32) = false := beq_eq_false_iff_ne.mpr n1
        have HL0 := Lib.hid hlex0
        clear hlex0
        go_upto_block 2 with fail
        go_cut [5, 6] from 25 to 57 (fun iv kv wx => iv = .int .i64 i ∧ ∃ k : Nat, kv = .int .i64 k ∧ i < k ∧ k ≤ text.length ∧ wx = wr ∧ Hid (Fl.lexA [] (text.drop i) = (text.drop i).take (k - i) :: Fl.lexA [] (text.drop k)))
        case first =>
          by_cases hp : c = 40 ∨ c = 41
          · have hre : Hid (Fl.lexA [] (text.drop i) = (text.drop i).take (i + 1 - i) :: Fl.lexA [] (text.drop (i + 1))) := by
              refine Lib.hid ?_
              have e1 : (text.drop i).take (i + 1 - i) = [c] := by rw [HDR.out, show i + 1 - i = 1 by omega]; rfl
              rw [HL0.out, Fl.lexA, if_neg h32, if_pos hp, e1]
              rfl
            rcases hp with hp | hp
            · have n2 : (c.toNat : Int) = 40 := by rw [hp]; rfl
              have m2 : ((c.toNat : Int) == 40) = true := by rw [hp]; rfl
              go_wp2_with fail
              go_meet
              case rel => exact ⟨rfl, i + 1, by go_num, by omega, by omega, rfl, hre⟩
            · have n2 : ¬ (c.toNat : Int) = 40 := by rw [hp]; decide
              have m2 : ((c.toNat : Int) == 40) = false := by rw [hp]; rfl
              have n3 : (c.toNat : Int) = 41 := by rw [hp]; rfl
              have m3 : ((c.toNat : Int) == 41) = true := by rw [hp]; rfl
              go_wp2_with fail
              go_meet
              case rel => exact ⟨rfl, i + 1, by go_num, by omega, by omega, rfl, hre⟩
          · have n2 : ¬ (c.toNat : Int) = 40 := fun e => hp (.inl (UInt8.toNat_inj.1 (by rw [show c.toNat = 40 by omega]; rfl)))
            have m2 : ((c.toNat : Int) == 40) = false := beq_eq_false_iff_ne.mpr n2
            have n3 : ¬ (c.toNat : Int) = 41 := fun e => hp (.inr (UInt8.toNat_inj.1 (by rw [show c.toNat = 41 by omega]; rfl)))
            have m3 : ((c.toNat : Int) == 41) = false := beq_eq_false_iff_ne.mpr n3
            have hbrk : brk c = false := by unfold brk; simp; exact ⟨⟨h32, fun e => hp (.inl e)⟩, fun e => hp (.inr e)⟩
            have HBK := Lib.hid hbrk
            clear hbrk
            go_wp2_with fail
            clear n1 m1 n2 m2 n3 m3 hbx
            go_loopw [6] (fun kv wx => ∃ k : Nat, kv = .int .i64 k ∧ i ≤ k ∧ k ≤ text.length ∧ wx = wr ∧ Hid (Fl.lexA [] (text.drop i) = Fl.lexA ((text.drop i).take (k - i)) (text.drop k))) (fun kv _ => text.length - (intOf kv).toNat)
            case atStart => exact ⟨i, rfl, Nat.le_refl _, by omega, rfl, Lib.hid (by simp)⟩
            case round =>
              obtain ⟨k, rfl, hik, hkl, hwx, hlk⟩ := hrel
              subst hwx
              by_cases hk : k < text.length
              · have kk : (k : Int) < (text.length : Int) := by omega
                have hbk := ba_get text k hk
                have htk := take_more hik hk
                have hdk : text.drop k = text[k] :: text.drop (k + 1) := List.drop_eq_getElem_cons hk
                have hci : k = i → text[k] = c := fun e => by subst e; exact hc
                have HTK := Lib.hid htk; have HDK := Lib.hid hdk; have HCI := Lib.hid hci
                clear htk hdk hci
                generalize hcc : text[k] = b at *
                cases hb : brk b with
                | false =>
                  have hq : b ≠ 32 ∧ b ≠ 40 ∧ b ≠ 41 := by unfold brk at hb; simp at hb; exact ⟨hb.1.1, hb.1.2, hb.2⟩
                  have m1 : ((b.toNat : Int) == 32) = false := beq_eq_false_iff_ne.mpr (fun e => hq.1 (UInt8.toNat_inj.1 (by rw [show b.toNat = 32 by omega]; rfl)))
                  have m2 : ((b.toNat : Int) == 40) = false := beq_eq_false_iff_ne.mpr (fun e => hq.2.1 (UInt8.toNat_inj.1 (by rw [show b.toNat = 40 by omega]; rfl)))
                  have m3 : ((b.toNat : Int) == 41) = false := beq_eq_false_iff_ne.mpr (fun e => hq.2.2 (UInt8.toNat_inj.1 (by rw [show b.toNat = 41 by omega]; rfl)))
                  have n1 : ¬ (b.toNat : Int) = 32 := ne_of_beq_false m1
                  have n2 : ¬ (b.toNat : Int) = 40 := ne_of_beq_false m2
                  have n3 : ¬ (b.toNat : Int) = 41 := ne_of_beq_false m3
                  have HB := Lib.hid hb
                  clear hq hb
                  have p1 : ((b.toNat : Int) != 32) = true := by rw [bne, m1]; rfl
                  have p2 : ((b.toNat : Int) != 40) = true := by rw [bne, m2]; rfl
                  have p3 : ((b.toNat : Int) != 41) = true := by rw [bne, m3]; rfl
                  go_wp2_with fail
                  refine ⟨⟨k + 1, by go_num, by omega, by omega, by first | rfl | trivial, Lib.hid ?_⟩, by simp [intOf]; omega⟩
                  rw [hlk.out, HDK.out, lex_go HB.out, HTK.out]
                | true =>
                  have hik2 : i < k := by
                    rcases Nat.lt_or_ge i k with h | h
                    · exact h
                    · exfalso
                      have := HCI.out (by omega)
                      rw [this, HBK.out] at hb
                      cases hb
                  have hre : Hid (Fl.lexA [] (text.drop i) = (text.drop i).take (k - i) :: Fl.lexA [] (text.drop k)) := by
                    refine Lib.hid ?_
                    rw [hlk.out, HDK.out, lex_stop hb]
                    have hne : (text.drop i).take (k - i) ≠ [] := fun e => by
                      have := congrArg List.length e
                      rw [List.length_take, List.length_drop] at this
                      simp at this
                      omega
                    unfold Fl.flush
                    rw [if_neg hne]
                    rfl
                  have hq : b = 32 ∨ b = 40 ∨ b = 41 := by unfold brk at hb; simp at hb; rcases hb with (h | h) | h <;> simp [h]
                  clear hb
                  rcases hq with hq | hq | hq
                  · have m1 : ((b.toNat : Int) == 32) = true := by rw [hq]; rfl
                    have n1 : (b.toNat : Int) = 32 := by rw [hq]; rfl
                    have p1 : ((b.toNat : Int) != 32) = false := by rw [bne, m1]; rfl
                    go_wp2_with fail
                    go_meet
                    case rel => exact ⟨rfl, k, rfl, hik2, by omega, rfl, hre⟩
                  · have m1 : ((b.toNat : Int) == 32) = false := by rw [hq]; rfl
                    have n1 : ¬ (b.toNat : Int) = 32 := by rw [hq]; decide
                    have m2 : ((b.toNat : Int) == 40) = true := by rw [hq]; rfl
                    have n2 : (b.toNat : Int) = 40 := by rw [hq]; rfl
                    have p1 : ((b.toNat : Int) != 32) = true := by rw [bne, m1]; rfl
                    have p2 : ((b.toNat : Int) != 40) = false := by rw [bne, m2]; rfl
                    go_wp2_with fail
                    go_meet
                    case rel => exact ⟨rfl, k, rfl, hik2, by omega, rfl, hre⟩
                  · have m1 : ((b.toNat : Int) == 32) = false := by rw [hq]; rfl
                    have n1 : ¬ (b.toNat : Int) = 32 := by rw [hq]; decide
                    have m2 : ((b.toNat : Int) == 40) = false := by rw [hq]; rfl
                    have n2 : ¬ (b.toNat : Int) = 40 := by rw [hq]; decide
                    have m3 : ((b.toNat : Int) == 41) = true := by rw [hq]; rfl
                    have n3 : (b.toNat : Int) = 41 := by rw [hq]; rfl
                    have p1 : ((b.toNat : Int) != 32) = true := by rw [bne, m1]; rfl
                    have p2 : ((b.toNat : Int) != 40) = true := by rw [bne, m2]; rfl
                    have p3 : ((b.toNat : Int) != 41) = false := by rw [bne, m3]; rfl
                    go_wp2_with fail
                    go_meet
                    case rel => exact ⟨rfl, k, rfl, hik2, by omega, rfl, hre⟩
              · obtain rfl : k = text.length := by omega
                have hre : Hid (Fl.lexA [] (text.drop i) = (text.drop i).take (text.length - i) :: Fl.lexA [] (text.drop text.length)) := by
                  refine Lib.hid ?_
                  rw [hlk.out, List.drop_length, Fl.lexA, Fl.lexA]
                  have hne : (text.drop i).take (text.length - i) ≠ [] := fun e => by
                    have := congrArg List.length e
                    rw [List.length_take, List.length_drop] at this
                    simp at this
                    omega
                  unfold Fl.flush
                  rw [if_neg hne, if_pos rfl]
                go_wp2_with fail
                go_meet
                case rel => exact ⟨rfl, text.length, rfl, by omega, by omega, rfl, hre⟩
        case rest =>
          obtain ⟨rfl, k, rfl, hik, hkl, hwc, hre⟩ := hcut
          subst hwc
          obtain ⟨hm, hlex, hlen, hpl, hsz⟩ := hx.out
          have hex := ba_ext text i k
          have hpc : ((text.drop i).take (k - i)).length ≤ 2000 := by rw [List.length_take, List.length_drop]; omega
          have hlx : Fl.lexA [] text = (ws ++ [(text.drop i).take (k - i)]) ++ Fl.lexA [] (text.drop k) ∧ (ws ++ [(text.drop i).take (k - i)]).length ≤ k ∧ (ps ++ [(i : Int)]).length = (ws ++ [(text.drop i).take (k - i)]).length ∧ ∀ s ∈ ws ++ [(text.drop i).take (k - i)], s.length ≤ 2000 := by
            refine ⟨by rw [hlex, hre.out]; simp, by simp; omega, by simp [hpl], fun s hs => ?_⟩
            rcases List.mem_append.1 hs with h | h
            · exact hsz s h
            · rw [List.mem_singleton.1 h]; exact hpc
          have HLX := Lib.hid hlx
          have hwl : ws.length ≤ 1000000 := by omega
          have hpl2 : ps.length ≤ 1000000 := by omega
          have ik : (i : Int) ≤ (k : Int) := by omega
          have kl : (k : Int) ≤ (text.length : Int) := by omega
          have hb0 := hm.drew
          have HB0 := Lib.hid hb0
          clear hlx hpc hm hlex hlen hpl hsz hx hre hb0 hbx n1 m1
          generalize (text.drop i).take (k - i) = piece at *
          go_upto_region 15 with fail
          refine wp_till (fun wx => wx.cell? ⟨w.heap.size, 0, none⟩ = some (.slice As ws.length cs) ∧ wx.cell? ⟨w.heap.size, 1, none⟩ = some (.slice At ps.length ct)) [21, 24] (by kernel_rfl) ?_
          refine till_take0 1 _ ?_ (by simp only [List.getElem?_toArray, List.getElem?_cons_succ, List.getElem?_cons_zero]; rfl) (by kernel_rfl) (by kernel_rfl) (by kernel_rfl) (by kernel_rfl) (by intro _ _ _ _ h; exact h) (Or.inl ⟨by rfl, ?_⟩) (fun _ => HB0.out.sees) ?_
          rotate_left 1; focus (intro wx hSw; go_simp; try with_reducible rfl)
          try simp only [Act.put, List.setIfInBounds_toArray, List.set_cons_zero, List.set_cons_succ]
          refine till_take 0 [] _ ?_ (by simp only [List.getElem?_toArray, List.getElem?_cons_zero]; rfl) (by kernel_rfl) (by kernel_rfl) (by kernel_rfl) (by kernel_rfl) (by kernel_rfl) (by intro _ _ _ _ h; exact h) (Or.inl ⟨by rfl, ?_⟩) (HB0.out.sees) ?_
          rotate_left 1; focus (intro wx hSw; (try dsimp only at hSw); obtain ⟨q1, q2⟩ := hSw; go_simp; try with_reducible rfl)
          try simp only [Act.put, List.setIfInBounds_toArray, List.set_cons_zero, List.set_cons_succ]
          refine till_take 2 [] _ ?_ (by simp only [List.getElem?_toArray, List.getElem?_cons_succ, List.getElem?_cons_zero]; rfl) (by kernel_rfl) (by kernel_rfl) (by kernel_rfl) (by kernel_rfl) (by kernel_rfl) (by intro _ _ _ _ h; exact h) (Or.inl ⟨by rfl, ?_⟩) (HB0.out.sees) ?_
          rotate_left 1; focus (intro wx hSw; (try dsimp only at hSw); obtain ⟨q1, q2⟩ := hSw; go_simp; try with_reducible rfl)
          try simp only [Act.put, List.setIfInBounds_toArray, List.set_cons_zero, List.set_cons_succ]
          refine till_take 3 [] _ ?_ (by simp only [List.getElem?_toArray, List.getElem?_cons_succ, List.getElem?_cons_zero]; rfl) (by kernel_rfl) (by kernel_rfl) (by kernel_rfl) (by kernel_rfl) (by kernel_rfl) (by intro _ _ _ _ h; exact h) (Or.inl ⟨by rfl, ?_⟩) (HB0.out.sees) ?_
          rotate_left 1; focus (intro wx hSw; (try dsimp only at hSw); obtain ⟨q1, q2⟩ := hSw; go_simp; try with_reducible rfl)
          try simp only [Act.put, List.setIfInBounds_toArray, List.set_cons_zero, List.set_cons_succ]
          refine till_take 4 [] _ ?_ (by simp only [List.getElem?_toArray, List.getElem?_cons_succ, List.getElem?_cons_zero]; rfl) (by kernel_rfl) (by kernel_rfl) (by kernel_rfl) (by kernel_rfl) (by kernel_rfl) (by intro _ _ _ _ h; exact h) (Or.inl ⟨by rfl, ?_⟩) (HB0.out.sees) ?_
          rotate_left 1; focus (intro wx hSw; (try dsimp only at hSw); obtain ⟨q1, q2⟩ := hSw; go_simp; try with_reducible rfl)
          try simp only [Act.put, List.setIfInBounds_toArray, List.set_cons_zero, List.set_cons_succ]
          refine till_take 5 [] _ ?_ (by simp only [List.getElem?_toArray, List.getElem?_cons_succ, List.getElem?_cons_zero]; rfl) (by kernel_rfl) (by kernel_rfl) (by kernel_rfl) (by kernel_rfl) (by kernel_rfl) (by intro _ _ _ _ h; exact h) (Or.inl ⟨by rfl, ?_⟩) (HB0.out.sees) ?_
          rotate_left 1; focus (intro wx hSw; (try dsimp only at hSw); obtain ⟨q1, q2⟩ := hSw; go_simp; try with_reducible rfl)
          try simp only [Act.put, List.setIfInBounds_toArray, List.set_cons_zero, List.set_cons_succ]
          refine till_take 6 [] _ ?_ (by simp only [List.getElem?_toArray, List.getElem?_cons_succ, List.getElem?_cons_zero]; rfl) (by kernel_rfl) (by kernel_rfl) (by kernel_rfl) (by kernel_rfl) (by kernel_rfl) (by intro _ _ _ _ h; exact h) (Or.inl ⟨by rfl, ?_⟩) (HB0.out.sees) ?_
          rotate_left 1; focus (intro wx hSw; (try dsimp only at hSw); obtain ⟨q1, q2⟩ := hSw; go_simp; try with_reducible rfl)
          try simp only [Act.put, List.setIfInBounds_toArray, List.set_cons_zero, List.set_cons_succ]
          refine till_take 7 [] _ ?_ (by simp only [List.getElem?_toArray, List.getElem?_cons_succ, List.getElem?_cons_zero]; rfl) (by kernel_rfl) (by kernel_rfl) (by kernel_rfl) (by kernel_rfl) (by kernel_rfl) (by intro _ _ _ _ h; exact h) (Or.inl ⟨by rfl, ?_⟩) (HB0.out.sees) ?_
          rotate_left 1; focus (intro wx hSw; (try dsimp only at hSw); obtain ⟨q1, q2⟩ := hSw; go_simp; try with_reducible rfl)
          try simp only [Act.put, List.setIfInBounds_toArray, List.set_cons_zero, List.set_cons_succ]
          refine till_take 8 [] _ ?_ (by simp only [List.getElem?_toArray, List.getElem?_cons_succ, List.getElem?_cons_zero]; rfl) (by kernel_rfl) (by kernel_rfl) (by kernel_rfl) (by kernel_rfl) (by kernel_rfl) (by intro _ _ _ _ h; exact h) (Or.inl ⟨by rfl, ?_⟩) (HB0.out.sees) ?_
          rotate_left 1; focus (intro wx hSw; (try dsimp only at hSw); obtain ⟨q1, q2⟩ := hSw; go_simp; try with_reducible rfl)
          try simp only [Act.put, List.setIfInBounds_toArray, List.set_cons_zero, List.set_cons_succ]
          refine till_take 9 [] _ ?_ (by simp only [List.getElem?_toArray, List.getElem?_cons_succ, List.getElem?_cons_zero]; rfl) (by kernel_rfl) (by kernel_rfl) (by kernel_rfl) (by kernel_rfl) (by kernel_rfl) (by intro _ _ _ _ h; exact h) (Or.inl ⟨by rfl, ?_⟩) (HB0.out.sees) ?_
          rotate_left 1; focus (intro wx hSw; (try dsimp only at hSw); obtain ⟨q1, q2⟩ := hSw; go_simp; try with_reducible rfl)
          try simp only [Act.put, List.setIfInBounds_toArray, List.set_cons_zero, List.set_cons_succ]
          refine till_take 12 [13, 14, 15] _ ?_ (by simp only [List.getElem?_toArray, List.getElem?_cons_succ, List.getElem?_cons_zero]; rfl) (by kernel_rfl) (by kernel_rfl) (by kernel_rfl) (by kernel_rfl) (by kernel_rfl) (by intro _ _ _ _ h; exact h) (Or.inl ⟨by rfl, ?_⟩) (HB0.out.sees) ?_
          rotate_left 1; focus (intro wx hSw; (try dsimp only at hSw); obtain ⟨q1, q2⟩ := hSw; go_simp; try with_reducible rfl)
          try simp only [Act.put, List.setIfInBounds_toArray, List.set_cons_zero, List.set_cons_succ]
          refine till_take 13 [14, 15] _ ?_ (by simp only [List.getElem?_toArray, List.getElem?_cons_succ, List.getElem?_cons_zero]; rfl) (by kernel_rfl) (by kernel_rfl) (by kernel_rfl) (by kernel_rfl) (by kernel_rfl) (by intro _ _ _ _ h; exact h) (Or.inl ⟨by rfl, ?_⟩) (HB0.out.sees) ?_
          rotate_left 1; focus (intro wx hSw; (try dsimp only at hSw); obtain ⟨q1, q2⟩ := hSw; go_simp; try with_reducible rfl)
          try simp only [Act.put, List.setIfInBounds_toArray, List.set_cons_zero, List.set_cons_succ]
          refine till_take 14 [15] _ ?_ (by simp only [List.getElem?_toArray, List.getElem?_cons_succ, List.getElem?_cons_zero]; rfl) (by kernel_rfl) (by kernel_rfl) (by kernel_rfl) (by kernel_rfl) (by kernel_rfl) (by intro _ _ _ _ h; exact h) (Or.inl ⟨by rfl, ?_⟩) (HB0.out.sees) ?_
          rotate_left 1; focus (intro wx hSw; (try dsimp only at hSw); obtain ⟨q1, q2⟩ := hSw; go_simp; try with_reducible rfl)
          try simp only [Act.put, List.setIfInBounds_toArray, List.set_cons_zero, List.set_cons_succ]
          refine till_take 15 [] _ ?_ (by simp only [List.getElem?_toArray, List.getElem?_cons_succ, List.getElem?_cons_zero]; rfl) (by kernel_rfl) (by kernel_rfl) (by kernel_rfl) (by kernel_rfl) (by kernel_rfl) (by intro _ _ _ _ h; exact h) (Or.inl ⟨by rfl, ?_⟩) (HB0.out.sees) ?_
          rotate_left 1; focus (intro wx hSw; (try dsimp only at hSw); obtain ⟨q1, q2⟩ := hSw; go_simp; try with_reducible rfl)
          try simp only [Act.put, List.setIfInBounds_toArray, List.set_cons_zero, List.set_cons_succ]
          refine till_take 16 [17, 18] _ ?_ (by simp only [List.getElem?_toArray, List.getElem?_cons_succ, List.getElem?_cons_zero]; rfl) (by kernel_rfl) (by kernel_rfl) (by kernel_rfl) (by kernel_rfl) (by kernel_rfl) (by intro _ _ _ _ h; exact h) (Or.inl ⟨by rfl, ?_⟩) (HB0.out.sees) ?_
          rotate_left 1; focus (intro wx hSw; (try dsimp only at hSw); obtain ⟨q1, q2⟩ := hSw; go_simp; try with_reducible rfl)
          try simp only [Act.put, List.setIfInBounds_toArray, List.set_cons_zero, List.set_cons_succ]
          refine till_ready [10, 17] (by kernel_rfl) (by simp) ?_
          refine alls_cons (by simp only [List.getElem?_toArray, List.getElem?_cons_succ, List.getElem?_cons_zero]; rfl) (fun K hK => ?_) ?_
          focus
            go_simp
            refine hK.out _ _ (fun _ => (HB0.out.alloc _).sees) ?_
            clear hK K
            try simp only [Act.put, List.setIfInBounds_toArray, List.set_cons_zero, List.set_cons_succ]
            obtain ⟨hb2, hp2⟩ := LxM.lay HB0.out (sv piece) 9
            have HB_1 := Lib.hid hb2; have P1_2 := Lib.hid hp2; clear hb2 hp2
            clear HB0
            refine till_ready [11, 17] (by kernel_rfl) (by simp) ?_
            refine alls_cons (by simp only [List.getElem?_toArray, List.getElem?_cons_succ, List.getElem?_cons_zero]; rfl) (fun K hK => ?_) ?_
            focus
              refine step_addW ValR (by rfl) (.tmp 63) (.tmp 68) _ (w.heap.size + 1) 9 (.string ⟨#[]⟩) 16 Tryd.underlying64 Tryd.strInfo (by rfl) rfl _ _ (ws.map sv) (sv piece) (by rw [val_cells]; exact HB_1.out.oS) (by rfl) ⟨_, (by first | rfl | (show Value.slice _ _ _ = _; simp; done)), val_cellsAt P1_2.out.c⟩ (fun u hu => by rw [List.mem_singleton.1 hu]; rfl) (by omega) (by omega) HB_1.out.szle ?_
              intro v11 w11 h1 h2 h3
              rw [val_cells] at h1
              obtain ⟨A11, c11, rfl, _, _, _⟩ := h1.reads
              have hb2 := HB_1.out.push1 h1 h2
              have HB_3 := Lib.hid hb2; clear hb2
              clear HB_1 P1_2 h1 h2 h3
              refine hK.out _ _ (fun _ => HB_3.out.sees) ?_
              clear hK K
              try simp only [Act.put, List.setIfInBounds_toArray, List.set_cons_zero, List.set_cons_succ]
              refine till_ready [17] (by kernel_rfl) (by simp) ?_
              refine alls_cons (by simp only [List.getElem?_toArray, List.getElem?_cons_succ, List.getElem?_cons_zero]; rfl) (fun K hK => ?_) alls_nil
              go_simp
              refine hK.out _ _ (fun _ => (HB_3.out.alloc _).sees) ?_
              clear hK K
              try simp only [Act.put, List.setIfInBounds_toArray, List.set_cons_zero, List.set_cons_succ]
              obtain ⟨hb2, hp2⟩ := LxM.lay HB_3.out (.int .i64 i) 3
              have HB_4 := Lib.hid hb2; have P2_5 := Lib.hid hp2; clear hb2 hp2
              clear HB_3
              refine till_ready [18] (by kernel_rfl) (by simp) ?_
              refine alls_cons (by simp only [List.getElem?_toArray, List.getElem?_cons_succ, List.getElem?_cons_zero]; rfl) (fun K hK => ?_) alls_nil
              refine step_addW ValR (by rfl) (.tmp 73) (.tmp 75) _ (w.heap.size + 1) 3 (.int .i64 0) 8 Tryd.underlying65 Tryd.intInfo (by rfl) rfl _ _ (ps.map (Value.int .i64)) (.int .i64 i) (by rw [val_cells]; exact HB_4.out.oT) (by rfl) ⟨_, (by first | rfl | (show Value.slice _ _ _ = _; simp; done)), val_cellsAt P2_5.out.c⟩ (fun u hu => by rw [List.mem_singleton.1 hu]; rfl) (by omega) (by omega) HB_4.out.szle ?_
              intro v18 w18 h1 h2 h3
              rw [val_cells] at h1
              obtain ⟨A18, c18, rfl, _, _, _⟩ := h1.reads
              have hb2 := HB_4.out.push2 h1 h2
              have HB_6 := Lib.hid hb2; clear hb2
              clear HB_4 P2_5 h1 h2 h3
              refine hK.out _ _ (fun _ => HB_6.out.sees) ?_
              clear hK K
              try simp only [Act.put, List.setIfInBounds_toArray, List.set_cons_zero, List.set_cons_succ]
              refine till_ready [19] (by kernel_rfl) (by simp) ?_
              refine alls_cons (by simp only [List.getElem?_toArray, List.getElem?_cons_succ, List.getElem?_cons_zero]; rfl) (fun K hK => ?_) alls_nil
              go_simp
              refine hK.out _ _ (fun _ => HB_6.out.sees) ?_
              clear hK K
              try simp only [Act.put, List.setIfInBounds_toArray, List.set_cons_zero, List.set_cons_succ]
              refine till_ready [20] (by kernel_rfl) (by simp) ?_
              refine alls_cons (by simp only [List.getElem?_toArray, List.getElem?_cons_succ, List.getElem?_cons_zero]; rfl) (fun K hK => ?_) alls_nil
              go_simp
              refine hK.out _ _ (fun _ => HB_6.out.sees) ?_
              clear hK K
              try simp only [Act.put, List.setIfInBounds_toArray, List.set_cons_zero, List.set_cons_succ]
              refine till_ready [21] (by kernel_rfl) (by simp) ?_
              refine alls_cons (by simp only [List.getElem?_toArray, List.getElem?_cons_succ, List.getElem?_cons_zero]; rfl) (fun K hK => ?_) alls_nil
              have y8 := HB_6.out.blk.cell 0; have x8 := HB_6.out.blk.frozen 0; simp at y8
              go_simp
              refine hK.out _ _ (fun h => Bool.noConfusion h) ?_
              clear hK K y8 x8
              try simp only [Act.put, List.setIfInBounds_toArray, List.set_cons_zero, List.set_cons_succ]
              have hs1 := HB_6.out.store1
              have HS1 := Lib.hid hs1; clear hs1
              refine till_ready [22] (by kernel_rfl) (by simp) ?_
              refine alls_cons (by simp only [List.getElem?_toArray, List.getElem?_cons_succ, List.getElem?_cons_zero]; rfl) (fun K hK => ?_) alls_nil
              go_simp
              refine hK.out _ _ (fun h => Bool.noConfusion h) ?_
              clear hK K
              try simp only [Act.put, List.setIfInBounds_toArray, List.set_cons_zero, List.set_cons_succ]
              refine till_ready [23] (by kernel_rfl) (by simp) ?_
              refine alls_cons (by simp only [List.getElem?_toArray, List.getElem?_cons_succ, List.getElem?_cons_zero]; rfl) (fun K hK => ?_) alls_nil
              go_simp
              refine hK.out _ _ (fun h => Bool.noConfusion h) ?_
              clear hK K
              try simp only [Act.put, List.setIfInBounds_toArray, List.set_cons_zero, List.set_cons_succ]
              refine till_ready [24] (by kernel_rfl) (by simp) ?_
              refine alls_cons (by simp only [List.getElem?_toArray, List.getElem?_cons_succ, List.getElem?_cons_zero]; rfl) (fun K hK => ?_) alls_nil
              have y9 := HS1.out.blk.cell 1; have x9 := HS1.out.blk.frozen 1; simp at y9
              go_simp
              refine hK.out _ _ (fun h => Bool.noConfusion h) ?_
              clear hK K y9 x9
              try simp only [Act.put, List.setIfInBounds_toArray, List.set_cons_zero, List.set_cons_succ]
              refine till_done (by kernel_rfl) ?_ _
              have hs2 := HS1.out.store2
              have hfin : LxM w ((w18.setCell ⟨w.heap.size, 0, none⟩ (.slice A11 (ws.length + 1) c11)).setCell ⟨w.heap.size, 1, none⟩ (.slice A18 (ps.length + 1) c18)) text.length (.slice A11 (ws ++ [piece]).length c11) (.slice A18 (ps ++ [(i : Int)]).length c18) (.slice A11 (ws ++ [piece]).length c11) (.slice A18 (ps ++ [(i : Int)]).length c18) (ws ++ [piece]) (ps ++ [(i : Int)]) := by
                rw [show (ws ++ [piece]).length = ws.length + 1 by simp, show (ps ++ [(i : Int)]).length = ps.length + 1 by simp]
                exact hs2
              have HFIN := Lib.hid hfin
              clear hs2 hfin HS1
              go_wp2_with fail
              exact ⟨⟨k, ws ++ [piece], ps ++ [(i : Int)], A11, c11, A18, c18, rfl, hkl, Lib.hid ⟨HFIN.out, HLX.out.1, HLX.out.2.1, HLX.out.2.2.1, HLX.out.2.2.2⟩⟩, by simp [intOf]; omega⟩
            refine alls_cons (by simp only [List.getElem?_toArray, List.getElem?_cons_succ, List.getElem?_cons_zero]; rfl) (fun K hK => ?_) alls_nil
            go_simp
            refine hK.out _ _ (fun _ => (HB_1.out.alloc _).sees) ?_
            clear hK K
            try simp only [Act.put, List.setIfInBounds_toArray, List.set_cons_zero, List.set_cons_succ]
            obtain ⟨hb2, hp2⟩ := LxM.lay HB_1.out (.int .i64 i) 3
            have HB_7 := Lib.hid hb2; have P2_8 := Lib.hid hp2; clear hb2 hp2
            have hp3 := PendV.alloc P1_2.out (.cells #[.int .i64 i] 3)
            have P1_9 := Lib.hid hp3; clear hp3 P1_2
            clear HB_1
            refine till_ready [11] (by kernel_rfl) (by simp) ?_
            refine alls_cons (by simp only [List.getElem?_toArray, List.getElem?_cons_succ, List.getElem?_cons_zero]; rfl) (fun K hK => ?_) alls_nil
            refine step_addW ValR (by rfl) (.tmp 63) (.tmp 68) _ (w.heap.size + 1) 9 (.string ⟨#[]⟩) 16 Tryd.underlying64 Tryd.strInfo (by rfl) rfl _ _ (ws.map sv) (sv piece) (by rw [val_cells]; exact HB_7.out.oS) (by rfl) ⟨_, (by first | rfl | (show Value.slice _ _ _ = _; simp; done)), val_cellsAt P1_9.out.c⟩ (fun u hu => by rw [List.mem_singleton.1 hu]; rfl) (by omega) (by omega) HB_7.out.szle ?_
            intro v11 w11 h1 h2 h3
            rw [val_cells] at h1
            obtain ⟨A11, c11, rfl, _, _, _⟩ := h1.reads
            have hb2 := HB_7.out.push1 h1 h2
            have HB_10 := Lib.hid hb2; clear hb2
            have hp3 := P2_8.out.grown1 h2 h3
            have P2_11 := Lib.hid hp3; clear hp3 P2_8
            clear HB_7 P1_9 h1 h2 h3
            refine hK.out _ _ (fun _ => HB_10.out.sees) ?_
            clear hK K
            try simp only [Act.put, List.setIfInBounds_toArray, List.set_cons_zero, List.set_cons_succ]
            refine till_ready [18] (by kernel_rfl) (by simp) ?_
            refine alls_cons (by simp only [List.getElem?_toArray, List.getElem?_cons_succ, List.getElem?_cons_zero]; rfl) (fun K hK => ?_) alls_nil
            refine step_addW ValR (by rfl) (.tmp 73) (.tmp 75) _ (w.heap.size + 1) 3 (.int .i64 0) 8 Tryd.underlying65 Tryd.intInfo (by rfl) rfl _ _ (ps.map (Value.int .i64)) (.int .i64 i) (by rw [val_cells]; exact HB_10.out.oT) (by rfl) ⟨_, (by first | rfl | (show Value.slice _ _ _ = _; simp; done)), val_cellsAt P2_11.out.c⟩ (fun u hu => by rw [List.mem_singleton.1 hu]; rfl) (by omega) (by omega) HB_10.out.szle ?_
            intro v18 w18 h1 h2 h3
            rw [val_cells] at h1
            obtain ⟨A18, c18, rfl, _, _, _⟩ := h1.reads
            have hb2 := HB_10.out.push2 h1 h2
            have HB_12 := Lib.hid hb2; clear hb2
            clear HB_10 P2_11 h1 h2 h3
            refine hK.out _ _ (fun _ => HB_12.out.sees) ?_
            clear hK K
            try simp only [Act.put, List.setIfInBounds_toArray, List.set_cons_zero, List.set_cons_succ]
            refine till_ready [19] (by kernel_rfl) (by simp) ?_
            refine alls_cons (by simp only [List.getElem?_toArray, List.getElem?_cons_succ, List.getElem?_cons_zero]; rfl) (fun K hK => ?_) alls_nil
            go_simp
            refine hK.out _ _ (fun _ => HB_12.out.sees) ?_
            clear hK K
            try simp only [Act.put, List.setIfInBounds_toArray, List.set_cons_zero, List.set_cons_succ]
            refine till_ready [20] (by kernel_rfl) (by simp) ?_
            refine alls_cons (by simp only [List.getElem?_toArray, List.getElem?_cons_succ, List.getElem?_cons_zero]; rfl) (fun K hK => ?_) alls_nil
            go_simp
            refine hK.out _ _ (fun _ => HB_12.out.sees) ?_
            clear hK K
            try simp only [Act.put, List.setIfInBounds_toArray, List.set_cons_zero, List.set_cons_succ]
            refine till_ready [21] (by kernel_rfl) (by simp) ?_
            refine alls_cons (by simp only [List.getElem?_toArray, List.getElem?_cons_succ, List.getElem?_cons_zero]; rfl) (fun K hK => ?_) alls_nil
            have y8 := HB_12.out.blk.cell 0; have x8 := HB_12.out.blk.frozen 0; simp at y8
            go_simp
            refine hK.out _ _ (fun h => Bool.noConfusion h) ?_
            clear hK K y8 x8
            try simp only [Act.put, List.setIfInBounds_toArray, List.set_cons_zero, List.set_cons_succ]
            have hs1 := HB_12.out.store1
            have HS1 := Lib.hid hs1; clear hs1
            refine till_ready [22] (by kernel_rfl) (by simp) ?_
            refine alls_cons (by simp only [List.getElem?_toArray, List.getElem?_cons_succ, List.getElem?_cons_zero]; rfl) (fun K hK => ?_) alls_nil
            go_simp
            refine hK.out _ _ (fun h => Bool.noConfusion h) ?_
            clear hK K
            try simp only [Act.put, List.setIfInBounds_toArray, List.set_cons_zero, List.set_cons_succ]
            refine till_ready [23] (by kernel_rfl) (by simp) ?_
            refine alls_cons (by simp only [List.getElem?_toArray, List.getElem?_cons_succ, List.getElem?_cons_zero]; rfl) (fun K hK => ?_) alls_nil
            go_simp
            refine hK.out _ _ (fun h => Bool.noConfusion h) ?_
            clear hK K
            try simp only [Act.put, List.setIfInBounds_toArray, List.set_cons_zero, List.set_cons_succ]
            refine till_ready [24] (by kernel_rfl) (by simp) ?_
            refine alls_cons (by simp only [List.getElem?_toArray, List.getElem?_cons_succ, List.getElem?_cons_zero]; rfl) (fun K hK => ?_) alls_nil
            have y9 := HS1.out.blk.cell 1; have x9 := HS1.out.blk.frozen 1; simp at y9
            go_simp
            refine hK.out _ _ (fun h => Bool.noConfusion h) ?_
            clear hK K y9 x9
            try simp only [Act.put, List.setIfInBounds_toArray, List.set_cons_zero, List.set_cons_succ]
            refine till_done (by kernel_rfl) ?_ _
            have hs2 := HS1.out.store2
            have hfin : LxM w ((w18.setCell ⟨w.heap.size, 0, none⟩ (.slice A11 (ws.length + 1) c11)).setCell ⟨w.heap.size, 1, none⟩ (.slice A18 (ps.length + 1) c18)) text.length (.slice A11 (ws ++ [piece]).length c11) (.slice A18 (ps ++ [(i : Int)]).length c18) (.slice A11 (ws ++ [piece]).length c11) (.slice A18 (ps ++ [(i : Int)]).length c18) (ws ++ [piece]) (ps ++ [(i : Int)]) := by
              rw [show (ws ++ [piece]).length = ws.length + 1 by simp, show (ps ++ [(i : Int)]).length = ps.length + 1 by simp]
              exact hs2
            have HFIN := Lib.hid hfin
            clear hs2 hfin HS1
            go_wp2_with fail
            exact ⟨⟨k, ws ++ [piece], ps ++ [(i : Int)], A11, c11, A18, c18, rfl, hkl, Lib.hid ⟨HFIN.out, HLX.out.1, HLX.out.2.1, HLX.out.2.2.1, HLX.out.2.2.2⟩⟩, by simp [intOf]; omega⟩
          refine alls_cons (by simp only [List.getElem?_toArray, List.getElem?_cons_succ, List.getElem?_cons_zero]; rfl) (fun K hK => ?_) alls_nil
          go_simp
          refine hK.out _ _ (fun _ => (HB0.out.alloc _).sees) ?_
          clear hK K
          try simp only [Act.put, List.setIfInBounds_toArray, List.set_cons_zero, List.set_cons_succ]
          obtain ⟨hb2, hp2⟩ := LxM.lay HB0.out (.int .i64 i) 3
          have HB_13 := Lib.hid hb2; have P2_14 := Lib.hid hp2; clear hb2 hp2
          clear HB0
          refine till_ready [10] (by kernel_rfl) (by simp) ?_
          refine alls_cons (by simp only [List.getElem?_toArray, List.getElem?_cons_succ, List.getElem?_cons_zero]; rfl) (fun K hK => ?_) alls_nil
          go_simp
          refine hK.out _ _ (fun _ => (HB_13.out.alloc _).sees) ?_
          clear hK K
          try simp only [Act.put, List.setIfInBounds_toArray, List.set_cons_zero, List.set_cons_succ]
          obtain ⟨hb2, hp2⟩ := LxM.lay HB_13.out (sv piece) 9
          have HB_15 := Lib.hid hb2; have P1_16 := Lib.hid hp2; clear hb2 hp2
          have hp3 := PendV.alloc P2_14.out (.cells #[sv piece] 9)
          have P2_17 := Lib.hid hp3; clear hp3 P2_14
          clear HB_13
          refine till_ready [11] (by kernel_rfl) (by simp) ?_
          refine alls_cons (by simp only [List.getElem?_toArray, List.getElem?_cons_succ, List.getElem?_cons_zero]; rfl) (fun K hK => ?_) alls_nil
          refine step_addW ValR (by rfl) (.tmp 63) (.tmp 68) _ (w.heap.size + 1) 9 (.string ⟨#[]⟩) 16 Tryd.underlying64 Tryd.strInfo (by rfl) rfl _ _ (ws.map sv) (sv piece) (by rw [val_cells]; exact HB_15.out.oS) (by rfl) ⟨_, (by first | rfl | (show Value.slice _ _ _ = _; simp; done)), val_cellsAt P1_16.out.c⟩ (fun u hu => by rw [List.mem_singleton.1 hu]; rfl) (by omega) (by omega) HB_15.out.szle ?_
          intro v11 w11 h1 h2 h3
          rw [val_cells] at h1
          obtain ⟨A11, c11, rfl, _, _, _⟩ := h1.reads
          have hb2 := HB_15.out.push1 h1 h2
          have HB_18 := Lib.hid hb2; clear hb2
          have hp3 := P2_17.out.grown1 h2 h3
          have P2_19 := Lib.hid hp3; clear hp3 P2_17
          clear HB_15 P1_16 h1 h2 h3
          refine hK.out _ _ (fun _ => HB_18.out.sees) ?_
          clear hK K
          try simp only [Act.put, List.setIfInBounds_toArray, List.set_cons_zero, List.set_cons_succ]
          refine till_ready [18] (by kernel_rfl) (by simp) ?_
          refine alls_cons (by simp only [List.getElem?_toArray, List.getElem?_cons_succ, List.getElem?_cons_zero]; rfl) (fun K hK => ?_) alls_nil
          refine step_addW ValR (by rfl) (.tmp 73) (.tmp 75) _ (w.heap.size + 1) 3 (.int .i64 0) 8 Tryd.underlying65 Tryd.intInfo (by rfl) rfl _ _ (ps.map (Value.int .i64)) (.int .i64 i) (by rw [val_cells]; exact HB_18.out.oT) (by rfl) ⟨_, (by first | rfl | (show Value.slice _ _ _ = _; simp; done)), val_cellsAt P2_19.out.c⟩ (fun u hu => by rw [List.mem_singleton.1 hu]; rfl) (by omega) (by omega) HB_18.out.szle ?_
          intro v18 w18 h1 h2 h3
          rw [val_cells] at h1
          obtain ⟨A18, c18, rfl, _, _, _⟩ := h1.reads
          have hb2 := HB_18.out.push2 h1 h2
          have HB_20 := Lib.hid hb2; clear hb2
          clear HB_18 P2_19 h1 h2 h3
          refine hK.out _ _ (fun _ => HB_20.out.sees) ?_
          clear hK K
          try simp only [Act.put, List.setIfInBounds_toArray, List.set_cons_zero, List.set_cons_succ]
          refine till_ready [19] (by kernel_rfl) (by simp) ?_
          refine alls_cons (by simp only [List.getElem?_toArray, List.getElem?_cons_succ, List.getElem?_cons_zero]; rfl) (fun K hK => ?_) alls_nil
          go_simp
          refine hK.out _ _ (fun _ => HB_20.out.sees) ?_
          clear hK K
          try simp only [Act.put, List.setIfInBounds_toArray, List.set_cons_zero, List.set_cons_succ]
          refine till_ready [20] (by kernel_rfl) (by simp) ?_
          refine alls_cons (by simp only [List.getElem?_toArray, List.getElem?_cons_succ, List.getElem?_cons_zero]; rfl) (fun K hK => ?_) alls_nil
          go_simp
          refine hK.out _ _ (fun _ => HB_20.out.sees) ?_
          clear hK K
          try simp only [Act.put, List.setIfInBounds_toArray, List.set_cons_zero, List.set_cons_succ]
          refine till_ready [21] (by kernel_rfl) (by simp) ?_
          refine alls_cons (by simp only [List.getElem?_toArray, List.getElem?_cons_succ, List.getElem?_cons_zero]; rfl) (fun K hK => ?_) alls_nil
          have y8 := HB_20.out.blk.cell 0; have x8 := HB_20.out.blk.frozen 0; simp at y8
          go_simp
          refine hK.out _ _ (fun h => Bool.noConfusion h) ?_
          clear hK K y8 x8
          try simp only [Act.put, List.setIfInBounds_toArray, List.set_cons_zero, List.set_cons_succ]
          have hs1 := HB_20.out.store1
          have HS1 := Lib.hid hs1; clear hs1
          refine till_ready [22] (by kernel_rfl) (by simp) ?_
          refine alls_cons (by simp only [List.getElem?_toArray, List.getElem?_cons_succ, List.getElem?_cons_zero]; rfl) (fun K hK => ?_) alls_nil
          go_simp
          refine hK.out _ _ (fun h => Bool.noConfusion h) ?_
          clear hK K
          try simp only [Act.put, List.setIfInBounds_toArray, List.set_cons_zero, List.set_cons_succ]
          refine till_ready [23] (by kernel_rfl) (by simp) ?_
          refine alls_cons (by simp only [List.getElem?_toArray, List.getElem?_cons_succ, List.getElem?_cons_zero]; rfl) (fun K hK => ?_) alls_nil
          go_simp
          refine hK.out _ _ (fun h => Bool.noConfusion h) ?_
          clear hK K
          try simp only [Act.put, List.setIfInBounds_toArray, List.set_cons_zero, List.set_cons_succ]
          refine till_ready [24] (by kernel_rfl) (by simp) ?_
          refine alls_cons (by simp only [List.getElem?_toArray, List.getElem?_cons_succ, List.getElem?_cons_zero]; rfl) (fun K hK => ?_) alls_nil
          have y9 := HS1.out.blk.cell 1; have x9 := HS1.out.blk.frozen 1; simp at y9
          go_simp
          refine hK.out _ _ (fun h => Bool.noConfusion h) ?_
          clear hK K y9 x9
          try simp only [Act.put, List.setIfInBounds_toArray, List.set_cons_zero, List.set_cons_succ]
          refine till_done (by kernel_rfl) ?_ _
          have hs2 := HS1.out.store2
          have hfin : LxM w ((w18.setCell ⟨w.heap.size, 0, none⟩ (.slice A11 (ws.length + 1) c11)).setCell ⟨w.heap.size, 1, none⟩ (.slice A18 (ps.length + 1) c18)) text.length (.slice A11 (ws ++ [piece]).length c11) (.slice A18 (ps ++ [(i : Int)]).length c18) (.slice A11 (ws ++ [piece]).length c11) (.slice A18 (ps ++ [(i : Int)]).length c18) (ws ++ [piece]) (ps ++ [(i : Int)]) := by
            rw [show (ws ++ [piece]).length = ws.length + 1 by simp, show (ps ++ [(i : Int)]).length = ps.length + 1 by simp]
            exact hs2
          have HFIN := Lib.hid hfin
          clear hs2 hfin HS1
          go_wp2_with fail
          exact ⟨⟨k, ws ++ [piece], ps ++ [(i : Int)], A11, c11, A18, c18, rfl, hkl, Lib.hid ⟨HFIN.out, HLX.out.1, HLX.out.2.1, HLX.out.2.2.1, HLX.out.2.2.2⟩⟩, by simp [intOf]; omega⟩
    · obtain rfl : i = text.length := by omega
      obtain ⟨hm, hlex, hlen, hpl, hsz⟩ := hx.out
      have hlex2 : Fl.lexA [] text = ws := by rw [hlex, List.drop_length, Fl.lexA]; simp [Fl.flush]
      have hrd : RdF ⟨As, cs, At, ct, ws, ps, text.length⟩ wr w.heap.size 0 := by
        obtain ⟨A1, c1, e1, _, _, hr1⟩ := hm.oS.reads
        injection e1 with e1 _ e2
        subst e1; subst e2
        obtain ⟨A2, c2, e3, _, _, hr2⟩ := hm.oT.reads
        injection e3 with e3 _ e4
        subst e3; subst e4
        refine ⟨?_, hr1, ?_, fun ad e => ?_, fun ad e => ?_, Nat.zero_le _, by show ws.length ≤ 2000; omega, hsz⟩
        · have := hm.blk
          rw [hpl] at this
          exact this
        · show Reads wr wr.heap.size 1 At ws.length _
          rw [← hpl]
          exact hr2
        · have := (hm.oS.lt ad.block (by rw [show As = some ad from e]; rfl)).1
          omega
        · have := (hm.oT.lt ad.block (by rw [show At = some ad from e]; rfl)).1
          omega
      have hbw := hm.bel
      have h10 := HV.out.sz
      have hone := one_f ⟨As, cs, At, ct, ws, ps, text.length⟩ w.heap.size h10 20 (by omega) 0 wr hrd (HV.out.over hbw)
      have ho : Calls Tryd.prog 22 #[.pointer (some ⟨w.heap.size, 0, none⟩), .int .i64 20] wr (OneEnd ⟨As, cs, At, ct, ws, ps, text.length⟩ wr w.heap.size (Fl.oneF 20 ws)) := hone
      have hre2 : res = (match Fl.oneF 20 ws with
        | .error e => .error e
        | .ok (t, []) => .ok t
        | .ok (t, _ :: _) => .error 3) := by rw [HRE.out, hlex2]
      have HO := Lib.hid ho; have HR2 := Lib.hid hre2; have HBW := Lib.hid hbw
      clear hm hlex hlen hpl hsz hx hlex2 hrd hone ho hre2 hbw HRE
      go_wp2_with fail
      (with_reducible refine HO.out.mono ?_)
      rintro e w2 (⟨t, r, v, k, hok, rfl, h2⟩ | ⟨er, v, q, herr, rfl, h2⟩)
      · obtain ⟨hr, hrd2, hc2, hft⟩ := h2.out
        have hb2 : Below w.heap.size w w2 := HBW.out.trans (hc2.below HBW.out.size (fun i hi e => by omega))
        have hle := hrd2.le
        have hnl := hrd2.n
        have c0 := hrd2.blk.cell 0; have c2 := hrd2.blk.cell 2
        simp at c0 c2
        obtain ⟨uT, ux, rfl⟩ := hft.form
        have HRD := Lib.hid hrd2; have HB2 := Lib.hid hb2; have HFT := Lib.hid hft
        clear hrd2 hc2 hb2 hft h2 HO
        dsimp only at hr hle c0
        by_cases hk : k < ws.length
        · have il : (k : Int) < (ws.length : Int) := by omega
          have hre : res = .error 3 := by
            rw [HR2.out, hok]
            have : r ≠ [] := fun e => by rw [hr] at e; have := congrArg List.length e; rw [List.length_drop] at this; simp at this; omega
            cases r with
            | nil => exact absurd rfl this
            | cons a b => rfl
          have HF := Lib.hid (fun nq => fail_f _ _ _ 3 (w2.drewN nq) (HRD.out.drewN nq))
          have HRE := Lib.hid hre
          clear hre hok HR2
          go_upto_region 20 with fail
          go_quiet (fail)
          go_wp2_with fail
          (with_reducible refine (HF.out _).mono ?_)
          rintro e w9 ⟨q, rfl, h9⟩
          go_wp2_with fail
          go_ret2
          exact .inr ⟨3, _, _, HRE.out, rfl, Lib.hid ⟨.inr h9.out.1, HB2.out.trans (((below_drewN (Below.refl _ _) _).trans h9.out.2).mono HB2.out.size)⟩⟩
        · have il : decide ((k : Int) < (ws.length : Int)) = false := decide_eq_false (by omega)
          have hre : res = .ok t := by
            rw [HR2.out, hok]
            have : r = [] := by rw [hr]; exact List.drop_eq_nil_of_le (by omega)
            rw [this]
          have HRE := Lib.hid hre
          clear hre hok HR2
          go_upto_region 20 with fail
          go_quiet (fail)
          go_wp2_with fail
          go_ret2
          exact .inl ⟨t, _, HRE.out, rfl, Lib.hid ⟨(HFT.out.wide HBW.out.size (Nat.le_refl _)).over (Nat.le_refl _) (below_drewN (Below.refl _ _) _), below_drewN HB2.out _⟩⟩
      · have hre : res = .error er := by rw [HR2.out, herr]
        have HRE := Lib.hid hre
        clear hre herr HR2 HO
        go_wp2_with fail
        go_ret2
        exact .inr ⟨er, _, _, HRE.out, rfl, Lib.hid ⟨.inr h2.out.1, HBW.out.trans (h2.out.2.1.below HBW.out.size (fun i hi e => by omega))⟩⟩
end Go.Proofs.YtdipehgijjkfdaaDoor
