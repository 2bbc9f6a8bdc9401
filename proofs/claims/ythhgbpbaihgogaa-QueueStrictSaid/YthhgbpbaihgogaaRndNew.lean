/-
  Flows that take turns: their making.
-/
import Derived.Test.YthhgbpbaihgogaaRndTake
namespace Go.Proofs.Ythhgbpbaihgogaa
open Go.RowKit Bkt
set_option linter.unusedVariables false

def qBad (x : Int) : Bool := decide (x < 1) || decide (1000000 < x)
theorem qbad_any (x : Int) (w : World) : Calls Try.prog 42 #[.int .i64 x] w fun e w' => e = .returned (.bool (qBad x)) ∧ w = w' := by
  unfold qBad
  by_cases h : x < 1
  · have h2 : decide (x < 1) = true := by simpa using h
    go_enter Try.func42, Try.ntmps42
    go_wp2_with fail
    go_ret
    exact ⟨by first | rfl | (rw [h2]; rfl), rfl⟩
  · have h2 : decide (x < 1) = false := by simpa using h
    go_enter Try.func42, Try.ntmps42
    go_wp2_with fail
    go_ret
    exact ⟨by first | rfl | (rw [h2]; rfl), rfl⟩
set_option maxHeartbeats 1000000 in
theorem qindex_any (A : Option Addr) (n c : Nat) (zs : List Int) (w : World) (hr : RdI w w.heap.size A n zs) (hn : n ≤ 1000) :
    Calls Try.prog 47 #[.slice A n c, .func (.func 42) #[] #[]] w fun e w' => (∃ k : Int, e = .returned (.int .i64 k) ∧ (0 ≤ k ↔ ∃ i, i < n ∧ qBad (zs.getD i 0) = true)) ∧ w = w' := by
  have HR := Lib.hid hr
  clear hr
  go_enter Try.func47, Try.ntmps47
  go_wp2_with fail
  go_loopw [8] (fun i wr => ∃ k : Nat, k ≤ n ∧ i = .int .i64 k ∧ wr = w ∧ Hid (∀ j, j < k → qBad (zs.getD j 0) = false)) (fun i _ => n - (intOf i).toNat)
  case atStart => exact ⟨0, Nat.zero_le _, rfl, rfl, Lib.hid fun j hj => absurd hj (by omega)⟩
  case round =>
    obtain ⟨k, hk, rfl, rfl, hj⟩ := hrel
    by_cases hlt : k < n
    · obtain ⟨b, off, rfl, hbl⟩ := HR.out.addr hlt
      have hc := HR.out.all rfl k hlt
      have hp := qbad_any (zs.getD k 0) wr
      have ik : (k : Int) < (n : Int) := by omega
      obtain ⟨y, hy⟩ : ∃ y, y = zs.getD k 0 := ⟨_, rfl⟩
      rw [← hy] at hc hp
      have HY := Lib.hid hy
      clear hy
      have HP := Lib.hid hp
      clear hp
      cases hq : qBad y with
      | true =>
        rw [hq] at HP
        go_wp2_with (go_at_call 42; (with_reducible refine HP.out.mono ?_); rintro e w' ⟨rfl, rfl⟩)
        go_ret
        exact ⟨⟨k, rfl, ⟨fun _ => ⟨k, hlt, by rw [← HY.out]; exact hq⟩, fun _ => by omega⟩⟩, rfl⟩
      | false =>
        rw [hq] at HP
        go_wp2_with (go_at_call 42; (with_reducible refine HP.out.mono ?_); rintro e w' ⟨rfl, rfl⟩)
        refine ⟨⟨k + 1, by omega, by go_num, by first | rfl | trivial, Lib.hid fun j hjk => by
          by_cases e : j = k
          · subst e; rw [← HY.out]; exact hq
          · exact hj.out j (by omega)⟩, by simp [intOf]; omega⟩
    · obtain rfl : k = n := by omega
      go_wp2_with fail
      go_ret
      exact ⟨⟨-1, rfl, ⟨fun h => absurd h (by omega), fun ⟨i, hi, hb⟩ => by rw [hj.out i hi] at hb; cases hb⟩⟩, rfl⟩
theorem qcontains_any (A : Option Addr) (n c : Nat) (zs : List Int) (w : World) (hr : RdI w w.heap.size A n zs) (hn : n ≤ 1000) :
    Calls Try.prog 41 #[.slice A n c, .func (.func 42) #[] #[]] w fun e w' => (∃ b : Bool, e = .returned (.bool b) ∧ (b = true ↔ ∃ i, i < n ∧ qBad (zs.getD i 0) = true)) ∧ w = w' := by
  have h := qindex_any A n c zs w hr hn
  have H := Lib.hid h
  clear h hr
  go_enter Try.func41, Try.ntmps41
  go_wp2_with fail
  (with_reducible refine H.out.mono ?_)
  rintro e w' ⟨⟨k, rfl, hk⟩, rfl⟩
  have HK := Lib.hid hk
  clear hk
  go_wp2_with fail
  go_ret
  exact ⟨⟨decide (0 ≤ k), rfl, by rw [← HK.out]; simp⟩, rfl⟩

/-- the making's refusal -/
def NewNo (w : World) (e : Ending) (w' : World) : Prop := (∃ ek : Int, e = .returned (.tuple #[.pointer none, .iface 80 (.int .i64 ek)])) ∧ Below w.heap.size w w'
/-- the quanta that the making takes -/
structure QsOk (room : Int) (n : Nat) (zs : List Int) : Prop where
  nn : 1 ≤ n ∧ n ≤ 16
  rm : 0 ≤ room ∧ room ≤ 1000000
  q : ∀ i, i < n → 1 ≤ zs.getD i 0 ∧ zs.getD i 0 ≤ 1000000
theorem qBad_iff {x : Int} : qBad x = true ↔ ¬ (1 ≤ x ∧ x ≤ 1000000) := by
  unfold qBad
  rw [Bool.or_eq_true, decide_eq_true_eq, decide_eq_true_eq]
  omega
set_option maxHeartbeats 1000000 in
theorem newRounds_no (room : Int) (A : Option Addr) (n c : Nat) (zs : List Int) (w : World) (hr : RdI w w.heap.size A n zs) (hn : n ≤ 1000) (hq : ¬ QsOk room n zs) :
    Calls Try.prog 24 #[.int .i64 room, .slice A n c] w (NewNo w) := by
  have hcon := qcontains_any A n c zs w hr hn
  have HCON := Lib.hid hcon; have HR := Lib.hid hr
  clear hcon hr
  by_cases c1 : n < 1
  · have c1' : decide ((n : Int) < 1) = true := by simp; omega
    clear hq
    go_enter Try.func24, Try.ntmps24
    go_wp2_with fail
    go_ret2
    exact ⟨⟨_, rfl⟩, Below.refl _ _⟩
  · have c1' : decide ((n : Int) < 1) = false := by simp; omega
    by_cases c2 : 16 < n
    · have c2' : decide (16 < (n : Int)) = true := by simp; omega
      clear hq
      go_enter Try.func24, Try.ntmps24
      go_wp2_with fail
      go_ret2
      exact ⟨⟨_, rfl⟩, Below.refl _ _⟩
    · have c2' : decide (16 < (n : Int)) = false := by simp; omega
      by_cases c3 : room < 0
      · clear hq
        go_enter Try.func24, Try.ntmps24
        go_wp2_with fail
        go_ret2
        exact ⟨⟨_, rfl⟩, Below.refl _ _⟩
      · by_cases c4 : 1000000 < room
        · clear hq
          go_enter Try.func24, Try.ntmps24
          go_wp2_with fail
          go_ret2
          exact ⟨⟨_, rfl⟩, Below.refl _ _⟩
        · have hex : ∃ i, i < n ∧ qBad (zs.getD i 0) = true := by
            by_cases h : ∃ i, i < n ∧ qBad (zs.getD i 0) = true
            · exact h
            · exact absurd ⟨by omega, by omega, fun i hi => by
                by_cases h2 : 1 ≤ zs.getD i 0 ∧ zs.getD i 0 ≤ 1000000
                · exact h2
                · exact absurd ⟨i, hi, qBad_iff.2 h2⟩ h⟩ hq
          have HEX := Lib.hid hex
          clear hq hex
          go_enter Try.func24, Try.ntmps24
          go_wp2_with fail
          (with_reducible refine HCON.out.mono ?_)
          rintro e w' ⟨⟨bb, rfl, hbb⟩, rfl⟩
          have hb : bb = true := hbb.2 HEX.out
          subst hb
          clear hbb
          go_wp2_with fail
          go_ret2
          exact ⟨⟨_, rfl⟩, Below.refl _ _⟩

/-- the quanta, laid so far -/
def qTo (zs : List Int) (n k : Nat) (f : Nat) : Int := if f < k then zs.getD (min f (n - 1)) 0 else 0
theorem qTo_next (zs : List Int) (n k : Nat) : qTo zs n (k + 1) = Pl.updf (qTo zs n k) k (zs.getD (min k (n - 1)) 0) := by
  funext f
  unfold qTo
  by_cases e : f = k
  · subst e; rw [Pl.updf_same, if_pos (by omega)]
  · rw [Pl.updf_ne _ _ e]
    by_cases h : f < k
    · rw [if_pos h, if_pos (by omega)]
    · rw [if_neg h, if_neg (by omega)]
def rs0 : Pl.RS := ⟨fun _ => [], fun _ => 0, [], false⟩
theorem Rds.setQ {w : World} {base g : Nat} {cs : Array Value} {V : Nat → Value} {tv : Value} {Q : Nat → Int} {room : Int} {s : Pl.RS} {b m : Int} (h : Rds w base g cs V tv Q room s b m) {f : Nat} (hf : f < 16) (x : Int) :
    Rds (w.setCell ⟨g, 32 + f, none⟩ (.int .i64 x)) base g (cs.setIfInBounds (32 + f) (.int .i64 x)) V tv (Pl.updf Q f x) room s b m :=
  ⟨h.blk.set_ _ _, by simp [h.sz], fun i hi => (set_at (by omega)).trans (h.l0 i hi), fun i hi => (set_at (by omega)).trans (h.l1 i hi), h.setO _ _, h.ne, fun i hi => by
    by_cases e : i = f
    · subst e; rw [Pl.updf_same]; exact set_is (by rw [h.sz]; omega)
    · rw [Pl.updf_ne _ _ e]; exact (set_at (by omega)).trans (h.q i hi), (set_at (by omega)).trans h.rm, fun i hi => (set_at (by omega)).trans (h.c i hi), (set_at (by omega)).trans h.t, (set_at (by omega)).trans h.bg, (set_at (by omega)).trans h.by_, (set_at (by omega)).trans h.mn, h.setN _ _⟩
theorem zero_l0 (f : Nat) (hf : f < 16) : Try.zeroCells104[f * 2]? = some (.slice none 0 0) :=
  match f, hf with
  | 0, _ => by kernel_rfl
  | 1, _ => by kernel_rfl
  | 2, _ => by kernel_rfl
  | 3, _ => by kernel_rfl
  | 4, _ => by kernel_rfl
  | 5, _ => by kernel_rfl
  | 6, _ => by kernel_rfl
  | 7, _ => by kernel_rfl
  | 8, _ => by kernel_rfl
  | 9, _ => by kernel_rfl
  | 10, _ => by kernel_rfl
  | 11, _ => by kernel_rfl
  | 12, _ => by kernel_rfl
  | 13, _ => by kernel_rfl
  | 14, _ => by kernel_rfl
  | 15, _ => by kernel_rfl
  | k + 16, h => absurd h (by omega)
theorem zero_l1 (f : Nat) (hf : f < 16) : Try.zeroCells104[f * 2 + 1]? = some (.int .i64 0) :=
  match f, hf with
  | 0, _ => by kernel_rfl
  | 1, _ => by kernel_rfl
  | 2, _ => by kernel_rfl
  | 3, _ => by kernel_rfl
  | 4, _ => by kernel_rfl
  | 5, _ => by kernel_rfl
  | 6, _ => by kernel_rfl
  | 7, _ => by kernel_rfl
  | 8, _ => by kernel_rfl
  | 9, _ => by kernel_rfl
  | 10, _ => by kernel_rfl
  | 11, _ => by kernel_rfl
  | 12, _ => by kernel_rfl
  | 13, _ => by kernel_rfl
  | 14, _ => by kernel_rfl
  | 15, _ => by kernel_rfl
  | k + 16, h => absurd h (by omega)
theorem zero_q (f : Nat) (hf : f < 16) : Try.zeroCells104[32 + f]? = some (.int .i64 0) :=
  match f, hf with
  | 0, _ => by kernel_rfl
  | 1, _ => by kernel_rfl
  | 2, _ => by kernel_rfl
  | 3, _ => by kernel_rfl
  | 4, _ => by kernel_rfl
  | 5, _ => by kernel_rfl
  | 6, _ => by kernel_rfl
  | 7, _ => by kernel_rfl
  | 8, _ => by kernel_rfl
  | 9, _ => by kernel_rfl
  | 10, _ => by kernel_rfl
  | 11, _ => by kernel_rfl
  | 12, _ => by kernel_rfl
  | 13, _ => by kernel_rfl
  | 14, _ => by kernel_rfl
  | 15, _ => by kernel_rfl
  | k + 16, h => absurd h (by omega)
theorem zero_c (f : Nat) (hf : f < 16) : Try.zeroCells104[49 + f]? = some (.int .i64 0) :=
  match f, hf with
  | 0, _ => by kernel_rfl
  | 1, _ => by kernel_rfl
  | 2, _ => by kernel_rfl
  | 3, _ => by kernel_rfl
  | 4, _ => by kernel_rfl
  | 5, _ => by kernel_rfl
  | 6, _ => by kernel_rfl
  | 7, _ => by kernel_rfl
  | 8, _ => by kernel_rfl
  | 9, _ => by kernel_rfl
  | 10, _ => by kernel_rfl
  | 11, _ => by kernel_rfl
  | 12, _ => by kernel_rfl
  | 13, _ => by kernel_rfl
  | 14, _ => by kernel_rfl
  | 15, _ => by kernel_rfl
  | k + 16, h => absurd h (by omega)
theorem zero_sz : Try.zeroCells104.size = 69 := by kernel_rfl
theorem Rds.start (w : World) (zs : List Int) (n : Nat) (room : Int) : Rds (w.alloc (.cells (Try.zeroCells104.setIfInBounds 48 (.int .i64 room)) 104)) w.heap.size w.heap.size (Try.zeroCells104.setIfInBounds 48 (.int .i64 room)) (fun _ => .slice none 0 0) (.slice none 0 0) (qTo zs n 0) room rs0 0 0 :=
  ⟨Blk.new _ _ _, by simp [zero_sz], fun f hf => (set_at (by omega)).trans (zero_l0 f hf), fun f hf => (set_at (by omega)).trans (zero_l1 f hf), fun f hf => OwnW.nil _ _ _ _, fun i j _ _ _ k hk => by simp [Value.ownBlock] at hk,
    fun f hf => (set_at (by omega)).trans (by rw [zero_q f hf]; simp [qTo]), set_is (by rw [zero_sz]; omega), fun f hf => (set_at (by omega)).trans (zero_c f hf), (set_at (by omega)).trans (by kernel_rfl), (set_at (by omega)).trans (by kernel_rfl), (set_at (by omega)).trans (by kernel_rfl), (set_at (by omega)).trans (by kernel_rfl), OwnW.nil _ _ _ _⟩
/-- what the making hands out -/
def NewRndOut (w : World) (room : Int) (n : Nat) (zs : List Int) (e : Ending) (w' : World) : Prop :=
  ∃ g cs, e = .returned (.tuple #[.pointer (some ⟨g, 0, none⟩), .nilIface]) ∧ w.heap.size ≤ g ∧ Below w.heap.size w w' ∧ Rds w' w.heap.size g cs (fun _ => .slice none 0 0) (.slice none 0 0) (qTo zs n 16) room rs0 0 0
set_option maxHeartbeats 2000000 in
set_option maxRecDepth 100000 in
theorem newRounds_yes (room : Int) (A : Option Addr) (n c : Nat) (zs : List Int) (w : World) (hr : RdI w w.heap.size A n zs) (hq : QsOk room n zs) :
    Calls Try.prog 24 #[.int .i64 room, .slice A n c] w (NewRndOut w room n zs) := by
  obtain ⟨⟨hn1, hn2⟩, ⟨hr0, hr1⟩, hqq⟩ := hq
  have hcon := qcontains_any A n c zs w hr (by omega)
  have c1' : decide ((n : Int) < 1) = false := by simp; omega
  have c2' : decide (16 < (n : Int)) = false := by simp; omega
  have hnb : ∀ bb : Bool, (bb = true ↔ ∃ i, i < n ∧ qBad (zs.getD i 0) = true) → bb = false := fun bb h => by
    cases bb with
    | false => rfl
    | true =>
      obtain ⟨i, hi, hb⟩ := h.1 rfl
      exact absurd (hqq i hi) (qBad_iff.1 hb)
  have HCON := Lib.hid hcon; have HR := Lib.hid hr; have HNB := Lib.hid hnb; have HQQ := Lib.hid hqq
  clear hcon hr hnb hqq
  go_enter Try.func24, Try.ntmps24
  go_wp2_with fail
  (with_reducible refine HCON.out.mono ?_)
  rintro e w' ⟨⟨bb, rfl, hbb⟩, rfl⟩
  have hb : bb = false := HNB.out bb hbb
  subst hb
  clear hbb
  go_upto_region 6 with fail
  have hst := Rds.start w zs n room
  have hb0 : Below w.heap.size w (w.alloc (.cells (Try.zeroCells104.setIfInBounds 48 (.int .i64 room)) 104)) := (Below.refl _ _).alloc (Nat.le_refl _) _
  have hre := HR.out.over hb0 (Nat.le_refl _)
  have HST := Lib.hid hst; have HB0 := Lib.hid hb0
  clear hst hb0 hre
  generalize w.alloc (.cells (Try.zeroCells104.setIfInBounds 48 (.int .i64 room)) 104) = w1 at *
  generalize Try.zeroCells104.setIfInBounds 48 (.int .i64 room) = cs0 at *
  go_wp2_with fail
  go_loopw [31] (fun i wr => ∃ (k : Nat) (cs : Array Value), k ≤ 16 ∧ i = .int .i64 k ∧ Rds wr w.heap.size w.heap.size cs (fun _ => .slice none 0 0) (.slice none 0 0) (qTo zs n k) room rs0 0 0 ∧ Below w.heap.size w wr) (fun i _ => 16 - (intOf i).toNat)
  case atStart => exact ⟨0, _, by omega, rfl, HST.out, HB0.out⟩
  case round =>
    obtain ⟨k, cs, hk, rfl, hrd, hbl⟩ := hrel
    by_cases hlt : k < 16
    · obtain ⟨b, off, rfl, hb⟩ := HR.out.addr (show 0 < n by omega)
      have hc := HR.out.all rfl (min k (n - 1)) (by omega)
      have hc2 := (hbl.cell (p := ⟨b, off + min k (n - 1), none⟩) hb).trans hc
      have x32 := hrd.blk.frozen (32 + k)
      have y32 := hrd.cell (hrd.q k hlt)
      have hfin := hrd.setQ hlt (zs.getD (min k (n - 1)) 0)
      rw [← qTo_next] at hfin
      have hbf := hbl.setCell (p := ⟨w.heap.size, 32 + k, none⟩) (Nat.le_refl _) (.int .i64 (zs.getD (min k (n - 1)) 0))
      have HFIN := Lib.hid hfin; have HBF := Lib.hid hbf
      have ik : (k : Int) < 16 := by omega
      obtain ⟨N, hN⟩ : ∃ N, n = N + 1 := ⟨n - 1, by omega⟩
      have hN1 : IntKind.i64.wrap ((n : Int) - 1) = (N : Int) := by rw [IntWalk.i64_in _ (by omega)]; omega
      clear hc hfin hbf hrd hbl
      obtain ⟨mk, hmk⟩ : ∃ mk, mk = min k (n - 1) := ⟨_, rfl⟩
      rw [← hmk] at hc2 HFIN HBF
      obtain ⟨y, hy⟩ : ∃ y, y = zs.getD mk 0 := ⟨_, rfl⟩
      rw [← hy] at hc2 HFIN HBF
      have HY := Lib.hid hy
      clear hy
      by_cases hm : k ≤ N
      · obtain rfl : mk = k := by omega
        have hm2 : (N < mk) = False := by simp; omega
        have hm3 : (mk : Int) < (n : Int) := by omega
        clear hmk hN
        go_upto_region 9 with fail
        go_still_tail 13, (by kernel_rfl)
        change wpList _ _ _ _ _ wr.drew
        go_wp2_with fail
        exact ⟨⟨mk + 1, _, by omega, by go_num, HFIN.out.drew, HBF.out.drew⟩, by simp [intOf]; omega⟩
      · obtain rfl : mk = N := by omega
        have hm2 : (mk < k) = True := by simp; omega
        have hm3 : (mk : Int) < (n : Int) := by omega
        clear hmk hN
        go_upto_region 9 with fail
        go_still_tail 13, (by kernel_rfl)
        change wpList _ _ _ _ _ wr.drew
        go_wp2_with fail
        exact ⟨⟨k + 1, _, by omega, by go_num, HFIN.out.drew, HBF.out.drew⟩, by simp [intOf]; omega⟩
    · obtain rfl : k = 16 := by omega
      have HRD := Lib.hid hrd; have HBL := Lib.hid hbl
      clear hrd hbl
      go_wp2_with fail
      go_ret2
      exact ⟨w.heap.size, cs, rfl, Nat.le_refl _, HBL.out, HRD.out⟩
end Go.Proofs.Ythhgbpbaihgogaa
