/-
  The fact 'sketched'; how often a key is told.
-/
import Derived.Test.YtdddpdhjkeanmaaSkTop
namespace Go.Proofs.Ytdddpdhjkeanmaa
open Go.RowKit Go.Sort Go.Shelf
set_option linter.unusedVariables false
theorem rdPr_at {w : World} {B n : Nat} {b off : Nat} {l : List (Int × Int)} (h : RdR PrR w B (some ⟨b, off, none⟩) n l) {k : Nat} (hk : k < n) :
    w.cell? ⟨b, off + k * 2, none⟩ = some (.int .i64 (ixR PrR l k).1) ∧ w.cell? ⟨b, off + k * 2 + 1, none⟩ = some (.int .i64 (ixR PrR l k).2) :=
  ⟨h.all hk 0 _ rfl, h.all hk 1 _ rfl⟩
theorem drop_ix (P : List (Int × Int)) {k : Nat} (h : k < P.length) : P.drop k = ixR PrR P k :: P.drop (k + 1) := by
  rw [List.drop_eq_getElem_cons h]
  unfold ixR
  rw [List.getD, List.getElem?_eq_getElem h]; rfl
set_option maxHeartbeats 1000000 in
set_option maxRecDepth 100000 in
theorem many_any (A : Option Addr) (n c : Nat) (P : List (Int × Int)) (key : Int) (w : World) (hr : RdR PrR w w.heap.size A n P) (hn : n ≤ 1000000) :
    Calls Try.prog 9 #[.slice A n c, .int .i64 key] w fun e w' => e = .returned (.int .i64 (Pl.look P key)) ∧ w' = w := by
  have hl := hr.len
  have HR := Lib.hid hr; have HL := Lib.hid hl
  clear hr hl
  go_enter Try.func9, Try.ntmps9
  go_wp2_with fail
  go_loopw [5] (fun i wr => ∃ k : Nat, k ≤ n ∧ i = .int .i64 k ∧ Hid (Pl.look (P.drop k) key = Pl.look P key) ∧ wr = w) (fun i _ => n - (intOf i).toNat)
  case atStart => exact ⟨0, Nat.zero_le _, rfl, Lib.hid rfl, rfl⟩
  case round =>
    obtain ⟨k, hk, rfl, HK, rfl⟩ := hrel
    by_cases hlt : k < n
    · have ik : (k : Int) < (n : Int) := by omega
      obtain ⟨b, off, rfl, hb⟩ := HR.out.addr hlt
      obtain ⟨c0, c1⟩ := rdPr_at HR.out hlt
      have hd := drop_ix P (k := k) (by have := HL.out; omega)
      have hk2 := HK.out
      rw [hd] at hk2
      have HK2 := Lib.hid hk2
      clear hd hk2
      generalize ixR PrR P k = p at *
      obtain ⟨pk, pv⟩ := p
      dsimp only at c0 c1
      by_cases he : pk = key
      · have hv : Pl.look P key = pv := by
          rw [← HK2.out]
          show (if pk = key then pv else _) = pv
          rw [if_pos he]
        have de : (pk == key) = true := by simpa using he
        have HV := Lib.hid hv
        clear he HK HK2 hv
        go_wp2_with fail
        go_ret
        exact ⟨by rw [HV.out]; rfl, rfl⟩
      · have hv : Pl.look (P.drop (k + 1)) key = Pl.look P key := by
          rw [← HK2.out]
          show _ = if pk = key then pv else _
          rw [if_neg he]
        have de : (pk == key) = false := by simpa using he
        have HV := Lib.hid hv
        clear he HK HK2 hv
        go_wp2_with fail
        exact ⟨⟨k + 1, by omega, by go_num, HV, by first | rfl | trivial⟩, by simp [intOf]; omega⟩
    · obtain rfl : k = n := by omega
      have hv : Pl.look P key = 0 := by
        rw [← HK.out, List.drop_eq_nil_of_le (by have := HL.out; omega)]; rfl
      have HV := Lib.hid hv
      clear HK hv
      go_wp2_with fail
      go_ret
      exact ⟨by rw [HV.out]; rfl, rfl⟩
theorem fact_law {cf : Int → Int} {E P : List (Int × Int)} {d : Int} (h : Pl.MgInv 1 [4, 4, 5] cf E d) (hP : Pl.Ent P cf) (hl : P.length ≤ 1) : P = [(4, 1)] := by
  have h4 := h.lo 4; have h5 := h.lo 5
  have u4 := h.up 4
  have c4 : Pl.cnt [4, 4, 5] 4 = 2 := by decide
  have c5 : Pl.cnt [4, 4, 5] 5 = 1 := by decide
  have hs : Pl.sum2 E + ((1 : Nat) + 1 : Int) * d = 3 := h.s
  have hk := h.k
  rw [c4] at h4 u4
  rw [c5] at h5
  have hd := h.d0
  have hn : 0 ≤ Pl.sum2 E ∧ ∀ k v, (k, v) ∈ E → v ≤ Pl.sum2 E := by
    have hpos : ∀ p ∈ E, 0 ≤ p.2 := fun ⟨k, v⟩ hp => by
      obtain ⟨e1, e2⟩ := (h.e.is k v).1 hp
      have := h.nn k
      show 0 ≤ v
      omega
    clear hs hk h
    induction E with
    | nil => exact ⟨Int.le_refl _, fun k v e => by simp at e⟩
    | cons p r ih =>
      obtain ⟨i1, i2⟩ := ih (fun q hq => hpos q (List.mem_cons_of_mem _ hq))
      have h0 := hpos p (by simp)
      refine ⟨by show 0 ≤ p.2 + Pl.sum2 r; omega, fun k v e => ?_⟩
      show v ≤ p.2 + Pl.sum2 r
      rcases List.mem_cons.1 e with e | e
      · rw [← e] at h0 ⊢; show v ≤ v + Pl.sum2 r; omega
      · have := i2 k v e; omega
  have hc4 : cf 4 = 1 := by
    by_cases d0 : d = 0
    · exfalso
      have m4 := (h.e.is 4 (cf 4)).2 ⟨rfl, by omega⟩
      have m5 := (h.e.is 5 (cf 5)).2 ⟨rfl, by omega⟩
      match E, hk with
      | [], _ => simp at m4
      | [p], _ =>
        have e1 : (4, cf 4) = p := by simpa using m4
        have e2 : (5, cf 5) = p := by simpa using m5
        have := e1.trans e2.symm
        injection this with this _
        omega
    · have m4 := (h.e.is 4 (cf 4)).2 ⟨rfl, by omega⟩
      have := hn.2 4 (cf 4) m4
      omega
  have m4 := (hP.is 4 1).2 ⟨hc4, by decide⟩
  match P, hl with
  | [], _ => simp at m4
  | [p], _ => rw [show p = (4, 1) from (by simpa using m4 : (4, 1) = p).symm]
set_option maxHeartbeats 1000000 in
set_option maxRecDepth 100000 in
theorem sketched_yes (w : World) : Calls Try.prog 8 #[] w fun e w' => e = .returned (.bool true) ∧ Below w.heap.size w w' := by
  have hb0 : Below w.heap.size w (w.alloc (.cells #[.int .i64 4, .int .i64 4, .int .i64 5] 3)) := (Below.refl _ _).alloc (Nat.le_refl _) _
  have hk := Blk.new w 3 #[.int .i64 4, .int .i64 4, .int .i64 5]
  have hrd : RdI (w.alloc (.cells #[.int .i64 4, .int .i64 4, .int .i64 5] 3)) (w.alloc (.cells #[.int .i64 4, .int .i64 4, .int .i64 5] 3)).heap.size (some ⟨w.heap.size, 0, none⟩) 3 [4, 4, 5] := by
    refine ⟨rfl, fun _ => ⟨_, rfl, hk.lt, fun j u hu => ?_⟩⟩
    rw [Addr.add_lit, Nat.zero_add, hk.cell, ← hu]
    simp
  have htop : Calls Try.prog 6 #[.slice (some ⟨w.heap.size, 0, none⟩) 3 3, .int .i64 1] (w.alloc (.cells #[.int .i64 4, .int .i64 4, .int .i64 5] 3)) _ := top_any (some ⟨w.heap.size, 0, none⟩) 3 3 [4, 4, 5] 1 _ hrd (fun z hz => by simp at hz; rcases hz with rfl | rfl <;> decide) (by omega) (by omega)
  have HT := Lib.hid htop; have HB := Lib.hid hb0
  clear hb0 hk hrd htop
  go_enter Try.func8, Try.ntmps8
  go_wp2_with (go_at_call 6; (with_reducible refine HT.out.mono ?_); rintro e w1 ⟨P, cf, E, d, h1, h2, h3, A', cap, rfl, h4, h5⟩; have hp := fact_law h3 h2 h1; subst hp; obtain ⟨b, off, rfl, hbB⟩ := RdR.addr h4 (k := 0) (by decide); obtain ⟨c0, c1⟩ := rdPr_at h4 (k := 0) (by decide); have e0 : ixR PrR [((4 : Int), (1 : Int))] 0 = (4, 1) := rfl; rw [e0] at c0 c1; dsimp only at c0 c1; simp only [Nat.zero_mul, Nat.add_zero] at c0 c1; have H2 := Lib.hid h5; clear h1 h2 h3 h4 h5 e0)
  go_ret
  exact ⟨rfl, HB.out.trans (H2.out.mono HB.out.size)⟩
end Go.Proofs.Ytdddpdhjkeanmaa
