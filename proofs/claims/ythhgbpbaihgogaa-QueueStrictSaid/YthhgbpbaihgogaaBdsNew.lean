/-
  Bands: their making.
-/
import Derived.Test.YthhgbpbaihgogaaBdsWhen
namespace Go.Proofs.Ythhgbpbaihgogaa
open Go.RowKit Bkt
set_option linter.unusedVariables false

theorem Try.queueInfo : (Try.prog.info? 82).map (fun i => (i.zero, i.size, i.bytes)) = some (some .nilIface, 1, 16) := by kernel_rfl
/-- a row of queues, by their blocks -/
def fqL (gs : List Nat) : List Value := gs.map fqV
def RdQ (w : World) (B : Nat) (A : Option Addr) (n : Nat) (gs : List Nat) : Prop := Reads w B 1 A n (fqL gs)
theorem RdQ.len {w : World} {B n : Nat} {A : Option Addr} {gs : List Nat} (h : RdQ w B A n gs) : gs.length = n := by simpa [fqL] using h.1
theorem RdQ.at_ {w : World} {B n : Nat} {A : Option Addr} {gs : List Nat} (h : RdQ w B A n gs) {k : Nat} (hk : k < n) : ∃ b off, A = some ⟨b, off, none⟩ ∧ b < B ∧ w.cell? ⟨b, off + k, none⟩ = some (fqV (gs.getD k 0)) := by
  obtain ⟨ad0, u0, hA0, _, _, hc0⟩ := Reads.at_ h (show 0 < n by omega)
  obtain ⟨ad, u, rfl, hb, hx, hc⟩ := Reads.at_ h hk
  injection hA0 with hA0
  subst hA0
  obtain ⟨b, off, spot⟩ := ad
  have hs' : spot = none := by simpa [Addr.add] using World.cell?_spot hc0
  subst hs'
  refine ⟨b, off, rfl, hb, ?_⟩
  have hl := h.len
  have e : gs[k]? = some (gs.getD k 0) := by simp [List.getD, List.getElem?_eq_getElem (show k < gs.length by omega)]
  unfold fqL at hx
  rw [List.getElem?_map, e] at hx
  have hu : u = fqV (gs.getD k 0) := by simpa using hx.symm
  rw [← hu, ← hc]
  unfold Addr.add
  split
  · subst_vars; rfl
  · rfl
theorem qnil_any (g : Nat) (w : World) : Calls Try.prog 39 #[.iface 23 (.pointer (some ⟨g, 0, none⟩))] w fun e w' => e = .returned (.bool false) ∧ w = w' := by
  go_enter Try.func39, Try.ntmps39
  go_wp2_with fail
  go_ret
  exact ⟨rfl, rfl⟩
set_option maxHeartbeats 1000000 in
theorem bindex_any (A : Option Addr) (n c : Nat) (gs : List Nat) (w : World) (hr : RdQ w w.heap.size A n gs) (hn : n ≤ 1000) :
    Calls Try.prog 46 #[.slice A n c, .func (.func 39) #[] #[]] w fun e w' => e = .returned (.int .i64 (-1)) ∧ w = w' := by
  have HR := Lib.hid hr
  clear hr
  go_enter Try.func46, Try.ntmps46
  go_wp2_with fail
  go_loopw [8] (fun i wr => ∃ k : Nat, k ≤ n ∧ i = .int .i64 k ∧ wr = w) (fun i _ => n - (intOf i).toNat)
  case atStart => exact ⟨0, Nat.zero_le _, rfl, rfl⟩
  case round =>
    obtain ⟨k, hk, rfl, rfl⟩ := hrel
    by_cases hlt : k < n
    · obtain ⟨b, off, rfl, hbl, hc⟩ := HR.out.at_ hlt
      have HP := Lib.hid (qnil_any (gs.getD k 0) wr)
      have ik : (k : Int) < (n : Int) := by omega
      unfold fqV at hc
      generalize gs.getD k 0 = y at *
      go_wp2_with (go_at_call 39; (with_reducible refine HP.out.mono ?_); rintro e w' ⟨rfl, rfl⟩)
      exact ⟨⟨k + 1, by omega, by go_num, by first | rfl | trivial⟩, by simp [intOf]; omega⟩
    · obtain rfl : k = n := by omega
      go_wp2_with fail
      go_ret
      exact ⟨rfl, rfl⟩
theorem bcontains_any (A : Option Addr) (n c : Nat) (gs : List Nat) (w : World) (hr : RdQ w w.heap.size A n gs) (hn : n ≤ 1000) :
    Calls Try.prog 38 #[.slice A n c, .func (.func 39) #[] #[]] w fun e w' => e = .returned (.bool false) ∧ w = w' := by
  have h := bindex_any A n c gs w hr hn
  have H := Lib.hid h
  clear h hr
  go_enter Try.func38, Try.ntmps38
  go_wp2_with fail
  (with_reducible refine H.out.mono ?_)
  rintro e w' ⟨rfl, rfl⟩
  go_wp2_with fail
  go_ret
  exact ⟨rfl, rfl⟩
theorem own_empty (w : World) (e : TypeId) : (w.alloc (.cells #[] e)).ownsRow w.heap.size e 1 (.slice (some ⟨w.heap.size, 0, none⟩) 0 0) 0 [] :=
  ⟨rfl, .inr ⟨w.heap.size, 0, #[], rfl, Nat.le_refl _, heap_alloc_new w _, Nat.le_refl _, by decide, rfl, rfl⟩⟩
/-- what a clone is -/
def CloneOut (w : World) (n : Nat) (gs : List Nat) (e : Ending) (w' : World) : Prop :=
  ∃ v, e = .returned v ∧ Hid (w'.ownsRow w.heap.size 82 1 v n (fqL gs) ∧ Below w.heap.size w w')
set_option maxHeartbeats 1000000 in
set_option maxRecDepth 100000 in
theorem bclone_any (b off : Nat) (n c : Nat) (gs : List Nat) (w : World) (hr : RdQ w w.heap.size (some ⟨b, off, none⟩) n gs) (hn : n ≤ 1000) :
    Calls Try.prog 40 #[.slice (some ⟨b, off, none⟩) n c] w (CloneOut w n gs) := by
  obtain ⟨i0, hi, hz0, hz1, hz2⟩ := info_parts Try.queueInfo
  have hown := own_empty w 82
  have hr2 : RdQ (w.alloc (.cells #[] 82)) w.heap.size (some ⟨b, off, none⟩) n gs := Reads.below hr ((Below.refl _ _).alloc (Nat.le_refl _) _)
  have h1c : ∀ u ∈ fqL gs, u.oneCell' = true := fun u hu => by
    obtain ⟨g, _, rfl⟩ := List.mem_map.1 hu
    rfl
  have hcmp : ∀ w, Sem.run Try.prog (binOp BinOp.eql 65 (.slice (some ⟨b, off, none⟩) n c) (.slice none 0 0)) w = .ok (.bool false) w := fun w => by kernel_rfl
  have HOWN := Lib.hid hown; have HR2 := Lib.hid hr2; have H1C := Lib.hid h1c
  clear hown hr2 h1c hr
  go_enter Try.func40, Try.ntmps40
  go_wp2_with (at_builtin; refine wpList_append_any _ rfl (.tmp 5) (.tmp 6) 65 rfl w.heap.size 82 i0 .nilIface 1 16 Try.underlying65 hi hz0 hz1 hz2 rfl (by decide) _ 0 [] rfl HOWN.out w.heap.size (some ⟨b, off, none⟩) n c (fqL gs) rfl HR2.out H1C.out (by simp only [maxLen]; omega) (by omega) (by simp) ?_; intro v' w' g1 g2 g3; have G1 := Lib.hid g1; have G2 := Lib.hid g2; clear g1 g2 g3)
  go_ret
  refine ⟨v', rfl, Lib.hid ⟨?_, ?_⟩⟩
  · have := G1.out
    rw [Nat.zero_add, List.nil_append] at this
    exact this
  · have hb0 : Below w.heap.size w (w.alloc (.cells #[] 82)) := (Below.refl _ _).alloc (Nat.le_refl _) _
    exact hb0.grown G2.out (by simp) (fun k hk => by injection hk with hk; subst hk; exact Nat.le_refl _)
/-- what the making hands out -/
def NewBdsOut (w : World) (n : Nat) (gs : List Nat) (e : Ending) (w' : World) : Prop :=
  ∃ gb, e = .returned (.tuple #[.pointer (some ⟨gb, 0, none⟩), .nilIface]) ∧ Hid (∃ gi c ls, w.heap.size ≤ gi ∧ w.heap.size ≤ gb ∧ gb ≠ gi ∧ Blk w' gb 98 #[.slice (some ⟨gi, 0, none⟩) n c] ∧ Blk w' gi 82 ls ∧ (∀ i, i < n → ls[i]? = some (fqV (gs.getD i 0))) ∧ Below w.heap.size w w')
set_option maxHeartbeats 1000000 in
theorem newBands_yes (A : Option Addr) (n c : Nat) (gs : List Nat) (w : World) (hr : RdQ w w.heap.size A n gs) (h1 : 1 ≤ n) (h8 : n ≤ 8) :
    Calls Try.prog 23 #[.slice A n c] w (NewBdsOut w n gs) := by
  obtain ⟨b, off, rfl, _, _⟩ := hr.at_ (show 0 < n by omega)
  have hct := bcontains_any _ n c gs w hr (by omega)
  have hcl := bclone_any b off n c gs w hr (by omega)
  have hl := hr.len
  have HCT := Lib.hid hct; have HCL := Lib.hid hcl; have HL := Lib.hid hl
  clear hct hcl hr hl
  go_enter Try.func23, Try.ntmps23
  go_wp2_with fail
  (with_reducible refine HCT.out.mono ?_)
  rintro e w1 ⟨rfl, rfl⟩
  go_wp2_with fail
  (with_reducible refine HCL.out.mono ?_)
  rintro e w2 ⟨v, rfl, h2⟩
  obtain ⟨hown, hb⟩ := h2.out
  obtain ⟨hlen, h3⟩ := hown
  rcases h3 with ⟨_, h0⟩ | ⟨gi, cap, cur, rfl, hgi, hblk, hcap, _, hcs, htk⟩
  · omega
  have hgl : gi < w2.heap.size := by
    have := hblk
    exact Array.getElem?_eq_some_iff.1 this |>.1
  have hls : ∀ i, i < n → cur[i]? = some (fqV (gs.getD i 0)) := fun i hi => by
    have e1 : (cur.toList.take (n * 1))[i]? = (fqL gs)[i]? := by rw [htk]
    rw [List.getElem?_take, if_pos (by omega)] at e1
    have e2 : gs[i]? = some (gs.getD i 0) := by simp [List.getD, List.getElem?_eq_getElem (show i < gs.length by have := HL.out; omega)]
    unfold fqL at e1
    rw [List.getElem?_map, e2] at e1
    simpa using e1
  have hsz := hb.size
  have hfin : ∃ gi' c' ls, w.heap.size ≤ gi' ∧ w.heap.size ≤ w2.heap.size ∧ w2.heap.size ≠ gi' ∧ Blk (w2.alloc (.cells #[.slice (some ⟨gi, 0, none⟩) n cap] 98)) w2.heap.size 98 #[.slice (some ⟨gi', 0, none⟩) n c'] ∧ Blk (w2.alloc (.cells #[.slice (some ⟨gi, 0, none⟩) n cap] 98)) gi' 82 ls ∧ (∀ i, i < n → ls[i]? = some (fqV (gs.getD i 0))) ∧ Below w.heap.size w (w2.alloc (.cells #[.slice (some ⟨gi, 0, none⟩) n cap] 98)) :=
    ⟨gi, cap, cur, hgi, hsz, by omega, Blk.new _ _ _, (show Blk w2 gi 82 cur from hblk).alloc _, hls, hb.alloc hsz _⟩
  have HFIN := Lib.hid hfin
  clear hfin hls hblk hlen htk hcs hb h2
  go_wp2_with fail
  go_ret2
  exact ⟨w2.heap.size, rfl, Lib.hid HFIN.out⟩
end Go.Proofs.Ythhgbpbaihgogaa
