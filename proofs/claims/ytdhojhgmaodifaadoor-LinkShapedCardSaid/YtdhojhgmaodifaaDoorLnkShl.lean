/-
  Plain law of the wire behind a shaper, more: how many were lost; how long what is taken is.
-/
import Derived.Test.YtdhojhgmaodifaaDoorLnkLaw
namespace Go.Proofs.YtdhojhgmaodifaaDoor
open Bkt
set_option linter.unusedVariables false
namespace Pl
structure ShL2 (b : Bk) (l : List It) (T : Int) (S : Lk (Shp (List Hd))) : Prop where
  s : ShL b l T S
  lo : S.lost.length ≤ S.next
theorem takeS_lost (M : QM) (rb rt : Int) (S : Lk M.σ) : (takeS M rb rt S).lost = S.lost ++ (M.take S.now S.q).2.1.map Hd.num ∧ (takeS M rb rt S).next = S.next := by
  unfold takeS
  cases (M.take S.now S.q).1 <;> exact ⟨rfl, rfl⟩
theorem sh_put1 (b : Bk) (p : FP) (hd : p.head = false) (now : Int) (x : Hd) (s : Shp (List Hd)) : ((shM b (fifoM p)).put now x s).1.length ≤ 1 := by
  show (if b.r < x.it.len then ([x], s) else ((fputL p x s.q).1, ⟨(fputL p x s.q).2, s.st, s.next⟩)).1.length ≤ 1
  by_cases h : b.r < x.it.len
  · rw [if_pos h]; simp
  · rw [if_neg h]
    show (fputL p x s.q).1.length ≤ 1
    unfold fputL
    rw [if_pos hd]
    split <;> simp
theorem sh_take0 (b : Bk) (p : FP) (now : Int) (s : Shp (List Hd)) : ((shM b (fifoM p)).take now s).2.1 = [] := by
  show (shTake b now (look (fifoM p) now s)).2.1 = []
  unfold shTake
  cases (look (fifoM p) now s).next with
  | none => rfl
  | some x => dsimp only; split <;> rfl
theorem shl2_inv {b : Bk} {p : FP} (hk : BkOk b) (hd : p.head = false) (l : List It) (hf : ListFine l) (rb rt until_ : Int) :
    LnkInv (shM b (fifoM p)) l rb rt until_ (fun S => ShL2 b l S.now S) (fun S => ShL2 b l (S.now + 1) S) (fun S => ShL2 b l (S.now + 1) S) where
  put := fun S h hlt hat => ⟨(shl_inv (p := p) hk hd l hf rb rt until_).put S h.s hlt hat, by
    have h1 := sh_put1 b p hd S.now ⟨ix l S.next, S.next⟩ S.q
    have h2 := h.lo
    show (S.lost ++ ((shM b (fifoM p)).put S.now ⟨ix l S.next, S.next⟩ S.q).1.map Hd.num).length ≤ S.next + 1
    rw [List.length_append, List.length_map]
    omega⟩
  most := fun S h => ⟨(shl_inv (p := p) hk hd l hf rb rt until_).most S h.s, h.lo⟩
  take := fun S h hx hfr => by
    have e0 : (takeS (shM b (fifoM p)) rb rt S).now = S.now := by unfold takeS; cases ((shM b (fifoM p)).take S.now S.q).1 <;> rfl
    refine ⟨(shl_inv (p := p) hk hd l hf rb rt until_).take S h.s hx hfr, ?_⟩
    obtain ⟨e1, e2⟩ := takeS_lost (shM b (fifoM p)) rb rt S
    have e3 : ((shM b (fifoM p)).take S.now S.q).2.1 = [] := sh_take0 b p S.now S.q
    rw [e1, e2, e3]
    simpa using h.lo
  busy := fun S h hx hfr => ⟨(shl_inv (p := p) hk hd l hf rb rt until_).busy S h.s hx hfr, h.lo⟩
  jump := fun S t h hn h1 h2 => ⟨(shl_inv (p := p) hk hd l hf rb rt until_).jump S t h.s hn h1 h2, h.lo⟩
  stop := fun S h hn => ⟨(shl_inv (p := p) hk hd l hf rb rt until_).stop S h.s hn, h.lo⟩
theorem ShL2.bd {b : Bk} {l : List It} {T : Int} {S : Lk (Shp (List Hd))} (h : ShL2 b l T S) (hl : l.length ≤ 100) : S.lost.length ≤ 1000 ∧ S.sent.length ≤ 1000 := by
  obtain ⟨⟨⟨last, hi, hc⟩, hn, hs⟩, hlo⟩ := h
  have h1 := hi.ltn
  rw [lensL_len] at h1
  omega
theorem ShL2.len {b : Bk} {p : FP} {l : List It} {S : Lk (Shp (List Hd))} (h : ShL2 b l S.now S) : ∀ x, ((shM b (fifoM p)).take S.now S.q).1 = some x → 0 ≤ x.it.len ∧ x.it.len ≤ 10000 := by
  intro x hx
  obtain ⟨⟨⟨last, hi, hc⟩, hn, hs⟩, hlo⟩ := h
  have h1 := lookF_inv (p := p) (T := S.now) hi
  have e : (shM b (fifoM p)).take S.now S.q = shTake b S.now (look (fifoM p) S.now S.q) := rfl
  rw [e] at hx
  generalize look (fifoM p) S.now S.q = s1 at *
  cases hnx : s1.next with
  | none => unfold shTake at hx; rw [hnx] at hx; cases hx
  | some y =>
    have hw := h1.w y (by rw [hnx]; simp)
    unfold shTake at hx
    rw [hnx] at hx
    dsimp only at hx
    have hyx : y = x := by
      split at hx
      · exact Option.some.inj hx
      · cases hx
    subst hyx
    have := hw.len
    omega
theorem ShL2.start {b : Bk} (hk : BkOk b) (l : List It) : ShL2 b l 0 (Lk.start ⟨[], Bkt.start b, none⟩) := ⟨ShL.start hk l, by simp [Lk.start]⟩
end Pl
end Go.Proofs.YtdhojhgmaodifaaDoor
