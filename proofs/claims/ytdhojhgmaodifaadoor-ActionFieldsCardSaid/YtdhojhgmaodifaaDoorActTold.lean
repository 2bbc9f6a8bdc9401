/-
  The closure told of ActionFields: is what changed what an action tells?
-/
import Derived.Test.YtdhojhgmaodifaaDoorAct
namespace Go.Proofs.YtdhojhgmaodifaaDoor
open Go.RowKit Bkt
set_option linter.unusedVariables false

set_option maxHeartbeats 2000000 in
set_option maxRecDepth 100000 in
theorem told_yes (A : Option Addr) (n c : Nat) (l : List Actn.Ac) (p : Nat) (kind was now : Int) (w : World) (hr : RdR AcR w w.heap.size A n l) (hp : w.cell? ⟨p, 0, none⟩ = some (.slice A n c)) (hn : n ≤ 60) (ht : Actn.Tld l kind was now) :
    Calls Tryd.prog 32 #[.int .i64 kind, .int .i64 was, .int .i64 now, .pointer (some ⟨p, 0, none⟩)] w fun e w' => e = .returned (.bool true) ∧ w = w' := by
  have hl := hr.len
  by_cases he : was = now
  · subst he
    go_enter Tryd.func32, Tryd.ntmps32
    go_wp2_with fail
    go_ret
    exact ⟨rfl, rfl⟩
  · obtain ⟨i, hi, hi2, hi3⟩ : ∃ i, i < n ∧ (Actn.ax l i).kind = kind ∧ (Actn.ax l i).a = now := by
      rcases ht with ht | ⟨i, h1, h2, h3⟩
      · exact absurd ht he
      · exact ⟨i, by omega, h2, h3⟩
    have he' : (was == now) = false := by simpa using he
    have HR := Lib.hid hr
    have HI2 := Lib.hid hi2; have HI3 := Lib.hid hi3
    clear he ht hr hi2 hi3
    go_enter Tryd.func32, Tryd.ntmps32
    go_wp2_with fail
    go_loopw [8] (fun v wr => ∃ k : Nat, k ≤ i ∧ v = .int .i64 k ∧ wr = w) (fun v _ => n - (intOf v).toNat)
    case atStart => exact ⟨0, Nat.zero_le _, rfl, rfl⟩
    case round =>
      obtain ⟨k, hk, rfl, rfl⟩ := hrel
      have hlt : k < n := by omega
      have ik : (k : Int) < (n : Int) := by omega
      obtain ⟨b, off, rfl, hbB⟩ := HR.out.addr hlt
      obtain ⟨c0, c1, _⟩ := rdAc_at HR.out hlt
      by_cases e : k = i
      · subst e
        rw [HI2.out] at c0
        rw [HI3.out] at c1
        go_wp2_with fail
        go_ret
        exact ⟨rfl, rfl⟩
      · generalize (Actn.ax l k).kind = qk at *
        generalize (Actn.ax l k).a = qa at *
        by_cases e1 : qk = kind
        · have t1 : (qk == kind) = true := by simpa using e1
          by_cases e2 : qa = now
          · have t2 : (qa == now) = true := by simpa using e2
            go_wp2_with fail
            go_ret
            exact ⟨rfl, rfl⟩
          · have t2 : (qa == now) = false := by simpa using e2
            go_wp2_with fail
            exact ⟨⟨k + 1, by omega, by go_num, by first | rfl | trivial⟩, by simp [intOf]; omega⟩
        · have t1 : (qk == kind) = false := by simpa using e1
          go_wp2_with fail
          exact ⟨⟨k + 1, by omega, by go_num, by first | rfl | trivial⟩, by simp [intOf]; omega⟩
end Go.Proofs.YtdhojhgmaodifaaDoor
