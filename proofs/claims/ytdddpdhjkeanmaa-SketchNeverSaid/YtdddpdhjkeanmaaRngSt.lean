/-
  A map that is ranged over, written at a key that it has: the range goes on as it was.
-/
import Derived.Maps.RangeWalk
import Derived.Maps.OwnSet
import Derived.Maps.OwnOps
namespace Go.Proofs.Ytdddpdhjkeanmaa
open Go Go.ChangeMaps Go.MapKept Go.WideShapes
open Go.WideElems (Fit rd rg pl rd_key rd_val rg_of other_key)
open Go.Maps (Keyed)
set_option linter.unusedVariables false
section
variable {H : Type} {P : Program} {k : TypeId} {R : Value → Option (DataW H × List MemPlace)} {w : World} {b r n : Nat} {D : DataW H} {left : Lit → Bool} {cnt : Nat}
theorem map_born_set (l : List MapEntry) (j : Nat) (e0 : MapEntry) (key val : Value) (h : l[j]? = some e0) : (l.set j { e0 with key := key, val := val }).map MapEntry.born = l.map MapEntry.born := by
  rw [List.map_set]
  apply List.ext_getElem?
  intro i
  rw [List.getElem?_set]
  by_cases hi : j = i
  · subst hi
    have hl : j < l.length := (List.getElem?_eq_some_iff.1 h).1
    have e := (List.getElem?_eq_some_iff.1 h).2
    simp [hl, e]
  · rw [if_neg hi]
theorem left_born (a a' : Array MapEntry) (seen : Array Nat) (h : a'.toList.map MapEntry.born = a.toList.map MapEntry.born) : (leftOf a' seen).size = (leftOf a seen).size := by
  have e1 : ∀ a : Array MapEntry, (leftOf a seen).size = ((a.toList.map MapEntry.born).filter fun i => !seen.contains i).length := fun a => by
    unfold leftOf
    rw [← Array.length_toList, Array.toList_filter, List.filter_map, List.length_map]
    rfl
  rw [e1, e1, h]
theorem ranges_store {t e : TypeId} (h : w.ranges P k R b r n D left cnt) (K : Keyed P k) (ht : P.underlying t = some (.map k e)) {key val : Value} {kl : Lit} {d : DataW H} {ps : List MemPlace}
    (hkey : keyOf P k key = some kl) (hv : R val = some (d, ps)) (hn : n < maxLen) (hhas : Maps.has D kl = true) :
    ∃ w', (Instr.mapUpdate t (.map (some b)) key val).run P w = .ok () w' ∧ w'.ranges P k R b r n (D.put kl d) left cnt ∧ w.mapTurned w' b ∧ w'.heap.size = w.heap.size := by
  have hne := h.ne
  obtain ⟨es, clock, since, seen, c0, hb, F, hs, rfl, hr, hold, rfl, hl1, hl2, hsc, hsk⟩ := h
  have hlt : b < w.heap.size := (Array.getElem?_eq_some_iff.1 hb).1
  rcases K.find w hkey es.toList F.keys with ⟨h1, h2⟩ | ⟨j, e0, h1, h2, h3⟩
  · -- the key is there
    exfalso
    obtain ⟨p, hp, hpk⟩ := List.any_eq_true.1 hhas
    obtain ⟨x, hx, rfl⟩ := List.mem_map.1 (mem_sorted.1 hp)
    obtain ⟨y, hy⟩ := F.reads x hx
    have e1 := WideAt.sameKey_eq hpk
    rw [rg_of hy] at e1
    exact h2 x hx (K.inj (e1 ▸ rd_key hy) hkey)
  · have hj : es[j]? = some e0 := by simpa using h2
    have hrun : (Instr.mapUpdate t (.map (some b)) key val).run P w = .ok () (setBlock w b (.map (es.modify j (fun e' => { e' with key := key, val := val })) clock)) := by
      simp [Instr.mapUpdate, run_underlying ht, MapKept.run_getObj_map hb, K.check w false hkey, h1, hj, h3, K.stays w hkey, MapKept.run_setObj_map _ hb, Result.andThen, setBlock]
    obtain ⟨es', clock', hrun', F', hput, _⟩ := Maps.fit_store (R' := R) K ht hb F (Nat.lt_of_le_of_lt hs hn) (fun _ _ _ _ hz => hz) hkey hv
    rw [hrun'] at hrun
    have hw := Result.ok.inj hrun
    have hbb : (setBlock w b (.map es' clock')).heap[b]? = (setBlock w b (.map (es.modify j (fun e' => { e' with key := key, val := val })) clock)).heap[b]? := by rw [hw.2]
    rw [heap_setBlock_same hb, heap_setBlock_same hb] at hbb
    injection hbb with hbb
    injection hbb with hes hcl
    subst hcl
    have hlist : es'.toList = es.toList.set j { e0 with key := key, val := val } := by rw [hes, Array.toList_modify, modify_eq_set _ _ _ _ h2]
    have hborn : es'.toList.map MapEntry.born = es.toList.map MapEntry.born := by rw [hlist]; exact map_born_set _ _ _ _ _ h2
    have hjl : j < es.toList.length := (List.getElem?_eq_some_iff.1 h2).1
    have hsz : es'.size = es.size := by have := congrArg List.length hborn; simpa using this
    -- each entry has its fellow
    have fwd : ∀ x' ∈ es'.toList, ∃ x ∈ es.toList, x.born = x'.born ∧ x.key = x'.key := by
      intro x' hx'
      rw [hlist] at hx'
      obtain ⟨i, hi, ex⟩ := List.getElem_of_mem hx'
      rw [List.getElem_set] at ex
      split at ex
      · refine ⟨e0, List.mem_of_getElem? h2, ?_⟩
        rw [← ex]; exact ⟨rfl, h3⟩
      · have hi' : i < es.toList.length := by simpa using hi
        exact ⟨x', ex ▸ List.getElem_mem hi', rfl, rfl⟩
    have bwd : ∀ x ∈ es.toList, ∃ x' ∈ es'.toList, x.key = x'.key := by
      intro x hx
      obtain ⟨i, hi, ex⟩ := List.getElem_of_mem hx
      by_cases hij : j = i
      · subst hij
        refine ⟨{ e0 with key := key, val := val }, ?_, ?_⟩
        · rw [hlist]
          exact List.mem_iff_getElem.2 ⟨j, by simpa using hjl, by simp⟩
        · have : x = e0 := by rw [← ex]; exact (List.getElem?_eq_some_iff.1 h2).2
          rw [this]; exact h3
      · refine ⟨x, ?_, rfl⟩
        rw [hlist]
        refine List.mem_iff_getElem.2 ⟨i, by simpa using hi, ?_⟩
        rw [List.getElem_set, if_neg hij]; exact ex
    have rgk : ∀ x ∈ es.toList, ∀ x' ∈ es'.toList, x.key = x'.key → (rg P k R x').1 = (rg P k R x).1 := by
      intro x hx x' hx' e1
      obtain ⟨y, hy⟩ := F.reads x hx
      obtain ⟨y', hy'⟩ := F'.reads x' hx'
      have m1 := rd_key hy
      have m2 := rd_key hy'
      rw [e1, m2] at m1
      rw [rg_of hy, rg_of hy']
      exact Option.some.inj m1
    refine ⟨_, hrun', ⟨es', clock', since, seen, c0, heap_setBlock_same hb _, F', by omega, by rw [DataW.put_eq, hput], (heap_setBlock_other hb _ hne).trans hr, fun x' hx' => ?_, left_born _ _ _ hborn, fun x' hx' => ?_, fun kl' hk' => ?_, hsc, hsk⟩, ⟨es, clock', es', clock', hb, rfl⟩, by simp [setBlock]⟩
    · obtain ⟨x, hx, e1, _⟩ := fwd x' hx'
      rw [← e1]; exact hold x hx
    · obtain ⟨x, hx, e1, e2⟩ := fwd x' hx'
      rw [rgk x hx x' hx' e2, hl1 x hx, e1]
    · obtain ⟨x, hx, rfl⟩ := hl2 kl' hk'
      obtain ⟨x', hx', e2⟩ := bwd x hx
      exact ⟨x', hx', rgk x hx x' hx' e2⟩
/-- at the operation: 'm[k] = v' in a round, k a key that the map has -/
theorem wpList_mapUpdate_ranges {ops : Array Oper} {rest : List Oper} {o : Oper} {a : Act} {Q : Exit → Act → World → Prop} (hg : o.guard = none) (m x v : Operand) (t : TypeId) (hop : o.op = Op.mapUpdate t m x v)
    (e : TypeId) (K : Keyed P k) (ht : P.underlying t = some (.map k e)) (hm : a.eval m = .map (some b)) (h : w.ranges P k R b r n D left cnt) (hn : n < maxLen) (key val : Value) (kl : Lit) (hx : a.eval x = key) (hv : a.eval v = val) (hkey : keyOf P k key = some kl)
    (d : DataW H) (ps : List MemPlace) (hval : R val = some (d, ps)) (hhas : Maps.has D kl = true)
    (hK : ∀ w', w'.ranges P k R b r n (D.put kl d) left cnt → w.mapTurned w' b → w'.heap.size = w.heap.size → wpList P ops Q rest (a.put o.dst undef) w') :
    wpList P ops Q (o :: rest) a w := by
  refine wpList_plain hg fun K' hK' => ?_
  obtain ⟨w', hrun, r1, r2, r3⟩ := ranges_store h K ht hkey hval hn hhas
  unfold Oper.wp
  simp [execOp, hop, hm, hx, hv, hrun, Result.andThen]
  exact hK' _ _ (hK w' r1 r2 r3)
end
end Go.Proofs.Ytdddpdhjkeanmaa
