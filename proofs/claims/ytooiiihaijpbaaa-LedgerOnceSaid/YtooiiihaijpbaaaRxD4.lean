/- May a ledger be: the page's answer; what is asked of it; sums. -/
import Derived.Test.YtooiiihaijpbaaaRxD3
set_option linter.unusedVariables false
set_option linter.unusedSimpArgs false
namespace Go.Rx
theorem in_known (l : List Int) (x : Int) : decide (idxL (· == x) l 0 < 0) = !(l.contains x) := by
  have h := idx_any (p := fun y : Int => y == x) l 0
  have h2 : (l.any fun y => y == x) = l.contains x := by
    rw [List.contains_eq_any_beq]; congr 1; funext y; exact BEq.comm
  rw [← h2, ← h]
  by_cases hc : 0 ≤ idxL (fun y : Int => y == x) l 0
  · rw [decide_eq_true hc, decide_eq_false (by omega)]; rfl
  · rw [decide_eq_false hc, decide_eq_true (by omega)]; rfl
theorem in_known' (l : List Int) (x : Int) : decide (0 ≤ idxL (· == x) l 0) = l.contains x := by
  have h := in_known l x
  by_cases hc : 0 ≤ idxL (fun y : Int => y == x) l 0
  · rw [decide_eq_true hc]; rw [decide_eq_false (by omega)] at h
    cases hq : l.contains x with
    | true => rfl
    | false => rw [hq] at h; cases h
  · rw [decide_eq_false hc]; rw [decide_eq_true (by omega)] at h
    cases hq : l.contains x with
    | false => rfl
    | true => rw [hq] at h; cases h
abbrev entryV (e : Entry) : Blk := .var [.pv (pI e.key), .pv (pB e.back), .pv (pS e.op), .pv (pS e.who), .pv (pI e.n)]
end Go.Rx
namespace Go.Proofs.Ytooiiihaijpbaaa.Rx
open Go.Rx Go.Proofs Go.Proofs.Ytooiiihaijpbaaa.RxH

theorem ledger9_con (g : Ledger) (h : g.Ok) : Con P 19 [encLedger g] (Bl (ledgerB g)) [] := by
  have hm : (g.known.map fun n => [pI n]).length = g.known.length := List.length_map ..
  have hm2 : (g.entries.map Entry.enc).length = g.entries.length := List.length_map ..
  have hkl0 := h.kl
  have hel0 := h.el
  refine Con.of T_ok Try.func19 rfl (by kernel_rfl) (by kernel_rfl) (aw_of T_ok (by kernel_rfl) ?_)
  conv => whnf
  refine callS (between_con g.service 1 4) rfl ?_
  conv => whnf
  split <;> rename_i h1 <;> conv => whnf
  · have h1' : svB g.service = false := by
      cases hq : svB g.service with
      | false => rfl
      | true => rw [show (decide (1 ≤ g.service) && decide (g.service ≤ 4)) = true from hq] at h1; cases h1
    exact finB ⟨by rw [ledgerB, h1']; rfl⟩
  have h1' : svB g.service = true := by
    cases hq : svB g.service with
    | true => rfl
    | false => rw [show (decide (1 ≤ g.service) && decide (g.service ≤ 4)) = false from hq] at h1; cases h1
  split <;> rename_i h0 <;> conv => whnf
  · have h0' : ¬ g.entries.length ≤ 200 := by have := of_decide_eq_true h0; omega
    exact finB ⟨by rw [ledgerB, decide_eq_false h0', Bool.and_false, Bool.and_false, Bool.and_false, Bool.and_false]⟩
  have h0' : g.entries.length ≤ 200 := by have := of_decide_eq_false h0; omega
  split <;> rename_i h2 <;> conv => whnf
  · have h2' : ¬ g.known.length ≤ 400 := by have := of_decide_eq_true h2; omega
    exact finB ⟨by rw [ledgerB, decide_eq_false h2', Bool.false_and, Bool.and_false]⟩
  have h2' : g.known.length ≤ 400 := by have := of_decide_eq_false h2; omega
  refine AW.loop (fun k : Nat => k ≤ g.known.length ∧ ∀ j, j < k → knownAt g.known j = true) (fun k => [(1, .lf (.ptr 0 0)), (3, Go.Rx.I k)]) (fun _ => [ledgerV g]) (fun k => g.known.length - k) [] ?_ ?_
  · exact ⟨0, ⟨Nat.zero_le _, fun j hj => absurd hj (Nat.not_lt_zero _)⟩, ⟨rfl, rfl, trivial⟩, ⟨[], rfl⟩, rfl, rfl⟩
  rintro k ⟨hk, hpre⟩
  have fail : k < g.known.length → knownAt g.known k = false → Fin false (ledgerB g) := fun hkl hf => ⟨by rw [ledgerB, knownB, rng_no hkl hf, Bool.false_and, Bool.and_false, Bool.and_false]⟩
  refine aw_of T_ok (by kernel_rfl) ?_
  conv => whnf
  split <;> rename_i hlt <;> conv => whnf
  · have hkl : k < g.known.length := by have := of_decide_eq_true hlt; omega
    have hget : g.known.getD k 0 = g.known[k] := by simp [List.getD_eq_getElem?_getD, hkl]
    refine AW.draw T_ok rfl (seqPl 0 25) (by kernel_rfl) (by kernel_rfl) ?_
    conv => whnf
    refine ⟨by omega, [pI g.known[k]], by simp [hkl], ?_⟩
    conv => whnf
    refine callS (between_con g.known[k] 1 1073741824) rfl ?_
    conv => whnf
    split <;> rename_i h3 <;> conv => whnf
    · have h3' : keyB g.known[k] = false := by
        cases hq : keyB g.known[k] with
        | false => rfl
        | true => rw [show (decide (1 ≤ g.known[k]) && decide (g.known[k] ≤ 1073741824)) = true from hq] at h3; cases h3
      exact finB (fail hkl (by rw [knownAt, hget, h3']; rfl))
    have h3' : keyB g.known[k] = true := by
      cases hq : keyB g.known[k] with
      | true => rfl
      | false => rw [show (decide (1 ≤ g.known[k]) && decide (g.known[k] ≤ 1073741824)) = false from hq] at h3; cases h3
    have next : knownAt g.known k = true → ∀ j, j < k + 1 → knownAt g.known j = true := fun e j hj => by
      by_cases hjk : j = k
      · subst hjk; exact e
      · exact hpre j (by omega)
    split <;> rename_i h4 <;> conv => whnf
    · have h4' : 0 < k := by have := of_decide_eq_true h4; omega
      have hget1 : g.known.getD (k - 1) 0 = g.known[k - 1] := by simp [List.getD_eq_getElem?_getD, show k - 1 < g.known.length by omega]
      rw [show IntKind.i64.wrap ((k : Int) - 1) = ((k - 1 : Nat) : Int) by rw [wrapI (by omega)]; omega]
      refine ⟨by omega, [pI g.known[k - 1]], by rw [Int.toNat_natCast, List.getElem?_map, List.getElem?_eq_getElem (by omega)]; rfl, ?_⟩
      conv => whnf
      refine ⟨by omega, [pI g.known[k]], by simp [hkl], ?_⟩
      conv => whnf
      split <;> rename_i h5 <;> conv => whnf
      · have h5' : g.known[k] ≤ g.known[k - 1] := of_decide_eq_true h5
        exact finB (fail hkl (by rw [knownAt, hget, hget1, decide_eq_false (show ¬ k = 0 by omega), decide_eq_false (show ¬ g.known[k - 1] < g.known[k] by omega)]; simp))
      · have h5' : ¬ g.known[k] ≤ g.known[k - 1] := of_decide_eq_false h5
        exact ⟨k + 1, ⟨⟨by omega, next (by rw [knownAt, hget, hget1, h3', decide_eq_true (show g.known[k - 1] < g.known[k] by omega)]; simp)⟩, by omega⟩, ⟨rfl, congrArg Go.Rx.I (wrapI (by omega)), trivial⟩, ⟨_, rfl⟩, rfl, rfl⟩
    · have h4' : k = 0 := by have := of_decide_eq_false h4; omega
      exact ⟨k + 1, ⟨⟨by omega, next (by rw [knownAt, hget, h3', decide_eq_true h4']; rfl)⟩, by omega⟩, ⟨rfl, congrArg Go.Rx.I (wrapI (by omega)), trivial⟩, ⟨_, rfl⟩, rfl, rfl⟩
  have hkl : k = g.known.length := by have := of_decide_eq_false hlt; omega
  have hkb : knownB g.known = true := rng_yes fun j hj => hpre j (by omega)
  clear fail hpre
  refine AW.loop (fun i : Nat => i ≤ g.entries.length ∧ ∀ j, j < i → entryAt g j = true) (fun i => [(1, .lf (.ptr 0 0)), (4, Go.Rx.I i)]) (fun _ => [ledgerV g]) (fun i => g.entries.length - i) [] ?_ ?_
  · exact ⟨0, ⟨Nat.zero_le _, fun j hj => absurd hj (Nat.not_lt_zero _)⟩, ⟨rfl, rfl, trivial⟩, ⟨[], rfl⟩, rfl, rfl⟩
  rintro i ⟨hi, hpre⟩
  have fail : i < g.entries.length → entryAt g i = false → Fin false (ledgerB g) := fun hil hf => ⟨by rw [ledgerB, entriesB, rng_no hil hf, Bool.false_and, Bool.and_false, Bool.and_false, Bool.and_false]⟩
  have at' : ∀ hil : i < g.entries.length, entryAt g i = (keyB (g.entries[i]).key && (g.known.contains (g.entries[i]).key && (!((g.entries.take i).any fun y => y.key == (g.entries[i]).key) && deedB g.service (g.entries[i]).op (g.entries[i]).who (g.entries[i]).n))) := fun hil => by rw [entryAt, List.getElem?_eq_getElem hil]
  refine aw_of T_ok (by kernel_rfl) ?_
  conv => whnf
  split <;> rename_i hlt2 <;> conv => whnf
  rotate_left
  · have hil : i = g.entries.length := by have := of_decide_eq_false hlt2; omega
    refine finB ⟨?_⟩
    rw [ledgerB, h1', decide_eq_true h2', hkb, entriesB, rng_yes fun j hj => hpre j (by omega), decide_eq_true h0']; rfl
  have hil : i < g.entries.length := by have := of_decide_eq_true hlt2; omega
  have hwho := (h.each _ (List.getElem_mem hil)).who
  have hdel := at' hil
  refine ⟨by omega, (g.entries[i]).enc, by simp [hil], ?_⟩
  conv => whnf
  refine callS (call9_con g (g.entries[i]).key (g.entries[i]).op (g.entries[i]).who (g.entries[i]).n hwho) rfl ?_
  conv => whnf
  split <;> rename_i h3 <;> conv => whnf
  · have h3' : (keyB (g.entries[i]).key && deedB g.service (g.entries[i]).op (g.entries[i]).who (g.entries[i]).n) = false := by
      cases hq : (keyB (g.entries[i]).key && deedB g.service (g.entries[i]).op (g.entries[i]).who (g.entries[i]).n) with
      | false => rfl
      | true => rw [hq] at h3; cases h3
    refine finB (fail hil ?_)
    rw [hdel]
    rw [Bool.and_eq_false_iff] at h3'
    rcases h3' with h3' | h3'
    · rw [h3', Bool.false_and]
    · rw [h3', Bool.and_false, Bool.and_false, Bool.and_false]
  have h3' : (keyB (g.entries[i]).key && deedB g.service (g.entries[i]).op (g.entries[i]).who (g.entries[i]).n) = true := by
    cases hq : (keyB (g.entries[i]).key && deedB g.service (g.entries[i]).op (g.entries[i]).who (g.entries[i]).n) with
    | true => rfl
    | false => rw [hq] at h3; cases h3
  rw [Bool.and_eq_true] at h3'
  refine callS (in_con g.known (g.entries[i]).key h.kl) rfl ?_
  conv => whnf
  have hin := in_known g.known (g.entries[i]).key
  split <;> rename_i h4 <;> conv => whnf
  · have h4' : g.known.contains (g.entries[i]).key = false := by
      rw [show decide (idxL (fun x => x == (g.entries[i]).key) g.known 0 < 0) = true from h4] at hin
      simpa using hin.symm
    exact finB (fail hil (by rw [hdel, h4', Bool.false_and, Bool.and_false]))
  have h4' : g.known.contains (g.entries[i]).key = true := by
    rw [show decide (idxL (fun x => x == (g.entries[i]).key) g.known 0 < 0) = false from h4] at hin
    simpa using hin.symm
  refine AW.loop (fun k : Nat => k ≤ i ∧ ∀ j (hj : j < g.entries.length), j < k → ((g.entries[j]).key == (g.entries[i]).key) = false) (fun k => [(1, .lf (.ptr 0 0)), (4, Go.Rx.I i), (5, .lf (.ptr 1 0)), (6, Go.Rx.I k)]) (fun _ => [ledgerV g, entryV g.entries[i]]) (fun k => i - k) [] ?_ ?_
  · exact ⟨0, ⟨Nat.zero_le _, fun j _ hj => absurd hj (Nat.not_lt_zero _)⟩, ⟨rfl, rfl, rfl, rfl, trivial⟩, ⟨_, rfl⟩, rfl, rfl⟩
  rintro k2 ⟨hk2, hpre2⟩
  refine aw_of T_ok (by kernel_rfl) ?_
  conv => whnf
  split <;> rename_i hlt3 <;> conv => whnf
  · have hki : k2 < i := by have := of_decide_eq_true hlt3; omega
    have hkl2 : k2 < g.entries.length := by omega
    refine AW.draw T_ok rfl (seqPl 0 9) (by kernel_rfl) (by kernel_rfl) ?_
    conv => whnf
    refine ⟨by omega, (g.entries[k2]).enc, by simp [hkl2], ?_⟩
    conv => whnf
    split <;> rename_i h5 <;> conv => whnf
    · refine finB (fail hil ?_)
      have : ((g.entries.take i).any fun y => y.key == (g.entries[i]).key) = true := List.any_eq_true.2 ⟨g.entries[k2], by
        refine List.mem_of_getElem? (i := k2) ?_
        rw [List.getElem?_take_of_lt hki, List.getElem?_eq_getElem hkl2], h5⟩
      rw [hdel, this]; simp
    · refine ⟨k2 + 1, ⟨⟨by omega, fun j hj hjk => ?_⟩, by omega⟩, ⟨rfl, rfl, rfl, congrArg Go.Rx.I (wrapI (by omega)), trivial⟩, ⟨_, rfl⟩, rfl, rfl⟩
      by_cases e : j = k2
      · subst e; exact h5
      · exact hpre2 j hj (by omega)
  · have hki : k2 = i := by have := of_decide_eq_false hlt3; omega
    refine ⟨i + 1, ⟨⟨by omega, fun j hj => ?_⟩, by omega⟩, ⟨rfl, congrArg Go.Rx.I (wrapI (by omega)), trivial⟩, ⟨_, rfl⟩, rfl, rfl⟩
    by_cases e : j = i
    · subst e
      have : ((g.entries.take j).any fun y => y.key == (g.entries[j]).key) = false := List.any_eq_false.2 fun y hy => by
        obtain ⟨t, ht, rfl⟩ := List.getElem_of_mem hy
        rw [List.length_take] at ht
        rw [List.getElem_take]
        rw [hpre2 t (by omega) (by omega)]
        decide
      rw [hdel, h3'.1, h3'.2, h4', this]; rfl
    · exact hpre j (by omega)
end Go.Proofs.Ytooiiihaijpbaaa.Rx
