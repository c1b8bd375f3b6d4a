/- May a ledger be? The program's answer, and the page's. -/
import Derived.Test.YtooiiihaijpbaaaRxI
import Derived.Test.YtooiiihaijpbaaaRxD2
set_option linter.unusedVariables false
set_option linter.unusedSimpArgs false
namespace Go.Rx
def svB (n : Int) : Bool := decide (1 ≤ n) && decide (n ≤ 4)
def knownAt (l : List Int) (i : Nat) : Bool := keyB (l.getD i 0) && (decide (i = 0) || decide (l.getD (i - 1) 0 < l.getD i 0))
def knownB (l : List Int) : Bool := (List.range l.length).all (knownAt l)
def entryAt (g : Ledger) (i : Nat) : Bool :=
  match g.entries[i]? with
  | none => true
  | some x => keyB x.key && (g.known.contains x.key && (!((g.entries.take i).any fun y => y.key == x.key) && deedB g.service x.op x.who x.n))
def entriesB (g : Ledger) : Bool := (List.range g.entries.length).all (entryAt g)
def ledgerB (g : Ledger) : Bool := svB g.service && (decide (g.known.length ≤ 400) && (knownB g.known && (entriesB g && decide (g.entries.length ≤ 200))))
theorem rng_yes {n : Nat} {p : Nat → Bool} (h : ∀ j, j < n → p j = true) : (List.range n).all p = true := List.all_eq_true.2 fun j hj => h j (List.mem_range.1 hj)
theorem rng_no {n k : Nat} {p : Nat → Bool} (hk : k < n) (h : p k = false) : (List.range n).all p = false := List.all_eq_false.2 ⟨k, List.mem_range.2 hk, by rw [h]; decide⟩
theorem rng_at {n k : Nat} {p : Nat → Bool} (h : (List.range n).all p = true) (hk : k < n) : p k = true := List.all_eq_true.1 h k (List.mem_range.2 hk)
theorem known_key {l : List Int} (h : knownB l = true) {i : Nat} (hi : i < l.length) : keyB l[i] = true := by
  have := rng_at h hi
  rw [knownAt, Bool.and_eq_true, List.getD_eq_getElem?_getD, List.getElem?_eq_getElem hi] at this
  exact this.1
theorem known_step {l : List Int} (h : knownB l = true) {i : Nat} (hi : i + 1 < l.length) : l[i] < l[i + 1] := by
  have := rng_at h hi
  rw [knownAt, Bool.and_eq_true] at this
  have h2 := this.2
  simp [List.getD_eq_getElem?_getD, hi, show i < l.length by omega] at h2
  exact h2
theorem known_sorted {l : List Int} (h : knownB l = true) : l.Pairwise (· < ·) := by
  refine List.pairwise_iff_getElem.2 fun i j hi hj hij => ?_
  have : ∀ d i (hd : i + d + 1 < l.length), l[i] < l[i + d + 1] := fun d => by
    induction d with
    | zero => intro i hd; exact known_step h hd
    | succ d ih =>
      intro i hd
      have h1 := ih i (by omega)
      have h2 := known_step h (i := i + d + 1) (by omega)
      exact Int.lt_trans h1 h2
  have h3 := this (j - i - 1) i (by omega)
  have e : i + (j - i - 1) + 1 = j := by omega
  simp only [e] at h3
  exact h3
theorem ledger_parts {g : Ledger} (h : ledgerB g = true) : (1 ≤ g.service ∧ g.service ≤ 4) ∧ g.known.length ≤ 400 ∧ knownB g.known = true ∧ entriesB g = true ∧ g.entries.length ≤ 200 := by
  simpa [ledgerB, svB, and_assoc] using h
theorem take_rows {α : Type} {e : α → List PV} {l : List α} {k : Nat} : ((l.map e).take (k : Int).toNat).drop (0 : Int).toNat = (l.take k).map e := by
  simp
theorem drop_rows {α : Type} {e : α → List PV} {l : List α} {k : Nat} : ((l.map e).take ((l.map e).length : Int).toNat).drop (k : Int).toNat = (l.drop k).map e := by
  rw [Int.toNat_natCast, Int.toNat_natCast, List.take_length, List.map_drop]
end Go.Rx
namespace Go.Proofs.Ytooiiihaijpbaaa.Rx
open Go.Rx Go.Proofs Go.Proofs.Ytooiiihaijpbaaa.RxH

theorem entries_con (g : Ledger) (h : g.Ok) (hsv : 1 ≤ g.service ∧ g.service ≤ 4) (hs : g.known.Pairwise (· < ·)) : Con P 59 [encLedger g] (Bl (entriesB g && decide (g.entries.length ≤ 200))) [] := by
  have hm : (g.entries.map Entry.enc).length = g.entries.length := List.length_map ..
  have hel := h.el
  refine Con.of T_ok Try.func59 rfl (by kernel_rfl) (by kernel_rfl) (aw_of T_ok (by kernel_rfl) ?_)
  conv => whnf
  refine AW.loop (fun k : Nat => k ≤ g.entries.length ∧ ∀ j, j < k → entryAt g j = true) (fun k => [(1, .lf (.ptr 0 0)), (6, .lf (.pv (encEntries g.entries))), (7, Go.Rx.I g.entries.length), (8, Go.Rx.I k)]) (fun _ => [ledgerV g]) (fun k => g.entries.length - k) [] ?_ ?_
  · exact ⟨0, ⟨Nat.zero_le _, fun j hj => absurd hj (Nat.not_lt_zero _)⟩, ⟨rfl, rfl, congrArg (fun n : Nat => Go.Rx.I (n : Int)) hm, rfl, trivial⟩, ⟨[], rfl⟩, rfl, rfl⟩
  rintro k ⟨hk, hpre⟩
  have fail : k < g.entries.length → entryAt g k = false → Fin false (entriesB g && decide (g.entries.length ≤ 200)) := fun hkl hf => ⟨by rw [entriesB, rng_no hkl hf]; rfl⟩
  have at' : ∀ hkl : k < g.entries.length, entryAt g k = (keyB (g.entries[k]).key && (g.known.contains (g.entries[k]).key && (!((g.entries.take k).any fun y => y.key == (g.entries[k]).key) && deedB g.service (g.entries[k]).op (g.entries[k]).who (g.entries[k]).n))) := fun hkl => by rw [entryAt, List.getElem?_eq_getElem hkl]
  refine aw_of T_ok (by kernel_rfl) ?_
  conv => whnf
  split <;> rename_i hlt <;> conv => whnf
  · have hkl : k < g.entries.length := by have := of_decide_eq_true hlt; omega
    refine ⟨by omega, (g.entries[k]).enc, by simp [hkl], ?_⟩
    conv => whnf
    refine AW.draw T_ok rfl (listPl [0, 1, 2, 3, 4, 5, 6, 7, 8, 9, 10, 11, 12, 13, 14, 16, 17, 15, 18, 19, 20, 21, 22, 23, 24, 25, 26, 27, 28, 29, 30, 31, 32]) (by kernel_rfl) (by kernel_rfl) ?_
    conv => whnf
    refine callS (key_con (g.entries[k]).key) rfl ?_
    conv => whnf
    split <;> rename_i h1 <;> conv => whnf
    · have h1' : keyB (g.entries[k]).key = false := by simpa using h1
      exact finB (fail hkl (by rw [at' hkl, h1']; rfl))
    have h1' : keyB (g.entries[k]).key = true := by simpa using h1
    refine callS (knows_con g (g.entries[k]).key h.kl hs) rfl ?_
    conv => whnf
    split <;> rename_i h2 <;> conv => whnf
    · have h2' : g.known.contains (g.entries[k]).key = false := by simpa using h2
      exact finB (fail hkl (by rw [at' hkl, h2', Bool.false_and, Bool.and_false]))
    have h2' : g.known.contains (g.entries[k]).key = true := by
      cases hq : g.known.contains (g.entries[k]).key with
      | true => rfl
      | false => rw [hq] at h2; cases h2
    refine ⟨by decide, by omega, by show (k : Int) ≤ ((g.entries.map Entry.enc).length : Nat); omega, ?_⟩
    rw [take_rows]
    conv => whnf
    refine callS (find_con (g.entries.take k) (g.entries[k]).key (by rw [List.length_take]; omega)) rfl ?_
    conv => whnf
    have hfa : decide (0 ≤ idxL (fun e : Entry => e.key == (g.entries[k]).key) (g.entries.take k) 0) = (g.entries.take k).any fun e => e.key == (g.entries[k]).key := idx_any _ 0
    split <;> rename_i h3 <;> conv => whnf
    · exact finB (fail hkl (by rw [at' hkl, ← hfa, show decide (0 ≤ idxL (fun e : Entry => e.key == (g.entries[k]).key) (g.entries.take k) 0) = true from h3]; simp))
    have h3' := hfa.symm.trans (show decide (0 ≤ idxL (fun e : Entry => e.key == (g.entries[k]).key) (g.entries.take k) 0) = false from h3)
    refine callS (deed_con g.service (g.entries[k]).op (g.entries[k]).who (g.entries[k]).n hsv) rfl ?_
    conv => whnf
    split <;> rename_i h4 <;> conv => whnf
    · have h4' : deedB g.service (g.entries[k]).op (g.entries[k]).who (g.entries[k]).n = false := by
        cases hq : deedB g.service (g.entries[k]).op (g.entries[k]).who (g.entries[k]).n with
        | false => rfl
        | true => rw [hq] at h4; cases h4
      exact finB (fail hkl (by rw [at' hkl, h4', Bool.and_false, Bool.and_false, Bool.and_false]))
    have h4' : deedB g.service (g.entries[k]).op (g.entries[k]).who (g.entries[k]).n = true := by
      cases hq : deedB g.service (g.entries[k]).op (g.entries[k]).who (g.entries[k]).n with
      | true => rfl
      | false => rw [hq] at h4; cases h4
    refine ⟨k + 1, ⟨⟨by omega, fun j hj => ?_⟩, by omega⟩, ⟨rfl, rfl, rfl, congrArg Go.Rx.I (wrapI (by omega)), trivial⟩, ⟨_, rfl⟩, rfl, rfl⟩
    by_cases e : j = k
    · subst e
      rw [at' hkl, h1', h2', h3', h4']; rfl
    · exact hpre j (by omega)
  · have hkl : k = g.entries.length := by have := of_decide_eq_false hlt; omega
    refine finB ⟨?_⟩
    rw [entriesB, rng_yes fun j hj => hpre j (by omega), Bool.true_and]
    exact decide_eq_decide.2 (by omega)
theorem ledgerMay_con (g : Ledger) (h : g.Ok) : Con P 40 [encLedger g] (Bl (ledgerB g)) [] := by
  have hm : (g.known.map fun n => [pI n]).length = g.known.length := List.length_map ..
  have hkl0 := h.kl
  refine Con.of T_ok Try.func40 rfl (by kernel_rfl) (by kernel_rfl) (aw_of T_ok (by kernel_rfl) ?_)
  conv => whnf
  refine callS (isService_con g.service) rfl ?_
  conv => whnf
  split <;> rename_i h1 <;> conv => whnf
  · have h1' : svB g.service = false := by
      cases hq : svB g.service with
      | false => rfl
      | true => rw [show (decide (1 ≤ g.service) && decide (g.service ≤ 4)) = true from hq] at h1; cases h1
    exact finB ⟨by rw [ledgerB, h1']; rfl⟩
  have h1' : svB g.service = true := by
    cases hq : svB g.service with
    | true => rfl
    | false => rw [show (decide (1 ≤ g.service) && decide (g.service ≤ 4)) = false from hq] at h1; cases h1
  have hsv : 1 ≤ g.service ∧ g.service ≤ 4 := by simpa [svB] using h1'
  split <;> rename_i h2 <;> conv => whnf
  · have h2' : ¬ g.known.length ≤ 400 := by have := of_decide_eq_true h2; omega
    exact finB ⟨by rw [ledgerB, decide_eq_false h2', Bool.false_and, Bool.and_false]⟩
  have h2' : g.known.length ≤ 400 := by have := of_decide_eq_false h2; omega
  refine AW.loop (fun k : Nat => k ≤ g.known.length ∧ ∀ j, j < k → knownAt g.known j = true) (fun k => [(1, .lf (.ptr 0 0)), (16, .lf (.pv (encInts g.known))), (17, Go.Rx.I g.known.length), (18, Go.Rx.I k)]) (fun _ => [ledgerV g]) (fun k => g.known.length - k) [] ?_ ?_
  · exact ⟨0, ⟨Nat.zero_le _, fun j hj => absurd hj (Nat.not_lt_zero _)⟩, ⟨rfl, rfl, congrArg (fun n : Nat => Go.Rx.I (n : Int)) hm, rfl, trivial⟩, ⟨[], rfl⟩, rfl, rfl⟩
  rintro k ⟨hk, hpre⟩
  have fail : k < g.known.length → knownAt g.known k = false → Fin false (ledgerB g) := fun hkl hf => ⟨by rw [ledgerB, knownB, rng_no hkl hf, Bool.false_and, Bool.and_false, Bool.and_false]⟩
  refine aw_of T_ok (by kernel_rfl) ?_
  conv => whnf
  split <;> rename_i hlt <;> conv => whnf
  · have hkl : k < g.known.length := by have := of_decide_eq_true hlt; omega
    have hget : g.known.getD k 0 = g.known[k] := by simp [List.getD_eq_getElem?_getD, hkl]
    refine ⟨by omega, [pI g.known[k]], by simp [hkl], ?_⟩
    conv => whnf
    refine callS (key_con g.known[k]) rfl ?_
    conv => whnf
    split <;> rename_i h3 <;> conv => whnf
    · have h3' : keyB g.known[k] = false := by simpa using h3
      exact finB (fail hkl (by rw [knownAt, hget, h3']; rfl))
    have h3' : keyB g.known[k] = true := by simpa using h3
    have next : knownAt g.known k = true → ∀ j, j < k + 1 → knownAt g.known j = true := fun e j hj => by
      by_cases hjk : j = k
      · subst hjk; exact e
      · exact hpre j (by omega)
    split <;> rename_i h4 <;> conv => whnf
    · have h4' : 0 < k := by have := of_decide_eq_true h4; omega
      have hget1 : g.known.getD (k - 1) 0 = g.known[k - 1] := by simp [List.getD_eq_getElem?_getD, show k - 1 < g.known.length by omega]
      rw [show IntKind.i64.wrap ((k : Int) - 1) = ((k - 1 : Nat) : Int) by rw [wrapI (by omega)]; omega]
      refine ⟨by omega, [pI g.known[k - 1]], by rw [Int.toNat_natCast, List.getElem?_map, List.getElem?_eq_getElem (by omega)]; rfl, ?_⟩
      conv => whnf
      split <;> rename_i h5 <;> conv => whnf
      · have h5' : g.known[k] ≤ g.known[k - 1] := of_decide_eq_true h5
        exact finB (fail hkl (by rw [knownAt, hget, hget1, decide_eq_false (show ¬ k = 0 by omega), decide_eq_false (show ¬ g.known[k - 1] < g.known[k] by omega)]; simp))
      · have h5' : ¬ g.known[k] ≤ g.known[k - 1] := of_decide_eq_false h5
        exact ⟨k + 1, ⟨⟨by omega, next (by rw [knownAt, hget, hget1, h3', decide_eq_true (show g.known[k - 1] < g.known[k] by omega)]; simp)⟩, by omega⟩, ⟨rfl, rfl, rfl, congrArg Go.Rx.I (wrapI (by omega)), trivial⟩, ⟨_, rfl⟩, rfl, rfl⟩
    · have h4' : k = 0 := by have := of_decide_eq_false h4; omega
      exact ⟨k + 1, ⟨⟨by omega, next (by rw [knownAt, hget, h3', decide_eq_true h4']; rfl)⟩, by omega⟩, ⟨rfl, rfl, rfl, congrArg Go.Rx.I (wrapI (by omega)), trivial⟩, ⟨_, rfl⟩, rfl, rfl⟩
  · have hkl : k = g.known.length := by have := of_decide_eq_false hlt; omega
    have hkb : knownB g.known = true := rng_yes fun j hj => hpre j (by omega)
    refine callS (entries_con g h hsv (known_sorted hkb)) rfl ?_
    conv => whnf
    refine finB ⟨?_⟩
    rw [ledgerB, h1', decide_eq_true h2', hkb]; rfl
theorem check_con (g : Ledger) (h : g.Ok) : Con P 50 [encLedger g] (Go.Rx.I (if ledgerB g then 0 else 1)) [] := by
  refine Con.of T_ok Try.func50 rfl (by kernel_rfl) (by kernel_rfl) (aw_of T_ok (by kernel_rfl) ?_)
  conv => whnf
  refine callS (ledgerMay_con g h) rfl ?_
  conv => whnf
  split <;> rename_i h1 <;> conv => whnf
  · exact finI ⟨by rw [show ledgerB g = false by simpa using h1]; rfl⟩
  · exact finI ⟨by rw [show ledgerB g = true by simpa using h1]; rfl⟩
end Go.Proofs.Ytooiiihaijpbaaa.Rx
