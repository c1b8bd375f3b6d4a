/- What is asked of a ledger; what is known; sums; a ledger without entries; copies of the call's own. -/
import Derived.Test.YtooiiihaijpbaaaRxD4
set_option linter.unusedVariables false
set_option linter.unusedSimpArgs false
namespace Go.Rx
def askB (g : Ledger) (k : Int) (op who : ByteArray) (n out : Int) : Bool := ledgerB g && (keyB k && deedB g.service op who n && outB out)
theorem outB_of (out : Int) : outB out = (decide (0 ≤ out) && decide (out ≤ 3)) := rfl
def doneB (l : List Entry) (k : Int) : Bool := match l.find? (fun e => e.key == k) with | some e => !e.back | none => false
theorem idx_find {α : Type} {p : α → Bool} : ∀ (l : List α) (k : Nat), (idxL p l k = -1 ∧ l.find? p = none) ∨ ∃ (i : Nat) (hi : i < l.length), idxL p l k = ((k + i : Nat) : Int) ∧ l.find? p = some l[i]
  | [], k => .inl ⟨rfl, rfl⟩
  | y :: l, k => by
    rw [idxL, List.find?_cons]
    cases hp : p y with
    | true => exact .inr ⟨0, by simp, by simp, by simp⟩
    | false =>
      simp only [Bool.false_eq_true, if_false]
      rcases idx_find l (k + 1) with h | ⟨i, hi, h1, h2⟩
      · exact .inl h
      · exact .inr ⟨i + 1, by simpa using hi, by rw [h1]; congr 1; omega, by simpa using h2⟩
def hasP (g : Ledger) (k : Int) : Bool × Int := if ledgerB g then (g.known.contains k, 0) else (false, 1)
abbrev boolE (p : Bool × Int) : AV := .tup [.lf (.pv (pB p.1)), .lf (.pv (pI p.2))]
theorem finBE {a : Bool} {c : Int} {q : Bool × Int} (h : Fin (a, c) q) : ∃ zs, Fa WkA [Bl a, Go.Rx.I c] zs ∧ pack zs = some (boolE q) := ⟨_, wk_refl _, by rw [← h.out]; rfl⟩
abbrev numE (p : Int × Int) : AV := .tup [.lf (.pv (pI p.1)), .lf (.pv (pI p.2))]
theorem finNE {a c : Int} {q : Int × Int} (h : Fin (a, c) q) : ∃ zs, Fa WkA [Go.Rx.I a, Go.Rx.I c] zs ∧ pack zs = some (numE q) := ⟨_, wk_refl _, by rw [← h.out]; rfl⟩
def zL : Ledger := ⟨0, [], []⟩
def newP (n : Int) : Ledger × Int := if svB n then (⟨n, [], []⟩, 0) else (zL, 1)
abbrev tLedger (g : Ledger) : TC := .agg [.pv (pI g.service), .pv (encEntries g.entries), .pv (encInts g.known)]
abbrev ledgE (p : Ledger × Int) : AV := .tup [tLedger p.1, .lf (.pv (pI p.2))]
def sumGo (op0 who : ByteArray) : List Entry → Int → Int
  | [], n => n
  | x :: l, n => sumGo op0 who l (if x.who = who then (if x.op = op0 then IntKind.i64.wrap (n + x.n) else IntKind.i64.wrap (n - x.n)) else n)
theorem sum_go {op0 who : ByteArray} {l : List Entry} {k : Nat} {n : Int} (h : k < l.length) : sumGo op0 who (l.drop k) n = sumGo op0 who (l.drop (k + 1)) (if (l[k]).who = who then (if (l[k]).op = op0 then IntKind.i64.wrap (n + (l[k]).n) else IntKind.i64.wrap (n - (l[k]).n)) else n) := by
  rw [List.drop_eq_getElem_cons h, sumGo]
def op0 (n : Int) : ByteArray := (opsS n).getD 0 ⟨#[]⟩
theorem op0_get {n : Int} (h : 1 ≤ n ∧ n ≤ 4) : (opsS n)[0]? = some (op0 n) := by
  obtain rfl | rfl | rfl | rfl : n = 1 ∨ n = 2 ∨ n = 3 ∨ n = 4 := by omega
  all_goals rfl
def sumL (g : Ledger) (who : ByteArray) : Int := sumGo (op0 g.service) who g.entries 0
def sumP (g : Ledger) (who : ByteArray) : Int × Int := if ledgerB g then (sumL g who, 0) else (0, 1)
end Go.Rx
namespace Go.Proofs.Ytooiiihaijpbaaa.Rx
open Go.Rx Go.Proofs Go.Proofs.Ytooiiihaijpbaaa.RxH

theorem asked_con (g : Ledger) (h : g.Ok) (k : Int) (op who : ByteArray) (n out : Int) : Con P 32 [encLedger g, I k, Sx op, Sx who, I n, I out] (Bl (askB g k op who n out)) [] := by
  refine Con.of T_ok Try.func32 rfl (by kernel_rfl) (by kernel_rfl) (aw_of T_ok (by kernel_rfl) ?_)
  conv => whnf
  refine callS (ledgerMay_con g h) rfl ?_
  conv => whnf
  split <;> rename_i h1 <;> conv => whnf
  · have hp := ledger_parts (show ledgerB g = true from h1)
    rw [askB, show ledgerB g = true from h1, Bool.true_and]
    refine callS (key_con k) rfl ?_
    conv => whnf
    split <;> rename_i h2 <;> conv => whnf
    · rw [show keyB k = true from h2, Bool.true_and]
      refine callS (deed_con g.service op who n hp.1) rfl ?_
      conv => whnf
      split <;> rename_i h3 <;> conv => whnf
      · rw [show deedB g.service op who n = true from h3, Bool.true_and]
        split <;> rename_i h4 <;> conv => whnf
        · exact finB ⟨by rw [outB, show decide (0 ≤ out) = true from h4]; rfl⟩
        · exact finB ⟨by rw [outB, show decide (0 ≤ out) = false from h4]; rfl⟩
      · exact finB ⟨by rw [show deedB g.service op who n = false from h3]; rfl⟩
    · exact finB ⟨by rw [show keyB k = false from h2]; rfl⟩
  · exact finB ⟨by rw [askB, show ledgerB g = false from h1]; rfl⟩
theorem has9_con (g : Ledger) (h : g.Ok) (k : Int) : Con P 24 [encLedger g, I k] (boolE (hasP g k)) [] := by
  refine Con.of T_ok Try.func24 rfl (by kernel_rfl) (by kernel_rfl) (aw_of T_ok (by kernel_rfl) ?_)
  conv => whnf
  refine callS (ledgerMay_con g h) rfl ?_
  conv => whnf
  split <;> rename_i h1 <;> conv => whnf
  · exact finBE ⟨by rw [hasP, if_neg (by simpa using h1)]⟩
  · have h1' : ledgerB g = true := by simpa using h1
    have hp := ledger_parts h1'
    refine callS (knows_con g k h.kl (known_sorted hp.2.2.1)) rfl ?_
    conv => whnf
    exact finBE ⟨by rw [hasP, if_pos h1']⟩
theorem done_con (g : Ledger) (h : g.Ok) (k : Int) : Con P 34 [encLedger g, I k] (Bl (doneB g.entries k)) [] := by
  have hel := h.el
  refine Con.of T_ok Try.func34 rfl (by kernel_rfl) (by kernel_rfl) (aw_of T_ok (by kernel_rfl) ?_)
  conv => whnf
  have hf := idx_find (p := fun e : Entry => e.key == k) g.entries 0
  refine callS (find_con g.entries k h.el) rfl ?_
  conv => whnf
  split <;> rename_i h1 <;> conv => whnf
  · have h1' : 0 ≤ idxL (fun e : Entry => e.key == k) g.entries 0 := of_decide_eq_true h1
    rcases hf with ⟨hf, _⟩ | ⟨i, hi, hf, hg⟩
    · omega
    rw [Nat.zero_add] at hf
    rw [hf]
    refine ⟨by omega, (g.entries[i]).enc, by simp [hi], ?_⟩
    conv => whnf
    exact finB ⟨by rw [doneB, hg]⟩
  · have h1' : ¬ 0 ≤ idxL (fun e : Entry => e.key == k) g.entries 0 := of_decide_eq_false h1
    rcases hf with ⟨_, hg⟩ | ⟨i, hi, hf, _⟩
    · exact finB ⟨by rw [doneB, hg]⟩
    · omega
theorem new_con (n : Int) : Con P 14 [I n] (ledgE (newP n)) [] := by
  refine Con.of T_ok Try.func14 rfl (by kernel_rfl) (by kernel_rfl) (aw_of T_ok (by kernel_rfl) ?_)
  conv => whnf
  refine callS (isService_con n) rfl ?_
  conv => whnf
  split <;> rename_i h1 <;> conv => whnf
  · have h1' : ¬ svB n = true := fun e => by rw [show (decide (1 ≤ n) && decide (n ≤ 4)) = true from e] at h1; cases h1
    rw [newP, if_neg h1']
    exact ⟨[encLedger zL, Go.Rx.I 1], ⟨.inr (.inr ⟨_, _, rfl, rfl, wkE _, wkN 5, wkN 1, trivial⟩), .inl rfl, trivial⟩, rfl⟩
  · have h1' : svB n = true := by
      cases hq : svB n with
      | true => rfl
      | false => rw [show (decide (1 ≤ n) && decide (n ≤ 4)) = false from hq] at h1; cases h1
    rw [newP, if_pos h1']
    exact ⟨[encLedger ⟨n, [], []⟩, Go.Rx.I 0], ⟨.inr (.inr ⟨_, _, rfl, rfl, wkE _, wkN 5, wkN 1, trivial⟩), .inl rfl, trivial⟩, rfl⟩
theorem sum_con (g : Ledger) (h : g.Ok) (who : ByteArray) : Con P 25 [encLedger g, Sx who] (numE (sumP g who)) [] := by
  have hm : (g.entries.map Entry.enc).length = g.entries.length := List.length_map ..
  have hel := h.el
  refine Con.of T_ok Try.func25 rfl (by kernel_rfl) (by kernel_rfl) (aw_of T_ok (by kernel_rfl) ?_)
  conv => whnf
  refine callS (ledgerMay_con g h) rfl ?_
  conv => whnf
  split <;> rename_i h1 <;> conv => whnf
  · exact finNE ⟨by rw [sumP, if_neg (by simpa using h1)]⟩
  have h1' : ledgerB g = true := by simpa using h1
  have hsv := (ledger_parts h1').1
  have hop := op0_get hsv
  have hol := opsS_len g.service
  rw [sumP, if_pos h1', sumL]
  refine AW.loop (fun p : Nat × Int => p.1 ≤ g.entries.length ∧ sumGo (op0 g.service) who (g.entries.drop p.1) p.2 = sumGo (op0 g.service) who g.entries 0) (fun p => [(1, Sx who), (2, .lf (.ptr 0 0)), (6, Go.Rx.I p.2), (13, .lf (.pv (encEntries g.entries))), (14, Go.Rx.I g.entries.length), (15, Go.Rx.I p.1)]) (fun _ => [ledgerV g]) (fun p => g.entries.length - p.1) [] ?_ ?_
  · exact ⟨(0, 0), ⟨Nat.zero_le _, rfl⟩, ⟨rfl, rfl, rfl, rfl, congrArg (fun n : Nat => Go.Rx.I (n : Int)) hm, rfl, trivial⟩, ⟨[], rfl⟩, rfl, rfl⟩
  rintro ⟨k, n⟩ ⟨hk, hpre⟩
  simp only at hk hpre
  refine aw_of T_ok (by kernel_rfl) ?_
  conv => whnf
  split <;> rename_i hlt <;> conv => whnf
  · have hkl : k < g.entries.length := by have := of_decide_eq_true hlt; simp only at this; omega
    rw [sum_go hkl] at hpre
    refine ⟨by show (0 : Int) ≤ (k : Int); omega, (g.entries[k]).enc, by simp [hkl], ?_⟩
    conv => whnf
    split <;> rename_i h2 <;> conv => whnf
    · have h2' : ¬ (g.entries[k]).who = who := by
        have : ((g.entries[k]).who != who) = true := h2
        simpa using this
      rw [if_neg h2'] at hpre
      exact ⟨(k + 1, n), ⟨⟨by simp only; omega, hpre⟩, by simp only; omega⟩, ⟨rfl, rfl, rfl, rfl, rfl, congrArg Go.Rx.I (wrapI (by simp only; omega)), trivial⟩, ⟨_, rfl⟩, rfl, rfl⟩
    have h2' : (g.entries[k]).who = who := by
      have : ((g.entries[k]).who != who) = false := h2
      simpa using this
    rw [if_pos h2'] at hpre
    refine AW.draw T_ok rfl (seqPl 0 9) (by kernel_rfl) (by kernel_rfl) ?_
    conv => whnf
    refine callU (ops_con g.service hsv) (fun _ => rfl) ?_
    conv => whnf
    refine ⟨by decide, [pS (op0 g.service)], by rw [List.getElem?_map]; show Option.map _ (opsS g.service)[0]? = _; rw [hop]; rfl, ?_⟩
    conv => whnf
    split <;> rename_i h3 <;> conv => whnf
    · have h3' : (g.entries[k]).op = op0 g.service := by
        have : ((g.entries[k]).op == op0 g.service) = true := h3
        simpa using this
      rw [if_pos h3'] at hpre
      exact ⟨(k + 1, _), ⟨⟨by simp only; omega, hpre⟩, by simp only; omega⟩, ⟨rfl, rfl, rfl, rfl, rfl, congrArg Go.Rx.I (wrapI (by simp only; omega)), trivial⟩, ⟨_, rfl⟩, rfl, rfl⟩
    · have h3' : ¬ (g.entries[k]).op = op0 g.service := by
        have : ((g.entries[k]).op == op0 g.service) = false := h3
        simpa using this
      rw [if_neg h3'] at hpre
      exact ⟨(k + 1, _), ⟨⟨by simp only; omega, hpre⟩, by simp only; omega⟩, ⟨rfl, rfl, rfl, rfl, rfl, congrArg Go.Rx.I (wrapI (by simp only; omega)), trivial⟩, ⟨_, rfl⟩, rfl, rfl⟩
  · have hkl : g.entries.length ≤ k := by have := of_decide_eq_false hlt; simp only at this; omega
    rw [List.drop_of_length_le hkl, sumGo] at hpre
    exact finNE ⟨by rw [hpre]⟩
theorem sum9_con (g : Ledger) (h : g.Ok) (hsv : 1 ≤ g.service ∧ g.service ≤ 4) (who : ByteArray) : Con P 47 [encLedger g, Sx who] (Go.Rx.I (sumL g who)) [] := by
  have hm : (g.entries.map Entry.enc).length = g.entries.length := List.length_map ..
  have hel := h.el
  have hop := op0_get hsv
  have hol := opsS_len g.service
  rw [sumL]
  refine Con.of T_ok Try.func47 rfl (by kernel_rfl) (by kernel_rfl) (aw_of T_ok (by kernel_rfl) ?_)
  conv => whnf
  refine AW.loop (fun p : Nat × Int => p.1 ≤ g.entries.length ∧ sumGo (op0 g.service) who (g.entries.drop p.1) p.2 = sumGo (op0 g.service) who g.entries 0) (fun p => [(1, Sx who), (2, .lf (.ptr 0 0)), (5, Go.Rx.I p.2), (6, Go.Rx.I p.1)]) (fun _ => [ledgerV g]) (fun p => g.entries.length - p.1) [] ?_ ?_
  · exact ⟨(0, 0), ⟨Nat.zero_le _, rfl⟩, ⟨rfl, rfl, rfl, rfl, trivial⟩, ⟨[], rfl⟩, rfl, rfl⟩
  rintro ⟨k, n⟩ ⟨hk, hpre⟩
  simp only at hk hpre
  refine aw_of T_ok (by kernel_rfl) ?_
  conv => whnf
  split <;> rename_i hlt <;> conv => whnf
  · have hkl : k < g.entries.length := by have := of_decide_eq_true hlt; simp only at this; omega
    rw [sum_go hkl] at hpre
    refine ⟨by show (0 : Int) ≤ (k : Int); omega, (g.entries[k]).enc, by simp [hkl], ?_⟩
    conv => whnf
    split <;> rename_i h2 <;> conv => whnf
    · have h2' : ¬ (g.entries[k]).who = who := by
        have : ((g.entries[k]).who != who) = true := h2
        simpa using this
      rw [if_neg h2'] at hpre
      exact ⟨(k + 1, n), ⟨⟨by simp only; omega, hpre⟩, by simp only; omega⟩, ⟨rfl, rfl, rfl, congrArg Go.Rx.I (wrapI (by simp only; omega)), trivial⟩, ⟨_, rfl⟩, rfl, rfl⟩
    have h2' : (g.entries[k]).who = who := by
      have : ((g.entries[k]).who != who) = false := h2
      simpa using this
    rw [if_pos h2'] at hpre
    refine AW.draw T_ok rfl (seqPl 0 8) (by kernel_rfl) (by kernel_rfl) ?_
    conv => whnf
    refine callU (ops4_con g.service) (fun _ => rfl) ?_
    conv => whnf
    refine ⟨by decide, [pS (op0 g.service)], by rw [List.getElem?_map]; show Option.map _ (opsS g.service)[0]? = _; rw [hop]; rfl, ?_⟩
    conv => whnf
    split <;> rename_i h3 <;> conv => whnf
    · have h3' : (g.entries[k]).op = op0 g.service := by
        have : ((g.entries[k]).op == op0 g.service) = true := h3
        simpa using this
      rw [if_pos h3'] at hpre
      exact ⟨(k + 1, _), ⟨⟨by simp only; omega, hpre⟩, by simp only; omega⟩, ⟨rfl, rfl, rfl, congrArg Go.Rx.I (wrapI (by simp only; omega)), trivial⟩, ⟨_, rfl⟩, rfl, rfl⟩
    · have h3' : ¬ (g.entries[k]).op = op0 g.service := by
        have : ((g.entries[k]).op == op0 g.service) = false := h3
        simpa using this
      rw [if_neg h3'] at hpre
      exact ⟨(k + 1, _), ⟨⟨by simp only; omega, hpre⟩, by simp only; omega⟩, ⟨rfl, rfl, rfl, congrArg Go.Rx.I (wrapI (by simp only; omega)), trivial⟩, ⟨_, rfl⟩, rfl, rfl⟩
  · have hkl : g.entries.length ≤ k := by have := of_decide_eq_false hlt; simp only at this; omega
    rw [List.drop_of_length_le hkl, sumGo] at hpre
    exact finI ⟨hpre⟩
end Go.Proofs.Ytooiiihaijpbaaa.Rx
