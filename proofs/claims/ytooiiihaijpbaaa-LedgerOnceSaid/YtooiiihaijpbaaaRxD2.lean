/- Keys, deeds, and where a key lies. -/
import Derived.Test.YtooiiihaijpbaaaRxD1
set_option linter.unusedVariables false
set_option linter.unusedSimpArgs false
namespace Go.Rx
def keyB (k : Int) : Bool := decide (1 ≤ k) && decide (k ≤ 1073741824)
def deedB (sv : Int) (op who : ByteArray) (n : Int) : Bool := (opsS sv).any (op == ·) && (shortB who && (decide (-1073741824 ≤ n) && decide (n ≤ 1073741824)))
def within (i n : Int) : Int := IntKind.i64.wrap (IntKind.u64.wrap i % IntKind.u64.wrap n)
theorem u64_wrap (n : Int) : IntKind.u64.wrap n = n % 18446744073709551616 := rfl
theorem within_lt {i n : Int} (h : 0 < n ∧ n ≤ 1073741824) : 0 ≤ within i n ∧ within i n < n := by
  rw [within, u64_wrap, u64_wrap, show n % 18446744073709551616 = n by omega]
  have h1 := Int.emod_nonneg (i % 18446744073709551616) (show n ≠ 0 by omega)
  have h2 := Int.emod_lt_of_pos (i % 18446744073709551616) (show 0 < n by omega)
  rw [wrapI (by omega)]
  exact ⟨h1, h2⟩
theorem anyComm (l : List ByteArray) (x : ByteArray) : l.any (· == x) = l.any (x == ·) := by
  congr 1; funext y; exact BEq.comm
theorem has_go {l : List ByteArray} {x : ByteArray} {k : Nat} (h : k < l.length) : (l.drop k).any (x == ·) = ((x == l[k]) || (l.drop (k + 1)).any (x == ·)) := by
  rw [List.drop_eq_getElem_cons h, List.any_cons]
/-- Where a key lies, of keys that rise: how many are less. -/
def posL (l : List Int) (k : Int) : Nat := (l.takeWhile fun x => decide (x < k)).length
theorem tw_all {α : Type} {p : α → Bool} : ∀ {l : List α}, (∀ x ∈ l, p x = true) → l.takeWhile p = l
  | [], _ => rfl
  | a :: l, h => by rw [List.takeWhile_cons_of_pos (h a (by simp)), tw_all fun x hx => h x (by simp [hx])]
theorem pos_of {l : List Int} {k : Int} {i : Nat} (hi : i ≤ l.length) (h1 : ∀ t (ht : t < l.length), t < i → l[t] < k) (h2 : ∀ t (ht : t < l.length), i ≤ t → k ≤ l[t]) : posL l k = i := by
  have e : l = l.take i ++ l.drop i := (List.take_append_drop i l).symm
  have e1 : (l.take i).takeWhile (fun x => decide (x < k)) = l.take i := tw_all fun x hx => by
    obtain ⟨t, ht, rfl⟩ := List.getElem_of_mem hx
    rw [List.length_take] at ht
    rw [List.getElem_take]
    exact decide_eq_true (h1 t (by omega) (by omega))
  have e2 : (l.drop i).takeWhile (fun x => decide (x < k)) = [] := by
    rcases Nat.lt_or_ge i l.length with hl | hl
    · rw [List.drop_eq_getElem_cons hl, List.takeWhile_cons_of_neg (by have := h2 i hl (Nat.le_refl _); simp; omega)]
    · rw [List.drop_of_length_le hl]; rfl
  unfold posL
  have e3 : l.takeWhile (fun x => decide (x < k)) = l.take i := by
    conv => lhs; rw [e]
    rw [List.takeWhile_append, e1, if_pos rfl, e2, List.append_nil]
  rw [e3, List.length_take]
  omega
theorem found_of {l : List Int} {k : Int} {i : Nat} (hs : l.Pairwise (· < ·)) (hi : i < l.length) (h1 : ∀ t (ht : t < l.length), t < i → l[t] < k) (h2 : ∀ t (ht : t < l.length), i ≤ t → k ≤ l[t]) : (l[i] == k) = l.contains k := by
  rw [Bool.eq_iff_iff, beq_iff_eq, List.contains_iff_mem]
  constructor
  · intro h; rw [← h]; exact List.getElem_mem hi
  · intro h
    obtain ⟨t, ht, e⟩ := List.getElem_of_mem h
    rcases Nat.lt_trichotomy t i with h3 | h3 | h3
    · have := h1 t ht h3; omega
    · subst h3; exact e
    · have h4 := List.pairwise_iff_getElem.1 hs i t hi ht h3
      have := h2 i hi (Nat.le_refl _)
      omega
theorem found_no {l : List Int} {k : Int} (h1 : ∀ t (ht : t < l.length), l[t] < k) : l.contains k = false := by
  rw [← Bool.not_eq_true, List.contains_iff_mem]
  intro h
  obtain ⟨t, ht, e⟩ := List.getElem_of_mem h
  have := h1 t ht
  omega
theorem half_wrap {a b : Nat} (h : a + b ≤ 1152921504606846976) : IntKind.i64.wrap (Int.fdiv (IntKind.u64.wrap (IntKind.i64.wrap ((a : Int) + b))) (2 ^ (min (1 : Int).toNat IntKind.u64.bits))) = ((a + b) / 2 : Nat) := by
  rw [wrapI (n := (a : Int) + b) (by omega), u64_wrap, show ((a : Int) + b) % 18446744073709551616 = (a : Int) + b by omega, show ((2 : Int) ^ (min (1 : Int).toNat IntKind.u64.bits)) = 2 from rfl,
    Int.fdiv_eq_ediv_of_nonneg _ (by omega), wrapI (by omega)]
  omega
def outB (out : Int) : Bool := decide (0 ≤ out) && decide (out ≤ 3)
abbrev srchE (i : Int) (b : Bool) : AV := .tup [.lf (.pv (pI i)), .lf (.pv (pB b))]
theorem finIB {i j : Int} {a b : Bool} (h : Fin (i, a) (j, b)) : ∃ zs, Fa WkA [Go.Rx.I i, Bl a] zs ∧ pack zs = some (srchE j b) := by
  cases h.out; exact ⟨_, wk_refl _, rfl⟩
end Go.Rx
namespace Go.Proofs.Ytooiiihaijpbaaa.Rx
open Go.Rx Go.Proofs Go.Proofs.Ytooiiihaijpbaaa.RxH

theorem within_con (i n : Int) (h : 0 < n ∧ n ≤ 1073741824) : Con P 22 [I i, I n] (I (within i n)) [] := by
  refine Con.of T_ok Try.func22 rfl (by kernel_rfl) (by kernel_rfl) (aw_of T_ok (by kernel_rfl) ?_)
  conv => whnf
  refine ⟨by rw [u64_wrap]; omega, by rw [u64_wrap]; omega, ?_⟩
  conv => whnf
  exact finI ⟨rfl⟩
theorem key_con (k : Int) : Con P 52 [I k] (Bl (keyB k)) [] := by
  refine Con.of T_ok Try.func52 rfl (by kernel_rfl) (by kernel_rfl) (aw_of T_ok (by kernel_rfl) ?_)
  conv => whnf
  split <;> rename_i h <;> conv => whnf
  · exact finB ⟨by rw [keyB, show decide (1 ≤ k) = true from h]; rfl⟩
  · exact finB ⟨by rw [keyB, show decide (1 ≤ k) = false from h]; rfl⟩
theorem opsS_len (n : Int) : (opsS n).length ≤ 2 := by
  unfold opsS; repeat' split
  all_goals decide
theorem deed_con (sv : Int) (op who : ByteArray) (n : Int) (h : 1 ≤ sv ∧ sv ≤ 4) : Con P 53 [I sv, Sx op, Sx who, I n] (Bl (deedB sv op who n)) [] := by
  have hl := opsS_len sv
  refine Con.of T_ok Try.func53 rfl (by kernel_rfl) (by kernel_rfl) (aw_of T_ok (by kernel_rfl) ?_)
  conv => whnf
  refine callU (ops_con sv h) (fun _ => rfl) ?_
  conv => whnf
  refine callS (contains_con _ op (by omega)) rfl ?_
  conv => whnf
  split <;> rename_i h1 <;> conv => whnf
  · refine callS (short_con _) rfl ?_
    conv => whnf
    split <;> rename_i h2 <;> conv => whnf
    · refine callS (isNum_con _) rfl ?_
      conv => whnf
      exact finB ⟨by rw [deedB, show (opsS sv).any (op == ·) = true from h1, show shortB who = true from h2]; rfl⟩
    · exact finB ⟨by rw [deedB, show shortB who = false from h2, Bool.false_and, Bool.and_false]⟩
  · exact finB ⟨by rw [deedB, show (opsS sv).any (op == ·) = false from h1, Bool.false_and]⟩
theorem find1_con (e : Entry) (k : Int) : Con P 72 [encEntry e, .lf (.ro [pI k])] (Bl (e.key == k)) [] := by
  refine Con.of T_ok Try.func72 rfl (by kernel_rfl) (by kernel_rfl) (aw_of T_ok (by kernel_rfl) ?_)
  conv => whnf
  exact finB ⟨rfl⟩
theorem indexFuncE_con (l : List Entry) (k : Int) (hl : l.length * 56 ≤ 140737488351232) : Con P 71 [.lf (.pv (encEntries l)), .lf (.fn 72 [[pI k]])] (I (idxL (fun e : Entry => e.key == k) l 0)) [] := by
  refine Con.of T_ok Try.func71 rfl (by kernel_rfl) (by kernel_rfl) (aw_of T_ok (by kernel_rfl) ?_)
  conv => whnf
  refine AW.loop (fun k' : Nat => k' ≤ l.length ∧ idxL (fun e : Entry => e.key == k) (l.drop k') k' = idxL (fun e : Entry => e.key == k) l 0) (fun k' => [(0, .lf (.pv (encEntries l))), (1, .lf (.fn 72 [[pI k]])), (7, Go.Rx.I l.length), (8, Go.Rx.I k')]) (fun _ => []) (fun k' => l.length - k') [] ?_ ?_
  · exact ⟨0, ⟨Nat.zero_le _, rfl⟩, ⟨rfl, rfl, congrArg (fun n : Nat => Go.Rx.I (n : Int)) (List.length_map ..), rfl, trivial⟩, ⟨[], rfl⟩, rfl, rfl⟩
  · rintro k' ⟨hk, hpre⟩
    refine aw_of T_ok (by kernel_rfl) ?_
    conv => whnf
    split <;> rename_i hlt <;> conv => whnf
    · have hkl : k' < l.length := by simpa using hlt
      rw [idx_go hkl] at hpre
      refine ⟨by omega, (l[k']).enc, by simp [hkl], ?_⟩
      conv => whnf
      refine callS (find1_con l[k'] k) rfl ?_
      conv => whnf
      split <;> rename_i he <;> conv => whnf
      · refine finI ⟨?_⟩
        rw [← hpre, if_pos (show ((l[k']).key == k) = true from he)]
      · refine ⟨k' + 1, ⟨⟨by omega, ?_⟩, by omega⟩, ⟨rfl, rfl, rfl, congrArg Go.Rx.I (wrapI (by omega)), trivial⟩, ⟨[], rfl⟩, rfl, rfl⟩
        rw [← hpre, if_neg (by rw [show ((l[k']).key == k) = false from he]; decide)]
    · refine finI ⟨?_⟩
      have hkl : l.length ≤ k' := by simpa using hlt
      rw [← hpre, idx_end hkl]
theorem find_con (l : List Entry) (k : Int) (hl : l.length * 56 ≤ 140737488351232) : Con P 57 [.lf (.pv (encEntries l)), I k] (I (idxL (fun e : Entry => e.key == k) l 0)) [] := by
  refine Con.of T_ok Try.func57 rfl (by kernel_rfl) (by kernel_rfl) (aw_of T_ok (by kernel_rfl) ?_)
  conv => whnf
  refine callS (indexFuncE_con l k hl) rfl ?_
  conv => whnf
  exact finI ⟨rfl⟩
theorem isNaN_con (k : Int) : Con P 75 [I k] (Bl false) [] := by
  refine Con.of T_ok Try.func75 rfl (by kernel_rfl) (by kernel_rfl) (aw_of T_ok (by kernel_rfl) ?_)
  conv => whnf
  exact finB ⟨by simp⟩
theorem isNaN2_con (k : Int) : Con P 68 [I k] (Bl false) [] := by
  refine Con.of T_ok Try.func68 rfl (by kernel_rfl) (by kernel_rfl) (aw_of T_ok (by kernel_rfl) ?_)
  conv => whnf
  exact finB ⟨by simp⟩
theorem less_con (a b : Int) : Con P 67 [I a, I b] (Bl (decide (a < b))) [] := by
  refine Con.of T_ok Try.func67 rfl (by kernel_rfl) (by kernel_rfl) (aw_of T_ok (by kernel_rfl) ?_)
  conv => whnf
  refine callS (isNaN_con a) rfl ?_
  conv => whnf
  exact finB ⟨rfl⟩
theorem binarySearch_con (l : List Int) (k : Int) (hl : l.length * 8 ≤ 140737488351232) (hs : l.Pairwise (· < ·)) : Con P 55 [.lf (.pv (encInts l)), I k] (srchE (posL l k) (l.contains k)) [] := by
  have hm : (l.map fun n => [pI n]).length = l.length := List.length_map ..
  refine Con.of T_ok Try.func55 rfl (by kernel_rfl) (by kernel_rfl) (aw_of T_ok (by kernel_rfl) ?_)
  conv => whnf
  rw [hm]
  refine AW.loop (fun p : Nat × Nat => p.1 ≤ p.2 ∧ p.2 ≤ l.length ∧ (∀ t (ht : t < l.length), t < p.1 → l[t] < k) ∧ ∀ t (ht : t < l.length), p.2 ≤ t → k ≤ l[t]) (fun p => [(0, .lf (.pv (encInts l))), (1, Go.Rx.I k), (6, Go.Rx.I l.length), (7, Go.Rx.I p.1), (8, Go.Rx.I p.2)]) (fun _ => []) (fun p => p.2 - p.1) [] ?_ ?_
  · exact ⟨(0, l.length), ⟨Nat.zero_le _, Nat.le_refl _, fun t ht h => by simp at h, fun t ht h => by simp at h; omega⟩, ⟨rfl, rfl, rfl, rfl, rfl, trivial⟩, ⟨[], rfl⟩, rfl, rfl⟩
  rintro ⟨i, j⟩ ⟨hij, hj, h1, h2⟩
  simp only at hij hj h1 h2
  refine aw_of T_ok (by kernel_rfl) ?_
  conv => whnf
  split <;> rename_i hlt <;> conv => whnf
  · have hlt' : i < j := by have := of_decide_eq_true hlt; simp only at this; omega
    refine ⟨by decide, ?_⟩
    conv => whnf
    rw [show IntKind.i64.wrap ((IntKind.u64.wrap (IntKind.i64.wrap ((((i, j).fst : Nat) : Int) + (((i, j).snd : Nat) : Int)))).fdiv (2 ^ min (Int.toNat 1) IntKind.u64.bits)) = (((i + j) / 2 : Nat) : Int) from half_wrap (by omega)]
    have hh : (i + j) / 2 < l.length := by omega
    have hii : i ≤ (i + j) / 2 := by omega
    have hjj : (i + j) / 2 < j := by omega
    generalize (i + j) / 2 = m at *
    refine ⟨by omega, [pI l[m]], by simp [hh], ?_⟩
    conv => whnf
    refine callS (less_con l[m] k) rfl ?_
    conv => whnf
    have srt := List.pairwise_iff_getElem.1 hs
    split <;> rename_i hc <;> conv => whnf
    · have hc' : l[m] < k := of_decide_eq_true hc
      refine ⟨(m + 1, j), ⟨⟨by simp only; omega, hj, fun t ht hlt2 => ?_, h2⟩, by simp only; omega⟩, ⟨rfl, rfl, rfl, congrArg Go.Rx.I (wrapI (by omega)), rfl, trivial⟩, ⟨[], rfl⟩, rfl, rfl⟩
      simp only at hlt2
      rcases Nat.lt_or_ge t m with h3 | h3
      · have := srt t m ht hh h3; omega
      · obtain rfl : t = m := by omega
        exact hc'
    · have hc' : ¬ l[m] < k := of_decide_eq_false hc
      refine ⟨(i, m), ⟨⟨hii, by simp only; omega, h1, fun t ht hle => ?_⟩, by simp only; omega⟩, ⟨rfl, rfl, rfl, rfl, rfl, trivial⟩, ⟨[], rfl⟩, rfl, rfl⟩
      simp only at hle
      rcases Nat.lt_or_ge m t with h3 | h3
      · have := srt m t hh ht h3; omega
      · obtain rfl : t = m := by omega
        omega
  · have hij2 : i = j := by have := of_decide_eq_false hlt; simp only at this; omega
    subst hij2
    have hp := pos_of hj h1 h2
    split <;> rename_i h3 <;> conv => whnf
    · have hil : i < l.length := by have := of_decide_eq_true h3; simp only at this; omega
      refine ⟨by show (0 : Int) ≤ (i : Int); omega, [pI l[i]], by simp [hil], ?_⟩
      conv => whnf
      have hf := found_of hs hil h1 h2
      split <;> rename_i h4 <;> conv => whnf
      · exact finIB ⟨by rw [hp, ← hf, show (l[i] == k) = true from h4]⟩
      · refine ⟨by show (0 : Int) ≤ (i : Int); omega, [pI l[i]], by simp [hil], ?_⟩
        conv => whnf
        refine callS (isNaN2_con _) rfl ?_
        conv => whnf
        exact finIB ⟨by rw [hp, ← hf, show (l[i] == k) = false from h4]⟩
    · have hil : l.length ≤ i := by have := of_decide_eq_false h3; simp only at this; omega
      exact finIB ⟨by rw [hp, found_no fun t ht => h1 t ht (by omega)]⟩
theorem knows_con (g : Ledger) (k : Int) (hl : g.known.length * 8 ≤ 140737488351232) (hs : g.known.Pairwise (· < ·)) : Con P 41 [encLedger g, I k] (Bl (g.known.contains k)) [] := by
  refine Con.of T_ok Try.func41 rfl (by kernel_rfl) (by kernel_rfl) (aw_of T_ok (by kernel_rfl) ?_)
  conv => whnf
  refine callS (binarySearch_con g.known k hl hs) rfl ?_
  conv => whnf
  exact finB ⟨rfl⟩
theorem has_con (l : List ByteArray) (x : ByteArray) (hl : l.length * 16 ≤ 140737488351232) : Con P 58 [.lf (.pv (encStrs l)), Sx x] (Bl (l.any (x == ·))) [] := by
  refine Con.of T_ok Try.func58 rfl (by kernel_rfl) (by kernel_rfl) (aw_of T_ok (by kernel_rfl) ?_)
  conv => whnf
  refine AW.loop (fun k : Nat => k ≤ l.length ∧ (l.drop k).any (x == ·) = l.any (x == ·)) (fun k => [(0, .lf (.pv (encStrs l))), (1, Sx x), (5, Go.Rx.I k)]) (fun _ => []) (fun k => l.length - k) [] ?_ ?_
  · exact ⟨0, ⟨Nat.zero_le _, rfl⟩, ⟨rfl, rfl, rfl, trivial⟩, ⟨[], rfl⟩, rfl, rfl⟩
  · rintro k ⟨hk, hpre⟩
    refine aw_of T_ok (by kernel_rfl) ?_
    conv => whnf
    split <;> rename_i hlt <;> conv => whnf
    · have hkl : k < l.length := by simpa using hlt
      rw [has_go hkl] at hpre
      refine ⟨by omega, [pS l[k]], by simp [hkl], ?_⟩
      conv => whnf
      split <;> rename_i he <;> conv => whnf
      · refine finB ⟨?_⟩
        rw [← hpre, show (x == l[k]) = true from by rw [BEq.comm]; exact he]; rfl
      · refine ⟨k + 1, ⟨⟨by omega, ?_⟩, by omega⟩, ⟨rfl, rfl, congrArg Go.Rx.I (wrapI (by omega)), trivial⟩, ⟨[], rfl⟩, rfl, rfl⟩
        rw [← hpre, show (x == l[k]) = false from by rw [BEq.comm]; exact he]; rfl
    · refine finB ⟨?_⟩
      have hkl : l.length ≤ k := by simpa using hlt
      rw [← hpre, List.drop_of_length_le hkl]; rfl
theorem call9_con (g : Ledger) (k : Int) (op who : ByteArray) (n : Int) (hw : okS who) : Con P 37 [encLedger g, I k, Sx op, Sx who, I n] (Bl (keyB k && deedB g.service op who n)) [] := by
  have hl := opsS_len g.service
  refine Con.of T_ok Try.func37 rfl (by kernel_rfl) (by kernel_rfl) (aw_of T_ok (by kernel_rfl) ?_)
  conv => whnf
  refine callS (between_con k 1 1073741824) rfl ?_
  conv => whnf
  split <;> rename_i h1 <;> conv => whnf
  · rw [show keyB k = true from h1, Bool.true_and]
    refine callU (ops4_con g.service) (fun _ => rfl) ?_
    conv => whnf
    refine callS (has_con _ op (by omega)) rfl ?_
    conv => whnf
    split <;> rename_i h2 <;> conv => whnf
    · refine callS (short1_con who hw) rfl ?_
      conv => whnf
      split <;> rename_i h3 <;> conv => whnf
      · refine callS (between_con n (-1073741824) 1073741824) rfl ?_
        conv => whnf
        exact finB ⟨by rw [deedB, show (opsS g.service).any (op == ·) = true from h2, show shortB who = true from h3]; rfl⟩
      · exact finB ⟨by rw [deedB, show shortB who = false from h3, Bool.false_and, Bool.and_false]⟩
    · exact finB ⟨by rw [deedB, show (opsS g.service).any (op == ·) = false from h2, Bool.false_and]⟩
  · exact finB ⟨by rw [show keyB k = false from h1, Bool.false_and]⟩
theorem mayCall_con (g : Ledger) (k : Int) (op who : ByteArray) (n out : Int) (hw : okS who) : Con P 48 [encLedger g, I k, Sx op, Sx who, I n, I out] (Bl (keyB k && deedB g.service op who n && outB out)) [] := by
  refine Con.of T_ok Try.func48 rfl (by kernel_rfl) (by kernel_rfl) (aw_of T_ok (by kernel_rfl) ?_)
  conv => whnf
  refine callS (call9_con g k op who n hw) rfl ?_
  conv => whnf
  split <;> rename_i h1 <;> conv => whnf
  · refine callS (between_con out 0 3) rfl ?_
    conv => whnf
    exact finB ⟨by rw [show (keyB k && deedB g.service op who n) = true from h1]; rfl⟩
  · exact finB ⟨by rw [show (keyB k && deedB g.service op who n) = false from h1]; rfl⟩
end Go.Proofs.Ytooiiihaijpbaaa.Rx
