/- Is a text a name? The page's answer. -/
import Derived.Test.YtbfjcbhpbldlcaaRxM8
set_option linter.unusedVariables false
set_option linter.unusedSimpArgs false
namespace Go.Rx
def intGo : List UInt8 → Int → Option Int
  | [], n => some n
  | c :: l, n => if (decide ((c.toNat : Int) < 48) || decide (57 < (c.toNat : Int))) = true then none else intGo l (IntKind.i64.wrap (IntKind.i64.wrap (10 * n) + IntKind.i64.wrap (IntKind.u8.wrap ((c.toNat : Int) - 48))))
theorem int_go {s : ByteArray} {k : Nat} {n : Int} (h : k < s.size) : intGo (s.data.toList.drop k) n = if (decide ((s[k].toNat : Int) < 48) || decide (57 < (s[k].toNat : Int))) = true then none else intGo (s.data.toList.drop (k + 1)) (IntKind.i64.wrap (IntKind.i64.wrap (10 * n) + IntKind.i64.wrap (IntKind.u8.wrap ((s[k].toNat : Int) - 48)))) := by
  rw [List.drop_eq_getElem_cons (by simpa using h), intGo]; rfl
theorem int_end {s : ByteArray} {k : Nat} {n : Int} (h : s.size ≤ k) : intGo (s.data.toList.drop k) n = some n := by
  rw [List.drop_of_length_le (by simpa using h)]; rfl
def intFin (s d : ByteArray) : Int × Bool :=
  if (d.size : Int) = 0 then (0, false) else if 10 < (d.size : Int) then (0, false) else if ((d[0]?).getD 0).toNat = 48 ∧ (s != ⟨#[48]⟩) = true then (0, false)
  else match intGo d.data.toList 0 with
    | none => (0, false)
    | some n => if 1073741824 < n then (0, false) else if (d.size : Int) < s.size then (IntKind.i64.wrap (0 - n), true) else (n, true)
def intR (s : ByteArray) : Int × Bool := if 0 < s.size ∧ ((s[0]?).getD 0).toNat = 45 then intFin s (s.extract 1 s.size) else intFin s s
abbrev num2 (p : Int × Bool) : AV := .tup [.lf (.pv (pI p.1)), .lf (.pv (pB p.2))]
theorem fin2 {a : Int} {c : Bool} {q : Int × Bool} (h : Fin (a, c) q) : ∃ zs, Fa WkA [Go.Rx.I a, Bl c] zs ∧ pack zs = some (num2 q) := ⟨_, wk_refl _, by rw [← h.out]; rfl⟩
end Go.Rx
namespace Go.Proofs.Ytbfjcbhpbldlcaa.Rx
open Go.Rx Go.Proofs Go.Proofs.Ytbfjcbhpbldlcaa.RxH

theorem int_con (s : ByteArray) (hs : okS s) : Con P 93 [Sx s] (num2 (intR s)) [] := by
  simp only [okS] at hs
  refine Con.of T_ok Try.func93 rfl (by kernel_rfl) (by kernel_rfl) (aw_ofC T_ok 1002 (by kernel_rfl) ?_)
  conv => whnf
  refine AW.cut (fun d : ByteArray => d.size ≤ s.size ∧ intR s = intFin s d) (fun d => [(0, Sx s), (4, Sx d)]) (fun _ => []) [] (aw_of T_ok (by kernel_rfl) ?_) ?_
  · conv => whnf
    split <;> rename_i h1 <;> conv => whnf
    · have h0 : 0 < s.size := by have := of_decide_eq_true h1; omega
      refine ⟨by omega, s[0], atB h0, ?_⟩
      conv => whnf
      split <;> rename_i h2 <;> conv => whnf
      · have h2' : s[0].toNat = 45 := by have := eq_of_beq h2; omega
        refine ⟨by decide, by omega, by omega, ?_⟩
        conv => whnf
        refine ⟨s.extract 1 s.size, ⟨by rw [ByteArray.size_extract]; omega, ?_⟩, ⟨rfl, ?_, trivial⟩, ⟨[], rfl⟩, rfl, rfl⟩
        · rw [intR, if_pos ⟨h0, by simp [h0, h2']⟩]
        · exact congrArg Sx (by simp)
      · have h2' : ¬ s[0].toNat = 45 := fun e => by rw [e] at h2; cases h2
        exact ⟨s, ⟨Nat.le_refl _, by rw [intR, if_neg (by simp [h0, h2'])]⟩, ⟨rfl, rfl, trivial⟩, ⟨[], rfl⟩, rfl, rfl⟩
    · have h0 : ¬ 0 < s.size := by have := of_decide_eq_false h1; omega
      exact ⟨s, ⟨Nat.le_refl _, by rw [intR, if_neg (fun e => h0 e.1)]⟩, ⟨rfl, rfl, trivial⟩, ⟨[], rfl⟩, rfl, rfl⟩
  rintro d ⟨hd, hR⟩
  rw [hR]
  refine aw_ofC T_ok 1004 (by kernel_rfl) ?_
  conv => whnf
  refine AW.cut (fun _ : Unit => intFin s d = match intGo d.data.toList 0 with
    | none => (0, false)
    | some n => if 1073741824 < n then (0, false) else if (d.size : Int) < s.size then (IntKind.i64.wrap (0 - n), true) else (n, true)) (fun _ => [(0, Sx s), (4, Sx d)]) (fun _ => []) [] (aw_of T_ok (by kernel_rfl) ?_) ?_
  · conv => whnf
    split <;> rename_i h1 <;> conv => whnf
    · have h1' : (d.size : Int) = 0 := eq_of_beq h1
      exact fin2 ⟨by rw [intFin, if_pos h1']⟩
    · have h1' : ¬ (d.size : Int) = 0 := fun e => by rw [e] at h1; cases h1
      split <;> rename_i h2 <;> conv => whnf
      · have h2' : 10 < (d.size : Int) := of_decide_eq_true h2
        exact fin2 ⟨by rw [intFin, if_neg h1', if_pos h2']⟩
      · have h2' : ¬ 10 < (d.size : Int) := of_decide_eq_false h2
        have h0 : 0 < d.size := by omega
        refine ⟨by omega, d[0], atB h0, ?_⟩
        conv => whnf
        split <;> rename_i h3 <;> conv => whnf
        · have h3' : d[0].toNat = 48 := by have := eq_of_beq h3; omega
          split <;> rename_i h4 <;> conv => whnf
          · exact fin2 ⟨by rw [intFin, if_neg h1', if_neg h2', if_pos ⟨by simp [h0, h3'], h4⟩]⟩
          · exact ⟨(), by rw [intFin, if_neg h1', if_neg h2', if_neg (by rintro ⟨_, e⟩; rw [show (s != ⟨#[48]⟩) = false from h4] at e; cases e)], ⟨rfl, rfl, trivial⟩, ⟨[], rfl⟩, rfl, rfl⟩
        · have h3' : ¬ d[0].toNat = 48 := fun e => by rw [e] at h3; cases h3
          exact ⟨(), by rw [intFin, if_neg h1', if_neg h2', if_neg (by simp [h0, h3'])], ⟨rfl, rfl, trivial⟩, ⟨[], rfl⟩, rfl, rfl⟩
  rintro _ hI
  rw [hI]
  refine aw_of T_ok (by kernel_rfl) ?_
  conv => whnf
  refine AW.loop (fun p : Nat × Int => p.1 ≤ d.size ∧ intGo (d.data.toList.drop p.1) p.2 = intGo d.data.toList 0) (fun p => [(0, Sx s), (4, Sx d), (5, Go.Rx.I p.2), (6, Go.Rx.I p.1)]) (fun _ => []) (fun p => d.size - p.1) [] ?_ ?_
  · exact ⟨(0, 0), ⟨Nat.zero_le _, rfl⟩, ⟨rfl, rfl, rfl, rfl, trivial⟩, ⟨[], rfl⟩, rfl, rfl⟩
  rintro ⟨k, n⟩ ⟨hk, hpre⟩
  simp only at hk hpre
  rw [← hpre]
  refine aw_of T_ok (by kernel_rfl) ?_
  conv => whnf
  split <;> rename_i hlt <;> conv => whnf
  · have hks : k < d.size := by simpa using hlt
    refine ⟨by omega, d[k], atB hks, ?_⟩
    conv => whnf
    split <;> rename_i h4 <;> conv => whnf
    · refine fin2 ⟨?_⟩
      rw [int_go hks, if_pos (by rw [show decide ((d[k].toNat : Int) < 48) = true from h4]; rfl)]
    · refine ⟨by omega, d[k], atB hks, ?_⟩
      conv => whnf
      split <;> rename_i h5 <;> conv => whnf
      · refine fin2 ⟨?_⟩
        rw [int_go hks, if_pos (by rw [show decide (57 < (d[k].toNat : Int)) = true from h5, Bool.or_true])]
      · refine ⟨by omega, d[k], atB hks, ?_⟩
        conv => whnf
        have hst : intGo (d.data.toList.drop (k + 1)) (IntKind.i64.wrap (IntKind.i64.wrap (10 * n) + IntKind.i64.wrap (IntKind.u8.wrap ((d[k].toNat : Int) - 48)))) = intGo (d.data.toList.drop k) n := by
          rw [int_go (n := n) hks, if_neg (by rw [show decide ((d[k].toNat : Int) < 48) = false from h4, show decide (57 < (d[k].toNat : Int)) = false from h5]; decide)]
        exact ⟨(k + 1, IntKind.i64.wrap (IntKind.i64.wrap (10 * n) + IntKind.i64.wrap (IntKind.u8.wrap ((d[k].toNat : Int) - 48)))), ⟨⟨by show k + 1 ≤ _; omega, hst⟩, by show _ - (k + 1) < _; omega⟩, ⟨rfl, rfl, rfl, congrArg Go.Rx.I (wrapI (by omega)), trivial⟩, ⟨[], rfl⟩, rfl, rfl⟩
  · have hks : d.size ≤ k := by simpa using hlt
    rw [int_end hks]
    split <;> rename_i h4 <;> conv => whnf
    · exact fin2 ⟨by simp only; rw [if_pos (of_decide_eq_true h4)]⟩
    · have h4' := of_decide_eq_false h4
      split <;> rename_i h5 <;> conv => whnf
      · exact fin2 ⟨by simp only; rw [if_neg h4', if_pos (of_decide_eq_true h5)]⟩
      · exact fin2 ⟨by simp only; rw [if_neg h4', if_neg (of_decide_eq_false h5)]⟩
end Go.Proofs.Ytbfjcbhpbldlcaa.Rx
