/- Names. -/
import Derived.Test.YtbfjcbhpbldlcaaRxM6
set_option linter.unusedVariables false
set_option linter.unusedSimpArgs false
namespace Go.Rx
def wordN (n : Int) : Bool := letN n || digN n
def runB (p : UInt8 → Bool) (s : ByteArray) : Nat := (s.data.toList.takeWhile p).length
theorem run_go {p : UInt8 → Bool} {s : ByteArray} {k : Nat} (h : k < s.size) (hp : p s[k] = true) : k + ((s.data.toList.drop k).takeWhile p).length = (k + 1) + ((s.data.toList.drop (k + 1)).takeWhile p).length := by
  rw [List.drop_eq_getElem_cons (by simpa using h), List.takeWhile_cons_of_pos (show p (s.data.toList[k]'(by simpa using h)) = true from hp), List.length_cons]; omega
theorem run_stop {p : UInt8 → Bool} {s : ByteArray} {k : Nat} (h : k < s.size) (hp : p s[k] = false) : k + ((s.data.toList.drop k).takeWhile p).length = k := by
  rw [List.drop_eq_getElem_cons (by simpa using h), List.takeWhile_cons_of_neg (by show ¬ p s[k] = true; rw [hp]; decide)]; rfl
theorem run_end {p : UInt8 → Bool} {s : ByteArray} {k : Nat} (h : s.size ≤ k) : k + ((s.data.toList.drop k).takeWhile p).length = k := by
  rw [List.drop_of_length_le (by simpa using h)]; rfl
def wordC (c : UInt8) : Bool := wordN c.toNat
def numV (n : Int) (c : UInt8) : Int := if n ≤ 1073741824 then IntKind.i64.wrap (IntKind.i64.wrap (n * 10) + IntKind.i64.wrap (IntKind.u8.wrap ((c.toNat : Int) - 48))) else n
def numGo : List UInt8 → Int → Nat → Int × Nat
  | [], n, k => (n, k)
  | c :: l, n, k => if digN c.toNat then numGo l (numV n c) (k + 1) else (n, k)
theorem num_go {s : ByteArray} {k : Nat} {n : Int} (h : k < s.size) : numGo (s.data.toList.drop k) n k = if digN s[k].toNat then numGo (s.data.toList.drop (k + 1)) (numV n s[k]) (k + 1) else (n, k) := by
  rw [List.drop_eq_getElem_cons (by simpa using h), numGo]; rfl
theorem num_end {s : ByteArray} {k : Nat} {n : Int} (h : s.size ≤ k) : numGo (s.data.toList.drop k) n k = (n, k) := by
  rw [List.drop_of_length_le (by simpa using h)]; rfl
abbrev num3 (p : Int × Int × Bool) : AV := .tup [.lf (.pv (pI p.1)), .lf (.pv (pI p.2.1)), .lf (.pv (pB p.2.2))]
/-- What is told of a number whose digits are read. -/
def numFin (s : ByteArray) (neg : Bool) (p : Int × Nat) : Int × Int × Bool :=
  if (if neg then IntKind.i64.wrap ((p.2 : Int) - 1) else p.2) = 0 then (0, p.2, false) else if 1073741824 < p.1 then (0, p.2, false)
  else if ((s[if neg then 1 else 0]?).getD 0).toNat = 48 ∧ (1 < (if neg then IntKind.i64.wrap ((p.2 : Int) - 1) else p.2) ∨ neg = true) then (0, p.2, false)
  else (IntKind.i64.wrap ((if neg then -1 else 1) * p.1), p.2, true)
def numR (s : ByteArray) : Int × Int × Bool :=
  let neg := Lib.hasPrefix s.data.toList [45]
  numFin s neg (numGo (s.data.toList.drop (if neg then 1 else 0)) 0 (if neg then 1 else 0))
end Go.Rx
namespace Go.Proofs.Ytbfjcbhpbldlcaa.Rx
open Go.Rx Go.Proofs Go.Proofs.Ytbfjcbhpbldlcaa.RxH

theorem size1_con (n : Int) : Con P 97 [U8 n] (Bl (wordN n)) [] := by
  refine Con.of T_ok Try.func97 rfl (by kernel_rfl) (by kernel_rfl) (aw_of T_ok (by kernel_rfl) ?_)
  conv => whnf
  refine callS (letter_con n) rfl ?_
  conv => whnf
  split <;> rename_i h <;> conv => whnf
  · refine finB ⟨?_⟩; rw [wordN, h]; rfl
  · refine callS (digit_con n) rfl ?_
    conv => whnf
    refine finB ⟨?_⟩; rw [wordN, h]; rfl
theorem run_con (s : ByteArray) (hs : okS s) : Con P 96 [Sx s, .lf (.fn 97 [])] (I (runB wordC s)) [] := by
  simp only [okS] at hs
  refine Con.of T_ok Try.func96 rfl (by kernel_rfl) (by kernel_rfl) (aw_of T_ok (by kernel_rfl) ?_)
  conv => whnf
  refine AW.loop (fun k : Nat => k ≤ s.size ∧ k + ((s.data.toList.drop k).takeWhile wordC).length = runB wordC s) (fun k => [(0, Sx s), (1, .lf (.fn 97 [])), (5, Go.Rx.I k)]) (fun _ => []) (fun k => s.size - k) [] ?_ ?_
  · exact ⟨0, ⟨Nat.zero_le _, by rw [runB, List.drop_zero, Nat.zero_add]⟩, ⟨rfl, rfl, rfl, trivial⟩, ⟨[], rfl⟩, rfl, rfl⟩
  · rintro k ⟨hk, hpre⟩
    refine aw_of T_ok (by kernel_rfl) ?_
    conv => whnf
    split <;> rename_i hlt <;> conv => whnf
    · have hks : k < s.size := by simpa using hlt
      refine ⟨by omega, s[k], atB hks, ?_⟩
      conv => whnf
      refine callS (size1_con s[k].toNat) rfl ?_
      conv => whnf
      split <;> rename_i he <;> conv => whnf
      · rw [run_go hks he] at hpre
        exact ⟨k + 1, ⟨⟨by omega, hpre⟩, by omega⟩, ⟨rfl, rfl, congrArg Go.Rx.I (wrapI (by omega)), trivial⟩, ⟨[], rfl⟩, rfl, rfl⟩
      · rw [run_stop hks he] at hpre
        exact finI ⟨by rw [hpre]⟩
    · have hks : s.size ≤ k := by simpa using hlt
      rw [run_end hks] at hpre
      exact finI ⟨by rw [hpre]⟩
theorem hasPrefix_con (a b : ByteArray) : Con P 101 [Sx a, Sx b] (Bl (Lib.hasPrefix a.data.toList b.data.toList)) [] :=
  Con.plain (vs := [.string a, .string b]) (by kernel_rfl) rfl fun w => (Try.strings_HasPrefix a b w).mono (by rintro e w' ⟨rfl, rfl⟩; exact ⟨rfl, RowKit.Below.refl _ _⟩)
theorem indexByte_con (a : ByteArray) (c : Int) : Con P 102 [Sx a, U8 c] (I (Lib.indexByte a.data.toList c.toNat.toUInt8)) [] :=
  Con.plain (vs := [.string a, .int .u8 c]) (by kernel_rfl) rfl fun w => (Try.strings_IndexByte a c w).mono (by rintro e w' ⟨rfl, rfl⟩; exact ⟨rfl, RowKit.Below.refl _ _⟩)
theorem jstring_con (s : ByteArray) (h : okS s) : ∃ (t : ByteArray) (n : Int) (ok : Bool), Con P 100 [Sx s] (.tup [.lf (.pv (pS t)), .lf (.pv (pI n)), .lf (.pv (pB ok))]) [] := by
  simp only [okS] at h
  have hf : json_String.f s = some (⟨(strGo (s.data.toList.drop 1) 1 []).1.toArray⟩, ((strGo (s.data.toList.drop 1) 1 []).2.1 : Int), (strGo (s.data.toList.drop 1) 1 []).2.2) := by
    unfold json_String.f
    rw [if_pos (by omega)]
  generalize json_String.f s = o at hf
  exact ⟨_, _, _, Con.plains (vs := [.string s]) (rs := [.string ⟨(strGo (s.data.toList.drop 1) 1 []).1.toArray⟩, .int .i64 ((strGo (s.data.toList.drop 1) 1 []).2.1 : Int), .bool (strGo (s.data.toList.drop 1) 1 []).2.2]) (by kernel_rfl) (by simp [Value.oneCell']) fun w => json_String.calls s _ _ _ w (by
    unfold json_String.f
    rw [if_pos (by omega)])⟩
theorem one_byte {s : ByteArray} (h : Lib.hasPrefix s.data.toList [45] = true) : 1 ≤ s.size := by
  unfold Lib.hasPrefix at h
  have h1 : s.data.toList.length = s.size := by simp
  generalize s.data.toList = l at h h1
  cases l with
  | nil => cases h
  | cons c l => simp at h1; omega
theorem fin3 {a b : Int} {c : Bool} {q : Int × Int × Bool} (h : Fin (a, b, c) q) : ∃ zs, Fa WkA [Go.Rx.I a, Go.Rx.I b, Bl c] zs ∧ pack zs = some (num3 q) := ⟨_, wk_refl _, by rw [← h.out]; rfl⟩
theorem number_con (s : ByteArray) (hs : okS s) : Con P 99 [Sx s] (num3 (numR s)) [] := by
  simp only [okS] at hs
  refine Con.of T_ok Try.func99 rfl (by kernel_rfl) (by kernel_rfl) (aw_ofC T_ok 0 (by kernel_rfl) ?_)
  conv => whnf
  refine AW.cut (fun q : Bool × Int × Nat => q.1 = Lib.hasPrefix s.data.toList [45] ∧ q.2.2 ≤ s.size ∧ (q.1 = true → 1 ≤ q.2.2) ∧ numR s = numFin s q.1 q.2) (fun q => [(0, Sx s), (2, Go.Rx.I q.2.1), (3, Go.Rx.I q.2.2), (5, Go.Rx.I (if q.1 then -1 else 1))]) (fun _ => []) [] (AW.block (aw_ofC T_ok 2 (by kernel_rfl) ?_)) ?_
  · conv => whnf
    refine AW.cut (fun neg : Bool => neg = Lib.hasPrefix s.data.toList [45]) (fun neg => [(0, Sx s), (2, Go.Rx.I 0), (3, Go.Rx.I (if neg then 1 else 0)), (5, Go.Rx.I (if neg then -1 else 1))]) (fun _ => []) [] (aw_of T_ok (by kernel_rfl) ?_) ?_
    · conv => whnf
      refine callS (hasPrefix_con s ⟨#[45]⟩) rfl ?_
      conv => whnf
      split <;> rename_i h <;> conv => whnf
      · exact ⟨true, h.symm, ⟨rfl, rfl, rfl, rfl, trivial⟩, ⟨[], rfl⟩, rfl, rfl⟩
      · exact ⟨false, h.symm, ⟨rfl, rfl, rfl, rfl, trivial⟩, ⟨[], rfl⟩, rfl, rfl⟩
    rintro neg hneg
    have hR : numR s = numFin s neg (numGo (s.data.toList.drop (if neg then 1 else 0)) 0 (if neg then 1 else 0)) := by rw [hneg]; rfl
    refine aw_of T_ok (by kernel_rfl) ?_
    conv => whnf
    refine AW.loop (fun p : Int × Nat => p.2 ≤ s.size ∧ (neg = true → 1 ≤ p.2) ∧ numGo (s.data.toList.drop p.2) p.1 p.2 = numGo (s.data.toList.drop (if neg then 1 else 0)) 0 (if neg then 1 else 0)) (fun p => [(0, Sx s), (2, Go.Rx.I p.1), (3, Go.Rx.I p.2), (5, Go.Rx.I (if neg then -1 else 1))]) (fun _ => []) (fun p => s.size - p.2) [] ?_ ?_
    · cases neg with
      | true => exact ⟨(0, 1), ⟨one_byte hneg.symm, fun _ => Nat.le_refl _, rfl⟩, ⟨rfl, rfl, rfl, rfl, trivial⟩, ⟨[], rfl⟩, rfl, rfl⟩
      | false => exact ⟨(0, 0), ⟨Nat.zero_le _, (by intro h; cases h), rfl⟩, ⟨rfl, rfl, rfl, rfl, trivial⟩, ⟨[], rfl⟩, rfl, rfl⟩
    · rintro ⟨n, k⟩ ⟨hk, hn1, hpre⟩
      simp only at hk hn1 hpre
      refine aw_of T_ok (by kernel_rfl) ?_
      conv => whnf
      split <;> rename_i hlt <;> conv => whnf
      · have hks : k < s.size := by simpa using hlt
        refine ⟨by omega, s[k], atB hks, ?_⟩
        conv => whnf
        refine callS (digit1_con s[k].toNat) rfl ?_
        conv => whnf
        rw [num_go hks] at hpre
        split <;> rename_i he <;> conv => whnf
        · rw [if_pos he] at hpre
          split <;> rename_i h1 <;> conv => whnf
          · refine ⟨by omega, s[k], atB hks, ?_⟩
            conv => whnf
            refine ⟨(numV n s[k], k + 1), ⟨⟨by show k + 1 ≤ _; omega, fun _ => by show 1 ≤ k + 1; omega, hpre⟩, by show _ - (k + 1) < _; omega⟩, ⟨rfl, ?_, congrArg Go.Rx.I (wrapI (by omega)), rfl, trivial⟩, ⟨[], rfl⟩, rfl, rfl⟩
            exact congrArg Go.Rx.I (by rw [numV, if_pos (of_decide_eq_true h1)])
          · refine ⟨(numV n s[k], k + 1), ⟨⟨by show k + 1 ≤ _; omega, fun _ => by show 1 ≤ k + 1; omega, hpre⟩, by show _ - (k + 1) < _; omega⟩, ⟨rfl, ?_, congrArg Go.Rx.I (wrapI (by omega)), rfl, trivial⟩, ⟨[], rfl⟩, rfl, rfl⟩
            exact congrArg Go.Rx.I (by rw [numV, if_neg (of_decide_eq_false h1)])
        · rw [if_neg (by rw [he]; decide)] at hpre
          exact ⟨(neg, n, k), ⟨hneg, hk, hn1, by rw [hR, ← hpre]⟩, ⟨rfl, rfl, rfl, rfl, trivial⟩, ⟨[], rfl⟩, rfl, rfl⟩
      · have hks : s.size ≤ k := by simpa using hlt
        rw [num_end hks] at hpre
        exact ⟨(neg, n, k), ⟨hneg, hk, hn1, by rw [hR, ← hpre]⟩, ⟨rfl, rfl, rfl, rfl, trivial⟩, ⟨[], rfl⟩, rfl, rfl⟩
  · rintro ⟨neg, n, k⟩ ⟨hneg, hk, hn1, hR⟩
    simp only at hk hn1 hneg hR
    rw [hR]
    refine aw_of T_ok (by kernel_rfl) ?_
    cases neg with
    | false =>
      conv => whnf
      have e : IntKind.i64.wrap ((k : Int) - k) = 0 := by rw [Int.sub_self]; rfl
      split <;> rename_i h1 <;> conv => whnf
      · refine fin3 ⟨?_⟩
        have h1' : (k : Int) = 0 := by simpa using h1
        simp [numFin, h1']
      have h1' : ¬ (k : Int) = 0 := by simpa using h1
      split <;> rename_i h2 <;> conv => whnf
      · refine fin3 ⟨?_⟩
        have h2' := of_decide_eq_true h2
        simp [numFin, h1', h2']
      have h2' := of_decide_eq_false h2
      have h0 : 0 < s.size := by omega
      refine ⟨by show 0 ≤ IntKind.i64.wrap ((k : Int) - k); rw [e]; decide, s[0], by show s[(IntKind.i64.wrap ((k : Int) - k)).toNat]? = _; rw [e]; exact atB h0, ?_⟩
      conv => whnf
      split <;> rename_i h3 <;> conv => whnf
      · have h3' : s[0].toNat = 48 := by have := eq_of_beq h3; omega
        split <;> rename_i h4 <;> conv => whnf
        · refine fin3 ⟨?_⟩
          have h4' : 1 < (k : Int) := of_decide_eq_true h4
          (simp [numFin, h1', h2', h0, h3', h4'] <;> omega)
        · refine fin3 ⟨?_⟩
          have h4' : ¬ 1 < (k : Int) := of_decide_eq_false h4
          (simp [numFin, h1', h2', h0, h3', h4'] <;> omega)
      · refine fin3 ⟨?_⟩
        have h3' : ¬ s[0].toNat = 48 := fun e => by rw [e] at h3; cases h3
        (simp [numFin, h1', h2', h0, h3'] <;> omega)
    | true =>
      have hk1 : 1 ≤ k := hn1 rfl
      conv => whnf
      have e1 : IntKind.i64.wrap ((k : Int) - 1) = (k : Int) - 1 := wrapI (by omega)
      have e : IntKind.i64.wrap ((k : Int) - IntKind.i64.wrap ((k : Int) - 1)) = 1 := by rw [e1, show (k : Int) - ((k : Int) - 1) = 1 by omega]; rfl
      split <;> rename_i h1 <;> conv => whnf
      · refine fin3 ⟨?_⟩
        have h1' : IntKind.i64.wrap ((k : Int) - 1) = 0 := by simpa using h1
        simp [numFin, h1']
      have h1' : ¬ IntKind.i64.wrap ((k : Int) - 1) = 0 := by simpa using h1
      split <;> rename_i h2 <;> conv => whnf
      · refine fin3 ⟨?_⟩
        have h2' := of_decide_eq_true h2
        simp [numFin, h1', h2']
      have h2' := of_decide_eq_false h2
      have h0 : 1 < s.size := by omega
      refine ⟨by show 0 ≤ IntKind.i64.wrap ((k : Int) - IntKind.i64.wrap ((k : Int) - 1)); rw [e]; decide, s[1], by show s[(IntKind.i64.wrap ((k : Int) - IntKind.i64.wrap ((k : Int) - 1))).toNat]? = _; rw [e]; exact atB h0, ?_⟩
      conv => whnf
      split <;> rename_i h3 <;> conv => whnf
      · have h3' : s[1].toNat = 48 := by have := eq_of_beq h3; omega
        split <;> rename_i h4 <;> conv => whnf
        · refine fin3 ⟨?_⟩
          simp [numFin, h1', h2', h0, h3']
        · refine fin3 ⟨?_⟩
          simp [numFin, h1', h2', h0, h3']
      · refine fin3 ⟨?_⟩
        have h3' : ¬ s[1].toNat = 48 := fun e => by rw [e] at h3; cases h3
        simp [numFin, h1', h2', h0, h3']
end Go.Proofs.Ytbfjcbhpbldlcaa.Rx
