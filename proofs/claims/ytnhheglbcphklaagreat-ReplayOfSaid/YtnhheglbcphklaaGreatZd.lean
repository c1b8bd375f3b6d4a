/- The texts of the proof, part 4, in order. -/
import Derived.Test.YtnhheglbcphklaaGreatZc
/- Names. -/
set_option linter.unusedVariables false
set_option linter.unusedSimpArgs false
namespace Go.Rx
def wordN (n : Int) : Bool := letN n || digN n
def runB (p : UInt8 → Bool) (s : ByteArray) : Nat := (s.data.toList.takeWhile p).length
theorem run_go {p : UInt8 → Bool} {s : ByteArray} {k : Nat} (h : k < s.size) (hp : p s[k] = true) : k + ((s.data.toList.drop k).takeWhile p).length = (k + 1) + ((s.data.toList.drop (k + 1)).takeWhile p).length := by
  rw [List.drop_eq_getElem_cons (by simpa using h), List.takeWhile_cons_of_pos (show p (s.data.toList[k]'(by simpa using h)) = true from hp), List.length_cons]; omega
theorem run_stop {p : UInt8 → Bool} {s : ByteArray} {k : Nat} (h : k < s.size) (hp : p s[k] = false) : k + ((s.data.toList.drop k).takeWhile p).length = k := by
  rw [List.drop_eq_getElem_cons (by simpa using h), List.takeWhile_cons_of_neg (by show ¬ p s[k] = true; rw [hp]; decide)]; rfl
theorem run_end {p : UInt8 → Bool} {s : ByteArray} {k : Nat} (h : s.size ≤ k) : k + ((s.data.toList.drop k).takeWhile p).length = k := by
  rw [List.drop_of_length_le (by simpa using h)]; rfl
def wordC (c : UInt8) : Bool := wordN c.toNat
def numV (n : Int) (c : UInt8) : Int := if n ≤ 1073741824 then IntKind.i64.wrap (IntKind.i64.wrap (n * 10) + IntKind.i64.wrap (IntKind.u8.wrap ((c.toNat : Int) - 48))) else n
def numGo : List UInt8 → Int → Nat → Int × Nat
  | [], n, k => (n, k)
  | c :: l, n, k => if digN c.toNat then numGo l (numV n c) (k + 1) else (n, k)
theorem num_go {s : ByteArray} {k : Nat} {n : Int} (h : k < s.size) : numGo (s.data.toList.drop k) n k = if digN s[k].toNat then numGo (s.data.toList.drop (k + 1)) (numV n s[k]) (k + 1) else (n, k) := by
  rw [List.drop_eq_getElem_cons (by simpa using h), numGo]; rfl
theorem num_end {s : ByteArray} {k : Nat} {n : Int} (h : s.size ≤ k) : numGo (s.data.toList.drop k) n k = (n, k) := by
  rw [List.drop_of_length_le (by simpa using h)]; rfl
abbrev num3 (p : Int × Int × Bool) : AV := .tup [.lf (.pv (pI p.1)), .lf (.pv (pI p.2.1)), .lf (.pv (pB p.2.2))]
/-- What is told of a number whose digits are read. -/
def numFin (s : ByteArray) (neg : Bool) (p : Int × Nat) : Int × Int × Bool :=
  if (if neg then IntKind.i64.wrap ((p.2 : Int) - 1) else p.2) = 0 then (0, p.2, false) else if 1073741824 < p.1 then (0, p.2, false)
  else if ((s[if neg then 1 else 0]?).getD 0).toNat = 48 ∧ (1 < (if neg then IntKind.i64.wrap ((p.2 : Int) - 1) else p.2) ∨ neg = true) then (0, p.2, false)
  else (IntKind.i64.wrap ((if neg then -1 else 1) * p.1), p.2, true)
def numR (s : ByteArray) : Int × Int × Bool :=
  let neg := Lib.hasPrefix s.data.toList [45]
  numFin s neg (numGo (s.data.toList.drop (if neg then 1 else 0)) 0 (if neg then 1 else 0))
end Go.Rx
namespace Go.Proofs.YtnhheglbcphklaaGreat.Rx
open Go.Rx Go.Proofs Go.Proofs.YtnhheglbcphklaaGreat.RxH

theorem size1_con (n : Int) : Con P 97 [U8 n] (Bl (wordN n)) [] := by
  refine Con.of T_ok Tryz.func97 rfl (by kernel_rfl) (by kernel_rfl) (aw_of T_ok (by kernel_rfl) ?_)
  conv => whnf
  refine callS (letter_con n) rfl ?_
  conv => whnf
  split <;> rename_i h <;> conv => whnf
  · refine finB ⟨?_⟩; rw [wordN, h]; rfl
  · refine callS (digit_con n) rfl ?_
    conv => whnf
    refine finB ⟨?_⟩; rw [wordN, h]; rfl
theorem run_con (s : ByteArray) (hs : okS s) : Con P 96 [Sx s, .lf (.fn 97 [])] (I (runB wordC s)) [] := by
  simp only [okS] at hs
  refine Con.of T_ok Tryz.func96 rfl (by kernel_rfl) (by kernel_rfl) (aw_of T_ok (by kernel_rfl) ?_)
  conv => whnf
  refine AW.loop (fun k : Nat => k ≤ s.size ∧ k + ((s.data.toList.drop k).takeWhile wordC).length = runB wordC s) (fun k => [(0, Sx s), (1, .lf (.fn 97 [])), (5, Go.Rx.I k)]) (fun _ => []) (fun k => s.size - k) [] ?_ ?_
  · exact ⟨0, ⟨Nat.zero_le _, by rw [runB, List.drop_zero, Nat.zero_add]⟩, ⟨rfl, rfl, rfl, trivial⟩, ⟨[], rfl⟩, rfl, rfl⟩
  · rintro k ⟨hk, hpre⟩
    refine aw_of T_ok (by kernel_rfl) ?_
    conv => whnf
    split <;> rename_i hlt <;> conv => whnf
    · have hks : k < s.size := by simpa using hlt
      refine ⟨by omega, s[k], atB hks, ?_⟩
      conv => whnf
      refine callS (size1_con s[k].toNat) rfl ?_
      conv => whnf
      split <;> rename_i he <;> conv => whnf
      · rw [run_go hks he] at hpre
        exact ⟨k + 1, ⟨⟨by omega, hpre⟩, by omega⟩, ⟨rfl, rfl, congrArg Go.Rx.I (wrapI (by omega)), trivial⟩, ⟨[], rfl⟩, rfl, rfl⟩
      · rw [run_stop hks he] at hpre
        exact finI ⟨by rw [hpre]⟩
    · have hks : s.size ≤ k := by simpa using hlt
      rw [run_end hks] at hpre
      exact finI ⟨by rw [hpre]⟩
theorem hasPrefix_con (a b : ByteArray) : Con P 101 [Sx a, Sx b] (Bl (Lib.hasPrefix a.data.toList b.data.toList)) [] :=
  Con.plain (vs := [.string a, .string b]) (by kernel_rfl) rfl fun w => (Tryz.strings_HasPrefix a b w).mono (by rintro e w' ⟨rfl, rfl⟩; exact ⟨rfl, RowKit.Below.refl _ _⟩)
theorem indexByte_con (a : ByteArray) (c : Int) : Con P 102 [Sx a, U8 c] (I (Lib.indexByte a.data.toList c.toNat.toUInt8)) [] :=
  Con.plain (vs := [.string a, .int .u8 c]) (by kernel_rfl) rfl fun w => (Tryz.strings_IndexByte a c w).mono (by rintro e w' ⟨rfl, rfl⟩; exact ⟨rfl, RowKit.Below.refl _ _⟩)
theorem jstring_con (s : ByteArray) (h : okS s) : ∃ (t : ByteArray) (n : Int) (ok : Bool), Con P 100 [Sx s] (.tup [.lf (.pv (pS t)), .lf (.pv (pI n)), .lf (.pv (pB ok))]) [] := by
  simp only [okS] at h
  have hf : json_String.f s = some (⟨(strGo (s.data.toList.drop 1) 1 []).1.toArray⟩, ((strGo (s.data.toList.drop 1) 1 []).2.1 : Int), (strGo (s.data.toList.drop 1) 1 []).2.2) := by
    unfold json_String.f
    rw [if_pos (by omega)]
  generalize json_String.f s = o at hf
  exact ⟨_, _, _, Con.plains (vs := [.string s]) (rs := [.string ⟨(strGo (s.data.toList.drop 1) 1 []).1.toArray⟩, .int .i64 ((strGo (s.data.toList.drop 1) 1 []).2.1 : Int), .bool (strGo (s.data.toList.drop 1) 1 []).2.2]) (by kernel_rfl) (by simp [Value.oneCell']) fun w => json_String.calls s _ _ _ w (by
    unfold json_String.f
    rw [if_pos (by omega)])⟩
theorem one_byte {s : ByteArray} (h : Lib.hasPrefix s.data.toList [45] = true) : 1 ≤ s.size := by
  unfold Lib.hasPrefix at h
  have h1 : s.data.toList.length = s.size := by simp
  generalize s.data.toList = l at h h1
  cases l with
  | nil => cases h
  | cons c l => simp at h1; omega
theorem fin3 {a b : Int} {c : Bool} {q : Int × Int × Bool} (h : Fin (a, b, c) q) : ∃ zs, Fa WkA [Go.Rx.I a, Go.Rx.I b, Bl c] zs ∧ pack zs = some (num3 q) := ⟨_, wk_refl _, by rw [← h.out]; rfl⟩
theorem number_con (s : ByteArray) (hs : okS s) : Con P 99 [Sx s] (num3 (numR s)) [] := by
  simp only [okS] at hs
  refine Con.of T_ok Tryz.func99 rfl (by kernel_rfl) (by kernel_rfl) (aw_ofC T_ok 0 (by kernel_rfl) ?_)
  conv => whnf
  refine AW.cut (fun q : Bool × Int × Nat => q.1 = Lib.hasPrefix s.data.toList [45] ∧ q.2.2 ≤ s.size ∧ (q.1 = true → 1 ≤ q.2.2) ∧ numR s = numFin s q.1 q.2) (fun q => [(0, Sx s), (2, Go.Rx.I q.2.1), (3, Go.Rx.I q.2.2), (5, Go.Rx.I (if q.1 then -1 else 1))]) (fun _ => []) [] (AW.block (aw_ofC T_ok 2 (by kernel_rfl) ?_)) ?_
  · conv => whnf
    refine AW.cut (fun neg : Bool => neg = Lib.hasPrefix s.data.toList [45]) (fun neg => [(0, Sx s), (2, Go.Rx.I 0), (3, Go.Rx.I (if neg then 1 else 0)), (5, Go.Rx.I (if neg then -1 else 1))]) (fun _ => []) [] (aw_of T_ok (by kernel_rfl) ?_) ?_
    · conv => whnf
      refine callS (hasPrefix_con s ⟨#[45]⟩) rfl ?_
      conv => whnf
      split <;> rename_i h <;> conv => whnf
      · exact ⟨true, h.symm, ⟨rfl, rfl, rfl, rfl, trivial⟩, ⟨[], rfl⟩, rfl, rfl⟩
      · exact ⟨false, h.symm, ⟨rfl, rfl, rfl, rfl, trivial⟩, ⟨[], rfl⟩, rfl, rfl⟩
    rintro neg hneg
    have hR : numR s = numFin s neg (numGo (s.data.toList.drop (if neg then 1 else 0)) 0 (if neg then 1 else 0)) := by rw [hneg]; rfl
    refine aw_of T_ok (by kernel_rfl) ?_
    conv => whnf
    refine AW.loop (fun p : Int × Nat => p.2 ≤ s.size ∧ (neg = true → 1 ≤ p.2) ∧ numGo (s.data.toList.drop p.2) p.1 p.2 = numGo (s.data.toList.drop (if neg then 1 else 0)) 0 (if neg then 1 else 0)) (fun p => [(0, Sx s), (2, Go.Rx.I p.1), (3, Go.Rx.I p.2), (5, Go.Rx.I (if neg then -1 else 1))]) (fun _ => []) (fun p => s.size - p.2) [] ?_ ?_
    · cases neg with
      | true => exact ⟨(0, 1), ⟨one_byte hneg.symm, fun _ => Nat.le_refl _, rfl⟩, ⟨rfl, rfl, rfl, rfl, trivial⟩, ⟨[], rfl⟩, rfl, rfl⟩
      | false => exact ⟨(0, 0), ⟨Nat.zero_le _, (by intro h; cases h), rfl⟩, ⟨rfl, rfl, rfl, rfl, trivial⟩, ⟨[], rfl⟩, rfl, rfl⟩
    · rintro ⟨n, k⟩ ⟨hk, hn1, hpre⟩
      simp only at hk hn1 hpre
      refine aw_of T_ok (by kernel_rfl) ?_
      conv => whnf
      split <;> rename_i hlt <;> conv => whnf
      · have hks : k < s.size := by simpa using hlt
        refine ⟨by omega, s[k], atB hks, ?_⟩
        conv => whnf
        refine callS (digit1_con s[k].toNat) rfl ?_
        conv => whnf
        rw [num_go hks] at hpre
        split <;> rename_i he <;> conv => whnf
        · rw [if_pos he] at hpre
          split <;> rename_i h1 <;> conv => whnf
          · refine ⟨by omega, s[k], atB hks, ?_⟩
            conv => whnf
            refine ⟨(numV n s[k], k + 1), ⟨⟨by show k + 1 ≤ _; omega, fun _ => by show 1 ≤ k + 1; omega, hpre⟩, by show _ - (k + 1) < _; omega⟩, ⟨rfl, ?_, congrArg Go.Rx.I (wrapI (by omega)), rfl, trivial⟩, ⟨[], rfl⟩, rfl, rfl⟩
            exact congrArg Go.Rx.I (by rw [numV, if_pos (of_decide_eq_true h1)])
          · refine ⟨(numV n s[k], k + 1), ⟨⟨by show k + 1 ≤ _; omega, fun _ => by show 1 ≤ k + 1; omega, hpre⟩, by show _ - (k + 1) < _; omega⟩, ⟨rfl, ?_, congrArg Go.Rx.I (wrapI (by omega)), rfl, trivial⟩, ⟨[], rfl⟩, rfl, rfl⟩
            exact congrArg Go.Rx.I (by rw [numV, if_neg (of_decide_eq_false h1)])
        · rw [if_neg (by rw [he]; decide)] at hpre
          exact ⟨(neg, n, k), ⟨hneg, hk, hn1, by rw [hR, ← hpre]⟩, ⟨rfl, rfl, rfl, rfl, trivial⟩, ⟨[], rfl⟩, rfl, rfl⟩
      · have hks : s.size ≤ k := by simpa using hlt
        rw [num_end hks] at hpre
        exact ⟨(neg, n, k), ⟨hneg, hk, hn1, by rw [hR, ← hpre]⟩, ⟨rfl, rfl, rfl, rfl, trivial⟩, ⟨[], rfl⟩, rfl, rfl⟩
  · rintro ⟨neg, n, k⟩ ⟨hneg, hk, hn1, hR⟩
    simp only at hk hn1 hneg hR
    rw [hR]
    refine aw_of T_ok (by kernel_rfl) ?_
    cases neg with
    | false =>
      conv => whnf
      have e : IntKind.i64.wrap ((k : Int) - k) = 0 := by rw [Int.sub_self]; rfl
      split <;> rename_i h1 <;> conv => whnf
      · refine fin3 ⟨?_⟩
        have h1' : (k : Int) = 0 := by simpa using h1
        simp [numFin, h1']
      have h1' : ¬ (k : Int) = 0 := by simpa using h1
      split <;> rename_i h2 <;> conv => whnf
      · refine fin3 ⟨?_⟩
        have h2' := of_decide_eq_true h2
        simp [numFin, h1', h2']
      have h2' := of_decide_eq_false h2
      have h0 : 0 < s.size := by omega
      refine ⟨by show 0 ≤ IntKind.i64.wrap ((k : Int) - k); rw [e]; decide, s[0], by show s[(IntKind.i64.wrap ((k : Int) - k)).toNat]? = _; rw [e]; exact atB h0, ?_⟩
      conv => whnf
      split <;> rename_i h3 <;> conv => whnf
      · have h3' : s[0].toNat = 48 := by have := eq_of_beq h3; omega
        split <;> rename_i h4 <;> conv => whnf
        · refine fin3 ⟨?_⟩
          have h4' : 1 < (k : Int) := of_decide_eq_true h4
          (simp [numFin, h1', h2', h0, h3', h4'] <;> omega)
        · refine fin3 ⟨?_⟩
          have h4' : ¬ 1 < (k : Int) := of_decide_eq_false h4
          (simp [numFin, h1', h2', h0, h3', h4'] <;> omega)
      · refine fin3 ⟨?_⟩
        have h3' : ¬ s[0].toNat = 48 := fun e => by rw [e] at h3; cases h3
        (simp [numFin, h1', h2', h0, h3'] <;> omega)
    | true =>
      have hk1 : 1 ≤ k := hn1 rfl
      conv => whnf
      have e1 : IntKind.i64.wrap ((k : Int) - 1) = (k : Int) - 1 := wrapI (by omega)
      have e : IntKind.i64.wrap ((k : Int) - IntKind.i64.wrap ((k : Int) - 1)) = 1 := by rw [e1, show (k : Int) - ((k : Int) - 1) = 1 by omega]; rfl
      split <;> rename_i h1 <;> conv => whnf
      · refine fin3 ⟨?_⟩
        have h1' : IntKind.i64.wrap ((k : Int) - 1) = 0 := by simpa using h1
        simp [numFin, h1']
      have h1' : ¬ IntKind.i64.wrap ((k : Int) - 1) = 0 := by simpa using h1
      split <;> rename_i h2 <;> conv => whnf
      · refine fin3 ⟨?_⟩
        have h2' := of_decide_eq_true h2
        simp [numFin, h1', h2']
      have h2' := of_decide_eq_false h2
      have h0 : 1 < s.size := by omega
      refine ⟨by show 0 ≤ IntKind.i64.wrap ((k : Int) - IntKind.i64.wrap ((k : Int) - 1)); rw [e]; decide, s[1], by show s[(IntKind.i64.wrap ((k : Int) - IntKind.i64.wrap ((k : Int) - 1))).toNat]? = _; rw [e]; exact atB h0, ?_⟩
      conv => whnf
      split <;> rename_i h3 <;> conv => whnf
      · have h3' : s[1].toNat = 48 := by have := eq_of_beq h3; omega
        split <;> rename_i h4 <;> conv => whnf
        · refine fin3 ⟨?_⟩
          simp [numFin, h1', h2', h0, h3']
        · refine fin3 ⟨?_⟩
          simp [numFin, h1', h2', h0, h3']
      · refine fin3 ⟨?_⟩
        have h3' : ¬ s[1].toNat = 48 := fun e => by rw [e] at h3; cases h3
        simp [numFin, h1', h2', h0, h3']
end Go.Proofs.YtnhheglbcphklaaGreat.Rx

/- Is a text a name? The program's answer. -/
set_option linter.unusedVariables false
set_option linter.unusedSimpArgs false
namespace Go.Rx
def wordL (s : ByteArray) : Int := if 12 < runB wordC s then 0 else runB wordC s
def nameB (s : ByteArray) : Bool := if h : 0 < s.size then letN s[0].toNat && (wordL s == s.size) else false
end Go.Rx
namespace Go.Proofs.YtnhheglbcphklaaGreat.Rx
open Go.Rx Go.Proofs Go.Proofs.YtnhheglbcphklaaGreat.RxH

theorem size_con (s : ByteArray) (hs : okS s) (h0 : 0 < s.size) : ∃ n : Int, Con P 90 [Sx s] (I n) [] ∧ (letN s[0].toNat = true → n = wordL s) := by
  obtain ⟨tx, tn, tok, hstr⟩ := jstring_con s hs
  have key : ∃ n : Int, (n = if letN s[0].toNat then wordL s else if ((s[0].toNat : Int) == 45) || digN s[0].toNat then (if (numR s).2.2 then (numR s).2.1 else 0)
      else if (s[0].toNat : Int) == 34 then (if tok && decide ((tx.size : Int) ≤ 40) then tn else 0) else if Lib.hasPrefix s.data.toList [46, 46, 46] then 3 else if decide ((0 : Int) ≤ Lib.indexByte [33, 36, 40, 41, 58, 61, 64, 91, 93, 123, 125] (s[0].toNat : Int).toNat.toUInt8) then 1 else 0) := ⟨_, rfl⟩
  obtain ⟨n, hn⟩ := key
  refine ⟨n, ?_, fun h => by rw [hn, if_pos h]⟩
  refine Con.of T_ok Tryz.func90 rfl (by kernel_rfl) (by kernel_rfl) (aw_of T_ok (by kernel_rfl) ?_)
  conv => whnf
  refine ⟨by omega, s[0], atB h0, ?_⟩
  conv => whnf
  refine callS (letter_con s[0].toNat) rfl ?_
  conv => whnf
  split <;> rename_i h1 <;> conv => whnf
  · rw [if_pos h1] at hn
    refine callS (run_con s hs) rfl ?_
    conv => whnf
    split <;> rename_i h2 <;> conv => whnf
    · refine finI ⟨?_⟩
      have h2' : 12 < runB wordC s := by have := of_decide_eq_true h2; omega
      rw [hn, wordL, if_pos h2']
    · refine finI ⟨?_⟩
      have h2' : ¬ 12 < runB wordC s := by have := of_decide_eq_false h2; omega
      rw [hn, wordL, if_neg h2']
  · rw [if_neg (by rw [h1]; decide)] at hn
    have num : ((s[0].toNat : Int) == 45 || digN s[0].toNat) = true → ∀ x, (if (numR s).2.2 then (numR s).2.1 else 0) = x → n = x := fun hc x hx => by rw [hn, if_pos hc, hx]
    split <;> rename_i h2 <;> conv => whnf
    · have num := num (by rw [show ((s[0].toNat : Int) == 45) = true from h2]; rfl)
      refine callS (number_con s hs) rfl ?_
      conv => whnf
      split <;> rename_i h3 <;> conv => whnf
      · exact finI ⟨(num _ (by rw [if_pos h3])).symm⟩
      · exact finI ⟨(num _ (by rw [if_neg (by rw [h3]; decide)])).symm⟩
    · refine callS (digit_con s[0].toNat) rfl ?_
      conv => whnf
      split <;> rename_i h4 <;> conv => whnf
      · have num := num (by rw [h4, Bool.or_true])
        refine callS (number_con s hs) rfl ?_
        conv => whnf
        split <;> rename_i h3 <;> conv => whnf
        · exact finI ⟨(num _ (by rw [if_pos h3])).symm⟩
        · exact finI ⟨(num _ (by rw [if_neg (by rw [h3]; decide)])).symm⟩
      · rw [if_neg (by rw [show ((s[0].toNat : Int) == 45) = false from h2, h4]; decide)] at hn
        split <;> rename_i h5 <;> conv => whnf
        · rw [if_pos (show ((s[0].toNat : Int) == 34) = true from h5)] at hn
          refine callS hstr rfl ?_
          conv => whnf
          split <;> rename_i h6 <;> conv => whnf
          · split <;> rename_i h7 <;> conv => whnf
            · refine finI ⟨?_⟩
              rw [hn, if_pos (by rw [show decide ((tx.size : Int) ≤ 40) = true from h7]; rfl)]
            · refine finI ⟨?_⟩
              rw [hn, if_neg (by rw [show decide ((tx.size : Int) ≤ 40) = false from h7]; decide)]
          · refine finI ⟨?_⟩
            rw [hn, if_neg (by rw [Bool.false_and]; decide)]
        · rw [if_neg (by rw [show ((s[0].toNat : Int) == 34) = false from h5]; decide)] at hn
          refine callS (hasPrefix_con s ⟨#[46, 46, 46]⟩) rfl ?_
          conv => whnf
          split <;> rename_i h6 <;> conv => whnf
          · exact finI ⟨by rw [hn, if_pos h6]⟩
          · rw [if_neg (by rw [h6]; decide)] at hn
            refine callS (indexByte_con ⟨#[33, 36, 40, 41, 58, 61, 64, 91, 93, 123, 125]⟩ (s[0].toNat : Int)) rfl ?_
            conv => whnf
            split <;> rename_i h7 <;> conv => whnf
            · exact finI ⟨by rw [hn, if_pos (show decide ((0 : Int) ≤ Lib.indexByte [33, 36, 40, 41, 58, 61, 64, 91, 93, 123, 125] (s[0].toNat : Int).toNat.toUInt8) = true from h7)]⟩
            · exact finI ⟨by rw [hn, if_neg (by rw [show decide ((0 : Int) ≤ Lib.indexByte [33, 36, 40, 41, 58, 61, 64, 91, 93, 123, 125] (s[0].toNat : Int).toNat.toUInt8) = false from h7]; decide)]⟩
theorem ne_empty (s : ByteArray) : (s != ⟨#[]⟩) = decide (0 < s.size) := by
  rw [Bool.eq_iff_iff, bne_iff_ne, decide_eq_true_eq]
  constructor
  · intro h
    rcases Nat.eq_zero_or_pos s.size with e | e
    · exact absurd (ByteArray.ext (Array.eq_empty_of_size_eq_zero e)) h
    · exact e
  · rintro h rfl
    exact absurd h (by decide)
theorem lexOne_con (s : ByteArray) (hs : okS s) : ∃ b, Con P 83 [Sx s] (Bl b) [] ∧ (s.size = 0 → b = false) ∧ ∀ h : 0 < s.size, letN s[0].toNat = true → b = (wordL s == s.size) := by
  by_cases h0 : 0 < s.size
  · obtain ⟨n, hc, hn⟩ := size_con s hs h0
    refine ⟨n == s.size, ?_, fun e => by omega, fun _ h => by rw [hn h]⟩
    refine Con.of T_ok Tryz.func83 rfl (by kernel_rfl) (by kernel_rfl) (aw_of T_ok (by kernel_rfl) ?_)
    conv => whnf
    split <;> rename_i h1 <;> conv => whnf
    · refine callS hc rfl ?_
      conv => whnf
      exact finB ⟨rfl⟩
    · have h1' : (s != ⟨#[]⟩) = false := h1
      rw [ne_empty, decide_eq_true h0] at h1'
      cases h1'
  · refine ⟨false, ?_, fun _ => rfl, fun h => absurd h h0⟩
    refine Con.of T_ok Tryz.func83 rfl (by kernel_rfl) (by kernel_rfl) (aw_of T_ok (by kernel_rfl) ?_)
    conv => whnf
    split <;> rename_i h1 <;> conv => whnf
    · have h1' : (s != ⟨#[]⟩) = true := h1
      rw [ne_empty, decide_eq_false h0] at h1'
      cases h1'
    · exact finB ⟨rfl⟩
theorem name_con (s : ByteArray) (hs : okS s) : Con P 65 [Sx s] (Bl (nameB s)) [] := by
  obtain ⟨b, hc, hb0, hb⟩ := lexOne_con s hs
  refine Con.of T_ok Tryz.func65 rfl (by kernel_rfl) (by kernel_rfl) (aw_of T_ok (by kernel_rfl) ?_)
  conv => whnf
  refine callS hc rfl ?_
  conv => whnf
  split <;> rename_i h1 <;> conv => whnf
  · have h0 : 0 < s.size := by
      rcases Nat.eq_zero_or_pos s.size with e | e
      · cases hb0 e
      · exact e
    refine ⟨by omega, s[0], atB h0, ?_⟩
    conv => whnf
    refine callS (letter_con s[0].toNat) rfl ?_
    conv => whnf
    refine finB ⟨?_⟩
    rw [nameB, dif_pos h0]
    cases hl : letN s[0].toNat with
    | false => rfl
    | true => rw [← hb h0 hl]; rfl
  · refine finB ⟨?_⟩
    rw [nameB]
    split
    · rename_i h0
      cases hl : letN s[0].toNat with
      | false => rfl
      | true => rw [← hb h0 hl]; rfl
    · rfl
end Go.Proofs.YtnhheglbcphklaaGreat.Rx

/- Is a text a name? The page's answer. -/
set_option linter.unusedVariables false
set_option linter.unusedSimpArgs false
namespace Go.Rx
def intGo : List UInt8 → Int → Option Int
  | [], n => some n
  | c :: l, n => if (decide ((c.toNat : Int) < 48) || decide (57 < (c.toNat : Int))) = true then none else intGo l (IntKind.i64.wrap (IntKind.i64.wrap (10 * n) + IntKind.i64.wrap (IntKind.u8.wrap ((c.toNat : Int) - 48))))
theorem int_go {s : ByteArray} {k : Nat} {n : Int} (h : k < s.size) : intGo (s.data.toList.drop k) n = if (decide ((s[k].toNat : Int) < 48) || decide (57 < (s[k].toNat : Int))) = true then none else intGo (s.data.toList.drop (k + 1)) (IntKind.i64.wrap (IntKind.i64.wrap (10 * n) + IntKind.i64.wrap (IntKind.u8.wrap ((s[k].toNat : Int) - 48)))) := by
  rw [List.drop_eq_getElem_cons (by simpa using h), intGo]; rfl
theorem int_end {s : ByteArray} {k : Nat} {n : Int} (h : s.size ≤ k) : intGo (s.data.toList.drop k) n = some n := by
  rw [List.drop_of_length_le (by simpa using h)]; rfl
def intFin (s d : ByteArray) : Int × Bool :=
  if (d.size : Int) = 0 then (0, false) else if 10 < (d.size : Int) then (0, false) else if ((d[0]?).getD 0).toNat = 48 ∧ (s != ⟨#[48]⟩) = true then (0, false)
  else match intGo d.data.toList 0 with
    | none => (0, false)
    | some n => if 1073741824 < n then (0, false) else if (d.size : Int) < s.size then (IntKind.i64.wrap (0 - n), true) else (n, true)
def intR (s : ByteArray) : Int × Bool := if 0 < s.size ∧ ((s[0]?).getD 0).toNat = 45 then intFin s (s.extract 1 s.size) else intFin s s
abbrev num2 (p : Int × Bool) : AV := .tup [.lf (.pv (pI p.1)), .lf (.pv (pB p.2))]
theorem fin2 {a : Int} {c : Bool} {q : Int × Bool} (h : Fin (a, c) q) : ∃ zs, Fa WkA [Go.Rx.I a, Bl c] zs ∧ pack zs = some (num2 q) := ⟨_, wk_refl _, by rw [← h.out]; rfl⟩
end Go.Rx
namespace Go.Proofs.YtnhheglbcphklaaGreat.Rx
open Go.Rx Go.Proofs Go.Proofs.YtnhheglbcphklaaGreat.RxH

theorem int_con (s : ByteArray) (hs : okS s) : Con P 93 [Sx s] (num2 (intR s)) [] := by
  simp only [okS] at hs
  refine Con.of T_ok Tryz.func93 rfl (by kernel_rfl) (by kernel_rfl) (aw_ofC T_ok 1002 (by kernel_rfl) ?_)
  conv => whnf
  refine AW.cut (fun d : ByteArray => d.size ≤ s.size ∧ intR s = intFin s d) (fun d => [(0, Sx s), (4, Sx d)]) (fun _ => []) [] (aw_of T_ok (by kernel_rfl) ?_) ?_
  · conv => whnf
    split <;> rename_i h1 <;> conv => whnf
    · have h0 : 0 < s.size := by have := of_decide_eq_true h1; omega
      refine ⟨by omega, s[0], atB h0, ?_⟩
      conv => whnf
      split <;> rename_i h2 <;> conv => whnf
      · have h2' : s[0].toNat = 45 := by have := eq_of_beq h2; omega
        refine ⟨by decide, by omega, by omega, ?_⟩
        conv => whnf
        refine ⟨s.extract 1 s.size, ⟨by rw [ByteArray.size_extract]; omega, ?_⟩, ⟨rfl, ?_, trivial⟩, ⟨[], rfl⟩, rfl, rfl⟩
        · rw [intR, if_pos ⟨h0, by simp [h0, h2']⟩]
        · exact congrArg Sx (by simp)
      · have h2' : ¬ s[0].toNat = 45 := fun e => by rw [e] at h2; cases h2
        exact ⟨s, ⟨Nat.le_refl _, by rw [intR, if_neg (by simp [h0, h2'])]⟩, ⟨rfl, rfl, trivial⟩, ⟨[], rfl⟩, rfl, rfl⟩
    · have h0 : ¬ 0 < s.size := by have := of_decide_eq_false h1; omega
      exact ⟨s, ⟨Nat.le_refl _, by rw [intR, if_neg (fun e => h0 e.1)]⟩, ⟨rfl, rfl, trivial⟩, ⟨[], rfl⟩, rfl, rfl⟩
  rintro d ⟨hd, hR⟩
  rw [hR]
  refine aw_ofC T_ok 1004 (by kernel_rfl) ?_
  conv => whnf
  refine AW.cut (fun _ : Unit => intFin s d = match intGo d.data.toList 0 with
    | none => (0, false)
    | some n => if 1073741824 < n then (0, false) else if (d.size : Int) < s.size then (IntKind.i64.wrap (0 - n), true) else (n, true)) (fun _ => [(0, Sx s), (4, Sx d)]) (fun _ => []) [] (aw_of T_ok (by kernel_rfl) ?_) ?_
  · conv => whnf
    split <;> rename_i h1 <;> conv => whnf
    · have h1' : (d.size : Int) = 0 := eq_of_beq h1
      exact fin2 ⟨by rw [intFin, if_pos h1']⟩
    · have h1' : ¬ (d.size : Int) = 0 := fun e => by rw [e] at h1; cases h1
      split <;> rename_i h2 <;> conv => whnf
      · have h2' : 10 < (d.size : Int) := of_decide_eq_true h2
        exact fin2 ⟨by rw [intFin, if_neg h1', if_pos h2']⟩
      · have h2' : ¬ 10 < (d.size : Int) := of_decide_eq_false h2
        have h0 : 0 < d.size := by omega
        refine ⟨by omega, d[0], atB h0, ?_⟩
        conv => whnf
        split <;> rename_i h3 <;> conv => whnf
        · have h3' : d[0].toNat = 48 := by have := eq_of_beq h3; omega
          split <;> rename_i h4 <;> conv => whnf
          · exact fin2 ⟨by rw [intFin, if_neg h1', if_neg h2', if_pos ⟨by simp [h0, h3'], h4⟩]⟩
          · exact ⟨(), by rw [intFin, if_neg h1', if_neg h2', if_neg (by rintro ⟨_, e⟩; rw [show (s != ⟨#[48]⟩) = false from h4] at e; cases e)], ⟨rfl, rfl, trivial⟩, ⟨[], rfl⟩, rfl, rfl⟩
        · have h3' : ¬ d[0].toNat = 48 := fun e => by rw [e] at h3; cases h3
          exact ⟨(), by rw [intFin, if_neg h1', if_neg h2', if_neg (by simp [h0, h3'])], ⟨rfl, rfl, trivial⟩, ⟨[], rfl⟩, rfl, rfl⟩
  rintro _ hI
  rw [hI]
  refine aw_of T_ok (by kernel_rfl) ?_
  conv => whnf
  refine AW.loop (fun p : Nat × Int => p.1 ≤ d.size ∧ intGo (d.data.toList.drop p.1) p.2 = intGo d.data.toList 0) (fun p => [(0, Sx s), (4, Sx d), (5, Go.Rx.I p.2), (6, Go.Rx.I p.1)]) (fun _ => []) (fun p => d.size - p.1) [] ?_ ?_
  · exact ⟨(0, 0), ⟨Nat.zero_le _, rfl⟩, ⟨rfl, rfl, rfl, rfl, trivial⟩, ⟨[], rfl⟩, rfl, rfl⟩
  rintro ⟨k, n⟩ ⟨hk, hpre⟩
  simp only at hk hpre
  rw [← hpre]
  refine aw_of T_ok (by kernel_rfl) ?_
  conv => whnf
  split <;> rename_i hlt <;> conv => whnf
  · have hks : k < d.size := by simpa using hlt
    refine ⟨by omega, d[k], atB hks, ?_⟩
    conv => whnf
    split <;> rename_i h4 <;> conv => whnf
    · refine fin2 ⟨?_⟩
      rw [int_go hks, if_pos (by rw [show decide ((d[k].toNat : Int) < 48) = true from h4]; rfl)]
    · refine ⟨by omega, d[k], atB hks, ?_⟩
      conv => whnf
      split <;> rename_i h5 <;> conv => whnf
      · refine fin2 ⟨?_⟩
        rw [int_go hks, if_pos (by rw [show decide (57 < (d[k].toNat : Int)) = true from h5, Bool.or_true])]
      · refine ⟨by omega, d[k], atB hks, ?_⟩
        conv => whnf
        have hst : intGo (d.data.toList.drop (k + 1)) (IntKind.i64.wrap (IntKind.i64.wrap (10 * n) + IntKind.i64.wrap (IntKind.u8.wrap ((d[k].toNat : Int) - 48)))) = intGo (d.data.toList.drop k) n := by
          rw [int_go (n := n) hks, if_neg (by rw [show decide ((d[k].toNat : Int) < 48) = false from h4, show decide (57 < (d[k].toNat : Int)) = false from h5]; decide)]
        exact ⟨(k + 1, IntKind.i64.wrap (IntKind.i64.wrap (10 * n) + IntKind.i64.wrap (IntKind.u8.wrap ((d[k].toNat : Int) - 48)))), ⟨⟨by show k + 1 ≤ _; omega, hst⟩, by show _ - (k + 1) < _; omega⟩, ⟨rfl, rfl, rfl, congrArg Go.Rx.I (wrapI (by omega)), trivial⟩, ⟨[], rfl⟩, rfl, rfl⟩
  · have hks : d.size ≤ k := by simpa using hlt
    rw [int_end hks]
    split <;> rename_i h4 <;> conv => whnf
    · exact fin2 ⟨by simp only; rw [if_pos (of_decide_eq_true h4)]⟩
    · have h4' := of_decide_eq_false h4
      split <;> rename_i h5 <;> conv => whnf
      · exact fin2 ⟨by simp only; rw [if_neg h4', if_pos (of_decide_eq_true h5)]⟩
      · exact fin2 ⟨by simp only; rw [if_neg h4', if_neg (of_decide_eq_false h5)]⟩
end Go.Proofs.YtnhheglbcphklaaGreat.Rx

/- Is a text a name? The page's answer, all of it. -/
set_option linter.unusedVariables false
set_option linter.unusedSimpArgs false
namespace Go.Rx
def badB (c : UInt8) : Bool := decide ((c.toNat : Int) < 32) || decide (126 < (c.toNat : Int))
def textGo : List UInt8 → Int → ByteArray → Int × ByteArray
  | [], _, _ => (0, ⟨#[]⟩)
  | c :: t, i, b =>
    if ((c.toNat : Int) == 34) = true then (if 40 < (b.size : Int) then (0, ⟨#[]⟩) else (i + 1, b))
    else if ((c.toNat : Int) == 92) = true then
      (match t with
       | [] => (0, ⟨#[]⟩)
       | e :: t' => if (((e.toNat : Int) != 34) && ((e.toNat : Int) != 92)) = true then (0, ⟨#[]⟩) else if badB e then (0, ⟨#[]⟩) else textGo t' (i + 2) (b.push e))
    else if badB c then (0, ⟨#[]⟩) else textGo t (i + 1) (b.push c)
theorem text_cons (c : UInt8) (t : List UInt8) (i : Int) (b : ByteArray) : textGo (c :: t) i b =
    if ((c.toNat : Int) == 34) = true then (if 40 < (b.size : Int) then (0, ⟨#[]⟩) else (i + 1, b))
    else if ((c.toNat : Int) == 92) = true then
      (match t with
       | [] => (0, ⟨#[]⟩)
       | e :: t' => if (((e.toNat : Int) != 34) && ((e.toNat : Int) != 92)) = true then (0, ⟨#[]⟩) else if badB e then (0, ⟨#[]⟩) else textGo t' (i + 2) (b.push e))
    else if badB c then (0, ⟨#[]⟩) else textGo t (i + 1) (b.push c) := by
  cases t <;> rw [textGo.eq_def]
theorem dropB (s : ByteArray) (k : Nat) (h : k < s.size) : s.data.toList.drop k = s[k] :: s.data.toList.drop (k + 1) := by
  rw [List.drop_eq_getElem_cons (by simpa using h)]; rfl
theorem dropE {s : ByteArray} {k : Nat} (h : s.size ≤ k) : s.data.toList.drop k = [] := List.drop_of_length_le (by simpa using h)
theorem push_rows (b : ByteArray) (c : UInt8) : byteRows (b.push c) = byteRows b ++ [[pU8 c.toNat]] := by
  unfold byteRows ByteArray.push
  simp
abbrev numS (p : Int × ByteArray) : AV := .tup [.lf (.pv (pI p.1)), .lf (.pv (pS p.2))]
theorem finS {a : Int} {c : ByteArray} {q : Int × ByteArray} (h : Fin (a, c) q) : ∃ zs, Fa WkA [Go.Rx.I a, Sx c] zs ∧ pack zs = some (numS q) := ⟨_, wk_refl _, by rw [← h.out]; rfl⟩
end Go.Rx
namespace Go.Proofs.YtnhheglbcphklaaGreat.Rx
open Go.Rx Go.Proofs Go.Proofs.YtnhheglbcphklaaGreat.RxH

theorem text_con (s : ByteArray) (hs : okS s) : Con P 94 [Sx s] (numS (textGo (s.data.toList.drop 1) 1 ⟨#[]⟩)) [] := by
  simp only [okS] at hs
  refine Con.of T_ok Tryz.func94 rfl (by kernel_rfl) (by kernel_rfl) (aw_of T_ok (by kernel_rfl) ?_)
  conv => whnf
  refine AW.loop (fun p : Nat × ByteArray => 1 ≤ p.1 ∧ p.1 ≤ s.size + 1 ∧ p.2.size < p.1 ∧ textGo (s.data.toList.drop p.1) p.1 p.2 = textGo (s.data.toList.drop 1) 1 ⟨#[]⟩) (fun p => [(0, Sx s), (4, .lf (.own 0 p.2.size)), (5, Go.Rx.I p.1)]) (fun p => [.arr 5 1 (byteRows p.2)]) (fun p => s.size + 1 - p.1) [.slot 4 5 1] ?_ ?_
  · exact ⟨rfl, (1, ⟨#[]⟩), ⟨Nat.le_refl _, by omega, by decide, rfl⟩, ⟨rfl, rfl, rfl, trivial⟩, ⟨[], rfl⟩, rfl, rfl⟩
  rintro ⟨k, b⟩ ⟨hk1, hk, hb, hpre⟩
  simp only at hk1 hk hb hpre
  rw [← hpre]
  refine aw_of T_ok (by kernel_rfl) ?_
  conv => whnf
  split <;> rename_i hlt <;> conv => whnf
  · have hks : k < s.size := by simpa using hlt
    rw [dropB s k hks]
    refine ⟨by omega, s[k], atB hks, ?_⟩
    conv => whnf
    split <;> rename_i h1 <;> conv => whnf
    · refine ⟨by simp [byteRows], ?_⟩
      conv => whnf
      split <;> rename_i h2 <;> conv => whnf
      · refine finS ⟨?_⟩
        rw [text_cons, if_pos h1, if_pos (of_decide_eq_true h2)]
      · refine AW.draw T_ok rfl (seqPl 0 6) (by kernel_rfl) (by kernel_rfl) ?_
        conv => whnf
        refine ⟨by simp [byteRows], b, rfl, ?_⟩
        conv => whnf
        refine finS ⟨?_⟩
        rw [text_cons, if_pos h1, if_neg (of_decide_eq_false h2)]
        exact congrArg (·, b) (wrapI (by omega))
    · have h1' : ¬ ((s[k].toNat : Int) == 34) = true := by rw [h1]; decide
      split <;> rename_i h2 <;> conv => whnf
      · have e1 : IntKind.i64.wrap ((k : Int) + 1) = (k : Int) + 1 := wrapI (by omega)
        split <;> rename_i h3 <;> conv => whnf
        · refine finS ⟨?_⟩
          have h3' : s.size ≤ k + 1 := by have : ((s.size : Int) ≤ IntKind.i64.wrap ((k : Int) + 1)) := of_decide_eq_true h3; rw [e1] at this; omega
          rw [dropE h3', text_cons, if_neg h1', if_pos h2]
        · have hks2 : k + 1 < s.size := by have : ¬ ((s.size : Int) ≤ IntKind.i64.wrap ((k : Int) + 1)) := of_decide_eq_false h3; rw [e1] at this; omega
          rw [dropB s (k + 1) hks2]
          have ix : s[(IntKind.i64.wrap ((k : Int) + 1)).toNat]? = some s[k + 1] := by rw [e1]; exact atB hks2
          refine ⟨by show 0 ≤ IntKind.i64.wrap ((k : Int) + 1); rw [e1]; omega, s[k + 1], ix, ?_⟩
          conv => whnf
          split <;> rename_i h4 <;> conv => whnf
          · refine ⟨by show 0 ≤ IntKind.i64.wrap ((k : Int) + 1); rw [e1]; omega, s[k + 1], ix, ?_⟩
            conv => whnf
            split <;> rename_i h5 <;> conv => whnf
            · refine finS ⟨?_⟩
              rw [text_cons, if_neg h1', if_pos h2]
              simp only
              rw [if_pos (by rw [show ((s[k + 1].toNat : Int) != 34) = true from h4, show ((s[k + 1].toNat : Int) != 92) = true from h5]; rfl)]
            · have hne : (((s[k + 1].toNat : Int) != 34) && ((s[k + 1].toNat : Int) != 92)) = false := by rw [show ((s[k + 1].toNat : Int) != 92) = false from h5, Bool.and_false]
              refine ⟨by show 0 ≤ IntKind.i64.wrap ((k : Int) + 1); rw [e1]; omega, s[k + 1], ix, ?_⟩
              conv => whnf
              split <;> rename_i h7 <;> conv => whnf
              · refine finS ⟨?_⟩
                have hbad : badB s[k + 1] = true := by rw [badB, show decide ((s[k + 1].toNat : Int) < 32) = true from h7]; rfl
                rw [text_cons, if_neg h1', if_pos h2]; simp only; rw [if_neg (by rw [hne]; decide), if_pos hbad]
              · split <;> rename_i h8 <;> conv => whnf
                · refine finS ⟨?_⟩
                  have hbad : badB s[k + 1] = true := by rw [badB, show decide (126 < (s[k + 1].toNat : Int)) = true from h8, Bool.or_true]
                  rw [text_cons, if_neg h1', if_pos h2]; simp only; rw [if_neg (by rw [hne]; decide), if_pos hbad]
                · have hbad : badB s[k + 1] = false := by rw [badB, show decide ((s[k + 1].toNat : Int) < 32) = false from h7, show decide (126 < (s[k + 1].toNat : Int)) = false from h8]; rfl
                  refine ⟨rfl, _, .inl rfl, ?_⟩
                  conv => whnf
                  refine ⟨by simp [byteRows], by show (b.size + 1) * 1 ≤ _; omega, ?_⟩
                  conv => whnf
                  refine ⟨(k + 2, b.push s[k + 1]), ⟨⟨by show 1 ≤ k + 2; omega, by show k + 2 ≤ _; omega, by show (b.push s[k + 1]).size < k + 2; rw [ByteArray.size_push]; omega, ?_⟩, by show _ - (k + 2) < _; omega⟩, ⟨rfl, congrArg (fun n => AV.lf (.own 0 n)) (ByteArray.size_push ..).symm, congrArg Go.Rx.I ?_, trivial⟩, ⟨[?r1], ?e1⟩, rfl, rfl⟩
                  case e1 => show _ = [Blk.arr _ _ (byteRows (b.push s[k + 1]))] ++ [_]; rw [push_rows]; rfl
                  · show textGo (s.data.toList.drop (k + 2)) ((k + 2 : Nat) : Int) _ = _
                    rw [text_cons, if_neg h1', if_pos h2]; simp only; rw [if_neg (by rw [hne]; decide), if_neg (by rw [hbad]; decide)]; rfl
                  · show IntKind.i64.wrap (IntKind.i64.wrap ((k : Int) + 1) + 1) = _
                    rw [e1]; rw [wrapI (by omega)]; show _ = ((k + 2 : Nat) : Int); omega
          · have hne : (((s[k + 1].toNat : Int) != 34) && ((s[k + 1].toNat : Int) != 92)) = false := by rw [show ((s[k + 1].toNat : Int) != 34) = false from h4]; rfl
            refine ⟨by show 0 ≤ IntKind.i64.wrap ((k : Int) + 1); rw [e1]; omega, s[k + 1], ix, ?_⟩
            conv => whnf
            split <;> rename_i h7 <;> conv => whnf
            · refine finS ⟨?_⟩
              have hbad : badB s[k + 1] = true := by rw [badB, show decide ((s[k + 1].toNat : Int) < 32) = true from h7]; rfl
              rw [text_cons, if_neg h1', if_pos h2]; simp only; rw [if_neg (by rw [hne]; decide), if_pos hbad]
            · split <;> rename_i h8 <;> conv => whnf
              · refine finS ⟨?_⟩
                have hbad : badB s[k + 1] = true := by rw [badB, show decide (126 < (s[k + 1].toNat : Int)) = true from h8, Bool.or_true]
                rw [text_cons, if_neg h1', if_pos h2]; simp only; rw [if_neg (by rw [hne]; decide), if_pos hbad]
              · have hbad : badB s[k + 1] = false := by rw [badB, show decide ((s[k + 1].toNat : Int) < 32) = false from h7, show decide (126 < (s[k + 1].toNat : Int)) = false from h8]; rfl
                refine ⟨rfl, _, .inl rfl, ?_⟩
                conv => whnf
                refine ⟨by simp [byteRows], by show (b.size + 1) * 1 ≤ _; omega, ?_⟩
                conv => whnf
                refine ⟨(k + 2, b.push s[k + 1]), ⟨⟨by show 1 ≤ k + 2; omega, by show k + 2 ≤ _; omega, by show (b.push s[k + 1]).size < k + 2; rw [ByteArray.size_push]; omega, ?_⟩, by show _ - (k + 2) < _; omega⟩, ⟨rfl, congrArg (fun n => AV.lf (.own 0 n)) (ByteArray.size_push ..).symm, congrArg Go.Rx.I ?_, trivial⟩, ⟨[?r2], ?e2⟩, rfl, rfl⟩
                case e2 => show _ = [Blk.arr _ _ (byteRows (b.push s[k + 1]))] ++ [_]; rw [push_rows]; rfl
                · show textGo (s.data.toList.drop (k + 2)) ((k + 2 : Nat) : Int) _ = _
                  rw [text_cons, if_neg h1', if_pos h2]; simp only; rw [if_neg (by rw [hne]; decide), if_neg (by rw [hbad]; decide)]; rfl
                · show IntKind.i64.wrap (IntKind.i64.wrap ((k : Int) + 1) + 1) = _
                  rw [e1]; rw [wrapI (by omega)]; show _ = ((k + 2 : Nat) : Int); omega
      · have h2' : ¬ ((s[k].toNat : Int) == 92) = true := by rw [h2]; decide
        split <;> rename_i h7 <;> conv => whnf
        · refine finS ⟨?_⟩
          have hbad : badB s[k] = true := by rw [badB, show decide ((s[k].toNat : Int) < 32) = true from h7]; rfl
          rw [text_cons, if_neg h1', if_neg h2', if_pos hbad]
        · split <;> rename_i h8 <;> conv => whnf
          · refine finS ⟨?_⟩
            have hbad : badB s[k] = true := by rw [badB, show decide (126 < (s[k].toNat : Int)) = true from h8, Bool.or_true]
            rw [text_cons, if_neg h1', if_neg h2', if_pos hbad]
          · have hbad : badB s[k] = false := by rw [badB, show decide ((s[k].toNat : Int) < 32) = false from h7, show decide (126 < (s[k].toNat : Int)) = false from h8]; rfl
            refine ⟨rfl, _, .inl rfl, ?_⟩
            conv => whnf
            refine ⟨by simp [byteRows], by show (b.size + 1) * 1 ≤ _; omega, ?_⟩
            conv => whnf
            refine ⟨(k + 1, b.push s[k]), ⟨⟨by show 1 ≤ k + 1; omega, by show k + 1 ≤ _; omega, by show (b.push s[k]).size < k + 1; rw [ByteArray.size_push]; omega, ?_⟩, by show _ - (k + 1) < _; omega⟩, ⟨rfl, congrArg (fun n => AV.lf (.own 0 n)) (ByteArray.size_push ..).symm, congrArg Go.Rx.I ?_, trivial⟩, ⟨[?r3], ?e3⟩, rfl, rfl⟩
            case e3 => show _ = [Blk.arr _ _ (byteRows (b.push s[k]))] ++ [_]; rw [push_rows]; rfl
            · show textGo (s.data.toList.drop (k + 1)) ((k + 1 : Nat) : Int) _ = _
              rw [text_cons, if_neg h1', if_neg h2', if_neg (by rw [hbad]; decide)]; rfl
            · show IntKind.i64.wrap ((k : Int) + 1) = _
              rw [wrapI (by omega)]; show _ = ((k + 1 : Nat) : Int); omega
  · have hks : s.size ≤ k := by simpa using hlt
    rw [dropE hks]
    exact finS ⟨rfl⟩
end Go.Proofs.YtnhheglbcphklaaGreat.Rx

/- One word, and names, as the page has them. -/
set_option linter.unusedVariables false
set_option linter.unusedSimpArgs false
namespace Go.Rx
def digC (c : UInt8) : Bool := digN c.toNat
def signB : List UInt8 := [33, 36, 40, 41, 58, 61, 64, 91, 93, 123, 125]
def numL (s : ByteArray) : Nat := 1 + ((s.data.toList.drop 1).takeWhile digC).length
def oneI (s : ByteArray) (c : UInt8) : Int :=
  if letN c.toNat then wordL s else if ((c.toNat : Int) == 45) || digN c.toNat then (if (intR (s.extract 0 (numL s))).2 then (numL s : Int) else 0)
  else if (c.toNat : Int) == 34 then (textGo (s.data.toList.drop 1) 1 ⟨#[]⟩).1
  else if decide (2 < (s.size : Int)) && (s.extract 0 3 == ⟨#[46, 46, 46]⟩) then 3 else if signB.any (fun x => ((x.toNat : Int) == c.toNat)) then 1 else 0
theorem any_go {α : Type} {p : α → Bool} {l : List α} {k : Nat} (h : k < l.length) : (l.drop k).any p = (p l[k] || (l.drop (k + 1)).any p) := by
  rw [List.drop_eq_getElem_cons h, List.any_cons]
theorem any_end {α : Type} {p : α → Bool} {l : List α} {k : Nat} (h : l.length ≤ k) : (l.drop k).any p = false := by
  rw [List.drop_of_length_le h]; rfl
end Go.Rx
namespace Go.Proofs.YtnhheglbcphklaaGreat.Rx
open Go.Rx Go.Proofs Go.Proofs.YtnhheglbcphklaaGreat.RxH

theorem one_con (s : ByteArray) (hs : okS s) (h0 : 0 < s.size) : Con P 88 [Sx s] (I (oneI s s[0])) [] := by
  have hs' := hs
  simp only [okS] at hs
  refine Con.of T_ok Tryz.func88 rfl (by kernel_rfl) (by kernel_rfl) (aw_ofC T_ok 0 (by kernel_rfl) ?_)
  conv => whnf
  refine ⟨by omega, s[0], atB h0, ?_⟩
  conv => whnf
  refine AW.cut (fun _ : Unit => oneI s s[0] = if signB.any (fun x => ((x.toNat : Int) == s[0].toNat)) then 1 else 0) (fun _ => [(4, U8 s[0].toNat)]) (fun _ => []) [] (AW.block (aw_ofC T_ok 2009 (by kernel_rfl) ?_)) ?_
  rotate_left
  · rintro _ hI
    rw [hI]
    refine aw_of T_ok (by kernel_rfl) ?_
    conv => whnf
    refine ⟨rfl, ?_⟩
    conv => whnf
    refine AW.loop (fun k : Nat => k ≤ 11 ∧ (signB.drop k).any (fun x => ((x.toNat : Int) == s[0].toNat)) = signB.any (fun x => ((x.toNat : Int) == s[0].toNat))) (fun k => [(4, U8 s[0].toNat), (83, .lf (.pv (.sl 1 (signB.map fun c => [pU8 c.toNat])))), (84, Go.Rx.I 11), (85, Go.Rx.I k)]) (fun _ => []) (fun k => 11 - k) [] ?_ ?_
    · exact ⟨0, ⟨Nat.zero_le _, rfl⟩, ⟨rfl, rfl, rfl, rfl, trivial⟩, ⟨_, rfl⟩, rfl, rfl⟩
    rintro k ⟨hk, hpre⟩
    rw [← hpre]
    refine aw_of T_ok (by kernel_rfl) ?_
    conv => whnf
    split <;> rename_i hlt <;> conv => whnf
    · have hk11 : k < 11 := by have := of_decide_eq_true hlt; omega
      have hks : k < signB.length := hk11
      rw [any_go hks]
      refine ⟨by omega, [pU8 signB[k].toNat], by rw [Int.toNat_natCast, List.getElem?_map, List.getElem?_eq_getElem hks]; rfl, ?_⟩
      conv => whnf
      split <;> rename_i he <;> conv => whnf
      · exact finI ⟨by rw [if_pos (by rw [show ((signB[k].toNat : Int) == s[0].toNat) = true from he]; rfl)]⟩
      · refine ⟨k + 1, ⟨⟨by omega, ?_⟩, by omega⟩, ⟨rfl, rfl, rfl, congrArg Go.Rx.I (wrapI (by omega)), trivial⟩, ⟨[], rfl⟩, rfl, rfl⟩
        rw [show ((signB[k].toNat : Int) == s[0].toNat) = false from he, Bool.false_or]
    · have hks : signB.length ≤ k := by have := of_decide_eq_false hlt; show 11 ≤ k; omega
      exact finI ⟨by rw [any_end hks]; rfl⟩
  conv => whnf
  refine callS (letter2_con s[0].toNat) rfl ?_
  conv => whnf
  split <;> rename_i h1 <;> conv => whnf
  · rw [oneI, if_pos h1]
    refine AW.loop (fun k : Nat => k ≤ s.size ∧ k + ((s.data.toList.drop k).takeWhile wordC).length = runB wordC s) (fun k => [(0, Sx s), (3, Go.Rx.I k)]) (fun _ => []) (fun k => s.size - k) [] ?_ ?_
    · exact ⟨0, ⟨Nat.zero_le _, by rw [runB, List.drop_zero, Nat.zero_add]⟩, ⟨rfl, rfl, trivial⟩, ⟨[], rfl⟩, rfl, rfl⟩
    rintro k ⟨hk, hpre⟩
    have fin : k = runB wordC s → ∀ b, decide (12 < (k : Int)) = b → (if b then (0 : Int) else k) = wordL s := fun h b hb => by
      subst hb
      rw [wordL, ← h]
      by_cases c : 12 < k
      · rw [if_pos c, if_pos (decide_eq_true (by omega))]
      · rw [if_neg c, if_neg (by rw [decide_eq_false (by omega)]; decide)]
    refine aw_of T_ok (by kernel_rfl) ?_
    conv => whnf
    split <;> rename_i hlt <;> conv => whnf
    · have hks : k < s.size := by simpa using hlt
      refine ⟨by omega, s[k], atB hks, ?_⟩
      conv => whnf
      refine callS (letter2_con s[k].toNat) rfl ?_
      conv => whnf
      split <;> rename_i h2 <;> conv => whnf
      · have hw : wordC s[k] = true := by rw [wordC, wordN, h2]; rfl
        rw [run_go hks hw] at hpre
        exact ⟨k + 1, ⟨⟨by omega, hpre⟩, by omega⟩, ⟨rfl, congrArg Go.Rx.I (wrapI (by omega)), trivial⟩, ⟨[], rfl⟩, rfl, rfl⟩
      · refine ⟨by omega, s[k], atB hks, ?_⟩
        conv => whnf
        refine callS (digit2_con s[k].toNat) rfl ?_
        conv => whnf
        split <;> rename_i h3 <;> conv => whnf
        · have hw : wordC s[k] = true := by rw [wordC, wordN, h3, Bool.or_true]
          rw [run_go hks hw] at hpre
          exact ⟨k + 1, ⟨⟨by omega, hpre⟩, by omega⟩, ⟨rfl, congrArg Go.Rx.I (wrapI (by omega)), trivial⟩, ⟨[], rfl⟩, rfl, rfl⟩
        · have hw : wordC s[k] = false := by rw [wordC, wordN, h2, h3]; rfl
          rw [run_stop hks hw] at hpre
          split <;> rename_i h4 <;> conv => whnf
          · exact finI ⟨fin hpre _ h4⟩
          · exact finI ⟨fin hpre _ h4⟩
    · have hks : s.size ≤ k := by simpa using hlt
      rw [run_end hks] at hpre
      split <;> rename_i h4 <;> conv => whnf
      · exact finI ⟨fin hpre _ h4⟩
      · exact finI ⟨fin hpre _ h4⟩
  rw [oneI, if_neg (by rw [h1]; decide)]
  refine AW.cut (fun _ : Unit => True) (fun _ => [(0, Sx s), (4, U8 s[0].toNat), (35, Bl (((s[0].toNat : Int) == 45) || digN s[0].toNat))]) (fun _ => []) [] (aw_of T_ok (by kernel_rfl) ?_) ?_
  · conv => whnf
    split <;> rename_i h2 <;> conv => whnf
    · exact ⟨(), trivial, ⟨rfl, rfl, congrArg Bl (by rw [show ((s[0].toNat : Int) == 45) = true from h2]; rfl), trivial⟩, ⟨[], rfl⟩, rfl, rfl⟩
    · refine callS (digit2_con s[0].toNat) rfl ?_
      conv => whnf
      exact ⟨(), trivial, ⟨rfl, rfl, congrArg Bl (by rw [show ((s[0].toNat : Int) == 45) = false from h2]; rfl), trivial⟩, ⟨[], rfl⟩, rfl, rfl⟩
  rintro _ _
  refine aw_of T_ok (by kernel_rfl) ?_
  conv => whnf
  split <;> rename_i h2 <;> conv => whnf
  · rw [if_pos h2]
    refine AW.loop (fun k : Nat => 1 ≤ k ∧ k ≤ s.size ∧ k + ((s.data.toList.drop k).takeWhile digC).length = numL s) (fun k => [(0, Sx s), (3, Go.Rx.I k)]) (fun _ => []) (fun k => s.size - k) [] ?_ ?_
    · exact ⟨1, ⟨Nat.le_refl _, h0, rfl⟩, ⟨rfl, rfl, trivial⟩, ⟨[], rfl⟩, rfl, rfl⟩
    rintro k ⟨hk1, hk, hpre⟩
    have okx : okS (s.extract 0 k) := by simp only [okS, ByteArray.size_extract]; omega
    refine aw_of T_ok (by kernel_rfl) ?_
    conv => whnf
    split <;> rename_i hlt <;> conv => whnf
    · have hks : k < s.size := by simpa using hlt
      refine ⟨by omega, s[k], atB hks, ?_⟩
      conv => whnf
      refine callS (digit2_con s[k].toNat) rfl ?_
      conv => whnf
      split <;> rename_i h3 <;> conv => whnf
      · have hw : digC s[k] = true := h3
        rw [run_go hks hw] at hpre
        exact ⟨k + 1, ⟨⟨by omega, by omega, hpre⟩, by omega⟩, ⟨rfl, congrArg Go.Rx.I (wrapI (by omega)), trivial⟩, ⟨[], rfl⟩, rfl, rfl⟩
      · have hw : digC s[k] = false := h3
        rw [run_stop hks hw] at hpre
        refine ⟨by decide, by omega, by omega, ?_⟩
        conv => whnf
        refine callS (int_con (s.extract 0 k) okx) rfl ?_
        conv => whnf
        rw [← hpre]
        split <;> rename_i h4 <;> conv => whnf
        · exact finI ⟨by rw [if_neg (by rw [show (intR (s.extract 0 k)).2 = false by simpa using h4]; decide)]⟩
        · exact finI ⟨by rw [if_pos (by simpa using h4)]⟩
    · have hks : s.size ≤ k := by simpa using hlt
      rw [run_end hks] at hpre
      refine ⟨by decide, by omega, by omega, ?_⟩
      conv => whnf
      refine callS (int_con (s.extract 0 k) okx) rfl ?_
      conv => whnf
      rw [← hpre]
      split <;> rename_i h4 <;> conv => whnf
      · exact finI ⟨by rw [if_neg (by rw [show (intR (s.extract 0 k)).2 = false by simpa using h4]; decide)]⟩
      · exact finI ⟨by rw [if_pos (by simpa using h4)]⟩
  rw [if_neg (by rw [h2]; decide)]
  split <;> rename_i h3 <;> conv => whnf
  · rw [if_pos h3]
    refine callS (text_con s hs') rfl ?_
    conv => whnf
    exact finI ⟨rfl⟩
  rw [if_neg (by rw [h3]; decide)]
  split <;> rename_i h4 <;> conv => whnf
  · have h4' : 2 < (s.size : Int) := of_decide_eq_true h4
    refine ⟨by decide, by decide, by omega, ?_⟩
    conv => whnf
    split <;> rename_i h5 <;> conv => whnf
    · exact finI ⟨by rw [if_pos (by rw [show decide (2 < (s.size : Int)) = true from h4]; simpa using h5)]⟩
    · rw [if_neg (by rw [show (s.extract 0 3 == ⟨#[46, 46, 46]⟩) = false by simpa using h5, Bool.and_false]; decide)]
      exact ⟨(), rfl, ⟨rfl, trivial⟩, ⟨[], rfl⟩, rfl, rfl⟩
  · rw [if_neg (by rw [show decide (2 < (s.size : Int)) = false from h4, Bool.false_and]; decide)]
    exact ⟨(), rfl, ⟨rfl, trivial⟩, ⟨[], rfl⟩, rfl, rfl⟩
end Go.Proofs.YtnhheglbcphklaaGreat.Rx

/- Names, and steps. -/
set_option linter.unusedVariables false
set_option linter.unusedSimpArgs false
namespace Go.Rx
def numB (n : Int) : Bool := decide (-1073741824 ≤ n) && decide (n ≤ 1073741824)
def okStep (x : Step) : Bool := nameB x.nm && pairB x.service x.op x.undo && shortB x.who && numB x.n
def okAt (l : List Step) (k : Nat) : Bool := match l[k]? with | some x => okStep x && !((l.take k).any fun s => s.nm == x.nm) | none => true
def stepsAll (l : List Step) : Bool := (List.range l.length).all (okAt l)
def stepsB (l : List Step) : Bool := stepsAll l && (decide (1 ≤ l.length) && decide (l.length ≤ 5))
theorem okAt_eq {l : List Step} {k : Nat} (h : k < l.length) : okAt l k = (okStep l[k] && !((l.take k).any fun s => s.nm == l[k].nm)) := by
  rw [okAt, List.getElem?_eq_getElem h]
theorem all_yes {l : List Step} (h : ∀ j, j < l.length → okAt l j = true) : stepsAll l = true := by
  rw [stepsAll, List.all_eq_true]
  intro j hj
  exact h j (List.mem_range.1 hj)
theorem all_no {l : List Step} {k : Nat} (hk : k < l.length) (h : okAt l k = false) : stepsAll l = false := by
  rw [stepsAll, List.all_eq_false]
  exact ⟨k, List.mem_range.2 hk, by rw [h]; decide⟩
theorem pair_no {n : Int} (h : ¬ (1 ≤ n ∧ n ≤ 4)) (d u : ByteArray) : pairB n d u = false := by
  have e : opsS n = [] := by unfold opsS; rw [if_neg (by omega), if_neg (by omega), if_neg (by omega), if_neg (by omega)]
  rw [pairB, e]; rfl
end Go.Rx
namespace Go.Proofs.YtnhheglbcphklaaGreat.Rx
open Go.Rx Go.Proofs Go.Proofs.YtnhheglbcphklaaGreat.RxH

theorem word2_con (s : ByteArray) (hs : okS s) : ∃ b, Con P 74 [Sx s] (Bl b) [] ∧ (s.size = 0 → b = false) ∧ ∀ h : 0 < s.size, letN s[0].toNat = true → b = (wordL s == s.size) := by
  by_cases h0 : 0 < s.size
  · refine ⟨oneI s s[0] == s.size, ?_, fun e => by omega, fun _ h => by rw [oneI, if_pos h]⟩
    refine Con.of T_ok Tryz.func74 rfl (by kernel_rfl) (by kernel_rfl) (aw_of T_ok (by kernel_rfl) ?_)
    conv => whnf
    split <;> rename_i h1 <;> conv => whnf
    · refine callS (one_con s hs h0) rfl ?_
      conv => whnf
      exact finB ⟨rfl⟩
    · have := of_decide_eq_false h1
      omega
  · refine ⟨false, ?_, fun _ => rfl, fun h => absurd h h0⟩
    refine Con.of T_ok Tryz.func74 rfl (by kernel_rfl) (by kernel_rfl) (aw_of T_ok (by kernel_rfl) ?_)
    conv => whnf
    split <;> rename_i h1 <;> conv => whnf
    · have := of_decide_eq_true h1
      omega
    · exact finB ⟨rfl⟩
theorem name2_con (s : ByteArray) (hs : okS s) : Con P 53 [Sx s] (Bl (nameB s)) [] := by
  obtain ⟨b, hc, hb0, hb⟩ := word2_con s hs
  refine Con.of T_ok Tryz.func53 rfl (by kernel_rfl) (by kernel_rfl) (aw_of T_ok (by kernel_rfl) ?_)
  conv => whnf
  refine callS hc rfl ?_
  conv => whnf
  split <;> rename_i h1 <;> conv => whnf
  · have h0 : 0 < s.size := by
      rcases Nat.eq_zero_or_pos s.size with e | e
      · cases hb0 e
      · exact e
    refine ⟨by omega, s[0], atB h0, ?_⟩
    conv => whnf
    refine callS (letter2_con s[0].toNat) rfl ?_
    conv => whnf
    refine finB ⟨?_⟩
    rw [nameB, dif_pos h0]
    cases hl : letN s[0].toNat with
    | false => rfl
    | true => rw [← hb h0 hl]; rfl
  · refine finB ⟨?_⟩
    rw [nameB]
    split
    · rename_i h0
      cases hl : letN s[0].toNat with
      | false => rfl
      | true => rw [← hb h0 hl]; rfl
    · rfl
theorem planMay_con (l : List Step) (hl : StepsOk l) : Con P 48 [.lf (.pv (encSteps l))] (Bl (stepsB l)) [] := by
  have hlen := hl.len
  refine Con.of T_ok Tryz.func48 rfl (by kernel_rfl) (by kernel_rfl) (aw_of T_ok (by kernel_rfl) ?_)
  conv => whnf
  refine AW.loop (fun k : Nat => k ≤ l.length ∧ ∀ j, j < k → okAt l j = true) (fun k => [(0, .lf (.pv (encSteps l))), (5, .lf (.pv (encSteps l))), (6, Go.Rx.I l.length), (7, Go.Rx.I k)]) (fun _ => []) (fun k => l.length - k) [] ?_ ?_
  · exact ⟨0, ⟨Nat.zero_le _, fun j hj => absurd hj (Nat.not_lt_zero _)⟩, ⟨rfl, rfl, congrArg (fun n : Nat => Go.Rx.I (n : Int)) (List.length_map ..), rfl, trivial⟩, ⟨[], rfl⟩, rfl, rfl⟩
  rintro k ⟨hk, hpre⟩
  refine aw_of T_ok (by kernel_rfl) ?_
  conv => whnf
  split <;> rename_i hlt <;> conv => whnf
  · have hkl : k < l.length := by simpa using hlt
    have hok := hl.each _ (List.getElem_mem hkl)
    have hat := okAt_eq hkl
    have no : okAt l k = false → false = stepsB l := fun h => by rw [stepsB, all_no hkl h]; rfl
    refine ⟨by omega, (l[k]).enc, by simp [hkl], ?_⟩
    conv => whnf
    refine callS (name_con l[k].nm hok.nm) rfl ?_
    conv => whnf
    split <;> rename_i h1 <;> conv => whnf
    · refine finB ⟨no ?_⟩
      rw [hat, okStep, show nameB l[k].nm = false by simpa using h1]; rfl
    have h1' : nameB l[k].nm = true := by simpa using h1
    refine ⟨by decide, by omega, by simp; omega, ?_⟩
    conv => whnf
    have hc : Con P 66 [.lf (.pv (.sl 6 (((l.map Step.enc).take k).drop 0))), .lf (.fn 67 [(l[k]).enc])] (Bl ((l.take k).any fun s : Step => s.nm == l[k].nm)) [] := by
      rw [List.drop_zero, ← List.map_take]
      exact containsFunc_con (l.take k) l[k] (by rw [List.length_take]; omega)
    refine callS hc rfl ?_
    conv => whnf
    split <;> rename_i h2 <;> conv => whnf
    · refine finB ⟨no ?_⟩
      rw [hat, show ((l.take k).any fun s : Step => s.nm == l[k].nm) = true from h2, Bool.not_true, Bool.and_false]
    refine callS (isService_con l[k].service) rfl ?_
    conv => whnf
    split <;> rename_i h3 <;> conv => whnf
    · refine finB ⟨no ?_⟩
      have h3' : ¬ (1 ≤ l[k].service ∧ l[k].service ≤ 4) := by simp at h3; omega
      rw [hat, okStep, pair_no h3', h1']; rfl
    have h3' : 1 ≤ l[k].service ∧ l[k].service ≤ 4 := by simpa using h3
    refine callS (pair_con l[k].service l[k].op l[k].undo h3') rfl ?_
    conv => whnf
    split <;> rename_i h4 <;> conv => whnf
    · refine finB ⟨no ?_⟩
      rw [hat, okStep, show pairB l[k].service l[k].op l[k].undo = false by simpa using h4, h1']; rfl
    have h4' : pairB l[k].service l[k].op l[k].undo = true := by simpa using h4
    refine callS (short_con l[k].who) rfl ?_
    conv => whnf
    split <;> rename_i h5 <;> conv => whnf
    · refine finB ⟨no ?_⟩
      rw [hat, okStep, show shortB l[k].who = false by simpa using h5, h1', h4']; rfl
    have h5' : shortB l[k].who = true := by simpa using h5
    refine callS (isNum_con l[k].n) rfl ?_
    conv => whnf
    split <;> rename_i h6 <;> conv => whnf
    · refine finB ⟨no ?_⟩
      rw [hat, okStep, show numB l[k].n = false by simp at h6; rw [numB]; simp; omega, h1', h4', h5']; rfl
    have h6' : numB l[k].n = true := by simpa [numB] using h6
    refine ⟨k + 1, ⟨⟨by omega, fun j hj => ?_⟩, by omega⟩, ⟨rfl, rfl, rfl, congrArg Go.Rx.I (wrapI (by omega)), trivial⟩, ⟨_, rfl⟩, rfl, rfl⟩
    by_cases e : j = k
    · subst e; rw [hat, okStep, h1', h4', h5', h6', show ((l.take j).any fun s : Step => s.nm == l[j].nm) = false from h2]; rfl
    · exact hpre j (by omega)
  · have hkl : k = l.length := by simp at hlt; omega
    have hall : stepsAll l = true := all_yes fun j hj => hpre j (by omega)
    have hm : (l.map Step.enc).length = l.length := List.length_map ..
    split <;> rename_i h1 <;> conv => whnf
    · refine finB ⟨?_⟩
      have h1' := of_decide_eq_true h1
      rw [stepsB, hall, Bool.true_and, decide_eq_true (show 1 ≤ l.length by omega), Bool.true_and]
      exact decide_eq_decide.2 (by omega)
    · refine finB ⟨?_⟩
      have h1' := of_decide_eq_false h1
      rw [stepsB, hall, Bool.true_and, decide_eq_false (show ¬ 1 ≤ l.length by omega)]; rfl
end Go.Proofs.YtnhheglbcphklaaGreat.Rx

/- Steps, as the page has them. -/
set_option linter.unusedVariables false
set_option linter.unusedSimpArgs false
namespace Go.Proofs.YtnhheglbcphklaaGreat.Rx
open Go.Rx Go.Proofs Go.Proofs.YtnhheglbcphklaaGreat.RxH

theorem steps4_con (l : List Step) (hl : StepsOk l) : Con P 29 [.lf (.pv (encSteps l))] (Bl (stepsB l)) [] := by
  have hlen := hl.len
  have hm : (l.map Step.enc).length = l.length := List.length_map ..
  refine Con.of T_ok Tryz.func29 rfl (by kernel_rfl) (by kernel_rfl) (aw_of T_ok (by kernel_rfl) ?_)
  conv => whnf
  refine callS (between_con ((l.map Step.enc).length : Int) 1 5) rfl ?_
  conv => whnf
  split <;> rename_i h0 <;> conv => whnf
  · refine finB ⟨?_⟩
    simp at h0
    rw [stepsB]
    symm
    rw [Bool.and_eq_false_iff]
    right
    rw [Bool.and_eq_false_iff]
    by_cases c : 1 ≤ l.length
    · exact .inr (decide_eq_false (by omega))
    · exact .inl (decide_eq_false c)
  have h0' : 1 ≤ l.length ∧ l.length ≤ 5 := by simp at h0; omega
  refine AW.loop (fun k : Nat => k ≤ l.length ∧ ∀ j, j < k → okAt l j = true) (fun k => [(0, .lf (.pv (encSteps l))), (3, Go.Rx.I k)]) (fun _ => []) (fun k => l.length - k) [] ?_ ?_
  · exact ⟨0, ⟨Nat.zero_le _, fun j hj => absurd hj (Nat.not_lt_zero _)⟩, ⟨rfl, rfl, trivial⟩, ⟨[], rfl⟩, rfl, rfl⟩
  rintro k ⟨hk, hpre⟩
  refine aw_of T_ok (by kernel_rfl) ?_
  conv => whnf
  split <;> rename_i hlt <;> conv => whnf
  · have hkl : k < l.length := by simpa using hlt
    have hok := hl.each _ (List.getElem_mem hkl)
    have hat := okAt_eq hkl
    have no : okAt l k = false → false = stepsB l := fun h => by rw [stepsB, all_no hkl h]; rfl
    refine ⟨by omega, (l[k]).enc, by simp [hkl], ?_⟩
    conv => whnf
    refine callS (name2_con l[k].nm hok.nm) rfl ?_
    conv => whnf
    split <;> rename_i h1 <;> conv => whnf
    · refine finB ⟨no ?_⟩
      rw [hat, okStep, show nameB l[k].nm = false by simpa using h1]; rfl
    have h1' : nameB l[k].nm = true := by simpa using h1
    refine callS (pair4_con l[k].service l[k].op l[k].undo) rfl ?_
    conv => whnf
    split <;> rename_i h4 <;> conv => whnf
    · refine finB ⟨no ?_⟩
      rw [hat, okStep, show pairB l[k].service l[k].op l[k].undo = false by simpa using h4, h1']; rfl
    have h4' : pairB l[k].service l[k].op l[k].undo = true := by simpa using h4
    refine callS (short1_con l[k].who hok.who) rfl ?_
    conv => whnf
    split <;> rename_i h5 <;> conv => whnf
    · refine finB ⟨no ?_⟩
      rw [hat, okStep, show shortB l[k].who = false by simpa using h5, h1', h4']; rfl
    have h5' : shortB l[k].who = true := by simpa using h5
    refine callS (between_con l[k].n (-1073741824) 1073741824) rfl ?_
    conv => whnf
    split <;> rename_i h6 <;> conv => whnf
    · refine finB ⟨no ?_⟩
      rw [hat, okStep, show numB l[k].n = false by simp at h6; rw [numB]; simp; omega, h1', h4', h5']; rfl
    have h6' : numB l[k].n = true := by simpa [numB] using h6
    refine AW.loop (fun j : Nat => j ≤ k ∧ ((l.take k).drop j).any (fun s : Step => s.nm == l[k].nm) = (l.take k).any fun s : Step => s.nm == l[k].nm) (fun j => [(0, .lf (.pv (encSteps l))), (3, Go.Rx.I k), (4, .lf (.ptr 0 0)), (5, Go.Rx.I j)]) (fun _ => [.var ((l[k]).enc.map .pv)]) (fun j => k - j) [] ?_ ?_
    · exact ⟨0, ⟨Nat.zero_le _, rfl⟩, ⟨rfl, rfl, rfl, rfl, trivial⟩, ⟨[], rfl⟩, rfl, rfl⟩
    rintro j ⟨hj, hp2⟩
    refine aw_of T_ok (by kernel_rfl) ?_
    conv => whnf
    split <;> rename_i hlt2 <;> conv => whnf
    · have hjk : j < k := by have := of_decide_eq_true hlt2; omega
      have hjl : j < l.length := by omega
      have hjt : j < (l.take k).length := by rw [List.length_take]; omega
      rw [any_go hjt, List.getElem_take] at hp2
      refine AW.draw T_ok rfl (seqPl 0 8) (by kernel_rfl) (by kernel_rfl) ?_
      conv => whnf
      refine ⟨by omega, (l[j]).enc, by simp [hjl], ?_⟩
      conv => whnf
      split <;> rename_i h7 <;> conv => whnf
      · refine finB ⟨no ?_⟩
        rw [hat, ← hp2, show (l[j].nm == l[k].nm) = true from h7, Bool.true_or, Bool.not_true, Bool.and_false]
      · rw [show (l[j].nm == l[k].nm) = false from h7, Bool.false_or] at hp2
        exact ⟨j + 1, ⟨⟨by omega, hp2⟩, by omega⟩, ⟨rfl, rfl, rfl, congrArg Go.Rx.I (wrapI (by omega)), trivial⟩, ⟨[], rfl⟩, rfl, rfl⟩
    · have hjk : k ≤ j := by have := of_decide_eq_false hlt2; omega
      rw [any_end (by rw [List.length_take]; omega)] at hp2
      refine ⟨k + 1, ⟨⟨by omega, fun i hi => ?_⟩, by omega⟩, ⟨rfl, congrArg Go.Rx.I (wrapI (by omega)), trivial⟩, ⟨_, rfl⟩, rfl, rfl⟩
      by_cases e : i = k
      · subst e; rw [hat, okStep, h1', h4', h5', h6', ← hp2]; rfl
      · exact hpre i (by omega)
  · have hkl : k = l.length := by simp at hlt; omega
    have hall : stepsAll l = true := all_yes fun j hj => hpre j (by omega)
    refine finB ⟨?_⟩
    rw [stepsB, hall, decide_eq_true h0'.1, decide_eq_true h0'.2]; rfl
end Go.Proofs.YtnhheglbcphklaaGreat.Rx

/- May a record be? A saga? -/
set_option linter.unusedVariables false
set_option linter.unusedSimpArgs false
namespace Go.Rx
def bareB (r : Rec) : Bool := r.key == ⟨#[]⟩ && r.body == ⟨#[]⟩ && decide (r.steps.length = 0)
def kindB (k n : Int) : Bool := if k = 2 ∨ k = 3 ∨ k = 5 then decide (0 ≤ n) && decide (n < 5) else if k = 4 then n == 0 else if k = 6 then decide (1 ≤ n) && decide (n ≤ 3) else false
def begB (r : Rec) : Bool := r.n == 0 && (r.key != ⟨#[]⟩ && (shortB r.key && (decide (1 ≤ (r.body.size : Int)) && (decide ((r.body.size : Int) ≤ 3000) && stepsB r.steps))))
def recB (r : Rec) : Bool := (decide (1 ≤ r.id) && decide (r.id ≤ 20)) && if r.kind = 1 then begB r else bareB r && kindB r.kind r.n
theorem bare_eq (r : Rec) : decide (r = ⟨r.kind, r.id, r.n, ⟨#[]⟩, ⟨#[]⟩, []⟩) = bareB r := by
  rw [recEq, bareB]
  simp
end Go.Rx
namespace Go.Proofs.YtnhheglbcphklaaGreat.Rx
open Go.Rx Go.Proofs Go.Proofs.YtnhheglbcphklaaGreat.RxH

theorem recMay_con (r : Rec) (h : r.Ok) : Con P 26 [encRec r] (Bl (recB r)) [] := by
  have hlen := h.steps.len
  have fail : (decide (1 ≤ r.id) && decide (r.id ≤ 20)) = false → false = recB r := fun h => by rw [recB, h]; rfl
  have go : (decide (1 ≤ r.id) && decide (r.id ≤ 20)) = true → (¬ r.kind = 1 → bareB r = true) → recB r = if r.kind = 1 then begB r else kindB r.kind r.n := fun h1 h2 => by
    rw [recB, h1, Bool.true_and]
    split
    · rfl
    · rename_i hk; rw [h2 hk]; rfl
  refine Con.of T_ok Tryz.func26 rfl (by kernel_rfl) (by kernel_rfl) (aw_ofC T_ok 1001 (by kernel_rfl) ?_)
  conv => whnf
  refine AW.cut (fun _ : Unit => recB r = if r.kind = 1 then begB r else kindB r.kind r.n) (fun _ => [(1, .lf (.ptr 0 0))]) (fun _ => [.var [.pv (pI r.kind), .pv (pI r.id), .pv (pI r.n), .pv (pS r.key), .pv (pS r.body), .pv (encSteps r.steps)]]) [] (aw_of T_ok (by kernel_rfl) ?_) ?_
  · refine AW.draw T_ok rfl (seqPl 0 20) (by kernel_rfl) (by kernel_rfl) ?_
    conv => whnf
    split <;> rename_i h1 <;> conv => whnf
    · exact finB ⟨fail (by simp at h1; simp; omega)⟩
    split <;> rename_i h2 <;> conv => whnf
    · exact finB ⟨fail (by simp at h2; simp; omega)⟩
    have hid : (decide (1 ≤ r.id) && decide (r.id ≤ 20)) = true := by simp at h1 h2; simp; omega
    split <;> rename_i h3 <;> conv => whnf
    · refine callU (bare_con r) (fun _ => rfl) ?_
      conv => whnf
      refine callS (same_con r _ hlen) rfl ?_
      conv => whnf
      rw [bare_eq]
      split <;> rename_i h4 <;> conv => whnf
      · refine finB ⟨?_⟩
        have hk : ¬ r.kind = 1 := by simpa using h3
        rw [recB, hid, if_neg hk, show bareB r = false by simpa using h4]; rfl
      · exact ⟨(), go hid fun _ => by simpa using h4, ⟨rfl, trivial⟩, ⟨[], rfl⟩, rfl, rfl⟩
    · exact ⟨(), go hid fun hk => absurd (by simpa using h3) hk, ⟨rfl, trivial⟩, ⟨[], rfl⟩, rfl, rfl⟩
  rintro _ hI
  rw [hI]
  clear hI go fail
  refine aw_of T_ok (by kernel_rfl) ?_
  conv => whnf
  split <;> rename_i k1 <;> conv => whnf
  · rw [if_pos (show r.kind = 1 by simpa using k1)]
    split <;> rename_i h1 <;> conv => whnf
    · split <;> rename_i h2 <;> conv => whnf
      · refine callS (short_con r.key) rfl ?_
        conv => whnf
        split <;> rename_i h3 <;> conv => whnf
        · split <;> rename_i h4 <;> conv => whnf
          · split <;> rename_i h5 <;> conv => whnf
            · refine callS (planMay_con r.steps h.steps) rfl ?_
              conv => whnf
              refine finB ⟨?_⟩
              rw [begB, show (r.n == 0) = true from h1, show (r.key != ⟨#[]⟩) = true from h2, show shortB r.key = true from h3, show decide (1 ≤ (r.body.size : Int)) = true from h4, show decide ((r.body.size : Int) ≤ 3000) = true from h5]; rfl
            · refine finB ⟨?_⟩
              rw [begB, show (r.n == 0) = true from h1, show (r.key != ⟨#[]⟩) = true from h2, show shortB r.key = true from h3, show decide (1 ≤ (r.body.size : Int)) = true from h4, show decide ((r.body.size : Int) ≤ 3000) = false from h5]; rfl
          · refine finB ⟨?_⟩
            rw [begB, show (r.n == 0) = true from h1, show (r.key != ⟨#[]⟩) = true from h2, show shortB r.key = true from h3, show decide (1 ≤ (r.body.size : Int)) = false from h4]; rfl
        · refine finB ⟨?_⟩
          rw [begB, show (r.n == 0) = true from h1, show (r.key != ⟨#[]⟩) = true from h2, show shortB r.key = false from h3]; rfl
      · refine finB ⟨?_⟩
        rw [begB, show (r.n == 0) = true from h1, show (r.key != ⟨#[]⟩) = false from h2]; rfl
    · refine finB ⟨?_⟩
      rw [begB, show (r.n == 0) = false from h1]; rfl
  rw [if_neg (show ¬ r.kind = 1 by simpa using k1)]
  clear k1
  repeat' first | refine finB ?_ | (split <;> conv => whnf)
  all_goals (refine ⟨?_⟩; simp_all [kindB] <;> omega)
theorem rec9_con (r : Rec) (h : r.Ok) : Con P 7 [encRec r] (Bl (recB r)) [] := by
  refine Con.of T_ok Tryz.func7 rfl (by kernel_rfl) (by kernel_rfl) (aw_of T_ok (by kernel_rfl) ?_)
  conv => whnf
  refine callS (between_con r.id 1 20) rfl ?_
  conv => whnf
  split <;> rename_i h1 <;> conv => whnf
  · refine finB ⟨?_⟩
    rw [recB, show (decide (1 ≤ r.id) && decide (r.id ≤ 20)) = false by simp at h1; simp; omega]; rfl
  have hid : (decide (1 ≤ r.id) && decide (r.id ≤ 20)) = true := by simpa using h1
  clear h1
  rw [recB, hid, Bool.true_and]
  split <;> rename_i k1 <;> conv => whnf
  · rw [if_pos (show r.kind = 1 by simpa using k1), begB]
    split <;> rename_i h1 <;> conv => whnf
    · rw [show (r.n == 0) = true from h1, Bool.true_and]
      refine callS (short1_con r.key h.key) rfl ?_
      conv => whnf
      split <;> rename_i h3 <;> conv => whnf
      · rw [show shortB r.key = true from h3, Bool.true_and]
        split <;> rename_i h2 <;> conv => whnf
        · rw [show (r.key != ⟨#[]⟩) = true from h2, Bool.true_and]
          refine callS (between_con (r.body.size : Int) 1 3000) rfl ?_
          conv => whnf
          split <;> rename_i h4 <;> conv => whnf
          · refine callS (steps4_con r.steps h.steps) rfl ?_
            conv => whnf
            refine finB ⟨?_⟩
            rw [← Bool.and_assoc, show (decide (1 ≤ (r.body.size : Int)) && decide ((r.body.size : Int) ≤ 3000)) = true from h4]; rfl
          · refine finB ⟨?_⟩
            rw [← Bool.and_assoc, show (decide (1 ≤ (r.body.size : Int)) && decide ((r.body.size : Int) ≤ 3000)) = false from h4]; rfl
        · refine finB ⟨?_⟩
          rw [show (r.key != ⟨#[]⟩) = false from h2]; rfl
      · refine finB ⟨?_⟩
        rw [show shortB r.key = false from h3, Bool.false_and, Bool.and_false]
    · refine finB ⟨?_⟩
      rw [show (r.n == 0) = false from h1]; rfl
  rw [if_neg (show ¬ r.kind = 1 by simpa using k1)]
  clear k1
  split <;> rename_i h1 <;> conv => whnf
  · refine finB ⟨?_⟩
    rw [bareB, show (r.key == ⟨#[]⟩) = false by simpa using h1]; rfl
  have h1' : (r.key == ⟨#[]⟩) = true := by simpa using h1
  split <;> rename_i h2 <;> conv => whnf
  · refine finB ⟨?_⟩
    rw [bareB, h1', show (r.body == ⟨#[]⟩) = false by simpa using h2]; rfl
  have h2' : (r.body == ⟨#[]⟩) = true := by simpa using h2
  split <;> rename_i h3 <;> conv => whnf
  · refine finB ⟨?_⟩
    rw [bareB, h1', h2', show decide (r.steps.length = 0) = false by simp at h3; simp; intro e; rw [e] at h3; simp at h3]; rfl
  rw [bareB, h1', h2', show decide (r.steps.length = 0) = true by simp at h3; simp; exact h3]
  simp only [Bool.true_and]
  clear h1 h2 h3 h1' h2' hid
  split <;> rename_i k2 <;> conv => whnf
  · have k2' : r.kind = 2 := by simpa using k2
    refine callS (numB_con r.n 4) rfl ?_
    conv => whnf
    refine finB ⟨?_⟩
    rw [kindB, if_pos (show r.kind = 2 ∨ r.kind = 3 ∨ r.kind = 5 by simp [k2'])]
    congr 1
    exact decide_eq_decide.2 (by omega)
  have k2' : ¬ r.kind = 2 := by simpa using k2
  split <;> rename_i k3 <;> conv => whnf
  · have k3' : r.kind = 3 := by simpa using k3
    refine callS (numB_con r.n 4) rfl ?_
    conv => whnf
    refine finB ⟨?_⟩
    rw [kindB, if_pos (show r.kind = 2 ∨ r.kind = 3 ∨ r.kind = 5 by simp [k3'])]
    congr 1
    exact decide_eq_decide.2 (by omega)
  have k3' : ¬ r.kind = 3 := by simpa using k3
  split <;> rename_i k5 <;> conv => whnf
  · have k5' : r.kind = 5 := by simpa using k5
    refine callS (numB_con r.n 4) rfl ?_
    conv => whnf
    refine finB ⟨?_⟩
    rw [kindB, if_pos (show r.kind = 2 ∨ r.kind = 3 ∨ r.kind = 5 by simp [k5'])]
    congr 1
    exact decide_eq_decide.2 (by omega)
  have k5' : ¬ r.kind = 5 := by simpa using k5
  rw [kindB, if_neg (show ¬ (r.kind = 2 ∨ r.kind = 3 ∨ r.kind = 5) by omega)]
  split <;> rename_i k4 <;> conv => whnf
  · refine finB ⟨?_⟩
    rw [if_pos (show r.kind = 4 by simpa using k4)]
  have k4' : ¬ r.kind = 4 := by simpa using k4
  rw [if_neg k4']
  split <;> rename_i k6 <;> conv => whnf
  · refine callS (between_con r.n 1 3) rfl ?_
    conv => whnf
    refine finB ⟨?_⟩
    rw [if_pos (show r.kind = 6 by simpa using k6)]
  · refine finB ⟨?_⟩
    rw [if_neg (show ¬ r.kind = 6 by simpa using k6)]
end Go.Proofs.YtnhheglbcphklaaGreat.Rx

/- May a saga be? -/
set_option linter.unusedVariables false
set_option linter.unusedSimpArgs false
namespace Go.Rx
abbrev begR (s : Saga) : Rec := ⟨1, s.id, 0, s.key, s.body, s.steps⟩
def sagaB (s : Saga) : Bool := recB (begR s) && (decide (0 ≤ s.done) && (decide (s.done ≤ s.steps.length) && (!(s.out && (s.done == s.steps.length)) && (decide (0 ≤ s.left) && (decide (s.left ≤ mostI s) && (!(!s.back && (s.left != 0)) && endsB s s.status))))))
theorem Saga.Ok.beg {s : Saga} (h : s.Ok) : (begR s).Ok := ⟨h.key, h.body, h.steps⟩
end Go.Rx
namespace Go.Proofs.YtnhheglbcphklaaGreat.Rx
open Go.Rx Go.Proofs Go.Proofs.YtnhheglbcphklaaGreat.RxH

theorem sagaMay_con (s : Saga) (h : s.Ok) : Con P 59 [encSaga s] (Bl (sagaB s)) [] := by
  have hlen := h.steps.len
  have hm : (s.steps.map Step.enc).length = s.steps.length := List.length_map ..
  refine Con.of T_ok Tryz.func59 rfl (by kernel_rfl) (by kernel_rfl) (aw_ofC T_ok 1001 (by kernel_rfl) ?_)
  conv => whnf
  refine AW.cut (fun _ : Unit => recB (begR s) = true ∧ 0 ≤ s.done ∧ s.done ≤ s.steps.length ∧ (s.out && (s.done == s.steps.length)) = false) (fun _ => [(1, .lf (.ptr 0 0))]) (fun _ => [.var [.pv (pI s.id), .pv (pS s.key), .pv (pS s.body), .pv (encSteps s.steps), .pv (pI s.done), .pv (pB s.out), .pv (pB s.back), .pv (pI s.left), .pv (pI s.status)]]) [] (aw_of T_ok (by kernel_rfl) ?_) ?_
  · conv => whnf
    refine callU (begin_con s) (fun _ => rfl) ?_
    conv => whnf
    refine callS (recMay_con (begR s) h.beg) rfl ?_
    conv => whnf
    split <;> rename_i h1 <;> conv => whnf
    · refine finB ⟨?_⟩
      rw [sagaB, show recB (begR s) = false by simpa using h1]; rfl
    have h1' : recB (begR s) = true := by simpa using h1
    split <;> rename_i h2 <;> conv => whnf
    · refine finB ⟨?_⟩
      rw [sagaB, h1', show decide (0 ≤ s.done) = false by simp at h2; simp; omega]; rfl
    have h2' : 0 ≤ s.done := by simp at h2; omega
    split <;> rename_i h3 <;> conv => whnf
    · refine finB ⟨?_⟩
      rw [sagaB, h1', decide_eq_true h2', show decide (s.done ≤ s.steps.length) = false by simp at h3; simp; omega]; rfl
    have h3' : s.done ≤ s.steps.length := by simp at h3; omega
    split <;> rename_i h4 <;> conv => whnf
    · split <;> rename_i h5 <;> conv => whnf
      · refine finB ⟨?_⟩
        have h5' : s.done = s.steps.length := by simpa using h5
        rw [sagaB, h1', decide_eq_true h2', decide_eq_true h3', show (s.out && (s.done == s.steps.length)) = true by rw [show s.out = true from h4, beq_iff_eq.2 h5']; rfl]; rfl
      · refine ⟨(), ⟨h1', h2', h3', ?_⟩, ⟨rfl, trivial⟩, ⟨[], rfl⟩, rfl, rfl⟩
        rw [Bool.and_eq_false_iff]; right; simpa using h5
    · exact ⟨(), ⟨h1', h2', h3', by rw [show s.out = false from h4]; rfl⟩, ⟨rfl, trivial⟩, ⟨[], rfl⟩, rfl, rfl⟩
  rintro _ ⟨h1, h2, h3, h4⟩
  rw [sagaB, h1, decide_eq_true h2, decide_eq_true h3, h4]
  simp only [Bool.true_and, Bool.not_false]
  refine aw_ofC T_ok 1003 (by kernel_rfl) ?_
  conv => whnf
  refine AW.cut (fun _ : Unit => 0 ≤ s.left ∧ s.left ≤ mostI s ∧ (!s.back && (s.left != 0)) = false) (fun _ => [(1, .lf (.ptr 0 0))]) (fun _ => [.var [.pv (pI s.id), .pv (pS s.key), .pv (pS s.body), .pv (encSteps s.steps), .pv (pI s.done), .pv (pB s.out), .pv (pB s.back), .pv (pI s.left), .pv (pI s.status)]]) [] (aw_of T_ok (by kernel_rfl) ?_) ?_
  · refine AW.draw T_ok rfl (seqPl 0 20) (by kernel_rfl) (by kernel_rfl) ?_
    conv => whnf
    split <;> rename_i h5 <;> conv => whnf
    · refine finB ⟨?_⟩
      rw [show decide (0 ≤ s.left) = false by simp at h5; simp; omega]; rfl
    have h5' : 0 ≤ s.left := by simp at h5; omega
    rw [decide_eq_true h5', Bool.true_and]
    refine callS (most_con s (by omega)) rfl ?_
    conv => whnf
    split <;> rename_i h6 <;> conv => whnf
    · refine finB ⟨?_⟩
      rw [show decide (s.left ≤ mostI s) = false by simp at h6; simp; omega]; rfl
    have h6' : s.left ≤ mostI s := by simp at h6; omega
    rw [decide_eq_true h6', Bool.true_and]
    split <;> rename_i h7 <;> conv => whnf
    · split <;> rename_i h8 <;> conv => whnf
      · refine finB ⟨?_⟩
        rw [show (!s.back) = true from h7, show (s.left != 0) = true from h8]; rfl
      · exact ⟨(), ⟨h5', h6', by rw [show (s.left != 0) = false from h8, Bool.and_false]⟩, ⟨rfl, trivial⟩, ⟨[], rfl⟩, rfl, rfl⟩
    · exact ⟨(), ⟨h5', h6', by rw [show (!s.back) = false from h7]; rfl⟩, ⟨rfl, trivial⟩, ⟨[], rfl⟩, rfl, rfl⟩
  rintro _ ⟨h5, h6, h7⟩
  rw [decide_eq_true h5, decide_eq_true h6, h7]
  refine aw_of T_ok (by kernel_rfl) ?_
  conv => whnf
  refine callS (ended_con s s.status) rfl ?_
  conv => whnf
  exact finB ⟨rfl⟩
end Go.Proofs.YtnhheglbcphklaaGreat.Rx

/- May a saga be? The page's answer. -/
set_option linter.unusedVariables false
set_option linter.unusedSimpArgs false
namespace Go.Rx
theorem ends_out {s : Saga} {st : Int} (h : ¬ (0 ≤ st ∧ st ≤ 3)) : endsB s st = false := by
  unfold endsB
  rw [if_neg (by omega), if_neg (by omega), if_neg (by omega), if_neg (by omega)]
def most9 (s : Saga) : Int := if s.back then (if s.out then s.done + 1 else s.done) else 0
theorem most_same {s : Saga} (h : 0 ≤ s.done) : (decide (0 ≤ s.left) && decide (s.left ≤ most9 s)) = (decide (0 ≤ s.left) && (decide (s.left ≤ mostI s) && !(!s.back && (s.left != 0)))) := by
  unfold most9 mostI
  cases s.back with
  | true => simp
  | false =>
    simp only [Bool.false_eq_true, if_false, Bool.not_false, Bool.true_and]
    rw [Bool.eq_iff_iff]
    simp only [Bool.and_eq_true, decide_eq_true_eq, Bool.not_eq_true', bne_eq_false_iff_eq]
    cases s.out <;> simp <;> omega
end Go.Rx
namespace Go.Proofs.YtnhheglbcphklaaGreat.Rx
open Go.Rx Go.Proofs Go.Proofs.YtnhheglbcphklaaGreat.RxH

theorem saga9_con (s : Saga) (h : s.Ok) : Con P 36 [encSaga s] (Bl (sagaB s)) [] := by
  have hlen := h.steps.len
  have hm : (s.steps.map Step.enc).length = s.steps.length := List.length_map ..
  refine Con.of T_ok Tryz.func36 rfl (by kernel_rfl) (by kernel_rfl) (aw_ofC T_ok 1002 (by kernel_rfl) ?_)
  conv => whnf
  refine AW.cut (fun _ : Unit => recB (begR s) = true ∧ 0 ≤ s.done ∧ s.done ≤ s.steps.length ∧ (s.out && (s.done == s.steps.length)) = false ∧ 0 ≤ s.status ∧ s.status ≤ 3) (fun _ => [(1, .lf (.ptr 0 0))]) (fun _ => [.var [.pv (pI s.id), .pv (pS s.key), .pv (pS s.body), .pv (encSteps s.steps), .pv (pI s.done), .pv (pB s.out), .pv (pB s.back), .pv (pI s.left), .pv (pI s.status)]]) [] (aw_of T_ok (by kernel_rfl) ?_) ?_
  · conv => whnf
    refine callS (rec9_con (begR s) h.beg) rfl ?_
    conv => whnf
    split <;> rename_i h1 <;> conv => whnf
    · refine finB ⟨?_⟩
      rw [sagaB, show recB (begR s) = false by simpa using h1]; rfl
    have h1' : recB (begR s) = true := by simpa using h1
    refine callS (numB_con s.done ((s.steps.map Step.enc).length : Int)) rfl ?_
    conv => whnf
    split <;> rename_i h2 <;> conv => whnf
    · refine finB ⟨?_⟩
      rw [sagaB, h1', Bool.true_and, ← Bool.and_assoc, show (decide (0 ≤ s.done) && decide (s.done ≤ s.steps.length)) = false by simp at h2; simp; omega]; rfl
    have h2' : 0 ≤ s.done ∧ s.done ≤ s.steps.length := by simp at h2; omega
    have stat : (s.out && (s.done == s.steps.length)) = false → (decide (0 ≤ s.status) && decide (s.status ≤ 3)) = false → false = sagaB s := fun _ hs => by
      rw [sagaB, ends_out (fun e => by rw [decide_eq_true e.1, decide_eq_true e.2] at hs; cases hs)]
      simp only [Bool.and_false]
    split <;> rename_i h4 <;> conv => whnf
    · split <;> rename_i h5 <;> conv => whnf
      · refine finB ⟨?_⟩
        have h5' : s.done = s.steps.length := by simp at h5; omega
        rw [sagaB, h1', decide_eq_true h2'.1, decide_eq_true h2'.2, show (s.out && (s.done == s.steps.length)) = true by rw [show s.out = true from h4, beq_iff_eq.2 h5']; rfl]; rfl
      · have ho : (s.out && (s.done == s.steps.length)) = false := by
          rw [Bool.and_eq_false_iff]; right; simp at h5; simp; omega
        refine callS (numB_con s.status 3) rfl ?_
        conv => whnf
        split <;> rename_i h6 <;> conv => whnf
        · exact finB ⟨stat ho (by simp at h6; simp; omega)⟩
        · have h6' : 0 ≤ s.status ∧ s.status ≤ 3 := by simp at h6; omega
          exact ⟨(), ⟨h1', h2'.1, h2'.2, ho, h6'⟩, ⟨rfl, trivial⟩, ⟨[], rfl⟩, rfl, rfl⟩
    · have ho : (s.out && (s.done == s.steps.length)) = false := by rw [show s.out = false from h4]; rfl
      refine callS (numB_con s.status 3) rfl ?_
      conv => whnf
      split <;> rename_i h6 <;> conv => whnf
      · exact finB ⟨stat ho (by simp at h6; simp; omega)⟩
      · have h6' : 0 ≤ s.status ∧ s.status ≤ 3 := by simp at h6; omega
        exact ⟨(), ⟨h1', h2'.1, h2'.2, ho, h6'⟩, ⟨rfl, trivial⟩, ⟨[], rfl⟩, rfl, rfl⟩
  rintro _ ⟨h1, h2, h3, h4, h5, h6⟩
  rw [sagaB, h1, decide_eq_true h2, decide_eq_true h3, h4]
  simp only [Bool.true_and, Bool.not_false]
  refine aw_ofC T_ok 1005 (by kernel_rfl) ?_
  conv => whnf
  refine AW.cut (fun _ : Unit => True) (fun _ => [(1, .lf (.ptr 0 0)), (4, Go.Rx.I (most9 s))]) (fun _ => [.var [.pv (pI s.id), .pv (pS s.key), .pv (pS s.body), .pv (encSteps s.steps), .pv (pI s.done), .pv (pB s.out), .pv (pB s.back), .pv (pI s.left), .pv (pI s.status)]]) [] (aw_of T_ok (by kernel_rfl) ?_) ?_
  · conv => whnf
    split <;> rename_i h7 <;> conv => whnf
    · split <;> rename_i h8 <;> conv => whnf
      · refine ⟨(), trivial, ⟨rfl, congrArg Go.Rx.I ?_, trivial⟩, ⟨[], rfl⟩, rfl, rfl⟩
        rw [most9, if_pos h7, if_pos h8]; exact wrapI (by omega)
      · refine ⟨(), trivial, ⟨rfl, congrArg Go.Rx.I ?_, trivial⟩, ⟨[], rfl⟩, rfl, rfl⟩
        rw [most9, if_pos h7, if_neg (by rw [show s.out = false from h8]; decide)]
    · refine ⟨(), trivial, ⟨rfl, congrArg Go.Rx.I ?_, trivial⟩, ⟨[], rfl⟩, rfl, rfl⟩
      rw [most9, if_neg (by rw [show s.back = false from h7]; decide)]
  rintro _ _
  have key : (decide (0 ≤ s.left) && (decide (s.left ≤ mostI s) && (!(!s.back && (s.left != 0)) && endsB s s.status))) = ((decide (0 ≤ s.left) && decide (s.left ≤ most9 s)) && endsB s s.status) := by
    rw [most_same h2]; simp only [Bool.and_assoc]
  rw [key]
  refine aw_of T_ok (by kernel_rfl) ?_
  conv => whnf
  refine callS (numB_con s.left (most9 s)) rfl ?_
  conv => whnf
  split <;> rename_i h7 <;> conv => whnf
  · rw [h7, Bool.true_and]
    split <;> rename_i h8 <;> conv => whnf
    · refine finB ⟨?_⟩
      have h8' : s.status = 0 := by simpa using h8
      rw [h8', endsB, if_pos rfl]
    · have h8' : ¬ s.status = 0 := by simpa using h8
      refine callS (ends_con s s.status (by omega)) rfl ?_
      conv => whnf
      exact finB ⟨rfl⟩
  · refine finB ⟨?_⟩
    rw [h7]; rfl
end Go.Proofs.YtnhheglbcphklaaGreat.Rx

/- What a record makes of a saga: the program's answer. -/
set_option linter.unusedVariables false
set_option linter.unusedSimpArgs false
namespace Go.Rx
def fitsB (s : Saga) (r : Rec) : Bool :=
  if r.kind = 2 then !s.back && (!s.out && (r.n == s.done && decide (s.done < s.steps.length)))
  else if r.kind = 3 then !s.back && (s.out && (r.n == s.done))
  else if r.kind = 4 then !s.back && s.out
  else if r.kind = 5 then s.back && (r.n == IntKind.i64.wrap (s.left - 1))
  else if r.kind = 6 then endsB s r.n else false
def nextS (s : Saga) (r : Rec) : Saga :=
  if r.kind = 2 then ⟨s.id, s.key, s.body, s.steps, s.done, true, s.back, s.left, s.status⟩
  else if r.kind = 3 then ⟨s.id, s.key, s.body, s.steps, IntKind.i64.wrap (s.done + 1), false, s.back, s.left, s.status⟩
  else if r.kind = 4 then ⟨s.id, s.key, s.body, s.steps, s.done, s.out, true, IntKind.i64.wrap (s.done + 1), s.status⟩
  else if r.kind = 5 then ⟨s.id, s.key, s.body, s.steps, s.done, s.out, s.back, r.n, s.status⟩
  else ⟨s.id, s.key, s.body, s.steps, s.done, s.out, s.back, s.left, r.n⟩
def zS : Saga := ⟨0, ⟨#[]⟩, ⟨#[]⟩, [], 0, false, false, 0, 0⟩
def applyS (s : Saga) (r : Rec) : Saga × Int :=
  if (!(sagaB s) || !(recB r)) = true then (zS, 1) else if (r.id != s.id) = true then (zS, 3) else if (r.id == s.id && (s.status == 0 && fitsB s r)) = true then (nextS s r, 0) else (zS, 9)
abbrev tSaga (s : Saga) : TC := .agg [.pv (pI s.id), .pv (pS s.key), .pv (pS s.body), .pv (encSteps s.steps), .pv (pI s.done), .pv (pB s.out), .pv (pB s.back), .pv (pI s.left), .pv (pI s.status)]
abbrev sagaE (p : Saga × Int) : AV := .tup [tSaga p.1, .lf (.pv (pI p.2))]
theorem finZ {e : Int} {q : Saga × Int} (h : Fin (zS, e) q) : ∃ zs, Fa WkA [.agg [.pv (pI 0), .pv (pS ⟨#[]⟩), .pv (pS ⟨#[]⟩), .pv (.sc (.slice none 0 0)), .pv (pI 0), .pv (pB false), .pv (pB false), .pv (pI 0), .pv (pI 0)], Go.Rx.I e] zs ∧ pack zs = some (sagaE q) := by
  refine ⟨[encSaga zS, Go.Rx.I e], ⟨.inr (.inr ⟨_, _, rfl, rfl, wkE _, wkE _, wkE _, wkN 6, wkE _, wkE _, wkE _, wkE _, wkE _, trivial⟩), .inl rfl, trivial⟩, ?_⟩
  rw [← h.out]; rfl
theorem finE {s : Saga} {e : Int} {q : Saga × Int} (h : Fin (s, e) q) : ∃ zs, Fa WkA [encSaga s, Go.Rx.I e] zs ∧ pack zs = some (sagaE q) := by
  refine ⟨_, wk_refl _, ?_⟩
  rw [← h.out]; rfl
end Go.Rx
namespace Go.Proofs.YtnhheglbcphklaaGreat.Rx
open Go.Rx Go.Proofs Go.Proofs.YtnhheglbcphklaaGreat.RxH

theorem fits_con (s : Saga) (r : Rec) : Con P 72 [encSaga s, encRec r] (Bl (fitsB s r)) [] := by
  have hm : (s.steps.map Step.enc).length = s.steps.length := List.length_map ..
  refine Con.of T_ok Tryz.func72 rfl (by kernel_rfl) (by kernel_rfl) (aw_of T_ok (by kernel_rfl) ?_)
  conv => whnf
  split <;> rename_i k2 <;> conv => whnf
  · rw [fitsB, if_pos (show r.kind = 2 by simpa using k2)]
    split <;> rename_i h1 <;> conv => whnf
    · rw [show (!s.back) = true from h1]
      split <;> rename_i h2 <;> conv => whnf
      · rw [show (!s.out) = true from h2]
        split <;> rename_i h3 <;> conv => whnf
        · rw [show (r.n == s.done) = true from h3]
          exact finB ⟨by simp only [Bool.true_and]; exact decide_eq_decide.2 (by omega)⟩
        · exact finB ⟨by rw [show (r.n == s.done) = false from h3]; rfl⟩
      · exact finB ⟨by rw [show (!s.out) = false from h2]; rfl⟩
    · exact finB ⟨by rw [show (!s.back) = false from h1]; rfl⟩
  have k2' : ¬ r.kind = 2 := by simpa using k2
  rw [fitsB, if_neg k2']
  split <;> rename_i k3 <;> conv => whnf
  · rw [if_pos (show r.kind = 3 by simpa using k3)]
    split <;> rename_i h1 <;> conv => whnf
    · rw [show (!s.back) = true from h1]
      split <;> rename_i h2 <;> conv => whnf
      · exact finB ⟨by rw [show s.out = true from h2]; rfl⟩
      · exact finB ⟨by rw [show s.out = false from h2]; rfl⟩
    · exact finB ⟨by rw [show (!s.back) = false from h1]; rfl⟩
  rw [if_neg (show ¬ r.kind = 3 by simpa using k3)]
  split <;> rename_i k4 <;> conv => whnf
  · rw [if_pos (show r.kind = 4 by simpa using k4)]
    split <;> rename_i h1 <;> conv => whnf
    · exact finB ⟨by rw [show (!s.back) = true from h1]; rfl⟩
    · exact finB ⟨by rw [show (!s.back) = false from h1]; rfl⟩
  rw [if_neg (show ¬ r.kind = 4 by simpa using k4)]
  split <;> rename_i k5 <;> conv => whnf
  · rw [if_pos (show r.kind = 5 by simpa using k5)]
    split <;> rename_i h1 <;> conv => whnf
    · exact finB ⟨by rw [show s.back = true from h1]; rfl⟩
    · exact finB ⟨by rw [show s.back = false from h1]; rfl⟩
  rw [if_neg (show ¬ r.kind = 5 by simpa using k5)]
  split <;> rename_i k6 <;> conv => whnf
  · rw [if_pos (show r.kind = 6 by simpa using k6)]
    refine callS (ended_con s r.n) rfl ?_
    conv => whnf
    exact finB ⟨rfl⟩
  · rw [if_neg (show ¬ r.kind = 6 by simpa using k6)]
    exact finB ⟨rfl⟩
theorem fitsTop_con (s : Saga) (r : Rec) : Con P 50 [encSaga s, encRec r] (Bl (r.id == s.id && (s.status == 0 && fitsB s r))) [] := by
  refine Con.of T_ok Tryz.func50 rfl (by kernel_rfl) (by kernel_rfl) (aw_of T_ok (by kernel_rfl) ?_)
  conv => whnf
  split <;> rename_i h1 <;> conv => whnf
  · rw [show (r.id == s.id) = true from h1]
    split <;> rename_i h2 <;> conv => whnf
    · rw [show (s.status == 0) = true from h2]
      refine callS (fits_con s r) rfl ?_
      conv => whnf
      exact finB ⟨rfl⟩
    · exact finB ⟨by rw [show (s.status == 0) = false from h2]; rfl⟩
  · exact finB ⟨by rw [show (r.id == s.id) = false from h1]; rfl⟩
theorem clone_con (l : List Step) (hl : l.length * 80 ≤ 140737488351232) : Con P 71 [.lf (.pv (encSteps l))] (.lf (.pv (encSteps l))) [] := by
  have hm : (l.map Step.enc).length = l.length := List.length_map ..
  refine Con.of T_ok Tryz.func71 rfl (by kernel_rfl) (by kernel_rfl) (aw_ofC T_ok 2001 (by kernel_rfl) ?_)
  conv => whnf
  refine AW.seq (AW.nilTest T_ok rfl rfl (by decide) ?_ ?_) fun sl bk h => aw_of T_ok (by kernel_rfl) h
  · intro h0
    conv => whnf
    refine ⟨[.lf (.pv (.sl 6 []))], ⟨.inr (.inl ⟨_, _, rfl, rfl, wkN 6⟩), trivial⟩, ?_⟩
    rw [show l = [] by simpa using h0]; rfl
  · conv => whnf
    refine ⟨_, .inl rfl, ?_⟩
    conv => whnf
    refine ⟨rfl, by show (0 + (l.map Step.enc).length) * 80 ≤ _; omega, ?_⟩
    conv => whnf
    refine ⟨by simp [chunk], ?_⟩
    exact finA ⟨rfl⟩
theorem own_con (s : Saga) (hl : s.steps.length * 80 ≤ 140737488351232) : Con P 73 [encSaga s] (encSaga s) [] := by
  refine Con.of T_ok Tryz.func73 rfl (by kernel_rfl) (by kernel_rfl) (aw_of T_ok (by kernel_rfl) ?_)
  conv => whnf
  refine callU (clone_con _ hl) (fun _ => rfl) ?_
  conv => whnf
  exact finA ⟨rfl⟩
theorem next_con (s : Saga) (r : Rec) (hl : s.steps.length * 80 ≤ 140737488351232) : Con P 51 [encSaga s, encRec r] (encSaga (nextS s r)) [] := by
  refine Con.of T_ok Tryz.func51 rfl (by kernel_rfl) (by kernel_rfl) (aw_of T_ok (by kernel_rfl) ?_)
  conv => whnf
  refine callU (own_con s hl) (fun _ => rfl) ?_
  conv => whnf
  split <;> rename_i k2 <;> conv => whnf
  · rw [nextS, if_pos (show r.kind = 2 by simpa using k2)]
    exact finA ⟨rfl⟩
  rw [nextS, if_neg (show ¬ r.kind = 2 by simpa using k2)]
  split <;> rename_i k3 <;> conv => whnf
  · rw [if_pos (show r.kind = 3 by simpa using k3)]
    exact finA ⟨rfl⟩
  rw [if_neg (show ¬ r.kind = 3 by simpa using k3)]
  split <;> rename_i k4 <;> conv => whnf
  · rw [if_pos (show r.kind = 4 by simpa using k4)]
    exact finA ⟨rfl⟩
  rw [if_neg (show ¬ r.kind = 4 by simpa using k4)]
  split <;> rename_i k5 <;> conv => whnf
  · rw [if_pos (show r.kind = 5 by simpa using k5)]
    exact finA ⟨rfl⟩
  rw [if_neg (show ¬ r.kind = 5 by simpa using k5)]
  exact finA ⟨rfl⟩
end Go.Proofs.YtnhheglbcphklaaGreat.Rx

/- What a record makes of a saga: the page's answer. -/
set_option linter.unusedVariables false
set_option linter.unusedSimpArgs false
namespace Go.Rx
/-- What the page's own answer holds behind its switch: whether it may be, and the saga. -/
structure Turned (s : Saga) (r : Rec) (q : Bool × Saga) : Prop where
  ok : q.1 = (s.status == 0 && fitsB s r)
  to : q.1 = true → q.2 = nextS s r
theorem turned_no {s x : Saga} {r : Rec} (h : (s.status == 0 && fitsB s r) = false) : Turned s r (false, x) := ⟨h.symm, fun e => by cases e⟩
theorem turned_of {s x : Saga} {r : Rec} {b : Bool} (h : b = (s.status == 0 && fitsB s r)) (k : (s.status == 0 && fitsB s r) = true → x = nextS s r) : Turned s r (b, x) := ⟨h, fun e => k (h ▸ e)⟩
theorem rec_end {r : Rec} (h : recB r = true) (k : r.kind = 6) : 1 ≤ r.n ∧ r.n ≤ 3 := by
  rw [recB, k, Bool.and_eq_true] at h
  have h2 := h.2
  rw [if_neg (by decide), Bool.and_eq_true] at h2
  have h3 := h2.2
  rw [kindB, if_neg (by decide), if_neg (by decide), if_pos rfl] at h3
  simpa using h3
def apply9S (s : Saga) (r : Rec) : Saga × Int := if (r.id != s.id) = true then (zS, 3) else if (r.id == s.id && (s.status == 0 && fitsB s r)) = true then (nextS s r, 0) else (zS, 9)
theorem apply9_same {s : Saga} {r : Rec} (h1 : sagaB s = true) (h2 : recB r = true) : applyS s r = apply9S s r := by rw [applyS, if_neg (by rw [h1, h2]; decide), apply9S]
end Go.Rx
namespace Go.Proofs.YtnhheglbcphklaaGreat.Rx
open Go.Rx Go.Proofs Go.Proofs.YtnhheglbcphklaaGreat.RxH

theorem apply9_con' (s : Saga) (r : Rec) (hs : s.Ok) (hk6 : r.kind = 6 → 1 ≤ r.n ∧ r.n ≤ 3) : Con P 32 [encSaga s, encRec r] (sagaE (apply9S s r)) [] := by
  have hlen := hs.steps.len
  have hm : (s.steps.map Step.enc).length = s.steps.length := List.length_map ..
  rw [apply9S]
  refine Con.of T_ok Tryz.func32 rfl (by kernel_rfl) (by kernel_rfl) (aw_ofC T_ok 1005 (by kernel_rfl) ?_)
  conv => whnf
  split <;> rename_i h3 <;> conv => whnf
  · exact finZ ⟨by rw [if_pos (show (r.id != s.id) = true from h3)]⟩
  rw [if_neg (show ¬ (r.id != s.id) = true by rw [show (r.id != s.id) = false from h3]; decide), show (r.id == s.id) = true by simpa using h3, Bool.true_and]
  refine callU (copySaga_con s hlen) (fun _ => rfl) ?_
  conv => whnf
  refine AW.cut (Turned s r) (fun q => [(4, .lf (.ptr 2 0)), (6, .lf (.ptr 3 0)), (7, Bl q.1)]) (fun q => [.var [.pv (pI s.id), .pv (pS s.key), .pv (pS s.body), .pv (encSteps s.steps), .pv (pI s.done), .pv (pB s.out), .pv (pB s.back), .pv (pI s.left), .pv (pI s.status)],
      .var [.pv (pI r.kind), .pv (pI r.id), .pv (pI r.n), .pv (pS r.key), .pv (pS r.body), .pv (encSteps r.steps)],
      .var [.pv (pI 0), .pv (pS ⟨#[]⟩), .pv (pS ⟨#[]⟩), .pv (.sc (.slice none 0 0)), .pv (pI 0), .pv (pB false), .pv (pB false), .pv (pI 0), .pv (pI 0)],
      .var [.pv (pI q.2.id), .pv (pS q.2.key), .pv (pS q.2.body), .pv (encSteps q.2.steps), .pv (pI q.2.done), .pv (pB q.2.out), .pv (pB q.2.back), .pv (pI q.2.left), .pv (pI q.2.status)]]) [] (aw_of T_ok (by kernel_rfl) ?_) ?_
  rotate_left
  · rintro ⟨b, x⟩ ⟨hb, hx⟩
    simp only at hb hx
    rw [← hb]
    refine aw_of T_ok (by kernel_rfl) ?_
    conv => whnf
    cases b with
    | false =>
      conv => whnf
      exact finZ ⟨rfl⟩
    | true =>
      conv => whnf
      refine finE ⟨?_⟩
      rw [hx rfl]; rfl
  conv => whnf
  split <;> rename_i k2 <;> conv => whnf
  · have hf : fitsB s r = (!s.back && (!s.out && (r.n == s.done && decide (s.done < s.steps.length)))) := by rw [fitsB, if_pos (show r.kind = 2 by simpa using k2)]
    have hn : nextS s r = ⟨s.id, s.key, s.body, s.steps, s.done, true, s.back, s.left, s.status⟩ := by rw [nextS, if_pos (show r.kind = 2 by simpa using k2)]
    split <;> rename_i c0 <;> conv => whnf
    · split <;> rename_i c1 <;> conv => whnf
      · split <;> rename_i c2 <;> conv => whnf
        · split <;> rename_i c3 <;> conv => whnf
          · exact ⟨(_, ⟨s.id, s.key, s.body, s.steps, s.done, true, s.back, s.left, s.status⟩), turned_of (by rw [hf, show (s.status == 0) = true from c0, show (!s.back) = true from c1, show (!s.out) = true from c2, show (r.n == s.done) = true from c3]; simp only [Bool.true_and]; exact decide_eq_decide.2 (by omega)) fun _ => hn.symm, ⟨rfl, rfl, rfl, trivial⟩, ⟨[], rfl⟩, rfl, rfl⟩
          · exact ⟨(_, ⟨s.id, s.key, s.body, s.steps, s.done, true, s.back, s.left, s.status⟩), turned_of (by rw [hf, show (r.n == s.done) = false from c3]; simp) fun _ => hn.symm, ⟨rfl, rfl, rfl, trivial⟩, ⟨[], rfl⟩, rfl, rfl⟩
        · exact ⟨(_, ⟨s.id, s.key, s.body, s.steps, s.done, true, s.back, s.left, s.status⟩), turned_of (by rw [hf, show (!s.out) = false from c2]; simp) fun _ => hn.symm, ⟨rfl, rfl, rfl, trivial⟩, ⟨[], rfl⟩, rfl, rfl⟩
      · exact ⟨(_, ⟨s.id, s.key, s.body, s.steps, s.done, true, s.back, s.left, s.status⟩), turned_of (by rw [hf, show (!s.back) = false from c1]; simp) fun _ => hn.symm, ⟨rfl, rfl, rfl, trivial⟩, ⟨[], rfl⟩, rfl, rfl⟩
    · exact ⟨(_, ⟨s.id, s.key, s.body, s.steps, s.done, true, s.back, s.left, s.status⟩), turned_of (by rw [show (s.status == 0) = false from c0]; rfl) fun _ => hn.symm, ⟨rfl, rfl, rfl, trivial⟩, ⟨[], rfl⟩, rfl, rfl⟩
  split <;> rename_i k3 <;> conv => whnf
  · have hk : r.kind = 3 := by simpa using k3
    have hf : fitsB s r = (!s.back && (s.out && (r.n == s.done))) := by rw [fitsB, hk]; rfl
    have hn : nextS s r = ⟨s.id, s.key, s.body, s.steps, IntKind.i64.wrap (s.done + 1), false, s.back, s.left, s.status⟩ := by rw [nextS, hk]; rfl
    split <;> rename_i c0 <;> conv => whnf
    rotate_left
    · skip
      refine AW.draw T_ok rfl (.one 0 (.one 3 (.two 1 (listPl [2, 4, 5, 6]) 4 (listPl [1, 2, 5, 6])))) (by kernel_rfl) (by kernel_rfl) ?_
      conv => whnf
      refine ⟨?_, ?_⟩ <;> conv => whnf
      all_goals exact ⟨(_, ⟨s.id, s.key, s.body, s.steps, IntKind.i64.wrap (s.done + 1), false, s.back, s.left, s.status⟩), turned_of (by rw [show (s.status == 0) = false from c0]; rfl) fun _ => hn.symm, ⟨rfl, rfl, rfl, trivial⟩, ⟨[], rfl⟩, rfl, rfl⟩
    split <;> rename_i c1 <;> conv => whnf
    rotate_left
    · skip
      refine AW.draw T_ok rfl (.one 0 (.one 3 (.two 1 (listPl [2, 4, 5, 6]) 4 (listPl [1, 2, 5, 6])))) (by kernel_rfl) (by kernel_rfl) ?_
      conv => whnf
      refine ⟨?_, ?_⟩ <;> conv => whnf
      all_goals exact ⟨(_, ⟨s.id, s.key, s.body, s.steps, IntKind.i64.wrap (s.done + 1), false, s.back, s.left, s.status⟩), turned_of (by rw [hf, show (!s.back) = false from c1]; simp) fun _ => hn.symm, ⟨rfl, rfl, rfl, trivial⟩, ⟨[], rfl⟩, rfl, rfl⟩
    split <;> rename_i c2 <;> conv => whnf
    rotate_left
    · skip
      refine AW.draw T_ok rfl (.one 0 (.one 3 (.two 1 (listPl [2, 4, 5, 6]) 4 (listPl [1, 2, 5, 6])))) (by kernel_rfl) (by kernel_rfl) ?_
      conv => whnf
      refine ⟨?_, ?_⟩ <;> conv => whnf
      all_goals exact ⟨(_, ⟨s.id, s.key, s.body, s.steps, IntKind.i64.wrap (s.done + 1), false, s.back, s.left, s.status⟩), turned_of (by rw [hf, show (s.out) = false from c2]; simp) fun _ => hn.symm, ⟨rfl, rfl, rfl, trivial⟩, ⟨[], rfl⟩, rfl, rfl⟩
    refine AW.draw T_ok rfl (.one 0 (.one 3 (.two 1 (listPl [2, 4, 5, 6]) 4 (listPl [1, 2, 5, 6])))) (by kernel_rfl) (by kernel_rfl) ?_
    conv => whnf
    refine ⟨?_, ?_⟩ <;> conv => whnf
    all_goals exact ⟨(_, ⟨s.id, s.key, s.body, s.steps, IntKind.i64.wrap (s.done + 1), false, s.back, s.left, s.status⟩), turned_of (by rw [hf, show (s.status == 0) = true from c0, show (!s.back) = true from c1, show (s.out) = true from c2]; rfl) fun _ => hn.symm, ⟨rfl, rfl, rfl, trivial⟩, ⟨[], rfl⟩, rfl, rfl⟩
  split <;> rename_i k4 <;> conv => whnf
  · have hk : r.kind = 4 := by simpa using k4
    have hf : fitsB s r = (!s.back && s.out) := by rw [fitsB, hk]; rfl
    have hn : nextS s r = ⟨s.id, s.key, s.body, s.steps, s.done, s.out, true, IntKind.i64.wrap (s.done + 1), s.status⟩ := by rw [nextS, hk]; rfl
    split <;> rename_i c0 <;> conv => whnf
    rotate_left
    · skip
      refine AW.draw T_ok rfl (.one 0 (.one 3 (.two 1 (listPl [2, 4, 5, 6]) 4 (listPl [1, 2, 5, 6])))) (by kernel_rfl) (by kernel_rfl) ?_
      conv => whnf
      refine ⟨?_, ?_⟩ <;> conv => whnf
      all_goals exact ⟨(_, ⟨s.id, s.key, s.body, s.steps, s.done, s.out, true, IntKind.i64.wrap (s.done + 1), s.status⟩), turned_of (by rw [show (s.status == 0) = false from c0]; rfl) fun _ => hn.symm, ⟨rfl, rfl, rfl, trivial⟩, ⟨[], rfl⟩, rfl, rfl⟩
    split <;> rename_i c1 <;> conv => whnf
    rotate_left
    · skip
      refine AW.draw T_ok rfl (.one 0 (.one 3 (.two 1 (listPl [2, 4, 5, 6]) 4 (listPl [1, 2, 5, 6])))) (by kernel_rfl) (by kernel_rfl) ?_
      conv => whnf
      refine ⟨?_, ?_⟩ <;> conv => whnf
      all_goals exact ⟨(_, ⟨s.id, s.key, s.body, s.steps, s.done, s.out, true, IntKind.i64.wrap (s.done + 1), s.status⟩), turned_of (by rw [hf, show (!s.back) = false from c1]; simp) fun _ => hn.symm, ⟨rfl, rfl, rfl, trivial⟩, ⟨[], rfl⟩, rfl, rfl⟩
    refine AW.draw T_ok rfl (.one 0 (.one 3 (.two 1 (listPl [2, 4, 5, 6]) 4 (listPl [1, 2, 5, 6])))) (by kernel_rfl) (by kernel_rfl) ?_
    conv => whnf
    refine ⟨?_, ?_⟩ <;> conv => whnf
    all_goals exact ⟨(_, ⟨s.id, s.key, s.body, s.steps, s.done, s.out, true, IntKind.i64.wrap (s.done + 1), s.status⟩), turned_of (by rw [hf, show (s.status == 0) = true from c0, show (!s.back) = true from c1]; rfl) fun _ => hn.symm, ⟨rfl, rfl, rfl, trivial⟩, ⟨[], rfl⟩, rfl, rfl⟩
  split <;> rename_i k5 <;> conv => whnf
  · have hk : r.kind = 5 := by simpa using k5
    have hf : fitsB s r = (s.back && (r.n == IntKind.i64.wrap (s.left - 1))) := by rw [fitsB, hk]; rfl
    have hn : nextS s r = ⟨s.id, s.key, s.body, s.steps, s.done, s.out, s.back, r.n, s.status⟩ := by rw [nextS, hk]; rfl
    split <;> rename_i c0 <;> conv => whnf
    rotate_left
    · skip
      exact ⟨(_, ⟨s.id, s.key, s.body, s.steps, s.done, s.out, s.back, IntKind.i64.wrap (s.left - 1), s.status⟩), turned_of (by rw [show (s.status == 0) = false from c0]; rfl) fun e => (by rw [hf] at e; simp at e; rw [hn, e.2.2]), ⟨rfl, rfl, rfl, trivial⟩, ⟨[], rfl⟩, rfl, rfl⟩
    split <;> rename_i c1 <;> conv => whnf
    rotate_left
    · skip
      exact ⟨(_, ⟨s.id, s.key, s.body, s.steps, s.done, s.out, s.back, IntKind.i64.wrap (s.left - 1), s.status⟩), turned_of (by rw [hf, show (s.back) = false from c1]; simp) fun e => (by rw [hf] at e; simp at e; rw [hn, e.2.2]), ⟨rfl, rfl, rfl, trivial⟩, ⟨[], rfl⟩, rfl, rfl⟩
    exact ⟨(_, ⟨s.id, s.key, s.body, s.steps, s.done, s.out, s.back, IntKind.i64.wrap (s.left - 1), s.status⟩), turned_of (by rw [hf, show (s.status == 0) = true from c0, show (s.back) = true from c1]; rfl) fun e => (by rw [hf] at e; simp at e; rw [hn, e.2.2]), ⟨rfl, rfl, rfl, trivial⟩, ⟨[], rfl⟩, rfl, rfl⟩
  split <;> rename_i k6 <;> conv => whnf
  · have hk : r.kind = 6 := by simpa using k6
    have hf : fitsB s r = (endsB s r.n) := by rw [fitsB, hk]; rfl
    have hn : nextS s r = ⟨s.id, s.key, s.body, s.steps, s.done, s.out, s.back, s.left, r.n⟩ := by rw [nextS, hk]; rfl
    split <;> rename_i c0 <;> conv => whnf
    rotate_left
    · skip
      exact ⟨(_, ⟨s.id, s.key, s.body, s.steps, s.done, s.out, s.back, s.left, r.n⟩), turned_of (by rw [show (s.status == 0) = false from c0]; rfl) fun _ => hn.symm, ⟨rfl, rfl, rfl, trivial⟩, ⟨[], rfl⟩, rfl, rfl⟩
    refine callS (ends_con s r.n (hk6 hk)) rfl ?_
    conv => whnf
    exact ⟨(_, ⟨s.id, s.key, s.body, s.steps, s.done, s.out, s.back, s.left, r.n⟩), turned_of (by rw [hf, show (s.status == 0) = true from c0]; rfl) fun _ => hn.symm, ⟨rfl, rfl, rfl, trivial⟩, ⟨[], rfl⟩, rfl, rfl⟩
  have hf : fitsB s r = false := by
    rw [fitsB, if_neg (show ¬ r.kind = 2 by simpa using k2), if_neg (show ¬ r.kind = 3 by simpa using k3), if_neg (show ¬ r.kind = 4 by simpa using k4), if_neg (show ¬ r.kind = 5 by simpa using k5), if_neg (show ¬ r.kind = 6 by simpa using k6)]
  exact ⟨(_, s), turned_no (by rw [hf, Bool.and_false]), ⟨rfl, rfl, rfl, trivial⟩, ⟨[], rfl⟩, rfl, rfl⟩
theorem apply9_con (s : Saga) (r : Rec) (hs : s.Ok) (hr : r.Ok) (h1 : sagaB s = true) (h2 : recB r = true) : Con P 32 [encSaga s, encRec r] (sagaE (applyS s r)) [] := by
  rw [apply9_same h1 h2]
  exact apply9_con' s r hs (rec_end h2)
end Go.Proofs.YtnhheglbcphklaaGreat.Rx

/- What a record begins; a saga that is called, and done. -/
set_option linter.unusedVariables false
set_option linter.unusedSimpArgs false
namespace Go.Rx
def beginS (r : Rec) : Saga × Int := if (r.kind != 1 || !(recB r)) = true then (zS, 1) else (⟨r.id, r.key, r.body, r.steps, 0, false, false, 0, 0⟩, 0)
def b0 : Rec := ⟨1, 1, 0, ⟨#[107]⟩, ⟨#[98]⟩, [⟨⟨#[97]⟩, 1, ⟨#[99, 114, 101, 100, 105, 116]⟩, ⟨#[100, 101, 98, 105, 116]⟩, ⟨#[]⟩, 0⟩]⟩
def s0 : Saga := ⟨1, ⟨#[107]⟩, ⟨#[98]⟩, [⟨⟨#[97]⟩, 1, ⟨#[99, 114, 101, 100, 105, 116]⟩, ⟨#[100, 101, 98, 105, 116]⟩, ⟨#[]⟩, 0⟩], 0, false, false, 0, 0⟩
end Go.Rx
namespace Go.Proofs.YtnhheglbcphklaaGreat.Rx
open Go.Rx Go.Proofs Go.Proofs.YtnhheglbcphklaaGreat.RxH

theorem beginTop_con (r : Rec) (hr : r.Ok) : Con P 49 [encRec r] (sagaE (beginS r)) [] := by
  refine Con.of T_ok Tryz.func49 rfl (by kernel_rfl) (by kernel_rfl) (aw_of T_ok (by kernel_rfl) ?_)
  conv => whnf
  split <;> rename_i h1 <;> conv => whnf
  · exact finZ ⟨by rw [beginS, if_pos (by rw [show (r.kind != 1) = true from h1]; rfl)]⟩
  refine callS (recMay_con r hr) rfl ?_
  conv => whnf
  split <;> rename_i h2 <;> conv => whnf
  · exact finZ ⟨by rw [beginS, if_pos (by rw [show (!(recB r)) = true from h2, Bool.or_true])]⟩
  rw [beginS, if_neg (by rw [show (r.kind != 1) = false from h1, show (!(recB r)) = false from h2]; decide)]
  refine AW.draw T_ok rfl (seqPl 0 12) (by kernel_rfl) (by kernel_rfl) ?_
  conv => whnf
  refine callU (clone_con r.steps hr.steps.len) (fun _ => rfl) ?_
  conv => whnf
  exact finE (s := ⟨r.id, r.key, r.body, r.steps, 0, false, false, 0, 0⟩) (e := 0) ⟨rfl⟩
end Go.Proofs.YtnhheglbcphklaaGreat.Rx

/- Records of a kind, of each number, on sagas: the answers are the same. -/
set_option linter.unusedVariables false
set_option linter.unusedSimpArgs false
namespace Go.Rx
end Go.Rx
namespace Go.Proofs.YtnhheglbcphklaaGreat.Rx
open Go.Rx Go.Proofs Go.Proofs.YtnhheglbcphklaaGreat.RxH

abbrev sagaV (s : Saga) : Blk := .var [.pv (pI s.id), .pv (pS s.key), .pv (pS s.body), .pv (encSteps s.steps), .pv (pI s.done), .pv (pB s.out), .pv (pB s.back), .pv (pI s.left), .pv (pI s.status)]
end Go.Proofs.YtnhheglbcphklaaGreat.Rx

/- The arguments of the sagas' laws, opened. -/
namespace Go.Proofs.YtnhheglbcphklaaGreat.Rx
open Go.Rx Go.Rx.Lift Go.Proofs

theorem opStr : Opens P 9 (fun s : ByteArray => [pS s]) (fun s => s.size ≤ 140737488351232) := opens_string Tryz.underlying9
theorem opInt : Opens P 3 (fun n : Int => [pI n]) (fun n => (Lit.int .i64 n).wf = true) := opens_int Tryz.underlying3
theorem opBool : Opens P 4 (fun b : Bool => [pB b]) (fun _ => True) := opens_bool Tryz.underlying4
theorem opStep : Opens P 87 Step.enc Step.Ok := by
  have h := opens_struct (total := 6) Tryz.underlying87 (by kernel_rfl) (from_cons 1 rfl rfl (by kernel_rfl) opStr (from_cons 1 rfl rfl (by kernel_rfl) opInt (from_cons 1 rfl rfl (by kernel_rfl) opStr (from_cons 1 rfl rfl (by kernel_rfl) opStr (from_cons 1 rfl rfl (by kernel_rfl) opStr (from_last 1 rfl rfl (by kernel_rfl) rfl opInt))))))
  exact opens_iso (fun q : ByteArray × Int × ByteArray × ByteArray × ByteArray × Int => ⟨q.1, q.2.1, q.2.2.1, q.2.2.2.1, q.2.2.2.2.1, q.2.2.2.2.2⟩) (fun _ => rfl) (fun _ h => ⟨h.1, h.2.2.1, h.2.2.2.1, h.2.2.2.2.1⟩) h
theorem opSteps : Opens P 42 (fun l : List Step => [encSteps l]) StepsOk := by
  have h := opens_slice (sz := 6) (B := 80) Tryz.underlying42 (by kernel_rfl) (by decide) (by kernel_rfl) opStep
  exact opens_iso id (fun _ => rfl) (fun _ h => ⟨h.1, h.2⟩) h
theorem opRec : Opens P 44 Rec.enc Rec.Ok := by
  have h := opens_struct (total := 6) Tryz.underlying44 (by kernel_rfl) (from_cons 1 rfl rfl (by kernel_rfl) opInt (from_cons 1 rfl rfl (by kernel_rfl) opInt (from_cons 1 rfl rfl (by kernel_rfl) opInt (from_cons 1 rfl rfl (by kernel_rfl) opStr (from_cons 1 rfl rfl (by kernel_rfl) opStr (from_last 1 rfl rfl (by kernel_rfl) rfl opSteps))))))
  exact opens_iso (fun q : Int × Int × Int × ByteArray × ByteArray × List Step => ⟨q.1, q.2.1, q.2.2.1, q.2.2.2.1, q.2.2.2.2.1, q.2.2.2.2.2⟩) (fun _ => rfl) (fun _ h => ⟨h.2.2.2.1, h.2.2.2.2.1, h.2.2.2.2.2⟩) h
theorem opSaga : Opens P 54 Saga.enc Saga.Ok := by
  have h := opens_struct (total := 9) Tryz.underlying54 (by kernel_rfl) (from_cons 1 rfl rfl (by kernel_rfl) opInt (from_cons 1 rfl rfl (by kernel_rfl) opStr (from_cons 1 rfl rfl (by kernel_rfl) opStr (from_cons 1 rfl rfl (by kernel_rfl) opSteps (from_cons 1 rfl rfl (by kernel_rfl) opInt (from_cons 1 rfl rfl (by kernel_rfl) opBool (from_cons 1 rfl rfl (by kernel_rfl) opBool (from_cons 1 rfl rfl (by kernel_rfl) opInt (from_last 1 rfl rfl (by kernel_rfl) rfl opInt)))))))))
  exact opens_iso (fun q : Int × ByteArray × ByteArray × List Step × Int × Bool × Bool × Int × Int => ⟨q.1, q.2.1, q.2.2.1, q.2.2.2.1, q.2.2.2.2.1, q.2.2.2.2.2.1, q.2.2.2.2.2.2.1, q.2.2.2.2.2.2.2.1, q.2.2.2.2.2.2.2.2⟩) (fun _ => rfl) (fun _ h => ⟨h.2.1, h.2.2.1, h.2.2.2.1⟩) h
theorem opAsk2 : Opens P 26 (fun q : List ByteArray × List Int => [encStrs q.1, encInts q.2]) (fun q => q.1.length * 16 ≤ 140737488351232) := by
  have h := opens_struct (total := 2) Tryz.underlying26 (by kernel_rfl) (from_cons 1 rfl rfl (by kernel_rfl) (opens_slice (sz := 1) (B := 16) Tryz.underlying23 (by kernel_rfl) (by decide) (by kernel_rfl) opStr) (from_last 1 rfl rfl (by kernel_rfl) rfl (opens_slice (sz := 1) (B := 8) Tryz.underlying24 (by kernel_rfl) (by decide) (by kernel_rfl) opInt)))
  exact opens_iso id (fun _ => rfl) (fun _ h => h.1.1) h
theorem opAsk11 : Opens P 28 (fun q : List Rec × List ByteArray × List Int => [encRecs q.1, encStrs q.2.1, encInts q.2.2]) (fun q => (q.1.length * 80 ≤ 140737488351232 ∧ ∀ r ∈ q.1, r.Ok) ∧ q.2.1.length * 16 ≤ 140737488351232) := by
  have h := opens_struct (total := 3) Tryz.underlying28 (by kernel_rfl) (from_cons 1 rfl rfl (by kernel_rfl) (opens_slice (sz := 6) (B := 80) Tryz.underlying22 (by kernel_rfl) (by decide) (by kernel_rfl) opRec) (from_last 2 rfl rfl (by kernel_rfl) rfl opAsk2))
  exact opens_iso id (fun _ => rfl) (fun _ h => h) h
theorem opAsk : Opens P 31 (fun q : List Rec × List ByteArray × List Int × List Saga => [encRecs q.1, encStrs q.2.1, encInts q.2.2.1, encSagas q.2.2.2]) (fun q => AskOk q.1 q.2.1 q.2.2.1 q.2.2.2) := by
  have h := opens_struct (total := 4) Tryz.underlying31 (by kernel_rfl) (from_cons 3 rfl rfl (by kernel_rfl) opAsk11 (from_last 1 rfl rfl (by kernel_rfl) rfl (opens_slice (sz := 9) (B := 96) Tryz.underlying29 (by kernel_rfl) (by decide) (by kernel_rfl) opSaga)))
  exact opens_iso (fun q : (List Rec × List ByteArray × List Int) × List Saga => (q.1.1, q.1.2.1, q.1.2.2, q.2)) (fun _ => rfl) (fun _ h => ⟨h.1.1.1, h.1.1.2, h.1.2, h.2.1, h.2.2⟩) h
end Go.Proofs.YtnhheglbcphklaaGreat.Rx

/- What is known of slots, said of values that stand for more. -/
set_option linter.unusedVariables false
namespace Go.Rx
open Go.RowKit
def agreeW (sl : Slots) : List (Nat × AV) → Prop
  | [] => True
  | (t, x) :: l => WkA (sl t) x ∧ agreeW sl l
theorem agreeW_get {sl : Slots} : ∀ {S : List (Nat × AV)} {t : Nat}, agreeW sl S → mkS S t = .un ∨ WkA (sl t) (mkS S t)
  | [], t, _ => .inl rfl
  | (t0, x) :: S, t, h => by
    by_cases e : t = t0
    · subst e
      right
      have : mkS ((t, x) :: S) t = x := by simp [mkS, List.lookup]
      rw [this]; exact h.1
    · have : mkS ((t0, x) :: S) t = mkS S t := by
        have hb : (t == t0) = false := by simpa using e
        simp [mkS, List.lookup, hb]
      rw [this]
      exact agreeW_get h.2
theorem AW.wk {P : Program} {n : Fr} {c : Code} {Q : Post} {sl : Slots} {bk : List Blk} (S : List (Nat × AV)) (h : agreeW sl S) (hm : AW P n c Q (mkS S) bk) : AW P n c Q sl bk := by
  refine ⟨fun C G a w hn hr => hm.out C G a w hn ⟨hr.size, hr.dfr, fun t => ?_, hr.mem⟩⟩
  rcases agreeW_get (t := t) h with h1 | h1
  · rw [h1]; trivial
  · exact wkA_rep h1 (hr.slots t)
end Go.Rx

/- Blocks renamed, at a place and where ways meet. -/
set_option linter.unusedVariables false
set_option linter.unusedSimpArgs false
namespace Go.Rx
open Go.RowKit
def renS (idx : List Nat) : List (Nat × AV) → Option (List (Nat × AV))
  | [] => some []
  | (t, x) :: l => match renA idx x, renS idx l with | some y, some ys => some ((t, y) :: ys) | _, _ => none
theorem renS_get {sl : Slots} {idx : List Nat} : ∀ {S S' : List (Nat × AV)} {t : Nat}, agree sl S → renS idx S = some S' → mkS S' t = .un ∨ renA idx (sl t) = some (mkS S' t)
  | [], S', t, _, h => by cases h; exact .inl rfl
  | (t0, x) :: S, S', t, ha, h => by
    unfold renS at h
    split at h
    · rename_i y ys hy hys
      cases h
      by_cases e : t = t0
      · subst e
        right
        have : mkS ((t, y) :: ys) t = y := by simp [mkS, List.lookup]
        rw [this, ha.1]; exact hy
      · have : mkS ((t0, y) :: ys) t = mkS ys t := by
          have hb : (t == t0) = false := by simpa using e
          simp [mkS, List.lookup, hb]
        rw [this]
        exact renS_get ha.2 hys
    · cases h
/-- What is known, told of these blocks alone, in this order. -/
def SelK (m : Nat) (idx : List Nat) (S : List (Nat × AV)) (sl : Slots) (bk : List Blk) (K : Slots → List Blk → Prop) : Prop :=
  agree sl S ∧ (nodupB idx && (Nat.ble m idx.length && heads 0 (idx.take m))) = true ∧ ∃ S' B, renS idx S = some S' ∧ pickB idx bk idx = some B ∧ K (mkS S') B
theorem Rel.sel {C : Ctx} {G : Gh} {sl : Slots} {bk : List Blk} {a : Act} {w : World} {m : Nat} (hr : Rel C G sl bk a w) (hm : C.m = m) {idx : List Nat} {S : List (Nat × AV)} {K : Slots → List Blk → Prop} (h : SelK m idx S sl bk K) :
    ∃ G' sl' bk', K sl' bk' ∧ Rel C G' sl' bk' a w := by
  obtain ⟨ha, hx, S', B, hS, hB, hk⟩ := h
  simp only [Bool.and_eq_true] at hx
  subst hm
  obtain ⟨m2, rep⟩ := hr.mem.sel (nodupB_ok hx.1) hB (Nat.le_of_ble_eq_true hx.2.1) hx.2.2
  refine ⟨G.pick idx, _, B, hk, hr.size, hr.dfr, fun t => ?_, m2⟩
  rcases renS_get (t := t) ha hS with h1 | h1
  · rw [h1]; trivial
  · have h0 := hr.slots t
    generalize mkS S' t = y at h1
    generalize sl t = x at h1 h0
    have h2 : renAs idx [x] = some [y] := by simp [renAs, h1]
    exact (renAs_rep rep h2 (us := [_]) ⟨h0, trivial⟩).1
theorem AW.sel {P : Program} {n : Fr} {c : Code} {Q : Post} {sl : Slots} {bk : List Blk} (idx : List Nat) (S : List (Nat × AV)) (h : SelK n.m idx S sl bk fun sl bk => AW P n c Q sl bk) : AW P n c Q sl bk := by
  refine ⟨fun C G a w hn hr => ?_⟩
  obtain ⟨G', sl', bk', hk, hr'⟩ := hr.sel hn.2.1 h
  exact hk.out C G' a w hn hr'
end Go.Rx

/- Small functions that several layers share: numbers within bounds, copies of texts, what writes over steps. -/
set_option linter.unusedVariables false
set_option linter.unusedSimpArgs false
namespace Go.Rx
end Go.Rx
namespace Go.Proofs.YtnhheglbcphklaaGreat.Rx
open Go.Rx Go.Proofs

theorem copyRec_con (r : Rec) (h : r.Ok) : Con P 23 [encRec r] (encRec r) [] := by
  refine Con.of T_ok Tryz.func23 rfl (by kernel_rfl) (by kernel_rfl) (aw_of T_ok (by kernel_rfl) ?_)
  conv => whnf
  refine callU (copySteps_con _ h.steps.len) (fun _ => rfl) ?_
  conv => whnf
  exact finA ⟨rfl⟩
end Go.Proofs.YtnhheglbcphklaaGreat.Rx

/- What writes over answers. -/

/- How much a saga needs; its steps' marks. -/
set_option linter.unusedVariables false
set_option linter.unusedSimpArgs false
namespace Go.Rx
def nI (s : Saga) : Int := IntKind.i64.wrap (IntKind.i64.wrap (IntKind.i64.wrap (2 * IntKind.i64.wrap ((s.steps.length : Int) - s.done)) + s.steps.length) + 2)
def roomI (s : Saga) : Int :=
  if s.status = 0 then IntKind.i64.wrap (24 * (if s.back then IntKind.i64.wrap (s.left + 1) else if s.out then IntKind.i64.wrap (nI s - 1) else nI s)) else 0
abbrev numE (p : Int × Int) : AV := .tup [.lf (.pv (pI p.1)), .lf (.pv (pI p.2))]
theorem finNE {a c : Int} {q : Int × Int} (h : Fin (a, c) q) : ∃ zs, Fa WkA [Go.Rx.I a, Go.Rx.I c] zs ∧ pack zs = some (numE q) := ⟨_, wk_refl _, by rw [← h.out]; rfl⟩
end Go.Rx
namespace Go.Proofs.YtnhheglbcphklaaGreat.Rx
open Go.Rx Go.Proofs Go.Proofs.YtnhheglbcphklaaGreat.RxH

end Go.Proofs.YtnhheglbcphklaaGreat.Rx

/- The marks of all steps. -/
set_option linter.unusedVariables false
set_option linter.unusedSimpArgs false
namespace Go.Rx
end Go.Rx
namespace Go.Proofs.YtnhheglbcphklaaGreat.Rx
open Go.Rx Go.Proofs Go.Proofs.YtnhheglbcphklaaGreat.RxH

end Go.Proofs.YtnhheglbcphklaaGreat.Rx

/- The marks of all steps: the page's answer. -/
set_option linter.unusedVariables false
set_option linter.unusedSimpArgs false
namespace Go.Proofs.YtnhheglbcphklaaGreat.Rx
open Go.Rx Go.Proofs Go.Proofs.YtnhheglbcphklaaGreat.RxH

end Go.Proofs.YtnhheglbcphklaaGreat.Rx

/- A saga of so many steps. -/
set_option linter.unusedVariables false
set_option linter.unusedSimpArgs false
namespace Go.Rx
end Go.Rx
namespace Go.Proofs.YtnhheglbcphklaaGreat.Rx
open Go.Rx Go.Proofs Go.Proofs.YtnhheglbcphklaaGreat.RxH

theorem begin9_con (r : Rec) (h : r.steps.length * 80 ≤ 140737488351232) : Con P 31 [encRec r] (encSaga ⟨r.id, r.key, r.body, r.steps, 0, false, false, 0, 0⟩) [] := by
  refine Con.of T_ok Tryz.func31 rfl (by kernel_rfl) (by kernel_rfl) (aw_of T_ok (by kernel_rfl) ?_)
  conv => whnf
  refine AW.draw T_ok rfl (seqPl 0 11) (by kernel_rfl) (by kernel_rfl) ?_
  conv => whnf
  refine callU (copySteps_con r.steps h) (fun _ => rfl) ?_
  conv => whnf
  exact finA ⟨rfl⟩
end Go.Proofs.YtnhheglbcphklaaGreat.Rx

/- Behind each record of a saga that goes there and back: marks and needs. -/
set_option linter.unusedVariables false
set_option linter.unusedSimpArgs false
namespace Go.Rx
theorem next_keep (s : Saga) (r : Rec) : (nextS s r).key = s.key ∧ (nextS s r).body = s.body ∧ (nextS s r).steps = s.steps := by
  rw [nextS]; repeat' split
  all_goals exact ⟨rfl, rfl, rfl⟩
theorem next_ok {s : Saga} {r : Rec} (h : s.Ok) : (nextS s r).Ok := by
  obtain ⟨h1, h2, h3⟩ := next_keep s r
  exact ⟨by rw [h1]; exact h.key, by rw [h2]; exact h.body, by rw [h3]; exact h.steps⟩
end Go.Rx
namespace Go.Proofs.YtnhheglbcphklaaGreat.Rx
open Go.Rx Go.Proofs Go.Proofs.YtnhheglbcphklaaGreat.RxH

end Go.Proofs.YtnhheglbcphklaaGreat.Rx

/- A saga that goes there, and back: the law that it is committed, or undone. -/
set_option linter.unusedVariables false
set_option linter.unusedSimpArgs false
namespace Go.Rx
end Go.Rx
namespace Go.Proofs.YtnhheglbcphklaaGreat.Rx
open Go.Rx Go.Proofs Go.Proofs.YtnhheglbcphklaaGreat.RxH

end Go.Proofs.YtnhheglbcphklaaGreat.Rx

/- All records of a saga's number, behind those of a script. -/
set_option linter.unusedVariables false
set_option linter.unusedSimpArgs false
namespace Go.Rx
end Go.Rx
namespace Go.Proofs.YtnhheglbcphklaaGreat.Rx
open Go.Rx Go.Proofs Go.Proofs.YtnhheglbcphklaaGreat.RxH

theorem copyRecsO_con (l : List Rec) (hl : l.length * 80 ≤ 140737488351232) (hr : ∀ r ∈ l, r.Ok) : Con P 5 [.lf (.pv (encRecs l))] (.lf (.own 0 l.length)) [.arr 44 6 (l.map Rec.enc)] := by
  refine ConG.con (ConG.of T_ok Tryz.func5 rfl (by kernel_rfl) (by kernel_rfl) (aw_of T_ok (by kernel_rfl) ?_)) rfl
  conv => whnf
  refine AW.loop (fun k : Nat => k ≤ l.length) (fun k => [(0, .lf (.pv (encRecs l))), (3, .lf (.own 0 k)), (4, Go.Rx.I k)]) (fun k => [.arr 44 6 ((l.take k).map Rec.enc)]) (fun k => l.length - k) [.slot 3 44 6] ?_ ?_
  · exact ⟨rfl, 0, Nat.zero_le _, ⟨rfl, rfl, rfl, trivial⟩, ⟨[], rfl⟩, rfl, rfl⟩
  · intro k hk
    refine aw_of T_ok (by kernel_rfl) ?_
    conv => whnf
    split <;> rename_i hlt <;> conv => whnf
    · have hkl : k < l.length := by simp at hlt; omega
      refine ⟨by omega, (l[k]).enc, by simp [hkl], ?_⟩
      conv => whnf
      refine callU (copyRec_con l[k] (hr _ (List.getElem_mem hkl))) (fun _ => rfl) ?_
      conv => whnf
      refine ⟨rfl, _, .inl rfl, ?_⟩
      conv => whnf
      refine ⟨by simp; omega, by show (k + 1) * 80 ≤ _; omega, ?_⟩
      conv => whnf
      refine ⟨k + 1, ⟨by omega, by omega⟩, ⟨rfl, rfl, congrArg Go.Rx.I (wrapI (by omega)), trivial⟩, ⟨[?r], ?e⟩, rfl, rfl⟩
      case e => show _ = [Blk.arr _ _ (List.map Rec.enc (l.take (k + 1)))] ++ [_]; rw [take_succ' hkl, List.map_append]; rfl
    · have hkl : k = l.length := by simp at hlt; omega
      subst hkl
      refine ⟨[], [0], [.lf (.own 0 l.length)], [.lf (.own 0 l.length)], rfl, ?_, rfl, wk_refl _, rfl⟩
      show some [Blk.arr _ 6 ((l.take l.length).map Rec.enc)] = _
      rw [List.take_length]
end Go.Proofs.YtnhheglbcphklaaGreat.Rx

/- What a record makes of a saga: it ends. -/
set_option linter.unusedVariables false
set_option linter.unusedSimpArgs false
namespace Go.Rx
structure Parts (s : Saga) : Prop where
  rc : recB (begR s) = true
  d0 : 0 ≤ s.done
  d1 : s.done ≤ s.steps.length
  ou : s.out = true → ¬ s.done = s.steps.length
  l0 : 0 ≤ s.left
  l1 : s.left ≤ mostI s
  bk : s.back = false → s.left = 0
  en : endsB s s.status = true
theorem parts_iff {s : Saga} : sagaB s = true ↔ Parts s := by
  constructor
  · intro h
    simp only [sagaB, Bool.and_eq_true, decide_eq_true_eq, Bool.not_eq_true', Bool.and_eq_false_iff, bne_eq_false_iff_eq, beq_eq_false_iff_ne, Bool.not_eq_false'] at h
    obtain ⟨h1, h2, h3, h4, h5, h6, h7, h8⟩ := h
    refine ⟨h1, h2, h3, fun e => ?_, h5, h6, fun e => ?_, h8⟩
    · rcases h4 with h4 | h4
      · rw [e] at h4; cases h4
      · exact h4
    · rcases h7 with h7 | h7
      · rw [e] at h7; cases h7
      · exact h7
  · intro h
    simp only [sagaB, Bool.and_eq_true, decide_eq_true_eq, Bool.not_eq_true', Bool.and_eq_false_iff, bne_eq_false_iff_eq, beq_eq_false_iff_ne, Bool.not_eq_false']
    refine ⟨h.rc, h.d0, h.d1, ?_, h.l0, h.l1, ?_, h.en⟩
    · cases ho : s.out
      · exact .inl rfl
      · exact .inr (h.ou ho)
    · cases hb : s.back
      · exact .inr (h.bk hb)
      · exact .inl rfl
theorem parts_len {s : Saga} (h : Parts s) : 1 ≤ s.steps.length ∧ s.steps.length ≤ 5 ∧ 1 ≤ s.id ∧ s.id ≤ 20 := by
  have h1 := h.rc
  rw [recB, Bool.and_eq_true, if_pos rfl, begB] at h1
  simp only [Bool.and_eq_true, decide_eq_true_eq] at h1
  obtain ⟨⟨h2, h3⟩, _, _, _, _, _, h4⟩ := h1
  rw [stepsB] at h4
  simp only [Bool.and_eq_true, decide_eq_true_eq] at h4
  exact ⟨h4.2.1, h4.2.2, h2, h3⟩
def needN (s : Saga) : Int := if s.back then s.left + 1 else if s.out then 2 * (s.steps.length - s.done) + s.steps.length + 1 else 2 * (s.steps.length - s.done) + s.steps.length + 2
theorem most_le {s : Saga} (h : Parts s) : mostI s ≤ 6 := by
  have := parts_len h
  have := h.d1
  unfold mostI; split <;> omega
theorem room_eq {s : Saga} (h : Parts s) : roomI s = if s.status = 0 then 24 * needN s else 0 := by
  have hl := parts_len h
  have h0 := h.d0
  have h1 := h.d1
  have h2 := h.l0
  have h3 := h.l1
  have h4 := most_le h
  unfold roomI
  split
  · unfold needN nI
    rw [wrapI (n := (s.steps.length : Int) - s.done) (by omega), wrapI (n := 2 * ((s.steps.length : Int) - s.done)) (by omega), wrapI (n := 2 * ((s.steps.length : Int) - s.done) + s.steps.length) (by omega), wrapI (n := 2 * ((s.steps.length : Int) - s.done) + s.steps.length + 2) (by omega)]
    split
    · rw [wrapI (n := s.left + 1) (by omega), wrapI (by omega)]
    split
    · rw [wrapI (n := 2 * ((s.steps.length : Int) - s.done) + s.steps.length + 2 - 1) (by omega), wrapI (by omega)]; omega
    · rw [wrapI (by omega)]
  · rfl
theorem need_low {s : Saga} (h : Parts s) : 1 ≤ needN s ∧ needN s ≤ 17 := by
  have hl := parts_len h
  have h0 := h.d0
  have h1 := h.d1
  have h2 := h.l0
  have h3 := h.l1
  have h4 := most_le h
  unfold needN; repeat' split
  all_goals omega
/-- A record that applies: it may be, it is the saga's, the saga goes on, it fits. -/
theorem apply_went {s : Saga} {r : Rec} (hs : sagaB s = true) (he : (applyS s r).2 = 0) : recB r = true ∧ r.id = s.id ∧ s.status = 0 ∧ fitsB s r = true ∧ (applyS s r).1 = nextS s r := by
  unfold applyS at he ⊢
  split at he
  · cases he
  rename_i h1
  split at he
  · cases he
  rename_i h2
  split at he
  · rename_i h3
    rw [if_neg h1, if_neg h2, if_pos h3]
    simp only [Bool.and_eq_true, beq_iff_eq] at h3
    simp only [Bool.or_eq_true, Bool.not_eq_true', not_or, Bool.not_eq_false] at h1
    exact ⟨h1.2, h3.1, h3.2.1, h3.2.2, rfl⟩
  · cases he
theorem apply_goes {s : Saga} {r : Rec} (hs : sagaB s = true) (h1 : recB r = true) (h2 : r.id = s.id) (h3 : s.status = 0) (h4 : fitsB s r = true) : (applyS s r).2 = 0 := by
  unfold applyS
  rw [if_neg (by rw [hs, h1]; decide), if_neg (by rw [h2]; simp), if_pos (by rw [h2, h3, h4]; simp)]
structure Good (s x : Saga) : Prop where
  may : sagaB x = true
  room : roomI x ≤ roomI s - 24
  st : s.status = 0
  d0 : s.done ≤ x.done
  d1 : x.done ≤ s.done + 1
  bk : s.back = true → x.back = true
  lf : s.back = true → x.left ≤ s.left
theorem good_of {s x : Saga} (hp : Parts s) (hst : s.status = 0) (hx : Parts x) (hn : x.status = 0 → needN x + 1 ≤ needN s) (h1 : s.done ≤ x.done) (h2 : x.done ≤ s.done + 1) (h3 : s.back = true → x.back = true) (h4 : s.back = true → x.left ≤ s.left) : Good s x := by
  refine ⟨parts_iff.2 hx, ?_, hst, h1, h2, h3, h4⟩
  rw [room_eq hp, room_eq hx, if_pos hst]
  have := (need_low hp).1
  split
  · rename_i e; have := hn e; omega
  · omega
theorem kind_n {r : Rec} (h : recB r = true) (k : r.kind = 2 ∨ r.kind = 3 ∨ r.kind = 5) : 0 ≤ r.n ∧ r.n < 5 := by
  rw [recB, Bool.and_eq_true] at h
  have h2 := h.2
  rw [if_neg (by omega), Bool.and_eq_true] at h2
  have h3 := h2.2
  rw [kindB, if_pos k] at h3
  simpa using h3
theorem apply_good {s : Saga} {r : Rec} (hs : sagaB s = true) (he : (applyS s r).2 = 0) : Good s (applyS s r).1 := by
  obtain ⟨hr, hid, hst, hf, hx⟩ := apply_went hs he
  rw [hx]
  have hp := parts_iff.1 hs
  have hl := parts_len hp
  have hml := most_le hp
  have p0 := hp.d0
  have p1 := hp.d1
  have p2 := hp.l0
  have p3 := hp.l1
  have p4 := hp.ou
  have p5 := hp.bk
  have p6 := hp.en
  have p7 := hp.rc
  obtain ⟨id, key, body, steps, done, out, back, left, status⟩ := s
  simp only at hst hid hl p0 p1 p2 p3 p4 p5
  subst hst
  unfold fitsB at hf
  split at hf
  · rename_i hk
    simp only [Bool.and_eq_true, Bool.not_eq_true', beq_iff_eq, decide_eq_true_eq] at hf
    obtain ⟨rfl, rfl, hn, hlt⟩ := hf
    have hl0 := p5 rfl
    rw [nextS, if_pos hk]
    exact good_of hp rfl ⟨p7, p0, p1, fun _ => by simp only; omega, p2, by simp only [mostI, if_true]; omega, fun _ => hl0, rfl⟩ (fun _ => by simp [needN]; omega) (by simp only; omega) (by simp only; omega) (fun e => e) (fun e => by cases e)
  split at hf
  · rename_i hk2 hk
    simp only [Bool.and_eq_true, Bool.not_eq_true', beq_iff_eq] at hf
    obtain ⟨rfl, rfl, hn⟩ := hf
    have hl0 := p5 rfl
    have hne := p4 rfl
    rw [nextS, if_neg hk2, if_pos hk]
    dsimp only
    rw [wrapI (n := done + 1) (by omega)]
    exact good_of hp rfl ⟨p7, by simp only; omega, by simp only; omega, fun e => (by cases e), p2, by simp only [mostI]; simp; omega, fun _ => hl0, rfl⟩ (fun _ => by simp [needN]; omega) (by simp only; omega) (by simp only; omega) (fun e => e) (fun e => by cases e)
  split at hf
  · rename_i hk2 hk3 hk
    simp only [Bool.and_eq_true, Bool.not_eq_true'] at hf
    obtain ⟨rfl, rfl⟩ := hf
    have hne := p4 rfl
    rw [nextS, if_neg hk2, if_neg hk3, if_pos hk]
    dsimp only
    rw [wrapI (n := done + 1) (by omega)]
    exact good_of hp rfl ⟨p7, p0, p1, fun _ => hne, by simp only; omega, by simp only [mostI, if_true]; omega, fun e => (by cases e), rfl⟩ (fun _ => by simp [needN]; omega) (by simp only; omega) (by simp only; omega) (fun _ => rfl) (fun e => by cases e)
  split at hf
  · rename_i hk2 hk3 hk4 hk
    simp only [Bool.and_eq_true, beq_iff_eq] at hf
    obtain ⟨rfl, hn⟩ := hf
    have hnn := kind_n hr (.inr (.inr hk))
    simp only [mostI] at p3 hml
    rw [wrapI (by omega)] at hn
    rw [nextS, if_neg hk2, if_neg hk3, if_neg hk4, if_pos hk]
    exact good_of hp rfl ⟨p7, p0, p1, p4, by simp only; omega, by simp only [mostI]; omega, fun e => (by cases e), rfl⟩ (fun _ => by simp [needN]; omega) (by simp only; omega) (by simp only; omega) (fun _ => rfl) (fun _ => by simp only; omega)
  split at hf
  · rename_i hk2 hk3 hk4 hk5 hk
    have hnn := rec_end hr hk
    rw [nextS, if_neg hk2, if_neg hk3, if_neg hk4, if_neg hk5]
    exact good_of hp rfl ⟨p7, p0, p1, p4, p2, p3, p5, hf⟩ (fun e => by simp only at e; omega) (by simp only; omega) (by simp only; omega) (fun e => e) (fun _ => by simp only; omega)
  · cases hf
end Go.Rx

/- All sagas of records, in plain Lean: which record goes behind which sagas, and what they are then. -/
set_option linter.unusedVariables false
set_option linter.unusedSimpArgs false
namespace Go.Rx
def newS (r : Rec) : Saga := ⟨r.id, r.key, r.body, r.steps, 0, false, false, 0, 0⟩
def keyI (l : List Saga) (k : ByteArray) : Int := idxL (fun s : Saga => s.key == k) l 0
def goesB (l : List Saga) (r : Rec) : Bool :=
  if r.kind = 1 then r.id == ((l.length + 1 : Nat) : Int) && !(decide (0 ≤ keyI l r.key))
  else match l[(r.id - 1).toNat]? with | some s => r.id == s.id && (s.status == 0 && fitsB s r) | none => false
def stepL (l : List Saga) (r : Rec) : List Saga :=
  if r.kind = 1 then l ++ [newS r] else match l[(r.id - 1).toNat]? with | some s => l.set (r.id - 1).toNat (nextS s r) | none => l
def foldL : List Saga → List Rec → Option (List Saga)
  | l, [] => some l
  | l, r :: rs => if goesB l r then foldL (stepL l r) rs else none
def ofP (l : List Rec) : List Saga × Int := if l.all recB then (match foldL [] l with | some x => (x, 0) | none => ([], 10)) else ([], 1)

theorem next_id (s : Saga) (r : Rec) : (nextS s r).id = s.id := by
  rw [nextS]; repeat' split
  all_goals rfl
structure SgAt (l : List Saga) (i : Nat) (s : Saga) : Prop where
  ok : s.Ok
  may : sagaB s = true
  id : s.id = i + 1
  key : ∀ (j : Nat) (x : Saga), j < i → l[j]? = some x → x.key ≠ s.key
/-- Sagas that may be together. -/
structure Sgs (l : List Saga) : Prop where
  len : l.length ≤ 20
  sg : ∀ (i : Nat) (s : Saga), l[i]? = some s → SgAt l i s
theorem sgs_nil : Sgs [] := ⟨by decide, by intro i s h; simp at h⟩
theorem new_may {r : Rec} (h : recB r = true) (k : r.kind = 1) : sagaB (newS r) = true := by
  have hb : begR (newS r) = r := by
    have hn : r.n = 0 := by
      unfold recB at h
      rw [if_pos k, Bool.and_eq_true] at h
      have := h.2
      unfold begB at this
      rw [Bool.and_eq_true] at this
      exact eq_of_beq this.1
    cases r
    simp only at hn k
    subst hn; subst k; rfl
  have hlen : 1 ≤ r.steps.length := by
    unfold recB at h
    rw [if_pos k, Bool.and_eq_true] at h
    have := h.2
    unfold begB at this
    simp only [Bool.and_eq_true, stepsB, decide_eq_true_eq] at this
    exact this.2.2.2.2.2.2.1
  rw [sagaB, hb, h]
  simp [newS, mostI, endsB]
theorem new_ok {r : Rec} (h : r.Ok) : (newS r).Ok := ⟨h.key, h.body, h.steps⟩
theorem idx_neg {α : Type} {p : α → Bool} {l : List α} {k : Nat} : idxL p l k < 0 ↔ ∀ x ∈ l, p x = false := by
  have h := idx_any (p := p) l k
  constructor
  · intro hn x hx
    have e : l.any p = false := by rw [← h, decide_eq_false_iff_not]; omega
    exact Bool.eq_false_iff.2 (List.any_eq_false.1 e x hx)
  · intro hx
    have e : l.any p = false := List.any_eq_false.2 fun x hm => by rw [hx x hm]; decide
    rw [← h, decide_eq_false_iff_not] at e
    omega
theorem goes_begin {l : List Saga} {r : Rec} (h : goesB l r = true) (k : r.kind = 1) : r.id = ((l.length + 1 : Nat) : Int) ∧ ∀ s ∈ l, s.key ≠ r.key := by
  rw [goesB, if_pos k, Bool.and_eq_true] at h
  refine ⟨eq_of_beq h.1, fun s hs e => ?_⟩
  have h2 : keyI l r.key < 0 := by
    have := h.2
    simp only [Bool.not_eq_true', decide_eq_false_iff_not] at this
    omega
  have := idx_neg.1 h2 s hs
  rw [e] at this
  simp at this
theorem goes_on {l : List Saga} {r : Rec} (h : goesB l r = true) (k : ¬ r.kind = 1) : ∃ s, l[(r.id - 1).toNat]? = some s ∧ r.id = s.id ∧ s.status = 0 ∧ fitsB s r = true := by
  rw [goesB, if_neg k] at h
  split at h
  · rename_i s hs
    simp only [Bool.and_eq_true] at h
    exact ⟨s, hs, eq_of_beq h.1, eq_of_beq h.2.1, h.2.2⟩
  · cases h
theorem rec_id {r : Rec} (h : recB r = true) : 1 ≤ r.id ∧ r.id ≤ 20 := by
  unfold recB at h
  simp only [Bool.and_eq_true, decide_eq_true_eq] at h
  exact h.1
theorem sgs_step {l : List Saga} {r : Rec} (hl : Sgs l) (hr : recB r = true) (hok : r.Ok) (hg : goesB l r = true) : Sgs (stepL l r) := by
  have hid := rec_id hr
  by_cases k : r.kind = 1
  · obtain ⟨h1, h2⟩ := goes_begin hg k
    rw [stepL, if_pos k]
    refine ⟨by rw [List.length_append]; simp; omega, fun i s hs => ?_⟩
    rcases Nat.lt_trichotomy i l.length with hi | hi | hi
    · rw [List.getElem?_append_left hi] at hs
      have := hl.sg i s hs
      exact ⟨this.ok, this.may, this.id, fun j x hj hx => this.key j x hj (by rw [List.getElem?_append_left (by omega)] at hx; exact hx)⟩
    · subst hi
      rw [List.getElem?_append_right (Nat.le_refl _), Nat.sub_self] at hs
      simp at hs
      subst hs
      refine ⟨new_ok hok, new_may hr k, by show r.id = _; omega, fun j x hj hx => ?_⟩
      rw [List.getElem?_append_left hj] at hx
      exact h2 x (List.mem_of_getElem? hx)
    · rw [List.getElem?_eq_none (by simp; omega)] at hs; cases hs
  · obtain ⟨s0, h1, h2, h3, h4⟩ := goes_on hg k
    have h0 := hl.sg _ _ h1
    rw [stepL, if_neg k, h1]
    simp only
    refine ⟨by rw [List.length_set]; exact hl.len, fun i s hs => ?_⟩
    have hkey : ∀ (j : Nat) (x : Saga), (l.set (r.id - 1).toNat (nextS s0 r))[j]? = some x → ∃ y : Saga, l[j]? = some y ∧ x.key = y.key := fun j x hx => by
      by_cases e : (r.id - 1).toNat = j
      · subst e
        rw [List.getElem?_set_self (List.getElem?_eq_some_iff.1 h1).1] at hx
        cases hx
        exact ⟨s0, h1, (next_keep s0 r).1⟩
      · rw [List.getElem?_set_ne e] at hx
        exact ⟨x, hx, rfl⟩
    by_cases e : (r.id - 1).toNat = i
    · subst e
      rw [List.getElem?_set_self (List.getElem?_eq_some_iff.1 h1).1] at hs
      cases hs
      have happ : (applyS s0 r).2 = 0 := apply_goes h0.may hr h2 h3 h4
      have hgo := apply_good h0.may happ
      rw [(apply_went h0.may happ).2.2.2.2] at hgo
      refine ⟨next_ok h0.ok, hgo.may, by rw [next_id]; exact h0.id, fun j x hj hx => ?_⟩
      obtain ⟨y, hy, hk⟩ := hkey j x hx
      rw [hk, (next_keep s0 r).1]
      exact h0.key j y hj hy
    · rw [List.getElem?_set_ne e] at hs
      have h5 := hl.sg i s hs
      refine ⟨h5.ok, h5.may, h5.id, fun j x hj hx => ?_⟩
      obtain ⟨y, hy, hk⟩ := hkey j x hx
      rw [hk]
      exact h5.key j y hj hy
theorem sgs_fold : ∀ {rs : List Rec} {l x : List Saga}, Sgs l → (∀ r ∈ rs, recB r = true) → (∀ r ∈ rs, r.Ok) → foldL l rs = some x → Sgs x
  | [], l, x, hl, _, _, h => by simp [foldL] at h; subst h; exact hl
  | r :: rs, l, x, hl, hr, hok, h => by
    rw [foldL] at h
    split at h
    · rename_i hg
      exact sgs_fold (sgs_step hl (hr r (by simp)) (hok r (by simp)) hg) (fun y hy => hr y (by simp [hy])) (fun y hy => hok y (by simp [hy])) h
    · cases h
theorem of_sgs {l : List Rec} (hok : ∀ r ∈ l, r.Ok) : Sgs (ofP l).1 := by
  unfold ofP
  split
  · rename_i h
    split
    · rename_i x hx
      exact sgs_fold sgs_nil (fun r hr => List.all_eq_true.1 h r hr) hok hx
    · exact sgs_nil
  · exact sgs_nil
theorem of_err (l : List Rec) : -9223372036854775808 ≤ (ofP l).2 ∧ (ofP l).2 ≤ 9223372036854775807 := by
  unfold ofP; repeat' split
  all_goals (simp only; omega)
end Go.Rx

/- Sagas of records: the functions. -/
set_option linter.unusedVariables false
set_option linter.unusedSimpArgs false
namespace Go.Rx
abbrev sagasE (p : List Saga × Int) : AV := .tup [.lf (.pv (encSagas p.1)), .lf (.pv (pI p.2))]
theorem sg_small {l : List Saga} (h : Sgs l) : l.length * 96 ≤ 140737488351232 := by have := h.len; omega
end Go.Rx
namespace Go.Proofs.YtnhheglbcphklaaGreat.Rx
open Go.Rx Go.Proofs Go.Proofs.YtnhheglbcphklaaGreat.RxH

theorem eqSagas_con (a b : List Saga) (ha : a.length * 96 ≤ 140737488351232) (hs : ∀ s ∈ a, s.steps.length * 80 ≤ 140737488351232) : Con P 10 [.lf (.pv (encSagas a)), .lf (.pv (encSagas b))] (Bl (decide (a = b))) [] := by
  refine Con.of T_ok Tryz.func10 rfl (by kernel_rfl) (by kernel_rfl) (aw_of T_ok (by kernel_rfl) ?_)
  conv => whnf
  split <;> rename_i h <;> conv => whnf
  · refine retB ?_
    symm
    rw [decide_eq_false_iff_not]
    rintro rfl
    simp at h
  · have hl : a.length = b.length := by simp at h; omega
    refine AW.loop (fun k : Nat => k ≤ a.length ∧ ∀ j, j < k → a[j]? = b[j]?) (fun k => [(0, .lf (.pv (encSagas a))), (1, .lf (.pv (encSagas b))), (5, Go.Rx.I k)]) (fun _ => []) (fun k => a.length - k) [] ?_ ?_
    · exact ⟨0, ⟨Nat.zero_le _, fun j hj => absurd hj (Nat.not_lt_zero _)⟩, ⟨rfl, rfl, rfl, trivial⟩, ⟨[], rfl⟩, rfl, rfl⟩
    · rintro k ⟨hk, hpre⟩
      refine aw_of T_ok (by kernel_rfl) ?_
      conv => whnf
      split <;> rename_i hlt <;> conv => whnf
      · have hka : k < a.length := by simp at hlt; omega
        have hkb : k < b.length := by omega
        refine AW.draw T_ok rfl (seqPl 0 10) (by kernel_rfl) (by kernel_rfl) ?_
        conv => whnf
        refine ⟨by omega, (a[k]).enc, by simp [hka], ?_⟩
        conv => whnf
        refine ⟨by omega, (b[k]).enc, by simp [hkb], ?_⟩
        conv => whnf
        refine callS (eqSaga_con a[k] b[k] (hs _ (List.getElem_mem hka))) rfl ?_
        conv => whnf
        split <;> rename_i he <;> conv => whnf
        · refine finB ⟨?_⟩
          symm
          rw [decide_eq_false_iff_not]
          rintro rfl
          simp at he
        · refine ⟨k + 1, ⟨⟨by omega, fun j hj => ?_⟩, by omega⟩, ⟨rfl, rfl, congrArg Go.Rx.I (wrapI (by omega)), trivial⟩, ⟨[], rfl⟩, rfl, rfl⟩
          rcases Nat.lt_or_ge j k with hjk | hjk
          · exact hpre j hjk
          · obtain rfl : j = k := by omega
            have : a[j] = b[j] := by simpa using he
            rw [List.getElem?_eq_getElem hka, List.getElem?_eq_getElem hkb, this]
      · have hka : k = a.length := by simp at hlt; omega
        subst hka
        refine finB ⟨?_⟩
        symm
        rw [decide_eq_true_eq]
        apply List.ext_getElem?
        intro j
        rcases Nat.lt_or_ge j a.length with hj | hj
        · exact hpre j hj
        · rw [List.getElem?_eq_none hj, List.getElem?_eq_none (by omega)]
theorem keyed1_con (s : Saga) (k : ByteArray) : Con P 61 [encSaga s, .lf (.ro [pS k])] (Bl (s.key == k)) [] := by
  refine Con.of T_ok Tryz.func61 rfl (by kernel_rfl) (by kernel_rfl) (aw_of T_ok (by kernel_rfl) ?_)
  conv => whnf
  exact finB ⟨rfl⟩
theorem indexSg_con (l : List Saga) (x : ByteArray) (hl : l.length * 96 ≤ 140737488351232) : Con P 60 [.lf (.pv (encSagas l)), .lf (.fn 61 [[pS x]])] (I (keyI l x)) [] := by
  refine Con.of T_ok Tryz.func60 rfl (by kernel_rfl) (by kernel_rfl) (aw_of T_ok (by kernel_rfl) ?_)
  conv => whnf
  refine AW.loop (fun k : Nat => k ≤ l.length ∧ idxL (fun s : Saga => s.key == x) (l.drop k) k = keyI l x) (fun k => [(0, .lf (.pv (encSagas l))), (1, .lf (.fn 61 [[pS x]])), (7, Go.Rx.I l.length), (8, Go.Rx.I k)]) (fun _ => []) (fun k => l.length - k) [] ?_ ?_
  · exact ⟨0, ⟨Nat.zero_le _, rfl⟩, ⟨rfl, rfl, congrArg (fun n : Nat => Go.Rx.I (n : Int)) (List.length_map ..), rfl, trivial⟩, ⟨[], rfl⟩, rfl, rfl⟩
  · rintro k ⟨hk, hpre⟩
    refine aw_of T_ok (by kernel_rfl) ?_
    conv => whnf
    split <;> rename_i hlt <;> conv => whnf
    · have hkl : k < l.length := by simpa using hlt
      rw [idx_go hkl] at hpre
      refine ⟨by omega, (l[k]).enc, by simp [hkl], ?_⟩
      conv => whnf
      refine callS (keyed1_con l[k] x) rfl ?_
      conv => whnf
      split <;> rename_i he <;> conv => whnf
      · refine finI ⟨?_⟩
        rw [← hpre, if_pos (show (l[k].key == x) = true from he)]
      · refine ⟨k + 1, ⟨⟨by omega, ?_⟩, by omega⟩, ⟨rfl, rfl, rfl, congrArg Go.Rx.I (wrapI (by omega)), trivial⟩, ⟨[], rfl⟩, rfl, rfl⟩
        rw [← hpre, if_neg (by rw [show (l[k].key == x) = false from he]; decide)]
    · refine finI ⟨?_⟩
      have hkl : l.length ≤ k := by simpa using hlt
      rw [← hpre, idx_end hkl]
theorem keyed_con (l : List Saga) (x : ByteArray) (hl : l.length * 96 ≤ 140737488351232) : Con P 38 [.lf (.pv (encSagas l)), Sx x] (I (keyI l x)) [] := by
  refine Con.of T_ok Tryz.func38 rfl (by kernel_rfl) (by kernel_rfl) (aw_of T_ok (by kernel_rfl) ?_)
  conv => whnf
  refine callS (indexSg_con l x hl) rfl ?_
  conv => whnf
  exact finI ⟨rfl⟩
theorem of1_con (r : Rec) (h : r.Ok) : Con P 25 [encRec r] (Bl (!(recB r))) [] := by
  refine Con.of T_ok Tryz.func25 rfl (by kernel_rfl) (by kernel_rfl) (aw_of T_ok (by kernel_rfl) ?_)
  conv => whnf
  refine callS (recMay_con r h) rfl ?_
  conv => whnf
  exact finB ⟨rfl⟩
theorem indexRec_con (l : List Rec) (hl : l.length * 80 ≤ 140737488355328) (hr : ∀ r ∈ l, r.Ok) : Con P 44 [.lf (.pv (encRecs l)), .lf (.fn 25 [])] (I (idxL (fun r : Rec => !(recB r)) l 0)) [] := by
  refine Con.of T_ok Tryz.func44 rfl (by kernel_rfl) (by kernel_rfl) (aw_of T_ok (by kernel_rfl) ?_)
  conv => whnf
  refine AW.loop (fun k : Nat => k ≤ l.length ∧ idxL (fun r : Rec => !(recB r)) (l.drop k) k = idxL (fun r : Rec => !(recB r)) l 0) (fun k => [(0, .lf (.pv (encRecs l))), (1, .lf (.fn 25 [])), (7, Go.Rx.I l.length), (8, Go.Rx.I k)]) (fun _ => []) (fun k => l.length - k) [] ?_ ?_
  · exact ⟨0, ⟨Nat.zero_le _, rfl⟩, ⟨rfl, rfl, congrArg (fun n : Nat => Go.Rx.I (n : Int)) (List.length_map ..), rfl, trivial⟩, ⟨[], rfl⟩, rfl, rfl⟩
  · rintro k ⟨hk, hpre⟩
    refine aw_of T_ok (by kernel_rfl) ?_
    conv => whnf
    split <;> rename_i hlt <;> conv => whnf
    · have hkl : k < l.length := by simpa using hlt
      rw [idx_go hkl] at hpre
      refine ⟨by omega, (l[k]).enc, by simp [hkl], ?_⟩
      conv => whnf
      refine callS (of1_con l[k] (hr _ (List.getElem_mem hkl))) rfl ?_
      conv => whnf
      split <;> rename_i he <;> conv => whnf
      · refine finI ⟨?_⟩
        rw [← hpre, if_pos (show (!(recB l[k])) = true from he)]
      · refine ⟨k + 1, ⟨⟨by omega, ?_⟩, by omega⟩, ⟨rfl, rfl, rfl, congrArg Go.Rx.I (wrapI (by omega)), trivial⟩, ⟨[], rfl⟩, rfl, rfl⟩
        rw [← hpre, if_neg (by rw [show (!(recB l[k])) = false from he]; decide)]
    · refine finI ⟨?_⟩
      have hkl : l.length ≤ k := by simpa using hlt
      rw [← hpre, idx_end hkl]
theorem anyRec_con (l : List Rec) (hl : l.length * 80 ≤ 140737488355328) (hr : ∀ r ∈ l, r.Ok) : Con P 24 [.lf (.pv (encRecs l)), .lf (.fn 25 [])] (Bl (l.any fun r : Rec => !(recB r))) [] := by
  refine Con.of T_ok Tryz.func24 rfl (by kernel_rfl) (by kernel_rfl) (aw_of T_ok (by kernel_rfl) ?_)
  conv => whnf
  refine callS (indexRec_con l hl hr) rfl ?_
  conv => whnf
  exact finB ⟨idx_any l 0⟩
/-- Whether any has a key, and where, as the page tells it. -/
theorem find9_con (l : List Saga) (x : ByteArray) (hl : l.length * 96 ≤ 140737488351232) (hid : ∀ (i : Nat) (s : Saga), l[i]? = some s → s.id = i + 1) : Con P 16 [.lf (.pv (encSagas l)), Sx x] (I (keyI l x + 1)) [] := by
  refine Con.of T_ok Tryz.func16 rfl (by kernel_rfl) (by kernel_rfl) (aw_of T_ok (by kernel_rfl) ?_)
  conv => whnf
  refine AW.loop (fun k : Nat => k ≤ l.length ∧ idxL (fun s : Saga => s.key == x) (l.drop k) k = keyI l x) (fun k => [(0, .lf (.pv (encSagas l))), (1, Sx x), (5, Go.Rx.I k)]) (fun _ => []) (fun k => l.length - k) [] ?_ ?_
  · exact ⟨0, ⟨Nat.zero_le _, rfl⟩, ⟨rfl, rfl, rfl, trivial⟩, ⟨[], rfl⟩, rfl, rfl⟩
  · rintro k ⟨hk, hpre⟩
    refine aw_of T_ok (by kernel_rfl) ?_
    conv => whnf
    split <;> rename_i hlt <;> conv => whnf
    · have hkl : k < l.length := by simpa using hlt
      rw [idx_go hkl] at hpre
      refine ⟨by omega, (l[k]).enc, by simp [hkl], ?_⟩
      conv => whnf
      split <;> rename_i he <;> conv => whnf
      · refine ⟨by omega, (l[k]).enc, by simp [hkl], ?_⟩
        conv => whnf
        refine finI ⟨?_⟩
        rw [← hpre, if_pos (show (l[k].key == x) = true from he)]
        exact hid k l[k] (List.getElem?_eq_getElem hkl)
      · refine ⟨k + 1, ⟨⟨by omega, ?_⟩, by omega⟩, ⟨rfl, rfl, congrArg Go.Rx.I (wrapI (by omega)), trivial⟩, ⟨[], rfl⟩, rfl, rfl⟩
        rw [← hpre, if_neg (by rw [show (l[k].key == x) = false from he]; decide)]
    · refine finI ⟨?_⟩
      have hkl : l.length ≤ k := by simpa using hlt
      rw [← hpre, idx_end hkl]
      rfl
theorem long3_con : Con P 17 [Go.Rx.I 3] (numE (4, 0)) [] := by
  have hlong : Con P 39 [Go.Rx.I 3] (Go.Rx.I 4) [] := by
    refine Con.of T_ok Tryz.func39 rfl (by kernel_rfl) (by kernel_rfl) (aw_of T_ok (by kernel_rfl) ?_)
    conv => whnf
    refine AW.loop (fun k : Nat => k ≤ 2) (fun k => [(3, Go.Rx.I (2 ^ k : Nat)), (6, Go.Rx.I 2), (7, Go.Rx.I k)]) (fun _ => []) (fun k => 2 - k) [] ?_ ?_
    · exact ⟨0, by omega, ⟨rfl, rfl, rfl, trivial⟩, ⟨[], rfl⟩, rfl, rfl⟩
    · intro k hk
      have : k = 0 ∨ k = 1 ∨ k = 2 := by omega
      rcases this with rfl | rfl | rfl
      · refine aw_of T_ok (by kernel_rfl) ?_
        conv => whnf
        exact ⟨1, ⟨by omega, by omega⟩, ⟨rfl, rfl, rfl, trivial⟩, ⟨[], rfl⟩, rfl, rfl⟩
      · refine aw_of T_ok (by kernel_rfl) ?_
        conv => whnf
        exact ⟨2, ⟨by omega, by omega⟩, ⟨rfl, rfl, rfl, trivial⟩, ⟨[], rfl⟩, rfl, rfl⟩
      · refine aw_of T_ok (by kernel_rfl) ?_
        conv => whnf
        exact finI ⟨rfl⟩
  refine Con.of T_ok Tryz.func17 rfl (by kernel_rfl) (by kernel_rfl) (aw_of T_ok (by kernel_rfl) ?_)
  conv => whnf
  refine callS hlong rfl ?_
  conv => whnf
  exact finNE ⟨rfl⟩
end Go.Proofs.YtnhheglbcphklaaGreat.Rx

/- One record behind sagas: the program's step, on a slice of the call's own. -/
set_option linter.unusedVariables false
set_option linter.unusedSimpArgs false
namespace Go.Rx
theorem begin_new {r : Rec} (h : recB r = true) (k : r.kind = 1) : beginS r = (newS r, 0) := by
  rw [beginS, if_neg (by rw [h, k]; decide)]; rfl
theorem key_neg {l : List Saga} {r : Rec} (h : ∀ s ∈ l, s.key ≠ r.key) : ¬ 0 ≤ keyI l r.key := by
  have : keyI l r.key < 0 := idx_neg.2 fun x hx => by simpa using h x hx
  omega
end Go.Rx
namespace Go.Proofs.YtnhheglbcphklaaGreat.Rx
open Go.Rx Go.Proofs Go.Proofs.YtnhheglbcphklaaGreat.RxH
abbrev sgB (l : List Saga) : Blk := .arr 54 9 (l.map Saga.enc)

set_option maxHeartbeats 1000000 in
theorem step_yes (l : List Saga) (r : Rec) (hl : Sgs l) (hr : recB r = true) (hok : r.Ok) (hg : goesB l r = true) :
    ConG P 27 [sgB l] [.lf (.own 0 l.length), encRec r] (.tup [.lf (.own 0 (stepL l r).length), .lf (.pv (pB true))]) [sgB (stepL l r)] := by
  have hm : (l.map Saga.enc).length = l.length := List.length_map ..
  have hlen := hl.len
  have hsm := sg_small hl
  have hid := rec_id hr
  refine ConG.of T_ok Tryz.func27 rfl (by kernel_rfl) (by kernel_rfl) (aw_of T_ok (by kernel_rfl) ?_)
  conv => whnf
  split <;> rename_i k1 <;> conv => whnf
  · have k : r.kind = 1 := by simpa using k1
    obtain ⟨h1, h2⟩ := goes_begin hg k
    refine ⟨hm, ?_⟩
    conv => whnf
    split <;> rename_i k2 <;> conv => whnf
    · exfalso
      have : (r.id != IntKind.i64.wrap ((l.length : Int) + 1)) = true := k2
      rw [wrapI (by omega), h1] at this
      simp at this
    refine ⟨hm, ?_⟩
    conv => whnf
    refine callS (keyed_con l r.key hsm) rfl ?_
    conv => whnf
    split <;> rename_i k3 <;> conv => whnf
    · exact absurd (of_decide_eq_true k3) (key_neg h2)
    have cb := beginTop_con r hok
    rw [begin_new hr k] at cb
    refine callU cb (fun _ => rfl) ?_
    conv => whnf
    refine ⟨rfl, _, .inl rfl, ?_⟩
    conv => whnf
    refine ⟨hm, by show (l.length + 1) * 96 ≤ _; omega, ?_⟩
    conv => whnf
    have es : stepL l r = l ++ [newS r] := by rw [stepL, if_pos k]
    rw [es]
    refine ⟨[], [0], [.lf (.own 0 (l.length + 1)), Bl true], [.lf (.own 0 (l.length + 1)), Bl true], rfl, ?_, rfl, wk_refl _, ?_⟩
    · show some [Blk.arr _ 9 (l.map Saga.enc ++ [_])] = some [Blk.arr _ 9 ((l ++ [newS r]).map Saga.enc)]
      rw [List.map_append]; rfl
    · rw [List.length_append]; rfl
  · have k : ¬ r.kind = 1 := by simpa using k1
    obtain ⟨s, h1, h2, h3, h4⟩ := goes_on hg k
    have hs := hl.sg _ _ h1
    have hsl := (List.getElem?_eq_some_iff.1 h1).1
    have w1 : IntKind.i64.wrap (r.id - 1) = r.id - 1 := wrapI (by omega)
    have hrow : (l.map Saga.enc)[(IntKind.i64.wrap (r.id - 1)).toNat]? = some s.enc := by rw [w1, List.getElem?_map, h1]; rfl
    refine AW.draw T_ok rfl (seqPl 0 16) (by kernel_rfl) (by kernel_rfl) ?_
    conv => whnf
    refine ⟨hm, ?_⟩
    conv => whnf
    split <;> rename_i k2 <;> conv => whnf
    · exact absurd (of_decide_eq_true k2) (by omega)
    have hix : 0 ≤ IntKind.i64.wrap (r.id - 1) ∧ IntKind.i64.wrap (r.id - 1) < (l.length : Int) := by rw [w1]; omega
    refine ⟨hm, hix.1, hix.2, ?_⟩
    conv => whnf
    refine ⟨rfl, hm, s.enc, hrow, ?_⟩
    conv => whnf
    refine callS (fitsTop_con s r) rfl ?_
    conv => whnf
    split <;> rename_i k3 <;> conv => whnf
    · exfalso
      rw [show (r.id == s.id && (s.status == 0 && fitsB s r)) = true by simp [h2, h3, h4]] at k3
      cases k3
    refine AW.draw T_ok rfl (seqPl 0 14) (by kernel_rfl) (by kernel_rfl) ?_
    conv => whnf
    refine ⟨hm, hix.1, hix.2, ?_⟩
    conv => whnf
    refine ⟨rfl, hm, s.enc, hrow, ?_⟩
    conv => whnf
    refine callU (next_con s r hs.ok.steps.len) (fun _ => rfl) ?_
    conv => whnf
    refine ⟨hm, hix.1, hix.2, ?_⟩
    conv => whnf
    refine ⟨rfl, hm, s.enc, hrow, ?_⟩
    conv => whnf
    refine ⟨by decide, ?_⟩
    conv => whnf
    have es : stepL l r = l.set (r.id - 1).toNat (nextS s r) := by rw [stepL, if_neg k, h1]
    rw [es]
    refine ⟨[], [0], [.lf (.own 0 l.length), Bl true], [.lf (.own 0 l.length), Bl true], rfl, ?_, rfl, wk_refl _, ?_⟩
    · show some [Blk.arr _ 9 ((l.map Saga.enc).set (IntKind.i64.wrap (r.id - 1)).toNat (nextS s r).enc)] = some [Blk.arr _ 9 ((l.set (r.id - 1).toNat (nextS s r)).map Saga.enc)]
      rw [w1, List.map_set]
    · rw [List.length_set]; rfl
theorem step_no (l : List Saga) (r : Rec) (hl : Sgs l) (hr : recB r = true) (hok : r.Ok) (hg : goesB l r = false) :
    ConG P 27 [sgB l] [.lf (.own 0 l.length), encRec r] (.tup [.lf (.pv (.sc (.slice none 0 0))), .lf (.pv (pB false))]) [sgB l] := by
  have hm : (l.map Saga.enc).length = l.length := List.length_map ..
  have hlen := hl.len
  have hsm := sg_small hl
  have hid := rec_id hr
  refine ConG.of T_ok Tryz.func27 rfl (by kernel_rfl) (by kernel_rfl) (aw_of T_ok (by kernel_rfl) ?_)
  conv => whnf
  split <;> rename_i k1 <;> conv => whnf
  · have k : r.kind = 1 := by simpa using k1
    rw [goesB, if_pos k] at hg
    refine ⟨hm, ?_⟩
    conv => whnf
    split <;> rename_i k2 <;> conv => whnf
    · exact ⟨[], [0], _, _, rfl, rfl, rfl, wk_refl _, rfl⟩
    have k2' : r.id = ((l.length + 1 : Nat) : Int) := by
      have : (r.id != IntKind.i64.wrap ((l.length : Int) + 1)) = false := k2
      rw [wrapI (by omega)] at this
      simpa using this
    refine ⟨hm, ?_⟩
    conv => whnf
    refine callS (keyed_con l r.key hsm) rfl ?_
    conv => whnf
    split <;> rename_i k3 <;> conv => whnf
    · exact ⟨[], [0], _, _, rfl, rfl, rfl, wk_refl _, rfl⟩
    exfalso
    have k3' : decide (0 ≤ keyI l r.key) = false := k3
    rw [k2', k3'] at hg
    simp at hg
  · have k : ¬ r.kind = 1 := by simpa using k1
    rw [goesB, if_neg k] at hg
    have w1 : IntKind.i64.wrap (r.id - 1) = r.id - 1 := wrapI (by omega)
    refine AW.draw T_ok rfl (seqPl 0 16) (by kernel_rfl) (by kernel_rfl) ?_
    conv => whnf
    refine ⟨hm, ?_⟩
    conv => whnf
    split <;> rename_i k2 <;> conv => whnf
    · exact ⟨[], [0], _, _, rfl, rfl, rfl, wk_refl _, rfl⟩
    have k2' : r.id ≤ l.length := by have := of_decide_eq_false k2; omega
    have hsl : (r.id - 1).toNat < l.length := by omega
    have h1 := List.getElem?_eq_getElem hsl
    generalize l[(r.id - 1).toNat] = s at h1
    rw [h1] at hg
    simp only at hg
    have hrow : (l.map Saga.enc)[(IntKind.i64.wrap (r.id - 1)).toNat]? = some s.enc := by rw [w1, List.getElem?_map, h1]; rfl
    have hix : 0 ≤ IntKind.i64.wrap (r.id - 1) ∧ IntKind.i64.wrap (r.id - 1) < (l.length : Int) := by rw [w1]; omega
    refine ⟨hm, hix.1, hix.2, ?_⟩
    conv => whnf
    refine ⟨rfl, hm, s.enc, hrow, ?_⟩
    conv => whnf
    have cf := fitsTop_con s r
    rw [hg] at cf
    refine callS cf rfl ?_
    conv => whnf
    exact ⟨[], [0], _, _, rfl, rfl, rfl, wk_refl _, rfl⟩
end Go.Proofs.YtnhheglbcphklaaGreat.Rx

/- A call's own result, taken as rows that stay. -/
set_option linter.unusedVariables false
set_option linter.unusedSimpArgs false
namespace Go.Rx
open Go.RowKit
def ofTC : TC → AV
  | .lf l => .lf l
  | .agg l => .agg l
theorem ofTC_rep {G : Gh} {bk : List Blk} {w : World} : ∀ {ts : List TC} {us : List Value}, Fa (RepT G bk w) ts us → Fa (RepA G bk w) (ts.map ofTC) us
  | [], [], _ => trivial
  | t :: ts, u :: us, h => ⟨by cases t <;> exact h.1, ofTC_rep h.2⟩
  | [], _ :: _, h => h.elim
  | _ :: _, [], h => h.elim
theorem Con.stays {P : Program} {f : FuncId} {args : List AV} {ts : List TC} {r : AV} {nb : List Blk} (h : Con P f args (.tup ts) nb) (h2 : 2 ≤ ts.length)
    (hk : argsK nb (ts.map ofTC) fun _ ys => ∃ zs, Fa WkA ys zs ∧ pack zs = some r) : Con P f args r [] := by
  refine ⟨h.1, rfl, fun w S us hS hSf hargs => (h.2.2 w S us hS hSf hargs).mono fun e w' ⟨u, G', he, hr, hm⟩ => ?_⟩
  obtain ⟨vs, rfl, hvs⟩ := hr
  obtain ⟨G2, b2, ys, t2, m2, hys, zs, hwk, hpk⟩ := argsK_sound hm (ofTC_rep hvs) hk
  have hp := pack_rep (wks_rep hwk hys) hpk
  have hl : vs.toArray.size ≠ 1 := by have := hvs.length; simp; omega
  rw [dif_neg hl] at hp
  exact ⟨_, Gh.base G2.S, he, hp, fun b B hb => by simp at hb, fun b b' g hb => by simp at hb, fun g o b hs ha => absurd (alive_lt ha) (by simp), m2.slt, fun b g hb => by simp at hb, fun b g hb => by simp at hb, m2.s0, m2.snew, m2.fnew, m2.fty, fun g e b hf ha => absurd (alive_lt ha) (by simp), m2.os, m2.tape, m2.output, m2.size, m2.block, Regs.nil _ _, Nat.le_refl _, ⟨m2.t0.S, m2.t0.F, m2.t0.cell, fun b hb => absurd hb (Nat.not_lt_zero _), Nat.le_refl _, fun b hb => absurd hb (Nat.not_lt_zero _), fun b sz rows h => (by unfold rowsOf at h; simp [Ctx.base] at h)⟩⟩
theorem Con.stay1 {P : Program} {f : FuncId} {args : List AV} {x r : AV} {nb : List Blk} (h : Con P f args x nb) (hx : ∀ ts, x ≠ .tup ts)
    (hk : argsK nb [x] fun _ ys => ∃ zs, Fa WkA ys zs ∧ pack zs = some r) : Con P f args r [] := by
  refine ⟨h.1, rfl, fun w S us hS hSf hargs => (h.2.2 w S us hS hSf hargs).mono fun e w' ⟨u, G', he, hr, hm⟩ => ?_⟩
  obtain ⟨G2, b2, ys, t2, m2, hys, zs, hwk, hpk⟩ := argsK_sound hm (xs := [x]) (vs := [u]) ⟨hr, trivial⟩ hk
  have hp := pack_rep (wks_rep hwk hys) hpk
  exact ⟨_, Gh.base G2.S, he, hp, fun b B hb => by simp at hb, fun b b' g hb => by simp at hb, fun g o b hs ha => absurd (alive_lt ha) (by simp), m2.slt, fun b g hb => by simp at hb, fun b g hb => by simp at hb, m2.s0, m2.snew, m2.fnew, m2.fty, fun g e b hf ha => absurd (alive_lt ha) (by simp), m2.os, m2.tape, m2.output, m2.size, m2.block, Regs.nil _ _, Nat.le_refl _, ⟨m2.t0.S, m2.t0.F, m2.t0.cell, fun b hb => absurd hb (Nat.not_lt_zero _), Nat.le_refl _, fun b hb => absurd hb (Nat.not_lt_zero _), fun b sz rows h => (by unfold rowsOf at h; simp [Ctx.base] at h)⟩⟩
end Go.Rx

/- All sagas of records: the program's, and the page's. -/
set_option linter.unusedVariables false
set_option linter.unusedSimpArgs false
namespace Go.Rx
theorem any_all (l : List Rec) : (l.any fun r : Rec => !(recB r)) = !(l.all recB) := by
  induction l with
  | nil => rfl
  | cons r l ih => simp only [List.any_cons, List.all_cons, ih, Bool.not_and]
theorem fold_drop {l : List Rec} {k : Nat} (h : k < l.length) (x : List Saga) : foldL x (l.drop k) = if goesB x l[k] then foldL (stepL x l[k]) (l.drop (k + 1)) else none := by
  rw [List.drop_eq_getElem_cons h, foldL]
theorem fold_end {l : List Rec} {k : Nat} (h : l.length ≤ k) (x : List Saga) : foldL x (l.drop k) = some x := by
  rw [List.drop_of_length_le h, foldL]
end Go.Rx
namespace Go.Proofs.YtnhheglbcphklaaGreat.Rx
open Go.Rx Go.Proofs Go.Proofs.YtnhheglbcphklaaGreat.RxH

abbrev noSg (e : Int) : AV := .tup [.lf (.pv (.sc (.slice none 0 0))), .lf (.pv (pI e))]
set_option maxHeartbeats 1000000 in
theorem of_ok (l : List Rec) (x : List Saga) (hl : l.length * 80 ≤ 140737488355328) (hr : ∀ r ∈ l, r.Ok) (ha : l.all recB = true) (hx : foldL [] l = some x) :
    Con P 6 [.lf (.pv (encRecs l))] (.tup [.lf (.own 0 x.length), .lf (.pv (pI 0))]) [sgB x] := by
  have hm : (l.map Rec.enc).length = l.length := List.length_map ..
  refine ConG.con (ConG.of T_ok Tryz.func6 rfl (by kernel_rfl) (by kernel_rfl) (aw_of T_ok (by kernel_rfl) ?_)) rfl
  conv => whnf
  have cany := anyRec_con l hl hr
  rw [any_all, ha] at cany
  refine callS cany rfl ?_
  conv => whnf
  refine AW.loop (fun p : Nat × List Saga => p.1 ≤ l.length ∧ Sgs p.2 ∧ foldL p.2 (l.drop p.1) = some x) (fun p => [(4, .lf (.own 0 p.2.length)), (5, Bl true), (10, .lf (.pv (encRecs l))), (11, Go.Rx.I l.length), (12, Go.Rx.I p.1)]) (fun p => [sgB p.2]) (fun p => l.length - p.1) [.slot 4 54 9] ?_ ?_
  · exact ⟨rfl, (0, []), ⟨Nat.zero_le _, sgs_nil, hx⟩, ⟨rfl, rfl, rfl, congrArg (fun n : Nat => Go.Rx.I (n : Int)) hm, rfl, trivial⟩, ⟨[], rfl⟩, rfl, rfl⟩
  rintro ⟨k, y⟩ ⟨hk, hy, hf⟩
  simp only at hk hy hf
  refine aw_of T_ok (by kernel_rfl) ?_
  conv => whnf
  split <;> rename_i hlt <;> conv => whnf
  · have hkl : k < l.length := by simpa using hlt
    have hrow : (l.map Rec.enc)[k]? = some (l[k]).enc := by simp [hkl]
    rw [fold_drop hkl] at hf
    have hrm := List.all_eq_true.1 ha _ (List.getElem_mem hkl)
    have hrk := hr _ (List.getElem_mem hkl)
    generalize l[k] = r at hrow hf hrm hrk
    cases hg : goesB y r with
    | false => rw [hg] at hf; cases hf
    | true =>
    rw [hg, if_pos rfl] at hf
    refine ⟨by omega, r.enc, hrow, ?_⟩
    conv => whnf
    refine ⟨[0], _, _, _, _, _, nodupB_ok rfl, rfl, rfl, wk_refl _, step_yes y r hy hrm hrk hg, ?_⟩
    conv => whnf
    exact ⟨(k + 1, stepL y r), ⟨⟨hkl, sgs_step hy hrm hrk hg, hf⟩, by show _ - (k + 1) < _ - k; omega⟩, ⟨rfl, rfl, rfl, rfl, congrArg Go.Rx.I (wrapI (by omega)), trivial⟩, ⟨_, rfl⟩, rfl, rfl⟩
  · have hkl : l.length ≤ k := by simpa using hlt
    rw [fold_end hkl] at hf
    cases hf
    exact ⟨[], [0], _, _, rfl, rfl, rfl, wk_refl _, rfl⟩
theorem of_bad (l : List Rec) (hl : l.length * 80 ≤ 140737488355328) (hr : ∀ r ∈ l, r.Ok) (hx : l.all recB = false ∨ (l.all recB = true ∧ foldL [] l = none)) :
    Con P 6 [.lf (.pv (encRecs l))] (noSg (ofP l).2) [] := by
  have hm : (l.map Rec.enc).length = l.length := List.length_map ..
  obtain ⟨e, he⟩ : ∃ e, e = (ofP l).2 := ⟨_, rfl⟩
  rw [← he]
  refine Con.of T_ok Tryz.func6 rfl (by kernel_rfl) (by kernel_rfl) (aw_of T_ok (by kernel_rfl) ?_)
  conv => whnf
  have cany := anyRec_con l hl hr
  rw [any_all] at cany
  refine callS cany rfl ?_
  conv => whnf
  split <;> rename_i h1 <;> conv => whnf
  · have ha : l.all recB = false := by simpa using h1
    rw [ofP, if_neg (by rw [ha]; decide)] at he
    subst he
    exact finA ⟨rfl⟩
  have ha : l.all recB = true := by simpa using h1
  have hx2 : foldL [] l = none := by
    rcases hx with hx | hx
    · rw [ha] at hx; cases hx
    · exact hx.2
  rw [ofP, if_pos ha, hx2] at he
  subst he
  refine AW.loop (fun p : Nat × List Saga => p.1 ≤ l.length ∧ Sgs p.2 ∧ foldL p.2 (l.drop p.1) = none) (fun p => [(4, .lf (.own 0 p.2.length)), (5, Bl true), (10, .lf (.pv (encRecs l))), (11, Go.Rx.I l.length), (12, Go.Rx.I p.1)]) (fun p => [sgB p.2]) (fun p => l.length - p.1) [.slot 4 54 9] ?_ ?_
  · exact ⟨rfl, (0, []), ⟨Nat.zero_le _, sgs_nil, hx2⟩, ⟨rfl, rfl, rfl, congrArg (fun n : Nat => Go.Rx.I (n : Int)) hm, rfl, trivial⟩, ⟨[], rfl⟩, rfl, rfl⟩
  rintro ⟨k, y⟩ ⟨hk, hy, hf⟩
  simp only at hk hy hf
  refine aw_of T_ok (by kernel_rfl) ?_
  conv => whnf
  split <;> rename_i hlt <;> conv => whnf
  · have hkl : k < l.length := by simpa using hlt
    have hrow : (l.map Rec.enc)[k]? = some (l[k]).enc := by simp [hkl]
    rw [fold_drop hkl] at hf
    have hrm := List.all_eq_true.1 ha _ (List.getElem_mem hkl)
    have hrk := hr _ (List.getElem_mem hkl)
    generalize l[k] = r at hrow hf hrm hrk
    cases hg : goesB y r with
    | true =>
      rw [hg, if_pos rfl] at hf
      refine ⟨by omega, r.enc, hrow, ?_⟩
      conv => whnf
      refine ⟨[0], _, _, _, _, _, nodupB_ok rfl, rfl, rfl, wk_refl _, step_yes y r hy hrm hrk hg, ?_⟩
      conv => whnf
      exact ⟨(k + 1, stepL y r), ⟨⟨hkl, sgs_step hy hrm hrk hg, hf⟩, by show _ - (k + 1) < _ - k; omega⟩, ⟨rfl, rfl, rfl, rfl, congrArg Go.Rx.I (wrapI (by omega)), trivial⟩, ⟨_, rfl⟩, rfl, rfl⟩
    | false =>
      refine ⟨by omega, r.enc, hrow, ?_⟩
      conv => whnf
      refine ⟨[0], _, _, _, _, _, nodupB_ok rfl, rfl, rfl, wk_refl _, step_no y r hy hrm hrk hg, ?_⟩
      conv => whnf
      exact finA ⟨rfl⟩
  · have hkl : l.length ≤ k := by simpa using hlt
    rw [fold_end hkl] at hf
    cases hf
theorem of_con (l : List Rec) (hl : l.length * 80 ≤ 140737488355328) (hr : ∀ r ∈ l, r.Ok) : Con P 6 [.lf (.pv (encRecs l))] (sagasE (ofP l)) [] := by
  cases ha : l.all recB with
  | false =>
    have e : ofP l = ([], 1) := by rw [ofP, if_neg (by rw [ha]; decide)]
    have h := of_bad l hl hr (.inl ha)
    rw [e] at h ⊢
    exact Con.stays h (by decide) ⟨[.lf (.pv (encSagas [])), Go.Rx.I 1], ⟨.inr (.inl ⟨_, _, rfl, rfl, wkN 9⟩), .inl rfl, trivial⟩, rfl⟩
  | true =>
    cases hx : foldL [] l with
    | none =>
      have e : ofP l = ([], 10) := by rw [ofP, if_pos ha, hx]
      have h := of_bad l hl hr (.inr ⟨ha, hx⟩)
      rw [e] at h ⊢
      exact Con.stays h (by decide) ⟨[.lf (.pv (encSagas [])), Go.Rx.I 10], ⟨.inr (.inl ⟨_, _, rfl, rfl, wkN 9⟩), .inl rfl, trivial⟩, rfl⟩
    | some x =>
      have e : ofP l = (x, 0) := by rw [ofP, if_pos ha, hx]
      have h := of_ok l x hl hr ha hx
      rw [e]
      exact Con.stays h (Nat.le_refl 2) ⟨List.length_map .., [.lf (.pv (encSagas x)), Go.Rx.I 0], wk_refl _, rfl⟩
abbrev recV (r : Rec) : Blk := .var [.pv (pI r.kind), .pv (pI r.id), .pv (pI r.n), .pv (pS r.key), .pv (pS r.body), .pv (encSteps r.steps)]
abbrev sagasB (p : List Saga × Bool) : AV := .tup [.lf (.pv (encSagas p.1)), .lf (.pv (pB p.2))]
def foldP (l : List Rec) : List Saga × Bool := match foldL [] l with | some x => (x, true) | none => ([], false)
theorem finNS {p : List Saga × Bool} (h : p = ([], false)) : ∃ zs, Fa WkA [.lf (.pv (.sc (.slice none 0 0))), Bl false] zs ∧ pack zs = some (sagasB p) := by
  subst h
  exact ⟨[.lf (.pv (encSagas [])), Bl false], ⟨.inr (.inl ⟨_, _, rfl, rfl, wkN 9⟩), .inl rfl, trivial⟩, rfl⟩
set_option maxHeartbeats 1000000 in
theorem fold9_con (l : List Rec) (hl : l.length * 80 ≤ 140737488355328) (hr : ∀ r ∈ l, r.Ok) (ha : l.all recB = true) : Con P 8 [.lf (.pv (encRecs l))] (sagasB (foldP l)) [] := by
  have hm : (l.map Rec.enc).length = l.length := List.length_map ..
  obtain ⟨q, hq⟩ : ∃ q, q = foldP l := ⟨_, rfl⟩
  rw [← hq]
  refine Con.of T_ok Tryz.func8 rfl (by kernel_rfl) (by kernel_rfl) (aw_of T_ok (by kernel_rfl) ?_)
  conv => whnf
  refine AW.loop (fun p : Nat × List Saga => p.1 ≤ l.length ∧ Sgs p.2 ∧ foldL p.2 (l.drop p.1) = foldL [] l) (fun p => [(0, .lf (.pv (encRecs l))), (4, .lf (.own 0 p.2.length)), (5, Go.Rx.I p.1)]) (fun p => [sgB p.2]) (fun p => l.length - p.1) [.slot 4 54 9] ?_ ?_
  · exact ⟨rfl, (0, []), ⟨Nat.zero_le _, sgs_nil, rfl⟩, ⟨rfl, rfl, rfl, trivial⟩, ⟨[], rfl⟩, rfl, rfl⟩
  rintro ⟨k, y⟩ ⟨hk, hy, hf⟩
  simp only at hk hy hf
  have hylen := hy.len
  have hym : (y.map Saga.enc).length = y.length := List.length_map ..
  have hysm := sg_small hy
  have hid : ∀ (i : Nat) (s : Saga), y[i]? = some s → s.id = i + 1 := fun i s h => (hy.sg i s h).id
  refine aw_ofC T_ok 2012 (by kernel_rfl) ?_
  conv => whnf
  split <;> rename_i hlt <;> conv => whnf
  · have hkl : k < l.length := by simpa using hlt
    have hrow : (l.map Rec.enc)[k]? = some (l[k]).enc := by simp [hkl]
    rw [fold_drop hkl] at hf
    have hrm := List.all_eq_true.1 ha _ (List.getElem_mem hkl)
    have hrk := hr _ (List.getElem_mem hkl)
    generalize l[k] = r at hrow hf hrm hrk
    have hrid := rec_id hrm
    refine ⟨by omega, r.enc, hrow, ?_⟩
    conv => whnf
    split <;> rename_i k1 <;> conv => whnf
    · have kk : r.kind = 1 := by simpa using k1
      refine ⟨hym, ?_⟩
      conv => whnf
      split <;> rename_i k2 <;> conv => whnf
      · have hg : goesB y r = false := by
          have h2 : (r.id != IntKind.i64.wrap ((y.length : Int) + 1)) = true := k2
          rw [wrapI (by omega)] at h2
          rw [goesB, if_pos kk, Bool.and_eq_false_iff]
          left
          simpa using h2
        rw [hg, if_neg (by decide)] at hf
        exact finNS (by rw [hq, foldP, ← hf])
      refine ⟨hym, ?_⟩
      conv => whnf
      refine callS (find9_con y r.key hysm hid) rfl ?_
      conv => whnf
      have h2 : r.id = ((y.length + 1 : Nat) : Int) := by
        have h2 : (r.id != IntKind.i64.wrap ((y.length : Int) + 1)) = false := k2
        rw [wrapI (by omega)] at h2
        simpa using h2
      split <;> rename_i k3 <;> conv => whnf
      · have hg : goesB y r = false := by
          have h3 : keyI y r.key + 1 > 0 := of_decide_eq_true k3
          rw [goesB, if_pos kk, Bool.and_eq_false_iff]
          right
          simp; omega
        rw [hg, if_neg (by decide)] at hf
        exact finNS (by rw [hq, foldP, ← hf])
      have hg : goesB y r = true := by
        have h3 : ¬ keyI y r.key + 1 > 0 := of_decide_eq_false k3
        rw [goesB, if_pos kk, h2]
        simp; omega
      rw [hg, if_pos rfl] at hf
      refine callU (begin9_con r hrk.steps.len) (fun _ => rfl) ?_
      conv => whnf
      refine ⟨rfl, _, .inl rfl, ?_⟩
      conv => whnf
      refine ⟨hym, by show (y.length + 1) * 96 ≤ _; omega, ?_⟩
      conv => whnf
      have es : stepL y r = y ++ [newS r] := by rw [stepL, if_pos kk]
      have hn := sgs_step hy hrm hrk hg
      rw [es] at hn hf
      refine ⟨(k + 1, y ++ [newS r]), ⟨⟨hkl, hn, hf⟩, by show _ - (k + 1) < _ - k; omega⟩, ⟨rfl, by show AV.lf (.own 0 (y.length + 1)) = _; simp, congrArg Go.Rx.I (wrapI (by omega)), trivial⟩, ⟨[?r1, ?r4], ?e1⟩, rfl, rfl⟩
      case e1 => show _ = [Blk.arr _ _ ((y ++ [newS r]).map Saga.enc)] ++ [_, _]; rw [List.map_append]; rfl
    · have kk : ¬ r.kind = 1 := by simpa using k1
      have w1 : IntKind.i64.wrap (r.id - 1) = r.id - 1 := wrapI (by omega)
      refine ⟨hym, ?_⟩
      conv => whnf
      split <;> rename_i k2 <;> conv => whnf
      · have hg : goesB y r = false := by
          have h2 : r.id > (y.length : Int) := of_decide_eq_true k2
          rw [goesB, if_neg kk, List.getElem?_eq_none (by omega)]
        rw [hg, if_neg (by decide)] at hf
        exact finNS (by rw [hq, foldP, ← hf])
      have h2 : r.id ≤ (y.length : Int) := by have : ¬ (r.id > (y.length : Int)) := of_decide_eq_false k2; omega
      have hsl : (r.id - 1).toNat < y.length := by omega
      have h1 := List.getElem?_eq_getElem hsl
      generalize y[(r.id - 1).toNat] = s at h1
      have hs := hy.sg _ _ h1
      have hrow2 : (y.map Saga.enc)[(IntKind.i64.wrap (r.id - 1)).toNat]? = some s.enc := by rw [w1, List.getElem?_map, h1]; rfl
      have hix : 0 ≤ IntKind.i64.wrap (r.id - 1) ∧ IntKind.i64.wrap (r.id - 1) < (y.length : Int) := by rw [w1]; omega
      have ca := apply9_con s r hs.ok hrk hs.may hrm
      have hwent : (applyS s r).2 = 0 → goesB y r = true ∧ (applyS s r).1 = nextS s r := fun e => by
        obtain ⟨_, a2, a3, a4, a5⟩ := apply_went hs.may e
        refine ⟨?_, a5⟩
        rw [goesB, if_neg kk, h1]
        simp [a2, a3, a4]
      have hstay : (applyS s r).2 ≠ 0 → goesB y r = false := fun e => by
        rw [Bool.eq_false_iff]
        intro hg
        obtain ⟨s', b1, b2, b3, b4⟩ := goes_on hg kk
        rw [h1] at b1
        cases b1
        exact e (apply_goes hs.may hrm b2 b3 b4)
      generalize applyS s r = p at ca hwent hstay
      obtain ⟨z, e⟩ := p
      simp only at hwent hstay
      refine AW.cut (fun _ : Unit => True) (fun _ => [(0, .lf (.pv (encRecs l))), (4, .lf (.own 0 y.length)), (5, Go.Rx.I k), (6, .lf (.ptr 1 0)), (7, .lf (.ptr 2 0)), (8, Go.Rx.I e)]) (fun _ => [sgB y, recV r, sagaV z]) [] ?_ ?_
      · refine AW.draw T_ok rfl (.one 0 (.one 1 (.one 2 (.one 3 (.one 4 (.one 5 (.one 6 (.two 7 (listPl [8, 9, 10, 11, 12, 13]) 11 (listPl [7, 8, 9, 10, 12, 13]))))))))) (by kernel_rfl) (by kernel_rfl) ?_
        conv => whnf
        refine ⟨hym, hix.1, hix.2, ?_⟩
        conv => whnf
        refine ⟨rfl, hym, s.enc, hrow2, ?_⟩
        conv => whnf
        refine ⟨?_, ?_⟩ <;> conv => whnf
        · refine callU ca (fun _ => rfl) ?_
          conv => whnf
          exact ⟨(), trivial, ⟨rfl, rfl, rfl, rfl, rfl, rfl, trivial⟩, ⟨[], rfl⟩, rfl, rfl⟩
        · refine callU ca (fun _ => rfl) ?_
          conv => whnf
          exact ⟨(), trivial, ⟨rfl, rfl, rfl, rfl, rfl, rfl, trivial⟩, ⟨[], rfl⟩, rfl, rfl⟩
      rintro _ _
      refine aw_of T_ok (by kernel_rfl) ?_
      conv => whnf
      split <;> rename_i k3 <;> conv => whnf
      · have hne : e ≠ 0 := by simpa using k3
        rw [hstay hne, if_neg (by decide)] at hf
        exact finNS (by rw [hq, foldP, ← hf])
      have he : e = 0 := by simpa using k3
      obtain ⟨hg, hz⟩ := hwent he
      subst hz
      rw [hg, if_pos rfl] at hf
      refine ⟨hym, hix.1, hix.2, ?_⟩
      conv => whnf
      refine ⟨rfl, hym, s.enc, hrow2, ?_⟩
      conv => whnf
      refine ⟨by decide, ?_⟩
      conv => whnf
      have es : stepL y r = y.set (r.id - 1).toNat (nextS s r) := by rw [stepL, if_neg kk, h1]
      have hn := sgs_step hy hrm hrk hg
      rw [es] at hn hf
      refine ⟨(k + 1, y.set (r.id - 1).toNat (nextS s r)), ⟨⟨hkl, hn, hf⟩, by show _ - (k + 1) < _ - k; omega⟩, ⟨rfl, by show AV.lf (.own 0 y.length) = _; rw [List.length_set], congrArg Go.Rx.I (wrapI (by omega)), trivial⟩, ⟨[?r2, ?r3], ?e2⟩, rfl, rfl⟩
      case e2 =>
        show [Blk.arr _ _ ((y.map Saga.enc).set (IntKind.i64.wrap (r.id - 1)).toNat (nextS s r).enc), _, _] = [Blk.arr _ _ ((y.set (r.id - 1).toNat (nextS s r)).map Saga.enc)] ++ [_, _]
        rw [w1, List.map_set]; rfl
  · have hkl : l.length ≤ k := by simpa using hlt
    rw [fold_end hkl] at hf
    refine ⟨hym, ?_⟩
    rw [hq, foldP, ← hf]
    exact ⟨[.lf (.pv (encSagas y)), Bl true], wk_refl _, rfl⟩
end Go.Proofs.YtnhheglbcphklaaGreat.Rx

/- May sagas be together? How much a script of records is; what the laws share. -/
set_option linter.unusedVariables false
set_option linter.unusedSimpArgs false
namespace Go.Rx
def togAt (l : List Saga) (i : Nat) : Bool := match l[i]? with | some s => sagaB s && (s.id == ((i + 1 : Nat) : Int) && !(decide (0 ≤ keyI (l.take i) s.key))) | none => true
def togA (l : List Saga) : Bool := (List.range l.length).all (togAt l)
def togB (l : List Saga) : Bool := togA l && decide (l.length ≤ 20)
theorem togAt_eq {l : List Saga} {i : Nat} (h : i < l.length) : togAt l i = (sagaB l[i] && (l[i].id == ((i + 1 : Nat) : Int) && !(decide (0 ≤ keyI (l.take i) l[i].key)))) := by
  unfold togAt; rw [List.getElem?_eq_getElem h]
theorem tog_yes {l : List Saga} (h : ∀ j, j < l.length → togAt l j = true) : togA l = true := by
  rw [togA, List.all_eq_true]
  intro j hj
  exact h j (List.mem_range.1 hj)
theorem tog_no {l : List Saga} {k : Nat} (hk : k < l.length) (h : togAt l k = false) : togA l = false := by
  rw [togA, List.all_eq_false]
  exact ⟨k, List.mem_range.2 hk, by rw [h]; decide⟩
theorem sgs_tog {l : List Saga} (hok : ∀ s ∈ l, s.Ok) (h : togB l = true) : Sgs l := by
  rw [togB, Bool.and_eq_true] at h
  have hat : ∀ (i : Nat) (s : Saga), l[i]? = some s → sagaB s = true ∧ s.id = ((i + 1 : Nat) : Int) ∧ keyI (l.take i) s.key < 0 := fun i s hs => by
    have hi := (List.getElem?_eq_some_iff.1 hs).1
    have h1 := List.all_eq_true.1 h.1 i (List.mem_range.2 hi)
    unfold togAt at h1
    rw [hs] at h1
    simp only [Bool.and_eq_true, Bool.not_eq_true', decide_eq_false_iff_not, beq_iff_eq] at h1
    exact ⟨h1.1, h1.2.1, by omega⟩
  refine ⟨of_decide_eq_true h.2, fun i s hs => ?_⟩
  obtain ⟨h1, h2, h3⟩ := hat i s hs
  refine ⟨hok s (List.mem_of_getElem? hs), h1, by rw [h2]; rfl, fun j x hj hx => ?_⟩
  have := idx_neg.1 h3 x (List.mem_of_getElem? (by rw [List.getElem?_take_of_lt hj]; exact hx))
  simpa using this
def capOut : List (List Rec) → Int → Int
  | [], n => n
  | l :: L, n => if n < 1048576 then capOut L (capSum (l.map recW) (IntKind.i64.wrap (n + l.length))) else n
theorem capOut_go {L : List (List Rec)} {k : Nat} {n : Int} (h : k < L.length) (hn : n < 1048576) : capOut (L.drop k) n = capOut (L.drop (k + 1)) (capSum (L[k].map recW) (IntKind.i64.wrap (n + L[k].length))) := by
  rw [List.drop_eq_getElem_cons h, capOut, if_pos hn]
theorem capOut_stop {L : List (List Rec)} {n : Int} (h : ¬ n < 1048576) : capOut L n = n := by
  cases L with
  | nil => rfl
  | cons l L => rw [capOut, if_neg h]
structure RowsOk (L : List (List Rec)) : Prop where
  len : L.length * 24 ≤ 140737488351232
  row : ∀ l ∈ L, l.length * 80 ≤ 140737488351232 ∧ ∀ r ∈ l, r.Ok
end Go.Rx
namespace Go.Proofs.YtnhheglbcphklaaGreat.Rx
open Go.Rx Go.Proofs Go.Proofs.YtnhheglbcphklaaGreat.RxH

abbrev encRows (L : List (List Rec)) : PV := .sl 1 (L.map fun l => [encRecs l])
abbrev encAsk15 (R : List Rec) (S : List ByteArray) (N : List Int) (G : List Saga) (L : List (List Rec)) : AV := .agg [.pv (encRecs R), .pv (encStrs S), .pv (encInts N), .pv (encSagas G), .pv (encRows L)]
abbrev ask15V (R : List Rec) (S : List ByteArray) (N : List Int) (G : List Saga) (L : List (List Rec)) : Blk := .var [.pv (encRecs R), .pv (encStrs S), .pv (encInts N), .pv (encSagas G), .pv (encRows L)]
theorem replayMay_con (l : List Saga) (hl : l.length * 96 ≤ 140737488351232) (hs : ∀ s ∈ l, s.Ok) : Con P 37 [.lf (.pv (encSagas l))] (Bl (togB l)) [] := by
  have hm : (l.map Saga.enc).length = l.length := List.length_map ..
  refine Con.of T_ok Tryz.func37 rfl (by kernel_rfl) (by kernel_rfl) (aw_of T_ok (by kernel_rfl) ?_)
  conv => whnf
  refine AW.loop (fun k : Nat => k ≤ l.length ∧ ∀ j, j < k → togAt l j = true) (fun k => [(0, .lf (.pv (encSagas l))), (5, .lf (.pv (encSagas l))), (6, Go.Rx.I l.length), (7, Go.Rx.I k)]) (fun _ => []) (fun k => l.length - k) [] ?_ ?_
  · exact ⟨0, ⟨Nat.zero_le _, fun j hj => absurd hj (Nat.not_lt_zero _)⟩, ⟨rfl, rfl, congrArg (fun n : Nat => Go.Rx.I (n : Int)) hm, rfl, trivial⟩, ⟨[], rfl⟩, rfl, rfl⟩
  rintro k ⟨hk, hpre⟩
  refine aw_of T_ok (by kernel_rfl) ?_
  conv => whnf
  split <;> rename_i hlt <;> conv => whnf
  · have hkl : k < l.length := by simpa using hlt
    have hrow : (l.map Saga.enc)[k]? = some (l[k]).enc := by simp [hkl]
    have hat := togAt_eq hkl
    have hsk := hs _ (List.getElem_mem hkl)
    generalize l[k] = s at hrow hat hsk
    have no : togAt l k = false → false = togB l := fun h => by rw [togB, tog_no hkl h]; rfl
    refine ⟨by omega, s.enc, hrow, ?_⟩
    conv => whnf
    refine AW.draw T_ok rfl (listPl [0, 1, 2, 3, 4, 5, 6, 7, 8, 9, 10, 11, 12, 14, 15, 13, 16, 17, 18]) (by kernel_rfl) (by kernel_rfl) ?_
    conv => whnf
    refine callS (sagaMay_con s hsk) rfl ?_
    conv => whnf
    split <;> rename_i h1 <;> conv => whnf
    · exact finB ⟨no (by rw [hat, show sagaB s = false by simpa using h1]; rfl)⟩
    have w1 : IntKind.i64.wrap ((k : Int) + 1) = ((k + 1 : Nat) : Int) := wrapI (by omega)
    split <;> rename_i h2 <;> conv => whnf
    · refine finB ⟨no ?_⟩
      have h2' : (s.id != IntKind.i64.wrap ((k : Int) + 1)) = true := h2
      rw [w1] at h2'
      rw [hat, show (s.id == ((k + 1 : Nat) : Int)) = false by simpa using h2']
      simp
    have h2' : (s.id == ((k + 1 : Nat) : Int)) = true := by
      have h2' : (s.id != IntKind.i64.wrap ((k : Int) + 1)) = false := h2
      rw [w1] at h2'
      simpa using h2'
    refine ⟨by decide, by omega, by rw [hm]; omega, ?_⟩
    conv => whnf
    have ck := keyed_con (l.take k) s.key (by rw [List.length_take]; omega)
    rw [show encSagas (l.take k) = .sl 9 ((l.map Saga.enc).take k) by rw [encSagas, List.map_take]] at ck
    refine callS ck rfl ?_
    conv => whnf
    split <;> rename_i h3 <;> conv => whnf
    · refine finB ⟨no ?_⟩
      rw [hat, show decide (0 ≤ keyI (l.take k) s.key) = true from h3]
      simp
    refine ⟨k + 1, ⟨⟨by omega, fun j hj => ?_⟩, by omega⟩, ⟨rfl, rfl, rfl, congrArg Go.Rx.I w1, trivial⟩, ⟨_, rfl⟩, rfl, rfl⟩
    rcases Nat.lt_or_ge j k with hjk | hjk
    · exact hpre j hjk
    · obtain rfl : j = k := by omega
      rw [hat, show sagaB s = true by simpa using h1, h2', show decide (0 ≤ keyI (l.take j) s.key) = false from h3]
      rfl
  · have hkl : k = l.length := by have : ¬ ((k : Int) < (l.length : Int)) := by simpa using hlt
                                  omega
    refine finB ⟨?_⟩
    rw [togB, tog_yes (fun j hj => hpre j (by omega)), Bool.true_and, hm]
    simp
    omega
theorem replayCheck_con (l : List Saga) (hl : l.length * 96 ≤ 140737488351232) (hs : ∀ s ∈ l, s.Ok) : Con P 14 [.lf (.pv (encSagas l))] (Go.Rx.I (if togB l then 0 else 1)) [] := by
  refine Con.of T_ok Tryz.func14 rfl (by kernel_rfl) (by kernel_rfl) (aw_of T_ok (by kernel_rfl) ?_)
  conv => whnf
  refine callS (replayMay_con l hl hs) rfl ?_
  conv => whnf
  split <;> rename_i h <;> conv => whnf
  · refine finI ⟨?_⟩; rw [show togB l = false by simpa using h]; rfl
  · refine finI ⟨?_⟩; rw [show togB l = true by simpa using h]; rfl
def findP (l : List Saga) (k : ByteArray) : Int × Int := if togB l then (if keyI l k < 0 then (0, 3) else (keyI l k + 1, 0)) else (0, 1)
theorem idx_lt {α : Type} {p : α → Bool} : ∀ (l : List α) (k : Nat), idxL p l k < k + l.length
  | [], k => by rw [idxL]; simp; omega
  | a :: l, k => by
    rw [idxL]
    split
    · simp; omega
    · have := idx_lt (p := p) l (k + 1)
      simp at this ⊢; omega
theorem replayFind_con (l : List Saga) (x : ByteArray) (hl : l.length * 96 ≤ 140737488351232) (hs : ∀ s ∈ l, s.Ok) : Con P 15 [.lf (.pv (encSagas l)), Sx x] (numE (findP l x)) [] := by
  obtain ⟨q, hq⟩ : ∃ q, q = findP l x := ⟨_, rfl⟩
  rw [← hq]
  refine Con.of T_ok Tryz.func15 rfl (by kernel_rfl) (by kernel_rfl) (aw_of T_ok (by kernel_rfl) ?_)
  conv => whnf
  refine callS (replayMay_con l hl hs) rfl ?_
  conv => whnf
  split <;> rename_i h <;> conv => whnf
  · exact finNE ⟨by rw [hq, findP, if_neg (by rw [show togB l = false by simpa using h]; decide)]⟩
  have ht : togB l = true := by simpa using h
  rw [findP, if_pos ht] at hq
  refine callS (keyed_con l x hl) rfl ?_
  conv => whnf
  split <;> rename_i h2 <;> conv => whnf
  · exact finNE ⟨by rw [hq, if_pos (of_decide_eq_true h2)]⟩
  have h2' : ¬ keyI l x < 0 := of_decide_eq_false h2
  have hlt : keyI l x < l.length := by have := idx_lt (p := fun s : Saga => s.key == x) l 0; rw [keyI]; omega
  obtain ⟨n, hn⟩ : ∃ n : Nat, keyI l x = n := ⟨(keyI l x).toNat, by omega⟩
  have hnl : n < l.length := by omega
  have hsg := sgs_tog hs ht
  have hid := (hsg.sg n l[n] (List.getElem?_eq_getElem hnl)).id
  have hrow : (l.map Saga.enc)[(keyI l x).toNat]? = some (l[n]).enc := by rw [hn]; simp [hnl]
  rw [if_neg h2'] at hq
  refine ⟨by omega, (l[n]).enc, hrow, ?_⟩
  conv => whnf
  exact finNE ⟨by rw [hq, hid, hn]⟩
theorem wakes15_con : Con P 20 [] (Bl true) [] := by
  refine Con.of T_ok Tryz.func20 rfl (by kernel_rfl) (by kernel_rfl) (aw_of T_ok (by kernel_rfl) ?_)
  conv => whnf
  have co := of_con [] (by decide) (by simp)
  refine callP co ⟨.inr (.inl ⟨_, _, rfl, rfl, wkN 6⟩), trivial⟩ (fun _ => rfl) ?_
  conv => whnf
  refine callU long3_con (fun _ => rfl) ?_
  conv => whnf
  refine callS (num_con 0 (by decide)) rfl ?_
  conv => whnf
  refine callS (num_con 0 (by decide)) rfl ?_
  conv => whnf
  exact finB ⟨rfl⟩
theorem heavy15_con (R : List Rec) (S : List ByteArray) (N : List Int) (G : List Saga) (L : List (List Rec)) (h : AskOk R S N G) (hL : RowsOk L) : ∃ b, Con P 4 [encAsk15 R S N G L] (Bl b) [] := by
  obtain ⟨b2, hb2⟩ := heavy14_con R S N G h
  have hlen := hL.len
  have hm : (L.map fun l => [encRecs l]).length = L.length := List.length_map ..
  obtain ⟨V, hV⟩ : ∃ V, V = capOut L L.length := ⟨_, rfl⟩
  refine ⟨decide (900 < V) || b2, Con.of T_ok Tryz.func4 rfl (by kernel_rfl) (by kernel_rfl) (aw_of T_ok (by kernel_rfl) ?_)⟩
  conv => whnf
  refine AW.loop (fun p : Nat × Int => p.1 ≤ L.length ∧ capOut (L.drop p.1) p.2 = V) (fun p => [(1, .lf (.ptr 0 0)), (3, Go.Rx.I p.2), (4, Go.Rx.I p.1)]) (fun _ => [ask15V R S N G L]) (fun p => L.length - p.1) [] ?_ ?_
  · exact ⟨(0, L.length), ⟨Nat.zero_le _, hV.symm⟩, ⟨rfl, congrArg (fun n : Nat => Go.Rx.I (n : Int)) hm, rfl, trivial⟩, ⟨[], rfl⟩, rfl, rfl⟩
  rintro ⟨k, n⟩ ⟨hk, hsum⟩
  simp only at hk hsum
  have stop : n = V → ∀ (Q : Prop), (decide (900 < n) = true → (∃ zs, Fa WkA [Bl true] zs ∧ pack zs = some (Bl (decide (900 < V) || b2)))) ∧ (decide (900 < n) = false → (∃ zs, Fa WkA [Bl b2] zs ∧ pack zs = some (Bl (decide (900 < V) || b2)))) := fun e Q => by
    subst e
    exact ⟨fun h => finB ⟨by rw [h]; rfl⟩, fun h => finB ⟨by rw [h]; rfl⟩⟩
  refine aw_of T_ok (by kernel_rfl) ?_
  conv => whnf
  split <;> rename_i hlt <;> conv => whnf
  rotate_left
  · have hkl : L.length ≤ k := by have : ¬ ((k : Int) < (L.length : Int)) := by simpa using hlt
                                  omega
    rw [List.drop_of_length_le hkl, capOut] at hsum
    split <;> rename_i h9 <;> conv => whnf
    · exact (stop hsum True).1 h9
    · refine callS hb2 rfl ?_
      conv => whnf
      exact (stop hsum True).2 h9
  have hkl : k < L.length := by simpa using hlt
  split <;> rename_i hn <;> conv => whnf
  rotate_left
  · rw [capOut_stop (of_decide_eq_false hn)] at hsum
    split <;> rename_i h9 <;> conv => whnf
    · exact (stop hsum True).1 h9
    · refine callS hb2 rfl ?_
      conv => whnf
      exact (stop hsum True).2 h9
  rw [capOut_go hkl (of_decide_eq_true hn)] at hsum
  have hrow : (L.map fun l => [encRecs l])[k]? = some [encRecs L[k]] := by simp [hkl]
  have hrk := hL.row _ (List.getElem_mem hkl)
  generalize L[k] = l at hsum hrow hrk
  have hlm : (l.map Rec.enc).length = l.length := List.length_map ..
  refine ⟨by omega, _, hrow, ?_⟩
  conv => whnf
  obtain ⟨n0, hn0⟩ : ∃ n0 : Int, n0 = IntKind.i64.wrap (n + ((l.map Rec.enc).length : Nat)) := ⟨_, rfl⟩
  obtain ⟨V1, hV1⟩ : ∃ V1 : Int, V1 = capSum (l.map recW) n0 := ⟨_, rfl⟩
  rw [show IntKind.i64.wrap (n + (l.length : Int)) = n0 by rw [hn0, hlm], ← hV1] at hsum
  refine AW.loop (fun p : Nat × Int => p.1 ≤ l.length ∧ capSum ((l.map recW).drop p.1) p.2 = V1) (fun p => [(1, .lf (.ptr 0 0)), (3, Go.Rx.I p.2), (4, Go.Rx.I k), (5, Go.Rx.I p.1)]) (fun _ => [ask15V R S N G L]) (fun p => l.length - p.1) [] ?_ ?_
  · exact ⟨(0, n0), ⟨Nat.zero_le _, hV1.symm⟩, ⟨rfl, congrArg Go.Rx.I hn0.symm, rfl, rfl, trivial⟩, ⟨[], rfl⟩, rfl, rfl⟩
  rintro ⟨j, m⟩ ⟨hj, hs1⟩
  simp only at hj hs1
  refine aw_of T_ok (by kernel_rfl) ?_
  conv => whnf
  refine ⟨by omega, _, hrow, ?_⟩
  conv => whnf
  split <;> rename_i hjl <;> conv => whnf
  rotate_left
  · have hj2 : l.length ≤ j := by have : ¬ ((j : Int) < (l.length : Int)) := by simpa using hjl
                                  omega
    rw [List.drop_of_length_le (by simpa using hj2), capSum] at hs1
    refine ⟨(k + 1, m), ⟨⟨hkl, by rw [hs1]; exact hsum⟩, by show _ - (k + 1) < _ - k; omega⟩, ⟨rfl, rfl, congrArg Go.Rx.I (wrapI (by omega)), trivial⟩, ⟨_, rfl⟩, rfl, rfl⟩
  have hj2 : j < l.length := by simpa using hjl
  split <;> rename_i hm2 <;> conv => whnf
  rotate_left
  · rw [capSum_stop (of_decide_eq_false hm2)] at hs1
    refine ⟨(k + 1, m), ⟨⟨hkl, by rw [hs1]; exact hsum⟩, by show _ - (k + 1) < _ - k; omega⟩, ⟨rfl, rfl, congrArg Go.Rx.I (wrapI (by omega)), trivial⟩, ⟨_, rfl⟩, rfl, rfl⟩
  have h3 := capSum_go (l := l.map recW) (k := j) (by simpa using hj2) (of_decide_eq_true hm2)
  rw [List.getElem_map] at h3
  rw [h3] at hs1
  have hrow2 : (l.map Rec.enc)[j]? = some (l[j]).enc := by simp [hj2]
  have hrj := hrk.2 _ (List.getElem_mem hj2)
  generalize l[j] = r at hs1 hrow2 hrj
  refine ⟨by omega, _, hrow, ?_⟩
  conv => whnf
  refine ⟨by omega, r.enc, hrow2, ?_⟩
  conv => whnf
  refine callS (recW_con r hrj) rfl ?_
  conv => whnf
  exact ⟨(j + 1, IntKind.i64.wrap (m + recW r)), ⟨⟨hj2, hs1⟩, by show _ - (j + 1) < _ - j; omega⟩, ⟨rfl, rfl, rfl, congrArg Go.Rx.I (wrapI (by omega)), trivial⟩, ⟨_, rfl⟩, rfl, rfl⟩
end Go.Proofs.YtnhheglbcphklaaGreat.Rx

/- The arguments of the replay's laws, opened. -/
namespace Go.Proofs.YtnhheglbcphklaaGreat.Rx
open Go.Rx Go.Rx.Lift Go.Proofs

theorem opRecs : Opens P 22 (fun l : List Rec => [encRecs l]) (fun l => l.length * 80 ≤ 140737488351232 ∧ ∀ r ∈ l, r.Ok) :=
  opens_slice (sz := 6) (B := 80) Tryz.underlying22 (by kernel_rfl) (by decide) (by kernel_rfl) opRec
theorem opRows : Opens P 32 (fun L : List (List Rec) => [encRows L]) RowsOk := by
  have h := opens_slice (sz := 1) (B := 24) Tryz.underlying32 (by kernel_rfl) (by decide) (by kernel_rfl) opRecs
  exact opens_iso id (fun _ => rfl) (fun _ h => ⟨h.1, h.2⟩) h
theorem opAsk15 : Opens P 34 (fun q : List Rec × List ByteArray × List Int × List Saga × List (List Rec) => [encRecs q.1, encStrs q.2.1, encInts q.2.2.1, encSagas q.2.2.2.1, encRows q.2.2.2.2]) (fun q => AskOk q.1 q.2.1 q.2.2.1 q.2.2.2.1 ∧ RowsOk q.2.2.2.2) := by
  have h := opens_struct (total := 5) Tryz.underlying34 (by kernel_rfl) (from_cons 4 rfl rfl (by kernel_rfl) opAsk (from_last 1 rfl rfl (by kernel_rfl) rfl opRows))
  exact opens_iso (fun q : (List Rec × List ByteArray × List Int × List Saga) × List (List Rec) => (q.1.1, q.1.2.1, q.1.2.2.1, q.1.2.2.2, q.2)) (fun _ => rfl) (fun _ h => ⟨h.1, h.2⟩) h
end Go.Proofs.YtnhheglbcphklaaGreat.Rx

/- Rows weakened: a nil slice stands for no rows. -/
set_option linter.unusedVariables false
set_option linter.unusedSimpArgs false
namespace Go.Rx
open Go.RowKit
theorem fa_get' {α : Type} {R : α → α → Prop} : ∀ {l m : List α}, Fa R l m → ∀ {i : Nat} {b : α}, m[i]? = some b → ∃ a, l[i]? = some a ∧ R a b
  | [], [], _, i, b, h => by simp at h
  | x :: l, y :: m, h, 0, b, e => ⟨x, rfl, by simp at e; exact e ▸ h.1⟩
  | x :: l, y :: m, h, i + 1, b, e => by simpa using fa_get' h.2 (i := i) (by simpa using e)
  | [], _ :: _, h, _, _, _ => h.elim
  | _ :: _, [], h, _, _, _ => h.elim
section
variable {P : Program} {C : Ctx} {G : Gh} {bk : List Blk} {w : World}
theorem Mem.wkArr (h : Mem C G bk w) {b e sz : Nat} {rows rows' : List (List PV)} (hb : bk[b]? = some (.arr e sz rows)) (hr : Fa (Fa WkP) rows rows') :
    Trn G bk w G (bk.set b (.arr e sz rows')) w ∧ Mem C G (bk.set b (.arr e sz rows')) w := by
  have hbl : b < bk.length := (List.getElem?_eq_some_iff.1 hb).1
  have hl : rows.length = rows'.length := hr.length
  have gb : (bk.set b (.arr e sz rows'))[b]? = some (.arr e sz rows') := List.getElem?_set_self hbl
  have g0 : ∀ i, i ≠ b → (bk.set b (.arr e sz rows'))[i]? = bk[i]? := fun i hn => List.getElem?_set_ne (Ne.symm hn)
  have hrb : rowsOf bk b = some (sz, rows) := by unfold rowsOf; rw [hb]
  have hro : ∀ i, i ≠ b → rowsOf (bk.set b (.arr e sz rows')) i = rowsOf bk i := fun i hn => by unfold rowsOf; rw [g0 i hn]
  have hrn : rowsOf (bk.set b (.arr e sz rows')) b = some (sz, rows') := by unfold rowsOf; rw [gb]
  have hal : ∀ i, Alive (bk.set b (.arr e sz rows')) i → Alive bk i := fun i ha => by
    by_cases hn : i = b
    · subst hn; unfold Alive; rw [hb]; trivial
    · unfold Alive at ha ⊢; rw [g0 i hn] at ha; exact ha
  have hlen : (bk.set b (.arr e sz rows')).length = bk.length := by simp
  have t : Trn G bk w G (bk.set b (.arr e sz rows')) w := by
    refine ⟨fun _ _ h => h, fun _ _ h => h, fun _ _ _ => rfl, fun i hi e => ⟨hp_set e rfl, rfl, fun _ _ _ => rfl⟩, by rw [hlen]; exact Nat.le_refl _, fun i hi hn => ?_, fun i s r hn => ?_⟩
    · have : i ≠ b := fun e0 => by subst e0; rw [hrb] at hn; cases hn
      exact ⟨by rw [hro i this]; exact hn, rfl⟩
    · by_cases e0 : i = b
      · subst e0
        rw [hrb] at hn
        cases hn
        exact ⟨rows', hrn, by omega, fun _ => ⟨rfl, rfl⟩⟩
      · exact ⟨r, by rw [hro i e0]; exact hn, Nat.le_refl _, fun _ => ⟨rfl, rfl⟩⟩
  refine ⟨t, ⟨fun i B hB => ?_, fun i j g hi hj => h.inj i j g (by rw [hlen] at hi; exact hi) (by rw [hlen] at hj; exact hj), fun g o i hs ha => h.sdis g o i hs (hal i ha), h.slt, fun i g hi => h.mlt i g (by rw [hlen] at hi; exact hi), fun i g hi => h.new i g (by rw [hlen] at hi; exact hi), h.s0, h.snew, h.fnew, h.fty, fun g e' i hf ha => h.fdis g e' i hf (hal i ha), h.os, h.tape, h.output, h.size, h.block, h.regsK (fun i hh e => hpOf_set e rfl) (fun i g hi e => .inl ⟨i, by rw [hlen] at hi; exact hi, e⟩) (fun g o hs => .inl hs) (fun g e hf => .inl hf), by rw [hlen]; exact h.mle, h.t0.trans t⟩⟩
  by_cases hn : i = b
  · subst hn
    rw [gb] at hB
    cases hB
    rcases h.blk i _ hb with ⟨h1, h2⟩ | ⟨g, cur, h1, h2, h3, h4, h5, h6⟩
    · subst h2
      exact .inl ⟨h1, List.eq_nil_of_length_eq_zero hl.symm⟩
    · refine .inr ⟨g, cur, h1, h2, h3, h4, by omega, fun j r' hj => ?_⟩
      obtain ⟨r, hj', hrr⟩ := fa_get' hr hj
      obtain ⟨k1, k2⟩ := h6 j r hj'
      refine ⟨by rw [← hrr.length]; exact k1, fun c p' hc => ?_⟩
      obtain ⟨p, hc', hp⟩ := fa_get' hrr hc
      obtain ⟨u, hu, hrep⟩ := k2 c p hc'
      exact ⟨u, hu, hp _ _ _ hrep⟩
  · rw [g0 i hn] at hB
    exact RepB.step t rfl rfl (fun _ _ => rfl) (fun _ _ _ _ _ => rfl) (h.blk i B hB)
theorem ConG.wk {f : FuncId} {B0 B1 : List Blk} {args : List AV} {r : AV} (hc : ConG P f B0 args r B1) {b e sz : Nat} {rows rows' : List (List PV)} (hb : B1[b]? = some (.arr e sz rows)) (hr : Fa (Fa WkP) rows rows') :
    ConG P f B0 args r (B1.set b (.arr e sz rows')) := by
  refine ⟨hc.1, fun w G0 us hm ha => (hc.2 w G0 us hm ha).mono ?_⟩
  rintro e' w' ⟨u, G', rfl, h1, h2⟩
  obtain ⟨t, m⟩ := h2.wkArr hb hr
  exact ⟨u, G', rfl, t.repA h1, m⟩
end
end Go.Rx
