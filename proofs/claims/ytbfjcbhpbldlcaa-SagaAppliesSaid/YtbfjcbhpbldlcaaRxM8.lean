/- Is a text a name? The program's answer. -/
import Derived.Test.YtbfjcbhpbldlcaaRxM7
set_option linter.unusedVariables false
set_option linter.unusedSimpArgs false
namespace Go.Rx
def wordL (s : ByteArray) : Int := if 12 < runB wordC s then 0 else runB wordC s
def nameB (s : ByteArray) : Bool := if h : 0 < s.size then letN s[0].toNat && (wordL s == s.size) else false
end Go.Rx
namespace Go.Proofs.Ytbfjcbhpbldlcaa.Rx
open Go.Rx Go.Proofs Go.Proofs.Ytbfjcbhpbldlcaa.RxH

theorem size_con (s : ByteArray) (hs : okS s) (h0 : 0 < s.size) : ∃ n : Int, Con P 90 [Sx s] (I n) [] ∧ (letN s[0].toNat = true → n = wordL s) := by
  obtain ⟨tx, tn, tok, hstr⟩ := jstring_con s hs
  have key : ∃ n : Int, (n = if letN s[0].toNat then wordL s else if ((s[0].toNat : Int) == 45) || digN s[0].toNat then (if (numR s).2.2 then (numR s).2.1 else 0)
      else if (s[0].toNat : Int) == 34 then (if tok && decide ((tx.size : Int) ≤ 40) then tn else 0) else if Lib.hasPrefix s.data.toList [46, 46, 46] then 3 else if decide ((0 : Int) ≤ Lib.indexByte [33, 36, 40, 41, 58, 61, 64, 91, 93, 123, 125] (s[0].toNat : Int).toNat.toUInt8) then 1 else 0) := ⟨_, rfl⟩
  obtain ⟨n, hn⟩ := key
  refine ⟨n, ?_, fun h => by rw [hn, if_pos h]⟩
  refine Con.of T_ok Try.func90 rfl (by kernel_rfl) (by kernel_rfl) (aw_of T_ok (by kernel_rfl) ?_)
  conv => whnf
  refine ⟨by omega, s[0], atB h0, ?_⟩
  conv => whnf
  refine callS (letter_con s[0].toNat) rfl ?_
  conv => whnf
  split <;> rename_i h1 <;> conv => whnf
  · rw [if_pos h1] at hn
    refine callS (run_con s hs) rfl ?_
    conv => whnf
    split <;> rename_i h2 <;> conv => whnf
    · refine finI ⟨?_⟩
      have h2' : 12 < runB wordC s := by have := of_decide_eq_true h2; omega
      rw [hn, wordL, if_pos h2']
    · refine finI ⟨?_⟩
      have h2' : ¬ 12 < runB wordC s := by have := of_decide_eq_false h2; omega
      rw [hn, wordL, if_neg h2']
  · rw [if_neg (by rw [h1]; decide)] at hn
    have num : ((s[0].toNat : Int) == 45 || digN s[0].toNat) = true → ∀ x, (if (numR s).2.2 then (numR s).2.1 else 0) = x → n = x := fun hc x hx => by rw [hn, if_pos hc, hx]
    split <;> rename_i h2 <;> conv => whnf
    · have num := num (by rw [show ((s[0].toNat : Int) == 45) = true from h2]; rfl)
      refine callS (number_con s hs) rfl ?_
      conv => whnf
      split <;> rename_i h3 <;> conv => whnf
      · exact finI ⟨(num _ (by rw [if_pos h3])).symm⟩
      · exact finI ⟨(num _ (by rw [if_neg (by rw [h3]; decide)])).symm⟩
    · refine callS (digit_con s[0].toNat) rfl ?_
      conv => whnf
      split <;> rename_i h4 <;> conv => whnf
      · have num := num (by rw [h4, Bool.or_true])
        refine callS (number_con s hs) rfl ?_
        conv => whnf
        split <;> rename_i h3 <;> conv => whnf
        · exact finI ⟨(num _ (by rw [if_pos h3])).symm⟩
        · exact finI ⟨(num _ (by rw [if_neg (by rw [h3]; decide)])).symm⟩
      · rw [if_neg (by rw [show ((s[0].toNat : Int) == 45) = false from h2, h4]; decide)] at hn
        split <;> rename_i h5 <;> conv => whnf
        · rw [if_pos (show ((s[0].toNat : Int) == 34) = true from h5)] at hn
          refine callS hstr rfl ?_
          conv => whnf
          split <;> rename_i h6 <;> conv => whnf
          · split <;> rename_i h7 <;> conv => whnf
            · refine finI ⟨?_⟩
              rw [hn, if_pos (by rw [show decide ((tx.size : Int) ≤ 40) = true from h7]; rfl)]
            · refine finI ⟨?_⟩
              rw [hn, if_neg (by rw [show decide ((tx.size : Int) ≤ 40) = false from h7]; decide)]
          · refine finI ⟨?_⟩
            rw [hn, if_neg (by rw [Bool.false_and]; decide)]
        · rw [if_neg (by rw [show ((s[0].toNat : Int) == 34) = false from h5]; decide)] at hn
          refine callS (hasPrefix_con s ⟨#[46, 46, 46]⟩) rfl ?_
          conv => whnf
          split <;> rename_i h6 <;> conv => whnf
          · exact finI ⟨by rw [hn, if_pos h6]⟩
          · rw [if_neg (by rw [h6]; decide)] at hn
            refine callS (indexByte_con ⟨#[33, 36, 40, 41, 58, 61, 64, 91, 93, 123, 125]⟩ (s[0].toNat : Int)) rfl ?_
            conv => whnf
            split <;> rename_i h7 <;> conv => whnf
            · exact finI ⟨by rw [hn, if_pos (show decide ((0 : Int) ≤ Lib.indexByte [33, 36, 40, 41, 58, 61, 64, 91, 93, 123, 125] (s[0].toNat : Int).toNat.toUInt8) = true from h7)]⟩
            · exact finI ⟨by rw [hn, if_neg (by rw [show decide ((0 : Int) ≤ Lib.indexByte [33, 36, 40, 41, 58, 61, 64, 91, 93, 123, 125] (s[0].toNat : Int).toNat.toUInt8) = false from h7]; decide)]⟩
theorem ne_empty (s : ByteArray) : (s != ⟨#[]⟩) = decide (0 < s.size) := by
  rw [Bool.eq_iff_iff, bne_iff_ne, decide_eq_true_eq]
  constructor
  · intro h
    rcases Nat.eq_zero_or_pos s.size with e | e
    · exact absurd (ByteArray.ext (Array.eq_empty_of_size_eq_zero e)) h
    · exact e
  · rintro h rfl
    exact absurd h (by decide)
theorem lexOne_con (s : ByteArray) (hs : okS s) : ∃ b, Con P 83 [Sx s] (Bl b) [] ∧ (s.size = 0 → b = false) ∧ ∀ h : 0 < s.size, letN s[0].toNat = true → b = (wordL s == s.size) := by
  by_cases h0 : 0 < s.size
  · obtain ⟨n, hc, hn⟩ := size_con s hs h0
    refine ⟨n == s.size, ?_, fun e => by omega, fun _ h => by rw [hn h]⟩
    refine Con.of T_ok Try.func83 rfl (by kernel_rfl) (by kernel_rfl) (aw_of T_ok (by kernel_rfl) ?_)
    conv => whnf
    split <;> rename_i h1 <;> conv => whnf
    · refine callS hc rfl ?_
      conv => whnf
      exact finB ⟨rfl⟩
    · have h1' : (s != ⟨#[]⟩) = false := h1
      rw [ne_empty, decide_eq_true h0] at h1'
      cases h1'
  · refine ⟨false, ?_, fun _ => rfl, fun h => absurd h h0⟩
    refine Con.of T_ok Try.func83 rfl (by kernel_rfl) (by kernel_rfl) (aw_of T_ok (by kernel_rfl) ?_)
    conv => whnf
    split <;> rename_i h1 <;> conv => whnf
    · have h1' : (s != ⟨#[]⟩) = true := h1
      rw [ne_empty, decide_eq_false h0] at h1'
      cases h1'
    · exact finB ⟨rfl⟩
theorem name_con (s : ByteArray) (hs : okS s) : Con P 73 [Sx s] (Bl (nameB s)) [] := by
  obtain ⟨b, hc, hb0, hb⟩ := lexOne_con s hs
  refine Con.of T_ok Try.func73 rfl (by kernel_rfl) (by kernel_rfl) (aw_of T_ok (by kernel_rfl) ?_)
  conv => whnf
  refine callS hc rfl ?_
  conv => whnf
  split <;> rename_i h1 <;> conv => whnf
  · have h0 : 0 < s.size := by
      rcases Nat.eq_zero_or_pos s.size with e | e
      · cases hb0 e
      · exact e
    refine ⟨by omega, s[0], atB h0, ?_⟩
    conv => whnf
    refine callS (letter_con s[0].toNat) rfl ?_
    conv => whnf
    refine finB ⟨?_⟩
    rw [nameB, dif_pos h0]
    cases hl : letN s[0].toNat with
    | false => rfl
    | true => rw [← hb h0 hl]; rfl
  · refine finB ⟨?_⟩
    rw [nameB]
    split
    · rename_i h0
      cases hl : letN s[0].toNat with
      | false => rfl
      | true => rw [← hb h0 hl]; rfl
    · rfl
end Go.Proofs.Ytbfjcbhpbldlcaa.Rx
