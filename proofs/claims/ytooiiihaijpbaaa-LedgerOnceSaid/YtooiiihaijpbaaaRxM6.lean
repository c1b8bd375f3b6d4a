/- Texts that are plain, as the program looks at them. -/
import Derived.Test.YtooiiihaijpbaaaRxH
set_option linter.unusedVariables false
set_option linter.unusedSimpArgs false
namespace Go.Proofs.Ytooiiihaijpbaaa.Rx
open Go.Rx Go.Proofs Go.Proofs.Ytooiiihaijpbaaa.RxH

theorem plain_from (s : ByteArray) : ∀ n i, i + n = s.size → decide (0 ≤ Lib.idxFuncFrom badR true s n i) = !((s.data.toList.drop i).all okB)
  | 0, i, h => by rw [plain_end (by omega)]; rfl
  | n + 1, i, h => by
    have hi : i < s.size := by omega
    unfold Lib.idxFuncFrom
    rw [if_pos hi, plain_go hi]
    by_cases ha : (s[i]'hi).toNat < 128
    · rw [decode_ascii s i hi ha]
      have e : badR (s[i]'hi).toNat = !okB (s[i]'hi) := by
        unfold badR okB
        rw [Bool.not_not]
        congr 1
        · exact decide_eq_decide.2 (by omega)
        · exact decide_eq_decide.2 (by omega)
      cases ok : okB (s[i]'hi) with
      | true =>
        rw [if_neg (by rw [e, ok]; decide), Bool.true_and]
        exact plain_from s n (i + 1) (by omega)
      | false =>
        rw [if_pos (by rw [e, ok]; rfl)]
        exact decide_eq_true (by omega)
    · have hd := (decode_high s i hi (by omega)).1
      rw [if_pos (show badR (Utf8.decode s i).1 = true by unfold badR; rw [decide_eq_true (show 126 < (Utf8.decode s i).1 by omega), Bool.or_true])]
      have e : okB (s[i]'hi) = false := by unfold okB; rw [decide_eq_true (show 126 < ((s[i]'hi).toNat : Int) by omega), Bool.or_true]; rfl
      rw [e, decide_eq_true (by omega)]
      rfl
theorem plain_con (s : ByteArray) (n : Int) : Con P 74 [Sx s, I n] (Bl (decide ((s.size : Int) ≤ n) && plainB s)) [] := by
  refine Con.plain (vs := [.string s, .int .i64 n]) (by kernel_rfl) rfl fun w => json_Plain.calls s n _ w ?_
  unfold json_Plain.f Lib.idxFunc
  rw [plain_from s s.size 0 (by omega), Bool.not_not]
  rfl
theorem short_con (s : ByteArray) : Con P 63 [Sx s] (Bl (shortB s)) [] := by
  refine Con.of T_ok Try.func63 rfl (by kernel_rfl) (by kernel_rfl) (aw_of T_ok (by kernel_rfl) ?_)
  conv => whnf
  refine callS (plain_con s 40) rfl ?_
  conv => whnf
  refine finB ⟨?_⟩
  rw [shortB, Bool.and_comm]
  congr 1
  exact decide_eq_decide.2 (by omega)
end Go.Proofs.Ytooiiihaijpbaaa.Rx
