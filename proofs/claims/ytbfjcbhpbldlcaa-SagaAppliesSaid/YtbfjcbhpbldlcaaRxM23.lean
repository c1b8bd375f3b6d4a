/- The marks of all steps. -/
import Derived.Test.YtbfjcbhpbldlcaaRxM22
set_option linter.unusedVariables false
set_option linter.unusedSimpArgs false
namespace Go.Rx
def marksP (s : Saga) : List ByteArray × Int := if sagaB s then (marksL s, 0) else ([], 1)
abbrev strsE (p : List ByteArray × Int) : AV := .tup [.lf (.pv (encStrs p.1)), .lf (.pv (pI p.2))]
theorem markStr (l : List ByteArray) (x : ByteArray) : (l.map fun s => [pS s]) ++ [[pS x]] = (l ++ [x]).map fun s => [pS s] := by simp
/-- The page's own mark is the program's. -/
theorem mark_same {s : Saga} {i : Int} (b : ByteArray) (c : ByteArray)
    (hb : b = if i = s.done ∧ s.out = true then mCalled else if i < s.done then mDone else ⟨#[]⟩)
    (hc : c = if s.back = true ∧ s.left ≤ i ∧ b ≠ ⟨#[]⟩ then mUndone else b) : c = markS s i := by
  have n1 : mCalled ≠ ⟨#[]⟩ := by decide
  have n2 : mDone ≠ ⟨#[]⟩ := by decide
  subst hc hb
  unfold markS mostI
  cases ho : s.out <;> cases hk : s.back <;> simp only [Bool.false_eq_true, and_false, false_and, if_false, if_true, and_true, true_and, Bool.false_and, Bool.true_and, decide_eq_true_eq]
  all_goals
    by_cases h1 : i < s.done
    · have h2 : ¬ i = s.done := by omega
      have h3 : ¬ s.done ≤ i := by omega
      have h4 : ¬ s.done + 1 ≤ i := by omega
      simp [h1, h2, h3, h4, n2]
    · by_cases h2 : i = s.done
      · have h4 : ¬ s.done + 1 ≤ i := by omega
        have h5 : s.done < s.done + 1 := by omega
        have h6 : ¬ s.done + 1 ≤ s.done := by omega
        simp [h2, n1, h5, h6]
      · have h3 : s.done ≤ i := by omega
        have h4 : s.done + 1 ≤ i := by omega
        simp [h1, h2, h3, h4]
end Go.Rx
namespace Go.Proofs.Ytbfjcbhpbldlcaa.Rx
open Go.Rx Go.Proofs Go.Proofs.Ytbfjcbhpbldlcaa.RxH

theorem marks_con (s : Saga) (h : s.Ok) : Con P 22 [encSaga s] (strsE (marksP s)) [] := by
  have hlen := h.steps.len
  have hm : (s.steps.map Step.enc).length = s.steps.length := List.length_map ..
  refine Con.of T_ok Try.func22 rfl (by kernel_rfl) (by kernel_rfl) (aw_of T_ok (by kernel_rfl) ?_)
  conv => whnf
  refine callS (sagaMay_con s h) rfl ?_
  conv => whnf
  split <;> rename_i h1 <;> conv => whnf
  · rw [marksP, if_neg (show ¬ sagaB s = true by simpa using h1)]
    exact ⟨[.lf (.pv (encStrs [])), Go.Rx.I 1], ⟨.inr (.inl ⟨_, _, rfl, rfl, wkN 1⟩), .inl rfl, trivial⟩, rfl⟩
  have hB : sagaB s = true := by simpa using h1
  rw [marksP, if_pos hB]
  have hd : 0 ≤ s.done ∧ s.done ≤ s.steps.length := by
    rw [sagaB] at hB
    simp only [Bool.and_eq_true, decide_eq_true_eq] at hB
    exact ⟨hB.2.1, hB.2.2.1⟩
  refine AW.loop (fun k : Nat => k ≤ s.steps.length) (fun k => [(1, .lf (.ptr 0 0)), (4, .lf (.own 1 k)), (11, Go.Rx.I s.steps.length), (12, Go.Rx.I k)]) (fun k => [sagaV s, .arr 9 1 (((List.range k).map fun (i : Nat) => markS s i).map fun x => [pS x])]) (fun k => s.steps.length - k) [.slot 4 9 1] ?_ ?_
  · exact ⟨rfl, 0, Nat.zero_le _, ⟨rfl, rfl, congrArg (fun n : Nat => Go.Rx.I (n : Int)) hm, rfl, trivial⟩, ⟨[], rfl⟩, rfl, rfl⟩
  rintro k hk
  refine aw_of T_ok (by kernel_rfl) ?_
  conv => whnf
  split <;> rename_i hlt <;> conv => whnf
  · have hkl : k < s.steps.length := by have := of_decide_eq_true hlt; omega
    refine callS (mark_con s k (by omega)) rfl ?_
    conv => whnf
    refine ⟨rfl, _, .inl rfl, ?_⟩
    conv => whnf
    refine ⟨by simp, by show (k + 1) * 16 ≤ _; omega, ?_⟩
    conv => whnf
    refine ⟨k + 1, ⟨by omega, by omega⟩, ⟨rfl, rfl, rfl, congrArg Go.Rx.I (wrapI (by omega)), trivial⟩, ⟨[?r], ?e⟩, rfl, rfl⟩
    case e =>
      show _ = [sagaV s, Blk.arr _ _ (((List.range (k + 1)).map fun (i : Nat) => markS s i).map fun x => [pS x])] ++ [_]
      rw [marks_go, ← markStr]; rfl
  · have hkl : k = s.steps.length := by have := of_decide_eq_false hlt; omega
    subst hkl
    refine ⟨by simp, ?_⟩
    exact finA ⟨rfl⟩
end Go.Proofs.Ytbfjcbhpbldlcaa.Rx
