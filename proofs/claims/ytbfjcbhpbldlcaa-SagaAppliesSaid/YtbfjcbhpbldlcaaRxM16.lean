/- May a saga be? The page's answer. -/
import Derived.Test.YtbfjcbhpbldlcaaRxM15
set_option linter.unusedVariables false
set_option linter.unusedSimpArgs false
namespace Go.Rx
theorem ends_out {s : Saga} {st : Int} (h : ¬ (0 ≤ st ∧ st ≤ 3)) : endsB s st = false := by
  unfold endsB
  rw [if_neg (by omega), if_neg (by omega), if_neg (by omega), if_neg (by omega)]
def most9 (s : Saga) : Int := if s.back then (if s.out then s.done + 1 else s.done) else 0
theorem most_same {s : Saga} (h : 0 ≤ s.done) : (decide (0 ≤ s.left) && decide (s.left ≤ most9 s)) = (decide (0 ≤ s.left) && (decide (s.left ≤ mostI s) && !(!s.back && (s.left != 0)))) := by
  unfold most9 mostI
  cases s.back with
  | true => simp
  | false =>
    simp only [Bool.false_eq_true, if_false, Bool.not_false, Bool.true_and]
    rw [Bool.eq_iff_iff]
    simp only [Bool.and_eq_true, decide_eq_true_eq, Bool.not_eq_true', bne_eq_false_iff_eq]
    cases s.out <;> simp <;> omega
end Go.Rx
namespace Go.Proofs.Ytbfjcbhpbldlcaa.Rx
open Go.Rx Go.Proofs Go.Proofs.Ytbfjcbhpbldlcaa.RxH

theorem saga9_con (s : Saga) (h : s.Ok) : Con P 28 [encSaga s] (Bl (sagaB s)) [] := by
  have hlen := h.steps.len
  have hm : (s.steps.map Step.enc).length = s.steps.length := List.length_map ..
  refine Con.of T_ok Try.func28 rfl (by kernel_rfl) (by kernel_rfl) (aw_ofC T_ok 1002 (by kernel_rfl) ?_)
  conv => whnf
  refine AW.cut (fun _ : Unit => recB (begR s) = true ∧ 0 ≤ s.done ∧ s.done ≤ s.steps.length ∧ (s.out && (s.done == s.steps.length)) = false ∧ 0 ≤ s.status ∧ s.status ≤ 3) (fun _ => [(1, .lf (.ptr 0 0))]) (fun _ => [.var [.pv (pI s.id), .pv (pS s.key), .pv (pS s.body), .pv (encSteps s.steps), .pv (pI s.done), .pv (pB s.out), .pv (pB s.back), .pv (pI s.left), .pv (pI s.status)]]) [] (aw_of T_ok (by kernel_rfl) ?_) ?_
  · conv => whnf
    refine callS (rec9_con (begR s) h.beg) rfl ?_
    conv => whnf
    split <;> rename_i h1 <;> conv => whnf
    · refine finB ⟨?_⟩
      rw [sagaB, show recB (begR s) = false by simpa using h1]; rfl
    have h1' : recB (begR s) = true := by simpa using h1
    refine callS (numB_con s.done ((s.steps.map Step.enc).length : Int)) rfl ?_
    conv => whnf
    split <;> rename_i h2 <;> conv => whnf
    · refine finB ⟨?_⟩
      rw [sagaB, h1', Bool.true_and, ← Bool.and_assoc, show (decide (0 ≤ s.done) && decide (s.done ≤ s.steps.length)) = false by simp at h2; simp; omega]; rfl
    have h2' : 0 ≤ s.done ∧ s.done ≤ s.steps.length := by simp at h2; omega
    have stat : (s.out && (s.done == s.steps.length)) = false → (decide (0 ≤ s.status) && decide (s.status ≤ 3)) = false → false = sagaB s := fun _ hs => by
      rw [sagaB, ends_out (fun e => by rw [decide_eq_true e.1, decide_eq_true e.2] at hs; cases hs)]
      simp only [Bool.and_false]
    split <;> rename_i h4 <;> conv => whnf
    · split <;> rename_i h5 <;> conv => whnf
      · refine finB ⟨?_⟩
        have h5' : s.done = s.steps.length := by simp at h5; omega
        rw [sagaB, h1', decide_eq_true h2'.1, decide_eq_true h2'.2, show (s.out && (s.done == s.steps.length)) = true by rw [show s.out = true from h4, beq_iff_eq.2 h5']; rfl]; rfl
      · have ho : (s.out && (s.done == s.steps.length)) = false := by
          rw [Bool.and_eq_false_iff]; right; simp at h5; simp; omega
        refine callS (numB_con s.status 3) rfl ?_
        conv => whnf
        split <;> rename_i h6 <;> conv => whnf
        · exact finB ⟨stat ho (by simp at h6; simp; omega)⟩
        · have h6' : 0 ≤ s.status ∧ s.status ≤ 3 := by simp at h6; omega
          exact ⟨(), ⟨h1', h2'.1, h2'.2, ho, h6'⟩, ⟨rfl, trivial⟩, ⟨[], rfl⟩, rfl, rfl⟩
    · have ho : (s.out && (s.done == s.steps.length)) = false := by rw [show s.out = false from h4]; rfl
      refine callS (numB_con s.status 3) rfl ?_
      conv => whnf
      split <;> rename_i h6 <;> conv => whnf
      · exact finB ⟨stat ho (by simp at h6; simp; omega)⟩
      · have h6' : 0 ≤ s.status ∧ s.status ≤ 3 := by simp at h6; omega
        exact ⟨(), ⟨h1', h2'.1, h2'.2, ho, h6'⟩, ⟨rfl, trivial⟩, ⟨[], rfl⟩, rfl, rfl⟩
  rintro _ ⟨h1, h2, h3, h4, h5, h6⟩
  rw [sagaB, h1, decide_eq_true h2, decide_eq_true h3, h4]
  simp only [Bool.true_and, Bool.not_false]
  refine aw_ofC T_ok 1005 (by kernel_rfl) ?_
  conv => whnf
  refine AW.cut (fun _ : Unit => True) (fun _ => [(1, .lf (.ptr 0 0)), (4, Go.Rx.I (most9 s))]) (fun _ => [.var [.pv (pI s.id), .pv (pS s.key), .pv (pS s.body), .pv (encSteps s.steps), .pv (pI s.done), .pv (pB s.out), .pv (pB s.back), .pv (pI s.left), .pv (pI s.status)]]) [] (aw_of T_ok (by kernel_rfl) ?_) ?_
  · conv => whnf
    split <;> rename_i h7 <;> conv => whnf
    · split <;> rename_i h8 <;> conv => whnf
      · refine ⟨(), trivial, ⟨rfl, congrArg Go.Rx.I ?_, trivial⟩, ⟨[], rfl⟩, rfl, rfl⟩
        rw [most9, if_pos h7, if_pos h8]; exact wrapI (by omega)
      · refine ⟨(), trivial, ⟨rfl, congrArg Go.Rx.I ?_, trivial⟩, ⟨[], rfl⟩, rfl, rfl⟩
        rw [most9, if_pos h7, if_neg (by rw [show s.out = false from h8]; decide)]
    · refine ⟨(), trivial, ⟨rfl, congrArg Go.Rx.I ?_, trivial⟩, ⟨[], rfl⟩, rfl, rfl⟩
      rw [most9, if_neg (by rw [show s.back = false from h7]; decide)]
  rintro _ _
  have key : (decide (0 ≤ s.left) && (decide (s.left ≤ mostI s) && (!(!s.back && (s.left != 0)) && endsB s s.status))) = ((decide (0 ≤ s.left) && decide (s.left ≤ most9 s)) && endsB s s.status) := by
    rw [most_same h2]; simp only [Bool.and_assoc]
  rw [key]
  refine aw_of T_ok (by kernel_rfl) ?_
  conv => whnf
  refine callS (numB_con s.left (most9 s)) rfl ?_
  conv => whnf
  split <;> rename_i h7 <;> conv => whnf
  · rw [h7, Bool.true_and]
    split <;> rename_i h8 <;> conv => whnf
    · refine finB ⟨?_⟩
      have h8' : s.status = 0 := by simpa using h8
      rw [h8', endsB, if_pos rfl]
    · have h8' : ¬ s.status = 0 := by simpa using h8
      refine callS (ends_con s s.status (by omega)) rfl ?_
      conv => whnf
      exact finB ⟨rfl⟩
  · refine finB ⟨?_⟩
    rw [h7]; rfl
end Go.Proofs.Ytbfjcbhpbldlcaa.Rx
