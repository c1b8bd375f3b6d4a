/- May a saga be? -/
import Derived.Test.YtbfjcbhpbldlcaaRxM14
set_option linter.unusedVariables false
set_option linter.unusedSimpArgs false
namespace Go.Rx
abbrev begR (s : Saga) : Rec := ⟨1, s.id, 0, s.key, s.body, s.steps⟩
def sagaB (s : Saga) : Bool := recB (begR s) && (decide (0 ≤ s.done) && (decide (s.done ≤ s.steps.length) && (!(s.out && (s.done == s.steps.length)) && (decide (0 ≤ s.left) && (decide (s.left ≤ mostI s) && (!(!s.back && (s.left != 0)) && endsB s s.status))))))
theorem Saga.Ok.beg {s : Saga} (h : s.Ok) : (begR s).Ok := ⟨h.key, h.body, h.steps⟩
end Go.Rx
namespace Go.Proofs.Ytbfjcbhpbldlcaa.Rx
open Go.Rx Go.Proofs Go.Proofs.Ytbfjcbhpbldlcaa.RxH

theorem sagaMay_con (s : Saga) (h : s.Ok) : Con P 38 [encSaga s] (Bl (sagaB s)) [] := by
  have hlen := h.steps.len
  have hm : (s.steps.map Step.enc).length = s.steps.length := List.length_map ..
  refine Con.of T_ok Try.func38 rfl (by kernel_rfl) (by kernel_rfl) (aw_ofC T_ok 1001 (by kernel_rfl) ?_)
  conv => whnf
  refine AW.cut (fun _ : Unit => recB (begR s) = true ∧ 0 ≤ s.done ∧ s.done ≤ s.steps.length ∧ (s.out && (s.done == s.steps.length)) = false) (fun _ => [(1, .lf (.ptr 0 0))]) (fun _ => [.var [.pv (pI s.id), .pv (pS s.key), .pv (pS s.body), .pv (encSteps s.steps), .pv (pI s.done), .pv (pB s.out), .pv (pB s.back), .pv (pI s.left), .pv (pI s.status)]]) [] (aw_of T_ok (by kernel_rfl) ?_) ?_
  · conv => whnf
    refine callU (begin_con s) (fun _ => rfl) ?_
    conv => whnf
    refine callS (recMay_con (begR s) h.beg) rfl ?_
    conv => whnf
    split <;> rename_i h1 <;> conv => whnf
    · refine finB ⟨?_⟩
      rw [sagaB, show recB (begR s) = false by simpa using h1]; rfl
    have h1' : recB (begR s) = true := by simpa using h1
    split <;> rename_i h2 <;> conv => whnf
    · refine finB ⟨?_⟩
      rw [sagaB, h1', show decide (0 ≤ s.done) = false by simp at h2; simp; omega]; rfl
    have h2' : 0 ≤ s.done := by simp at h2; omega
    split <;> rename_i h3 <;> conv => whnf
    · refine finB ⟨?_⟩
      rw [sagaB, h1', decide_eq_true h2', show decide (s.done ≤ s.steps.length) = false by simp at h3; simp; omega]; rfl
    have h3' : s.done ≤ s.steps.length := by simp at h3; omega
    split <;> rename_i h4 <;> conv => whnf
    · split <;> rename_i h5 <;> conv => whnf
      · refine finB ⟨?_⟩
        have h5' : s.done = s.steps.length := by simpa using h5
        rw [sagaB, h1', decide_eq_true h2', decide_eq_true h3', show (s.out && (s.done == s.steps.length)) = true by rw [show s.out = true from h4, beq_iff_eq.2 h5']; rfl]; rfl
      · refine ⟨(), ⟨h1', h2', h3', ?_⟩, ⟨rfl, trivial⟩, ⟨[], rfl⟩, rfl, rfl⟩
        rw [Bool.and_eq_false_iff]; right; simpa using h5
    · exact ⟨(), ⟨h1', h2', h3', by rw [show s.out = false from h4]; rfl⟩, ⟨rfl, trivial⟩, ⟨[], rfl⟩, rfl, rfl⟩
  rintro _ ⟨h1, h2, h3, h4⟩
  rw [sagaB, h1, decide_eq_true h2, decide_eq_true h3, h4]
  simp only [Bool.true_and, Bool.not_false]
  refine aw_ofC T_ok 1003 (by kernel_rfl) ?_
  conv => whnf
  refine AW.cut (fun _ : Unit => 0 ≤ s.left ∧ s.left ≤ mostI s ∧ (!s.back && (s.left != 0)) = false) (fun _ => [(1, .lf (.ptr 0 0))]) (fun _ => [.var [.pv (pI s.id), .pv (pS s.key), .pv (pS s.body), .pv (encSteps s.steps), .pv (pI s.done), .pv (pB s.out), .pv (pB s.back), .pv (pI s.left), .pv (pI s.status)]]) [] (aw_of T_ok (by kernel_rfl) ?_) ?_
  · refine AW.draw T_ok rfl (seqPl 0 20) (by kernel_rfl) (by kernel_rfl) ?_
    conv => whnf
    split <;> rename_i h5 <;> conv => whnf
    · refine finB ⟨?_⟩
      rw [show decide (0 ≤ s.left) = false by simp at h5; simp; omega]; rfl
    have h5' : 0 ≤ s.left := by simp at h5; omega
    rw [decide_eq_true h5', Bool.true_and]
    refine callS (most_con s (by omega)) rfl ?_
    conv => whnf
    split <;> rename_i h6 <;> conv => whnf
    · refine finB ⟨?_⟩
      rw [show decide (s.left ≤ mostI s) = false by simp at h6; simp; omega]; rfl
    have h6' : s.left ≤ mostI s := by simp at h6; omega
    rw [decide_eq_true h6', Bool.true_and]
    split <;> rename_i h7 <;> conv => whnf
    · split <;> rename_i h8 <;> conv => whnf
      · refine finB ⟨?_⟩
        rw [show (!s.back) = true from h7, show (s.left != 0) = true from h8]; rfl
      · exact ⟨(), ⟨h5', h6', by rw [show (s.left != 0) = false from h8, Bool.and_false]⟩, ⟨rfl, trivial⟩, ⟨[], rfl⟩, rfl, rfl⟩
    · exact ⟨(), ⟨h5', h6', by rw [show (!s.back) = false from h7]; rfl⟩, ⟨rfl, trivial⟩, ⟨[], rfl⟩, rfl, rfl⟩
  rintro _ ⟨h5, h6, h7⟩
  rw [decide_eq_true h5, decide_eq_true h6, h7]
  refine aw_of T_ok (by kernel_rfl) ?_
  conv => whnf
  refine callS (ended_con s s.status) rfl ?_
  conv => whnf
  exact finB ⟨rfl⟩
end Go.Proofs.Ytbfjcbhpbldlcaa.Rx
