/- May a record be? A saga? -/
import Derived.Test.YtbfjcbhpbldlcaaRxM13
set_option linter.unusedVariables false
set_option linter.unusedSimpArgs false
namespace Go.Rx
def bareB (r : Rec) : Bool := r.key == ⟨#[]⟩ && r.body == ⟨#[]⟩ && decide (r.steps.length = 0)
def kindB (k n : Int) : Bool := if k = 2 ∨ k = 3 ∨ k = 5 then decide (0 ≤ n) && decide (n < 5) else if k = 4 then n == 0 else if k = 6 then decide (1 ≤ n) && decide (n ≤ 3) else false
def begB (r : Rec) : Bool := r.n == 0 && (r.key != ⟨#[]⟩ && (shortB r.key && (decide (1 ≤ (r.body.size : Int)) && (decide ((r.body.size : Int) ≤ 3000) && stepsB r.steps))))
def recB (r : Rec) : Bool := (decide (1 ≤ r.id) && decide (r.id ≤ 20)) && if r.kind = 1 then begB r else bareB r && kindB r.kind r.n
theorem bare_eq (r : Rec) : decide (r = ⟨r.kind, r.id, r.n, ⟨#[]⟩, ⟨#[]⟩, []⟩) = bareB r := by
  rw [recEq, bareB]
  simp
end Go.Rx
namespace Go.Proofs.Ytbfjcbhpbldlcaa.Rx
open Go.Rx Go.Proofs Go.Proofs.Ytbfjcbhpbldlcaa.RxH

theorem recMay_con (r : Rec) (h : r.Ok) : Con P 41 [encRec r] (Bl (recB r)) [] := by
  have hlen := h.steps.len
  have fail : (decide (1 ≤ r.id) && decide (r.id ≤ 20)) = false → false = recB r := fun h => by rw [recB, h]; rfl
  have go : (decide (1 ≤ r.id) && decide (r.id ≤ 20)) = true → (¬ r.kind = 1 → bareB r = true) → recB r = if r.kind = 1 then begB r else kindB r.kind r.n := fun h1 h2 => by
    rw [recB, h1, Bool.true_and]
    split
    · rfl
    · rename_i hk; rw [h2 hk]; rfl
  refine Con.of T_ok Try.func41 rfl (by kernel_rfl) (by kernel_rfl) (aw_ofC T_ok 1001 (by kernel_rfl) ?_)
  conv => whnf
  refine AW.cut (fun _ : Unit => recB r = if r.kind = 1 then begB r else kindB r.kind r.n) (fun _ => [(1, .lf (.ptr 0 0))]) (fun _ => [.var [.pv (pI r.kind), .pv (pI r.id), .pv (pI r.n), .pv (pS r.key), .pv (pS r.body), .pv (encSteps r.steps)]]) [] (aw_of T_ok (by kernel_rfl) ?_) ?_
  · refine AW.draw T_ok rfl (seqPl 0 20) (by kernel_rfl) (by kernel_rfl) ?_
    conv => whnf
    split <;> rename_i h1 <;> conv => whnf
    · exact finB ⟨fail (by simp at h1; simp; omega)⟩
    split <;> rename_i h2 <;> conv => whnf
    · exact finB ⟨fail (by simp at h2; simp; omega)⟩
    have hid : (decide (1 ≤ r.id) && decide (r.id ≤ 20)) = true := by simp at h1 h2; simp; omega
    split <;> rename_i h3 <;> conv => whnf
    · refine callU (bare_con r) (fun _ => rfl) ?_
      conv => whnf
      refine callS (same_con r _ hlen) rfl ?_
      conv => whnf
      rw [bare_eq]
      split <;> rename_i h4 <;> conv => whnf
      · refine finB ⟨?_⟩
        have hk : ¬ r.kind = 1 := by simpa using h3
        rw [recB, hid, if_neg hk, show bareB r = false by simpa using h4]; rfl
      · exact ⟨(), go hid fun _ => by simpa using h4, ⟨rfl, trivial⟩, ⟨[], rfl⟩, rfl, rfl⟩
    · exact ⟨(), go hid fun hk => absurd (by simpa using h3) hk, ⟨rfl, trivial⟩, ⟨[], rfl⟩, rfl, rfl⟩
  rintro _ hI
  rw [hI]
  clear hI go fail
  refine aw_of T_ok (by kernel_rfl) ?_
  conv => whnf
  split <;> rename_i k1 <;> conv => whnf
  · rw [if_pos (show r.kind = 1 by simpa using k1)]
    split <;> rename_i h1 <;> conv => whnf
    · split <;> rename_i h2 <;> conv => whnf
      · refine callS (short_con r.key) rfl ?_
        conv => whnf
        split <;> rename_i h3 <;> conv => whnf
        · split <;> rename_i h4 <;> conv => whnf
          · split <;> rename_i h5 <;> conv => whnf
            · refine callS (planMay_con r.steps h.steps) rfl ?_
              conv => whnf
              refine finB ⟨?_⟩
              rw [begB, show (r.n == 0) = true from h1, show (r.key != ⟨#[]⟩) = true from h2, show shortB r.key = true from h3, show decide (1 ≤ (r.body.size : Int)) = true from h4, show decide ((r.body.size : Int) ≤ 3000) = true from h5]; rfl
            · refine finB ⟨?_⟩
              rw [begB, show (r.n == 0) = true from h1, show (r.key != ⟨#[]⟩) = true from h2, show shortB r.key = true from h3, show decide (1 ≤ (r.body.size : Int)) = true from h4, show decide ((r.body.size : Int) ≤ 3000) = false from h5]; rfl
          · refine finB ⟨?_⟩
            rw [begB, show (r.n == 0) = true from h1, show (r.key != ⟨#[]⟩) = true from h2, show shortB r.key = true from h3, show decide (1 ≤ (r.body.size : Int)) = false from h4]; rfl
        · refine finB ⟨?_⟩
          rw [begB, show (r.n == 0) = true from h1, show (r.key != ⟨#[]⟩) = true from h2, show shortB r.key = false from h3]; rfl
      · refine finB ⟨?_⟩
        rw [begB, show (r.n == 0) = true from h1, show (r.key != ⟨#[]⟩) = false from h2]; rfl
    · refine finB ⟨?_⟩
      rw [begB, show (r.n == 0) = false from h1]; rfl
  rw [if_neg (show ¬ r.kind = 1 by simpa using k1)]
  clear k1
  repeat' first | refine finB ?_ | (split <;> conv => whnf)
  all_goals (refine ⟨?_⟩; simp_all [kindB] <;> omega)
theorem rec9_con (r : Rec) (h : r.Ok) : Con P 30 [encRec r] (Bl (recB r)) [] := by
  refine Con.of T_ok Try.func30 rfl (by kernel_rfl) (by kernel_rfl) (aw_of T_ok (by kernel_rfl) ?_)
  conv => whnf
  refine callS (between_con r.id 1 20) rfl ?_
  conv => whnf
  split <;> rename_i h1 <;> conv => whnf
  · refine finB ⟨?_⟩
    rw [recB, show (decide (1 ≤ r.id) && decide (r.id ≤ 20)) = false by simp at h1; simp; omega]; rfl
  have hid : (decide (1 ≤ r.id) && decide (r.id ≤ 20)) = true := by simpa using h1
  clear h1
  rw [recB, hid, Bool.true_and]
  split <;> rename_i k1 <;> conv => whnf
  · rw [if_pos (show r.kind = 1 by simpa using k1), begB]
    split <;> rename_i h1 <;> conv => whnf
    · rw [show (r.n == 0) = true from h1, Bool.true_and]
      refine callS (short1_con r.key h.key) rfl ?_
      conv => whnf
      split <;> rename_i h3 <;> conv => whnf
      · rw [show shortB r.key = true from h3, Bool.true_and]
        split <;> rename_i h2 <;> conv => whnf
        · rw [show (r.key != ⟨#[]⟩) = true from h2, Bool.true_and]
          refine callS (between_con (r.body.size : Int) 1 3000) rfl ?_
          conv => whnf
          split <;> rename_i h4 <;> conv => whnf
          · refine callS (steps4_con r.steps h.steps) rfl ?_
            conv => whnf
            refine finB ⟨?_⟩
            rw [← Bool.and_assoc, show (decide (1 ≤ (r.body.size : Int)) && decide ((r.body.size : Int) ≤ 3000)) = true from h4]; rfl
          · refine finB ⟨?_⟩
            rw [← Bool.and_assoc, show (decide (1 ≤ (r.body.size : Int)) && decide ((r.body.size : Int) ≤ 3000)) = false from h4]; rfl
        · refine finB ⟨?_⟩
          rw [show (r.key != ⟨#[]⟩) = false from h2]; rfl
      · refine finB ⟨?_⟩
        rw [show shortB r.key = false from h3, Bool.false_and, Bool.and_false]
    · refine finB ⟨?_⟩
      rw [show (r.n == 0) = false from h1]; rfl
  rw [if_neg (show ¬ r.kind = 1 by simpa using k1)]
  clear k1
  split <;> rename_i h1 <;> conv => whnf
  · refine finB ⟨?_⟩
    rw [bareB, show (r.key == ⟨#[]⟩) = false by simpa using h1]; rfl
  have h1' : (r.key == ⟨#[]⟩) = true := by simpa using h1
  split <;> rename_i h2 <;> conv => whnf
  · refine finB ⟨?_⟩
    rw [bareB, h1', show (r.body == ⟨#[]⟩) = false by simpa using h2]; rfl
  have h2' : (r.body == ⟨#[]⟩) = true := by simpa using h2
  split <;> rename_i h3 <;> conv => whnf
  · refine finB ⟨?_⟩
    rw [bareB, h1', h2', show decide (r.steps.length = 0) = false by simp at h3; simp; intro e; rw [e] at h3; simp at h3]; rfl
  rw [bareB, h1', h2', show decide (r.steps.length = 0) = true by simp at h3; simp; exact h3]
  simp only [Bool.true_and]
  clear h1 h2 h3 h1' h2' hid
  split <;> rename_i k2 <;> conv => whnf
  · have k2' : r.kind = 2 := by simpa using k2
    refine callS (numB_con r.n 4) rfl ?_
    conv => whnf
    refine finB ⟨?_⟩
    rw [kindB, if_pos (show r.kind = 2 ∨ r.kind = 3 ∨ r.kind = 5 by simp [k2'])]
    congr 1
    exact decide_eq_decide.2 (by omega)
  have k2' : ¬ r.kind = 2 := by simpa using k2
  split <;> rename_i k3 <;> conv => whnf
  · have k3' : r.kind = 3 := by simpa using k3
    refine callS (numB_con r.n 4) rfl ?_
    conv => whnf
    refine finB ⟨?_⟩
    rw [kindB, if_pos (show r.kind = 2 ∨ r.kind = 3 ∨ r.kind = 5 by simp [k3'])]
    congr 1
    exact decide_eq_decide.2 (by omega)
  have k3' : ¬ r.kind = 3 := by simpa using k3
  split <;> rename_i k5 <;> conv => whnf
  · have k5' : r.kind = 5 := by simpa using k5
    refine callS (numB_con r.n 4) rfl ?_
    conv => whnf
    refine finB ⟨?_⟩
    rw [kindB, if_pos (show r.kind = 2 ∨ r.kind = 3 ∨ r.kind = 5 by simp [k5'])]
    congr 1
    exact decide_eq_decide.2 (by omega)
  have k5' : ¬ r.kind = 5 := by simpa using k5
  rw [kindB, if_neg (show ¬ (r.kind = 2 ∨ r.kind = 3 ∨ r.kind = 5) by omega)]
  split <;> rename_i k4 <;> conv => whnf
  · refine finB ⟨?_⟩
    rw [if_pos (show r.kind = 4 by simpa using k4)]
  have k4' : ¬ r.kind = 4 := by simpa using k4
  rw [if_neg k4']
  split <;> rename_i k6 <;> conv => whnf
  · refine callS (between_con r.n 1 3) rfl ?_
    conv => whnf
    refine finB ⟨?_⟩
    rw [if_pos (show r.kind = 6 by simpa using k6)]
  · refine finB ⟨?_⟩
    rw [if_neg (show ¬ r.kind = 6 by simpa using k6)]
end Go.Proofs.Ytbfjcbhpbldlcaa.Rx
