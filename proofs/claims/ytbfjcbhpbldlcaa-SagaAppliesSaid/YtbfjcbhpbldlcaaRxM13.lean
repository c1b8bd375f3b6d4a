/- Steps, as the page has them. -/
import Derived.Test.YtbfjcbhpbldlcaaRxM12
set_option linter.unusedVariables false
set_option linter.unusedSimpArgs false
namespace Go.Proofs.Ytbfjcbhpbldlcaa.Rx
open Go.Rx Go.Proofs Go.Proofs.Ytbfjcbhpbldlcaa.RxH

theorem steps4_con (l : List Step) (hl : StepsOk l) : Con P 52 [.lf (.pv (encSteps l))] (Bl (stepsB l)) [] := by
  have hlen := hl.len
  have hm : (l.map Step.enc).length = l.length := List.length_map ..
  refine Con.of T_ok Try.func52 rfl (by kernel_rfl) (by kernel_rfl) (aw_of T_ok (by kernel_rfl) ?_)
  conv => whnf
  refine callS (between_con ((l.map Step.enc).length : Int) 1 5) rfl ?_
  conv => whnf
  split <;> rename_i h0 <;> conv => whnf
  · refine finB ⟨?_⟩
    simp at h0
    rw [stepsB]
    symm
    rw [Bool.and_eq_false_iff]
    right
    rw [Bool.and_eq_false_iff]
    by_cases c : 1 ≤ l.length
    · exact .inr (decide_eq_false (by omega))
    · exact .inl (decide_eq_false c)
  have h0' : 1 ≤ l.length ∧ l.length ≤ 5 := by simp at h0; omega
  refine AW.loop (fun k : Nat => k ≤ l.length ∧ ∀ j, j < k → okAt l j = true) (fun k => [(0, .lf (.pv (encSteps l))), (3, Go.Rx.I k)]) (fun _ => []) (fun k => l.length - k) [] ?_ ?_
  · exact ⟨0, ⟨Nat.zero_le _, fun j hj => absurd hj (Nat.not_lt_zero _)⟩, ⟨rfl, rfl, trivial⟩, ⟨[], rfl⟩, rfl, rfl⟩
  rintro k ⟨hk, hpre⟩
  refine aw_of T_ok (by kernel_rfl) ?_
  conv => whnf
  split <;> rename_i hlt <;> conv => whnf
  · have hkl : k < l.length := by simpa using hlt
    have hok := hl.each _ (List.getElem_mem hkl)
    have hat := okAt_eq hkl
    have no : okAt l k = false → false = stepsB l := fun h => by rw [stepsB, all_no hkl h]; rfl
    refine ⟨by omega, (l[k]).enc, by simp [hkl], ?_⟩
    conv => whnf
    refine callS (name2_con l[k].nm hok.nm) rfl ?_
    conv => whnf
    split <;> rename_i h1 <;> conv => whnf
    · refine finB ⟨no ?_⟩
      rw [hat, okStep, show nameB l[k].nm = false by simpa using h1]; rfl
    have h1' : nameB l[k].nm = true := by simpa using h1
    refine callS (pair4_con l[k].service l[k].op l[k].undo) rfl ?_
    conv => whnf
    split <;> rename_i h4 <;> conv => whnf
    · refine finB ⟨no ?_⟩
      rw [hat, okStep, show pairB l[k].service l[k].op l[k].undo = false by simpa using h4, h1']; rfl
    have h4' : pairB l[k].service l[k].op l[k].undo = true := by simpa using h4
    refine callS (short1_con l[k].who hok.who) rfl ?_
    conv => whnf
    split <;> rename_i h5 <;> conv => whnf
    · refine finB ⟨no ?_⟩
      rw [hat, okStep, show shortB l[k].who = false by simpa using h5, h1', h4']; rfl
    have h5' : shortB l[k].who = true := by simpa using h5
    refine callS (between_con l[k].n (-1073741824) 1073741824) rfl ?_
    conv => whnf
    split <;> rename_i h6 <;> conv => whnf
    · refine finB ⟨no ?_⟩
      rw [hat, okStep, show numB l[k].n = false by simp at h6; rw [numB]; simp; omega, h1', h4', h5']; rfl
    have h6' : numB l[k].n = true := by simpa [numB] using h6
    refine AW.loop (fun j : Nat => j ≤ k ∧ ((l.take k).drop j).any (fun s : Step => s.nm == l[k].nm) = (l.take k).any fun s : Step => s.nm == l[k].nm) (fun j => [(0, .lf (.pv (encSteps l))), (3, Go.Rx.I k), (4, .lf (.ptr 0 0)), (5, Go.Rx.I j)]) (fun _ => [.var ((l[k]).enc.map .pv)]) (fun j => k - j) [] ?_ ?_
    · exact ⟨0, ⟨Nat.zero_le _, rfl⟩, ⟨rfl, rfl, rfl, rfl, trivial⟩, ⟨[], rfl⟩, rfl, rfl⟩
    rintro j ⟨hj, hp2⟩
    refine aw_of T_ok (by kernel_rfl) ?_
    conv => whnf
    split <;> rename_i hlt2 <;> conv => whnf
    · have hjk : j < k := by have := of_decide_eq_true hlt2; omega
      have hjl : j < l.length := by omega
      have hjt : j < (l.take k).length := by rw [List.length_take]; omega
      rw [any_go hjt, List.getElem_take] at hp2
      refine AW.draw T_ok rfl (seqPl 0 8) (by kernel_rfl) (by kernel_rfl) ?_
      conv => whnf
      refine ⟨by omega, (l[j]).enc, by simp [hjl], ?_⟩
      conv => whnf
      split <;> rename_i h7 <;> conv => whnf
      · refine finB ⟨no ?_⟩
        rw [hat, ← hp2, show (l[j].nm == l[k].nm) = true from h7, Bool.true_or, Bool.not_true, Bool.and_false]
      · rw [show (l[j].nm == l[k].nm) = false from h7, Bool.false_or] at hp2
        exact ⟨j + 1, ⟨⟨by omega, hp2⟩, by omega⟩, ⟨rfl, rfl, rfl, congrArg Go.Rx.I (wrapI (by omega)), trivial⟩, ⟨[], rfl⟩, rfl, rfl⟩
    · have hjk : k ≤ j := by have := of_decide_eq_false hlt2; omega
      rw [any_end (by rw [List.length_take]; omega)] at hp2
      refine ⟨k + 1, ⟨⟨by omega, fun i hi => ?_⟩, by omega⟩, ⟨rfl, congrArg Go.Rx.I (wrapI (by omega)), trivial⟩, ⟨_, rfl⟩, rfl, rfl⟩
      by_cases e : i = k
      · subst e; rw [hat, okStep, h1', h4', h5', h6', ← hp2]; rfl
      · exact hpre i (by omega)
  · have hkl : k = l.length := by simp at hlt; omega
    have hall : stepsAll l = true := all_yes fun j hj => hpre j (by omega)
    refine finB ⟨?_⟩
    rw [stepsB, hall, decide_eq_true h0'.1, decide_eq_true h0'.2]; rfl
end Go.Proofs.Ytbfjcbhpbldlcaa.Rx
