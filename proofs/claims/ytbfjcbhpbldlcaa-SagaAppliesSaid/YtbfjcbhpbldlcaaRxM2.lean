/- Sagas and records: the same, copied, begun, ended. -/
import Derived.Test.YtbfjcbhpbldlcaaRxM1
set_option linter.unusedVariables false
set_option linter.unusedSimpArgs false
namespace Go.Proofs.Ytbfjcbhpbldlcaa.Rx
open Go.Rx Go.Proofs

theorem eqSlices_con (a b : List Step) (ha : a.length * 80 ≤ 140737488351232) : Con P 71 [.lf (.pv (encSteps a)), .lf (.pv (encSteps b))] (Bl (decide (a = b))) [] := by
  refine Con.of T_ok Try.func71 rfl (by kernel_rfl) (by kernel_rfl) (aw_of T_ok (by kernel_rfl) ?_)
  conv => whnf
  split <;> rename_i h <;> conv => whnf
  · refine retB ?_
    symm
    rw [decide_eq_false_iff_not]
    rintro rfl
    simp at h
  · have hl : a.length = b.length := by simp at h; omega
    refine AW.loop (fun k : Nat => k ≤ a.length ∧ ∀ j, j < k → a[j]? = b[j]?) (fun k => [(0, .lf (.pv (encSteps a))), (1, .lf (.pv (encSteps b))), (12, Go.Rx.I a.length), (13, Go.Rx.I k)]) (fun _ => []) (fun k => a.length - k) [] ?_ ?_
    · exact ⟨0, ⟨Nat.zero_le _, fun j hj => absurd hj (Nat.not_lt_zero _)⟩, ⟨rfl, rfl, congrArg (fun n : Nat => Go.Rx.I (n : Int)) (List.length_map ..), rfl, trivial⟩, ⟨[], rfl⟩, rfl, rfl⟩
    · rintro k ⟨hk, hpre⟩
      refine aw_of T_ok (by kernel_rfl) ?_
      conv => whnf
      split <;> rename_i hlt <;> conv => whnf
      · have hka : k < a.length := by simp at hlt; omega
        have hkb : k < b.length := by omega
        refine AW.draw T_ok rfl (seqPl 0 9) (by kernel_rfl) (by kernel_rfl) ?_
        conv => whnf
        refine ⟨by omega, (a[k]).enc, by simp [hka], ?_⟩
        conv => whnf
        refine ⟨by omega, (b[k]).enc, by simp [hkb], ?_⟩
        conv => whnf
        split <;> rename_i hne <;> conv => whnf
        · refine retB ?_
          symm
          rw [decide_eq_false_iff_not]
          rintro rfl
          have h2 : (!(decide (a[k] = a[k]))) = true := by rw [← stepEq]; exact hne
          simp at h2
        · have he : a[k] = b[k] := by
            have h2 : (!(decide (a[k] = b[k]))) = false := by rw [← stepEq]; exact hne
            simpa using h2
          refine ⟨k + 1, ⟨⟨by omega, fun j hj => ?_⟩, by omega⟩, ⟨rfl, rfl, rfl, congrArg Go.Rx.I (wrapI (by omega)), trivial⟩, ⟨[], rfl⟩, rfl, rfl⟩
          by_cases e : j = k
          · subst e; rw [List.getElem?_eq_getElem hka, List.getElem?_eq_getElem hkb, he]
          · exact hpre j (by omega)
      · refine retB ?_
        symm
        rw [decide_eq_true_eq]
        have hka : k = a.length := by simp at hlt; omega
        apply List.ext_getElem?
        intro j
        rcases Nat.lt_or_ge j k with hj | hj
        · exact hpre j hj
        · rw [List.getElem?_eq_none (by omega), List.getElem?_eq_none (by omega)]

theorem eqSaga_con (a b : Saga) (ha : a.steps.length * 80 ≤ 140737488351232) : Con P 31 [encSaga a, encSaga b] (Bl (decide (a = b))) [] := by
  refine Con.of T_ok Try.func31 rfl (by kernel_rfl) (by kernel_rfl) (aw_of T_ok (by kernel_rfl) ?_)
  conv => whnf
  repeat' first | refine finB ?_ | (refine callS (eqSteps_con _ _ ha) rfl ?_; conv => whnf) | (split <;> conv => whnf)
  all_goals (refine ⟨?_⟩; rw [sagaEq]; simp [*])
theorem eqRec_con (a b : Rec) (ha : a.steps.length * 80 ≤ 140737488351232) : Con P 32 [encRec a, encRec b] (Bl (decide (a = b))) [] := by
  refine Con.of T_ok Try.func32 rfl (by kernel_rfl) (by kernel_rfl) (aw_of T_ok (by kernel_rfl) ?_)
  conv => whnf
  repeat' first | refine finB ?_ | (refine callS (eqSteps_con _ _ ha) rfl ?_; conv => whnf) | (split <;> conv => whnf)
  all_goals (refine ⟨?_⟩; rw [recEq]; simp [*])
theorem same_con (a b : Rec) (ha : a.steps.length * 80 ≤ 140737488351232) : Con P 62 [encRec a, encRec b] (Bl (decide (a = b))) [] := by
  refine Con.of T_ok Try.func62 rfl (by kernel_rfl) (by kernel_rfl) (aw_of T_ok (by kernel_rfl) ?_)
  conv => whnf
  repeat' first | refine finB ?_ | (refine callS (eqSlices_con _ _ ha) rfl ?_; conv => whnf) | (split <;> conv => whnf)
  all_goals (refine ⟨?_⟩; rw [recEq]; simp [*])
theorem copySaga_con (s : Saga) (hl : s.steps.length * 80 ≤ 140737488351232) : Con P 27 [encSaga s] (encSaga s) [] := by
  refine Con.of T_ok Try.func27 rfl (by kernel_rfl) (by kernel_rfl) (aw_of T_ok (by kernel_rfl) ?_)
  conv => whnf
  refine callU (copySteps_con _ hl) (fun _ => rfl) ?_
  conv => whnf
  exact finA ⟨rfl⟩
theorem begin_con (s : Saga) : Con P 59 [encSaga s] (encRec ⟨1, s.id, 0, s.key, s.body, s.steps⟩) [] := by
  refine Con.of T_ok Try.func59 rfl (by kernel_rfl) (by kernel_rfl) (aw_of T_ok (by kernel_rfl) ?_)
  conv => whnf
  exact finA ⟨rfl⟩
theorem bare_con (r : Rec) : Con P 63 [encRec r] (encRec ⟨r.kind, r.id, r.n, ⟨#[]⟩, ⟨#[]⟩, []⟩) [] := by
  refine Con.of T_ok Try.func63 rfl (by kernel_rfl) (by kernel_rfl) (aw_of T_ok (by kernel_rfl) ?_)
  conv => whnf
  refine ⟨[encRec ⟨r.kind, r.id, r.n, ⟨#[]⟩, ⟨#[]⟩, []⟩], ⟨.inr (.inr ⟨_, _, rfl, rfl, wkE _, wkE _, wkE _, wkE _, wkE _, wkN 6, trivial⟩), trivial⟩, rfl⟩
theorem most_con (s : Saga) (h : -9223372036854775808 ≤ s.done + 1 ∧ s.done + 1 ≤ 9223372036854775807) : Con P 60 [encSaga s] (Go.Rx.I (mostI s)) [] := by
  refine Con.of T_ok Try.func60 rfl (by kernel_rfl) (by kernel_rfl) (aw_of T_ok (by kernel_rfl) ?_)
  conv => whnf
  repeat' first | refine finI ?_ | (split <;> conv => whnf)
  all_goals (refine ⟨?_⟩; simp [mostI, wrapI h, *])
theorem ended_con (s : Saga) (st : Int) : Con P 61 [encSaga s, Go.Rx.I st] (Bl (endsB s st)) [] := by
  refine Con.of T_ok Try.func61 rfl (by kernel_rfl) (by kernel_rfl) (aw_of T_ok (by kernel_rfl) ?_)
  conv => whnf
  repeat' first | refine finB ?_ | (split <;> conv => whnf)
  all_goals (refine ⟨?_⟩; simp_all [endsB])
theorem ends_con (s : Saga) (st : Int) (h : 1 ≤ st ∧ st ≤ 3) : Con P 47 [encSaga s, Go.Rx.I st] (Bl (endsB s st)) [] := by
  refine Con.of T_ok Try.func47 rfl (by kernel_rfl) (by kernel_rfl) (aw_of T_ok (by kernel_rfl) ?_)
  conv => whnf
  repeat' first | refine finB ?_ | (split <;> conv => whnf)
  all_goals (refine ⟨?_⟩; try simp_all [endsB])
  all_goals (have e3 : st = 3 := by omega)
  all_goals (subst e3; simp_all)
end Go.Proofs.Ytbfjcbhpbldlcaa.Rx
