/- What the small functions return. -/
import Derived.Test.YtbfjcbhpbldlcaaRxData
import Derived.Test.YtbfjcbhpbldlcaaRxT
set_option linter.unusedVariables false
set_option linter.unusedSimpArgs false
namespace Go.Proofs.Ytbfjcbhpbldlcaa.Rx
open Go.Rx Go.Proofs

theorem num_con (n : Int) (h : -9223372036854775808 ≤ n ∧ n ≤ 9223372036854775807) : Con P 14 [I n] (I n) [] := by
  refine Con.of T_ok Try.func14 rfl (by kernel_rfl) (by kernel_rfl) (aw_of T_ok (by kernel_rfl) ?_)
  conv => whnf
  exact retI rfl
theorem numB_con (n m : Int) : Con P 49 [I n, I m] (Bl (decide (0 ≤ n) && decide (n ≤ m))) [] := by
  refine Con.of T_ok Try.func49 rfl (by kernel_rfl) (by kernel_rfl) (aw_of T_ok (by kernel_rfl) ?_)
  conv => whnf
  split <;> rename_i h <;> conv => whnf
  · refine retB ?_; rw [show decide (0 ≤ n) = true from h]; rfl
  · refine retB ?_; rw [show decide (0 ≤ n) = false from h]; rfl
theorem between_con (n lo hi : Int) : Con P 50 [I n, I lo, I hi] (Bl (decide (lo ≤ n) && decide (n ≤ hi))) [] := by
  refine Con.of T_ok Try.func50 rfl (by kernel_rfl) (by kernel_rfl) (aw_of T_ok (by kernel_rfl) ?_)
  conv => whnf
  split <;> rename_i h <;> conv => whnf
  · refine retB ?_; rw [show decide (lo ≤ n) = true from h]; rfl
  · refine retB ?_; rw [show decide (lo ≤ n) = false from h]; rfl

theorem eqSteps_con (a b : List Step) (ha : a.length * 80 ≤ 140737488351232) : Con P 53 [.lf (.pv (encSteps a)), .lf (.pv (encSteps b))] (Bl (decide (a = b))) [] := by
  refine Con.of T_ok Try.func53 rfl (by kernel_rfl) (by kernel_rfl) (aw_of T_ok (by kernel_rfl) ?_)
  conv => whnf
  split <;> rename_i h <;> conv => whnf
  · refine retB ?_
    symm
    rw [decide_eq_false_iff_not]
    rintro rfl
    simp at h
  · have hl : a.length = b.length := by simp at h; omega
    refine AW.loop (fun k : Nat => k ≤ a.length ∧ ∀ j, j < k → a[j]? = b[j]?) (fun k => [(0, .lf (.pv (encSteps a))), (1, .lf (.pv (encSteps b))), (5, Go.Rx.I k)]) (fun _ => []) (fun k => a.length - k) [] ?_ ?_
    · exact ⟨0, ⟨Nat.zero_le _, fun j hj => absurd hj (Nat.not_lt_zero _)⟩, ⟨rfl, rfl, rfl, trivial⟩, ⟨[], rfl⟩, rfl, rfl⟩
    · rintro k ⟨hk, hpre⟩
      refine aw_of T_ok (by kernel_rfl) ?_
      conv => whnf
      split <;> rename_i hlt <;> conv => whnf
      · have hka : k < a.length := by simp at hlt; omega
        have hkb : k < b.length := by omega
        refine AW.draw T_ok rfl (seqPl 0 9) (by kernel_rfl) (by kernel_rfl) ?_
        conv => whnf
        refine ⟨by omega, (a[k]).enc, by simp [hka], ?_⟩
        conv => whnf
        refine ⟨by omega, (b[k]).enc, by simp [hkb], ?_⟩
        conv => whnf
        split <;> rename_i hne <;> conv => whnf
        · refine retB ?_
          symm
          rw [decide_eq_false_iff_not]
          rintro rfl
          have h2 : (!(decide (a[k] = a[k]))) = true := by rw [← stepEq]; exact hne
          simp at h2
        · have he : a[k] = b[k] := by
            have h2 : (!(decide (a[k] = b[k]))) = false := by rw [← stepEq]; exact hne
            simpa using h2
          refine ⟨k + 1, ⟨⟨by omega, fun j hj => ?_⟩, by omega⟩, ⟨rfl, rfl, ?_, trivial⟩, ⟨[], rfl⟩, rfl, rfl⟩
          · by_cases e : j = k
            · subst e; rw [List.getElem?_eq_getElem hka, List.getElem?_eq_getElem hkb, he]
            · exact hpre j (by omega)
          · exact congrArg Go.Rx.I (wrapI (by omega))
      · refine retB ?_
        symm
        rw [decide_eq_true_eq]
        have hka : k = a.length := by simp at hlt; omega
        apply List.ext_getElem?
        intro j
        rcases Nat.lt_or_ge j k with hj | hj
        · exact hpre j hj
        · rw [List.getElem?_eq_none (by omega), List.getElem?_eq_none (by omega)]

theorem copySteps_con (l : List Step) (hl : l.length * 80 ≤ 140737488351232) : Con P 48 [.lf (.pv (encSteps l))] (.lf (.pv (encSteps l))) [] := by
  refine Con.of T_ok Try.func48 rfl (by kernel_rfl) (by kernel_rfl) (aw_of T_ok (by kernel_rfl) ?_)
  conv => whnf
  refine AW.loop (fun k : Nat => k ≤ l.length) (fun k => [(0, .lf (.pv (encSteps l))), (3, .lf (.own 0 k)), (4, Go.Rx.I k)]) (fun k => [.arr 74 6 ((l.take k).map Step.enc)]) (fun k => l.length - k) [.slot 3 74 6] ?_ ?_
  · exact ⟨rfl, 0, Nat.zero_le _, ⟨rfl, rfl, rfl, trivial⟩, ⟨[], rfl⟩, rfl, rfl⟩
  · intro k hk
    refine aw_of T_ok (by kernel_rfl) ?_
    conv => whnf
    split <;> rename_i hlt <;> conv => whnf
    · have hkl : k < l.length := by simp at hlt; omega
      refine ⟨by omega, (l[k]).enc, by simp [hkl], ?_⟩
      conv => whnf
      refine ⟨rfl, _, .inl rfl, ?_⟩
      conv => whnf
      refine ⟨by simp; omega, by show (k + 1) * 80 ≤ _; omega, ?_⟩
      conv => whnf
      refine ⟨k + 1, ⟨by omega, by omega⟩, ⟨rfl, rfl, congrArg Go.Rx.I (wrapI (by omega)), trivial⟩, ⟨[?r], ?e⟩, rfl, rfl⟩
      case e => show _ = [Blk.arr _ _ (List.map Step.enc (l.take (k + 1)))] ++ [_]; rw [take_succ' hkl, List.map_append]; rfl
    · have hkl : k = l.length := by simp at hlt; omega
      subst hkl
      refine ⟨by simp, ?_⟩
      refine retA ?_
      show some (AV.lf (.pv (.sl 6 _))) = _
      rw [List.take_length]
end Go.Proofs.Ytbfjcbhpbldlcaa.Rx
