/- The marks of all steps: the page's answer. -/
import Derived.Test.YtbfjcbhpbldlcaaRxM23
set_option linter.unusedVariables false
set_option linter.unusedSimpArgs false
namespace Go.Proofs.Ytbfjcbhpbldlcaa.Rx
open Go.Rx Go.Proofs Go.Proofs.Ytbfjcbhpbldlcaa.RxH

theorem marks9_con (s : Saga) (h : s.Ok) : Con P 24 [encSaga s] (.lf (.pv (encStrs (marksL s)))) [] := by
  have hlen := h.steps.len
  have hm : (s.steps.map Step.enc).length = s.steps.length := List.length_map ..
  refine Con.of T_ok Try.func24 rfl (by kernel_rfl) (by kernel_rfl) (aw_of T_ok (by kernel_rfl) ?_)
  conv => whnf
  refine AW.loop (fun k : Nat => k ≤ s.steps.length) (fun k => [(1, .lf (.ptr 0 0)), (3, .lf (.own 1 k)), (4, Go.Rx.I k)]) (fun k => [sagaV s, .arr 9 1 (((List.range k).map fun (i : Nat) => markS s i).map fun x => [pS x])]) (fun k => s.steps.length - k) [.slot 3 9 1] ?_ ?_
  · exact ⟨rfl, 0, Nat.zero_le _, ⟨rfl, rfl, rfl, trivial⟩, ⟨[], rfl⟩, rfl, rfl⟩
  rintro k hk
  refine aw_ofC T_ok 1006 (by kernel_rfl) ?_
  conv => whnf
  split <;> rename_i hlt <;> conv => whnf
  · have hkl : k < s.steps.length := by have := of_decide_eq_true hlt; omega
    refine AW.cut (fun _ : Unit => True) (fun _ => [(1, .lf (.ptr 0 0)), (3, .lf (.own 1 k)), (4, Go.Rx.I k), (5, Sx (if (k : Int) < s.done then mDone else ⟨#[]⟩))]) (fun _ => [sagaV s, .arr 9 1 (((List.range k).map fun (i : Nat) => markS s i).map fun x => [pS x])]) [] (aw_of T_ok (by kernel_rfl) ?_) ?_
    · conv => whnf
      split <;> rename_i h1 <;> conv => whnf
      · exact ⟨(), trivial, ⟨rfl, rfl, rfl, congrArg Sx (by rw [if_pos (of_decide_eq_true h1)]; rfl), trivial⟩, ⟨[], rfl⟩, rfl, rfl⟩
      · exact ⟨(), trivial, ⟨rfl, rfl, rfl, congrArg Sx (by rw [if_neg (of_decide_eq_false h1)]), trivial⟩, ⟨[], rfl⟩, rfl, rfl⟩
    rintro _ _
    refine aw_ofC T_ok 1008 (by kernel_rfl) ?_
    conv => whnf
    obtain ⟨b, hb⟩ : ∃ b, b = if (k : Int) = s.done ∧ s.out = true then mCalled else if (k : Int) < s.done then mDone else ⟨#[]⟩ := ⟨_, rfl⟩
    refine AW.cut (fun _ : Unit => True) (fun _ => [(1, .lf (.ptr 0 0)), (3, .lf (.own 1 k)), (4, Go.Rx.I k), (5, Sx b)]) (fun _ => [sagaV s, .arr 9 1 (((List.range k).map fun (i : Nat) => markS s i).map fun x => [pS x])]) [] (aw_of T_ok (by kernel_rfl) ?_) ?_
    · conv => whnf
      split <;> rename_i h1 <;> conv => whnf
      · have h1' : (k : Int) = s.done := eq_of_beq h1
        split <;> rename_i h2 <;> conv => whnf
        · exact ⟨(), trivial, ⟨rfl, rfl, rfl, congrArg Sx (by rw [hb, if_pos ⟨h1', h2⟩]; rfl), trivial⟩, ⟨[], rfl⟩, rfl, rfl⟩
        · exact ⟨(), trivial, ⟨rfl, rfl, rfl, congrArg Sx (by rw [hb, if_neg (show ¬ ((k : Int) = s.done ∧ s.out = true) from fun e => by rw [show s.out = false from h2] at e; cases e.2)]), trivial⟩, ⟨[], rfl⟩, rfl, rfl⟩
      · have h1' : ¬ (k : Int) = s.done := fun e => by rw [show ((k : Int) == s.done) = true from beq_iff_eq.2 e] at h1; cases h1
        exact ⟨(), trivial, ⟨rfl, rfl, rfl, congrArg Sx (by rw [hb, if_neg (show ¬ ((k : Int) = s.done ∧ s.out = true) from fun e => h1' e.1)]), trivial⟩, ⟨[], rfl⟩, rfl, rfl⟩
    rintro _ _
    refine aw_ofC T_ok 1010 (by kernel_rfl) ?_
    conv => whnf
    refine AW.cut (fun _ : Unit => True) (fun _ => [(1, .lf (.ptr 0 0)), (3, .lf (.own 1 k)), (4, Go.Rx.I k), (5, Sx (markS s k))]) (fun _ => [sagaV s, .arr 9 1 (((List.range k).map fun (i : Nat) => markS s i).map fun x => [pS x])]) [] (aw_of T_ok (by kernel_rfl) ?_) ?_
    · conv => whnf
      split <;> rename_i h1 <;> conv => whnf
      · split <;> rename_i h2 <;> conv => whnf
        · split <;> rename_i h3 <;> conv => whnf
          · exact ⟨(), trivial, ⟨rfl, rfl, rfl, congrArg Sx (mark_same b _ hb (by rw [if_pos ⟨h1, of_decide_eq_true h2, by simpa using h3⟩]; rfl)), trivial⟩, ⟨[], rfl⟩, rfl, rfl⟩
          · exact ⟨(), trivial, ⟨rfl, rfl, rfl, congrArg Sx (mark_same b b hb (by rw [if_neg (fun e => e.2.2 (by simpa using h3))])), trivial⟩, ⟨[], rfl⟩, rfl, rfl⟩
        · exact ⟨(), trivial, ⟨rfl, rfl, rfl, congrArg Sx (mark_same b b hb (by rw [if_neg (fun e => of_decide_eq_false h2 e.2.1)])), trivial⟩, ⟨[], rfl⟩, rfl, rfl⟩
      · exact ⟨(), trivial, ⟨rfl, rfl, rfl, congrArg Sx (mark_same b b hb (by rw [if_neg (fun e => by rw [show s.back = false from h1] at e; cases e.1)])), trivial⟩, ⟨[], rfl⟩, rfl, rfl⟩
    rintro _ _
    refine aw_of T_ok (by kernel_rfl) ?_
    conv => whnf
    refine ⟨rfl, _, .inl rfl, ?_⟩
    conv => whnf
    refine ⟨by simp, by show (k + 1) * 16 ≤ _; omega, ?_⟩
    conv => whnf
    refine ⟨k + 1, ⟨by omega, by omega⟩, ⟨rfl, rfl, congrArg Go.Rx.I (wrapI (by omega)), trivial⟩, ⟨[?r], ?e⟩, rfl, rfl⟩
    case e =>
      show _ = [sagaV s, Blk.arr _ _ (((List.range (k + 1)).map fun (i : Nat) => markS s i).map fun x => [pS x])] ++ [_]
      rw [marks_go, ← markStr]; rfl
  · have hkl : k = s.steps.length := by have := of_decide_eq_false hlt; omega
    subst hkl
    refine ⟨by simp, ?_⟩
    exact finA ⟨rfl⟩
end Go.Proofs.Ytbfjcbhpbldlcaa.Rx
