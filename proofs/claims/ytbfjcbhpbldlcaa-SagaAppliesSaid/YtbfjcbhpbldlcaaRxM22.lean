/- How much a saga needs; its steps' marks. -/
import Derived.Test.YtbfjcbhpbldlcaaRxM21
set_option linter.unusedVariables false
set_option linter.unusedSimpArgs false
namespace Go.Rx
def nI (s : Saga) : Int := IntKind.i64.wrap (IntKind.i64.wrap (IntKind.i64.wrap (2 * IntKind.i64.wrap ((s.steps.length : Int) - s.done)) + s.steps.length) + 2)
def roomI (s : Saga) : Int :=
  if s.status = 0 then IntKind.i64.wrap (24 * (if s.back then IntKind.i64.wrap (s.left + 1) else if s.out then IntKind.i64.wrap (nI s - 1) else nI s)) else 0
def needP (s : Saga) : Int × Int := if sagaB s then (roomI s, 0) else (0, 1)
abbrev numE (p : Int × Int) : AV := .tup [.lf (.pv (pI p.1)), .lf (.pv (pI p.2))]
theorem finNE {a c : Int} {q : Int × Int} (h : Fin (a, c) q) : ∃ zs, Fa WkA [Go.Rx.I a, Go.Rx.I c] zs ∧ pack zs = some (numE q) := ⟨_, wk_refl _, by rw [← h.out]; rfl⟩
def mUndone : ByteArray := ⟨#[117, 110, 100, 111, 110, 101]⟩
def mCalled : ByteArray := ⟨#[99, 97, 108, 108, 101, 100]⟩
def mDone : ByteArray := ⟨#[100, 111, 110, 101]⟩
def markS (s : Saga) (i : Int) : ByteArray := if mostI s ≤ i then ⟨#[]⟩ else if (s.back && decide (s.left ≤ i)) = true then mUndone else if i = s.done then mCalled else mDone
def marksL (s : Saga) : List ByteArray := (List.range s.steps.length).map fun (i : Nat) => markS s i
theorem marks_go {s : Saga} {k : Nat} : ((List.range (k + 1)).map fun (i : Nat) => markS s i) = ((List.range k).map fun (i : Nat) => markS s i) ++ [markS s k] := by
  rw [List.range_succ, List.map_append]; rfl
end Go.Rx
namespace Go.Proofs.Ytbfjcbhpbldlcaa.Rx
open Go.Rx Go.Proofs Go.Proofs.Ytbfjcbhpbldlcaa.RxH

theorem eqStrings_con (a b : List ByteArray) (ha : a.length * 16 ≤ 140737488351232) : Con P 23 [.lf (.pv (encStrs a)), .lf (.pv (encStrs b))] (Bl (decide (a = b))) [] := by
  refine Con.of T_ok Try.func23 rfl (by kernel_rfl) (by kernel_rfl) (aw_of T_ok (by kernel_rfl) ?_)
  conv => whnf
  split <;> rename_i h <;> conv => whnf
  · refine retB ?_
    symm
    rw [decide_eq_false_iff_not]
    rintro rfl
    simp at h
  · have hl : a.length = b.length := by simp at h; omega
    refine AW.loop (fun k : Nat => k ≤ a.length ∧ ∀ j, j < k → a[j]? = b[j]?) (fun k => [(0, .lf (.pv (encStrs a))), (1, .lf (.pv (encStrs b))), (5, Go.Rx.I k)]) (fun _ => []) (fun k => a.length - k) [] ?_ ?_
    · exact ⟨0, ⟨Nat.zero_le _, fun j hj => absurd hj (Nat.not_lt_zero _)⟩, ⟨rfl, rfl, rfl, trivial⟩, ⟨[], rfl⟩, rfl, rfl⟩
    · rintro k ⟨hk, hpre⟩
      refine aw_of T_ok (by kernel_rfl) ?_
      conv => whnf
      split <;> rename_i hlt <;> conv => whnf
      · have hka : k < a.length := by simp at hlt; omega
        have hkb : k < b.length := by omega
        refine AW.draw T_ok rfl (seqPl 0 9) (by kernel_rfl) (by kernel_rfl) ?_
        conv => whnf
        refine ⟨by omega, [pS a[k]], by simp [hka], ?_⟩
        conv => whnf
        refine ⟨by omega, [pS b[k]], by simp [hkb], ?_⟩
        conv => whnf
        split <;> rename_i hne <;> conv => whnf
        · refine retB ?_
          symm
          rw [decide_eq_false_iff_not]
          rintro rfl
          have h2 : (a[k] != a[k]) = true := hne
          simp at h2
        · have he : a[k] = b[k] := by
            have h2 : (a[k] != b[k]) = false := hne
            simpa using h2
          refine ⟨k + 1, ⟨⟨by omega, fun j hj => ?_⟩, by omega⟩, ⟨rfl, rfl, congrArg Go.Rx.I (wrapI (by omega)), trivial⟩, ⟨[], rfl⟩, rfl, rfl⟩
          by_cases e : j = k
          · subst e; rw [List.getElem?_eq_getElem hka, List.getElem?_eq_getElem hkb, he]
          · exact hpre j (by omega)
      · refine retB ?_
        symm
        rw [decide_eq_true_eq]
        have hka : k = a.length := by simp at hlt; omega
        apply List.ext_getElem?
        intro j
        rcases Nat.lt_or_ge j k with hj | hj
        · exact hpre j hj
        · rw [List.getElem?_eq_none (by omega), List.getElem?_eq_none (by omega)]
theorem check_con (s : Saga) (h : s.Ok) : Con P 15 [encSaga s] (Go.Rx.I (if sagaB s then 0 else 1)) [] := by
  refine Con.of T_ok Try.func15 rfl (by kernel_rfl) (by kernel_rfl) (aw_of T_ok (by kernel_rfl) ?_)
  conv => whnf
  refine callS (sagaMay_con s h) rfl ?_
  conv => whnf
  split <;> rename_i h1 <;> conv => whnf
  · exact finI ⟨by rw [show sagaB s = false by simpa using h1]; rfl⟩
  · exact finI ⟨by rw [show sagaB s = true by simpa using h1]; rfl⟩
theorem room_con (s : Saga) : Con P 40 [encSaga s] (Go.Rx.I (roomI s)) [] := by
  have hm : (s.steps.map Step.enc).length = s.steps.length := List.length_map ..
  refine Con.of T_ok Try.func40 rfl (by kernel_rfl) (by kernel_rfl) (aw_of T_ok (by kernel_rfl) ?_)
  conv => whnf
  rw [roomI, nI, ← hm]
  split <;> rename_i h1 <;> conv => whnf
  · exact finI ⟨by rw [if_neg (show ¬ s.status = 0 by simpa using h1)]⟩
  rw [if_pos (show s.status = 0 by simpa using h1)]
  split <;> rename_i h2 <;> conv => whnf
  · exact finI ⟨by rw [if_pos h2]⟩
  rw [if_neg (show ¬ s.back = true by rw [show s.back = false from h2]; decide)]
  split <;> rename_i h3 <;> conv => whnf
  · exact finI ⟨by rw [if_pos h3]⟩
  · exact finI ⟨by rw [if_neg (show ¬ s.out = true by rw [show s.out = false from h3]; decide)]⟩
theorem need9_con (s : Saga) : Con P 25 [encSaga s] (Go.Rx.I (roomI s)) [] := by
  have hm : (s.steps.map Step.enc).length = s.steps.length := List.length_map ..
  refine Con.of T_ok Try.func25 rfl (by kernel_rfl) (by kernel_rfl) (aw_of T_ok (by kernel_rfl) ?_)
  conv => whnf
  rw [roomI, nI, ← hm]
  split <;> rename_i h1 <;> conv => whnf
  · exact finI ⟨by rw [if_neg (show ¬ s.status = 0 by simpa using h1)]⟩
  rw [if_pos (show s.status = 0 by simpa using h1)]
  split <;> rename_i h2 <;> conv => whnf
  · exact finI ⟨by rw [if_pos h2]⟩
  rw [if_neg (show ¬ s.back = true by rw [show s.back = false from h2]; decide)]
  split <;> rename_i h3 <;> conv => whnf
  · exact finI ⟨by rw [if_pos h3]⟩
  · exact finI ⟨by rw [if_neg (show ¬ s.out = true by rw [show s.out = false from h3]; decide)]⟩
theorem need_con (s : Saga) (h : s.Ok) : Con P 17 [encSaga s] (numE (needP s)) [] := by
  refine Con.of T_ok Try.func17 rfl (by kernel_rfl) (by kernel_rfl) (aw_of T_ok (by kernel_rfl) ?_)
  conv => whnf
  refine callS (sagaMay_con s h) rfl ?_
  conv => whnf
  split <;> rename_i h1 <;> conv => whnf
  · exact finNE ⟨by rw [needP, if_neg (show ¬ sagaB s = true by simpa using h1)]⟩
  rw [needP, if_pos (show sagaB s = true by simpa using h1)]
  refine callS (room_con s) rfl ?_
  conv => whnf
  exact finNE ⟨rfl⟩
theorem mark_con (s : Saga) (i : Int) (h : -9223372036854775808 ≤ s.done + 1 ∧ s.done + 1 ≤ 9223372036854775807) : Con P 46 [encSaga s, Go.Rx.I i] (Sx (markS s i)) [] := by
  refine Con.of T_ok Try.func46 rfl (by kernel_rfl) (by kernel_rfl) (aw_of T_ok (by kernel_rfl) ?_)
  conv => whnf
  refine callS (most_con s h) rfl ?_
  conv => whnf
  split <;> rename_i h1 <;> conv => whnf
  · rw [markS, if_pos (of_decide_eq_true h1)]
    exact finA ⟨rfl⟩
  rw [markS, if_neg (of_decide_eq_false h1)]
  split <;> rename_i h2 <;> conv => whnf
  · split <;> rename_i h3 <;> conv => whnf
    · rw [if_pos (by rw [show s.back = true from h2, show decide (s.left ≤ i) = true from h3]; rfl)]
      exact finA ⟨rfl⟩
    · rw [if_neg (by rw [show decide (s.left ≤ i) = false from h3, Bool.and_false]; decide)]
      split <;> rename_i h4 <;> conv => whnf
      · rw [if_pos (show i = s.done by simpa using h4)]
        exact finA ⟨rfl⟩
      · rw [if_neg (show ¬ i = s.done by simpa using h4)]
        exact finA ⟨rfl⟩
  · rw [if_neg (by rw [show s.back = false from h2, Bool.false_and]; decide)]
    split <;> rename_i h4 <;> conv => whnf
    · rw [if_pos (show i = s.done by simpa using h4)]
      exact finA ⟨rfl⟩
    · rw [if_neg (show ¬ i = s.done by simpa using h4)]
      exact finA ⟨rfl⟩
end Go.Proofs.Ytbfjcbhpbldlcaa.Rx
