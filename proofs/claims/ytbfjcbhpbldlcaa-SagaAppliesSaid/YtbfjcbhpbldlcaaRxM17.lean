/- What a record makes of a saga: the program's answer. -/
import Derived.Test.YtbfjcbhpbldlcaaRxM16
set_option linter.unusedVariables false
set_option linter.unusedSimpArgs false
namespace Go.Rx
def fitsB (s : Saga) (r : Rec) : Bool :=
  if r.kind = 2 then !s.back && (!s.out && (r.n == s.done && decide (s.done < s.steps.length)))
  else if r.kind = 3 then !s.back && (s.out && (r.n == s.done))
  else if r.kind = 4 then !s.back && s.out
  else if r.kind = 5 then s.back && (r.n == IntKind.i64.wrap (s.left - 1))
  else if r.kind = 6 then endsB s r.n else false
def nextS (s : Saga) (r : Rec) : Saga :=
  if r.kind = 2 then ⟨s.id, s.key, s.body, s.steps, s.done, true, s.back, s.left, s.status⟩
  else if r.kind = 3 then ⟨s.id, s.key, s.body, s.steps, IntKind.i64.wrap (s.done + 1), false, s.back, s.left, s.status⟩
  else if r.kind = 4 then ⟨s.id, s.key, s.body, s.steps, s.done, s.out, true, IntKind.i64.wrap (s.done + 1), s.status⟩
  else if r.kind = 5 then ⟨s.id, s.key, s.body, s.steps, s.done, s.out, s.back, r.n, s.status⟩
  else ⟨s.id, s.key, s.body, s.steps, s.done, s.out, s.back, s.left, r.n⟩
def zS : Saga := ⟨0, ⟨#[]⟩, ⟨#[]⟩, [], 0, false, false, 0, 0⟩
def applyS (s : Saga) (r : Rec) : Saga × Int :=
  if (!(sagaB s) || !(recB r)) = true then (zS, 1) else if (r.id != s.id) = true then (zS, 3) else if (r.id == s.id && (s.status == 0 && fitsB s r)) = true then (nextS s r, 0) else (zS, 9)
abbrev tSaga (s : Saga) : TC := .agg [.pv (pI s.id), .pv (pS s.key), .pv (pS s.body), .pv (encSteps s.steps), .pv (pI s.done), .pv (pB s.out), .pv (pB s.back), .pv (pI s.left), .pv (pI s.status)]
abbrev sagaE (p : Saga × Int) : AV := .tup [tSaga p.1, .lf (.pv (pI p.2))]
theorem finZ {e : Int} {q : Saga × Int} (h : Fin (zS, e) q) : ∃ zs, Fa WkA [.agg [.pv (pI 0), .pv (pS ⟨#[]⟩), .pv (pS ⟨#[]⟩), .pv (.sc (.slice none 0 0)), .pv (pI 0), .pv (pB false), .pv (pB false), .pv (pI 0), .pv (pI 0)], Go.Rx.I e] zs ∧ pack zs = some (sagaE q) := by
  refine ⟨[encSaga zS, Go.Rx.I e], ⟨.inr (.inr ⟨_, _, rfl, rfl, wkE _, wkE _, wkE _, wkN 6, wkE _, wkE _, wkE _, wkE _, wkE _, trivial⟩), .inl rfl, trivial⟩, ?_⟩
  rw [← h.out]; rfl
theorem finE {s : Saga} {e : Int} {q : Saga × Int} (h : Fin (s, e) q) : ∃ zs, Fa WkA [encSaga s, Go.Rx.I e] zs ∧ pack zs = some (sagaE q) := by
  refine ⟨_, wk_refl _, ?_⟩
  rw [← h.out]; rfl
end Go.Rx
namespace Go.Proofs.Ytbfjcbhpbldlcaa.Rx
open Go.Rx Go.Proofs Go.Proofs.Ytbfjcbhpbldlcaa.RxH

theorem fits_con (s : Saga) (r : Rec) : Con P 66 [encSaga s, encRec r] (Bl (fitsB s r)) [] := by
  have hm : (s.steps.map Step.enc).length = s.steps.length := List.length_map ..
  refine Con.of T_ok Try.func66 rfl (by kernel_rfl) (by kernel_rfl) (aw_of T_ok (by kernel_rfl) ?_)
  conv => whnf
  split <;> rename_i k2 <;> conv => whnf
  · rw [fitsB, if_pos (show r.kind = 2 by simpa using k2)]
    split <;> rename_i h1 <;> conv => whnf
    · rw [show (!s.back) = true from h1]
      split <;> rename_i h2 <;> conv => whnf
      · rw [show (!s.out) = true from h2]
        split <;> rename_i h3 <;> conv => whnf
        · rw [show (r.n == s.done) = true from h3]
          exact finB ⟨by simp only [Bool.true_and]; exact decide_eq_decide.2 (by omega)⟩
        · exact finB ⟨by rw [show (r.n == s.done) = false from h3]; rfl⟩
      · exact finB ⟨by rw [show (!s.out) = false from h2]; rfl⟩
    · exact finB ⟨by rw [show (!s.back) = false from h1]; rfl⟩
  have k2' : ¬ r.kind = 2 := by simpa using k2
  rw [fitsB, if_neg k2']
  split <;> rename_i k3 <;> conv => whnf
  · rw [if_pos (show r.kind = 3 by simpa using k3)]
    split <;> rename_i h1 <;> conv => whnf
    · rw [show (!s.back) = true from h1]
      split <;> rename_i h2 <;> conv => whnf
      · exact finB ⟨by rw [show s.out = true from h2]; rfl⟩
      · exact finB ⟨by rw [show s.out = false from h2]; rfl⟩
    · exact finB ⟨by rw [show (!s.back) = false from h1]; rfl⟩
  rw [if_neg (show ¬ r.kind = 3 by simpa using k3)]
  split <;> rename_i k4 <;> conv => whnf
  · rw [if_pos (show r.kind = 4 by simpa using k4)]
    split <;> rename_i h1 <;> conv => whnf
    · exact finB ⟨by rw [show (!s.back) = true from h1]; rfl⟩
    · exact finB ⟨by rw [show (!s.back) = false from h1]; rfl⟩
  rw [if_neg (show ¬ r.kind = 4 by simpa using k4)]
  split <;> rename_i k5 <;> conv => whnf
  · rw [if_pos (show r.kind = 5 by simpa using k5)]
    split <;> rename_i h1 <;> conv => whnf
    · exact finB ⟨by rw [show s.back = true from h1]; rfl⟩
    · exact finB ⟨by rw [show s.back = false from h1]; rfl⟩
  rw [if_neg (show ¬ r.kind = 5 by simpa using k5)]
  split <;> rename_i k6 <;> conv => whnf
  · rw [if_pos (show r.kind = 6 by simpa using k6)]
    refine callS (ended_con s r.n) rfl ?_
    conv => whnf
    exact finB ⟨rfl⟩
  · rw [if_neg (show ¬ r.kind = 6 by simpa using k6)]
    exact finB ⟨rfl⟩
theorem fitsTop_con (s : Saga) (r : Rec) : Con P 42 [encSaga s, encRec r] (Bl (r.id == s.id && (s.status == 0 && fitsB s r))) [] := by
  refine Con.of T_ok Try.func42 rfl (by kernel_rfl) (by kernel_rfl) (aw_of T_ok (by kernel_rfl) ?_)
  conv => whnf
  split <;> rename_i h1 <;> conv => whnf
  · rw [show (r.id == s.id) = true from h1]
    split <;> rename_i h2 <;> conv => whnf
    · rw [show (s.status == 0) = true from h2]
      refine callS (fits_con s r) rfl ?_
      conv => whnf
      exact finB ⟨rfl⟩
    · exact finB ⟨by rw [show (s.status == 0) = false from h2]; rfl⟩
  · exact finB ⟨by rw [show (r.id == s.id) = false from h1]; rfl⟩
theorem clone_con (l : List Step) (hl : l.length * 80 ≤ 140737488351232) : Con P 55 [.lf (.pv (encSteps l))] (.lf (.pv (encSteps l))) [] := by
  have hm : (l.map Step.enc).length = l.length := List.length_map ..
  refine Con.of T_ok Try.func55 rfl (by kernel_rfl) (by kernel_rfl) (aw_ofC T_ok 2001 (by kernel_rfl) ?_)
  conv => whnf
  refine AW.seq (AW.nilTest T_ok rfl rfl (by decide) ?_ ?_) fun sl bk h => aw_of T_ok (by kernel_rfl) h
  · intro h0
    conv => whnf
    refine ⟨[.lf (.pv (.sl 6 []))], ⟨.inr (.inl ⟨_, _, rfl, rfl, wkN 6⟩), trivial⟩, ?_⟩
    rw [show l = [] by simpa using h0]; rfl
  · conv => whnf
    refine ⟨_, .inl rfl, ?_⟩
    conv => whnf
    refine ⟨rfl, by show (0 + (l.map Step.enc).length) * 80 ≤ _; omega, ?_⟩
    conv => whnf
    refine ⟨by simp [chunk], ?_⟩
    exact finA ⟨rfl⟩
theorem own_con (s : Saga) (hl : s.steps.length * 80 ≤ 140737488351232) : Con P 67 [encSaga s] (encSaga s) [] := by
  refine Con.of T_ok Try.func67 rfl (by kernel_rfl) (by kernel_rfl) (aw_of T_ok (by kernel_rfl) ?_)
  conv => whnf
  refine callU (clone_con _ hl) (fun _ => rfl) ?_
  conv => whnf
  exact finA ⟨rfl⟩
theorem next_con (s : Saga) (r : Rec) (hl : s.steps.length * 80 ≤ 140737488351232) : Con P 43 [encSaga s, encRec r] (encSaga (nextS s r)) [] := by
  refine Con.of T_ok Try.func43 rfl (by kernel_rfl) (by kernel_rfl) (aw_of T_ok (by kernel_rfl) ?_)
  conv => whnf
  refine callU (own_con s hl) (fun _ => rfl) ?_
  conv => whnf
  split <;> rename_i k2 <;> conv => whnf
  · rw [nextS, if_pos (show r.kind = 2 by simpa using k2)]
    exact finA ⟨rfl⟩
  rw [nextS, if_neg (show ¬ r.kind = 2 by simpa using k2)]
  split <;> rename_i k3 <;> conv => whnf
  · rw [if_pos (show r.kind = 3 by simpa using k3)]
    exact finA ⟨rfl⟩
  rw [if_neg (show ¬ r.kind = 3 by simpa using k3)]
  split <;> rename_i k4 <;> conv => whnf
  · rw [if_pos (show r.kind = 4 by simpa using k4)]
    exact finA ⟨rfl⟩
  rw [if_neg (show ¬ r.kind = 4 by simpa using k4)]
  split <;> rename_i k5 <;> conv => whnf
  · rw [if_pos (show r.kind = 5 by simpa using k5)]
    exact finA ⟨rfl⟩
  rw [if_neg (show ¬ r.kind = 5 by simpa using k5)]
  exact finA ⟨rfl⟩
theorem apply_con (s : Saga) (r : Rec) (hs : s.Ok) (hr : r.Ok) : Con P 18 [encSaga s, encRec r] (sagaE (applyS s r)) [] := by
  have hlen := hs.steps.len
  refine Con.of T_ok Try.func18 rfl (by kernel_rfl) (by kernel_rfl) (aw_ofC T_ok 0 (by kernel_rfl) ?_)
  conv => whnf
  refine AW.cut (fun _ : Unit => applyS s r = (nextS s r, 0)) (fun _ => [(2, .lf (.ptr 0 0)), (3, .lf (.ptr 1 0)), (4, .lf (.ptr 2 0))]) (fun _ => [.var [.pv (pI s.id), .pv (pS s.key), .pv (pS s.body), .pv (encSteps s.steps), .pv (pI s.done), .pv (pB s.out), .pv (pB s.back), .pv (pI s.left), .pv (pI s.status)],
      .var [.pv (pI r.kind), .pv (pI r.id), .pv (pI r.n), .pv (pS r.key), .pv (pS r.body), .pv (encSteps r.steps)],
      .var [.pv (pI 0), .pv (pS ⟨#[]⟩), .pv (pS ⟨#[]⟩), .pv (.sc (.slice none 0 0)), .pv (pI 0), .pv (pB false), .pv (pB false), .pv (pI 0), .pv (pI 0)]]) [] (aw_of T_ok (by kernel_rfl) ?_) ?_
  · conv => whnf
    have rest : (!(sagaB s) || !(recB r)) = false → ∀ Q : Prop, Q → Q := fun _ _ h => h
    refine callS (sagaMay_con s hs) rfl ?_
    conv => whnf
    split <;> rename_i h1 <;> conv => whnf
    · exact finZ ⟨by rw [applyS, if_pos (by rw [show (!(sagaB s)) = true from h1]; rfl)]⟩
    refine callS (recMay_con r hr) rfl ?_
    conv => whnf
    split <;> rename_i h2 <;> conv => whnf
    · exact finZ ⟨by rw [applyS, if_pos (by rw [show (!(recB r)) = true from h2, Bool.or_true])]⟩
    rw [applyS, if_neg (show ¬ (!(sagaB s) || !(recB r)) = true by rw [show (!(sagaB s)) = false from h1, show (!(recB r)) = false from h2]; decide)]
    split <;> rename_i h3 <;> conv => whnf
    · exact finZ ⟨by rw [if_pos (show (r.id != s.id) = true from h3)]⟩
    rw [if_neg (show ¬ (r.id != s.id) = true by rw [show (r.id != s.id) = false from h3]; decide)]
    refine callS (fitsTop_con s r) rfl ?_
    conv => whnf
    split <;> rename_i h4 <;> conv => whnf
    · have h4' : (r.id == s.id && (s.status == 0 && fitsB s r)) = false := by
        cases hx : (r.id == s.id && (s.status == 0 && fitsB s r)) with
        | false => rfl
        | true => rw [hx] at h4; cases h4
      exact finZ ⟨by rw [if_neg (by rw [h4']; decide)]⟩
    · exact ⟨(), by rw [if_pos (by simpa using h4)], ⟨rfl, rfl, rfl, trivial⟩, ⟨[], rfl⟩, rfl, rfl⟩
  rintro _ hI
  rw [hI]
  refine aw_of T_ok (by kernel_rfl) ?_
  conv => whnf
  refine callU (next_con s r hlen) (fun _ => rfl) ?_
  conv => whnf
  exact finE ⟨rfl⟩
end Go.Proofs.Ytbfjcbhpbldlcaa.Rx
