/- What a record makes of a saga: the page's answer. -/
import Derived.Test.YtbfjcbhpbldlcaaRxM17
set_option linter.unusedVariables false
set_option linter.unusedSimpArgs false
namespace Go.Rx
/-- What the page's own answer holds behind its switch: whether it may be, and the saga. -/
structure Turned (s : Saga) (r : Rec) (q : Bool × Saga) : Prop where
  ok : q.1 = (s.status == 0 && fitsB s r)
  to : q.1 = true → q.2 = nextS s r
theorem turned_no {s x : Saga} {r : Rec} (h : (s.status == 0 && fitsB s r) = false) : Turned s r (false, x) := ⟨h.symm, fun e => by cases e⟩
theorem turned_of {s x : Saga} {r : Rec} {b : Bool} (h : b = (s.status == 0 && fitsB s r)) (k : (s.status == 0 && fitsB s r) = true → x = nextS s r) : Turned s r (b, x) := ⟨h, fun e => k (h ▸ e)⟩
theorem rec_end {r : Rec} (h : recB r = true) (k : r.kind = 6) : 1 ≤ r.n ∧ r.n ≤ 3 := by
  rw [recB, k, Bool.and_eq_true] at h
  have h2 := h.2
  rw [if_neg (by decide), Bool.and_eq_true] at h2
  have h3 := h2.2
  rw [kindB, if_neg (by decide), if_neg (by decide), if_pos rfl] at h3
  simpa using h3
def apply9S (s : Saga) (r : Rec) : Saga × Int := if (r.id != s.id) = true then (zS, 3) else if (r.id == s.id && (s.status == 0 && fitsB s r)) = true then (nextS s r, 0) else (zS, 9)
theorem apply9_same {s : Saga} {r : Rec} (h1 : sagaB s = true) (h2 : recB r = true) : applyS s r = apply9S s r := by rw [applyS, if_neg (by rw [h1, h2]; decide), apply9S]
end Go.Rx
namespace Go.Proofs.Ytbfjcbhpbldlcaa.Rx
open Go.Rx Go.Proofs Go.Proofs.Ytbfjcbhpbldlcaa.RxH

theorem apply9_con' (s : Saga) (r : Rec) (hs : s.Ok) (hk6 : r.kind = 6 → 1 ≤ r.n ∧ r.n ≤ 3) : Con P 26 [encSaga s, encRec r] (sagaE (apply9S s r)) [] := by
  have hlen := hs.steps.len
  have hm : (s.steps.map Step.enc).length = s.steps.length := List.length_map ..
  rw [apply9S]
  refine Con.of T_ok Try.func26 rfl (by kernel_rfl) (by kernel_rfl) (aw_ofC T_ok 1005 (by kernel_rfl) ?_)
  conv => whnf
  split <;> rename_i h3 <;> conv => whnf
  · exact finZ ⟨by rw [if_pos (show (r.id != s.id) = true from h3)]⟩
  rw [if_neg (show ¬ (r.id != s.id) = true by rw [show (r.id != s.id) = false from h3]; decide), show (r.id == s.id) = true by simpa using h3, Bool.true_and]
  refine callU (copySaga_con s hlen) (fun _ => rfl) ?_
  conv => whnf
  refine AW.cut (Turned s r) (fun q => [(4, .lf (.ptr 2 0)), (6, .lf (.ptr 3 0)), (7, Bl q.1)]) (fun q => [.var [.pv (pI s.id), .pv (pS s.key), .pv (pS s.body), .pv (encSteps s.steps), .pv (pI s.done), .pv (pB s.out), .pv (pB s.back), .pv (pI s.left), .pv (pI s.status)],
      .var [.pv (pI r.kind), .pv (pI r.id), .pv (pI r.n), .pv (pS r.key), .pv (pS r.body), .pv (encSteps r.steps)],
      .var [.pv (pI 0), .pv (pS ⟨#[]⟩), .pv (pS ⟨#[]⟩), .pv (.sc (.slice none 0 0)), .pv (pI 0), .pv (pB false), .pv (pB false), .pv (pI 0), .pv (pI 0)],
      .var [.pv (pI q.2.id), .pv (pS q.2.key), .pv (pS q.2.body), .pv (encSteps q.2.steps), .pv (pI q.2.done), .pv (pB q.2.out), .pv (pB q.2.back), .pv (pI q.2.left), .pv (pI q.2.status)]]) [] (aw_of T_ok (by kernel_rfl) ?_) ?_
  rotate_left
  · rintro ⟨b, x⟩ ⟨hb, hx⟩
    simp only at hb hx
    rw [← hb]
    refine aw_of T_ok (by kernel_rfl) ?_
    conv => whnf
    cases b with
    | false =>
      conv => whnf
      exact finZ ⟨rfl⟩
    | true =>
      conv => whnf
      refine finE ⟨?_⟩
      rw [hx rfl]; rfl
  conv => whnf
  split <;> rename_i k2 <;> conv => whnf
  · have hf : fitsB s r = (!s.back && (!s.out && (r.n == s.done && decide (s.done < s.steps.length)))) := by rw [fitsB, if_pos (show r.kind = 2 by simpa using k2)]
    have hn : nextS s r = ⟨s.id, s.key, s.body, s.steps, s.done, true, s.back, s.left, s.status⟩ := by rw [nextS, if_pos (show r.kind = 2 by simpa using k2)]
    split <;> rename_i c0 <;> conv => whnf
    · split <;> rename_i c1 <;> conv => whnf
      · split <;> rename_i c2 <;> conv => whnf
        · split <;> rename_i c3 <;> conv => whnf
          · exact ⟨(_, ⟨s.id, s.key, s.body, s.steps, s.done, true, s.back, s.left, s.status⟩), turned_of (by rw [hf, show (s.status == 0) = true from c0, show (!s.back) = true from c1, show (!s.out) = true from c2, show (r.n == s.done) = true from c3]; simp only [Bool.true_and]; exact decide_eq_decide.2 (by omega)) fun _ => hn.symm, ⟨rfl, rfl, rfl, trivial⟩, ⟨[], rfl⟩, rfl, rfl⟩
          · exact ⟨(_, ⟨s.id, s.key, s.body, s.steps, s.done, true, s.back, s.left, s.status⟩), turned_of (by rw [hf, show (r.n == s.done) = false from c3]; simp) fun _ => hn.symm, ⟨rfl, rfl, rfl, trivial⟩, ⟨[], rfl⟩, rfl, rfl⟩
        · exact ⟨(_, ⟨s.id, s.key, s.body, s.steps, s.done, true, s.back, s.left, s.status⟩), turned_of (by rw [hf, show (!s.out) = false from c2]; simp) fun _ => hn.symm, ⟨rfl, rfl, rfl, trivial⟩, ⟨[], rfl⟩, rfl, rfl⟩
      · exact ⟨(_, ⟨s.id, s.key, s.body, s.steps, s.done, true, s.back, s.left, s.status⟩), turned_of (by rw [hf, show (!s.back) = false from c1]; simp) fun _ => hn.symm, ⟨rfl, rfl, rfl, trivial⟩, ⟨[], rfl⟩, rfl, rfl⟩
    · exact ⟨(_, ⟨s.id, s.key, s.body, s.steps, s.done, true, s.back, s.left, s.status⟩), turned_of (by rw [show (s.status == 0) = false from c0]; rfl) fun _ => hn.symm, ⟨rfl, rfl, rfl, trivial⟩, ⟨[], rfl⟩, rfl, rfl⟩
  split <;> rename_i k3 <;> conv => whnf
  · have hk : r.kind = 3 := by simpa using k3
    have hf : fitsB s r = (!s.back && (s.out && (r.n == s.done))) := by rw [fitsB, hk]; rfl
    have hn : nextS s r = ⟨s.id, s.key, s.body, s.steps, IntKind.i64.wrap (s.done + 1), false, s.back, s.left, s.status⟩ := by rw [nextS, hk]; rfl
    split <;> rename_i c0 <;> conv => whnf
    rotate_left
    · skip
      refine AW.draw T_ok rfl (.one 0 (.one 3 (.two 1 (listPl [2, 4, 5, 6]) 4 (listPl [1, 2, 5, 6])))) (by kernel_rfl) (by kernel_rfl) ?_
      conv => whnf
      refine ⟨?_, ?_⟩ <;> conv => whnf
      all_goals exact ⟨(_, ⟨s.id, s.key, s.body, s.steps, IntKind.i64.wrap (s.done + 1), false, s.back, s.left, s.status⟩), turned_of (by rw [show (s.status == 0) = false from c0]; rfl) fun _ => hn.symm, ⟨rfl, rfl, rfl, trivial⟩, ⟨[], rfl⟩, rfl, rfl⟩
    split <;> rename_i c1 <;> conv => whnf
    rotate_left
    · skip
      refine AW.draw T_ok rfl (.one 0 (.one 3 (.two 1 (listPl [2, 4, 5, 6]) 4 (listPl [1, 2, 5, 6])))) (by kernel_rfl) (by kernel_rfl) ?_
      conv => whnf
      refine ⟨?_, ?_⟩ <;> conv => whnf
      all_goals exact ⟨(_, ⟨s.id, s.key, s.body, s.steps, IntKind.i64.wrap (s.done + 1), false, s.back, s.left, s.status⟩), turned_of (by rw [hf, show (!s.back) = false from c1]; simp) fun _ => hn.symm, ⟨rfl, rfl, rfl, trivial⟩, ⟨[], rfl⟩, rfl, rfl⟩
    split <;> rename_i c2 <;> conv => whnf
    rotate_left
    · skip
      refine AW.draw T_ok rfl (.one 0 (.one 3 (.two 1 (listPl [2, 4, 5, 6]) 4 (listPl [1, 2, 5, 6])))) (by kernel_rfl) (by kernel_rfl) ?_
      conv => whnf
      refine ⟨?_, ?_⟩ <;> conv => whnf
      all_goals exact ⟨(_, ⟨s.id, s.key, s.body, s.steps, IntKind.i64.wrap (s.done + 1), false, s.back, s.left, s.status⟩), turned_of (by rw [hf, show (s.out) = false from c2]; simp) fun _ => hn.symm, ⟨rfl, rfl, rfl, trivial⟩, ⟨[], rfl⟩, rfl, rfl⟩
    refine AW.draw T_ok rfl (.one 0 (.one 3 (.two 1 (listPl [2, 4, 5, 6]) 4 (listPl [1, 2, 5, 6])))) (by kernel_rfl) (by kernel_rfl) ?_
    conv => whnf
    refine ⟨?_, ?_⟩ <;> conv => whnf
    all_goals exact ⟨(_, ⟨s.id, s.key, s.body, s.steps, IntKind.i64.wrap (s.done + 1), false, s.back, s.left, s.status⟩), turned_of (by rw [hf, show (s.status == 0) = true from c0, show (!s.back) = true from c1, show (s.out) = true from c2]; rfl) fun _ => hn.symm, ⟨rfl, rfl, rfl, trivial⟩, ⟨[], rfl⟩, rfl, rfl⟩
  split <;> rename_i k4 <;> conv => whnf
  · have hk : r.kind = 4 := by simpa using k4
    have hf : fitsB s r = (!s.back && s.out) := by rw [fitsB, hk]; rfl
    have hn : nextS s r = ⟨s.id, s.key, s.body, s.steps, s.done, s.out, true, IntKind.i64.wrap (s.done + 1), s.status⟩ := by rw [nextS, hk]; rfl
    split <;> rename_i c0 <;> conv => whnf
    rotate_left
    · skip
      refine AW.draw T_ok rfl (.one 0 (.one 3 (.two 1 (listPl [2, 4, 5, 6]) 4 (listPl [1, 2, 5, 6])))) (by kernel_rfl) (by kernel_rfl) ?_
      conv => whnf
      refine ⟨?_, ?_⟩ <;> conv => whnf
      all_goals exact ⟨(_, ⟨s.id, s.key, s.body, s.steps, s.done, s.out, true, IntKind.i64.wrap (s.done + 1), s.status⟩), turned_of (by rw [show (s.status == 0) = false from c0]; rfl) fun _ => hn.symm, ⟨rfl, rfl, rfl, trivial⟩, ⟨[], rfl⟩, rfl, rfl⟩
    split <;> rename_i c1 <;> conv => whnf
    rotate_left
    · skip
      refine AW.draw T_ok rfl (.one 0 (.one 3 (.two 1 (listPl [2, 4, 5, 6]) 4 (listPl [1, 2, 5, 6])))) (by kernel_rfl) (by kernel_rfl) ?_
      conv => whnf
      refine ⟨?_, ?_⟩ <;> conv => whnf
      all_goals exact ⟨(_, ⟨s.id, s.key, s.body, s.steps, s.done, s.out, true, IntKind.i64.wrap (s.done + 1), s.status⟩), turned_of (by rw [hf, show (!s.back) = false from c1]; simp) fun _ => hn.symm, ⟨rfl, rfl, rfl, trivial⟩, ⟨[], rfl⟩, rfl, rfl⟩
    refine AW.draw T_ok rfl (.one 0 (.one 3 (.two 1 (listPl [2, 4, 5, 6]) 4 (listPl [1, 2, 5, 6])))) (by kernel_rfl) (by kernel_rfl) ?_
    conv => whnf
    refine ⟨?_, ?_⟩ <;> conv => whnf
    all_goals exact ⟨(_, ⟨s.id, s.key, s.body, s.steps, s.done, s.out, true, IntKind.i64.wrap (s.done + 1), s.status⟩), turned_of (by rw [hf, show (s.status == 0) = true from c0, show (!s.back) = true from c1]; rfl) fun _ => hn.symm, ⟨rfl, rfl, rfl, trivial⟩, ⟨[], rfl⟩, rfl, rfl⟩
  split <;> rename_i k5 <;> conv => whnf
  · have hk : r.kind = 5 := by simpa using k5
    have hf : fitsB s r = (s.back && (r.n == IntKind.i64.wrap (s.left - 1))) := by rw [fitsB, hk]; rfl
    have hn : nextS s r = ⟨s.id, s.key, s.body, s.steps, s.done, s.out, s.back, r.n, s.status⟩ := by rw [nextS, hk]; rfl
    split <;> rename_i c0 <;> conv => whnf
    rotate_left
    · skip
      exact ⟨(_, ⟨s.id, s.key, s.body, s.steps, s.done, s.out, s.back, IntKind.i64.wrap (s.left - 1), s.status⟩), turned_of (by rw [show (s.status == 0) = false from c0]; rfl) fun e => (by rw [hf] at e; simp at e; rw [hn, e.2.2]), ⟨rfl, rfl, rfl, trivial⟩, ⟨[], rfl⟩, rfl, rfl⟩
    split <;> rename_i c1 <;> conv => whnf
    rotate_left
    · skip
      exact ⟨(_, ⟨s.id, s.key, s.body, s.steps, s.done, s.out, s.back, IntKind.i64.wrap (s.left - 1), s.status⟩), turned_of (by rw [hf, show (s.back) = false from c1]; simp) fun e => (by rw [hf] at e; simp at e; rw [hn, e.2.2]), ⟨rfl, rfl, rfl, trivial⟩, ⟨[], rfl⟩, rfl, rfl⟩
    exact ⟨(_, ⟨s.id, s.key, s.body, s.steps, s.done, s.out, s.back, IntKind.i64.wrap (s.left - 1), s.status⟩), turned_of (by rw [hf, show (s.status == 0) = true from c0, show (s.back) = true from c1]; rfl) fun e => (by rw [hf] at e; simp at e; rw [hn, e.2.2]), ⟨rfl, rfl, rfl, trivial⟩, ⟨[], rfl⟩, rfl, rfl⟩
  split <;> rename_i k6 <;> conv => whnf
  · have hk : r.kind = 6 := by simpa using k6
    have hf : fitsB s r = (endsB s r.n) := by rw [fitsB, hk]; rfl
    have hn : nextS s r = ⟨s.id, s.key, s.body, s.steps, s.done, s.out, s.back, s.left, r.n⟩ := by rw [nextS, hk]; rfl
    split <;> rename_i c0 <;> conv => whnf
    rotate_left
    · skip
      exact ⟨(_, ⟨s.id, s.key, s.body, s.steps, s.done, s.out, s.back, s.left, r.n⟩), turned_of (by rw [show (s.status == 0) = false from c0]; rfl) fun _ => hn.symm, ⟨rfl, rfl, rfl, trivial⟩, ⟨[], rfl⟩, rfl, rfl⟩
    refine callS (ends_con s r.n (hk6 hk)) rfl ?_
    conv => whnf
    exact ⟨(_, ⟨s.id, s.key, s.body, s.steps, s.done, s.out, s.back, s.left, r.n⟩), turned_of (by rw [hf, show (s.status == 0) = true from c0]; rfl) fun _ => hn.symm, ⟨rfl, rfl, rfl, trivial⟩, ⟨[], rfl⟩, rfl, rfl⟩
  have hf : fitsB s r = false := by
    rw [fitsB, if_neg (show ¬ r.kind = 2 by simpa using k2), if_neg (show ¬ r.kind = 3 by simpa using k3), if_neg (show ¬ r.kind = 4 by simpa using k4), if_neg (show ¬ r.kind = 5 by simpa using k5), if_neg (show ¬ r.kind = 6 by simpa using k6)]
  exact ⟨(_, s), turned_no (by rw [hf, Bool.and_false]), ⟨rfl, rfl, rfl, trivial⟩, ⟨[], rfl⟩, rfl, rfl⟩
theorem apply9_con (s : Saga) (r : Rec) (hs : s.Ok) (hr : r.Ok) (h1 : sagaB s = true) (h2 : recB r = true) : Con P 26 [encSaga s, encRec r] (sagaE (applyS s r)) [] := by
  rw [apply9_same h1 h2]
  exact apply9_con' s r hs (rec_end h2)
end Go.Proofs.Ytbfjcbhpbldlcaa.Rx
